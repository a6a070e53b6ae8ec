/- A schema in memory; contracts of what reads it: Find, Len, Keys, Group; of one key by itself; of comparing keys. No conditions. The sort's worlds in our own words: a row of one's own, sorted. No conditions. slices.SortFunc at keys: the shelf's contract, laid; sorted rows of keys. No conditions. Contract of schema.New; known04; the plain law of keys. No conditions. By a program of ours: of each function below the predicate that its code comes to, and that it is sound. No conditions. The history in memory: its stores; contracts of New, keep. Conditions: the sizes. Contracts of the history: ready, New, keep, Push outside a bracket, Depths, Open, Begin. Conditions: the sizes. Contracts of the history: Push outside a bracket, Depths, Open, Begin, Undo, Redo. Conditions: the sizes. Contracts of the history: Undo, Redo; the history as the laws use it. Conditions: the sizes. What is known of the history; the law HistoryNone. Conditions: the sizes. What is known of the history; the law HistoryNone. No conditions. The plain law of patches: one behind the other, and on sets: the program's merges and the document's one by one agree where keys rise. No program in sight, no conditions. -/
import Derived.Test.YtlbaopamhkmepaaGreatDoorZHistoryMostUpto3
import Derived.Shelf.GgSortFunc.InsertionK
import Derived.Shelf.SlSortCmp.WholeK
import Derived.Shelf.SlSortCmp.NoneTotal
namespace Go.K
open Go
theorem pnilK_s {a : Addr} {K : Bool → Prop} (h : K false) : pnilK (.pointer (some a)) K := ⟨_, rfl, h⟩
theorem condK_f {A B : Prop} (h : B) : condK (.bool false) A B := h
theorem condK_t {A B : Prop} (h : A) : condK (.bool true) A B := h
theorem nilckK_s {a : Addr} {K : Value → Prop} (h : K (.pointer (some a))) : nilckK (.pointer (some a)) K := ⟨_, rfl, h⟩
end Go.K
namespace Go.Proofs.YtlbaopamhkmepaaGreatDoor
open Go Go.K

theorem elem_key : ElemOK Tryz.prog 48 84 6 24 := ⟨Tryz.t84, .agg #[.int .i64 0, .bool false, .int .u8 0, .bool false, .bool false, .int .i64 0], by kernel_rfl, by kernel_rfl, by kernel_rfl, by kernel_rfl, by kernel_rfl, by rfl, by decide⟩
open Classical in
theorem may1_ok {k : DKey} {w : World} : callK Tryz.prog 44 [.agg k.cells.toArray] (fun v' w' => v' = .bool (decide (KeyOK k)) ∧ Grow w w') w := by
  apply S44_ok
  unfold S44
  refine boxn_i fun b w1 _ _ g hc _ => ?_
  have l0 := hc 0 _ rfl
  have l1 := hc 1 _ rfl
  have l2 := hc 2 _ rfl
  have l4 := hc 4 _ rfl
  have l5 := hc 5 _ rfl
  simp only [faK_i]
  have ans : ∀ q : Bool, (q = true ↔ KeyOK k) → Value.bool q = .bool (decide (KeyOK k)) ∧ Grow w w1 := fun q h => ⟨by congr 1; rw [Bool.eq_iff_iff, h, decide_eq_true_eq], g⟩
  refine JoinK_i (fun vs w2 => w2 = w1 ∧ ∃ q : Bool, vs = [.bool q] ∧ (q = false ↔ 1 ≤ k.id ∧ k.id ≤ 1000 ∧ 1 ≤ k.kind ∧ k.kind ≤ 4)) ?_ ?_
  · rintro vs _ ⟨rfl, q, rfl, hq⟩ _
    rename World => w1
    rw [nth_z, List.headD_cons]
    cases q with
    | true => exact condK_t (ans false ⟨fun h => (nomatch h), fun h => by have := hq.2 ⟨h.1, h.2.1, h.2.2.1, h.2.2.2.1⟩; cases this⟩)
    | false =>
      obtain ⟨h1, h2, h3, h4⟩ := hq.1 rfl
      refine condK_f (ld1K_i l1 ?_)
      cases hb : k.block with
      | true =>
        refine condK_t (ld1K_i l4 ?_)
        rw [notK_i]
        cases hf : k.before with
        | true => exact condK_f (ans false ⟨fun h => (nomatch h), fun h => by have := h.2.2.2.2.2.2.2 hb; rw [hf] at this; cases this⟩)
        | false =>
          refine condK_t (ld1K_i l5 ?_)
          rw [geK_i]
          refine condK_p (fun h5 => ?_) fun h5 => ans false ⟨fun h => (nomatch h), fun h => by have := h.2.2.2.2.1; omega⟩
          refine ld1K_i l5 ?_
          rw [leK_i]
          refine ans _ ?_
          rw [decide_eq_true_eq]
          exact ⟨fun h6 => ⟨h1, h2, h3, h4, h5, h6, (fun e => by rw [hb] at e; cases e), fun _ => hf⟩, fun h => h.2.2.2.2.2.1⟩
      | false =>
        refine condK_f (ld1K_i l5 ?_)
        rw [eqK_i]
        refine ans _ ?_
        rw [decide_eq_true_eq]
        exact ⟨fun h6 => ⟨h1, h2, h3, h4, by omega, by omega, fun _ => h6, fun e => by rw [hb] at e; cases e⟩, fun h => h.2.2.2.2.2.2.1 hb⟩
  · refine ld1K_i l0 ?_
    rw [ltK_i]
    refine condK_p (fun h1 => ⟨rfl, true, rfl, ⟨fun h => (nomatch h), fun h => by omega⟩⟩) fun h1 => ?_
    refine ld1K_i l0 ?_
    rw [gtK_i]
    refine condK_p (fun h2 => ⟨rfl, true, rfl, ⟨fun h => (nomatch h), fun h => by omega⟩⟩) fun h2 => ?_
    refine ld1K_i l2 ?_
    rw [ltK_i]
    refine condK_p (fun h3 => ⟨rfl, true, rfl, ⟨fun h => (nomatch h), fun h => by omega⟩⟩) fun h3 => ?_
    refine ld1K_i l2 ?_
    rw [gtK_i]
    refine ⟨rfl, _, rfl, ?_⟩
    rw [decide_eq_false_iff_not]
    exact ⟨fun h => by omega, fun h => by omega⟩

theorem clone_key {S : Nat → Prop} {v : Value} {l : List DKey} {w : World} (h : RKeys S w v l) (hl : l.length ≤ 1099511627776) :
    callK Tryz.prog 43 [v] (fun v' w' => OwnR w.heap.size 84 6 RKey w' v' l ∧ Grow w w') w := by
  apply S43_ok
  unfold S43
  exact clone_g (K := fun v' w' => OwnR w.heap.size 84 6 RKey w' v' l ∧ Grow w w') elem_key h (by omega) (fun _ _ _ => RKey.one) (fun _ _ _ _ _ _ h => h) fun _ _ h g => ⟨h, g⟩

/-- how two ids compare -/
def cmpI (a b : Int) : Int := if a < b then -1 else if b < a then 1 else 0
theorem cmp_ok {a b : Int} {w : World} : callK Tryz.prog 47 [.int .i64 a, .int .i64 b] (fun v' w' => v' = .int .i64 (cmpI a b) ∧ w' = w) w := by
  have nan : ∀ (c : Int) (K : Cont), K (.bool false) w → callK Tryz.prog 82 [.int .i64 c] K w := by
    intro c K hK
    apply S82_ok
    unfold S82
    rw [neK_i]
    rw [show (!decide (c = c)) = false by simp]; exact hK
  apply S47_ok
  unfold S47
  refine nan _ _ (nan _ _ ?_)
  refine condK_f (condK_f ?_)
  rw [ltK_i]
  unfold cmpI
  refine condK_p (fun h => ⟨by rw [if_pos h], rfl⟩) fun h => ?_
  rw [gtK_i]
  exact condK_p (fun h2 => ⟨by rw [if_neg h, if_pos h2], rfl⟩) fun h2 => ⟨by rw [if_neg h, if_neg h2], rfl⟩

/-- a schema that was made, in memory -/
def SchR (D : Nat → Prop) (w : World) (v : Value) (ks : List DKey) : Prop :=
  ∃ b m kv l, v = .pointer (some ⟨b, 0, none⟩) ∧ D b ∧ D m ∧ w.cell? ⟨b, 0, none⟩ = some kv ∧ w.cell? ⟨b, 1, none⟩ = some (.map (some m)) ∧ SlR D 6 RKey w kv ks ∧ MapI w m l ∧
    ∀ id : Int, (l.find? fun p => decide (p.1 = id)).map (·.2) = (findK ks id).map fun k => .agg k.cells.toArray
theorem SchR.mod {D M : Nat → Prop} {w w' : World} {v : Value} {ks : List DKey} (h : SchR D w v ks) (hm : Mod M w w') (hd : ∀ b, b < w.heap.size → D b → ¬ M b) : SchR D w' v ks := by
  obtain ⟨b, m, kv, l, rfl, h1, h2, h3, h4, h5, h6, h7⟩ := h
  have hb := World.block_lt_of_cell? w _ h3
  exact ⟨b, m, kv, l, rfl, h1, h2, hm.cell h3 (hd _ hb h1), hm.cell h4 (hd _ hb h1), h5.mod hm hd (by decide) fun _ _ h => h, h6.mod hm (hd _ h6.lt h2), h7⟩
theorem SchR.grow {D : Nat → Prop} {w w' : World} {v : Value} {ks : List DKey} (h : SchR D w v ks) (hm : Grow w w') : SchR D w' v ks := h.mod hm fun _ _ _ h => h
theorem SchR.sub {D D' : Nat → Prop} {w : World} {v : Value} {ks : List DKey} (h : SchR D w v ks) (hd : ∀ b, b < w.heap.size → D b → D' b) : SchR D' w v ks := by
  obtain ⟨b, m, kv, l, rfl, h1, h2, h3, h4, h5, h6, h7⟩ := h
  exact ⟨b, m, kv, l, rfl, hd _ (World.block_lt_of_cell? w _ h3) h1, hd _ h6.lt h2, h3, h4, h5.sub hd (by decide) fun _ _ h => h, h6, h7⟩

theorem zero_key (w : World) : (zeroValue 84).run Tryz.prog w = .ok (.agg DKey.zero.cells.toArray) w := run_zeroValue (by kernel_rfl) w
theorem sfind_ok {D : Nat → Prop} {v : Value} {ks : List DKey} {w : World} (h : SchR D w v ks) (id : Int) :
    callK Tryz.prog 193 [v, .int .i64 id] (fun v' w' => v' = .tuple #[.agg ((findK ks id).getD DKey.zero).cells.toArray, .bool (findK ks id).isSome] ∧ Grow w w') w := by
  apply S193_ok
  unfold S193
  obtain ⟨b, m, kv, l, rfl, _, _, h3, h4, h5, h6, h7⟩ := h
  refine newz_i fun b4 w1 hb4 hz4 g4 _ hl4 => ?_
  refine pnilK_s (condK_f (nilckK_s ?_))
  rw [faK_i]
  refine ld1K_i (g4.cell (by rw [addr0]; exact h4) fun h => h) ?_
  refine runK_i (map_lookup Tryz.underlying85 Tryz.underlying3 (zero_key _) (h6.mod g4 fun h => h) id) ?_
  have e1 : ((l.find? fun p => decide (p.1 = id)).map (·.2)).getD (.agg DKey.zero.cells.toArray) = .agg ((findK ks id).getD DKey.zero).cells.toArray := by
    rw [h7]; cases findK ks id <;> rfl
  have e2 : (l.find? fun p => decide (p.1 = id)).isSome = (findK ks id).isSome := by
    have := congrArg Option.isSome (h7 id)
    simpa using this
  rw [e1, e2]
  refine extK_i (vs := [_, _]) (by rfl) (extK_i (vs := [_, _]) (by rfl) ?_)
  generalize (findK ks id).getD DKey.zero = k
  refine newst_n (vs := k.cells) rfl rfl (RKey.one (w := w) (x := k) rfl) fun b6 w3 hb6 hz6 g6 hc6 _ => ?_
  refine ldnK_i (vs := k.cells) rfl hc6 ?_
  refine stn_over rfl (RKey.one (w := w) (x := k) rfl) (fun j hj => (hl4 j hj).mod g6 fun h => h) fun w4 m4 hc4 _ => ?_
  refine ldnK_i (vs := k.cells) rfl hc4 ⟨rfl, ?_⟩
  exact (g4.trans g6).next m4 fun x hx e => by omega
abbrev RNum : World → List Value → Int → Prop := fun _ r x => r = [.int .i64 x]
theorem RNum.one {w : World} {r : List Value} {x : Int} (h : RNum w r x) : ∀ u ∈ r, u.oneCell' = true := by
  subst h; intro u hu; simp at hu; subst hu; rfl
end Go.Proofs.YtlbaopamhkmepaaGreatDoor

namespace Go.K
open Go

section
variable {α : Type} [Inhabited α]
theorem flatK_toList (enc : α → List Value) (k : Nat) (hk : ∀ x, (enc x).length = k) (d : Array α) : (Sort.flatK enc k d).toList = (d.toList.map enc).flatten := by
  refine List.ext_getElem? fun t => ?_
  have hl : ∀ r ∈ d.toList.map enc, r.length = k := fun r hr => by obtain ⟨x, _, rfl⟩ := List.mem_map.1 hr; exact hk x
  have hfl : (d.toList.map enc).flatten.length = d.size * k := by rw [flat_len _ hl, List.length_map, Array.length_toList]
  by_cases ht : t < d.size * k
  · have k0 : 0 < k := by rcases Nat.eq_zero_or_pos k with h | h; · subst h; simp at ht
                          · exact h
    have hi : t / k < d.size := (Nat.div_lt_iff_lt_mul k0).2 ht
    have h1 := Sort.get_flatK enc k d t ht
    have h2 : (Sort.flatK enc k d).toList[t]? = some (Sort.flatK enc k d)[t]! := by
      have hs : t < (Sort.flatK enc k d).size := by simpa using ht
      rw [Array.getElem?_toList, Array.getElem?_eq_getElem hs, getElem!_pos _ t hs]
    rw [h2, h1]
    have h3 := flat_get (d.toList.map enc) (t / k) (t % k) (enc d[t / k]!) hl (by simp [hi]) (Nat.mod_lt _ k0)
    rw [Nat.div_add_mod' t k] at h3
    rw [h3]
    have hm : t % k < (enc d[t / k]!).length := by rw [hk]; exact Nat.mod_lt _ k0
    rw [List.getElem?_eq_getElem hm, getElem!_pos (enc d[t / k]!) _ hm]
  · rw [List.getElem?_eq_none (by simp; omega), List.getElem?_eq_none (by omega)]
theorem putCells_take (F cur : Array Value) (h : F.size ≤ cur.size) : (Sort.putCells id 0 F cur).size = cur.size ∧ (Sort.putCells id 0 F cur).toList.take F.size = F.toList := by
  refine ⟨by simp [Sort.putCells], List.ext_getElem? fun t => ?_⟩
  by_cases ht : t < F.size
  · rw [List.getElem?_take, if_pos ht, Array.getElem?_toList, Array.getElem?_toList]
    have h1 : t < cur.size := by omega
    simp [Sort.putCells, ht, h1]
  · rw [List.getElem?_take, if_neg ht, List.getElem?_eq_none (by simp; omega)]
theorem sortWorld_heap {enc : α → List Value} {k : Nat} {w : World} {g m e : Nat} {d : Array α} {os : Array Obj} {cur : Array Value} (hg : w.heap[g]? = some (.cells cur e (0, 0))) :
    (Go.Proofs.sortWorldK enc k w g 0 m d os).heap[g]? = some (.cells (Sort.putCells id 0 (Sort.flatK enc k d) cur) e (0, 0)) ∧ Mod (fun b => b = g) w (Go.Proofs.sortWorldK enc k w g 0 m d os) := by
  have hlt : g < w.heap.size := (Array.getElem?_eq_some_iff.1 hg).1
  have hsz : (w.heap.modify g (Sort.onCells (Sort.putCells id 0 (Sort.flatK enc k d)))).size = w.heap.size := by simp
  have eh : (Go.Proofs.sortWorldK enc k w g 0 m d os).heap = w.heap.modify g (Sort.onCells (Sort.putCells id 0 (Sort.flatK enc k d))) ++ os := rfl
  refine ⟨?_, ⟨rfl, rfl, rfl, by rw [eh, Array.size_append, hsz]; omega, fun b hb hn => ?_⟩⟩
  · rw [eh, Array.getElem?_append_left (by rw [hsz]; exact hlt), Array.getElem?_modify, if_pos rfl, hg]; rfl
  · rw [eh, Array.getElem?_append_left (by rw [hsz]; exact hb), Array.getElem?_modify, if_neg (fun h => hn h.symm)]
/-- a row of one's own holds what the sort's contract asks; and behind the sort it is one of one's own -/
theorem OwnR.sorted {B e k : Nat} {R : World → List Value → α → Prop} {enc : α → List Value} (hk : ∀ x, (enc x).length = k) (h1 : ∀ x, ∀ v ∈ enc x, v.oneCell' = true) (hR : ∀ w r x, R w r x ↔ r = enc x) {w : World} {g n c : Nat} {l : List α} (h : OwnR B e k R w (.slice (some ⟨g, 0, none⟩) n c) l) :
    n = l.length ∧ g < w.heap.size ∧ Sort.HoldsK enc k w g 0 l.toArray ∧ ∀ (m : Nat) (d : Array α) (os : Array Obj), d.size = l.length → OwnR B e k R (Go.Proofs.sortWorldK enc k w g 0 m d os) (.slice (some ⟨g, 0, none⟩) n c) d.toList ∧ Mod (fun b => b = g) w (Go.Proofs.sortWorldK enc k w g 0 m d os) := by
  obtain ⟨rows, h2, h3, h4, h5⟩ := h
  obtain ⟨q1, q2⟩ := h2
  rcases q2 with ⟨q, _⟩ | ⟨g', cap, cur, q, hg, hh, hn, hm, hcs, hcur⟩
  · cases q
  cases q
  have hlt : g < w.heap.size := (Array.getElem?_eq_some_iff.1 hh).1
  have hrows : rows = l.map enc := by
    refine List.ext_getElem? fun i => ?_
    rw [List.getElem?_map]
    by_cases hi : i < l.length
    · have hir : i < rows.length := by omega
      rw [List.getElem?_eq_getElem hi, List.getElem?_eq_getElem hir, Option.map_some]
      rw [(hR w rows[i] l[i]).1 (h5 i _ _ (List.getElem?_eq_getElem hir) (List.getElem?_eq_getElem hi))]
    · rw [List.getElem?_eq_none (by omega), List.getElem?_eq_none (by omega)]; rfl
  have hle : l.length * k ≤ c * k := Nat.mul_le_mul_right _ hn
  refine ⟨rfl, hlt, fun j hj => ?_, fun m d os hd => ?_⟩
  · rw [Sort.size_flatK] at hj
    have hjl : j < l.length * k := by simpa using hj
    have hjc : j < cur.size := by rw [hcs]; omega
    have e0 : (Sort.flatK enc k l.toArray).toList = rows.flatten := by rw [flatK_toList enc k hk, hrows]
    have e1 : rows.flatten[j]? = some (Sort.flatK enc k l.toArray)[j]! := by
      have hs : j < (Sort.flatK enc k l.toArray).size := by rw [Sort.size_flatK]; exact hj
      rw [← e0, Array.getElem?_toList, Array.getElem?_eq_getElem hs, getElem!_pos _ j hs]
    rw [← hcur, List.getElem?_take, if_pos hjl, Array.getElem?_toList] at e1
    rw [Nat.zero_add]
    refine ⟨?_, ?_⟩
    · simp only [World.cell?, hh]; exact e1
    · simp [World.frozen?, hh]
  · obtain ⟨r1, r2⟩ := sortWorld_heap (enc := enc) (k := k) (m := m) (d := d) (os := os) hh
    refine ⟨⟨d.toList.map enc, ⟨?_, .inr ⟨g, c, _, by have e : d.toList.length = l.length := hd; rw [e], hg, r1, ?_, hm, ?_, ?_⟩⟩, by simp, fun r hr => ?_, fun i r x hr hx => ?_⟩, r2⟩
    · have := flat_len (d.toList.map enc) (k := k) fun r hr => by obtain ⟨x, _, rfl⟩ := List.mem_map.1 hr; exact hk x
      simpa using this
    · rw [Array.length_toList, hd]; exact hn
    · rw [(putCells_take (Sort.flatK enc k d) cur (by rw [Sort.size_flatK, hd, hcs]; exact hle)).1]; exact hcs
    · have := (putCells_take (Sort.flatK enc k d) cur (by rw [Sort.size_flatK, hd, hcs]; exact hle)).2
      rw [Sort.size_flatK] at this
      rw [Array.length_toList, this, flatK_toList enc k hk]
    · obtain ⟨x, _, rfl⟩ := List.mem_map.1 hr
      exact ⟨hk x, h1 x⟩
    · rw [List.getElem?_map] at hr
      rw [hx] at hr
      exact (hR _ _ _).2 (Option.some.inj hr).symm
end
end Go.K

namespace Go.Proofs.YtlbaopamhkmepaaGreatDoor
open Go Go.K

/-- (the shelf's laying, written by a program off the shelf's own command) -/
def sortKey_ren : Go.Shelf.Ren := ⟨fun | 6 => 45 | 15 => 81 | 14 => 80 | 28 => 137 | 29 => 138 | 20 => 129 | 21 => 130 | 22 => 131 | 23 => 132 | 24 => 133 | 25 => 134 | 26 => 135 | 27 => 136 | 46 => 179 | 47 => 180 | 48 => 181 | 49 => 182 | 50 => 183 | 57 => 202 | n => n, fun | 22 => 48 | 24 => 84 | 25 => 92 | 3 => 3 | 39 => 142 | 0 => 0 | 53 => 191 | 55 => 34 | 4 => 4 | 46 => 184 | 45 => 183 | 50 => 188 | 5 => 5 | 9 => 9 | 66 => 225 | 70 => 228 | 76 => 247 | 77 => 43 | n => n, fun | n => n⟩
theorem sortKey : Go.Proofs.SlLaysF0.n6 Tryz.prog sortKey_ren := {
  mixed := by kernel_rfl,
  f6 := ⟨Tryz.f45.name, by decide, Tryz.func45.trans (congrArg some (by kernel_rfl))⟩,
  f14 := ⟨Tryz.f80.name, by decide, Tryz.func80.trans (congrArg some (by kernel_rfl))⟩,
  f15 := Tryz.func81.trans (congrArg some (by kernel_rfl)),
  f20 := ⟨Tryz.f129.name, by decide, Tryz.func129.trans (congrArg some (by kernel_rfl))⟩,
  f21 := ⟨Tryz.f130.name, by decide, Tryz.func130.trans (congrArg some (by kernel_rfl))⟩,
  f22 := ⟨Tryz.f131.name, by decide, Tryz.func131.trans (congrArg some (by kernel_rfl))⟩,
  f23 := ⟨Tryz.f132.name, by decide, Tryz.func132.trans (congrArg some (by kernel_rfl))⟩,
  f24 := ⟨Tryz.f133.name, by decide, Tryz.func133.trans (congrArg some (by kernel_rfl))⟩,
  f25 := ⟨Tryz.f134.name, by decide, Tryz.func134.trans (congrArg some (by kernel_rfl))⟩,
  f26 := ⟨Tryz.f135.name, by decide, Tryz.func135.trans (congrArg some (by kernel_rfl))⟩,
  f27 := ⟨Tryz.f136.name, by decide, Tryz.func136.trans (congrArg some (by kernel_rfl))⟩,
  f28 := Tryz.func137.trans (congrArg some (by kernel_rfl)),
  f29 := Tryz.func138.trans (congrArg some (by kernel_rfl)),
  f46 := ⟨Tryz.f179.name, by decide, Tryz.func179.trans (congrArg some (by kernel_rfl))⟩,
  f47 := Tryz.func180.trans (congrArg some (by kernel_rfl)),
  f48 := Tryz.func181.trans (congrArg some (by kernel_rfl)),
  f49 := ⟨Tryz.f182.name, by decide, Tryz.func182.trans (congrArg some (by kernel_rfl))⟩,
  f50 := ⟨Tryz.f183.name, by decide, Tryz.func183.trans (congrArg some (by kernel_rfl))⟩,
  f57 := ⟨Tryz.f202.name, by decide, Tryz.func202.trans (congrArg some (by kernel_rfl))⟩,
  t0 := Tryz.underlying0,
  a0 := Tryz.isAgg0,
  z0 := Tryz.sizeOf0,
  v0 := Tryz.zeroValue0,
  t3 := Tryz.underlying3,
  a3 := Tryz.isAgg3,
  z3 := Tryz.sizeOf3,
  v3 := Tryz.zeroValue3,
  t4 := Tryz.underlying4,
  a4 := Tryz.isAgg4,
  z4 := Tryz.sizeOf4,
  v4 := Tryz.zeroValue4,
  t5 := Tryz.underlying5,
  a5 := Tryz.isAgg5,
  z5 := Tryz.sizeOf5,
  v5 := Tryz.zeroValue5,
  t9 := Tryz.underlying9,
  a9 := Tryz.isAgg9,
  z9 := Tryz.sizeOf9,
  v9 := Tryz.zeroValue9,
  t22 := Tryz.underlying48,
  a22 := Tryz.isAgg48,
  z22 := Tryz.sizeOf48,
  v22 := Tryz.zeroValue48,
  t25 := Tryz.underlying92,
  a25 := Tryz.isAgg92,
  z25 := Tryz.sizeOf92,
  v25 := Tryz.zeroValue92,
  t39 := Tryz.underlying142,
  a39 := Tryz.isAgg142,
  z39 := Tryz.sizeOf142,
  v39 := Tryz.zeroValue142,
  t45 := Tryz.underlying183,
  a45 := Tryz.isAgg183,
  z45 := Tryz.sizeOf183,
  v45 := Tryz.zeroValue183,
  t46 := Tryz.underlying184,
  a46 := Tryz.isAgg184,
  z46 := Tryz.sizeOf184,
  v46 := Tryz.zeroValue184,
  t50 := Tryz.underlying188,
  a50 := Tryz.isAgg188,
  z50 := Tryz.sizeOf188,
  v50 := Tryz.zeroValue188,
  t53 := Tryz.underlying191,
  a53 := Tryz.isAgg191,
  z53 := Tryz.sizeOf191,
  v53 := Tryz.zeroValue191,
  t55 := Tryz.underlying34,
  a55 := Tryz.isAgg34,
  z55 := Tryz.sizeOf34,
  v55 := Tryz.zeroValue34,
  t66 := Tryz.underlying225,
  a66 := Tryz.isAgg225,
  z66 := Tryz.sizeOf225,
  v66 := Tryz.zeroValue225,
  t70 := Tryz.underlying228,
  a70 := Tryz.isAgg228,
  z70 := Tryz.sizeOf228,
  v70 := Tryz.zeroValue228,
  t76 := Tryz.underlying247,
  a76 := Tryz.isAgg247,
  z76 := Tryz.sizeOf247,
  v76 := Tryz.zeroValue247,
  t77 := Tryz.underlying43,
  a77 := Tryz.isAgg43,
  z77 := Tryz.sizeOf43,
  v77 := Tryz.zeroValue43 }
theorem cmpk_ok (x y : DKey) (W : World) : Calls Tryz.prog 46 #[.agg x.cells.toArray, .agg y.cells.toArray] W fun e w' => e = .returned (.int .i64 (cmpI x.id y.id)) ∧ ∃ q os', w' = Sort.grow (W.drewN q) os' := by
  have h : callK Tryz.prog 46 [.agg x.cells.toArray, .agg y.cells.toArray] (fun v w' => v = .int .i64 (cmpI x.id y.id) ∧ ∃ os', w' = Sort.grow W os') W := by
    apply S46_ok
    unfold S46
    refine ⟨x.cells, rfl, ⟨y.cells, rfl, newK_i ?_⟩⟩
    rw [faK_i]
    have c1 : ∀ j u, x.cells[j]? = some u → ((W.alloc (.cells x.cells.toArray 84)).alloc (.cells y.cells.toArray 84)).cell? ((⟨W.heap.size, 0, none⟩ : Addr).add j) = some u := fun j u hu => (Mod.alloc (fun _ => False) _ _).cell (cell_box hu) fun h => h
    have c2 : ∀ j u, y.cells[j]? = some u → ((W.alloc (.cells x.cells.toArray 84)).alloc (.cells y.cells.toArray 84)).cell? ((⟨(W.alloc (.cells x.cells.toArray 84)).heap.size, 0, none⟩ : Addr).add j) = some u := fun j u hu => cell_box hu
    refine ld1K_i (c1 0 _ rfl) ?_
    rw [faK_i]
    refine ld1K_i (c2 0 _ rfl) ?_
    refine callK_mono cmp_ok ?_
    rintro _ _ ⟨rfl, rfl⟩
    exact ⟨rfl, _, by rw [Sort.alloc_eq_grow, Sort.alloc_eq_grow, Sort.grow_grow]⟩
  refine Calls.mono h ?_
  rintro e w' ⟨v, rfl, rfl, os', rfl⟩
  exact ⟨rfl, 0, os', rfl⟩
theorem swo_id : Sort.SWO (Go.Proofs.ltOf fun x y : DKey => cmpI x.id y.id) := by
  have e : ∀ x y : DKey, Go.Proofs.ltOf (fun x y : DKey => cmpI x.id y.id) x y = decide (x.id < y.id) := fun x y => by
    unfold Go.Proofs.ltOf cmpI
    by_cases h1 : x.id < y.id
    · simp [h1]
    · by_cases h2 : y.id < x.id <;> simp [h1, h2]
  exact ⟨fun x => by rw [e]; simp, fun x y z h1 h2 => by rw [e] at *; simp at *; omega, fun x y z h1 h2 => by rw [e] at *; simp at *; omega⟩
instance : Inhabited DKey := ⟨DKey.zero⟩
/-- slices.SortFunc at keys, by their ids -/
theorem sortk_ok {B : Nat} {v : Value} {keys : List DKey} {w : World} (h : OwnR B 84 6 RKey w v keys) (hl : keys.length ≤ 1099511627776) :
    callK Tryz.prog 45 [v, .func (.func 46) #[] #[]] (fun _ w' => ∃ ks : List DKey, ks.Perm keys ∧ ks.Pairwise (fun x y => x.id ≤ y.id) ∧ OwnR B 84 6 RKey w' v ks ∧ Mod (fun b => v.ownBlock = some b) w w') w := by
  obtain ⟨a, c, rfl, _, _, hp, hn⟩ := h.shape
  cases a with
  | none =>
    have e := hn rfl
    subst e
    refine Calls.mono (Go.Proofs.AnyF.slices_SortFunc_none sortKey none c _ w) ?_
    rintro _ _ ⟨rfl, rfl⟩
    exact ⟨_, rfl, [], List.Perm.refl _, List.Pairwise.nil, h, Mod.refl _ _⟩
  | some p =>
    obtain ⟨g, rfl, _, hlt, hob⟩ := hp p rfl
    obtain ⟨_, _, hH, hS⟩ := OwnR.sorted (enc := DKey.cells) (fun _ => rfl) (fun x => RKey.one (w := w) (x := x) rfl) (fun _ _ _ => Iff.rfl) h
    have hc := Go.Proofs.AnyQ.slices_SortFunc sortKey 6 Tryz.isAgg84 Tryz.sizeOf84 DKey.cells (fun _ => rfl) (fun x => RKey.one (w := w) (x := x) rfl) (fun x y => cmpI x.id y.id) swo_id 46 #[] g 0 c keys.toArray w (good _ rfl) (fun m os dk _ x y => cmpk_ok x y _) hH hlt (by simp; omega)
    rw [List.size_toArray] at hc
    refine Calls.mono hc ?_
    rintro _ _ ⟨rfl, d', m, os, hperm, hsort, rfl⟩
    obtain ⟨h1, h2, h3⟩ := hperm
    have hd : d'.size = keys.length := by rw [h1, List.size_toArray]
    obtain ⟨o1, o2⟩ := hS m d' os hd
    refine ⟨_, rfl, d'.toList, ?_, ?_, o1, o2.mono fun b _ e => by rw [e]; rfl⟩
    · have e1 : d'.extract 0 keys.length = d' := by rw [← hd]; exact Array.extract_size
      have e2 : keys.toArray.extract 0 keys.length = keys.toArray := by
        have := Array.extract_size (xs := keys.toArray); rwa [List.size_toArray] at this
      rw [e1, e2] at h3
      simpa using h3
    · rw [List.pairwise_iff_getElem]
      intro i j hi hj hij
      simp only [Array.length_toList] at hi hj
      have := hsort i j (Nat.zero_le _) hij (by omega)
      rw [getElem!_pos d' i hi, getElem!_pos d' j hj] at this
      have e : Go.Proofs.ltOf (fun x y : DKey => cmpI x.id y.id) d'[j] d'[i] = decide (d'[j].id < d'[i].id) := by
        unfold Go.Proofs.ltOf cmpI
        by_cases h1 : d'[j].id < d'[i].id
        · simp [h1]
        · by_cases h2 : d'[i].id < d'[j].id <;> simp [h1, h2]
      rw [e] at this
      simp only [decide_eq_false_iff_not] at this
      simp only [Array.getElem_toList]
      omega
end Go.Proofs.YtlbaopamhkmepaaGreatDoor

namespace Go.Proofs.YtlbaopamhkmepaaGreatDoor
open Go Go.K

def Dist (keys : List DKey) : Prop := keys.Pairwise fun x y => x.id ≠ y.id
theorem mayk_iff {keys : List DKey} : MayKeys keys ↔ keys.length ≤ 64 ∧ (∀ k ∈ keys, KeyOK k) ∧ Dist keys := by
  unfold MayKeys MayN Dist
  rw [List.pairwise_iff_getElem]
  constructor
  · rintro ⟨h1, h2⟩
    refine ⟨h1, fun k hk => ?_, fun i j hi hj hij => ?_⟩
    · obtain ⟨i, hi, rfl⟩ := List.getElem_of_mem hk
      exact (h2 i hi _ (List.getElem?_eq_getElem hi)).1
    · exact (h2 j hj _ (List.getElem?_eq_getElem hj)).2 i hij _ (List.getElem?_eq_getElem hi)
  · rintro ⟨h1, h2, h3⟩
    refine ⟨h1, fun i hi k hk => ?_⟩
    rw [List.getElem?_eq_getElem hi] at hk; cases hk
    refine ⟨h2 _ (List.getElem_mem hi), fun j hj k' hk' => ?_⟩
    rw [List.getElem?_eq_getElem (by omega)] at hk'; cases hk'
    exact h3 j i (by omega) hi hj
theorem find_map {L : List DKey} {id : Int} : (L.map fun k => (k.id, (Value.agg k.cells.toArray))).find? (fun p => decide (p.1 = id)) = (findK L id).map fun k => (k.id, .agg k.cells.toArray) := by
  unfold findK
  rw [List.find?_map]
  rfl
theorem findK_iff {L : List DKey} (hd : Dist L) {id : Int} {k : DKey} : findK L id = some k ↔ k ∈ L ∧ k.id = id := by
  induction L with
  | nil => simp [findK]
  | cons x L ih =>
    unfold Dist at hd
    rw [List.pairwise_cons] at hd
    have ih' := ih hd.2
    unfold findK at ih' ⊢
    by_cases hx : x.id = id
    · rw [List.find?_cons_of_pos (by simpa using hx)]
      simp only [Option.some.injEq, List.mem_cons]
      constructor
      · rintro rfl; exact ⟨.inl rfl, hx⟩
      · rintro ⟨rfl | hk, h2⟩
        · rfl
        · exact (hd.1 k hk (by rw [hx, h2])).elim
    · rw [List.find?_cons_of_neg (by simpa using hx), ih']
      constructor
      · rintro ⟨h1, h2⟩; exact ⟨List.mem_cons_of_mem _ h1, h2⟩
      · rintro ⟨h1, h2⟩
        rcases List.mem_cons.1 h1 with rfl | h1
        · exact (hx h2).elim
        · exact ⟨h1, h2⟩
theorem Dist.perm {L L' : List DKey} (hp : L.Perm L') (h : Dist L) : Dist L' := (hp.pairwise_iff (R := fun x y : DKey => x.id ≠ y.id) fun h => h.symm).1 h
theorem findK_perm {L L' : List DKey} (hp : L.Perm L') (hd : Dist L) (id : Int) : findK L id = findK L' id := by
  refine Option.ext fun k => ?_
  rw [findK_iff hd, findK_iff (hd.perm hp), hp.mem_iff]
theorem strict_of {L : List DKey} (hd : Dist L) (hs : L.Pairwise fun x y => x.id ≤ y.id) : L.Pairwise fun x y => x.id < y.id := by
  refine (List.Pairwise.and hd hs).imp fun {x y} h => ?_
  obtain ⟨h1, h2⟩ := h
  omega

structure NewI (w0 W : World) (b m : Nat) (kv : Value) (keys : List DKey) (i : Nat) : Prop where
  c0 : W.cell? ⟨b, 0, none⟩ = some kv
  c1 : W.cell? ⟨b, 1, none⟩ = some (.map (some m))
  row : OwnR w0.heap.size 84 6 RKey W kv keys
  mp : MapI W m ((keys.take i).map fun k => (k.id, .agg k.cells.toArray))
  hb : w0.heap.size ≤ b
  hm : w0.heap.size ≤ m
  ne : m ≠ b
  own : ∀ g, kv.ownBlock = some g → g ≠ m ∧ g ≠ b
  g : Grow w0 W
theorem NewI.grow {w0 W W' : World} {b m i : Nat} {kv : Value} {keys : List DKey} (h : NewI w0 W b m kv keys i) (hg : Grow W W') : NewI w0 W' b m kv keys i :=
  ⟨hg.cell h.c0 fun h => h, hg.cell h.c1 fun h => h, OwnR.mod h.row hg (fun _ _ h => h) fun _ _ _ h => h, h.mp.mod hg fun h => h, h.hb, h.hm, h.ne, h.own, h.g.trans hg⟩

open Classical in
theorem new_key_ok {S : Nat → Prop} {kv : Value} {keys : List DKey} {w : World} (h : RKeys S w kv keys) :
    callK Tryz.prog 14 [kv] (fun v' w' => Grow w w' ∧ ((MayKeys keys ∧ ∃ (sv : Value) (ks : List DKey), v' = .tuple #[sv, .int .i64 0] ∧ ks.Perm keys ∧ ks.Pairwise (fun x y => x.id < y.id) ∧ SchR (fun b => w.heap.size ≤ b) w' sv ks) ∨
      (¬ MayKeys keys ∧ v' = .tuple #[.pointer none, .int .i64 3]))) w := by
  apply S14_ok
  unfold S14
  obtain ⟨a, c, rfl, hmx⟩ := h.shape
  simp only [maxLen] at hmx
  rw [lenK_i, gtK_i]
  refine condK_p (fun h6 => ⟨Mod.refl _ _, .inr ⟨by rintro ⟨h, _⟩; omega, rfl⟩⟩) fun h6 => ?_
  refine callK_mono (clone_key h (by omega)) ?_
  rintro v1 w1 ⟨o1, g1⟩
  refine runK_i (v := .map (some w1.heap.size)) (w' := w1.alloc (.map #[] 0)) rfl ?_
  have g2 : Grow w1 (w1.alloc (.map #[] 0)) := Mod.alloc _ _ _
  have hmp : MapI (w1.alloc (.map #[] 0)) w1.heap.size [] := MapI.make w1
  have hz2 : (w1.alloc (.map #[] 0)).heap.size = w1.heap.size + 1 := by simp
  generalize w1.alloc (.map #[] 0) = w2 at g2 hmp hz2 ⊢
  obtain ⟨ra, rc, rfl, _, _, _, _⟩ := o1.shape
  refine ⟨#[.slice ra keys.length rc, .map (some w1.heap.size)], by kernel_rfl, ?_⟩
  refine boxn_i (vs := [.slice ra keys.length rc, .map (some w1.heap.size)]) fun b w3 hb hz3 g3 hc3 _ => ?_
  have z1 := g1.size
  have z2 := g2.size
  have hown : ∀ g, (Value.slice ra keys.length rc).ownBlock = some g → g < w1.heap.size := fun g hg => (OwnR.ownB o1 g hg).2
  have I0 : NewI w w3 b w1.heap.size (.slice ra keys.length rc) keys 0 :=
    ⟨by have := hc3 0 _ rfl; rwa [addr0] at this, by have := hc3 1 _ rfl; rwa [addr0] at this, OwnR.mod o1 (g2.trans g3) (fun _ _ h => h) fun _ _ _ h => h, by simpa using hmp.mod g3 fun h => h, by omega, by omega, by omega, fun g hg => by have := hown g hg; omega, (g1.trans g2).trans g3⟩
  generalize Value.slice ra keys.length rc = rv at I0 hown ⊢
  clear hc3 hmp o1
  generalize w1.heap.size = m at *
  rw [lenK_i]
  refine LoopK_i (fun vs W => ∃ i : Nat, i ≤ keys.length ∧ vs = [.int .i64 i] ∧ NewI w W b m rv keys i ∧ MayN keys i) (fun vs _ => keys.length - iOf vs 0) ⟨0, Nat.zero_le _, rfl, I0, fun i hi => by omega⟩ ?_
  rintro vs W ⟨i, hi, rfl, I, hmay⟩ _
  rw [nth_z, List.headD_cons, ltK_i]
  refine condK_p (fun hlt => ?_) fun hge => ?_
  · have hlt' : i < keys.length := by omega
    have hki : keys[i]? = some keys[i] := List.getElem?_eq_getElem hlt'
    obtain ⟨p, r, rfl, _, hr, hc, rfl⟩ := (h.grow I.g (by decide) fun _ _ h => h).get hlt'
    refine ixK_n hlt' (ldnK_i hr (fun j u hu => by rw [Addr.add_add]; exact hc j u hu) ?_)
    refine newst_n (vs := keys[i].cells) rfl rfl (RKey.one (w := w) (x := keys[i]) rfl) fun b6 W1 hb6 hz6 g6 hc6 _ => ?_
    have I1 := I.grow g6
    have bad : ∀ W', Grow W1 W' → ¬ MayKeys keys → (fun v' w' => Grow w w' ∧ ((MayKeys keys ∧ ∃ (sv : Value) (ks : List DKey), v' = .tuple #[sv, .int .i64 0] ∧ ks.Perm keys ∧ ks.Pairwise (fun x y => x.id < y.id) ∧ SchR (fun b => w.heap.size ≤ b) w' sv ks) ∨
      (¬ MayKeys keys ∧ v' = .tuple #[.pointer none, .int .i64 3]))) (Value.tuple #[.pointer none, .int .i64 3]) W' := fun W' g hn => ⟨I1.g.trans g, .inr ⟨hn, rfl⟩⟩
    refine JoinK_i (fun _ W2 => Grow W1 W2 ∧ findK (keys.take i) keys[i].id = none ∧ KeyOK keys[i]) ?_ ?_
    · rintro _ W2 ⟨gW2, hno, hok⟩ _
      have I2 := I1.grow gW2
      refine drawC_i (fun k y => k = 7 ∧ y = m) ?_
      have gd : Grow W2 W2.drew := Mod.drew _ _
      have I3 := I2.grow gd
      have c6 : ∀ j u, keys[i].cells[j]? = some u → W2.drew.cell? ((⟨b6, 0, none⟩ : Addr).add j) = some u := fun j u hu => (gW2.trans gd).cell (hc6 j u hu) fun h => h
      refine nilckK_s ?_
      rw [faK_i]
      refine sld1_i ⟨by rw [addr0]; exact I3.c1, fun j hj e => by obtain ⟨rfl, _⟩ := e; exact absurd hj (by decide)⟩ ?_
      rw [faK_i]
      refine sld1_i ⟨c6 0 _ rfl, fun j hj e => by obtain ⟨rfl, _⟩ := e; exact absurd hj (by decide)⟩ ?_
      refine sldn_i (vs := keys[i].cells) rfl (fun j u hu => ⟨c6 j u hu, fun j hj e => by obtain ⟨rfl, _⟩ := e; exact absurd hj (by decide)⟩) ?_
      obtain ⟨W4, hrun, hmp4, m4⟩ := map_update Tryz.underlying85 Tryz.underlying3 I3.mp keys[i].id (.agg keys[i].cells.toArray) (by rw [find_map, hno]; rfl)
      refine runK_i (v := undef) (w' := W4) (by simp only [Sem.run_bind, hrun, Result.andThen_ok, Sem.run_pure]) ⟨m4.mono fun y _ e => ⟨rfl, e⟩, ?_⟩
      rw [addK_i, loop_step (by omega)]
      refine ⟨⟨i + 1, hlt', rfl, ⟨m4.cell I3.c0 (fun e => I3.ne e.symm), m4.cell I3.c1 (fun e => I3.ne e.symm), OwnR.mod I3.row m4 (fun g hg e => (I3.own g hg).1 e) fun _ _ _ h => h, ?_, I3.hb, I3.hm, I3.ne, I3.own, I3.g.next m4 fun x hx e => by have := I3.hm; omega⟩, fun q hq k hk => ?_⟩, by rw [iOf0, iOf0]; omega⟩
      · rw [List.take_add_one, hki, List.map_append]; exact hmp4
      · by_cases e : q = i
        · subst e
          rw [hki] at hk; cases hk
          refine ⟨hok, fun j hj k' hk' e => ?_⟩
          unfold findK at hno
          rw [List.find?_eq_none] at hno
          exact hno k' (List.mem_of_getElem? (by rw [List.getElem?_take, if_pos hj]; exact hk')) (by simpa using e)
        · exact hmay q (by omega) k hk
    · refine JoinK_i (fun vs W2 => Grow W1 W2 ∧ vs = [.bool (findK (keys.take i) keys[i].id).isSome]) ?_ ?_
      · rintro _ W2 ⟨gW2, rfl⟩ _
        rw [nth_z, List.headD_cons]
        cases hf : findK (keys.take i) keys[i].id with
        | some k' =>
          refine condK_t (bad _ gW2 fun hM => ?_)
          have h1 := List.find?_some hf
          have h2 := List.mem_of_find?_eq_some hf
          obtain ⟨j, hj, e⟩ := List.getElem_of_mem h2
          rw [List.length_take] at hj
          rw [List.getElem_take] at e
          exact (hM.2 i hlt' _ hki).2 j (by omega) k' (by rw [List.getElem?_eq_getElem (by omega), e]) (by simpa using h1)
        | none =>
          refine condK_f (ldnK_i (vs := keys[i].cells) rfl (fun j u hu => gW2.cell (hc6 j u hu) fun h => h) ?_)
          refine callK_mono may1_ok ?_
          rintro _ W3 ⟨rfl, g3'⟩
          rw [notK_i]
          refine condK_neg (fun hok => ⟨gW2.trans g3', rfl, hok⟩) fun hbad => bad _ (gW2.trans g3') fun hM => hbad (hM.2 i hlt' _ hki).1
      · refine drawC_i (fun k y => k = 11 ∧ W1.heap.size ≤ y) ?_
        have gd : Grow W1 W1.drew := Mod.drew _ _
        have Id := I1.grow gd
        refine nilckK_s ?_
        rw [faK_i]
        refine sld1_i ⟨by rw [addr0]; exact Id.c1, fun j hj e => by obtain ⟨rfl, _⟩ := e; exact absurd hj (by decide)⟩ ?_
        rw [faK_i]
        refine sld1_i ⟨gd.cell (hc6 0 _ rfl) fun h => h, fun j hj e => by obtain ⟨rfl, _⟩ := e; exact absurd hj (by decide)⟩ ?_
        have look : ∀ W', Grow W1.drew W' → (Instr.lookup 85 (.map (some m)) (.int .i64 keys[i].id) true).run Tryz.prog W' = .ok (.tuple #[.agg (((findK (keys.take i) keys[i].id)).getD DKey.zero).cells.toArray, .bool (findK (keys.take i) keys[i].id).isSome]) W' := fun W' g' => by
          have := map_lookup Tryz.underlying85 Tryz.underlying3 (zero_key W') (Id.mp.mod g' fun h => h) keys[i].id
          rw [this, find_map]
          cases findK (keys.take i) keys[i].id <;> rfl
        generalize (findK (keys.take i) keys[i].id).getD DKey.zero = kz at look
        have one := RKey.one (w := w) (x := kz) rfl
        refine ⟨?_, ?_⟩
        · refine runK_i (look _ (Mod.refl _ _)) ⟨Mod.refl _ _, ?_⟩
          refine extK_i (vs := [_, _]) (by rfl) (extK_i (vs := [_, _]) (by rfl) ?_)
          refine newz_i fun b7 W5 hb7 hz7 g7 _ hl7 => ⟨g7.mono fun _ _ h => h.elim, ?_⟩
          refine stn_over rfl one hl7 fun W6 m6 _ _ => ⟨m6.mono fun y _ e => ⟨rfl, by have := gd.size; omega⟩, ?_, rfl⟩
          exact (gd.trans g7).next m6 fun x hx e => by have := gd.size; omega
        · refine newz_i fun b7 W5 hb7 hz7 g7 _ hl7 => ⟨g7.mono fun _ _ h => h.elim, ?_⟩
          refine runK_i (look _ g7) ⟨Mod.refl _ _, ?_⟩
          refine extK_i (vs := [_, _]) (by rfl) (extK_i (vs := [_, _]) (by rfl) ?_)
          refine stn_over rfl one hl7 fun W6 m6 _ _ => ⟨m6.mono fun y _ e => ⟨rfl, by have := gd.size; omega⟩, ?_, rfl⟩
          exact (gd.trans g7).next m6 fun x hx e => by have := gd.size; omega
  · have : i = keys.length := by omega
    subst this
    refine nilckK_s ?_
    rw [faK_i]
    refine ld1K_i (by rw [addr0]; exact I.c0) ?_
    refine callK_mono (sortk_ok I.row (by omega)) ?_
    rintro _ W2 ⟨ks, hp, hs, o2, m2⟩
    have hM : MayKeys keys := ⟨by omega, hmay⟩
    obtain ⟨_, _, hd⟩ := mayk_iff.1 hM
    have hd' := hd.perm hp.symm
    refine ⟨I.g.next m2 fun x hx e => by have := (OwnR.ownB I.row x e).1; omega, .inl ⟨hM, _, ks, rfl, hp, strict_of hd' hs, b, m, rv, _, rfl, I.hb, I.hm, m2.cell I.c0 fun e => (I.own _ e).2 rfl, m2.cell I.c1 fun e => (I.own _ e).2 rfl, (OwnR.sl o2).sub (fun _ _ h => h.1) (by decide) fun _ _ h => h, I.mp.mod m2 fun e => (I.own _ e).1 rfl, fun id => ?_⟩⟩
    rw [List.take_length, find_map, findK_perm hp hd']
    cases findK keys id <;> rfl
end Go.Proofs.YtlbaopamhkmepaaGreatDoor

namespace Go.Proofs.YtlbaopamhkmepaaGreatDoor
open Go Go.K
/-- rubric/history.New -/
def S15 (v0 v1 : Value) (K : Cont) (w : World) : Prop :=
  JoinK (fun _vs w1 => ∀ _h : Env,
  buildK [(0, 1), (1, 1), (2, 1), (3, 1), (4, 1), (5, 1), (6, 1)] [(.pointer none), (.int .i64 0), (.bool false), (.slice none 0 0), (.slice none 0 0), (.bool false), (.slice none 0 0)] [(0, v0), (1, v1), (2, (.bool true))] fun t14 =>
  boxnK 67 t14 (fun t15 w2 =>
  K (.tuple #[t15, (.int .i64 0)]) w2) w1) (fun J =>
  ltK .i64 v1 (.int .i64 0) fun t7 =>
  condK t7
  (K (.tuple #[(.pointer none), (.int .i64 2)]) w)
  (gtK .i64 v1 (.int .i64 65536) fun t10 =>
  condK t10
  (K (.tuple #[(.pointer none), (.int .i64 2)]) w)
  (J [] w)))
theorem S15_eq (v0 v1 : Value) (K : Cont) (w : World) : S15 v0 v1 K w = D Tryz.prog okf 16 (bodyOf Tryz.f15) (.node [] [] .nil (.cut [] [(4, 11)] (.node [] [] .nil (.node [] [] (.node [] [] .nil .nil) .nil)) (.node [] [] .nil .nil))) (retK Tryz.prog [.tmp 4, .tmp 5] K) (nth [v0, v1]) w := by kernel_rfl
theorem S15_ok {v0 v1 : Value} {K : Cont} {w : World} (h : S15 v0 v1 K w) : callK Tryz.prog 15 [v0, v1] K w :=
  callK_of (P := Tryz.prog) (ok := okf) (n := 16) (fn := Tryz.f15) (c := bodyOf Tryz.f15) (rs := [.tmp 4, .tmp 5]) (an := (.node [] [] .nil (.cut [] [(4, 11)] (.node [] [] .nil (.node [] [] (.node [] [] .nil .nil) .nil)) (.node [] [] .nil .nil)))) good mixed Tryz.func15 (by kernel_rfl) (by kernel_rfl) (by kernel_rfl) (by kernel_rfl) (Eq.mp (S15_eq v0 v1 K w) h)

/-- (*rubric/history.History).ready -/
def S48 (v0 : Value) (K : Cont) (w : World) : Prop :=
  pnilK v0 fun b4 =>
  condK (.bool (!b4))
  (nilckK v0 fun t7 =>
  faK 2 t7 fun t8 =>
  ld1K t8 (fun t9 w1 =>
  K t9 w1) w)
  (K (.bool false) w)
theorem S48_eq (v0 : Value) (K : Cont) (w : World) : S48 v0 K w = D Tryz.prog okf 11 (bodyOf Tryz.f48) (.node [] [] .nil (.node [] [] .nil .nil)) (retK Tryz.prog [.tmp 2] K) (nth [v0]) w := by kernel_rfl
theorem S48_ok {v0 : Value} {K : Cont} {w : World} (h : S48 v0 K w) : callK Tryz.prog 48 [v0] K w :=
  callK_of (P := Tryz.prog) (ok := okf) (n := 11) (fn := Tryz.f48) (c := bodyOf Tryz.f48) (rs := [.tmp 2]) (an := (.node [] [] .nil (.node [] [] .nil .nil))) good mixed Tryz.func48 (by kernel_rfl) (by kernel_rfl) (by kernel_rfl) (by kernel_rfl) (Eq.mp (S48_eq v0 K w) h)

/-- (*rubric/history.History).keep -/
def S51 (v0 v1 : Value) (K : Cont) (w : World) : Prop :=
  boxnK 95 v1 (fun t3 w1 =>
  DrawC [6, 7, 10] [[], [], [1], [1, 2], [1, 2, 3], [], [5], [1, 2, 3, 4, 5, 6], [0, 1, 2, 3, 4, 5, 6, 7], [0, 1, 2, 3, 4, 5, 6, 7, 8], [0, 1, 2, 3, 4, 5, 6, 7, 8, 9]] w1.drew (fun M St =>
  nilckK v0 fun t7 =>
  faK 3 t7 fun t8 =>
  sld1 (St 4) t8 fun t9 =>
  sldn (St 5) 2 t3 fun t10 =>
  rowK 95 2 1 [(.slice none 0 0), (.slice none 0 0)] [(0, t10)] (fun t11 w2 =>
  Mod (M 6) w1.drew w2 ∧
  runK Tryz.prog (Builtin.append_ #[65, 65] 65 [t9, t11].toArray) (fun t12 w3 =>
  Mod (M 7) w2 w3 ∧
  nilckK v0 fun t13 =>
  faK 3 t13 fun t14 =>
  st1K t14 t12 (fun w4 =>
  Mod (M 10) w3 w4 ∧
  DrawK w4 (fun C =>
  nilckK v0 fun t16 =>
  faK 3 t16 fun t17 =>
  qld1K C t17 fun t18 =>
  lenK t18 fun t19 =>
  nilckK v0 fun t21 =>
  faK 1 t21 fun t22 =>
  qld1K C t22 fun t23 =>
  subK .i64 t19 t23 fun t24 =>
  ∀ w5 : World, C w5 →
  gtK .i64 t24 (.int .i64 0) fun t26 =>
  condK t26
  (nilckK v0 fun t28 =>
  faK 3 t28 fun t29 =>
  ld1K t29 (fun t30 w6 =>
  runK Tryz.prog (Instr.sliceAt 65 t30 none (some t24) none) (fun t32 w7 =>
  runK Tryz.prog (Builtin.clear_ #[65] 0 [t32].toArray) (fun _u w8 =>
  DrawC [16, 19] [[], [], [1], [1, 2], [1, 2, 3], [], [], [6], [6, 7], [6, 7, 8], [6, 7, 8, 9], [], [11], [11, 12], [11, 12, 13], [11, 12, 13, 14], [1, 2, 3, 4, 5, 6, 7, 8, 9, 10, 11, 12, 13, 14, 15], [0, 1, 2, 3, 4, 5, 6, 7, 8, 9, 10, 11, 12, 13, 14, 15, 16], [0, 1, 2, 3, 4, 5, 6, 7, 8, 9, 10, 11, 12, 13, 14, 15, 16, 17], [0, 1, 2, 3, 4, 5, 6, 7, 8, 9, 10, 11, 12, 13, 14, 15, 16, 17, 18]] w8.drew (fun M_1 St_1 =>
  nilckK v0 fun t35 =>
  faK 3 t35 fun t36 =>
  sld1 (St_1 4) t36 fun t37 =>
  nilckK v0 fun t40 =>
  faK 3 t40 fun t41 =>
  sld1 (St_1 9) t41 fun t42 =>
  lenK t42 fun t43 =>
  nilckK v0 fun t45 =>
  faK 3 t45 fun t46 =>
  sld1 (St_1 14) t46 fun t47 =>
  lenK t47 fun t48 =>
  runK Tryz.prog (Instr.sliceAt 65 t37 (some t24) (some t43) (some t48)) (fun t49 w9 =>
  Mod (M_1 16) w8.drew w9 ∧
  nilckK v0 fun t50 =>
  faK 3 t50 fun t51 =>
  st1K t51 t49 (fun w10 =>
  Mod (M_1 19) w9 w10 ∧
  K (.tuple #[]) w10) w9) w8.drew)) w7) w6) w5)
  (K (.tuple #[]) w5))) w3) w2) w1.drew)) w
theorem S51_eq (v0 v1 : Value) (K : Cont) (w : World) : S51 v0 v1 K w = D Tryz.prog okf 52 (bodyOf Tryz.f51) (.node [] [] .nil (.node [] [] (.dc [6, 7, 10] [[], [], [1], [1, 2], [1, 2, 3], [], [5], [1, 2, 3, 4, 5, 6], [0, 1, 2, 3, 4, 5, 6, 7], [0, 1, 2, 3, 4, 5, 6, 7, 8], [0, 1, 2, 3, 4, 5, 6, 7, 8, 9]] [[6, 7]]) (.node [] [] .draw (.node [] [] .nil (.node [] [] (.node [] [] .nil (.dc [16, 19] [[], [], [1], [1, 2], [1, 2, 3], [], [], [6], [6, 7], [6, 7, 8], [6, 7, 8, 9], [], [11], [11, 12], [11, 12, 13], [11, 12, 13, 14], [1, 2, 3, 4, 5, 6, 7, 8, 9, 10, 11, 12, 13, 14, 15], [0, 1, 2, 3, 4, 5, 6, 7, 8, 9, 10, 11, 12, 13, 14, 15, 16], [0, 1, 2, 3, 4, 5, 6, 7, 8, 9, 10, 11, 12, 13, 14, 15, 16, 17], [0, 1, 2, 3, 4, 5, 6, 7, 8, 9, 10, 11, 12, 13, 14, 15, 16, 17, 18]] [[16]])) .nil))))) (retK Tryz.prog [] K) (nth [v0, v1]) w := by kernel_rfl
theorem S51_ok {v0 v1 : Value} {K : Cont} {w : World} (h : S51 v0 v1 K w) : callK Tryz.prog 51 [v0, v1] K w :=
  callK_of (P := Tryz.prog) (ok := okf) (n := 52) (fn := Tryz.f51) (c := bodyOf Tryz.f51) (rs := []) (an := (.node [] [] .nil (.node [] [] (.dc [6, 7, 10] [[], [], [1], [1, 2], [1, 2, 3], [], [5], [1, 2, 3, 4, 5, 6], [0, 1, 2, 3, 4, 5, 6, 7], [0, 1, 2, 3, 4, 5, 6, 7, 8], [0, 1, 2, 3, 4, 5, 6, 7, 8, 9]] [[6, 7]]) (.node [] [] .draw (.node [] [] .nil (.node [] [] (.node [] [] .nil (.dc [16, 19] [[], [], [1], [1, 2], [1, 2, 3], [], [], [6], [6, 7], [6, 7, 8], [6, 7, 8, 9], [], [11], [11, 12], [11, 12, 13], [11, 12, 13, 14], [1, 2, 3, 4, 5, 6, 7, 8, 9, 10, 11, 12, 13, 14, 15], [0, 1, 2, 3, 4, 5, 6, 7, 8, 9, 10, 11, 12, 13, 14, 15, 16], [0, 1, 2, 3, 4, 5, 6, 7, 8, 9, 10, 11, 12, 13, 14, 15, 16, 17], [0, 1, 2, 3, 4, 5, 6, 7, 8, 9, 10, 11, 12, 13, 14, 15, 16, 17, 18]] [[16]])) .nil)))))) good mixed Tryz.func51 (by kernel_rfl) (by kernel_rfl) (by kernel_rfl) (by kernel_rfl) (Eq.mp (S51_eq v0 v1 K w) h)

/-- (*rubric/history.History).with -/
def S50 (v0 v1 : Value) (K : Cont) (w : World) : Prop :=
  boxnK 95 v1 (fun t3 w1 =>
  newK 95 [(.slice none 0 0), (.slice none 0 0)] (fun t4 w2 =>
  nilckK v0 fun t10 =>
  faK 6 t10 fun t11 =>
  ld1K t11 (fun t12 w3 =>
  lenK t12 fun t13 =>
  eqK .i64 t13 (.int .i64 0) fun t14 =>
  condK t14
  (ldnK 2 t3 (fun t15 w4 =>
  stnK 2 t4 t15 (fun w5 =>
  ldnK 2 t4 (fun r0 w6 =>
  K (.tuple #[r0, (.int .i64 0)]) w6) w5) w4) w3)
  (DrawC [13] [[], [0], [0, 1], [0, 1, 2], [], [4], [4, 5], [4, 5, 6], [4, 5, 6, 7], [4, 5, 6, 7, 8], [4, 5, 6, 7, 8, 9], [], [11], [0, 1, 2, 3, 4, 5, 6, 7, 8, 9, 10, 11, 12], [0, 1, 2, 3, 4, 5, 6, 7, 8, 9, 10, 11, 12, 13], [0, 1, 2, 3, 4, 5, 6, 7, 8, 9, 10, 11, 12, 13, 14], [0, 1, 2, 3, 4, 5, 6, 7, 8, 9, 10, 11, 12, 13, 14], [0, 1, 2, 3, 4, 5, 6, 7, 8, 9, 10, 11, 12, 13, 14, 15], [0, 1, 2, 3, 4, 5, 6, 7, 8, 9, 10, 11, 12, 13, 14, 15, 16, 17]] w3.drew (fun M St =>
  nilckK v0 fun t18 =>
  faK 0 t18 fun t19 =>
  sld1 (St 3) t19 fun t20 =>
  nilckK v0 fun t22 =>
  faK 6 t22 fun t23 =>
  sld1 (St 7) t23 fun t24 =>
  ixK 2 t24 (.int .i64 0) fun t25 =>
  faK 0 t25 fun t26 =>
  sld1 (St 10) t26 fun t27 =>
  faK 0 t3 fun t28 =>
  sld1 (St 12) t28 fun t29 =>
  callK Tryz.prog 87 [t20, t27, t29] (fun t30 w7 =>
  Mod (M 13) w3.drew w7 ∧
  extK 0 t30 fun t31 =>
  extK 1 t30 fun t32 =>
  neK .i64 t32 (.int .i64 0) fun t34 =>
  condK t34
  (buildK [(0, 1), (1, 1)] [(.slice none 0 0), (.slice none 0 0)] [] fun t35 =>
  stnK 2 t4 t35 (fun w8 =>
  ldnK 2 t4 (fun r0_1 w9 =>
  K (.tuple #[r0_1, t32]) w9) w8) w7)
  (DrawC [13] [[], [0], [0, 1], [0, 1, 2], [], [4], [], [6], [6, 7], [6, 7, 8], [6, 7, 8, 9], [6, 7, 8, 9, 10], [6, 7, 8, 9, 10, 11], [0, 1, 2, 3, 4, 5, 6, 7, 8, 9, 10, 11, 12], [0, 1, 2, 3, 4, 5, 6, 7, 8, 9, 10, 11, 12, 13], [0, 1, 2, 3, 4, 5, 6, 7, 8, 9, 10, 11, 12, 13, 14], [0, 1, 2, 3, 4, 5, 6, 7, 8, 9, 10, 11, 12, 13, 14], [0, 1, 2, 3, 4, 5, 6, 7, 8, 9, 10, 11, 12, 13, 14, 15], [0, 1, 2, 3, 4, 5, 6, 7, 8, 9, 10, 11, 12, 13, 14, 15, 16, 17]] w7.drew (fun M_1 St_1 =>
  nilckK v0 fun t39 =>
  faK 0 t39 fun t40 =>
  sld1 (St_1 3) t40 fun t41 =>
  faK 1 t3 fun t42 =>
  sld1 (St_1 5) t42 fun t43 =>
  nilckK v0 fun t45 =>
  faK 6 t45 fun t46 =>
  sld1 (St_1 9) t46 fun t47 =>
  ixK 2 t47 (.int .i64 0) fun t48 =>
  faK 1 t48 fun t49 =>
  sld1 (St_1 12) t49 fun t50 =>
  callK Tryz.prog 87 [t41, t43, t50] (fun t51 w10 =>
  Mod (M_1 13) w7.drew w10 ∧
  extK 0 t51 fun t52 =>
  extK 1 t51 fun t53 =>
  buildK [(0, 1), (1, 1)] [(.slice none 0 0), (.slice none 0 0)] [(0, t31), (1, t52)] fun t56 =>
  stnK 2 t4 t56 (fun w11 =>
  ldnK 2 t4 (fun r0_2 w12 =>
  K (.tuple #[r0_2, t53]) w12) w11) w10) w7.drew))) w3.drew))) w2) w1) w
theorem S50_eq (v0 v1 : Value) (K : Cont) (w : World) : S50 v0 v1 K w = D Tryz.prog okf 58 (bodyOf Tryz.f50) (.node [] [] .nil (.node [] [] (.node [] [] .nil (.node [] [] (.node [] [] .nil .nil) .nil)) (.node [] [] (.dc [13] [[], [0], [0, 1], [0, 1, 2], [], [4], [4, 5], [4, 5, 6], [4, 5, 6, 7], [4, 5, 6, 7, 8], [4, 5, 6, 7, 8, 9], [], [11], [0, 1, 2, 3, 4, 5, 6, 7, 8, 9, 10, 11, 12], [0, 1, 2, 3, 4, 5, 6, 7, 8, 9, 10, 11, 12, 13], [0, 1, 2, 3, 4, 5, 6, 7, 8, 9, 10, 11, 12, 13, 14], [0, 1, 2, 3, 4, 5, 6, 7, 8, 9, 10, 11, 12, 13, 14], [0, 1, 2, 3, 4, 5, 6, 7, 8, 9, 10, 11, 12, 13, 14, 15], [0, 1, 2, 3, 4, 5, 6, 7, 8, 9, 10, 11, 12, 13, 14, 15, 16, 17]] []) (.node [] [] (.node [] [] .nil (.node [] [] (.node [] [] .nil .nil) .nil)) (.node [] [] (.dc [13] [[], [0], [0, 1], [0, 1, 2], [], [4], [], [6], [6, 7], [6, 7, 8], [6, 7, 8, 9], [6, 7, 8, 9, 10], [6, 7, 8, 9, 10, 11], [0, 1, 2, 3, 4, 5, 6, 7, 8, 9, 10, 11, 12], [0, 1, 2, 3, 4, 5, 6, 7, 8, 9, 10, 11, 12, 13], [0, 1, 2, 3, 4, 5, 6, 7, 8, 9, 10, 11, 12, 13, 14], [0, 1, 2, 3, 4, 5, 6, 7, 8, 9, 10, 11, 12, 13, 14], [0, 1, 2, 3, 4, 5, 6, 7, 8, 9, 10, 11, 12, 13, 14, 15], [0, 1, 2, 3, 4, 5, 6, 7, 8, 9, 10, 11, 12, 13, 14, 15, 16, 17]] []) (.node [] [] .nil .nil)))))) (retK Tryz.prog [.cell 4 95, .tmp 5] K) (nth [v0, v1]) w := by kernel_rfl
theorem S50_ok {v0 v1 : Value} {K : Cont} {w : World} (h : S50 v0 v1 K w) : callK Tryz.prog 50 [v0, v1] K w :=
  callK_of (P := Tryz.prog) (ok := okf) (n := 58) (fn := Tryz.f50) (c := bodyOf Tryz.f50) (rs := [.cell 4 95, .tmp 5]) (an := (.node [] [] .nil (.node [] [] (.node [] [] .nil (.node [] [] (.node [] [] .nil .nil) .nil)) (.node [] [] (.dc [13] [[], [0], [0, 1], [0, 1, 2], [], [4], [4, 5], [4, 5, 6], [4, 5, 6, 7], [4, 5, 6, 7, 8], [4, 5, 6, 7, 8, 9], [], [11], [0, 1, 2, 3, 4, 5, 6, 7, 8, 9, 10, 11, 12], [0, 1, 2, 3, 4, 5, 6, 7, 8, 9, 10, 11, 12, 13], [0, 1, 2, 3, 4, 5, 6, 7, 8, 9, 10, 11, 12, 13, 14], [0, 1, 2, 3, 4, 5, 6, 7, 8, 9, 10, 11, 12, 13, 14], [0, 1, 2, 3, 4, 5, 6, 7, 8, 9, 10, 11, 12, 13, 14, 15], [0, 1, 2, 3, 4, 5, 6, 7, 8, 9, 10, 11, 12, 13, 14, 15, 16, 17]] []) (.node [] [] (.node [] [] .nil (.node [] [] (.node [] [] .nil .nil) .nil)) (.node [] [] (.dc [13] [[], [0], [0, 1], [0, 1, 2], [], [4], [], [6], [6, 7], [6, 7, 8], [6, 7, 8, 9], [6, 7, 8, 9, 10], [6, 7, 8, 9, 10, 11], [0, 1, 2, 3, 4, 5, 6, 7, 8, 9, 10, 11, 12], [0, 1, 2, 3, 4, 5, 6, 7, 8, 9, 10, 11, 12, 13], [0, 1, 2, 3, 4, 5, 6, 7, 8, 9, 10, 11, 12, 13, 14], [0, 1, 2, 3, 4, 5, 6, 7, 8, 9, 10, 11, 12, 13, 14], [0, 1, 2, 3, 4, 5, 6, 7, 8, 9, 10, 11, 12, 13, 14, 15], [0, 1, 2, 3, 4, 5, 6, 7, 8, 9, 10, 11, 12, 13, 14, 15, 16, 17]] []) (.node [] [] .nil .nil))))))) good mixed Tryz.func50 (by kernel_rfl) (by kernel_rfl) (by kernel_rfl) (by kernel_rfl) (Eq.mp (S50_eq v0 v1 K w) h)

/-- (*rubric/history.History).Push -/
def S18 (v0 v1 v2 : Value) (K : Cont) (w : World) : Prop :=
  callK Tryz.prog 48 [v0] (fun t11 w1 =>
  notK t11 fun t12 =>
  condK t12
  (K (.int .i64 1) w1)
  (callK Tryz.prog 49 [v1] (fun t14 w2 =>
  callK Tryz.prog 49 [v2] (fun t16 w3 =>
  buildK [(0, 1), (1, 1)] [(.slice none 0 0), (.slice none 0 0)] [(0, t14), (1, t16)] fun t17 =>
  newK 95 [(.slice none 0 0), (.slice none 0 0)] (fun t7 w4 =>
  stnK 2 t7 t17 (fun w5 =>
  JoinK (fun _vs w6 => ∀ _h : Env,
  nilckK v0 fun t40 =>
  faK 4 t40 fun t41 =>
  st1K t41 (.slice none 0 0) (fun w7 =>
  K (.int .i64 0) w7) w6) (fun J =>
  nilckK v0 fun t19 =>
  faK 5 t19 fun t20 =>
  ld1K t20 (fun t21 w8 =>
  condK t21
  (ldnK 2 t7 (fun t24 w9 =>
  callK Tryz.prog 50 [v0, t24] (fun t25 w10 =>
  extK 0 t25 fun t26 =>
  extK 1 t25 fun t27 =>
  newK 95 [(.slice none 0 0), (.slice none 0 0)] (fun t8 w11 =>
  stnK 2 t8 t26 (fun w12 =>
  neK .i64 t27 (.int .i64 0) fun t29 =>
  condK t29
  (K t27 w12)
  (ldnK 2 t8 (fun t32 w13 =>
  rowK 95 2 1 [(.slice none 0 0), (.slice none 0 0)] [(0, t32)] (fun t33 w14 =>
  nilckK v0 fun t34 =>
  faK 6 t34 fun t35 =>
  st1K t35 t33 (fun w15 =>
  J [] w15) w14) w13) w12)) w11) w10) w9) w8)
  (ldnK 2 t7 (fun t37 w16 =>
  callK Tryz.prog 51 [v0, t37] (fun _t38 w17 =>
  J [] w17) w16) w8)) w5)) w4) w3) w2) w1)) w
theorem S18_eq (v0 v1 v2 : Value) (K : Cont) (w : World) : S18 v0 v1 v2 K w = D Tryz.prog okf 42 (bodyOf Tryz.f18) (.node [] [] .nil (.node [] [] (.node [] [] .nil (.node [] [] (.node [] [] .nil .nil) .nil)) (.node [] [] .nil (.cut [] [(6, 6), (8, 9), (18, 38)] (.node [] [] .nil (.node [] [] (.node [] [] .nil (.node [] [] (.node [] [] .nil (.node [] [] (.node [] [] .nil .nil) .nil)) .nil)) .nil)) (.node [] [] .nil (.node [] [] .nil .nil)))))) (retK Tryz.prog [.tmp 6] K) (nth [v0, v1, v2]) w := by kernel_rfl
theorem S18_ok {v0 v1 v2 : Value} {K : Cont} {w : World} (h : S18 v0 v1 v2 K w) : callK Tryz.prog 18 [v0, v1, v2] K w :=
  callK_of (P := Tryz.prog) (ok := okf) (n := 42) (fn := Tryz.f18) (c := bodyOf Tryz.f18) (rs := [.tmp 6]) (an := (.node [] [] .nil (.node [] [] (.node [] [] .nil (.node [] [] (.node [] [] .nil .nil) .nil)) (.node [] [] .nil (.cut [] [(6, 6), (8, 9), (18, 38)] (.node [] [] .nil (.node [] [] (.node [] [] .nil (.node [] [] (.node [] [] .nil (.node [] [] (.node [] [] .nil .nil) .nil)) .nil)) .nil)) (.node [] [] .nil (.node [] [] .nil .nil))))))) good mixed Tryz.func18 (by kernel_rfl) (by kernel_rfl) (by kernel_rfl) (by kernel_rfl) (Eq.mp (S18_eq v0 v1 v2 K w) h)

/-- (*rubric/history.History).Begin -/
def S27 (v0 : Value) (K : Cont) (w : World) : Prop :=
  callK Tryz.prog 48 [v0] (fun t5 w1 =>
  notK t5 fun t6 =>
  condK t6
  (K (.int .i64 1) w1)
  (nilckK v0 fun t9 =>
  faK 5 t9 fun t10 =>
  ld1K t10 (fun t11 w2 =>
  condK t11
  (K (.int .i64 9) w2)
  (nilckK v0 fun t14 =>
  faK 5 t14 fun t15 =>
  st1K t15 (.bool true) (fun w3 =>
  nilckK v0 fun t16 =>
  faK 6 t16 fun t17 =>
  st1K t17 (.slice none 0 0) (fun w4 =>
  K (.int .i64 0) w4) w3) w2)) w1)) w
theorem S27_eq (v0 : Value) (K : Cont) (w : World) : S27 v0 K w = D Tryz.prog okf 18 (bodyOf Tryz.f27) (.node [] [] .nil (.node [] [] (.node [] [] .nil (.node [] [] (.node [] [] .nil .nil) (.node [] [] .nil (.node [] [] (.node [] [] .nil .nil) .nil)))) (.node [] [] .nil (.node [] [] .nil .nil)))) (retK Tryz.prog [.tmp 2] K) (nth [v0]) w := by kernel_rfl
theorem S27_ok {v0 : Value} {K : Cont} {w : World} (h : S27 v0 K w) : callK Tryz.prog 27 [v0] K w :=
  callK_of (P := Tryz.prog) (ok := okf) (n := 18) (fn := Tryz.f27) (c := bodyOf Tryz.f27) (rs := [.tmp 2]) (an := (.node [] [] .nil (.node [] [] (.node [] [] .nil (.node [] [] (.node [] [] .nil .nil) (.node [] [] .nil (.node [] [] (.node [] [] .nil .nil) .nil)))) (.node [] [] .nil (.node [] [] .nil .nil))))) good mixed Tryz.func27 (by kernel_rfl) (by kernel_rfl) (by kernel_rfl) (by kernel_rfl) (Eq.mp (S27_eq v0 K w) h)

/-- (*rubric/history.History).End -/
def S29 (v0 : Value) (K : Cont) (w : World) : Prop :=
  callK Tryz.prog 48 [v0] (fun t7 w1 =>
  notK t7 fun t8 =>
  condK t8
  (K (.int .i64 1) w1)
  (nilckK v0 fun t11 =>
  faK 5 t11 fun t12 =>
  ld1K t12 (fun t13 w2 =>
  notK t13 fun t14 =>
  condK t14
  (K (.int .i64 9) w2)
  (nilckK v0 fun t16 =>
  faK 6 t16 fun t17 =>
  ld1K t17 (fun t18 w3 =>
  lenK t18 fun t19 =>
  LoopK [(.int .i64 0)] (fun vs again w4 => ∀ _h : Env,
  ltK .i64 (nth vs 0) t19 fun t21 =>
  condK t21
  (ixK 2 t18 (nth vs 0) fun t22 =>
  ldnK 2 t22 (fun t23 w5 =>
  newK 95 [(.slice none 0 0), (.slice none 0 0)] (fun t4 w6 =>
  stnK 2 t4 t23 (fun w7 =>
  ldnK 2 t4 (fun t25 w8 =>
  callK Tryz.prog 51 [v0, t25] (fun _t26 w9 =>
  addK .i64 (nth vs 0) (.int .i64 1) fun t27 =>
  again [t27] w9) w8) w7) w6) w5) w4)
  (nilckK v0 fun t30 =>
  faK 5 t30 fun t31 =>
  st1K t31 (.bool false) (fun w10 =>
  nilckK v0 fun t32 =>
  faK 6 t32 fun t33 =>
  st1K t33 (.slice none 0 0) (fun w11 =>
  K (.int .i64 0) w11) w10) w4)) w3) w2)) w1)) w
theorem S29_eq (v0 : Value) (K : Cont) (w : World) : S29 v0 K w = D Tryz.prog okf 34 (bodyOf Tryz.f29) (.node [] [] .nil (.node [] [] (.node [] [] .nil (.node [] [] (.node [] [] .nil .nil) (.node [] [] .nil (.node [] [] (.node [] [] .nil .nil) .nil)))) (.node [] [] (.node [] [] .nil (.node [20] [(4, 4), (20, 27)] (.node [] [] .nil (.node [] [] (.node [] [] .nil .nil) (.node [] [] (.node [] [] .nil .nil) .nil))) .nil)) (.node [] [] .nil (.node [] [] .nil .nil))))) (retK Tryz.prog [.tmp 2] K) (nth [v0]) w := by kernel_rfl
theorem S29_ok {v0 : Value} {K : Cont} {w : World} (h : S29 v0 K w) : callK Tryz.prog 29 [v0] K w :=
  callK_of (P := Tryz.prog) (ok := okf) (n := 34) (fn := Tryz.f29) (c := bodyOf Tryz.f29) (rs := [.tmp 2]) (an := (.node [] [] .nil (.node [] [] (.node [] [] .nil (.node [] [] (.node [] [] .nil .nil) (.node [] [] .nil (.node [] [] (.node [] [] .nil .nil) .nil)))) (.node [] [] (.node [] [] .nil (.node [20] [(4, 4), (20, 27)] (.node [] [] .nil (.node [] [] (.node [] [] .nil .nil) (.node [] [] (.node [] [] .nil .nil) .nil))) .nil)) (.node [] [] .nil (.node [] [] .nil .nil)))))) good mixed Tryz.func29 (by kernel_rfl) (by kernel_rfl) (by kernel_rfl) (by kernel_rfl) (Eq.mp (S29_eq v0 K w) h)

/-- (*rubric/history.History).move -/
def S52 (v0 v1 v2 : Value) (K : Cont) (w : World) : Prop :=
  newK 95 [(.slice none 0 0), (.slice none 0 0)] (fun t6 w1 =>
  nilckK v1 fun t11 =>
  ld1K t11 (fun t12 w2 =>
  lenK t12 fun t13 =>
  subK .i64 t13 (.int .i64 1) fun t14 =>
  nilckK v0 fun t17 =>
  faK 5 t17 fun t18 =>
  ld1K t18 (fun t19 w3 =>
  condK t19
  (buildK [(0, 1), (1, 1)] [(.slice none 0 0), (.slice none 0 0)] [] fun t20 =>
  stnK 2 t6 t20 (fun w4 =>
  ldnK 2 t6 (fun r0 w5 =>
  K (.tuple #[r0, (.int .i64 9)]) w5) w4) w3)
  (ltK .i64 t14 (.int .i64 0) fun t23 =>
  condK t23
  (buildK [(0, 1), (1, 1)] [(.slice none 0 0), (.slice none 0 0)] [] fun t24 =>
  stnK 2 t6 t24 (fun w6 =>
  ldnK 2 t6 (fun r0_1 w7 =>
  K (.tuple #[r0_1, (.int .i64 10)]) w7) w6) w3)
  (nilckK v1 fun t26 =>
  ld1K t26 (fun t27 w8 =>
  ixK 2 t27 t14 fun t29 =>
  ldnK 2 t29 (fun t30 w9 =>
  newK 95 [(.slice none 0 0), (.slice none 0 0)] (fun t9 w10 =>
  stnK 2 t9 t30 (fun w11 =>
  nilckK v1 fun t33 =>
  ld1K t33 (fun t34 w12 =>
  runK Tryz.prog (Instr.sliceAt 65 t34 none (some t14) none) (fun t36 w13 =>
  callK Tryz.prog 88 [t36] (fun t37 w14 =>
  nilckK v1 fun t38 =>
  st1K t38 t37 (fun w15 =>
  DrawC [5, 6, 8] [[], [], [1], [1, 2], [], [4], [1, 2, 3, 4, 5], [0, 1, 2, 3, 4, 5, 6], [0, 1, 2, 3, 4, 5, 6, 7]] w15.drew (fun M St =>
  nilckK v2 fun t41 =>
  sld1 (St 3) t41 fun t42 =>
  sldn (St 4) 2 t9 fun t43 =>
  rowK 95 2 1 [(.slice none 0 0), (.slice none 0 0)] [(0, t43)] (fun t44 w16 =>
  Mod (M 5) w15.drew w16 ∧
  runK Tryz.prog (Builtin.append_ #[65, 65] 65 [t42, t44].toArray) (fun t45 w17 =>
  Mod (M 6) w16 w17 ∧
  nilckK v2 fun t46 =>
  st1K t46 t45 (fun w18 =>
  Mod (M 8) w17 w18 ∧
  ldnK 2 t9 (fun t47 w19 =>
  stnK 2 t6 t47 (fun w20 =>
  ldnK 2 t6 (fun r0_2 w21 =>
  K (.tuple #[r0_2, (.int .i64 0)]) w21) w20) w19) w18) w17) w16) w15.drew)) w14) w13) w12) w11) w10) w9) w8) w3))) w2) w1) w
theorem S52_eq (v0 v1 v2 : Value) (K : Cont) (w : World) : S52 v0 v1 v2 K w = D Tryz.prog okf 48 (bodyOf Tryz.f52) (.node [] [] .nil (.node [] [] .nil (.node [] [] (.node [] [] .nil (.node [] [] (.node [] [] .nil .nil) (.node [] [] .nil (.node [] [] (.node [] [] .nil .nil) .nil)))) (.node [] [] .nil (.node [] [] .nil (.node [] [] (.dc [5, 6, 8] [[], [], [1], [1, 2], [], [4], [1, 2, 3, 4, 5], [0, 1, 2, 3, 4, 5, 6], [0, 1, 2, 3, 4, 5, 6, 7]] [[5, 6]]) (.node [] [] .nil .nil))))))) (retK Tryz.prog [.cell 6 95, .tmp 7] K) (nth [v0, v1, v2]) w := by kernel_rfl
theorem S52_ok {v0 v1 v2 : Value} {K : Cont} {w : World} (h : S52 v0 v1 v2 K w) : callK Tryz.prog 52 [v0, v1, v2] K w :=
  callK_of (P := Tryz.prog) (ok := okf) (n := 48) (fn := Tryz.f52) (c := bodyOf Tryz.f52) (rs := [.cell 6 95, .tmp 7]) (an := (.node [] [] .nil (.node [] [] .nil (.node [] [] (.node [] [] .nil (.node [] [] (.node [] [] .nil .nil) (.node [] [] .nil (.node [] [] (.node [] [] .nil .nil) .nil)))) (.node [] [] .nil (.node [] [] .nil (.node [] [] (.dc [5, 6, 8] [[], [], [1], [1, 2], [], [4], [1, 2, 3, 4, 5], [0, 1, 2, 3, 4, 5, 6], [0, 1, 2, 3, 4, 5, 6, 7]] [[5, 6]]) (.node [] [] .nil .nil)))))))) good mixed Tryz.func52 (by kernel_rfl) (by kernel_rfl) (by kernel_rfl) (by kernel_rfl) (Eq.mp (S52_eq v0 v1 v2 K w) h)

/-- (*rubric/history.History).Undo -/
def S19 (v0 : Value) (K : Cont) (w : World) : Prop :=
  callK Tryz.prog 48 [v0] (fun t7 w1 =>
  notK t7 fun t8 =>
  condK t8
  (K (.tuple #[(.slice none 0 0), (.int .i64 1)]) w1)
  (JoinK (fun vs w2 => ∀ _h : Env,
  faK 1 (nth vs 0) fun t20 =>
  ld1K t20 (fun t21 w3 =>
  callK Tryz.prog 49 [t21] (fun t22 w4 =>
  K (.tuple #[t22, (nth vs 1)]) w4) w3) w2) (fun J =>
  DrawC [7, 11, 12] [[], [], [1], [1, 2], [], [4], [4, 5], [0, 1, 2, 3, 4, 5, 6], [0, 1, 2, 3, 4, 5, 6, 7], [0, 1, 2, 3, 4, 5, 6, 7, 8], [0, 1, 2, 3, 4, 5, 6, 7, 8], [], [0, 1, 2, 3, 4, 5, 6, 7, 8, 9, 11], [0, 1, 2, 3, 4, 5, 6, 7, 8, 9, 10, 11, 12]] w1.drew (fun M _St =>
  nilckK v0 fun t12 =>
  faK 3 t12 fun t13 =>
  nilckK v0 fun t15 =>
  faK 4 t15 fun t16 =>
  (callK Tryz.prog 52 [v0, t13, t16] (fun t17 w5 =>
  Mod (M 7) w1.drew w5 ∧
  extK 0 t17 fun t18 =>
  extK 1 t17 fun t19 =>
  newK 95 [(.slice none 0 0), (.slice none 0 0)] (fun t4 w6 =>
  Mod (M 11) w5 w6 ∧
  stnK 2 t4 t18 (fun w7 =>
  Mod (M 12) w6 w7 ∧
  J [t4, t19] w7) w6) w5) w1.drew) ∧
  (newK 95 [(.slice none 0 0), (.slice none 0 0)] (fun t4_1 w8 =>
  Mod (M 11) w1.drew w8 ∧
  callK Tryz.prog 52 [v0, t13, t16] (fun t17_1 w9 =>
  Mod (M 7) w8 w9 ∧
  extK 0 t17_1 fun t18_1 =>
  extK 1 t17_1 fun t19_1 =>
  stnK 2 t4_1 t18_1 (fun w10 =>
  Mod (M 12) w9 w10 ∧
  J [t4_1, t19_1] w10) w9) w8) w1.drew))))) w
theorem S19_eq (v0 : Value) (K : Cont) (w : World) : S19 v0 K w = D Tryz.prog okf 24 (bodyOf Tryz.f19) (.node [] [] .nil (.node [] [] (.node [] [] .nil (.node [] [] (.node [] [] .nil .nil) .nil)) (.cut [4, 5] [(4, 5), (9, 19)] (.dt [7, 11, 12] [[], [], [1], [1, 2], [], [4], [4, 5], [0, 1, 2, 3, 4, 5, 6], [0, 1, 2, 3, 4, 5, 6, 7], [0, 1, 2, 3, 4, 5, 6, 7, 8], [0, 1, 2, 3, 4, 5, 6, 7, 8], [], [0, 1, 2, 3, 4, 5, 6, 7, 8, 9, 11], [0, 1, 2, 3, 4, 5, 6, 7, 8, 9, 10, 11, 12]] [[7]] (.op 0 (.op 1 (.op 2 (.op 3 (.op 4 (.op 5 (.op 6 (.br (.op 7 (.op 8 (.op 9 (.op 10 (.op 11 (.op 12 (.op 13 .nil))))))) (.op 11 (.op 7 (.op 8 (.op 9 (.op 10 (.op 12 (.op 13 .nil)))))))))))))))) (.node [] [] .nil .nil)))) (retK Tryz.prog [.tmp 2, .tmp 3] K) (nth [v0]) w := by kernel_rfl
theorem S19_ok {v0 : Value} {K : Cont} {w : World} (h : S19 v0 K w) : callK Tryz.prog 19 [v0] K w :=
  callK_of (P := Tryz.prog) (ok := okf) (n := 24) (fn := Tryz.f19) (c := bodyOf Tryz.f19) (rs := [.tmp 2, .tmp 3]) (an := (.node [] [] .nil (.node [] [] (.node [] [] .nil (.node [] [] (.node [] [] .nil .nil) .nil)) (.cut [4, 5] [(4, 5), (9, 19)] (.dt [7, 11, 12] [[], [], [1], [1, 2], [], [4], [4, 5], [0, 1, 2, 3, 4, 5, 6], [0, 1, 2, 3, 4, 5, 6, 7], [0, 1, 2, 3, 4, 5, 6, 7, 8], [0, 1, 2, 3, 4, 5, 6, 7, 8], [], [0, 1, 2, 3, 4, 5, 6, 7, 8, 9, 11], [0, 1, 2, 3, 4, 5, 6, 7, 8, 9, 10, 11, 12]] [[7]] (.op 0 (.op 1 (.op 2 (.op 3 (.op 4 (.op 5 (.op 6 (.br (.op 7 (.op 8 (.op 9 (.op 10 (.op 11 (.op 12 (.op 13 .nil))))))) (.op 11 (.op 7 (.op 8 (.op 9 (.op 10 (.op 12 (.op 13 .nil)))))))))))))))) (.node [] [] .nil .nil))))) good mixed Tryz.func19 (by kernel_rfl) (by kernel_rfl) (by kernel_rfl) (by kernel_rfl) (Eq.mp (S19_eq v0 K w) h)

/-- (*rubric/history.History).Redo -/
def S21 (v0 : Value) (K : Cont) (w : World) : Prop :=
  callK Tryz.prog 48 [v0] (fun t7 w1 =>
  notK t7 fun t8 =>
  condK t8
  (K (.tuple #[(.slice none 0 0), (.int .i64 1)]) w1)
  (JoinK (fun vs w2 => ∀ _h : Env,
  faK 0 (nth vs 0) fun t20 =>
  ld1K t20 (fun t21 w3 =>
  callK Tryz.prog 49 [t21] (fun t22 w4 =>
  K (.tuple #[t22, (nth vs 1)]) w4) w3) w2) (fun J =>
  DrawC [7, 11, 12] [[], [], [1], [1, 2], [], [4], [4, 5], [0, 1, 2, 3, 4, 5, 6], [0, 1, 2, 3, 4, 5, 6, 7], [0, 1, 2, 3, 4, 5, 6, 7, 8], [0, 1, 2, 3, 4, 5, 6, 7, 8], [], [0, 1, 2, 3, 4, 5, 6, 7, 8, 9, 11], [0, 1, 2, 3, 4, 5, 6, 7, 8, 9, 10, 11, 12]] w1.drew (fun M _St =>
  nilckK v0 fun t12 =>
  faK 4 t12 fun t13 =>
  nilckK v0 fun t15 =>
  faK 3 t15 fun t16 =>
  (callK Tryz.prog 52 [v0, t13, t16] (fun t17 w5 =>
  Mod (M 7) w1.drew w5 ∧
  extK 0 t17 fun t18 =>
  extK 1 t17 fun t19 =>
  newK 95 [(.slice none 0 0), (.slice none 0 0)] (fun t4 w6 =>
  Mod (M 11) w5 w6 ∧
  stnK 2 t4 t18 (fun w7 =>
  Mod (M 12) w6 w7 ∧
  J [t4, t19] w7) w6) w5) w1.drew) ∧
  (newK 95 [(.slice none 0 0), (.slice none 0 0)] (fun t4_1 w8 =>
  Mod (M 11) w1.drew w8 ∧
  callK Tryz.prog 52 [v0, t13, t16] (fun t17_1 w9 =>
  Mod (M 7) w8 w9 ∧
  extK 0 t17_1 fun t18_1 =>
  extK 1 t17_1 fun t19_1 =>
  stnK 2 t4_1 t18_1 (fun w10 =>
  Mod (M 12) w9 w10 ∧
  J [t4_1, t19_1] w10) w9) w8) w1.drew))))) w
theorem S21_eq (v0 : Value) (K : Cont) (w : World) : S21 v0 K w = D Tryz.prog okf 24 (bodyOf Tryz.f21) (.node [] [] .nil (.node [] [] (.node [] [] .nil (.node [] [] (.node [] [] .nil .nil) .nil)) (.cut [4, 5] [(4, 5), (9, 19)] (.dt [7, 11, 12] [[], [], [1], [1, 2], [], [4], [4, 5], [0, 1, 2, 3, 4, 5, 6], [0, 1, 2, 3, 4, 5, 6, 7], [0, 1, 2, 3, 4, 5, 6, 7, 8], [0, 1, 2, 3, 4, 5, 6, 7, 8], [], [0, 1, 2, 3, 4, 5, 6, 7, 8, 9, 11], [0, 1, 2, 3, 4, 5, 6, 7, 8, 9, 10, 11, 12]] [[7]] (.op 0 (.op 1 (.op 2 (.op 3 (.op 4 (.op 5 (.op 6 (.br (.op 7 (.op 8 (.op 9 (.op 10 (.op 11 (.op 12 (.op 13 .nil))))))) (.op 11 (.op 7 (.op 8 (.op 9 (.op 10 (.op 12 (.op 13 .nil)))))))))))))))) (.node [] [] .nil .nil)))) (retK Tryz.prog [.tmp 2, .tmp 3] K) (nth [v0]) w := by kernel_rfl
theorem S21_ok {v0 : Value} {K : Cont} {w : World} (h : S21 v0 K w) : callK Tryz.prog 21 [v0] K w :=
  callK_of (P := Tryz.prog) (ok := okf) (n := 24) (fn := Tryz.f21) (c := bodyOf Tryz.f21) (rs := [.tmp 2, .tmp 3]) (an := (.node [] [] .nil (.node [] [] (.node [] [] .nil (.node [] [] (.node [] [] .nil .nil) .nil)) (.cut [4, 5] [(4, 5), (9, 19)] (.dt [7, 11, 12] [[], [], [1], [1, 2], [], [4], [4, 5], [0, 1, 2, 3, 4, 5, 6], [0, 1, 2, 3, 4, 5, 6, 7], [0, 1, 2, 3, 4, 5, 6, 7, 8], [0, 1, 2, 3, 4, 5, 6, 7, 8], [], [0, 1, 2, 3, 4, 5, 6, 7, 8, 9, 11], [0, 1, 2, 3, 4, 5, 6, 7, 8, 9, 10, 11, 12]] [[7]] (.op 0 (.op 1 (.op 2 (.op 3 (.op 4 (.op 5 (.op 6 (.br (.op 7 (.op 8 (.op 9 (.op 10 (.op 11 (.op 12 (.op 13 .nil))))))) (.op 11 (.op 7 (.op 8 (.op 9 (.op 10 (.op 12 (.op 13 .nil)))))))))))))))) (.node [] [] .nil .nil))))) good mixed Tryz.func21 (by kernel_rfl) (by kernel_rfl) (by kernel_rfl) (by kernel_rfl) (Eq.mp (S21_eq v0 K w) h)

/-- (*rubric/history.History).Open -/
def S33 (v0 : Value) (K : Cont) (w : World) : Prop :=
  callK Tryz.prog 48 [v0] (fun t4 w1 =>
  condK t4
  (nilckK v0 fun t7 =>
  faK 5 t7 fun t8 =>
  ld1K t8 (fun t9 w2 =>
  K t9 w2) w1)
  (K (.bool false) w1)) w
theorem S33_eq (v0 : Value) (K : Cont) (w : World) : S33 v0 K w = D Tryz.prog okf 11 (bodyOf Tryz.f33) (.node [] [] .nil (.node [] [] .nil .nil)) (retK Tryz.prog [.tmp 2] K) (nth [v0]) w := by kernel_rfl
theorem S33_ok {v0 : Value} {K : Cont} {w : World} (h : S33 v0 K w) : callK Tryz.prog 33 [v0] K w :=
  callK_of (P := Tryz.prog) (ok := okf) (n := 11) (fn := Tryz.f33) (c := bodyOf Tryz.f33) (rs := [.tmp 2]) (an := (.node [] [] .nil (.node [] [] .nil .nil))) good mixed Tryz.func33 (by kernel_rfl) (by kernel_rfl) (by kernel_rfl) (by kernel_rfl) (Eq.mp (S33_eq v0 K w) h)

/-- (*rubric/history.History).Depths -/
def S20 (v0 : Value) (K : Cont) (w : World) : Prop :=
  callK Tryz.prog 48 [v0] (fun t5 w1 =>
  notK t5 fun t6 =>
  condK t6
  (K (.tuple #[(.int .i64 0), (.int .i64 0)]) w1)
  (DrawK w1 (fun C =>
  nilckK v0 fun t8 =>
  faK 3 t8 fun t9 =>
  qld1K C t9 fun t10 =>
  lenK t10 fun t11 =>
  nilckK v0 fun t13 =>
  faK 4 t13 fun t14 =>
  qld1K C t14 fun t15 =>
  lenK t15 fun t16 =>
  ∀ w2 : World, C w2 →
  K (.tuple #[t11, t16]) w2))) w
theorem S20_eq (v0 : Value) (K : Cont) (w : World) : S20 v0 K w = D Tryz.prog okf 17 (bodyOf Tryz.f20) (.node [] [] .nil (.node [] [] (.node [] [] .nil (.node [] [] (.node [] [] .nil .nil) .nil)) (.node [] [] .draw .nil))) (retK Tryz.prog [.tmp 2, .tmp 3] K) (nth [v0]) w := by kernel_rfl
theorem S20_ok {v0 : Value} {K : Cont} {w : World} (h : S20 v0 K w) : callK Tryz.prog 20 [v0] K w :=
  callK_of (P := Tryz.prog) (ok := okf) (n := 17) (fn := Tryz.f20) (c := bodyOf Tryz.f20) (rs := [.tmp 2, .tmp 3]) (an := (.node [] [] .nil (.node [] [] (.node [] [] .nil (.node [] [] (.node [] [] .nil .nil) .nil)) (.node [] [] .draw .nil)))) good mixed Tryz.func20 (by kernel_rfl) (by kernel_rfl) (by kernel_rfl) (by kernel_rfl) (Eq.mp (S20_eq v0 K w) h)

/-- slices.Clone[[]rubric/history.group,rubric/history.group] -/
def S88 (v0 : Value) (K : Cont) (w : World) : Prop :=
  snilK v0 fun b4 =>
  condK (.bool b4)
  (K (.slice none 0 0) w)
  (rowK 95 2 0 [] [] (fun t5 w1 =>
  runK Tryz.prog (Builtin.append_ #[65, 65] 65 [t5, v0].toArray) (fun t7 w2 =>
  K t7 w2) w1) w)
theorem S88_eq (v0 : Value) (K : Cont) (w : World) : S88 v0 K w = D Tryz.prog okf 8 (bodyOf Tryz.f88) (.node [] [] .nil (.node [] [] (.node [] [] .nil (.node [] [] (.node [] [] .nil .nil) .nil)) (.node [] [] .nil .nil))) (retK Tryz.prog [.tmp 2] K) (nth [v0]) w := by kernel_rfl
theorem S88_ok {v0 : Value} {K : Cont} {w : World} (h : S88 v0 K w) : callK Tryz.prog 88 [v0] K w :=
  callK_of (P := Tryz.prog) (ok := okf) (n := 8) (fn := Tryz.f88) (c := bodyOf Tryz.f88) (rs := [.tmp 2]) (an := (.node [] [] .nil (.node [] [] (.node [] [] .nil (.node [] [] (.node [] [] .nil .nil) .nil)) (.node [] [] .nil .nil)))) good mixed Tryz.func88 (by kernel_rfl) (by kernel_rfl) (by kernel_rfl) (by kernel_rfl) (Eq.mp (S88_eq v0 K w) h)

/-- rubric/rubriclaw27.in -/
def S17 (v0 : Value) (K : Cont) (w : World) : Prop :=
  rowK 21 1 1 [(.int .i32 0)] [(0, v0)] (fun t5 w1 =>
  buildK [(0, 1), (1, 1), (2, 1), (3, 1), (4, 1)] [(.int .u8 0), (.int .i64 0), (.slice none 0 0), (.slice none 0 0), (.slice none 0 0)] [(0, (.int .u8 2)), (2, t5)] fun t6 =>
  rowK 39 5 1 [(.int .u8 0), (.int .i64 0), (.slice none 0 0), (.slice none 0 0), (.slice none 0 0)] [(0, t6)] (fun t7 w2 =>
  buildK [(0, 1), (1, 1), (2, 1), (3, 1), (4, 1)] [(.int .u8 0), (.int .i64 0), (.slice none 0 0), (.slice none 0 0), (.slice none 0 0)] [(0, (.int .u8 3)), (1, (.int .i64 1))] fun t8 =>
  rowK 39 5 1 [(.int .u8 0), (.int .i64 0), (.slice none 0 0), (.slice none 0 0), (.slice none 0 0)] [(0, t8)] (fun t9 w3 =>
  K (.tuple #[t7, t9]) w3) w2) w1) w
theorem S17_eq (v0 : Value) (K : Cont) (w : World) : S17 v0 K w = D Tryz.prog okf 10 (bodyOf Tryz.f17) (.node [] [] .nil (.node [] [] .nil .nil)) (retK Tryz.prog [.tmp 2, .tmp 3] K) (nth [v0]) w := by kernel_rfl
theorem S17_ok {v0 : Value} {K : Cont} {w : World} (h : S17 v0 K w) : callK Tryz.prog 17 [v0] K w :=
  callK_of (P := Tryz.prog) (ok := okf) (n := 10) (fn := Tryz.f17) (c := bodyOf Tryz.f17) (rs := [.tmp 2, .tmp 3]) (an := (.node [] [] .nil (.node [] [] .nil .nil))) good mixed Tryz.func17 (by kernel_rfl) (by kernel_rfl) (by kernel_rfl) (by kernel_rfl) (Eq.mp (S17_eq v0 K w) h)

/-- rubric/rubriclaw27.known -/
def S16 (K : Cont) (w : World) : Prop :=
  callK Tryz.prog 14 [(.slice none 0 0)] (fun t22 w1 =>
  extK 0 t22 fun t23 =>
  extK 1 t22 fun t24 =>
  callK Tryz.prog 15 [t23, (.int .i64 2)] (fun t27 w2 =>
  extK 0 t27 fun t28 =>
  extK 1 t27 fun t29 =>
  JoinK (fun _vs w3 => ∀ _h : Env,
  runK Tryz.prog (Instr.build 93 [(0, (.int .i32 97)), (1, (.int .i32 98)), (2, (.int .i32 99))].toArray) (fun t40 w4 =>
  LoopK [(.int .i64 0)] (fun vs_1 again w5 => ∀ _h_1 : Env,
  ltK .i64 (nth vs_1 0) (.int .i64 3) fun t42 =>
  condK t42
  (runK Tryz.prog (Instr.index 93 t40 (nth vs_1 0)) (fun t43 w6 =>
  callK Tryz.prog 17 [t43] (fun t46 w7 =>
  extK 0 t46 fun t47 =>
  extK 1 t46 fun t48 =>
  callK Tryz.prog 18 [t28, t47, t48] (fun t52 w8 =>
  neK .i64 t52 (.int .i64 0) fun t53 =>
  condK t53
  (K (.bool false) w8)
  (addK .i64 (nth vs_1 0) (.int .i64 1) fun t54 =>
  again [t54] w8)) w7) w6) w5)
  (callK Tryz.prog 19 [t28] (fun t57 w9 =>
  extK 0 t57 fun t58 =>
  extK 1 t57 fun t59 =>
  callK Tryz.prog 19 [t28] (fun t62 w10 =>
  extK 0 t62 fun _t63 =>
  extK 1 t62 fun t64 =>
  callK Tryz.prog 19 [t28] (fun t67 w11 =>
  extK 0 t67 fun _t68 =>
  extK 1 t67 fun t69 =>
  callK Tryz.prog 21 [t28] (fun t72 w12 =>
  extK 0 t72 fun t73 =>
  extK 1 t72 fun t74 =>
  callK Tryz.prog 17 [(.int .i32 98)] (fun t76 w13 =>
  extK 0 t76 fun t77 =>
  extK 1 t76 fun t78 =>
  callK Tryz.prog 20 [t28] (fun t81 w14 =>
  extK 0 t81 fun t82 =>
  extK 1 t81 fun t83 =>
  eqK .i64 t59 (.int .i64 0) fun t85 =>
  condK t85
  (eqK .i64 t64 (.int .i64 0) fun t88 =>
  condK t88
  (eqK .i64 t69 (.int .i64 10) fun t92 =>
  condK t92
  (eqK .i64 t74 (.int .i64 0) fun t96 =>
  condK t96
  (callK Tryz.prog 22 [t58, t78] (fun t101 w15 =>
  condK t101
  (callK Tryz.prog 22 [t73, t77] (fun t106 w16 =>
  condK t106
  (eqK .i64 t82 (.int .i64 1) fun t110 =>
  condK t110
  (eqK .i64 t83 (.int .i64 1) fun t114 =>
  condK t114
  (callK Tryz.prog 18 [t28, t77, t78] (fun t120 w17 =>
  eqK .i64 t120 (.int .i64 0) fun t121 =>
  condK t121
  (callK Tryz.prog 27 [t28] (fun t125 w18 =>
  eqK .i64 t125 (.int .i64 0) fun t126 =>
  condK t126
  (callK Tryz.prog 27 [t28] (fun t130 w19 =>
  eqK .i64 t130 (.int .i64 9) fun t131 =>
  condK t131
  (callK Tryz.prog 33 [t28] (fun t135 w20 =>
  K t135 w20) w19)
  (K (.bool false) w19)) w18)
  (K (.bool false) w18)) w17)
  (K (.bool false) w17)) w16)
  (K (.bool false) w16))
  (K (.bool false) w16))
  (K (.bool false) w16)) w15)
  (K (.bool false) w15)) w14)
  (K (.bool false) w14))
  (K (.bool false) w14))
  (K (.bool false) w14))
  (K (.bool false) w14)) w13) w12) w11) w10) w9) w5)) w4) w3) (fun J =>
  neK .i64 t24 (.int .i64 0) fun t31 =>
  condK t31
  (K (.bool false) w2)
  (neK .i64 t29 (.int .i64 0) fun t34 =>
  condK t34
  (K (.bool false) w2)
  (pnilK t28 fun b38 =>
  condK (.bool b38)
  (K (.bool false) w2)
  (J [] w2))))) w1) w
theorem S16_eq (K : Cont) (w : World) : S16  K w = D Tryz.prog okf 137 (bodyOf Tryz.f16) (.node [] [] .nil (.node [] [] .nil (.node [] [] .nil (.cut [] [(0, 0), (30, 39)] (.node [] [] .nil (.node [] [] (.node [] [] .nil .nil) .nil)) (.node [] [] (.node [] [] .nil (.node [41] [(0, 0), (6, 8), (41, 54)] (.node [] [] .nil (.node [] [] (.node [] [] .nil .nil) (.node [] [] (.node [] [] .nil (.node [] [] .nil (.node [] [] .nil (.node [] [] (.node [] [] .nil .nil) .nil)))) .nil))) .nil)) (.node [] [] .nil (.node [] [] .nil (.node [] [] .nil (.node [] [] .nil (.node [] [] .nil (.node [] [] .nil (.node [] [] .nil .nil)))))))))))) (retK Tryz.prog [.tmp 0] K) (nth []) w := by kernel_rfl
theorem S16_ok {K : Cont} {w : World} (h : S16  K w) : callK Tryz.prog 16 [] K w :=
  callK_of (P := Tryz.prog) (ok := okf) (n := 137) (fn := Tryz.f16) (c := bodyOf Tryz.f16) (rs := [.tmp 0]) (an := (.node [] [] .nil (.node [] [] .nil (.node [] [] .nil (.cut [] [(0, 0), (30, 39)] (.node [] [] .nil (.node [] [] (.node [] [] .nil .nil) .nil)) (.node [] [] (.node [] [] .nil (.node [41] [(0, 0), (6, 8), (41, 54)] (.node [] [] .nil (.node [] [] (.node [] [] .nil .nil) (.node [] [] (.node [] [] .nil (.node [] [] .nil (.node [] [] .nil (.node [] [] (.node [] [] .nil .nil) .nil)))) .nil))) .nil)) (.node [] [] .nil (.node [] [] .nil (.node [] [] .nil (.node [] [] .nil (.node [] [] .nil (.node [] [] .nil (.node [] [] .nil .nil))))))))))))) good mixed Tryz.func16 (by kernel_rfl) (by kernel_rfl) (by kernel_rfl) (by kernel_rfl) (Eq.mp (S16_eq  K w) h)

end Go.Proofs.YtlbaopamhkmepaaGreatDoor

namespace Go.Proofs.YtlbaopamhkmepaaGreatDoor
open Go Go.K
structure Grp where
  d : List Dop
  u : List Dop
/-- a history as data: the most groups, those to be undone and done again, the newest one last; whether a bracket is open, and its group -/
structure Hist where
  max : Nat
  us : List Grp
  rs : List Grp
  op : Bool
  own : List Grp
/-- a group more, of at most mx -/
def keepL (mx : Nat) (us : List Grp) (g : Grp) : List Grp := if us.length < mx then us ++ [g] else (us ++ [g]).drop 1
theorem keepL_len {mx : Nat} {us : List Grp} {g : Grp} (h : us.length ≤ mx) : (keepL mx us g).length ≤ mx ∧ (keepL mx us g).length = min (us.length + 1) mx := by
  unfold keepL
  split
  · simp; omega
  · simp; omega

abbrev TGrp : Nat := 95
theorem RDops.to {S S' D D' M : Nat → Prop} {w w' : World} {v : Value} {l : List Dop} (h : RDops S D w v l) (hm : Mod M w w') (hS : ∀ b, b < w.heap.size → S b → ¬ M b) (hD : ∀ b, b < w.heap.size → D b → ¬ M b) (hS' : ∀ b, b < w.heap.size → S b → S' b) (hD' : ∀ b, b < w.heap.size → D b → D' b) : RDops S' D' w' v l :=
  SlR.mono h hS' (fun b hb hs => hm.same b hb (hS b hb hs)) (by decide) fun _ _ hx => hx.mod hm hD hD'
def RGrp (C : Nat → Prop) : World → List Value → Grp → Prop := fun w r g => ∃ dv uv, r = [dv, uv] ∧ RDops C C w dv g.d ∧ RDops C C w uv g.u
theorem RGrp.one {C : Nat → Prop} {w : World} {r : List Value} {g : Grp} (h : RGrp C w r g) : ∀ u ∈ r, u.oneCell' = true := by
  obtain ⟨dv, uv, rfl, h1, h2⟩ := h
  obtain ⟨a, c, rfl, _⟩ := h1.shape
  obtain ⟨a', c', rfl, _⟩ := h2.shape
  intro u hu
  simp at hu
  rcases hu with rfl | rfl <;> rfl
theorem RGrp.to {C C' M : Nat → Prop} {w w' : World} {r : List Value} {g : Grp} (h : RGrp C w r g) (hm : Mod M w w') (hC : ∀ b, b < w.heap.size → C b → ¬ M b) (hC' : ∀ b, b < w.heap.size → C b → C' b) : RGrp C' w' r g := by
  obtain ⟨dv, uv, e, h1, h2⟩ := h
  exact ⟨dv, uv, e, h1.to hm hC hC hC' hC', h2.to hm hC hC hC' hC'⟩
theorem RGrp.mod {C M : Nat → Prop} {w w' : World} {r : List Value} {g : Grp} (h : RGrp C w r g) (hm : Mod M w w') (hC : ∀ b, b < w.heap.size → C b → ¬ M b) : RGrp C w' r g := h.to hm hC fun _ _ h => h
theorem elem_grp : ElemOK Tryz.prog 65 TGrp 2 48 := ⟨Tryz.t95, .agg #[.slice none 0 0, .slice none 0 0], by kernel_rfl, by kernel_rfl, by kernel_rfl, by kernel_rfl, by kernel_rfl, by rfl, by decide⟩
/-- the seven cells -/
abbrev histL (sv : Value) (mx : Nat) (uv rv : Value) (op : Bool) (ov : Value) : List Value := [sv, .int .i64 mx, .bool true, uv, rv, .bool op, ov]
/-- a history at block b. F: all its blocks; C: those that are only read -/
structure HistR (F C : Nat → Prop) (W : World) (b : Nat) (sv : Value) (ks : List DKey) (uv rv ov : Value) (mx : Nat) (us rs : List Grp) (op : Bool) (own : List Grp) : Prop where
  cells : ∀ j v, (histL sv mx uv rv op ov)[j]? = some v → W.cell? ⟨b, j, none⟩ = some v
  live : ∀ j, j < 7 → Live W ⟨b, j, none⟩
  sch : SchR C W sv ks
  und : StkR TGrp 2 (RGrp C) W uv us
  red : StkR TGrp 2 (RGrp C) W rv rs
  own : SlR C 2 (RGrp C) W ov own
  fb : F b ∧ ¬ C b
  uF : ∀ g, uv.ownBlock = some g → F g ∧ ¬ C g ∧ g ≠ b
  rF : ∀ g, rv.ownBlock = some g → F g ∧ ¬ C g ∧ g ≠ b ∧ uv.ownBlock ≠ some g
  cf : ∀ x, C x → F x ∧ x < W.heap.size
section
variable {F C M : Nat → Prop} {W W' : World} {b : Nat} {sv : Value} {ks : List DKey} {uv rv ov : Value} {mx : Nat} {us rs own : List Grp} {op : Bool}
theorem HistR.lt (h : HistR F C W b sv ks uv rv ov mx us rs op own) : b < W.heap.size := World.block_lt_of_cell? W _ (h.cells 5 _ rfl)
theorem HistR.mod (h : HistR F C W b sv ks uv rv ov mx us rs op own) (hm : Mod M W W') (hM : ∀ x, F x → ¬ M x) : HistR F C W' b sv ks uv rv ov mx us rs op own :=
  have hC : ∀ x, x < W.heap.size → C x → ¬ M x := fun x _ hx => hM x (h.cf x hx).1
  ⟨fun j v hv => hm.cell (h.cells j v hv) (hM b h.fb.1), fun j hj => (h.live j hj).mod hm (hM b h.fb.1), h.sch.mod hm hC, h.und.mod (by decide) hm (fun g hg => hM g (h.uF g hg).1) fun r x hx => hx.mod hm hC, h.red.mod (by decide) hm (fun g hg => hM g (h.rF g hg).1) fun r x hx => hx.mod hm hC, h.own.mod hm hC (by decide) fun r x hx => hx.mod hm hC,
    h.fb, h.uF, h.rF, fun x hx => ⟨(h.cf x hx).1, Nat.lt_of_lt_of_le (h.cf x hx).2 hm.size⟩⟩
theorem HistR.grow (h : HistR F C W b sv ks uv rv ov mx us rs op own) (g : Grow W W') : HistR F C W' b sv ks uv rv ov mx us rs op own := h.mod g fun _ _ h => h
/-- more blocks that are only read -/
theorem HistR.more {F' C' : Nat → Prop} (h : HistR F C W b sv ks uv rv ov mx us rs op own) (hF : ∀ x, F x → F' x) (hC : ∀ x, C x → C' x) (hn : ∀ x, C' x → F' x ∧ x < W.heap.size ∧ (C x ∨ ¬ F x)) : HistR F' C' W b sv ks uv rv ov mx us rs op own := by
  have m0 : Mod (fun _ => False) W W := Mod.refl _ _
  have no : ∀ g, F g → ¬ C g → ¬ C' g := fun g hf hc hc' => by
    rcases (hn g hc').2.2 with h | h
    · exact hc h
    · exact h hf
  exact ⟨h.cells, h.live, h.sch.sub fun x _ hx => hC x hx, h.und.mod (by decide) m0 (fun _ _ h => h) fun r x hx => hx.to m0 (fun _ _ _ h => h) fun x _ hx => hC x hx, h.red.mod (by decide) m0 (fun _ _ h => h) fun r x hx => hx.to m0 (fun _ _ _ h => h) fun x _ hx => hC x hx, h.own.sub (fun x _ hx => hC x hx) (by decide) fun r x hx => hx.to m0 (fun _ _ _ h => h) fun x _ hx => hC x hx,
    ⟨hF _ h.fb.1, no b h.fb.1 h.fb.2⟩, fun g hg => ⟨hF _ (h.uF g hg).1, no g (h.uF g hg).1 (h.uF g hg).2.1, (h.uF g hg).2.2⟩, fun g hg => ⟨hF _ (h.rF g hg).1, no g (h.rF g hg).1 (h.rF g hg).2.1, (h.rF g hg).2.2⟩, fun x hx => ⟨(hn x hx).1, (hn x hx).2.1⟩⟩
theorem HistR.setOp {op' : Bool} {K : World → Prop} (h : HistR F C W b sv ks uv rv ov mx us rs op own)
    (hK : ∀ W', HistR F C W' b sv ks uv rv ov mx us rs op' own → Mod (fun x => x = b) W W' → K W') : st1K (.pointer (some ⟨b, 5, none⟩)) (.bool op') K W := by
  refine box_store h.cells (fun j hj => h.live j hj) (q := 5) (show 5 < 7 by decide) rfl rfl fun W' hm hc hl => ?_
  have hC : ∀ x, x < W.heap.size → C x → ¬ x = b := fun x _ hx e => h.fb.2 (e ▸ hx)
  exact hK W' ⟨hc, fun j hj => hl j hj, h.sch.mod hm hC, h.und.mod (by decide) hm (fun g hg => (h.uF g hg).2.2) fun r x hx => hx.mod hm hC, h.red.mod (by decide) hm (fun g hg => (h.rF g hg).2.2.1) fun r x hx => hx.mod hm hC, h.own.mod hm hC (by decide) fun r x hx => hx.mod hm hC,
    h.fb, h.uF, h.rF, fun x hx => ⟨(h.cf x hx).1, Nat.lt_of_lt_of_le (h.cf x hx).2 hm.size⟩⟩ hm
theorem HistR.setOwn {ov' : Value} {own' : List Grp} {K : World → Prop} (h : HistR F C W b sv ks uv rv ov mx us rs op own) (ho : SlR C 2 (RGrp C) W ov' own')
    (hK : ∀ W', HistR F C W' b sv ks uv rv ov' mx us rs op own' → Mod (fun x => x = b) W W' → K W') : st1K (.pointer (some ⟨b, 6, none⟩)) ov' K W := by
  refine box_store h.cells (fun j hj => h.live j hj) (q := 6) (show 6 < 7 by decide) (by obtain ⟨a, c, rfl, _⟩ := ho.shape; rfl) (by obtain ⟨a, c, rfl, _⟩ := ho.shape; rfl) fun W' hm hc hl => ?_
  have hC : ∀ x, x < W.heap.size → C x → ¬ x = b := fun x _ hx e => h.fb.2 (e ▸ hx)
  exact hK W' ⟨hc, fun j hj => hl j hj, h.sch.mod hm hC, h.und.mod (by decide) hm (fun g hg => (h.uF g hg).2.2) fun r x hx => hx.mod hm hC, h.red.mod (by decide) hm (fun g hg => (h.rF g hg).2.2.1) fun r x hx => hx.mod hm hC, ho.mod hm hC (by decide) fun r x hx => hx.mod hm hC,
    h.fb, h.uF, h.rF, fun x hx => ⟨(h.cf x hx).1, Nat.lt_of_lt_of_le (h.cf x hx).2 hm.size⟩⟩ hm
/-- another row of groups -/
theorem HistR.setU {F' : Nat → Prop} {uv' : Value} {us' : List Grp} {K : World → Prop} (h : HistR F C W b sv ks uv rv ov mx us rs op own) (hm : Mod M W W') (hMo : ∀ x, M x → uv.ownBlock = some x) (hF : ∀ x, F x → F' x)
    (ho : StkR TGrp 2 (RGrp C) W' uv' us') (hn : ∀ g, uv'.ownBlock = some g → uv.ownBlock = some g ∨ W.heap.size ≤ g ∧ F' g)
    (hK : ∀ W'', HistR F' C W'' b sv ks uv' rv ov mx us' rs op own → Mod (fun x => x = b) W' W'' → K W'') : st1K (.pointer (some ⟨b, 3, none⟩)) uv' K W' := by
  have hbM : ¬ M b := fun e => (h.uF b (hMo b e)).2.2 rfl
  have hCM : ∀ x, x < W.heap.size → C x → ¬ M x := fun x _ hx e => (h.uF x (hMo x e)).2.1 hx
  refine box_store (vs := histL sv mx uv rv op ov) (fun j v hv => hm.cell (h.cells j v hv) hbM) (fun j hj => (h.live j hj).mod hm hbM) (q := 3) (show 3 < 7 by decide) ho.one.1 ho.one.2 fun W'' hm' hc hl => ?_
  have hC' : ∀ x, x < W'.heap.size → C x → ¬ x = b := fun x _ hx e => h.fb.2 (e ▸ hx)
  have hbs := h.lt
  have ou := h.und.ownB
  have or := h.red.ownB
  have nb : ∀ g, uv'.ownBlock = some g → F' g ∧ ¬ C g ∧ g ≠ b := fun g hg => by
    rcases hn g hg with e | ⟨e, e'⟩
    · have := h.uF g e; exact ⟨hF _ this.1, this.2.1, this.2.2⟩
    · exact ⟨e', fun hc => by have := (h.cf g hc).2; omega, fun e2 => by omega⟩
  exact hK W'' ⟨hc, fun j hj => hl j hj, (h.sch.mod hm hCM).mod hm' hC', ho.mod (by decide) hm' (fun g hg => (nb g hg).2.2) fun r x hx => hx.mod hm' hC', (h.red.mod (R' := RGrp C) (by decide) hm (fun g hg e => (h.rF g hg).2.2.2 (hMo g e)) fun r x hx => hx.mod hm hCM).mod (by decide) hm' (fun g hg => (h.rF g hg).2.2.1) fun r x hx => hx.mod hm' hC', (h.own.mod hm hCM (by decide) fun r x hx => hx.mod hm hCM).mod hm' hC' (by decide) fun r x hx => hx.mod hm' hC',
    ⟨hF _ h.fb.1, h.fb.2⟩, nb, fun g hg => ⟨hF _ (h.rF g hg).1, (h.rF g hg).2.1, (h.rF g hg).2.2.1, fun e => by
      rcases hn g e with e1 | ⟨e1, _⟩
      · exact (h.rF g hg).2.2.2 e1
      · have := or g hg; omega⟩,
    fun x hx => ⟨hF _ (h.cf x hx).1, Nat.lt_of_lt_of_le (h.cf x hx).2 (Nat.le_trans hm.size hm'.size)⟩⟩ hm'
/-- another row of groups -/
theorem HistR.setR {F' : Nat → Prop} {rv' : Value} {rs' : List Grp} {K : World → Prop} (h : HistR F C W b sv ks uv rv ov mx us rs op own) (hm : Mod M W W') (hMo : ∀ x, M x → rv.ownBlock = some x) (hF : ∀ x, F x → F' x)
    (ho : StkR TGrp 2 (RGrp C) W' rv' rs') (hn : ∀ g, rv'.ownBlock = some g → rv.ownBlock = some g ∨ W.heap.size ≤ g ∧ F' g)
    (hK : ∀ W'', HistR F' C W'' b sv ks uv rv' ov mx us rs' op own → Mod (fun x => x = b) W' W'' → K W'') : st1K (.pointer (some ⟨b, 4, none⟩)) rv' K W' := by
  have hbM : ¬ M b := fun e => (h.rF b (hMo b e)).2.2.1 rfl
  have hCM : ∀ x, x < W.heap.size → C x → ¬ M x := fun x _ hx e => (h.rF x (hMo x e)).2.1 hx
  refine box_store (vs := histL sv mx uv rv op ov) (fun j v hv => hm.cell (h.cells j v hv) hbM) (fun j hj => (h.live j hj).mod hm hbM) (q := 4) (show 4 < 7 by decide) ho.one.1 ho.one.2 fun W'' hm' hc hl => ?_
  have hC' : ∀ x, x < W'.heap.size → C x → ¬ x = b := fun x _ hx e => h.fb.2 (e ▸ hx)
  have hbs := h.lt
  have ou := h.und.ownB
  have or := h.red.ownB
  have nb : ∀ g, rv'.ownBlock = some g → F' g ∧ ¬ C g ∧ g ≠ b := fun g hg => by
    rcases hn g hg with e | ⟨e, e'⟩
    · have := h.rF g e; exact ⟨hF _ this.1, this.2.1, this.2.2.1⟩
    · exact ⟨e', fun hc => by have := (h.cf g hc).2; omega, fun e2 => by omega⟩
  exact hK W'' ⟨hc, fun j hj => hl j hj, (h.sch.mod hm hCM).mod hm' hC', (h.und.mod (R' := RGrp C) (by decide) hm (fun g hg e => (h.rF g (hMo g e)).2.2.2 hg) fun r x hx => hx.mod hm hCM).mod (by decide) hm' (fun g hg => (h.uF g hg).2.2) fun r x hx => hx.mod hm' hC', ho.mod (by decide) hm' (fun g hg => (nb g hg).2.2) fun r x hx => hx.mod hm' hC', (h.own.mod hm hCM (by decide) fun r x hx => hx.mod hm hCM).mod hm' hC' (by decide) fun r x hx => hx.mod hm' hC',
    ⟨hF _ h.fb.1, h.fb.2⟩, fun g hg => ⟨hF _ (h.uF g hg).1, (h.uF g hg).2⟩, fun g hg => ⟨(nb g hg).1, (nb g hg).2.1, (nb g hg).2.2, fun e => by
      rcases hn g hg with e1 | ⟨e1, _⟩
      · exact (h.rF g e1).2.2.2 e
      · have := ou g e; omega⟩,
    fun x hx => ⟨hF _ (h.cf x hx).1, Nat.lt_of_lt_of_le (h.cf x hx).2 (Nat.le_trans hm.size hm'.size)⟩⟩ hm'
/-- the first element is cleared, and the slice begins behind it -/
theorem clear_first {g c : Nat} {l : List Grp} (h : OwnR 0 TGrp 2 (RGrp C) W (.slice (some ⟨g, 0, none⟩) l.length c) l) (h0 : 0 < l.length) (hgC : ¬ C g) :
    ∃ W', (Builtin.clear_ #[65] 0 [.slice (some ⟨g, 0, none⟩) 1 c].toArray).run Tryz.prog W = .ok (.tuple #[]) W' ∧ Mod (fun x => x = g) W W' ∧ StkR TGrp 2 (RGrp C) W' (sliced (some ⟨g, 0, none⟩) 1 l.length l.length 2) (l.drop 1) := by
  obtain ⟨a, r, e1, _, hr, hc, _⟩ := h.sl.get h0
  cases e1
  have hz : (Builtin.zeroCells (Value.agg #[.slice none 0 0, .slice none 0 0]).cells 1).toList = [.slice none 0 0, .slice none 0 0] := by kernel_rfl
  have hlv : ∀ j, j < 2 → Live W ((⟨g, 0, none⟩ : Addr).add j) := fun j hj => by
    obtain ⟨g', e, _, hl⟩ := OwnR.live h (i := 0) (j := j) h0 hj
    cases e
    rwa [Nat.zero_mul, Nat.zero_add] at hl
  have hrun := setL_run (P := Tryz.prog) (⟨g, 0, none⟩ : Addr) [.slice none 0 0, .slice none 0 0] 0 W (fun u hu => by simp at hu; rcases hu with rfl | rfl <;> rfl) (fun j _ hj => hlv j (by simpa using hj))
  obtain ⟨m1, _, _, _⟩ := setL_over (b := g) [.slice none 0 0, .slice none 0 0] 0 W (fun j _ hj => hlv j (by simpa using hj))
  have hgW : g < W.heap.size := (OwnR.ownB h g rfl).2
  refine ⟨_, ?_, m1, .inr ?_⟩
  · have hu : Tryz.prog.underlying 65 = some (.slice TGrp) := by kernel_rfl
    have hi : Tryz.prog.info? TGrp = some Tryz.t95 := by kernel_rfl
    have hv : (zeroValue TGrp).run Tryz.prog W = .ok (.agg #[.slice none 0 0, .slice none 0 0]) W := by
      simp [zeroValue, typeInfo, hi, show Tryz.t95.zero = some (.agg #[.slice none 0 0, .slice none 0 0]) from rfl]
    simp [Builtin.clear_, run_underlying hu, hv, hz, hrun]
  · have hsl := h.sl
    by_cases h1 : l.length = 1
    · refine ⟨⟨g, 0, none⟩, ?_, Nat.lt_of_lt_of_le hgW m1.size, ?_⟩
      · simp [sliced, h1]
      · have : l.drop 1 = [] := List.eq_nil_of_length_eq_zero (by simp [h1])
        rw [this]
        simp only [sliced, h1, if_true, Nat.sub_self]
        exact ⟨_, 0, rfl, Nat.le_refl _, by simp [maxLen], fun i x hx => by simp at hx⟩
    · have e : sliced (some (⟨g, 0, none⟩ : Addr)) 1 l.length l.length 2 = .slice (some ⟨g, 2, none⟩) (l.drop 1).length (l.drop 1).length := by
        simp only [sliced, if_neg h1, Option.map_some, List.length_drop]
        rw [Nat.one_mul, addr0]
      obtain ⟨_, _, esl, _, hlm, hel⟩ := hsl
      cases esl
      refine ⟨⟨g, 2, none⟩, e, Nat.lt_of_lt_of_le hgW m1.size, ?_⟩
      rw [e]
      refine ⟨_, _, rfl, Nat.le_refl _, by simp only [List.length_drop]; simp only [maxLen] at hlm ⊢; have := OwnR.shape h; obtain ⟨_, _, e', h2, h3, _⟩ := this; simp only [maxLen] at h3; omega, fun i x hx => ?_⟩
      rw [List.getElem?_drop] at hx
      obtain ⟨q, r', e2, _, hr', hc', hR'⟩ := hel (1 + i) x hx
      cases e2
      refine ⟨_, r', rfl, rfl, hr', fun j u hu => ?_, hR'.mod m1 fun y _ hy e => hgC (e ▸ hy)⟩
      have hj : j < 2 := by rw [← hr']; exact (List.getElem?_eq_some_iff.1 hu).1
      have := hc' j u hu
      rw [addr0] at this
      have ea : (⟨g, 2, none⟩ : Addr).add (i * 2 + j) = ⟨g, 2 + (i * 2 + j), none⟩ := by unfold Addr.add; split <;> simp_all
      rw [ea, show 2 + (i * 2 + j) = (1 + i) * 2 + j by omega]
      simp only [setL, addr0]
      rw [World.cell?_setCell_other _ _ _ _ (by intro h; have := congrArg Addr.off h; simp only at this; omega), World.cell?_setCell_other _ _ _ _ (by intro h; have := congrArg Addr.off h; simp only at this; omega)]
      exact this
end
end Go.Proofs.YtlbaopamhkmepaaGreatDoor

namespace Go.K
open Go
theorem slice_lhm_run {P : Program} {t e k : Nat} {i : TypeInfo} {a : Option Addr} {n c l h m : Nat} (ht : P.underlying t = some (.slice e)) (hi : P.info? e = some i) (hk : i.size = k) (h1 : l ≤ h) (h2 : h ≤ m) (h3 : m ≤ c) (w : World) :
    (Instr.sliceAt t (.slice a n c) (some (.int .i64 l)) (some (.int .i64 h)) (some (.int .i64 m))).run P w = .ok (sliced a l h m k) w := by
  have hel : P.elem t = e := by simp [Program.elem, ht]
  rw [run_sliceAt_slice _ _ _ _ _ _ (by rw [hel]; exact ht), run_slice_lhm _ _ _ _ _ (by rw [hel]; exact ht) _ _ _ _ _ _ (by omega) (by omega) (by omega) (by omega), hel]
  simp [sizeOf, typeInfo, hi, hk]
theorem slice_h_run {P : Program} {t e k : Nat} {i : TypeInfo} {a : Option Addr} {n c j : Nat} (ht : P.underlying t = some (.slice e)) (hi : P.info? e = some i) (hk : i.size = k) (hj : j ≤ c) (w : World) : (Instr.sliceAt t (.slice a n c) none (some (.int .i64 j)) none).run P w = .ok (sliced a 0 j c k) w := by
  have hel : P.elem t = e := by simp [Program.elem, ht]
  rw [run_sliceAt_slice _ _ _ _ _ _ (by rw [hel]; exact ht), run_slice_h _ _ _ _ _ (by rw [hel]; exact ht) _ _ (by omega) (by omega), hel]
  simp [sizeOf, typeInfo, hi, hk]
end Go.K
namespace Go.Proofs.YtlbaopamhkmepaaGreatDoor
open Go Go.K

/-- a history at block b -/
def HistI (F : Nat → Prop) (W : World) (b : Nat) (ks : List DKey) (h : Hist) : Prop := ∃ C sv uv rv ov, HistR F C W b sv ks uv rv ov h.max h.us h.rs h.op h.own
/-- the answer of a call that may turn the history -/
def HAfter (F : Nat → Prop) (w w' : World) (b : Nat) (ks : List DKey) (h : Hist) : Prop := ∃ F', (∀ x, F' x → F x ∨ w.heap.size ≤ x ∧ x < w'.heap.size) ∧ HistI F' w' b ks h ∧ Mod F w w'
section
variable {F C M : Nat → Prop} {W W' : World} {b : Nat} {sv : Value} {ks : List DKey} {uv rv ov : Value} {mx : Nat} {us rs own : List Grp} {op : Bool} {h : Hist}
theorem HistI.mod (hh : HistI F W b ks h) (hm : Mod M W W') (hM : ∀ x, F x → ¬ M x) : HistI F W' b ks h := by
  obtain ⟨C, sv, uv, rv, ov, hh⟩ := hh
  exact ⟨C, sv, uv, rv, ov, hh.mod hm hM⟩
theorem HistI.grow (hh : HistI F W b ks h) (g : Grow W W') : HistI F W' b ks h := hh.mod g fun _ _ h => h
theorem hready_ok (h : HistI F W b ks h) : callK Tryz.prog 48 [.pointer (some ⟨b, 0, none⟩)] (fun v' w' => v' = .bool true ∧ w' = W) W := by
  obtain ⟨C, sv, uv, rv, ov, h⟩ := h
  apply S48_ok
  unfold S48
  refine pnilK_s (condK_t (nilckK_s ?_))
  rw [faK_i, addr0]
  exact ld1K_i (h.cells 2 _ rfl) ⟨rfl, rfl⟩
theorem hnew_ok {mx : Nat} (hS : SchR C W sv ks) (hmx : mx ≤ 65536) :
    callK Tryz.prog 15 [sv, .int .i64 mx] (fun v' w' => Grow W w' ∧ ∃ b, W.heap.size ≤ b ∧ v' = .tuple #[.pointer (some ⟨b, 0, none⟩), .int .i64 0] ∧ HistI (fun x => (C x ∧ x < W.heap.size) ∨ W.heap.size ≤ x ∧ x < w'.heap.size) w' b ks ⟨mx, [], [], false, []⟩) W := by
  apply S15_ok
  unfold S15
  refine JoinK_i (fun _ W' => W' = W) ?_ ?_
  rotate_left
  · rw [ltK_i]
    refine condK_p (fun e => by omega) fun _ => ?_
    rw [gtK_i]
    exact condK_p (fun e => by omega) fun _ => rfl
  rintro _ _ rfl _
  rename World => W
  obtain ⟨bs, _, _, _, rfl, _⟩ := id hS
  refine ⟨(histL (.pointer (some ⟨bs, 0, none⟩)) mx (.slice none 0 0) (.slice none 0 0) false (.slice none 0 0)).toArray, by kernel_rfl, ?_⟩
  refine boxn_i (vs := histL (.pointer (some ⟨bs, 0, none⟩)) mx (.slice none 0 0) (.slice none 0 0) false (.slice none 0 0)) fun b w1 hb hz g hc hl => ?_
  refine ⟨g, b, by omega, rfl, fun x => C x ∧ x < W.heap.size, .pointer (some ⟨bs, 0, none⟩), .slice none 0 0, .slice none 0 0, .slice none 0 0, ?_⟩
  refine ⟨fun j v hv => by have := hc j v hv; rwa [addr0] at this, fun j hj => by have := hl j hj; rwa [addr0] at this, (hS.sub fun x hx hC => ⟨hC, hx⟩).grow g, .inl OwnR.nil, .inl OwnR.nil, SlR.nil, ⟨.inr ⟨by omega, by omega⟩, fun hx => by omega⟩, fun g hg => (nomatch hg), fun g hg => (nomatch hg), fun x hx => ⟨.inl hx, by omega⟩⟩
/-- a group more -/
theorem keep_ok {dv uu : Value} {g : Grp} (h : HistR F C W b sv ks uv rv ov mx us rs op own) (hl : us.length ≤ mx) (hmx : mx ≤ 65536) (hg : RGrp C W [dv, uu] g) :
    callK Tryz.prog 51 [.pointer (some ⟨b, 0, none⟩), .agg #[dv, uu]] (fun _ w' => ∃ F' uv', (∀ x, F' x → F x ∨ W.heap.size ≤ x ∧ x < w'.heap.size) ∧ HistR F' C w' b sv ks uv' rv ov mx (keepL mx us g) rs op own ∧ Mod F W w') W := by
  apply S51_ok
  unfold S51
  refine boxn_i (vs := [dv, uu]) fun b3 w1 hb3 hz1 g1 hc1 _ => ?_
  have gd : Grow w1 w1.drew := Mod.drew _ _
  have hR1 := h.grow (g1.trans gd)
  have hzd : w1.drew.heap.size = w1.heap.size := rfl
  have hou := h.und.ownB
  have hlt := h.lt
  refine drawC_i (fun k y => (k = 7 ∧ uv.ownBlock = some y) ∨ (k = 10 ∧ y = b)) ?_
  refine nilckK_s ?_
  rw [faK_i, addr0]
  refine sld1_i ⟨hR1.cells 3 _ rfl, fun j hj e => by
    rcases e with ⟨rfl, e⟩ | ⟨rfl, _⟩
    · exact (h.uF b e).2.2 rfl
    · exact absurd hj (by decide)⟩ ?_
  refine sldn_i (vs := [dv, uu]) rfl (fun q v hv => ⟨gd.cell (hc1 q v hv) fun h => h, fun j hj e => by
    rcases e with ⟨rfl, e⟩ | ⟨rfl, e⟩
    · rw [add_block] at e; have := hou b3 e; omega
    · rw [add_block] at e; have e' : b3 = b := e; omega⟩) ?_
  have hg1 : RGrp C w1.drew [dv, uu] g := hg.mod (g1.trans gd) fun _ _ _ h => h
  refine StkR.push elem_grp hR1.und (cs := [dv, uu]) (x := g) (by kernel_rfl) rfl hg1 (fun _ _ _ => RGrp.one) (fun w2 w3 r y hs hm hr => hr.mod hm fun x hx hC e => ?_) (by omega) (by simp only [maxLen]; omega) (fun w2 g => g.mono fun _ _ h => h.elim) fun w2 uv' w3 ho m23 m3 hn => ⟨m23.mono fun x _ e => .inl ⟨rfl, e⟩, ?_⟩
  · rcases e with e | e
    · exact (h.uF x e).2.1 hC
    · have := (h.cf x hC).2; omega
  refine nilckK_s ?_
  rw [faK_i, addr0]
  have z3 := m3.size
  have hlt3 := OwnR.ownB ho
  refine hR1.setU (F' := fun x => F x ∨ W.heap.size ≤ x ∧ x < w3.heap.size) m3 (fun _ h => h) (fun _ h => .inl h) (.inl ho) (fun g hg => by
    rcases hn g hg with e | e
    · exact .inl e
    · exact .inr ⟨e, .inr ⟨by omega, (hlt3 g hg).2⟩⟩) fun w4 hR4 m4 => ⟨m4.mono fun x _ e => .inr ⟨rfl, e⟩, ?_⟩
  have z4 := m4.size
  have mW4 : Mod F W w4 := (((g1.trans gd).mono fun _ _ h => h.elim).trans (m3.mono fun x _ e => (h.uF x e).1)).trans (m4.mono fun x _ e => by rw [e]; exact h.fb.1)
  obtain ⟨a, c, e, hcap, hcm, hp, hnone⟩ := ho.shape
  have hlen : (us ++ [g]).length = us.length + 1 := by simp
  refine drawK_i (fun W' => Grow w4 W') (Mod.drew _ _) ?_
  refine nilckK_s ?_
  rw [faK_i, addr0]
  refine qld1K_i (fun w2 g => g.cell (hR4.cells 3 _ rfl) fun h => h) ?_
  rw [e, lenK_i]
  refine nilckK_s ?_
  rw [faK_i, addr0]
  refine qld1K_i (fun w2 g => g.cell (hR4.cells 1 _ rfl) fun h => h) ?_
  rw [subK_i, hlen, wrap64 (by omega) (by omega)]
  intro w5 g5
  have hR5 := hR4.grow g5
  have mW5 : Mod F W w5 := mW4.next g5 fun _ _ h => h.elim
  rw [gtK_i]
  refine condK_p (fun hpos => ?_) fun hnp => ?_
  rotate_left
  · refine ⟨fun x => F x ∨ W.heap.size ≤ x ∧ x < w3.heap.size, uv', fun x hx => ?_, ?_, mW5⟩
    · have := g5.size
      rcases hx with hx | hx
      · exact .inl hx
      · exact .inr ⟨hx.1, by omega⟩
    · have ek : keepL mx us g = us ++ [g] := by unfold keepL; rw [if_pos (by omega)]
      rw [ek]; exact hR5
  have hmu : us.length = mx := by omega
  have e1 : ((us.length + 1 : Nat) : Int) - (mx : Int) = 1 := by omega
  rw [e1]
  cases a with
  | none => have := hnone rfl; simp at this
  | some p =>
    obtain ⟨g0, rfl, _, hg0, hob⟩ := hp p rfl
    have hok4 : OwnR 0 TGrp 2 (RGrp C) w4 uv' (us ++ [g]) := OwnR.mod ho m4 (fun y hy e => (hR4.uF y hy).2.2 e) fun r x _ hx => hx.mod m4 fun y _ hy e => h.fb.2 (e ▸ hy)
    have hok : OwnR 0 TGrp 2 (RGrp C) w5 uv' (us ++ [g]) := OwnR.mod hok4 g5 (fun _ _ h => h) fun r x _ hx => hx.mod g5 fun _ _ _ h => h
    rw [e] at hok
    have hg0b : g0 ≠ b := (hR4.uF g0 hob).2.2
    refine nilckK_s ?_
    rw [faK_i, addr0]
    refine ld1K_i (hR5.cells 3 _ rfl) ?_
    rw [e]
    refine runK_i (slice_hi_run (e := TGrp) (k := 2) (i := Tryz.t95) (j := 1) (by kernel_rfl) (by kernel_rfl) (by kernel_rfl) (by omega) w5) ?_
    obtain ⟨w8, hclr, m8, hst⟩ := clear_first hok (by omega) (hR4.uF g0 hob).2.1
    refine runK_i hclr ?_
    have gd8 : Grow w8 w8.drew := Mod.drew _ _
    have hb8 : w8.drew.cell? ⟨b, 3, none⟩ = some uv' := gd8.cell (m8.cell (hR5.cells 3 _ rfl) fun e => hg0b e.symm) fun h => h
    refine drawC_i (fun k y => k = 19 ∧ y = b) ?_
    refine nilckK_s ?_
    rw [faK_i, addr0]
    refine sld1_i ⟨hb8, fun j hj e => by obtain ⟨rfl, _⟩ := e; exact absurd hj (by decide)⟩ ?_
    refine nilckK_s ?_
    rw [faK_i, addr0]
    refine sld1_i ⟨hb8, fun j hj e => by obtain ⟨rfl, _⟩ := e; exact absurd hj (by decide)⟩ ?_
    rw [e, lenK_i]
    refine nilckK_s ?_
    rw [faK_i, addr0]
    refine sld1_i ⟨e ▸ hb8, fun j hj e => by obtain ⟨rfl, _⟩ := e; exact absurd hj (by decide)⟩ ?_
    rw [lenK_i]
    refine runK_i (slice_lhm_run (e := TGrp) (k := 2) (i := Tryz.t95) (l := 1) (by kernel_rfl) (by kernel_rfl) (by kernel_rfl) (by omega) (Nat.le_refl _) hcap w8.drew) ⟨Mod.refl _ _, ?_⟩
    refine nilckK_s ?_
    rw [faK_i, addr0]
    have hst' : StkR TGrp 2 (RGrp C) w8.drew (sliced (some ⟨g0, 0, none⟩) 1 (us ++ [g]).length (us ++ [g]).length 2) ((us ++ [g]).drop 1) := hst.mod (by decide) gd8 (fun _ _ h => h) fun r x hx => hx.mod gd8 fun _ _ _ h => h
    have hown : ∀ y, (sliced (some (⟨g0, 0, none⟩ : Addr)) 1 (us ++ [g]).length (us ++ [g]).length 2).ownBlock = some y → y = g0 := by
      intro y hy
      unfold sliced at hy
      split at hy
      · exact (Option.some.inj hy).symm
      · simp only [Option.map_some, Value.ownBlock, add_block, Option.some.injEq] at hy
        exact hy.symm
    have m58 : Mod (fun x => x = g0) w5 w8.drew := m8.next gd8 fun _ _ h => h.elim
    have z5 := g5.size
    have z8 := m58.size
    refine hR5.setU (F' := fun x => F x ∨ W.heap.size ≤ x ∧ x < w3.heap.size) m58 (fun x e => by rw [e]; exact hob) (fun _ h => h) hst' (fun y hy => .inl (by rw [hown y hy]; exact hob)) fun w9 hR9 m9 => ⟨m9.mono fun x _ e => ⟨rfl, e⟩, ?_⟩
    have z9 := m9.size
    have ek : keepL mx us g = (us ++ [g]).drop 1 := by unfold keepL; rw [if_neg (by omega)]
    rw [ek]
    refine ⟨fun x => F x ∨ W.heap.size ≤ x ∧ x < w3.heap.size, _, fun x hx => ?_, hR9, (mW5.next m58 fun x hx e => ?_).trans (m9.mono fun x _ e => by rw [e]; exact h.fb.1)⟩
    · rcases hx with hx | hx
      · exact .inl hx
      · exact .inr ⟨hx.1, by omega⟩
    · rcases (hR4.uF g0 hob).1 with hf | hf
      · rw [e]; exact hf
      · omega
end
end Go.Proofs.YtlbaopamhkmepaaGreatDoor

namespace Go.K
open Go
theorem SlR.takeN {α : Type} {S : Nat → Prop} {k : Nat} {R : World → List Value → α → Prop} {w : World} {a : Option Addr} {n c : Nat} {l : List α} (h : SlR S k R w (.slice a n c) l) {j : Nat} (hj : j ≤ l.length) : SlR S k R w (.slice a j c) (l.take j) := by
  obtain ⟨_, _, e, h1, h2, h3⟩ := h
  cases e
  refine ⟨_, _, by rw [List.length_take, Nat.min_eq_left hj], by rw [List.length_take]; omega, h2, fun i x hx => ?_⟩
  rw [List.getElem?_take] at hx
  split at hx
  · exact h3 i x hx
  · cases hx
theorem sliced_zero {p : Addr} {j c s : Nat} : sliced (some p) 0 j c s = .slice (some p) j c := by
  have e : p.add 0 = p := Addr.add_zero' p
  unfold sliced
  simp [e]
theorem concat_of_pos {α : Type} {l : List α} (h : 0 < l.length) : ∃ l' g, l = l' ++ [g] := by
  rcases List.eq_nil_or_concat l with rfl | ⟨l', g, e⟩
  · simp at h
  · exact ⟨l', g, by rw [e, List.concat_eq_append]⟩
end Go.K
namespace Go.Proofs.YtlbaopamhkmepaaGreatDoor
open Go Go.K
section
variable {F C M : Nat → Prop} {W W' : World} {b : Nat} {sv : Value} {ks : List DKey} {uv rv ov : Value} {mx : Nat} {us rs own : List Grp} {op : Bool} {h : Hist}
theorem depths_ok (hh : HistI F W b ks h) : callK Tryz.prog 20 [.pointer (some ⟨b, 0, none⟩)] (fun v' w' => v' = .tuple #[.int .i64 h.us.length, .int .i64 h.rs.length] ∧ Grow W w') W := by
  apply S20_ok
  unfold S20
  refine callK_mono (hready_ok hh) ?_
  rintro _ _ ⟨rfl, rfl⟩
  rename World => W
  obtain ⟨C, sv, uv, rv, ov, hR⟩ := hh
  rw [notK_i]
  refine condK_f (drawK_i (fun W' => Grow W W') (Mod.drew _ _) (nilckK_s ?_))
  rw [faK_i, addr0]
  refine qld1K_i (fun w2 g => g.cell (hR.cells 3 _ rfl) fun h => h) ?_
  obtain ⟨a, c, e, _⟩ := hR.und.shape (by decide)
  obtain ⟨a', c', e', _⟩ := hR.red.shape (by decide)
  rw [e, lenK_i]
  refine nilckK_s ?_
  rw [faK_i, addr0]
  refine qld1K_i (fun w2 g => g.cell (hR.cells 4 _ rfl) fun h => h) ?_
  rw [e', lenK_i]
  exact fun W' g => ⟨rfl, g⟩
theorem open_ok (hh : HistI F W b ks h) : callK Tryz.prog 33 [.pointer (some ⟨b, 0, none⟩)] (fun v' w' => v' = .bool h.op ∧ w' = W) W := by
  apply S33_ok
  unfold S33
  refine callK_mono (hready_ok hh) ?_
  rintro _ _ ⟨rfl, rfl⟩
  rename World => W
  obtain ⟨C, sv, uv, rv, ov, hR⟩ := hh
  refine condK_t (nilckK_s ?_)
  rw [faK_i, addr0]
  exact ld1K_i (hR.cells 5 _ rfl) ⟨rfl, rfl⟩
theorem begin_ok (hh : HistI F W b ks h) : callK Tryz.prog 27 [.pointer (some ⟨b, 0, none⟩)] (fun v' w' => (h.op = true ∧ v' = .int .i64 9 ∧ w' = W) ∨ (h.op = false ∧ v' = .int .i64 0 ∧ HAfter F W w' b ks { h with op := true, own := [] })) W := by
  apply S27_ok
  unfold S27
  refine callK_mono (hready_ok hh) ?_
  rintro _ _ ⟨rfl, rfl⟩
  rename World => W
  obtain ⟨C, sv, uv, rv, ov, hR⟩ := hh
  rw [notK_i]
  refine condK_f (nilckK_s ?_)
  rw [faK_i, addr0]
  refine ld1K_i (hR.cells 5 _ rfl) ?_
  cases ho : h.op with
  | true => exact condK_t (.inl ⟨rfl, rfl, rfl⟩)
  | false =>
    refine condK_f (nilckK_s ?_)
    rw [faK_i, addr0]
    refine hR.setOp fun W1 hR1 m1 => nilckK_s ?_
    rw [faK_i, addr0]
    refine hR1.setOwn SlR.nil fun W2 hR2 m2 => .inr ⟨rfl, rfl, F, fun _ h => .inl h, ⟨C, sv, uv, rv, _, hR2⟩, (m1.trans m2).mono fun x _ e => by rw [e]; exact hR.fb.1⟩
/-- Push, without a bracket -/
theorem push_ok {S D S' D' : Nat → Prop} {dv uu : Value} {x y : List Dop} (hh : HistI F W b ks h) (hop : h.op = false) (hl : h.us.length ≤ h.max) (hmx : h.max ≤ 65536) (hd : RDops S D W dv x) (hu : RDops S' D' W uu y) (bx : mDops x ≤ 1099511627776) (by' : mDops y ≤ 1099511627776) (hF : ∀ z, F z → z < W.heap.size) :
    callK Tryz.prog 18 [.pointer (some ⟨b, 0, none⟩), dv, uu] (fun v' w' => v' = .int .i64 0 ∧ HAfter F W w' b ks { h with us := keepL h.max h.us ⟨x, y⟩, rs := [] }) W := by
  apply S18_ok
  unfold S18
  refine callK_mono (hready_ok hh) ?_
  rintro _ _ ⟨rfl, rfl⟩
  rename World => W
  obtain ⟨C, sv, uv, rv, ov, hR⟩ := hh
  rw [notK_i]
  refine condK_f ?_
  refine callK_mono (copy_dops hd bx) ?_
  rintro cv w2 ⟨o2, g2⟩
  refine callK_mono (copy_dops (hu.grow g2) by') ?_
  rintro cu w3 ⟨o3, g3⟩
  have g23 := g2.trans g3
  obtain ⟨ca, cc, ecv, _⟩ := (ODops.sl o2).shape
  obtain ⟨ca', cc', ecu, _⟩ := (ODops.sl o3).shape
  refine ⟨#[cv, cu], by rw [ecv, ecu]; kernel_rfl, ?_⟩
  refine newst_n (vs := [cv, cu]) rfl rfl (fun u hu => by simp at hu; rcases hu with rfl | rfl; rw [ecv]; rfl; rw [ecu]; rfl) fun b7 w4 hb7 hz7 g4 hc4 _ => ?_
  have z2 := g2.size
  have z3 := g3.size
  have r2 : RDops (fun z => W.heap.size ≤ z ∧ z < w4.heap.size) (fun z => W.heap.size ≤ z ∧ z < w4.heap.size) w4 cv x := (ODops.reads o2).to (g3.trans g4) (fun _ _ _ h => h) (fun _ _ _ h => h) (fun z _ hz => ⟨hz.1, by omega⟩) fun z _ hz => ⟨hz.1, by omega⟩
  have r3 : RDops (fun z => W.heap.size ≤ z ∧ z < w4.heap.size) (fun z => W.heap.size ≤ z ∧ z < w4.heap.size) w4 cu y := (ODops.reads o3).to g4 (fun _ _ _ h => h) (fun _ _ _ h => h) (fun z _ hz => ⟨by omega, by omega⟩) fun z _ hz => ⟨by omega, by omega⟩
  have hR4 := (hR.grow (g23.trans g4)).more (F' := fun z => F z ∨ W.heap.size ≤ z ∧ z < w4.heap.size) (C' := fun z => C z ∨ W.heap.size ≤ z ∧ z < w4.heap.size) (fun _ h => .inl h) (fun _ h => .inl h) (fun z hz => by
    rcases hz with hz | hz
    · have := hR.cf z hz; exact ⟨.inl this.1, by omega, .inl hz⟩
    · exact ⟨.inr hz, hz.2, .inr fun hf => by have := hF z hf; omega⟩)
  have hg : RGrp (fun z => C z ∨ W.heap.size ≤ z ∧ z < w4.heap.size) w4 [cv, cu] ⟨x, y⟩ := ⟨cv, cu, rfl, r2.to (Mod.refl (fun _ => False) _) (fun _ _ _ h => h) (fun _ _ _ h => h) (fun _ _ h => .inr h) fun _ _ h => .inr h, r3.to (Mod.refl (fun _ => False) _) (fun _ _ _ h => h) (fun _ _ _ h => h) (fun _ _ h => .inr h) fun _ _ h => .inr h⟩
  have g04 := g23.trans g4
  refine JoinK_i (fun _ w6 => ∃ F' uv', (∀ z, F' z → F z ∨ W.heap.size ≤ z ∧ z < w6.heap.size) ∧ HistR F' (fun z => C z ∨ W.heap.size ≤ z ∧ z < w4.heap.size) w6 b sv ks uv' rv ov h.max (keepL h.max h.us ⟨x, y⟩) h.rs h.op h.own ∧ Mod F W w6) ?_ ?_
  · rintro _ w6 ⟨F', uv', hF', hR6, m6⟩ _
    refine nilckK_s ?_
    rw [faK_i, addr0]
    refine hR6.setR (F' := F') (M := fun _ => False) (Mod.refl _ _) (fun _ h => h.elim) (fun _ h => h) (.inl OwnR.nil) (fun g hg => nomatch hg) fun w7 hR7 m7 => ⟨rfl, F', fun z hz => ?_, ⟨_, sv, uv', _, ov, hR7⟩, m6.trans (m7.mono fun z _ e => by rw [e]; exact hR.fb.1)⟩
    have := m7.size
    rcases hF' z hz with h | h
    · exact .inl h
    · exact .inr ⟨h.1, by omega⟩
  refine nilckK_s ?_
  rw [faK_i, addr0]
  refine ld1K_i (hR4.cells 5 _ rfl) ?_
  rw [hop]
  refine condK_f ?_
  refine ldnK_i (vs := [cv, cu]) rfl hc4 ?_
  rw [← hop]
  refine callK_mono (keep_ok hR4 hl hmx hg) ?_
  rintro _ w6 ⟨F', uv', hF', hR6, m6⟩
  have z4 := g04.size
  have z6 := m6.size
  refine ⟨F', uv', fun z hz => ?_, hR6, (g04.mono fun _ _ h => h.elim : Mod F W w4).next m6 fun z hz e => ?_⟩
  · rcases hF' z hz with (h | h) | h
    · exact .inl h
    · exact .inr ⟨h.1, by omega⟩
    · exact .inr ⟨by omega, h.2⟩
  · rcases e with e | e
    · exact e
    · omega
/-- slices.Clone of groups -/
theorem clone_grp {S : Nat → Prop} {v : Value} {l : List Grp} (h : SlR S 2 (RGrp C) W v l) (hC : ∀ x, C x → x < W.heap.size) (hl : l.length ≤ 1099511627) :
    callK Tryz.prog 88 [v] (fun v' w' => OwnR W.heap.size TGrp 2 (RGrp C) w' v' l ∧ Grow W w') W := by
  apply S88_ok
  unfold S88
  obtain ⟨a, c, rfl, hm⟩ := h.shape
  cases a with
  | none =>
    have : l = [] := by
      cases l with
      | nil => rfl
      | cons x l => obtain ⟨p, r, e, _⟩ := h.get (i := 0) (by simp); cases e
    subst this
    simp only [KS]
    exact ⟨OwnR.nil, Mod.refl _ _⟩
  | some p =>
    simp only [KS]
    refine rowK_empty ?_
    have hg : Grow W (W.alloc (.cells #[] TGrp)) := Mod.alloc _ _ _
    have hbx : (W.alloc (.cells #[] TGrp)).heap[W.heap.size]? = some (.cells #[] TGrp (0, 0)) := by show (W.heap.push _)[W.heap.size]? = _; simp
    obtain ⟨v', w', h1, h2, h3, _⟩ := append_new (ty := 65) elem_grp hbx (h.grow hg (by decide) fun r x hx => hx.mod hg fun _ _ _ h => h) (fun _ _ _ => RGrp.one) (by omega) (fun w2 hg2 r y hr => hr.mod (Mod.of_grownBy hg2) fun x hx hC' e => by have := hC x hC'; simp only [Option.some.injEq] at e; omega)
    exact runK_i h1 ⟨h2, hg.trans h3⟩
/-- the newest group of one stack to the other one -/
theorem moveU_ok (h : HistR F C W b sv ks uv rv ov mx us rs false own) (hl1 : us.length ≤ 65536) (hl2 : rs.length ≤ 65536) (hF : ∀ x, F x → x < W.heap.size) :
    callK Tryz.prog 52 [.pointer (some ⟨b, 0, none⟩), .pointer (some ⟨b, 3, none⟩), .pointer (some ⟨b, 4, none⟩)] (fun v' w' => (us = [] ∧ v' = .tuple #[.agg #[.slice none 0 0, .slice none 0 0], .int .i64 10] ∧ Grow W w') ∨
      ∃ l g r F' uv' rv', us = l ++ [g] ∧ v' = .tuple #[.agg (List.toArray r), .int .i64 0] ∧ r.length = 2 ∧ RGrp C w' r g ∧ (∀ x, F' x → F x ∨ W.heap.size ≤ x ∧ x < w'.heap.size) ∧ HistR F' C w' b sv ks uv' rv' ov mx l (rs ++ [g]) false own ∧ Mod F W w') W := by
  apply S52_ok
  unfold S52
  have hlt := h.lt
  have hoA := h.und.ownB
  have hoB := h.red.ownB
  refine newz_i fun b6 w1 hb6 hz1 g1 _ hl6 => ?_
  have hR1 := h.grow g1
  obtain ⟨a, c, e, hcap, hcm, hel⟩ := h.und.sl (by decide)
  have hsl := hR1.und.sl (by decide)
  rw [e] at hsl
  refine nilckK_s ?_
  refine ld1K_i (hR1.cells 3 _ rfl) ?_
  rw [e, lenK_i, subK_i, wrap64 (by omega) (by omega)]
  refine nilckK_s ?_
  rw [faK_i, addr0]
  refine ld1K_i (hR1.cells 5 _ rfl) ?_
  refine condK_f ?_
  rw [ltK_i]
  refine condK_p (fun hneg => ?_) fun hpos => ?_
  · refine ⟨#[.slice none 0 0, .slice none 0 0], by kernel_rfl, ?_⟩
    refine stn_over (vs := [.slice none 0 0, .slice none 0 0]) rfl (fun u hu => by simp at hu; subst hu; rfl) (fun j hj => hl6 j hj) fun W'' m hc _ => ?_
    exact ldnK_i rfl hc (.inl ⟨List.eq_nil_of_length_eq_zero (by omega), rfl, g1.next m fun x hx e => by omega⟩)
  obtain ⟨l, g, hlg⟩ := concat_of_pos (l := us) (by omega)
  have hlen : us.length = l.length + 1 := by rw [hlg]; simp
  have en : ((us.length : Int) - 1) = ((l.length : Nat) : Int) := by omega
  rw [en]
  refine nilckK_s ?_
  refine ld1K_i (hR1.cells 3 _ rfl) ?_
  rw [e]
  have hi : l.length < us.length := by omega
  obtain ⟨p, r, rfl, _, hr, hc, hre⟩ := hsl.get hi
  have hge : us[l.length] = g := by
    have : us[l.length]? = some g := by rw [hlg]; simp
    rw [List.getElem?_eq_getElem hi] at this
    exact Option.some.inj this
  rw [hge] at hre
  refine ixK_n hi (ldnK_i hr (fun j u hu => by rw [Addr.add_add]; exact hc j u hu) ?_)
  refine newst_n (vs := r) hr rfl hre.one fun b9 w3 hb9 hz9 g3 hc9 _ => ?_
  have g13 := g1.trans g3
  have hR3 := hR1.grow g3
  refine nilckK_s ?_
  refine ld1K_i (hR3.cells 3 _ rfl) ?_
  rw [e]
  refine runK_i (slice_h_run (e := TGrp) (k := 2) (i := Tryz.t95) (j := l.length) (by kernel_rfl) (by kernel_rfl) (by kernel_rfl) (by omega) w3) ?_
  rw [sliced_zero]
  have hsl3 := hR3.und.sl (by decide)
  rw [e] at hsl3
  have htk := hsl3.takeN (j := l.length) (by omega)
  have etk : us.take l.length = l := by rw [hlg]; simp
  rw [etk] at htk
  refine callK_mono (clone_grp htk (fun x hx => (hR3.cf x hx).2) (by omega)) ?_
  rintro cl w4 ⟨ho4, g4⟩
  have g34 := g3.trans g4
  have g14 := g13.trans g4
  have hR4 := hR3.grow g4
  have ho4' := OwnR.ownB ho4
  refine nilckK_s ?_
  have z1 := g1.size
  have z3 := g3.size
  have z4 := g4.size
  refine hR3.setU (F' := fun x => F x ∨ w3.heap.size ≤ x ∧ x < w4.heap.size) (M := fun _ => False) g4 (fun _ h => h.elim) (fun _ h => .inl h) (.inl (ho4.base fun _ _ => Nat.zero_le _)) (fun y hy => .inr ⟨(ho4' y hy).1, .inr ⟨(ho4' y hy).1, (ho4' y hy).2⟩⟩) fun w5 hR5 m5 => ?_
  have z5 := m5.size
  have gd : Grow w5 w5.drew := Mod.drew _ _
  have zd : w5.drew.heap.size = w5.heap.size := rfl
  have hR5d := hR5.grow gd
  obtain ⟨dv, uu, rfl, hd, hu⟩ := hre
  have hre : RGrp C w1 [dv, uu] g := ⟨dv, uu, rfl, hd, hu⟩
  have m35 : Mod (fun y => y = b) w3 w5.drew := ((g4.mono fun _ _ h => h.elim).trans m5).next gd fun _ _ h => h.elim
  have hb9c : ∀ j v, ([dv, uu] : List Value)[j]? = some v → w5.drew.cell? ((⟨b9, 0, none⟩ : Addr).add j) = some v := fun j v hv => m35.cell (hc9 j v hv) (by rw [add_block]; exact fun e => by have e' : b9 = b := e; omega)
  refine drawC_i (fun k y => (k = 6 ∧ rv.ownBlock = some y) ∨ (k = 8 ∧ y = b)) ?_
  refine nilckK_s ?_
  refine sld1_i ⟨hR5d.cells 4 _ rfl, fun j hj e => by
    rcases e with ⟨rfl, e⟩ | ⟨rfl, _⟩
    · exact (h.rF b e).2.2.1 rfl
    · exact absurd hj (by decide)⟩ ?_
  refine sldn_i (vs := [dv, uu]) rfl (fun q v hv => ⟨hb9c q v hv, fun j hj e => by
    rcases e with ⟨rfl, e⟩ | ⟨rfl, e⟩
    · rw [add_block] at e; have := hoB b9 e; omega
    · rw [add_block] at e; have e' : b9 = b := e; omega⟩) ?_
  have hCb : ∀ x, C x → ¬ x = b := fun x hx e => h.fb.2 (e ▸ hx)
  have hg5 : RGrp C w5.drew [dv, uu] g := (hre.mod g3 fun _ _ _ h => h).mod m35 fun x _ hx => hCb x hx
  refine StkR.push elem_grp hR5d.red (cs := [dv, uu]) (x := g) (by kernel_rfl) rfl hg5 (fun _ _ _ => RGrp.one) (fun w2 w3 r y hs hm hr => hr.mod hm fun x hx hC e => ?_) (by omega) (by simp only [maxLen]; omega) (fun w2 g => g.mono fun _ _ h => h.elim) fun w7 bv' w8 ho m78 m8 hn => ⟨m78.mono fun x _ e => .inl ⟨rfl, e⟩, ?_⟩
  · rcases e with e | e
    · exact (h.rF x e).2.1 hC
    · have := (h.cf x hC).2; omega
  refine nilckK_s ?_
  have z8 := m8.size
  have hlt8 := OwnR.ownB ho
  refine hR5d.setR (F' := fun x => F x ∨ w3.heap.size ≤ x ∧ x < w8.heap.size) m8 (fun _ h => h) (fun x h => by rcases h with h | h; exact .inl h; exact .inr ⟨h.1, by omega⟩) (.inl ho) (fun y hy => by
    rcases hn y hy with e | e
    · exact .inl e
    · exact .inr ⟨e, .inr ⟨by omega, (hlt8 y hy).2⟩⟩) fun w9 hR9 m9 => ⟨m9.mono fun x _ e => .inr ⟨rfl, e⟩, ?_⟩
  have z9 := m9.size
  have m59 : Mod (fun y => rv.ownBlock = some y ∨ y = b) w5.drew w9 := (m8.mono fun _ _ h => .inl h).trans (m9.mono fun _ _ h => .inr h)
  have hb9d : ∀ j v, ([dv, uu] : List Value)[j]? = some v → w9.cell? ((⟨b9, 0, none⟩ : Addr).add j) = some v := fun j v hv => m59.cell (hb9c j v hv) (by
    rw [add_block]
    rintro (e | e)
    · have := hoB b9 e; omega
    · have e' : b9 = b := e; omega)
  refine ldnK_i (vs := [dv, uu]) rfl hb9d ?_
  have hg9 : RGrp C w9 [dv, uu] g := hg5.mod m59 fun x _ hx e => by
    rcases e with e | e
    · exact (h.rF x e).2.1 hx
    · exact hCb x hx e
  refine stn_over (vs := [dv, uu]) rfl hg9.one (fun j hj => ((((hl6 j hj).mod g3 fun h => h).mod m35 fun e => by rw [add_block] at e; have e' : b6 = b := e; omega).mod m59 fun e => by
    rw [add_block] at e
    rcases e with e | e
    · have := hoB b6 e; omega
    · have e' : b6 = b := e; omega)) fun w10 m10 hc10 _ => ?_
  have z10 := m10.size
  refine ldnK_i rfl hc10 (.inr ⟨l, g, [dv, uu], fun x => F x ∨ w3.heap.size ≤ x ∧ x < w8.heap.size, _, _, hlg, rfl, rfl, hg9.mod m10 fun x _ hx e => by have := (h.cf x hx).2; omega, fun x hx => ?_, hR9.mod m10 fun x hx e => ?_, ?_⟩)
  · rcases hx with hx | hx
    · exact .inl hx
    · exact .inr ⟨by omega, by omega⟩
  · rcases hx with hx | hx
    · have := hF x hx; omega
    · omega
  · refine (((g13.mono fun _ _ h => h.elim : Mod F W w3).next m35 fun x hx e => by rw [e]; exact h.fb.1).next m59 fun x hx e => ?_).next m10 fun x hx e => by omega
    rcases e with e | e
    · exact (h.rF x e).1
    · rw [e]; exact h.fb.1
/-- the newest group of one stack to the other one -/
theorem moveR_ok (h : HistR F C W b sv ks uv rv ov mx us rs false own) (hl1 : us.length ≤ 65536) (hl2 : rs.length ≤ 65536) (hF : ∀ x, F x → x < W.heap.size) :
    callK Tryz.prog 52 [.pointer (some ⟨b, 0, none⟩), .pointer (some ⟨b, 4, none⟩), .pointer (some ⟨b, 3, none⟩)] (fun v' w' => (rs = [] ∧ v' = .tuple #[.agg #[.slice none 0 0, .slice none 0 0], .int .i64 10] ∧ Grow W w') ∨
      ∃ l g r F' uv' rv', rs = l ++ [g] ∧ v' = .tuple #[.agg (List.toArray r), .int .i64 0] ∧ r.length = 2 ∧ RGrp C w' r g ∧ (∀ x, F' x → F x ∨ W.heap.size ≤ x ∧ x < w'.heap.size) ∧ HistR F' C w' b sv ks uv' rv' ov mx (us ++ [g]) l false own ∧ Mod F W w') W := by
  apply S52_ok
  unfold S52
  have hlt := h.lt
  have hoA := h.red.ownB
  have hoB := h.und.ownB
  refine newz_i fun b6 w1 hb6 hz1 g1 _ hl6 => ?_
  have hR1 := h.grow g1
  obtain ⟨a, c, e, hcap, hcm, hel⟩ := h.red.sl (by decide)
  have hsl := hR1.red.sl (by decide)
  rw [e] at hsl
  refine nilckK_s ?_
  refine ld1K_i (hR1.cells 4 _ rfl) ?_
  rw [e, lenK_i, subK_i, wrap64 (by omega) (by omega)]
  refine nilckK_s ?_
  rw [faK_i, addr0]
  refine ld1K_i (hR1.cells 5 _ rfl) ?_
  refine condK_f ?_
  rw [ltK_i]
  refine condK_p (fun hneg => ?_) fun hpos => ?_
  · refine ⟨#[.slice none 0 0, .slice none 0 0], by kernel_rfl, ?_⟩
    refine stn_over (vs := [.slice none 0 0, .slice none 0 0]) rfl (fun u hu => by simp at hu; subst hu; rfl) (fun j hj => hl6 j hj) fun W'' m hc _ => ?_
    exact ldnK_i rfl hc (.inl ⟨List.eq_nil_of_length_eq_zero (by omega), rfl, g1.next m fun x hx e => by omega⟩)
  obtain ⟨l, g, hlg⟩ := concat_of_pos (l := rs) (by omega)
  have hlen : rs.length = l.length + 1 := by rw [hlg]; simp
  have en : ((rs.length : Int) - 1) = ((l.length : Nat) : Int) := by omega
  rw [en]
  refine nilckK_s ?_
  refine ld1K_i (hR1.cells 4 _ rfl) ?_
  rw [e]
  have hi : l.length < rs.length := by omega
  obtain ⟨p, r, rfl, _, hr, hc, hre⟩ := hsl.get hi
  have hge : rs[l.length] = g := by
    have : rs[l.length]? = some g := by rw [hlg]; simp
    rw [List.getElem?_eq_getElem hi] at this
    exact Option.some.inj this
  rw [hge] at hre
  refine ixK_n hi (ldnK_i hr (fun j u hu => by rw [Addr.add_add]; exact hc j u hu) ?_)
  refine newst_n (vs := r) hr rfl hre.one fun b9 w3 hb9 hz9 g3 hc9 _ => ?_
  have g13 := g1.trans g3
  have hR3 := hR1.grow g3
  refine nilckK_s ?_
  refine ld1K_i (hR3.cells 4 _ rfl) ?_
  rw [e]
  refine runK_i (slice_h_run (e := TGrp) (k := 2) (i := Tryz.t95) (j := l.length) (by kernel_rfl) (by kernel_rfl) (by kernel_rfl) (by omega) w3) ?_
  rw [sliced_zero]
  have hsl3 := hR3.red.sl (by decide)
  rw [e] at hsl3
  have htk := hsl3.takeN (j := l.length) (by omega)
  have etk : rs.take l.length = l := by rw [hlg]; simp
  rw [etk] at htk
  refine callK_mono (clone_grp htk (fun x hx => (hR3.cf x hx).2) (by omega)) ?_
  rintro cl w4 ⟨ho4, g4⟩
  have g34 := g3.trans g4
  have g14 := g13.trans g4
  have hR4 := hR3.grow g4
  have ho4' := OwnR.ownB ho4
  refine nilckK_s ?_
  have z1 := g1.size
  have z3 := g3.size
  have z4 := g4.size
  refine hR3.setR (F' := fun x => F x ∨ w3.heap.size ≤ x ∧ x < w4.heap.size) (M := fun _ => False) g4 (fun _ h => h.elim) (fun _ h => .inl h) (.inl (ho4.base fun _ _ => Nat.zero_le _)) (fun y hy => .inr ⟨(ho4' y hy).1, .inr ⟨(ho4' y hy).1, (ho4' y hy).2⟩⟩) fun w5 hR5 m5 => ?_
  have z5 := m5.size
  have gd : Grow w5 w5.drew := Mod.drew _ _
  have zd : w5.drew.heap.size = w5.heap.size := rfl
  have hR5d := hR5.grow gd
  obtain ⟨dv, uu, rfl, hd, hu⟩ := hre
  have hre : RGrp C w1 [dv, uu] g := ⟨dv, uu, rfl, hd, hu⟩
  have m35 : Mod (fun y => y = b) w3 w5.drew := ((g4.mono fun _ _ h => h.elim).trans m5).next gd fun _ _ h => h.elim
  have hb9c : ∀ j v, ([dv, uu] : List Value)[j]? = some v → w5.drew.cell? ((⟨b9, 0, none⟩ : Addr).add j) = some v := fun j v hv => m35.cell (hc9 j v hv) (by rw [add_block]; exact fun e => by have e' : b9 = b := e; omega)
  refine drawC_i (fun k y => (k = 6 ∧ uv.ownBlock = some y) ∨ (k = 8 ∧ y = b)) ?_
  refine nilckK_s ?_
  refine sld1_i ⟨hR5d.cells 3 _ rfl, fun j hj e => by
    rcases e with ⟨rfl, e⟩ | ⟨rfl, _⟩
    · exact (h.uF b e).2.2 rfl
    · exact absurd hj (by decide)⟩ ?_
  refine sldn_i (vs := [dv, uu]) rfl (fun q v hv => ⟨hb9c q v hv, fun j hj e => by
    rcases e with ⟨rfl, e⟩ | ⟨rfl, e⟩
    · rw [add_block] at e; have := hoB b9 e; omega
    · rw [add_block] at e; have e' : b9 = b := e; omega⟩) ?_
  have hCb : ∀ x, C x → ¬ x = b := fun x hx e => h.fb.2 (e ▸ hx)
  have hg5 : RGrp C w5.drew [dv, uu] g := (hre.mod g3 fun _ _ _ h => h).mod m35 fun x _ hx => hCb x hx
  refine StkR.push elem_grp hR5d.und (cs := [dv, uu]) (x := g) (by kernel_rfl) rfl hg5 (fun _ _ _ => RGrp.one) (fun w2 w3 r y hs hm hr => hr.mod hm fun x hx hC e => ?_) (by omega) (by simp only [maxLen]; omega) (fun w2 g => g.mono fun _ _ h => h.elim) fun w7 bv' w8 ho m78 m8 hn => ⟨m78.mono fun x _ e => .inl ⟨rfl, e⟩, ?_⟩
  · rcases e with e | e
    · exact (h.uF x e).2.1 hC
    · have := (h.cf x hC).2; omega
  refine nilckK_s ?_
  have z8 := m8.size
  have hlt8 := OwnR.ownB ho
  refine hR5d.setU (F' := fun x => F x ∨ w3.heap.size ≤ x ∧ x < w8.heap.size) m8 (fun _ h => h) (fun x h => by rcases h with h | h; exact .inl h; exact .inr ⟨h.1, by omega⟩) (.inl ho) (fun y hy => by
    rcases hn y hy with e | e
    · exact .inl e
    · exact .inr ⟨e, .inr ⟨by omega, (hlt8 y hy).2⟩⟩) fun w9 hR9 m9 => ⟨m9.mono fun x _ e => .inr ⟨rfl, e⟩, ?_⟩
  have z9 := m9.size
  have m59 : Mod (fun y => uv.ownBlock = some y ∨ y = b) w5.drew w9 := (m8.mono fun _ _ h => .inl h).trans (m9.mono fun _ _ h => .inr h)
  have hb9d : ∀ j v, ([dv, uu] : List Value)[j]? = some v → w9.cell? ((⟨b9, 0, none⟩ : Addr).add j) = some v := fun j v hv => m59.cell (hb9c j v hv) (by
    rw [add_block]
    rintro (e | e)
    · have := hoB b9 e; omega
    · have e' : b9 = b := e; omega)
  refine ldnK_i (vs := [dv, uu]) rfl hb9d ?_
  have hg9 : RGrp C w9 [dv, uu] g := hg5.mod m59 fun x _ hx e => by
    rcases e with e | e
    · exact (h.uF x e).2.1 hx
    · exact hCb x hx e
  refine stn_over (vs := [dv, uu]) rfl hg9.one (fun j hj => ((((hl6 j hj).mod g3 fun h => h).mod m35 fun e => by rw [add_block] at e; have e' : b6 = b := e; omega).mod m59 fun e => by
    rw [add_block] at e
    rcases e with e | e
    · have := hoB b6 e; omega
    · have e' : b6 = b := e; omega)) fun w10 m10 hc10 _ => ?_
  have z10 := m10.size
  refine ldnK_i rfl hc10 (.inr ⟨l, g, [dv, uu], fun x => F x ∨ w3.heap.size ≤ x ∧ x < w8.heap.size, _, _, hlg, rfl, rfl, hg9.mod m10 fun x _ hx e => by have := (h.cf x hx).2; omega, fun x hx => ?_, hR9.mod m10 fun x hx e => ?_, ?_⟩)
  · rcases hx with hx | hx
    · exact .inl hx
    · exact .inr ⟨by omega, by omega⟩
  · rcases hx with hx | hx
    · have := hF x hx; omega
    · omega
  · refine (((g13.mono fun _ _ h => h.elim : Mod F W w3).next m35 fun x hx e => by rw [e]; exact h.fb.1).next m59 fun x hx e => ?_).next m10 fun x hx e => by omega
    rcases e with e | e
    · exact (h.uF x e).1
    · rw [e]; exact h.fb.1
end
end Go.Proofs.YtlbaopamhkmepaaGreatDoor

namespace Go.Proofs.YtlbaopamhkmepaaGreatDoor
open Go Go.K
section
variable {F C M : Nat → Prop} {W W' : World} {b : Nat} {sv : Value} {ks : List DKey} {h : Hist}
theorem undo_ok (hh : HistI F W b ks h) (hop : h.op = false) (hl1 : h.us.length ≤ 65536) (hl2 : h.rs.length ≤ 65536) (hF : ∀ x, F x → x < W.heap.size) (hb : ∀ g ∈ h.us, mDops g.u ≤ 1099511627776) :
    callK Tryz.prog 19 [.pointer (some ⟨b, 0, none⟩)] (fun v' w' => (h.us = [] ∧ ∃ cv, v' = .tuple #[cv, .int .i64 10] ∧ Grow W w') ∨
      ∃ l g cv n, h.us = l ++ [g] ∧ v' = .tuple #[cv, .int .i64 0] ∧ W.heap.size ≤ n ∧ ODops n w' cv g.u ∧ ∃ F', (∀ x, F' x → (F x ∨ W.heap.size ≤ x) ∧ x < n) ∧ HistI F' w' b ks { h with us := l, rs := h.rs ++ [g] } ∧ n ≤ w'.heap.size ∧ Mod F W w') W := by
  apply S19_ok
  unfold S19
  refine callK_mono (hready_ok hh) ?_
  rintro _ _ ⟨rfl, rfl⟩
  rename World => W
  obtain ⟨C, sv, uv, rv, ov, hR⟩ := hh
  rw [hop] at hR
  rw [notK_i]
  refine condK_f ?_
  refine JoinK_i (fun vs w2 => (h.us = [] ∧ ∃ b4, vs = [.pointer (some ⟨b4, 0, none⟩), .int .i64 10] ∧ (∀ j v, ([.slice none 0 0, .slice none 0 0] : List Value)[j]? = some v → w2.cell? ((⟨b4, 0, none⟩ : Addr).add j) = some v) ∧ Grow W w2) ∨
    ∃ l g b4 r F' uv' rv', h.us = l ++ [g] ∧ vs = [.pointer (some ⟨b4, 0, none⟩), .int .i64 0] ∧ RGrp C w2 r g ∧ (∀ j v, r[j]? = some v → w2.cell? ((⟨b4, 0, none⟩ : Addr).add j) = some v) ∧ (∀ x, F' x → (F x ∨ W.heap.size ≤ x) ∧ x < w2.heap.size) ∧ HistR F' C w2 b sv ks uv' rv' ov h.max l (h.rs ++ [g]) false h.own ∧ Mod F W w2) ?_ ?_
  · rintro _ w2 (⟨hn, b4, rfl, hc, g2⟩ | ⟨l, g, b4, r, F', uv', rv', hlg, rfl, ⟨dv, uu, rfl, hd, hu⟩, hc, hF', hR2, m2⟩) _
    · simp only [nth_s, nth_z, List.headD_cons, List.tail_cons]
      rw [faK_i]
      refine ld1K_i (hc 1 _ rfl) ?_
      refine callK_mono (copy_dops (S := fun _ => False) (D := fun _ => False) (x := []) SlR.nil (by simp [mDops])) ?_
      rintro cv w3 ⟨_, g3⟩
      exact .inl ⟨hn, cv, rfl, g2.trans g3⟩
    · simp only [nth_s, nth_z, List.headD_cons, List.tail_cons]
      rw [faK_i]
      refine ld1K_i (hc 1 _ rfl) ?_
      refine callK_mono (copy_dops hu (hb g (by rw [hlg]; simp))) ?_
      rintro cv w3 ⟨o3, g3⟩
      exact .inr ⟨l, g, cv, w2.heap.size, hlg, rfl, m2.size, o3, F', hF', ⟨C, sv, uv', rv', ov, by rw [hop]; exact hR2.grow g3⟩, g3.size, m2.next g3 fun _ _ h => h.elim⟩
  have gd : Grow W W.drew := Mod.drew _ _
  have zd : W.drew.heap.size = W.heap.size := rfl
  refine drawC_i (fun k y => (k = 7 ∧ F y) ∨ (k = 12 ∧ W.heap.size ≤ y)) ?_
  refine nilckK_s ?_
  rw [faK_i, addr0]
  refine nilckK_s ?_
  rw [faK_i, addr0]
  refine ⟨?_, ?_⟩
  · refine callK_mono (moveU_ok (hR.grow gd) hl1 hl2 hF) ?_
    rintro _ w5 (⟨hn, rfl, g5⟩ | ⟨l, g, r, F', uv', rv', hlg, rfl, hr2, hg, hF', hR5, m5⟩)
    · refine ⟨g5.mono fun _ _ h => h.elim, ?_⟩
      refine extK_i (vs := [_, _]) (by rfl) (extK_i (vs := [_, _]) (by rfl) ?_)
      refine newz_i fun b4 w6 hb4 hz6 g6 _ hl6 => ⟨g6.mono fun _ _ h => h.elim, ?_⟩
      have z5 := g5.size
      refine stn_over (vs := [.slice none 0 0, .slice none 0 0]) rfl (fun u hu => by simp at hu; subst hu; rfl) (fun j hj => hl6 j hj) fun w7 m7 hc7 _ => ⟨m7.mono fun x _ e => .inr ⟨rfl, by omega⟩, .inl ⟨hn, b4, rfl, hc7, ((gd.trans g5).trans g6).next m7 fun x hx e => by omega⟩⟩
    · refine ⟨m5.mono fun x _ e => .inl ⟨rfl, e⟩, ?_⟩
      refine extK_i (vs := [_, _]) (by rfl) (extK_i (vs := [_, _]) (by rfl) ?_)
      refine newz_i fun b4 w6 hb4 hz6 g6 _ hl6 => ⟨g6.mono fun _ _ h => h.elim, ?_⟩
      have z5 := m5.size
      have hg6 := hg.mod g6 fun _ _ _ h => h
      have hR6 := hR5.grow g6
      refine stn_over (vs := r) hr2 hg6.one (fun j hj => hl6 j hj) fun w7 m7 hc7 _ => ⟨m7.mono fun x _ e => .inr ⟨rfl, by omega⟩, .inr ⟨l, g, b4, r, F', uv', rv', hlg, rfl, hg6.mod m7 fun x _ hx e => ?_, hc7, fun x hx => ?_, hR6.mod m7 fun x hx e => ?_, ?_⟩⟩
      · have := (hR5.cf x hx).2; omega
      · have := m7.size
        rcases hF' x hx with e | e
        · exact ⟨.inl e, by have := hF x e; omega⟩
        · exact ⟨.inr (by omega), by omega⟩
      · rcases hF' x hx with e' | e'
        · have := hF x e'; omega
        · omega
      · exact (((gd.mono fun _ _ h => h.elim : Mod F W W.drew).trans m5).next g6 fun _ _ h => h.elim).next m7 fun x hx e => by omega
  · refine newz_i fun b4 w8 hb4 hz8 g8 _ hl8 => ⟨g8.mono fun _ _ h => h.elim, ?_⟩
    have z8 := g8.size
    have hF8 : ∀ x, F x → x < w8.heap.size := fun x hx => by have := hF x hx; omega
    refine callK_mono (moveU_ok ((hR.grow gd).grow g8) hl1 hl2 hF8) ?_
    rintro _ w9 (⟨hn, rfl, g9⟩ | ⟨l, g, r, F', uv', rv', hlg, rfl, hr2, hg, hF', hR9, m9⟩)
    · refine ⟨g9.mono fun _ _ h => h.elim, ?_⟩
      refine extK_i (vs := [_, _]) (by rfl) (extK_i (vs := [_, _]) (by rfl) ?_)
      refine stn_over (vs := [.slice none 0 0, .slice none 0 0]) rfl (fun u hu => by simp at hu; subst hu; rfl) (fun j hj => (hl8 j hj).mod g9 fun h => h) fun w7 m7 hc7 _ => ⟨m7.mono fun x _ e => .inr ⟨rfl, by omega⟩, .inl ⟨hn, b4, rfl, hc7, ((gd.trans g8).trans g9).next m7 fun x hx e => by omega⟩⟩
    · refine ⟨m9.mono fun x _ e => .inl ⟨rfl, e⟩, ?_⟩
      refine extK_i (vs := [_, _]) (by rfl) (extK_i (vs := [_, _]) (by rfl) ?_)
      have z9 := m9.size
      have b4F : ¬ F b4 := fun e => by have := hF b4 e; omega
      refine stn_over (vs := r) hr2 hg.one (fun j hj => (hl8 j hj).mod m9 (by rw [add_block]; exact b4F)) fun w7 m7 hc7 _ => ⟨m7.mono fun x _ e => .inr ⟨rfl, by omega⟩, .inr ⟨l, g, b4, r, F', uv', rv', hlg, rfl, hg.mod m7 fun x _ hx e => ?_, hc7, fun x hx => ?_, hR9.mod m7 fun x hx e => ?_, ?_⟩⟩
      · exact b4F (e ▸ (hR.cf x hx).1)
      · have := m7.size
        rcases hF' x hx with e | e
        · exact ⟨.inl e, by have := hF x e; omega⟩
        · exact ⟨.inr (by omega), by omega⟩
      · rcases hF' x hx with e' | e'
        · exact b4F (e ▸ e')
        · omega
      · exact (((gd.trans g8).mono fun _ _ h => h.elim : Mod F W w8).trans m9).next m7 fun x hx e => by omega
theorem redo_ok (hh : HistI F W b ks h) (hop : h.op = false) (hl1 : h.us.length ≤ 65536) (hl2 : h.rs.length ≤ 65536) (hF : ∀ x, F x → x < W.heap.size) (hb : ∀ g ∈ h.rs, mDops g.d ≤ 1099511627776) :
    callK Tryz.prog 21 [.pointer (some ⟨b, 0, none⟩)] (fun v' w' => (h.rs = [] ∧ ∃ cv, v' = .tuple #[cv, .int .i64 10] ∧ Grow W w') ∨
      ∃ l g cv n, h.rs = l ++ [g] ∧ v' = .tuple #[cv, .int .i64 0] ∧ W.heap.size ≤ n ∧ ODops n w' cv g.d ∧ ∃ F', (∀ x, F' x → (F x ∨ W.heap.size ≤ x) ∧ x < n) ∧ HistI F' w' b ks { h with us := h.us ++ [g], rs := l } ∧ n ≤ w'.heap.size ∧ Mod F W w') W := by
  apply S21_ok
  unfold S21
  refine callK_mono (hready_ok hh) ?_
  rintro _ _ ⟨rfl, rfl⟩
  rename World => W
  obtain ⟨C, sv, uv, rv, ov, hR⟩ := hh
  rw [hop] at hR
  rw [notK_i]
  refine condK_f ?_
  refine JoinK_i (fun vs w2 => (h.rs = [] ∧ ∃ b4, vs = [.pointer (some ⟨b4, 0, none⟩), .int .i64 10] ∧ (∀ j v, ([.slice none 0 0, .slice none 0 0] : List Value)[j]? = some v → w2.cell? ((⟨b4, 0, none⟩ : Addr).add j) = some v) ∧ Grow W w2) ∨
    ∃ l g b4 r F' uv' rv', h.rs = l ++ [g] ∧ vs = [.pointer (some ⟨b4, 0, none⟩), .int .i64 0] ∧ RGrp C w2 r g ∧ (∀ j v, r[j]? = some v → w2.cell? ((⟨b4, 0, none⟩ : Addr).add j) = some v) ∧ (∀ x, F' x → (F x ∨ W.heap.size ≤ x) ∧ x < w2.heap.size) ∧ HistR F' C w2 b sv ks uv' rv' ov h.max (h.us ++ [g]) l false h.own ∧ Mod F W w2) ?_ ?_
  · rintro _ w2 (⟨hn, b4, rfl, hc, g2⟩ | ⟨l, g, b4, r, F', uv', rv', hlg, rfl, ⟨dv, uu, rfl, hd, hu⟩, hc, hF', hR2, m2⟩) _
    · simp only [nth_s, nth_z, List.headD_cons, List.tail_cons]
      rw [faK_i]
      refine ld1K_i (hc 0 _ rfl) ?_
      refine callK_mono (copy_dops (S := fun _ => False) (D := fun _ => False) (x := []) SlR.nil (by simp [mDops])) ?_
      rintro cv w3 ⟨_, g3⟩
      exact .inl ⟨hn, cv, rfl, g2.trans g3⟩
    · simp only [nth_s, nth_z, List.headD_cons, List.tail_cons]
      rw [faK_i]
      refine ld1K_i (hc 0 _ rfl) ?_
      refine callK_mono (copy_dops hd (hb g (by rw [hlg]; simp))) ?_
      rintro cv w3 ⟨o3, g3⟩
      exact .inr ⟨l, g, cv, w2.heap.size, hlg, rfl, m2.size, o3, F', hF', ⟨C, sv, uv', rv', ov, by rw [hop]; exact hR2.grow g3⟩, g3.size, m2.next g3 fun _ _ h => h.elim⟩
  have gd : Grow W W.drew := Mod.drew _ _
  have zd : W.drew.heap.size = W.heap.size := rfl
  refine drawC_i (fun k y => (k = 7 ∧ F y) ∨ (k = 12 ∧ W.heap.size ≤ y)) ?_
  refine nilckK_s ?_
  rw [faK_i, addr0]
  refine nilckK_s ?_
  rw [faK_i, addr0]
  refine ⟨?_, ?_⟩
  · refine callK_mono (moveR_ok (hR.grow gd) hl1 hl2 hF) ?_
    rintro _ w5 (⟨hn, rfl, g5⟩ | ⟨l, g, r, F', uv', rv', hlg, rfl, hr2, hg, hF', hR5, m5⟩)
    · refine ⟨g5.mono fun _ _ h => h.elim, ?_⟩
      refine extK_i (vs := [_, _]) (by rfl) (extK_i (vs := [_, _]) (by rfl) ?_)
      refine newz_i fun b4 w6 hb4 hz6 g6 _ hl6 => ⟨g6.mono fun _ _ h => h.elim, ?_⟩
      have z5 := g5.size
      refine stn_over (vs := [.slice none 0 0, .slice none 0 0]) rfl (fun u hu => by simp at hu; subst hu; rfl) (fun j hj => hl6 j hj) fun w7 m7 hc7 _ => ⟨m7.mono fun x _ e => .inr ⟨rfl, by omega⟩, .inl ⟨hn, b4, rfl, hc7, ((gd.trans g5).trans g6).next m7 fun x hx e => by omega⟩⟩
    · refine ⟨m5.mono fun x _ e => .inl ⟨rfl, e⟩, ?_⟩
      refine extK_i (vs := [_, _]) (by rfl) (extK_i (vs := [_, _]) (by rfl) ?_)
      refine newz_i fun b4 w6 hb4 hz6 g6 _ hl6 => ⟨g6.mono fun _ _ h => h.elim, ?_⟩
      have z5 := m5.size
      have hg6 := hg.mod g6 fun _ _ _ h => h
      have hR6 := hR5.grow g6
      refine stn_over (vs := r) hr2 hg6.one (fun j hj => hl6 j hj) fun w7 m7 hc7 _ => ⟨m7.mono fun x _ e => .inr ⟨rfl, by omega⟩, .inr ⟨l, g, b4, r, F', uv', rv', hlg, rfl, hg6.mod m7 fun x _ hx e => ?_, hc7, fun x hx => ?_, hR6.mod m7 fun x hx e => ?_, ?_⟩⟩
      · have := (hR5.cf x hx).2; omega
      · have := m7.size
        rcases hF' x hx with e | e
        · exact ⟨.inl e, by have := hF x e; omega⟩
        · exact ⟨.inr (by omega), by omega⟩
      · rcases hF' x hx with e' | e'
        · have := hF x e'; omega
        · omega
      · exact (((gd.mono fun _ _ h => h.elim : Mod F W W.drew).trans m5).next g6 fun _ _ h => h.elim).next m7 fun x hx e => by omega
  · refine newz_i fun b4 w8 hb4 hz8 g8 _ hl8 => ⟨g8.mono fun _ _ h => h.elim, ?_⟩
    have z8 := g8.size
    have hF8 : ∀ x, F x → x < w8.heap.size := fun x hx => by have := hF x hx; omega
    refine callK_mono (moveR_ok ((hR.grow gd).grow g8) hl1 hl2 hF8) ?_
    rintro _ w9 (⟨hn, rfl, g9⟩ | ⟨l, g, r, F', uv', rv', hlg, rfl, hr2, hg, hF', hR9, m9⟩)
    · refine ⟨g9.mono fun _ _ h => h.elim, ?_⟩
      refine extK_i (vs := [_, _]) (by rfl) (extK_i (vs := [_, _]) (by rfl) ?_)
      refine stn_over (vs := [.slice none 0 0, .slice none 0 0]) rfl (fun u hu => by simp at hu; subst hu; rfl) (fun j hj => (hl8 j hj).mod g9 fun h => h) fun w7 m7 hc7 _ => ⟨m7.mono fun x _ e => .inr ⟨rfl, by omega⟩, .inl ⟨hn, b4, rfl, hc7, ((gd.trans g8).trans g9).next m7 fun x hx e => by omega⟩⟩
    · refine ⟨m9.mono fun x _ e => .inl ⟨rfl, e⟩, ?_⟩
      refine extK_i (vs := [_, _]) (by rfl) (extK_i (vs := [_, _]) (by rfl) ?_)
      have z9 := m9.size
      have b4F : ¬ F b4 := fun e => by have := hF b4 e; omega
      refine stn_over (vs := r) hr2 hg.one (fun j hj => (hl8 j hj).mod m9 (by rw [add_block]; exact b4F)) fun w7 m7 hc7 _ => ⟨m7.mono fun x _ e => .inr ⟨rfl, by omega⟩, .inr ⟨l, g, b4, r, F', uv', rv', hlg, rfl, hg.mod m7 fun x _ hx e => ?_, hc7, fun x hx => ?_, hR9.mod m7 fun x hx e => ?_, ?_⟩⟩
      · exact b4F (e ▸ (hR.cf x hx).1)
      · have := m7.size
        rcases hF' x hx with e | e
        · exact ⟨.inl e, by have := hF x e; omega⟩
        · exact ⟨.inr (by omega), by omega⟩
      · rcases hF' x hx with e' | e'
        · exact b4F (e ▸ e')
        · omega
      · exact (((gd.trans g8).mono fun _ _ h => h.elim : Mod F W w8).trans m9).next m7 fun x hx e => by omega
end
/-- a history of the law's own (w0: the world in which the law began) -/
structure HL (w0 : World) (F : Nat → Prop) (W : World) (b : Nat) (ks : List DKey) (h : Hist) : Prop where
  his : HistI F W b ks h
  hF : ∀ x, F x → w0.heap.size ≤ x ∧ x < W.heap.size
  g : Grow w0 W
section
variable {w0 W W' : World} {F : Nat → Prop} {b : Nat} {ks : List DKey} {h h' : Hist}
theorem HL.grow (hh : HL w0 F W b ks h) (g : Grow W W') : HL w0 F W' b ks h := ⟨hh.his.grow g, fun x hx => ⟨(hh.hF x hx).1, Nat.lt_of_lt_of_le (hh.hF x hx).2 g.size⟩, hh.g.trans g⟩
theorem HL.after (hh : HL w0 F W b ks h) (ha : HAfter F W W' b ks h') : ∃ F', HL w0 F' W' b ks h' ∧ (∀ x, F' x → F x ∨ W.heap.size ≤ x) ∧ Mod F W W' := by
  obtain ⟨F', h1, h2, h3⟩ := ha
  have s := h3.size
  have s0 := hh.g.size
  refine ⟨F', ⟨h2, fun x hx => ?_, hh.g.next h3 fun x hx e => by have := (hh.hF x e).1; omega⟩, fun x hx => ?_, h3⟩
  · rcases h1 x hx with e | e
    · have := hh.hF x e; exact ⟨this.1, by omega⟩
    · exact ⟨by omega, e.2⟩
  · rcases h1 x hx with e | e
    · exact .inl e
    · exact .inr e.1
theorem HL.push {S D S' D' : Nat → Prop} {dv uu : Value} {x y : List Dop} (hh : HL w0 F W b ks h) (hop : h.op = false) (hl : h.us.length ≤ h.max) (hmx : h.max ≤ 65536) (hd : RDops S D W dv x) (hu : RDops S' D' W uu y) (bx : mDops x ≤ 1099511627776) (by' : mDops y ≤ 1099511627776) :
    callK Tryz.prog 18 [.pointer (some ⟨b, 0, none⟩), dv, uu] (fun v' w' => v' = .int .i64 0 ∧ ∃ F', HL w0 F' w' b ks { h with us := keepL h.max h.us ⟨x, y⟩, rs := [] } ∧ (∀ x, F' x → F x ∨ W.heap.size ≤ x) ∧ Mod F W w') W :=
  callK_mono (push_ok hh.his hop hl hmx hd hu bx by' fun x hx => (hh.hF x hx).2) fun _ _ h' => ⟨h'.1, hh.after h'.2⟩
theorem HL.undo (hh : HL w0 F W b ks h) (hop : h.op = false) (hl1 : h.us.length ≤ 65536) (hl2 : h.rs.length ≤ 65536) (hb : ∀ g ∈ h.us, mDops g.u ≤ 1099511627776) :
    callK Tryz.prog 19 [.pointer (some ⟨b, 0, none⟩)] (fun v' w' => (h.us = [] ∧ ∃ cv, v' = .tuple #[cv, .int .i64 10] ∧ Grow W w') ∨
      ∃ l g cv n F', h.us = l ++ [g] ∧ v' = .tuple #[cv, .int .i64 0] ∧ W.heap.size ≤ n ∧ ODops n w' cv g.u ∧ HL w0 F' w' b ks { h with us := l, rs := h.rs ++ [g] } ∧ (∀ x, F' x → (F x ∨ W.heap.size ≤ x) ∧ x < n) ∧ Mod F W w') W := by
  refine callK_mono (undo_ok hh.his hop hl1 hl2 (fun x hx => (hh.hF x hx).2) hb) ?_
  rintro v w' (h1 | ⟨l, g, cv, n, h1, h2, h3, h4, F', h5, h6, h7, h8⟩)
  · exact .inl h1
  · have s0 := hh.g.size
    refine .inr ⟨l, g, cv, n, F', h1, h2, h3, h4, ⟨h6, fun x hx => ?_, hh.g.next h8 fun x hx e => by have := (hh.hF x e).1; omega⟩, h5, h8⟩
    obtain ⟨e, hn⟩ := h5 x hx
    rcases e with e | e
    · exact ⟨(hh.hF x e).1, by omega⟩
    · exact ⟨by omega, by omega⟩
theorem HL.redo (hh : HL w0 F W b ks h) (hop : h.op = false) (hl1 : h.us.length ≤ 65536) (hl2 : h.rs.length ≤ 65536) (hb : ∀ g ∈ h.rs, mDops g.d ≤ 1099511627776) :
    callK Tryz.prog 21 [.pointer (some ⟨b, 0, none⟩)] (fun v' w' => (h.rs = [] ∧ ∃ cv, v' = .tuple #[cv, .int .i64 10] ∧ Grow W w') ∨
      ∃ l g cv n F', h.rs = l ++ [g] ∧ v' = .tuple #[cv, .int .i64 0] ∧ W.heap.size ≤ n ∧ ODops n w' cv g.d ∧ HL w0 F' w' b ks { h with us := h.us ++ [g], rs := l } ∧ (∀ x, F' x → (F x ∨ W.heap.size ≤ x) ∧ x < n) ∧ Mod F W w') W := by
  refine callK_mono (redo_ok hh.his hop hl1 hl2 (fun x hx => (hh.hF x hx).2) hb) ?_
  rintro v w' (h1 | ⟨l, g, cv, n, h1, h2, h3, h4, F', h5, h6, h7, h8⟩)
  · exact .inl h1
  · have s0 := hh.g.size
    refine .inr ⟨l, g, cv, n, F', h1, h2, h3, h4, ⟨h6, fun x hx => ?_, hh.g.next h8 fun x hx e => by have := (hh.hF x e).1; omega⟩, h5, h8⟩
    obtain ⟨e, hn⟩ := h5 x hx
    rcases e with e | e
    · exact ⟨(hh.hF x e).1, by omega⟩
    · exact ⟨by omega, by omega⟩
end
end Go.Proofs.YtlbaopamhkmepaaGreatDoor

namespace Go.K
open Go
/-- a new row of one element -/
theorem OwnR.row1 {α : Type} {B e k : Nat} {R : World → List Value → α → Prop} {w : World} {cs : List Value} {x : α} (hB : B ≤ w.heap.size) (hcs : cs.length = k) (h1 : ∀ u ∈ cs, u.oneCell' = true) (hx : R (w.alloc (.cells cs.toArray e)) cs x) :
    OwnR B e k R (w.alloc (.cells cs.toArray e)) (.slice (some ⟨w.heap.size, 0, none⟩) 1 1) [x] := by
  refine ⟨[cs], ⟨by simp [hcs], .inr ⟨w.heap.size, 1, cs.toArray, rfl, hB, heap_alloc_new w _, by simp, by simp [maxLen], by simp [hcs], by simp [← hcs]⟩⟩, rfl, fun r hr => ?_, fun i r y hr hy => ?_⟩
  · simp only [List.mem_singleton] at hr
    subst hr
    exact ⟨hcs, h1⟩
  · have hi : i = 0 := by have := (List.getElem?_eq_some_iff.1 hr).1; simp at this; exact this
    subst hi
    cases hr; cases hy
    exact hx
end Go.K
namespace Go.Proofs.YtlbaopamhkmepaaGreatDoor
open Go Go.K

def insO (r : Int) : Dop := ⟨2, 0, [r], [], []⟩
def delO (n : Int) : Dop := ⟨3, n, [], [], []⟩
/-- an insert of one rune, and what takes it away -/
theorem in_ok {r : Int} {w : World} : callK Tryz.prog 17 [.int .i32 r] (fun v' w' => Grow w w' ∧ ∃ dv uv, v' = .tuple #[dv, uv] ∧ ODops w.heap.size w' dv [insO r] ∧ ODops w.heap.size w' uv [delO 1] ∧ (∀ g, uv.ownBlock = some g → dv.ownBlock ≠ some g ∧ (∀ x, w.heap.size ≤ x → x < w'.heap.size → x = g ∨ x < g))) w := by
  apply S17_ok
  unfold S17
  refine rowK_i (cs := [.int .i32 r]) (by kernel_rfl) ?_
  have g1 : Grow w (w.alloc (.cells [Value.int .i32 r].toArray 21)) := Mod.alloc _ _ _
  have o1 : OwnR w.heap.size 21 1 RRune (w.alloc (.cells [Value.int .i32 r].toArray 21)) (.slice (some ⟨w.heap.size, 0, none⟩) 1 1) [r] := OwnR.row1 (Nat.le_refl _) rfl (fun u hu => by simp at hu; subst hu; rfl) rfl
  have z1 : (w.alloc (.cells [Value.int .i32 r].toArray 21)).heap.size = w.heap.size + 1 := by simp
  generalize w.alloc (.cells [Value.int .i32 r].toArray 21) = w1 at g1 o1 z1 ⊢
  refine ⟨#[.int .u8 2, .int .i64 0, .slice (some ⟨w.heap.size, 0, none⟩) 1 1, .slice none 0 0, .slice none 0 0], by kernel_rfl, ?_⟩
  refine rowK_i (cs := [.int .u8 2, .int .i64 0, .slice (some ⟨w.heap.size, 0, none⟩) 1 1, .slice none 0 0, .slice none 0 0]) (by kernel_rfl) ?_
  have g2 : Grow w1 (w1.alloc (.cells [Value.int .u8 2, .int .i64 0, .slice (some ⟨w.heap.size, 0, none⟩) 1 1, .slice none 0 0, .slice none 0 0].toArray 39)) := Mod.alloc _ _ _
  have o2 : ODops w.heap.size (w1.alloc (.cells [Value.int .u8 2, .int .i64 0, .slice (some ⟨w.heap.size, 0, none⟩) 1 1, .slice none 0 0, .slice none 0 0].toArray 39)) (.slice (some ⟨w1.heap.size, 0, none⟩) 1 1) [insO r] := by
    refine OwnR.row1 (by omega) rfl (fun u hu => by simp at hu; rcases hu with rfl | rfl | rfl | rfl <;> rfl) ⟨_, _, _, rfl, ⟨OwnR.mod (o1.base fun _ _ => Nat.zero_le _) g2 (fun _ _ h => h) fun _ _ _ h => h, fun g hg => ?_⟩, ⟨OwnR.nil, fun g hg => nomatch hg⟩, ⟨OwnR.nil, fun g hg => nomatch hg⟩⟩
    have e : w.heap.size = g := Option.some.inj hg
    exact ⟨by omega, fun e2 => by have e3 : w1.heap.size = g := Option.some.inj e2; omega⟩
  have z2 : (w1.alloc (.cells [Value.int .u8 2, .int .i64 0, .slice (some ⟨w.heap.size, 0, none⟩) 1 1, .slice none 0 0, .slice none 0 0].toArray 39)).heap.size = w1.heap.size + 1 := by simp
  generalize w1.alloc (.cells [Value.int .u8 2, .int .i64 0, .slice (some ⟨w.heap.size, 0, none⟩) 1 1, .slice none 0 0, .slice none 0 0].toArray 39) = w2 at g2 o2 z2 ⊢
  refine ⟨#[.int .u8 3, .int .i64 1, .slice none 0 0, .slice none 0 0, .slice none 0 0], by kernel_rfl, ?_⟩
  refine rowK_i (cs := [.int .u8 3, .int .i64 1, .slice none 0 0, .slice none 0 0, .slice none 0 0]) (by kernel_rfl) ?_
  have g3 : Grow w2 (w2.alloc (.cells [Value.int .u8 3, .int .i64 1, .slice none 0 0, .slice none 0 0, .slice none 0 0].toArray 39)) := Mod.alloc _ _ _
  refine ⟨(g1.trans g2).trans g3, _, _, rfl, ODops.grow o2 g3 fun _ _ _ h => h, ?_, fun g hg => ?_⟩
  · exact OwnR.row1 (by omega) rfl (fun u hu => by simp at hu; rcases hu with rfl | rfl | rfl <;> rfl) ⟨_, _, _, rfl, ⟨OwnR.nil, fun g hg => nomatch hg⟩, ⟨OwnR.nil, fun g hg => nomatch hg⟩, ⟨OwnR.nil, fun g hg => nomatch hg⟩⟩
  · have e : w2.heap.size = g := Option.some.inj hg
    refine ⟨fun e2 => by have e3 : w1.heap.size = g := Option.some.inj e2; omega, fun x _ hx => ?_⟩
    have : (w2.alloc (.cells [Value.int .u8 3, .int .i64 1, .slice none 0 0, .slice none 0 0, .slice none 0 0].toArray 39)).heap.size = w2.heap.size + 1 := by simp
    omega
/-- what was told and stays: it lies between lo and hi, the history does not -/
structure HK (F : Nat → Prop) (W : World) (lo hi : Nat) (v : Value) (l : List Dop) : Prop where
  rd : RDops (fun z => lo ≤ z ∧ z < hi) (fun z => lo ≤ z ∧ z < hi) W v l
  sz : hi ≤ W.heap.size
  ap : ∀ x, F x → x < lo ∨ hi ≤ x
theorem HK.next {F F' : Nat → Prop} {W W' : World} {lo hi : Nat} {v : Value} {l : List Dop} (h : HK F W lo hi v l) (hm : Mod F W W') (hF : ∀ x, F' x → F x ∨ W.heap.size ≤ x) : HK F' W' lo hi v l := by
  have hn : ∀ b, b < W.heap.size → (lo ≤ b ∧ b < hi) → ¬ F b := fun b _ hb hf => by rcases h.ap b hf with e | e <;> omega
  refine ⟨h.rd.mod hm hn hn, Nat.le_trans h.sz hm.size, fun x hx => ?_⟩
  rcases hF x hx with e | e
  · exact h.ap x e
  · have := h.sz; exact .inr (by omega)
theorem HK.grow {F : Nat → Prop} {W W' : World} {lo hi : Nat} {v : Value} {l : List Dop} (h : HK F W lo hi v l) (g : Grow W W') : HK F W' lo hi v l := ⟨h.rd.grow g, Nat.le_trans h.sz g.size, h.ap⟩
theorem HK.new {F : Nat → Prop} {W : World} {n : Nat} {v : Value} {l : List Dop} (h : ODops n W v l) (hF : ∀ x, F x → x < n ∨ W.heap.size ≤ x) : HK F W n W.heap.size v l := ⟨ODops.reads h, Nat.le_refl _, hF⟩
theorem mins (r : Int) : mDops [insO r] ≤ 1099511627776 := by simp [mDops, mDop, insO, mSet, mPat]
theorem mdel (n : Int) : mDops [delO n] ≤ 1099511627776 := by simp [mDops, mDop, delO, mSet, mPat]
def gin (r n : Int) : Grp := ⟨[insO r], [delO n]⟩
end Go.Proofs.YtlbaopamhkmepaaGreatDoor

namespace Go.Proofs.YtlbaopamhkmepaaGreatDoor
open Go Go.K

theorem newnil_ok {w : World} : callK Tryz.prog 14 [.slice none 0 0] (fun v' w' => Grow w w' ∧ ∃ sv, v' = .tuple #[sv, .int .i64 0] ∧ SchR (fun x => w.heap.size ≤ x) w' sv []) w := by
  refine callK_mono (new_key_ok (S := fun _ => False) (keys := []) SlR.nil) ?_
  rintro v w' ⟨g, hr⟩
  refine ⟨g, ?_⟩
  rcases hr with ⟨_, sv, ks, rfl, hp, _, hS⟩ | ⟨hn, _⟩
  · have : ks = [] := List.perm_nil.1 hp
    subst this
    exact ⟨sv, rfl, hS⟩
  · exact absurd ((mayk_iff (keys := [])).2 ⟨by simp, (fun x hx => by simp at hx), List.Pairwise.nil⟩) hn
theorem HL.new {w0 W : World} {C : Nat → Prop} {sv : Value} {ks : List DKey} {mx : Nat} (hS : SchR C W sv ks) (hC : ∀ x, x < W.heap.size → C x → w0.heap.size ≤ x) (g : Grow w0 W) (hmx : mx ≤ 65536) :
    callK Tryz.prog 15 [sv, .int .i64 mx] (fun v' w' => ∃ b F, v' = .tuple #[.pointer (some ⟨b, 0, none⟩), .int .i64 0] ∧ HL w0 F w' b ks ⟨mx, [], [], false, []⟩) W := by
  refine callK_mono (hnew_ok hS hmx) ?_
  rintro _ w' ⟨g', b, hb, rfl, hH⟩
  have := g.size
  have := g'.size
  exact ⟨b, _, rfl, hH, fun x hx => by rcases hx with ⟨h1, h2⟩ | ⟨h1, h2⟩; exact ⟨hC x h2 h1, by omega⟩; exact ⟨by omega, h2⟩, g.trans g'⟩
theorem concat_inj {α : Type} {l l' : List α} {g g' : α} (h : l ++ [g] = l' ++ [g']) : l = l' ∧ g = g' := by
  have := List.append_inj' h rfl
  exact ⟨this.1, by simpa using this.2⟩
/-- the three groups of the known case -/
def kus : Nat → List Grp
  | 0 => []
  | 1 => [gin 97 1]
  | 2 => [gin 97 1, gin 98 1]
  | _ => [gin 98 1, gin 99 1]
set_option maxRecDepth 20000 in
theorem known27_ok {w : World} : callK Tryz.prog 16 [] (fun v w' => v = .bool true ∧ Grow w w') w := by
  apply S16_ok
  unfold S16
  refine callK_mono newnil_ok ?_
  rintro _ w1 ⟨g1, sv, rfl, hS⟩
  refine extK_i (vs := [_, _]) (by rfl) (extK_i (vs := [_, _]) (by rfl) ?_)
  refine callK_mono (HL.new (mx := 2) hS (fun x _ hx => hx) g1 (by decide)) ?_
  rintro _ w2 ⟨b, F, rfl, hH⟩
  refine extK_i (vs := [_, _]) (by rfl) (extK_i (vs := [_, _]) (by rfl) ?_)
  refine JoinK_i (fun _ W => W = w2) ?_ ?_
  rotate_left
  · rw [neK_i]
    refine condK_neg (fun _ => ?_) fun e => (e rfl).elim
    rw [neK_i]
    refine condK_neg (fun _ => ?_) fun e => (e rfl).elim
    exact pnilK_s (condK_f rfl)
  rintro _ _ rfl _
  rename World => w2
  refine runK_i (v := .agg #[.int .i32 97, .int .i32 98, .int .i32 99]) (w' := w2) (by kernel_rfl) ?_
  refine LoopK_i (fun vs W => ∃ (i : Nat) (F : Nat → Prop), i ≤ 3 ∧ vs = [.int .i64 i] ∧ HL w F W b [] ⟨2, kus i, [], false, []⟩) (fun vs _ => 3 - iOf vs 0) ⟨0, F, by omega, rfl, hH⟩ ?_
  rintro vs W ⟨i, F, hi, rfl, hH⟩ _
  rw [nth_z, List.headD_cons, ltK_i]
  refine condK_p (fun hlt => ?_) fun hge => ?_
  · have step : ∀ (r : Int), keepL 2 (kus i) (gin r 1) = kus (i + 1) → (kus i).length ≤ 2 → (Instr.index 93 (.agg #[.int .i32 97, .int .i32 98, .int .i32 99]) (.int .i64 i)).run Tryz.prog W = .ok (.int .i32 r) W →
        runK Tryz.prog (Instr.index 93 (.agg #[.int .i32 97, .int .i32 98, .int .i32 99]) (.int .i64 i)) (fun t43 w6 => callK Tryz.prog 17 [t43] (fun t46 w7 => extK 0 t46 fun t47 => extK 1 t46 fun t48 => callK Tryz.prog 18 [.pointer (some ⟨b, 0, none⟩), t47, t48] (fun t52 w8 => neK .i64 t52 (.int .i64 0) fun t53 => condK t53 ((.bool false : Value) = .bool true ∧ Grow w w8) (addK .i64 (.int .i64 i) (.int .i64 1) fun t54 => (∃ (i : Nat) (F : Nat → Prop), i ≤ 3 ∧ [t54] = [.int .i64 (i : Int)] ∧ HL w F w8 b [] ⟨2, kus i, [], false, []⟩) ∧ 3 - iOf [t54] 0 < 3 - iOf [.int .i64 (i : Int)] 0)) w7) w6) W := by
      intro r hk hl hrun
      refine runK_i hrun (callK_mono in_ok ?_)
      rintro _ w7 ⟨g7, dv, uv, rfl, hd, hu, _⟩
      refine extK_i (vs := [_, _]) (by rfl) (extK_i (vs := [_, _]) (by rfl) ?_)
      refine callK_mono ((hH.grow g7).push rfl hl (show 2 ≤ 65536 by decide) (ODops.sl hd) (ODops.sl hu) (mins r) (mdel 1)) ?_
      rintro _ w8 ⟨rfl, F8, hH8, _, _⟩
      have hH8' : HL w F8 w8 b [] ⟨2, kus (i + 1), [], false, []⟩ := by rw [← hk]; exact hH8
      rw [neK_i]
      refine condK_neg (fun _ => ?_) fun e => (e rfl).elim
      rw [addK_i, loop_step (by omega)]
      exact ⟨⟨i + 1, F8, by omega, rfl, hH8'⟩, by rw [iOf0, iOf0]; omega⟩
    rcases (show i = 0 ∨ i = 1 ∨ i = 2 by omega) with rfl | rfl | rfl
    · exact step 97 rfl (by decide) (by kernel_rfl)
    · exact step 98 rfl (by decide) (by kernel_rfl)
    · exact step 99 rfl (by decide) (by kernel_rfl)
  obtain rfl : i = 3 := by omega
  have b8 : ∀ (us : List Grp), (∀ g ∈ us, g = gin 97 1 ∨ g = gin 98 1 ∨ g = gin 99 1) → (∀ g ∈ us, mDops g.u ≤ 1099511627776) ∧ ∀ g ∈ us, mDops g.d ≤ 1099511627776 := fun us h => ⟨fun g hg => by rcases h g hg with rfl | rfl | rfl <;> exact mdel 1, fun g hg => by rcases h g hg with rfl | rfl | rfl <;> exact mins _⟩
  -- undone: c
  refine callK_mono (hH.undo rfl (by simp [kus]) (by simp) (b8 _ (by simp [kus])).1) ?_
  rintro _ w9 (⟨hn, _⟩ | ⟨l, g, cx, n9, F9, hlg, rfl, hn9, ox, hH9, hF9, m9⟩)
  · cases hn
  obtain ⟨rfl, rfl⟩ := concat_inj (l := [gin 98 1]) (g := gin 99 1) hlg
  have kx : HK F9 w9 n9 w9.heap.size cx [delO 1] := HK.new ox fun x hx => .inl (hF9 x hx).2
  have hH9' : HL w F9 w9 b [] ⟨2, [gin 98 1], [gin 99 1], false, []⟩ := hH9
  refine extK_i (vs := [_, _]) (by rfl) (extK_i (vs := [_, _]) (by rfl) ?_)
  -- undone: b
  refine callK_mono (hH9'.undo rfl (by simp) (by simp) (b8 _ (by simp)).1) ?_
  rintro _ w10 (⟨hn, _⟩ | ⟨l, g, c10, n10, F10, hlg, rfl, hn10, _, hH10, hF10, m10⟩)
  · cases hn
  obtain ⟨rfl, rfl⟩ := concat_inj (l := []) (g := gin 98 1) hlg
  have kx10 := kx.next m10 fun x hx => (hF10 x hx).1
  have hH10' : HL w F10 w10 b [] ⟨2, [], [gin 99 1, gin 98 1], false, []⟩ := hH10
  refine extK_i (vs := [_, _]) (by rfl) (extK_i (vs := [_, _]) (by rfl) ?_)
  -- no more
  refine callK_mono (hH10'.undo rfl (by simp) (by simp) (by simp)) ?_
  rintro _ w11 (⟨_, c11, rfl, g11⟩ | ⟨l, g, _, _, _, hlg, _⟩)
  rotate_left
  · exact absurd hlg (by simp)
  refine extK_i (vs := [_, _]) (by rfl) (extK_i (vs := [_, _]) (by rfl) ?_)
  have hH11 := hH10'.grow g11
  have kx11 := kx10.grow g11
  -- done again: b
  refine callK_mono (hH11.redo rfl (by simp) (by simp) (b8 _ (by simp)).2) ?_
  rintro _ w12 (⟨hn, _⟩ | ⟨l, g, cy, n12, F12, hlg, rfl, hn12, oy, hH12, hF12, m12⟩)
  · cases hn
  obtain ⟨rfl, rfl⟩ := concat_inj (l := [gin 99 1]) (g := gin 98 1) hlg
  have hH12' : HL w F12 w12 b [] ⟨2, [gin 98 1], [gin 99 1], false, []⟩ := hH12
  have kx12 := kx11.next m12 fun x hx => (hF12 x hx).1
  have ky : HK F12 w12 n12 w12.heap.size cy [insO 98] := HK.new oy fun x hx => .inl (hF12 x hx).2
  refine extK_i (vs := [_, _]) (by rfl) (extK_i (vs := [_, _]) (by rfl) ?_)
  refine callK_mono in_ok ?_
  rintro _ w13 ⟨g13, dv, uv, rfl, hd, hu, _⟩
  refine extK_i (vs := [_, _]) (by rfl) (extK_i (vs := [_, _]) (by rfl) ?_)
  have hH13 := hH12'.grow g13
  refine callK_mono (depths_ok hH13.his) ?_
  rintro _ w14 ⟨rfl, g14⟩
  refine extK_i (vs := [_, _]) (by rfl) (extK_i (vs := [_, _]) (by rfl) ?_)
  have hH14 := hH13.grow g14
  rw [eqK_i]; refine condK_p (fun _ => ?_) fun e => (e rfl).elim
  rw [eqK_i]; refine condK_p (fun _ => ?_) fun e => (e rfl).elim
  rw [eqK_i]; refine condK_p (fun _ => ?_) fun e => (e rfl).elim
  rw [eqK_i]; refine condK_p (fun _ => ?_) fun e => (e rfl).elim
  have g24 := g13.trans g14
  refine callK_mono (rsame_dops (kx12.grow g24).rd (ODops.sl (ODops.grow hu g14 fun _ _ _ h => h))) ?_
  rintro _ w15 ⟨rfl, g15⟩
  rw [decide_eq_true rfl]
  refine condK_t ?_
  refine callK_mono (rsame_dops (ky.grow (g24.trans g15)).rd (ODops.sl (ODops.grow hd (g14.trans g15) fun _ _ _ h => h))) ?_
  rintro _ w16 ⟨rfl, g16⟩
  rw [decide_eq_true rfl]
  refine condK_t ?_
  rw [eqK_i]; refine condK_p (fun _ => ?_) fun e => (e rfl).elim
  rw [eqK_i]; refine condK_p (fun _ => ?_) fun e => (e rfl).elim
  have g46 := (g14.trans g15).trans g16
  have hH16 := (hH14.grow g15).grow g16
  refine callK_mono (hH16.push rfl (by simp) (by simp) (ODops.sl (ODops.grow hd g46 fun _ _ _ h => h)) (ODops.sl (ODops.grow hu g46 fun _ _ _ h => h)) (mins 98) (mdel 1)) ?_
  rintro _ w17 ⟨rfl, F17, hH17, _, _⟩
  rw [eqK_i]; refine condK_p (fun _ => ?_) fun e => (e rfl).elim
  refine callK_mono (begin_ok hH17.his) ?_
  rintro _ w18 (⟨h1, _⟩ | ⟨_, rfl, ha⟩)
  · cases h1
  obtain ⟨F18, hH18, _, _⟩ := hH17.after ha
  rw [eqK_i]; refine condK_p (fun _ => ?_) fun e => (e rfl).elim
  refine callK_mono (begin_ok hH18.his) ?_
  rintro _ w19 (⟨_, rfl, rfl⟩ | ⟨h1, _⟩)
  rotate_left
  · cases h1
  rw [eqK_i]; refine condK_p (fun _ => ?_) fun e => (e rfl).elim
  refine callK_mono (open_ok hH18.his) ?_
  rintro _ _ ⟨rfl, rfl⟩
  exact ⟨rfl, hH18.g⟩
end Go.Proofs.YtlbaopamhkmepaaGreatDoor

namespace Go.Proofs.YtlbaopamhkmepaaGreatDoor
open Go Go.K

/-! ### patches one behind the other -/
abbrev RisP (l : List Chg) : Prop := l.Pairwise fun a b => a.key < b.key
abbrev RisS (l : List Attr) : Prop := l.Pairwise fun a b => a.key < b.key
def lowC (c : Chg) : List Chg → List Chg
  | [] => []
  | a :: p => if a.key ≤ c.key then (if a.key < c.key then a :: lowC c p else lowC c p) else []
def highC (c : Chg) : List Chg → List Chg
  | [] => []
  | a :: p => if a.key ≤ c.key then highC c p else a :: p
def comP : List Chg → List Chg → List Chg
  | p, [] => p
  | p, c :: q => lowC c p ++ c :: comP (highC c p) q
theorem lowC_mem {c : Chg} {p : List Chg} {x : Chg} (h : x ∈ lowC c p) : x ∈ p ∧ x.key < c.key := by
  induction p with
  | nil => simp [lowC] at h
  | cons a p ih =>
    simp only [lowC] at h
    split at h
    · split at h
      · rcases List.mem_cons.1 h with rfl | h
        · exact ⟨by simp, by assumption⟩
        · exact ⟨by simp [(ih h).1], (ih h).2⟩
      · exact ⟨by simp [(ih h).1], (ih h).2⟩
    · simp at h
theorem highC_mem {c : Chg} {p : List Chg} {x : Chg} (h : x ∈ highC c p) : x ∈ p := by
  induction p with
  | nil => simp [highC] at h
  | cons a p ih =>
    simp only [highC] at h
    split at h
    · simp [ih h]
    · exact h
theorem highC_gt {c : Chg} {p : List Chg} (hp : RisP p) {x : Chg} (h : x ∈ highC c p) : c.key < x.key := by
  induction p with
  | nil => simp [highC] at h
  | cons a p ih =>
    rw [RisP, List.pairwise_cons] at hp
    simp only [highC] at h
    split at h
    · exact ih hp.2 h
    · rcases List.mem_cons.1 h with rfl | h
      · omega
      · have := hp.1 x h; omega
theorem lowC_ris {c : Chg} {p : List Chg} (hp : RisP p) : RisP (lowC c p) := by
  induction p with
  | nil => exact List.Pairwise.nil
  | cons a p ih =>
    rw [RisP, List.pairwise_cons] at hp
    simp only [lowC]
    split
    · split
      · exact List.pairwise_cons.2 ⟨fun x hx => hp.1 x (lowC_mem hx).1, ih hp.2⟩
      · exact ih hp.2
    · exact List.Pairwise.nil
theorem highC_ris {c : Chg} {p : List Chg} (hp : RisP p) : RisP (highC c p) := by
  induction p with
  | nil => exact List.Pairwise.nil
  | cons a p ih =>
    have hp' := hp
    rw [RisP, List.pairwise_cons] at hp
    simp only [highC]
    split
    · exact ih hp.2
    · exact hp'
theorem comP_mem {p q : List Chg} {x : Chg} (h : x ∈ comP p q) : x ∈ p ∨ x ∈ q := by
  induction q generalizing p with
  | nil => exact .inl h
  | cons c q ih =>
    simp only [comP] at h
    rcases List.mem_append.1 h with h | h
    · exact .inl (lowC_mem h).1
    · rcases List.mem_cons.1 h with rfl | h
      · exact .inr (by simp)
      · rcases ih h with h | h
        · exact .inl (highC_mem h)
        · exact .inr (by simp [h])
theorem comP_ris {p q : List Chg} (hp : RisP p) (hq : RisP q) : RisP (comP p q) := by
  induction q generalizing p with
  | nil => exact hp
  | cons c q ih =>
    rw [RisP, List.pairwise_cons] at hq
    simp only [comP]
    have gt : ∀ x ∈ comP (highC c p) q, c.key < x.key := fun x hx => by
      rcases comP_mem hx with h | h
      · exact highC_gt hp h
      · exact hq.1 x h
    refine List.pairwise_append.2 ⟨lowC_ris hp, List.pairwise_cons.2 ⟨gt, ih (highC_ris hp) hq.2⟩, fun a ha b hb => ?_⟩
    have := (lowC_mem ha).2
    rcases List.mem_cons.1 hb with rfl | hb
    · exact this
    · have := gt b hb; omega
/-! ### patches on sets -/
def lowA (c : Chg) : List Attr → List Attr
  | [] => []
  | a :: s => if a.key < c.key then a :: lowA c s else []
def highA (c : Chg) : List Attr → List Attr
  | [] => []
  | a :: s => if a.key < c.key then highA c s else if a.key = c.key then s else a :: s
def midA (c : Chg) : List Attr := if c.gone then [] else [⟨c.key, c.val⟩]
def appP : List Attr → List Chg → List Attr
  | s, [] => s
  | s, c :: p => lowA c s ++ midA c ++ appP (highA c s) p
def without (l : List Attr) (k : Int) : List Attr := l.filter fun a => decide (a.key ≠ k)
def endA (a : Attr) (o : List Attr × Bool) : List Attr := if o.2 then o.1 else o.1 ++ [a]
theorem lowA_mem {c : Chg} {p : List Attr} {x : Attr} (h : x ∈ lowA c p) : x ∈ p ∧ x.key < c.key := by
  induction p with
  | nil => simp [lowA] at h
  | cons a p ih =>
    simp only [lowA] at h
    split at h
    · rcases List.mem_cons.1 h with rfl | h
      · exact ⟨by simp, by assumption⟩
      · exact ⟨by simp [(ih h).1], (ih h).2⟩
    · simp at h
theorem highA_mem {c : Chg} {p : List Attr} {x : Attr} (h : x ∈ highA c p) : x ∈ p := by
  induction p with
  | nil => simp [highA] at h
  | cons a p ih =>
    simp only [highA] at h
    split at h
    · simp [ih h]
    · split at h
      · simp [h]
      · exact h
theorem highA_gt {c : Chg} {p : List Attr} (hp : RisS p) {x : Attr} (h : x ∈ highA c p) : c.key < x.key := by
  induction p with
  | nil => simp [highA] at h
  | cons a p ih =>
    rw [RisS, List.pairwise_cons] at hp
    simp only [highA] at h
    split at h
    · exact ih hp.2 h
    · split at h
      · have := hp.1 x h; omega
      · rcases List.mem_cons.1 h with rfl | h
        · omega
        · have := hp.1 x h; omega
theorem lowA_ris {c : Chg} {p : List Attr} (hp : RisS p) : RisS (lowA c p) := by
  induction p with
  | nil => exact List.Pairwise.nil
  | cons a p ih =>
    rw [RisS, List.pairwise_cons] at hp
    simp only [lowA]
    split
    · exact List.pairwise_cons.2 ⟨fun x hx => hp.1 x (lowA_mem hx).1, ih hp.2⟩
    · exact List.Pairwise.nil
theorem highA_ris {c : Chg} {p : List Attr} (hp : RisS p) : RisS (highA c p) := by
  induction p with
  | nil => exact List.Pairwise.nil
  | cons a p ih =>
    have hp' := hp
    rw [RisS, List.pairwise_cons] at hp
    simp only [highA]
    split
    · exact ih hp.2
    · split
      · exact hp.2
      · exact hp'
theorem midA_mem {c : Chg} {x : Attr} (h : x ∈ midA c) : c.gone = false ∧ x = ⟨c.key, c.val⟩ := by
  unfold midA at h
  split at h
  · simp at h
  · rename_i hg; exact ⟨by simpa using hg, by simpa using h⟩
theorem appP_mem {s : List Attr} {p : List Chg} {x : Attr} (h : x ∈ appP s p) : x ∈ s ∨ ∃ c ∈ p, c.gone = false ∧ x = ⟨c.key, c.val⟩ := by
  induction p generalizing s with
  | nil => exact .inl h
  | cons c p ih =>
    simp only [appP] at h
    rcases List.mem_append.1 h with h | h
    · rcases List.mem_append.1 h with h | h
      · exact .inl (lowA_mem h).1
      · exact .inr ⟨c, by simp, midA_mem h⟩
    · rcases ih h with h | ⟨d, hd, h⟩
      · exact .inl (highA_mem h)
      · exact .inr ⟨d, by simp [hd], h⟩
theorem appP_ris {s : List Attr} {p : List Chg} (hs : RisS s) (hp : RisP p) : RisS (appP s p) := by
  induction p generalizing s with
  | nil => exact hs
  | cons c p ih =>
    rw [RisP, List.pairwise_cons] at hp
    simp only [appP]
    have gt : ∀ x ∈ appP (highA c s) p, c.key < x.key := fun x hx => by
      rcases appP_mem hx with h | ⟨d, hd, _, rfl⟩
      · exact highA_gt hs h
      · exact hp.1 d hd
    refine List.pairwise_append.2 ⟨List.pairwise_append.2 ⟨lowA_ris hs, ?_, fun a ha b hb => ?_⟩, ih (highA_ris hs) hp.2, fun a ha b hb => ?_⟩
    · unfold midA; split
      · exact List.Pairwise.nil
      · exact List.pairwise_singleton _ _
    · obtain ⟨_, rfl⟩ := midA_mem hb
      exact (lowA_mem ha).2
    · have h2 := gt b hb
      rcases List.mem_append.1 ha with h | h
      · have := (lowA_mem h).2; omega
      · obtain ⟨_, rfl⟩ := midA_mem h
        exact h2
/-- no more things than keys -/
theorem few {α : Type} {key : α → Int} {l : List α} {ids : List Int} (h : l.Pairwise fun a b => key a < key b) (hm : ∀ x ∈ l, key x ∈ ids) : l.length ≤ ids.length := by
  induction l generalizing ids with
  | nil => simp
  | cons a l ih =>
    rw [List.pairwise_cons] at h
    have ha := hm a (by simp)
    have := ih (ids := ids.erase (key a)) h.2 fun x hx => by
      rw [List.mem_erase_of_ne]
      · exact hm x (by simp [hx])
      · have := h.1 x hx; omega
    rw [List.length_erase_of_mem ha] at this
    have : 0 < ids.length := List.length_pos_of_mem ha
    simp only [List.length_cons]
    omega
theorem ris_pw {α : Type} {key : α → Int} {l : List α} (h : ∀ i, 1 ≤ i → i < l.length → ∀ a b, l[i - 1]? = some a → l[i]? = some b → key a < key b) : l.Pairwise fun a b => key a < key b := by
  rw [List.pairwise_iff_getElem]
  intro i j hi hj hij
  obtain ⟨d, rfl⟩ : ∃ d, j = i + 1 + d := ⟨j - i - 1, by omega⟩
  clear hij
  induction d with
  | zero => exact h (i + 1) (by omega) hj _ _ (by simp) (List.getElem?_eq_getElem hj)
  | succ d ih =>
    have := ih (by omega)
    have := h (i + 1 + d + 1) (by omega) hj (l[i + 1 + d]'(by omega)) _ (by simp) (List.getElem?_eq_getElem hj)
    simp only [Nat.add_assoc] at *
    omega
theorem pw_ris {α : Type} {key : α → Int} {l : List α} (h : l.Pairwise fun a b => key a < key b) : ∀ i, 1 ≤ i → i < l.length → ∀ a b, l[i - 1]? = some a → l[i]? = some b → key a < key b := by
  intro i h1 h2 a b ha hb
  rw [List.pairwise_iff_getElem] at h
  have := h (i - 1) i (by omega) h2 (by omega)
  rw [List.getElem?_eq_getElem (by omega)] at ha
  rw [List.getElem?_eq_getElem h2] at hb
  cases ha; cases hb; exact this
end Go.Proofs.YtlbaopamhkmepaaGreatDoor
