/- The law InternStays: it answers true, and leaves all memory as it was. Conditions: the sets' numbers lie in their types; the two tables lie in memory as they are laid. Sets that are handed in, opened with their ranges. No conditions. Plain laws: a table of sets that were added, each held as often. No conditions. The law InternOne: it answers true, and leaves all memory as it was. Conditions: the sets' numbers lie in their types; the two tables lie in memory as they are laid. By a program of ours: of each function below the predicate that its code comes to, and that it is sound. No conditions. The document's table of interned sets in memory: its stores; contracts of its Has, Find. No conditions. The plain law of normal forms: the program's maker and the document's form agree, and what holds of a form. No program in sight. More of the plain law of normal forms: how much they have, and that a gap's order is nothing. No program in sight. Contracts: deltas that may be; what is tame; whether deltas are alike. Conditions: the sizes. Contracts: a delta in memory of its own. Conditions: the sizes. Contracts: slices.Grow of nothing, slices.Concat of two rows of ops. Conditions: the sizes. The maker of normal forms in memory; contracts: New, gap, Delete. Conditions: the sizes. Contract: the maker is told an insert. Conditions: the sizes; what is told lies apart from the maker. Contract: the maker is told a retain. Conditions: the sizes; what is told lies apart from the maker. Contracts: what a maker has made; a delta's normal form; whether it is normal. Conditions: the sizes. Contracts of the document's side: whether two deltas are the same. No conditions. Adding onto an empty row that has no room: the row itself stays. No conditions but the sizes. Contracts of the document's table: Free, Hold, Add, by the table as data. Conditions: the sizes; the two tables lie in memory as they are laid. -/
import Derived.Test.YtmfplfaeibehiaaDoorZInternPlaysUpto5
import Derived.Lib.AppendZeros
namespace Go.Proofs.YtmfplfaeibehiaaDoor
open Go Go.K

/-- a row of sets -/
def RSetV (S : Nat → Prop) : World → List Value → List Attr → Prop := fun w r x => ∃ sv, r = [sv] ∧ RSet S w sv x
theorem RSetV.mod {S M : Nat → Prop} {w w' : World} {r : List Value} {x : List Attr} (h : RSetV S w r x) (hm : Mod M w w') (hS : ∀ b, b < w.heap.size → S b → ¬ M b) : RSetV S w' r x := by
  obtain ⟨sv, e, hs⟩ := h
  exact ⟨sv, e, hs.mod hm hS (by decide) fun _ _ h => h⟩
theorem L.set {w0 W : World} {F : Nat → Prop} {b : Nat} {ks : List DKey} {t : Tab (List Attr)} {id : Int} (h : L w0 F W b ks t) (hs : t.places.length ≤ 1099511627776) (h0 : -9223372036854775808 ≤ id) (h1 : id ≤ 9223372036854775807) :
    callK Tryd.prog 30 [.pointer (some ⟨b, 0, none⟩), .int .i64 id] (fun v' w' => (match t.ask [] id with
      | some p => ∃ sv, v' = .tuple #[sv, .int .i64 0] ∧ OSet W.heap.size w' sv p.set
      | none => v' = .tuple #[.slice none 0 0, .int .i64 5]) ∧ Grow W w' ∧ L w0 F w' b ks t) W :=
  callK_mono (iset_ok h.tab hs h0 h1) fun _ _ h' => ⟨h'.2, h'.1, h.grow h'.1⟩
theorem heldS {ks : List DKey} {x : List Attr} (hI : ∀ a ∈ x, InA a) (h0 : maySet ks x = 0) : x ≠ [] → Held ks x := fun hx => ⟨hx, hI, h0⟩
/-- a set of the law's arguments lies in none of the table's blocks -/
theorem L.addArg {w0 W : World} {F S : Nat → Prop} {b : Nat} {ks : List DKey} {t : Tab (List Attr)} {v : Value} {x : List Attr} {N : Nat} (h : L w0 F W b ks t) (hs : t.Small N) (hN : N ≤ 1000) (hT : Tabs w0) (hv : RSet S w0 v x) (hI : ∀ a ∈ x, InA a) :
    callK Tryd.prog 27 [.pointer (some ⟨b, 0, none⟩), v] (fun v' w' => (maySet ks x ≠ 0 ∧ v' = .tuple #[.int .i64 0, .int .i64 (maySet ks x)] ∧ L w0 F w' b ks t) ∨
      (maySet ks x = 0 ∧ ∃ id t' F', v' = .tuple #[.int .i64 id, .int .i64 0] ∧ t.Added [] x id t' ∧ L w0 F' w' b ks t' ∧ t'.Small (N + 1))) W := by
  refine callK_mono (h.add (hs.le (by omega)) hT ((hv.old (by decide)).grow h.g (by decide) fun _ _ h => h) hI fun y hy hf => by have := (h.hF y hf).1; have := hy.2; omega) ?_
  rintro v' w' (⟨h1, h2, _, h3⟩ | ⟨h1, id, t', F', h2, h3, h4, _⟩)
  · exact .inl ⟨h1, h2, h3⟩
  · exact .inr ⟨h1, id, t', F', h2, h3, h4, hs.added h3⟩
set_option maxRecDepth 20000 in
theorem InternStays_ok {S1 S2 S3 S4 : Nat → Prop} {kv sv lv : Value} {keys : List DKey} {s : List Attr} {ls : List (List Attr)} {w : World} (hT : Tabs w) (hk : RKeys S1 w kv keys) (hs : RSet S2 w sv s) (hsI : ∀ a ∈ s, InA a) (hl : SlR S3 1 (RSetV S4) w lv ls) (hlI : ∀ x ∈ ls, ∀ a ∈ x, InA a) :
    callK Tryd.prog 8 [kv, sv, lv] (fun v w' => v = .bool true ∧ Grow w w') w := by
  classical
  apply S8_ok
  unfold S8
  have kn : ∀ {w1 : World}, Grow w w1 → callK Tryd.prog 24 [] (fun v w' => v = .bool true ∧ Grow w w') w1 := fun g => callK_mono (known07_ok (hT.grow g)) fun _ _ h => ⟨h.1, g.trans h.2⟩
  refine callK_mono (new_key_ok hk) ?_
  rintro _ w1 ⟨g1, hr⟩
  obtain ⟨sa, sc, rfl, _⟩ := hs.shape
  obtain ⟨la, lc, rfl, hlm⟩ := hl.shape
  rcases hr with ⟨hM, sch, ks, rfl, hp, hsr, hS⟩ | ⟨hn, rfl⟩
  rotate_left
  · refine extK_i (vs := [_, _]) (by rfl) (extK_i (vs := [_, _]) (by rfl) ?_)
    refine JoinK_i (fun _ _ => False) (fun _ _ h => h.elim) ?_
    rw [neK_i]
    exact condK_neg (fun e => by cases e) fun _ => kn g1
  refine extK_i (vs := [_, _]) (by rfl) (extK_i (vs := [_, _]) (by rfl) ?_)
  refine JoinK_i (fun _ W => W = w1 ∧ ls.length ≤ 60) ?_ ?_
  rotate_left
  · rw [neK_i]
    refine condK_neg (fun _ => ?_) fun e => (e rfl).elim
    rw [lenK_i, gtK_i]
    refine condK_p (fun _ => kn g1) fun h60 => ?_
    rw [lenK_i, gtK_i]
    exact condK_p (fun _ => kn g1) fun h70 => ⟨rfl, by omega⟩
  rintro _ _ ⟨rfl, hl60⟩ _
  rename World => w1
  refine callK_mono (L.new hS (fun x _ hx => hx) g1) ?_
  rintro _ w3 ⟨b, F3, rfl, hL3, _⟩
  refine pnilK_s (condK_f ?_)
  refine callK_mono (hL3.addArg (N := 0) ⟨by simp [Tab.z], by simp [Tab.z], by simp [Tab.z]⟩ (by omega) hT hs hsI) ?_
  rintro v4 w4 (⟨h1, rfl, hL4⟩ | ⟨hm0, id, t4, F4, rfl, ha4, hL4, hsm4⟩)
  · refine extK_i (vs := [_, _]) (by rfl) (extK_i (vs := [_, _]) (by rfl) ?_)
    rw [neK_i]
    exact condK_neg (fun e => absurd e h1) fun _ => kn hL4.g
  obtain ⟨n4, hhas4⟩ := ha4.has (Tab.Inv.z _) (heldS hsI hm0)
  refine extK_i (vs := [_, _]) (by rfl) (extK_i (vs := [_, _]) (by rfl) ?_)
  rw [neK_i]
  refine condK_neg (fun _ => ?_) fun e => (e rfl).elim
  rw [lenK_i]
  clear ha4
  refine LoopK_i (fun vs W => ∃ (i n : Nat) (t : Tab (List Attr)) (F : Nat → Prop), i ≤ ls.length ∧ vs = [.int .i64 i] ∧ L w F W b ks t ∧ t.Small (i + 1) ∧ t.Has [] s id n) (fun vs _ => ls.length - iOf vs 0) ⟨0, n4, t4, F4, Nat.zero_le _, rfl, hL4, hsm4, hhas4⟩ ?_
  rintro vs W ⟨i, n, t, F, hi, rfl, hL, hsm, hhas⟩ _
  rw [nth_z, List.headD_cons, ltK_i]
  refine condK_p (fun hlt => ?_) fun hge => ?_
  · have hlt' : i < ls.length := by omega
    refine JoinK_i (fun _ W' => ∃ (n : Nat) (t : Tab (List Attr)) (F : Nat → Prop), L w F W' b ks t ∧ t.Small (i + 2) ∧ t.Has [] s id n) ?_ ?_
    · rintro _ W' ⟨n', t', F', hL', hsm', hhas'⟩ _
      rw [addK_i, loop_step (by omega)]
      exact ⟨⟨i + 1, n', t', F', hlt', rfl, hL', hsm', hhas'⟩, by rw [iOf0, iOf0]; omega⟩
    obtain ⟨p, r, rfl, _, hr, hc, hre⟩ := hl.get hlt'
    obtain ⟨xv, rfl, hx⟩ := hre
    obtain ⟨xa, xc, rfl, _⟩ := hx.shape
    have hxI := hlI ls[i] (List.getElem_mem hlt')
    generalize ls[i] = x at hx hxI hc
    refine ixK_n hlt' (ld1K_i (hL.g.cell (hc 0 _ rfl) fun h => h) ?_)
    rw [lenK_i, gtK_i]
    refine condK_p (fun _ => ⟨n, t, F, hL, hsm.le (by omega), hhas⟩) fun h70 => ?_
    -- what stands behind the round
    have fin : ∀ {W2 : World} {t2 : Tab (List Attr)} {F2 : Nat → Prop} {n2 : Nat}, L w F2 W2 b ks t2 → t2.Small (i + 2) → t2.Has [] s id n2 →
        callK Tryd.prog 30 [.pointer (some ⟨b, 0, none⟩), .int .i64 id] (fun t83 w11 =>
          extK 0 t83 fun t84 =>
          extK 1 t83 fun t85 =>
          neK .i64 t85 (.int .i64 0) fun t87 =>
          condK t87
          ((Value.bool false) = .bool true ∧ Grow w w11)
          (callK Tryd.prog 31 [t84, .slice sa s.length sc] (fun t91 w12 =>
          notK t91 fun t92 =>
          condK t92
          ((Value.bool false) = .bool true ∧ Grow w w12)
          (callK Tryd.prog 32 [.pointer (some ⟨b, 0, none⟩), .int .i64 id] (fun t97 w13 =>
          ltK .i64 t97 (.int .i64 1) fun t98 =>
          condK t98
          ((Value.bool false) = .bool true ∧ Grow w w13)
          ((fun _ W' => ∃ (n : Nat) (t : Tab (List Attr)) (F : Nat → Prop), L w F W' b ks t ∧ t.Small (i + 2) ∧ t.Has [] s id n) ([] : List Value) w13)) w12)) w11)) W2 := by
      intro W2 t2 F2 n2 hL2 hsm2 hhas2
      have hid := hhas2.le hsm2
      refine callK_mono (hL2.set (by have := hsm2.pl; omega) (by omega) (by omega)) ?_
      rintro v5 W5 ⟨hm5, g5, hL5⟩
      rw [hhas2.1] at hm5
      obtain ⟨yv, rfl, oy⟩ := hm5
      refine extK_i (vs := [_, _]) (by rfl) (extK_i (vs := [_, _]) (by rfl) ?_)
      rw [neK_i]
      refine condK_neg (fun _ => ?_) fun e => (e rfl).elim
      refine callK_mono (rsame_set oy.sl (hs.grow hL5.g (by decide) fun _ _ h => h)) ?_
      rintro _ W6 ⟨rfl, g6⟩
      rw [decide_eq_true rfl, notK_i]
      refine condK_f ?_
      refine callK_mono ((hL5.grow g6).held (by have := hsm2.pl; omega) (by omega) (by omega)) ?_
      rintro _ W7 ⟨rfl, g7, hL7⟩
      rw [hhas2.1, ltK_i]
      refine condK_p (fun hlt1 => ?_) fun _ => ⟨n2, t2, F2, hL7, hsm2, hhas2⟩
      have := hhas2.2.1
      simp only [Option.elim] at hlt1
      omega
    refine callK_mono (hL.addArg hsm (by omega) hT hx hxI) ?_
    rintro v5 W5 (⟨h1, rfl, hL5⟩ | ⟨hm5, k, t5, F5, rfl, ha5, hL5, hsm5⟩)
    · refine extK_i (vs := [_, _]) (by rfl) (extK_i (vs := [_, _]) (by rfl) ?_)
      refine JoinK_i (fun _ W' => W' = W5) ?_ ?_
      · rintro _ _ rfl _
        exact fin hL5 (hsm.le (by omega)) hhas
      · rw [eqK_i]
        exact condK_p (fun e => absurd e h1) fun _ => rfl
    · refine extK_i (vs := [_, _]) (by rfl) (extK_i (vs := [_, _]) (by rfl) ?_)
      obtain ⟨hk1, hk2⟩ := ha5.keeps hL.inv (heldS hxI hm5) hhas
      refine JoinK_i (fun _ W' => ∃ (n : Nat) (t : Tab (List Attr)) (F : Nat → Prop), L w F W' b ks t ∧ t.Small (i + 2) ∧ t.Has [] s id n) ?_ ?_
      · rintro _ W' ⟨n', t', F', hL', hsm', hhas'⟩ _
        exact fin hL' hsm' hhas'
      · rw [eqK_i]
        refine condK_p (fun _ => ?_) fun e => (e rfl).elim
        refine rem_i (by decide) ?_
        rw [eqK_i]
        refine condK_p (fun _ => ?_) fun _ => ⟨_, t5, F5, hL5, hsm5, hk1⟩
        obtain ⟨m, hxh⟩ := ha5.has hL.inv (heldS hxI hm5)
        have hkr := hxh.le hsm5
        refine callK_mono (hL5.free (id := k) (hsm5.le (by omega)) (by omega) (by omega)) ?_
        rintro _ W6 ⟨rfl, F6, hL6, _, _⟩
        rw [hxh.1, neK_i]
        refine condK_neg (fun _ => ?_) fun e => (e rfl).elim
        have hn := hhas.2.1
        refine ⟨_, _, F6, hL6, hsm5.release, hk1.release ?_⟩
        by_cases e : x = s
        · right; rw [if_pos e]; omega
        · left; exact fun h => e (hk2.2 h)
  · refine callK_mono (hL.addArg (hsm.le (show i + 1 ≤ 100 by omega)) (by omega) hT hs hsI) ?_
    rintro v5 W5 (⟨h1, rfl, hL5⟩ | ⟨_, k, t5, F5, rfl, ha5, hL5, _⟩)
    · exact absurd hm0 h1
    obtain ⟨_, hk2⟩ := ha5.keeps hL.inv (heldS hsI hm0) hhas
    refine extK_i (vs := [_, _]) (by rfl) (extK_i (vs := [_, _]) (by rfl) ?_)
    rw [eqK_i]
    refine condK_p (fun _ => ?_) fun e => (e rfl).elim
    rw [eqK_i]
    exact condK_p (fun _ => kn hL5.g) fun e => (e (hk2.1 rfl)).elim
end Go.Proofs.YtmfplfaeibehiaaDoor

namespace Go.K
open Go
theorem SlR.strip {α : Type} {S : Nat → Prop} {k : Nat} {R : World → List Value → α → Prop} {P : α → Prop} {w : World} {v : Value} {l : List α} (h : SlR S k (fun w r x => R w r x ∧ P x) w v l) : SlR S k R w v l ∧ ∀ x ∈ l, P x := by
  obtain ⟨a, c, e, h1, h2, h3⟩ := h
  refine ⟨⟨a, c, e, h1, h2, fun i x hx => ?_⟩, fun x hx => ?_⟩
  · obtain ⟨p, r, q1, q2, q3, q4, q5⟩ := h3 i x hx
    exact ⟨p, r, q1, q2, q3, q4, q5.1⟩
  · obtain ⟨i, hi⟩ := List.mem_iff_getElem?.1 hx
    obtain ⟨_, _, _, _, _, _, q5⟩ := h3 i x hi
    exact q5.2
end Go.K
namespace Go.Proofs.YtmfplfaeibehiaaDoor
open Go Go.K
open Go.ChangeShapes Go.WideShapes Go.ChangeAt Go.RowKit Go.Joins
variable {H : Type} {enc : TypeId × Value → H} {w : World} {base : Nat} {spare : Nat → Bool} {held : Bool}
theorem attr_of_trodR {n : Nat} {cs : List Value} {y : DataW H × List MemPlace} (h : DataW.trod enc Tryd.prog w base spare held n 56 cs = some y) : ∃ x : Attr, cs = x.cells ∧ InA x := by
  have c0 : Tryd.prog.cellsOf 56 = 5 := by kernel_rfl
  have c1 : Tryd.prog.cellsOf 3 = 1 := by kernel_rfl
  have c2 : Tryd.prog.cellsOf 30 = 4 := by kernel_rfl
  obtain ⟨y0, y1, m, _, hl, h0, h1⟩ := trod_struct2 Tryd.underlying56 h
  rw [c0] at hl
  simp only [c1, c2] at h0 h1
  match cs, hl with
  | [a0, a1, a2, a3, a4], _ =>
    simp only [List.drop_zero, List.take_succ_cons, List.take_zero, List.drop_succ_cons] at h0 h1
    obtain ⟨k, e0, _, w0⟩ := DataW.trod_int Tryd.underlying3 h0
    obtain ⟨x, ex, hx⟩ := val_of_trodR h1
    cases e0
    have r0 := wf_range w0
    have m1 : IntKind.i64.min = -9223372036854775808 ∧ IntKind.i64.max = 9223372036854775807 := by decide
    rw [m1.1, m1.2] at r0
    refine ⟨⟨k, x⟩, ?_, r0, hx⟩
    show _ = Value.int .i64 k :: x.cells
    rw [← ex]
theorem set_of_trodR {n : Nat} {cs : List Value} {y : DataW H × List MemPlace} (h : DataW.trod enc Tryd.prog w base spare held n 53 cs = some y) : ∃ v l, cs = [v] ∧ (RSet (fun _ => True) w v l ∧ ∀ a ∈ l, InA a) := by
  obtain ⟨v, l, e, hl⟩ := SlR.of_trod (k := 5) (R := fun (w : World) r (x : Attr) => r = x.cells ∧ InA x) Tryd.underlying53 (by kernel_rfl) (fun _ _ _ h => attr_of_trodR h) h
  exact ⟨v, l, e, hl.strip⟩
theorem sets_of_trodR {n : Nat} {cs : List Value} {y : DataW H × List MemPlace} (h : DataW.trod enc Tryd.prog w base spare held n 62 cs = some y) : ∃ v l, cs = [v] ∧ (SlR (fun _ => True) 1 (RSetV fun _ => True) w v l ∧ ∀ x ∈ l, ∀ a ∈ x, InA a) := by
  obtain ⟨v, l, e, hl⟩ := SlR.of_trod (k := 1) (R := fun (w : World) r (x : List Attr) => RSetV (fun _ => True) w r x ∧ ∀ a ∈ x, InA a) Tryd.underlying62 (by kernel_rfl) (fun _ _ _ h => by
    obtain ⟨v, l, e, h1, h2⟩ := set_of_trodR h
    exact ⟨l, ⟨v, e, h1⟩, h2⟩) h
  exact ⟨v, l, e, hl.strip⟩
end Go.Proofs.YtmfplfaeibehiaaDoor

namespace Go.K
open Go
/-- how often a set was added -/
def cntP {α : Type} [DecidableEq α] (r : List (α × Int)) (x : α) : Nat := (r.filter fun p => decide (p.1 = x)).length
theorem cntP_app {α : Type} [DecidableEq α] (r : List (α × Int)) (x y : α) (k : Int) : cntP (r ++ [(x, k)]) y = cntP r y + if x = y then 1 else 0 := by
  unfold cntP
  rw [List.filter_append, List.length_append]
  by_cases h : x = y <;> simp [h]
theorem cntP_cons {α : Type} [DecidableEq α] (r : List (α × Int)) (x y : α) (k : Int) : cntP ((x, k) :: r) y = cntP r y + if x = y then 1 else 0 := by
  unfold cntP
  by_cases h : x = y <;> simp [h]
theorem cntP_pos {α : Type} [DecidableEq α] {r : List (α × Int)} {p : α × Int} (h : p ∈ r) : 0 < cntP r p.1 := by
  unfold cntP
  exact List.length_pos_of_mem (List.mem_filter.2 ⟨h, by simp⟩)
theorem cntP_mem {α : Type} [DecidableEq α] {r : List (α × Int)} {x : α} (h : 0 < cntP r x) : ∃ p ∈ r, p.1 = x := by
  unfold cntP at h
  obtain ⟨p, hp⟩ := List.exists_mem_of_length_pos h
  obtain ⟨h1, h2⟩ := List.mem_filter.1 hp
  exact ⟨p, h1, by simpa using h2⟩
/-- the table holds just these sets, each as often as it was added -/
structure Tab.Just {α : Type} [DecidableEq α] (t : Tab α) (z : α) (r : List (α × Int)) : Prop where
  has : ∀ p ∈ r, t.Has z p.1 p.2 (cntP r p.1)
  pl : ∀ (i : Nat) (q : Ent α), t.places[i]? = some q → 0 < q.held → ∃ p ∈ r, p.1 = q.set
  em : t.empty = cntP r z
theorem Tab.Just.z {α : Type} [DecidableEq α] (z : α) : (Tab.z α).Just z [] := ⟨fun p hp => (by cases hp), fun i q hq => (by simp [Tab.z] at hq), rfl⟩
/-- one id, one set -/
theorem Tab.Has.uniq {α : Type} {t : Tab α} {z x y : α} {k l : Int} {n m : Nat} {G : α → Prop} (hi : t.Inv G) (h1 : t.Has z x k n) (h2 : t.Has z y l m) : k = l ↔ x = y := by
  constructor
  · rintro rfl
    have := h1.1.symm.trans h2.1
    cases this; rfl
  · rintro rfl
    by_cases h0 : k = 0
    · have := h1.2.2.1 h0
      rw [h0, h2.2.2.2 this]
    · obtain ⟨i, rfl, hp⟩ := h1.pos h0
      have h0' : l ≠ 0 := fun e => h0 (h1.2.2.2 (h2.2.2.1 e))
      obtain ⟨j, rfl, hq⟩ := h2.pos h0'
      rw [hi.uni i j _ _ hp hq h1.2.1 h2.2.1 rfl]
theorem Tab.Just.added {α : Type} [DecidableEq α] {t t' : Tab α} {z x : α} {k : Int} {r : List (α × Int)} {G : α → Prop} (h : t.Just z r) (ha : t.Added z x k t') (hi : t.Inv G) (hg : x ≠ z → G x) : t'.Just z (r ++ [(x, k)]) := by
  have hnew : t'.Has z x k (cntP r x + 1) := by
    by_cases hx : ∃ p ∈ r, p.1 = x
    · obtain ⟨p, hp, rfl⟩ := hx
      obtain ⟨h1, h2⟩ := ha.keeps hi hg (h.has p hp)
      rw [if_pos rfl] at h1
      rw [h2.1 rfl]; exact h1
    · have h0 : cntP r x = 0 := by
        refine Nat.eq_zero_of_not_pos fun hpos => hx (cntP_mem hpos)
      rcases ha with ⟨rfl, rfl, rfl⟩ | ⟨hz, i, n, hp, hn, rfl, rfl⟩ | ⟨hz, hno, rfl, rfl⟩
      · rw [← h.em]
        exact Tab.Has.mkz (t := { t with empty := t.empty + 1 }) (Nat.succ_pos _)
      · exact absurd (h.pl i _ hp hn) hx
      · rw [h0]
        obtain ⟨_, h1, _⟩ := Tab.put_spec hi (hg hz) hno
        exact Tab.Has.mkp hz h1 Nat.one_pos
  refine ⟨fun p hp => ?_, fun i q hq h0 => ?_, ?_⟩
  · rw [cntP_app]
    rcases List.mem_append.1 hp with hp | hp
    · have := (ha.keeps hi hg (h.has p hp)).1
      by_cases e : x = p.1
      · rw [if_pos e] at this ⊢; exact this
      · rw [if_neg e] at this ⊢; exact this
    · rw [List.mem_singleton] at hp
      subst hp
      rw [if_pos rfl]; exact hnew
  · rcases ha with ⟨rfl, rfl, rfl⟩ | ⟨hz, j, n, hp, hn, rfl, rfl⟩ | ⟨hz, hno, rfl, rfl⟩
    · obtain ⟨p, hp, e⟩ := h.pl i q hq h0
      exact ⟨p, List.mem_append_left _ hp, e⟩
    · have hq' : (t.places.set j ⟨x, n + 1⟩)[i]? = some q := hq
      by_cases e : i = j
      · subst e
        rw [List.getElem?_set_self (List.getElem?_eq_some_iff.1 hp).1] at hq'
        cases hq'
        exact ⟨(x, (i : Int) + 1), by simp, rfl⟩
      · rw [List.getElem?_set_ne (Ne.symm e)] at hq'
        obtain ⟨p, hp, e⟩ := h.pl i q hq' h0
        exact ⟨p, List.mem_append_left _ hp, e⟩
    · obtain ⟨_, h1, _, h3, _⟩ := Tab.put_spec hi (hg hz) hno
      by_cases e : i = (t.put x).1
      · subst e
        rw [h1] at hq; cases hq
        exact ⟨_, List.mem_append_right _ (List.mem_singleton.2 rfl), rfl⟩
      · rw [h3 i e] at hq
        obtain ⟨p, hp, e⟩ := h.pl i q hq h0
        exact ⟨p, List.mem_append_left _ hp, e⟩
  · rw [cntP_app]
    rcases ha with ⟨rfl, rfl, rfl⟩ | ⟨hz, j, n, hp, hn, rfl, rfl⟩ | ⟨hz, hno, rfl, rfl⟩
    · rw [if_pos rfl, ← h.em]
    · rw [if_neg hz]; exact h.em
    · rw [if_neg hz]
      obtain ⟨_, _, _, _, h4⟩ := Tab.put_spec hi (hg hz) hno
      rw [h4]; exact h.em
theorem Tab.Just.freed {α : Type} [DecidableEq α] {t : Tab α} {z x : α} {k : Int} {r : List (α × Int)} {G : α → Prop} (h : t.Just z ((x, k) :: r)) (hi : t.Inv G) (hGz : ∀ s, G s → s ≠ z) : (t.release z k).Just z r := by
  have hx := h.has (x, k) List.mem_cons_self
  rw [cntP_cons, if_pos rfl] at hx
  refine ⟨fun p hp => ?_, fun i q hq h0 => ?_, ?_⟩
  · have hp' := h.has p (List.mem_cons_of_mem _ hp)
    rw [cntP_cons] at hp'
    have hu := Tab.Has.uniq hi hx hp'
    by_cases e : k = p.2
    · have ex := hu.1 e
      simp only at ex
      rw [if_pos ex] at hp'
      have := hp'.release (k := k) (.inr (by have := cntP_pos hp; omega))
      rw [if_pos e, Nat.add_sub_cancel] at this
      exact this
    · have ex : ¬ x = p.1 := fun h' => e (hu.2 h')
      rw [if_neg ex, Nat.add_zero] at hp'
      have := hp'.release (k := k) (.inl e)
      rw [if_neg e] at this
      exact this
  · -- a place that is held still
    have hcase : ∃ q', t.places[i]? = some q' ∧ 0 < q'.held ∧ q'.set = q.set ∧ (q.set = x → 0 < cntP r x) := by
      unfold Tab.release at hq
      rw [hx.1] at hq
      dsimp only at hq
      by_cases hk0 : k = 0
      · rw [if_pos hk0] at hq
        refine ⟨q, hq, h0, rfl, fun e => ?_⟩
        exact absurd (e.trans (hx.2.2.1 hk0)) (hGz _ (hi.ok i q hq h0))
      · rw [if_neg hk0] at hq
        obtain ⟨j, rfl, hpj⟩ := hx.pos hk0
        have hlt := (List.getElem?_eq_some_iff.1 hpj).1
        rw [show ((j : Int) + 1 - 1).toNat = j by omega] at hq
        by_cases hij : i = j
        · subst hij
          split at hq
          · have hq' : (t.places.set i ⟨z, 0⟩)[i]? = some q := hq
            rw [List.getElem?_set_self hlt] at hq'
            cases hq'; exact absurd h0 (Nat.lt_irrefl _)
          · have hq' : (t.places.set i _)[i]? = some q := hq
            rw [List.getElem?_set_self hlt] at hq'
            cases hq'
            exact ⟨_, hpj, Nat.succ_pos _, rfl, fun _ => by simp only at h0; omega⟩
        · have hq' : t.places[i]? = some q := by
            split at hq
            · have hq' : (t.places.set j ⟨z, 0⟩)[i]? = some q := hq
              rwa [List.getElem?_set_ne (Ne.symm hij)] at hq'
            · have hq' : (t.places.set j _)[i]? = some q := hq
              rwa [List.getElem?_set_ne (Ne.symm hij)] at hq'
          exact ⟨q, hq', h0, rfl, fun e => absurd (hi.uni i j _ _ hq' hpj h0 hx.2.1 e) hij⟩
    obtain ⟨q', hq', h0', es, hxr⟩ := hcase
    obtain ⟨p, hp, ep⟩ := h.pl i q' hq' h0'
    rcases List.mem_cons.1 hp with rfl | hp
    · obtain ⟨p', hp', e'⟩ := cntP_mem (hxr (by rw [← es, ← ep]))
      exact ⟨p', hp', by rw [e', ← es, ← ep]⟩
    · exact ⟨p, hp, by rw [ep, es]⟩
  · have hem := h.em
    rw [cntP_cons] at hem
    unfold Tab.release
    rw [hx.1]
    dsimp only
    by_cases hk0 : k = 0
    · rw [if_pos hk0]
      rw [if_pos (hx.2.2.1 hk0)] at hem
      show t.empty - 1 = _
      omega
    · rw [if_neg hk0]
      rw [if_neg (fun e => hk0 (hx.2.2.2 e))] at hem
      split <;> exact hem
/-- nothing is held -/
theorem Tab.Just.none {α : Type} [DecidableEq α] {t : Tab α} {z : α} {G : α → Prop} (h : t.Just z []) (hi : t.Inv G) : t.places.length = t.free.length ∧ t.empty = 0 := by
  refine ⟨Nat.le_antisymm ?_ (Tab.free_le hi), h.em⟩
  have hs : List.range t.places.length ⊆ t.free := fun i hi' => by
    have hlt := List.mem_range.1 hi'
    refine (hi.fre i).2 ⟨t.places[i], List.getElem?_eq_getElem hlt, Nat.eq_zero_of_not_pos fun hpos => ?_⟩
    obtain ⟨p, hp, _⟩ := h.pl i _ (List.getElem?_eq_getElem hlt) hpos
    cases hp
  have := nodup_len List.nodup_range hs
  simpa using this
end Go.K

namespace Go.Proofs.YtmfplfaeibehiaaDoor
open Go Go.K

theorem elem_sets : ElemOK Tryd.prog 62 53 1 24 := ⟨Tryd.t53, .slice none 0 0, by kernel_rfl, by kernel_rfl, by kernel_rfl, by kernel_rfl, by kernel_rfl, by rfl, by decide⟩
theorem RSetV.one {S : Nat → Prop} {w : World} {r : List Value} {x : List Attr} (h : RSetV S w r x) : ∀ u ∈ r, u.oneCell' = true := by
  obtain ⟨sv, rfl, hs⟩ := h
  obtain ⟨a, c, rfl, _⟩ := hs.shape
  intro u hu
  simp at hu
  subst hu; rfl
theorem heldNe {ks : List DKey} : ∀ s : List Attr, Held ks s → s ≠ [] := fun _ h => h.1
/-- what the first loop of InternOne keeps -/
structure OneI (w : World) (W : World) (b : Nat) (ks : List DKey) (r : List (List Attr × Int)) (t : Tab (List Attr)) (F : Nat → Prop) (iv tv : Value) (N : Nat) : Prop where
  tab : L w F W b ks t
  small : t.Small N
  len : r.length ≤ N
  just : t.Just [] r
  ids : OwnR w.heap.size 3 1 RNum W iv (r.map (·.2))
  sets : OwnR w.heap.size 53 1 (RSetV fun x => x < w.heap.size) W tv (r.map (·.1))
  si : ∀ g, iv.ownBlock = some g → ¬ F g ∧ tv.ownBlock ≠ some g
  st : ∀ g, tv.ownBlock = some g → ¬ F g
theorem OneI.grow {w W W' : World} {b : Nat} {ks : List DKey} {r : List (List Attr × Int)} {t : Tab (List Attr)} {F : Nat → Prop} {iv tv : Value} {N : Nat} (h : OneI w W b ks r t F iv tv N) (g : Grow W W') : OneI w W' b ks r t F iv tv N :=
  ⟨h.tab.grow g, h.small, h.len, h.just, OwnR.mod h.ids g (fun _ _ h => h) fun _ _ _ h => h, OwnR.mod h.sets g (fun _ _ h => h) fun r x _ hx => hx.mod g fun _ _ _ h => h, h.si, h.st⟩
set_option maxRecDepth 20000 in
theorem InternOne_ok {S1 S3 S4 : Nat → Prop} {kv lv : Value} {keys : List DKey} {ls : List (List Attr)} {w : World} (hT : Tabs w) (hk : RKeys S1 w kv keys) (hl : SlR S3 1 (RSetV S4) w lv ls) (hlI : ∀ x ∈ ls, ∀ a ∈ x, InA a) :
    callK Tryd.prog 7 [kv, lv] (fun v w' => v = .bool true ∧ Grow w w') w := by
  apply S7_ok
  unfold S7
  have kn : ∀ {w1 : World}, Grow w w1 → callK Tryd.prog 24 [] (fun v w' => v = .bool true ∧ Grow w w') w1 := fun g => callK_mono (known07_ok (hT.grow g)) fun _ _ h => ⟨h.1, g.trans h.2⟩
  refine callK_mono (new_key_ok hk) ?_
  rintro _ w1 ⟨g1, hr⟩
  obtain ⟨la, lc, rfl, hlm⟩ := hl.shape
  rcases hr with ⟨hM, sch, ks, rfl, hp, hsr, hS⟩ | ⟨hn, rfl⟩
  rotate_left
  · refine extK_i (vs := [_, _]) (by rfl) (extK_i (vs := [_, _]) (by rfl) ?_)
    refine JoinK_i (fun _ _ => False) (fun _ _ h => h.elim) ?_
    rw [neK_i]
    exact condK_neg (fun e => by cases e) fun _ => kn g1
  refine extK_i (vs := [_, _]) (by rfl) (extK_i (vs := [_, _]) (by rfl) ?_)
  refine JoinK_i (fun _ W => W = w1 ∧ ls.length ≤ 60) ?_ ?_
  rotate_left
  · rw [neK_i]
    refine condK_neg (fun _ => ?_) fun e => (e rfl).elim
    rw [lenK_i, gtK_i]
    exact condK_p (fun _ => kn g1) fun h60 => ⟨rfl, by omega⟩
  rintro _ _ ⟨rfl, hl60⟩ _
  rename World => w1
  refine callK_mono (L.new hS (fun x _ hx => hx) g1) ?_
  rintro _ w3 ⟨b, F3, rfl, hL3, _⟩
  refine pnilK_s (condK_f ?_)
  rw [lenK_i]
  refine LoopK_i (fun vs W => ∃ (i : Nat) (r : List (List Attr × Int)) (t : Tab (List Attr)) (F : Nat → Prop) (iv tv : Value), i ≤ ls.length ∧ vs = [iv, tv, .int .i64 i] ∧ OneI w W b ks r t F iv tv i) (fun vs _ => ls.length - iOf vs 2)
    ⟨0, [], _, F3, _, _, Nat.zero_le _, rfl, hL3, ⟨by simp [Tab.z], by simp [Tab.z], by simp [Tab.z]⟩, Nat.le_refl _, Tab.Just.z [], OwnR.nil, OwnR.nil, (fun g hg => nomatch hg), (fun g hg => nomatch hg)⟩ ?_
  rintro vs W ⟨i, r, t, F, iv, tv, hi, rfl, I⟩ _
  simp only [nth_s, nth_z, List.headD_cons, List.tail_cons]
  rw [ltK_i]
  have hlen := I.len
  refine condK_p (fun hlt => ?_) fun hge => ?_
  · have hlt' : i < ls.length := by omega
    obtain ⟨p, rr, rfl, _, hr, hc, hre⟩ := hl.get hlt'
    obtain ⟨xv, rfl, hx⟩ := hre
    obtain ⟨xa, xc, rfl, _⟩ := hx.shape
    have hxI := hlI ls[i] (List.getElem_mem hlt')
    generalize ls[i] = x at hx hxI hc
    refine ixK_n hlt' (ld1K_i (I.tab.g.cell (hc 0 _ rfl) fun h => h) ?_)
    rw [lenK_i, gtK_i]
    have up : OneI w W b ks r t F iv tv (i + 1) := ⟨I.tab, I.small.le (by omega), by omega, I.just, I.ids, I.sets, I.si, I.st⟩
    refine condK_p (fun _ => ?_) fun h70 => ?_
    · rw [addK_i, loop_step (by omega)]
      exact ⟨⟨i + 1, r, t, F, iv, tv, hlt', rfl, up⟩, by rw [iOf2, iOf2]; omega⟩
    have hx0 : RSet (fun y => y < w.heap.size) w (.slice xa x.length xc) x := (hx.old (by decide)).sub (fun _ _ h => h.2) (by decide) fun _ _ h => h
    refine callK_mono (I.tab.add (I.small.le (by omega)) hT (hx0.grow I.tab.g (by decide) fun _ _ h => h) hxI fun y hy hf => by have := (I.tab.hF y hf).1; omega) ?_
    rintro v5 W5 (⟨h1, rfl, g5, hL5⟩ | ⟨hm5, k, t5, F5, rfl, ha5, hL5, hF5, hm⟩)
    · refine extK_i (vs := [_, _]) (by rfl) (extK_i (vs := [_, _]) (by rfl) ?_)
      rw [eqK_i]
      refine condK_p (fun e => absurd e h1) fun _ => ?_
      rw [addK_i, loop_step (by omega)]
      exact ⟨⟨i + 1, r, t, F, iv, tv, hlt', rfl, up.grow g5⟩, by rw [iOf2, iOf2]; omega⟩
    refine extK_i (vs := [_, _]) (by rfl) (extK_i (vs := [_, _]) (by rfl) ?_)
    rw [eqK_i]
    refine condK_p (fun _ => ?_) fun e => (e rfl).elim
    have s5 := hm.size
    have sw := I.tab.g.size
    have hio := OwnR.ownB I.ids
    have hto := OwnR.ownB I.sets
    have oi5 : OwnR w.heap.size 3 1 RNum W5 iv (r.map (·.2)) := OwnR.mod I.ids hm (fun g hg => (I.si g hg).1) fun _ _ _ h => h
    have ot5 : OwnR w.heap.size 53 1 (RSetV fun x => x < w.heap.size) W5 tv (r.map (·.1)) := OwnR.mod I.sets hm (fun g hg => I.st g hg) fun r x _ hx => hx.mod hm fun y _ hy hf => by have := (I.tab.hF y hf).1; omega
    have ni5 : ∀ g, iv.ownBlock = some g → ¬ F5 g := fun g hg hf => by
      rcases hF5 g hf with h | h
      · exact (I.si g hg).1 h
      · have := (hio g hg).2; omega
    have nt5 : ∀ g, tv.ownBlock = some g → ¬ F5 g := fun g hg hf => by
      rcases hF5 g hf with h | h
      · exact I.st g hg h
      · have := (hto g hg).2; omega
    -- the id is put behind
    refine push_g elem_int oi5 (by omega) (cs := [.int .i64 k]) (x := k) (by kernel_rfl) rfl rfl (fun _ _ _ => RNum.one) (fun _ _ _ _ _ _ h => h) (by rw [List.length_map]; omega) (by rw [List.length_map]; simp only [maxLen]; omega) fun iv' W6 oi6 hm6 hn6 => ?_
    have s6 := hm6.size
    have ot6 : OwnR w.heap.size 53 1 (RSetV fun x => x < w.heap.size) W6 tv (r.map (·.1)) := OwnR.mod ot5 hm6 (fun g hg e => (I.si g e).2 hg) fun r x _ hx => hx.mod hm6 fun y _ hy e => by have := (hio y e).1; omega
    have hL6 : L w F5 W6 b ks t5 := hL5.mod hm6 fun y hy => ⟨ni5 y hy, (hio y hy).1⟩
    have hio6 := OwnR.ownB oi6
    -- the set is put behind
    refine push_g elem_sets ot6 (by omega) (cs := [.slice xa x.length xc]) (x := x) (by kernel_rfl) rfl ⟨_, rfl, hx0.grow hL6.g (by decide) fun _ _ h => h⟩ (fun _ _ _ => RSetV.one) (fun w1 w2 r y hs1 hmm hy => hy.mod hmm fun z _ hz e => ?_) (by rw [List.length_map]; omega) (by rw [List.length_map]; simp only [maxLen]; omega) fun tv' W7 ot7 hm7 hn7 => ?_
    · rcases e with e | e
      · have := (hto z e).1; omega
      · omega
    have s7 := hm7.size
    have ni6 : ∀ g, iv'.ownBlock = some g → ¬ F5 g ∧ tv.ownBlock ≠ some g := fun g hg => by
      rcases hn6 g hg with h | h
      · exact ⟨ni5 g h, (I.si g h).2⟩
      · exact ⟨fun hf => by have := (hL5.hF g hf).2; omega, fun e => by have := (hto g e).2; omega⟩
    rw [addK_i, loop_step (by omega)]
    refine ⟨⟨i + 1, r ++ [(x, k)], t5, F5, iv', tv', hlt', rfl, ?_⟩, by rw [iOf2, iOf2]; omega⟩
    refine ⟨hL6.mod hm7 fun y hy => ⟨nt5 y hy, (hto y hy).1⟩, I.small.added ha5, by simp; omega, I.just.added ha5 I.tab.inv (heldS hxI hm5), ?_, ?_, fun g hg => ⟨(ni6 g hg).1, fun e => ?_⟩, fun g hg => ?_⟩
    · rw [List.map_append]
      exact OwnR.mod oi6 hm7 (fun g hg e => (ni6 g hg).2 e) fun _ _ _ h => h
    · rw [List.map_append]; exact ot7
    · rcases hn7 g e with h | h
      · exact (ni6 g hg).2 h
      · have := (hio6 g hg).2; omega
    · rcases hn7 g hg with h | h
      · exact nt5 g h
      · exact fun hf => by have := (hL6.hF g hf).2; omega
  -- all are in
  clear hL3 hS
  have hii := I.ids.sl
  have htt := I.sets.sl
  obtain ⟨ia, ic, rfl, _⟩ := hii.shape
  obtain ⟨ta, tc, rfl, _⟩ := htt.shape
  simp only [List.length_map] at hii htt
  have hid : ∀ j (hj : j < r.length), ∃ p, ia = some p ∧ ∀ W', Grow W W' → W'.cell? (p.add (j * 1)) = some (.int .i64 r[j].2) := fun j hj => by
    obtain ⟨p, rr, rfl, _, hr, hc, e⟩ := hii.get (i := j) (by rw [List.length_map]; exact hj)
    rw [List.getElem_map] at e
    subst e
    exact ⟨p, rfl, fun W' g => g.cell (hc 0 _ rfl) fun h => h⟩
  have hst : ∀ j (hj : j < r.length), ∃ p sv, ta = some p ∧ RSet (fun y => y < w.heap.size) W sv r[j].1 ∧ ∀ W', Grow W W' → W'.cell? (p.add (j * 1)) = some sv := fun j hj => by
    obtain ⟨p, rr, rfl, _, hr, hc, sv, e, hs⟩ := htt.get (i := j) (by rw [List.length_map]; exact hj)
    subst e
    rw [List.getElem_map] at hs
    exact ⟨p, sv, rfl, hs, fun W' g => g.cell (hc 0 _ rfl) fun h => h⟩
  have hhas : ∀ j (hj : j < r.length), t.Has [] r[j].1 r[j].2 (cntP r r[j].1) := fun j hj => I.just.has _ (List.getElem_mem hj)
  have hrg : ∀ j (hj : j < r.length), -9223372036854775808 ≤ r[j].2 ∧ r[j].2 ≤ 9223372036854775807 := fun j hj => by have := (hhas j hj).le I.small; omega
  rw [lenK_i, List.length_map]
  refine LoopK_i (fun vs W2 => ∃ j : Nat, j ≤ r.length ∧ vs = [.int .i64 j] ∧ Grow W W2) (fun vs _ => r.length - iOf vs 0) ⟨0, Nat.zero_le _, rfl, Mod.refl _ _⟩ ?_
  rintro vs W2 ⟨j, hj, rfl, g2⟩ _
  show ltK .i64 (.int .i64 j) _ _
  rw [ltK_i]
  refine condK_p (fun hlt => ?_) fun hge2 => ?_
  · have hlt' : j < r.length := by omega
    obtain ⟨p, rfl, hcp⟩ := hid j hlt'
    obtain ⟨q, sv, rfl, hsv, hcq⟩ := hst j hlt'
    have hj1 := hhas j hlt'
    refine ixK_n hlt' (ld1K_i (hcp W2 g2) ?_)
    refine callK_mono ((I.tab.grow g2).set (by have := I.small.pl; omega) (hrg j hlt').1 (hrg j hlt').2) ?_
    rintro v5 W5 ⟨hm5, g5, hL5⟩
    rw [hj1.1] at hm5
    obtain ⟨yv, rfl, oy⟩ := hm5
    have g25 := g2.trans g5
    refine extK_i (vs := [_, _]) (by rfl) (extK_i (vs := [_, _]) (by rfl) ?_)
    refine JoinK_i (fun _ W' => Grow W W') ?_ ?_
    · rintro _ W6 g6 _
      refine LoopK_i (fun vs W7 => ∃ k : Nat, k ≤ j ∧ vs = [.int .i64 k] ∧ Grow W W7) (fun vs _ => j - iOf vs 0) ⟨0, Nat.zero_le _, rfl, g6⟩ ?_
      rintro vs W7 ⟨k, hk, rfl, g7⟩ _
      show ltK .i64 (.int .i64 k) (.int .i64 j) _
      rw [ltK_i]
      refine condK_p (fun hlt3 => ?_) fun hge3 => ?_
      · have hkj : k < j := by omega
        have hkr : k < r.length := by omega
        obtain ⟨_, e1, hck⟩ := hid k hkr
        cases e1
        obtain ⟨_, sk, e2, hsk, hcs⟩ := hst k hkr
        cases e2
        refine drawC_i (fun _ _ => False) ?_
        have gd : Grow W W7.drew := g7.trans (Mod.drew _ _)
        refine ixK_n hlt' (sld1_i ⟨hcp _ gd, fun _ _ h => h⟩ ?_)
        refine ixK_n hkr (sld1_i ⟨hck _ gd, fun _ _ h => h⟩ ?_)
        rw [eqK_i]
        refine ixK_n (show j < (r.map (·.1)).length by rw [List.length_map]; exact hlt') (sld1_i ⟨hcq _ gd, fun _ _ h => h⟩ ?_)
        refine ixK_n (show k < (r.map (·.1)).length by rw [List.length_map]; exact hkr) (sld1_i ⟨hcs _ gd, fun _ _ h => h⟩ ?_)
        refine callK_mono (rsame_set (hsv.grow gd (by decide) fun _ _ h => h) (hsk.grow gd (by decide) fun _ _ h => h)) ?_
        rintro _ W8 ⟨rfl, g8⟩
        refine ⟨g8, ?_⟩
        rw [bneK_i, decide_eq_decide.2 (Tab.Has.uniq I.tab.inv hj1 (hhas k hkr)), beq_self_eq_true]
        refine condK_f ?_
        show addK .i64 (.int .i64 k) _ _
        rw [addK_i, loop_step (by omega)]
        exact ⟨⟨k + 1, hkj, rfl, gd.trans g8⟩, by rw [iOf0, iOf0]; omega⟩
      · show addK .i64 (.int .i64 j) _ _
        rw [addK_i, loop_step (by omega)]
        exact ⟨⟨j + 1, hlt', rfl, g7⟩, by rw [iOf0, iOf0]; omega⟩
    · refine drawC_i (fun _ _ => False) ?_
      have gd5 : Grow W5 W5.drew := Mod.drew _ _
      have gd : Grow W W5.drew := g25.trans gd5
      rw [neK_i]
      refine condK_neg (fun _ => ?_) fun e => (e rfl).elim
      refine ixK_n (show j < (r.map (·.1)).length by rw [List.length_map]; exact hlt') (sld1_i ⟨hcq _ gd, fun _ _ h => h⟩ ?_)
      refine callK_mono (rsame_set (oy.sl.grow gd5 (by decide) fun _ _ h => h) (hsv.grow gd (by decide) fun _ _ h => h)) ?_
      rintro _ W6 ⟨rfl, g6⟩
      refine ⟨g6, ?_⟩
      rw [decide_eq_true rfl, notK_i]
      refine condK_f ?_
      refine ixK_n hlt' (sld1_i ⟨hcp _ gd, fun _ _ h => h⟩ ?_)
      rw [eqK_i]
      refine ixK_n (show j < (r.map (·.1)).length by rw [List.length_map]; exact hlt') (sld1_i ⟨hcq _ gd, fun _ _ h => h⟩ ?_)
      obtain ⟨sa, sc, rfl, _⟩ := hsv.shape
      rw [lenK_i, eqK_i, bneK_i]
      have e0 : (r[j].2 = 0) ↔ ((r[j].1.length : Int) = 0) := by
        rw [hj1.2.2]
        constructor
        · intro e; rw [e]; rfl
        · intro e; exact List.eq_nil_of_length_eq_zero (by omega)
      rw [decide_eq_decide.2 e0, beq_self_eq_true]
      exact condK_f (gd.trans g6)
  · -- all are freed
    have hI2 := I.grow g2
    rw [lenK_i]
    refine LoopK_i (fun vs W3 => ∃ (j : Nat) (t3 : Tab (List Attr)) (F3 : Nat → Prop), j ≤ r.length ∧ vs = [.int .i64 j] ∧ L w F3 W3 b ks t3 ∧ t3.Small i ∧ t3.Just [] (r.drop j) ∧ OwnR w.heap.size 3 1 RNum W3 (.slice ia r.length ic) (r.map (·.2)) ∧ ∀ g, (Value.slice ia r.length ic).ownBlock = some g → ¬ F3 g) (fun vs _ => r.length - iOf vs 0)
      ⟨0, t, F, Nat.zero_le _, rfl, hI2.tab, I.small, by rw [List.drop_zero]; exact I.just, by simpa using hI2.ids, fun g hg => (I.si g (by simpa using hg)).1⟩ ?_
    rintro vs W3 ⟨j3, t3, F3', hj3, rfl, hL3, hsm3, hju3, oi3, hnf3⟩ _
    show ltK .i64 (.int .i64 j3) _ _
    rw [ltK_i]
    refine condK_p (fun hlt3 => ?_) fun hge3 => ?_
    · have hlt' : j3 < r.length := by omega
      obtain ⟨p, rr, rfl, _, hr, hc, e⟩ := oi3.sl.get (i := j3) (by rw [List.length_map]; exact hlt')
      rw [List.getElem_map] at e
      subst e
      rw [List.drop_eq_getElem_cons hlt'] at hju3
      have hx := hju3.has r[j3] List.mem_cons_self
      have hle := hx.le hsm3
      refine ixK_n hlt' (ld1K_i (hc 0 _ rfl) ?_)
      refine callK_mono (hL3.free (id := r[j3].2) (hsm3.le (by omega)) (by omega) (by omega)) ?_
      rintro _ W4 ⟨rfl, F4, hL4, hF4, hm4⟩
      rw [hx.1, neK_i]
      refine condK_neg (fun _ => ?_) fun e => (e rfl).elim
      show addK .i64 (.int .i64 j3) _ _
      rw [addK_i, loop_step (by omega)]
      refine ⟨⟨j3 + 1, _, F4, hlt', rfl, hL4, hsm3.release, ?_, OwnR.mod oi3 hm4 (fun g hg => hnf3 g hg) fun _ _ _ h => h, fun g hg hf => ?_⟩, by rw [iOf0, iOf0]; omega⟩
      · exact Tab.Just.freed (x := r[j3].1) (k := r[j3].2) hju3 hL3.inv heldNe
      · rcases hF4 g hf with h | h
        · exact hnf3 g hg h
        · have := (OwnR.ownB oi3 g hg).2; omega
    · have : j3 = r.length := by omega
      subst this
      rw [List.drop_length] at hju3
      obtain ⟨hz1, hz2⟩ := hju3.none hL3.inv
      refine callK_mono (hL3.len (by have := hsm3.pl; omega)) ?_
      rintro _ W4 ⟨rfl, g4, hL4⟩
      rw [eqK_i]
      refine condK_p (fun _ => ?_) fun e => (e (by omega)).elim
      refine callK_mono (hL4.held (id := 0) (by have := hsm3.pl; omega) (by decide) (by decide)) ?_
      rintro _ W5 ⟨rfl, g5, hL5⟩
      have ea : t3.ask [] 0 = some ⟨[], t3.empty⟩ := by unfold Tab.ask; rw [if_pos rfl]
      rw [ea, hz2, eqK_i]
      exact condK_p (fun _ => kn hL5.g) fun e => (e rfl).elim
end Go.Proofs.YtmfplfaeibehiaaDoor

namespace Go.Proofs.YtmfplfaeibehiaaDoor
open Go Go.K
/-- rubric/rubriclaw07.InternNone -/
def S11 (v0 v1 : Value) (K : Cont) (w : World) : Prop :=
  newK 4 [(.bool false)] (fun t4 w1 =>
  lenK v1 fun t15 =>
  gtK .i64 t15 (.int .i64 70) fun t16 =>
  condK t16
  (callK Tryd.prog 24 [] (fun t17 w2 =>
  st1K t4 t17 (fun w3 =>
  marksK [] (fun w4 =>
  ld1K t4 (fun r0 w5 =>
  K r0 w5) w4) w3) w2) w1)
  (newK 84 [(.pointer none), (.slice none 0 0), (.slice none 0 0), (.map none), (.int .i64 0)] (fun t5 w6 =>
  rowK 51 1 2 [(.pointer none)] [(0, (.pointer none)), (1, t5)] (fun t18 w7 =>
  lenK t18 fun t20 =>
  LoopN [(.int .i64 0)] [] (fun vs ms again w8 => ∀ _h : Env,
  ltK .i64 (nth vs 0) t20 fun t22 =>
  condK t22
  (ixK 1 t18 (nth vs 0) fun t26 =>
  ld1K t26 (fun t27 w9 =>
  callK Tryd.prog 27 [t27, v1] (fun t31 w10 =>
  extK 0 t31 fun _t32 =>
  extK 1 t31 fun t33 =>
  callK Tryd.prog 30 [t27, v0] (fun t37 w11 =>
  extK 0 t37 fun _t38 =>
  extK 1 t37 fun t39 =>
  callK Tryd.prog 40 [t27] (fun t41 w12 =>
  runK Tryd.prog (binS .eql 87 (.tmp 42) (.const .nilFunc) t41 .nilFunc) (fun t43 w13 =>
  condK t43
  (st1K t4 (.bool false) (fun w14 =>
  marksK ms (fun w15 =>
  ld1K t4 (fun r0_1 w16 =>
  K r0_1 w16) w15) w14) w13)
  (RangeK Tryd.prog okf t41 1 (fun _args beg w17 =>
  beg (fun post w18 =>
  st1K t4 (.bool false) (fun w19 =>
  post .ret w19) w18) w17) (nOf (fun w20 =>
  neK .i64 t33 (.int .i64 1) fun t47 =>
  condK t47
  (st1K t4 (.bool false) (fun w21 =>
  marksK (w13.heap.size :: ms) (fun w22 =>
  ld1K t4 (fun r0_2 w23 =>
  K r0_2 w23) w22) w21) w20)
  (neK .i64 t39 (.int .i64 1) fun t50 =>
  condK t50
  (st1K t4 (.bool false) (fun w24 =>
  marksK (w13.heap.size :: ms) (fun w25 =>
  ld1K t4 (fun r0_3 w26 =>
  K r0_3 w26) w25) w24) w20)
  (callK Tryd.prog 34 [t27, v0] (fun t55 w27 =>
  neK .i64 t55 (.int .i64 1) fun t56 =>
  condK t56
  (st1K t4 (.bool false) (fun w28 =>
  marksK (w13.heap.size :: ms) (fun w29 =>
  ld1K t4 (fun r0_4 w30 =>
  K r0_4 w30) w29) w28) w27)
  (callK Tryd.prog 28 [t27, v0] (fun t61 w31 =>
  neK .i64 t61 (.int .i64 1) fun t62 =>
  condK t62
  (st1K t4 (.bool false) (fun w32 =>
  marksK (w13.heap.size :: ms) (fun w33 =>
  ld1K t4 (fun r0_5 w34 =>
  K r0_5 w34) w33) w32) w31)
  (callK Tryd.prog 32 [t27, v0] (fun t67 w35 =>
  callK Tryd.prog 29 [t27] (fun t69 w36 =>
  addK .i64 t67 t69 fun t70 =>
  neK .i64 t70 (.int .i64 0) fun t71 =>
  condK t71
  (st1K t4 (.bool false) (fun w37 =>
  marksK (w13.heap.size :: ms) (fun w38 =>
  ld1K t4 (fun r0_6 w39 =>
  K r0_6 w39) w38) w37) w36)
  (addK .i64 (nth vs 0) (.int .i64 1) fun t73_4 =>
  again [t73_4] (w13.heap.size :: ms) w36)) w35) w31)) w27)) w20))) (fun w40 =>
  marksK (w13.heap.size :: ms) (fun w41 =>
  ld1K t4 (fun r0_7 w42 =>
  K r0_7 w42) w41) w40) []) w13)) w12) w11) w10) w9) w8)
  (callK Tryd.prog 24 [] (fun t74 w43 =>
  st1K t4 t74 (fun w44 =>
  marksK ms (fun w45 =>
  ld1K t4 (fun r0_8 w46 =>
  K r0_8 w46) w45) w44) w43) w8)) w7) w6) w1)) w
theorem S11_eq (v0 v1 : Value) (K : Cont) (w : World) : S11 v0 v1 K w = DN Tryd.prog okf 75 (bodyOf Tryd.f11) (.node [] [] .nil (.node [] [] (.node [] [] .nil (.node [] [] (.node [] [] .nil .nil) .nil)) (.node [] [] .nil (.node [] [] .nil (.node [] [] (.node [] [] .nil (.node [21] [(7, 13), (21, 44), (46, 73)] (.node [] [] .nil (.node [] [] (.node [] [] .nil .nil) (.node [] [] (.node [] [] .nil (.node [] [] .nil (.node [] [] .nil (.node [] [] .nil (.node [] [] .nil (.node [] [] (.node [] [] .nil (.node [] [] (.node [] [] .nil .nil) .nil)) (.node [] [] (.node [] [] .nil (.node [] [] .nil (.node [] [] .nil .nil))) (.node [] [] .nil (.node [] [] (.node [] [] .nil .nil) .nil))))))))) .nil))) .nil)) (.node [] [] .nil .nil)))))) (retNK Tryd.prog [.cell 4 4] K) [] (nth [v0, v1]) w := by kernel_rfl
theorem S11_ok {v0 v1 : Value} {K : Cont} {w : World} (h : S11 v0 v1 K w) : callK Tryd.prog 11 [v0, v1] K w :=
  callK_ofN (P := Tryd.prog) (ok := okf) (n := 75) (fn := Tryd.f11) (c := bodyOf Tryd.f11) (rs := [.cell 4 4]) (an := (.node [] [] .nil (.node [] [] (.node [] [] .nil (.node [] [] (.node [] [] .nil .nil) .nil)) (.node [] [] .nil (.node [] [] .nil (.node [] [] (.node [] [] .nil (.node [21] [(7, 13), (21, 44), (46, 73)] (.node [] [] .nil (.node [] [] (.node [] [] .nil .nil) (.node [] [] (.node [] [] .nil (.node [] [] .nil (.node [] [] .nil (.node [] [] .nil (.node [] [] .nil (.node [] [] (.node [] [] .nil (.node [] [] (.node [] [] .nil .nil) .nil)) (.node [] [] (.node [] [] .nil (.node [] [] .nil (.node [] [] .nil .nil))) (.node [] [] .nil (.node [] [] (.node [] [] .nil .nil) .nil))))))))) .nil))) .nil)) (.node [] [] .nil .nil))))))) good mixed Tryd.func11 (by kernel_rfl) (by kernel_rfl) (by kernel_rfl) (by kernel_rfl) (Eq.mp (S11_eq v0 v1 K w) h)

/-- rubric/rubriclaw07.InternPlays -/
def S10 (v0 v1 : Value) (K : Cont) (w : World) : Prop :=
  callK Tryd.prog 12 [v0] (fun t20 w1 =>
  extK 0 t20 fun t21 =>
  extK 1 t20 fun t22 =>
  JoinK (fun _vs w2 => ∀ _h : Env,
  callK Tryd.prog 25 [t21] (fun t39 w3 =>
  buildK [(0, 1), (1, 1), (2, 1), (3, 1), (4, 1)] [(.slice none 0 0), (.slice none 0 0), (.slice none 0 0), (.slice none 0 0), (.int .i64 0)] [(0, v0)] fun t41 =>
  boxnK 74 t41 (fun t42 w4 =>
  pnilK t39 fun b44 =>
  condK (.bool b44)
  (K (.bool false) w4)
  (lenK v1 fun t46 =>
  LoopK [(.int .i64 0)] (fun vs_1 again w5 => ∀ _h_1 : Env,
  ltK .i64 (nth vs_1 0) t46 fun t48 =>
  condK t48
  (ixK 3 v1 (nth vs_1 0) fun t49 =>
  ldnK 3 t49 (fun t50 w6 =>
  newK 76 [(.int .i64 0), (.int .i64 0), (.slice none 0 0)] (fun t10 w7 =>
  stnK 3 t10 t50 (fun w8 =>
  JoinK (fun vs_2 w9 => ∀ _h_2 : Env,
  JoinK (fun _vs_3 w10 => ∀ _h_3 : Env,
  faK 1 t10 fun t133 =>
  ld1K t133 (fun t134 w11 =>
  callK Tryd.prog 39 [t39, t42, t134] (fun t135 w12 =>
  notK t135 fun t136 =>
  condK t136
  (K (.bool false) w12)
  (addK .i64 (nth vs_1 0) (.int .i64 1) fun t137 =>
  again [t137] w12)) w11) w10) (fun J_2 =>
  faK 0 t10 fun t56 =>
  ld1K t56 (fun t57 w13 =>
  eqK .i64 t57 (.int .i64 1) fun t59 =>
  condK t59
  (faK 2 t10 fun t60 =>
  ld1K t60 (fun t61 w14 =>
  lenK t61 fun t62 =>
  gtK .i64 t62 (.int .i64 70) fun t63 =>
  condK t63
  (addK .i64 (nth vs_1 0) (.int .i64 1) fun t137_1 =>
  again [t137_1] w14)
  (rowK 56 5 0 [] [] (fun t64 w15 =>
  faK 2 t10 fun t65 =>
  ld1K t65 (fun t66 w16 =>
  runK Tryd.prog (Builtin.append_ #[53, 53] 53 [t64, t66].toArray) (fun t67 w17 =>
  callK Tryd.prog 27 [t39, t67] (fun t71 w18 =>
  extK 0 t71 fun t72 =>
  extK 1 t71 fun t73 =>
  faK 2 t10 fun t76 =>
  ld1K t76 (fun t77 w19 =>
  callK Tryd.prog 36 [t42, t77] (fun t78 w20 =>
  extK 0 t78 fun t79 =>
  extK 1 t78 fun t80 =>
  JoinK (fun _vs_4 w21 => ∀ _h_4 : Env,
  lenK t67 fun t90 =>
  LoopK [(.int .i64 0)] (fun vs_5 again_1 w22 => ∀ _h_5 : Env,
  ltK .i64 (nth vs_5 0) t90 fun t92 =>
  condK t92
  (ixK 5 t67 (nth vs_5 0) fun t96 =>
  faK 0 t96 fun t97 =>
  ld1K t97 (fun t98 w23 =>
  addK .i64 t98 (.int .i64 1) fun t99 =>
  ixK 5 t67 (nth vs_5 0) fun t100 =>
  faK 0 t100 fun t101 =>
  st1K t101 t99 (fun w24 =>
  addK .i64 (nth vs_5 0) (.int .i64 1) fun t102 =>
  again_1 [t102] w24) w23) w22)
  (J_2 [] w22)) w21) (fun J_3 =>
  neK .i64 t72 t79 fun t83 =>
  condK t83
  (K (.bool false) w20)
  (neK .i64 t73 t80 fun t87 =>
  condK t87
  (K (.bool false) w20)
  (J_3 [] w20)))) w19) w18) w17) w16) w15) w14)) w13)
  (eqK .i64 t57 (.int .i64 2) fun t104 =>
  condK t104
  (faK 1 t10 fun t106 =>
  ld1K t106 (fun t107 w25 =>
  callK Tryd.prog 28 [t39, t107] (fun t108 w26 =>
  neK .i64 t108 (nth vs_2 0) fun t110 =>
  condK t110
  (K (.bool false) w26)
  (eqK .i64 (nth vs_2 0) (.int .i64 0) fun t112 =>
  condK t112
  (faK 1 t10 fun t114 =>
  ld1K t114 (fun t115 w27 =>
  callK Tryd.prog 37 [t42, t115] (fun _t116 w28 =>
  J_2 [] w28) w27) w26)
  (J_2 [] w26))) w25) w13)
  (eqK .i64 t57 (.int .i64 3) fun t118 =>
  condK t118
  (faK 1 t10 fun t120 =>
  ld1K t120 (fun t121 w29 =>
  callK Tryd.prog 34 [t39, t121] (fun t122 w30 =>
  neK .i64 t122 (nth vs_2 0) fun t124 =>
  condK t124
  (K (.bool false) w30)
  (eqK .i64 (nth vs_2 0) (.int .i64 0) fun t126 =>
  condK t126
  (faK 1 t10 fun t128 =>
  ld1K t128 (fun t129 w31 =>
  callK Tryd.prog 38 [t42, t129] (fun _t130 w32 =>
  J_2 [] w32) w31) w30)
  (J_2 [] w30))) w29) w13)
  (J_2 [] w13)))) w9)) (fun J_1 =>
  faK 1 t10 fun t52 =>
  ld1K t52 (fun t53 w33 =>
  callK Tryd.prog 35 [t42, t53] (fun t54 w34 =>
  notK t54 fun t55 =>
  condK t55
  (J_1 [(.int .i64 5)] w34)
  (J_1 [(.int .i64 0)] w34)) w33) w8)) w7) w6) w5)
  (callK Tryd.prog 24 [] (fun t138 w35 =>
  K t138 w35) w5)) w4)) w3) w2) (fun J =>
  neK .i64 t22 (.int .i64 0) fun t24 =>
  condK t24
  (eqK .i64 t22 (.int .i64 0) fun t31 =>
  callK Tryd.prog 16 [v0] (fun t33 w36 =>
  beqK t31 t33 fun t34 =>
  condK t34
  (callK Tryd.prog 24 [] (fun t36 w37 =>
  K t36 w37) w36)
  (K (.bool false) w36)) w1)
  (lenK v1 fun t27 =>
  gtK .i64 t27 (.int .i64 100) fun t28 =>
  condK t28
  (eqK .i64 t22 (.int .i64 0) fun t31_1 =>
  callK Tryd.prog 16 [v0] (fun t33_1 w38 =>
  beqK t31_1 t33_1 fun t34_1 =>
  condK t34_1
  (callK Tryd.prog 24 [] (fun t36_1 w39 =>
  K t36_1 w39) w38)
  (K (.bool false) w38)) w1)
  (J [] w1)))) w
theorem S10_eq (v0 v1 : Value) (K : Cont) (w : World) : S10 v0 v1 K w = D Tryd.prog okf 139 (bodyOf Tryd.f10) (.node [] [] .nil (.node [] [] .nil (.cut [] [(4, 4), (23, 37)] (.node [] [] .nil (.node [] [] (.node [] [] .nil .nil) .nil)) (.node [] [] .nil (.node [] [] (.node [] [] .nil (.node [] [] (.node [] [] .nil .nil) .nil)) (.node [] [] (.node [] [] .nil (.node [47] [(4, 4), (10, 17), (47, 137)] (.node [] [] .nil (.node [] [] (.node [] [] .nil .nil) (.node [] [] (.node [] [] .nil (.node [] [] .nil (.cut [11] [(11, 11), (51, 55)] (.node [] [] .nil (.node [] [] .nil .nil)) (.cut [] [(4, 4), (12, 17), (56, 130)] (.node [] [] .nil (.node [] [] .nil (.node [] [] (.node [] [] (.node [] [] .nil (.node [] [] .nil .nil)) (.node [] [] .nil (.node [] [] .nil (.node [] [] .nil (.cut [] [(4, 4), (81, 88)] (.node [] [] .nil (.node [] [] (.node [] [] .nil .nil) .nil)) (.node [] [] .nil (.node [91] [(17, 17), (91, 102)] (.node [] [] .nil (.node [] [] (.node [] [] .nil .nil) (.node [] [] (.node [] [] .nil .nil) .nil))) .nil))))))) (.node [] [] .nil (.node [] [] (.node [] [] (.node [] [] .nil (.node [] [] (.node [] [] .nil .nil) .nil)) (.node [] [] .nil (.node [] [] .nil .nil))) (.node [] [] .nil (.node [] [] (.node [] [] (.node [] [] .nil (.node [] [] (.node [] [] .nil .nil) .nil)) (.node [] [] .nil (.node [] [] .nil .nil))) .nil))))))) (.node [] [] .nil (.node [] [] (.node [] [] .nil .nil) .nil)))))) .nil))) .nil)) (.node [] [] .nil .nil))))))) (retK Tryd.prog [.tmp 4] K) (nth [v0, v1]) w := by kernel_rfl
theorem S10_ok {v0 v1 : Value} {K : Cont} {w : World} (h : S10 v0 v1 K w) : callK Tryd.prog 10 [v0, v1] K w :=
  callK_of (P := Tryd.prog) (ok := okf) (n := 139) (fn := Tryd.f10) (c := bodyOf Tryd.f10) (rs := [.tmp 4]) (an := (.node [] [] .nil (.node [] [] .nil (.cut [] [(4, 4), (23, 37)] (.node [] [] .nil (.node [] [] (.node [] [] .nil .nil) .nil)) (.node [] [] .nil (.node [] [] (.node [] [] .nil (.node [] [] (.node [] [] .nil .nil) .nil)) (.node [] [] (.node [] [] .nil (.node [47] [(4, 4), (10, 17), (47, 137)] (.node [] [] .nil (.node [] [] (.node [] [] .nil .nil) (.node [] [] (.node [] [] .nil (.node [] [] .nil (.cut [11] [(11, 11), (51, 55)] (.node [] [] .nil (.node [] [] .nil .nil)) (.cut [] [(4, 4), (12, 17), (56, 130)] (.node [] [] .nil (.node [] [] .nil (.node [] [] (.node [] [] (.node [] [] .nil (.node [] [] .nil .nil)) (.node [] [] .nil (.node [] [] .nil (.node [] [] .nil (.cut [] [(4, 4), (81, 88)] (.node [] [] .nil (.node [] [] (.node [] [] .nil .nil) .nil)) (.node [] [] .nil (.node [91] [(17, 17), (91, 102)] (.node [] [] .nil (.node [] [] (.node [] [] .nil .nil) (.node [] [] (.node [] [] .nil .nil) .nil))) .nil))))))) (.node [] [] .nil (.node [] [] (.node [] [] (.node [] [] .nil (.node [] [] (.node [] [] .nil .nil) .nil)) (.node [] [] .nil (.node [] [] .nil .nil))) (.node [] [] .nil (.node [] [] (.node [] [] (.node [] [] .nil (.node [] [] (.node [] [] .nil .nil) .nil)) (.node [] [] .nil (.node [] [] .nil .nil))) .nil))))))) (.node [] [] .nil (.node [] [] (.node [] [] .nil .nil) .nil)))))) .nil))) .nil)) (.node [] [] .nil .nil)))))))) good mixed Tryd.func10 (by kernel_rfl) (by kernel_rfl) (by kernel_rfl) (by kernel_rfl) (Eq.mp (S10_eq v0 v1 K w) h)

/-- rubric/rubriclaw07.looked -/
def S39 (v0 v1 v2 : Value) (K : Cont) (w : World) : Prop :=
  box1K 51 v0 (fun t3 w1 =>
  box1K 72 v1 (fun t4 w2 =>
  newK 4 [(.bool false)] (fun t6 w3 =>
  DrawC [1] [[], [0], [], [2], [2, 3], [2, 3, 4], [2, 3, 4, 5], [2, 3, 4, 5, 6], [], [8], [8, 9], [8, 9, 10], [8, 9, 10, 11], [2, 3, 4, 5, 6, 7, 8, 9, 10, 11, 12], [0, 1, 2, 3, 4, 5, 6, 7, 8, 9, 10, 11, 12, 13]] w3.drew (fun M St =>
  sld1 (St 0) t3 fun t16 =>
  callK Tryd.prog 29 [t16] (fun t17 w4 =>
  Mod (M 1) w3.drew w4 ∧
  sld1 (St 2) t4 fun t18 =>
  nilckK t18 fun t19 =>
  faK 1 t19 fun t20 =>
  sld1 (St 5) t20 fun t21 =>
  lenK t21 fun t22 =>
  addK .i64 (.int .i64 1) t22 fun t23 =>
  sld1 (St 8) t4 fun t24 =>
  nilckK t24 fun t25 =>
  faK 3 t25 fun t26 =>
  sld1 (St 11) t26 fun t27 =>
  lenK t27 fun t28 =>
  subK .i64 t23 t28 fun t29 =>
  neK .i64 t17 t29 fun t30 =>
  condK t30
  (st1K t6 (.bool false) (fun w5 =>
  marksK [] (fun w6 =>
  ld1K t6 (fun r0 w7 =>
  K r0 w7) w6) w5) w4)
  (newK 3 [(.int .i64 0)] (fun t7 w8 =>
  st1K t7 (.int .i64 0) (fun w9 =>
  ld1K t3 (fun t31 w10 =>
  callK Tryd.prog 40 [t31] (fun t32 w11 =>
  RangeK Tryd.prog okf t32 1 (fun args beg w12 =>
  beg (fun post w13 =>
  LoopK [] (fun _vs again w14 => ∀ _h : Env,
  ld1K t4 (fun t34 w15 =>
  ld1K t7 (fun t35 w16 =>
  callK Tryd.prog 35 [t34, t35] (fun t36 w17 =>
  notK t36 fun t37 =>
  condK t37
  (ld1K t7 (fun t38 w18 =>
  addK .i64 t38 (.int .i64 1) fun t39 =>
  st1K t7 t39 (fun w19 =>
  DrawK w19 (fun C =>
  qld1K C t7 fun t40 =>
  qld1K C t4 fun t41 =>
  nilckK t41 fun t42 =>
  faK 1 t42 fun t43 =>
  qld1K C t43 fun t44 =>
  lenK t44 fun t45 =>
  gtK .i64 t40 t45 fun t46 =>
  ∀ w20 : World, C w20 →
  condK t46
  (st1K t6 (.bool false) (fun w21 =>
  post .ret w21) w20)
  (again [] w20))) w18) w17)
  (ld1K t7 (fun t48 w22 =>
  neK .i64 (nth args 0) t48 fun t49 =>
  condK t49
  (st1K t6 (.bool false) (fun w23 =>
  post .ret w23) w22)
  (ld1K t7 (fun t50 w24 =>
  addK .i64 t50 (.int .i64 1) fun t51 =>
  st1K t7 t51 (fun w25 =>
  ld1K t3 (fun t53 w26 =>
  callK Tryd.prog 30 [t53, (nth args 0)] (fun t55 w27 =>
  extK 0 t55 fun t56 =>
  extK 1 t55 fun t57 =>
  ld1K t4 (fun t58 w28 =>
  nilckK t58 fun t59 =>
  faK 4 t59 fun t60 =>
  ld1K t60 (fun t61 w29 =>
  JoinK (fun vs_1 w30 => ∀ _h_1 : Env,
  JoinK (fun _vs_2 w31 => ∀ _h_2 : Env,
  lenK t56 fun t96 =>
  LoopK [(.int .i64 0)] (fun vs_3 again_1 w32 => ∀ _h_3 : Env,
  ltK .i64 (nth vs_3 0) t96 fun t98 =>
  condK t98
  (ixK 5 t56 (nth vs_3 0) fun t102 =>
  faK 0 t102 fun t103 =>
  ld1K t103 (fun t104 w33 =>
  addK .i64 t104 (.int .i64 1) fun t105 =>
  ixK 5 t56 (nth vs_3 0) fun t106 =>
  faK 0 t106 fun t107 =>
  st1K t107 t105 (fun w34 =>
  addK .i64 (nth vs_3 0) (.int .i64 1) fun t108 =>
  again_1 [t108] w34) w33) w32)
  (post .normal w32)) w31) (fun J_1 =>
  neK .i64 t57 (.int .i64 0) fun t81 =>
  condK t81
  (st1K t6 (.bool false) (fun w35 =>
  post .ret w35) w30)
  (callK Tryd.prog 31 [t56, (nth vs_1 1)] (fun t85 w36 =>
  notK t85 fun t86 =>
  condK t86
  (st1K t6 (.bool false) (fun w37 =>
  post .ret w37) w36)
  (ld1K t3 (fun t89 w38 =>
  callK Tryd.prog 32 [t89, (nth args 0)] (fun t91 w39 =>
  neK .i64 t91 (nth vs_1 0) fun t93 =>
  condK t93
  (st1K t6 (.bool false) (fun w40 =>
  post .ret w40) w39)
  (J_1 [] w39)) w38) w36)) w30))) (fun J =>
  gtK .i64 (nth args 0) (.int .i64 0) fun t63 =>
  condK t63
  (DrawK w29 (fun C_1 =>
  qld1K C_1 t4 fun t64 =>
  nilckK t64 fun t65 =>
  faK 2 t65 fun t66 =>
  qld1K C_1 t66 fun t67 =>
  subK .i64 (nth args 0) (.int .i64 1) fun t69 =>
  ixK 1 t67 t69 fun t70 =>
  qld1K C_1 t70 fun t71 =>
  qld1K C_1 t4 fun t72 =>
  nilckK t72 fun t73 =>
  faK 1 t73 fun t74 =>
  qld1K C_1 t74 fun t75 =>
  subK .i64 (nth args 0) (.int .i64 1) fun t77 =>
  ixK 1 t75 t77 fun t78 =>
  qld1K C_1 t78 fun t79 =>
  ∀ w41 : World, C_1 w41 →
  J [t71, t79] w41))
  (J [t61, (.slice none 0 0)] w29))) w28) w27) w26) w25) w24) w22)) w17)) w16) w15) w14) w13) w12) (nOf (fun w42 =>
  LoopK [] (fun _vs_4 again_2 w43 => ∀ _h_4 : Env,
  DrawK w43 (fun C_2 =>
  qld1K C_2 t7 fun t109 =>
  qld1K C_2 t4 fun t110 =>
  nilckK t110 fun t111 =>
  faK 1 t111 fun t112 =>
  qld1K C_2 t112 fun t113 =>
  lenK t113 fun t114 =>
  leK .i64 t109 t114 fun t115 =>
  ∀ w44 : World, C_2 w44 →
  condK t115
  (ld1K t4 (fun t118 w45 =>
  ld1K t7 (fun t119 w46 =>
  callK Tryd.prog 35 [t118, t119] (fun t120 w47 =>
  condK t120
  (st1K t6 (.bool false) (fun w48 =>
  marksK (w11.heap.size :: []) (fun w49 =>
  ld1K t6 (fun r0_1 w50 =>
  K r0_1 w50) w49) w48) w47)
  (ld1K t7 (fun t116 w51 =>
  addK .i64 t116 (.int .i64 1) fun t117 =>
  st1K t7 t117 (fun w52 =>
  again_2 [] w52) w51) w47)) w46) w45) w44)
  (ld1K t3 (fun t121 w53 =>
  callK Tryd.prog 40 [t121] (fun t122 w54 =>
  RangeK Tryd.prog okf t122 1 (fun _args_1 beg_1 w55 =>
  beg_1 (fun post_1 w56 =>
  post_1 (.exit 8) w56) w55) (nOf (fun w57 =>
  ld1K t3 (fun t125 w58 =>
  callK Tryd.prog 30 [t125, v2] (fun t127 w59 =>
  extK 0 t127 fun _t128 =>
  extK 1 t127 fun t129 =>
  eqK .i64 t129 (.int .i64 0) fun t131 =>
  ld1K t4 (fun t132 w60 =>
  callK Tryd.prog 35 [t132, v2] (fun t134 w61 =>
  beqK t131 t134 fun t135 =>
  condK t135
  (eqK .i64 t129 (.int .i64 0) fun t138 =>
  condK t138
  (st1K t6 (.bool true) (fun w62 =>
  marksK (w54.heap.size :: (w11.heap.size :: [])) (fun w63 =>
  ld1K t6 (fun r0_2 w64 =>
  K r0_2 w64) w63) w62) w61)
  (eqK .i64 t129 (.int .i64 5) fun t141 =>
  condK t141
  (ld1K t3 (fun t143 w65 =>
  callK Tryd.prog 32 [t143, v2] (fun t145 w66 =>
  eqK .i64 t145 (.int .i64 0) fun t146 =>
  st1K t6 t146 (fun w67 =>
  marksK (w54.heap.size :: (w11.heap.size :: [])) (fun w68 =>
  ld1K t6 (fun r0_3 w69 =>
  K r0_3 w69) w68) w67) w66) w65) w61)
  (st1K t6 (.bool false) (fun w70 =>
  marksK (w54.heap.size :: (w11.heap.size :: [])) (fun w71 =>
  ld1K t6 (fun r0_4 w72 =>
  K r0_4 w72) w71) w70) w61)))
  (st1K t6 (.bool false) (fun w73 =>
  marksK (w54.heap.size :: (w11.heap.size :: [])) (fun w74 =>
  ld1K t6 (fun r0_5 w75 =>
  K r0_5 w75) w74) w73) w61)) w60) w59) w58) w57) (fun w76 =>
  marksK (w54.heap.size :: (w11.heap.size :: [])) (fun w77 =>
  ld1K t6 (fun r0_6 w78 =>
  K r0_6 w78) w77) w76) [(8, fun w79 =>
  ld1K t3 (fun t125_1 w80 =>
  callK Tryd.prog 30 [t125_1, v2] (fun t127_1 w81 =>
  extK 0 t127_1 fun _t128_1 =>
  extK 1 t127_1 fun t129_1 =>
  eqK .i64 t129_1 (.int .i64 0) fun t131_1 =>
  ld1K t4 (fun t132_1 w82 =>
  callK Tryd.prog 35 [t132_1, v2] (fun t134_1 w83 =>
  beqK t131_1 t134_1 fun t135_1 =>
  condK t135_1
  (eqK .i64 t129_1 (.int .i64 0) fun t138_1 =>
  condK t138_1
  (st1K t6 (.bool true) (fun w84 =>
  marksK (w54.heap.size :: (w11.heap.size :: [])) (fun w85 =>
  ld1K t6 (fun r0_7 w86 =>
  K r0_7 w86) w85) w84) w83)
  (eqK .i64 t129_1 (.int .i64 5) fun t141_1 =>
  condK t141_1
  (ld1K t3 (fun t143_1 w87 =>
  callK Tryd.prog 32 [t143_1, v2] (fun t145_1 w88 =>
  eqK .i64 t145_1 (.int .i64 0) fun t146_1 =>
  st1K t6 t146_1 (fun w89 =>
  marksK (w54.heap.size :: (w11.heap.size :: [])) (fun w90 =>
  ld1K t6 (fun r0_8 w91 =>
  K r0_8 w91) w90) w89) w88) w87) w83)
  (st1K t6 (.bool false) (fun w92 =>
  marksK (w54.heap.size :: (w11.heap.size :: [])) (fun w93 =>
  ld1K t6 (fun r0_9 w94 =>
  K r0_9 w94) w93) w92) w83)))
  (st1K t6 (.bool false) (fun w95 =>
  marksK (w54.heap.size :: (w11.heap.size :: [])) (fun w96 =>
  ld1K t6 (fun r0_10 w97 =>
  K r0_10 w97) w96) w95) w83)) w82) w81) w80) w79)]) w54) w53) w44))) w42) (fun w98 =>
  marksK (w11.heap.size :: []) (fun w99 =>
  ld1K t6 (fun r0_11 w100 =>
  K r0_11 w100) w99) w98) []) w11) w10) w9) w8) w4)) w3.drew)) w2) w1) w
theorem S39_eq (v0 v1 v2 : Value) (K : Cont) (w : World) : S39 v0 v1 v2 K w = DN Tryd.prog okf 150 (bodyOf Tryd.f39) (.node [] [] .nil (.node [] [] (.node [] [] (.dc [1] [[], [0], [], [2], [2, 3], [2, 3, 4], [2, 3, 4, 5], [2, 3, 4, 5, 6], [], [8], [8, 9], [8, 9, 10], [8, 9, 10, 11], [2, 3, 4, 5, 6, 7, 8, 9, 10, 11, 12], [0, 1, 2, 3, 4, 5, 6, 7, 8, 9, 10, 11, 12, 13]] []) (.node [] [] (.node [] [] .nil .nil) .nil)) (.node [] [] .nil (.node [] [] (.node [] [] .nil (.node [] [] .nil (.node [] [] (.node [] [(34, 46)] (.node [] [] (.node [] [] .nil (.node [] [] .nil .nil)) (.node [] [] .nil (.node [] [] .draw (.node [] [] (.node [] [] .nil .nil) .nil)))) .nil) (.node [] [] (.node [] [] .nil (.node [] [] (.node [] [] .nil .nil) .nil)) (.node [] [] .nil (.node [] [] .nil (.node [] [] .nil (.cut [11, 12] [(11, 12), (62, 79)] (.node [] [] .nil (.node [] [] .draw .nil)) (.cut [] [(80, 94)] (.node [] [] .nil (.node [] [] (.node [] [] .nil .nil) .nil)) (.node [] [] .nil (.node [97] [(13, 13), (97, 108)] (.node [] [] .nil (.node [] [] (.node [] [] .nil .nil) (.node [] [] (.node [] [] .nil .nil) .nil))) .nil))))))))))) (.node [] [] (.node [] [(109, 120)] (.node [] [] (.node [] [] .draw (.node [] [] .nil .nil)) (.node [] [] (.node [] [] .nil (.node [] [] (.node [] [] .nil .nil) .nil)) .nil)) .nil) (.node [] [] (.node [] [] .nil (.node [8] [] .nil .nil)) (.node [] [] .nil (.node [] [] .nil .nil)))))))) (retNK Tryd.prog [.cell 6 4] K) [] (nth [v0, v1, v2]) w := by kernel_rfl
theorem S39_ok {v0 v1 v2 : Value} {K : Cont} {w : World} (h : S39 v0 v1 v2 K w) : callK Tryd.prog 39 [v0, v1, v2] K w :=
  callK_ofN (P := Tryd.prog) (ok := okf) (n := 150) (fn := Tryd.f39) (c := bodyOf Tryd.f39) (rs := [.cell 6 4]) (an := (.node [] [] .nil (.node [] [] (.node [] [] (.dc [1] [[], [0], [], [2], [2, 3], [2, 3, 4], [2, 3, 4, 5], [2, 3, 4, 5, 6], [], [8], [8, 9], [8, 9, 10], [8, 9, 10, 11], [2, 3, 4, 5, 6, 7, 8, 9, 10, 11, 12], [0, 1, 2, 3, 4, 5, 6, 7, 8, 9, 10, 11, 12, 13]] []) (.node [] [] (.node [] [] .nil .nil) .nil)) (.node [] [] .nil (.node [] [] (.node [] [] .nil (.node [] [] .nil (.node [] [] (.node [] [(34, 46)] (.node [] [] (.node [] [] .nil (.node [] [] .nil .nil)) (.node [] [] .nil (.node [] [] .draw (.node [] [] (.node [] [] .nil .nil) .nil)))) .nil) (.node [] [] (.node [] [] .nil (.node [] [] (.node [] [] .nil .nil) .nil)) (.node [] [] .nil (.node [] [] .nil (.node [] [] .nil (.cut [11, 12] [(11, 12), (62, 79)] (.node [] [] .nil (.node [] [] .draw .nil)) (.cut [] [(80, 94)] (.node [] [] .nil (.node [] [] (.node [] [] .nil .nil) .nil)) (.node [] [] .nil (.node [97] [(13, 13), (97, 108)] (.node [] [] .nil (.node [] [] (.node [] [] .nil .nil) (.node [] [] (.node [] [] .nil .nil) .nil))) .nil))))))))))) (.node [] [] (.node [] [(109, 120)] (.node [] [] (.node [] [] .draw (.node [] [] .nil .nil)) (.node [] [] (.node [] [] .nil (.node [] [] (.node [] [] .nil .nil) .nil)) .nil)) .nil) (.node [] [] (.node [] [] .nil (.node [8] [] .nil .nil)) (.node [] [] .nil (.node [] [] .nil .nil))))))))) good mixed Tryd.func39 (by kernel_rfl) (by kernel_rfl) (by kernel_rfl) (by kernel_rfl) (Eq.mp (S39_eq v0 v1 v2 K w) h)

/-- (*rubric/rubricref07.Table).Find -/
def S55 (v0 v1 : Value) (K : Cont) (w : World) : Prop :=
  LoopK [(.int .i64 0)] (fun vs again w1 => ∀ _h : Env,
  nilckK v0 fun t8 =>
  faK 1 t8 fun t9 =>
  ld1K t9 (fun t10 w2 =>
  lenK t10 fun t11 =>
  ltK .i64 (nth vs 0) t11 fun t12 =>
  condK t12
  (nilckK v0 fun t16 =>
  faK 2 t16 fun t17 =>
  ld1K t17 (fun t18 w3 =>
  ixK 1 t18 (nth vs 0) fun t20 =>
  ld1K t20 (fun t21 w4 =>
  gtK .i64 t21 (.int .i64 0) fun t22 =>
  condK t22
  (nilckK v0 fun t25 =>
  faK 1 t25 fun t26 =>
  ld1K t26 (fun t27 w5 =>
  ixK 1 t27 (nth vs 0) fun t29 =>
  ld1K t29 (fun t30 w6 =>
  callK Tryd.prog 31 [t30, v1] (fun t32 w7 =>
  condK t32
  (K (nth vs 0) w7)
  (addK .i64 (nth vs 0) (.int .i64 1) fun t14 =>
  again [t14] w7)) w6) w5) w4)
  (addK .i64 (nth vs 0) (.int .i64 1) fun t14_1 =>
  again [t14_1] w4)) w3) w2)
  (K (.int .i64 (-1)) w2)) w1) w
theorem S55_eq (v0 v1 : Value) (K : Cont) (w : World) : S55 v0 v1 K w = D Tryd.prog okf 35 (bodyOf Tryd.f55) (.node [] [] .nil (.node [] [] (.node [] [] .nil (.node [5] [(4, 34)] (.node [] [] (.node [] [] .nil (.node [] [] .nil .nil)) (.node [] [] (.node [] [] .nil (.node [] [] (.node [] [] .nil .nil) .nil)) .nil)) .nil)) (.node [] [] .nil .nil))) (retK Tryd.prog [.tmp 4] K) (nth [v0, v1]) w := by kernel_rfl
theorem S55_ok {v0 v1 : Value} {K : Cont} {w : World} (h : S55 v0 v1 K w) : callK Tryd.prog 55 [v0, v1] K w :=
  callK_of (P := Tryd.prog) (ok := okf) (n := 35) (fn := Tryd.f55) (c := bodyOf Tryd.f55) (rs := [.tmp 4]) (an := (.node [] [] .nil (.node [] [] (.node [] [] .nil (.node [5] [(4, 34)] (.node [] [] (.node [] [] .nil (.node [] [] .nil .nil)) (.node [] [] (.node [] [] .nil (.node [] [] (.node [] [] .nil .nil) .nil)) .nil)) .nil)) (.node [] [] .nil .nil)))) good mixed Tryd.func55 (by kernel_rfl) (by kernel_rfl) (by kernel_rfl) (by kernel_rfl) (Eq.mp (S55_eq v0 v1 K w) h)

/-- (*rubric/rubricref07.Table).Add -/
def S36 (v0 v1 : Value) (K : Cont) (w : World) : Prop :=
  nilckK v0 fun t9 =>
  faK 0 t9 fun t10 =>
  ld1K t10 (fun t11 w1 =>
  callK Tryd.prog 54 [t11, v1] (fun t13 w2 =>
  neK .i64 t13 (.int .i64 0) fun t15 =>
  condK t15
  (K (.tuple #[(.int .i64 0), t13]) w2)
  (lenK v1 fun t18 =>
  eqK .i64 t18 (.int .i64 0) fun t19 =>
  condK t19
  (nilckK v0 fun t21 =>
  faK 4 t21 fun t22 =>
  ld1K t22 (fun t23 w3 =>
  addK .i64 t23 (.int .i64 1) fun t24 =>
  nilckK v0 fun t25 =>
  faK 4 t25 fun t26 =>
  st1K t26 t24 (fun w4 =>
  K (.tuple #[(.int .i64 0), (.int .i64 0)]) w4) w3) w2)
  (callK Tryd.prog 55 [v0, v1] (fun t29 w5 =>
  JoinK (fun vs w6 => ∀ _h : Env,
  nilckK v0 fun t105 =>
  faK 2 t105 fun t106 =>
  ld1K t106 (fun t107 w7 =>
  ixK 1 t107 (nth vs 0) fun t109 =>
  ld1K t109 (fun t110 w8 =>
  addK .i64 t110 (.int .i64 1) fun t111 =>
  ixK 1 t107 (nth vs 0) fun t112 =>
  st1K t112 t111 (fun w9 =>
  addK .i64 (nth vs 0) (.int .i64 1) fun t114 =>
  K (.tuple #[t114, (.int .i64 0)]) w9) w8) w7) w6) (fun J =>
  ltK .i64 t29 (.int .i64 0) fun t31 =>
  condK t31
  (JoinK (fun vs_1 w10 => ∀ _h_1 : Env,
  DrawC [5, 7, 9] [[], [0], [0, 1], [0, 1, 2], [], [], [], [5, 6], [0, 1, 2, 3, 4, 5, 6, 7], [0, 1, 2, 3, 4, 5, 6, 7, 8]] w10.drew (fun M St =>
  nilckK v0 fun t90 =>
  faK 1 t90 fun t91 =>
  sld1 (St 3) t91 fun t92 =>
  rowK 56 5 0 [] [] (fun t94 w11 =>
  Mod (M 5) w10.drew w11 ∧
  runK Tryd.prog (Builtin.append_ #[53, 53] 53 [t94, v1].toArray) (fun t96 w12 =>
  Mod (M 7) w11 w12 ∧
  ixK 1 t92 (nth vs_1 0) fun t97 =>
  st1K t97 t96 (fun w13 =>
  Mod (M 9) w12 w13 ∧
  nilckK v0 fun t99 =>
  faK 2 t99 fun t100 =>
  ld1K t100 (fun t101 w14 =>
  ixK 1 t101 (nth vs_1 0) fun t103 =>
  st1K t103 (.int .i64 0) (fun w15 =>
  J [(nth vs_1 0)] w15) w14) w13) w12) w11) w10.drew)) (fun J_1 =>
  nilckK v0 fun t33 =>
  faK 3 t33 fun t34 =>
  ld1K t34 (fun t35 w16 =>
  lenK t35 fun t36 =>
  gtK .i64 t36 (.int .i64 0) fun t37 =>
  condK t37
  (DrawK w16 (fun C =>
  nilckK v0 fun t39 =>
  faK 3 t39 fun t40 =>
  qld1K C t40 fun t41 =>
  nilckK v0 fun t43 =>
  faK 3 t43 fun t44 =>
  qld1K C t44 fun t45 =>
  lenK t45 fun t46 =>
  subK .i64 t46 (.int .i64 1) fun t47 =>
  ixK 1 t41 t47 fun t48 =>
  qld1K C t48 fun t49 =>
  ∀ w17 : World, C w17 →
  DrawC [1, 12, 13, 16] [[], [], [], [2], [2, 3], [2, 3, 4], [], [6], [6, 7], [6, 7, 8], [6, 7, 8, 9], [6, 7, 8, 9, 10], [2, 3, 4, 5, 6, 7, 8, 9, 10, 11], [1, 2, 3, 4, 5, 6, 7, 8, 9, 10, 11, 12], [0, 1, 2, 3, 4, 5, 6, 7, 8, 9, 10, 11, 12, 13], [0, 1, 2, 3, 4, 5, 6, 7, 8, 9, 10, 11, 12, 13, 14], [0, 1, 2, 3, 4, 5, 6, 7, 8, 9, 10, 11, 12, 13, 14, 15]] w17.drew (fun M_1 St_1 =>
  nilckK v0 fun t53 =>
  faK 3 t53 fun t54 =>
  sld1 (St_1 5) t54 fun t55 =>
  nilckK v0 fun t57 =>
  faK 3 t57 fun t58 =>
  sld1 (St_1 9) t58 fun t59 =>
  lenK t59 fun t60 =>
  subK .i64 t60 (.int .i64 1) fun t61 =>
  (rowK 3 1 0 [] [] (fun t51 w18 =>
  Mod (M_1 1) w17.drew w18 ∧
  runK Tryd.prog (Instr.sliceAt 43 t55 none (some t61) none) (fun t62 w19 =>
  Mod (M_1 12) w18 w19 ∧
  runK Tryd.prog (Builtin.append_ #[43, 43] 43 [t51, t62].toArray) (fun t63 w20 =>
  Mod (M_1 13) w19 w20 ∧
  nilckK v0 fun t64 =>
  faK 3 t64 fun t65 =>
  st1K t65 t63 (fun w21 =>
  Mod (M_1 16) w20 w21 ∧
  J_1 [t49] w21) w20) w19) w18) w17.drew) ∧
  (runK Tryd.prog (Instr.sliceAt 43 t55 none (some t61) none) (fun t62_1 w22 =>
  Mod (M_1 12) w17.drew w22 ∧
  rowK 3 1 0 [] [] (fun t51_1 w23 =>
  Mod (M_1 1) w22 w23 ∧
  runK Tryd.prog (Builtin.append_ #[43, 43] 43 [t51_1, t62_1].toArray) (fun t63_1 w24 =>
  Mod (M_1 13) w23 w24 ∧
  nilckK v0 fun t64_1 =>
  faK 3 t64_1 fun t65_1 =>
  st1K t65_1 t63_1 (fun w25 =>
  Mod (M_1 16) w24 w25 ∧
  J_1 [t49] w25) w24) w23) w22) w17.drew))))
  (nilckK v0 fun t67 =>
  faK 1 t67 fun t68 =>
  ld1K t68 (fun t69 w26 =>
  lenK t69 fun t70 =>
  nilckK v0 fun t73 =>
  faK 1 t73 fun t74 =>
  ld1K t74 (fun t75 w27 =>
  rowK 53 1 1 [(.slice none 0 0)] [(0, (.slice none 0 0))] (fun t76 w28 =>
  runK Tryd.prog (Builtin.append_ #[62, 62] 62 [t75, t76].toArray) (fun t77 w29 =>
  nilckK v0 fun t78 =>
  faK 1 t78 fun t79 =>
  st1K t79 t77 (fun w30 =>
  nilckK v0 fun t82 =>
  faK 2 t82 fun t83 =>
  ld1K t83 (fun t84 w31 =>
  rowK 3 1 1 [(.int .i64 0)] [(0, (.int .i64 0))] (fun t85 w32 =>
  runK Tryd.prog (Builtin.append_ #[43, 43] 43 [t84, t85].toArray) (fun t86 w33 =>
  nilckK v0 fun t87 =>
  faK 2 t87 fun t88 =>
  st1K t88 t86 (fun w34 =>
  J_1 [t70] w34) w33) w32) w31) w30) w29) w28) w27) w26) w16)) w5))
  (J [t29] w5))) w2))) w1) w
theorem S36_eq (v0 v1 : Value) (K : Cont) (w : World) : S36 v0 v1 K w = D Tryd.prog okf 115 (bodyOf Tryd.f36) (.node [] [] .nil (.node [] [] .nil (.node [] [] (.node [] [] .nil (.node [] [] (.node [] [] .nil .nil) .nil)) (.node [] [] (.node [] [] .nil (.node [] [] (.node [] [] .nil (.node [] [] .nil .nil)) .nil)) (.node [] [] .nil (.cut [7] [(7, 7), (30, 103)] (.node [] [] .nil (.node [] [] (.cut [7] [(7, 7), (32, 88)] (.node [] [] .nil (.node [] [] (.node [] [] .draw (.dt [1, 12, 13, 16] [[], [], [], [2], [2, 3], [2, 3, 4], [], [6], [6, 7], [6, 7, 8], [6, 7, 8, 9], [6, 7, 8, 9, 10], [2, 3, 4, 5, 6, 7, 8, 9, 10, 11], [1, 2, 3, 4, 5, 6, 7, 8, 9, 10, 11, 12], [0, 1, 2, 3, 4, 5, 6, 7, 8, 9, 10, 11, 12, 13], [0, 1, 2, 3, 4, 5, 6, 7, 8, 9, 10, 11, 12, 13, 14], [0, 1, 2, 3, 4, 5, 6, 7, 8, 9, 10, 11, 12, 13, 14, 15]] [[1, 12, 13]] (.op 0 (.op 2 (.op 3 (.op 4 (.op 5 (.op 6 (.op 7 (.op 8 (.op 9 (.op 10 (.op 11 (.br (.op 1 (.op 12 (.op 13 (.op 14 (.op 15 (.op 16 .nil)))))) (.op 12 (.op 1 (.op 13 (.op 14 (.op 15 (.op 16 .nil)))))))))))))))))))) (.node [] [] .nil (.node [] [] .nil .nil)))) (.node [] [] (.dc [5, 7, 9] [[], [0], [0, 1], [0, 1, 2], [], [], [], [5, 6], [0, 1, 2, 3, 4, 5, 6, 7], [0, 1, 2, 3, 4, 5, 6, 7, 8]] [[5, 7]]) .nil)) .nil)) (.node [] [] .nil (.node [] [] .nil .nil)))))))) (retK Tryd.prog [.tmp 4, .tmp 5] K) (nth [v0, v1]) w := by kernel_rfl
theorem S36_ok {v0 v1 : Value} {K : Cont} {w : World} (h : S36 v0 v1 K w) : callK Tryd.prog 36 [v0, v1] K w :=
  callK_of (P := Tryd.prog) (ok := okf) (n := 115) (fn := Tryd.f36) (c := bodyOf Tryd.f36) (rs := [.tmp 4, .tmp 5]) (an := (.node [] [] .nil (.node [] [] .nil (.node [] [] (.node [] [] .nil (.node [] [] (.node [] [] .nil .nil) .nil)) (.node [] [] (.node [] [] .nil (.node [] [] (.node [] [] .nil (.node [] [] .nil .nil)) .nil)) (.node [] [] .nil (.cut [7] [(7, 7), (30, 103)] (.node [] [] .nil (.node [] [] (.cut [7] [(7, 7), (32, 88)] (.node [] [] .nil (.node [] [] (.node [] [] .draw (.dt [1, 12, 13, 16] [[], [], [], [2], [2, 3], [2, 3, 4], [], [6], [6, 7], [6, 7, 8], [6, 7, 8, 9], [6, 7, 8, 9, 10], [2, 3, 4, 5, 6, 7, 8, 9, 10, 11], [1, 2, 3, 4, 5, 6, 7, 8, 9, 10, 11, 12], [0, 1, 2, 3, 4, 5, 6, 7, 8, 9, 10, 11, 12, 13], [0, 1, 2, 3, 4, 5, 6, 7, 8, 9, 10, 11, 12, 13, 14], [0, 1, 2, 3, 4, 5, 6, 7, 8, 9, 10, 11, 12, 13, 14, 15]] [[1, 12, 13]] (.op 0 (.op 2 (.op 3 (.op 4 (.op 5 (.op 6 (.op 7 (.op 8 (.op 9 (.op 10 (.op 11 (.br (.op 1 (.op 12 (.op 13 (.op 14 (.op 15 (.op 16 .nil)))))) (.op 12 (.op 1 (.op 13 (.op 14 (.op 15 (.op 16 .nil)))))))))))))))))))) (.node [] [] .nil (.node [] [] .nil .nil)))) (.node [] [] (.dc [5, 7, 9] [[], [0], [0, 1], [0, 1, 2], [], [], [], [5, 6], [0, 1, 2, 3, 4, 5, 6, 7], [0, 1, 2, 3, 4, 5, 6, 7, 8]] [[5, 7]]) .nil)) .nil)) (.node [] [] .nil (.node [] [] .nil .nil))))))))) good mixed Tryd.func36 (by kernel_rfl) (by kernel_rfl) (by kernel_rfl) (by kernel_rfl) (Eq.mp (S36_eq v0 v1 K w) h)

/-- (*rubric/rubricref07.Table).Has -/
def S35 (v0 v1 : Value) (K : Cont) (w : World) : Prop :=
  eqK .i64 v1 (.int .i64 0) fun t6 =>
  condK t6
  (K (.bool true) w)
  (gtK .i64 v1 (.int .i64 0) fun t9 =>
  condK t9
  (nilckK v0 fun t13 =>
  faK 2 t13 fun t14 =>
  ld1K t14 (fun t15 w1 =>
  lenK t15 fun t16 =>
  leK .i64 v1 t16 fun t17 =>
  condK t17
  (nilckK v0 fun t21 =>
  faK 2 t21 fun t22 =>
  ld1K t22 (fun t23 w2 =>
  subK .i64 v1 (.int .i64 1) fun t25 =>
  ixK 1 t23 t25 fun t26 =>
  ld1K t26 (fun t27 w3 =>
  gtK .i64 t27 (.int .i64 0) fun t28 =>
  K t28 w3) w2) w1)
  (K (.bool false) w1)) w)
  (K (.bool false) w))
theorem S35_eq (v0 v1 : Value) (K : Cont) (w : World) : S35 v0 v1 K w = D Tryd.prog okf 31 (bodyOf Tryd.f35) (.node [] [] .nil (.node [] [] .nil .nil)) (retK Tryd.prog [.tmp 4] K) (nth [v0, v1]) w := by kernel_rfl
theorem S35_ok {v0 v1 : Value} {K : Cont} {w : World} (h : S35 v0 v1 K w) : callK Tryd.prog 35 [v0, v1] K w :=
  callK_of (P := Tryd.prog) (ok := okf) (n := 31) (fn := Tryd.f35) (c := bodyOf Tryd.f35) (rs := [.tmp 4]) (an := (.node [] [] .nil (.node [] [] .nil .nil))) good mixed Tryd.func35 (by kernel_rfl) (by kernel_rfl) (by kernel_rfl) (by kernel_rfl) (Eq.mp (S35_eq v0 v1 K w) h)

/-- (*rubric/rubricref07.Table).Free -/
def S37 (v0 v1 : Value) (K : Cont) (w : World) : Prop :=
  eqK .i64 v1 (.int .i64 0) fun t5 =>
  condK t5
  (nilckK v0 fun t7 =>
  faK 4 t7 fun t8 =>
  ld1K t8 (fun t9 w1 =>
  gtK .i64 t9 (.int .i64 0) fun t10 =>
  condK t10
  (nilckK v0 fun t12 =>
  faK 4 t12 fun t13 =>
  ld1K t13 (fun t14 w2 =>
  subK .i64 t14 (.int .i64 1) fun t15 =>
  nilckK v0 fun t16 =>
  faK 4 t16 fun t17 =>
  st1K t17 t15 (fun w3 =>
  K (.tuple #[]) w3) w2) w1)
  (K (.tuple #[]) w1)) w)
  (nilckK v0 fun t19 =>
  faK 2 t19 fun t20 =>
  ld1K t20 (fun t21 w4 =>
  subK .i64 v1 (.int .i64 1) fun t23 =>
  ixK 1 t21 t23 fun t24 =>
  ld1K t24 (fun t25 w5 =>
  subK .i64 t25 (.int .i64 1) fun t26 =>
  ixK 1 t21 t23 fun t27 =>
  st1K t27 t26 (fun w6 =>
  nilckK v0 fun t29 =>
  faK 2 t29 fun t30 =>
  ld1K t30 (fun t31 w7 =>
  subK .i64 v1 (.int .i64 1) fun t33 =>
  ixK 1 t31 t33 fun t34 =>
  ld1K t34 (fun t35 w8 =>
  eqK .i64 t35 (.int .i64 0) fun t36 =>
  condK t36
  (nilckK v0 fun t39 =>
  faK 3 t39 fun t40 =>
  ld1K t40 (fun t41 w9 =>
  subK .i64 v1 (.int .i64 1) fun t43 =>
  rowK 3 1 1 [(.int .i64 0)] [(0, t43)] (fun t44 w10 =>
  runK Tryd.prog (Builtin.append_ #[43, 43] 43 [t41, t44].toArray) (fun t45 w11 =>
  nilckK v0 fun t46 =>
  faK 3 t46 fun t47 =>
  st1K t47 t45 (fun w12 =>
  K (.tuple #[]) w12) w11) w10) w9) w8)
  (K (.tuple #[]) w8)) w7) w6) w5) w4) w)
theorem S37_eq (v0 v1 : Value) (K : Cont) (w : World) : S37 v0 v1 K w = D Tryd.prog okf 48 (bodyOf Tryd.f37) (.node [] [] (.node [] [] .nil (.node [] [] (.node [] [] (.node [] [] .nil (.node [] [] .nil .nil)) .nil) .nil)) (.node [] [] .nil (.node [] [] .nil (.node [] [] .nil .nil)))) (retK Tryd.prog [] K) (nth [v0, v1]) w := by kernel_rfl
theorem S37_ok {v0 v1 : Value} {K : Cont} {w : World} (h : S37 v0 v1 K w) : callK Tryd.prog 37 [v0, v1] K w :=
  callK_of (P := Tryd.prog) (ok := okf) (n := 48) (fn := Tryd.f37) (c := bodyOf Tryd.f37) (rs := []) (an := (.node [] [] (.node [] [] .nil (.node [] [] (.node [] [] (.node [] [] .nil (.node [] [] .nil .nil)) .nil) .nil)) (.node [] [] .nil (.node [] [] .nil (.node [] [] .nil .nil))))) good mixed Tryd.func37 (by kernel_rfl) (by kernel_rfl) (by kernel_rfl) (by kernel_rfl) (Eq.mp (S37_eq v0 v1 K w) h)

/-- (*rubric/rubricref07.Table).Hold -/
def S38 (v0 v1 : Value) (K : Cont) (w : World) : Prop :=
  eqK .i64 v1 (.int .i64 0) fun t5 =>
  condK t5
  (nilckK v0 fun t7 =>
  faK 4 t7 fun t8 =>
  ld1K t8 (fun t9 w1 =>
  addK .i64 t9 (.int .i64 1) fun t10 =>
  nilckK v0 fun t11 =>
  faK 4 t11 fun t12 =>
  st1K t12 t10 (fun w2 =>
  K (.tuple #[]) w2) w1) w)
  (nilckK v0 fun t14 =>
  faK 2 t14 fun t15 =>
  ld1K t15 (fun t16 w3 =>
  subK .i64 v1 (.int .i64 1) fun t18 =>
  ixK 1 t16 t18 fun t19 =>
  ld1K t19 (fun t20 w4 =>
  addK .i64 t20 (.int .i64 1) fun t21 =>
  ixK 1 t16 t18 fun t22 =>
  st1K t22 t21 (fun w5 =>
  K (.tuple #[]) w5) w4) w3) w)
theorem S38_eq (v0 v1 : Value) (K : Cont) (w : World) : S38 v0 v1 K w = D Tryd.prog okf 23 (bodyOf Tryd.f38) (.node [] [] .nil (.node [] [] .nil .nil)) (retK Tryd.prog [] K) (nth [v0, v1]) w := by kernel_rfl
theorem S38_ok {v0 v1 : Value} {K : Cont} {w : World} (h : S38 v0 v1 K w) : callK Tryd.prog 38 [v0, v1] K w :=
  callK_of (P := Tryd.prog) (ok := okf) (n := 23) (fn := Tryd.f38) (c := bodyOf Tryd.f38) (rs := []) (an := (.node [] [] .nil (.node [] [] .nil .nil))) good mixed Tryd.func38 (by kernel_rfl) (by kernel_rfl) (by kernel_rfl) (by kernel_rfl) (Eq.mp (S38_eq v0 v1 K w) h)

end Go.Proofs.YtmfplfaeibehiaaDoor

namespace Go.Proofs.YtmfplfaeibehiaaDoor
open Go Go.K

/-- the five cells -/
abbrev refL (kv sv hv lv : Value) (em : Int) : List Value := [kv, sv, hv, lv, .int .i64 em]
/-- the document's table at block b. F: all its blocks; C: those of its sets, that are only read -/
structure RefR (F C : Nat → Prop) (W : World) (b : Nat) (kv sv hv lv : Value) (ss : List (List Attr)) (hs ls : List Int) (em : Int) : Prop where
  cells : ∀ j v, (refL kv sv hv lv em)[j]? = some v → W.cell? ⟨b, j, none⟩ = some v
  live : ∀ j, j < 5 → Live W ⟨b, j, none⟩
  sets : OwnR 0 53 1 (RSetV C) W sv ss
  helds : OwnR 0 3 1 RNum W hv hs
  looses : OwnR 0 3 1 RNum W lv ls
  fb : F b ∧ ¬ C b
  sF : ∀ g, sv.ownBlock = some g → F g ∧ ¬ C g ∧ g ≠ b
  hF : ∀ g, hv.ownBlock = some g → F g ∧ ¬ C g ∧ g ≠ b ∧ sv.ownBlock ≠ some g
  lF : ∀ g, lv.ownBlock = some g → F g ∧ ¬ C g ∧ g ≠ b ∧ sv.ownBlock ≠ some g ∧ hv.ownBlock ≠ some g
  cf : ∀ x, C x → F x ∧ x < W.heap.size
section
variable {F C M : Nat → Prop} {W W' : World} {b : Nat} {kv sv hv lv : Value} {ss : List (List Attr)} {hs ls : List Int} {em : Int}
theorem RefR.lt (h : RefR F C W b kv sv hv lv ss hs ls em) : b < W.heap.size := World.block_lt_of_cell? W _ (h.cells 4 _ rfl)
theorem RefR.mod (h : RefR F C W b kv sv hv lv ss hs ls em) (hm : Mod M W W') (hM : ∀ x, F x → ¬ M x) : RefR F C W' b kv sv hv lv ss hs ls em :=
  have hC : ∀ x, x < W.heap.size → C x → ¬ M x := fun x _ hx => hM x (h.cf x hx).1
  ⟨fun j v hv => hm.cell (h.cells j v hv) (hM b h.fb.1), fun j hj => (h.live j hj).mod hm (hM b h.fb.1), OwnR.mod h.sets hm (fun g hg => hM g (h.sF g hg).1) fun r x _ hx => hx.mod hm hC, OwnR.mod h.helds hm (fun g hg => hM g (h.hF g hg).1) fun _ _ _ h => h, OwnR.mod h.looses hm (fun g hg => hM g (h.lF g hg).1) fun _ _ _ h => h,
    h.fb, h.sF, h.hF, h.lF, fun x hx => ⟨(h.cf x hx).1, Nat.lt_of_lt_of_le (h.cf x hx).2 hm.size⟩⟩
theorem RefR.grow (h : RefR F C W b kv sv hv lv ss hs ls em) (g : Grow W W') : RefR F C W' b kv sv hv lv ss hs ls em := h.mod g fun _ _ h => h
/-- a store into the five cells: how often the empty set is held -/
theorem RefR.setEm {em' : Int} {K : World → Prop} (h : RefR F C W b kv sv hv lv ss hs ls em)
    (hK : ∀ W', RefR F C W' b kv sv hv lv ss hs ls em' → Mod (fun x => x = b) W W' → K W') : st1K (.pointer (some ⟨b, 4, none⟩)) (.int .i64 em') K W := by
  refine box_store h.cells (fun j hj => h.live j hj) (q := 4) (show 4 < 5 by decide) rfl rfl fun W' hm hc hl => ?_
  have hC : ∀ x, x < W.heap.size → C x → ¬ x = b := fun x _ hx e => h.fb.2 (e ▸ hx)
  exact hK W' ⟨hc, fun j hj => hl j hj, OwnR.mod h.sets hm (fun g hg => (h.sF g hg).2.2) fun r x _ hx => hx.mod hm hC, OwnR.mod h.helds hm (fun g hg => (h.hF g hg).2.2.1) fun _ _ _ h => h, OwnR.mod h.looses hm (fun g hg => (h.lF g hg).2.2.1) fun _ _ _ h => h,
    h.fb, h.sF, h.hF, h.lF, fun x hx => ⟨(h.cf x hx).1, Nat.lt_of_lt_of_le (h.cf x hx).2 hm.size⟩⟩ hm
/-- a store into the five cells: another row -/
theorem RefR.setSe {F' : Nat → Prop} {sv' : Value} {ss' : List (List Attr)} {K : World → Prop} (h : RefR F C W b kv sv hv lv ss hs ls em) (hm : Mod M W W') (hMo : ∀ x, M x → sv.ownBlock = some x) (hF : ∀ x, F x → F' x)
    (ho : OwnR 0 53 1 (RSetV C) W' sv' ss') (hn : ∀ g, sv'.ownBlock = some g → sv.ownBlock = some g ∨ W.heap.size ≤ g ∧ F' g)
    (hK : ∀ W'', RefR F' C W'' b kv sv' hv lv ss' hs ls em → Mod (fun x => x = b) W' W'' → K W'') : st1K (.pointer (some ⟨b, 1, none⟩)) sv' K W' := by
  have hbM : ¬ M b := fun e => (h.sF b (hMo b e)).2.2 rfl
  have hCM : ∀ x, x < W.heap.size → C x → ¬ M x := fun x _ hx e => (h.sF x (hMo x e)).2.1 hx
  refine box_store (vs := refL kv sv hv lv em) (fun j v hv => hm.cell (h.cells j v hv) hbM) (fun j hj => (h.live j hj).mod hm hbM) (q := 1) (show 1 < 5 by decide) ho.one.1 ho.one.2 fun W'' hm' hc hl => ?_
  have hC' : ∀ x, x < W'.heap.size → C x → ¬ x = b := fun x _ hx e => h.fb.2 (e ▸ hx)
  have hbs := h.lt
  have os := OwnR.ownB h.sets
  have oh := OwnR.ownB h.helds
  have ol := OwnR.ownB h.looses
  have nb : ∀ g, sv'.ownBlock = some g → F' g ∧ ¬ C g ∧ g ≠ b := fun g hg => by
    rcases hn g hg with e | ⟨e, e'⟩
    · have := h.sF g e; exact ⟨hF _ this.1, this.2.1, this.2.2⟩
    · exact ⟨e', fun hc => by have := (h.cf g hc).2; omega, fun e2 => by omega⟩
  exact hK W'' ⟨hc, fun j hj => hl j hj, OwnR.mod ho hm' (fun g hg => (nb g hg).2.2) fun r x _ hx => hx.mod hm' hC', OwnR.mod (OwnR.mod (R' := RNum) h.helds hm (fun g hg e => (h.hF g hg).2.2.2 (hMo g e)) fun _ _ _ h => h) hm' (fun g hg => (h.hF g hg).2.2.1) fun _ _ _ h => h, OwnR.mod (OwnR.mod (R' := RNum) h.looses hm (fun g hg e => (h.lF g hg).2.2.2.1 (hMo g e)) fun _ _ _ h => h) hm' (fun g hg => (h.lF g hg).2.2.1) fun _ _ _ h => h,
    ⟨hF _ h.fb.1, h.fb.2⟩, nb, fun g hg => ⟨hF _ (h.hF g hg).1, (h.hF g hg).2.1, (h.hF g hg).2.2.1, fun e => by
      rcases hn g e with e1 | ⟨e1, _⟩
      · exact (h.hF g hg).2.2.2 e1
      · have := (oh g hg).2; omega⟩, fun g hg => ⟨hF _ (h.lF g hg).1, (h.lF g hg).2.1, (h.lF g hg).2.2.1, (fun e => by
      rcases hn g e with e1 | ⟨e1, _⟩
      · exact (h.lF g hg).2.2.2.1 e1
      · have := (ol g hg).2; omega), (h.lF g hg).2.2.2.2⟩,
    fun x hx => ⟨hF _ (h.cf x hx).1, Nat.lt_of_lt_of_le (h.cf x hx).2 (Nat.le_trans hm.size hm'.size)⟩⟩ hm'
/-- a store into the five cells: another row -/
theorem RefR.setHe {F' : Nat → Prop} {hv' : Value} {hs' : List Int} {K : World → Prop} (h : RefR F C W b kv sv hv lv ss hs ls em) (hm : Mod M W W') (hMo : ∀ x, M x → hv.ownBlock = some x) (hF : ∀ x, F x → F' x)
    (ho : OwnR 0 3 1 RNum W' hv' hs') (hn : ∀ g, hv'.ownBlock = some g → hv.ownBlock = some g ∨ W.heap.size ≤ g ∧ F' g)
    (hK : ∀ W'', RefR F' C W'' b kv sv hv' lv ss hs' ls em → Mod (fun x => x = b) W' W'' → K W'') : st1K (.pointer (some ⟨b, 2, none⟩)) hv' K W' := by
  have hbM : ¬ M b := fun e => (h.hF b (hMo b e)).2.2.1 rfl
  have hCM : ∀ x, x < W.heap.size → C x → ¬ M x := fun x _ hx e => (h.hF x (hMo x e)).2.1 hx
  refine box_store (vs := refL kv sv hv lv em) (fun j v hv => hm.cell (h.cells j v hv) hbM) (fun j hj => (h.live j hj).mod hm hbM) (q := 2) (show 2 < 5 by decide) ho.one.1 ho.one.2 fun W'' hm' hc hl => ?_
  have hC' : ∀ x, x < W'.heap.size → C x → ¬ x = b := fun x _ hx e => h.fb.2 (e ▸ hx)
  have hbs := h.lt
  have os := OwnR.ownB h.sets
  have oh := OwnR.ownB h.helds
  have ol := OwnR.ownB h.looses
  have nb : ∀ g, hv'.ownBlock = some g → F' g ∧ ¬ C g ∧ g ≠ b := fun g hg => by
    rcases hn g hg with e | ⟨e, e'⟩
    · have := h.hF g e; exact ⟨hF _ this.1, this.2.1, this.2.2.1⟩
    · exact ⟨e', fun hc => by have := (h.cf g hc).2; omega, fun e2 => by omega⟩
  exact hK W'' ⟨hc, fun j hj => hl j hj, OwnR.mod (OwnR.mod (R' := RSetV C) h.sets hm (fun g hg e => (h.hF g (hMo g e)).2.2.2 hg) fun r x _ hx => hx.mod hm hCM) hm' (fun g hg => (h.sF g hg).2.2) fun r x _ hx => hx.mod hm' hC', OwnR.mod ho hm' (fun g hg => (nb g hg).2.2) fun _ _ _ h => h, OwnR.mod (OwnR.mod (R' := RNum) h.looses hm (fun g hg e => (h.lF g hg).2.2.2.2 (hMo g e)) fun _ _ _ h => h) hm' (fun g hg => (h.lF g hg).2.2.1) fun _ _ _ h => h,
    ⟨hF _ h.fb.1, h.fb.2⟩, fun g hg => ⟨hF _ (h.sF g hg).1, (h.sF g hg).2⟩, fun g hg => ⟨(nb g hg).1, (nb g hg).2.1, (nb g hg).2.2, fun e => by
      rcases hn g hg with e1 | ⟨e1, _⟩
      · exact (h.hF g e1).2.2.2 e
      · have := (os g e).2; omega⟩, fun g hg => ⟨hF _ (h.lF g hg).1, (h.lF g hg).2.1, (h.lF g hg).2.2.1, (h.lF g hg).2.2.2.1, fun e => by
      rcases hn g e with e1 | ⟨e1, _⟩
      · exact (h.lF g hg).2.2.2.2 e1
      · have := (ol g hg).2; omega⟩,
    fun x hx => ⟨hF _ (h.cf x hx).1, Nat.lt_of_lt_of_le (h.cf x hx).2 (Nat.le_trans hm.size hm'.size)⟩⟩ hm'
/-- a store into the five cells: another row -/
theorem RefR.setLo {F' : Nat → Prop} {lv' : Value} {ls' : List Int} {K : World → Prop} (h : RefR F C W b kv sv hv lv ss hs ls em) (hm : Mod M W W') (hMo : ∀ x, M x → lv.ownBlock = some x) (hF : ∀ x, F x → F' x)
    (ho : OwnR 0 3 1 RNum W' lv' ls') (hn : ∀ g, lv'.ownBlock = some g → lv.ownBlock = some g ∨ W.heap.size ≤ g ∧ F' g)
    (hK : ∀ W'', RefR F' C W'' b kv sv hv lv' ss hs ls' em → Mod (fun x => x = b) W' W'' → K W'') : st1K (.pointer (some ⟨b, 3, none⟩)) lv' K W' := by
  have hbM : ¬ M b := fun e => (h.lF b (hMo b e)).2.2.1 rfl
  have hCM : ∀ x, x < W.heap.size → C x → ¬ M x := fun x _ hx e => (h.lF x (hMo x e)).2.1 hx
  refine box_store (vs := refL kv sv hv lv em) (fun j v hv => hm.cell (h.cells j v hv) hbM) (fun j hj => (h.live j hj).mod hm hbM) (q := 3) (show 3 < 5 by decide) ho.one.1 ho.one.2 fun W'' hm' hc hl => ?_
  have hC' : ∀ x, x < W'.heap.size → C x → ¬ x = b := fun x _ hx e => h.fb.2 (e ▸ hx)
  have hbs := h.lt
  have os := OwnR.ownB h.sets
  have oh := OwnR.ownB h.helds
  have ol := OwnR.ownB h.looses
  have nb : ∀ g, lv'.ownBlock = some g → F' g ∧ ¬ C g ∧ g ≠ b := fun g hg => by
    rcases hn g hg with e | ⟨e, e'⟩
    · have := h.lF g e; exact ⟨hF _ this.1, this.2.1, this.2.2.1⟩
    · exact ⟨e', fun hc => by have := (h.cf g hc).2; omega, fun e2 => by omega⟩
  exact hK W'' ⟨hc, fun j hj => hl j hj, OwnR.mod (OwnR.mod (R' := RSetV C) h.sets hm (fun g hg e => (h.lF g (hMo g e)).2.2.2.1 hg) fun r x _ hx => hx.mod hm hCM) hm' (fun g hg => (h.sF g hg).2.2) fun r x _ hx => hx.mod hm' hC', OwnR.mod (OwnR.mod (R' := RNum) h.helds hm (fun g hg e => (h.lF g (hMo g e)).2.2.2.2 hg) fun _ _ _ h => h) hm' (fun g hg => (h.hF g hg).2.2.1) fun _ _ _ h => h, OwnR.mod ho hm' (fun g hg => (nb g hg).2.2) fun _ _ _ h => h,
    ⟨hF _ h.fb.1, h.fb.2⟩, fun g hg => ⟨hF _ (h.sF g hg).1, (h.sF g hg).2⟩, fun g hg => ⟨hF _ (h.hF g hg).1, (h.hF g hg).2⟩, fun g hg => ⟨(nb g hg).1, (nb g hg).2.1, (nb g hg).2.2, (fun e => by
      rcases hn g hg with e1 | ⟨e1, _⟩
      · exact (h.lF g e1).2.2.2.1 e
      · have := (os g e).2; omega), fun e => by
      rcases hn g hg with e1 | ⟨e1, _⟩
      · exact (h.lF g e1).2.2.2.2 e
      · have := (oh g e).2; omega⟩,
    fun x hx => ⟨hF _ (h.cf x hx).1, Nat.lt_of_lt_of_le (h.cf x hx).2 (Nat.le_trans hm.size hm'.size)⟩⟩ hm'
/-- how often a place is held -/
theorem RefR.setHeld {K : World → Prop} {a : Addr} {n c i : Nat} {x : Int} (h : RefR F C W b kv sv hv lv ss hs ls em) (e : hv = .slice (some a) n c) (hi : i < hs.length)
    (hK : ∀ W', RefR F C W' b kv sv hv lv ss (hs.set i x) ls em → Mod F W W' → K W') : st1K (.pointer (some (a.add (i * 1 + 0)))) (.int .i64 x) K W := by
  have hh := h.helds
  rw [e] at hh
  have hob : hv.ownBlock = some a.block := by rw [e]; rfl
  obtain ⟨f1, f2, f3, f4⟩ := h.hF _ hob
  refine row_store (x' := x) hh hi (by decide) rfl rfl (fun _ _ _ _ h => h) (fun _ _ r hr => by rw [show r = [.int .i64 hs[i]] from hr]; rfl) fun W' ho hm => ?_
  have hC : ∀ x, x < W.heap.size → C x → ¬ x = a.block := fun x _ hx e => f2 (e ▸ hx)
  refine hK W' ⟨fun j v hv => hm.cell (h.cells j v hv) fun e => f3 e.symm, fun j hj => (h.live j hj).mod hm fun e => f3 e.symm, OwnR.mod h.sets hm (fun g hg e => f4 (by rw [← e]; exact hg)) fun r x _ hx => hx.mod hm hC, by rw [e]; exact ho, OwnR.mod h.looses hm (fun g hg e => (h.lF g hg).2.2.2.2 (by rw [hob, e])) fun _ _ _ h => h,
    h.fb, h.sF, h.hF, h.lF, fun x hx => ⟨(h.cf x hx).1, Nat.lt_of_lt_of_le (h.cf x hx).2 hm.size⟩⟩ (hm.mono fun x _ e => by rw [e]; exact f1)
/-- a place's set: a row of its own -/
theorem RefR.setSet {K : World → Prop} {a : Addr} {n c i B : Nat} {cv : Value} {s : List Attr} (h : RefR F C W b kv sv hv lv ss hs ls em) (e : sv = .slice (some a) n c) (hi : i < ss.length) (hB : ∀ x, F x → x < B) (hs' : OSet B W cv s)
    (hK : ∀ W', RefR (fun x => F x ∨ cv.ownBlock = some x) (fun x => C x ∨ cv.ownBlock = some x) W' b kv sv hv lv (ss.set i s) hs ls em → Mod (fun x => sv.ownBlock = some x) W W' → K W') : st1K (.pointer (some (a.add (i * 1 + 0)))) cv K W := by
  have hob : sv.ownBlock = some a.block := by rw [e]; rfl
  obtain ⟨f1, f2, f3⟩ := h.sF _ hob
  have hso := OwnR.ownB hs'
  have nF : ∀ x, cv.ownBlock = some x → ¬ F x := fun x hx hF => by have := (hso x hx).1; have := hB x hF; omega
  have hsets : OwnR 0 53 1 (RSetV fun x => C x ∨ cv.ownBlock = some x) W sv ss := OwnR.mod h.sets (Mod.refl (fun _ => False) _) (fun _ _ h => h) fun r x _ ⟨v, e, hv⟩ => ⟨v, e, hv.sub (fun _ _ h => .inl h) (by decide) fun _ _ h => h⟩
  rw [e] at hsets
  have hm0 : Mod (fun x => x = a.block) W (W.setCell (a.add (i * 1 + 0)) cv) := Mod.setCell _ _ _ (by rw [add_block])
  have hC : ∀ x, x < W.heap.size → (C x ∨ cv.ownBlock = some x) → ¬ x = a.block := fun x _ hx e => by
    subst e
    rcases hx with hx | hx
    · exact f2 hx
    · exact nF _ hx f1
  obtain ⟨⟨u, hu⟩, hf, ho, hm⟩ := OwnR.store (R' := RSetV fun x => C x ∨ cv.ownBlock = some x) (u := cv) (x' := s) (j := 0) hsets hi (by decide) hs'.one.1 (fun r y _ hr => hr.mod hm0 hC) (fun r hr => by
    obtain ⟨s', rfl, _⟩ := hr
    refine ⟨cv, rfl, ?_⟩
    exact (OwnR.sl hs').mod hm0 (fun x _ hx e => hC x (hso x hx.2).2 (.inr hx.2) e) (by decide) (fun _ _ h => h) |>.sub (fun x _ hx => .inr hx.2) (by decide) fun _ _ h => h)
  refine st1K_i hs'.one.1 hs'.one.2 hu hf (hK _ ⟨fun j v hv => hm.cell (h.cells j v hv) fun e => f3 e.symm, fun j hj => (h.live j hj).mod hm fun e => f3 e.symm, by rw [e]; exact ho, OwnR.mod h.helds hm (fun g hg e => (h.hF g hg).2.2.2 (by rw [hob, e])) fun _ _ _ h => h, OwnR.mod h.looses hm (fun g hg e => (h.lF g hg).2.2.2.1 (by rw [hob, e])) fun _ _ _ h => h,
    ⟨.inl h.fb.1, fun e => e.elim h.fb.2 fun e => nF _ e h.fb.1⟩, fun g hg => ⟨.inl (h.sF g hg).1, fun e => e.elim (h.sF g hg).2.1 fun e => nF _ e (h.sF g hg).1, (h.sF g hg).2.2⟩, fun g hg => ⟨.inl (h.hF g hg).1, fun e => e.elim (h.hF g hg).2.1 fun e => nF _ e (h.hF g hg).1, (h.hF g hg).2.2⟩, fun g hg => ⟨.inl (h.lF g hg).1, fun e => e.elim (h.lF g hg).2.1 fun e => nF _ e (h.lF g hg).1, (h.lF g hg).2.2⟩,
    fun x hx => hx.elim (fun hx => ⟨.inl (h.cf x hx).1, Nat.lt_of_lt_of_le (h.cf x hx).2 hm.size⟩) fun hx => ⟨.inr hx, Nat.lt_of_lt_of_le (hso x hx).2 hm.size⟩⟩ (hm.mono fun x _ e => by rw [e]; exact hob))
/-- has some set this id? -/
def hasR (hs : List Int) (id : Int) : Bool := decide (id = 0) || decide (0 < id) && (match hs[(id - 1).toNat]? with | some h => decide (0 < h) | none => false)
theorem rhas_ok {id : Int} (h : RefR F C W b kv sv hv lv ss hs ls em) (hl : hs.length ≤ 1099511627776) (h1 : id ≤ 9223372036854775807) :
    callK Tryd.prog 35 [.pointer (some ⟨b, 0, none⟩), .int .i64 id] (fun v' w' => v' = .bool (hasR hs id) ∧ w' = W) W := by
  apply S35_ok
  unfold S35
  obtain ⟨ha, hc, ehv, _⟩ := h.helds.shape
  rw [eqK_i]
  refine condK_p (fun e => ⟨by rw [hasR, decide_eq_true e]; rfl, rfl⟩) fun h0 => ?_
  rw [gtK_i]
  refine condK_p (fun hp => ?_) fun hn => ⟨by rw [hasR, decide_eq_false h0, decide_eq_false (show ¬ 0 < id by omega)]; rfl, rfl⟩
  refine nilckK_s ?_
  rw [faK_i, addr0]
  refine ld1K_i (h.cells 2 _ rfl) ?_
  rw [ehv, lenK_i, leK_i]
  refine condK_p (fun hle => ?_) fun hgt => ⟨by rw [hasR, decide_eq_false h0, List.getElem?_eq_none (by omega)]; simp, rfl⟩
  refine nilckK_s ?_
  rw [faK_i, addr0]
  refine ld1K_i (h.cells 2 _ rfl) ?_
  rw [ehv, subK_i, wrap64 (by omega) (by omega)]
  obtain ⟨i, rfl⟩ : ∃ i : Nat, id = (i : Int) + 1 := ⟨(id - 1).toNat, by omega⟩
  have hi : i < hs.length := by omega
  have hsl := h.helds.sl
  rw [ehv] at hsl
  obtain ⟨p, r, rfl, _, hr, hcc, hre⟩ := hsl.get hi
  rw [show ((i : Int) + 1 - 1) = (i : Int) by omega]
  refine ixK_n hi (ld1K_i (hcc 0 _ (by rw [show r = [.int .i64 hs[i]] from hre]; rfl)) ?_)
  rw [gtK_i]
  refine ⟨?_, rfl⟩
  rw [hasR, decide_eq_false h0, decide_eq_true hp, show ((i : Int) + 1 - 1).toNat = i by omega, List.getElem?_eq_getElem hi]
  simp
/-- the place of a set -/
theorem rfind_ok {S : Nat → Prop} {v : Value} {l : List Attr} (h : RefR F C W b kv sv hv lv ss hs ls em) (hl : ss.length ≤ 1099511627776) (hlen : hs.length = ss.length) (hv' : RSet S W v l) :
    callK Tryd.prog 55 [.pointer (some ⟨b, 0, none⟩), v] (fun v' w' => Grow W w' ∧ ((∃ i : Nat, v' = .int .i64 i ∧ ss[i]? = some l ∧ ∃ x, hs[i]? = some x ∧ 0 < x) ∨ (v' = .int .i64 (-1) ∧ ∀ (i : Nat) (x : Int), ss[i]? = some l → hs[i]? = some x → ¬ 0 < x))) W := by
  apply S55_ok
  unfold S55
  obtain ⟨sa, sc, esv, _⟩ := h.sets.shape
  obtain ⟨ha, hc, ehv, _⟩ := h.helds.shape
  refine LoopK_i (fun vs W1 => ∃ i : Nat, i ≤ ss.length ∧ vs = [.int .i64 i] ∧ Grow W W1 ∧ ∀ (j : Nat) (x : Int), j < i → ss[j]? = some l → hs[j]? = some x → ¬ 0 < x) (fun vs _ => ss.length - iOf vs 0) ⟨0, Nat.zero_le _, rfl, Mod.refl _ _, fun _ _ h => by omega⟩ ?_
  rintro vs W1 ⟨i, hi, rfl, g, hno⟩ _
  have hR := h.grow g
  rw [nth_z, List.headD_cons]
  refine nilckK_s ?_
  rw [faK_i, addr0]
  refine ld1K_i (hR.cells 1 _ rfl) ?_
  rw [esv, lenK_i, ltK_i]
  refine condK_p (fun hlt => ?_) fun hge => ⟨g, .inr ⟨rfl, fun j x h1 h2 => hno j x (by have := (List.getElem?_eq_some_iff.1 h1).1; omega) h1 h2⟩⟩
  have hlt' : i < ss.length := by omega
  have hlt2 : i < hs.length := by omega
  refine nilckK_s ?_
  rw [faK_i, addr0]
  refine ld1K_i (hR.cells 2 _ rfl) ?_
  have hsl := hR.helds.sl
  rw [ehv] at hsl ⊢
  obtain ⟨p, r, rfl, _, hr, hcc, hre⟩ := hsl.get hlt2
  refine ixK_n hlt2 (ld1K_i (hcc 0 _ (by rw [show r = [.int .i64 hs[i]] from hre]; rfl)) ?_)
  rw [gtK_i]
  have next : ∀ {W2 : World}, Grow W W2 → (ss[i]? = some l → ∀ x, hs[i]? = some x → ¬ 0 < x) → addK .i64 (.int .i64 (i : Int)) (.int .i64 1) fun t => (∃ j : Nat, j ≤ ss.length ∧ [t] = [.int .i64 (j : Int)] ∧ Grow W W2 ∧ ∀ (k : Nat) (x : Int), k < j → ss[k]? = some l → hs[k]? = some x → ¬ 0 < x) ∧ ss.length - iOf [t] 0 < ss.length - iOf [.int .i64 (i : Int)] 0 := by
    intro W2 g2 hn
    rw [addK_i, loop_step (by omega)]
    refine ⟨⟨i + 1, hlt', rfl, g2, fun k x hk h1 h2 => ?_⟩, by rw [iOf0, iOf0]; omega⟩
    rcases Nat.lt_or_ge k i with hk' | hk'
    · exact hno k x hk' h1 h2
    · obtain rfl : k = i := by omega
      exact hn h1 x h2
  refine condK_p (fun hpos => ?_) fun hz => next g fun _ x hx => by rw [List.getElem?_eq_getElem hlt2] at hx; cases hx; exact hz
  refine nilckK_s ?_
  rw [faK_i, addr0]
  refine ld1K_i (hR.cells 1 _ rfl) ?_
  have hss := hR.sets.sl
  rw [esv] at hss ⊢
  obtain ⟨q, r', rfl, _, hr', hcc', hre'⟩ := hss.get hlt'
  obtain ⟨u, rfl, hu⟩ := hre'
  refine ixK_n hlt' (ld1K_i (hcc' 0 _ rfl) ?_)
  refine callK_mono (rsame_set hu (hv'.grow g (by decide) fun _ _ h => h)) ?_
  rintro _ W2 ⟨rfl, g2⟩
  refine condK_p (fun he => ⟨g.trans g2, .inl ⟨i, rfl, by rw [List.getElem?_eq_getElem hlt', he], _, List.getElem?_eq_getElem hlt2, hpos⟩⟩) fun hne => next (g.trans g2) fun h1 => ?_
  rw [List.getElem?_eq_getElem hlt'] at h1
  cases h1
  exact absurd rfl hne
end
end Go.Proofs.YtmfplfaeibehiaaDoor

namespace Go.Proofs.YtmfplfaeibehiaaDoor
open Go Go.K

structure MkS where
  done : List Dop
  ins : List Dop
  gone : Int
def MkS.z : MkS := ⟨[], [], 0⟩
def gapL (ins : List Dop) (gone : Int) : List Dop := if 0 < gone then ins ++ [⟨3, gone, [], [], []⟩] else ins
def putS (d : List Dop) (n : Int) (p : List Chg) : List Dop :=
  match d.getLast? with
  | some o => if o.kind = 1 ∧ o.patch = p then d.set (d.length - 1) ⟨o.kind, IntKind.i64.wrap (o.n + n), o.runes, o.set, o.patch⟩ else d ++ [⟨1, n, [], [], p⟩]
  | none => d ++ [⟨1, n, [], [], p⟩]
def retS (s : MkS) (n : Int) (p : List Chg) : MkS := if n < 1 then s else ⟨putS (s.done ++ gapL s.ins s.gone) n p, [], 0⟩
def addI (ins : List Dop) (rs : List Int) (set : List Attr) : List Dop :=
  match ins.getLast? with
  | some o => if o.set = set then ins.set (ins.length - 1) ⟨o.kind, o.n, o.runes ++ rs, o.set, o.patch⟩ else ins ++ [⟨2, 0, rs, set, []⟩]
  | none => ins ++ [⟨2, 0, rs, set, []⟩]
def insS (s : MkS) (rs : List Int) (set : List Attr) : MkS := if rs = [] then s else ⟨s.done, addI s.ins rs set, s.gone⟩
def delS (s : MkS) (n : Int) : MkS := ⟨s.done, s.ins, IntKind.i64.wrap (s.gone + maxI n 0)⟩
def stepS (s : MkS) (o : Dop) : MkS := if o.kind = 1 then retS s o.n o.patch else if o.kind = 2 then insS s o.runes o.set else delS s o.n
def trimL (l : List Dop) : List Dop := match l.getLast? with | some o => if o.kind = 1 ∧ o.patch = [] then l.dropLast else l | none => l
def opsS (s : MkS) : List Dop := trimL (s.done ++ gapL s.ins s.gone)
def runS (x : List Dop) : MkS := x.foldl stepS MkS.z
def normB (x : List Dop) : List Dop := opsS (runS x)

/-! ### the document's -/
def rgapF (a : List Dop × Int) (o : Dop) : List Dop × Int :=
  if o.kind = 3 then (a.1, IntKind.i64.wrap (a.2 + o.n)) else
  match a.1.getLast? with
  | some q => if q.set = o.set then (a.1.set (a.1.length - 1) ⟨q.kind, q.n, q.runes ++ o.runes, q.set, q.patch⟩, a.2) else (a.1 ++ [o], a.2)
  | none => (a.1 ++ [o], a.2)
def rgap (x : List Dop) : List Dop := gapL (x.foldl rgapF ([], 0)).1 (x.foldl rgapF ([], 0)).2
def rput (d : List Dop) (o : Dop) : List Dop :=
  match d.getLast? with
  | some q => if q.kind = 1 ∧ q.patch = o.patch then d.set (d.length - 1) ⟨q.kind, IntKind.i64.wrap (q.n + o.n), q.runes, q.set, q.patch⟩ else d ++ [o]
  | none => d ++ [o]
def rofF (a : List Dop × List Dop) (o : Dop) : List Dop × List Dop := if o.kind = 1 then (rput (a.1 ++ rgap a.2) o, []) else (a.1, a.2 ++ [o])
def rof (x : List Dop) : List Dop := trimL ((x.foldl rofF ([], [])).1 ++ rgap (x.foldl rofF ([], [])).2)

/-- an op's right form -/
def Form1 (o : Dop) : Prop := (o.kind = 1 ∧ o.runes = [] ∧ o.set = [] ∧ 1 ≤ o.n ∧ o.n ≤ 536870912) ∨ (o.kind = 3 ∧ o.runes = [] ∧ o.set = [] ∧ o.patch = [] ∧ 1 ≤ o.n ∧ o.n ≤ 536870912) ∨ (o.kind = 2 ∧ o.n = 0 ∧ o.patch = [] ∧ o.runes ≠ [])
theorem norm_rel (x : List Dop) (h : ∀ o ∈ x, Form1 o) : (runS x).done = (x.foldl rofF ([], [])).1 ∧ ((runS x).ins, (runS x).gone) = (x.foldl rofF ([], [])).2.foldl rgapF ([], 0) := by
  induction x using rev_ind with
  | h0 => exact ⟨rfl, rfl⟩
  | h1 x o ih =>
    obtain ⟨h1, h2⟩ := ih fun o ho => h o (by simp [ho])
    have ho := h o (by simp)
    unfold runS at h1 h2 ⊢
    simp only [List.foldl_append, List.foldl_cons, List.foldl_nil]
    generalize x.foldl stepS MkS.z = s at h1 h2 ⊢
    generalize x.foldl rofF ([], []) = a at h1 h2 ⊢
    obtain ⟨done, ins, gone⟩ := s
    obtain ⟨out, seg⟩ := a
    obtain ⟨k, n, rs, set, p⟩ := o
    simp only at h1 h2
    subst h1
    rcases ho with ⟨e1, e2, e3, e4, e5⟩ | ⟨e1, e2, e3, e4, e5, e6⟩ | ⟨e1, e2, e3, e4⟩
    · simp only at e1 e2 e3 e4 e5
      subst e1; subst e2; subst e3
      have hgap : gapL ins gone = rgap seg := by unfold rgap; rw [← h2]
      simp only [stepS, rofF, if_true, retS, if_neg (show ¬ n < 1 by omega), hgap]
      exact ⟨rfl, rfl⟩
    · simp only at e1 e2 e3 e4 e5 e6
      subst e1; subst e2; subst e3; subst e4
      have : maxI n 0 = n := by unfold maxI; rw [if_neg (by omega)]
      simp only [stepS, rofF, show ¬ (3 : Int) = 1 by decide, show ¬ (3 : Int) = 2 by decide, if_false, List.foldl_append, List.foldl_cons, List.foldl_nil, delS, this]
      refine ⟨trivial, ?_⟩
      rw [← h2]
      simp only [rgapF, if_true]
    · simp only at e1 e2 e3 e4
      subst e1; subst e2; subst e3
      simp only [stepS, rofF, show ¬ (2 : Int) = 1 by decide, if_true, if_false, List.foldl_append, List.foldl_cons, List.foldl_nil, insS, if_neg e4, addI]
      refine ⟨trivial, ?_⟩
      rw [← h2]
      simp only [rgapF, show ¬ (2 : Int) = 3 by decide, if_false]
      cases ins.getLast? with
      | none => rfl
      | some q => simp only; split <;> rfl
theorem norm_eq (x : List Dop) (h : ∀ o ∈ x, Form1 o) : normB x = rof x := by
  obtain ⟨h1, h2⟩ := norm_rel x h
  unfold normB opsS rof rgap
  rw [h1, ← h2]

/-! ### what is canonical -/
inductive InsC : List Dop → Prop
  | nil : InsC []
  | snoc (i : List Dop) (rs : List Int) (set : List Attr) (h : InsC i) (hr : rs ≠ []) (hs : ∀ q, i.getLast? = some q → q.set ≠ set) : InsC (i ++ [⟨2, 0, rs, set, []⟩])
inductive DoneC : List Dop → Prop
  | nil : DoneC []
  | snoc (d ins : List Dop) (gone n : Int) (p : List Chg) (h : DoneC d) (hi : InsC ins) (hg : 0 ≤ gone) (hb : gone ≤ 4611686018427387904) (hn : 1 ≤ n) (hp : ins = [] → gone = 0 → ∀ q, d.getLast? = some q → q.patch ≠ p) : DoneC (d ++ gapL ins gone ++ [⟨1, n, [], [], p⟩])
theorem InsC.add {ins : List Dop} (h : InsC ins) {rs : List Int} (hr : rs ≠ []) (set : List Attr) : InsC (addI ins rs set) := by
  cases h with
  | nil => exact InsC.snoc [] rs set .nil hr fun q hq => by simp at hq
  | snoc i rs' set' h hr' hs =>
    unfold addI
    simp only [List.getLast?_append, List.getLast?_singleton, Option.some_or]
    by_cases e : set' = set
    · rw [if_pos e]
      have : (i ++ [(⟨2, 0, rs', set', []⟩ : Dop)]).set ((i ++ [(⟨2, 0, rs', set', []⟩ : Dop)]).length - 1) ⟨2, 0, rs' ++ rs, set', []⟩ = i ++ [⟨2, 0, rs' ++ rs, set', []⟩] := by simp
      rw [this]
      exact InsC.snoc i _ set' h (by simp [hr']) hs
    · rw [if_neg e]
      exact InsC.snoc _ rs set (InsC.snoc i rs' set' h hr' hs) hr fun q hq => by
        simp only [List.getLast?_append, List.getLast?_singleton, Option.some_or, Option.some.injEq] at hq
        subst hq; exact e
theorem InsC.kinds {ins : List Dop} (h : InsC ins) : ∀ o ∈ ins, o.kind = 2 := by
  induction h with
  | nil => intro o ho; simp at ho
  | snoc i rs set h hr hs ih =>
    intro o ho
    rcases List.mem_append.1 ho with ho | ho
    · exact ih o ho
    · simp at ho; subst ho; rfl
theorem InsC.run {ins : List Dop} (h : InsC ins) (d : List Dop) (g : Int) : ins.foldl stepS ⟨d, [], g⟩ = ⟨d, ins, g⟩ := by
  induction h with
  | nil => rfl
  | snoc i rs set h hr hs ih =>
    rw [List.foldl_append, ih]
    simp only [List.foldl_cons, List.foldl_nil, stepS, show ¬ (2 : Int) = 1 by decide, if_true, if_false, insS, if_neg hr, addI]
    cases e : i.getLast? with
    | none => rfl
    | some q => simp only; rw [if_neg (hs q e)]
theorem gapL_last {ins : List Dop} {gone : Int} (h : InsC ins) : ∀ o, (gapL ins gone).getLast? = some o → o.kind ≠ 1 := by
  intro o ho
  unfold gapL at ho
  split at ho
  · simp only [List.getLast?_append, List.getLast?_singleton, Option.some_or, Option.some.injEq] at ho
    subst ho; intro h; cases h
  · have := h.kinds o (List.mem_of_getLast? ho)
    omega
theorem gapL_nil {ins : List Dop} {gone : Int} (h0 : 0 ≤ gone) (h : gapL ins gone = []) : ins = [] ∧ gone = 0 := by
  unfold gapL at h
  split at h
  · simp at h
  · exact ⟨h, by omega⟩
theorem last_app {d g : List Dop} : (d ++ g).getLast? = match g.getLast? with | some o => some o | none => d.getLast? := by
  rw [List.getLast?_append]; cases g.getLast? <;> rfl
theorem gap_run {ins : List Dop} (h : InsC ins) (d : List Dop) {g : Int} (hg : 0 ≤ g) (hb : g ≤ 4611686018427387904) : (gapL ins g).foldl stepS ⟨d, [], 0⟩ = ⟨d, ins, g⟩ := by
  unfold gapL
  split
  · rw [List.foldl_append, h.run]
    simp only [List.foldl_cons, List.foldl_nil, stepS, show ¬ (3 : Int) = 1 by decide, show ¬ (3 : Int) = 2 by decide, if_false, delS]
    have : maxI g 0 = g := by unfold maxI; rw [if_neg (by omega)]
    rw [this, wrap64 (by omega) (by omega)]
    congr 1; omega
  · rw [h.run]; congr 1; omega
theorem put_new {d g : List Dop} {n : Int} {p : List Chg} (h1 : ∀ o, g.getLast? = some o → o.kind ≠ 1) (h2 : g = [] → ∀ q, d.getLast? = some q → q.patch ≠ p) : putS (d ++ g) n p = d ++ g ++ [⟨1, n, [], [], p⟩] := by
  unfold putS
  rw [last_app]
  cases e : g.getLast? with
  | some o => simp only; rw [if_neg (fun h => h1 o e h.1)]
  | none =>
    have : g = [] := List.getLast?_eq_none_iff.1 e
    subst this
    simp only [List.append_nil]
    cases e2 : d.getLast? with
    | none => rfl
    | some q => simp only; rw [if_neg (fun h => h2 rfl q e2 h.2)]
theorem DoneC.run {d : List Dop} (h : DoneC d) : d.foldl stepS MkS.z = ⟨d, [], 0⟩ := by
  induction h with
  | nil => rfl
  | snoc d ins gone n p h hi hg hb hn hp ih =>
    rw [List.foldl_append, List.foldl_append, ih, gap_run hi d hg hb]
    simp only [List.foldl_cons, List.foldl_nil, stepS, if_true, retS, if_neg (show ¬ n < 1 by omega)]
    rw [put_new (gapL_last hi) fun e => hp (gapL_nil hg e).1 (gapL_nil hg e).2]
def sumN (l : List Dop) : Int := (l.map (·.n)).sum
theorem sumN_app (l m : List Dop) : sumN (l ++ m) = sumN l + sumN m := by simp [sumN]
theorem sumN_one (o : Dop) : sumN [o] = o.n := by simp [sumN]
theorem InsC.sum {ins : List Dop} (h : InsC ins) : sumN ins = 0 := by
  induction h with
  | nil => rfl
  | snoc i rs set h hr hs ih => rw [sumN_app, sumN_one, ih]; rfl
theorem gapL_sum {ins : List Dop} {g : Int} (h : InsC ins) (hg : 0 ≤ g) : sumN (gapL ins g) = g := by
  unfold gapL; split
  · rw [sumN_app, sumN_one, h.sum]; simp
  · rw [h.sum]; omega
theorem DoneC.nn {d : List Dop} (h : DoneC d) : 0 ≤ sumN d := by
  induction h with
  | nil => simp [sumN]
  | snoc d ins gone n p h hi hg hb hn hp ih => rw [sumN_app, sumN_app, sumN_one, gapL_sum hi hg]; simp only; omega
structure Canon (s : MkS) (t : Int) : Prop where
  done : DoneC s.done
  ins : InsC s.ins
  gone : 0 ≤ s.gone
  sum : sumN s.done + s.gone = t
theorem Canon.step {s : MkS} {t : Int} (h : Canon s t) {o : Dop} (ho : Form1 o) (ht : t + o.n ≤ 4611686018427387904) : Canon (stepS s o) (t + o.n) := by
  obtain ⟨done, ins, gone⟩ := s
  obtain ⟨h1, h2, h3, h4⟩ := h
  simp only at h1 h2 h3 h4
  obtain ⟨k, n, rs, set, p⟩ := o
  have hnn := h1.nn
  rcases ho with ⟨e1, e2, e3, e4, e5⟩ | ⟨e1, e2, e3, e4, e5, e6⟩ | ⟨e1, e2, e3, e4⟩
  · simp only at e1 e2 e3 e4 e5 ht
    subst e1
    simp only [stepS, if_true, retS, if_neg (show ¬ n < 1 by omega)]
    have key : DoneC (putS (done ++ gapL ins gone) n p) ∧ sumN (putS (done ++ gapL ins gone) n p) = t + n := by
      by_cases hgap : gapL ins gone = []
      · obtain ⟨e8, e9⟩ := gapL_nil h3 hgap
        subst e8; subst e9
        rw [hgap, List.append_nil]
        cases h1 with
        | nil => exact ⟨DoneC.snoc [] [] 0 n p .nil .nil (by omega) (by omega) e4 fun _ _ q hq => by simp at hq, by simp only [putS, List.getLast?_nil, sumN_app, sumN_one] at h4 ⊢; omega⟩
        | snoc d ins gone n' p' h hi hg hb hn hp =>
          unfold putS
          rw [List.getLast?_append, List.getLast?_singleton, Option.some_or]
          simp only [true_and]
          rw [sumN_app, sumN_app, sumN_one, gapL_sum hi hg] at h4
          simp only at h4
          have hdn := h.nn
          by_cases e : p' = p
          · rw [if_pos e]
            have e10 : (d ++ gapL ins gone ++ [(⟨1, n', [], [], p'⟩ : Dop)]).set ((d ++ gapL ins gone ++ [(⟨1, n', [], [], p'⟩ : Dop)]).length - 1) ⟨1, IntKind.i64.wrap (n' + n), [], [], p'⟩ = d ++ gapL ins gone ++ [⟨1, IntKind.i64.wrap (n' + n), [], [], p'⟩] := by
              rw [List.set_append_right _ _ (by simp)]; simp
            rw [e10, wrap64 (by omega) (by omega)]
            refine ⟨DoneC.snoc d ins gone (n' + n) p' h hi hg hb (by omega) hp, ?_⟩
            rw [sumN_app, sumN_app, sumN_one, gapL_sum hi hg]; simp only; omega
          · rw [if_neg e]
            have := DoneC.snoc (d ++ gapL ins gone ++ [⟨1, n', [], [], p'⟩]) [] 0 n p (DoneC.snoc d ins gone n' p' h hi hg hb hn hp) .nil (by omega) (by omega) e4 fun _ _ q hq => by
              rw [List.getLast?_append, List.getLast?_singleton, Option.some_or] at hq; cases hq; exact e
            simp only [gapL, show ¬ (0 : Int) < 0 by decide, if_false, List.append_nil] at this
            refine ⟨this, ?_⟩
            simp only [sumN_app, sumN_one, gapL_sum hi hg]; omega
      · rw [put_new (gapL_last h2) fun e => (hgap e).elim]
        refine ⟨DoneC.snoc done ins gone n p h1 h2 h3 (by omega) e4 fun e8 e9 => (hgap (by subst e8; subst e9; rfl)).elim, ?_⟩
        rw [sumN_app, sumN_app, sumN_one, gapL_sum h2 h3]; simp only; omega
    exact ⟨key.1, .nil, by simp, by simp only; omega⟩
  · simp only at e1 e2 e3 e4 e5 e6 ht
    subst e1
    simp only [stepS, show ¬ (3 : Int) = 1 by decide, show ¬ (3 : Int) = 2 by decide, if_false, delS]
    have : maxI n 0 = n := by unfold maxI; rw [if_neg (by omega)]
    rw [this, wrap64 (by omega) (by omega)]
    exact ⟨h1, h2, by simp only; omega, by simp only; omega⟩
  · simp only at e1 e2 e3 e4 ht
    subst e1; subst e2
    simp only [stepS, show ¬ (2 : Int) = 1 by decide, if_true, if_false, insS, if_neg e4]
    exact ⟨h1, h2.add e4 set, h3, by simp only; omega⟩
theorem Form1.nn {o : Dop} (h : Form1 o) : 0 ≤ o.n ∧ o.n ≤ 536870912 := by
  rcases h with ⟨_, _, _, h, h'⟩ | ⟨_, _, _, _, h, h'⟩ | ⟨_, h, _⟩ <;> omega
theorem sumN_form (x : List Dop) (h : ∀ o ∈ x, Form1 o) : 0 ≤ sumN x ∧ sumN x ≤ x.length * 536870912 := by
  induction x with
  | nil => simp [sumN]
  | cons o x ih =>
    have h1 := ih fun o ho => h o (by simp [ho])
    have h2 := (h o (by simp)).nn
    have : sumN (o :: x) = o.n + sumN x := by simp [sumN]
    rw [this]
    simp only [List.length_cons]
    omega
theorem canon_run (x : List Dop) (h : ∀ o ∈ x, Form1 o) (hl : x.length ≤ 8589934592) : Canon (runS x) (sumN x) := by
  induction x using rev_ind with
  | h0 => exact ⟨.nil, .nil, by decide, by decide⟩
  | h1 x o ih =>
    have hx : ∀ o ∈ x, Form1 o := fun o ho => h o (by simp [ho])
    have ho := h o (by simp)
    simp only [List.length_append, List.length_cons, List.length_nil] at hl
    have h1 := ih (fun o ho => hx o ho) (by omega)
    have h2 := sumN_form x fun o ho => hx o ho
    have h3 := ho.nn
    unfold runS at h1 ⊢
    rw [List.foldl_append, sumN_app, sumN_one]
    exact h1.step ho (by omega)
theorem trim_fix {d ins : List Dop} {g : Int} (hd : DoneC d) (hi : InsC ins) (hg : 0 ≤ g) (hb : g ≤ 4611686018427387904) : normB (trimL (d ++ gapL ins g)) = trimL (d ++ gapL ins g) := by
  have same : ∀ (d ins : List Dop) (g : Int), DoneC d → InsC ins → 0 ≤ g → g ≤ 4611686018427387904 → normB (d ++ gapL ins g) = trimL (d ++ gapL ins g) := by
    intro d ins g hd hi hg hb
    unfold normB runS opsS
    rw [List.foldl_append, hd.run, gap_run hi d hg hb]
  by_cases hgap : gapL ins g = []
  · rw [hgap, List.append_nil]
    cases hd with
    | nil => rfl
    | snoc d ins' g' n p h hi' hg' hb' hn hp =>
      by_cases e : p = []
      · subst e
        have e1 : trimL (d ++ gapL ins' g' ++ [(⟨1, n, [], [], []⟩ : Dop)]) = d ++ gapL ins' g' := by
          unfold trimL
          rw [List.getLast?_append, List.getLast?_singleton, Option.some_or]
          simp only [and_self, if_true, List.dropLast_concat]
        rw [e1, same d ins' g' h hi' hg' hb']
        unfold trimL
        rw [last_app]
        cases e2 : (gapL ins' g').getLast? with
        | some o => simp only; rw [if_neg (fun h => gapL_last hi' o e2 h.1)]
        | none =>
          have e3 : gapL ins' g' = [] := List.getLast?_eq_none_iff.1 e2
          obtain ⟨e4, e5⟩ := gapL_nil hg' e3
          rw [e3, List.append_nil]
          simp only
          cases e6 : d.getLast? with
          | none => rfl
          | some q => simp only; rw [if_neg (fun h => hp e4 e5 q e6 h.2)]
      · have hD := DoneC.snoc d ins' g' n p h hi' hg' hb' hn hp
        have e1 : trimL (d ++ gapL ins' g' ++ [(⟨1, n, [], [], p⟩ : Dop)]) = d ++ gapL ins' g' ++ [⟨1, n, [], [], p⟩] := by
          unfold trimL
          rw [List.getLast?_append, List.getLast?_singleton, Option.some_or]
          simp only [e, and_false, if_false]
        rw [e1]
        have := same _ [] 0 hD .nil (by omega) (by omega)
        simp only [gapL, show ¬ (0 : Int) < 0 by decide, if_false, List.append_nil] at this
        exact this.trans e1
  · have e1 : trimL (d ++ gapL ins g) = d ++ gapL ins g := by
      unfold trimL
      rw [last_app]
      cases e2 : (gapL ins g).getLast? with
      | some o => simp only; rw [if_neg (fun h => gapL_last hi o e2 h.1)]
      | none => exact (hgap (List.getLast?_eq_none_iff.1 e2)).elim
    rw [e1, same d ins g hd hi hg hb, e1]
/-- the form of a form is itself -/
theorem norm_twice (x : List Dop) (h : ∀ o ∈ x, Form1 o) (hl : x.length ≤ 8589934592) : normB (normB x) = normB x := by
  have c := canon_run x h hl
  have h2 := sumN_form x h
  have h3 := c.done.nn
  have h4 := c.sum
  exact trim_fix c.done c.ins c.gone (by omega)
/-- at each gap inserts, then one delete -/
def GapsOK (l : List Dop) : Prop := ∀ (i : Nat) a b, l[i]? = some a → l[i + 1]? = some b → a.kind = 3 → b.kind = 1
theorem gaps_snoc {l : List Dop} {o : Dop} (h : GapsOK l) (h2 : ∀ q, l.getLast? = some q → q.kind = 3 → o.kind = 1) : GapsOK (l ++ [o]) := by
  intro i a b ha hb hk
  by_cases h3 : i + 1 < l.length
  · rw [List.getElem?_append_left (by omega)] at ha
    rw [List.getElem?_append_left h3] at hb
    exact h i a b ha hb hk
  · by_cases h4 : i + 1 = l.length
    · rw [List.getElem?_append_left (by omega)] at ha
      rw [List.getElem?_append_right (by omega), h4] at hb
      simp at hb; subst hb
      refine h2 a ?_ hk
      rw [List.getLast?_eq_getElem?, ← ha]; congr 1; omega
    · have := (List.getElem?_eq_some_iff.1 hb).1
      simp at this; omega
theorem gaps_app {l m : List Dop} (hl : GapsOK l) (hm : GapsOK m) (h : ∀ q, l.getLast? = some q → q.kind ≠ 3) : GapsOK (l ++ m) := by
  intro i a b ha hb hk
  by_cases h3 : i + 1 < l.length
  · rw [List.getElem?_append_left (by omega)] at ha
    rw [List.getElem?_append_left h3] at hb
    exact hl i a b ha hb hk
  · by_cases h4 : i + 1 = l.length
    · rw [List.getElem?_append_left (by omega)] at ha
      refine (h a ?_ hk).elim
      rw [List.getLast?_eq_getElem?, ← ha]; congr 1; omega
    · rw [List.getElem?_append_right (by omega)] at ha hb
      refine hm (i - l.length) a b ha ?_ hk
      rw [← hb]; congr 1; omega
theorem InsC.gaps {ins : List Dop} (h : InsC ins) : GapsOK ins := by
  intro i a b ha hb hk
  have := h.kinds a (List.mem_of_getElem? ha)
  omega
theorem gapL_gaps {ins : List Dop} {g : Int} (h : InsC ins) : GapsOK (gapL ins g) := by
  unfold gapL; split
  · refine gaps_snoc h.gaps fun q hq hk => ?_
    have := h.kinds q (List.mem_of_getLast? hq)
    omega
  · exact h.gaps
theorem DoneC.last {d : List Dop} (h : DoneC d) : ∀ q, d.getLast? = some q → q.kind = 1 := by
  cases h with
  | nil => intro q hq; simp at hq
  | snoc d ins gone n p h hi hg hb hn hp =>
    intro q hq
    rw [List.getLast?_append, List.getLast?_singleton, Option.some_or] at hq; cases hq; rfl
theorem DoneC.gaps {d : List Dop} (h : DoneC d) : GapsOK d := by
  induction h with
  | nil => intro i a b ha; simp at ha
  | snoc d ins gone n p h hi hg hb hn hp ih =>
    refine gaps_snoc (gaps_app ih (gapL_gaps hi) fun q hq hk => ?_) fun _ _ _ => rfl
    have := h.last q hq
    omega
theorem gaps_sub {l : List Dop} (h : GapsOK l) : GapsOK l.dropLast := by
  intro i a b ha hb hk
  rw [List.getElem?_dropLast] at ha hb
  split at ha <;> split at hb <;> first | exact h i a b ha hb hk | simp_all
theorem norm_gaps (x : List Dop) (h : ∀ o ∈ x, Form1 o) (hl : x.length ≤ 8589934592) : GapsOK (normB x) := by
  have c := canon_run x h hl
  have h1 : GapsOK ((runS x).done ++ gapL (runS x).ins (runS x).gone) := gaps_app c.done.gaps (gapL_gaps c.ins) fun q hq hk => by have := c.done.last q hq; omega
  unfold normB opsS trimL
  split
  · split
    · exact gaps_sub h1
    · exact h1
  · exact h1
/-- behind a form no retain without a patch -/
theorem norm_last (x : List Dop) (h : ∀ o ∈ x, Form1 o) (hl : x.length ≤ 8589934592) : ∀ q, (normB x).getLast? = some q → ¬ (q.kind = 1 ∧ q.patch = []) := by
  intro q hq hk
  have e := norm_twice x h hl
  have : trimL (normB x) = normB x := by
    have c := canon_run x h hl
    -- a form is trimmed: shown by what it is made of
    have key : ∀ l : List Dop, trimL (trimL l) = trimL l → trimL (trimL l) = trimL l := fun _ h => h
    have h2 := sumN_form x h
    have h3 := c.done.nn
    have h4 := c.sum
    unfold normB opsS
    by_cases hgap : gapL (runS x).ins (runS x).gone = []
    · rw [hgap, List.append_nil]
      have hd := c.done
      generalize (runS x).done = D at hd
      cases hd with
      | nil => rfl
      | snoc d ins' g' n p h hi' hg' hb' hn hp =>
        by_cases e : p = []
        · subst e
          have e1 : trimL (d ++ gapL ins' g' ++ [(⟨1, n, [], [], []⟩ : Dop)]) = d ++ gapL ins' g' := by
            unfold trimL
            rw [List.getLast?_append, List.getLast?_singleton, Option.some_or]
            simp only [and_self, if_true, List.dropLast_concat]
          rw [e1]
          unfold trimL
          rw [last_app]
          cases e2 : (gapL ins' g').getLast? with
          | some o => simp only; rw [if_neg (fun h => gapL_last hi' o e2 h.1)]
          | none =>
            have e3 : gapL ins' g' = [] := List.getLast?_eq_none_iff.1 e2
            obtain ⟨e4, e5⟩ := gapL_nil hg' e3
            simp only
            cases e6 : d.getLast? with
            | none => rfl
            | some q => simp only; rw [if_neg (fun h => hp e4 e5 q e6 h.2)]
        · have e1 : trimL (d ++ gapL ins' g' ++ [(⟨1, n, [], [], p⟩ : Dop)]) = d ++ gapL ins' g' ++ [⟨1, n, [], [], p⟩] := by
            unfold trimL
            rw [List.getLast?_append, List.getLast?_singleton, Option.some_or]
            simp only [e, and_false, if_false]
          rw [e1, e1]
    · have e1 : trimL ((runS x).done ++ gapL (runS x).ins (runS x).gone) = (runS x).done ++ gapL (runS x).ins (runS x).gone := by
        unfold trimL
        rw [last_app]
        cases e2 : (gapL (runS x).ins (runS x).gone).getLast? with
        | some o => simp only; rw [if_neg (fun h => gapL_last c.ins o e2 h.1)]
        | none => exact (hgap (List.getLast?_eq_none_iff.1 e2)).elim
      rw [e1, e1]
  unfold trimL at this
  rw [hq] at this
  simp only [hk, and_self, if_true] at this
  have hl2 := congrArg List.length this
  rw [List.length_dropLast] at hl2
  have : normB x ≠ [] := by intro e; rw [e] at hq; simp at hq
  have := List.length_pos_iff.2 this
  omega
end Go.Proofs.YtmfplfaeibehiaaDoor

namespace Go.Proofs.YtmfplfaeibehiaaDoor
open Go Go.K

def runesN (l : List Dop) : Nat := (l.map fun o => o.runes.length).sum
def goneN (l : List Dop) : Int := (l.map fun o => if o.kind = 3 then o.n else 0).sum
theorem runesN_app (l m : List Dop) : runesN (l ++ m) = runesN l + runesN m := by simp [runesN]
theorem goneN_app (l m : List Dop) : goneN (l ++ m) = goneN l + goneN m := by simp [goneN]
theorem runesN_one (o : Dop) : runesN [o] = o.runes.length := by simp [runesN]
theorem goneN_one (o : Dop) : goneN [o] = if o.kind = 3 then o.n else 0 := by simp [goneN]
theorem set_last (i : List Dop) (b o : Dop) : (i ++ [b]).set ((i ++ [b]).length - 1) o = i ++ [o] := by
  rw [List.set_append_right _ _ (by simp)]; simp
theorem putS_n (d : List Dop) (n : Int) (p : List Chg) : runesN (putS d n p) = runesN d ∧ goneN (putS d n p) = goneN d ∧ (putS d n p).length ≤ d.length + 1 := by
  rcases snoc_cases d with rfl | ⟨i, b, rfl⟩
  · exact ⟨by simp [putS, runesN], by simp [putS, goneN], by simp [putS]⟩
  · unfold putS
    rw [List.getLast?_append, List.getLast?_singleton, Option.some_or]
    simp only
    by_cases e : b.kind = 1 ∧ b.patch = p
    · rw [if_pos e, set_last]
      refine ⟨by simp only [runesN_app, runesN_one], ?_, by simp⟩
      simp only [goneN_app, goneN_one, e.1, show ¬ (1 : Int) = 3 by decide, if_false]
    · rw [if_neg e]
      exact ⟨by simp only [runesN_app, runesN_one, List.length_nil, Nat.add_zero], by simp only [goneN_app, goneN_one, show ¬ (1 : Int) = 3 by decide, if_false, Int.add_zero], by simp⟩
theorem addI_n (d : List Dop) (rs : List Int) (set : List Attr) : runesN (addI d rs set) = runesN d + rs.length ∧ (addI d rs set).length ≤ d.length + 1 := by
  rcases snoc_cases d with rfl | ⟨i, b, rfl⟩
  · exact ⟨by simp [addI, runesN], by simp [addI]⟩
  · unfold addI
    rw [List.getLast?_append, List.getLast?_singleton, Option.some_or]
    simp only
    by_cases e : b.set = set
    · rw [if_pos e, set_last]
      exact ⟨by simp only [runesN_app, runesN_one, List.length_append]; omega, by simp⟩
    · rw [if_neg e]
      exact ⟨by simp only [runesN_app, runesN_one], by simp⟩
theorem gapL_n {ins : List Dop} {g : Int} (h : InsC ins) (hg : 0 ≤ g) : runesN (gapL ins g) = runesN ins ∧ goneN (gapL ins g) = g ∧ (gapL ins g).length = ins.length + if 0 < g then 1 else 0 := by
  have hz : goneN ins = 0 := by
    have hk := h.kinds
    clear h
    induction ins with
    | nil => rfl
    | cons o l ih =>
      have := ih fun o ho => hk o (by simp [ho])
      have h2 := hk o (by simp)
      have e : goneN (o :: l) = (if o.kind = 3 then o.n else 0) + goneN l := by simp [goneN]
      rw [e, this, h2]; rfl
  unfold gapL
  by_cases h0 : 0 < g
  · rw [if_pos h0, if_pos h0]
    refine ⟨by simp only [runesN_app, runesN_one, List.length_nil, Nat.add_zero], ?_, by simp⟩
    simp only [goneN_app, goneN_one, if_true, hz]; omega
  · rw [if_neg h0, if_neg h0]
    exact ⟨rfl, by omega, by simp⟩
theorem DoneC.bare {d : List Dop} (h : DoneC d) : ∀ o ∈ d, o.kind = 1 → o.runes = [] := by
  induction h with
  | nil => intro o ho; simp at ho
  | snoc d ins gone n p h hi hg hb hn hp ih =>
    intro o ho hk
    rcases List.mem_append.1 ho with ho | ho
    · rcases List.mem_append.1 ho with ho | ho
      · exact ih o ho hk
      · unfold gapL at ho
        split at ho
        · rcases List.mem_append.1 ho with ho | ho
          · have := hi.kinds o ho; omega
          · simp at ho; subst ho; rfl
        · have := hi.kinds o ho; omega
    · simp at ho; subst ho; rfl
theorem short_run (x : List Dop) (h : ∀ o ∈ x, Form1 o) (hl : x.length ≤ 8589934592) :
    runesN (runS x).done + runesN (runS x).ins = runesN x ∧ goneN (runS x).done + (runS x).gone = goneN x ∧ (runS x).done.length + (runS x).ins.length + (if 0 < (runS x).gone then 1 else 0) ≤ x.length := by
  induction x using rev_ind with
  | h0 => exact ⟨rfl, rfl, by simp [runS, MkS.z]⟩
  | h1 x o ih =>
    have hx : ∀ o ∈ x, Form1 o := fun o ho => h o (by simp [ho])
    have ho := h o (by simp)
    simp only [List.length_append, List.length_cons, List.length_nil] at hl
    have hI := ih (fun o ho => hx o ho) (by omega)
    have c := canon_run x (fun o ho => hx o ho) (by omega)
    have h2 := sumN_form x fun o ho => hx o ho
    rw [runesN_app, goneN_app, runesN_one, goneN_one, List.length_append, List.length_singleton]
    unfold runS at hI c ⊢
    simp only [List.foldl_append, List.foldl_cons, List.foldl_nil]
    generalize x.foldl stepS MkS.z = s at hI c ⊢
    obtain ⟨done, ins, gone⟩ := s
    obtain ⟨c1, c2, c3, c4⟩ := c
    obtain ⟨i1, i2, i3⟩ := hI
    obtain ⟨k, n, rs, set, p⟩ := o
    simp only at c1 c2 c3 c4 i1 i2 i3 ⊢
    have hdn := c1.nn
    rcases ho with ⟨e1, e2, e3, e4, e5⟩ | ⟨e1, e2, e3, e4, e5, e6⟩ | ⟨e1, e2, e3, e4⟩
    · simp only at e1 e2 e3 e4 e5
      subst e1; subst e2; subst e3
      simp only [stepS, if_true, retS, if_neg (show ¬ n < 1 by omega)]
      obtain ⟨p1, p2, p3⟩ := putS_n (done ++ gapL ins gone) n p
      obtain ⟨g1, g2, g3⟩ := gapL_n c2 c3
      rw [p1, p2, runesN_app, goneN_app, g1, g2]
      rw [List.length_append, g3] at p3
      refine ⟨by simp [runesN] at i1 ⊢; omega, ?_, ?_⟩
      · simp only [show ¬ (1 : Int) = 3 by decide, if_false]; omega
      · simp only [List.length_nil, show ¬ (0 : Int) < 0 by decide, if_false]; omega
    · simp only at e1 e2 e3 e4 e5 e6
      subst e1; subst e2; subst e3; subst e4
      have : maxI n 0 = n := by unfold maxI; rw [if_neg (by omega)]
      simp only [stepS, show ¬ (3 : Int) = 1 by decide, show ¬ (3 : Int) = 2 by decide, if_false, delS, this, if_true]
      rw [wrap64 (by omega) (by omega)]
      refine ⟨by simp; omega, by omega, ?_⟩
      split <;> split at i3 <;> omega
    · simp only at e1 e2 e3 e4
      subst e1; subst e2; subst e3
      simp only [stepS, show ¬ (2 : Int) = 1 by decide, show ¬ (2 : Int) = 3 by decide, if_true, if_false, insS, if_neg e4]
      obtain ⟨a1, a2⟩ := addI_n ins rs set
      rw [a1]
      refine ⟨by omega, by omega, by omega⟩
theorem norm_short (x : List Dop) (h : ∀ o ∈ x, Form1 o) (hl : x.length ≤ 8589934592) : runesN (normB x) = runesN x ∧ goneN (normB x) = goneN x ∧ (normB x).length ≤ x.length := by
  obtain ⟨h1, h2, h3⟩ := short_run x h hl
  have c := canon_run x h hl
  obtain ⟨g1, g2, g3⟩ := gapL_n c.ins c.gone
  have e1 : runesN ((runS x).done ++ gapL (runS x).ins (runS x).gone) = runesN x := by rw [runesN_app, g1]; exact h1
  have e2 : goneN ((runS x).done ++ gapL (runS x).ins (runS x).gone) = goneN x := by rw [goneN_app, g2]; exact h2
  have e3 : ((runS x).done ++ gapL (runS x).ins (runS x).gone).length ≤ x.length := by rw [List.length_append, g3]; omega
  have e4 : ∀ o ∈ (runS x).done ++ gapL (runS x).ins (runS x).gone, o.kind = 1 → o.runes = [] := by
    intro o ho hk
    rcases List.mem_append.1 ho with ho | ho
    · exact c.done.bare o ho hk
    · unfold gapL at ho
      split at ho
      · rcases List.mem_append.1 ho with ho | ho
        · have := c.ins.kinds o ho; omega
        · simp at ho; subst ho; rfl
      · have := c.ins.kinds o ho; omega
  unfold normB opsS
  generalize (runS x).done ++ gapL (runS x).ins (runS x).gone = l at e1 e2 e3 e4
  unfold trimL
  rcases snoc_cases l with rfl | ⟨i, b, rfl⟩
  · exact ⟨e1, e2, e3⟩
  · rw [List.getLast?_append, List.getLast?_singleton, Option.some_or]
    simp only
    by_cases e : b.kind = 1 ∧ b.patch = []
    · rw [if_pos e, List.dropLast_concat]
      have := e4 b (by simp) e.1
      rw [runesN_app, runesN_one, this] at e1
      rw [goneN_app, goneN_one, if_neg (by rw [e.1]; decide)] at e2
      simp at e1 e2 e3
      exact ⟨e1, e2, by omega⟩
    · rw [if_neg e]; exact ⟨e1, e2, e3⟩

/-! ### another order at each gap -/
def delB (g : Int) : Dop := ⟨3, g, [], [], []⟩
def flushM (ahead : Bool) (y gap : List Dop) (gone : Int) : List Dop :=
  (if 0 < gone ∧ ahead = true then y ++ [delB gone] else y) ++ gap ++ (if 0 < gone ∧ ahead = false then [delB gone] else [])
structure ManyS where
  y : List Dop
  gap : List Dop
  gone : Int
def manyF (ahead : Bool) (a : ManyS) (o : Dop) : ManyS :=
  if o.kind = 1 then ⟨flushM ahead a.y a.gap a.gone ++ [o], [], 0⟩ else if o.kind = 2 then ⟨a.y, a.gap ++ [o], a.gone⟩ else ⟨a.y, a.gap, IntKind.i64.wrap (a.gone + o.n)⟩
def manyR (ahead : Bool) (x : List Dop) : ManyS := x.foldl (manyF ahead) ⟨[], [], 0⟩
def manyB (ahead : Bool) (x : List Dop) : List Dop := flushM ahead (manyR ahead x).y (manyR ahead x).gap (manyR ahead x).gone
theorem flush_run {ahead : Bool} {y gap ins d : List Dop} {g : Int} (h1 : runS y = ⟨d, [], 0⟩) (h2 : ∀ g, gap.foldl stepS ⟨d, [], g⟩ = ⟨d, ins, g⟩) (h0 : 0 ≤ g) (hb : g ≤ 4611686018427387904) : runS (flushM ahead y gap g) = ⟨d, ins, g⟩ := by
  have hd : ∀ i : List Dop, stepS ⟨d, i, 0⟩ (delB g) = ⟨d, i, g⟩ := by
    intro i
    have : maxI g 0 = g := by unfold maxI; rw [if_neg (by omega)]
    simp only [delB, stepS, show ¬ (3 : Int) = 1 by decide, show ¬ (3 : Int) = 2 by decide, if_false, delS, this]
    rw [wrap64 (by omega) (by omega)]; congr 1; omega
  unfold runS at h1 ⊢
  unfold flushM
  by_cases hg : 0 < g
  · cases ahead with
    | true => simp only [hg, true_and, if_true, Bool.true_eq_false, if_false, List.append_nil, List.foldl_append, List.foldl_cons, List.foldl_nil, h1, hd, h2]
    | false => simp only [hg, true_and, if_true, Bool.false_eq_true, if_false, List.foldl_append, List.foldl_cons, List.foldl_nil, h1, hd, h2]
  · have : g = 0 := by omega
    subst this
    simp only [hg, false_and, if_false, List.append_nil, List.foldl_append, h1, h2]
theorem many_run (ahead : Bool) (x : List Dop) (h : ∀ o ∈ x, Form1 o) (hl : x.length ≤ 8589934592) :
    runS (manyR ahead x).y = ⟨(runS x).done, [], 0⟩ ∧ (manyR ahead x).gone = (runS x).gone ∧ ∀ g, (manyR ahead x).gap.foldl stepS ⟨(runS x).done, [], g⟩ = ⟨(runS x).done, (runS x).ins, g⟩ := by
  induction x using rev_ind with
  | h0 => exact ⟨rfl, rfl, fun g => rfl⟩
  | h1 x o ih =>
    have hx : ∀ o ∈ x, Form1 o := fun o ho => h o (by simp [ho])
    have ho := h o (by simp)
    simp only [List.length_append, List.length_cons, List.length_nil] at hl
    have hI := ih (fun o ho => hx o ho) (by omega)
    have c := canon_run x (fun o ho => hx o ho) (by omega)
    have h2 := sumN_form x fun o ho => hx o ho
    have e0 : runS (x ++ [o]) = stepS (runS x) o := by simp [runS]
    have e1 : manyR ahead (x ++ [o]) = manyF ahead (manyR ahead x) o := by simp [manyR]
    rw [e0, e1]
    obtain ⟨i1, i2, i3⟩ := hI
    have hfl : runS (flushM ahead (manyR ahead x).y (manyR ahead x).gap (manyR ahead x).gone) = runS x := by
      have := flush_run (ahead := ahead) i1 i3 c.gone (by have := c.sum; have := c.done.nn; omega)
      rw [i2]; exact this
    obtain ⟨k, n, rs, set, p⟩ := o
    rcases ho with ⟨q1, q2, q3, q4, q5⟩ | ⟨q1, q2, q3, q4, q5, q6⟩ | ⟨q1, q2, q3, q4⟩
    · simp only at q1 q2 q3 q4 q5
      subst q1
      simp only [manyF, if_true]
      have e2 : ∀ (l : List Dop) (o : Dop), runS (l ++ [o]) = stepS (runS l) o := fun l o => by simp [runS]
      rw [e2, hfl]
      simp only [stepS, if_true, retS, if_neg (show ¬ n < 1 by omega)]
      exact ⟨by trivial, by trivial, fun g => rfl⟩
    · simp only at q1 q2 q3 q4 q5 q6
      subst q1
      have : maxI n 0 = n := by unfold maxI; rw [if_neg (by omega)]
      simp only [manyF, stepS, show ¬ (3 : Int) = 1 by decide, show ¬ (3 : Int) = 2 by decide, if_false, delS, this]
      exact ⟨i1, by rw [i2], i3⟩
    · simp only at q1 q2 q3 q4
      subst q1
      simp only [manyF, stepS, show ¬ (2 : Int) = 1 by decide, if_true, if_false, insS, if_neg q4]
      refine ⟨i1, i2, fun g => ?_⟩
      rw [List.foldl_append, i3 g]
      simp only [List.foldl_cons, List.foldl_nil, stepS, show ¬ (2 : Int) = 1 by decide, if_true, if_false, insS, if_neg q4]
theorem norm_many (ahead : Bool) (x : List Dop) (h : ∀ o ∈ x, Form1 o) (hl : x.length ≤ 8589934592) : normB (manyB ahead x) = normB x := by
  obtain ⟨i1, i2, i3⟩ := many_run ahead x h hl
  have c := canon_run x h hl
  have h2 := sumN_form x h
  have := flush_run (ahead := ahead) i1 i3 c.gone (by have := c.sum; have := c.done.nn; omega)
  unfold normB manyB
  rw [i2, this]
end Go.Proofs.YtmfplfaeibehiaaDoor

namespace Go.Proofs.YtmfplfaeibehiaaDoor
open Go Go.K

def OpsBad (keys : List DKey) (x : List Dop) : Prop := (∃ o ∈ x, ¬ FormO o ∨ maySet keys o.set = 3 ∨ mayPat keys o.patch = 3) ∨ 536870912 < sumW takesF x ∨ 536870912 < sumW makesF x
def OpsNoKey (keys : List DKey) (x : List Dop) : Prop := ∃ o ∈ x, maySet keys o.set ≠ 0 ∨ mayPat keys o.patch ≠ 0
open Classical in
noncomputable def mayOps (keys : List DKey) (x : List Dop) : Int := if OpsBad keys x then 3 else if OpsNoKey keys x then 4 else 0
def TameX (keys : List DKey) (x : List Dop) : Prop := keys.length ≤ 64 ∧ mDops x ≤ 20000 ∧ MayKeys keys ∧ mayOps keys x = 0
theorem TameX.forms {keys : List DKey} {x : List Dop} (h : TameX keys x) : ∀ o ∈ x, FormO o := by
  intro o ho
  have := h.2.2.2
  unfold mayOps at this
  split at this
  · cases this
  · rename_i hb
    cases Classical.em (FormO o) with
    | inl h => exact h
    | inr h => exact (hb (.inl ⟨o, ho, .inl h⟩)).elim
theorem FormO.f1 {o : Dop} (h : FormO o) : Form1 o := by
  rcases h.form1 with h | h | h
  · exact .inl h
  · exact .inr (.inl h)
  · exact .inr (.inr h)
theorem TameX.form1 {keys : List DKey} {x : List Dop} (h : TameX keys x) : ∀ o ∈ x, Form1 o := fun o ho => (h.forms o ho).f1

/-! ### ops.Same -/
end Go.Proofs.YtmfplfaeibehiaaDoor

namespace Go.K
open Go
theorem OwnR.conv {α : Type} {B e k : Nat} {R0 R : World → List Value → α → Prop} {w : World} {g n c : Nat} {l : List α} (h : OwnR B e k R0 w (.slice (some ⟨g, 0, none⟩) n c) l)
    (hR : ∀ i (hi : i < l.length) (r : List Value), r.length = k → (∀ u ∈ r, u.oneCell' = true) → (∀ q u, r[q]? = some u → w.cell? ⟨g, i * k + q, none⟩ = some u) → R w r l[i]) : OwnR B e k R w (.slice (some ⟨g, 0, none⟩) n c) l := by
  obtain ⟨rows, h1, h2, h3, h4⟩ := h
  have hrl : ∀ r ∈ rows, r.length = k := fun r hr => (h3 r hr).1
  have hn : n = l.length := by
    rcases h1.2 with ⟨h', _⟩ | ⟨g', cap', cur, h', _⟩
    · simp at h'
    · simp only [Value.slice.injEq] at h'; exact h'.2.1
  subst hn
  refine ⟨rows, h1, h2, h3, fun i r x hr hx => ?_⟩
  have hi : i < l.length := (List.getElem?_eq_some_iff.1 hx).1
  have hx' : x = l[i] := by rw [List.getElem?_eq_getElem hi] at hx; exact (Option.some.inj hx).symm
  subst hx'
  have hm := List.mem_of_getElem? hr
  refine hR i hi r (hrl r hm) (h3 r hm).2 fun q u hu => ?_
  have hq : q < k := by rw [← hrl r hm]; exact (List.getElem?_eq_some_iff.1 hu).1
  have hlt : i * k + q < l.length * k := by
    have : (i + 1) * k ≤ l.length * k := Nat.mul_le_mul_right _ hi
    rw [Nat.add_mul] at this; omega
  have := h1.cellAt _ hlt
  rw [flat_get rows i q r hrl hr hq] at this
  rw [← hu]; exact this
theorem OwnR.any {α : Type} {B e k : Nat} {R0 : World → List Value → α → Prop} {w : World} {v : Value} {l : List α} (h : OwnR B e k R0 w v l) : OwnR B e k (fun _ _ _ => True) w v l := by
  obtain ⟨rows, h1, h2, h3, _⟩ := h
  exact ⟨rows, h1, h2, h3, fun _ _ _ _ _ => trivial⟩
theorem OwnR.setAny {α : Type} {B e k : Nat} {w : World} {g n c : Nat} {l : List α} (h : OwnR B e k (fun _ _ _ => True) w (.slice (some ⟨g, 0, none⟩) n c) l) {i j : Nat} (hi : i < l.length) (hj : j < k) {u : Value} (hu : u.oneCell' = true) :
    OwnR B e k (fun _ _ _ => True) (w.setCell ⟨g, i * k + j, none⟩ u) (.slice (some ⟨g, 0, none⟩) n c) l := by
  have hs := (OwnR.store (R' := fun _ _ _ => True) (x' := l[i]) h hi hj hu (fun _ _ _ _ => trivial) fun _ _ => trivial).2.2.1
  have e : l.set i l[i] = l := List.set_getElem_self hi
  rw [e] at hs
  have hadd : (⟨g, 0, none⟩ : Addr).add (i * k + j) = ⟨g, i * k + j, none⟩ := by unfold Addr.add; split <;> simp_all
  rw [hadd] at hs
  exact hs
theorem setA (W : World) (g o : Nat) (u : Value) : Mod (fun b => b = g) W (W.setCell ⟨g, o, none⟩ u) := Mod.setCell _ _ _ rfl
theorem OwnR.cellsOf {α : Type} {B e k : Nat} {R : World → List Value → α → Prop} {w : World} {g n c : Nat} {l : List α} (h : OwnR B e k R w (.slice (some ⟨g, 0, none⟩) n c) l) {i : Nat} (hi : i < l.length) :
    ∃ r, r.length = k ∧ (∀ q u, r[q]? = some u → w.cell? ⟨g, i * k + q, none⟩ = some u) ∧ R w r l[i] ∧ ∀ q, q < k → Live w ⟨g, i * k + q, none⟩ := by
  obtain ⟨p, r, e1, _, hr, hc, hR⟩ := (OwnR.sl h).get hi
  cases e1
  have hadd : ∀ q, (⟨g, 0, none⟩ : Addr).add (i * k + q) = ⟨g, i * k + q, none⟩ := fun q => by unfold Addr.add; split <;> simp_all
  refine ⟨r, hr, fun q u hu => by rw [← hadd]; exact hc q u hu, hR, fun q hq => ?_⟩
  obtain ⟨g', e2, _, hl⟩ := OwnR.live h hi hq
  cases e2
  rw [hadd] at hl; exact hl
end Go.K
namespace Go.Proofs.YtmfplfaeibehiaaDoor
open Go Go.K

/-- the cells of an op at a place of a row -/
def OpAt (W : World) (g j : Nat) (o : Dop) (rv sv pv : Value) : Prop := ∀ q u, [Value.int .u8 o.kind, .int .i64 o.n, rv, sv, pv][q]? = some u → W.cell? ⟨g, j * 5 + q, none⟩ = some u
theorem OpAt.cong {W W' : World} {g j : Nat} {o : Dop} {rv sv pv : Value} (h : OpAt W g j o rv sv pv) (hW : ∀ q, q < 5 → W'.cell? ⟨g, j * 5 + q, none⟩ = W.cell? ⟨g, j * 5 + q, none⟩) : OpAt W' g j o rv sv pv := by
  intro q u hu
  have := (List.getElem?_eq_some_iff.1 hu).1
  simp only [List.length_cons, List.length_nil] at this
  rw [hW q (by omega)]; exact h q u hu
end Go.Proofs.YtmfplfaeibehiaaDoor

namespace Go.K
open Go
theorem cap_run {P : Program} {t ty e : TypeId} {a : Option Addr} {n c : Nat} {w : World} (ht : P.underlying t = some (.slice e)) : (Builtin.cap_ #[t] ty #[.slice a n c]).run P w = .ok (.int .i64 c) w := by
  simp [Builtin.cap_, run_underlying ht, goInt]
theorem sliceHi_run {P : Program} {t e k : Nat} {i : TypeInfo} {a : Option Addr} {n c h : Nat} {w : World} (ht : P.underlying t = some (.slice e)) (hi : P.info? e = some i) (hk : i.size = k) (hh : h ≤ c) :
    (Instr.sliceAt t (.slice a n c) none (some (.int .i64 h)) none).run P w = .ok (.slice (if c = 0 then a else a.map (·.add (0 * k))) h c) w := by
  have hel : P.elem t = e := by simp [Program.elem, ht]
  rw [run_sliceAt_slice _ _ _ _ _ _ (by rw [hel]; exact ht), run_slice_h _ _ _ _ _ (by rw [hel]; exact ht) _ _ (by omega) (by omega), hel]
  simp [sizeOf, typeInfo, hi, hk, sliced]
end Go.K
namespace Go.Proofs.YtmfplfaeibehiaaDoor
open Go Go.K

end Go.Proofs.YtmfplfaeibehiaaDoor

namespace Go.Proofs.YtmfplfaeibehiaaDoor
open Go Go.K

abbrev row5 (o : Dop) (rv sv pv : Value) : List Value := [.int .u8 o.kind, .int .i64 o.n, rv, sv, pv]
/-- the rows of the gap's inserts: the last one's runes lie in h, all else in C -/
def InsRows (C : Nat → Prop) (h : Nat) (W : World) (g : Nat) (ins : List Dop) : Prop := 0 < ins.length ∧ ∀ j (hj : j < ins.length), ∃ rv sv pv, OpAt W g j ins[j] rv sv pv ∧ RDop (fun x => C x ∨ x = h) W (row5 ins[j] rv sv pv) ins[j] ∧
  (j + 1 = ins.length → OwnR 0 21 1 RRune W rv ins[j].runes ∧ rv.ownBlock = some h ∧ RSet C W sv ins[j].set ∧ RPat C W pv ins[j].patch) ∧ (j + 1 < ins.length → RDop C W (row5 ins[j] rv sv pv) ins[j])
theorem OpAt.mod {W W' : World} {M : Nat → Prop} {g j : Nat} {o : Dop} {rv sv pv : Value} (h : OpAt W g j o rv sv pv) (hm : Mod M W W') (hg : ¬ M g) : OpAt W' g j o rv sv pv := fun q u hu => hm.cell (h q u hu) hg
theorem InsRows.mod {C M : Nat → Prop} {h : Nat} {W W' : World} {g : Nat} {ins : List Dop} (hi : InsRows C h W g ins) (hm : Mod M W W') (hg : ¬ M g) (hh : ¬ M h) (hC : ∀ x, C x → ¬ M x) : InsRows C h W' g ins := by
  refine ⟨hi.1, fun j hj => ?_⟩
  obtain ⟨rv, sv, pv, q1, q2, q3, q4⟩ := hi.2 j hj
  refine ⟨rv, sv, pv, q1.mod hm hg, q2.mod hm (fun b _ hb => by rcases hb with hb | rfl; exact hC b hb; exact hh) fun _ _ h => h, fun e => ?_, fun e => (q4 e).mod hm (fun b _ hb => hC b hb) fun _ _ h => h⟩
  obtain ⟨p1, p2, p3, p4⟩ := q3 e
  exact ⟨OwnR.mod p1 hm (fun g hg => by rw [p2] at hg; cases hg; exact hh) fun _ _ _ h => h, p2, p3.mono (fun _ _ h => h) (fun b hb hc => hm.same b hb (hC b hc)) (by decide) fun _ _ h => h, p4.mono (fun _ _ h => h) (fun b hb hc => hm.same b hb (hC b hc)) (by decide) fun _ _ h => h⟩
theorem RDop.cmod {C M : Nat → Prop} {W W' : World} {r : List Value} {o : Dop} (h : RDop C W r o) (hm : Mod M W W') (hC : ∀ x, C x → ¬ M x) : RDop C W' r o := h.mod hm (fun b _ hb => hC b hb) fun _ _ h => h
end Go.Proofs.YtmfplfaeibehiaaDoor

namespace Go.K
open Go
theorem OwnR.len {α β : Type} {B e k : Nat} {R : World → List Value → α → Prop} {w : World} {v : Value} {l : List α} (h : OwnR B e k R w v l) (l' : List β) (hl : l'.length = l.length) : OwnR B e k (fun _ _ (_ : β) => True) w v l' := by
  obtain ⟨rows, h1, h2, h3, _⟩ := h
  exact ⟨rows, by rw [hl]; exact h1, by rw [hl]; exact h2, h3, fun _ _ _ _ _ => trivial⟩
end Go.K
namespace Go.Proofs.YtmfplfaeibehiaaDoor
open Go Go.K

def lastSet (ins : List Dop) (set : List Attr) : Bool := match ins.getLast? with | some o => decide (o.set = set) | none => false
theorem getLast_get {l : List Dop} (h : 0 < l.length) : l.getLast? = some l[l.length - 1] := by
  rw [List.getLast?_eq_getElem?]; simp [show l.length - 1 < l.length by omega]
end Go.Proofs.YtmfplfaeibehiaaDoor

namespace Go.Proofs.YtmfplfaeibehiaaDoor
open Go Go.K

theorem set3 (W : World) (b : Nat) (u0 u1 u2 : Value) (l : ∀ q, q < 3 → Live W ⟨b, q, none⟩) : ∀ W', W' = ((W.setCell ⟨b, 0, none⟩ u0).setCell ⟨b, 1, none⟩ u1).setCell ⟨b, 2, none⟩ u2 → Mod (fun x => x = b) W W' ∧ W'.cell? ⟨b, 0, none⟩ = some u0 ∧ W'.cell? ⟨b, 1, none⟩ = some u1 ∧ W'.cell? ⟨b, 2, none⟩ = some u2 ∧ (∀ q, q < 3 → Live W' ⟨b, q, none⟩) := by
  rintro W' rfl
  have ne : ∀ q q', q ≠ q' → (⟨b, q, none⟩ : Addr) ≠ ⟨b, q', none⟩ := fun q q' hq e => by simp only [Addr.mk.injEq] at e; omega
  have m1 := setA W b 0 u0
  have m2 := setA (W.setCell ⟨b, 0, none⟩ u0) b 1 u1
  have m3 := setA ((W.setCell ⟨b, 0, none⟩ u0).setCell ⟨b, 1, none⟩ u1) b 2 u2
  refine ⟨(m1.trans m2).trans m3, ?_, ?_, ?_, fun q hq => (((l q hq).set _ _).set _ _).set _ _⟩
  · obtain ⟨u, hu⟩ := Option.isSome_iff_exists.1 (l 0 (by decide)).1
    rw [World.cell?_setCell_other _ _ _ _ (ne 2 0 (by decide)), World.cell?_setCell_other _ _ _ _ (ne 1 0 (by decide))]
    exact World.cell?_setCell_same _ _ _ hu
  · obtain ⟨u, hu⟩ := Option.isSome_iff_exists.1 ((l 1 (by decide)).set ⟨b, 0, none⟩ u0).1
    rw [World.cell?_setCell_other _ _ _ _ (ne 2 1 (by decide))]
    exact World.cell?_setCell_same _ _ _ hu
  · obtain ⟨u, hu⟩ := Option.isSome_iff_exists.1 (((l 2 (by decide)).set ⟨b, 0, none⟩ u0).set ⟨b, 1, none⟩ u1).1
    exact World.cell?_setCell_same _ _ _ hu
def lastPat (d : List Dop) (p : List Chg) : Bool := match d.getLast? with | some o => decide (o.kind = 1 ∧ o.patch = p) | none => false
end Go.Proofs.YtmfplfaeibehiaaDoor

namespace Go.Proofs.YtmfplfaeibehiaaDoor
open Go Go.K

theorem mDops_app (l m : List Dop) : mDops (l ++ m) = mDops l + mDops m := by simp [mDops]
theorem mDops_one (o : Dop) : mDops [o] = mDop o := by simp [mDops]
theorem gapL_m (ins : List Dop) (g : Int) : mDops (gapL ins g) ≤ mDops ins + 1 := by
  unfold gapL; split
  · rw [mDops_app, mDops_one]; simp [mDop, mSet, mPat]
  · omega
theorem putS_m (d : List Dop) (n : Int) (p : List Chg) : mDops (putS d n p) ≤ mDops d + 1 + mPat p := by
  rcases snoc_cases d with rfl | ⟨i, b, rfl⟩
  · simp [putS, mDops, mDop, mSet]
  · unfold putS
    rw [List.getLast?_append, List.getLast?_singleton, Option.some_or]
    simp only
    split
    · rw [set_last]
      simp only [mDops_app, mDops_one, mDop]; omega
    · simp only [mDops_app, mDops_one, mDop, mSet, List.length_nil, List.map_nil, List.sum_nil]; omega
theorem addI_m (d : List Dop) (rs : List Int) (set : List Attr) : mDops (addI d rs set) ≤ mDops d + 1 + rs.length + mSet set := by
  rcases snoc_cases d with rfl | ⟨i, b, rfl⟩
  · simp [addI, mDops, mDop, mPat]
  · unfold addI
    rw [List.getLast?_append, List.getLast?_singleton, Option.some_or]
    simp only
    split
    · rw [set_last]
      simp only [mDops_app, mDops_one, mDop, List.length_append]; omega
    · simp only [mDops_app, mDops_one, mDop, mPat, List.map_nil, List.sum_nil]; omega
theorem stepS_m (s : MkS) (o : Dop) : mDops (stepS s o).done + mDops (stepS s o).ins ≤ mDops s.done + mDops s.ins + 2 * mDop o := by
  have h0 : 1 ≤ mDop o := by simp [mDop]; omega
  unfold stepS
  split
  · unfold retS
    split
    · omega
    · have h1 := putS_m (s.done ++ gapL s.ins s.gone) o.n o.patch
      have h2 := gapL_m s.ins s.gone
      rw [mDops_app] at h1
      simp only [mDop] at h0 ⊢
      simp only [mDops, List.map_nil, List.sum_nil] at h1 h2 ⊢
      omega
  · split
    · unfold insS
      split
      · omega
      · have h1 := addI_m s.ins o.runes o.set
        simp only [mDop] at h0 ⊢
        omega
    · simp only [delS]; omega
theorem runS_m (x : List Dop) : mDops (runS x).done + mDops (runS x).ins ≤ 2 * mDops x := by
  induction x using rev_ind with
  | h0 => exact Nat.zero_le _
  | h1 x o ih =>
    have e : runS (x ++ [o]) = stepS (runS x) o := by simp [runS]
    rw [e, mDops_app, mDops_one]
    have := stepS_m (runS x) o
    omega
theorem mDops_sub {l : List Dop} : mDops (trimL l) ≤ mDops l := by
  unfold trimL
  split
  · split
    · rw [List.dropLast_eq_take]; exact mDops_le _ _
    · exact Nat.le_refl _
  · exact Nat.le_refl _
end Go.Proofs.YtmfplfaeibehiaaDoor

namespace Go.Proofs.YtmfplfaeibehiaaDoor
open Go Go.K

end Go.Proofs.YtmfplfaeibehiaaDoor

namespace Go.K
open Go
theorem SlR.rows {α : Type} {S : Nat → Prop} {k : Nat} {R : World → List Value → α → Prop} {w : World} {a : Option Addr} {c n : Nat} {m : List α} (hx : SlR S k R w (.slice a n c) m) (hone : ∀ r y, R w r y → ∀ u ∈ r, u.oneCell' = true) :
    ∃ rows' : List (List Value), rows'.length = m.length ∧ (∀ (i : Nat) (r : List Value), rows'[i]? = some r → r.length = k ∧ (∀ u ∈ r, u.oneCell' = true) ∧ (∃ p, a = some p ∧ ∀ j u, r[j]? = some u → w.cell? (p.add (i * k + j)) = some u) ∧ ∃ y, m[i]? = some y ∧ R w r y) := by
  obtain ⟨a', c', e, _, _, hel⟩ := hx
  cases e
  have gen : ∀ q, q ≤ m.length → ∃ rows' : List (List Value), rows'.length = q ∧ (∀ (i : Nat) (r : List Value), rows'[i]? = some r → r.length = k ∧ (∀ u ∈ r, u.oneCell' = true) ∧ (∃ p, a = some p ∧ ∀ j u, r[j]? = some u → w.cell? (p.add (i * k + j)) = some u) ∧ ∃ y, m[i]? = some y ∧ R w r y) := by
    intro q
    induction q with
    | zero => exact fun _ => ⟨[], rfl, fun i r h => by simp at h⟩
    | succ q ih =>
      intro hq
      obtain ⟨rs, e1, e2⟩ := ih (by omega)
      obtain ⟨p, r, f1, f2, f3, f4, f5⟩ := hel q m[q] (by simp [show q < m.length by omega])
      refine ⟨rs ++ [r], by simp [e1], fun i r' hr' => ?_⟩
      by_cases hi : i < q
      · rw [List.getElem?_append_left (by omega)] at hr'; exact e2 i r' hr'
      · have : i = q := by have := (List.getElem?_eq_some_iff.1 hr').1; simp [e1] at this; omega
        subst this
        rw [List.getElem?_append_right (by omega)] at hr'
        simp [e1] at hr'
        subst hr'
        exact ⟨f3, hone _ _ f5, ⟨p, f1, f4⟩, m[i], by simp [show i < m.length by omega], f5⟩
  exact gen m.length (Nat.le_refl _)
theorem append_new {α : Type} {P : Program} {t ty e k bytes b : Nat} {R : World → List Value → α → Prop} {S : Nat → Prop} {w : World} {x : Value} {m : List α} (hE : ElemOK P t e k bytes) (hb : w.heap[b]? = some (.cells #[] e (0, 0))) (hx : SlR S k R w x m)
    (hone : ∀ w r y, R w r y → ∀ u ∈ r, u.oneCell' = true) (h63 : m.length * bytes ≤ 140737488355328) (hR : ∀ w', w.grownBy w' (some b) → ∀ r y, R w r y → R w' r y) :
    ∃ v' w', (Builtin.append_ #[t, t] ty [.slice (some ⟨b, 0, none⟩) 0 0, x].toArray).run P w = .ok v' w' ∧ OwnR b e k R w' v' m ∧ Grow w w' ∧ ∀ g, v'.ownBlock = some g → g = b ∨ w.heap.size ≤ g := by
  obtain ⟨a, c, rfl, hm⟩ := hx.shape
  have hlt : b < w.heap.size := (Array.getElem?_eq_some_iff.1 hb).1
  have ho : OwnR b e k R w (.slice (some ⟨b, 0, none⟩) 0 0) ([] : List α) := ⟨[], ⟨by simp, .inr ⟨b, 0, #[], rfl, Nat.le_refl _, hb, Nat.le_refl _, by simp [maxLen], by simp, by simp⟩⟩, rfl, by simp, by simp⟩
  obtain ⟨v', w', hrun, r2, r3, r4⟩ := OwnR.append (ty := ty) hE ho hx (fun _ _ => hone _ _ _) (by simpa using h63) (by omega) (by simpa using hm) (fun w' hg r y hy => hR w' hg r y hy)
  refine ⟨v', w', hrun, by simpa using r2, ?_, fun g hg => ?_⟩
  · obtain ⟨i, z, ht, hi, hz, hs, hbt, hzs, hk⟩ := hE
    obtain ⟨rows', g1, g2⟩ := SlR.rows hx (fun _ _ => hone _ _ _)
    have hlen : ∀ r ∈ rows', r.length = k := fun r hr => by obtain ⟨j, hj⟩ := List.mem_iff_getElem?.1 hr; exact (g2 j r hj).1
    simp only [maxLen] at hm
    by_cases hm0 : m.length = 0
    · have h0 : (Builtin.append_ #[t, t] ty [.slice (some ⟨b, 0, none⟩) 0 0, .slice a m.length c].toArray).run P w = .ok (.slice (some ⟨b, 0, none⟩) 0 0) w := by
        rw [hm0]
        cases a <;> simp [Builtin.append_, run_underlying ht, sizeOf, typeInfo, hi, Builtin.lenOf, Builtin.firstCells, storeCells, loadCells, loadCellsFrom]
      rw [h0] at hrun
      cases hrun
      exact Mod.refl _ _
    · obtain ⟨p, r, f1, _⟩ := hx.get (i := 0) (by omega)
      subst f1
      have hr := run_append_grow (P := P) w t ty e i z ht hi hz ⟨b, 0, none⟩ 0 0 [] (by simp) (by simp) p m.length c rows'.flatten (by rw [flat_len rows' hlen, g1, hs]) (fun q u hu => by
        obtain ⟨r, hr, hru⟩ := flat_of_get hk rows' hlen q u hu
        obtain ⟨_, _, ⟨p', hp', hc'⟩, _⟩ := g2 _ r hr
        cases hp'
        have := hc' _ u hru
        rwa [Nat.div_add_mod'] at this) (by omega) (by omega) (growslice_fits (by omega) (by rw [hbt]; simpa using h63))
      have hr' : (Builtin.append_ #[t, t] ty [.slice (some ⟨b, 0, none⟩) 0 0, .slice (some p) m.length c].toArray).run P w = _ := hr
      rw [hr'] at hrun
      cases hrun
      exact (Mod.drew _ _).trans (Mod.alloc _ _ _)
  · rcases r4 g hg with h | h
    · exact .inl (by simpa [Value.ownBlock] using h.symm)
    · exact .inr h
end Go.K

namespace Go.Proofs.YtmfplfaeibehiaaDoor
open Go Go.K

def heldL (t : Tab (List Attr)) : List Int := t.places.map fun p => (p.held : Int)
def looseL (t : Tab (List Attr)) : List Int := t.free.map fun i : Nat => (i : Int)
/-- the sets that the document's table has of the table t -/
def SimS (t : Tab (List Attr)) (ss : List (List Attr)) : Prop := ss.length = t.places.length ∧ ∀ (i : Nat) (p : Ent (List Attr)), t.places[i]? = some p → 0 < p.held → ss[i]? = some p.set
/-- the document's table at block b that says what t says -/
def RefT (F : Nat → Prop) (W : World) (b : Nat) (kv : Value) (t : Tab (List Attr)) : Prop := ∃ C sv hv lv ss, RefR F C W b kv sv hv lv ss (heldL t) (looseL t) t.empty ∧ SimS t ss
section
variable {F C M : Nat → Prop} {W W' : World} {b : Nat} {kv sv hv lv : Value} {t : Tab (List Attr)}
theorem RefT.mod (h : RefT F W b kv t) (hm : Mod M W W') (hM : ∀ x, F x → ¬ M x) : RefT F W' b kv t := by
  obtain ⟨C, sv, hv, lv, ss, h, hs⟩ := h
  exact ⟨C, sv, hv, lv, ss, h.mod hm hM, hs⟩
theorem RefT.grow (h : RefT F W b kv t) (g : Grow W W') : RefT F W' b kv t := h.mod g fun _ _ h => h
theorem heldL_get {i : Nat} : (heldL t)[i]? = (t.places[i]?).map fun p => (p.held : Int) := by rw [heldL, List.getElem?_map]
theorem hasR_ask {id : Int} : hasR (heldL t) id = (t.ask [] id).isSome := by
  unfold hasR Tab.ask
  by_cases h0 : id = 0
  · simp [h0]
  by_cases h1 : id < 0
  · rw [if_neg h0, if_pos h1]; simp [h0]; omega
  rw [if_neg h0, if_neg h1, heldL_get, decide_eq_false h0, decide_eq_true (show 0 < id by omega)]
  cases t.places[(id - 1).toNat]? with
  | none => rfl
  | some p =>
    simp only [Option.map_some, Bool.false_or, Bool.true_and]
    split
    · rename_i e; simp [e]
    · rename_i e; simp; omega
/-- the answer of a call that may turn the document's table -/
def RAfter (F : Nat → Prop) (w w' : World) (b : Nat) (kv : Value) (t : Tab (List Attr)) : Prop := ∃ F', (∀ x, F' x → F x ∨ w.heap.size ≤ x ∧ x < w'.heap.size) ∧ RefT F' w' b kv t ∧ Mod F w w'
theorem heldL_set {i : Nat} {p : Ent (List Attr)} : heldL (t.setP i p) = (heldL t).set i p.held := by rw [heldL, Tab.setP, List.map_set]; rfl
theorem rhold_ok {id : Int} (h : RefT F W b kv t) (hs : t.Small 1099511627) (ha : (t.ask [] id).isSome) :
    callK Tryd.prog 38 [.pointer (some ⟨b, 0, none⟩), .int .i64 id] (fun _ w' => RAfter F W w' b kv (t.hold [] id)) W := by
  obtain ⟨p, hp⟩ := Option.isSome_iff_exists.1 ha
  obtain ⟨C, sv, hv, lv, ss, hR, hsim⟩ := h
  apply S38_ok
  unfold S38
  unfold Tab.hold
  rw [hp]
  dsimp only
  rw [eqK_i]
  refine condK_p (fun h0 => ?_) fun h0 => ?_
  · rw [if_pos h0]
    refine nilckK_s ?_
    rw [faK_i, addr0]
    refine ld1K_i (hR.cells 4 _ rfl) ?_
    have := hs.em
    rw [addK_i, wrap64 (by omega) (by omega)]
    refine nilckK_s ?_
    rw [faK_i, addr0]
    refine hR.setEm fun W' hR' hm => ⟨F, fun _ h => .inl h, ⟨C, sv, hv, lv, ss, ?_, hsim⟩, hm.mono fun x _ e => by rw [e]; exact hR.fb.1⟩
    exact hR'
  · rw [if_neg h0]
    obtain ⟨i, rfl, hi, hpos⟩ := Tab.ask_pos hp h0
    have hlt := (List.getElem?_eq_some_iff.1 hi).1
    have hle := hs.he p (List.mem_of_getElem? hi)
    have hlp := hs.pl
    refine nilckK_s ?_
    rw [faK_i, addr0]
    refine ld1K_i (hR.cells 2 _ rfl) ?_
    rw [subK_i, wrap64 (by omega) (by omega), show ((i : Int) + 1 - 1) = (i : Int) by omega]
    have hlt2 : i < (heldL t).length := by rw [heldL, List.length_map]; exact hlt
    have hv0 : (heldL t)[i] = (p.held : Int) := by
      have := heldL_get (t := t) (i := i)
      rw [hi, List.getElem?_eq_getElem hlt2] at this
      exact Option.some.inj this
    obtain ⟨a, c, e, _⟩ := hR.helds.shape
    have hsl := hR.helds.sl
    rw [e] at hsl
    obtain ⟨q, r, rfl, _, hr, hcc, hre⟩ := hsl.get hlt2
    rw [e]
    refine ixK_n hlt2 (ld1K_i (hcc 0 _ (by rw [show r = [.int .i64 (heldL t)[i]] from hre]; rfl)) ?_)
    rw [hv0, addK_i, wrap64 (by omega) (by omega)]
    refine ixK_n hlt2 ?_
    refine hR.setHeld e hlt2 fun W' hR' hm => ?_
    rw [Int.toNat_natCast]
    refine ⟨F, fun _ h => .inl h, ⟨C, sv, hv, lv, ss, ?_, ?_⟩, hm⟩
    · rw [heldL_set]
      rw [show ((⟨p.set, p.held + 1⟩ : Ent (List Attr)).held : Int) = (p.held : Int) + 1 by simp]
      exact hR'
    · refine ⟨by rw [hsim.1, Tab.setP, List.length_set], fun j q' hj hq => ?_⟩
      rw [Tab.setP, List.getElem?_set] at hj
      split at hj
      · rename_i e2; subst e2
        cases hj
        exact hsim.2 i p hi hpos
      · exact hsim.2 j q' hj hq
theorem rfree_ok {ks : List DKey} {id : Int} (h : RefT F W b kv t) (hs : t.Small 1099511627) (hinv : t.Inv (Held ks)) (ha : (t.ask [] id).isSome) :
    callK Tryd.prog 37 [.pointer (some ⟨b, 0, none⟩), .int .i64 id] (fun _ w' => RAfter F W w' b kv (t.release [] id)) W := by
  obtain ⟨p, hp⟩ := Option.isSome_iff_exists.1 ha
  obtain ⟨C, sv, hv, lv, ss, hR, hsim⟩ := h
  have hfl := Tab.free_le hinv
  apply S37_ok
  unfold S37
  unfold Tab.release
  rw [hp]
  dsimp only
  rw [eqK_i]
  refine condK_p (fun h0 => ?_) fun h0 => ?_
  · rw [if_pos h0]
    refine nilckK_s ?_
    rw [faK_i, addr0]
    refine ld1K_i (hR.cells 4 _ rfl) ?_
    have := hs.em
    rw [gtK_i]
    refine condK_p (fun hpos => ?_) fun hz => ?_
    · refine nilckK_s ?_
      rw [faK_i, addr0]
      refine ld1K_i (hR.cells 4 _ rfl) ?_
      rw [subK_i, wrap64 (by omega) (by omega)]
      refine nilckK_s ?_
      rw [faK_i, addr0]
      refine hR.setEm fun W' hR' hm => ⟨F, fun _ h => .inl h, ⟨C, sv, hv, lv, ss, ?_, hsim⟩, hm.mono fun x _ e => by rw [e]; exact hR.fb.1⟩
      rw [show ((t.empty : Int) - 1) = ((t.empty - 1 : Nat) : Int) by omega] at hR'
      exact hR'
    · refine ⟨F, fun _ h => .inl h, ⟨C, sv, hv, lv, ss, ?_, hsim⟩, Mod.refl _ _⟩
      have e0 : t.empty - 1 = t.empty := by omega
      rw [e0]
      exact hR
  · rw [if_neg h0]
    obtain ⟨i, rfl, hi, hpos⟩ := Tab.ask_pos hp h0
    have hlt := (List.getElem?_eq_some_iff.1 hi).1
    have hle := hs.he p (List.mem_of_getElem? hi)
    have hlp := hs.pl
    refine nilckK_s ?_
    rw [faK_i, addr0]
    refine ld1K_i (hR.cells 2 _ rfl) ?_
    rw [subK_i, wrap64 (by omega) (by omega), show ((i : Int) + 1 - 1) = (i : Int) by omega]
    have hlt2 : i < (heldL t).length := by rw [heldL, List.length_map]; exact hlt
    have hv0 : (heldL t)[i] = (p.held : Int) := by
      have := heldL_get (t := t) (i := i)
      rw [hi, List.getElem?_eq_getElem hlt2] at this
      exact Option.some.inj this
    obtain ⟨a, c, e, _⟩ := hR.helds.shape
    have hsl := hR.helds.sl
    rw [e] at hsl
    obtain ⟨q, r, rfl, _, hr, hcc, hre⟩ := hsl.get hlt2
    rw [e]
    refine ixK_n hlt2 (ld1K_i (hcc 0 _ (by rw [show r = [.int .i64 (heldL t)[i]] from hre]; rfl)) ?_)
    rw [hv0, subK_i, wrap64 (by omega) (by omega)]
    refine ixK_n hlt2 ?_
    refine hR.setHeld e hlt2 fun W' hR' hm => ?_
    rw [Int.toNat_natCast]
    refine nilckK_s ?_
    rw [faK_i, addr0]
    refine ld1K_i (hR'.cells 2 _ rfl) ?_
    rw [subK_i, wrap64 (by omega) (by omega), show ((i : Int) + 1 - 1) = (i : Int) by omega]
    have hlt3 : i < ((heldL t).set i ((p.held : Int) - 1)).length := by rw [List.length_set]; exact hlt2
    have hsl' := hR'.helds.sl
    rw [e] at hsl' ⊢
    rw [show (heldL t).length = ((heldL t).set i ((p.held : Int) - 1)).length by rw [List.length_set]] at hsl' ⊢
    obtain ⟨q', r', e9, _, hr', hcc', hre'⟩ := hsl'.get hlt3
    cases e9
    refine ixK_n hlt3 (ld1K_i (hcc' 0 _ (by rw [show r' = [.int .i64 _] from hre']; rfl)) ?_)
    rw [List.getElem_set_self, eqK_i]
    refine condK_p (fun hone => ?_) fun hone => ?_
    · have h1 : p.held = 1 := by omega
      rw [if_pos h1]
      refine nilckK_s ?_
      rw [faK_i, addr0]
      refine ld1K_i (hR'.cells 3 _ rfl) ?_
      rw [subK_i, wrap64 (by omega) (by omega), show ((i : Int) + 1 - 1) = (i : Int) by omega]
      refine push_g elem_int hR'.looses (Nat.zero_le _) (cs := [.int .i64 i]) (x := (i : Int)) (by kernel_rfl) rfl rfl (fun _ _ _ => RNum.one) (fun _ _ _ _ _ _ h => h) (by rw [looseL, List.length_map]; omega) (by rw [looseL, List.length_map]; simp only [maxLen]; omega) fun lv' W2 ho hm2 hn => ?_
      refine nilckK_s ?_
      rw [faK_i, addr0]
      have z1 := hm.size
      have z2 := hm2.size
      have hlt7 := OwnR.ownB ho
      refine hR'.setLo (F' := fun x => F x ∨ W'.heap.size ≤ x ∧ x < W2.heap.size) hm2 (fun _ h => h) (fun _ h => .inl h) ho (fun g hg => by
        rcases hn g hg with e | e
        · exact .inl e
        · exact .inr ⟨e, .inr ⟨e, (hlt7 g hg).2⟩⟩) fun W3 hR3 hm3 => ?_
      have z3 := hm3.size
      refine ⟨fun x => F x ∨ W'.heap.size ≤ x ∧ x < W2.heap.size, fun x hx => ?_, ⟨C, sv, hv, lv', ss, ?_, ?_⟩, ?_⟩
      · rcases hx with hx | hx
        · exact .inl hx
        · exact .inr ⟨by omega, by omega⟩
      · have e1 : heldL (t.drop [] i) = (heldL t).set i ((p.held : Int) - 1) := by rw [heldL, Tab.drop, List.map_set, h1]; rfl
        have e2 : looseL (t.drop [] i) = looseL t ++ [(i : Int)] := by simp [looseL, Tab.drop]
        rw [e1, e2]
        exact hR3
      · refine ⟨by rw [hsim.1, Tab.drop, List.length_set], fun j q' hj hq => ?_⟩
        rw [Tab.drop, List.getElem?_set] at hj
        split at hj
        · rename_i e2; subst e2
          cases hj
          exact absurd hq (by simp)
        · exact hsim.2 j q' hj hq
      · exact (hm.trans (hm2.mono fun x _ e => (hR'.lF x e).1)).trans (hm3.mono fun x _ e => by rw [e]; exact hR.fb.1)
    · have h1 : ¬ p.held = 1 := by omega
      rw [if_neg h1]
      refine ⟨F, fun _ h => .inl h, ⟨C, sv, hv, lv, ss, ?_, ?_⟩, hm⟩
      · rw [heldL_set]
        rw [show ((⟨p.set, p.held - 1⟩ : Ent (List Attr)).held : Int) = (p.held : Int) - 1 by simp only; omega]
        exact hR'
      · refine ⟨by rw [hsim.1, Tab.setP, List.length_set], fun j q' hj hq => ?_⟩
        rw [Tab.setP, List.getElem?_set] at hj
        split at hj
        · rename_i e2; subst e2
          cases hj
          exact hsim.2 i p hi hpos
        · exact hsim.2 j q' hj hq
end
end Go.Proofs.YtmfplfaeibehiaaDoor
