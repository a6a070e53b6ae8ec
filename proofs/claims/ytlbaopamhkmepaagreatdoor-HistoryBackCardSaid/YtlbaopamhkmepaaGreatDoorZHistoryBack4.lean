/- HistoryBack: for every input the law returns true, and each argument reads behind the call as it read before; the two tables tied. No conditions. -/
import Derived.Test.YtlbaopamhkmepaaGreatDoorZHistoryBack3
import Derived.Test.YtlbaopamhkmepaaGreatDoorTie
import Derived.Test.YtlbaopamhkmepaaGreatDoorCards
import Derived.WalkKit
import Derived.OpenShut
import Derived.ShutString
import Derived.ChangeOld
import Derived.ChangeVars
import Derived.JoinedOf
import Derived.SevenTiedAt
namespace Go.K
open Go
def Tab.hold {α : Type} (t : Tab α) (z : α) (id : Int) : Tab α := match t.ask z id with
  | none => t
  | some p => if id = 0 then { t with empty := t.empty + 1 } else t.setP (id - 1).toNat ⟨p.set, p.held + 1⟩
end Go.K
namespace Go.Proofs.YtlbaopamhkmepaaGreatDoor
open Go Go.K

end Go.Proofs.YtlbaopamhkmepaaGreatDoor

namespace Go.K
open Go
/-- what adding a set that may be comes to: its id, the table behind it -/
def Tab.Added {α : Type} (t : Tab α) (z s : α) (id : Int) (t' : Tab α) : Prop :=
  (s = z ∧ id = 0 ∧ t' = { t with empty := t.empty + 1 }) ∨ (s ≠ z ∧ ∃ i n : Nat, t.places[i]? = some ⟨s, n⟩ ∧ 0 < n ∧ id = (i : Int) + 1 ∧ t' = t.setP i ⟨s, n + 1⟩) ∨
    (s ≠ z ∧ (∀ (i : Nat) (p : Ent α), t.places[i]? = some p → 0 < p.held → p.set ≠ s) ∧ id = ((t.put s).1 : Int) + 1 ∧ t' = (t.put s).2)
end Go.K
namespace Go.Proofs.YtlbaopamhkmepaaGreatDoor
open Go Go.K

end Go.Proofs.YtlbaopamhkmepaaGreatDoor

namespace Go.K
open Go
theorem Tab.Added.new {α : Type} {t t' : Tab α} {z s : α} {id : Int} (h : t.Added z s id t') (hz : s ≠ z) (hn : ∀ (i : Nat) (p : Ent α), t.places[i]? = some p → 0 < p.held → p.set ≠ s) : id = ((t.put s).1 : Int) + 1 ∧ t' = (t.put s).2 := by
  rcases h with ⟨h, _⟩ | ⟨_, i, n, h, h0, _⟩ | ⟨_, _, h1, h2⟩
  · exact absurd h hz
  · exact absurd rfl (hn i _ h h0)
  · exact ⟨h1, h2⟩
theorem Tab.Added.old {α : Type} {t t' : Tab α} {z s : α} {id : Int} {i n : Nat} {G : α → Prop} (h : t.Added z s id t') (hi : t.Inv G) (hz : s ≠ z) (hp : t.places[i]? = some ⟨s, n⟩) (hn : 0 < n) : id = (i : Int) + 1 ∧ t' = t.setP i ⟨s, n + 1⟩ := by
  rcases h with ⟨h, _⟩ | ⟨_, j, m, h, h0, h1, h2⟩ | ⟨_, h1, _⟩
  · exact absurd h hz
  · have e := hi.uni i j _ _ hp h hn h0 rfl
    subst e
    rw [hp] at h; cases h
    exact ⟨h1, h2⟩
  · exact absurd rfl (h1 i _ hp hn)
theorem Tab.Added.empty {α : Type} {t t' : Tab α} {z : α} {id : Int} (h : t.Added z z id t') : id = 0 ∧ t' = { t with empty := t.empty + 1 } := by
  rcases h with ⟨_, h1, h2⟩ | ⟨h, _⟩ | ⟨h, _⟩
  · exact ⟨h1, h2⟩
  · exact absurd rfl h
  · exact absurd rfl h
end Go.K
namespace Go.Proofs.YtlbaopamhkmepaaGreatDoor
open Go Go.K

section
variable {w0 W : World} {F : Nat → Prop} {b : Nat} {ks : List DKey} {t : Tab (List Attr)}
end
end Go.Proofs.YtlbaopamhkmepaaGreatDoor

namespace Go.Proofs.YtlbaopamhkmepaaGreatDoor
open Go Go.K

theorem Small.up {t : Tab (List Attr)} (h : t.Small 1099511627) : t.Small 1099511627776 := ⟨by have := h.pl; omega, by have := h.em; omega, fun p hp => by have := h.he p hp; omega⟩
end Go.Proofs.YtlbaopamhkmepaaGreatDoor

namespace Go.K
open Go
theorem Tab.Small.added {α : Type} {t t' : Tab α} {z s : α} {id : Int} {N : Nat} (h : t.Small N) (ha : t.Added z s id t') : t'.Small (N + 1) := by
  have up : ∀ p ∈ t.places, p.held ≤ N + 1 := fun p hp => Nat.le_succ_of_le (h.he p hp)
  have hpl := h.pl
  have hem := h.em
  rcases ha with ⟨_, _, rfl⟩ | ⟨_, i, n, hp, hn, _, rfl⟩ | ⟨_, _, _, rfl⟩
  · exact ⟨Nat.le_succ_of_le h.pl, Nat.succ_le_succ h.em, up⟩
  · refine ⟨?_, Nat.le_succ_of_le h.em, fun p hp' => ?_⟩
    · show (t.places.set i _).length ≤ _
      rw [List.length_set]; omega
    · rcases List.mem_or_eq_of_mem_set hp' with hp' | rfl
      · exact up p hp'
      · have := h.he _ (List.mem_of_getElem? hp)
        simp only at this ⊢
        omega
  · unfold Tab.put
    cases t.free.getLast? with
    | some i =>
      refine ⟨?_, Nat.le_succ_of_le h.em, fun p hp' => ?_⟩
      · show (t.places.set i _).length ≤ _
        rw [List.length_set]; omega
      · rcases List.mem_or_eq_of_mem_set hp' with hp' | rfl
        · exact up p hp'
        · simp
    | none =>
      refine ⟨?_, Nat.le_succ_of_le h.em, fun p hp' => ?_⟩
      · show (t.places ++ [_]).length ≤ _
        rw [List.length_append, List.length_singleton]; omega
      · rcases List.mem_append.1 hp' with hp' | hp'
        · exact up p hp'
        · rw [List.mem_singleton] at hp'; subst hp'; simp
theorem Tab.Small.hold {α : Type} {t : Tab α} {z : α} {id : Int} {N : Nat} (h : t.Small N) : (t.hold z id).Small (N + 1) := by
  unfold Tab.hold
  have hpl := h.pl
  have hem := h.em
  cases ha : t.ask z id with
  | none => exact ⟨Nat.le_succ_of_le h.pl, Nat.le_succ_of_le h.em, fun p hp => Nat.le_succ_of_le (h.he p hp)⟩
  | some p =>
    dsimp only
    split
    · exact ⟨by show t.places.length ≤ _; omega, by show t.empty + 1 ≤ _; omega, fun p hp => Nat.le_succ_of_le (h.he p hp)⟩
    · rename_i h0
      refine ⟨by show (t.places.set _ _).length ≤ _; rw [List.length_set]; omega, by show t.empty ≤ _; omega, fun q hq => ?_⟩
      rcases List.mem_or_eq_of_mem_set hq with hq | rfl
      · exact Nat.le_succ_of_le (h.he q hq)
      · obtain ⟨i, _, hp, _⟩ := Tab.ask_pos ha h0
        have := h.he _ (List.mem_of_getElem? hp)
        simp only; omega
/-- a set has an id -/
def Tab.Has {α : Type} (t : Tab α) (z s : α) (id : Int) (n : Nat) : Prop := t.ask z id = some ⟨s, n⟩ ∧ 0 < n ∧ (id = 0 ↔ s = z)
theorem Tab.Has.zero {α : Type} {t : Tab α} {z s : α} {n : Nat} (h : t.Has z s 0 n) : s = z ∧ t.empty = n := by
  have h1 := h.1
  unfold Tab.ask at h1
  rw [if_pos rfl] at h1
  cases h1
  exact ⟨rfl, rfl⟩
theorem Tab.Has.pos {α : Type} {t : Tab α} {z s : α} {id : Int} {n : Nat} (h : t.Has z s id n) (h0 : id ≠ 0) : ∃ i : Nat, id = (i : Int) + 1 ∧ t.places[i]? = some ⟨s, n⟩ := by
  obtain ⟨i, e, hp, _⟩ := Tab.ask_pos h.1 h0
  exact ⟨i, e, hp⟩
theorem Tab.Has.mkz {α : Type} {t : Tab α} {z : α} (h : 0 < t.empty) : t.Has z z 0 t.empty := ⟨by unfold Tab.ask; rw [if_pos rfl], h, by simp⟩
theorem Tab.Has.mkp {α : Type} {t : Tab α} {z s : α} {i n : Nat} (hs : s ≠ z) (hp : t.places[i]? = some ⟨s, n⟩) (hn : 0 < n) : t.Has z s ((i : Int) + 1) n := ⟨Tab.ask_at hp hn, hn, ⟨fun h => by omega, fun h => absurd h hs⟩⟩
/-- what was added is there -/
theorem Tab.Added.has {α : Type} {t t' : Tab α} {z x : α} {k : Int} {G : α → Prop} (h : t.Added z x k t') (hi : t.Inv G) (hg : x ≠ z → G x) : ∃ n, t'.Has z x k n := by
  rcases h with ⟨rfl, rfl, rfl⟩ | ⟨hz, i, n, hp, hn, rfl, rfl⟩ | ⟨hz, hno, rfl, rfl⟩
  · exact ⟨t.empty + 1, Tab.Has.mkz (t := { t with empty := t.empty + 1 }) (Nat.succ_pos _)⟩
  · have hlt := (List.getElem?_eq_some_iff.1 hp).1
    exact ⟨n + 1, Tab.Has.mkp hz (by show (t.places.set i _)[i]? = _; rw [List.getElem?_set_self hlt]) (Nat.succ_pos _)⟩
  · obtain ⟨_, h1, _⟩ := Tab.put_spec hi (hg hz) hno
    exact ⟨1, Tab.Has.mkp hz h1 Nat.one_pos⟩
end Go.K

namespace Go.Proofs.YtlbaopamhkmepaaGreatDoor
open Go Go.K

/-- a row of sets -/
def RSetV (S : Nat → Prop) : World → List Value → List Attr → Prop := fun w r x => ∃ sv, r = [sv] ∧ RSet S w sv x
theorem RSetV.mod {S M : Nat → Prop} {w w' : World} {r : List Value} {x : List Attr} (h : RSetV S w r x) (hm : Mod M w w') (hS : ∀ b, b < w.heap.size → S b → ¬ M b) : RSetV S w' r x := by
  obtain ⟨sv, e, hs⟩ := h
  exact ⟨sv, e, hs.mod hm hS (by decide) fun _ _ h => h⟩
end Go.Proofs.YtlbaopamhkmepaaGreatDoor

namespace Go.Proofs.YtlbaopamhkmepaaGreatDoor
open Go Go.K
open Go.ChangeShapes Go.WideShapes Go.ChangeAt Go.RowKit Go.Joins
variable {H : Type} {enc : TypeId × Value → H} {w : World} {base : Nat} {spare : Nat → Bool} {held : Bool}
theorem num_of_trod {n : Nat} {cs : List Value} {y : DataW H × List MemPlace} (h : DataW.trod enc Tryz.prog w base spare held n 3 cs = some y) : ∃ x : Int, RNum w cs x := by
  obtain ⟨k, rfl, e, _⟩ := DataW.trod_int Tryz.underlying3 h
  subst e
  exact ⟨k, rfl⟩
theorem nums_of_trod {n : Nat} {cs : List Value} {y : DataW H × List MemPlace} (h : DataW.trod enc Tryz.prog w base spare held n 22 cs = some y) : ∃ v l, cs = [v] ∧ SlR (fun _ => True) 1 RNum w v l :=
  SlR.of_trod Tryz.underlying22 (by kernel_rfl) (fun _ _ _ h => num_of_trod h) h
/-- a call of a script -/
structure HOp where
  kind : Int
  d : List Dop
  u : List Dop
def RHOp (S : Nat → Prop) : World → List Value → HOp → Prop := fun w r x => ∃ dv uv, r = [.int .i64 x.kind, dv, uv] ∧ RDops S S w dv x.d ∧ RDops S S w uv x.u
theorem RHOp.one {S : Nat → Prop} {w : World} {r : List Value} {x : HOp} (h : RHOp S w r x) : ∀ u ∈ r, u.oneCell' = true := by
  obtain ⟨dv, uv, rfl, h1, h2⟩ := h
  obtain ⟨a, c, rfl, _⟩ := h1.shape
  obtain ⟨a', c', rfl, _⟩ := h2.shape
  intro u hu
  simp at hu
  rcases hu with rfl | rfl | rfl <;> rfl
theorem RHOp.mod {S M : Nat → Prop} {w w' : World} {r : List Value} {x : HOp} (h : RHOp S w r x) (hm : Mod M w w') (hS : ∀ b, b < w.heap.size → S b → ¬ M b) : RHOp S w' r x := by
  obtain ⟨dv, uv, e, h1, h2⟩ := h
  exact ⟨dv, uv, e, RDops.mod h1 hm hS hS, RDops.mod h2 hm hS hS⟩
end Go.Proofs.YtlbaopamhkmepaaGreatDoor

namespace Go.Proofs.YtlbaopamhkmepaaGreatDoor
open Go Go.K
open Go.ChangeShapes Go.WideShapes Go.ChangeAt Go.RowKit
set_option linter.unusedVariables false

theorem ownK : ownKnob Tryz.prog.godebug = none := by kernel_rfl
theorem laidOut : laidOutB Tryz.prog = true := by kernel_rfl

set_option maxRecDepth 100000 in
theorem HistoryBack_lifted (os : Os) (started : os.Started) (H : Type) (enc : TypeId × Value → H) :
    ReturnsInHanded {} Tryz.checked os 3 .any (fun w args => (Rows.historyBackSpec.pre enc Tryz.prog Tryz.f3 [] false w args ∧ laidMetH Tryz.prog Rows.historyBackRow.laid w) ∧ sizedMet enc Tryz.prog Tryz.f3 (OpenSpec.ofChange Rows.historyBackSpec) false w args)
      (Rows.historyBackSpec.post enc Tryz.prog Tryz.f3 false true false false) := by
  refine returnsInHanded_of_change_and (C := Tryz.checked) (X := fun w _ => laidMetH Tryz.prog Rows.historyBackRow.laid w) (fun _ _ _ hh h => h.of_heap hh) ownK started (by kernel_rfl) Tryz.func3
    (ChangeSpec.witness_at (enc := enc) (C := Tryz.checked) (os := os) (X := fun w _ => laidMetH Tryz.prog Rows.historyBackRow.laid w) false (laidWorld os) #[.int .i64 0, .slice none 0 0] 8 rfl (by kernel_rfl) (by kernel_rfl) (by kernel_rfl) (by kernel_rfl) (by kernel_rfl) (laidWorld_met os _)) ?_
  intro W base args ds gs before hval0 hW _ _ hL _
  have hW' := hW
  obtain ⟨p, q, hA0, hV, rfl, hfz, hnd⟩ := hW
  have hA : DataW.TrodAll enc Tryz.prog W 0 (fun _ => true) true Tryz.f3.params.toList args.toList ds p := hA0
  have hval : ∀ (j : Nat) t v, Tryz.f3.params[j]? = some t → args[j]? = some v → Value.okWide Tryz.prog W .any base t v := hval0
  rw [Tryz.params3] at hA hval
  have htab : Tabs W := tabs_of_laid hL
  obtain ⟨v0, vs0, d0, ds0, p0, q0, hargs, rfl, rfl, h0, r0⟩ := trodAll_cons hA
  obtain ⟨v1, vs1, d1, ds1, p1, q1, rfl, rfl, rfl, h1, r1⟩ := trodAll_cons r0
  obtain ⟨rfl, rfl, rfl⟩ := trodAll_nil r1
  obtain rfl : args = #[v0, v1] := by cases args; simp_all
  obtain ⟨rfl, rfl⟩ := trodVars_none hV
  obtain ⟨x0, rfl, rfl, rfl, w0⟩ := open_int Tryz.underlying3 (hval 0 3 v0 rfl rfl) h0
  have lt1 : ∀ x ∈ p1, x.block < W.heap.size := by obtain ⟨m, hm⟩ := h1; exact DataW.trod_lt m _ _ _ hm
  obtain ⟨fuel1, hf1⟩ := id h1
  obtain ⟨u1, l1, e1, s1⟩ := nums_of_trod hf1
  obtain ⟨a1, n1, c1, rfl⟩ := okWide_slice Tryz.underlying22 (hval 1 22 v1 rfl rfl)
  simp only [Value.cells, List.cons.injEq, and_true] at e1
  subst e1
  clear hA0 hval0
  refine (HistoryBack_ok s1).mono fun e W' ⟨v, he, hv, hg⟩ => ?_
  subst he; subst hv
  have bel : Below W.heap.size W W' := Mod.below hg (Nat.le_refl _) fun _ h => h.elim
  exact ⟨_, rfl, _, _, _, [], _, [], hW', trodAll_mk1 (shut_bool Tryz.underlying4 _), (trodAll_cons_mk (shut_int Tryz.underlying3 w0) (trodAll_cons_mk (Below.trod laidOut (by kernel_rfl) (of_decide_eq_true (by kernel_rfl)) h1 bel lt1) trodAll_mk0)), rfl, bel.frame _, fun h => by cases h⟩
/-- the row -/
theorem HistoryBack_said : Rows.HistoryBackSaid :=
  OpenClaim.holds_of_wide 3 Tryz.f3 rfl rfl rfl rfl rfl rfl rfl ⟨rfl, rfl, rfl, rfl, rfl⟩ rfl rfl rfl rfl rfl (by kernel_rfl) Tryz.func3 (by kernel_rfl)
    (of_decide_eq_true (by kernel_rfl)) (by unfold Func.isWrapper; first | (rw [if_pos (by decide +kernel)]; kernel_rfl) | (rw [if_neg (by decide +kernel)]; exact ⟨rfl, rfl⟩))
    (fun os started H enc _ => HistoryBack_lifted os started H enc)
/-- the statement: the tied card -/
theorem HistoryBack_proved : Rows.HistoryBackCardSaid :=
  Claim7.holds_tied_plain_at .later [] [.data, .pinned] true Rows.historyBackCard.stood.harness false
    HistoryBack_said (fun _ h => by cases h) (by kernel_rfl) (fun _ h => by cases h) historyBack_row_tie rfl ⟨rfl, rfl⟩ (by kernel_rfl) rfl
    (fun f fn hf hfn => by
      obtain rfl : f = 3 := Option.some.inj ((show Tryz.prog.funcNamed "rubric/rubriclaw27.HistoryBack" = some 3 by kernel_rfl).symm.trans hf) |>.symm
      obtain rfl : fn = Tryz.f3 := (Option.some.inj (Tryz.func3.symm.trans hfn)).symm
      exact ⟨by kernel_rfl, fun j t ht => by
        rw [Tryz.params3] at ht
        have hm : t ∈ [3, 22] := by simpa using Array.mem_of_getElem? ht
        have hall : ([3, 22].all fun u => !Tryz.prog.wantsStandIn u) = true := by kernel_rfl
        exact (show Tryz.prog.wantsStandIn t = false by simpa using List.all_eq_true.1 hall t hm)⟩)
    (by kernel_rfl)
#print axioms HistoryBack_proved
end Go.Proofs.YtlbaopamhkmepaaGreatDoor
