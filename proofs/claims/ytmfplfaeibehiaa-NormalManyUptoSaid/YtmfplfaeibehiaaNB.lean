/- More of the plain law of normal forms: how much they have, and that a gap's order is nothing. No program in sight. -/
import Derived.Test.YtmfplfaeibehiaaNA
namespace Go.Proofs.Ytmfplfaeibehiaa
open Go Go.K

def runesN (l : List Dop) : Nat := (l.map fun o => o.runes.length).sum
def goneN (l : List Dop) : Int := (l.map fun o => if o.kind = 3 then o.n else 0).sum
theorem runesN_app (l m : List Dop) : runesN (l ++ m) = runesN l + runesN m := by simp [runesN]
theorem goneN_app (l m : List Dop) : goneN (l ++ m) = goneN l + goneN m := by simp [goneN]
theorem runesN_one (o : Dop) : runesN [o] = o.runes.length := by simp [runesN]
theorem goneN_one (o : Dop) : goneN [o] = if o.kind = 3 then o.n else 0 := by simp [goneN]
theorem set_last (i : List Dop) (b o : Dop) : (i ++ [b]).set ((i ++ [b]).length - 1) o = i ++ [o] := by
  rw [List.set_append_right _ _ (by simp)]; simp
theorem putS_n (d : List Dop) (n : Int) (p : List Chg) : runesN (putS d n p) = runesN d ∧ goneN (putS d n p) = goneN d ∧ (putS d n p).length ≤ d.length + 1 := by
  rcases snoc_cases d with rfl | ⟨i, b, rfl⟩
  · exact ⟨by simp [putS, runesN], by simp [putS, goneN], by simp [putS]⟩
  · unfold putS
    rw [List.getLast?_append, List.getLast?_singleton, Option.some_or]
    simp only
    by_cases e : b.kind = 1 ∧ b.patch = p
    · rw [if_pos e, set_last]
      refine ⟨by simp only [runesN_app, runesN_one], ?_, by simp⟩
      simp only [goneN_app, goneN_one, e.1, show ¬ (1 : Int) = 3 by decide, if_false]
    · rw [if_neg e]
      exact ⟨by simp only [runesN_app, runesN_one, List.length_nil, Nat.add_zero], by simp only [goneN_app, goneN_one, show ¬ (1 : Int) = 3 by decide, if_false, Int.add_zero], by simp⟩
theorem addI_n (d : List Dop) (rs : List Int) (set : List Attr) : runesN (addI d rs set) = runesN d + rs.length ∧ (addI d rs set).length ≤ d.length + 1 := by
  rcases snoc_cases d with rfl | ⟨i, b, rfl⟩
  · exact ⟨by simp [addI, runesN], by simp [addI]⟩
  · unfold addI
    rw [List.getLast?_append, List.getLast?_singleton, Option.some_or]
    simp only
    by_cases e : b.set = set
    · rw [if_pos e, set_last]
      exact ⟨by simp only [runesN_app, runesN_one, List.length_append]; omega, by simp⟩
    · rw [if_neg e]
      exact ⟨by simp only [runesN_app, runesN_one], by simp⟩
theorem gapL_n {ins : List Dop} {g : Int} (h : InsC ins) (hg : 0 ≤ g) : runesN (gapL ins g) = runesN ins ∧ goneN (gapL ins g) = g ∧ (gapL ins g).length = ins.length + if 0 < g then 1 else 0 := by
  have hz : goneN ins = 0 := by
    have hk := h.kinds
    clear h
    induction ins with
    | nil => rfl
    | cons o l ih =>
      have := ih fun o ho => hk o (by simp [ho])
      have h2 := hk o (by simp)
      have e : goneN (o :: l) = (if o.kind = 3 then o.n else 0) + goneN l := by simp [goneN]
      rw [e, this, h2]; rfl
  unfold gapL
  by_cases h0 : 0 < g
  · rw [if_pos h0, if_pos h0]
    refine ⟨by simp only [runesN_app, runesN_one, List.length_nil, Nat.add_zero], ?_, by simp⟩
    simp only [goneN_app, goneN_one, if_true, hz]; omega
  · rw [if_neg h0, if_neg h0]
    exact ⟨rfl, by omega, by simp⟩
theorem DoneC.bare {d : List Dop} (h : DoneC d) : ∀ o ∈ d, o.kind = 1 → o.runes = [] := by
  induction h with
  | nil => intro o ho; simp at ho
  | snoc d ins gone n p h hi hg hb hn hp ih =>
    intro o ho hk
    rcases List.mem_append.1 ho with ho | ho
    · rcases List.mem_append.1 ho with ho | ho
      · exact ih o ho hk
      · unfold gapL at ho
        split at ho
        · rcases List.mem_append.1 ho with ho | ho
          · have := hi.kinds o ho; omega
          · simp at ho; subst ho; rfl
        · have := hi.kinds o ho; omega
    · simp at ho; subst ho; rfl
theorem short_run (x : List Dop) (h : ∀ o ∈ x, Form1 o) (hl : x.length ≤ 8589934592) :
    runesN (runS x).done + runesN (runS x).ins = runesN x ∧ goneN (runS x).done + (runS x).gone = goneN x ∧ (runS x).done.length + (runS x).ins.length + (if 0 < (runS x).gone then 1 else 0) ≤ x.length := by
  induction x using rev_ind with
  | h0 => exact ⟨rfl, rfl, by simp [runS, MkS.z]⟩
  | h1 x o ih =>
    have hx : ∀ o ∈ x, Form1 o := fun o ho => h o (by simp [ho])
    have ho := h o (by simp)
    simp only [List.length_append, List.length_cons, List.length_nil] at hl
    have hI := ih (fun o ho => hx o ho) (by omega)
    have c := canon_run x (fun o ho => hx o ho) (by omega)
    have h2 := sumN_form x fun o ho => hx o ho
    rw [runesN_app, goneN_app, runesN_one, goneN_one, List.length_append, List.length_singleton]
    unfold runS at hI c ⊢
    simp only [List.foldl_append, List.foldl_cons, List.foldl_nil]
    generalize x.foldl stepS MkS.z = s at hI c ⊢
    obtain ⟨done, ins, gone⟩ := s
    obtain ⟨c1, c2, c3, c4⟩ := c
    obtain ⟨i1, i2, i3⟩ := hI
    obtain ⟨k, n, rs, set, p⟩ := o
    simp only at c1 c2 c3 c4 i1 i2 i3 ⊢
    have hdn := c1.nn
    rcases ho with ⟨e1, e2, e3, e4, e5⟩ | ⟨e1, e2, e3, e4, e5, e6⟩ | ⟨e1, e2, e3, e4⟩
    · simp only at e1 e2 e3 e4 e5
      subst e1; subst e2; subst e3
      simp only [stepS, if_true, retS, if_neg (show ¬ n < 1 by omega)]
      obtain ⟨p1, p2, p3⟩ := putS_n (done ++ gapL ins gone) n p
      obtain ⟨g1, g2, g3⟩ := gapL_n c2 c3
      rw [p1, p2, runesN_app, goneN_app, g1, g2]
      rw [List.length_append, g3] at p3
      refine ⟨by simp [runesN] at i1 ⊢; omega, ?_, ?_⟩
      · simp only [show ¬ (1 : Int) = 3 by decide, if_false]; omega
      · simp only [List.length_nil, show ¬ (0 : Int) < 0 by decide, if_false]; omega
    · simp only at e1 e2 e3 e4 e5 e6
      subst e1; subst e2; subst e3; subst e4
      have : maxI n 0 = n := by unfold maxI; rw [if_neg (by omega)]
      simp only [stepS, show ¬ (3 : Int) = 1 by decide, show ¬ (3 : Int) = 2 by decide, if_false, delS, this, if_true]
      rw [wrap64 (by omega) (by omega)]
      refine ⟨by simp; omega, by omega, ?_⟩
      split <;> split at i3 <;> omega
    · simp only at e1 e2 e3 e4
      subst e1; subst e2; subst e3
      simp only [stepS, show ¬ (2 : Int) = 1 by decide, show ¬ (2 : Int) = 3 by decide, if_true, if_false, insS, if_neg e4]
      obtain ⟨a1, a2⟩ := addI_n ins rs set
      rw [a1]
      refine ⟨by omega, by omega, by omega⟩
theorem norm_short (x : List Dop) (h : ∀ o ∈ x, Form1 o) (hl : x.length ≤ 8589934592) : runesN (normB x) = runesN x ∧ goneN (normB x) = goneN x ∧ (normB x).length ≤ x.length := by
  obtain ⟨h1, h2, h3⟩ := short_run x h hl
  have c := canon_run x h hl
  obtain ⟨g1, g2, g3⟩ := gapL_n c.ins c.gone
  have e1 : runesN ((runS x).done ++ gapL (runS x).ins (runS x).gone) = runesN x := by rw [runesN_app, g1]; exact h1
  have e2 : goneN ((runS x).done ++ gapL (runS x).ins (runS x).gone) = goneN x := by rw [goneN_app, g2]; exact h2
  have e3 : ((runS x).done ++ gapL (runS x).ins (runS x).gone).length ≤ x.length := by rw [List.length_append, g3]; omega
  have e4 : ∀ o ∈ (runS x).done ++ gapL (runS x).ins (runS x).gone, o.kind = 1 → o.runes = [] := by
    intro o ho hk
    rcases List.mem_append.1 ho with ho | ho
    · exact c.done.bare o ho hk
    · unfold gapL at ho
      split at ho
      · rcases List.mem_append.1 ho with ho | ho
        · have := c.ins.kinds o ho; omega
        · simp at ho; subst ho; rfl
      · have := c.ins.kinds o ho; omega
  unfold normB opsS
  generalize (runS x).done ++ gapL (runS x).ins (runS x).gone = l at e1 e2 e3 e4
  unfold trimL
  rcases snoc_cases l with rfl | ⟨i, b, rfl⟩
  · exact ⟨e1, e2, e3⟩
  · rw [List.getLast?_append, List.getLast?_singleton, Option.some_or]
    simp only
    by_cases e : b.kind = 1 ∧ b.patch = []
    · rw [if_pos e, List.dropLast_concat]
      have := e4 b (by simp) e.1
      rw [runesN_app, runesN_one, this] at e1
      rw [goneN_app, goneN_one, if_neg (by rw [e.1]; decide)] at e2
      simp at e1 e2 e3
      exact ⟨e1, e2, by omega⟩
    · rw [if_neg e]; exact ⟨e1, e2, e3⟩

/-! ### another order at each gap -/
def delB (g : Int) : Dop := ⟨3, g, [], [], []⟩
def flushM (ahead : Bool) (y gap : List Dop) (gone : Int) : List Dop :=
  (if 0 < gone ∧ ahead = true then y ++ [delB gone] else y) ++ gap ++ (if 0 < gone ∧ ahead = false then [delB gone] else [])
structure ManyS where
  y : List Dop
  gap : List Dop
  gone : Int
def manyF (ahead : Bool) (a : ManyS) (o : Dop) : ManyS :=
  if o.kind = 1 then ⟨flushM ahead a.y a.gap a.gone ++ [o], [], 0⟩ else if o.kind = 2 then ⟨a.y, a.gap ++ [o], a.gone⟩ else ⟨a.y, a.gap, IntKind.i64.wrap (a.gone + o.n)⟩
def manyR (ahead : Bool) (x : List Dop) : ManyS := x.foldl (manyF ahead) ⟨[], [], 0⟩
def manyB (ahead : Bool) (x : List Dop) : List Dop := flushM ahead (manyR ahead x).y (manyR ahead x).gap (manyR ahead x).gone
theorem flush_run {ahead : Bool} {y gap ins d : List Dop} {g : Int} (h1 : runS y = ⟨d, [], 0⟩) (h2 : ∀ g, gap.foldl stepS ⟨d, [], g⟩ = ⟨d, ins, g⟩) (h0 : 0 ≤ g) (hb : g ≤ 4611686018427387904) : runS (flushM ahead y gap g) = ⟨d, ins, g⟩ := by
  have hd : ∀ i : List Dop, stepS ⟨d, i, 0⟩ (delB g) = ⟨d, i, g⟩ := by
    intro i
    have : maxI g 0 = g := by unfold maxI; rw [if_neg (by omega)]
    simp only [delB, stepS, show ¬ (3 : Int) = 1 by decide, show ¬ (3 : Int) = 2 by decide, if_false, delS, this]
    rw [wrap64 (by omega) (by omega)]; congr 1; omega
  unfold runS at h1 ⊢
  unfold flushM
  by_cases hg : 0 < g
  · cases ahead with
    | true => simp only [hg, true_and, if_true, Bool.true_eq_false, if_false, List.append_nil, List.foldl_append, List.foldl_cons, List.foldl_nil, h1, hd, h2]
    | false => simp only [hg, true_and, if_true, Bool.false_eq_true, if_false, List.foldl_append, List.foldl_cons, List.foldl_nil, h1, hd, h2]
  · have : g = 0 := by omega
    subst this
    simp only [hg, false_and, if_false, List.append_nil, List.foldl_append, h1, h2]
theorem many_run (ahead : Bool) (x : List Dop) (h : ∀ o ∈ x, Form1 o) (hl : x.length ≤ 8589934592) :
    runS (manyR ahead x).y = ⟨(runS x).done, [], 0⟩ ∧ (manyR ahead x).gone = (runS x).gone ∧ ∀ g, (manyR ahead x).gap.foldl stepS ⟨(runS x).done, [], g⟩ = ⟨(runS x).done, (runS x).ins, g⟩ := by
  induction x using rev_ind with
  | h0 => exact ⟨rfl, rfl, fun g => rfl⟩
  | h1 x o ih =>
    have hx : ∀ o ∈ x, Form1 o := fun o ho => h o (by simp [ho])
    have ho := h o (by simp)
    simp only [List.length_append, List.length_cons, List.length_nil] at hl
    have hI := ih (fun o ho => hx o ho) (by omega)
    have c := canon_run x (fun o ho => hx o ho) (by omega)
    have h2 := sumN_form x fun o ho => hx o ho
    have e0 : runS (x ++ [o]) = stepS (runS x) o := by simp [runS]
    have e1 : manyR ahead (x ++ [o]) = manyF ahead (manyR ahead x) o := by simp [manyR]
    rw [e0, e1]
    obtain ⟨i1, i2, i3⟩ := hI
    have hfl : runS (flushM ahead (manyR ahead x).y (manyR ahead x).gap (manyR ahead x).gone) = runS x := by
      have := flush_run (ahead := ahead) i1 i3 c.gone (by have := c.sum; have := c.done.nn; omega)
      rw [i2]; exact this
    obtain ⟨k, n, rs, set, p⟩ := o
    rcases ho with ⟨q1, q2, q3, q4, q5⟩ | ⟨q1, q2, q3, q4, q5, q6⟩ | ⟨q1, q2, q3, q4⟩
    · simp only at q1 q2 q3 q4 q5
      subst q1
      simp only [manyF, if_true]
      have e2 : ∀ (l : List Dop) (o : Dop), runS (l ++ [o]) = stepS (runS l) o := fun l o => by simp [runS]
      rw [e2, hfl]
      simp only [stepS, if_true, retS, if_neg (show ¬ n < 1 by omega)]
      exact ⟨by trivial, by trivial, fun g => rfl⟩
    · simp only at q1 q2 q3 q4 q5 q6
      subst q1
      have : maxI n 0 = n := by unfold maxI; rw [if_neg (by omega)]
      simp only [manyF, stepS, show ¬ (3 : Int) = 1 by decide, show ¬ (3 : Int) = 2 by decide, if_false, delS, this]
      exact ⟨i1, by rw [i2], i3⟩
    · simp only at q1 q2 q3 q4
      subst q1
      simp only [manyF, stepS, show ¬ (2 : Int) = 1 by decide, if_true, if_false, insS, if_neg q4]
      refine ⟨i1, i2, fun g => ?_⟩
      rw [List.foldl_append, i3 g]
      simp only [List.foldl_cons, List.foldl_nil, stepS, show ¬ (2 : Int) = 1 by decide, if_true, if_false, insS, if_neg q4]
theorem norm_many (ahead : Bool) (x : List Dop) (h : ∀ o ∈ x, Form1 o) (hl : x.length ≤ 8589934592) : normB (manyB ahead x) = normB x := by
  obtain ⟨i1, i2, i3⟩ := many_run ahead x h hl
  have c := canon_run x h hl
  have h2 := sumN_form x h
  have := flush_run (ahead := ahead) i1 i3 c.gone (by have := c.sum; have := c.done.nn; omega)
  unfold normB manyB
  rw [i2, this]
end Go.Proofs.Ytmfplfaeibehiaa
