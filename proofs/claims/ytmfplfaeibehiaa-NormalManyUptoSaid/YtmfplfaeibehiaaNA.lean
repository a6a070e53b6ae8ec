/- The plain law of normal forms: the program's maker and the document's form agree, and what holds of a form. No program in sight. -/
import Derived.Test.YtmfplfaeibehiaaOA
namespace Go.Proofs.Ytmfplfaeibehiaa
open Go Go.K

structure MkS where
  done : List Dop
  ins : List Dop
  gone : Int
def MkS.z : MkS := ⟨[], [], 0⟩
def gapL (ins : List Dop) (gone : Int) : List Dop := if 0 < gone then ins ++ [⟨3, gone, [], [], []⟩] else ins
def putS (d : List Dop) (n : Int) (p : List Chg) : List Dop :=
  match d.getLast? with
  | some o => if o.kind = 1 ∧ o.patch = p then d.set (d.length - 1) ⟨o.kind, IntKind.i64.wrap (o.n + n), o.runes, o.set, o.patch⟩ else d ++ [⟨1, n, [], [], p⟩]
  | none => d ++ [⟨1, n, [], [], p⟩]
def retS (s : MkS) (n : Int) (p : List Chg) : MkS := if n < 1 then s else ⟨putS (s.done ++ gapL s.ins s.gone) n p, [], 0⟩
def addI (ins : List Dop) (rs : List Int) (set : List Attr) : List Dop :=
  match ins.getLast? with
  | some o => if o.set = set then ins.set (ins.length - 1) ⟨o.kind, o.n, o.runes ++ rs, o.set, o.patch⟩ else ins ++ [⟨2, 0, rs, set, []⟩]
  | none => ins ++ [⟨2, 0, rs, set, []⟩]
def insS (s : MkS) (rs : List Int) (set : List Attr) : MkS := if rs = [] then s else ⟨s.done, addI s.ins rs set, s.gone⟩
def delS (s : MkS) (n : Int) : MkS := ⟨s.done, s.ins, IntKind.i64.wrap (s.gone + maxI n 0)⟩
def stepS (s : MkS) (o : Dop) : MkS := if o.kind = 1 then retS s o.n o.patch else if o.kind = 2 then insS s o.runes o.set else delS s o.n
def trimL (l : List Dop) : List Dop := match l.getLast? with | some o => if o.kind = 1 ∧ o.patch = [] then l.dropLast else l | none => l
def opsS (s : MkS) : List Dop := trimL (s.done ++ gapL s.ins s.gone)
def runS (x : List Dop) : MkS := x.foldl stepS MkS.z
def normB (x : List Dop) : List Dop := opsS (runS x)

/-! ### the document's -/
def rgapF (a : List Dop × Int) (o : Dop) : List Dop × Int :=
  if o.kind = 3 then (a.1, IntKind.i64.wrap (a.2 + o.n)) else
  match a.1.getLast? with
  | some q => if q.set = o.set then (a.1.set (a.1.length - 1) ⟨q.kind, q.n, q.runes ++ o.runes, q.set, q.patch⟩, a.2) else (a.1 ++ [o], a.2)
  | none => (a.1 ++ [o], a.2)
def rgap (x : List Dop) : List Dop := gapL (x.foldl rgapF ([], 0)).1 (x.foldl rgapF ([], 0)).2
def rput (d : List Dop) (o : Dop) : List Dop :=
  match d.getLast? with
  | some q => if q.kind = 1 ∧ q.patch = o.patch then d.set (d.length - 1) ⟨q.kind, IntKind.i64.wrap (q.n + o.n), q.runes, q.set, q.patch⟩ else d ++ [o]
  | none => d ++ [o]
def rofF (a : List Dop × List Dop) (o : Dop) : List Dop × List Dop := if o.kind = 1 then (rput (a.1 ++ rgap a.2) o, []) else (a.1, a.2 ++ [o])
def rof (x : List Dop) : List Dop := trimL ((x.foldl rofF ([], [])).1 ++ rgap (x.foldl rofF ([], [])).2)

/-- an op's right form -/
def Form1 (o : Dop) : Prop := (o.kind = 1 ∧ o.runes = [] ∧ o.set = [] ∧ 1 ≤ o.n ∧ o.n ≤ 536870912) ∨ (o.kind = 3 ∧ o.runes = [] ∧ o.set = [] ∧ o.patch = [] ∧ 1 ≤ o.n ∧ o.n ≤ 536870912) ∨ (o.kind = 2 ∧ o.n = 0 ∧ o.patch = [] ∧ o.runes ≠ [])
theorem norm_rel (x : List Dop) (h : ∀ o ∈ x, Form1 o) : (runS x).done = (x.foldl rofF ([], [])).1 ∧ ((runS x).ins, (runS x).gone) = (x.foldl rofF ([], [])).2.foldl rgapF ([], 0) := by
  induction x using rev_ind with
  | h0 => exact ⟨rfl, rfl⟩
  | h1 x o ih =>
    obtain ⟨h1, h2⟩ := ih fun o ho => h o (by simp [ho])
    have ho := h o (by simp)
    unfold runS at h1 h2 ⊢
    simp only [List.foldl_append, List.foldl_cons, List.foldl_nil]
    generalize x.foldl stepS MkS.z = s at h1 h2 ⊢
    generalize x.foldl rofF ([], []) = a at h1 h2 ⊢
    obtain ⟨done, ins, gone⟩ := s
    obtain ⟨out, seg⟩ := a
    obtain ⟨k, n, rs, set, p⟩ := o
    simp only at h1 h2
    subst h1
    rcases ho with ⟨e1, e2, e3, e4, e5⟩ | ⟨e1, e2, e3, e4, e5, e6⟩ | ⟨e1, e2, e3, e4⟩
    · simp only at e1 e2 e3 e4 e5
      subst e1; subst e2; subst e3
      have hgap : gapL ins gone = rgap seg := by unfold rgap; rw [← h2]
      simp only [stepS, rofF, if_true, retS, if_neg (show ¬ n < 1 by omega), hgap]
      exact ⟨rfl, rfl⟩
    · simp only at e1 e2 e3 e4 e5 e6
      subst e1; subst e2; subst e3; subst e4
      have : maxI n 0 = n := by unfold maxI; rw [if_neg (by omega)]
      simp only [stepS, rofF, show ¬ (3 : Int) = 1 by decide, show ¬ (3 : Int) = 2 by decide, if_false, List.foldl_append, List.foldl_cons, List.foldl_nil, delS, this]
      refine ⟨trivial, ?_⟩
      rw [← h2]
      simp only [rgapF, if_true]
    · simp only at e1 e2 e3 e4
      subst e1; subst e2; subst e3
      simp only [stepS, rofF, show ¬ (2 : Int) = 1 by decide, if_true, if_false, List.foldl_append, List.foldl_cons, List.foldl_nil, insS, if_neg e4, addI]
      refine ⟨trivial, ?_⟩
      rw [← h2]
      simp only [rgapF, show ¬ (2 : Int) = 3 by decide, if_false]
      cases ins.getLast? with
      | none => rfl
      | some q => simp only; split <;> rfl
theorem norm_eq (x : List Dop) (h : ∀ o ∈ x, Form1 o) : normB x = rof x := by
  obtain ⟨h1, h2⟩ := norm_rel x h
  unfold normB opsS rof rgap
  rw [h1, ← h2]

/-! ### what is canonical -/
inductive InsC : List Dop → Prop
  | nil : InsC []
  | snoc (i : List Dop) (rs : List Int) (set : List Attr) (h : InsC i) (hr : rs ≠ []) (hs : ∀ q, i.getLast? = some q → q.set ≠ set) : InsC (i ++ [⟨2, 0, rs, set, []⟩])
inductive DoneC : List Dop → Prop
  | nil : DoneC []
  | snoc (d ins : List Dop) (gone n : Int) (p : List Chg) (h : DoneC d) (hi : InsC ins) (hg : 0 ≤ gone) (hb : gone ≤ 4611686018427387904) (hn : 1 ≤ n) (hp : ins = [] → gone = 0 → ∀ q, d.getLast? = some q → q.patch ≠ p) : DoneC (d ++ gapL ins gone ++ [⟨1, n, [], [], p⟩])
theorem InsC.add {ins : List Dop} (h : InsC ins) {rs : List Int} (hr : rs ≠ []) (set : List Attr) : InsC (addI ins rs set) := by
  cases h with
  | nil => exact InsC.snoc [] rs set .nil hr fun q hq => by simp at hq
  | snoc i rs' set' h hr' hs =>
    unfold addI
    simp only [List.getLast?_append, List.getLast?_singleton, Option.some_or]
    by_cases e : set' = set
    · rw [if_pos e]
      have : (i ++ [(⟨2, 0, rs', set', []⟩ : Dop)]).set ((i ++ [(⟨2, 0, rs', set', []⟩ : Dop)]).length - 1) ⟨2, 0, rs' ++ rs, set', []⟩ = i ++ [⟨2, 0, rs' ++ rs, set', []⟩] := by simp
      rw [this]
      exact InsC.snoc i _ set' h (by simp [hr']) hs
    · rw [if_neg e]
      exact InsC.snoc _ rs set (InsC.snoc i rs' set' h hr' hs) hr fun q hq => by
        simp only [List.getLast?_append, List.getLast?_singleton, Option.some_or, Option.some.injEq] at hq
        subst hq; exact e
theorem InsC.kinds {ins : List Dop} (h : InsC ins) : ∀ o ∈ ins, o.kind = 2 := by
  induction h with
  | nil => intro o ho; simp at ho
  | snoc i rs set h hr hs ih =>
    intro o ho
    rcases List.mem_append.1 ho with ho | ho
    · exact ih o ho
    · simp at ho; subst ho; rfl
theorem InsC.run {ins : List Dop} (h : InsC ins) (d : List Dop) (g : Int) : ins.foldl stepS ⟨d, [], g⟩ = ⟨d, ins, g⟩ := by
  induction h with
  | nil => rfl
  | snoc i rs set h hr hs ih =>
    rw [List.foldl_append, ih]
    simp only [List.foldl_cons, List.foldl_nil, stepS, show ¬ (2 : Int) = 1 by decide, if_true, if_false, insS, if_neg hr, addI]
    cases e : i.getLast? with
    | none => rfl
    | some q => simp only; rw [if_neg (hs q e)]
theorem gapL_last {ins : List Dop} {gone : Int} (h : InsC ins) : ∀ o, (gapL ins gone).getLast? = some o → o.kind ≠ 1 := by
  intro o ho
  unfold gapL at ho
  split at ho
  · simp only [List.getLast?_append, List.getLast?_singleton, Option.some_or, Option.some.injEq] at ho
    subst ho; intro h; cases h
  · have := h.kinds o (List.mem_of_getLast? ho)
    omega
theorem gapL_nil {ins : List Dop} {gone : Int} (h0 : 0 ≤ gone) (h : gapL ins gone = []) : ins = [] ∧ gone = 0 := by
  unfold gapL at h
  split at h
  · simp at h
  · exact ⟨h, by omega⟩
theorem last_app {d g : List Dop} : (d ++ g).getLast? = match g.getLast? with | some o => some o | none => d.getLast? := by
  rw [List.getLast?_append]; cases g.getLast? <;> rfl
theorem gap_run {ins : List Dop} (h : InsC ins) (d : List Dop) {g : Int} (hg : 0 ≤ g) (hb : g ≤ 4611686018427387904) : (gapL ins g).foldl stepS ⟨d, [], 0⟩ = ⟨d, ins, g⟩ := by
  unfold gapL
  split
  · rw [List.foldl_append, h.run]
    simp only [List.foldl_cons, List.foldl_nil, stepS, show ¬ (3 : Int) = 1 by decide, show ¬ (3 : Int) = 2 by decide, if_false, delS]
    have : maxI g 0 = g := by unfold maxI; rw [if_neg (by omega)]
    rw [this, wrap64 (by omega) (by omega)]
    congr 1; omega
  · rw [h.run]; congr 1; omega
theorem put_new {d g : List Dop} {n : Int} {p : List Chg} (h1 : ∀ o, g.getLast? = some o → o.kind ≠ 1) (h2 : g = [] → ∀ q, d.getLast? = some q → q.patch ≠ p) : putS (d ++ g) n p = d ++ g ++ [⟨1, n, [], [], p⟩] := by
  unfold putS
  rw [last_app]
  cases e : g.getLast? with
  | some o => simp only; rw [if_neg (fun h => h1 o e h.1)]
  | none =>
    have : g = [] := List.getLast?_eq_none_iff.1 e
    subst this
    simp only [List.append_nil]
    cases e2 : d.getLast? with
    | none => rfl
    | some q => simp only; rw [if_neg (fun h => h2 rfl q e2 h.2)]
theorem DoneC.run {d : List Dop} (h : DoneC d) : d.foldl stepS MkS.z = ⟨d, [], 0⟩ := by
  induction h with
  | nil => rfl
  | snoc d ins gone n p h hi hg hb hn hp ih =>
    rw [List.foldl_append, List.foldl_append, ih, gap_run hi d hg hb]
    simp only [List.foldl_cons, List.foldl_nil, stepS, if_true, retS, if_neg (show ¬ n < 1 by omega)]
    rw [put_new (gapL_last hi) fun e => hp (gapL_nil hg e).1 (gapL_nil hg e).2]
def sumN (l : List Dop) : Int := (l.map (·.n)).sum
theorem sumN_app (l m : List Dop) : sumN (l ++ m) = sumN l + sumN m := by simp [sumN]
theorem sumN_one (o : Dop) : sumN [o] = o.n := by simp [sumN]
theorem InsC.sum {ins : List Dop} (h : InsC ins) : sumN ins = 0 := by
  induction h with
  | nil => rfl
  | snoc i rs set h hr hs ih => rw [sumN_app, sumN_one, ih]; rfl
theorem gapL_sum {ins : List Dop} {g : Int} (h : InsC ins) (hg : 0 ≤ g) : sumN (gapL ins g) = g := by
  unfold gapL; split
  · rw [sumN_app, sumN_one, h.sum]; simp
  · rw [h.sum]; omega
theorem DoneC.nn {d : List Dop} (h : DoneC d) : 0 ≤ sumN d := by
  induction h with
  | nil => simp [sumN]
  | snoc d ins gone n p h hi hg hb hn hp ih => rw [sumN_app, sumN_app, sumN_one, gapL_sum hi hg]; simp only; omega
structure Canon (s : MkS) (t : Int) : Prop where
  done : DoneC s.done
  ins : InsC s.ins
  gone : 0 ≤ s.gone
  sum : sumN s.done + s.gone = t
theorem Canon.step {s : MkS} {t : Int} (h : Canon s t) {o : Dop} (ho : Form1 o) (ht : t + o.n ≤ 4611686018427387904) : Canon (stepS s o) (t + o.n) := by
  obtain ⟨done, ins, gone⟩ := s
  obtain ⟨h1, h2, h3, h4⟩ := h
  simp only at h1 h2 h3 h4
  obtain ⟨k, n, rs, set, p⟩ := o
  have hnn := h1.nn
  rcases ho with ⟨e1, e2, e3, e4, e5⟩ | ⟨e1, e2, e3, e4, e5, e6⟩ | ⟨e1, e2, e3, e4⟩
  · simp only at e1 e2 e3 e4 e5 ht
    subst e1
    simp only [stepS, if_true, retS, if_neg (show ¬ n < 1 by omega)]
    have key : DoneC (putS (done ++ gapL ins gone) n p) ∧ sumN (putS (done ++ gapL ins gone) n p) = t + n := by
      by_cases hgap : gapL ins gone = []
      · obtain ⟨e8, e9⟩ := gapL_nil h3 hgap
        subst e8; subst e9
        rw [hgap, List.append_nil]
        cases h1 with
        | nil => exact ⟨DoneC.snoc [] [] 0 n p .nil .nil (by omega) (by omega) e4 fun _ _ q hq => by simp at hq, by simp only [putS, List.getLast?_nil, sumN_app, sumN_one] at h4 ⊢; omega⟩
        | snoc d ins gone n' p' h hi hg hb hn hp =>
          unfold putS
          rw [List.getLast?_append, List.getLast?_singleton, Option.some_or]
          simp only [true_and]
          rw [sumN_app, sumN_app, sumN_one, gapL_sum hi hg] at h4
          simp only at h4
          have hdn := h.nn
          by_cases e : p' = p
          · rw [if_pos e]
            have e10 : (d ++ gapL ins gone ++ [(⟨1, n', [], [], p'⟩ : Dop)]).set ((d ++ gapL ins gone ++ [(⟨1, n', [], [], p'⟩ : Dop)]).length - 1) ⟨1, IntKind.i64.wrap (n' + n), [], [], p'⟩ = d ++ gapL ins gone ++ [⟨1, IntKind.i64.wrap (n' + n), [], [], p'⟩] := by
              rw [List.set_append_right _ _ (by simp)]; simp
            rw [e10, wrap64 (by omega) (by omega)]
            refine ⟨DoneC.snoc d ins gone (n' + n) p' h hi hg hb (by omega) hp, ?_⟩
            rw [sumN_app, sumN_app, sumN_one, gapL_sum hi hg]; simp only; omega
          · rw [if_neg e]
            have := DoneC.snoc (d ++ gapL ins gone ++ [⟨1, n', [], [], p'⟩]) [] 0 n p (DoneC.snoc d ins gone n' p' h hi hg hb hn hp) .nil (by omega) (by omega) e4 fun _ _ q hq => by
              rw [List.getLast?_append, List.getLast?_singleton, Option.some_or] at hq; cases hq; exact e
            simp only [gapL, show ¬ (0 : Int) < 0 by decide, if_false, List.append_nil] at this
            refine ⟨this, ?_⟩
            simp only [sumN_app, sumN_one, gapL_sum hi hg]; omega
      · rw [put_new (gapL_last h2) fun e => (hgap e).elim]
        refine ⟨DoneC.snoc done ins gone n p h1 h2 h3 (by omega) e4 fun e8 e9 => (hgap (by subst e8; subst e9; rfl)).elim, ?_⟩
        rw [sumN_app, sumN_app, sumN_one, gapL_sum h2 h3]; simp only; omega
    exact ⟨key.1, .nil, by simp, by simp only; omega⟩
  · simp only at e1 e2 e3 e4 e5 e6 ht
    subst e1
    simp only [stepS, show ¬ (3 : Int) = 1 by decide, show ¬ (3 : Int) = 2 by decide, if_false, delS]
    have : maxI n 0 = n := by unfold maxI; rw [if_neg (by omega)]
    rw [this, wrap64 (by omega) (by omega)]
    exact ⟨h1, h2, by simp only; omega, by simp only; omega⟩
  · simp only at e1 e2 e3 e4 ht
    subst e1; subst e2
    simp only [stepS, show ¬ (2 : Int) = 1 by decide, if_true, if_false, insS, if_neg e4]
    exact ⟨h1, h2.add e4 set, h3, by simp only; omega⟩
theorem Form1.nn {o : Dop} (h : Form1 o) : 0 ≤ o.n ∧ o.n ≤ 536870912 := by
  rcases h with ⟨_, _, _, h, h'⟩ | ⟨_, _, _, _, h, h'⟩ | ⟨_, h, _⟩ <;> omega
theorem sumN_form (x : List Dop) (h : ∀ o ∈ x, Form1 o) : 0 ≤ sumN x ∧ sumN x ≤ x.length * 536870912 := by
  induction x with
  | nil => simp [sumN]
  | cons o x ih =>
    have h1 := ih fun o ho => h o (by simp [ho])
    have h2 := (h o (by simp)).nn
    have : sumN (o :: x) = o.n + sumN x := by simp [sumN]
    rw [this]
    simp only [List.length_cons]
    omega
theorem canon_run (x : List Dop) (h : ∀ o ∈ x, Form1 o) (hl : x.length ≤ 8589934592) : Canon (runS x) (sumN x) := by
  induction x using rev_ind with
  | h0 => exact ⟨.nil, .nil, by decide, by decide⟩
  | h1 x o ih =>
    have hx : ∀ o ∈ x, Form1 o := fun o ho => h o (by simp [ho])
    have ho := h o (by simp)
    simp only [List.length_append, List.length_cons, List.length_nil] at hl
    have h1 := ih (fun o ho => hx o ho) (by omega)
    have h2 := sumN_form x fun o ho => hx o ho
    have h3 := ho.nn
    unfold runS at h1 ⊢
    rw [List.foldl_append, sumN_app, sumN_one]
    exact h1.step ho (by omega)
theorem trim_fix {d ins : List Dop} {g : Int} (hd : DoneC d) (hi : InsC ins) (hg : 0 ≤ g) (hb : g ≤ 4611686018427387904) : normB (trimL (d ++ gapL ins g)) = trimL (d ++ gapL ins g) := by
  have same : ∀ (d ins : List Dop) (g : Int), DoneC d → InsC ins → 0 ≤ g → g ≤ 4611686018427387904 → normB (d ++ gapL ins g) = trimL (d ++ gapL ins g) := by
    intro d ins g hd hi hg hb
    unfold normB runS opsS
    rw [List.foldl_append, hd.run, gap_run hi d hg hb]
  by_cases hgap : gapL ins g = []
  · rw [hgap, List.append_nil]
    cases hd with
    | nil => rfl
    | snoc d ins' g' n p h hi' hg' hb' hn hp =>
      by_cases e : p = []
      · subst e
        have e1 : trimL (d ++ gapL ins' g' ++ [(⟨1, n, [], [], []⟩ : Dop)]) = d ++ gapL ins' g' := by
          unfold trimL
          rw [List.getLast?_append, List.getLast?_singleton, Option.some_or]
          simp only [and_self, if_true, List.dropLast_concat]
        rw [e1, same d ins' g' h hi' hg' hb']
        unfold trimL
        rw [last_app]
        cases e2 : (gapL ins' g').getLast? with
        | some o => simp only; rw [if_neg (fun h => gapL_last hi' o e2 h.1)]
        | none =>
          have e3 : gapL ins' g' = [] := List.getLast?_eq_none_iff.1 e2
          obtain ⟨e4, e5⟩ := gapL_nil hg' e3
          rw [e3, List.append_nil]
          simp only
          cases e6 : d.getLast? with
          | none => rfl
          | some q => simp only; rw [if_neg (fun h => hp e4 e5 q e6 h.2)]
      · have hD := DoneC.snoc d ins' g' n p h hi' hg' hb' hn hp
        have e1 : trimL (d ++ gapL ins' g' ++ [(⟨1, n, [], [], p⟩ : Dop)]) = d ++ gapL ins' g' ++ [⟨1, n, [], [], p⟩] := by
          unfold trimL
          rw [List.getLast?_append, List.getLast?_singleton, Option.some_or]
          simp only [e, and_false, if_false]
        rw [e1]
        have := same _ [] 0 hD .nil (by omega) (by omega)
        simp only [gapL, show ¬ (0 : Int) < 0 by decide, if_false, List.append_nil] at this
        exact this.trans e1
  · have e1 : trimL (d ++ gapL ins g) = d ++ gapL ins g := by
      unfold trimL
      rw [last_app]
      cases e2 : (gapL ins g).getLast? with
      | some o => simp only; rw [if_neg (fun h => gapL_last hi o e2 h.1)]
      | none => exact (hgap (List.getLast?_eq_none_iff.1 e2)).elim
    rw [e1, same d ins g hd hi hg hb, e1]
/-- the form of a form is itself -/
theorem norm_twice (x : List Dop) (h : ∀ o ∈ x, Form1 o) (hl : x.length ≤ 8589934592) : normB (normB x) = normB x := by
  have c := canon_run x h hl
  have h2 := sumN_form x h
  have h3 := c.done.nn
  have h4 := c.sum
  exact trim_fix c.done c.ins c.gone (by omega)
/-- at each gap inserts, then one delete -/
def GapsOK (l : List Dop) : Prop := ∀ (i : Nat) a b, l[i]? = some a → l[i + 1]? = some b → a.kind = 3 → b.kind = 1
theorem gaps_snoc {l : List Dop} {o : Dop} (h : GapsOK l) (h2 : ∀ q, l.getLast? = some q → q.kind = 3 → o.kind = 1) : GapsOK (l ++ [o]) := by
  intro i a b ha hb hk
  by_cases h3 : i + 1 < l.length
  · rw [List.getElem?_append_left (by omega)] at ha
    rw [List.getElem?_append_left h3] at hb
    exact h i a b ha hb hk
  · by_cases h4 : i + 1 = l.length
    · rw [List.getElem?_append_left (by omega)] at ha
      rw [List.getElem?_append_right (by omega), h4] at hb
      simp at hb; subst hb
      refine h2 a ?_ hk
      rw [List.getLast?_eq_getElem?, ← ha]; congr 1; omega
    · have := (List.getElem?_eq_some_iff.1 hb).1
      simp at this; omega
theorem gaps_app {l m : List Dop} (hl : GapsOK l) (hm : GapsOK m) (h : ∀ q, l.getLast? = some q → q.kind ≠ 3) : GapsOK (l ++ m) := by
  intro i a b ha hb hk
  by_cases h3 : i + 1 < l.length
  · rw [List.getElem?_append_left (by omega)] at ha
    rw [List.getElem?_append_left h3] at hb
    exact hl i a b ha hb hk
  · by_cases h4 : i + 1 = l.length
    · rw [List.getElem?_append_left (by omega)] at ha
      refine (h a ?_ hk).elim
      rw [List.getLast?_eq_getElem?, ← ha]; congr 1; omega
    · rw [List.getElem?_append_right (by omega)] at ha hb
      refine hm (i - l.length) a b ha ?_ hk
      rw [← hb]; congr 1; omega
theorem InsC.gaps {ins : List Dop} (h : InsC ins) : GapsOK ins := by
  intro i a b ha hb hk
  have := h.kinds a (List.mem_of_getElem? ha)
  omega
theorem gapL_gaps {ins : List Dop} {g : Int} (h : InsC ins) : GapsOK (gapL ins g) := by
  unfold gapL; split
  · refine gaps_snoc h.gaps fun q hq hk => ?_
    have := h.kinds q (List.mem_of_getLast? hq)
    omega
  · exact h.gaps
theorem DoneC.last {d : List Dop} (h : DoneC d) : ∀ q, d.getLast? = some q → q.kind = 1 := by
  cases h with
  | nil => intro q hq; simp at hq
  | snoc d ins gone n p h hi hg hb hn hp =>
    intro q hq
    rw [List.getLast?_append, List.getLast?_singleton, Option.some_or] at hq; cases hq; rfl
theorem DoneC.gaps {d : List Dop} (h : DoneC d) : GapsOK d := by
  induction h with
  | nil => intro i a b ha; simp at ha
  | snoc d ins gone n p h hi hg hb hn hp ih =>
    refine gaps_snoc (gaps_app ih (gapL_gaps hi) fun q hq hk => ?_) fun _ _ _ => rfl
    have := h.last q hq
    omega
theorem gaps_sub {l : List Dop} (h : GapsOK l) : GapsOK l.dropLast := by
  intro i a b ha hb hk
  rw [List.getElem?_dropLast] at ha hb
  split at ha <;> split at hb <;> first | exact h i a b ha hb hk | simp_all
theorem norm_gaps (x : List Dop) (h : ∀ o ∈ x, Form1 o) (hl : x.length ≤ 8589934592) : GapsOK (normB x) := by
  have c := canon_run x h hl
  have h1 : GapsOK ((runS x).done ++ gapL (runS x).ins (runS x).gone) := gaps_app c.done.gaps (gapL_gaps c.ins) fun q hq hk => by have := c.done.last q hq; omega
  unfold normB opsS trimL
  split
  · split
    · exact gaps_sub h1
    · exact h1
  · exact h1
/-- behind a form no retain without a patch -/
theorem norm_last (x : List Dop) (h : ∀ o ∈ x, Form1 o) (hl : x.length ≤ 8589934592) : ∀ q, (normB x).getLast? = some q → ¬ (q.kind = 1 ∧ q.patch = []) := by
  intro q hq hk
  have e := norm_twice x h hl
  have : trimL (normB x) = normB x := by
    have c := canon_run x h hl
    -- a form is trimmed: shown by what it is made of
    have key : ∀ l : List Dop, trimL (trimL l) = trimL l → trimL (trimL l) = trimL l := fun _ h => h
    have h2 := sumN_form x h
    have h3 := c.done.nn
    have h4 := c.sum
    unfold normB opsS
    by_cases hgap : gapL (runS x).ins (runS x).gone = []
    · rw [hgap, List.append_nil]
      have hd := c.done
      generalize (runS x).done = D at hd
      cases hd with
      | nil => rfl
      | snoc d ins' g' n p h hi' hg' hb' hn hp =>
        by_cases e : p = []
        · subst e
          have e1 : trimL (d ++ gapL ins' g' ++ [(⟨1, n, [], [], []⟩ : Dop)]) = d ++ gapL ins' g' := by
            unfold trimL
            rw [List.getLast?_append, List.getLast?_singleton, Option.some_or]
            simp only [and_self, if_true, List.dropLast_concat]
          rw [e1]
          unfold trimL
          rw [last_app]
          cases e2 : (gapL ins' g').getLast? with
          | some o => simp only; rw [if_neg (fun h => gapL_last hi' o e2 h.1)]
          | none =>
            have e3 : gapL ins' g' = [] := List.getLast?_eq_none_iff.1 e2
            obtain ⟨e4, e5⟩ := gapL_nil hg' e3
            simp only
            cases e6 : d.getLast? with
            | none => rfl
            | some q => simp only; rw [if_neg (fun h => hp e4 e5 q e6 h.2)]
        · have e1 : trimL (d ++ gapL ins' g' ++ [(⟨1, n, [], [], p⟩ : Dop)]) = d ++ gapL ins' g' ++ [⟨1, n, [], [], p⟩] := by
            unfold trimL
            rw [List.getLast?_append, List.getLast?_singleton, Option.some_or]
            simp only [e, and_false, if_false]
          rw [e1, e1]
    · have e1 : trimL ((runS x).done ++ gapL (runS x).ins (runS x).gone) = (runS x).done ++ gapL (runS x).ins (runS x).gone := by
        unfold trimL
        rw [last_app]
        cases e2 : (gapL (runS x).ins (runS x).gone).getLast? with
        | some o => simp only; rw [if_neg (fun h => gapL_last c.ins o e2 h.1)]
        | none => exact (hgap (List.getLast?_eq_none_iff.1 e2)).elim
      rw [e1, e1]
  unfold trimL at this
  rw [hq] at this
  simp only [hk, and_self, if_true] at this
  have hl2 := congrArg List.length this
  rw [List.length_dropLast] at hl2
  have : normB x ≠ [] := by intro e; rw [e] at hq; simp at hq
  have := List.length_pos_iff.2 this
  omega
end Go.Proofs.Ytmfplfaeibehiaa
