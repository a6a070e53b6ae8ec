/- The code of a function as a predicate over values; its soundness. No conditions. -/
import Derived.Test.YtmfplfaeibehiaaKJ
import Derived.Tactics
import Derived.Deep.Quiet
import Derived.RangeFuncIn
import Derived.TacticsIn
namespace Go.K
open Go

inductive Ann where
  | nil
  | node (L : List Nat) (W : List (Nat × Nat)) (a b : Ann)
  | cut (L : List Nat) (W : List (Nat × Nat)) (a b : Ann)
  | draw
  | dg (eff : List Nat) (AN Gs : List (List Nat))
  | dc (eff : List Nat) (AN Gs : List (List Nat))
  | dt (eff : List Nat) (AN Gs : List (List Nat)) (t : Ord)

def inR : List (Nat × Nat) → Nat → Bool
  | [], _ => false
  | (lo, hi) :: r, j => (Nat.ble lo j && Nat.ble j hi) || inR r j
def lk : List Nat → List Value → Nat → Value → Value
  | [], _, _, d => d
  | l :: L, vs, j, d => bif Nat.beq l j then vs.headD undef else lk L vs.tail j d
/-- the slots behind a piece of code: those in L as told, those that it may write open, the others as before -/
def mix (L : List Nat) (W : List (Nat × Nat)) (vs : List Value) (h e : Env) : Env := fun j => lk L vs j (bif inR W j then h j else e j)

def wrIn (W : List (Nat × Nat)) : Code → Bool
  | .region _ ops _ => ops.toList.all fun o => match o.dst with | some d => inR W d | none => true
  | .seq a b => wrIn W a && wrIn W b
  | .cond _ a b => wrIn W a && wrIn W b
  | .block _ a => wrIn W a
  | .loop a => wrIn W a
  | .scope a => wrIn W a
  | .rangeFunc .. => false
  | _ => true

/-- does the code write the slot -/
def Wr : Code → Nat → Prop
  | .region _ ops _, j => ∃ o ∈ ops.toList, o.dst = some j
  | .seq a b, j => Wr a j ∨ Wr b j
  | .cond _ a b, j => Wr a j ∨ Wr b j
  | .block _ a, j => Wr a j
  | .loop a, j => Wr a j
  | .scope a, j => Wr a j
  | .rangeFunc .., _ => True
  | _, _ => False

theorem wrIn_spec {W : List (Nat × Nat)} : ∀ {c : Code}, wrIn W c = true → ∀ j, Wr c j → inR W j = true
  | .region _ ops _, h, j, ⟨o, ho, hd⟩ => by
    simp only [wrIn, List.all_eq_true] at h
    have := h o ho; rw [hd] at this; exact this
  | .seq a b, h, j, hj => by
    simp only [wrIn, Bool.and_eq_true] at h
    exact hj.elim (wrIn_spec h.1 j) (wrIn_spec h.2 j)
  | .cond _ a b, h, j, hj => by
    simp only [wrIn, Bool.and_eq_true] at h
    exact hj.elim (wrIn_spec h.1 j) (wrIn_spec h.2 j)
  | .block _ a, h, j, hj => wrIn_spec (c := a) h j hj
  | .loop a, h, j, hj => wrIn_spec (c := a) h j hj
  | .scope a, h, j, hj => wrIn_spec (c := a) h j hj
  | .rangeFunc .., h, _, _ => by simp [wrIn] at h
  | .skip, _, _, hj => hj.elim
  | .exit _, _, _, hj => hj.elim
  | .label _, _, _, hj => hj.elim
  | .goto _, _, _, hj => hj.elim
  | .ret, _, _, hj => hj.elim
  | .refuse _, _, _, hj => hj.elim

theorem lk_map (e : Env) (L : List Nat) (j : Nat) (d : Value) : lk L (L.map e) j d = if j ∈ L then e j else d := by
  induction L with
  | nil => simp [lk]
  | cons l L ih =>
    simp only [lk, List.map_cons, List.headD_cons, List.tail_cons, ih]
    cases hb : Nat.beq l j with
    | true => have := Nat.eq_of_beq_eq_true hb; subst this; simp
    | false =>
      have : j ≠ l := by intro e; subst e; simp at hb
      simp [this]
theorem mix_self {L : List Nat} {W : List (Nat × Nat)} {e e' : Env} (h : ∀ j, inR W j = false → e' j = e j) : mix L W (L.map e') e' e = e' := by
  funext j
  simp only [mix, lk_map]
  split
  · rfl
  · cases hw : inR W j with
    | true => simp
    | false => simp [h j hw]

variable (P : Program) (ok : Nat → Bool) (n : Nat)

/-- a round of a loop over an iterator: what a call of yield leads to -/
def roundK (P : Program) (l : Nat) (args : List Value) (K : Cont) (w : World) : Prop :=
  ∃ f tmps asg body, (Instr.yield l args.toArray).run P w = .ok (.round l f tmps asg body) w ∧ RoundIn Fence.wide 0 P l f tmps asg body w fun e w' => ∃ v, e = .returned v ∧ K v w'
def callyK (P : Program) (ok : Nat → Bool) (f : Value) (args : List Value) (K : Cont) (w : World) : Prop :=
  callvK P ok f args K w ∨ ∃ l, f = .func (.yield l) #[] #[] ∧ roundK P l args K w
def opY (o : Oper) (ρ : Operand → Value) (K : Cont) (w : World) : Prop :=
  match o.op with
  | .call c => match c.callee with
    | .value (.func _) => opD P ok o ρ K w
    | .value f => callyK P ok (ρ f) (c.args.toList.map ρ) K w
    | _ => opD P ok o ρ K w
  | _ => opD P ok o ρ K w

def opsD (all : List Oper) (K : Env → World → Prop) : List Oper → Nat → List (Nat × Option Bool) → Env → World → Prop
  | [], _, _, e, w => K e w
  | o :: rest, i, kn, e, w =>
    bif clash o.dst kn all then False else
    match o.guard with
    | none => opY P ok o (ev e) (fun v w' => opsD all K rest (i + 1) kn (updO n e o.dst v) w') w
    | some (j, want) => match lookK kn j with
      | some (some b) => bif sameB b want then opY P ok o (ev e) (fun v w' => opsD all K rest (i + 1) kn (updO n e o.dst v) w') w
          else opsD all K rest (i + 1) ((i, none) :: kn) (updO n e o.dst undef) w
      | some none => opsD all K rest (i + 1) ((i, none) :: kn) (updO n e o.dst undef) w
      | none => match dstAt all j with
        | some d => bif clash o.dst ((j, none) :: kn) all then False else condK (e d)
            (bif want then opY P ok o (ev (upd n e d (.bool true))) (fun v w' => opsD all K rest (i + 1) ((j, some true) :: kn) (updO n (upd n e d (.bool true)) o.dst v) w') w
              else opsD all K rest (i + 1) ((i, none) :: (j, some true) :: kn) (updO n (upd n e d (.bool true)) o.dst undef) w)
            (bif want then opsD all K rest (i + 1) ((i, none) :: (j, some false) :: kn) (updO n (upd n e d (.bool false)) o.dst undef) w
              else opY P ok o (ev (upd n e d (.bool false))) (fun v w' => opsD all K rest (i + 1) ((j, some false) :: kn) (updO n (upd n e d (.bool false)) o.dst v) w') w)
        | none => False

/-- reads and calls whose answer is one in every world of a class -/
def qld1K (C : World → Prop) (x : Value) (K : Value → Prop) : Prop := ∃ a v, x = .pointer (some a) ∧ (∀ w, C w → w.cell? a = some v) ∧ K v
def qldnK (C : World → Prop) (k : Nat) (x : Value) (K : Value → Prop) : Prop :=
  ∃ a vs, x = .pointer (some a) ∧ List.length vs = k ∧ (∀ w, C w → ∀ j v, vs[j]? = some v → w.cell? (a.add j) = some v) ∧ K (.agg vs.toArray)
def qcallK (P : Program) (C : World → Prop) (g : Nat) (args : List Value) (K : Value → Prop) : Prop :=
  ∃ v, (∀ w, C w → callK P g args (fun v' w' => v' = v ∧ C w') w) ∧ K v
def qrunK (P : Program) (C : World → Prop) (s : Sem Value) (K : Value → Prop) : Prop := ∃ v, (∀ w, C w → s.run P w = .ok v w) ∧ K v
def DrawK (w : World) (F : (World → Prop) → Prop) : Prop := ∃ C : World → Prop, C w.drew ∧ F C

def opQ (C : World → Prop) (o : Oper) (ρ : Operand → Value) (K : Value → Prop) (w : World) : Prop :=
  match o.op with
  | .load t x => match aggOf P t with | some (false, _) => qld1K C (ρ x) K | some (true, k) => qldnK C k (ρ x) K | none => False
  | .binOp op t x y _ => bif pureBin P op t y then binD P op t y (ρ x) (ρ y) K False
      else qrunK P C (binS op t x y (ρ x) (ρ y)) K
  | .call c => match c.callee with
    | .value (.func g) => bif ok g then qcallK P C g (c.args.toList.map ρ) K else False
    | _ => bif pureOp P o then opD P ok o ρ (fun v _ => K v) w else False
  | _ => bif pureOp P o then opD P ok o ρ (fun v _ => K v) w else False

def opsQ (C : World → Prop) (all : List Oper) (K : Env → Prop) (w : World) : List Oper → Nat → List (Nat × Option Bool) → Env → Prop
  | [], _, _, e => K e
  | o :: rest, i, kn, e =>
    bif clash o.dst kn all then False else
    match o.guard with
    | none => opQ P ok C o (ev e) (fun v => opsQ C all K w rest (i + 1) kn (updO n e o.dst v)) w
    | some (j, want) => match lookK kn j with
      | some (some b) => bif sameB b want then opQ P ok C o (ev e) (fun v => opsQ C all K w rest (i + 1) kn (updO n e o.dst v)) w
          else opsQ C all K w rest (i + 1) ((i, none) :: kn) (updO n e o.dst undef)
      | some none => opsQ C all K w rest (i + 1) ((i, none) :: kn) (updO n e o.dst undef)
      | none => match dstAt all j with
        | some d => bif clash o.dst ((j, none) :: kn) all then False else condK (e d)
            (bif want then opQ P ok C o (ev (upd n e d (.bool true))) (fun v => opsQ C all K w rest (i + 1) ((j, some true) :: kn) (updO n (upd n e d (.bool true)) o.dst v)) w
              else opsQ C all K w rest (i + 1) ((i, none) :: (j, some true) :: kn) (updO n (upd n e d (.bool true)) o.dst undef))
            (bif want then opsQ C all K w rest (i + 1) ((i, none) :: (j, some false) :: kn) (updO n (upd n e d (.bool false)) o.dst undef)
              else opQ P ok C o (ev (upd n e d (.bool false))) (fun v => opsQ C all K w rest (i + 1) ((j, some false) :: kn) (updO n (upd n e d (.bool false)) o.dst v)) w)
        | none => False

/-- code that may stand in a round -/
def rdB : Code → Bool
  | .region _ _ draw => !draw
  | .seq a b => rdB a && rdB b
  | .cond _ a b => rdB a && rdB b
  | .block _ a => rdB a
  | .loop a => rdB a
  | .skip => true
  | .exit _ => true
  | .ret => true
  | _ => false
def bEx (id : Nat) (Q : EQ) : EQ := fun ex e w => match ex with
  | .exit i => bif Nat.beq i id then Q .normal e w else Q (.exit i) e w
  | .normal => Q .normal e w | .ret => Q .ret e w | .goto l => Q (.goto l) e w | .panic c => Q (.panic c) e w | .outgrown => Q .outgrown e w
def gEx (Q : EQ) : EQ := fun ex e w => match ex with
  | .goto _ => False
  | .normal => Q .normal e w | .exit i => Q (.exit i) e w | .ret => Q .ret e w | .panic c => Q (.panic c) e w | .outgrown => Q .outgrown e w
def nEx (N : Env → World → Prop) (Q : EQ) : EQ := fun ex e w => match ex with
  | .normal => N e w
  | .exit i => Q (.exit i) e w | .ret => Q .ret e w | .goto l => Q (.goto l) e w | .panic c => Q (.panic c) e w | .outgrown => Q .outgrown e w

def D : Code → Ann → EQ → Env → World → Prop
  | .skip, _, Q, e, w => Q .normal e w
  | .region _ ops draw, an, Q, e, w => match draw with
    | false => opsD P ok n ops.toList (fun e w => Q .normal e w) ops.toList 0 [] e w
    | true => match an with
      | .draw => bif Region.lexB .any ops then DrawK w (fun C => opsQ P ok n C ops.toList (fun e' => ∀ w' : World, C w' → Q .normal e' w') w ops.toList 0 [] e) else False
      | .dg eff AN Gs => bif gokB n ops.toList eff AN Gs then DrawG eff AN w.drew fun A M St => eachL P ok n ops.toList eff AN e w.drew A M St
          (groupL P ok n ops.toList eff AN e w.drew A M St (∀ w', Mod (AllM eff M) w.drew w' → walkD P ok n ops.toList eff A St w' (fun _ => true) (fun _ e' => Q .normal e' w') ops.toList 0 [] e) Gs) eff else False
      | .dc eff AN Gs => bif gokB n ops.toList eff AN Gs && chainB eff AN then DrawC eff AN w.drew fun M St => chainD P ok n ops.toList eff M St w.drew (fun e' w' => Q .normal e' w') ops.toList 0 [] e w.drew else False
      | .dt eff AN Gs t => bif gokB n ops.toList eff AN Gs && treeB ops.toList.length eff AN t then DrawC eff AN w.drew fun M St => chainT P ok n ops.toList eff M St w.drew (fun e' w' => Q .normal e' w') t [] e w.drew else False
      | _ => False
  | .seq x y, an, Q, e, w => match an with
    | .node _ _ a b => D x a (nEx (fun e' w' => D y b Q e' w') Q) e w
    | .cut L W a b => bif wrIn W x then JoinK (fun vs w' => ∀ h : Env, D y b Q (mix L W vs h e) w') (fun J => D x a (nEx (fun e' w' => J (L.map e') w') Q) e w) else False
    | _ => False
  | .cond c x y, an, Q, e, w => match an with
    | .node _ _ a b => condK (ev e c) (D x a Q e w) (D y b Q e w)
    | _ => False
  | .block id x, an, Q, e, w => D x an (bEx id Q) e w
  | .loop x, an, Q, e, w => match an with
    | .node L W a _ => bif wrIn W x then LoopK (L.map e) (fun vs again w' => ∀ h : Env, D x a (nEx (fun e' w'' => again (L.map e') w'') Q) (mix L W vs h e) w') w else False
    | _ => False
  | .exit id, _, Q, e, w => Q (.exit id) e w
  | .ret, _, Q, e, w => Q .ret e w
  | .label _, _, Q, e, w => Q .normal e w
  | .scope x, an, Q, e, w => D x an (gEx Q) e w
  | _, _, _, _, _ => False

variable {P ok n}

/-- the model's post, of our own -/
def lift (n : Nat) (ds : List Deferred) (c : Code) (e : Env) (Q : EQ) : Exit → Act → World → Prop := fun ex a w => ∃ e', Fr ds n e' a ∧ (∀ j, ¬ Wr c j → e' j = e j) ∧ Q ex e' w

def opsPost (ds : List Deferred) (n : Nat) (l : List Oper) (e : Env) (K : Env → World → Prop) : Exit → Act → World → Prop :=
  fun ex a w => ex = .normal ∧ ∃ e', Fr ds n e' a ∧ (∀ j, (∀ o ∈ l, o.dst ≠ some j) → e' j = e j) ∧ K e' w

theorem opsPost_cons {ds : List Deferred} {l : List Oper} {o : Oper} {e : Env} {v : Value} {K : Env → World → Prop} {ex : Exit} {a : Act} {w : World} (h : opsPost ds n l (updO n e o.dst v) K ex a w) : opsPost ds n (o :: l) e K ex a w := by
  obtain ⟨h0, e', h1, h2, h3⟩ := h
  refine ⟨h0, e', h1, fun j hj => ?_, h3⟩
  rw [h2 j (fun o' ho' => hj o' (by simp [ho']))]
  exact updO_other (hj o (by simp))
abbrev Wd (ro : Option Nat) : Fence := { Fence.wide with round := ro }
theorem wpListIn_mono {F : Fence} {m : Nat} {ops : Array Oper} {Q Q' : Exit → Act → World → Prop} (hq : ∀ e a w, Q e a w → Q' e a w) : ∀ (l : List Oper) (a : Act) (w : World), wpListIn F m P ops Q l a w → wpListIn F m P ops Q' l a w := by
  have hL : LetsOut Q → LetsOut Q' := fun ⟨a, w, h⟩ => ⟨a, w, hq _ _ _ h⟩
  intro l
  induction l with
  | nil => intro a w h; exact hq _ _ _ h
  | cons o r ih =>
    intro a w h
    unfold wpListIn at h ⊢
    split
    · rename_i hw; rw [if_pos hw] at h
      unfold Oper.wpIn at h ⊢
      refine ⟨h.1, ?_⟩
      replace h := h.2
      generalize (o.semAt F.round a.eval).run P w = r' at h ⊢
      match r', h with
      | .ok (.value v) w', h => exact ih _ _ h
      | .ok .skip w', h => exact ih _ _ h
      | .ok (.defer d) w', h => exact ih _ _ h
      | .ok (.enter f args) w', h =>
        exact ⟨h.1, CallsIn.mono h.2 fun en w'' hh => by
          cases en with
          | returned v => exact ih _ _ hh
          | panicked ch => exact hq _ _ _ hh
          | outgrown => exact hL hh⟩
      | .ok (.row row args) w', h => exact ⟨h.1, RowsIn.mono h.2 fun v w'' hh => ih _ _ hh⟩
      | .ok (.round l f tmps assign body) w', h =>
        exact ⟨h.1, RoundIn.mono h.2 fun en w'' hh => by
          cases en with
          | returned v => exact ih _ _ hh
          | panicked ch => exact hq _ _ _ hh
          | outgrown => exact hL hh⟩
      | .halt (.panic v) w', h => exact hq _ _ _ h
    · rename_i hw; rw [if_neg hw] at h; exact ⟨h.1, ih _ _ h.2⟩

theorem uponIn_of {ro : Option Nat} {m : Nat} {K : Cont} {w : World} {o : Oper} {a : Act} {next : Act → World → Prop} {Q : Exit → Act → World → Prop} {r : Result Next}
    (h : NextOk w r K P) (hK : ∀ v w', K v w' → next (a.put o.dst v) w') : o.uponIn (Wd ro) m P a next Q r := by
  match r, h with
  | .ok (.value v) w', h => exact hK _ _ h
  | .ok .skip w', h => exact hK _ _ h
  | .ok (.enter f args) w', h =>
    obtain ⟨rfl, h⟩ := h
    exact ⟨(fun h => by cases h), (callsIn_wide.2 (Calls.mono h fun e w'' ⟨v, he, hv⟩ => by subst he; exact hK _ _ hv) : CallsIn Fence.wide _ _ _ _ _ _)⟩
theorem opD_noDefer {o : Oper} {ρ : Operand → Value} {K : Cont} {w : World} (h : opD P ok o ρ K w) : ∀ c, o.op ≠ .defer c := by
  intro c hc
  simp only [opD, hc] at h
theorem opY_upon (hok : GoodFns P ok) {ro : Option Nat} {m : Nat} {K : Cont} {w : World} {o : Oper} {a : Act} {e : Env} {next : Act → World → Prop} {Q : Exit → Act → World → Prop} (hev : a.eval = ev e)
    (h : opY P ok o (ev e) K w) (hK : ∀ v w', K v w' → next (a.put o.dst v) w') : o.wpIn (Wd ro) m P a w next Q := by
  have old : opD P ok o (ev e) K w → o.wpIn (Wd ro) m P a w next Q := by
    intro h
    refine ⟨fun _ _ => trivial, ?_⟩
    rw [Oper.semAt_eq _ _ _ (opD_noDefer h), hev]
    exact uponIn_of (opD_nx hok (fun _ => rfl) (fun _ => rfl) h) hK
  obtain ⟨dst, op, type, pos, after, guard⟩ := o
  cases op with
  | call c =>
    obtain ⟨callee, args, ats⟩ := c
    cases callee with
    | value f =>
      have yl : callyK P ok (ev e f) (args.toList.map (ev e)) K w → (opD P ok ⟨dst, .call ⟨.value f, args, ats⟩, type, pos, after, guard⟩ (ev e) K w ↔ callvK P ok (ev e f) (args.toList.map (ev e)) K w) → Oper.wpIn (Wd ro) m P ⟨dst, .call ⟨.value f, args, ats⟩, type, pos, after, guard⟩ a w next Q := by
        rintro (h | ⟨l, hf, fn, tmps, asg, body, h1, h2⟩) hiff
        · exact old (hiff.2 h)
        · refine ⟨fun _ _ => trivial, ?_⟩
          rw [Oper.semAt_eq _ _ _ (by simp), hev]
          have hr : (execOp (ev e) ⟨dst, .call ⟨.value f, args, ats⟩, type, pos, after, guard⟩).run P w = .ok (.round l fn tmps asg body) w := by
            simp only [execOp, resolve, hf, Deferred.ofValue, pure_bind, invoke, args_map]
            simpa [callFunc] using h1
          rw [hr]
          have h3 := h2.2
          refine ⟨(fun h => by cases h), trivial, fun c cs _ => ?_⟩
          obtain ⟨en, w'', ⟨v, rfl, hv⟩, hs⟩ := h3 c cs (room_wide _)
          exact ⟨.returned v, w'', hK _ _ hv, hs⟩
      cases f with
      | func g => exact old h
      | tmp t => exact yl h Iff.rfl
      | const v => exact yl h Iff.rfl
      | global g => exact yl h Iff.rfl
    | invoke r m => exact old h
    | builtin b => exact old h
  | _ => exact old h

theorem opsD_sound {ds : List Deferred} {ro : Option Nat} {m : Nat} (hok : GoodFns P ok) {ops : Array Oper} {K : Env → World → Prop} : ∀ (l : List Oper) (i : Nat) (kn : List (Nat × Option Bool)) (e : Env) (w : World) (a : Act),
    ops.toList.drop i = l → KnOk ops.toList kn e → Fr ds n e a → opsD P ok n ops.toList K l i kn e w → wpListIn (Wd ro) m P ops (opsPost ds n l e K) l a w := by
  intro l
  induction l with
  | nil =>
    intro i kn e w a _ _ hf h
    exact ⟨rfl, e, hf, fun _ _ => rfl, h⟩
  | cons o rest ih =>
    intro i kn e w a hl hkn hf h
    have hoi : dstAt ops.toList i = o.dst := by
      have : ops.toList[i]? = some o := by
        have := congrArg (fun l => l[0]?) hl
        simpa using this
      rw [dstAt_get, this]; rfl
    have hl' : ops.toList.drop (i + 1) = rest := by
      have := congrArg List.tail hl
      simpa using this
    have lift1 : ∀ (v : Value) (a' : Act) (w' : World), wpListIn (Wd ro) m P ops (opsPost ds n rest (updO n e o.dst v) K) rest a' w' → wpListIn (Wd ro) m P ops (opsPost ds n (o :: rest) e K) rest a' w' :=
      fun v a' w' hh => wpListIn_mono (fun ex a w => opsPost_cons) rest a' w' hh
    simp only [opsD] at h
    cases hcl : clash o.dst kn ops.toList with
    | true => simp only [hcl, cond_true] at h
    | false =>
      simp only [hcl, cond_false] at h
      have run1 : ∀ kn', (∀ v, KnOk ops.toList kn' (updO n e o.dst v)) → opY P ok o (ev e) (fun v w' => opsD P ok n ops.toList K rest (i + 1) kn' (updO n e o.dst v) w') w →
          o.wpIn (Wd ro) m P a w (wpListIn (Wd ro) m P ops (opsPost ds n (o :: rest) e K) rest) (opsPost ds n (o :: rest) e K) := by
        intro kn' hk hop
        refine opY_upon hok hf.eval hop fun v w' hv => ?_
        exact lift1 v _ _ (ih (i + 1) kn' _ w' _ hl' (hk v) (hf.put o.dst v) hv)
      have skip1 : ∀ kn', KnOk ops.toList kn' (updO n e o.dst undef) → opsD P ok n ops.toList K rest (i + 1) ((i, none) :: kn') (updO n e o.dst undef) w →
          wpListIn (Wd ro) m P ops (opsPost ds n (o :: rest) e K) rest (a.put o.dst undef) w := by
        intro kn' hk hop
        refine lift1 undef _ _ (ih (i + 1) _ _ w _ hl' (hk.cons ?_) (hf.put o.dst undef) hop)
        unfold yv
        rw [hoi]
        cases hd : o.dst with
        | none => rfl
        | some d =>
          have := (hf.put o.dst undef).get d
          rw [hd] at this
          show bv (updO n e (some d) undef d) = none
          rw [← this]
          by_cases hlt : d < a.tmps.size
          · simp [Act.put, hlt]; rfl
          · simp [Act.put, hlt]; rfl
      have hy := fun j => yielded_of (n := n) hf (ops := ops) (j := j)
      unfold wpListIn
      cases hg : o.guard with
      | none =>
        simp only [hg] at h
        rw [if_pos (by simp [Region.wanted, hg])]
        exact (run1 kn (fun v => hkn.put hcl v) h)
      | some g =>
        obtain ⟨j, want⟩ := g
        simp only [hg] at h
        have hw : Region.wanted o (yielded ops a.tmps) = (yv ops.toList e j == some want) := by simp only [Region.wanted, hg, hy]
        rw [hw]
        cases hlk : lookK kn j with
        | some b =>
          rw [hkn j b hlk]
          simp only [hlk] at h
          cases b with
          | none =>
            simp only at h
            rw [if_neg (by simp)]
            exact ⟨fun _ _ => trivial, skip1 kn (hkn.put hcl _) h⟩
          | some b =>
            simp only [sameB_eq] at h
            cases hbw : (b == want) with
            | true =>
              simp only [hbw, cond_true] at h
              rw [if_pos (by simpa using hbw)]
              exact (run1 kn (fun v => hkn.put hcl v) h)
            | false =>
              simp only [hbw, cond_false] at h
              rw [if_neg (by simpa using hbw)]
              exact ⟨fun _ _ => trivial, skip1 kn (hkn.put hcl _) h⟩
        | none =>
          simp only [hlk] at h
          cases hd : dstAt ops.toList j with
          | none => simp only [hd] at h
          | some d =>
            simp only [hd] at h
            cases hcl2 : clash o.dst ((j, none) :: kn) ops.toList with
            | true => simp only [hcl2, cond_true] at h
            | false =>
              simp only [hcl2, cond_false] at h
              have hyv : yv ops.toList e j = bv (e d) := by simp [yv, hd]
              have hk2 : ∀ b, bv (e d) = b → ∀ v, KnOk ops.toList ((j, b) :: kn) (updO n e o.dst v) := fun b hb v =>
                (hkn.cons (hyv.trans hb)).put (d := o.dst) (by
                  simp only [clash] at hcl2 ⊢
                  cases hdd : o.dst with
                  | none => rfl
                  | some t => rw [hdd] at hcl2; simpa [List.any_cons] using hcl2) v
              rw [hyv]
              rcases condK_bool h with ⟨hv, hb⟩ | ⟨hv, hb⟩
              · rw [upd_self hv] at hb
                rw [hv]
                cases want with
                | true =>
                  simp only [cond_true] at hb
                  rw [if_pos (by rfl)]
                  exact (run1 _ (hk2 _ (by rw [hv]; rfl)) hb)
                | false =>
                  simp only [cond_false] at hb
                  rw [if_neg (by simp [bv])]
                  exact ⟨fun _ _ => trivial, skip1 _ (hk2 _ (by rw [hv]; rfl) _) hb⟩
              · rw [upd_self hv] at hb
                rw [hv]
                cases want with
                | true =>
                  simp only [cond_true] at hb
                  rw [if_neg (by simp [bv])]
                  exact ⟨fun _ _ => trivial, skip1 _ (hk2 _ (by rw [hv]; rfl) _) hb⟩
                | false =>
                  simp only [cond_false] at hb
                  rw [if_pos (by rfl)]
                  exact (run1 _ (hk2 _ (by rw [hv]; rfl)) hb)

theorem qupon {C : World → Prop} {w : World} {v : Value} {r : Result Next} (_ : C w) (h : NextOk w r (fun v' w'' => v' = v ∧ C w'' ∧ (w'' = w ∨ ∃ f args w3, r = .ok (.enter f args) w3)) P) : Oper.quietUpon P C w v r := by
  match r, h with
  | .ok (.value v') w'', h =>
    obtain ⟨h1, _, h2 | ⟨f, a, w3, h2⟩⟩ := h
    · exact ⟨h2, h1⟩
    · cases h2
  | .ok .skip w'', h =>
    obtain ⟨h1, _, h2 | ⟨f, a, w3, h2⟩⟩ := h
    · exact ⟨h2, h1.symm⟩
    · cases h2
  | .ok (.enter f args) w'', h => exact ⟨h.1, Calls.mono h.2 fun e w3 ⟨v', h1, h2, h3, _⟩ => ⟨by rw [h1, h2], h3⟩⟩
theorem nextOk_mono {w : World} {r : Result Next} {K K' : Cont} (h : NextOk w r K P) (hk : ∀ v w', K v w' → K' v w') : NextOk w r K' P := by
  match r, h with
  | .ok (.value v') w'', h => exact hk _ _ h
  | .ok .skip w'', h => exact hk _ _ h
  | .ok (.enter f args) w'', h => exact ⟨h.1, Calls.mono h.2 fun e w3 ⟨v', h1, h2⟩ => ⟨v', h1, hk _ _ h2⟩⟩
theorem opQ_quiet (hok : GoodFns P ok) {C : World → Prop} {w : World} {o : Oper} {a : Act} {e : Env} {K : Value → Prop} {next : Act → Prop} (hf : Fr [] n e a)
    (h : opQ P ok C o (ev e) K w) (hn : ∀ v, K v → next (a.put o.dst v)) : o.quiet P a C next := by
  have hev := hf.eval
  have conv : ∀ v, (∀ w', C w' → opD P ok o (ev e) (fun v' w'' => v' = v ∧ w'' = w') w') → K v → o.quiet P a C next := by
    intro v hv hk
    refine ⟨v, fun w' hw' => ?_, hn v hk⟩
    have := opD_nx hok (fun _ => rfl) (fun _ => rfl) (hv w' hw')
    unfold Oper.quietAt
    rw [hev]
    exact qupon hw' (nextOk_mono this fun v' w'' ⟨h1, h2⟩ => ⟨h1, h2 ▸ hw', .inl h2⟩)
  have pure_ : pureOp P o = true → opD P ok o (ev e) (fun v _ => K v) w → o.quiet P a C next := by
    intro hp hd
    obtain ⟨v, h1, h2⟩ := pure_det hp hd
    exact conv v (fun w' _ => h2 _ w' ⟨rfl, rfl⟩) h1
  have dflt : (bif pureOp P o then opD P ok o (ev e) (fun v _ => K v) w else False) → o.quiet P a C next := by
    intro hd
    cases hp : pureOp P o with
    | true => rw [hp] at hd; exact pure_ hp hd
    | false => rw [hp] at hd; exact hd.elim
  obtain ⟨dst, op, type, pos, after, guard⟩ := o
  cases op with
  | load t x =>
    simp only [opQ] at h
    split at h
    · rename_i k ha
      obtain ⟨p, v, h1, h2, h3⟩ := h
      refine conv v (fun w' hw' => ?_) h3
      simp only [opD, ha]
      exact ⟨p, v, h1, h2 w' hw', rfl, rfl⟩
    · rename_i k ha
      obtain ⟨p, vs, h1, hl, h2, h3⟩ := h
      refine conv _ (fun w' hw' => ?_) h3
      simp only [opD, ha]
      exact ⟨p, vs, h1, hl, h2 w' hw', rfl, rfl⟩
    · exact h.elim
  | binOp op t x y yt =>
    simp only [opQ] at h
    cases hp : pureBin P op t y with
    | true =>
      rw [hp] at h; simp only [cond_true] at h
      obtain ⟨v, h1, h2⟩ := pureBin_det hp h
      exact conv v (fun w' _ => h2 _ _ ⟨rfl, rfl⟩) h1
    | false =>
      rw [hp] at h; simp only [cond_false] at h
      obtain ⟨v, h1, h2⟩ := h
      refine ⟨v, fun w' hw' => ?_, hn v h2⟩
      unfold Oper.quietAt
      rw [hev]
      have : (execOp (ev e) ⟨dst, .binOp op t x y yt, type, pos, after, guard⟩).run P w' = .ok (.value v) w' := by
        have h3 := h1 w' hw'
        simp only [binS] at h3
        simp only [execOp]
        rw [Sem.run_bind, h3]; rfl
      rw [this]; exact ⟨rfl, rfl⟩
  | call c =>
    obtain ⟨callee, args, ats⟩ := c
    simp only [opQ] at h
    cases callee with
    | value f =>
      cases f with
      | func g =>
        simp only at h
        cases hg : ok g with
        | false => rw [hg] at h; exact h.elim
        | true =>
          rw [hg] at h; simp only [cond_true] at h
          obtain ⟨v, h1, h2⟩ := h
          refine ⟨v, fun w' hw' => ?_, hn v h2⟩
          unfold Oper.quietAt
          rw [hev]
          have h3 : (execOp (ev e) ⟨dst, .call ⟨.value (.func g), args, ats⟩, type, pos, after, guard⟩) = callFunc g (args.toList.map (ev e)).toArray := by
            simp only [execOp, resolve, Deferred.ofValue, ev, pure_bind, invoke, args_map]
            simp
          rw [h3, hok g hg]
          exact ⟨rfl, Calls.mono (h1 w' hw') fun en w3 ⟨v', q1, q2, q3⟩ => ⟨by rw [q1, q2], q3⟩⟩
      | _ => exact dflt h
    | _ => exact dflt h
  | _ => exact dflt h

theorem wpQuiet_mono {C : World → Prop} {ops : Array Oper} {Q Q' : Act → Prop} (hq : ∀ a, Q a → Q' a) : ∀ (l : List Oper) (a : Act), wpQuiet P ops C Q l a → wpQuiet P ops C Q' l a := by
  intro l
  induction l with
  | nil => intro a h; exact hq _ h
  | cons o r ih =>
    intro a h
    unfold wpQuiet at h ⊢
    split
    · rename_i hw; rw [if_pos hw] at h; exact Oper.quiet_mono ih h
    · rename_i hw; rw [if_neg hw] at h; exact ih _ h

def opsPostQ (n : Nat) (l : List Oper) (e : Env) (K : Env → Prop) : Act → Prop := fun a' => ∃ e', Fr [] n e' a' ∧ (∀ j, (∀ o ∈ l, o.dst ≠ some j) → e' j = e j) ∧ K e'

theorem opsQ_sound (hok : GoodFns P ok) {C : World → Prop} {ops : Array Oper} {K : Env → Prop} {w : World} : ∀ (l : List Oper) (i : Nat) (kn : List (Nat × Option Bool)) (e : Env) (a : Act),
    ops.toList.drop i = l → KnOk ops.toList kn e → Fr [] n e a → opsQ P ok n C ops.toList K w l i kn e →
    wpQuiet P ops C (opsPostQ n l e K) l a := by
  intro l
  induction l with
  | nil =>
    intro i kn e a _ _ hf h
    exact ⟨e, hf, fun _ _ => rfl, h⟩
  | cons o rest ih =>
    intro i kn e a hl hkn hf h
    have hoi : dstAt ops.toList i = o.dst := by
      have : ops.toList[i]? = some o := by
        have := congrArg (fun l => l[0]?) hl
        simpa using this
      rw [dstAt_get, this]; rfl
    have hl' : ops.toList.drop (i + 1) = rest := by
      have := congrArg List.tail hl
      simpa using this
    have lift1 : ∀ (v : Value) (a' : Act), wpQuiet P ops C (opsPostQ n rest (updO n e o.dst v) K) rest a' → wpQuiet P ops C (opsPostQ n (o :: rest) e K) rest a' :=
      fun v a' hh => wpQuiet_mono (fun a ⟨e', h1, h2, h3⟩ => ⟨e', h1, fun j hj => by
        rw [h2 j (fun o' ho' => hj o' (by simp [ho']))]
        exact updO_other (hj o (by simp)), h3⟩) rest a' hh
    simp only [opsQ] at h
    cases hcl : clash o.dst kn ops.toList with
    | true => simp only [hcl, cond_true] at h
    | false =>
      simp only [hcl, cond_false] at h
      have run1 : ∀ kn', (∀ v, KnOk ops.toList kn' (updO n e o.dst v)) → opQ P ok C o (ev e) (fun v => opsQ P ok n C ops.toList K w rest (i + 1) kn' (updO n e o.dst v)) w →
          o.quiet P a C (wpQuiet P ops C (opsPostQ n (o :: rest) e K) rest) := by
        intro kn' hk hop
        exact opQ_quiet hok hf hop fun v hv => lift1 v _ (ih (i + 1) kn' _ _ hl' (hk v) (hf.put o.dst v) hv)
      have skip1 : ∀ kn', KnOk ops.toList kn' (updO n e o.dst undef) → opsQ P ok n C ops.toList K w rest (i + 1) ((i, none) :: kn') (updO n e o.dst undef) →
          wpQuiet P ops C (opsPostQ n (o :: rest) e K) rest (a.put o.dst undef) := by
        intro kn' hk hop
        refine lift1 undef _ (ih (i + 1) _ _ _ hl' (hk.cons ?_) (hf.put o.dst undef) hop)
        unfold yv
        rw [hoi]
        cases hd : o.dst with
        | none => rfl
        | some d =>
          have := (hf.put o.dst undef).get d
          rw [hd] at this
          show bv (updO n e (some d) undef d) = none
          rw [← this]
          by_cases hlt : d < a.tmps.size
          · simp [Act.put, hlt]; rfl
          · simp [Act.put, hlt]; rfl
      have hy := fun j => yielded_of (n := n) hf (ops := ops) (j := j)
      unfold wpQuiet
      cases hg : o.guard with
      | none =>
        simp only [hg] at h
        rw [if_pos (by simp [Region.wanted, hg])]
        exact run1 kn (fun v => hkn.put hcl v) h
      | some g =>
        obtain ⟨j, want⟩ := g
        simp only [hg] at h
        have hw : Region.wanted o (yielded ops a.tmps) = (yv ops.toList e j == some want) := by simp only [Region.wanted, hg, hy]
        rw [hw]
        cases hlk : lookK kn j with
        | some b =>
          rw [hkn j b hlk]
          simp only [hlk] at h
          cases b with
          | none =>
            simp only at h
            rw [if_neg (by simp)]
            exact skip1 kn (hkn.put hcl _) h
          | some b =>
            simp only [sameB_eq] at h
            cases hbw : (b == want) with
            | true =>
              simp only [hbw, cond_true] at h
              rw [if_pos (by simpa using hbw)]
              exact run1 kn (fun v => hkn.put hcl v) h
            | false =>
              simp only [hbw, cond_false] at h
              rw [if_neg (by simpa using hbw)]
              exact skip1 kn (hkn.put hcl _) h
        | none =>
          simp only [hlk] at h
          cases hd : dstAt ops.toList j with
          | none => simp only [hd] at h
          | some d =>
            simp only [hd] at h
            cases hcl2 : clash o.dst ((j, none) :: kn) ops.toList with
            | true => simp only [hcl2, cond_true] at h
            | false =>
              simp only [hcl2, cond_false] at h
              have hyv : yv ops.toList e j = bv (e d) := by simp [yv, hd]
              have hk2 : ∀ b, bv (e d) = b → ∀ v, KnOk ops.toList ((j, b) :: kn) (updO n e o.dst v) := fun b hb v =>
                (hkn.cons (hyv.trans hb)).put (d := o.dst) (by
                  simp only [clash] at hcl2 ⊢
                  cases hdd : o.dst with
                  | none => rfl
                  | some t => rw [hdd] at hcl2; simpa [List.any_cons] using hcl2) v
              rw [hyv]
              rcases condK_bool h with ⟨hv, hb⟩ | ⟨hv, hb⟩
              · rw [upd_self hv] at hb
                rw [hv]
                cases want with
                | true =>
                  simp only [cond_true] at hb
                  rw [if_pos (by rfl)]
                  exact run1 _ (hk2 _ (by rw [hv]; rfl)) hb
                | false =>
                  simp only [cond_false] at hb
                  rw [if_neg (by simp [bv])]
                  exact skip1 _ (hk2 _ (by rw [hv]; rfl) _) hb
              · rw [upd_self hv] at hb
                rw [hv]
                cases want with
                | true =>
                  simp only [cond_true] at hb
                  rw [if_neg (by simp [bv])]
                  exact skip1 _ (hk2 _ (by rw [hv]; rfl) _) hb
                | false =>
                  simp only [cond_false] at hb
                  rw [if_pos (by rfl)]
                  exact run1 _ (hk2 _ (by rw [hv]; rfl)) hb

theorem map_tmps {ds : List Deferred} {L : List Nat} {e : Env} {a : Act} (hf : Fr ds n e a) : L.map (fun t => a.tmps.getD t undef) = L.map e := List.map_congr_left fun t _ => hf.get t

theorem D_sound {ds : List Deferred} {ro : Option Nat} {m : Nat} (hok : GoodFns P ok) (hm : P.follows .mixedOrders = true) : ∀ (c : Code) (an : Ann) (Q : EQ) (e : Env) (w : World) (a : Act), (ds = [] ∧ ro = none) ∨ rdB c = true → Fr ds n e a → D P ok n c an Q e w → c.wpIn (Wd ro) m P (lift n ds c e Q) a w := by
  intro c
  induction c with
  | skip => intro an Q e w a hrd hf h; exact wpIn_skip ⟨e, hf, fun _ _ => rfl, h⟩
  | exit id => intro an Q e w a hrd hf h; exact wpIn_exit ⟨e, hf, fun _ _ => rfl, h⟩
  | ret => intro an Q e w a hrd hf h; exact wpIn_ret ⟨e, hf, fun _ _ => rfl, h⟩
  | label l => intro an Q e w a hrd hf h; exact wpIn_label ⟨e, hf, fun _ _ => rfl, h⟩
  | goto l => intro an Q e w a hrd hf h; exact h.elim
  | refuse y => intro an Q e w a hrd hf h; exact h.elim
  | scope x ih =>
    intro an Q e w a hrd hf h
    obtain ⟨rfl, rfl⟩ : ds = [] ∧ ro = none := hrd.resolve_right (by simp [rdB])
    refine (wpIn_wide (n := m)).2 (wp_scope_straight (wp_mono ((wpIn_wide (n := m)).1 (ih an (gEx Q) e w a (.inl ⟨rfl, rfl⟩) hf h)) ?_))
    rintro ex a' w' ⟨e', h1, h2, h3⟩
    cases ex with
    | goto l => exact h3.elim
    | normal => exact ⟨e', h1, fun j hj => h2 j hj, h3⟩
    | exit i => exact ⟨e', h1, fun j hj => h2 j hj, h3⟩
    | ret => exact ⟨e', h1, fun j hj => h2 j hj, h3⟩
    | panic c => exact ⟨e', h1, fun j hj => h2 j hj, h3⟩
    | outgrown => exact ⟨e', h1, fun j hj => h2 j hj, h3⟩
  | rangeFunc f ps x y ih1 ih2 => intro an Q e w a hrd hf h; exact h.elim
  | region id ops draw =>
    intro an Q e w a hrd hf h
    simp only [D] at h
    cases draw with
    | false =>
      refine wpIn_region_list (wpListIn_mono ?_ _ _ _ (opsD_sound hok ops.toList 0 [] e w a rfl (fun j b hb => by simp [lookK] at hb) hf h))
      rintro ex a' w' ⟨rfl, e', h1, h2, h3⟩
      exact ⟨e', h1, fun j hj => h2 j (fun o ho hd => hj ⟨o, ho, hd⟩), h3⟩
    | true =>
      simp only at h
      obtain ⟨rfl, rfl⟩ : ds = [] ∧ ro = none := hrd.resolve_right (by simp [rdB])
      refine (wpIn_wide (n := m)).2 ?_
      cases an with
      | draw =>
        simp only at h
        cases hB : Region.lexB .any ops with
        | false => rw [hB] at h; exact h.elim
        | true =>
          rw [hB] at h; simp only [cond_true] at h
          obtain ⟨C, hC, h⟩ := h
          refine wp_region_quiet (C := C) hm hB hC ?_
          have := opsQ_sound hok ops.toList 0 [] e a rfl (fun j b hb => by simp [lookK] at hb) hf h
          refine wpQuiet_mono ?_ _ _ this
          rintro a' ⟨e', h1, h2, h3⟩ w' hw'
          exact ⟨e', h1, fun j hj => h2 j (fun o ho hd => hj ⟨o, ho, hd⟩), h3 w' hw'⟩
      | dg eff AN Gs =>
        simp only at h
        cases hB : gokB n ops.toList eff AN Gs with
        | false => rw [hB] at h; exact h.elim
        | true =>
          rw [hB] at h; simp only [cond_true] at h
          refine wp_mono (wp_region_G (K := fun e w => Q .normal e w) hok hm hf hB h) ?_
          rintro ex a' w' ⟨rfl, e', h1, h2, h3⟩
          exact ⟨e', h1, fun j hj => h2 j (fun o ho hd => hj ⟨o, ho, hd⟩), h3⟩
      | dc eff AN Gs =>
        simp only at h
        cases hB : (gokB n ops.toList eff AN Gs && chainB eff AN) with
        | false => rw [hB] at h; exact h.elim
        | true =>
          rw [hB] at h; simp only [cond_true] at h
          simp only [Bool.and_eq_true] at hB
          refine wp_mono (wp_region_C (K := fun e w => Q .normal e w) hok hm hf hB.1 hB.2 h) ?_
          rintro ex a' w' ⟨rfl, e', h1, h2, h3⟩
          exact ⟨e', h1, fun j hj => h2 j (fun o ho hd => hj ⟨o, ho, hd⟩), h3⟩
      | dt eff AN Gs t =>
        simp only at h
        cases hB : (gokB n ops.toList eff AN Gs && treeB ops.toList.length eff AN t) with
        | false => rw [hB] at h; exact h.elim
        | true =>
          rw [hB] at h; simp only [cond_true] at h
          simp only [Bool.and_eq_true] at hB
          refine wp_mono (wp_region_T (K := fun e w => Q .normal e w) hok hm hf hB.1 hB.2 h) ?_
          rintro ex a' w' ⟨rfl, e', h1, h2, h3⟩
          exact ⟨e', h1, fun j hj => h2 j (fun o ho hd => hj ⟨o, ho, hd⟩), h3⟩
      | _ => exact h.elim
  | cond c x y ihx ihy =>
    intro an Q e w a hrd hf h
    cases an with
    | nil => exact h.elim
    | cut => exact h.elim
    | draw => exact h.elim
    | dg => exact h.elim
    | dc => exact h.elim
    | dt => exact h.elim
    | node L W an1 an2 =>
      have hev : a.eval c = ev e c := by rw [hf.eval]
      rcases condK_bool h with ⟨hv, hb⟩ | ⟨hv, hb⟩
      · refine wpIn_cond_true (hev.trans hv) (wpIn_mono (ihx an1 Q e w a (hrd.imp id fun h => by simp only [rdB, Bool.and_eq_true] at h; exact h.1) hf hb) ?_)
        rintro ex a' w' ⟨e', h1, h2, h3⟩
        exact ⟨e', h1, fun j hj => h2 j (fun hw => hj (.inl hw)), h3⟩
      · refine wpIn_cond_false (hev.trans hv) (wpIn_mono (ihy an2 Q e w a (hrd.imp id fun h => by simp only [rdB, Bool.and_eq_true] at h; exact h.2) hf hb) ?_)
        rintro ex a' w' ⟨e', h1, h2, h3⟩
        exact ⟨e', h1, fun j hj => h2 j (fun hw => hj (.inr hw)), h3⟩
  | block id x ih =>
    intro an Q e w a hrd hf h
    refine wpIn_block (wpIn_mono (ih an (bEx id Q) e w a hrd hf h) ?_)
    rintro ex a' w' ⟨e', h1, h2, h3⟩
    cases ex with
    | exit i =>
      simp only [bEx] at h3
      simp only [Exit.inBlock]
      cases hb : Nat.beq i id with
      | true => rw [hb] at h3; rw [if_pos (Nat.eq_of_beq_eq_true hb)]; exact ⟨e', h1, h2, h3⟩
      | false =>
        rw [hb] at h3
        rw [if_neg (by intro e1; subst e1; simp at hb)]
        exact ⟨e', h1, h2, h3⟩
    | _ => exact ⟨e', h1, h2, h3⟩
  | seq x y ihx ihy =>
    intro an Q e w a hrd hf h
    have comb : ∀ {e1 e2 : Env}, (∀ j, ¬ Wr x j → e1 j = e j) → (∀ j, ¬ Wr y j → e2 j = e1 j) → ∀ j, ¬ Wr (.seq x y) j → e2 j = e j := fun h1 h2 j hj =>
      (h2 j fun hw => hj (.inr hw)).trans (h1 j fun hw => hj (.inl hw))
    have other : ∀ {e1 : Env}, (∀ j, ¬ Wr x j → e1 j = e j) → ∀ j, ¬ Wr (.seq x y) j → e1 j = e j := fun h1 j hj => h1 j fun hw => hj (.inl hw)
    cases an with
    | nil => exact h.elim
    | draw => exact h.elim
    | dg => exact h.elim
    | dc => exact h.elim
    | dt => exact h.elim
    | node L W an1 an2 =>
      refine wpIn_seq (wpIn_mono (ihx an1 _ e w a (hrd.imp id fun h => by simp only [rdB, Bool.and_eq_true] at h; exact h.1) hf h) ?_)
      rintro ex a' w' ⟨e', h1, h2, h3⟩
      cases ex with
      | normal =>
        refine wpIn_mono (ihy an2 Q e' w' a' (hrd.imp id fun h => by simp only [rdB, Bool.and_eq_true] at h; exact h.2) h1 h3) ?_
        rintro ex a'' w'' ⟨e'', h4, h5, h6⟩
        exact ⟨e'', h4, comb h2 h5, h6⟩
      | _ => exact ⟨e', h1, other h2, h3⟩
    | cut L W an1 an2 =>
      simp only [D] at h
      cases hw : wrIn W x with
      | false => simp only [hw, cond_false] at h
      | true =>
        simp only [hw, cond_true] at h
        obtain ⟨I, hI, hG⟩ := h
        refine wpIn_seq (wpIn_mono (ihx an1 _ e w a (hrd.imp id fun h => by simp only [rdB, Bool.and_eq_true] at h; exact h.1) hf hG) ?_)
        rintro ex a' w' ⟨e', h1, h2, h3⟩
        cases ex with
        | normal =>
          have h4 := hI _ _ h3 e'
          rw [mix_self (fun j hj => h2 j fun hw' => by rw [wrIn_spec hw j hw'] at hj; cases hj)] at h4
          refine wpIn_mono (ihy an2 Q e' w' a' (hrd.imp id fun h => by simp only [rdB, Bool.and_eq_true] at h; exact h.2) h1 h4) ?_
          rintro ex a'' w'' ⟨e'', h5, h6, h7⟩
          exact ⟨e'', h5, comb h2 h6, h7⟩
        | _ => exact ⟨e', h1, other h2, h3⟩
  | loop x ih =>
    intro an Q e w a hrd hf h
    cases an with
    | nil => exact h.elim
    | cut => exact h.elim
    | draw => exact h.elim
    | dg => exact h.elim
    | dc => exact h.elim
    | dt => exact h.elim
    | node L W an1 an2 =>
      simp only [D] at h
      cases hw : wrIn W x with
      | false => simp only [hw, cond_false] at h
      | true =>
        simp only [hw, cond_true] at h
        obtain ⟨I, μ, h0, hR⟩ := h
        refine wpIn_loop (fun a' w' => ∃ e', Fr ds n e' a' ∧ (∀ j, ¬ Wr x j → e' j = e j) ∧ I (L.map e') w') (fun a' w' => μ (L.map fun t => a'.tmps.getD t undef) w') ⟨e, hf, fun _ _ => rfl, h0⟩ ?_
        rintro a1 w1 ⟨e1, hf1, hk1, hI1⟩
        have h4 := hR _ _ hI1 e1
        rw [mix_self (fun j hj => hk1 j fun hw' => by rw [wrIn_spec hw j hw'] at hj; cases hj)] at h4
        refine wpIn_mono (ih an1 _ e1 w1 a1 hrd hf1 h4) ?_
        rintro ex a2 w2 ⟨e2, h5, h6, h7⟩
        have h8 : ∀ j, ¬ Wr x j → e2 j = e j := fun j hj => (h6 j hj).trans (hk1 j hj)
        cases ex with
        | normal =>
          refine ⟨⟨e2, h5, h8, h7.1⟩, ?_⟩
          rw [map_tmps h5, map_tmps hf1]
          exact h7.2
        | _ => exact ⟨e2, h5, h8, h7⟩


/-! ### a call -/
def resD (P : Program) : List ResultVar → Env → World → (List Value → Prop) → Prop
  | [], _, _, K => K []
  | .tmp t :: r, e, w, K => resD P r e w fun vs => K (e t :: vs)
  | .cell a t :: r, e, w, K => match aggOf P t with
    | some (false, _) => ld1K (e a) (fun v w' => resD P r e w' fun vs => K (v :: vs)) w
    | some (true, k) => ldnK k (e a) (fun v w' => resD P r e w' fun vs => K (v :: vs)) w
    | none => False
def tupK : List Value → Value
  | [v] => v
  | vs => .tuple vs.toArray
def retK (P : Program) (rs : List ResultVar) (K : Cont) : EQ := fun ex e w => match ex with
  | .normal => resD P rs e w fun vs => K (tupK vs) w
  | .ret => resD P rs e w fun vs => K (tupK vs) w
  | _ => False
def bodyOf (f : Func) : Code := match f.body with | some c => c | none => .skip

theorem resD_run {ds : List Deferred} {e : Env} {a : Act} {w : World} (hf : Fr ds n e a) (f : ResultVar → Sem Value) (hft : ∀ t, f (.tmp t) = pure (a.tmps.getD t undef)) (hfc : ∀ x t, f (.cell x t) = (do loadVar t (← asAddr (a.tmps.getD x undef)))) : ∀ (rs : List ResultVar) (K : List Value → Prop), resD P rs e w K →
    ∃ vs, (rs.mapM f : Sem (List Value)).run P w = .ok vs w ∧ K vs := by
  intro rs
  induction rs with
  | nil => intro K h; exact ⟨[], by simp, h⟩
  | cons r rs ih =>
    intro K h
    cases r with
    | tmp t =>
      obtain ⟨vs, h1, h2⟩ := ih _ h
      refine ⟨_, ?_, h2⟩
      rw [List.mapM_cons]
      rw [Sem.run_bind, hft]
      simp only [Sem.run_pure, Result.andThen_ok]
      rw [Sem.run_bind, h1]
      simp only [Result.andThen_ok, Sem.run_pure, hf.get]
    | cell x t =>
      simp only [resD] at h
      have key : ∀ v, (loadVar t · : Addr → Sem Value) = (loadVar t ·) → resD P rs e w (fun vs => K (v :: vs)) → (do loadVar t (← asAddr (a.tmps.getD x undef)) : Sem Value).run P w = .ok v w →
          ∃ vs, ((ResultVar.cell x t :: rs).mapM f : Sem (List Value)).run P w = .ok vs w ∧ K vs := by
        intro v _ h3 h4
        obtain ⟨vs, h1, h2⟩ := ih _ h3
        refine ⟨_, ?_, h2⟩
        rw [List.mapM_cons]
        rw [Sem.run_bind, hfc, h4]
        simp only [Result.andThen_ok]
        rw [Sem.run_bind, h1]
        simp only [Result.andThen_ok, Sem.run_pure]
      split at h
      · rename_i k ha
        obtain ⟨p, v, h1, h2, h3⟩ := h
        refine key v rfl h3 ?_
        have h1' : a.tmps.getD x undef = .pointer (some p) := (hf.get x).trans h1
        rw [Sem.run_bind, h1']
        simp only [asAddr, Sem.run_pure, Result.andThen_ok]
        simp [loadVar, (run_isAgg ha w).1, h2]
      · rename_i k ha
        obtain ⟨p, vs, h1, hl, h2, h3⟩ := h
        refine key _ rfl h3 ?_
        have h1' : a.tmps.getD x undef = .pointer (some p) := (hf.get x).trans h1
        rw [Sem.run_bind, h1']
        simp only [asAddr, Sem.run_pure, Result.andThen_ok]
        have hcells := run_loadCells_list (P := P) (w := w) p vs h2
        simp only [loadVar, Sem.run_bind, (run_isAgg ha w).1, (run_isAgg ha w).2, Result.andThen_ok, if_true]
        rw [← hl, hcells]
        rfl
      · exact h.elim
theorem results_run {ds : List Deferred} {fn : Func} {e : Env} {a : Act} {w : World} {K : Cont} (hf : Fr ds n e a) (h : resD P fn.results.toList e w fun vs => K (tupK vs) w) :
    ∃ v, (results fn a.tmps).run P w = .ok v w ∧ K v w := by
  obtain ⟨vs, h1, h2⟩ := resD_run hf (fun x => match x with | .tmp t => pure (a.tmps.getD t undef) | .cell y t => do loadVar t (← asAddr (a.tmps.getD y undef))) (fun _ => rfl) (fun _ _ => rfl) _ _ h
  refine ⟨_, ?_, h2⟩
  unfold results
  rw [Sem.run_bind, Array.mapM_eq_mapM_toList, Sem.run_map]
  erw [h1]
  simp only [Result.andThen_ok, Sem.run_pure]
  congr 1
  match vs with
  | [] => rfl
  | [v] => rfl
  | v :: u :: r => simp [tupK]

theorem fr_args {args : List Value} {m : Nat} (hl' : args.length ≤ m) : Fr [] m (nth args) { tmps := args.toArray ++ Array.replicate (m - args.toArray.size) undef, defers := [] } := by
  have hnth : ∀ (l : List Value) (t : Nat), nth l t = l.getD t undef := by
    intro l; induction l with
    | nil =>
      intro t
      induction t with
      | zero => rfl
      | succ t ih => simpa [nth] using ih
    | cons v l ih => intro t; cases t with
      | zero => simp [nth]
      | succ t => simp [nth, ih]
  refine ⟨by simp; omega, fun t => ?_, rfl⟩
  rw [hnth]
  simp only [Array.getD_eq_getD_getElem?, Array.getElem?_append, List.size_toArray, List.getElem?_toArray, List.getD_eq_getElem?_getD]
  split
  · rfl
  · rename_i hge
    rw [List.getElem?_eq_none (by omega)]
    cases hx : (Array.replicate (m - args.length) undef)[t - args.length]? with
    | none => rfl
    | some v =>
      rw [Array.getElem?_replicate] at hx
      split at hx
      · cases hx; rfl
      · cases hx
theorem callK_of {g : Nat} {fn : Func} {c : Code} {rs : List ResultVar} {args : List Value} {K : Cont} {w : World} {an : Ann} (hok : GoodFns P ok) (hm : P.follows .mixedOrders = true) (hf : P.funcs[g]? = some fn)
    (hb : fn.body = some c) (hn : fn.ntmps = n) (hrs : fn.results.toList = rs) (hl : Nat.ble args.length n = true) (h : D P ok n c an (retK P rs K) (nth args) w) : callK P g args K w := by
  refine calls_of_wp hf hb ?_
  have hl' := Nat.le_of_ble_eq_true hl
  subst hn
  have hfr := fr_args hl'
  refine wp_mono ((wpIn_wide (n := 0)).1 (D_sound (ds := []) (ro := none) (m := 0) hok hm c an _ _ w _ (.inl ⟨rfl, rfl⟩) hfr h)) ?_
  rintro ex a' w' ⟨e', h1, _, h3⟩
  subst hrs
  cases ex with
  | normal =>
    obtain ⟨v, h4, h5⟩ := results_run h1 h3
    exact ⟨h1.defers, v, h4, v, rfl, h5⟩
  | ret =>
    obtain ⟨v, h4, h5⟩ := results_run h1 h3
    exact ⟨h1.defers, v, h4, v, rfl, h5⟩
  | _ => exact h3.elim
attribute [irreducible] D
end Go.K
