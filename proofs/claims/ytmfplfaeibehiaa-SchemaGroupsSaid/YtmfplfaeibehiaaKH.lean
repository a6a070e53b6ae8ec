/- Soundness of the rule for regions that draw their order. No conditions. -/
import Derived.Test.YtmfplfaeibehiaaKG
namespace Go.K
open Go
def clash (d : Option Nat) (kn : List (Nat × Option Bool)) (all : List Oper) : Bool :=
  match d with
  | none => false
  | some t => kn.any fun p => match dstAt all p.1 with | some u => Nat.beq u t | none => false


section
variable {P : Program} {ok : Nat → Bool} {n : Nat}
/-- the bool that an operation has yielded -/
def bv (v : Value) : Option Bool := match v with | .bool b => some b | _ => none
def yv (all : List Oper) (e : Env) (j : Nat) : Option Bool := match dstAt all j with | some d => bv (e d) | none => none

theorem dstAt_get : ∀ (l : List Oper) (j : Nat), dstAt l j = (l[j]?).bind (·.dst) := by
  intro l; induction l with
  | nil => intro j; simp [dstAt]
  | cons o r ih => intro j; cases j <;> simp [dstAt, ih]
theorem yielded_of {ds : List Deferred} {e : Env} {a : Act} (hf : Fr ds n e a) {ops : Array Oper} {j : Nat} : yielded ops a.tmps j = yv ops.toList e j := by
  simp only [yielded, yv, dstAt_get, Array.getElem?_toList]
  cases h : (ops[j]?).bind (·.dst) with
  | none => rfl
  | some d =>
    have h3 := hf.get d
    rw [Array.getD_eq_getD_getElem?] at h3
    simp only [Option.bind_some]
    cases h4 : a.tmps[d]? with
    | none => rw [h4] at h3; simp only [Option.getD_none] at h3; rw [← h3]; rfl
    | some v => rw [h4] at h3; simp only [Option.getD_some] at h3; rw [← h3]; cases v <;> rfl

/-- what is known of the guards holds in the slots -/
def KnOk (all : List Oper) (kn : List (Nat × Option Bool)) (e : Env) : Prop := ∀ j b, lookK kn j = some b → yv all e j = b

theorem upd_self {e : Env} {d : Nat} {v : Value} (h : e d = v) : upd n e d v = e := by
  funext j
  simp only [upd]
  cases hb : (Nat.beq j d && Nat.blt d n) with
  | false => rfl
  | true =>
    simp only [Bool.and_eq_true] at hb
    have := Nat.eq_of_beq_eq_true hb.1
    subst this; simp [h]
theorem updO_other {e : Env} {d : Option Nat} {j : Nat} {v : Value} (h : d ≠ some j) : updO n e d v j = e j := by
  cases d with
  | none => rfl
  | some i =>
    have : Nat.beq j i = false := by
      cases hb : Nat.beq j i with
      | false => rfl
      | true => exact absurd (by rw [Nat.eq_of_beq_eq_true hb]) h
    simp [updO, upd, this]
theorem lookK_mem {kn : List (Nat × Option Bool)} {j : Nat} {b : Option Bool} (h : lookK kn j = some b) : (j, b) ∈ kn := by
  induction kn with
  | nil => simp [lookK] at h
  | cons p r ih =>
    obtain ⟨i, c⟩ := p
    simp only [lookK] at h
    cases hb : Nat.beq i j with
    | true => rw [hb] at h; simp only [cond_true, Option.some.injEq] at h; have := Nat.eq_of_beq_eq_true hb; subst this; subst h; simp
    | false => rw [hb] at h; simp only [cond_false] at h; exact List.mem_cons_of_mem _ (ih h)
theorem KnOk.put {all : List Oper} {kn : List (Nat × Option Bool)} {e : Env} (h : KnOk all kn e) {d : Option Nat} (hc : clash d kn all = false) (v : Value) : KnOk all kn (updO n e d v) := by
  intro j b hl
  have h1 := h j b hl
  have h2 := lookK_mem hl
  unfold yv at h1 ⊢
  cases hd : dstAt all j with
  | none => rw [hd] at h1; exact h1
  | some u =>
    rw [hd] at h1
    rw [← h1]
    show bv (updO n e d v u) = bv (e u)
    rw [updO_other]
    intro e1; subst e1
    simp only [clash, List.any_eq_false] at hc
    have := hc _ h2
    simp [hd] at this
theorem KnOk.cons {all : List Oper} {kn : List (Nat × Option Bool)} {e : Env} (h : KnOk all kn e) {i : Nat} {b : Option Bool} (hb : yv all e i = b) : KnOk all ((i, b) :: kn) e := by
  intro j c hl
  simp only [lookK] at hl
  cases hq : Nat.beq i j with
  | true => rw [hq] at hl; simp only [cond_true, Option.some.injEq] at hl; have := Nat.eq_of_beq_eq_true hq; subst this; subst hl; exact hb
  | false => rw [hq] at hl; simp only [cond_false] at hl; exact h j c hl

theorem condK_bool {v : Value} {A B : Prop} (h : condK v A B) : (v = .bool true ∧ A) ∨ (v = .bool false ∧ B) := by
  unfold condK at h
  split at h
  · exact .inl ⟨rfl, h⟩
  · exact .inr ⟨rfl, h⟩
  · exact h.elim
theorem sameB_eq {a b : Bool} : sameB a b = (a == b) := by cases a <;> cases b <;> rfl


end

/-! ### the rule -/
/-- what is asked of a region's text -/
def opSlots (o : Oper) : List Nat := o.op.operands.toList.filterMap fun x => match x with | .tmp t => some t | _ => none
def slotsOf (all : List Oper) (o : Oper) : List Nat := (match o.guard with | some (g, _) => (match dstAt all g with | some d => [d] | none => []) | none => []) ++ opSlots o
def optEq (d : Option Nat) (t : Nat) : Bool := match d with | some x => Nat.beq x t | none => false
structure GOk (n : Nat) (all : List Oper) (eff : List Nat) (AN : List (List Nat)) (Gs : List (List Nat)) : Prop where
  nosel : ∀ (i : Nat) o, all[i]? = some o → ∀ cs b, o.op ≠ .select cs b
  /-- edges go backwards -/
  back : ∀ (i : Nat) o, all[i]? = some o → ∀ e ∈ o.after, Region.binds .any e = true → e.on < i
  anc : ∀ (i : Nat) o, all[i]? = some o → ∀ j ∈ getA AN i, ∃ e ∈ o.after, Region.binds .any e = true ∧ (e.on = j ∨ j ∈ getA AN e.on)
  trans : ∀ i, ∀ j ∈ getA AN i, ∀ m ∈ getA AN j, m ∈ getA AN i
  reads : ∀ (i : Nat) o, all[i]? = some o → ∀ t ∈ slotsOf all o, ∀ (m : Nat) o', all[m]? = some o' → o'.dst = some t → m ≠ i → m ∈ getA AN i ∨ i ∈ getA AN m
  guard : ∀ (i : Nat) o, all[i]? = some o → ∀ g b, o.guard = some (g, b) → g ∈ getA AN i ∧ ∃ d, dstAt all g = some d
  one : ∀ (i j : Nat) o o', all[i]? = some o → all[j]? = some o' → ∀ d, o.dst = some d → o'.dst = some d → i = j
  groups : ∀ (i : Nat), i < all.length → i ∉ eff → (∀ j ∈ getA AN i, j ∉ eff) ∨ (∀ j ∈ eff, j ∈ getA AN i) ∨ ∃ E ∈ Gs, ∀ j ∈ eff, (j ∈ getA AN i ↔ j ∈ E)
  first : ∃ k ∈ eff, k < all.length ∧ ∀ j ∈ getA AN k, j ∉ eff
  effin : ∀ k ∈ eff, k < all.length
  bound : ∀ (i : Nat) o, all[i]? = some o → ∀ d, o.dst = some d → d < n

section
variable {P : Program} {ok : Nat → Bool} {n : Nat} {all : List Oper} {eff : List Nat} {AN : List (List Nat)} {Gs : List (List Nat)}

theorem GOk.lt (h : GOk n all eff AN Gs) {i j : Nat} (hi : i < all.length) (hj : j ∈ getA AN i) : j < i := by
  induction i using Nat.strongRecOn generalizing j with
  | _ i ih =>
    obtain ⟨e, he, hb, h1⟩ := h.anc i all[i] (by simp [hi]) j hj
    have h2 := h.back i all[i] (by simp [hi]) e he hb
    rcases h1 with rfl | h1
    · exact h2
    · exact Nat.lt_trans (ih _ h2 (by omega) h1) h2

/-- the slots when the operations of S have been carried out -/
noncomputable def envS (all : List Oper) (n : Nat) (e0 : Env) (vals : Nat → Value) (S : Nat → Prop) : Env := fun t =>
  open Classical in if h : ∃ m, S m ∧ m < all.length ∧ dstAt all m = some t then (if t < n then vals h.choose else e0 t) else e0 t
theorem envS_at (h : GOk n all eff AN Gs) {e0 : Env} {vals : Nat → Value} {S : Nat → Prop} {m t : Nat} (hm : S m) (hl : m < all.length) (hd : dstAt all m = some t) (ht : t < n) : envS all n e0 vals S t = vals m := by
  have hex : ∃ m, S m ∧ m < all.length ∧ dstAt all m = some t := ⟨m, hm, hl, hd⟩
  unfold envS
  rw [dif_pos hex, if_pos ht]
  have h1 := hex.choose_spec
  congr 1
  have g1 : all[hex.choose]? = some all[hex.choose] := by simp [h1.2.1]
  have g2 : all[m]? = some all[m] := by simp [hl]
  have h2 := h1.2.2
  rw [dstAt_get, g1] at h2
  rw [dstAt_get, g2] at hd
  exact h.one _ _ _ _ g1 g2 t h2 hd
theorem envS_else {e0 : Env} {vals : Nat → Value} {S : Nat → Prop} {t : Nat} (hn : ∀ m, S m → m < all.length → dstAt all m ≠ some t) : envS all n e0 vals S t = e0 t := by
  unfold envS
  rw [dif_neg]
  rintro ⟨m, h1, h2, h3⟩; exact hn m h1 h2 h3
theorem envS_big {e0 : Env} {vals : Nat → Value} {S : Nat → Prop} {t : Nat} (ht : ¬ t < n) : envS all n e0 vals S t = e0 t := by
  unfold envS
  by_cases hx : ∃ m, S m ∧ m < all.length ∧ dstAt all m = some t
  · rw [dif_pos hx, if_neg ht]
  · rw [dif_neg hx]
/-- two such rows of slots agree at a slot whose writer both have or both have not -/
theorem envS_same (h : GOk n all eff AN Gs) {e0 : Env} {vals vals' : Nat → Value} {S S' : Nat → Prop} {t : Nat} (hs : ∀ m, m < all.length → dstAt all m = some t → (S m ↔ S' m) ∧ (S m → vals m = vals' m)) : envS all n e0 vals S t = envS all n e0 vals' S' t := by
  by_cases ht : t < n
  · by_cases hex : ∃ m, S m ∧ m < all.length ∧ dstAt all m = some t
    · obtain ⟨m, h1, h2, h3⟩ := hex
      rw [envS_at h h1 h2 h3 ht, envS_at h ((hs m h2 h3).1.1 h1) h2 h3 ht]
      exact (hs m h2 h3).2 h1
    · rw [envS_else fun m h1 h2 h3 => hex ⟨m, h1, h2, h3⟩, envS_else fun m h1 h2 h3 => hex ⟨m, (hs m h2 h3).1.2 h1, h2, h3⟩]
  · rw [envS_big ht, envS_big ht]
/-- one more has been carried out -/
theorem envS_put (h : GOk n all eff AN Gs) {e0 : Env} {vals vals' : Nat → Value} {S S' : Nat → Prop} {i : Nat} {o : Oper} {v : Value} (hi : all[i]? = some o) (hS : ∀ m, S' m ↔ S m ∨ m = i) (hv : ∀ m, S m → m ≠ i → vals' m = vals m) (hvi : vals' i = v) (hni : ¬ S i) :
    updO n (envS all n e0 vals S) o.dst v = envS all n e0 vals' S' := by
  have hil : i < all.length := (List.getElem?_eq_some_iff.1 hi).1
  have hdi : dstAt all i = o.dst := by rw [dstAt_get, hi]; rfl
  funext t
  by_cases htd : o.dst = some t
  · rw [htd]
    by_cases ht : t < n
    · rw [envS_at h ((hS i).2 (.inr rfl)) hil (hdi.trans htd) ht, hvi]
      have : Nat.blt t n = true := Nat.ble_eq_true_of_le (by omega)
      simp [updO, upd, this]
    · rw [envS_big ht]
      have : Nat.blt t n = false := by cases hb : Nat.blt t n with | false => rfl | true => exact absurd (Nat.le_of_ble_eq_true hb) (by omega)
      simp only [updO, upd, this, Bool.and_false, cond_false]
      exact envS_big ht
  · rw [updO_other htd]
    refine envS_same h fun m hm hd => ?_
    have hmi : m ≠ i := by rintro rfl; rw [hdi] at hd; exact htd hd
    exact ⟨by rw [hS]; simp [hmi], fun hs => (hv m hs hmi).symm⟩

theorem execOp_slots {o : Oper} {e e' : Env} (hs : ∀ cs b, o.op ≠ .select cs b) (h : ∀ t ∈ opSlots o, e t = e' t) : execOp (ev e) o = execOp (ev e') o := by
  refine execOp_congr o hs fun x hx => ?_
  cases x with
  | tmp t => exact h t (by simp only [opSlots, List.mem_filterMap]; exact ⟨.tmp t, by simpa using hx, rfl⟩)
  | _ => rfl

variable (e0 : Env) (w0 : World) (A : Nat → Value → World → Prop) (M : Nat → Nat → Prop)
def AllM (eff : List Nat) (M : Nat → Nat → Prop) : Nat → Prop := fun b => ∃ j ∈ eff, M j b
def StM (eff : List Nat) (M : Nat → Nat → Prop) (w0 : World) (a : Addr) (v : Value) : Prop := w0.cell? a = some v ∧ ∀ j ∈ eff, ¬ M j a.block
/-- the operations of eff that do not wait for i -/
def effI (eff : List Nat) (AN : List (List Nat)) (i : Nat) : List Nat := eff.filter fun j => !memB (getA AN j) i
def StI (eff : List Nat) (AN : List (List Nat)) (M : Nat → Nat → Prop) (w0 : World) (i : Nat) : Addr → Value → Prop := StM (effI eff AN i) M w0
noncomputable def view (all : List Oper) (AN : List (List Nat)) (n : Nat) (e0 : Env) (vals : Nat → Value) (i : Nat) : Env := envS all n e0 vals (· ∈ getA AN i)
def wantedV (all : List Oper) (e : Env) (o : Oper) : Prop := ∀ g b, o.guard = some (g, b) → yv all e g = some b
def RunsV (P : Program) (eff : List Nat) (M : Nat → Nat → Prop) (w0 : World) (o : Oper) (e : Env) (v : Value) : Prop := ∀ w', Mod (AllM eff M) w0 w' → (execOp (ev e) o).run P w' = .ok (.value v) w'
def Gd (P : Program) (all : List Oper) (eff : List Nat) (AN : List (List Nat)) (n : Nat) (e0 : Env) (w0 : World) (M : Nat → Nat → Prop) (vals : Nat → Value) (i : Nat) (o : Oper) : Prop :=
  (wantedV all (view all AN n e0 vals i) o → RunsV P (effI eff AN i) M w0 o (view all AN n e0 vals i) (vals i)) ∧ (¬ wantedV all (view all AN n e0 vals i) o → vals i = undef)
def Ad (all : List Oper) (AN : List (List Nat)) (n : Nat) (e0 : Env) (A : Nat → Value → World → Prop) (vals : Nat → Value) (w : World) (i : Nat) (o : Oper) : Prop :=
  (wantedV all (view all AN n e0 vals i) o → A i (vals i) w) ∧ (¬ wantedV all (view all AN n e0 vals i) o → vals i = undef)

variable {e0 w0 A M}
theorem wexec_run {eff' : List Nat} {w : World} {o : Oper} {i : Nat} {e : Env} {k : Value → Prop} (hi : memB eff i = false) (h : wexec P ok eff A (StM eff' M w0) w o i (ev e) k) : ∃ v, k v ∧ RunsV P eff' M w0 o e v := by
  unfold wexec at h
  rw [hi] at h
  simp only [cond_false] at h
  have cellk : ∀ (a : Addr) (v : Value), StM eff' M w0 a v → ∀ w', Mod (AllM eff' M) w0 w' → w'.cell? a = some v := fun a v hs w' hm =>
    (World.cell?_of_block (hm.same a.block (World.block_lt_of_cell? w0 a hs.1) fun ⟨j, hj, hb⟩ => hs.2 j hj hb)).trans hs.1
  have pure_ : (bif pureOp P o then opD P ok o (ev e) (fun v _ => k v) w else False) → ∃ v, k v ∧ RunsV P eff' M w0 o e v := by
    intro h
    cases hp : pureOp P o with
    | false => rw [hp] at h; exact h.elim
    | true =>
      rw [hp] at h; simp only [cond_true] at h
      obtain ⟨v, h1, h2⟩ := pure_run (ρ := ev e) (fun _ => rfl) hp h
      exact ⟨v, h1, fun w' _ => h2 w'⟩
  obtain ⟨dst, op, type, pos, after, guard⟩ := o
  cases op with
  | load t x =>
    simp only at h
    split at h
    · rename_i m ha
      obtain ⟨a, v, h1, h2, h3⟩ := h
      refine ⟨v, h3, fun w' hm => ?_⟩
      obtain ⟨v', w'', r1, r2⟩ := ld1_run (P := P) (K := fun v' w'' => v' = v ∧ w'' = w') (w := w') ha ⟨a, v, h1, cellk a v h2 w' hm, rfl, rfl⟩
      obtain ⟨rfl, rfl⟩ := r2
      simp only [execOp, Sem.run_bind, r1, Result.andThen_ok, Sem.run_pure]
    · rename_i m ha
      obtain ⟨a, vs, h1, hl, h2, h3⟩ := h
      refine ⟨_, h3, fun w' hm => ?_⟩
      obtain ⟨v', w'', r1, r2⟩ := ldn_run (P := P) (K := fun v' w'' => v' = .agg vs.toArray ∧ w'' = w') (w := w') ha ⟨a, vs, h1, hl, fun j v hv => cellk _ v (h2 j v hv) w' hm, rfl, rfl⟩
      obtain ⟨rfl, rfl⟩ := r2
      simp only [execOp, Sem.run_bind, r1, Result.andThen_ok, Sem.run_pure]
    · exact h.elim
  | binOp op t x y yt =>
    simp only at h
    cases hp : pureBin P op t y with
    | true =>
      rw [hp] at h; simp only [cond_true] at h
      obtain ⟨v, h1, h2⟩ := pureBin_det hp h
      refine ⟨v, h1, fun w' _ => ?_⟩
      obtain ⟨K', hK', hK2⟩ : ∃ K' : Cont, K' v w' ∧ ∀ v' w'', K' v' w'' → v' = v ∧ w'' = w' := ⟨fun v' w'' => v' = v ∧ w'' = w', ⟨rfl, rfl⟩, fun _ _ h => h⟩
      obtain ⟨v', w'', r1, r2⟩ := bin_run (P := P) (w := w') (K := K') (xo := x) (yo := y) (F := False) (fun v hv => by rw [hv]; rfl) (h2 _ _ hK') (fun hF => hF.elim)
      obtain ⟨rfl, rfl⟩ := hK2 _ _ r2
      simp only [execOp]
      rw [Sem.run_bind, r1]; rfl
    | false =>
      rw [hp] at h; simp only [cond_false] at h
      obtain ⟨v, h1, h2⟩ := h
      refine ⟨v, h2, fun w' _ => ?_⟩
      have h3 := h1 w'
      simp only [binS] at h3
      simp only [execOp]
      rw [Sem.run_bind, h3]; rfl
  | _ => exact pure_ h

theorem RunsV.det {o : Oper} {e : Env} {v v' : Value} (h : RunsV P eff M w0 o e v) (h' : RunsV P eff M w0 o e v') : v = v' := by
  have h1 := h w0 (Mod.refl _ _)
  have h2 := h' w0 (Mod.refl _ _)
  rw [h1] at h2
  cases h2; rfl
theorem RunsV.congr {o : Oper} {e e' : Env} {v : Value} (hs : ∀ cs b, o.op ≠ .select cs b) (h : ∀ t ∈ opSlots o, e t = e' t) (hr : RunsV P eff M w0 o e v) : RunsV P eff M w0 o e' v := by
  intro w' hm
  rw [← execOp_slots hs h]; exact hr w' hm

/-- at its own slots an operation sees no more than its own ancestors have written -/
theorem see_view (hG : GOk n all eff AN Gs) {vals : Nat → Value} {S : Nat → Prop} {i : Nat} {o : Oper} (hi : all[i]? = some o) (h1 : ∀ j ∈ getA AN i, S j) (h2 : ∀ m, m < all.length → i ∈ getA AN m → ¬ S m) (h3 : ¬ S i) :
    ∀ t ∈ slotsOf all o, envS all n e0 vals S t = view all AN n e0 vals i t := by
  have hil : i < all.length := (List.getElem?_eq_some_iff.1 hi).1
  intro t ht
  refine envS_same hG fun m hm hd => ⟨?_, fun _ => rfl⟩
  by_cases hmi : m = i
  · subst hmi
    exact ⟨fun h => (h3 h).elim, fun h => absurd (hG.lt hil h) (by omega)⟩
  · have hmo : all[m]? = some all[m] := by simp [hm]
    rw [dstAt_get, hmo] at hd
    rcases hG.reads i o hi t ht m _ hmo hd hmi with h | h
    · exact ⟨fun _ => h, fun _ => h1 m h⟩
    · refine ⟨fun hs => (h2 m hm h hs).elim, fun hm' => ?_⟩
      have := hG.lt hil hm'
      have := hG.lt hm h
      omega
theorem mem_slots {o : Oper} {t : Nat} (h : t ∈ opSlots o) : t ∈ slotsOf all o := List.mem_append_right _ h
theorem wanted_congr (hG : GOk n all eff AN Gs) {i : Nat} {o : Oper} (hi : all[i]? = some o) {e e' : Env} (h : ∀ t ∈ slotsOf all o, e t = e' t) : wantedV all e o ↔ wantedV all e' o := by
  unfold wantedV
  refine forall_congr' fun g => forall_congr' fun b => imp_congr_right fun hg => ?_
  obtain ⟨d, hd⟩ := (hG.guard i o hi g b hg).2
  have : d ∈ slotsOf all o := by unfold slotsOf; rw [hg]; simp [hd]
  unfold yv
  rw [hd]
  simp only [h d this]
theorem view_congr (hG : GOk n all eff AN Gs) {vals vals' : Nat → Value} {i : Nat} (h : ∀ j ∈ getA AN i, vals j = vals' j) : view all AN n e0 vals i = view all AN n e0 vals' i := by
  funext t
  exact envS_same hG fun m _ _ => ⟨Iff.rfl, fun hm => h m hm⟩

theorem clash_of (hG : GOk n all eff AN Gs) {kn : List (Nat × Option Bool)} {i : Nat} {o : Oper} (hi : all[i]? = some o) (hk : ∀ p ∈ kn, p.1 < i) : clash o.dst kn all = false := by
  unfold clash
  cases hd : o.dst with
  | none => rfl
  | some t =>
    simp only [List.any_eq_false]
    intro p hp
    have hlt := hk p hp
    have hil : i < all.length := (List.getElem?_eq_some_iff.1 hi).1
    have hpo : all[p.1]? = some (all[p.1]'(by omega)) := by simp [show p.1 < all.length by omega]
    rw [dstAt_get, hpo]
    simp only [Option.bind_some]
    cases hd' : (all[p.1]'(by omega)).dst with
    | none => simp
    | some u =>
      simp only
      intro hb
      have := Nat.eq_of_beq_eq_true hb
      subst this
      have := hG.one _ _ _ _ hpo hi u hd' hd
      omega

section
variable {e0 : Env} {w0 : World} {A : Nat → Value → World → Prop} {M : Nat → Nat → Prop}
theorem effI_mem {eff : List Nat} {AN : List (List Nat)} {i j : Nat} (hj : j ∈ eff) (h : ¬ i ∈ getA AN j) : j ∈ effI eff AN i := by
  simp only [effI, List.mem_filter, Bool.not_eq_true', hj, true_and]
  cases hb : memB (getA AN j) i with
  | false => rfl
  | true => exact (h (memB_iff.1 hb)).elim
def WalkEnd (P : Program) (all : List Oper) (eff : List Nat) (AN : List (List Nat)) (n : Nat) (e0 : Env) (w0 : World) (M : Nat → Nat → Prop) (sel : Nat → Bool) (L : Nat → Prop) (K : List (Nat × Option Bool) → Env → Prop) (vals0 : Nat → Value) : Prop :=
  ∃ (vals' : Nat → Value) (kn' : List (Nat × Option Bool)), (∀ m, L m → vals' m = vals0 m) ∧ (∀ (m : Nat) o, all[m]? = some o → sel m = true → m ∉ eff → Gd P all eff AN n e0 w0 M vals' m o) ∧
    KnOk all kn' (envS all n e0 vals' (fun m => sel m = true ∧ m < all.length)) ∧ K kn' (envS all n e0 vals' (fun m => sel m = true ∧ m < all.length))
/-- a walk over chosen operations: there are values for all of them, and what is asked at its end holds -/
theorem walk_sound (hG : GOk n all eff AN Gs) {w : World} {sel : Nat → Bool} {L : Nat → Prop} {K : List (Nat × Option Bool) → Env → Prop} {vals0 : Nat → Value}
    (hsel : ∀ i, i < all.length → sel i = true → ∀ j ∈ getA AN i, sel j = true) (hL : ∀ i, i < all.length → L i → ∀ j ∈ getA AN i, L j)
    (hLg : ∀ (i : Nat) o, all[i]? = some o → L i → i ∉ eff → Gd P all eff AN n e0 w0 M vals0 i o)
    (hA : ∀ (k : Nat) o, all[k]? = some o → k ∈ eff → sel k = true → L k ∧ Ad all AN n e0 A vals0 w k o) :
    ∀ (l : List Oper) (i : Nat) (kn : List (Nat × Option Bool)) (vals : Nat → Value) (e : Env), all.drop i = l → (∀ m, L m → vals m = vals0 m) → (∀ p ∈ kn, p.1 < i) → KnOk all kn e →
      e = envS all n e0 vals (fun m => sel m = true ∧ m < i) → (∀ (m : Nat) o, all[m]? = some o → sel m = true → m < i → m ∉ eff → Gd P all eff AN n e0 w0 M vals m o) →
      walkD P ok n all eff A (StI eff AN M w0) w sel K l i kn e →
      WalkEnd P all eff AN n e0 w0 M sel L K vals0 := by
  intro l
  induction l with
  | nil =>
    intro i kn vals e hl hv hkn hk he hg h
    have hi : all.length ≤ i := by simpa using hl
    have hset : e = envS all n e0 vals (fun m => sel m = true ∧ m < all.length) := by
      rw [he]; funext t
      exact envS_same hG fun m hm _ => ⟨⟨fun h => ⟨h.1, hm⟩, fun h => ⟨h.1, by omega⟩⟩, fun _ => rfl⟩
    subst hset
    exact ⟨vals, kn, hv, fun m o hm hs hne => hg m o hm hs (by have := (List.getElem?_eq_some_iff.1 hm).1; omega) hne, hk, h⟩
  | cons o rest ih =>
    intro i kn vals e hl hv hkn hk he hg h
    have hio : all[i]? = some o := by
      have := congrArg (fun l => l[0]?) hl
      simpa using this
    have hil : i < all.length := (List.getElem?_eq_some_iff.1 hio).1
    have hl' : all.drop (i + 1) = rest := by
      have := congrArg List.tail hl
      simpa using this
    have hdi : dstAt all i = o.dst := by rw [dstAt_get, hio]; rfl
    unfold walkD at h
    cases hs : sel i with
    | false =>
      rw [hs] at h; simp only [cond_false] at h
      refine ih (i + 1) kn vals e hl' hv (fun p hp => by have := hkn p hp; omega) hk ?_ (fun m o' hm hsm hlt hne => hg m o' hm hsm (by
        rcases Nat.lt_or_ge m i with h | h
        · exact h
        · have : m = i := by omega
          subst this; rw [hs] at hsm; cases hsm) hne) h
      rw [he]; funext t
      refine envS_same hG fun m _ _ => ⟨⟨fun h => ⟨h.1, by omega⟩, fun h => ⟨h.1, ?_⟩⟩, fun _ => rfl⟩
      rcases Nat.lt_or_ge m i with h' | h'
      · exact h'
      · have : m = i := by omega
        subst this; rw [hs] at h; cases h.1
    | true =>
      rw [hs] at h; simp only [cond_true] at h
      have see : ∀ t ∈ slotsOf all o, e t = view all AN n e0 vals i t := by
        rw [he]
        refine see_view hG hio (fun j hj => ⟨hsel i hil hs j hj, hG.lt hil hj⟩) (fun m hm hmi hsm => by have := hG.lt hm hmi; omega) (fun h => by omega)
      have hclash : ∀ kn', (∀ p ∈ kn', p.1 < i) → clash o.dst kn' all = false := fun kn' h => clash_of hG hio h
      -- one more value
      have next : ∀ (v : Value) (kn' : List (Nat × Option Bool)), (L i → v = vals0 i) → (∀ p ∈ kn', p.1 < i + 1) → KnOk all kn' (updO n e o.dst v) →
          (i ∉ eff → (wantedV all (view all AN n e0 vals i) o → RunsV P (effI eff AN i) M w0 o (view all AN n e0 vals i) v) ∧ (¬ wantedV all (view all AN n e0 vals i) o → v = undef)) →
          walkD P ok n all eff A (StI eff AN M w0) w sel K rest (i + 1) kn' (updO n e o.dst v) →
          WalkEnd P all eff AN n e0 w0 M sel L K vals0 := by
        intro v kn' hv1 hkn1 hk1 hgd hw
        have hvw : ∀ m, m < i + 1 → view all AN n e0 (fun q => if q = i then v else vals q) m = view all AN n e0 vals m := fun m hm =>
          view_congr hG fun j hj => by
            have : j < m := hG.lt (by omega) hj
            rw [if_neg (by omega)]
        refine ih (i + 1) kn' (fun q => if q = i then v else vals q) _ hl' (fun m hm => ?_) hkn1 hk1 ?_ (fun m o' hm hsm hlt hne => ?_) hw
        · by_cases hmi : m = i
          · subst hmi; simp [hv1 hm]
          · simp [hmi, hv m hm]
        · rw [he]
          exact envS_put hG hio (fun m => by
            constructor
            · rintro ⟨h1, h2⟩
              by_cases hmi : m = i
              · exact .inr hmi
              · exact .inl ⟨h1, by omega⟩
            · rintro (⟨h1, h2⟩ | rfl)
              · exact ⟨h1, by omega⟩
              · exact ⟨hs, by omega⟩) (fun m hm hmi => by simp [hmi]) (by simp) (fun h => by omega)
        · by_cases hmi : m = i
          · subst hmi
            rw [hio] at hm; cases hm
            unfold Gd
            rw [hvw m (by omega)]
            simp only [if_true]
            exact hgd hne
          · have := hg m o' hm hsm (by omega) hne
            unfold Gd at this ⊢
            rw [hvw m (by omega)]
            simpa [hmi] using this
      have hAi : i ∈ eff → Ad all AN n e0 A vals0 w i o ∧ L i := fun hi => ⟨(hA i o hio hi hs).2, (hA i o hio hi hs).1⟩
      have hview0 : L i → view all AN n e0 vals i = view all AN n e0 vals0 i := fun hLi => view_congr hG fun j hj => hv j (hL i hil hLi j hj)
      -- carried out
      have run : ∀ (e' : Env) (kn' : List (Nat × Option Bool)), e' = e → (∀ p ∈ kn', p.1 < i) → KnOk all kn' e → wantedV all e o →
          wexec P ok eff A (StI eff AN M w0 i) w o i (ev e') (fun v => walkD P ok n all eff A (StI eff AN M w0) w sel K rest (i + 1) kn' (updO n e' o.dst v)) → WalkEnd P all eff AN n e0 w0 M sel L K vals0 := by
        intro e' kn' he' hkn1 hk1 hwant hx
        subst he'
        have hwv := (wanted_congr hG hio see).1 hwant
        cases hm : memB eff i with
        | true =>
          have hie := memB_iff.1 hm
          obtain ⟨hAd, hLi⟩ := hAi hie
          unfold wexec at hx
          rw [hm] at hx; simp only [cond_true] at hx
          have := hx (vals0 i) (hAd.1 (by rw [← hview0 hLi]; exact hwv))
          exact next (vals0 i) kn' (fun _ => rfl) (fun p hp => by have := hkn1 p hp; omega) (hk1.put (hclash kn' hkn1) _) (fun hne => (hne hie).elim) this
        | false =>
          have hie : i ∉ eff := fun h => by rw [memB_iff.2 h] at hm; cases hm
          obtain ⟨v, h1, h2⟩ := wexec_run hm hx
          have h2' : RunsV P (effI eff AN i) M w0 o (view all AN n e0 vals i) v := h2.congr (hG.nosel i o hio) fun t ht => see t (mem_slots ht)
          refine next v kn' (fun hLi => ?_) (fun p hp => by have := hkn1 p hp; omega) (hk1.put (hclash kn' hkn1) _) (fun _ => ⟨fun _ => h2', fun hn => (hn hwv).elim⟩) h1
          have h3 := (hLg i o hio hLi hie).1 (by rw [← hview0 hLi]; exact hwv)
          rw [← hview0 hLi] at h3
          exact h2'.det h3
      -- passed over
      have skip : ∀ (e' : Env) (kn' : List (Nat × Option Bool)), e' = e → (∀ p ∈ kn', p.1 < i) → KnOk all kn' e → ¬ wantedV all e o →
          walkD P ok n all eff A (StI eff AN M w0) w sel K rest (i + 1) ((i, none) :: kn') (updO n e' o.dst undef) → WalkEnd P all eff AN n e0 w0 M sel L K vals0 := by
        intro e' kn' he' hkn1 hk1 hwant hx
        subst he'
        have hwv : ¬ wantedV all (view all AN n e0 vals i) o := fun h => hwant ((wanted_congr hG hio see).2 h)
        refine next undef ((i, none) :: kn') (fun hLi => ?_) (fun p hp => ?_) ((hk1.put (hclash kn' hkn1) _).cons ?_) (fun _ => ⟨fun h => (hwv h).elim, fun _ => rfl⟩) hx
        · rw [hview0 hLi] at hwv
          by_cases hie : i ∈ eff
          · exact ((hAi hie).1.2 hwv).symm
          · exact ((hLg i o hio hLi hie).2 hwv).symm
        · rcases List.mem_cons.1 hp with rfl | hp
          · simp
          · have := hkn1 p hp; omega
        · unfold yv
          rw [hdi]
          cases hd : o.dst with
          | none => rfl
          | some d =>
            have := hG.bound i o hio d hd
            have hb : Nat.blt d n = true := Nat.ble_eq_true_of_le (show d + 1 ≤ n from this)
            simp [updO, upd, hb]; rfl
      cases hgd : o.guard with
      | none =>
        simp only [hgd] at h
        exact run e kn rfl hkn hk (fun g b hgb => by rw [hgd] at hgb; cases hgb) h
      | some gb =>
        obtain ⟨g, want⟩ := gb
        simp only [hgd] at h
        have hgi : g < i := hG.lt hil (hG.guard i o hio g want hgd).1
        have wt : yv all e g = some want → wantedV all e o := fun hy g' b' hgb => by rw [hgd] at hgb; cases hgb; exact hy
        have wf : yv all e g ≠ some want → ¬ wantedV all e o := fun hy hw => hy (hw g want hgd)
        cases hlk : lookK kn g with
        | some b =>
          have hy := hk g b hlk
          simp only [hlk] at h
          cases b with
          | none => exact skip e kn rfl hkn hk (wf (by rw [hy]; simp)) h
          | some b =>
            simp only [sameB_eq] at h
            cases hbw : (b == want) with
            | true =>
              simp only [hbw, cond_true] at h
              have : b = want := by simpa using hbw
              exact run e kn rfl hkn hk (wt (by rw [hy, this])) h
            | false =>
              simp only [hbw, cond_false] at h
              have : b ≠ want := by simpa using hbw
              exact skip e kn rfl hkn hk (wf (by rw [hy]; simp [this])) h
        | none =>
          simp only [hlk] at h
          obtain ⟨d, hd⟩ := (hG.guard i o hio g want hgd).2
          simp only [hd] at h
          have hyv : yv all e g = bv (e d) := by simp [yv, hd]
          have hkn2 : ∀ b, ∀ p ∈ (g, b) :: kn, p.1 < i := fun b p hp => by
            rcases List.mem_cons.1 hp with rfl | hp
            · exact hgi
            · exact hkn p hp
          rcases condK_bool h with ⟨hv1, hb⟩ | ⟨hv1, hb⟩
          · have hy : yv all e g = some true := by rw [hyv, hv1]; rfl
            cases want with
            | true => simp only [cond_true] at hb; exact run _ _ (upd_self hv1) (hkn2 _) (hk.cons hy) (wt hy) hb
            | false => simp only [cond_false] at hb; exact skip _ _ (upd_self hv1) (hkn2 _) (hk.cons hy) (wf (by rw [hy]; simp)) hb
          · have hy : yv all e g = some false := by rw [hyv, hv1]; rfl
            cases want with
            | true => simp only [cond_true] at hb; exact skip _ _ (upd_self hv1) (hkn2 _) (hk.cons hy) (wf (by rw [hy]; simp)) hb
            | false => simp only [cond_false] at hb; exact run _ _ (upd_self hv1) (hkn2 _) (hk.cons hy) (wt hy) hb
end

section
variable {e0 : Env} {w0 : World} {A : Nat → Value → World → Prop} {M : Nat → Nat → Prop}
def Stab (eff : List Nat) (A : Nat → Value → World → Prop) (M : Nat → Nat → Prop) (w0 : World) : Prop :=
  ∀ j ∈ eff, ∀ k ∈ eff, j ≠ k → ∀ v w1 w2, Mod (AllM eff M) w0 w1 → A j v w1 → Mod (M k) w1 w2 → A j v w2
def ButM (eff : List Nat) (M : Nat → Nat → Prop) (k : Nat) : Nat → Prop := fun b => ∃ j ∈ eff, j ≠ k ∧ M j b

/-- how far the draw has come -/
structure DInv (P : Program) (all : List Oper) (eff : List Nat) (AN : List (List Nat)) (n : Nat) (e0 : Env) (w0 : World) (A : Nat → Value → World → Prop) (M : Nat → Nat → Prop) (L : Nat → Prop) (vals : Nat → Value) (a : Act) (w : World) : Prop where
  fr : Fr [] n (envS all n e0 vals (fun m => L m ∧ m < all.length)) a
  mod : Mod (AllM eff M) w0 w
  lmod : Mod (fun b => ∃ j ∈ eff, L j ∧ M j b) w0 w
  but : ∀ k ∈ eff, ¬ L k → Mod (ButM eff M k) w0 w
  closed : ∀ i, i < all.length → L i → ∀ j ∈ getA AN i, L j
  good : ∀ (i : Nat) o, all[i]? = some o → L i → i ∉ eff → Gd P all eff AN n e0 w0 M vals i o
  said : ∀ (i : Nat) o, all[i]? = some o → L i → i ∈ eff → Ad all AN n e0 A vals w i o

/-- what is asked of a drawn region -/
structure DAsk (P : Program) (ok : Nat → Bool) (n : Nat) (all : List Oper) (eff : List Nat) (AN : List (List Nat)) (Gs : List (List Nat)) (e0 : Env) (w0 : World) (A : Nat → Value → World → Prop) (M : Nat → Nat → Prop) (K : Env → World → Prop) : Prop where
  stab : Stab eff A M w0
  each : ∀ k ∈ eff, ∀ o, all[k]? = some o → ∀ w, Mod (ButM eff M k) w0 w → walkD P ok n all eff A (StI eff AN M w0) w (selG eff AN (interB eff (getA AN k))) (finK P ok n all A M w k o) all 0 [] e0
  group : ∀ E ∈ Gs, ∀ w, Mod (AllM eff M) w0 w → walkD P ok n all eff A (StI eff AN M w0) w (selG eff AN E) (fun _ _ => True) all 0 [] e0
  last : ∀ w, Mod (AllM eff M) w0 w → walkD P ok n all eff A (StI eff AN M w0) w (fun _ => true) (fun _ e => K e w) all 0 [] e0

theorem Gd.of_agree (hG : GOk n all eff AN Gs) {vals vals' : Nat → Value} {i : Nat} {o : Oper} (_ : i < all.length) (hv : ∀ j ∈ getA AN i, vals j = vals' j) (hvi : vals i = vals' i) (h : Gd P all eff AN n e0 w0 M vals i o) : Gd P all eff AN n e0 w0 M vals' i o := by
  unfold Gd at h ⊢
  rw [← view_congr hG hv, ← hvi]; exact h
theorem Ad.of_agree (hG : GOk n all eff AN Gs) {vals vals' : Nat → Value} {w : World} {i : Nat} {o : Oper} (_ : i < all.length) (hv : ∀ j ∈ getA AN i, vals j = vals' j) (hvi : vals i = vals' i) (h : Ad all AN n e0 A vals w i o) : Ad all AN n e0 A vals' w i o := by
  unfold Ad at h ⊢
  rw [← view_congr hG hv, ← hvi]; exact h

/-- one step of the invariant -/
theorem DInv.step (hG : GOk n all eff AN Gs) {L : Nat → Prop} {vals : Nat → Value} {a : Act} {w w' : World} (h : DInv P all eff AN n e0 w0 A M L vals a w) (hst : Stab eff A M w0) {i : Nat} {o : Oper} (hi : all[i]? = some o) (hni : ¬ L i) (hanc : ∀ j ∈ getA AN i, L j) {v : Value}
    (hw : if i ∈ eff then Mod (M i) w w' else w' = w) (hg : i ∉ eff → (wantedV all (view all AN n e0 vals i) o → RunsV P (effI eff AN i) M w0 o (view all AN n e0 vals i) v) ∧ (¬ wantedV all (view all AN n e0 vals i) o → v = undef))
    (hs : i ∈ eff → (wantedV all (view all AN n e0 vals i) o → A i v w') ∧ (¬ wantedV all (view all AN n e0 vals i) o → v = undef)) :
    DInv P all eff AN n e0 w0 A M (fun m => L m ∨ m = i) (fun m => if m = i then v else vals m) (a.put o.dst v) w' := by
  have hil : i < all.length := (List.getElem?_eq_some_iff.1 hi).1
  have hmod : Mod (AllM eff M) w0 w' := by
    split at hw
    · rename_i hie; exact h.mod.trans (hw.mono fun b _ hb => ⟨i, hie, hb⟩)
    · rw [hw]; exact h.mod
  have hvw : ∀ m, m < all.length → (L m ∨ m = i) → view all AN n e0 (fun q => if q = i then v else vals q) m = view all AN n e0 vals m := fun m hm hLm =>
    view_congr hG fun j hj => by
      have : j ≠ i := by
        rintro rfl
        rcases hLm with hLm | rfl
        · exact hni (h.closed m hm hLm j hj)
        · have := hG.lt hm hj; omega
      rw [if_neg this]
  have hlmod : Mod (fun b => ∃ j ∈ eff, (L j ∨ j = i) ∧ M j b) w0 w' := by
    have h1 : Mod (fun b => ∃ j ∈ eff, (L j ∨ j = i) ∧ M j b) w0 w := h.lmod.mono fun b _ ⟨j, hj, hL, hb⟩ => ⟨j, hj, .inl hL, hb⟩
    split at hw
    · rename_i hie; exact h1.trans (hw.mono fun b _ hb => ⟨i, hie, .inr rfl, hb⟩)
    · rw [hw]; exact h1
  refine ⟨?_, hmod, hlmod, fun k hk hnk => ?_, ?_, ?_, ?_⟩
  · rw [← envS_put hG (vals := vals) (S := fun m => L m ∧ m < all.length) (v := v) hi (fun m => ?_) (fun m _ hmi => by simp [hmi]) (by simp) (fun hh => hni hh.1)]
    · exact h.fr.put o.dst v
    · constructor
      · rintro ⟨h1 | h1, h2⟩
        · exact .inl ⟨h1, h2⟩
        · exact .inr h1
      · rintro (⟨h1, h2⟩ | rfl)
        · exact ⟨.inl h1, h2⟩
        · exact ⟨.inr rfl, hil⟩
  · have hki : k ≠ i := fun e => hnk (.inr e)
    have h1 := h.but k hk (fun hh => hnk (.inl hh))
    split at hw
    · rename_i hie; exact h1.trans (hw.mono fun b _ hb => ⟨i, hie, fun e => hki e.symm, hb⟩)
    · rw [hw]; exact h1
  · rintro m hm (hLm | rfl) j hj
    · exact .inl (h.closed m hm hLm j hj)
    · exact .inl (hanc j hj)
  · rintro m o' hm hLm hne
    have hml : m < all.length := (List.getElem?_eq_some_iff.1 hm).1
    unfold Gd
    rw [hvw m hml hLm]
    by_cases hmi : m = i
    · subst hmi
      rw [hi] at hm; cases hm
      simp only [if_true]
      exact hg hne
    · have := h.good m o' hm (hLm.resolve_right hmi) hne
      unfold Gd at this
      simpa [hmi] using this
  · rintro m o' hm hLm he
    have hml : m < all.length := (List.getElem?_eq_some_iff.1 hm).1
    unfold Ad
    rw [hvw m hml hLm]
    by_cases hmi : m = i
    · subst hmi
      rw [hi] at hm; cases hm
      simp only [if_true]
      exact hs he
    · have h1 := h.said m o' hm (hLm.resolve_right hmi) he
      unfold Ad at h1
      simp only [hmi, if_false]
      refine ⟨fun hwn => ?_, h1.2⟩
      have h2 := h1.1 hwn
      split at hw
      · rename_i hie; exact hst m he i hie hmi _ _ _ h.mod h2 hw
      · rw [hw]; exact h2

/-- values found by a walk agree with those of the draw on what both have -/
theorem agree_of (hG : GOk n all eff AN Gs) {L : Nat → Prop} {vals vals' : Nat → Value} (hv : ∀ m, L m → vals' m = vals m) {i : Nat} (hanc : ∀ j ∈ getA AN i, L j) : view all AN n e0 vals' i = view all AN n e0 vals i :=
  view_congr hG fun j hj => hv j (hanc j hj)

theorem selG_closed (hG : GOk n all eff AN Gs) {E : List Nat} (hE : ∀ k ∈ E, k ∈ eff → ∀ j ∈ getA AN k, j ∈ eff → j ∈ E) : ∀ i, i < all.length → selG eff AN E i = true → ∀ j ∈ getA AN i, selG eff AN E j = true := by
  intro i hi hs j hj
  unfold selG at hs ⊢
  cases hje : memB eff j with
  | true =>
    have hj' := memB_iff.1 hje
    simp only [cond_true]
    cases hie : memB eff i with
    | true => rw [hie] at hs; simp only [cond_true] at hs; exact memB_iff.2 (hE i (memB_iff.1 hs) (memB_iff.1 hie) j hj hj')
    | false =>
      rw [hie] at hs; simp only [cond_false, List.all_eq_true] at hs
      have := hs j hj; rw [hje] at this; exact this
  | false =>
    simp only [cond_false, List.all_eq_true]
    intro m hm
    cases hme : memB eff m with
    | false => rfl
    | true =>
      simp only [cond_true]
      have hmi := hG.trans i j hj m hm
      cases hie : memB eff i with
      | true => rw [hie] at hs; simp only [cond_true] at hs; exact memB_iff.2 (hE i (memB_iff.1 hs) (memB_iff.1 hie) m hmi (memB_iff.1 hme))
      | false =>
        rw [hie] at hs; simp only [cond_false, List.all_eq_true] at hs
        have := hs m hmi; rw [hme] at this; exact this
end

section
variable {e0 : Env} {w0 : World} {A : Nat → Value → World → Prop} {M : Nat → Nat → Prop}
theorem finK_wanted {w : World} {k : Nat} {o : Oper} {kn : List (Nat × Option Bool)} {e : Env} (hk : KnOk all kn e) (hw : wantedV all e o) (h : finK P ok n all A M w k o kn e) : opD P ok o (ev e) (fun v w' => Mod (M k) w w' ∧ A k v w') w := by
  unfold finK at h
  cases hg : o.guard with
  | none => simp only [hg] at h; exact h
  | some gb =>
    obtain ⟨g, want⟩ := gb
    have hy := hw g want hg
    simp only [hg] at h
    cases hlk : lookK kn g with
    | some b =>
      have hy2 := hk g b hlk
      rw [hy] at hy2
      subst hy2
      simp only [hlk, sameB_eq] at h
      simpa using h
    | none =>
      simp only [hlk] at h
      cases hd : dstAt all g with
      | none => simp only [hd] at h
      | some d =>
        simp only [hd] at h
        have hyv : bv (e d) = some want := by rw [← hy]; simp [yv, hd]
        rcases condK_bool h with ⟨hv1, hb⟩ | ⟨hv1, hb⟩
        · rw [hv1] at hyv; cases hyv
          simp only [cond_true] at hb
          rw [upd_self hv1] at hb; exact hb
        · rw [hv1] at hyv; cases hyv
          simp only [cond_false] at hb
          rw [upd_self hv1] at hb; exact hb

theorem count_set_false : ∀ (l : List Bool) (i : Nat), l[i]? = some false → (l.set i true).count false + 1 = l.count false := by
  intro l; induction l with
  | nil => intro i h; simp at h
  | cons b l ih =>
    intro i h
    cases i with
    | zero => simp at h; subst h; simp
    | succ i =>
      have := ih i (by simpa using h)
      simp only [List.set_cons_succ, List.count_cons]
      omega
def drawPost (all : List Oper) (n : Nat) (e0 : Env) (K : Env → World → Prop) : Exit → Act → World → Prop := fun ex a w => ex = .normal ∧ ∃ e', Fr [] n e' a ∧ (∀ j, (∀ o ∈ all, o.dst ≠ some j) → e' j = e0 j) ∧ K e' w

theorem draw_main (hok : GoodFns P ok) (hG : GOk n all eff AN Gs) {K : Env → World → Prop} (hq : DAsk P ok n all eff AN Gs e0 w0 A M K) {ops : Array Oper} (hops : ops.toList = all) :
    ∀ (fuel : Nat) (listed : Array Bool) (a : Act) (w : World) (vals : Nat → Value), listed.size = ops.size → listed.toList.count false ≤ fuel → DInv P all eff AN n e0 w0 A M (fun m => listed.getD m false = true) vals a w →
      wpAny P .any ops (drawPost all n e0 K) fuel listed a w := by
  have hsize : ops.size = all.length := by rw [← hops]; simp
  have hget : ∀ i : Nat, ops[i]? = all[i]? := fun i => by rw [← hops]; simp
  have rdy : ∀ (listed : Array Bool) (i : Nat), i ∈ Region.ready .any ops listed → ∃ o, all[i]? = some o ∧ listed.getD i true = false ∧ ∀ e ∈ o.after, Region.binds .any e = true → listed.getD e.on false = true := by
    intro listed i hi
    obtain ⟨h1, o, h2, h3⟩ := mem_ready.1 hi
    exact ⟨o, by rw [← hget]; exact h2, h1, h3⟩
  have fin : ∀ (listed : Array Bool) (a : Act) (w : World) (vals : Nat → Value), listed.size = ops.size → DInv P all eff AN n e0 w0 A M (fun m => listed.getD m false = true) vals a w → Region.ready .any ops listed = [] → drawPost all n e0 K .normal a w := by
    intro listed a w vals hls hI hr
    have hallL : ∀ i, i < all.length → listed.getD i false = true := by
      intro i
      induction i using Nat.strongRecOn with
      | _ i ih =>
        intro hi
        cases hc : listed.getD i false with
        | true => rfl
        | false =>
          have : i ∈ Region.ready .any ops listed := by
            refine mem_ready.2 ⟨?_, all[i], by rw [hget]; simp [hi], fun e he hb => ?_⟩
            · have : i < listed.size := by omega
              simp [this] at hc ⊢; exact hc
            · have := hG.back i all[i] (by simp [hi]) e he hb
              exact ih e.on this (by omega)
          rw [hr] at this; cases this
    obtain ⟨vals', kn', h1, h2, h3, h4⟩ := walk_sound (L := fun m => listed.getD m false = true) (vals0 := vals) hG (fun _ _ _ _ _ => rfl) hI.closed hI.good
      (fun k o hk hke _ => ⟨hallL k (List.getElem?_eq_some_iff.1 hk).1, hI.said k o hk (hallL k (List.getElem?_eq_some_iff.1 hk).1) hke⟩)
      all 0 [] vals e0 rfl (fun _ _ => rfl) (fun p hp => by cases hp) (fun j b hb => by simp [lookK] at hb)
      (by funext t; exact (envS_else fun m hm _ => by omega).symm) (fun m o _ _ hlt _ => by omega) (hq.last w hI.mod)
    have henv : envS all n e0 vals' (fun m => (fun _ => true) m = true ∧ m < all.length) = envS all n e0 vals (fun m => listed.getD m false = true ∧ m < all.length) := by
      funext t
      exact envS_same hG fun m hm _ => ⟨⟨fun h => ⟨hallL m hm, hm⟩, fun h => ⟨rfl, hm⟩⟩, fun _ => h1 m (hallL m hm)⟩
    rw [henv] at h4
    refine ⟨rfl, _, hI.fr, fun j hj => envS_else fun m _ hm hd => ?_, h4⟩
    have hmo : all[m]? = some all[m] := by simp [hm]
    rw [dstAt_get, hmo] at hd
    exact hj all[m] (by simp) hd
  intro fuel
  induction fuel with
  | zero =>
    intro listed a w vals hls hc hI
    have hr : Region.ready .any ops listed = [] := by
      cases hr : Region.ready .any ops listed with
      | nil => rfl
      | cons i r =>
        exfalso
        obtain ⟨o, h1, h2, _⟩ := rdy listed i (by rw [hr]; simp)
        have hil : i < listed.size := by have := (List.getElem?_eq_some_iff.1 h1).1; omega
        simp [hil] at h2
        have : false ∈ listed.toList := by rw [← h2]; simp
        have := List.count_pos_iff.2 this
        omega
    exact ⟨hr, fin listed a w vals hls hI hr⟩
  | succ fuel ih =>
    intro listed a w vals hls hc hI
    refine ⟨fin listed a w vals hls hI, fun i hi => ?_⟩
    obtain ⟨o, hio, hun, hedges⟩ := rdy listed i hi
    have hil : i < all.length := (List.getElem?_eq_some_iff.1 hio).1
    have hils : i < listed.size := by omega
    have hni : ¬ listed.getD i false = true := by simp [hils] at hun ⊢; exact hun
    have hanc : ∀ j ∈ getA AN i, listed.getD j false = true := by
      intro j hj
      obtain ⟨e, he, hb, h1⟩ := hG.anc i o hio j hj
      have hL := hedges e he hb
      rcases h1 with rfl | h1
      · exact hL
      · exact hI.closed e.on (by have := hG.back i o hio e he hb; omega) hL j h1
    have see : ∀ t ∈ slotsOf all o, envS all n e0 vals (fun m => listed.getD m false = true ∧ m < all.length) t = view all AN n e0 vals i t :=
      see_view hG hio (fun j hj => ⟨hanc j hj, by have := hG.lt hil hj; omega⟩) (fun m hm hmi hsm => hni (hI.closed m hm hsm.1 i hmi)) (fun h => hni h.1)
    have hev := hI.fr.eval
    have hwant : (Region.wanted o (yielded ops a.tmps) = true) ↔ wantedV all (view all AN n e0 vals i) o := by
      rw [← wanted_congr hG hio see]
      unfold Region.wanted wantedV
      cases hg : o.guard with
      | none => simp
      | some gb =>
        obtain ⟨g, b⟩ := gb
        have := yielded_of hI.fr (ops := ops) (j := g)
        rw [hops] at this
        simp only [this, beq_iff_eq]
        constructor
        · rintro h g' b' heq; cases heq; exact h
        · intro h; exact h g b rfl
    -- going on
    have go : ∀ (v : Value) (w' : World), (if i ∈ eff then Mod (M i) w w' else w' = w) →
        (i ∉ eff → (wantedV all (view all AN n e0 vals i) o → RunsV P (effI eff AN i) M w0 o (view all AN n e0 vals i) v) ∧ (¬ wantedV all (view all AN n e0 vals i) o → v = undef)) →
        (i ∈ eff → (wantedV all (view all AN n e0 vals i) o → A i v w') ∧ (¬ wantedV all (view all AN n e0 vals i) o → v = undef)) →
        wpAny P .any ops (drawPost all n e0 K) fuel (listed.setIfInBounds i true) (a.put o.dst v) w' := by
      intro v w' h1 h2 h3
      have hst := hI.step hG hq.stab hio hni hanc h1 h2 h3
      have hset : ∀ m, (listed.setIfInBounds i true).getD m false = true ↔ (listed.getD m false = true ∨ m = i) := by
        intro m
        simp only [Array.getD_eq_getD_getElem?, Array.getElem?_setIfInBounds]
        by_cases hmi : i = m
        · subst hmi; simp [hils]
        · simp [hmi, Ne.symm hmi]
      refine ih _ _ _ (fun m => if m = i then v else vals m) (by simpa using hls) ?_ ?_
      · have hcnt : (listed.setIfInBounds i true).toList.count false + 1 = listed.toList.count false := by
          have hb : listed.toList[i]'(by simpa using hils) = false := by simp [hils] at hun; simpa using hun
          rw [Array.toList_setIfInBounds]
          exact count_set_false listed.toList i (by rw [← hb]; simp)
        omega
      · have : (fun m => (listed.setIfInBounds i true).getD m false = true) = (fun m => listed.getD m false = true ∨ m = i) := by
          funext m; exact propext (hset m)
        rw [this]; exact hst
    unfold wpOp
    rw [hget i, hio]
    simp only
    by_cases hie : i ∈ eff
    · -- an operation of eff
      obtain ⟨vals', kn', h1, h2, h3, h4⟩ := walk_sound (L := fun m => listed.getD m false = true) (vals0 := vals) hG
        (selG_closed hG (E := interB eff (getA AN i)) fun k hk _ j hj hje => by
          simp only [interB, List.mem_filter, memB_iff] at hk ⊢
          exact ⟨hG.trans i k hk.1 j hj, hje⟩) hI.closed hI.good
        (fun k o' hk hke hsk => by
          unfold selG at hsk
          rw [memB_iff.2 hke] at hsk
          simp only [cond_true, memB_iff, interB, List.mem_filter] at hsk
          exact ⟨hanc k hsk.1, hI.said k o' hk (hanc k hsk.1) hke⟩)
        all 0 [] vals e0 rfl (fun _ _ => rfl) (fun p hp => by cases hp) (fun j b hb => by simp [lookK] at hb)
        (by funext t; exact (envS_else fun m hm _ => by omega).symm) (fun m o _ _ hlt _ => by omega) (hq.each i hie o hio w (hI.but i hie hni))
      have hsel1 : ∀ j ∈ getA AN i, selG eff AN (interB eff (getA AN i)) j = true := by
        intro j hj
        unfold selG
        cases hje : memB eff j with
        | true => simp only [cond_true, memB_iff, interB, List.mem_filter]; exact ⟨hj, memB_iff.1 hje⟩
        | false =>
          simp only [cond_false, List.all_eq_true]
          intro m hm
          cases hme : memB eff m with
          | false => rfl
          | true => simp only [cond_true, memB_iff, interB, List.mem_filter]; exact ⟨hG.trans i j hj m hm, memB_iff.1 hme⟩
      have hsel2 : ∀ m, m < all.length → i ∈ getA AN m → ¬ (selG eff AN (interB eff (getA AN i)) m = true ∧ m < all.length) := by
        rintro m hm hmi ⟨hs, _⟩
        have hlt := hG.lt hm hmi
        unfold selG at hs
        cases hme : memB eff m with
        | true =>
          rw [hme] at hs
          simp only [cond_true, memB_iff, interB, List.mem_filter] at hs
          have := hG.lt hil hs.1; omega
        | false =>
          rw [hme] at hs
          simp only [cond_false, List.all_eq_true] at hs
          have := hs i hmi
          rw [memB_iff.2 hie] at this
          simp only [cond_true, memB_iff, interB, List.mem_filter] at this
          have := hG.lt hil this.1; omega
      have hsel3 : ¬ (selG eff AN (interB eff (getA AN i)) i = true ∧ i < all.length) := by
        rintro ⟨hs, _⟩
        unfold selG at hs
        rw [memB_iff.2 hie] at hs
        simp only [cond_true, memB_iff, interB, List.mem_filter] at hs
        have := hG.lt hil hs.1; omega
      have hview : view all AN n e0 vals' i = view all AN n e0 vals i := view_congr hG fun j hj => h1 j (hanc j hj)
      have see2 : ∀ t ∈ slotsOf all o, envS all n e0 vals' (fun m => selG eff AN (interB eff (getA AN i)) m = true ∧ m < all.length) t = view all AN n e0 vals i t := fun t ht => by
        rw [see_view hG hio (fun j hj => ⟨hsel1 j hj, by have := hG.lt hil hj; omega⟩) hsel2 hsel3 t ht, hview]
      by_cases hwv : wantedV all (view all AN n e0 vals i) o
      · rw [if_pos (hwant.2 hwv)]
        left
        have hop := finK_wanted h3 ((wanted_congr hG hio see2).2 hwv) h4
        have hnx := opD_nx hok (fun _ => rfl) (fun _ => rfl) hop
        unfold Oper.wp
        rw [hev, execOp_slots (e' := envS all n e0 vals' (fun m => selG eff AN (interB eff (getA AN i)) m = true ∧ m < all.length)) (hG.nosel i o hio) (fun t ht => by rw [see t (mem_slots ht), see2 t (mem_slots ht)])]
        exact upon_of hnx fun v w' hv => go v w' (by rw [if_pos hie]; exact hv.1) (fun h => (h hie).elim) (fun _ => ⟨fun _ => hv.2, fun h => (h hwv).elim⟩)
      · rw [if_neg (fun h => hwv (hwant.1 h))]
        exact go undef w (by rw [if_pos hie]; exact Mod.refl _ _) (fun h => (h hie).elim) (fun _ => ⟨fun h => (hwv h).elim, fun _ => rfl⟩)
    · -- an operation that looks at most at memory that stays
      have key : ∃ vals' : Nat → Value, (∀ m, listed.getD m false = true → vals' m = vals m) ∧ Gd P all eff AN n e0 w0 M vals' i o := by
        rcases hG.groups i hil hie with hnone | hall | ⟨E, hE, hEi⟩
        · obtain ⟨k0, hk0, hk0l, hk0n⟩ := hG.first
          have hE0 : ∀ j, j ∉ interB eff (getA AN k0) := fun j hj => by
            simp only [interB, List.mem_filter, memB_iff] at hj; exact hk0n j hj.1 hj.2
          obtain ⟨vals', kn', h1, h2, _, _⟩ := walk_sound (L := fun m => listed.getD m false = true) (vals0 := vals) hG
            (selG_closed hG (E := interB eff (getA AN k0)) fun k hk _ _ _ _ => (hE0 k hk).elim) hI.closed hI.good
            (fun k o' hk hke hsk => by
              unfold selG at hsk
              rw [memB_iff.2 hke] at hsk
              simp only [cond_true, memB_iff] at hsk
              exact (hE0 k hsk).elim)
            all 0 [] vals e0 rfl (fun _ _ => rfl) (fun p hp => by cases hp) (fun j b hb => by simp [lookK] at hb)
            (by funext t; exact (envS_else fun m hm _ => by omega).symm) (fun m o _ _ hlt _ => by omega) (hq.each k0 hk0 all[k0] (by simp [hk0l]) w0 (Mod.refl _ _))
          refine ⟨vals', h1, h2 i o hio ?_ hie⟩
          unfold selG
          cases hm : memB eff i with
          | true => exact (hie (memB_iff.1 hm)).elim
          | false =>
            simp only [cond_false, List.all_eq_true]
            intro j hj
            cases hje : memB eff j with
            | true => exact (hnone j hj (memB_iff.1 hje)).elim
            | false => rfl
        · obtain ⟨vals', kn', h1, h2, _, _⟩ := walk_sound (L := fun m => listed.getD m false = true) (vals0 := vals) hG (fun _ _ _ _ _ => rfl) hI.closed hI.good
            (fun k o' hk hke _ => ⟨hanc k (hall k hke), hI.said k o' hk (hanc k (hall k hke)) hke⟩)
            all 0 [] vals e0 rfl (fun _ _ => rfl) (fun p hp => by cases hp) (fun j b hb => by simp [lookK] at hb)
            (by funext t; exact (envS_else fun m hm _ => by omega).symm) (fun m o _ _ hlt _ => by omega) (hq.last w hI.mod)
          exact ⟨vals', h1, h2 i o hio rfl hie⟩
        · obtain ⟨vals', kn', h1, h2, _, _⟩ := walk_sound (L := fun m => listed.getD m false = true) (vals0 := vals) hG
            (selG_closed hG (E := E) fun k hk hke j hj hje => (hEi j hje).1 (hG.trans i k ((hEi k hke).2 hk) j hj)) hI.closed hI.good
            (fun k o' hk hke hsk => by
              unfold selG at hsk
              rw [memB_iff.2 hke] at hsk
              simp only [cond_true, memB_iff] at hsk
              have hka := (hEi k hke).2 hsk
              exact ⟨hanc k hka, hI.said k o' hk (hanc k hka) hke⟩)
            all 0 [] vals e0 rfl (fun _ _ => rfl) (fun p hp => by cases hp) (fun j b hb => by simp [lookK] at hb)
            (by funext t; exact (envS_else fun m hm _ => by omega).symm) (fun m o _ _ hlt _ => by omega) (hq.group E hE w hI.mod)
          refine ⟨vals', h1, h2 i o hio ?_ hie⟩
          unfold selG
          cases hm : memB eff i with
          | true => exact (hie (memB_iff.1 hm)).elim
          | false =>
            simp only [cond_false, List.all_eq_true]
            intro j hj
            cases hje : memB eff j with
            | true => simp only [cond_true, memB_iff]; exact (hEi j (memB_iff.1 hje)).1 hj
            | false => rfl
      obtain ⟨vals', h1, h2⟩ := key
      have hview : view all AN n e0 vals' i = view all AN n e0 vals i := view_congr hG fun j hj => h1 j (hanc j hj)
      unfold Gd at h2
      rw [hview] at h2
      have hgo := go (vals' i) w (by rw [if_neg hie]) (fun _ => h2) (fun h => (hie h).elim)
      by_cases hwv : wantedV all (view all AN n e0 vals i) o
      · rw [if_pos (hwant.2 hwv)]
        left
        unfold Oper.wp
        rw [hev, execOp_slots (e' := view all AN n e0 vals i) (hG.nosel i o hio) (fun t ht => see t (mem_slots ht)), h2.1 hwv w (hI.lmod.mono fun b _ ⟨j, hj, hL, hb⟩ => ⟨j, effI_mem hj fun hji => hni (hI.closed j (hG.effin j hj) hL i hji), hb⟩)]
        exact hgo
      · rw [if_neg (fun h => hwv (hwant.1 h))]
        have := h2.2 hwv
        rw [this] at hgo
        exact hgo
end
end

/-! ### the check -/
def isSel (o : Oper) : Bool := match o.op with | .select _ _ => true | _ => false
def gok1 (n : Nat) (all : List Oper) (eff : List Nat) (AN : List (List Nat)) (Gs : List (List Nat)) (i : Nat) (o : Oper) : Bool :=
  !isSel o && o.after.toList.all (fun e => !(Region.binds .any e) || Nat.blt e.on i)
  && (getA AN i).all (fun j => o.after.toList.any fun e => Region.binds .any e && (Nat.beq e.on j || memB (getA AN e.on) j))
  && (slotsOf all o).all (fun t => (List.range all.length).all fun m => !(optEq (dstAt all m) t) || Nat.beq m i || memB (getA AN i) m || memB (getA AN m) i)
  && (match o.guard with | none => true | some (g, _) => memB (getA AN i) g && (dstAt all g).isSome)
  && (match o.dst with | none => true | some d => Nat.blt d n && (List.range all.length).all fun j => Nat.beq j i || !(optEq (dstAt all j) d))
  && (memB eff i || (getA AN i).all (fun j => !memB eff j) || eff.all (fun j => memB (getA AN i) j) || Gs.any (fun E => eff.all fun j => memB (getA AN i) j == memB E j))
def gokB (n : Nat) (all : List Oper) (eff : List Nat) (AN : List (List Nat)) (Gs : List (List Nat)) : Bool :=
  Nat.ble AN.length all.length
  && (List.range all.length).all (fun i => match all[i]? with | some o => gok1 n all eff AN Gs i o | none => true)
  && (List.range AN.length).all (fun i => (getA AN i).all fun j => (getA AN j).all fun m => memB (getA AN i) m)
  && eff.any (fun k => Nat.blt k all.length && (getA AN k).all fun j => !memB eff j)
  && eff.all (fun k => Nat.blt k all.length)

theorem blt_iff {a b : Nat} : Nat.blt a b = true ↔ a < b := ⟨fun h => Nat.le_of_ble_eq_true h, fun h => Nat.ble_eq_true_of_le (show a + 1 ≤ b from h)⟩
theorem beq_iff {a b : Nat} : Nat.beq a b = true ↔ a = b := ⟨Nat.eq_of_beq_eq_true, fun h => by subst h; simp⟩
theorem getA_big {AN : List (List Nat)} : ∀ {i : Nat}, AN.length ≤ i → getA AN i = [] := by
  induction AN with
  | nil => intro i _; rfl
  | cons a r ih => intro i h; cases i with
    | zero => simp at h
    | succ i => exact ih (by simpa using h)
theorem optEq_iff {d : Option Nat} {t : Nat} : optEq d t = true ↔ d = some t := by
  cases d with
  | none => simp [optEq]
  | some x => simp [optEq]

theorem gokB_ok {n : Nat} {all : List Oper} {eff : List Nat} {AN : List (List Nat)} {Gs : List (List Nat)} (h : gokB n all eff AN Gs = true) : GOk n all eff AN Gs := by
  simp only [gokB, Bool.and_eq_true, List.all_eq_true, List.mem_range] at h
  obtain ⟨⟨⟨⟨h0, h1⟩, h2⟩, h3⟩, h4⟩ := h
  have hAN : AN.length ≤ all.length := Nat.le_of_ble_eq_true h0
  have one : ∀ (i : Nat) o, all[i]? = some o → gok1 n all eff AN Gs i o = true := fun i o hi => by
    have := h1 i (List.getElem?_eq_some_iff.1 hi).1
    rw [hi] at this; exact this
  have parts := fun (i : Nat) (o : Oper) (hi : all[i]? = some o) => by
    have := one i o hi
    unfold gok1 at this
    simp only [Bool.and_eq_true] at this
    exact this
  have dst : ∀ (m : Nat) o', all[m]? = some o' → dstAt all m = o'.dst := fun m o' hm => by rw [dstAt_get, hm]; rfl
  refine ⟨?_, ?_, ?_, ?_, ?_, ?_, ?_, ?_, ?_, ?_, ?_⟩
  · intro i o hi cs b heq
    have := (parts i o hi).1.1.1.1.1.1
    rw [isSel, heq] at this; cases this
  · intro i o hi e he hb
    have := (parts i o hi).1.1.1.1.1.2
    simp only [List.all_eq_true] at this
    have := this e (by simpa using he)
    rw [hb] at this; simpa [blt_iff] using this
  · intro i o hi j hj
    have := (parts i o hi).1.1.1.1.2
    simp only [List.all_eq_true] at this
    have := this j hj
    simp only [List.any_eq_true, Bool.and_eq_true, Bool.or_eq_true] at this
    obtain ⟨e, he, hb, hc⟩ := this
    refine ⟨e, by simpa using he, hb, ?_⟩
    rcases hc with hc | hc
    · exact .inl (beq_iff.1 hc)
    · exact .inr (memB_iff.1 hc)
  · intro i j hj m hm
    by_cases hi : i < AN.length
    · have := h2 i hi j hj
      exact memB_iff.1 (this m hm)
    · rw [getA_big (by omega)] at hj; cases hj
  · intro i o hi t ht m o' hm hd hmi
    have := (parts i o hi).1.1.1.2
    simp only [List.all_eq_true, List.mem_range] at this
    have := this t ht m (List.getElem?_eq_some_iff.1 hm).1
    have he : optEq (dstAt all m) t = true := optEq_iff.2 ((dst m o' hm).trans hd)
    simp only [he, Bool.not_true, Bool.false_or, Bool.or_eq_true, memB_iff] at this
    rcases this with (h | h) | h
    · exact (hmi (beq_iff.1 h)).elim
    · exact .inl h
    · exact .inr h
  · intro i o hi g b hg
    have := (parts i o hi).1.1.2
    rw [hg] at this
    simp only [Bool.and_eq_true, memB_iff, Option.isSome_iff_exists] at this
    exact this
  · intro i j o o' hi hj d hd hd'
    have := (parts i o hi).1.2
    rw [hd] at this
    simp only [Bool.and_eq_true, List.all_eq_true, List.mem_range] at this
    have := this.2 j (List.getElem?_eq_some_iff.1 hj).1
    have he : optEq (dstAt all j) d = true := optEq_iff.2 ((dst j o' hj).trans hd')
    simp only [he, Bool.not_true, Bool.or_false] at this
    exact (beq_iff.1 this).symm
  · intro i hi hne
    have := (parts i all[i] (by simp [hi])).2
    have hm : memB eff i = false := by cases hm : memB eff i with | false => rfl | true => exact (hne (memB_iff.1 hm)).elim
    simp only [hm, Bool.false_or, Bool.or_eq_true, List.all_eq_true, List.any_eq_true] at this
    rcases this with (h | h) | ⟨E, hE, h⟩
    · exact .inl fun j hj hje => by have := h j hj; rw [memB_iff.2 hje] at this; cases this
    · exact .inr (.inl fun j hj => memB_iff.1 (h j hj))
    · refine .inr (.inr ⟨E, hE, fun j hj => ?_⟩)
      have := h j hj
      simp only [beq_iff_eq] at this
      rw [← memB_iff, ← memB_iff, this]
  · simp only [List.any_eq_true, Bool.and_eq_true, List.all_eq_true] at h3
    obtain ⟨k, hk, hl, hn⟩ := h3
    exact ⟨k, hk, blt_iff.1 hl, fun j hj hje => by have := hn j hj; rw [memB_iff.2 hje] at this; cases this⟩
  · exact fun k hk => blt_iff.1 (h4 k hk)
  · intro i o hi d hd
    have := (parts i o hi).1.2
    rw [hd] at this
    simp only [Bool.and_eq_true] at this
    exact blt_iff.1 this.1

/-! ### as it is asked -/
def eachL (P : Program) (ok : Nat → Bool) (n : Nat) (all : List Oper) (eff : List Nat) (AN : List (List Nat)) (e0 : Env) (w0 : World) (A : Nat → Value → World → Prop) (M : Nat → Nat → Prop) (St : Nat → Addr → Value → Prop) (rest : Prop) : List Nat → Prop
  | [] => rest
  | k :: ks => (match all[k]? with
      | some o => ∀ w, Mod (ButM eff M k) w0 w → walkD P ok n all eff A St w (selG eff AN (interB eff (getA AN k))) (finK P ok n all A M w k o) all 0 [] e0
      | none => False) ∧ eachL P ok n all eff AN e0 w0 A M St rest ks
def groupL (P : Program) (ok : Nat → Bool) (n : Nat) (all : List Oper) (eff : List Nat) (AN : List (List Nat)) (e0 : Env) (w0 : World) (A : Nat → Value → World → Prop) (M : Nat → Nat → Prop) (St : Nat → Addr → Value → Prop) (rest : Prop) : List (List Nat) → Prop
  | [] => rest
  | E :: Es => (∀ w, Mod (AllM eff M) w0 w → walkD P ok n all eff A St w (selG eff AN E) (fun _ _ => True) all 0 [] e0) ∧ groupL P ok n all eff AN e0 w0 A M St rest Es
def DrawG (eff : List Nat) (AN : List (List Nat)) (w0 : World) (F : (Nat → Value → World → Prop) → (Nat → Nat → Prop) → (Nat → Addr → Value → Prop) → Prop) : Prop := ∃ A M, Stab eff A M w0 ∧ F A M (StI eff AN M w0)
theorem eachL_ok {P : Program} {ok : Nat → Bool} {n : Nat} {all : List Oper} {eff : List Nat} {AN : List (List Nat)} {e0 : Env} {w0 : World} {A : Nat → Value → World → Prop} {M : Nat → Nat → Prop} {St : Nat → Addr → Value → Prop} {rest : Prop} :
    ∀ ks, eachL P ok n all eff AN e0 w0 A M St rest ks → (∀ k ∈ ks, ∀ o, all[k]? = some o → ∀ w, Mod (ButM eff M k) w0 w → walkD P ok n all eff A St w (selG eff AN (interB eff (getA AN k))) (finK P ok n all A M w k o) all 0 [] e0) ∧ rest := by
  intro ks
  induction ks with
  | nil => intro h; exact ⟨fun k hk => (nomatch hk), h⟩
  | cons k ks ih =>
    rintro ⟨h1, h2⟩
    obtain ⟨h3, h4⟩ := ih h2
    refine ⟨fun k' hk' o ho => ?_, h4⟩
    rcases List.mem_cons.1 hk' with rfl | hk'
    · rw [ho] at h1; exact h1
    · exact h3 k' hk' o ho
theorem groupL_ok {P : Program} {ok : Nat → Bool} {n : Nat} {all : List Oper} {eff : List Nat} {AN : List (List Nat)} {e0 : Env} {w0 : World} {A : Nat → Value → World → Prop} {M : Nat → Nat → Prop} {St : Nat → Addr → Value → Prop} {rest : Prop} :
    ∀ Es, groupL P ok n all eff AN e0 w0 A M St rest Es → (∀ E ∈ Es, ∀ w, Mod (AllM eff M) w0 w → walkD P ok n all eff A St w (selG eff AN E) (fun _ _ => True) all 0 [] e0) ∧ rest := by
  intro Es
  induction Es with
  | nil => intro h; exact ⟨fun k hk => (nomatch hk), h⟩
  | cons E Es ih =>
    rintro ⟨h1, h2⟩
    obtain ⟨h3, h4⟩ := ih h2
    refine ⟨fun E' hE' => ?_, h4⟩
    rcases List.mem_cons.1 hE' with rfl | hE'
    · exact h1
    · exact h3 E' hE'
theorem wp_region_G {P : Program} {ok : Nat → Bool} {n : Nat} {id : Nat} {ops : Array Oper} {eff : List Nat} {AN Gs : List (List Nat)} {e0 : Env} {w : World} {K : Env → World → Prop} {a : Act} (hok : GoodFns P ok) (hm : P.follows .mixedOrders = true) (hf : Fr [] n e0 a)
    (hG : gokB n ops.toList eff AN Gs = true)
    (h : DrawG eff AN w.drew fun A M St => eachL P ok n ops.toList eff AN e0 w.drew A M St (groupL P ok n ops.toList eff AN e0 w.drew A M St (∀ w', Mod (AllM eff M) w.drew w' → walkD P ok n ops.toList eff A St w' (fun _ => true) (fun _ e => K e w') ops.toList 0 [] e0) Gs) eff) :
    (Code.region id ops true).wp P (drawPost ops.toList n e0 K) a w := by
  obtain ⟨A, M, hst, h⟩ := h
  obtain ⟨h1, h2⟩ := eachL_ok _ h
  obtain ⟨h3, h4⟩ := groupL_ok _ h2
  have hgo := gokB_ok hG
  have hask : DAsk P ok n ops.toList eff AN Gs e0 w.drew A M K := ⟨hst, h1, h3, h4⟩
  refine wp_region_any hm (draw_main hok hgo hask rfl ops.size (Array.replicate ops.size false) a _ (fun _ => undef) (by simp) ?_ ?_)
  · simp
  · have hn : ∀ m : Nat, ¬ (Array.replicate ops.size false).getD m false = true := fun m => by
      simp only [Array.getD_eq_getD_getElem?, Array.getElem?_replicate]
      split <;> simp
    refine ⟨?_, Mod.refl _ _, Mod.refl _ _, fun _ _ _ => Mod.refl _ _, fun i _ hi => (hn i hi).elim, fun i _ _ hi => (hn i hi).elim, fun i _ _ hi => (hn i hi).elim⟩
    have : envS ops.toList n e0 (fun _ => undef) (fun m => (Array.replicate ops.size false).getD m false = true ∧ m < ops.toList.length) = e0 := by
      funext t; exact envS_else fun m hm _ => (hn m hm.1).elim
    rw [this]; exact hf
end Go.K
