/- Drawn regions whose memory-making operations may stand in several orders: a tree of orders, each walked. No conditions. -/
import Derived.Test.YtmfplfaeibehiaaKI
namespace Go.K
open Go

inductive Ord where
  | nil
  | op (i : Nat) (t : Ord)
  | br (a b : Ord)

section
variable (P : Program) (ok : Nat → Bool) (n : Nat)
def chainT (all : List Oper) (eff : List Nat) (M : Nat → Nat → Prop) (St : Nat → Addr → Value → Prop) (w0 : World) (K : Env → World → Prop) : Ord → List (Nat × Option Bool) → Env → World → Prop
  | .nil, _, e, w => K e w
  | .br a b, kn, e, w => chainT all eff M St w0 K a kn e w ∧ chainT all eff M St w0 K b kn e w
  | .op i r, kn, e, w =>
    match all[i]? with
    | none => False
    | some o => match o.guard with
      | none => cexec P ok eff M St w0 o i (ev e) (fun v w' => chainT all eff M St w0 K r kn (updO n e o.dst v) w') w
      | some (j, want) => match lookK kn j with
        | some (some b) => bif sameB b want then cexec P ok eff M St w0 o i (ev e) (fun v w' => chainT all eff M St w0 K r kn (updO n e o.dst v) w') w
            else chainT all eff M St w0 K r ((i, none) :: kn) (updO n e o.dst undef) w
        | some none => chainT all eff M St w0 K r ((i, none) :: kn) (updO n e o.dst undef) w
        | none => match dstAt all j with
          | some d => condK (e d)
              (bif want then cexec P ok eff M St w0 o i (ev (upd n e d (.bool true))) (fun v w' => chainT all eff M St w0 K r ((j, some true) :: kn) (updO n (upd n e d (.bool true)) o.dst v) w') w
                else chainT all eff M St w0 K r ((i, none) :: (j, some true) :: kn) (updO n (upd n e d (.bool true)) o.dst undef) w)
              (bif want then chainT all eff M St w0 K r ((i, none) :: (j, some false) :: kn) (updO n (upd n e d (.bool false)) o.dst undef) w
                else cexec P ok eff M St w0 o i (ev (upd n e d (.bool false))) (fun v w' => chainT all eff M St w0 K r ((j, some false) :: kn) (updO n (upd n e d (.bool false)) o.dst v) w') w)
          | none => False
end

def nxt (eff : List Nat) : Ord → Nat → Bool
  | .nil, _ => false
  | .br a b, i => nxt eff a i || nxt eff b i
  | .op j t, i => Nat.beq j i || (!memB eff j && nxt eff t i)
def cov (eff : List Nat) (AN : List (List Nat)) (t : Ord) (pre : List Nat) : Bool := eff.all fun i => memB pre i || !((getA AN i).all fun j => !memB eff j || memB pre j) || nxt eff t i
def okT (N : Nat) (eff : List Nat) (AN : List (List Nat)) : Ord → List Nat → Bool
  | .nil, pre => (List.range N).all (memB pre)
  | .br a b, pre => okT N eff AN a pre && okT N eff AN b pre
  | .op i t, pre => Nat.blt i N && !memB pre i && (getA AN i).all (memB pre) && (bif memB eff i then cov eff AN t (i :: pre) else true) && okT N eff AN t (i :: pre)
def treeB (N : Nat) (eff : List Nat) (AN : List (List Nat)) (t : Ord) : Bool := cov eff AN t [] && okT N eff AN t []

inductive Reach : Ord → List Nat → Ord → Prop where
  | refl (t : Ord) : Reach t [] t
  | op {i : Nat} {t t' : Ord} {A : List Nat} : Reach t A t' → Reach (.op i t) (i :: A) t'
  | l {a b t' : Ord} {A : List Nat} : Reach a A t' → Reach (.br a b) A t'
  | r {a b t' : Ord} {A : List Nat} : Reach b A t' → Reach (.br a b) A t'

theorem memB_false {l : List Nat} {i : Nat} : memB l i = false ↔ i ∉ l := by
  rw [← memB_iff]; cases memB l i <;> simp
theorem okT_op {N : Nat} {eff : List Nat} {AN : List (List Nat)} {i : Nat} {t : Ord} {pre : List Nat} (h : okT N eff AN (.op i t) pre = true) :
    i < N ∧ i ∉ pre ∧ (∀ j ∈ getA AN i, j ∈ pre) ∧ (i ∈ eff → cov eff AN t (i :: pre) = true) ∧ okT N eff AN t (i :: pre) = true := by
  simp only [okT, Bool.and_eq_true, List.all_eq_true, Bool.not_eq_true', memB_false, memB_iff] at h
  obtain ⟨⟨⟨⟨h1, h2⟩, h3⟩, h4⟩, h5⟩ := h
  refine ⟨Nat.le_of_ble_eq_true h1, h2, h3, fun hi => ?_, h5⟩
  rw [memB_iff.2 hi] at h4; exact h4
theorem okT_reach {N : Nat} {eff : List Nat} {AN : List (List Nat)} {t t' : Ord} {A : List Nat} (h : Reach t A t') : ∀ {pre : List Nat}, okT N eff AN t pre = true → okT N eff AN t' (A.reverse ++ pre) = true ∧ ∀ j ∈ A, j ∉ pre := by
  induction h with
  | refl t => intro pre h; exact ⟨h, fun j hj => (nomatch hj)⟩
  | op _ ih =>
    intro pre h
    obtain ⟨_, h2, _, _, h5⟩ := okT_op h
    obtain ⟨h6, h7⟩ := ih h5
    refine ⟨by simpa using h6, fun j hj => ?_⟩
    rcases List.mem_cons.1 hj with rfl | hj
    · exact h2
    · exact fun hp => h7 j hj (List.mem_cons_of_mem _ hp)
  | l _ ih => intro pre h; simp only [okT, Bool.and_eq_true] at h; exact ih h.1
  | r _ ih => intro pre h; simp only [okT, Bool.and_eq_true] at h; exact ih h.2
theorem nxt_reach {eff : List Nat} {i : Nat} : ∀ {t : Ord}, nxt eff t i = true → ∃ A t', Reach t A (.op i t') ∧ ∀ j ∈ A, j ∉ eff := by
  intro t
  induction t with
  | nil => intro h; cases h
  | op j t ih =>
    intro h
    simp only [nxt, Bool.or_eq_true, Bool.and_eq_true, Bool.not_eq_true', memB_false] at h
    rcases h with h | ⟨h1, h2⟩
    · have := Nat.eq_of_beq_eq_true h; subst this; exact ⟨[], t, .refl _, fun j hj => (nomatch hj)⟩
    · obtain ⟨A, t', h3, h4⟩ := ih h2
      refine ⟨j :: A, t', .op h3, fun k hk => ?_⟩
      rcases List.mem_cons.1 hk with rfl | hk
      · exact h1
      · exact h4 k hk
  | br a b iha ihb =>
    intro h
    simp only [nxt, Bool.or_eq_true] at h
    rcases h with h | h
    · obtain ⟨A, t', h3, h4⟩ := iha h; exact ⟨A, t', .l h3, h4⟩
    · obtain ⟨A, t', h3, h4⟩ := ihb h; exact ⟨A, t', .r h3, h4⟩
/-- the end of the leftmost way -/
theorem nil_reach : ∀ t : Ord, ∃ A, Reach t A .nil := by
  intro t
  induction t with
  | nil => exact ⟨[], .refl _⟩
  | op j t ih => obtain ⟨A, h⟩ := ih; exact ⟨_, .op h⟩
  | br a b iha _ => obtain ⟨A, h⟩ := iha; exact ⟨A, .l h⟩
/-- on a way to the end each operation is met -/
theorem reach_split {t t' : Ord} {A : List Nat} (h : Reach t A t') : ∀ {i : Nat}, i ∈ A → ∃ B t1, Reach t B (.op i t1) ∧ (∀ j ∈ B, j ∈ A) := by
  induction h with
  | refl t => intro i hi; cases hi
  | @op j t t' A h ih =>
    intro i hi
    rcases List.mem_cons.1 hi with rfl | hi
    · exact ⟨[], t, .refl _, fun j hj => (nomatch hj)⟩
    · obtain ⟨B, t1, h1, h2⟩ := ih hi
      refine ⟨j :: B, t1, .op h1, fun k hk => ?_⟩
      rcases List.mem_cons.1 hk with rfl | hk
      · exact List.mem_cons_self
      · exact List.mem_cons_of_mem _ (h2 k hk)
  | l _ ih => intro i hi; obtain ⟨B, t1, h1, h2⟩ := ih hi; exact ⟨B, t1, .l h1, h2⟩
  | r _ ih => intro i hi; obtain ⟨B, t1, h1, h2⟩ := ih hi; exact ⟨B, t1, .r h1, h2⟩

section
variable {P : Program} {ok : Nat → Bool} {n : Nat} {all : List Oper} {eff : List Nat} {AN Gs : List (List Nat)} {e0 : Env} {w0 : World} {M : Nat → Nat → Prop} {K : Env → World → Prop}

structure PreOk (all : List Oper) (AN : List (List Nat)) (pre : List Nat) : Prop where
  lt : ∀ m ∈ pre, m < all.length
  cl : ∀ m ∈ pre, ∀ j ∈ getA AN m, j ∈ pre
theorem PreOk.cons {pre : List Nat} {i : Nat} (h : PreOk all AN pre) (hi : i < all.length) (ha : ∀ j ∈ getA AN i, j ∈ pre) : PreOk all AN (i :: pre) :=
  ⟨fun m hm => by rcases List.mem_cons.1 hm with rfl | hm; exact hi; exact h.lt m hm, fun m hm j hj => by
    rcases List.mem_cons.1 hm with rfl | hm
    · exact List.mem_cons_of_mem _ (ha j hj)
    · exact List.mem_cons_of_mem _ (h.cl m hm j hj)⟩
theorem clash_ofT (hG : GOk n all eff AN Gs) {kn : List (Nat × Option Bool)} {i : Nat} {o : Oper} (hi : all[i]? = some o) (hk : ∀ p ∈ kn, p.1 ≠ i ∧ p.1 < all.length) : clash o.dst kn all = false := by
  unfold clash
  cases hd : o.dst with
  | none => rfl
  | some t =>
    simp only [List.any_eq_false]
    intro p hp
    obtain ⟨hne, hlt⟩ := hk p hp
    have hpo : all[p.1]? = some (all[p.1]'hlt) := by simp [hlt]
    rw [dstAt_get, hpo]
    simp only [Option.bind_some]
    cases hd' : (all[p.1]'hlt).dst with
    | none => simp
    | some u =>
      simp only
      intro hb
      have := Nat.eq_of_beq_eq_true hb
      subst this
      exact hne (hG.one _ _ _ _ hpo hi u hd' hd)

theorem tree_head (hG : GOk n all eff AN Gs) {o : Oper} {rest : Ord} {i : Nat} {pre : List Nat} {kn : List (Nat × Option Bool)} {e : Env} {w : World} (hio : all[i]? = some o) (ha : ∀ j ∈ getA AN i, j ∈ pre) (hkn : ∀ p ∈ kn, p.1 ∈ pre) (hk : KnOk all kn e)
    (h : chainT P ok n all eff M (StI eff AN M w0) w0 K (.op i rest) kn e w) :
    ∃ kn1, (∀ p ∈ kn1, p.1 ∈ pre) ∧ KnOk all kn1 e ∧
      ((wantedV all e o ∧ cexec P ok eff M (StI eff AN M w0) w0 o i (ev e) (fun v w' => chainT P ok n all eff M (StI eff AN M w0) w0 K rest kn1 (updO n e o.dst v) w') w) ∨
       (¬ wantedV all e o ∧ chainT P ok n all eff M (StI eff AN M w0) w0 K rest ((i, none) :: kn1) (updO n e o.dst undef) w)) := by
  unfold chainT at h
  rw [hio] at h
  simp only at h
  cases hgd : o.guard with
  | none =>
    simp only [hgd] at h
    exact ⟨kn, hkn, hk, .inl ⟨(fun g b hgb => by rw [hgd] at hgb; cases hgb), h⟩⟩
  | some gb =>
    obtain ⟨g, want⟩ := gb
    simp only [hgd] at h
    have hgi : g ∈ pre := ha g (hG.guard i o hio g want hgd).1
    have wt : yv all e g = some want → wantedV all e o := fun hy g' b' hgb => by rw [hgd] at hgb; cases hgb; exact hy
    have wf : yv all e g ≠ some want → ¬ wantedV all e o := fun hy hw => hy (hw g want hgd)
    cases hlk : lookK kn g with
    | some b =>
      have hy := hk g b hlk
      simp only [hlk] at h
      cases b with
      | none => exact ⟨kn, hkn, hk, .inr ⟨wf (by rw [hy]; simp), h⟩⟩
      | some b =>
        simp only [sameB_eq] at h
        cases hbw : (b == want) with
        | true =>
          simp only [hbw, cond_true] at h
          have : b = want := by simpa using hbw
          exact ⟨kn, hkn, hk, .inl ⟨wt (by rw [hy, this]), h⟩⟩
        | false =>
          simp only [hbw, cond_false] at h
          have : b ≠ want := by simpa using hbw
          exact ⟨kn, hkn, hk, .inr ⟨wf (by rw [hy]; simp [this]), h⟩⟩
    | none =>
      simp only [hlk] at h
      obtain ⟨d, hd⟩ := (hG.guard i o hio g want hgd).2
      simp only [hd] at h
      have hyv : yv all e g = bv (e d) := by simp [yv, hd]
      have hkn2 : ∀ b, ∀ p ∈ (g, b) :: kn, p.1 ∈ pre := fun b p hp => by
        rcases List.mem_cons.1 hp with rfl | hp
        · exact hgi
        · exact hkn p hp
      rcases condK_bool h with ⟨hv1, hb⟩ | ⟨hv1, hb⟩
      · have hy : yv all e g = some true := by rw [hyv, hv1]; rfl
        rw [upd_self hv1] at hb
        cases want with
        | true => simp only [cond_true] at hb; exact ⟨_, hkn2 _, hk.cons hy, .inl ⟨wt hy, hb⟩⟩
        | false => simp only [cond_false] at hb; exact ⟨_, hkn2 _, hk.cons hy, .inr ⟨wf (by rw [hy]; simp), hb⟩⟩
      · have hy : yv all e g = some false := by rw [hyv, hv1]; rfl
        rw [upd_self hv1] at hb
        cases want with
        | true => simp only [cond_true] at hb; exact ⟨_, hkn2 _, hk.cons hy, .inr ⟨wf (by rw [hy]; simp), hb⟩⟩
        | false => simp only [cond_false] at hb; exact ⟨_, hkn2 _, hk.cons hy, .inl ⟨wt hy, hb⟩⟩

/-- on along a way of the tree; what is not yet carried out is thought to be -/
theorem tree_walk (hok : GoodFns P ok) (hG : GOk n all eff AN Gs) {L : Nat → Prop} (hL : ∀ i, i < all.length → L i → ∀ j ∈ getA AN i, L j) {t t' : Ord} {A : List Nat} (hr : Reach t A t') :
    ∀ (pre : List Nat) (kn : List (Nat × Option Bool)) (vals : Nat → Value) (w : World), okT all.length eff AN t pre = true → PreOk all AN pre → (∀ q ∈ kn, q.1 ∈ pre) → KnOk all kn (envS all n e0 vals (fun m => m ∈ pre)) →
      (∀ (m : Nat) o, all[m]? = some o → (m ∈ pre ∨ L m) → m ∉ eff → Gd P all eff AN n e0 w0 M vals m o) → (∀ j ∈ eff, j ∈ A → ¬ L j) →
      chainT P ok n all eff M (StI eff AN M w0) w0 K t kn (envS all n e0 vals (fun m => m ∈ pre)) w →
      ∃ vals' kn' w', (∀ m, (m ∈ pre ∨ L m) → vals' m = vals m) ∧ (∀ q ∈ kn', q.1 ∈ A.reverse ++ pre) ∧ KnOk all kn' (envS all n e0 vals' (fun m => m ∈ A.reverse ++ pre)) ∧
        (∀ (m : Nat) o, all[m]? = some o → (m ∈ A.reverse ++ pre ∨ L m) → m ∉ eff → Gd P all eff AN n e0 w0 M vals' m o) ∧ ((∀ j ∈ eff, j ∉ A) → w' = w) ∧ PreOk all AN (A.reverse ++ pre) ∧
        chainT P ok n all eff M (StI eff AN M w0) w0 K t' kn' (envS all n e0 vals' (fun m => m ∈ A.reverse ++ pre)) w' := by
  induction hr with
  | refl t => intro pre kn vals w ho hp h1 h2 h3 _ h; exact ⟨vals, kn, w, fun _ _ => rfl, h1, h2, h3, fun _ => rfl, hp, h⟩
  | l _ ih => intro pre kn vals w ho hp h1 h2 h3 h4 h; simp only [okT, Bool.and_eq_true] at ho; exact ih pre kn vals w ho.1 hp h1 h2 h3 h4 h.1
  | r _ ih => intro pre kn vals w ho hp h1 h2 h3 h4 h; simp only [okT, Bool.and_eq_true] at ho; exact ih pre kn vals w ho.2 hp h1 h2 h3 h4 h.2
  | @op p t t' A _ ih =>
    intro pre kn vals w ho hp hkn hk hg hne h
    obtain ⟨hpl, hpn, hpa, _, ho'⟩ := okT_op ho
    have hio : all[p]? = some all[p] := by simp [hpl]
    generalize all[p] = o at hio
    obtain ⟨kn1, hkn1, hk1, h⟩ := tree_head hG hio hpa hkn hk h
    have see : ∀ t ∈ slotsOf all o, envS all n e0 vals (fun m => m ∈ pre) t = view all AN n e0 vals p t :=
      see_view hG hio hpa (fun m hm hmi hsm => hpn (hp.cl m hsm p hmi)) hpn
    have hclash := clash_ofT hG hio (kn := kn1) fun q hq => ⟨fun e => hpn (e ▸ hkn1 q hq), hp.lt _ (hkn1 q hq)⟩
    have hp' := hp.cons hpl hpa
    have eA : (p :: A).reverse ++ pre = A.reverse ++ (p :: pre) := by simp
    rw [eA]
    have next : ∀ (v : Value) (kn' : List (Nat × Option Bool)) (w1 : World), (L p → v = vals p) → (∀ q ∈ kn', q.1 ∈ p :: pre) → KnOk all kn' (updO n (envS all n e0 vals (fun m => m ∈ pre)) o.dst v) →
        (p ∉ eff → (wantedV all (view all AN n e0 vals p) o → RunsV P (effI eff AN p) M w0 o (view all AN n e0 vals p) v) ∧ (¬ wantedV all (view all AN n e0 vals p) o → v = undef)) →
        (p ∉ eff → w1 = w) → chainT P ok n all eff M (StI eff AN M w0) w0 K t kn' (updO n (envS all n e0 vals (fun m => m ∈ pre)) o.dst v) w1 →
        ∃ vals' kn' w', (∀ m, (m ∈ pre ∨ L m) → vals' m = vals m) ∧ (∀ q ∈ kn', q.1 ∈ A.reverse ++ (p :: pre)) ∧ KnOk all kn' (envS all n e0 vals' (fun m => m ∈ A.reverse ++ (p :: pre))) ∧
          (∀ (m : Nat) o, all[m]? = some o → (m ∈ A.reverse ++ (p :: pre) ∨ L m) → m ∉ eff → Gd P all eff AN n e0 w0 M vals' m o) ∧ ((∀ j ∈ eff, j ∉ p :: A) → w' = w) ∧ PreOk all AN (A.reverse ++ (p :: pre)) ∧
          chainT P ok n all eff M (StI eff AN M w0) w0 K t' kn' (envS all n e0 vals' (fun m => m ∈ A.reverse ++ (p :: pre))) w' := by
      intro v kn' w1 hv1 hkn' hk' hgd hw1 hc
      have hput : updO n (envS all n e0 vals (fun m => m ∈ pre)) o.dst v = envS all n e0 (fun q => if q = p then v else vals q) (fun m => m ∈ p :: pre) :=
        envS_put hG hio (fun m => by simp [or_comm]) (fun m _ hmi => by simp [hmi]) (by simp) hpn
      rw [hput] at hk' hc
      have hvw : ∀ m, m < all.length → (m ∈ p :: pre ∨ L m) → view all AN n e0 (fun q => if q = p then v else vals q) m = view all AN n e0 vals m := fun m hm hmL =>
        view_congr hG fun j hj => by
          by_cases hjp : j = p
          · subst hjp
            rcases hmL with hmL | hmL
            · rcases List.mem_cons.1 hmL with rfl | hmL
              · exact (hpn (hpa _ hj)).elim
              · exact (hpn (hp.cl m hmL j hj)).elim
            · simp [hv1 (hL m hm hmL j hj)]
          · simp [hjp]
      obtain ⟨vals', kn2, w', r1, r2, r3, r4, r5, r7, r6⟩ := ih (p :: pre) kn' (fun q => if q = p then v else vals q) w1 ho' hp' hkn' hk' (fun m o' hm hmL hne' => by
          have hml : m < all.length := (List.getElem?_eq_some_iff.1 hm).1
          unfold Gd
          rw [hvw m hml hmL]
          by_cases hmp : m = p
          · subst hmp; rw [hio] at hm; cases hm
            simp only [if_true]; exact hgd hne'
          · have := hg m o' hm (hmL.imp (fun h => (List.mem_cons.1 h).resolve_left hmp) id) hne'
            unfold Gd at this
            simpa [hmp] using this) (fun j hj h1 => hne j hj (List.mem_cons_of_mem _ h1)) hc
      refine ⟨vals', kn2, w', fun m hm => ?_, r2, r3, r4, fun hno => ?_, r7, r6⟩
      · rw [r1 m (hm.imp (fun h => List.mem_cons_of_mem _ h) id)]
        by_cases hmp : m = p
        · subst hmp
          rcases hm with hm | hm
          · exact (hpn hm).elim
          · simp [hv1 hm]
        · simp [hmp]
      · rw [r5 fun j hj h1 => hno j hj (List.mem_cons_of_mem _ h1)]
        exact hw1 fun hpe => hno p hpe List.mem_cons_self
    have wiff := wanted_congr hG hio see
    have kc : ∀ q ∈ kn1, q.1 ∈ p :: pre := fun q hq => List.mem_cons_of_mem _ (hkn1 q hq)
    have kc2 : ∀ q ∈ (p, none) :: kn1, q.1 ∈ p :: pre := fun q hq => by
      rcases List.mem_cons.1 hq with rfl | hq
      · exact List.mem_cons_self
      · exact kc q hq
    by_cases hpe : p ∈ eff
    · have hnL : ¬ L p := hne p hpe List.mem_cons_self
      rcases h with ⟨hw, hx⟩ | ⟨hw, hx⟩
      · unfold cexec at hx
        rw [memB_iff.2 hpe] at hx; simp only [cond_true] at hx
        obtain ⟨v, w1, hm1, hc1⟩ := nextOk_some (opD_nx hok (fun _ => rfl) (fun _ => rfl) hx)
        exact next v kn1 w1 (fun h => (hnL h).elim) kc (hk1.put hclash _) (fun h => (h hpe).elim) (fun h => (h hpe).elim) hc1
      · exact next undef ((p, none) :: kn1) w (fun h => (hnL h).elim) kc2 ((hk1.put hclash _).cons (knUnd hG hio)) (fun h => (h hpe).elim) (fun _ => rfl) hx
    · have hm : memB eff p = false := memB_false.2 hpe
      rcases h with ⟨hw, hx⟩ | ⟨hw, hx⟩
      · unfold cexec at hx
        rw [hm] at hx; simp only [cond_false] at hx
        obtain ⟨v, h1, h2⟩ := wexec_run hm hx
        have h2' : RunsV P (effI eff AN p) M w0 o (view all AN n e0 vals p) v := h2.congr (hG.nosel p o hio) fun t ht => see t (mem_slots ht)
        refine next v kn1 w (fun hLp => ?_) kc (hk1.put hclash _) (fun _ => ⟨fun _ => h2', fun hn => (hn (wiff.1 hw)).elim⟩) (fun _ => rfl) h1
        exact h2'.det ((hg p o hio (.inr hLp) hpe).1 (wiff.1 hw))
      · refine next undef ((p, none) :: kn1) w (fun hLp => ((hg p o hio (.inr hLp) hpe).2 fun h => hw (wiff.2 h)).symm) kc2 ((hk1.put hclash _).cons (knUnd hG hio)) (fun _ => ⟨fun h => (hw (wiff.2 h)).elim, fun _ => rfl⟩) (fun _ => rfl) hx

/-- how far the draw has come -/
structure TInv (P : Program) (ok : Nat → Bool) (n : Nat) (all : List Oper) (eff : List Nat) (AN : List (List Nat)) (e0 : Env) (w0 : World) (M : Nat → Nat → Prop) (K : Env → World → Prop) (L : Nat → Prop) (a : Act) (w : World) : Prop where
  ex : ∃ (t : Ord) (pre : List Nat) (vals : Nat → Value) (kn : List (Nat × Option Bool)),
    Fr [] n (envS all n e0 vals (fun m => L m ∧ m < all.length)) a ∧ okT all.length eff AN t pre = true ∧ cov eff AN t pre = true ∧ PreOk all AN pre ∧ (∀ q ∈ kn, q.1 ∈ pre) ∧ KnOk all kn (envS all n e0 vals (fun m => m ∈ pre)) ∧
    (∀ (m : Nat) o, all[m]? = some o → (m ∈ pre ∨ L m) → m ∉ eff → Gd P all eff AN n e0 w0 M vals m o) ∧ (∀ j ∈ eff, L j ↔ j ∈ pre) ∧
    chainT P ok n all eff M (StI eff AN M w0) w0 K t kn (envS all n e0 vals (fun m => m ∈ pre)) w
  mod : Mod (fun b => ∃ j ∈ eff, L j ∧ M j b) w0 w
  closed : ∀ i, i < all.length → L i → ∀ j ∈ getA AN i, L j

theorem tree_main (hok : GoodFns P ok) (hG : GOk n all eff AN Gs) {ops : Array Oper} (hops : ops.toList = all) :
    ∀ (fuel : Nat) (listed : Array Bool) (a : Act) (w : World), listed.size = ops.size → listed.toList.count false ≤ fuel → TInv P ok n all eff AN e0 w0 M K (fun m => listed.getD m false = true) a w →
      wpAny P .any ops (drawPost all n e0 K) fuel listed a w := by
  have hsize : ops.size = all.length := by rw [← hops]; simp
  have hget : ∀ i : Nat, ops[i]? = all[i]? := fun i => by rw [← hops]; simp
  have rdy : ∀ (listed : Array Bool) (i : Nat), i ∈ Region.ready .any ops listed → ∃ o, all[i]? = some o ∧ listed.getD i true = false ∧ ∀ e ∈ o.after, Region.binds .any e = true → listed.getD e.on false = true := by
    intro listed i hi
    obtain ⟨h1, o, h2, h3⟩ := mem_ready.1 hi
    exact ⟨o, by rw [← hget]; exact h2, h1, h3⟩
  have fin : ∀ (listed : Array Bool) (a : Act) (w : World), listed.size = ops.size → TInv P ok n all eff AN e0 w0 M K (fun m => listed.getD m false = true) a w → Region.ready .any ops listed = [] → drawPost all n e0 K .normal a w := by
    intro listed a w hls hI hr
    have hallL : ∀ i, i < all.length → listed.getD i false = true := by
      intro i
      induction i using Nat.strongRecOn with
      | _ i ih =>
        intro hi
        cases hc : listed.getD i false with
        | true => rfl
        | false =>
          have : i ∈ Region.ready .any ops listed := by
            refine mem_ready.2 ⟨?_, all[i], by rw [hget]; simp [hi], fun e he hb => ?_⟩
            · have : i < listed.size := by omega
              simp [this] at hc ⊢; exact hc
            · have := hG.back i all[i] (by simp [hi]) e he hb
              exact ih e.on this (by omega)
          rw [hr] at this; cases this
    obtain ⟨t, pre, vals, kn, hfr, ho, _, hp, hkn, hk, hg, hj, hc⟩ := hI.ex
    obtain ⟨A, hre⟩ := nil_reach t
    obtain ⟨hon, hnp⟩ := okT_reach hre ho
    have hnone : ∀ j ∈ eff, j ∉ A := fun j hje hjA => hnp j hjA ((hj j hje).1 (hallL j (hG.effin j hje)))
    obtain ⟨vals', kn', w', r1, r2, r3, r4, r5, r7, r6⟩ := tree_walk (L := fun m => listed.getD m false = true) hok hG hI.closed hre pre kn vals w ho hp hkn hk hg (fun j hje hjA => (hnone j hje hjA).elim) hc
    have hw : w' = w := r5 hnone
    subst hw
    have hin : ∀ m, m < all.length → m ∈ A.reverse ++ pre := fun m hm => by
      simp only [okT, List.all_eq_true, memB_iff] at hon
      exact hon m (List.mem_range.2 hm)
    have henv : envS all n e0 vals' (fun m => m ∈ A.reverse ++ pre) = envS all n e0 vals (fun m => listed.getD m false = true ∧ m < all.length) := by
      funext t
      exact envS_same hG fun m hm _ => ⟨⟨fun h => ⟨hallL m hm, hm⟩, fun h => hin m hm⟩, fun _ => r1 m (.inr (hallL m hm))⟩
    unfold chainT at r6
    rw [henv] at r6
    refine ⟨rfl, _, hfr, fun j hj => envS_else fun m _ hm hd => ?_, r6⟩
    have hmo : all[m]? = some all[m] := by simp [hm]
    rw [dstAt_get, hmo] at hd
    exact hj all[m] (by simp) hd
  intro fuel
  induction fuel with
  | zero =>
    intro listed a w hls hc hI
    have hr : Region.ready .any ops listed = [] := by
      cases hr : Region.ready .any ops listed with
      | nil => rfl
      | cons i r =>
        exfalso
        obtain ⟨o, h1, h2, _⟩ := rdy listed i (by rw [hr]; simp)
        have hil : i < listed.size := by have := (List.getElem?_eq_some_iff.1 h1).1; omega
        simp [hil] at h2
        have : false ∈ listed.toList := by rw [← h2]; simp
        have := List.count_pos_iff.2 this
        omega
    exact ⟨hr, fin listed a w hls hI hr⟩
  | succ fuel ih =>
    intro listed a w hls hc hI
    refine ⟨fin listed a w hls hI, fun i hi => ?_⟩
    obtain ⟨o, hio, hun, hedges⟩ := rdy listed i hi
    have hil : i < all.length := (List.getElem?_eq_some_iff.1 hio).1
    have hils : i < listed.size := by omega
    have hni : ¬ listed.getD i false = true := by simp [hils] at hun ⊢; exact hun
    have hanc : ∀ j ∈ getA AN i, listed.getD j false = true := by
      intro j hj
      obtain ⟨e, he, hb, h1⟩ := hG.anc i o hio j hj
      have hL := hedges e he hb
      rcases h1 with rfl | h1
      · exact hL
      · exact hI.closed e.on (by have := hG.back i o hio e he hb; omega) hL j h1
    obtain ⟨t, pre, vals, kn, hfr, hot, hcov, hp, hkn, hk, hg, hj, hcd⟩ := hI.ex
    have see : ∀ t ∈ slotsOf all o, envS all n e0 vals (fun m => listed.getD m false = true ∧ m < all.length) t = view all AN n e0 vals i t :=
      see_view hG hio (fun j hj => ⟨hanc j hj, by have := hG.lt hil hj; omega⟩) (fun m hm hmi hsm => hni (hI.closed m hm hsm.1 i hmi)) (fun h => hni h.1)
    have hev := hfr.eval
    have hwant : (Region.wanted o (yielded ops a.tmps) = true) ↔ wantedV all (view all AN n e0 vals i) o := by
      rw [← wanted_congr hG hio see]
      unfold Region.wanted wantedV
      cases hg : o.guard with
      | none => simp
      | some gb =>
        obtain ⟨g, b⟩ := gb
        have := yielded_of hfr (ops := ops) (j := g)
        rw [hops] at this
        simp only [this, beq_iff_eq]
        constructor
        · rintro h g' b' heq; cases heq; exact h
        · intro h; exact h g b rfl
    have hset : ∀ m, (listed.setIfInBounds i true).getD m false = true ↔ (listed.getD m false = true ∨ m = i) := by
      intro m
      simp only [Array.getD_eq_getD_getElem?, Array.getElem?_setIfInBounds]
      by_cases hmi : i = m
      · subst hmi; simp [hils]
      · simp [hmi, Ne.symm hmi]
    have hcnt : (listed.setIfInBounds i true).toList.count false ≤ fuel := by
      have hb : listed.toList[i]'(by simpa using hils) = false := by simp [hils] at hun; simpa using hun
      have : (listed.setIfInBounds i true).toList.count false + 1 = listed.toList.count false := by
        rw [Array.toList_setIfInBounds]
        exact count_set_false listed.toList i (by rw [← hb]; simp)
      omega
    have hcl' : ∀ m, m < all.length → (listed.getD m false = true ∨ m = i) → ∀ j ∈ getA AN m, (listed.getD j false = true ∨ j = i) := by
      rintro m hm (hLm | rfl) j hj
      · exact .inl (hI.closed m hm hLm j hj)
      · exact .inl (hanc j hj)
    have put : ∀ (vals' : Nat → Value) (v : Value), (∀ m, listed.getD m false = true → vals' m = vals m) → vals' i = v →
        Fr [] n (envS all n e0 vals' (fun m => (listed.getD m false = true ∨ m = i) ∧ m < all.length)) (a.put o.dst v) := by
      intro vals' v h1 h2
      rw [← envS_put hG (vals := vals) (S := fun m => listed.getD m false = true ∧ m < all.length) (v := v) hio (fun m => ?_) (fun m hm hmi => h1 m hm.1) h2 (fun hh => hni hh.1)]
      · exact hfr.put o.dst v
      · constructor
        · rintro ⟨h1 | h1, h2⟩
          · exact .inl ⟨h1, h2⟩
          · exact .inr h1
        · rintro (⟨h1, h2⟩ | rfl)
          · exact ⟨.inl h1, h2⟩
          · exact ⟨.inr rfl, hil⟩
    have go : ∀ (v : Value) (w' : World), TInv P ok n all eff AN e0 w0 M K (fun m => listed.getD m false = true ∨ m = i) (a.put o.dst v) w' → wpAny P .any ops (drawPost all n e0 K) fuel (listed.setIfInBounds i true) (a.put o.dst v) w' := by
      intro v w' h1
      refine ih _ _ _ (by simpa using hls) hcnt ?_
      have : (fun m => (listed.setIfInBounds i true).getD m false = true) = (fun m => listed.getD m false = true ∨ m = i) := by
        funext m; exact propext (hset m)
      rw [this]; exact h1
    unfold wpOp
    rw [hget i, hio]
    simp only
    have viewv : ∀ (vals' : Nat → Value), (∀ m, listed.getD m false = true → vals' m = vals m) → view all AN n e0 vals' i = view all AN n e0 vals i := fun vals' h => view_congr hG fun j hj => h j (hanc j hj)
    by_cases hie : i ∈ eff
    · have hpi : i ∉ pre := fun h => hni ((hj i hie).2 h)
      have hnx : nxt eff t i = true := by
        simp only [cov, List.all_eq_true] at hcov
        have h1 := hcov i hie
        rw [memB_false.2 hpi] at h1
        have h2 : ((getA AN i).all fun j => !memB eff j || memB pre j) = true := by
          simp only [List.all_eq_true, Bool.or_eq_true, Bool.not_eq_true', memB_iff, memB_false]
          intro j hja
          by_cases hje : j ∈ eff
          · exact .inr ((hj j hje).1 (hanc j hja))
          · exact .inl hje
        simpa [h2] using h1
      obtain ⟨A, t', hre, hAe⟩ := nxt_reach hnx
      obtain ⟨hon, hnp⟩ := okT_reach hre hot
      have hnone : ∀ j ∈ eff, j ∉ A := fun j hje hjA => hAe j hjA hje
      obtain ⟨vals', kn', w', r1, r2, r3, r4, r5, r7, r6⟩ := tree_walk (L := fun m => listed.getD m false = true) hok hG hI.closed hre pre kn vals w hot hp hkn hk hg (fun j hje hjA => (hnone j hje hjA).elim) hcd
      have hw : w' = w := r5 hnone
      subst hw
      obtain ⟨_, hin, hia, hcov', hot'⟩ := okT_op hon
      generalize hpre : A.reverse ++ pre = pre' at *
      have hpp : ∀ j ∈ eff, j ∈ pre' ↔ j ∈ pre := fun j hje => by
        rw [← hpre, List.mem_append, List.mem_reverse]
        exact ⟨fun h => h.resolve_left (hnone j hje), .inr⟩
      obtain ⟨kn1, hkn1, hk1, h6⟩ := tree_head hG hio hia r2 r3 r6
      have hv := viewv vals' fun m hm => r1 m (.inr hm)
      have see2 : ∀ t ∈ slotsOf all o, envS all n e0 vals' (fun m => m ∈ pre') t = view all AN n e0 vals i t := fun t ht => by
        rw [see_view hG hio hia (fun m hm hmi hsm => hin (r7.cl m hsm i hmi)) hin t ht, hv]
      have hclash := clash_ofT hG hio (kn := kn1) fun q hq => ⟨fun e => hin (e ▸ hkn1 q hq), r7.lt _ (hkn1 q hq)⟩
      have wiff := wanted_congr hG hio see2
      have newInv : ∀ (v : Value) (w1 : World) (kn2 : List (Nat × Option Bool)), (∀ q ∈ kn2, q.1 ∈ i :: pre') → KnOk all kn2 (updO n (envS all n e0 vals' (fun m => m ∈ pre')) o.dst v) → Mod (fun b => ∃ j ∈ eff, (listed.getD j false = true ∨ j = i) ∧ M j b) w0 w1 →
          chainT P ok n all eff M (StI eff AN M w0) w0 K t' kn2 (updO n (envS all n e0 vals' (fun m => m ∈ pre')) o.dst v) w1 → TInv P ok n all eff AN e0 w0 M K (fun m => listed.getD m false = true ∨ m = i) (a.put o.dst v) w1 := by
        intro v w1 kn2 h1 h2 h3 h4
        have hput : updO n (envS all n e0 vals' (fun m => m ∈ pre')) o.dst v = envS all n e0 (fun q => if q = i then v else vals' q) (fun m => m ∈ i :: pre') :=
          envS_put hG hio (fun m => by simp [or_comm]) (fun m _ hmi => by simp [hmi]) (by simp) hin
        rw [hput] at h2 h4
        refine ⟨⟨t', i :: pre', fun q => if q = i then v else vals' q, kn2, put _ v (fun m hm => ?_) (by simp), hot', hcov' hie, r7.cons hil hia, h1, h2, ?_, ?_, h4⟩, h3, hcl'⟩
        · have : m ≠ i := by rintro rfl; exact hni hm
          simp [this, r1 m (.inr hm)]
        · intro m o' hm hmL hne
          have hml : m < all.length := (List.getElem?_eq_some_iff.1 hm).1
          have hmi : m ≠ i := by rintro rfl; exact hne hie
          have hmL' : m ∈ pre' ∨ listed.getD m false = true := by
            rcases hmL with h | h | h
            · exact .inl ((List.mem_cons.1 h).resolve_left hmi)
            · exact .inr h
            · exact (hmi h).elim
          refine Gd.of_agree hG hml (fun j hj => ?_) (by simp [hmi]) (r4 m o' hm hmL' hne)
          have : j ≠ i := by
            rintro rfl
            rcases hmL' with h | h
            · exact hin (r7.cl m h j hj)
            · exact hni (hI.closed m hml h j hj)
          simp [this]
        · intro j hje
          rw [hj j hje, List.mem_cons, hpp j hje]
          exact or_comm
      have lift1 : Mod (fun b => ∃ j ∈ eff, (listed.getD j false = true ∨ j = i) ∧ M j b) w0 w' := hI.mod.mono fun b _ ⟨j, hj, hL, hb⟩ => ⟨j, hj, .inl hL, hb⟩
      have kc : ∀ q ∈ kn1, q.1 ∈ i :: pre' := fun q hq => List.mem_cons_of_mem _ (hkn1 q hq)
      by_cases hwv : wantedV all (view all AN n e0 vals i) o
      · rw [if_pos (hwant.2 hwv)]
        left
        rcases h6 with ⟨_, hx⟩ | ⟨hnw, _⟩
        · unfold cexec at hx
          rw [memB_iff.2 hie] at hx; simp only [cond_true] at hx
          have hnx := opD_nx hok (fun _ => rfl) (fun _ => rfl) hx
          unfold Oper.wp
          rw [hev, execOp_slots (e' := envS all n e0 vals' (fun m => m ∈ pre')) (hG.nosel i o hio) (fun t ht => by rw [see t (mem_slots ht), see2 t (mem_slots ht)])]
          exact upon_of hnx fun v w1 hv => go v w1 (newInv v w1 kn1 kc (hk1.put hclash _) ((lift1.trans (hv.1.mono fun b _ hb => ⟨i, hie, .inr rfl, hb⟩))) hv.2)
        · exact (hnw (wiff.2 hwv)).elim
      · rw [if_neg (fun h => hwv (hwant.1 h))]
        rcases h6 with ⟨hw, _⟩ | ⟨_, hx⟩
        · exact (hwv (wiff.1 hw)).elim
        · exact go undef w' (newInv undef w' ((i, none) :: kn1) (fun q hq => by
            rcases List.mem_cons.1 hq with rfl | hq
            · exact List.mem_cons_self
            · exact kc q hq) ((hk1.put hclash _).cons (knUnd hG hio)) lift1 hx)
    · -- an operation that looks at most at memory that stays
      have key : ∃ v : Value, (i ∈ pre → v = vals i) ∧ (wantedV all (view all AN n e0 vals i) o → RunsV P (effI eff AN i) M w0 o (view all AN n e0 vals i) v) ∧ (¬ wantedV all (view all AN n e0 vals i) o → v = undef) := by
        by_cases hip : i ∈ pre
        · exact ⟨vals i, fun _ => rfl, hg i o hio (.inl hip) hie⟩
        · obtain ⟨A0, hre0⟩ := nil_reach t
          obtain ⟨hon0, _⟩ := okT_reach hre0 hot
          have hiA : i ∈ A0 := by
            simp only [okT, List.all_eq_true, memB_iff] at hon0
            have := hon0 i (List.mem_range.2 hil)
            rw [List.mem_append, List.mem_reverse] at this
            exact this.resolve_right hip
          obtain ⟨B, t1, hre1, _⟩ := reach_split hre0 hiA
          have hre : Reach t (B ++ [i]) t1 := by
            have tr : ∀ {a b c : Ord} {X Y : List Nat}, Reach a X b → Reach b Y c → Reach a (X ++ Y) c := by
              intro a b c X Y h1 h2
              induction h1 with
              | refl _ => exact h2
              | op _ ih => exact .op (ih h2)
              | l _ ih => exact .l (ih h2)
              | r _ ih => exact .r (ih h2)
            exact tr hre1 (.op (.refl _))
          obtain ⟨_, hnp⟩ := okT_reach hre hot
          obtain ⟨vals', kn', w', r1, r2, r3, r4, r5, r7, r6⟩ := tree_walk (L := fun m => listed.getD m false = true) hok hG hI.closed hre pre kn vals w hot hp hkn hk hg (fun j hje hjA hLj => hnp j hjA ((hj j hje).1 hLj)) hcd
          have hv := viewv vals' fun m hm => r1 m (.inr hm)
          have := r4 i o hio (.inl (by simp)) hie
          unfold Gd at this
          rw [hv] at this
          exact ⟨vals' i, fun h => (hip h).elim, this⟩
      obtain ⟨v, hvp, hvg⟩ := key
      have inv : TInv P ok n all eff AN e0 w0 M K (fun m => listed.getD m false = true ∨ m = i) (a.put o.dst v) w := by
        have hagree : ∀ m, (m ∈ pre ∨ listed.getD m false = true) → (if m = i then v else vals m) = vals m := by
          intro m hm
          by_cases hmi : m = i
          · subst hmi
            rcases hm with h | h
            · simp [hvp h]
            · exact (hni h).elim
          · simp [hmi]
        have henv : envS all n e0 (fun m => if m = i then v else vals m) (fun m => m ∈ pre) = envS all n e0 vals (fun m => m ∈ pre) := by
          funext t
          exact envS_same hG fun m _ _ => ⟨Iff.rfl, fun h => hagree m (.inl h)⟩
        refine ⟨⟨t, pre, fun m => if m = i then v else vals m, kn, put _ v (fun m hm => hagree m (.inr hm)) (by simp), hot, hcov, hp, hkn, by rw [henv]; exact hk, ?_, ?_, by rw [henv]; exact hcd⟩, hI.mod.mono fun b _ ⟨j, hj, hL, hb⟩ => ⟨j, hj, .inl hL, hb⟩, hcl'⟩
        · intro m o' hm hmL hne
          have hml : m < all.length := (List.getElem?_eq_some_iff.1 hm).1
          by_cases hmi : m = i
          · subst hmi
            rw [hio] at hm; cases hm
            unfold Gd
            rw [view_congr hG (vals' := vals) fun j hj => by have := hG.lt hil hj; simp [show j ≠ m by omega]]
            simp only [if_true]
            exact hvg
          · have hmL' : m ∈ pre ∨ listed.getD m false = true := by
              rcases hmL with h | h | h
              · exact .inl h
              · exact .inr h
              · exact (hmi h).elim
            refine Gd.of_agree hG hml (fun j hj => ?_) (by simp [hmi]) (hg m o' hm hmL' hne)
            have hjL : j ∈ pre ∨ listed.getD j false = true := by
              rcases hmL' with h | h
              · exact .inl (hp.cl m h j hj)
              · exact .inr (hI.closed m hml h j hj)
            exact (hagree j hjL).symm
        · intro j hje
          have hji : j ≠ i := by rintro rfl; exact hie hje
          rw [← hj j hje]
          simp [hji]
      have hgo := go v w inv
      by_cases hwv : wantedV all (view all AN n e0 vals i) o
      · rw [if_pos (hwant.2 hwv)]
        left
        unfold Oper.wp
        rw [hev, execOp_slots (e' := view all AN n e0 vals i) (hG.nosel i o hio) (fun t ht => see t (mem_slots ht)), hvg.1 hwv w (hI.mod.mono fun b _ ⟨j, hj, hL, hb⟩ => ⟨j, effI_mem hj fun hji => hni (hI.closed j (hG.effin j hj) hL i hji), hb⟩)]
        exact hgo
      · rw [if_neg (fun h => hwv (hwant.1 h))]
        have := hvg.2 hwv
        rw [this] at hgo
        exact hgo

theorem wp_region_T {id : Nat} {ops : Array Oper} {w : World} {a : Act} {t : Ord} (hok : GoodFns P ok) (hm : P.follows .mixedOrders = true) (hf : Fr [] n e0 a)
    (hG : gokB n ops.toList eff AN Gs = true) (ht : treeB ops.toList.length eff AN t = true)
    (h : DrawC eff AN w.drew fun M St => chainT P ok n ops.toList eff M St w.drew K t [] e0 w.drew) :
    (Code.region id ops true).wp P (drawPost ops.toList n e0 K) a w := by
  obtain ⟨M, h⟩ := h
  have hgo := gokB_ok hG
  simp only [treeB, Bool.and_eq_true] at ht
  refine wp_region_any hm (tree_main (M := M) (w0 := w.drew) hok hgo rfl ops.size (Array.replicate ops.size false) a _ (by simp) ?_ ?_)
  · simp
  · have hn : ∀ m : Nat, ¬ (Array.replicate ops.size false).getD m false = true := fun m => by
      simp only [Array.getD_eq_getD_getElem?, Array.getElem?_replicate]
      split <;> simp
    have hempty : ∀ S : Nat → Prop, (∀ m, ¬ S m) → envS ops.toList n e0 (fun _ => undef) S = e0 := fun S hS => by
      funext t; exact envS_else fun m hm _ => (hS m hm).elim
    refine ⟨⟨t, [], fun _ => undef, [], ?_, ht.2, ht.1, ⟨fun m hm => (nomatch hm), fun m hm => (nomatch hm)⟩, fun q hq => (nomatch hq), fun j b hb => by simp [lookK] at hb, fun m o _ hmL _ => ?_, fun j _ => ?_, ?_⟩, Mod.refl _ _, fun i _ hi => (hn i hi).elim⟩
    · rw [hempty _ fun m hm => hn m hm.1]; exact hf
    · rcases hmL with h | h
      · cases h
      · exact (hn m h).elim
    · exact ⟨fun h => (hn j h).elim, fun h => (nomatch h)⟩
    · rw [hempty _ fun m hm => (nomatch hm)]
      exact h
end
end Go.K
