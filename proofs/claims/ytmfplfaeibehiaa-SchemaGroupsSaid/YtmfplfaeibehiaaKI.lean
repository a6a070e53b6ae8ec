/- Drawn regions whose memory-making operations stand in one forced order: one walk in the order of the text. No conditions. -/
import Derived.Test.YtmfplfaeibehiaaKH
namespace Go.K
open Go

section
variable (P : Program) (ok : Nat → Bool) (n : Nat)
def cexec (eff : List Nat) (M : Nat → Nat → Prop) (St : Nat → Addr → Value → Prop) (_ : World) (o : Oper) (i : Nat) (ρ : Operand → Value) (k : Cont) (w : World) : Prop :=
  bif memB eff i then opD P ok o ρ (fun v w' => Mod (M i) w w' ∧ k v w') w
  else wexec P ok eff (fun _ _ _ => True) (St i) w o i ρ fun v => k v w
def chainD (all : List Oper) (eff : List Nat) (M : Nat → Nat → Prop) (St : Nat → Addr → Value → Prop) (w0 : World) (K : Env → World → Prop) : List Oper → Nat → List (Nat × Option Bool) → Env → World → Prop
  | [], _, _, e, w => K e w
  | o :: r, i, kn, e, w =>
    match o.guard with
    | none => cexec P ok eff M St w0 o i (ev e) (fun v w' => chainD all eff M St w0 K r (i + 1) kn (updO n e o.dst v) w') w
    | some (j, want) => match lookK kn j with
      | some (some b) => bif sameB b want then cexec P ok eff M St w0 o i (ev e) (fun v w' => chainD all eff M St w0 K r (i + 1) kn (updO n e o.dst v) w') w
          else chainD all eff M St w0 K r (i + 1) ((i, none) :: kn) (updO n e o.dst undef) w
      | some none => chainD all eff M St w0 K r (i + 1) ((i, none) :: kn) (updO n e o.dst undef) w
      | none => match dstAt all j with
        | some d => condK (e d)
            (bif want then cexec P ok eff M St w0 o i (ev (upd n e d (.bool true))) (fun v w' => chainD all eff M St w0 K r (i + 1) ((j, some true) :: kn) (updO n (upd n e d (.bool true)) o.dst v) w') w
              else chainD all eff M St w0 K r (i + 1) ((i, none) :: (j, some true) :: kn) (updO n (upd n e d (.bool true)) o.dst undef) w)
            (bif want then chainD all eff M St w0 K r (i + 1) ((i, none) :: (j, some false) :: kn) (updO n (upd n e d (.bool false)) o.dst undef) w
              else cexec P ok eff M St w0 o i (ev (upd n e d (.bool false))) (fun v w' => chainD all eff M St w0 K r (i + 1) ((j, some false) :: kn) (updO n (upd n e d (.bool false)) o.dst v) w') w)
        | none => False
def DrawC (eff : List Nat) (AN : List (List Nat)) (w0 : World) (F : (Nat → Nat → Prop) → (Nat → Addr → Value → Prop) → Prop) : Prop := ∃ M, F M (StI eff AN M w0)
def chainB (eff : List Nat) (AN : List (List Nat)) : Bool := eff.all fun k => eff.all fun j => Nat.ble k j || memB (getA AN k) j
end

section
variable {P : Program} {ok : Nat → Bool} {n : Nat} {all : List Oper} {eff : List Nat} {AN Gs : List (List Nat)} {e0 : Env} {w0 : World} {M : Nat → Nat → Prop} {K : Env → World → Prop}

/-- what stands at a place of the text: carried out, or passed over -/
theorem chain_head (hG : GOk n all eff AN Gs) {o : Oper} {rest : List Oper} {i : Nat} {kn : List (Nat × Option Bool)} {e : Env} {w : World} (hio : all[i]? = some o) (hkn : ∀ p ∈ kn, p.1 < i) (hk : KnOk all kn e)
    (h : chainD P ok n all eff M (StI eff AN M w0) w0 K (o :: rest) i kn e w) :
    ∃ kn1, (∀ p ∈ kn1, p.1 < i) ∧ KnOk all kn1 e ∧
      ((wantedV all e o ∧ cexec P ok eff M (StI eff AN M w0) w0 o i (ev e) (fun v w' => chainD P ok n all eff M (StI eff AN M w0) w0 K rest (i + 1) kn1 (updO n e o.dst v) w') w) ∨
       (¬ wantedV all e o ∧ chainD P ok n all eff M (StI eff AN M w0) w0 K rest (i + 1) ((i, none) :: kn1) (updO n e o.dst undef) w)) := by
  have hil : i < all.length := (List.getElem?_eq_some_iff.1 hio).1
  unfold chainD at h
  cases hgd : o.guard with
  | none =>
    simp only [hgd] at h
    exact ⟨kn, hkn, hk, .inl ⟨(fun g b hgb => by rw [hgd] at hgb; cases hgb), h⟩⟩
  | some gb =>
    obtain ⟨g, want⟩ := gb
    simp only [hgd] at h
    have hgi : g < i := hG.lt hil (hG.guard i o hio g want hgd).1
    have wt : yv all e g = some want → wantedV all e o := fun hy g' b' hgb => by rw [hgd] at hgb; cases hgb; exact hy
    have wf : yv all e g ≠ some want → ¬ wantedV all e o := fun hy hw => hy (hw g want hgd)
    cases hlk : lookK kn g with
    | some b =>
      have hy := hk g b hlk
      simp only [hlk] at h
      cases b with
      | none => exact ⟨kn, hkn, hk, .inr ⟨wf (by rw [hy]; simp), h⟩⟩
      | some b =>
        simp only [sameB_eq] at h
        cases hbw : (b == want) with
        | true =>
          simp only [hbw, cond_true] at h
          have : b = want := by simpa using hbw
          exact ⟨kn, hkn, hk, .inl ⟨wt (by rw [hy, this]), h⟩⟩
        | false =>
          simp only [hbw, cond_false] at h
          have : b ≠ want := by simpa using hbw
          exact ⟨kn, hkn, hk, .inr ⟨wf (by rw [hy]; simp [this]), h⟩⟩
    | none =>
      simp only [hlk] at h
      obtain ⟨d, hd⟩ := (hG.guard i o hio g want hgd).2
      simp only [hd] at h
      have hyv : yv all e g = bv (e d) := by simp [yv, hd]
      have hkn2 : ∀ b, ∀ p ∈ (g, b) :: kn, p.1 < i := fun b p hp => by
        rcases List.mem_cons.1 hp with rfl | hp
        · exact hgi
        · exact hkn p hp
      rcases condK_bool h with ⟨hv1, hb⟩ | ⟨hv1, hb⟩
      · have hy : yv all e g = some true := by rw [hyv, hv1]; rfl
        rw [upd_self hv1] at hb
        cases want with
        | true => simp only [cond_true] at hb; exact ⟨_, hkn2 _, hk.cons hy, .inl ⟨wt hy, hb⟩⟩
        | false => simp only [cond_false] at hb; exact ⟨_, hkn2 _, hk.cons hy, .inr ⟨wf (by rw [hy]; simp), hb⟩⟩
      · have hy : yv all e g = some false := by rw [hyv, hv1]; rfl
        rw [upd_self hv1] at hb
        cases want with
        | true => simp only [cond_true] at hb; exact ⟨_, hkn2 _, hk.cons hy, .inr ⟨wf (by rw [hy]; simp), hb⟩⟩
        | false => simp only [cond_false] at hb; exact ⟨_, hkn2 _, hk.cons hy, .inl ⟨wt hy, hb⟩⟩

theorem nextOk_some {r : Result Next} {w : World} {K : Cont} (h : NextOk w r K P) : ∃ v w', K v w' := by
  match r, h with
  | .ok (.value v) w', h => exact ⟨_, _, h⟩
  | .ok .skip w', h => exact ⟨_, _, h⟩
  | .ok (.enter f args) w', h =>
    obtain ⟨_, hc⟩ := h
    obtain ⟨e, w'', fr, ⟨v, _, hv⟩, _⟩ := hc []
    exact ⟨v, w'', hv⟩

theorem knUnd (hG : GOk n all eff AN Gs) {i : Nat} {o : Oper} (hio : all[i]? = some o) {e : Env} : yv all (updO n e o.dst undef) i = none := by
  unfold yv
  rw [dstAt_get, hio]
  simp only [Option.bind_some]
  cases hd : o.dst with
  | none => rfl
  | some d =>
    have := hG.bound i o hio d hd
    have hb : Nat.blt d n = true := Nat.ble_eq_true_of_le (show d + 1 ≤ n from this)
    simp [updO, upd, hb]; rfl

/-- from a place in the text on to a later one; what is not yet carried out is thought to be -/
theorem chain_walk (hok : GoodFns P ok) (hG : GOk n all eff AN Gs) {L : Nat → Prop} (hL : ∀ i, i < all.length → L i → ∀ j ∈ getA AN i, L j) :
    ∀ (d p : Nat) (kn : List (Nat × Option Bool)) (vals : Nat → Value) (w : World), (∀ q ∈ kn, q.1 < p) → KnOk all kn (envS all n e0 vals (fun m => m < p)) →
      (∀ (m : Nat) o, all[m]? = some o → (m < p ∨ L m) → m ∉ eff → Gd P all eff AN n e0 w0 M vals m o) →
      p + d ≤ all.length → (∀ j ∈ eff, p ≤ j → j < p + d → ¬ L j) →
      chainD P ok n all eff M (StI eff AN M w0) w0 K (all.drop p) p kn (envS all n e0 vals (fun m => m < p)) w →
      ∃ vals' kn' w', (∀ m, (m < p ∨ L m) → vals' m = vals m) ∧ (∀ q ∈ kn', q.1 < p + d) ∧ KnOk all kn' (envS all n e0 vals' (fun m => m < p + d)) ∧
        (∀ (m : Nat) o, all[m]? = some o → (m < p + d ∨ L m) → m ∉ eff → Gd P all eff AN n e0 w0 M vals' m o) ∧ ((∀ j ∈ eff, p ≤ j → ¬ j < p + d) → w' = w) ∧
        chainD P ok n all eff M (StI eff AN M w0) w0 K (all.drop (p + d)) (p + d) kn' (envS all n e0 vals' (fun m => m < p + d)) w' := by
  intro d
  induction d with
  | zero => intro p kn vals w h1 h2 h3 _ _ h; exact ⟨vals, kn, w, fun _ _ => rfl, h1, h2, h3, fun _ => rfl, h⟩
  | succ d ih =>
    intro p kn vals w hkn hk hg hlen hne h
    have hpl : p < all.length := by omega
    have hio : all[p]? = some all[p] := by simp [hpl]
    generalize all[p] = o at hio
    have hdrop : all.drop p = o :: all.drop (p + 1) := by
      rw [List.drop_eq_getElem_cons hpl]
      congr 1
      have := List.getElem?_eq_getElem hpl
      rw [hio] at this; exact (Option.some.inj this).symm
    rw [hdrop] at h
    obtain ⟨kn1, hkn1, hk1, h⟩ := chain_head hG hio hkn hk h
    have see : ∀ t ∈ slotsOf all o, envS all n e0 vals (fun m => m < p) t = view all AN n e0 vals p t :=
      see_view hG hio (fun j hj => hG.lt hpl hj) (fun m hm hmi hsm => by have := hG.lt hm hmi; omega) (fun h => by omega)
    have hclash := clash_of hG hio hkn1
    have next : ∀ (v : Value) (kn' : List (Nat × Option Bool)) (w1 : World), (L p → v = vals p) → (∀ q ∈ kn', q.1 < p + 1) → KnOk all kn' (updO n (envS all n e0 vals (fun m => m < p)) o.dst v) →
        (p ∉ eff → (wantedV all (view all AN n e0 vals p) o → RunsV P (effI eff AN p) M w0 o (view all AN n e0 vals p) v) ∧ (¬ wantedV all (view all AN n e0 vals p) o → v = undef)) →
        (p ∉ eff → w1 = w) → chainD P ok n all eff M (StI eff AN M w0) w0 K (all.drop (p + 1)) (p + 1) kn' (updO n (envS all n e0 vals (fun m => m < p)) o.dst v) w1 →
        ∃ vals' kn' w', (∀ m, (m < p ∨ L m) → vals' m = vals m) ∧ (∀ q ∈ kn', q.1 < p + (d + 1)) ∧ KnOk all kn' (envS all n e0 vals' (fun m => m < p + (d + 1))) ∧
          (∀ (m : Nat) o, all[m]? = some o → (m < p + (d + 1) ∨ L m) → m ∉ eff → Gd P all eff AN n e0 w0 M vals' m o) ∧ ((∀ j ∈ eff, p ≤ j → ¬ j < p + (d + 1)) → w' = w) ∧
          chainD P ok n all eff M (StI eff AN M w0) w0 K (all.drop (p + (d + 1))) (p + (d + 1)) kn' (envS all n e0 vals' (fun m => m < p + (d + 1))) w' := by
      intro v kn' w1 hv1 hkn' hk' hgd hw1 hc
      have hput : updO n (envS all n e0 vals (fun m => m < p)) o.dst v = envS all n e0 (fun q => if q = p then v else vals q) (fun m => m < p + 1) :=
        envS_put hG hio (fun m => by omega) (fun m _ hmi => by simp [hmi]) (by simp) (by omega)
      rw [hput] at hk' hc
      have hvw : ∀ m, m < all.length → (m < p + 1 ∨ L m) → view all AN n e0 (fun q => if q = p then v else vals q) m = view all AN n e0 vals m := fun m hm hmL =>
        view_congr hG fun j hj => by
          by_cases hjp : j = p
          · subst hjp
            rcases hmL with hmL | hmL
            · have := hG.lt hm hj; omega
            · simp [hv1 (hL m hm hmL j hj)]
          · simp [hjp]
      obtain ⟨vals', kn2, w', r1, r2, r3, r4, r5, r6⟩ := ih (p + 1) kn' (fun q => if q = p then v else vals q) w1 hkn' hk' (fun m o' hm hmL hne' => by
          have hml : m < all.length := (List.getElem?_eq_some_iff.1 hm).1
          unfold Gd
          rw [hvw m hml hmL]
          by_cases hmp : m = p
          · subst hmp; rw [hio] at hm; cases hm
            simp only [if_true]; exact hgd hne'
          · have := hg m o' hm (hmL.imp (fun h => by omega) id) hne'
            unfold Gd at this
            simpa [hmp] using this) (by omega) (fun j hj h1 h2 => hne j hj (by omega) (by omega)) hc
      have e1 : p + 1 + d = p + (d + 1) := by omega
      rw [e1] at r2 r3 r4 r5 r6
      refine ⟨vals', kn2, w', fun m hm => ?_, r2, r3, r4, fun hno => ?_, r6⟩
      · rw [r1 m (hm.imp (fun h => by omega) id)]
        by_cases hmp : m = p
        · subst hmp
          rcases hm with hm | hm
          · omega
          · simp [hv1 hm]
        · simp [hmp]
      · rw [r5 fun j hj h1 h2 => hno j hj (by omega) h2]
        exact hw1 fun hpe => hno p hpe (Nat.le_refl _) (by omega)
    have wiff := wanted_congr hG hio see
    by_cases hpe : p ∈ eff
    · have hnL : ¬ L p := hne p hpe (Nat.le_refl _) (by omega)
      rcases h with ⟨hw, hx⟩ | ⟨hw, hx⟩
      · unfold cexec at hx
        rw [memB_iff.2 hpe] at hx; simp only [cond_true] at hx
        obtain ⟨v, w1, hm1, hc1⟩ := nextOk_some (opD_nx hok (fun _ => rfl) (fun _ => rfl) hx)
        exact next v kn1 w1 (fun h => (hnL h).elim) (fun q hq => by have := hkn1 q hq; omega) (hk1.put hclash _) (fun h => (h hpe).elim) (fun h => (h hpe).elim) hc1
      · exact next undef ((p, none) :: kn1) w (fun h => (hnL h).elim) (fun q hq => by
          rcases List.mem_cons.1 hq with rfl | hq
          · simp
          · have := hkn1 q hq; omega) ((hk1.put hclash _).cons (knUnd hG hio)) (fun h => (h hpe).elim) (fun _ => rfl) hx
    · have hm : memB eff p = false := by cases hm : memB eff p with | false => rfl | true => exact (hpe (memB_iff.1 hm)).elim
      rcases h with ⟨hw, hx⟩ | ⟨hw, hx⟩
      · unfold cexec at hx
        rw [hm] at hx; simp only [cond_false] at hx
        obtain ⟨v, h1, h2⟩ := wexec_run hm hx
        have h2' : RunsV P (effI eff AN p) M w0 o (view all AN n e0 vals p) v := h2.congr (hG.nosel p o hio) fun t ht => see t (mem_slots ht)
        refine next v kn1 w (fun hLp => ?_) (fun q hq => by have := hkn1 q hq; omega) (hk1.put hclash _) (fun _ => ⟨fun _ => h2', fun hn => (hn (wiff.1 hw)).elim⟩) (fun _ => rfl) h1
        exact h2'.det ((hg p o hio (.inr hLp) hpe).1 (wiff.1 hw))
      · refine next undef ((p, none) :: kn1) w (fun hLp => ((hg p o hio (.inr hLp) hpe).2 fun h => hw (wiff.2 h)).symm) (fun q hq => by
          rcases List.mem_cons.1 hq with rfl | hq
          · simp
          · have := hkn1 q hq; omega) ((hk1.put hclash _).cons (knUnd hG hio)) (fun _ => ⟨fun h => (hw (wiff.2 h)).elim, fun _ => rfl⟩) (fun _ => rfl) hx

/-- how far the draw has come -/
structure CInv (P : Program) (ok : Nat → Bool) (n : Nat) (all : List Oper) (eff : List Nat) (AN : List (List Nat)) (e0 : Env) (w0 : World) (M : Nat → Nat → Prop) (K : Env → World → Prop) (L : Nat → Prop) (a : Act) (w : World) : Prop where
  ex : ∃ (p : Nat) (vals : Nat → Value) (kn : List (Nat × Option Bool)),
    Fr [] n (envS all n e0 vals (fun m => L m ∧ m < all.length)) a ∧ p ≤ all.length ∧ (∀ q ∈ kn, q.1 < p) ∧ KnOk all kn (envS all n e0 vals (fun m => m < p)) ∧
    (∀ (m : Nat) o, all[m]? = some o → (m < p ∨ L m) → m ∉ eff → Gd P all eff AN n e0 w0 M vals m o) ∧ (∀ j ∈ eff, L j ↔ j < p) ∧
    chainD P ok n all eff M (StI eff AN M w0) w0 K (all.drop p) p kn (envS all n e0 vals (fun m => m < p)) w
  mod : Mod (fun b => ∃ j ∈ eff, L j ∧ M j b) w0 w
  closed : ∀ i, i < all.length → L i → ∀ j ∈ getA AN i, L j

theorem chain_main (hok : GoodFns P ok) (hG : GOk n all eff AN Gs) (hch : chainB eff AN = true) {ops : Array Oper} (hops : ops.toList = all) :
    ∀ (fuel : Nat) (listed : Array Bool) (a : Act) (w : World), listed.size = ops.size → listed.toList.count false ≤ fuel → CInv P ok n all eff AN e0 w0 M K (fun m => listed.getD m false = true) a w →
      wpAny P .any ops (drawPost all n e0 K) fuel listed a w := by
  have hsize : ops.size = all.length := by rw [← hops]; simp
  have hget : ∀ i : Nat, ops[i]? = all[i]? := fun i => by rw [← hops]; simp
  have rdy : ∀ (listed : Array Bool) (i : Nat), i ∈ Region.ready .any ops listed → ∃ o, all[i]? = some o ∧ listed.getD i true = false ∧ ∀ e ∈ o.after, Region.binds .any e = true → listed.getD e.on false = true := by
    intro listed i hi
    obtain ⟨h1, o, h2, h3⟩ := mem_ready.1 hi
    exact ⟨o, by rw [← hget]; exact h2, h1, h3⟩
  have hchain : ∀ j ∈ eff, ∀ k ∈ eff, j < k → j ∈ getA AN k := by
    intro j hj k hk hlt
    simp only [chainB, List.all_eq_true] at hch
    have := hch k hk j hj
    simp only [Bool.or_eq_true, memB_iff] at this
    rcases this with h | h
    · have := Nat.le_of_ble_eq_true h; omega
    · exact h
  have fin : ∀ (listed : Array Bool) (a : Act) (w : World), listed.size = ops.size → CInv P ok n all eff AN e0 w0 M K (fun m => listed.getD m false = true) a w → Region.ready .any ops listed = [] → drawPost all n e0 K .normal a w := by
    intro listed a w hls hI hr
    have hallL : ∀ i, i < all.length → listed.getD i false = true := by
      intro i
      induction i using Nat.strongRecOn with
      | _ i ih =>
        intro hi
        cases hc : listed.getD i false with
        | true => rfl
        | false =>
          have : i ∈ Region.ready .any ops listed := by
            refine mem_ready.2 ⟨?_, all[i], by rw [hget]; simp [hi], fun e he hb => ?_⟩
            · have : i < listed.size := by omega
              simp [this] at hc ⊢; exact hc
            · have := hG.back i all[i] (by simp [hi]) e he hb
              exact ih e.on this (by omega)
          rw [hr] at this; cases this
    obtain ⟨p, vals, kn, hfr, hpl, hkn, hk, hg, hj, hc⟩ := hI.ex
    have hnone : ∀ j ∈ eff, p ≤ j → ¬ j < p + (all.length - p) := fun j hje hpj hjl => by
      have := (hj j hje).1 (hallL j (by omega)); omega
    obtain ⟨vals', kn', w', r1, r2, r3, r4, r5, r6⟩ := chain_walk (L := fun m => listed.getD m false = true) hok hG hI.closed (all.length - p) p kn vals w hkn hk hg (by omega) (fun j hje hpj hjl => (hnone j hje hpj hjl).elim) hc
    have e1 : p + (all.length - p) = all.length := by omega
    rw [e1] at r6
    rw [List.drop_length] at r6
    have hw : w' = w := r5 hnone
    subst hw
    have henv : envS all n e0 vals' (fun m => m < all.length) = envS all n e0 vals (fun m => listed.getD m false = true ∧ m < all.length) := by
      funext t
      exact envS_same hG fun m hm _ => ⟨⟨fun h => ⟨hallL m hm, hm⟩, fun h => hm⟩, fun _ => r1 m (.inr (hallL m hm))⟩
    unfold chainD at r6
    rw [henv] at r6
    refine ⟨rfl, _, hfr, fun j hj => envS_else fun m _ hm hd => ?_, r6⟩
    have hmo : all[m]? = some all[m] := by simp [hm]
    rw [dstAt_get, hmo] at hd
    exact hj all[m] (by simp) hd
  intro fuel
  induction fuel with
  | zero =>
    intro listed a w hls hc hI
    have hr : Region.ready .any ops listed = [] := by
      cases hr : Region.ready .any ops listed with
      | nil => rfl
      | cons i r =>
        exfalso
        obtain ⟨o, h1, h2, _⟩ := rdy listed i (by rw [hr]; simp)
        have hil : i < listed.size := by have := (List.getElem?_eq_some_iff.1 h1).1; omega
        simp [hil] at h2
        have : false ∈ listed.toList := by rw [← h2]; simp
        have := List.count_pos_iff.2 this
        omega
    exact ⟨hr, fin listed a w hls hI hr⟩
  | succ fuel ih =>
    intro listed a w hls hc hI
    refine ⟨fin listed a w hls hI, fun i hi => ?_⟩
    obtain ⟨o, hio, hun, hedges⟩ := rdy listed i hi
    have hil : i < all.length := (List.getElem?_eq_some_iff.1 hio).1
    have hils : i < listed.size := by omega
    have hni : ¬ listed.getD i false = true := by simp [hils] at hun ⊢; exact hun
    have hanc : ∀ j ∈ getA AN i, listed.getD j false = true := by
      intro j hj
      obtain ⟨e, he, hb, h1⟩ := hG.anc i o hio j hj
      have hL := hedges e he hb
      rcases h1 with rfl | h1
      · exact hL
      · exact hI.closed e.on (by have := hG.back i o hio e he hb; omega) hL j h1
    obtain ⟨p, vals, kn, hfr, hpl, hkn, hk, hg, hj, hcd⟩ := hI.ex
    have see : ∀ t ∈ slotsOf all o, envS all n e0 vals (fun m => listed.getD m false = true ∧ m < all.length) t = view all AN n e0 vals i t :=
      see_view hG hio (fun j hj => ⟨hanc j hj, by have := hG.lt hil hj; omega⟩) (fun m hm hmi hsm => hni (hI.closed m hm hsm.1 i hmi)) (fun h => hni h.1)
    have hev := hfr.eval
    have hwant : (Region.wanted o (yielded ops a.tmps) = true) ↔ wantedV all (view all AN n e0 vals i) o := by
      rw [← wanted_congr hG hio see]
      unfold Region.wanted wantedV
      cases hg : o.guard with
      | none => simp
      | some gb =>
        obtain ⟨g, b⟩ := gb
        have := yielded_of hfr (ops := ops) (j := g)
        rw [hops] at this
        simp only [this, beq_iff_eq]
        constructor
        · rintro h g' b' heq; cases heq; exact h
        · intro h; exact h g b rfl
    -- going on
    have hset : ∀ m, (listed.setIfInBounds i true).getD m false = true ↔ (listed.getD m false = true ∨ m = i) := by
      intro m
      simp only [Array.getD_eq_getD_getElem?, Array.getElem?_setIfInBounds]
      by_cases hmi : i = m
      · subst hmi; simp [hils]
      · simp [hmi, Ne.symm hmi]
    have hcnt : (listed.setIfInBounds i true).toList.count false ≤ fuel := by
      have hb : listed.toList[i]'(by simpa using hils) = false := by simp [hils] at hun; simpa using hun
      have : (listed.setIfInBounds i true).toList.count false + 1 = listed.toList.count false := by
        rw [Array.toList_setIfInBounds]
        exact count_set_false listed.toList i (by rw [← hb]; simp)
      omega
    have hcl' : ∀ m, m < all.length → (listed.getD m false = true ∨ m = i) → ∀ j ∈ getA AN m, (listed.getD j false = true ∨ j = i) := by
      rintro m hm (hLm | rfl) j hj
      · exact .inl (hI.closed m hm hLm j hj)
      · exact .inl (hanc j hj)
    have put : ∀ (vals' : Nat → Value) (v : Value), (∀ m, listed.getD m false = true → vals' m = vals m) → vals' i = v →
        Fr [] n (envS all n e0 vals' (fun m => (listed.getD m false = true ∨ m = i) ∧ m < all.length)) (a.put o.dst v) := by
      intro vals' v h1 h2
      rw [← envS_put hG (vals := vals) (S := fun m => listed.getD m false = true ∧ m < all.length) (v := v) hio (fun m => ?_) (fun m hm hmi => h1 m hm.1) h2 (fun hh => hni hh.1)]
      · exact hfr.put o.dst v
      · constructor
        · rintro ⟨h1 | h1, h2⟩
          · exact .inl ⟨h1, h2⟩
          · exact .inr h1
        · rintro (⟨h1, h2⟩ | rfl)
          · exact ⟨.inl h1, h2⟩
          · exact ⟨.inr rfl, hil⟩
    have go : ∀ (v : Value) (w' : World), CInv P ok n all eff AN e0 w0 M K (fun m => listed.getD m false = true ∨ m = i) (a.put o.dst v) w' → wpAny P .any ops (drawPost all n e0 K) fuel (listed.setIfInBounds i true) (a.put o.dst v) w' := by
      intro v w' h1
      refine ih _ _ _ (by simpa using hls) hcnt ?_
      have : (fun m => (listed.setIfInBounds i true).getD m false = true) = (fun m => listed.getD m false = true ∨ m = i) := by
        funext m; exact propext (hset m)
      rw [this]; exact h1
    unfold wpOp
    rw [hget i, hio]
    simp only
    have viewv : ∀ (vals' : Nat → Value), (∀ m, listed.getD m false = true → vals' m = vals m) → view all AN n e0 vals' i = view all AN n e0 vals i := fun vals' h => view_congr hG fun j hj => h j (hanc j hj)
    by_cases hie : i ∈ eff
    · have hpi : p ≤ i := by
        rcases Nat.lt_or_ge i p with h | h
        · exact (hni ((hj i hie).2 h)).elim
        · exact h
      have hnone : ∀ j ∈ eff, p ≤ j → ¬ j < p + (i - p) := fun j hje hpj hjl => by
        have h1 := hanc j (hchain j hje i hie (by omega))
        have := (hj j hje).1 h1; omega
      obtain ⟨vals', kn', w', r1, r2, r3, r4, r5, r6⟩ := chain_walk (L := fun m => listed.getD m false = true) hok hG hI.closed (i - p) p kn vals w hkn hk hg (by omega) (fun j hje hpj hjl => (hnone j hje hpj hjl).elim) hcd
      have hw : w' = w := r5 hnone
      subst hw
      have e1 : p + (i - p) = i := by omega
      rw [e1] at r2 r3 r4 r6
      have hdrop : all.drop i = o :: all.drop (i + 1) := by
        rw [List.drop_eq_getElem_cons hil]
        congr 1
        have := List.getElem?_eq_getElem hil
        rw [hio] at this; exact (Option.some.inj this).symm
      rw [hdrop] at r6
      obtain ⟨kn1, hkn1, hk1, h6⟩ := chain_head hG hio r2 r3 r6
      have hv := viewv vals' fun m hm => r1 m (.inr hm)
      have see2 : ∀ t ∈ slotsOf all o, envS all n e0 vals' (fun m => m < i) t = view all AN n e0 vals i t := fun t ht => by
        rw [see_view hG hio (fun j hj => hG.lt hil hj) (fun m hm hmi hsm => by have := hG.lt hm hmi; omega) (fun h => by omega) t ht, hv]
      have hclash := clash_of hG hio hkn1
      have wiff := wanted_congr hG hio see2
      have newInv : ∀ (v : Value) (w1 : World) (kn2 : List (Nat × Option Bool)), (∀ q ∈ kn2, q.1 < i + 1) → KnOk all kn2 (updO n (envS all n e0 vals' (fun m => m < i)) o.dst v) → Mod (fun b => ∃ j ∈ eff, (listed.getD j false = true ∨ j = i) ∧ M j b) w0 w1 →
          chainD P ok n all eff M (StI eff AN M w0) w0 K (all.drop (i + 1)) (i + 1) kn2 (updO n (envS all n e0 vals' (fun m => m < i)) o.dst v) w1 → CInv P ok n all eff AN e0 w0 M K (fun m => listed.getD m false = true ∨ m = i) (a.put o.dst v) w1 := by
        intro v w1 kn2 h1 h2 h3 h4
        have hput : updO n (envS all n e0 vals' (fun m => m < i)) o.dst v = envS all n e0 (fun q => if q = i then v else vals' q) (fun m => m < i + 1) :=
          envS_put hG hio (fun m => by omega) (fun m _ hmi => by simp [hmi]) (by simp) (by omega)
        rw [hput] at h2 h4
        refine ⟨⟨i + 1, fun q => if q = i then v else vals' q, kn2, put _ v (fun m hm => ?_) (by simp), by omega, h1, h2, ?_, ?_, h4⟩, h3, hcl'⟩
        · have : m ≠ i := by rintro rfl; exact hni hm
          simp [this, r1 m (.inr hm)]
        · intro m o' hm hmL hne
          have hml : m < all.length := (List.getElem?_eq_some_iff.1 hm).1
          have hmi : m ≠ i := by rintro rfl; exact hne hie
          have hmL' : m < i ∨ listed.getD m false = true := by
            rcases hmL with h | h | h
            · exact .inl (by omega)
            · exact .inr h
            · exact (hmi h).elim
          refine Gd.of_agree hG hml (fun j hj => ?_) (by simp [hmi]) (r4 m o' hm hmL' hne)
          have : j ≠ i := by
            rintro rfl
            rcases hmL' with h | h
            · have := hG.lt hml hj; omega
            · exact hni (hI.closed m hml h j hj)
          simp [this]
        · intro j hje
          rw [hj j hje]
          constructor
          · rintro (h | rfl) <;> omega
          · intro h
            by_cases hji : j = i
            · exact .inr hji
            · exact .inl ((hj j hje).1 (hanc j (hchain j hje i hie (by omega))))
      have lift1 : Mod (fun b => ∃ j ∈ eff, (listed.getD j false = true ∨ j = i) ∧ M j b) w0 w' := hI.mod.mono fun b _ ⟨j, hj, hL, hb⟩ => ⟨j, hj, .inl hL, hb⟩
      by_cases hwv : wantedV all (view all AN n e0 vals i) o
      · rw [if_pos (hwant.2 hwv)]
        left
        rcases h6 with ⟨_, hx⟩ | ⟨hnw, _⟩
        · unfold cexec at hx
          rw [memB_iff.2 hie] at hx; simp only [cond_true] at hx
          have hnx := opD_nx hok (fun _ => rfl) (fun _ => rfl) hx
          unfold Oper.wp
          rw [hev, execOp_slots (e' := envS all n e0 vals' (fun m => m < i)) (hG.nosel i o hio) (fun t ht => by rw [see t (mem_slots ht), see2 t (mem_slots ht)])]
          exact upon_of hnx fun v w1 hv => go v w1 (newInv v w1 kn1 (fun q hq => by have := hkn1 q hq; omega) (hk1.put hclash _) ((lift1.trans (hv.1.mono fun b _ hb => ⟨i, hie, .inr rfl, hb⟩))) hv.2)
        · exact (hnw (wiff.2 hwv)).elim
      · rw [if_neg (fun h => hwv (hwant.1 h))]
        rcases h6 with ⟨hw, _⟩ | ⟨_, hx⟩
        · exact (hwv (wiff.1 hw)).elim
        · exact go undef w' (newInv undef w' ((i, none) :: kn1) (fun q hq => by
            rcases List.mem_cons.1 hq with rfl | hq
            · simp
            · have := hkn1 q hq; omega) ((hk1.put hclash _).cons (knUnd hG hio)) lift1 hx)
    · -- an operation that looks at most at memory that stays
      have key : ∃ v : Value, (i < p → v = vals i) ∧ (wantedV all (view all AN n e0 vals i) o → RunsV P (effI eff AN i) M w0 o (view all AN n e0 vals i) v) ∧ (¬ wantedV all (view all AN n e0 vals i) o → v = undef) := by
        rcases Nat.lt_or_ge i p with hip | hpi
        · exact ⟨vals i, fun _ => rfl, hg i o hio (.inl hip) hie⟩
        · obtain ⟨vals', kn', w', r1, r2, r3, r4, r5, r6⟩ := chain_walk (L := fun m => listed.getD m false = true) hok hG hI.closed (i + 1 - p) p kn vals w hkn hk hg (by omega) (fun j hje hpj hjl hLj => by have := (hj j hje).1 hLj; omega) hcd
          have hv := viewv vals' fun m hm => r1 m (.inr hm)
          have := r4 i o hio (.inl (by omega)) hie
          unfold Gd at this
          rw [hv] at this
          exact ⟨vals' i, fun h => by omega, this⟩
      obtain ⟨v, hvp, hvg⟩ := key
      have inv : CInv P ok n all eff AN e0 w0 M K (fun m => listed.getD m false = true ∨ m = i) (a.put o.dst v) w := by
        have hagree : ∀ m, (m < p ∨ listed.getD m false = true) → (if m = i then v else vals m) = vals m := by
          intro m hm
          by_cases hmi : m = i
          · subst hmi
            rcases hm with h | h
            · simp [hvp h]
            · exact (hni h).elim
          · simp [hmi]
        have henv : envS all n e0 (fun m => if m = i then v else vals m) (fun m => m < p) = envS all n e0 vals (fun m => m < p) := by
          funext t
          exact envS_same hG fun m _ _ => ⟨Iff.rfl, fun h => hagree m (.inl h)⟩
        refine ⟨⟨p, fun m => if m = i then v else vals m, kn, put _ v (fun m hm => hagree m (.inr hm)) (by simp), hpl, hkn, by rw [henv]; exact hk, ?_, ?_, by rw [henv]; exact hcd⟩, hI.mod.mono fun b _ ⟨j, hj, hL, hb⟩ => ⟨j, hj, .inl hL, hb⟩, hcl'⟩
        · intro m o' hm hmL hne
          have hml : m < all.length := (List.getElem?_eq_some_iff.1 hm).1
          by_cases hmi : m = i
          · subst hmi
            rw [hio] at hm; cases hm
            unfold Gd
            rw [view_congr hG (vals' := vals) fun j hj => by have := hG.lt hil hj; simp [show j ≠ m by omega]]
            simp only [if_true]
            exact hvg
          · have hmL' : m < p ∨ listed.getD m false = true := by
              rcases hmL with h | h | h
              · exact .inl h
              · exact .inr h
              · exact (hmi h).elim
            refine Gd.of_agree hG hml (fun j hj => ?_) (by simp [hmi]) (hg m o' hm hmL' hne)
            have hjL : j < p ∨ listed.getD j false = true := by
              rcases hmL' with h | h
              · exact .inl (by have := hG.lt hml hj; omega)
              · exact .inr (hI.closed m hml h j hj)
            exact (hagree j hjL).symm
        · intro j hje
          have hji : j ≠ i := by rintro rfl; exact hie hje
          rw [← hj j hje]
          simp [hji]
      have hgo := go v w inv
      by_cases hwv : wantedV all (view all AN n e0 vals i) o
      · rw [if_pos (hwant.2 hwv)]
        left
        unfold Oper.wp
        rw [hev, execOp_slots (e' := view all AN n e0 vals i) (hG.nosel i o hio) (fun t ht => see t (mem_slots ht)), hvg.1 hwv w (hI.mod.mono fun b _ ⟨j, hj, hL, hb⟩ => ⟨j, effI_mem hj fun hji => hni (hI.closed j (hG.effin j hj) hL i hji), hb⟩)]
        exact hgo
      · rw [if_neg (fun h => hwv (hwant.1 h))]
        have := hvg.2 hwv
        rw [this] at hgo
        exact hgo

theorem wp_region_C {id : Nat} {ops : Array Oper} {w : World} {a : Act} (hok : GoodFns P ok) (hm : P.follows .mixedOrders = true) (hf : Fr [] n e0 a)
    (hG : gokB n ops.toList eff AN Gs = true) (hch : chainB eff AN = true)
    (h : DrawC eff AN w.drew fun M St => chainD P ok n ops.toList eff M St w.drew K ops.toList 0 [] e0 w.drew) :
    (Code.region id ops true).wp P (drawPost ops.toList n e0 K) a w := by
  obtain ⟨M, h⟩ := h
  have hgo := gokB_ok hG
  refine wp_region_any hm (chain_main (M := M) (w0 := w.drew) hok hgo hch rfl ops.size (Array.replicate ops.size false) a _ (by simp) ?_ ?_)
  · simp
  · have hn : ∀ m : Nat, ¬ (Array.replicate ops.size false).getD m false = true := fun m => by
      simp only [Array.getD_eq_getD_getElem?, Array.getElem?_replicate]
      split <;> simp
    have hempty : ∀ S : Nat → Prop, (∀ m, ¬ S m) → envS ops.toList n e0 (fun _ => undef) S = e0 := fun S hS => by
      funext t; exact envS_else fun m hm _ => (hS m hm).elim
    refine ⟨⟨0, fun _ => undef, [], ?_, Nat.zero_le _, fun q hq => (nomatch hq), fun j b hb => by simp [lookK] at hb, fun m o _ hmL _ => ?_, fun j _ => ?_, ?_⟩, Mod.refl _ _, fun i _ hi => (hn i hi).elim⟩
    · rw [hempty _ fun m hm => hn m hm.1]; exact hf
    · rcases hmL with h | h
      · omega
      · exact (hn m h).elim
    · exact ⟨fun h => (hn j h).elim, fun h => by omega⟩
    · rw [hempty _ fun m hm => by omega]
      exact h
end
end Go.K
