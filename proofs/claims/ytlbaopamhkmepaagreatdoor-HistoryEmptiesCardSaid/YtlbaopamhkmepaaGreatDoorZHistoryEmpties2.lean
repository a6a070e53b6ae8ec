/- Functions with ranges over iterators anywhere: in loops, one behind the other. No conditions. By a program of ours: of each function below the predicate that its code comes to, and that it is sound. No conditions. Contracts: comparing and copying sets of attributes. No conditions but that the slices read as such. Contracts: adding to blocks. Conditions: the blocks lie in memory of the call's own. Contracts: joining blocks, and the blocks of cells. No conditions but the sizes. Contracts: the document's comparing, and whether blocks are proper. No conditions. Contracts: the iterator over blocks, and how long blocks are. No conditions. Ranges over iterators in use: rounds, marks, a range of no rounds. No conditions. Contracts: how long blocks are, what stands at a place. No conditions. Contracts: what stands at a place. Conditions: the sets' sizes. Contracts: cutting blocks. Conditions: the sizes. Contracts: the document's blocks. Conditions: the sizes. Contracts: what is known, and what is looked at. No conditions. Plain laws of blocks: joining, the blocks of cells. No program in sight. The law BlocksJoin: it answers true, and leaves all memory as it was. No conditions. Plain laws of blocks: the places that blocks tell. No program in sight. What is tame; the law BlocksPlaces: it answers true, and leaves all memory as it was. No conditions. The law BlocksCuts: it answers true, and leaves all memory as it was. No conditions. Contracts: the document's copy and cut. Conditions: the sizes. Writing over what was told: cells that may be written, and the loops that write them. No conditions. The program's data as Lean data: runes, changes, ops. What the model's comparing says of them. No conditions. -/
import Derived.Test.YtlbaopamhkmepaaGreatDoorZHistoryEmpties1
namespace Go.K
open Go

def marksD (ms : List Nat) : List Deferred := ms.map fun m => { target := .collected m, args := #[] }
def hasRFa : Code → Bool
  | .rangeFunc .. => true
  | .seq a b => hasRFa a || hasRFa b
  | .cond _ a b => hasRFa a || hasRFa b
  | .block _ a => hasRFa a
  | .loop a => hasRFa a
  | .scope a => hasRFa a
  | _ => false
def wrN (W : List (Nat × Nat)) : Code → Bool
  | .region _ ops _ => ops.toList.all fun o => match o.dst with | some d => inR W d | none => true
  | .seq a b => wrN W a && wrN W b
  | .cond _ a b => wrN W a && wrN W b
  | .block _ a => wrN W a
  | .loop a => wrN W a
  | .scope a => wrN W a
  | _ => true
def WrN : Code → Nat → Prop
  | .region _ ops _, j => ∃ o ∈ ops.toList, o.dst = some j
  | .seq a b, j => WrN a j ∨ WrN b j
  | .cond _ a b, j => WrN a j ∨ WrN b j
  | .block _ a, j => WrN a j
  | .loop a, j => WrN a j
  | .scope a, j => WrN a j
  | _, _ => False
theorem wrN_spec {W : List (Nat × Nat)} : ∀ {c : Code}, wrN W c = true → ∀ j, WrN c j → inR W j = true
  | .region _ ops _, h, j, ⟨o, ho, hd⟩ => by
    simp only [wrN, List.all_eq_true] at h
    have := h o ho; rw [hd] at this; exact this
  | .seq a b, h, j, hj => by
    simp only [wrN, Bool.and_eq_true] at h
    exact hj.elim (wrN_spec h.1 j) (wrN_spec h.2 j)
  | .cond _ a b, h, j, hj => by
    simp only [wrN, Bool.and_eq_true] at h
    exact hj.elim (wrN_spec h.1 j) (wrN_spec h.2 j)
  | .block _ a, h, j, hj => wrN_spec (c := a) h j hj
  | .loop a, h, j, hj => wrN_spec (c := a) h j hj
  | .scope a, h, j, hj => wrN_spec (c := a) h j hj
  | .rangeFunc .., _, _, hj => hj.elim
  | .skip, _, _, hj => hj.elim
  | .exit _, _, _, hj => hj.elim
  | .ret, _, _, hj => hj.elim
  | .label _, _, _, hj => hj.elim
  | .goto _, _, _, hj => hj.elim
  | .refuse _, _, _, hj => hj.elim
theorem wr_wrN : ∀ {c : Code}, hasRFa c = false → ∀ j, Wr c j → WrN c j
  | .region _ ops _, _, _, h => h
  | .seq a b, h, j, hj => by
    simp only [hasRFa, Bool.or_eq_false_iff] at h
    exact hj.imp (wr_wrN h.1 j) (wr_wrN h.2 j)
  | .cond _ a b, h, j, hj => by
    simp only [hasRFa, Bool.or_eq_false_iff] at h
    exact hj.imp (wr_wrN h.1 j) (wr_wrN h.2 j)
  | .block _ a, h, j, hj => wr_wrN (c := a) h j hj
  | .loop a, h, j, hj => wr_wrN (c := a) h j hj
  | .scope a, h, j, hj => wr_wrN (c := a) h j hj
  | .rangeFunc .., h, _, _ => by simp [hasRFa] at h
  | .skip, _, _, hj => hj.elim
  | .exit _, _, _, hj => hj.elim
  | .ret, _, _, hj => hj.elim
  | .label _, _, _, hj => hj.elim
  | .goto _, _, _, hj => hj.elim
  | .refuse _, _, _, hj => hj.elim
/-- a loop in whose rounds marks may be set -/
def LoopN (init : List Value) (ms : List Nat) (F : List Value → List Nat → (List Value → List Nat → World → Prop) → World → Prop) (w : World) : Prop :=
  ∃ (I : List Value → List Nat → World → Prop) (μ : List Value → World → Nat), I init ms w ∧ ∀ vs ms w, I vs ms w → F vs ms (fun vs' ms' w' => I vs' ms' w' ∧ μ vs' w' < μ vs w) w
section
variable (P : Program) (ok : Nat → Bool) (n : Nat)
/-- as D, of code with ranges over iterators; ms: the marks that they have set -/
def DN : Code → Ann → (List Nat → EQ) → List Nat → Env → World → Prop
  | .seq x y, an, Q, ms, e, w => bif hasRFa x || hasRFa y then (match an with
      | .node _ _ a b => DN x a (fun ms' => nEx (fun e' w' => DN y b Q ms' e' w') (Q ms')) ms e w
      | .cut L W a b => bif wrIn W x && !hasRFa x then JoinK (fun vs w' => ∀ h : Env, DN y b Q ms (mix L W vs h e) w') (fun J => D P ok n x a (nEx (fun e' w' => J (L.map e') w') (Q ms)) e w) else False
      | _ => False) else D P ok n (.seq x y) an (Q ms) e w
  | .cond c x y, an, Q, ms, e, w => bif hasRFa x || hasRFa y then (match an with
      | .node _ _ a b => condK (ev e c) (DN x a Q ms e w) (DN y b Q ms e w)
      | _ => False) else D P ok n (.cond c x y) an (Q ms) e w
  | .block id x, an, Q, ms, e, w => bif hasRFa x then DN x an (fun ms' => bEx id (Q ms')) ms e w else D P ok n (.block id x) an (Q ms) e w
  | .loop x, an, Q, ms, e, w => bif hasRFa x then (match an with
      | .node L W a _ => bif wrN W x then LoopN (L.map e) ms (fun vs ms' again w' => ∀ h : Env, DN x a (fun ms'' => nEx (fun e' w'' => again (L.map e') ms'' w'') (Q ms'')) ms' (mix L W vs h e) w') w else False
      | _ => False) else D P ok n (.loop x) an (Q ms) e w
  | .rangeFunc g ps x y, an, Q, ms, e, w => match an with
    | .node L _ ax ay => bif rdB x && rdB y then RangeK P ok (ev e g) ps.size (fun args beg W => D P ok n x ax (nEx (fun e' W1 => beg (fun post W2 => D P ok n y ay (fun ex _ W3 => post ex W3) e' W2) W1) (fun _ _ _ => False)) (updL n e ps.toList args) W) (nOf (fun W => Q (w.heap.size :: ms) .normal e W) (fun W => Q (w.heap.size :: ms) .ret e W) (L.map fun i => (i, fun W => Q (w.heap.size :: ms) (.exit i) e W))) w else False
    | _ => False
  | .scope x, an, Q, ms, e, w => bif hasRFa x then False else D P ok n (.scope x) an (Q ms) e w
  | c, an, Q, ms, e, w => D P ok n c an (Q ms) e w
end
variable {P : Program} {ok : Nat → Bool} {n : Nat}
def liftN (n : Nat) (c : Code) (e : Env) (Q : List Nat → EQ) : Exit → Act → World → Prop := fun ex a w => ∃ ms e', Fr (marksD ms) n e' a ∧ (∀ j, ¬ WrN c j → e' j = e j) ∧ Q ms ex e' w
theorem DN_base (hok : GoodFns P ok) (hm : P.follows .mixedOrders = true) {c : Code} (hr : hasRFa c = false) {an : Ann} {Q : List Nat → EQ} {ms : List Nat} {e : Env} {w : World} {a : Act} (hf : Fr (marksD ms) n e a) (h : D P ok n c an (Q ms) e w) : c.wpIn (Wd none) 0 P (liftN n c e Q) a w := by
  refine wpIn_mono (D_sound (ro := none) (m := 0) hok hm c an _ e w a (.inl rfl) hf h) ?_
  rintro ex a' w' ⟨e', h1, h2, h3⟩
  exact ⟨ms, e', h1, fun j hj => h2 j fun hw => hj (wr_wrN hr j hw), h3⟩
theorem DN_sound (hok : GoodFns P ok) (hm : P.follows .mixedOrders = true) : ∀ (c : Code) (an : Ann) (Q : List Nat → EQ) (ms : List Nat) (e : Env) (w : World) (a : Act), Fr (marksD ms) n e a → DN P ok n c an Q ms e w → c.wpIn (Wd none) 0 P (liftN n c e Q) a w := by
  intro c
  induction c with
  | seq x y ihx ihy =>
    intro an Q ms e w a hf h
    simp only [DN] at h
    cases hr : (hasRFa x || hasRFa y) with
    | false =>
      rw [hr] at h
      exact DN_base hok hm (by simpa [hasRFa] using hr) hf h
    | true =>
      rw [hr] at h
      simp only [cond_true] at h
      cases an with
      | node L W a1 a2 =>
        refine wpIn_seq (wpIn_mono (ihx a1 _ ms e w a hf h) ?_)
        rintro ex a' w' ⟨ms', e', h1, h2, h3⟩
        cases ex with
        | normal =>
          refine wpIn_mono (ihy a2 Q ms' e' w' a' h1 h3) ?_
          rintro ex a'' w'' ⟨ms'', e'', h4, h5, h6⟩
          exact ⟨ms'', e'', h4, fun j hj => (h5 j fun hw => hj (.inr hw)).trans (h2 j fun hw => hj (.inl hw)), h6⟩
        | _ => exact ⟨ms', e', h1, fun j hj => h2 j fun hw => hj (.inl hw), h3⟩
      | cut L W a1 a2 =>
        cases hw : (wrIn W x && !hasRFa x) with
        | false => simp only [hw, cond_false] at h
        | true =>
          simp only [hw, cond_true] at h
          simp only [Bool.and_eq_true, Bool.not_eq_true'] at hw
          obtain ⟨I, hI, hG⟩ := h
          refine wpIn_seq (wpIn_mono (D_sound (ro := none) (m := 0) hok hm x a1 _ e w a (.inl rfl) hf hG) ?_)
          rintro ex a' w' ⟨e', h1, h2, h3⟩
          have h2' : ∀ j, ¬ WrN x j → e' j = e j := fun j hj => h2 j fun hw' => hj (wr_wrN hw.2 j hw')
          cases ex with
          | normal =>
            have h4 := hI _ _ h3 e'
            rw [mix_self (fun j hj => h2 j fun hw' => by rw [wrIn_spec hw.1 j hw'] at hj; cases hj)] at h4
            refine wpIn_mono (ihy a2 Q ms e' w' a' h1 h4) ?_
            rintro ex a'' w'' ⟨ms'', e'', h5, h6, h7⟩
            exact ⟨ms'', e'', h5, fun j hj => (h6 j fun hw => hj (.inr hw)).trans (h2' j fun hw => hj (.inl hw)), h7⟩
          | _ => exact ⟨ms, e', h1, fun j hj => h2' j fun hw => hj (.inl hw), h3⟩
      | _ => exact h.elim
  | cond c x y ihx ihy =>
    intro an Q ms e w a hf h
    simp only [DN] at h
    cases hr : (hasRFa x || hasRFa y) with
    | false =>
      rw [hr] at h
      exact DN_base hok hm (by simpa [hasRFa] using hr) hf h
    | true =>
      rw [hr] at h
      simp only [cond_true] at h
      cases an with
      | node L W a1 a2 =>
        have hev : a.eval c = ev e c := by rw [hf.eval]
        cases hv : ev e c with
        | bool b =>
          simp only [hv] at h
          cases b with
          | true =>
            refine wpIn_cond_true (hev.trans hv) (wpIn_mono (ihx a1 Q ms e w a hf h) ?_)
            rintro ex a' w' ⟨ms', e', h1, h2, h3⟩
            exact ⟨ms', e', h1, fun j hj => h2 j fun hw => hj (.inl hw), h3⟩
          | false =>
            refine wpIn_cond_false (hev.trans hv) (wpIn_mono (ihy a2 Q ms e w a hf h) ?_)
            rintro ex a' w' ⟨ms', e', h1, h2, h3⟩
            exact ⟨ms', e', h1, fun j hj => h2 j fun hw => hj (.inr hw), h3⟩
        | _ => simp only [hv] at h; exact h.elim
      | _ => exact h.elim
  | block id x ih =>
    intro an Q ms e w a hf h
    simp only [DN] at h
    cases hr : hasRFa x with
    | false => rw [hr] at h; exact DN_base hok hm (by simpa [hasRFa] using hr) hf h
    | true =>
      rw [hr] at h
      simp only [cond_true] at h
      refine wpIn_block (wpIn_mono (ih an _ ms e w a hf h) ?_)
      rintro ex a' w' ⟨ms', e', h1, h2, h3⟩
      cases ex with
      | exit i =>
        simp only [bEx] at h3
        simp only [Exit.inBlock]
        cases hb : Nat.beq i id with
        | true => rw [hb] at h3; rw [if_pos (Nat.eq_of_beq_eq_true hb)]; exact ⟨ms', e', h1, h2, h3⟩
        | false =>
          rw [hb] at h3
          rw [if_neg (by intro e1; subst e1; simp at hb)]
          exact ⟨ms', e', h1, h2, h3⟩
      | _ => exact ⟨ms', e', h1, h2, h3⟩
  | loop x ih =>
    intro an Q ms e w a hf h
    simp only [DN] at h
    cases hr : hasRFa x with
    | false => rw [hr] at h; exact DN_base hok hm (by simpa [hasRFa] using hr) hf h
    | true =>
      rw [hr] at h
      simp only [cond_true] at h
      cases an with
      | node L W a1 a2 =>
        cases hw : wrN W x with
        | false => simp only [hw, cond_false] at h
        | true =>
          simp only [hw, cond_true] at h
          obtain ⟨I, μ, h0, hR⟩ := h
          refine wpIn_loop (fun a' w' => ∃ ms' e', Fr (marksD ms') n e' a' ∧ (∀ j, ¬ WrN x j → e' j = e j) ∧ I (L.map e') ms' w') (fun a' w' => μ (L.map fun t => a'.tmps.getD t undef) w') ⟨ms, e, hf, fun _ _ => rfl, h0⟩ ?_
          rintro a1' w1 ⟨ms1, e1, hf1, hk1, hI1⟩
          have h4 := hR _ _ _ hI1 e1
          rw [mix_self (fun j hj => hk1 j fun hw' => by rw [wrN_spec hw j hw'] at hj; cases hj)] at h4
          refine wpIn_mono (ih a1 _ ms1 e1 w1 a1' hf1 h4) ?_
          rintro ex a2 w2 ⟨ms2, e2, h5, h6, h7⟩
          have h8 : ∀ j, ¬ WrN x j → e2 j = e j := fun j hj => (h6 j hj).trans (hk1 j hj)
          cases ex with
          | normal =>
            refine ⟨⟨ms2, e2, h5, h8, h7.1⟩, ?_⟩
            rw [map_tmps h5, map_tmps hf1]
            exact h7.2
          | _ => exact ⟨ms2, e2, h5, h8, h7⟩
      | _ => exact h.elim
  | rangeFunc g ps x y _ _ =>
    intro an Q ms e w a hf h
    cases an with
    | node L W a1 a2 =>
      simp only [DN] at h
      cases hb : (rdB x && rdB y) with
      | false => simp only [hb, cond_false] at h
      | true =>
        simp only [hb, cond_true] at h
        simp only [Bool.and_eq_true] at hb
        refine wpIn_mono (rangeK_sound hok hm hf hb.1 hb.2 h) ?_
        rintro ex a' w' ⟨h1, h2⟩
        refine ⟨w.heap.size :: ms, e, h1, fun _ _ => rfl, ?_⟩
        cases ex with
        | normal => exact h2
        | ret => exact h2
        | exit i => exact lookN_map (Q := fun i W => Q (w.heap.size :: ms) (.exit i) e W) h2
        | _ => exact h2.elim
    | _ => exact h.elim
  | scope x ih =>
    intro an Q ms e w a hf h
    simp only [DN] at h
    cases hr : hasRFa x with
    | false => rw [hr] at h; exact DN_base hok hm (by simpa [hasRFa] using hr) hf h
    | true => rw [hr] at h; exact h.elim
  | _ => intro an Q ms e w a hf h; exact DN_base hok hm rfl hf h
/-- on the way out the loops' marks are taken -/
def marksK : List Nat → (World → Prop) → World → Prop
  | [], K, w => K w
  | m :: ms, K, w => w.heap[m]? = some (.deferred (some [])) ∧ marksK ms K (w.putObj m (.deferred none))
def retNK (P : Program) (rs : List ResultVar) (K : Cont) (ms : List Nat) : EQ := fun ex e w => match ex with
  | .normal => marksK ms (fun w => resD P rs e w fun vs => K (tupK vs) w) w
  | .ret => marksK ms (fun w => resD P rs e w fun vs => K (tupK vs) w) w
  | _ => False
theorem callK_ofN {g : Nat} {fn : Func} {c : Code} {rs : List ResultVar} {args : List Value} {K : Cont} {w : World} {an : Ann} (hok : GoodFns P ok) (hm : P.follows .mixedOrders = true) (hf : P.funcs[g]? = some fn)
    (hb : fn.body = some c) (hn : fn.ntmps = n) (hrs : fn.results.toList = rs) (hl : Nat.ble args.length n = true) (h : DN P ok n c an (retNK P rs K) [] (nth args) w) : callK P g args K w := by
  refine callsIn_wide.1 (callsIn_of_wp_marks (F := Fence.wide) (n := 0) hf hb trivial ?_)
  have hl' := Nat.le_of_ble_eq_true hl
  subst hn hrs
  refine wpIn_mono (DN_sound hok hm c an _ [] _ w _ (fr_args hl') h) ?_
  rintro ex a' w' ⟨ms, e, h1, _, h2⟩
  have key : ∀ (ms0 : List Nat) (w0 : World), marksK ms0 (fun w => resD P fn.results.toList e w fun vs => K (tupK vs) w) w0 → LeavesInM Fence.wide 0 P fn a'.tmps (fun e w' => ∃ v, e = .returned v ∧ K v w') (marksD ms0) .returning w0 := by
    intro ms0
    induction ms0 with
    | nil =>
      intro w0 h
      obtain ⟨v, h4, h5⟩ := results_run h1 h
      exact ⟨v, h4, v, rfl, h5⟩
    | cons m ms0 ih =>
      rintro w0 ⟨h3, h4⟩
      exact ⟨by simp, .inl ⟨_, _, rfl, run_takeDeferred h3, ih _ h4⟩⟩
  cases ex with
  | normal =>
    show LeavesInM _ _ _ _ _ _ _ _ _
    rw [h1.defers]; exact key ms w' h2
  | ret =>
    show LeavesInM _ _ _ _ _ _ _ _ _
    rw [h1.defers]; exact key ms w' h2
  | _ => exact h2.elim
end Go.K

namespace Go.Proofs.YtlbaopamhkmepaaGreatDoor
open Go Go.K
/-- rubric/rubricref05.Same -/
def S54 (v0 v1 : Value) (K : Cont) (w : World) : Prop :=
  lenK v0 fun t7 =>
  lenK v1 fun t9 =>
  neK .i64 t7 t9 fun t10 =>
  condK t10
  (K (.bool false) w)
  (LoopK [(.int .i64 0)] (fun vs again w1 => ∀ _h : Env,
  lenK v0 fun t13 =>
  ltK .i64 (nth vs 0) t13 fun t14 =>
  condK t14
  (DrawK w1 (fun C =>
  ixK 5 v0 (nth vs 0) fun t19 =>
  qldnK C 5 t19 fun t20 =>
  ixK 5 v1 (nth vs 0) fun t23 =>
  qldnK C 5 t23 fun t24 =>
  qrunK Tryz.prog C (binS .neq 109 (.tmp 20) (.tmp 24) t20 t24) fun t25 =>
  ∀ w2 : World, C w2 →
  condK t25
  (K (.bool false) w2)
  (addK .i64 (nth vs 0) (.int .i64 1) fun t16 =>
  again [t16] w2)))
  (K (.bool true) w1)) w)
theorem S54_eq (v0 v1 : Value) (K : Cont) (w : World) : S54 v0 v1 K w = D Tryz.prog okf 26 (bodyOf Tryz.f54) (.node [] [] .nil (.node [] [] (.node [] [] .nil (.node [] [] (.node [] [] .nil .nil) .nil)) (.node [] [] (.node [] [] .nil (.node [5] [(4, 5), (11, 25)] (.node [] [] (.node [] [] .nil (.node [] [] .nil .nil)) (.node [] [] (.node [] [] .draw (.node [] [] (.node [] [] .nil .nil) .nil)) .nil)) .nil)) (.node [] [] .nil .nil)))) (retK Tryz.prog [.tmp 4] K) (nth [v0, v1]) w := by kernel_rfl
theorem S54_ok {v0 v1 : Value} {K : Cont} {w : World} (h : S54 v0 v1 K w) : callK Tryz.prog 54 [v0, v1] K w :=
  callK_of (P := Tryz.prog) (ok := okf) (n := 26) (fn := Tryz.f54) (c := bodyOf Tryz.f54) (rs := [.tmp 4]) (an := (.node [] [] .nil (.node [] [] (.node [] [] .nil (.node [] [] (.node [] [] .nil .nil) .nil)) (.node [] [] (.node [] [] .nil (.node [5] [(4, 5), (11, 25)] (.node [] [] (.node [] [] .nil (.node [] [] .nil .nil)) (.node [] [] (.node [] [] .draw (.node [] [] (.node [] [] .nil .nil) .nil)) .nil)) .nil)) (.node [] [] .nil .nil))))) good mixed Tryz.func54 (by kernel_rfl) (by kernel_rfl) (by kernel_rfl) (by kernel_rfl) (Eq.mp (S54_eq v0 v1 K w) h)

/-- slices.Clone[[]rubric/api.Attr,rubric/api.Attr] -/
def S139 (v0 : Value) (K : Cont) (w : World) : Prop :=
  snilK v0 fun b4 =>
  condK (.bool b4)
  (K (.slice none 0 0) w)
  (rowK 109 5 0 [] [] (fun t5 w1 =>
  runK Tryz.prog (Builtin.append_ #[36, 36] 36 [t5, v0].toArray) (fun t7 w2 =>
  K t7 w2) w1) w)
theorem S139_eq (v0 : Value) (K : Cont) (w : World) : S139 v0 K w = D Tryz.prog okf 8 (bodyOf Tryz.f139) (.node [] [] .nil (.node [] [] (.node [] [] .nil (.node [] [] (.node [] [] .nil .nil) .nil)) (.node [] [] .nil .nil))) (retK Tryz.prog [.tmp 2] K) (nth [v0]) w := by kernel_rfl
theorem S139_ok {v0 : Value} {K : Cont} {w : World} (h : S139 v0 K w) : callK Tryz.prog 139 [v0] K w :=
  callK_of (P := Tryz.prog) (ok := okf) (n := 8) (fn := Tryz.f139) (c := bodyOf Tryz.f139) (rs := [.tmp 2]) (an := (.node [] [] .nil (.node [] [] (.node [] [] .nil (.node [] [] (.node [] [] .nil .nil) .nil)) (.node [] [] .nil .nil)))) good mixed Tryz.func139 (by kernel_rfl) (by kernel_rfl) (by kernel_rfl) (by kernel_rfl) (Eq.mp (S139_eq v0 K w) h)

/-- rubric/attrs.Same -/
def S125 (v0 v1 : Value) (K : Cont) (w : World) : Prop :=
  callK Tryz.prog 176 [v0, v1] (fun t7 w1 =>
  K t7 w1) w
theorem S125_eq (v0 v1 : Value) (K : Cont) (w : World) : S125 v0 v1 K w = D Tryz.prog okf 8 (bodyOf Tryz.f125) (.node [] [] .nil (.node [] [] .nil .nil)) (retK Tryz.prog [.tmp 4] K) (nth [v0, v1]) w := by kernel_rfl
theorem S125_ok {v0 v1 : Value} {K : Cont} {w : World} (h : S125 v0 v1 K w) : callK Tryz.prog 125 [v0, v1] K w :=
  callK_of (P := Tryz.prog) (ok := okf) (n := 8) (fn := Tryz.f125) (c := bodyOf Tryz.f125) (rs := [.tmp 4]) (an := (.node [] [] .nil (.node [] [] .nil .nil))) good mixed Tryz.func125 (by kernel_rfl) (by kernel_rfl) (by kernel_rfl) (by kernel_rfl) (Eq.mp (S125_eq v0 v1 K w) h)

/-- rubric/attrs.Copy -/
def S85 (v0 : Value) (K : Cont) (w : World) : Prop :=
  callK Tryz.prog 139 [v0] (fun t4 w1 =>
  K t4 w1) w
theorem S85_eq (v0 : Value) (K : Cont) (w : World) : S85 v0 K w = D Tryz.prog okf 5 (bodyOf Tryz.f85) (.node [] [] .nil (.node [] [] .nil .nil)) (retK Tryz.prog [.tmp 2] K) (nth [v0]) w := by kernel_rfl
theorem S85_ok {v0 : Value} {K : Cont} {w : World} (h : S85 v0 K w) : callK Tryz.prog 85 [v0] K w :=
  callK_of (P := Tryz.prog) (ok := okf) (n := 5) (fn := Tryz.f85) (c := bodyOf Tryz.f85) (rs := [.tmp 2]) (an := (.node [] [] .nil (.node [] [] .nil .nil))) good mixed Tryz.func85 (by kernel_rfl) (by kernel_rfl) (by kernel_rfl) (by kernel_rfl) (Eq.mp (S85_eq v0 K w) h)

/-- slices.Equal[[]rubric/api.Attr,rubric/api.Attr] -/
def S176 (v0 v1 : Value) (K : Cont) (w : World) : Prop :=
  lenK v0 fun t7 =>
  lenK v1 fun t9 =>
  neK .i64 t7 t9 fun t10 =>
  condK t10
  (K (.bool false) w)
  (lenK v0 fun t12 =>
  LoopK [(.int .i64 0)] (fun vs again w1 => ∀ _h : Env,
  ltK .i64 (nth vs 0) t12 fun t14 =>
  condK t14
  (DrawK w1 (fun C =>
  ixK 5 v0 (nth vs 0) fun t18 =>
  qldnK C 5 t18 fun t19 =>
  ixK 5 v1 (nth vs 0) fun t22 =>
  qldnK C 5 t22 fun t23 =>
  qrunK Tryz.prog C (binS .neq 109 (.tmp 19) (.tmp 23) t19 t23) fun t24 =>
  ∀ w2 : World, C w2 →
  condK t24
  (K (.bool false) w2)
  (addK .i64 (nth vs 0) (.int .i64 1) fun t25 =>
  again [t25] w2)))
  (K (.bool true) w1)) w)
theorem S176_eq (v0 v1 : Value) (K : Cont) (w : World) : S176 v0 v1 K w = D Tryz.prog okf 26 (bodyOf Tryz.f176) (.node [] [] .nil (.node [] [] (.node [] [] .nil (.node [] [] (.node [] [] .nil .nil) .nil)) (.node [] [] (.node [] [] .nil (.node [13] [(4, 5), (13, 25)] (.node [] [] .nil (.node [] [] (.node [] [] .nil .nil) (.node [] [] (.node [] [] .nil (.node [] [] .draw (.node [] [] (.node [] [] .nil .nil) .nil))) .nil))) .nil)) (.node [] [] .nil .nil)))) (retK Tryz.prog [.tmp 4] K) (nth [v0, v1]) w := by kernel_rfl
theorem S176_ok {v0 v1 : Value} {K : Cont} {w : World} (h : S176 v0 v1 K w) : callK Tryz.prog 176 [v0, v1] K w :=
  callK_of (P := Tryz.prog) (ok := okf) (n := 26) (fn := Tryz.f176) (c := bodyOf Tryz.f176) (rs := [.tmp 4]) (an := (.node [] [] .nil (.node [] [] (.node [] [] .nil (.node [] [] (.node [] [] .nil .nil) .nil)) (.node [] [] (.node [] [] .nil (.node [13] [(4, 5), (13, 25)] (.node [] [] .nil (.node [] [] (.node [] [] .nil .nil) (.node [] [] (.node [] [] .nil (.node [] [] .draw (.node [] [] (.node [] [] .nil .nil) .nil))) .nil))) .nil)) (.node [] [] .nil .nil))))) good mixed Tryz.func176 (by kernel_rfl) (by kernel_rfl) (by kernel_rfl) (by kernel_rfl) (Eq.mp (S176_eq v0 v1 K w) h)

end Go.Proofs.YtlbaopamhkmepaaGreatDoor

namespace Go.Proofs.YtlbaopamhkmepaaGreatDoor
open Go Go.K

/-- slices.Equal at sets -/
theorem eq_set {S S' : Nat → Prop} {a b : Value} {l m : List Attr} {w : World} (ha : RSet S w a l) (hb : RSet S' w b m) :
    callK Tryz.prog 176 [a, b] (fun v w' => v = .bool (decide (l = m)) ∧ Grow w w') w := by
  apply S176_ok
  unfold S176
  obtain ⟨pa, ca, rfl, hla⟩ := ha.shape
  obtain ⟨pb, cb, rfl, hlb⟩ := hb.shape
  simp only [KS]
  simp only [maxLen] at hla hlb
  by_cases hlen : l.length = m.length
  · rw [if_neg (show ¬ ¬ (l.length : Int) = m.length by omega)]
    refine ⟨fun vs w' => ∃ k : Nat, k ≤ l.length ∧ vs = [.int .i64 k] ∧ Grow w w' ∧ l.take k = m.take k, fun vs _ => l.length - iOf vs 0, ⟨0, Nat.zero_le _, rfl, Mod.refl _ _, rfl⟩, ?_⟩
    rintro vs w1 ⟨k, hk, rfl, hg, ht⟩ h
    simp only [KS]
    by_cases hlt : k < l.length
    · rw [if_pos (show (k : Int) < l.length by omega)]
      refine ⟨fun w2 => Grow w1 w2, Mod.drew _ _, ?_⟩
      obtain ⟨p, r, rfl, _, hr, hc, hx⟩ := ha.get hlt
      obtain ⟨q, r', rfl, _, hr', hc', hx'⟩ := hb.get (show k < m.length by omega)
      refine ixK_n hlt (qldnK_i hr (fun w2 h2 j u hu => ?_) ?_)
      · rw [Addr.add_add]; exact h2.cell (hg.cell (hc j u hu) (fun h => h)) (fun h => h)
      refine ixK_n (by omega) (qldnK_i hr' (fun w2 h2 j u hu => ?_) ?_)
      · rw [Addr.add_add]; exact h2.cell (hg.cell (hc' j u hu) (fun h => h)) (fun h => h)
      subst hx; subst hx'
      refine ⟨_, fun w2 _ => run_ne_attr _ _ _ _ w2, fun w2 h2 => ?_⟩
      simp only [KS]
      by_cases he : l[k] = m[k]
      · rw [if_neg (fun h => h he)]
        refine ⟨⟨k + 1, by omega, by rw [wrap64 (by omega) (by omega)]; rfl, hg.trans h2, ?_⟩, ?_⟩
        · rw [List.take_add_one, List.take_add_one, ht]
          simp [hlt, show k < m.length by omega, he]
        · simp only [iOf, nth, List.headD_cons]; rw [wrap64 (by omega) (by omega)]; omega
      · rw [if_pos he]
        refine ⟨?_, hg.trans h2⟩
        congr 1
        symm
        rw [decide_eq_false_iff_not]
        intro e; subst e; exact he rfl
    · rw [if_neg (show ¬ (k : Int) < l.length by omega)]
      refine ⟨?_, hg⟩
      congr 1; symm
      rw [decide_eq_true_eq]
      have : k = l.length := by omega
      subst this
      rw [List.take_length] at ht
      rw [ht, hlen, List.take_length]
  · rw [if_pos (show ¬ (l.length : Int) = m.length by omega)]
    refine ⟨?_, Mod.refl _ _⟩
    congr 1; symm
    rw [decide_eq_false_iff_not]
    intro e; exact hlen (by rw [e])
/-- attrs.Same -/
theorem same_set {S S' : Nat → Prop} {a b : Value} {l m : List Attr} {w : World} (ha : RSet S w a l) (hb : RSet S' w b m) :
    callK Tryz.prog 125 [a, b] (fun v w' => v = .bool (decide (l = m)) ∧ Grow w w') w := by
  apply S125_ok
  exact eq_set ha hb
/-- slices.Clone at sets -/
theorem clone_set {S : Nat → Prop} {v : Value} {l : List Attr} {w : World} (h : RSet S w v l) (hl : l.length * 48 ≤ 140737488355328) :
    callK Tryz.prog 139 [v] (fun v' w' => OSet w.heap.size w' v' l ∧ Grow w w') w := by
  apply S139_ok
  unfold S139
  obtain ⟨a, c, rfl, hm⟩ := h.shape
  cases a with
  | none =>
    simp only [KS]
    have : l = [] := by
      cases l with
      | nil => rfl
      | cons x l => obtain ⟨p, r, e, _⟩ := h.get (i := 0) (by simp); cases e
    subst this
    exact ⟨OwnR.nil, Mod.refl _ _⟩
  | some p =>
    simp only [KS]
    refine rowK_empty ?_
    have hg : Grow w (w.alloc (.cells #[] 109)) := Mod.alloc _ _ _
    have ho : OSet w.heap.size (w.alloc (.cells #[] 109)) (.slice (some ⟨w.heap.size, 0, none⟩) 0 0) [] := OwnR.made (Nat.le_refl _)
    obtain ⟨v', w', h1, h2, h3, h4⟩ := OwnR.append (ty := 36) elem_attr ho (h.grow hg (by decide) fun _ _ h => h) (fun _ _ => RAttr.one) (by simpa using hl) (by simp) (by simpa using hm) (fun _ _ _ _ h => h)
    refine runK_i h1 ⟨?_, hg.next (Mod.of_grownBy h3) ?_⟩
    · refine h2.base fun g hg' => ?_
      rcases h4 g hg' with h | h
      · cases h; exact Nat.le_refl _
      · simp only [World.size_alloc] at h; omega
    · intro b hb e; simp only [Value.ownBlock, Option.some.injEq] at e; omega
/-- attrs.Copy -/
theorem copy_set {S : Nat → Prop} {v : Value} {l : List Attr} {w : World} (h : RSet S w v l) (hl : l.length * 48 ≤ 140737488355328) :
    callK Tryz.prog 85 [v] (fun v' w' => OSet w.heap.size w' v' l ∧ Grow w w') w := by
  apply S85_ok
  exact clone_set h hl
end Go.Proofs.YtlbaopamhkmepaaGreatDoor

namespace Go.Proofs.YtlbaopamhkmepaaGreatDoor
open Go Go.K

end Go.Proofs.YtlbaopamhkmepaaGreatDoor

namespace Go.K
open Go
theorem cell_box {w : World} {t : TypeId} {vs : List Value} {j : Nat} {v : Value} (h : vs[j]? = some v) : (w.alloc (.cells vs.toArray t)).cell? ((⟨w.heap.size, 0, none⟩ : Addr).add j) = some v := by
  have hadd : (⟨w.heap.size, 0, none⟩ : Addr).add j = ⟨w.heap.size, j, none⟩ := by unfold Addr.add; split <;> simp_all
  rw [hadd, World.cell?_alloc_new]; simpa using h
theorem OwnR.ownB {α : Type} {B e k : Nat} {R : World → List Value → α → Prop} {w : World} {v : Value} {l : List α} (h : OwnR B e k R w v l) : ∀ g, v.ownBlock = some g → B ≤ g ∧ g < w.heap.size := by
  obtain ⟨a, c, rfl, _, _, hp, _⟩ := OwnR.shape h
  intro g hg
  cases a with
  | none => cases hg
  | some p => obtain ⟨g', rfl, h1, h2, h3⟩ := hp p rfl; rw [hg] at h3; cases h3; exact ⟨h1, h2⟩
theorem SlR.old {α : Type} {S : Nat → Prop} {k : Nat} {R : World → List Value → α → Prop} {w : World} {v : Value} {l : List α} (h : SlR S k R w v l) (hk : 0 < k) : SlR (fun b => S b ∧ b < w.heap.size) k R w v l :=
  h.sub (fun b hb hs => ⟨hs, hb⟩) hk fun _ _ h => h
end Go.K
namespace Go.Proofs.YtlbaopamhkmepaaGreatDoor
open Go Go.K

def joinB (l : List Blk) : List Blk := l.foldl (fun acc b => addB acc b.n b.set) []
theorem foldB_len (l : List Blk) : ∀ acc : List Blk, (l.foldl (fun acc b => addB acc b.n b.set) acc).length ≤ acc.length + l.length := by
  induction l with
  | nil => intro acc; simp
  | cons b l ih => intro acc; have := ih (addB acc b.n b.set); have := addB_len acc b.n b.set; simp only [List.foldl_cons, List.length_cons]; omega
theorem joinB_len (l : List Blk) : (joinB l).length ≤ l.length := by have := foldB_len l []; simpa [joinB] using this
theorem joinB_take {l : List Blk} {k : Nat} (h : k < l.length) : joinB (l.take (k + 1)) = addB (joinB (l.take k)) l[k].n l[k].set := by
  rw [List.take_add_one, List.getElem?_eq_getElem h]
  simp only [joinB, List.foldl_append, Option.toList, List.foldl_cons, List.foldl_nil]

structure Cel where
  r : Int
  set : List Attr
  deriving DecidableEq
def RCel (D : Nat → Prop) (w : World) (r : List Value) (c : Cel) : Prop := ∃ sv, r = [.int .i32 c.r, sv] ∧ RSet D w sv c.set
theorem RCel.one {D : Nat → Prop} {w : World} {r : List Value} {b : Cel} (h : RCel D w r b) : ∀ u ∈ r, u.oneCell' = true := by
  obtain ⟨sv, rfl, hs⟩ := h
  obtain ⟨a, c, rfl, _⟩ := hs.shape
  intro u hu
  simp only [List.mem_cons, List.not_mem_nil, or_false] at hu
  rcases hu with rfl | rfl <;> rfl
theorem RCel.mod {D D' M : Nat → Prop} {w w' : World} {r : List Value} {b : Cel} (h : RCel D w r b) (hm : Mod M w w') (hD : ∀ b, b < w.heap.size → D b → ¬ M b) (hD' : ∀ b, b < w.heap.size → D b → D' b) : RCel D' w' r b := by
  obtain ⟨sv, rfl, hs⟩ := h
  exact ⟨sv, rfl, hs.mono hD' (fun b hb hd => hm.same b hb (hD b hb hd)) (by decide) fun _ _ h => h⟩
abbrev RCels (S D : Nat → Prop) (w : World) (v : Value) (l : List Cel) : Prop := SlR S 2 (RCel D) w v l
def Cel.inl (c : Cel) : List Attr := if c.r = 10 then [] else c.set
theorem inl_ok {c : Cel} (h : c.set.length * 48 ≤ 140737488355328) : c.inl.length * 48 ≤ 140737488355328 := by
  unfold Cel.inl; split
  · simp
  · exact h
def ofB (l : List Cel) : List Blk := l.foldl (fun acc c => addB acc 1 c.inl) []
theorem foldC_len (l : List Cel) : ∀ acc : List Blk, (l.foldl (fun acc c => addB acc 1 c.inl) acc).length ≤ acc.length + l.length := by
  induction l with
  | nil => intro acc; simp
  | cons b l ih => intro acc; have := ih (addB acc 1 b.inl); have := addB_len acc 1 b.inl; simp only [List.foldl_cons, List.length_cons]; omega
theorem ofB_len (l : List Cel) : (ofB l).length ≤ l.length := by have := foldC_len l []; simpa [ofB] using this
theorem ofB_take {l : List Cel} {k : Nat} (h : k < l.length) : ofB (l.take (k + 1)) = addB (ofB (l.take k)) 1 l[k].inl := by
  rw [List.take_add_one, List.getElem?_eq_getElem h]
  simp only [ofB, List.foldl_append, Option.toList, List.foldl_cons, List.foldl_nil]
end Go.Proofs.YtlbaopamhkmepaaGreatDoor

namespace Go.Proofs.YtlbaopamhkmepaaGreatDoor
open Go Go.K

theorem bool_inj {a b : Bool} (h : (a = true ↔ b = true)) : Value.bool a = .bool b := by congr 1; exact Bool.eq_iff_iff.2 h
/-- rubricref05.Same -/
theorem rsame_set {S S' : Nat → Prop} {a b : Value} {l m : List Attr} {w : World} (ha : RSet S w a l) (hb : RSet S' w b m) :
    callK Tryz.prog 54 [a, b] (fun v w' => v = .bool (decide (l = m)) ∧ Grow w w') w := by
  apply S54_ok
  unfold S54
  obtain ⟨pa, ca, rfl, hla⟩ := ha.shape
  obtain ⟨pb, cb, rfl, hlb⟩ := hb.shape
  simp only [KS]
  simp only [maxLen] at hla hlb
  by_cases hlen : l.length = m.length
  · rw [if_neg (show ¬ ¬ (l.length : Int) = m.length by omega)]
    refine LoopK_i (fun vs w' => ∃ k : Nat, k ≤ l.length ∧ vs = [.int .i64 k] ∧ Grow w w' ∧ l.take k = m.take k) (fun vs _ => l.length - iOf vs 0) ⟨0, Nat.zero_le _, rfl, Mod.refl _ _, rfl⟩ ?_
    rintro vs w1 ⟨k, hk, rfl, hg, ht⟩ h
    simp only [KS]
    by_cases hlt : k < l.length
    · rw [if_pos (show (k : Int) < l.length by omega)]
      refine ⟨fun w2 => Grow w1 w2, Mod.drew _ _, ?_⟩
      obtain ⟨p, r, rfl, _, hr, hc, hx⟩ := ha.get hlt
      obtain ⟨q, r', rfl, _, hr', hc', hx'⟩ := hb.get (show k < m.length by omega)
      refine ixK_n hlt (qldnK_i hr (fun w2 h2 j u hu => ?_) ?_)
      · rw [Addr.add_add]; exact h2.cell (hg.cell (hc j u hu) (fun h => h)) (fun h => h)
      refine ixK_n (by omega) (qldnK_i hr' (fun w2 h2 j u hu => ?_) ?_)
      · rw [Addr.add_add]; exact h2.cell (hg.cell (hc' j u hu) (fun h => h)) (fun h => h)
      subst hx; subst hx'
      refine ⟨_, fun w2 _ => run_ne_attr _ _ _ _ w2, fun w2 h2 => ?_⟩
      simp only [KS]
      by_cases he : l[k] = m[k]
      · rw [if_neg (fun h => h he)]
        refine ⟨⟨k + 1, by omega, by rw [wrap64 (by omega) (by omega)]; rfl, hg.trans h2, ?_⟩, ?_⟩
        · rw [List.take_add_one, List.take_add_one, ht]
          simp [hlt, show k < m.length by omega, he]
        · simp only [iOf, nth, List.headD_cons]; rw [wrap64 (by omega) (by omega)]; omega
      · rw [if_pos he]
        refine ⟨?_, hg.trans h2⟩
        congr 1
        symm
        rw [decide_eq_false_iff_not]
        intro e; subst e; exact he rfl
    · rw [if_neg (show ¬ (k : Int) < l.length by omega)]
      refine ⟨?_, hg⟩
      congr 1; symm
      rw [decide_eq_true_eq]
      have : k = l.length := by omega
      subst this
      rw [List.take_length] at ht
      rw [ht, hlen, List.take_length]
  · rw [if_pos (show ¬ (l.length : Int) = m.length by omega)]
    refine ⟨?_, Mod.refl _ _⟩
    congr 1; symm
    rw [decide_eq_false_iff_not]
    intro e; exact hlen (by rw [e])
/-- whether blocks are proper -/
def ProperB (l : List Blk) : Prop := ∀ (i : Nat) b, l[i]? = some b → 0 < b.n ∧ ∀ c, 0 < i → l[i - 1]? = some c → c.set ≠ b.set
def properN (l : List Blk) (k : Nat) : Prop := ∀ i, i < k → ∀ b, l[i]? = some b → 0 < b.n ∧ ∀ c, 0 < i → l[i - 1]? = some c → c.set ≠ b.set
end Go.Proofs.YtlbaopamhkmepaaGreatDoor

namespace Go.Proofs.YtlbaopamhkmepaaGreatDoor
open Go Go.K

/-- where the k-th block begins -/
def atB (l : List Blk) (k : Nat) : Int := (l.take k).foldl (fun s b => IntKind.i64.wrap (s + b.n)) 0
theorem atB_succ {l : List Blk} {k : Nat} (h : k < l.length) : atB l (k + 1) = IntKind.i64.wrap (atB l k + l[k].n) := by
  unfold atB
  rw [List.take_add_one, List.getElem?_eq_getElem h]
  simp only [List.foldl_append, Option.toList, List.foldl_cons, List.foldl_nil]
def encB (l : List Blk) (svs : Nat → Value) (k : Nat) : List Value := [.int .i64 (atB l k), .agg #[.int .i64 (match l[k]? with | some b => b.n | none => 0), svs k]]
theorem encB_at {l : List Blk} {svs : Nat → Value} {k : Nat} (h : k < l.length) : encB l svs k = [.int .i64 (atB l k), .agg #[.int .i64 l[k].n, svs k]] := by
  simp [encB, List.getElem?_eq_getElem h]
/-- the cells' values of what a slice of blocks holds -/
theorem sets_of {S D : Nat → Prop} {w : World} {v : Value} {l : List Blk} (h : RBlks S D w v l) : ∃ svs : Nat → Value, ∀ k (hk : k < l.length), ∃ a c p, v = .slice (some a) l.length c ∧ p = a ∧ S a.block ∧ w.cell? (a.add (k * 2)) = some (.int .i64 l[k].n) ∧ w.cell? (a.add (k * 2 + 1)) = some (svs k) ∧ RSet D w (svs k) l[k].set := by
  have : ∀ k, ∃ sv, ∀ (hk : k < l.length), ∃ a c p, v = .slice (some a) l.length c ∧ p = a ∧ S a.block ∧ w.cell? (a.add (k * 2)) = some (.int .i64 l[k].n) ∧ w.cell? (a.add (k * 2 + 1)) = some sv ∧ RSet D w sv l[k].set := by
    intro k
    by_cases hk : k < l.length
    · obtain ⟨a, c, hv, _⟩ := h.shape
      subst hv
      obtain ⟨p, r, rfl, hS, hr, hc, sv, rfl, hs⟩ := h.get hk
      exact ⟨sv, fun _ => ⟨_, _, _, rfl, rfl, hS, hc 0 _ rfl, hc 1 _ rfl, hs⟩⟩
    · exact ⟨undef, fun h => absurd h hk⟩
  exact ⟨fun k => Classical.choose (this k), fun k hk => Classical.choose_spec (this k) hk⟩
end Go.Proofs.YtlbaopamhkmepaaGreatDoor

namespace Go.K
open Go
theorem add_block (a : Addr) (x : Nat) : (a.add x).block = a.block := by unfold Addr.add; split <;> rfl
theorem Mod.putObj {M : Nat → Prop} (w : World) (b : Nat) (o : Obj) (h : M b) : Mod M w (w.putObj b o) := ⟨rfl, rfl, rfl, by simp, fun k _ hk => World.putObj_heap_other fun e => hk (e ▸ h)⟩
theorem add0 (a : Nat) : (⟨a, 0, none⟩ : Addr).add 0 = ⟨a, 0, none⟩ := by unfold Addr.add; split <;> simp_all
theorem begK_i {It : Nat → Prop} {w W : World} {J : World → Prop} {Jx : Exit → World → Prop} {F : (Exit → World → Prop) → World → Prop} {W1 : World} {M : Nat → Prop} (hm : Mod M W W1) (hz : w.heap.size + 2 ≤ W.heap.size) (hIt : ItOk It w W)
    (hM : ∀ b, b < W.heap.size → M b → ¬ It b ∧ b ≠ w.heap.size ∧ b ≠ w.heap.size + 1) (h : ∀ W2, Mod (fun b => b = w.heap.size + 1) W1 W2 → F (rndP It w W2 J Jx) W2) : begK It w W J Jx F W1 := by
  refine ⟨⟨hm.size, fun b hb => hm.same b ?_ fun hb' => ?_⟩, h⟩
  · rcases hb with hb | rfl | rfl
    · exact (hIt b hb).1
    · omega
    · omega
  · rcases hb with hb | rfl | rfl
    · exact (hM _ (hIt b hb).1 hb').1 hb
    · exact (hM _ (by omega) hb').2.1 rfl
    · exact (hM _ (by omega) hb').2.2 rfl
theorem kpW_i {It : Nat → Prop} {w W W' : World} {M : Nat → Prop} (hm : Mod M W W') (hz : w.heap.size + 2 ≤ W.heap.size) (hIt : ∀ b, It b → b < W.heap.size)
    (hM : ∀ b, b < W.heap.size → M b → ¬ It b ∧ b ≠ w.heap.size ∧ b ≠ w.heap.size + 1) : KpW It w W W' := by
  refine ⟨hm.size, fun b hb => hm.same b ?_ fun hb' => ?_⟩
  · rcases hb with hb | rfl | rfl
    · exact hIt b hb
    · omega
    · omega
  · rcases hb with hb | rfl | rfl
    · exact (hM _ (hIt b hb) hb').1 hb
    · exact (hM _ (by omega) hb').2.1 rfl
    · exact (hM _ (by omega) hb').2.2 rfl
theorem LoopN_i {init : List Value} {ms : List Nat} {F : List Value → List Nat → (List Value → List Nat → World → Prop) → World → Prop} {w : World} (I : List Value → List Nat → World → Prop) (μ : List Value → World → Nat) (h0 : I init ms w) (h : ∀ vs ms w, I vs ms w → F vs ms (fun vs' ms' w' => I vs' ms' w' ∧ μ vs' w' < μ vs w) w) : LoopN init ms F w := ⟨I, μ, h0, h⟩
/-- the marks of ranges that are through -/
def Marks (ms : List Nat) (W : World) : Prop := ms.Nodup ∧ ∀ m ∈ ms, W.heap[m]? = some (.deferred (some []))
theorem Marks.nil {W : World} : Marks [] W := ⟨List.nodup_nil, fun _ h => by cases h⟩
theorem Marks.lt {ms : List Nat} {W : World} (h : Marks ms W) : ∀ m ∈ ms, m < W.heap.size := fun m hm => by
  have := h.2 m hm
  rcases Nat.lt_or_ge m W.heap.size with h1 | h1
  · exact h1
  · rw [Array.getElem?_eq_none h1] at this; cases this
theorem Marks.mod {ms : List Nat} {W W' : World} {M : Nat → Prop} (h : Marks ms W) (hm : Mod M W W') (hM : ∀ m ∈ ms, ¬ M m) : Marks ms W' :=
  ⟨h.1, fun m hm' => by rw [hm.same m (h.lt m hm') (hM m hm')]; exact h.2 m hm'⟩
theorem Marks.cons {ms : List Nat} {W : World} {m : Nat} (h : Marks ms W) (hm : W.heap[m]? = some (.deferred (some []))) (hn : m ∉ ms) : Marks (m :: ms) W :=
  ⟨List.nodup_cons.2 ⟨hn, h.1⟩, fun x hx => by rcases List.mem_cons.1 hx with rfl | hx; exact hm; exact h.2 x hx⟩
theorem Marks.done {K : World → Prop} : ∀ {ms : List Nat} {W : World}, Marks ms W → (∀ W', Mod (fun b => b ∈ ms) W W' → K W') → marksK ms K W := by
  intro ms
  induction ms with
  | nil => intro W _ hK; exact hK W (Mod.refl _ _)
  | cons m ms ih =>
    intro W h hK
    have hm : Mod (fun b => b = m) W (W.putObj m (.deferred none)) := Mod.putObj _ _ _ rfl
    have hn := List.nodup_cons.1 h.1
    have h' : Marks ms W := ⟨hn.2, fun x hx => h.2 x (List.mem_cons_of_mem _ hx)⟩
    refine ⟨h.2 m (by simp), ih (h'.mod hm fun x hx e => hn.1 (e ▸ hx)) fun W' hW' => hK W' ((hm.mono fun b _ e => by rw [e]; simp).trans (hW'.mono fun b _ hb => List.mem_cons_of_mem _ hb))⟩
/-- a range of no rounds -/
theorem range_none {P : Program} {ok : Nat → Bool} {st : Prop} {gf np : Nat} {cap : List Value} {encs : Nat → List Value} {Rd : Nat → Prop} {rnd : List Value → (((Exit → World → Prop) → World → Prop) → World → Prop) → World → Prop} {N : Exit → World → Prop} {w : World} (hok : ok gf = true) (hs : SeqK st P gf cap encs 0 Rd w)
    (h : ∀ W, Grow w W → w.heap.size + 2 ≤ W.heap.size → W.heap[w.heap.size]? = some (.deferred (some [])) → N .normal W) : RangeK P ok (.func (.func gf) #[] cap.toArray) np rnd N w := by
  refine ⟨st, gf, cap, encs, 0, Rd, rfl, hok, hs, fun k hk => absurd hk (Nat.not_lt_zero _), fun k It W => Grow w W ∧ ∀ b, It b → w.heap.size ≤ b, fun _ _ _ => False, ⟨Mod.refl _ _, fun _ h => h.elim⟩, ?_, fun x It It' W W' h => h.elim, ?_, fun k It W hk => absurd hk (Nat.not_lt_zero _), fun It W hJ _ hz hd => h W hJ.1 hz hd, fun x It W h => h.elim⟩
  · rintro k It It' W W' ⟨g, hI⟩ hm hI'
    refine ⟨g.next hm fun b hb e => ?_, fun b hb => by have := (hI' b hb).2.2; omega⟩
    rcases e with ⟨_, e⟩ | e | e
    · have := hI b e; omega
    · omega
    · omega
  · rintro k It W ⟨g, _⟩ b hb _
    exact g.same b hb fun h => h
end Go.K

namespace Go.Proofs.YtlbaopamhkmepaaGreatDoor
open Go Go.K

end Go.Proofs.YtlbaopamhkmepaaGreatDoor

namespace Go.K
open Go
/-- a variable of one cell -/
def Var (W : World) (b : Nat) (v : Value) : Prop := W.cell? ⟨b, 0, none⟩ = some v ∧ W.frozen? ⟨b, 0, none⟩ = false
theorem Var.lt {W : World} {b : Nat} {v : Value} (h : Var W b v) : b < W.heap.size := World.block_lt_of_cell? W ⟨b, 0, none⟩ h.1
theorem Var.mod {M : Nat → Prop} {W W' : World} {b : Nat} {v : Value} (h : Var W b v) (hm : Mod M W W') (hb : ¬ M b) : Var W' b v := ⟨hm.cell h.1 hb, (hm.frozen (show b < W.heap.size from h.lt) hb).trans h.2⟩
theorem Var.grow {W W' : World} {b : Nat} {v : Value} (h : Var W b v) (hm : Grow W W') : Var W' b v := h.mod hm fun h => h
theorem Var.new (w : World) (t : TypeId) (v : Value) : Var (w.alloc (.cells [v].toArray t)) w.heap.size v := ⟨by rw [← add0]; exact cell_box rfl, World.frozen?_alloc_new ..⟩
theorem Var.set {W : World} {b : Nat} {v : Value} (h : Var W b v) (u : Value) : Var (W.setCell ⟨b, 0, none⟩ u) b u := ⟨World.cell?_setCell_same' _ _ _ (by rw [h.1]; rfl), by rw [World.frozen?_setCell]; exact h.2⟩
theorem Var.mset (W : World) (b : Nat) (u : Value) : Mod (fun x => x = b) W (W.setCell ⟨b, 0, none⟩ u) := Mod.setCell _ _ _ rfl
theorem Var.ld {W : World} {b : Nat} {v : Value} {K : Cont} (h : Var W b v) (hK : K v W) : ld1K (.pointer (some ⟨b, 0, none⟩)) K W := ld1K_i h.1 hK
theorem Var.st {W : World} {b : Nat} {v u : Value} {K : World → Prop} (h : Var W b v) (h1 : u.oneCell' = true) (h2 : u.cells = #[u]) (hK : Var (W.setCell ⟨b, 0, none⟩ u) b u → Mod (fun x => x = b) W (W.setCell ⟨b, 0, none⟩ u) → K (W.setCell ⟨b, 0, none⟩ u)) :
    st1K (.pointer (some ⟨b, 0, none⟩)) u K W := st1K_i h1 h2 h.1 h.2 (hK (h.set u) (Var.mset W b u))
theorem OwnR.one {α : Type} {B e k : Nat} {R : World → List Value → α → Prop} {w : World} {v : Value} {l : List α} (h : OwnR B e k R w v l) : v.oneCell' = true ∧ v.cells = #[v] := by
  obtain ⟨a, c, rfl, _⟩ := OwnR.shape h
  exact ⟨rfl, rfl⟩
end Go.K
namespace Go.Proofs.YtlbaopamhkmepaaGreatDoor
open Go Go.K

theorem OSet.mod {B : Nat} {M : Nat → Prop} {w w' : World} {v : Value} {l : List Attr} (h : OSet B w v l) (hm : Mod M w w') (hM : ∀ b, b < w.heap.size → B ≤ b → ¬ M b) : OSet B w' v l :=
  OwnR.mod h hm (fun g hg => hM g (OwnR.ownB h g hg).2 (OwnR.ownB h g hg).1) fun _ _ _ h => h
def hitB (l : List Blk) (i : Int) (k : Nat) : Prop := atB l k ≤ i ∧ i < atB l (k + 1)
end Go.Proofs.YtlbaopamhkmepaaGreatDoor

namespace Go.Proofs.YtlbaopamhkmepaaGreatDoor
open Go Go.K

def maxI (a b : Int) : Int := if b > a then b else a
def minI (a b : Int) : Int := if b < a then b else a
def cutN (t j a i : Int) : Int := IntKind.i64.wrap (minI t j - maxI a i)
def cutT (l : List Blk) (i j : Int) : Nat → List Blk
  | 0 => []
  | k + 1 => match l[k]? with | some b => addB (cutT l i j k) (cutN (atB l (k + 1)) j (atB l k) i) b.set | none => cutT l i j k
theorem cutT_len (l : List Blk) (i j : Int) : ∀ k, (cutT l i j k).length ≤ k := by
  intro k
  induction k with
  | zero => simp [cutT]
  | succ k ih =>
    simp only [cutT]
    split
    · exact Nat.le_trans (addB_len _ _ _) (by omega)
    · omega
theorem cutT_succ {l : List Blk} {i j : Int} {k : Nat} (h : k < l.length) : cutT l i j (k + 1) = addB (cutT l i j k) (cutN (atB l (k + 1)) j (atB l k) i) l[k].set := by
  simp [cutT, List.getElem?_eq_getElem h]
/-- the program's cut -/
def cutB (l : List Blk) (i j : Int) : List Blk :=
  if minI (maxI j 0) (atB l l.length) ≤ maxI i 0 then [] else cutT l (maxI i 0) (minI (maxI j 0) (atB l l.length)) l.length
end Go.Proofs.YtlbaopamhkmepaaGreatDoor

namespace Go.Proofs.YtlbaopamhkmepaaGreatDoor
open Go Go.K

/-- append to a fresh empty set -/
theorem fresh_set {S : Nat → Prop} {w : World} {sv : Value} {set : List Attr} {K : Cont} (hs : RSet S w sv set) (hset : set.length * 48 ≤ 140737488355328)
    (hK : ∀ v' w', OSet w.heap.size w' v' set → Grow w w' → K v' w') :
    rowK 109 5 0 [] [] (fun t w1 => runK Tryz.prog (Builtin.append_ #[36, 36] 36 [t, sv].toArray) K w1) w := by
  refine rowK_empty ?_
  have hm : set.length ≤ maxLen := by obtain ⟨_, _, _, h⟩ := hs.shape; exact h
  have hg : Grow w (w.alloc (.cells #[] 109)) := Mod.alloc _ _ _
  have ho : OSet w.heap.size (w.alloc (.cells #[] 109)) (.slice (some ⟨w.heap.size, 0, none⟩) 0 0) [] := OwnR.made (Nat.le_refl _)
  obtain ⟨v', w', h1, h2, h3, h4⟩ := OwnR.append (ty := 36) elem_attr ho (hs.grow hg (by decide) fun _ _ h => h) (fun _ _ => RAttr.one) (by simpa using hset) (by simp) (by simpa using hm) (fun _ _ _ _ h => h)
  refine runK_i h1 (hK v' w' ?_ (hg.next (Mod.of_grownBy h3) ?_))
  · refine OwnR.base h2 fun g hg' => ?_
    rcases h4 g hg' with h | h
    · cases h; exact Nat.le_refl _
    · simp only [World.size_alloc] at h; omega
  · intro b hb e; simp only [Value.ownBlock, Option.some.injEq] at e; omega
end Go.Proofs.YtlbaopamhkmepaaGreatDoor

namespace Go.K
open Go
theorem SlR.made {α : Type} {k : Nat} {R : World → List Value → α → Prop} {w : World} {t : TypeId} {l : List α} (rows : List (List Value)) (hr : ∀ r ∈ rows, r.length = k) (hl : rows.length = l.length) (hlm : l.length ≤ maxLen)
    (hR : ∀ (i : Nat) (r : List Value) (x : α), rows[i]? = some r → l[i]? = some x → R (w.alloc (.cells rows.flatten.toArray t)) r x) : SlR (fun b => b = w.heap.size) k R (w.alloc (.cells rows.flatten.toArray t)) (.slice (some ⟨w.heap.size, 0, none⟩) l.length l.length) l := by
  refine ⟨_, _, rfl, Nat.le_refl _, hlm, fun i x hx => ?_⟩
  have hi : i < rows.length := by rw [hl]; exact (List.getElem?_eq_some_iff.1 hx).1
  refine ⟨_, rows[i], rfl, rfl, hr _ (by simp), fun j u hu => ?_, hR i _ x (by simp [hi]) hx⟩
  have hj : j < k := by rw [← hr rows[i] (by simp)]; exact (List.getElem?_eq_some_iff.1 hu).1
  refine cell_box ?_
  rw [flat_get rows i j rows[i] hr (by simp [hi]) hj]; exact hu
end Go.K
namespace Go.Proofs.YtlbaopamhkmepaaGreatDoor
open Go Go.K

def knownX : List Attr := [⟨1, ⟨1, 1, 0, ByteArray.mk #[]⟩⟩]
end Go.Proofs.YtlbaopamhkmepaaGreatDoor

namespace Go.Proofs.YtlbaopamhkmepaaGreatDoor
open Go Go.K

theorem wrap_add (x m : Int) : IntKind.i64.wrap (IntKind.i64.wrap x + m) = IntKind.i64.wrap (x + m) := by
  have e1 : (2 : Int) ^ IntKind.i64.bits = 18446744073709551616 := by decide
  have e2 : (2 : Int) ^ (IntKind.i64.bits - 1) = 9223372036854775808 := by decide
  simp only [IntKind.wrap, e1, e2, IntKind.signed, Bool.true_and, decide_eq_true_eq]
  split <;> split <;> split <;> omega
theorem snoc_cases {α : Type} (l : List α) : l = [] ∨ ∃ i b, l = i ++ [b] := by
  rcases List.eq_nil_or_concat l with h | ⟨i, b, h⟩
  · exact .inl h
  · exact .inr ⟨i, b, by simpa using h⟩
theorem addB_nil {n : Int} {s : List Attr} (h : 0 < n) : addB [] n s = [⟨n, s⟩] := by
  simp [addB, show ¬ n ≤ 0 by omega]
theorem addB_snoc {i : List Blk} {b : Blk} {n : Int} {s : List Attr} (h : 0 < n) : addB (i ++ [b]) n s = if b.set = s then i ++ [⟨IntKind.i64.wrap (b.n + n), b.set⟩] else i ++ [b] ++ [⟨n, s⟩] := by
  unfold addB
  rw [if_neg (by omega)]
  simp only [List.getLast?_append, List.getLast?_singleton, Option.some_or]
  split
  · simp
  · rfl
theorem addB_zero {l : List Blk} {n : Int} {s : List Attr} (h : n ≤ 0) : addB l n s = l := by simp [addB, h]
theorem addB_two {acc : List Blk} {n m : Int} {s : List Attr} (h1 : 0 < n) (h2 : 0 < m) (h3 : n + m ≤ 9223372036854775807) : addB (addB acc n s) m s = addB acc (n + m) s := by
  rcases snoc_cases acc with rfl | ⟨i, b, rfl⟩
  · rw [addB_nil h1, addB_nil (by omega), show [(⟨n, s⟩ : Blk)] = [] ++ [⟨n, s⟩] from rfl, addB_snoc h2, if_pos rfl, wrap64 (by simp; omega) (by simpa using h3)]; rfl
  · rw [addB_snoc h1, addB_snoc (by omega)]
    by_cases hs : b.set = s
    · rw [if_pos hs, if_pos hs, addB_snoc h2, if_pos hs]
      simp only
      rw [wrap_add, Int.add_assoc]
    · rw [if_neg hs, if_neg hs, addB_snoc h2, if_pos rfl]
      simp only
      rw [wrap64 (by omega) (by omega)]
def foldJ (acc l : List Blk) : List Blk := l.foldl (fun acc b => addB acc b.n b.set) acc
def foldO (acc : List Blk) (l : List Cel) : List Blk := l.foldl (fun acc c => addB acc 1 c.inl) acc
theorem foldJ_snoc (acc l : List Blk) (b : Blk) : foldJ acc (l ++ [b]) = addB (foldJ acc l) b.n b.set := by simp [foldJ]
theorem foldO_snoc (acc : List Blk) (l : List Cel) (c : Cel) : foldO acc (l ++ [c]) = addB (foldO acc l) 1 c.inl := by simp [foldO]
theorem rev_ind {α : Type} {p : List α → Prop} (h0 : p []) (h1 : ∀ l a, p l → p (l ++ [a])) : ∀ l, p l := by
  intro l
  have : ∀ n, ∀ l : List α, l.length = n → p l := by
    intro n
    induction n with
    | zero => intro l hl; rw [List.eq_nil_of_length_eq_zero hl]; exact h0
    | succ n ih =>
      intro l hl
      rcases snoc_cases l with rfl | ⟨i, b, rfl⟩
      · simp at hl
      · exact h1 i b (ih i (by simp at hl; omega))
  exact this _ l rfl
/-- blocks of cells: each from 1 to as many as there are cells -/
theorem ofB_n (m : List Cel) (hm : (m.length : Int) ≤ 9223372036854775807) : ∀ b ∈ ofB m, 1 ≤ b.n ∧ b.n ≤ m.length := by
  revert hm
  refine rev_ind (p := fun m => (m.length : Int) ≤ 9223372036854775807 → ∀ b ∈ ofB m, 1 ≤ b.n ∧ b.n ≤ m.length) ?_ ?_ m
  · intro _ b hb; simp [ofB] at hb
  · intro m c ih hm
    have hm' : (m.length : Int) + 1 ≤ 9223372036854775807 := by simpa using hm
    have ih := ih (by omega)
    have e : ofB (m ++ [c]) = addB (ofB m) 1 c.inl := foldO_snoc [] m c
    rw [e]
    rcases snoc_cases (ofB m) with h | ⟨i, b, h⟩
    · rw [h, addB_nil (by decide)]
      intro b hb; simp at hb; subst hb; simp; omega
    · rw [h] at ih
      rw [h, addB_snoc (by decide)]
      have hb := ih b (by simp)
      intro x hx
      split at hx
      · simp only [List.mem_append, List.mem_singleton] at hx
        rcases hx with hx | hx
        · have := ih x (by simp [hx]); simp; omega
        · subst hx
          simp only [List.length_append, List.length_singleton]
          rw [wrap64 (by omega) (by omega)]; omega
      · simp only [List.mem_append, List.mem_singleton] at hx
        rcases hx with (hx | hx) | hx
        · have := ih x (by simp [hx]); simp; omega
        · subst hx; simp; omega
        · subst hx; simp; omega
theorem foldJ_of (acc : List Blk) (m : List Cel) (hm : (m.length : Int) ≤ 9223372036854775806) : foldJ acc (ofB m) = foldO acc m := by
  revert hm
  refine rev_ind (p := fun m => (m.length : Int) ≤ 9223372036854775806 → foldJ acc (ofB m) = foldO acc m) ?_ ?_ m
  · intro _; rfl
  · intro m c ih hm
    have hm' : (m.length : Int) + 1 ≤ 9223372036854775806 := by simpa using hm
    have ih := ih (by omega)
    have hn := ofB_n m (by omega)
    have e : ofB (m ++ [c]) = addB (ofB m) 1 c.inl := foldO_snoc [] m c
    rw [e, foldO_snoc, ← ih]
    rcases snoc_cases (ofB m) with h | ⟨i, b, h⟩
    · rw [h, addB_nil (by decide)]; rfl
    · rw [h] at hn ⊢
      have hb := hn b (by simp)
      rw [addB_snoc (by decide)]
      by_cases hs : b.set = c.inl
      · rw [if_pos hs, foldJ_snoc, foldJ_snoc]
        simp only
        rw [hs, wrap64 (by omega) (by omega), addB_two (by omega) (by decide) (by omega)]
      · rw [if_neg hs, foldJ_snoc]
/-- BlocksJoin's law -/
theorem join_of_app (l m : List Cel) (hl : l.length ≤ 1000) (hm : m.length ≤ 1000) : joinB (ofB l ++ ofB m) = ofB (l ++ m) := by
  have h1 : joinB (ofB l ++ ofB m) = foldJ (foldJ [] (ofB l)) (ofB m) := by simp [joinB, foldJ]
  rw [h1, foldJ_of [] l (by omega), foldJ_of _ m (by omega)]
  simp [foldO, ofB]
/-- the sets of what is added to -/
theorem addB_sets {acc : List Blk} {n : Int} {s : List Attr} : ∀ b ∈ addB acc n s, b.set = s ∨ ∃ c ∈ acc, b.set = c.set := by
  intro x hx
  by_cases hn : n ≤ 0
  · rw [addB_zero hn] at hx; exact .inr ⟨x, hx, rfl⟩
  rcases snoc_cases acc with rfl | ⟨i, b, rfl⟩
  · rw [addB_nil (by omega)] at hx; simp at hx; subst hx; exact .inl rfl
  · rw [addB_snoc (by omega)] at hx
    split at hx
    · simp only [List.mem_append, List.mem_singleton] at hx
      rcases hx with hx | hx
      · exact .inr ⟨x, by simp [hx], rfl⟩
      · subst hx; exact .inr ⟨b, by simp, rfl⟩
    · simp only [List.mem_append, List.mem_singleton] at hx
      rcases hx with (hx | hx) | hx
      · exact .inr ⟨x, by simp [hx], rfl⟩
      · exact .inr ⟨x, by simp [hx], rfl⟩
      · subst hx; exact .inl rfl
theorem foldJ_sets {p : List Attr → Prop} : ∀ (l acc : List Blk), (∀ b ∈ acc, p b.set) → (∀ b ∈ l, p b.set) → ∀ b ∈ foldJ acc l, p b.set := by
  intro l
  induction l with
  | nil => intro acc h _; exact h
  | cons c l ih =>
    intro acc h h2
    refine ih (addB acc c.n c.set) (fun b hb => ?_) fun b hb => h2 b (by simp [hb])
    rcases addB_sets b hb with e | ⟨d, hd, e⟩
    · rw [e]; exact h2 c (by simp)
    · rw [e]; exact h d hd
theorem foldO_sets {p : List Attr → Prop} : ∀ (l : List Cel) (acc : List Blk), (∀ b ∈ acc, p b.set) → (∀ c ∈ l, p c.inl) → ∀ b ∈ foldO acc l, p b.set := by
  intro l
  induction l with
  | nil => intro acc h _; exact h
  | cons c l ih =>
    intro acc h h2
    refine ih (addB acc 1 c.inl) (fun b hb => ?_) fun b hb => h2 b (by simp [hb])
    rcases addB_sets b hb with e | ⟨d, hd, e⟩
    · rw [e]; exact h2 c (by simp)
    · rw [e]; exact h d hd
theorem inl_len {c : Cel} {m : Nat} (h : c.set.length ≤ m) : c.inl.length ≤ m := by
  unfold Cel.inl; split
  · simp
  · exact h
theorem ofB_sets {l : List Cel} {m : Nat} (h : ∀ c ∈ l, c.set.length ≤ m) : ∀ b ∈ ofB l, b.set.length ≤ m := foldO_sets (p := fun s => s.length ≤ m) l [] (fun _ h => nomatch h) fun c hc => inl_len (h c hc)
theorem joinB_sets {l : List Blk} {m : Nat} (h : ∀ c ∈ l, c.set.length ≤ m) : ∀ b ∈ joinB l, b.set.length ≤ m := foldJ_sets (p := fun s => s.length ≤ m) l [] (fun _ h => nomatch h) h
end Go.Proofs.YtlbaopamhkmepaaGreatDoor

namespace Go.Proofs.YtlbaopamhkmepaaGreatDoor
open Go Go.K

theorem RCel.low {D : Nat → Prop} {w : World} {r : List Value} {c : Cel} (h : RCel D w r c) : RCel (fun b => b < w.heap.size) w r c := by
  obtain ⟨sv, rfl, hs⟩ := h
  exact ⟨sv, rfl, hs.sub (fun b hb _ => hb) (by decide) fun _ _ h => h⟩
theorem RCels.grow {S D : Nat → Prop} {w w' : World} {v : Value} {l : List Cel} (h : RCels S D w v l) (hg : Grow w w') : RCels S D w' v l :=
  SlR.grow h hg (by decide) fun _ _ hx => hx.mod hg (fun _ _ _ h => h) fun _ _ h => h
theorem RBlks.grow {S D : Nat → Prop} {w w' : World} {v : Value} {l : List Blk} (h : RBlks S D w v l) (hg : Grow w w') : RBlks S D w' v l :=
  SlR.grow h hg (by decide) fun _ _ hx => hx.mod hg (fun _ _ _ h => h) fun _ _ h => h
end Go.Proofs.YtlbaopamhkmepaaGreatDoor

namespace Go.Proofs.YtlbaopamhkmepaaGreatDoor
open Go Go.K

def rep (n : Int) (s : List Attr) : List (List Attr) := List.replicate n.toNat s
/-- the places that blocks tell, one by one -/
def pl (l : List Blk) : List (List Attr) := l.flatMap fun b => rep b.n b.set
def NonNeg (l : List Blk) : Prop := ∀ b ∈ l, 0 ≤ b.n
abbrev big : Nat := 4611686018427387904
theorem pl_nil : pl [] = [] := rfl
theorem pl_append (l m : List Blk) : pl (l ++ m) = pl l ++ pl m := by simp [pl]
theorem pl_one (b : Blk) : pl [b] = rep b.n b.set := by simp [pl]
theorem pl_cons (b : Blk) (l : List Blk) : pl (b :: l) = rep b.n b.set ++ pl l := by simp [pl]
theorem rep_len (n : Int) (s : List Attr) : (rep n s).length = n.toNat := by simp [rep]
theorem pl_take_le (l : List Blk) (k : Nat) : (pl (l.take k)).length ≤ (pl l).length := by
  have : pl l = pl (l.take k) ++ pl (l.drop k) := by rw [← pl_append, List.take_append_drop]
  rw [this, List.length_append]; omega
theorem pl_take_succ {l : List Blk} {k : Nat} (h : k < l.length) : pl (l.take (k + 1)) = pl (l.take k) ++ rep l[k].n l[k].set := by
  rw [List.take_add_one, List.getElem?_eq_getElem h, pl_append]
  simp [pl]
theorem atB_pl {l : List Blk} (hn : NonNeg l) (hb : (pl l).length ≤ big) : ∀ k, k ≤ l.length → atB l k = (pl (l.take k)).length := by
  intro k
  induction k with
  | zero => intro _; simp [atB, pl]
  | succ k ih =>
    intro hk
    have h1 := pl_take_le l (k + 1)
    rw [atB_succ (by omega), ih (by omega)]
    rw [pl_take_succ (by omega), List.length_append, rep_len] at h1 ⊢
    have := hn l[k] (by simp)
    simp only [big] at hb
    rw [wrap64 (by omega) (by omega)]
    omega
theorem addB_pl {acc : List Blk} {n : Int} {s : List Attr} (ha : NonNeg acc) (hb : (pl acc).length + n.toNat ≤ big) : pl (addB acc n s) = pl acc ++ rep n s ∧ NonNeg (addB acc n s) := by
  by_cases hn : n ≤ 0
  · rw [addB_zero hn]
    refine ⟨?_, ha⟩
    have : n.toNat = 0 := by omega
    simp [rep, this]
  have hn' : 0 < n := by omega
  rcases snoc_cases acc with rfl | ⟨i, b, rfl⟩
  · rw [addB_nil hn']
    refine ⟨by simp [pl], fun x hx => ?_⟩
    simp at hx; subst hx; simp only; omega
  · rw [addB_snoc hn']
    have hb0 := ha b (by simp)
    rw [pl_append, List.length_append, pl_one, rep_len] at hb
    simp only [big] at hb
    by_cases hs : b.set = s
    · rw [if_pos hs, wrap64 (by omega) (by omega)]
      refine ⟨?_, fun x hx => ?_⟩
      · rw [pl_append, pl_append, pl_one, pl_one, List.append_assoc]
        congr 1
        simp only [rep, ← hs, List.replicate_append_replicate]
        congr 1; omega
      · simp only [List.mem_append, List.mem_singleton] at hx
        rcases hx with hx | rfl
        · exact ha x (by simp [hx])
        · simp only; omega
    · rw [if_neg hs]
      refine ⟨by rw [pl_append (i ++ [b]), pl_one], fun x hx => ?_⟩
      simp only [List.mem_append, List.mem_singleton] at hx
      rcases hx with (hx | rfl) | rfl
      · exact ha x (by simp [hx])
      · exact hb0
      · simp only; omega
theorem foldJ_pl : ∀ (l acc : List Blk), NonNeg acc → (pl acc).length + (pl l).length ≤ big → pl (foldJ acc l) = pl acc ++ pl l ∧ NonNeg (foldJ acc l) := by
  intro l
  induction l with
  | nil => intro acc ha _; exact ⟨by simp [foldJ, pl], ha⟩
  | cons b l ih =>
    intro acc ha hb
    rw [pl_cons, List.length_append, rep_len] at hb
    obtain ⟨h1, h2⟩ := addB_pl (s := b.set) (n := b.n) ha (by omega)
    obtain ⟨h3, h4⟩ := ih (addB acc b.n b.set) h2 (by rw [h1, List.length_append, rep_len]; omega)
    refine ⟨?_, h4⟩
    show pl (foldJ (addB acc b.n b.set) l) = _
    rw [h3, h1, pl_cons, List.append_assoc]
theorem foldO_pl : ∀ (l : List Cel) (acc : List Blk), NonNeg acc → (pl acc).length + l.length ≤ big → pl (foldO acc l) = pl acc ++ l.map Cel.inl ∧ NonNeg (foldO acc l) := by
  intro l
  induction l with
  | nil => intro acc ha _; exact ⟨by simp [foldO], ha⟩
  | cons c l ih =>
    intro acc ha hb
    rw [List.length_cons] at hb
    obtain ⟨h1, h2⟩ := addB_pl (s := c.inl) (n := 1) ha (by simp only [Int.toNat_one]; omega)
    obtain ⟨h3, h4⟩ := ih (addB acc 1 c.inl) h2 (by rw [h1, List.length_append, rep_len]; simp only [Int.toNat_one]; omega)
    refine ⟨?_, h4⟩
    show pl (foldO (addB acc 1 c.inl) l) = _
    rw [h3, h1]
    simp [rep]
theorem joinB_pl {l : List Blk} (hb : (pl l).length ≤ big) : pl (joinB l) = pl l ∧ NonNeg (joinB l) := by
  have h := foldJ_pl l [] (fun _ h => nomatch h) (by simpa [pl] using hb)
  rw [pl_nil, List.nil_append] at h
  exact h
theorem ofB_pl {l : List Cel} (hb : l.length ≤ big) : pl (ofB l) = l.map Cel.inl ∧ NonNeg (ofB l) := by
  have h := foldO_pl l [] (fun _ h => nomatch h) (by simpa [pl] using hb)
  rw [pl_nil, List.nil_append] at h
  exact h

/-! ### proper blocks are one for what they tell -/
def PropL : List Blk → Prop
  | [] => True
  | b :: r => 0 < b.n ∧ (∀ c, r.head? = some c → b.set ≠ c.set) ∧ PropL r
theorem propL_iff : ∀ (l : List Blk), ProperB l ↔ PropL l := by
  intro l
  induction l with
  | nil => exact ⟨fun _ => trivial, fun _ i b h => by simp at h⟩
  | cons b r ih =>
    constructor
    · intro h
      refine ⟨(h 0 b rfl).1, fun c hc => ?_, ih.1 fun i x hx => ?_⟩
      · have h1 : (b :: r)[1]? = some c := by rw [List.getElem?_cons_succ, ← List.head?_eq_getElem?]; exact hc
        exact (h 1 c h1).2 b (by decide) rfl
      · have h2 := h (i + 1) x (by simpa using hx)
        refine ⟨h2.1, fun c hi hc => h2.2 c (by omega) ?_⟩
        have : i + 1 - 1 = (i - 1) + 1 := by omega
        rw [this, List.getElem?_cons_succ]; exact hc
    · rintro ⟨h1, h2, h3⟩ i x hx
      cases i with
      | zero => cases hx; exact ⟨h1, fun c hc => by omega⟩
      | succ i =>
        rw [List.getElem?_cons_succ] at hx
        have h4 := ih.2 h3 i x hx
        refine ⟨h4.1, fun c _ hc => ?_⟩
        cases i with
        | zero =>
          simp at hc; subst hc
          exact h2 x (by rw [List.head?_eq_getElem?]; exact hx)
        | succ i =>
          have : i + 1 + 1 - 1 = i + 1 := by omega
          rw [this, List.getElem?_cons_succ] at hc
          exact h4.2 c (by omega) (by simpa using hc)
theorem propL_snoc : ∀ (l : List Blk) (b : Blk), PropL (l ++ [b]) ↔ PropL l ∧ 0 < b.n ∧ ∀ c, l.getLast? = some c → c.set ≠ b.set := by
  intro l
  induction l with
  | nil => intro b; simp [PropL]
  | cons a r ih =>
    intro b
    simp only [List.cons_append, PropL, ih]
    cases r with
    | nil =>
      simp only [List.nil_append, List.head?_cons, Option.some.injEq, PropL, List.getLast?_singleton, List.head?_nil]
      constructor
      · rintro ⟨h1, h2, h3, h4, h5⟩; exact ⟨⟨h1, fun c h => (nomatch h), trivial⟩, h4, fun c hc => by subst hc; exact h2 b rfl⟩
      · rintro ⟨⟨h1, _, _⟩, h4, h5⟩; exact ⟨h1, fun c hc => by subst hc; exact h5 a rfl, trivial, h4, fun c h => (nomatch h)⟩
    | cons c r =>
      simp only [List.cons_append, List.head?_cons, List.getLast?_cons_cons]
      constructor
      · rintro ⟨h1, h2, h3, h4, h5⟩; exact ⟨⟨h1, h2, h3⟩, h4, h5⟩
      · rintro ⟨⟨h1, h2, h3⟩, h4, h5⟩; exact ⟨h1, h2, h3, h4, h5⟩
theorem addB_prop {acc : List Blk} {n : Int} {s : List Attr} (h : PropL acc) (hb : (pl acc).length + n.toNat ≤ big) : PropL (addB acc n s) := by
  by_cases hn : n ≤ 0
  · rw [addB_zero hn]; exact h
  have hn' : 0 < n := by omega
  rcases snoc_cases acc with rfl | ⟨i, b, rfl⟩
  · rw [addB_nil hn']; exact ⟨hn', fun c h => (nomatch h), trivial⟩
  · rw [addB_snoc hn']
    have h' := (propL_snoc i b).1 h
    rw [pl_append, List.length_append, pl_one, rep_len] at hb
    simp only [big] at hb
    by_cases hs : b.set = s
    · rw [if_pos hs]
      refine (propL_snoc _ _).2 ⟨h'.1, ?_, h'.2.2⟩
      have := h'.2.1
      show 0 < IntKind.i64.wrap (b.n + n)
      rw [wrap64 (by omega) (by omega)]; omega
    · rw [if_neg hs]
      refine (propL_snoc _ _).2 ⟨h, hn', fun c hc => ?_⟩
      simp at hc; subst hc; exact hs
theorem propL_nonneg : ∀ (l : List Blk), PropL l → NonNeg l := by
  intro l
  induction l with
  | nil => intro _ b hb; simp at hb
  | cons a r ih =>
    rintro ⟨h1, _, h3⟩ b hb
    rcases List.mem_cons.1 hb with rfl | hb
    · omega
    · exact ih h3 b hb
theorem foldJ_prop : ∀ (l acc : List Blk), PropL acc → (pl acc).length + (pl l).length ≤ big → PropL (foldJ acc l) := by
  intro l
  induction l with
  | nil => intro acc ha _; exact ha
  | cons b l ih =>
    intro acc ha hb
    rw [pl_cons, List.length_append, rep_len] at hb
    refine ih _ (addB_prop ha (by omega)) ?_
    rw [(addB_pl (propL_nonneg _ ha) (by omega)).1, List.length_append, rep_len]; omega
theorem foldO_prop : ∀ (l : List Cel) (acc : List Blk), PropL acc → (pl acc).length + l.length ≤ big → PropL (foldO acc l) := by
  intro l
  induction l with
  | nil => intro acc ha _; exact ha
  | cons b l ih =>
    intro acc ha hb
    rw [List.length_cons] at hb
    refine ih _ (addB_prop ha (by simp only [Int.toNat_one]; omega)) ?_
    rw [(addB_pl (propL_nonneg _ ha) (by simp only [Int.toNat_one]; omega)).1, List.length_append, rep_len]; simp only [Int.toNat_one]; omega
theorem joinB_prop {l : List Blk} (hb : (pl l).length ≤ big) : PropL (joinB l) := foldJ_prop l [] trivial (by simpa [pl] using hb)
theorem ofB_prop {l : List Cel} (hb : l.length ≤ big) : PropL (ofB l) := foldO_prop l [] trivial (by simpa [pl] using hb)
theorem pl_head {b : Blk} {r : List Blk} (h : PropL (b :: r)) : (pl (b :: r)).head? = some b.set := by
  rw [pl_cons]
  have h1 := h.1
  have : b.n.toNat = (b.n.toNat - 1) + 1 := by omega
  simp only [rep]
  rw [this, List.replicate_succ]; rfl
theorem uniq : ∀ (l m : List Blk), PropL l → PropL m → pl l = pl m → l = m := by
  intro l
  induction l with
  | nil =>
    intro m _ hm h
    cases m with
    | nil => rfl
    | cons c m => have := pl_head hm; rw [← h] at this; simp [pl] at this
  | cons b l ih =>
    intro m hl hm h
    cases m with
    | nil => have := pl_head hl; rw [h] at this; simp [pl] at this
    | cons c m =>
      have hs : b.set = c.set := by
        have h1 := pl_head hl
        have h2 := pl_head hm
        rw [h, h2] at h1; exact (Option.some.inj h1).symm
      have nohead : ∀ (b : Blk) (r : List Blk), PropL (b :: r) → ∀ n : Nat, (pl r)[0]? ≠ some b.set := by
        intro b r hp _ h
        cases r with
        | nil => simp [pl] at h
        | cons d r =>
          have := pl_head hp.2.2
          rw [← List.head?_eq_getElem?, this] at h
          exact hp.2.1 d rfl (Option.some.inj h).symm
      have hlen : b.n.toNat = c.n.toNat := by
        rw [pl_cons, pl_cons] at h
        rcases Nat.lt_trichotomy b.n.toNat c.n.toNat with hlt | heq | hgt
        · exfalso
          have h1 := congrArg (fun x => x[b.n.toNat]?) h
          rw [List.getElem?_append_right (by simp [rep]), List.getElem?_append_left (by rw [rep_len]; exact hlt)] at h1
          simp only [rep, List.length_replicate, Nat.sub_self, List.getElem?_replicate, hlt, if_true] at h1
          exact nohead b l hl 0 (by rw [h1, hs])
        · exact heq
        · exfalso
          have h1 := congrArg (fun x => x[c.n.toNat]?) h
          rw [List.getElem?_append_left (by rw [rep_len]; exact hgt), List.getElem?_append_right (by simp [rep])] at h1
          simp only [rep, List.length_replicate, Nat.sub_self, List.getElem?_replicate, hgt, if_true] at h1
          exact nohead c m hm 0 (by rw [← h1, hs])
      have hb1 := hl.1
      have hc1 := hm.1
      have hn : b.n = c.n := by omega
      have hbc : b = c := by cases b; cases c; simp only at hn hs; rw [hn, hs]
      subst hbc
      rw [pl_cons, pl_cons] at h
      rw [ih m hl.2.2 hm.2.2 (List.append_cancel_left h)]
/-- what stands at a place -/
theorem hit_pl {l : List Blk} (hn : NonNeg l) (hb : (pl l).length ≤ big) {i : Int} {k : Nat} (hk : k < l.length) (h : hitB l i k) : 0 ≤ i ∧ (pl l)[i.toNat]? = some l[k].set := by
  obtain ⟨h1, h2⟩ := h
  rw [atB_pl hn hb k (by omega)] at h1
  rw [atB_pl hn hb (k + 1) (by omega), pl_take_succ hk, List.length_append, rep_len] at h2
  have e : pl l = pl (l.take (k + 1)) ++ pl (l.drop (k + 1)) := by rw [← pl_append, List.take_append_drop]
  refine ⟨by omega, ?_⟩
  rw [e, pl_take_succ hk, List.append_assoc, List.getElem?_append_right (by omega), List.getElem?_append_left (by rw [rep_len]; omega)]
  simp only [rep, List.getElem?_replicate]
  rw [if_pos (by omega)]
theorem hit_ex {l : List Blk} (hn : NonNeg l) (hb : (pl l).length ≤ big) {i : Int} (h0 : 0 ≤ i) (h1 : i < (pl l).length) : ∃ k, k < l.length ∧ hitB l i k := by
  have : ∀ q, q ≤ l.length → i < (pl (l.take q)).length → ∃ k, k < l.length ∧ hitB l i k := by
    intro q
    induction q with
    | zero => intro _ h; simp [pl] at h; omega
    | succ q ih =>
      intro hq h
      by_cases hlt : i < (pl (l.take q)).length
      · exact ih (by omega) hlt
      · refine ⟨q, by omega, ?_, ?_⟩
        · rw [atB_pl hn hb q (by omega)]; omega
        · rw [atB_pl hn hb (q + 1) (by omega)]; exact h
  exact this l.length (Nat.le_refl _) (by rw [List.take_length]; exact h1)
theorem hit_not {l : List Blk} (hn : NonNeg l) (hb : (pl l).length ≤ big) {i : Int} (h : ¬ (0 ≤ i ∧ i < (pl l).length)) {k : Nat} (hk : k < l.length) : ¬ hitB l i k := by
  intro hh
  obtain ⟨h1, h2⟩ := hit_pl hn hb hk hh
  have := (List.getElem?_eq_some_iff.1 h2).1
  exact h ⟨h1, by omega⟩
/-- a cut's places -/
theorem cutT_pl {l : List Blk} (hn : NonNeg l) (hb : (pl l).length ≤ big) {i j : Int} (hi : 0 ≤ i) (hj : 0 ≤ j) (hi2 : i ≤ 9223372036854775807) : ∀ k, k ≤ l.length → pl (cutT l i j k) = ((pl (l.take k)).take j.toNat).drop i.toNat ∧ PropL (cutT l i j k) := by
  intro k
  induction k with
  | zero => intro _; exact ⟨by simp [cutT, pl], trivial⟩
  | succ k ih =>
    intro hk
    obtain ⟨h1, h2⟩ := ih (by omega)
    rw [cutT_succ (by omega)]
    have ha := atB_pl hn hb k (by omega)
    have hb' := atB_pl hn hb (k + 1) (by omega)
    have h3 := pl_take_le l (k + 1)
    have hnk := hn l[k] (by simp)
    rw [pl_take_succ (by omega), List.length_append, rep_len] at h3 hb'
    simp only [big] at hb
    have hcn : (cutN (atB l (k + 1)) j (atB l k) i).toNat = min l[k].n.toNat (j.toNat - (pl (l.take k)).length) - (i.toNat - (pl (l.take k)).length) ∧ (cutN (atB l (k + 1)) j (atB l k) i).toNat ≤ l[k].n.toNat := by
      unfold cutN minI maxI
      rw [ha, hb']
      split <;> split <;> (rw [wrap64 (by omega) (by omega)]; omega)
    have hlen : (pl (cutT l i j k)).length ≤ (pl (l.take k)).length := by rw [h1]; simp; omega
    obtain ⟨h4, h5⟩ := addB_pl (s := l[k].set) (n := cutN (atB l (k + 1)) j (atB l k) i) (propL_nonneg _ h2) (by simp only [big]; omega)
    refine ⟨?_, addB_prop h2 (by simp only [big]; omega)⟩
    rw [h4, h1, pl_take_succ (by omega), List.take_append, List.drop_append]
    congr 1
    simp only [rep, List.take_replicate, List.drop_replicate]
    congr 1
    rw [hcn.1, List.length_take]
    omega
theorem cutB_pl {l : List Blk} (hn : NonNeg l) (hb : (pl l).length ≤ big) (i j : Int) : pl (cutB l i j) = ((pl l).take j.toNat).drop i.toNat ∧ PropL (cutB l i j) := by
  have hlen := atB_pl hn hb l.length (Nat.le_refl _)
  rw [List.take_length] at hlen
  have e1 : maxI i 0 = i.toNat := by unfold maxI; split <;> omega
  have e2 : (minI (maxI j 0) (atB l l.length)) = min j.toNat (pl l).length := by unfold minI maxI; rw [hlen]; split <;> split <;> omega
  unfold cutB
  rw [e1, e2]
  split
  · rename_i h
    refine ⟨?_, trivial⟩
    have : (((pl l).take j.toNat).drop i.toNat).length = 0 := by simp; omega
    rw [List.eq_nil_of_length_eq_zero this]; rfl
  · obtain ⟨h1, h2⟩ := cutT_pl hn hb (i := (i.toNat : Int)) (j := ((min j.toNat (pl l).length : Nat) : Int)) (by omega) (by omega) (by simp only [big] at hb; omega) l.length (Nat.le_refl _)
    refine ⟨?_, h2⟩
    rw [h1, List.take_length]
    simp only [Int.toNat_natCast]
    congr 1
    rcases Nat.le_total j.toNat (pl l).length with h | h
    · rw [Nat.min_eq_left h]
    · rw [Nat.min_eq_right h, List.take_of_length_le (Nat.le_refl _), List.take_of_length_le h]
end Go.Proofs.YtlbaopamhkmepaaGreatDoor

namespace Go.Proofs.YtlbaopamhkmepaaGreatDoor
open Go Go.K

def Tame1 (b : Blk) : Prop := 0 ≤ b.n ∧ b.n ≤ 1099511627776 ∧ b.set.length ≤ 30
instance (b : Blk) : Decidable (Tame1 b) := by unfold Tame1; infer_instance
def TameB (l : List Blk) : Prop := l.length ≤ 200 ∧ ∀ b ∈ l, Tame1 b
instance (l : List Blk) : Decidable (TameB l) := by unfold TameB; infer_instance
theorem pl_le : ∀ (l : List Blk), (∀ b ∈ l, Tame1 b) → (pl l).length ≤ l.length * 1099511627776 := by
  intro l
  induction l with
  | nil => intro _; simp [pl]
  | cons b l ih =>
    intro h
    have h1 := ih fun c hc => h c (by simp [hc])
    have h2 := (h b (by simp))
    rw [pl_cons, List.length_append, rep_len, List.length_cons, Nat.add_mul]
    have := h2.1
    have := h2.2.1
    omega
theorem TameB.big {l : List Blk} (h : TameB l) : (pl l).length ≤ 219902325555200 := by
  have h1 := pl_le l h.2
  have h2 : l.length * 1099511627776 ≤ 200 * 1099511627776 := Nat.mul_le_mul_right _ h.1
  omega
theorem TameB.nn {l : List Blk} (h : TameB l) : NonNeg l := fun b hb => (h.2 b hb).1
theorem TameB.le {l : List Blk} (h : TameB l) : (pl l).length ≤ Go.Proofs.YtlbaopamhkmepaaGreatDoor.big := by have := h.big; simp only [Go.Proofs.YtlbaopamhkmepaaGreatDoor.big]; omega
theorem TameB.sets {l : List Blk} (h : TameB l) : ∀ b ∈ l, b.set.length ≤ 30 := fun b hb => (h.2 b hb).2.2
theorem atB_len {l : List Blk} (hn : NonNeg l) (hb : (pl l).length ≤ big) : atB l l.length = (pl l).length := by
  rw [atB_pl hn hb _ (Nat.le_refl _), List.take_length]
theorem join_same {l m : List Blk} (hl : (pl l).length ≤ big) (hm : (pl m).length ≤ big) : joinB l = joinB m ↔ pl l = pl m := by
  constructor
  · intro h
    rw [← (joinB_pl hl).1, ← (joinB_pl hm).1, h]
  · intro h
    exact uniq _ _ (joinB_prop hl) (joinB_prop hm) (by rw [(joinB_pl hl).1, (joinB_pl hm).1, h])

end Go.Proofs.YtlbaopamhkmepaaGreatDoor

namespace Go.Proofs.YtlbaopamhkmepaaGreatDoor
open Go Go.K

theorem cutB_sets {l : List Blk} {i j : Int} {m : Nat} (h : ∀ b ∈ l, b.set.length ≤ m) : ∀ b ∈ cutB l i j, b.set.length ≤ m := by
  have key : ∀ (i j : Int) k, ∀ b ∈ cutT l i j k, b.set.length ≤ m := by
    intro i j k
    induction k with
    | zero => intro b hb; simp [cutT] at hb
    | succ k ih =>
      intro b hb
      simp only [cutT] at hb
      split at hb
      · rename_i c hc
        rcases addB_sets b hb with e | ⟨d, hd, e⟩
        · rw [e]; exact h c (List.mem_of_getElem? hc)
        · rw [e]; exact ih d hd
      · exact ih b hb
  intro b hb
  unfold cutB at hb
  split at hb
  · simp at hb
  · exact key _ _ _ b hb
theorem cutB_len {l : List Blk} {i j : Int} : (cutB l i j).length ≤ l.length := by
  unfold cutB; split
  · simp
  · exact cutT_len _ _ _ _
theorem pl_cut_len {l : List Blk} (hn : NonNeg l) (hb : (pl l).length ≤ big) (i j : Int) : (pl (cutB l i j)).length ≤ (pl l).length := by
  rw [(cutB_pl hn hb i j).1]; simp; omega
theorem RBlks.mod {S D M : Nat → Prop} {w w' : World} {v : Value} {l : List Blk} (h : RBlks S D w v l) (hm : Mod M w w') (hS : ∀ b, b < w.heap.size → S b → ¬ M b) (hD : ∀ b, b < w.heap.size → D b → ¬ M b) : RBlks S D w' v l :=
  SlR.mono h (fun _ _ h => h) (fun b hb hs => hm.same b hb (hS b hb hs)) (by decide) fun _ _ hx => hx.mod hm hD fun _ _ h => h
theorem take_drop_min {α : Type} (l : List α) (i j k : Nat) (hi : i ≤ j) : ((l.take j).drop i).take k = (l.take (min (i + k) j)).drop i := by
  rw [List.drop_take, List.take_take, List.drop_take]
  congr 1
  omega
end Go.Proofs.YtlbaopamhkmepaaGreatDoor

namespace Go.Proofs.YtlbaopamhkmepaaGreatDoor
open Go Go.K

/-- a set appended to an empty one of one's own -/
theorem app_set {S : Nat → Prop} {B : Nat} {w : World} {v sv : Value} {set : List Attr} {K : Cont} (ho : OSet B w v []) (hs : RSet S w sv set) (hB : B ≤ w.heap.size) (hset : set.length * 48 ≤ 140737488355328)
    (hK : ∀ v' w', OSet B w' v' set → Mod (fun b => B ≤ b) w w' → K v' w') :
    runK Tryz.prog (Builtin.append_ #[36, 36] 36 [v, sv].toArray) K w := by
  have hm : set.length ≤ maxLen := by obtain ⟨_, _, _, h⟩ := hs.shape; exact h
  obtain ⟨v', w', h1, h2, h3, h4⟩ := OwnR.append (ty := 36) elem_attr ho hs (fun _ _ => RAttr.one) (by simpa using hset) hB (by simpa using hm) (fun _ _ _ _ h => h)
  exact runK_i h1 (hK v' w' h2 ((Mod.of_grownBy h3).mono fun b _ e => (OwnR.ownB ho b e).1))
/-- the document's cut -/
def rcutB (l : List Blk) (i j : Int) : List Blk := if maxI i 0 < j then cutT l (maxI i 0) j l.length else []
end Go.Proofs.YtlbaopamhkmepaaGreatDoor

namespace Go.K
open Go
theorem condK_p {p : Prop} [Decidable p] {A B : Prop} (h1 : p → A) (h2 : ¬ p → B) : condK (.bool (decide p)) A B := by
  rw [condK_d]; split
  · exact h1 (by assumption)
  · exact h2 (by assumption)
theorem addr0 (g x : Nat) : (⟨g, 0, none⟩ : Addr).add x = ⟨g, x, none⟩ := by unfold Addr.add; split <;> simp_all
/-- a comparison whose both ways go well; the numbers stay closed -/
theorem ltK_ab {q : IntKind} {a b : Int} {A B : Prop} (hA : A) (hB : B) : ltK q (.int q a) (.int q b) fun t => condK t A B := by
  rw [ltK_i]; exact condK_p (fun _ => hA) fun _ => hB
/-- a cell that is there and may be written -/
def Live (w : World) (a : Addr) : Prop := (w.cell? a).isSome = true ∧ w.frozen? a = false
theorem Live.set {w : World} {a : Addr} (h : Live w a) (b : Addr) (u : Value) : Live (w.setCell b u) a := by
  refine ⟨?_, by rw [World.frozen?_setCell]; exact h.2⟩
  obtain ⟨v, hv⟩ := Option.isSome_iff_exists.1 h.1
  by_cases e : b = a
  · subst e; rw [World.cell?_setCell_same w _ u hv]; rfl
  · rw [World.cell?_setCell_other w _ _ u e, hv]; rfl
theorem Live.mod {M : Nat → Prop} {w w' : World} {a : Addr} (h : Live w a) (hm : Mod M w w') (hn : ¬ M a.block) : Live w' a := by
  obtain ⟨v, hv⟩ := Option.isSome_iff_exists.1 h.1
  exact ⟨by rw [hm.cell hv hn]; rfl, (hm.frozen (World.block_lt_of_cell? w a hv) hn).trans h.2⟩
theorem Live.st {w : World} {a : Addr} {u : Value} {K : World → Prop} (h : Live w a) (h1 : u.oneCell' = true) (h2 : u.cells = #[u]) (hK : K (w.setCell a u)) : st1K (.pointer (some a)) u K w := by
  obtain ⟨v, hv⟩ := Option.isSome_iff_exists.1 h.1
  exact st1K_i h1 h2 hv h.2 hK
theorem OwnR.live {α : Type} {B e k : Nat} {R : World → List Value → α → Prop} {w : World} {a : Option Addr} {n c : Nat} {l : List α} (h : OwnR B e k R w (.slice a n c) l) {i j : Nat} (hi : i < l.length) (hj : j < k) :
    ∃ g, a = some ⟨g, 0, none⟩ ∧ n = l.length ∧ Live w ((⟨g, 0, none⟩ : Addr).add (i * k + j)) := by
  obtain ⟨rows, h1, h2, h3, h4⟩ := h
  have hrl : ∀ r ∈ rows, r.length = k := fun r hr => (h3 r hr).1
  have hsh : ∃ g, a = some ⟨g, 0, none⟩ ∧ n = l.length := by
    rcases h1.2 with ⟨h', hn⟩ | ⟨g', cap', cur, h', _⟩
    · omega
    · simp only [Value.slice.injEq] at h'; exact ⟨g', h'.1, h'.2.1⟩
  obtain ⟨g, rfl, rfl⟩ := hsh
  refine ⟨g, rfl, rfl, ?_⟩
  have hadd : (⟨g, 0, none⟩ : Addr).add (i * k + j) = ⟨g, i * k + j, none⟩ := by unfold Addr.add; split <;> simp_all
  have hlt : i * k + j < l.length * k := by
    have : (i + 1) * k ≤ l.length * k := Nat.mul_le_mul_right _ hi
    rw [Nat.add_mul] at this; omega
  rw [hadd]
  refine ⟨?_, h1.frozenAt _⟩
  rw [h1.cellAt _ hlt]
  simp [flat_len rows hrl, h2, hlt]
/-- the loop that writes one cell of each element -/
theorem wr_loop {sz off : Nat} {v u : Value} {n : Nat} {M : Nat → Prop} {w : World} {Rest : World → Prop} (J : World → Prop) (h1 : u.oneCell' = true) (h2 : u.cells = #[u]) (hn : (n : Int) ≤ 9223372036854775806) (hJ : J w)
    (hs : ∀ W, J W → ∀ i, i < n → ∃ p c, v = .slice (some p) n c ∧ Live W (p.add (i * sz + off)) ∧ J (W.setCell (p.add (i * sz + off)) u)) (hR : ∀ W, J W → Rest W) :
    LoopK [.int .i64 0] (fun vs again w17 => ∀ _ : Env, ltK .i64 (nth vs 0) (.int .i64 n) fun t114 => condK t114 (ixK sz v (nth vs 0) fun t118 => faK off t118 fun t119 => st1K t119 u (fun w18 => addK .i64 (nth vs 0) (.int .i64 1) fun t120 => again [t120] w18) w17) (Rest w17)) w := by
  refine LoopK_i (fun vs w1 => ∃ k : Nat, k ≤ n ∧ vs = [.int .i64 k] ∧ J w1) (fun vs _ => n - iOf vs 0) ⟨0, Nat.zero_le _, rfl, hJ⟩ ?_
  rintro vs w1 ⟨k, hk, rfl, hj⟩ _
  simp only [KS]
  by_cases hlt : k < n
  · rw [if_pos (show (k : Int) < n by omega)]
    obtain ⟨p, c, rfl, hl, hj'⟩ := hs w1 hj k hlt
    refine ixK_n hlt ?_
    simp only [KS]
    refine hl.st h1 h2 ?_
    refine ⟨⟨k + 1, by omega, by rw [wrap64 (by omega) (by omega)]; rfl, hj'⟩, ?_⟩
    simp only [iOf, nth, List.headD_cons]; rw [wrap64 (by omega) (by omega)]; omega
  · rw [if_neg (show ¬ (k : Int) < n by omega)]
    exact hR w1 hj
end Go.K

namespace Go.Proofs.YtlbaopamhkmepaaGreatDoor
open Go Go.K

structure Chg where
  key : Int
  gone : Bool
  val : AVal
  deriving DecidableEq
def Chg.cells (a : Chg) : List Value := .int .i64 a.key :: .bool a.gone :: a.val.cells
theorem Chg.cells_len (a : Chg) : a.cells.length = 6 := rfl
abbrev RChg : World → List Value → Chg → Prop := fun _ r x => r = x.cells
abbrev RRune : World → List Value → Int → Prop := fun _ r x => r = [.int .i32 x]
/-- runes, patches in memory -/
abbrev RRun (S : Nat → Prop) (w : World) (v : Value) (l : List Int) : Prop := SlR S 1 RRune w v l
abbrev RPat (S : Nat → Prop) (w : World) (v : Value) (l : List Chg) : Prop := SlR S 6 RChg w v l
theorem RRune.one {w : World} {r : List Value} {x : Int} (h : RRune w r x) : ∀ u ∈ r, u.oneCell' = true := by
  subst h; intro u hu; simp at hu; subst hu; rfl
theorem RChg.one {w : World} {r : List Value} {x : Chg} (h : RChg w r x) : ∀ u ∈ r, u.oneCell' = true := by
  intro u hu
  subst h
  simp only [Chg.cells, AVal.cells, List.mem_cons, List.not_mem_nil, or_false] at hu
  rcases hu with rfl | rfl | rfl | rfl | rfl | rfl <;> rfl
theorem elem_rune : ElemOK Tryz.prog 35 21 1 4 := ⟨Tryz.t21, .int .i32 0, by kernel_rfl, by kernel_rfl, by kernel_rfl, by kernel_rfl, by kernel_rfl, by rfl, by decide⟩
theorem elem_chg : ElemOK Tryz.prog 37 111 6 56 := ⟨Tryz.t111, .agg #[.int .i64 0, .bool false, .int .u8 0, .int .i64 0, .int .u64 0, .string ⟨#[]⟩], by kernel_rfl, by kernel_rfl, by kernel_rfl, by kernel_rfl, by kernel_rfl, by rfl, by decide⟩

theorem eqIn_val (n : Nat) (x y : AVal) (w : World) :
    (Op.equalIn (n + 2) 107 (.agg x.cells.toArray) (.agg y.cells.toArray)).run Tryz.prog w = .ok (decide (x = y)) w := by
  have hV : Tryz.prog.underlying 107 = some (.struct (Tryz.prog.fieldsOf 107)) := by kernel_rfl
  have u2 := Tryz.underlying5
  have u3 := Tryz.underlying2
  have u4 := Tryz.underlying34
  have u5 := Tryz.underlying9
  have a3 := Tryz.isAgg5
  have a4 := Tryz.isAgg2
  have a5 := Tryz.isAgg34
  have a6 := Tryz.isAgg9
  rw [run_equalIn_agg w (n + 1) _ _ _ hV Tryz.stoodInHeld107]
  simp only [Program.fieldsOf, Tryz.underlying107, AVal.cells]
  have e1 : ∀ a b : Int, (Op.equalIn (n + 1) 5 (.int .u8 a) (.int .u8 b)).run Tryz.prog w = .ok (a == b) w := fun a b => run_equalIn_int w n _ _ _ a b u2
  have e2 : ∀ a b : Int, (Op.equalIn (n + 1) 2 (.int .i64 a) (.int .i64 b)).run Tryz.prog w = .ok (a == b) w := fun a b => run_equalIn_int w n _ _ _ a b u3
  have e3 : ∀ a b : Int, (Op.equalIn (n + 1) 34 (.int .u64 a) (.int .u64 b)).run Tryz.prog w = .ok (a == b) w := fun a b => run_equalIn_int w n _ _ _ a b u4
  have e4 : ∀ a b : ByteArray, (Op.equalIn (n + 1) 9 (.string a) (.string b)).run Tryz.prog w = .ok (a.toList == b.toList) w := fun a b => run_equalIn_string w n _ a b u5
  have q : decide (x = y) = (x.kind == y.kind && (x.n == y.n && (x.f == y.f && decide (x.s = y.s)))) := by
    cases x; cases y
    rw [Bool.eq_iff_iff]
    simp [AVal.mk.injEq]
  rw [q]
  simp [Op.eqFields, part, a3, a4, a5, a6, e1, e2, e3, e4, toList_beq]
  by_cases h1 : x.kind = y.kind <;> by_cases h2 : x.n = y.n <;> by_cases h3 : x.f = y.f <;> by_cases h4 : x.s = y.s <;> simp [h1, h2, h3, h4]
theorem eqIn_chg (a b : Chg) (w : World) :
    (Op.equalIn 10000 111 (.agg a.cells.toArray) (.agg b.cells.toArray)).run Tryz.prog w = .ok (decide (a = b)) w := by
  have hS : Tryz.prog.underlying 111 = some (.struct (Tryz.prog.fieldsOf 111)) := by kernel_rfl
  rw [show (10000 : Nat) = 9999 + 1 from rfl, run_equalIn_agg w 9999 _ _ _ hS Tryz.stoodInHeld111]
  simp only [Program.fieldsOf, Tryz.underlying111, Chg.cells, AVal.cells]
  have a1 := Tryz.isAgg3
  have a2 := Tryz.isAgg107
  have a3 := Tryz.isAgg4
  have z2 : ∀ w, (sizeOf 107).run Tryz.prog w = .ok 4 w := fun w => by simp only [sizeOf, Sem.run_bind, Tryz.typeInfo107, Result.andThen_ok, Sem.run_pure]; rfl
  have e1 : ∀ a b : Int, (Op.equalIn 9999 3 (.int .i64 a) (.int .i64 b)).run Tryz.prog w = .ok (a == b) w := fun a b => run_equalIn_int w 9998 _ _ _ a b Tryz.underlying3
  have e2 : ∀ a b : Bool, (Op.equalIn 9999 4 (.bool a) (.bool b)).run Tryz.prog w = .ok (a == b) w := fun a b => run_equalIn_bool w 9998 _ a b Tryz.underlying4
  have e3 : (Op.equalIn 9999 107 (.agg #[.int .u8 a.val.kind, .int .i64 a.val.n, .int .u64 a.val.f, .string a.val.s]) (.agg #[.int .u8 b.val.kind, .int .i64 b.val.n, .int .u64 b.val.f, .string b.val.s])).run Tryz.prog w = .ok (decide (a.val = b.val)) w := eqIn_val 9997 a.val b.val w
  have x1 : ∀ k l q r s t : Value, (#[k, l, q, r, s, t] : Array Value).extract 2 6 = #[q, r, s, t] := fun _ _ _ _ _ _ => rfl
  have q : decide (a = b) = (a.key == b.key && (a.gone == b.gone && decide (a.val = b.val))) := by
    cases a; cases b
    rw [Bool.eq_iff_iff]
    simp [Chg.mk.injEq]
  rw [q]
  simp [Op.eqFields, part, a1, a2, a3, z2, e1, e2, e3, x1]
  by_cases h1 : a.key = b.key <;> by_cases h2 : a.gone = b.gone <;> by_cases h3 : a.val = b.val <;> simp [h1, h2, h3]
theorem run_ne_chg (xo yo : Operand) (a b : Chg) (w : World) :
    (binS .neq 111 xo yo (.agg a.cells.toArray) (.agg b.cells.toArray)).run Tryz.prog w = .ok (.bool (!decide (a = b))) w := by
  simp only [binS, Sem.run_bind, run_eqGuard_agg w .neq _ xo yo _ _ Tryz.eqGuardType111, Result.andThen_ok]
  rw [run_neq_struct, eqIn_chg]; rfl
theorem run_eq_val (xo yo : Operand) (a b : AVal) (w : World) :
    (binS .eql 107 xo yo (.agg a.cells.toArray) (.agg b.cells.toArray)).run Tryz.prog w = .ok (.bool (decide (a = b))) w := by
  simp only [binS, Sem.run_bind, run_eqGuard_agg w .eql _ xo yo _ _ Tryz.eqGuardType107, Result.andThen_ok]
  rw [run_eql_struct, eqIn_val 9998]; rfl
theorem run_ne_val (xo yo : Operand) (a b : AVal) (w : World) :
    (binS .neq 107 xo yo (.agg a.cells.toArray) (.agg b.cells.toArray)).run Tryz.prog w = .ok (.bool (!decide (a = b))) w := by
  simp only [binS, Sem.run_bind, run_eqGuard_agg w .neq _ xo yo _ _ Tryz.eqGuardType107, Result.andThen_ok]
  rw [run_neq_struct, eqIn_val 9998]; rfl

/-! ### ops -/
structure Dop where
  kind : Int
  n : Int
  runes : List Int
  set : List Attr
  patch : List Chg
  deriving DecidableEq
/-- an op's five cells, its lists in blocks of D -/
def RDop (D : Nat → Prop) (w : World) (r : List Value) (o : Dop) : Prop := ∃ rv sv pv, r = [.int .u8 o.kind, .int .i64 o.n, rv, sv, pv] ∧ RRun D w rv o.runes ∧ RSet D w sv o.set ∧ RPat D w pv o.patch
theorem RDop.one {D : Nat → Prop} {w : World} {r : List Value} {o : Dop} (h : RDop D w r o) : ∀ u ∈ r, u.oneCell' = true := by
  obtain ⟨rv, sv, pv, rfl, h1, h2, h3⟩ := h
  obtain ⟨a1, c1, rfl, _⟩ := h1.shape
  obtain ⟨a2, c2, rfl, _⟩ := h2.shape
  obtain ⟨a3, c3, rfl, _⟩ := h3.shape
  intro u hu
  simp only [List.mem_cons, List.not_mem_nil, or_false] at hu
  rcases hu with rfl | rfl | rfl | rfl | rfl <;> rfl
theorem RDop.mod {D D' M : Nat → Prop} {w w' : World} {r : List Value} {o : Dop} (h : RDop D w r o) (hm : Mod M w w') (hD : ∀ b, b < w.heap.size → D b → ¬ M b) (hD' : ∀ b, b < w.heap.size → D b → D' b) : RDop D' w' r o := by
  obtain ⟨rv, sv, pv, rfl, h1, h2, h3⟩ := h
  exact ⟨rv, sv, pv, rfl, h1.mono hD' (fun b hb hd => hm.same b hb (hD b hb hd)) (by decide) fun _ _ h => h, h2.mono hD' (fun b hb hd => hm.same b hb (hD b hb hd)) (by decide) fun _ _ h => h, h3.mono hD' (fun b hb hd => hm.same b hb (hD b hb hd)) (by decide) fun _ _ h => h⟩
theorem elem_dop : ElemOK Tryz.prog 31 39 5 88 := ⟨Tryz.t39, .agg #[.int .u8 0, .int .i64 0, .slice none 0 0, .slice none 0 0, .slice none 0 0], by kernel_rfl, by kernel_rfl, by kernel_rfl, by kernel_rfl, by kernel_rfl, by rfl, by decide⟩
/-- ops in memory: their row in S, what they hold in D -/
abbrev RDops (S D : Nat → Prop) (w : World) (v : Value) (l : List Dop) : Prop := SlR S 5 (RDop D) w v l
theorem RDops.grow {S D : Nat → Prop} {w w' : World} {v : Value} {l : List Dop} (h : RDops S D w v l) (hg : Grow w w') : RDops S D w' v l :=
  SlR.grow h hg (by decide) fun _ _ hx => hx.mod hg (fun _ _ _ h => h) fun _ _ h => h
theorem RDops.mod {S D M : Nat → Prop} {w w' : World} {v : Value} {l : List Dop} (h : RDops S D w v l) (hm : Mod M w w') (hS : ∀ b, b < w.heap.size → S b → ¬ M b) (hD : ∀ b, b < w.heap.size → D b → ¬ M b) : RDops S D w' v l :=
  SlR.mono h (fun _ _ h => h) (fun b hb hs => hm.same b hb (hS b hb hs)) (by decide) fun _ _ hx => hx.mod hm hD fun _ _ h => h
/-- an op's lists in rows of their own, which lie in D -/
def ODop (D : Nat → Prop) (w : World) (r : List Value) (o : Dop) : Prop := ∃ rv sv pv, r = [.int .u8 o.kind, .int .i64 o.n, rv, sv, pv] ∧
  (OwnR 0 21 1 RRune w rv o.runes ∧ ∀ g, rv.ownBlock = some g → D g) ∧ (OSet 0 w sv o.set ∧ ∀ g, sv.ownBlock = some g → D g) ∧ (OwnR 0 111 6 RChg w pv o.patch ∧ ∀ g, pv.ownBlock = some g → D g)
theorem own_rd {α : Type} {e k : Nat} {R : World → List Value → α → Prop} {D : Nat → Prop} {w : World} {v : Value} {l : List α} (hk : 0 < k) (h : OwnR 0 e k R w v l ∧ ∀ g, v.ownBlock = some g → D g) : SlR D k R w v l :=
  SlR.sub (OwnR.sl h.1) (fun g _ hg => h.2 g hg.2) hk fun _ _ h => h
theorem own_mod {α : Type} {e k : Nat} {R : World → List Value → α → Prop} {D D' M : Nat → Prop} {w w' : World} {v : Value} {l : List α} (h : OwnR 0 e k R w v l ∧ ∀ g, v.ownBlock = some g → D g) (hm : Mod M w w') (hD : ∀ b, b < w.heap.size → D b → ¬ M b) (hD' : ∀ b, b < w.heap.size → D b → D' b)
    (hR : ∀ r x, R w r x → R w' r x) : OwnR 0 e k R w' v l ∧ ∀ g, v.ownBlock = some g → D' g :=
  ⟨OwnR.mod h.1 hm (fun g hg => hD g (OwnR.ownB h.1 g hg).2 (h.2 g hg)) fun r x _ hx => hR r x hx, fun g hg => hD' g (OwnR.ownB h.1 g hg).2 (h.2 g hg)⟩
theorem ODop.rd {D : Nat → Prop} {w : World} {r : List Value} {o : Dop} (h : ODop D w r o) : RDop D w r o := by
  obtain ⟨rv, sv, pv, rfl, h1, h2, h3⟩ := h
  exact ⟨rv, sv, pv, rfl, own_rd (by decide) h1, own_rd (by decide) h2, own_rd (by decide) h3⟩
theorem ODop.one {D : Nat → Prop} {w : World} {r : List Value} {o : Dop} (h : ODop D w r o) : ∀ u ∈ r, u.oneCell' = true := h.rd.one
theorem ODop.mod {D D' M : Nat → Prop} {w w' : World} {r : List Value} {o : Dop} (h : ODop D w r o) (hm : Mod M w w') (hD : ∀ b, b < w.heap.size → D b → ¬ M b) (hD' : ∀ b, b < w.heap.size → D b → D' b) : ODop D' w' r o := by
  obtain ⟨rv, sv, pv, rfl, h1, h2, h3⟩ := h
  exact ⟨rv, sv, pv, rfl, own_mod h1 hm hD hD' fun _ _ h => h, own_mod h2 hm hD hD' fun _ _ h => h, own_mod h3 hm hD hD' fun _ _ h => h⟩
/-- ops in memory of their own from B on, what they hold too; none of that lies in the row -/
def ODops (B : Nat) (w : World) (v : Value) (l : List Dop) : Prop := OwnR B 39 5 (ODop fun b => B ≤ b ∧ v.ownBlock ≠ some b) w v l
theorem ODops.sl {B : Nat} {w : World} {v : Value} {l : List Dop} (h : ODops B w v l) : RDops (fun b => B ≤ b ∧ v.ownBlock = some b) (fun b => B ≤ b ∧ v.ownBlock ≠ some b) w v l :=
  SlR.sub (OwnR.sl h) (fun _ _ h => h) (by decide) fun _ _ h => h.rd
theorem ODops.grow {B : Nat} {w w' : World} {v : Value} {l : List Dop} {M : Nat → Prop} (h : ODops B w v l) (hm : Mod M w w') (hM : ∀ b, b < w.heap.size → B ≤ b → ¬ M b) : ODops B w' v l :=
  OwnR.mod h hm (fun g hg => hM g (OwnR.ownB h g hg).2 (OwnR.ownB h g hg).1) fun r x _ hx => hx.mod hm (fun b hb hd => hM b hb hd.1) fun _ _ h => h
theorem ODops.reads {B : Nat} {w : World} {v : Value} {l : List Dop} (h : ODops B w v l) : RDops (fun b => B ≤ b ∧ b < w.heap.size) (fun b => B ≤ b ∧ b < w.heap.size) w v l :=
  SlR.sub (ODops.sl h) (fun b hb h => ⟨h.1, hb⟩) (by decide) fun r x hx => hx.mod (Mod.refl (fun _ => False) _) (fun _ _ _ h => h) fun b hb h => ⟨h.1, hb⟩
/-! ### keys -/
structure DKey where
  id : Int
  block : Bool
  kind : Int
  after : Bool
  before : Bool
  group : Int
  deriving DecidableEq
def DKey.cells (k : DKey) : List Value := [.int .i64 k.id, .bool k.block, .int .u8 k.kind, .bool k.after, .bool k.before, .int .i64 k.group]
abbrev RKey : World → List Value → DKey → Prop := fun _ r x => r = x.cells
abbrev RKeys (S : Nat → Prop) (w : World) (v : Value) (l : List DKey) : Prop := SlR S 6 RKey w v l
theorem RKey.one {w : World} {r : List Value} {x : DKey} (h : RKey w r x) : ∀ u ∈ r, u.oneCell' = true := by
  intro u hu
  subst h
  simp only [DKey.cells, List.mem_cons, List.not_mem_nil, or_false] at hu
  rcases hu with rfl | rfl | rfl | rfl | rfl | rfl <;> rfl
/-- how much there is in an attribute, a change, an op -/
def mAttr (a : Attr) : Nat := a.val.s.size + 1
def mChg (a : Chg) : Nat := a.val.s.size + 1
def mSet (l : List Attr) : Nat := (l.map mAttr).sum
def mPat (l : List Chg) : Nat := (l.map mChg).sum
def mDop (o : Dop) : Nat := 1 + o.runes.length + mSet o.set + mPat o.patch
def mDops (l : List Dop) : Nat := (l.map mDop).sum
end Go.Proofs.YtlbaopamhkmepaaGreatDoor
