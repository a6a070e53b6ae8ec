/- Functions with ranges over iterators anywhere: in loops, one behind the other. No conditions. By a program of ours: of each function below the predicate that its code comes to, and that it is sound. No conditions. Contracts: comparing and copying sets of attributes. No conditions but that the slices read as such. Contracts: adding to blocks. Conditions: the blocks lie in memory of the call's own. Contracts: joining blocks, and the blocks of cells. No conditions but the sizes. Contracts: the document's comparing, and whether blocks are proper. No conditions. Contracts: the iterator over blocks, and how long blocks are. No conditions. Ranges over iterators in use: rounds, marks, a range of no rounds. No conditions. Contracts: how long blocks are, what stands at a place. No conditions. Contracts: what stands at a place. Conditions: the sets' sizes. Contracts: cutting blocks. Conditions: the sizes. Contracts: the document's blocks. Conditions: the sizes. Contracts: what is known, and what is looked at. No conditions. Plain laws of blocks: joining, the blocks of cells. No program in sight. The law BlocksJoin: it answers true, and leaves all memory as it was. No conditions. What is handed in, opened: sets, blocks, cells. No conditions. Plain laws of blocks: the places that blocks tell. No program in sight. What is tame; the law BlocksPlaces: it answers true, and leaves all memory as it was. No conditions. The law BlocksCuts: it answers true, and leaves all memory as it was. No conditions. Contracts: the document's copy and cut. Conditions: the sizes. Writing over what was told: cells that may be written, and the loops that write them. No conditions. The program's data as Lean data: runes, changes, ops. What the model's comparing says of them. No conditions. What is handed in, opened, with how much it holds: sets, patches, runes, ops, keys. No conditions. Keys that are handed in, opened. No conditions. By a program of ours: of each function below the predicate that its code comes to, and that it is sound. No conditions. Copying and comparing rows, for any kind of element; at runes, patches, ops. No conditions but the sizes. Contracts: ops one by one: form, length, what they take and make, how much they have. No conditions. Contracts: the document's runes of bytes, and whether a value may be. No conditions but the size of a text. Pushing one element; contracts: the document's reading of runes. Conditions: the sizes. -/
import Derived.Test.YtmfplfaeibehiaaDoorZInternPlaysUpto1
import Derived.ProofKit
import Derived.Lib.SmallJoins
import Derived.Deep.Slices
import Derived.Test.YtmfplfaeibehiaaDoorRows
import Derived.Laws.IdiomStrings
namespace Go.K
open Go

def marksD (ms : List Nat) : List Deferred := ms.map fun m => { target := .collected m, args := #[] }
def hasRFa : Code → Bool
  | .rangeFunc .. => true
  | .seq a b => hasRFa a || hasRFa b
  | .cond _ a b => hasRFa a || hasRFa b
  | .block _ a => hasRFa a
  | .loop a => hasRFa a
  | .scope a => hasRFa a
  | _ => false
def wrN (W : List (Nat × Nat)) : Code → Bool
  | .region _ ops _ => ops.toList.all fun o => match o.dst with | some d => inR W d | none => true
  | .seq a b => wrN W a && wrN W b
  | .cond _ a b => wrN W a && wrN W b
  | .block _ a => wrN W a
  | .loop a => wrN W a
  | .scope a => wrN W a
  | _ => true
def WrN : Code → Nat → Prop
  | .region _ ops _, j => ∃ o ∈ ops.toList, o.dst = some j
  | .seq a b, j => WrN a j ∨ WrN b j
  | .cond _ a b, j => WrN a j ∨ WrN b j
  | .block _ a, j => WrN a j
  | .loop a, j => WrN a j
  | .scope a, j => WrN a j
  | _, _ => False
theorem wrN_spec {W : List (Nat × Nat)} : ∀ {c : Code}, wrN W c = true → ∀ j, WrN c j → inR W j = true
  | .region _ ops _, h, j, ⟨o, ho, hd⟩ => by
    simp only [wrN, List.all_eq_true] at h
    have := h o ho; rw [hd] at this; exact this
  | .seq a b, h, j, hj => by
    simp only [wrN, Bool.and_eq_true] at h
    exact hj.elim (wrN_spec h.1 j) (wrN_spec h.2 j)
  | .cond _ a b, h, j, hj => by
    simp only [wrN, Bool.and_eq_true] at h
    exact hj.elim (wrN_spec h.1 j) (wrN_spec h.2 j)
  | .block _ a, h, j, hj => wrN_spec (c := a) h j hj
  | .loop a, h, j, hj => wrN_spec (c := a) h j hj
  | .scope a, h, j, hj => wrN_spec (c := a) h j hj
  | .rangeFunc .., _, _, hj => hj.elim
  | .skip, _, _, hj => hj.elim
  | .exit _, _, _, hj => hj.elim
  | .ret, _, _, hj => hj.elim
  | .label _, _, _, hj => hj.elim
  | .goto _, _, _, hj => hj.elim
  | .refuse _, _, _, hj => hj.elim
theorem wr_wrN : ∀ {c : Code}, hasRFa c = false → ∀ j, Wr c j → WrN c j
  | .region _ ops _, _, _, h => h
  | .seq a b, h, j, hj => by
    simp only [hasRFa, Bool.or_eq_false_iff] at h
    exact hj.imp (wr_wrN h.1 j) (wr_wrN h.2 j)
  | .cond _ a b, h, j, hj => by
    simp only [hasRFa, Bool.or_eq_false_iff] at h
    exact hj.imp (wr_wrN h.1 j) (wr_wrN h.2 j)
  | .block _ a, h, j, hj => wr_wrN (c := a) h j hj
  | .loop a, h, j, hj => wr_wrN (c := a) h j hj
  | .scope a, h, j, hj => wr_wrN (c := a) h j hj
  | .rangeFunc .., h, _, _ => by simp [hasRFa] at h
  | .skip, _, _, hj => hj.elim
  | .exit _, _, _, hj => hj.elim
  | .ret, _, _, hj => hj.elim
  | .label _, _, _, hj => hj.elim
  | .goto _, _, _, hj => hj.elim
  | .refuse _, _, _, hj => hj.elim
/-- a loop in whose rounds marks may be set -/
def LoopN (init : List Value) (ms : List Nat) (F : List Value → List Nat → (List Value → List Nat → World → Prop) → World → Prop) (w : World) : Prop :=
  ∃ (I : List Value → List Nat → World → Prop) (μ : List Value → World → Nat), I init ms w ∧ ∀ vs ms w, I vs ms w → F vs ms (fun vs' ms' w' => I vs' ms' w' ∧ μ vs' w' < μ vs w) w
section
variable (P : Program) (ok : Nat → Bool) (n : Nat)
/-- as D, of code with ranges over iterators; ms: the marks that they have set -/
def DN : Code → Ann → (List Nat → EQ) → List Nat → Env → World → Prop
  | .seq x y, an, Q, ms, e, w => bif hasRFa x || hasRFa y then (match an with
      | .node _ _ a b => DN x a (fun ms' => nEx (fun e' w' => DN y b Q ms' e' w') (Q ms')) ms e w
      | .cut L W a b => bif wrIn W x && !hasRFa x then JoinK (fun vs w' => ∀ h : Env, DN y b Q ms (mix L W vs h e) w') (fun J => D P ok n x a (nEx (fun e' w' => J (L.map e') w') (Q ms)) e w) else False
      | _ => False) else D P ok n (.seq x y) an (Q ms) e w
  | .cond c x y, an, Q, ms, e, w => bif hasRFa x || hasRFa y then (match an with
      | .node _ _ a b => condK (ev e c) (DN x a Q ms e w) (DN y b Q ms e w)
      | _ => False) else D P ok n (.cond c x y) an (Q ms) e w
  | .block id x, an, Q, ms, e, w => bif hasRFa x then DN x an (fun ms' => bEx id (Q ms')) ms e w else D P ok n (.block id x) an (Q ms) e w
  | .loop x, an, Q, ms, e, w => bif hasRFa x then (match an with
      | .node L W a _ => bif wrN W x then LoopN (L.map e) ms (fun vs ms' again w' => ∀ h : Env, DN x a (fun ms'' => nEx (fun e' w'' => again (L.map e') ms'' w'') (Q ms'')) ms' (mix L W vs h e) w') w else False
      | _ => False) else D P ok n (.loop x) an (Q ms) e w
  | .rangeFunc g ps x y, an, Q, ms, e, w => match an with
    | .node L _ ax ay => bif rdB x && rdB y then RangeK P ok (ev e g) ps.size (fun args beg W => D P ok n x ax (nEx (fun e' W1 => beg (fun post W2 => D P ok n y ay (fun ex _ W3 => post ex W3) e' W2) W1) (fun _ _ _ => False)) (updL n e ps.toList args) W) (nOf (fun W => Q (w.heap.size :: ms) .normal e W) (fun W => Q (w.heap.size :: ms) .ret e W) (L.map fun i => (i, fun W => Q (w.heap.size :: ms) (.exit i) e W))) w else False
    | _ => False
  | .scope x, an, Q, ms, e, w => bif hasRFa x then False else D P ok n (.scope x) an (Q ms) e w
  | c, an, Q, ms, e, w => D P ok n c an (Q ms) e w
end
variable {P : Program} {ok : Nat → Bool} {n : Nat}
def liftN (n : Nat) (c : Code) (e : Env) (Q : List Nat → EQ) : Exit → Act → World → Prop := fun ex a w => ∃ ms e', Fr (marksD ms) n e' a ∧ (∀ j, ¬ WrN c j → e' j = e j) ∧ Q ms ex e' w
theorem DN_base (hok : GoodFns P ok) (hm : P.follows .mixedOrders = true) {c : Code} (hr : hasRFa c = false) {an : Ann} {Q : List Nat → EQ} {ms : List Nat} {e : Env} {w : World} {a : Act} (hf : Fr (marksD ms) n e a) (h : D P ok n c an (Q ms) e w) : c.wpIn (Wd none) 0 P (liftN n c e Q) a w := by
  refine wpIn_mono (D_sound (ro := none) (m := 0) hok hm c an _ e w a (.inl rfl) hf h) ?_
  rintro ex a' w' ⟨e', h1, h2, h3⟩
  exact ⟨ms, e', h1, fun j hj => h2 j fun hw => hj (wr_wrN hr j hw), h3⟩
theorem DN_sound (hok : GoodFns P ok) (hm : P.follows .mixedOrders = true) : ∀ (c : Code) (an : Ann) (Q : List Nat → EQ) (ms : List Nat) (e : Env) (w : World) (a : Act), Fr (marksD ms) n e a → DN P ok n c an Q ms e w → c.wpIn (Wd none) 0 P (liftN n c e Q) a w := by
  intro c
  induction c with
  | seq x y ihx ihy =>
    intro an Q ms e w a hf h
    simp only [DN] at h
    cases hr : (hasRFa x || hasRFa y) with
    | false =>
      rw [hr] at h
      exact DN_base hok hm (by simpa [hasRFa] using hr) hf h
    | true =>
      rw [hr] at h
      simp only [cond_true] at h
      cases an with
      | node L W a1 a2 =>
        refine wpIn_seq (wpIn_mono (ihx a1 _ ms e w a hf h) ?_)
        rintro ex a' w' ⟨ms', e', h1, h2, h3⟩
        cases ex with
        | normal =>
          refine wpIn_mono (ihy a2 Q ms' e' w' a' h1 h3) ?_
          rintro ex a'' w'' ⟨ms'', e'', h4, h5, h6⟩
          exact ⟨ms'', e'', h4, fun j hj => (h5 j fun hw => hj (.inr hw)).trans (h2 j fun hw => hj (.inl hw)), h6⟩
        | _ => exact ⟨ms', e', h1, fun j hj => h2 j fun hw => hj (.inl hw), h3⟩
      | cut L W a1 a2 =>
        cases hw : (wrIn W x && !hasRFa x) with
        | false => simp only [hw, cond_false] at h
        | true =>
          simp only [hw, cond_true] at h
          simp only [Bool.and_eq_true, Bool.not_eq_true'] at hw
          obtain ⟨I, hI, hG⟩ := h
          refine wpIn_seq (wpIn_mono (D_sound (ro := none) (m := 0) hok hm x a1 _ e w a (.inl rfl) hf hG) ?_)
          rintro ex a' w' ⟨e', h1, h2, h3⟩
          have h2' : ∀ j, ¬ WrN x j → e' j = e j := fun j hj => h2 j fun hw' => hj (wr_wrN hw.2 j hw')
          cases ex with
          | normal =>
            have h4 := hI _ _ h3 e'
            rw [mix_self (fun j hj => h2 j fun hw' => by rw [wrIn_spec hw.1 j hw'] at hj; cases hj)] at h4
            refine wpIn_mono (ihy a2 Q ms e' w' a' h1 h4) ?_
            rintro ex a'' w'' ⟨ms'', e'', h5, h6, h7⟩
            exact ⟨ms'', e'', h5, fun j hj => (h6 j fun hw => hj (.inr hw)).trans (h2' j fun hw => hj (.inl hw)), h7⟩
          | _ => exact ⟨ms, e', h1, fun j hj => h2' j fun hw => hj (.inl hw), h3⟩
      | _ => exact h.elim
  | cond c x y ihx ihy =>
    intro an Q ms e w a hf h
    simp only [DN] at h
    cases hr : (hasRFa x || hasRFa y) with
    | false =>
      rw [hr] at h
      exact DN_base hok hm (by simpa [hasRFa] using hr) hf h
    | true =>
      rw [hr] at h
      simp only [cond_true] at h
      cases an with
      | node L W a1 a2 =>
        have hev : a.eval c = ev e c := by rw [hf.eval]
        cases hv : ev e c with
        | bool b =>
          simp only [hv] at h
          cases b with
          | true =>
            refine wpIn_cond_true (hev.trans hv) (wpIn_mono (ihx a1 Q ms e w a hf h) ?_)
            rintro ex a' w' ⟨ms', e', h1, h2, h3⟩
            exact ⟨ms', e', h1, fun j hj => h2 j fun hw => hj (.inl hw), h3⟩
          | false =>
            refine wpIn_cond_false (hev.trans hv) (wpIn_mono (ihy a2 Q ms e w a hf h) ?_)
            rintro ex a' w' ⟨ms', e', h1, h2, h3⟩
            exact ⟨ms', e', h1, fun j hj => h2 j fun hw => hj (.inr hw), h3⟩
        | _ => simp only [hv] at h; exact h.elim
      | _ => exact h.elim
  | block id x ih =>
    intro an Q ms e w a hf h
    simp only [DN] at h
    cases hr : hasRFa x with
    | false => rw [hr] at h; exact DN_base hok hm (by simpa [hasRFa] using hr) hf h
    | true =>
      rw [hr] at h
      simp only [cond_true] at h
      refine wpIn_block (wpIn_mono (ih an _ ms e w a hf h) ?_)
      rintro ex a' w' ⟨ms', e', h1, h2, h3⟩
      cases ex with
      | exit i =>
        simp only [bEx] at h3
        simp only [Exit.inBlock]
        cases hb : Nat.beq i id with
        | true => rw [hb] at h3; rw [if_pos (Nat.eq_of_beq_eq_true hb)]; exact ⟨ms', e', h1, h2, h3⟩
        | false =>
          rw [hb] at h3
          rw [if_neg (by intro e1; subst e1; simp at hb)]
          exact ⟨ms', e', h1, h2, h3⟩
      | _ => exact ⟨ms', e', h1, h2, h3⟩
  | loop x ih =>
    intro an Q ms e w a hf h
    simp only [DN] at h
    cases hr : hasRFa x with
    | false => rw [hr] at h; exact DN_base hok hm (by simpa [hasRFa] using hr) hf h
    | true =>
      rw [hr] at h
      simp only [cond_true] at h
      cases an with
      | node L W a1 a2 =>
        cases hw : wrN W x with
        | false => simp only [hw, cond_false] at h
        | true =>
          simp only [hw, cond_true] at h
          obtain ⟨I, μ, h0, hR⟩ := h
          refine wpIn_loop (fun a' w' => ∃ ms' e', Fr (marksD ms') n e' a' ∧ (∀ j, ¬ WrN x j → e' j = e j) ∧ I (L.map e') ms' w') (fun a' w' => μ (L.map fun t => a'.tmps.getD t undef) w') ⟨ms, e, hf, fun _ _ => rfl, h0⟩ ?_
          rintro a1' w1 ⟨ms1, e1, hf1, hk1, hI1⟩
          have h4 := hR _ _ _ hI1 e1
          rw [mix_self (fun j hj => hk1 j fun hw' => by rw [wrN_spec hw j hw'] at hj; cases hj)] at h4
          refine wpIn_mono (ih a1 _ ms1 e1 w1 a1' hf1 h4) ?_
          rintro ex a2 w2 ⟨ms2, e2, h5, h6, h7⟩
          have h8 : ∀ j, ¬ WrN x j → e2 j = e j := fun j hj => (h6 j hj).trans (hk1 j hj)
          cases ex with
          | normal =>
            refine ⟨⟨ms2, e2, h5, h8, h7.1⟩, ?_⟩
            rw [map_tmps h5, map_tmps hf1]
            exact h7.2
          | _ => exact ⟨ms2, e2, h5, h8, h7⟩
      | _ => exact h.elim
  | rangeFunc g ps x y _ _ =>
    intro an Q ms e w a hf h
    cases an with
    | node L W a1 a2 =>
      simp only [DN] at h
      cases hb : (rdB x && rdB y) with
      | false => simp only [hb, cond_false] at h
      | true =>
        simp only [hb, cond_true] at h
        simp only [Bool.and_eq_true] at hb
        refine wpIn_mono (rangeK_sound hok hm hf hb.1 hb.2 h) ?_
        rintro ex a' w' ⟨h1, h2⟩
        refine ⟨w.heap.size :: ms, e, h1, fun _ _ => rfl, ?_⟩
        cases ex with
        | normal => exact h2
        | ret => exact h2
        | exit i => exact lookN_map (Q := fun i W => Q (w.heap.size :: ms) (.exit i) e W) h2
        | _ => exact h2.elim
    | _ => exact h.elim
  | scope x ih =>
    intro an Q ms e w a hf h
    simp only [DN] at h
    cases hr : hasRFa x with
    | false => rw [hr] at h; exact DN_base hok hm (by simpa [hasRFa] using hr) hf h
    | true => rw [hr] at h; exact h.elim
  | _ => intro an Q ms e w a hf h; exact DN_base hok hm rfl hf h
/-- on the way out the loops' marks are taken -/
def marksK : List Nat → (World → Prop) → World → Prop
  | [], K, w => K w
  | m :: ms, K, w => w.heap[m]? = some (.deferred (some [])) ∧ marksK ms K (w.putObj m (.deferred none))
def retNK (P : Program) (rs : List ResultVar) (K : Cont) (ms : List Nat) : EQ := fun ex e w => match ex with
  | .normal => marksK ms (fun w => resD P rs e w fun vs => K (tupK vs) w) w
  | .ret => marksK ms (fun w => resD P rs e w fun vs => K (tupK vs) w) w
  | _ => False
theorem callK_ofN {g : Nat} {fn : Func} {c : Code} {rs : List ResultVar} {args : List Value} {K : Cont} {w : World} {an : Ann} (hok : GoodFns P ok) (hm : P.follows .mixedOrders = true) (hf : P.funcs[g]? = some fn)
    (hb : fn.body = some c) (hn : fn.ntmps = n) (hrs : fn.results.toList = rs) (hl : Nat.ble args.length n = true) (h : DN P ok n c an (retNK P rs K) [] (nth args) w) : callK P g args K w := by
  refine callsIn_wide.1 (callsIn_of_wp_marks (F := Fence.wide) (n := 0) hf hb trivial ?_)
  have hl' := Nat.le_of_ble_eq_true hl
  subst hn hrs
  refine wpIn_mono (DN_sound hok hm c an _ [] _ w _ (fr_args hl') h) ?_
  rintro ex a' w' ⟨ms, e, h1, _, h2⟩
  have key : ∀ (ms0 : List Nat) (w0 : World), marksK ms0 (fun w => resD P fn.results.toList e w fun vs => K (tupK vs) w) w0 → LeavesInM Fence.wide 0 P fn a'.tmps (fun e w' => ∃ v, e = .returned v ∧ K v w') (marksD ms0) .returning w0 := by
    intro ms0
    induction ms0 with
    | nil =>
      intro w0 h
      obtain ⟨v, h4, h5⟩ := results_run h1 h
      exact ⟨v, h4, v, rfl, h5⟩
    | cons m ms0 ih =>
      rintro w0 ⟨h3, h4⟩
      exact ⟨by simp, .inl ⟨_, _, rfl, run_takeDeferred h3, ih _ h4⟩⟩
  cases ex with
  | normal =>
    show LeavesInM _ _ _ _ _ _ _ _ _
    rw [h1.defers]; exact key ms w' h2
  | ret =>
    show LeavesInM _ _ _ _ _ _ _ _ _
    rw [h1.defers]; exact key ms w' h2
  | _ => exact h2.elim
end Go.K

namespace Go.Proofs.YtmfplfaeibehiaaDoor
open Go Go.K
/-- rubric/rubricref05.Same -/
def S31 (v0 v1 : Value) (K : Cont) (w : World) : Prop :=
  lenK v0 fun t7 =>
  lenK v1 fun t9 =>
  neK .i64 t7 t9 fun t10 =>
  condK t10
  (K (.bool false) w)
  (LoopK [(.int .i64 0)] (fun vs again w1 => ∀ _h : Env,
  lenK v0 fun t13 =>
  ltK .i64 (nth vs 0) t13 fun t14 =>
  condK t14
  (DrawK w1 (fun C =>
  ixK 5 v0 (nth vs 0) fun t19 =>
  qldnK C 5 t19 fun t20 =>
  ixK 5 v1 (nth vs 0) fun t23 =>
  qldnK C 5 t23 fun t24 =>
  qrunK Tryd.prog C (binS .neq 56 (.tmp 20) (.tmp 24) t20 t24) fun t25 =>
  ∀ w2 : World, C w2 →
  condK t25
  (K (.bool false) w2)
  (addK .i64 (nth vs 0) (.int .i64 1) fun t16 =>
  again [t16] w2)))
  (K (.bool true) w1)) w)
theorem S31_eq (v0 v1 : Value) (K : Cont) (w : World) : S31 v0 v1 K w = D Tryd.prog okf 26 (bodyOf Tryd.f31) (.node [] [] .nil (.node [] [] (.node [] [] .nil (.node [] [] (.node [] [] .nil .nil) .nil)) (.node [] [] (.node [] [] .nil (.node [5] [(4, 5), (11, 25)] (.node [] [] (.node [] [] .nil (.node [] [] .nil .nil)) (.node [] [] (.node [] [] .draw (.node [] [] (.node [] [] .nil .nil) .nil)) .nil)) .nil)) (.node [] [] .nil .nil)))) (retK Tryd.prog [.tmp 4] K) (nth [v0, v1]) w := by kernel_rfl
theorem S31_ok {v0 v1 : Value} {K : Cont} {w : World} (h : S31 v0 v1 K w) : callK Tryd.prog 31 [v0, v1] K w :=
  callK_of (P := Tryd.prog) (ok := okf) (n := 26) (fn := Tryd.f31) (c := bodyOf Tryd.f31) (rs := [.tmp 4]) (an := (.node [] [] .nil (.node [] [] (.node [] [] .nil (.node [] [] (.node [] [] .nil .nil) .nil)) (.node [] [] (.node [] [] .nil (.node [5] [(4, 5), (11, 25)] (.node [] [] (.node [] [] .nil (.node [] [] .nil .nil)) (.node [] [] (.node [] [] .draw (.node [] [] (.node [] [] .nil .nil) .nil)) .nil)) .nil)) (.node [] [] .nil .nil))))) good mixed Tryd.func31 (by kernel_rfl) (by kernel_rfl) (by kernel_rfl) (by kernel_rfl) (Eq.mp (S31_eq v0 v1 K w) h)

/-- slices.Clone[[]rubric/api.Attr,rubric/api.Attr] -/
def S70 (v0 : Value) (K : Cont) (w : World) : Prop :=
  snilK v0 fun b4 =>
  condK (.bool b4)
  (K (.slice none 0 0) w)
  (rowK 56 5 0 [] [] (fun t5 w1 =>
  runK Tryd.prog (Builtin.append_ #[53, 53] 53 [t5, v0].toArray) (fun t7 w2 =>
  K t7 w2) w1) w)
theorem S70_eq (v0 : Value) (K : Cont) (w : World) : S70 v0 K w = D Tryd.prog okf 8 (bodyOf Tryd.f70) (.node [] [] .nil (.node [] [] (.node [] [] .nil (.node [] [] (.node [] [] .nil .nil) .nil)) (.node [] [] .nil .nil))) (retK Tryd.prog [.tmp 2] K) (nth [v0]) w := by kernel_rfl
theorem S70_ok {v0 : Value} {K : Cont} {w : World} (h : S70 v0 K w) : callK Tryd.prog 70 [v0] K w :=
  callK_of (P := Tryd.prog) (ok := okf) (n := 8) (fn := Tryd.f70) (c := bodyOf Tryd.f70) (rs := [.tmp 2]) (an := (.node [] [] .nil (.node [] [] (.node [] [] .nil (.node [] [] (.node [] [] .nil .nil) .nil)) (.node [] [] .nil .nil)))) good mixed Tryd.func70 (by kernel_rfl) (by kernel_rfl) (by kernel_rfl) (by kernel_rfl) (Eq.mp (S70_eq v0 K w) h)

/-- rubric/attrs.Copy -/
def S52 (v0 : Value) (K : Cont) (w : World) : Prop :=
  callK Tryd.prog 70 [v0] (fun t4 w1 =>
  K t4 w1) w
theorem S52_eq (v0 : Value) (K : Cont) (w : World) : S52 v0 K w = D Tryd.prog okf 5 (bodyOf Tryd.f52) (.node [] [] .nil (.node [] [] .nil .nil)) (retK Tryd.prog [.tmp 2] K) (nth [v0]) w := by kernel_rfl
theorem S52_ok {v0 : Value} {K : Cont} {w : World} (h : S52 v0 K w) : callK Tryd.prog 52 [v0] K w :=
  callK_of (P := Tryd.prog) (ok := okf) (n := 5) (fn := Tryd.f52) (c := bodyOf Tryd.f52) (rs := [.tmp 2]) (an := (.node [] [] .nil (.node [] [] .nil .nil))) good mixed Tryd.func52 (by kernel_rfl) (by kernel_rfl) (by kernel_rfl) (by kernel_rfl) (Eq.mp (S52_eq v0 K w) h)

end Go.Proofs.YtmfplfaeibehiaaDoor

namespace Go.Proofs.YtmfplfaeibehiaaDoor
open Go Go.K

/-- slices.Clone at sets -/
theorem clone_set {S : Nat → Prop} {v : Value} {l : List Attr} {w : World} (h : RSet S w v l) (hl : l.length * 48 ≤ 140737488355328) :
    callK Tryd.prog 70 [v] (fun v' w' => OSet w.heap.size w' v' l ∧ Grow w w') w := by
  apply S70_ok
  unfold S70
  obtain ⟨a, c, rfl, hm⟩ := h.shape
  cases a with
  | none =>
    simp only [KS]
    have : l = [] := by
      cases l with
      | nil => rfl
      | cons x l => obtain ⟨p, r, e, _⟩ := h.get (i := 0) (by simp); cases e
    subst this
    exact ⟨OwnR.nil, Mod.refl _ _⟩
  | some p =>
    simp only [KS]
    refine rowK_empty ?_
    have hg : Grow w (w.alloc (.cells #[] 56)) := Mod.alloc _ _ _
    have ho : OSet w.heap.size (w.alloc (.cells #[] 56)) (.slice (some ⟨w.heap.size, 0, none⟩) 0 0) [] := OwnR.made (Nat.le_refl _)
    obtain ⟨v', w', h1, h2, h3, h4⟩ := OwnR.append (ty := 53) elem_attr ho (h.grow hg (by decide) fun _ _ h => h) (fun _ _ => RAttr.one) (by simpa using hl) (by simp) (by simpa using hm) (fun _ _ _ _ h => h)
    refine runK_i h1 ⟨?_, hg.next (Mod.of_grownBy h3) ?_⟩
    · refine h2.base fun g hg' => ?_
      rcases h4 g hg' with h | h
      · cases h; exact Nat.le_refl _
      · simp only [World.size_alloc] at h; omega
    · intro b hb e; simp only [Value.ownBlock, Option.some.injEq] at e; omega
/-- attrs.Copy -/
theorem copy_set {S : Nat → Prop} {v : Value} {l : List Attr} {w : World} (h : RSet S w v l) (hl : l.length * 48 ≤ 140737488355328) :
    callK Tryd.prog 52 [v] (fun v' w' => OSet w.heap.size w' v' l ∧ Grow w w') w := by
  apply S52_ok
  exact clone_set h hl
end Go.Proofs.YtmfplfaeibehiaaDoor

namespace Go.Proofs.YtmfplfaeibehiaaDoor
open Go Go.K

end Go.Proofs.YtmfplfaeibehiaaDoor

namespace Go.K
open Go
theorem cell_box {w : World} {t : TypeId} {vs : List Value} {j : Nat} {v : Value} (h : vs[j]? = some v) : (w.alloc (.cells vs.toArray t)).cell? ((⟨w.heap.size, 0, none⟩ : Addr).add j) = some v := by
  have hadd : (⟨w.heap.size, 0, none⟩ : Addr).add j = ⟨w.heap.size, j, none⟩ := by unfold Addr.add; split <;> simp_all
  rw [hadd, World.cell?_alloc_new]; simpa using h
theorem OwnR.ownB {α : Type} {B e k : Nat} {R : World → List Value → α → Prop} {w : World} {v : Value} {l : List α} (h : OwnR B e k R w v l) : ∀ g, v.ownBlock = some g → B ≤ g ∧ g < w.heap.size := by
  obtain ⟨a, c, rfl, _, _, hp, _⟩ := OwnR.shape h
  intro g hg
  cases a with
  | none => cases hg
  | some p => obtain ⟨g', rfl, h1, h2, h3⟩ := hp p rfl; rw [hg] at h3; cases h3; exact ⟨h1, h2⟩
theorem SlR.old {α : Type} {S : Nat → Prop} {k : Nat} {R : World → List Value → α → Prop} {w : World} {v : Value} {l : List α} (h : SlR S k R w v l) (hk : 0 < k) : SlR (fun b => S b ∧ b < w.heap.size) k R w v l :=
  h.sub (fun b hb hs => ⟨hs, hb⟩) hk fun _ _ h => h
end Go.K
namespace Go.Proofs.YtmfplfaeibehiaaDoor
open Go Go.K

def joinB (l : List Blk) : List Blk := l.foldl (fun acc b => addB acc b.n b.set) []
theorem foldB_len (l : List Blk) : ∀ acc : List Blk, (l.foldl (fun acc b => addB acc b.n b.set) acc).length ≤ acc.length + l.length := by
  induction l with
  | nil => intro acc; simp
  | cons b l ih => intro acc; have := ih (addB acc b.n b.set); have := addB_len acc b.n b.set; simp only [List.foldl_cons, List.length_cons]; omega
theorem joinB_len (l : List Blk) : (joinB l).length ≤ l.length := by have := foldB_len l []; simpa [joinB] using this
theorem joinB_take {l : List Blk} {k : Nat} (h : k < l.length) : joinB (l.take (k + 1)) = addB (joinB (l.take k)) l[k].n l[k].set := by
  rw [List.take_add_one, List.getElem?_eq_getElem h]
  simp only [joinB, List.foldl_append, Option.toList, List.foldl_cons, List.foldl_nil]

structure Cel where
  r : Int
  set : List Attr
  deriving DecidableEq
def RCel (D : Nat → Prop) (w : World) (r : List Value) (c : Cel) : Prop := ∃ sv, r = [.int .i32 c.r, sv] ∧ RSet D w sv c.set
theorem RCel.one {D : Nat → Prop} {w : World} {r : List Value} {b : Cel} (h : RCel D w r b) : ∀ u ∈ r, u.oneCell' = true := by
  obtain ⟨sv, rfl, hs⟩ := h
  obtain ⟨a, c, rfl, _⟩ := hs.shape
  intro u hu
  simp only [List.mem_cons, List.not_mem_nil, or_false] at hu
  rcases hu with rfl | rfl <;> rfl
theorem RCel.mod {D D' M : Nat → Prop} {w w' : World} {r : List Value} {b : Cel} (h : RCel D w r b) (hm : Mod M w w') (hD : ∀ b, b < w.heap.size → D b → ¬ M b) (hD' : ∀ b, b < w.heap.size → D b → D' b) : RCel D' w' r b := by
  obtain ⟨sv, rfl, hs⟩ := h
  exact ⟨sv, rfl, hs.mono hD' (fun b hb hd => hm.same b hb (hD b hb hd)) (by decide) fun _ _ h => h⟩
abbrev RCels (S D : Nat → Prop) (w : World) (v : Value) (l : List Cel) : Prop := SlR S 2 (RCel D) w v l
def Cel.inl (c : Cel) : List Attr := if c.r = 10 then [] else c.set
theorem inl_ok {c : Cel} (h : c.set.length * 48 ≤ 140737488355328) : c.inl.length * 48 ≤ 140737488355328 := by
  unfold Cel.inl; split
  · simp
  · exact h
def ofB (l : List Cel) : List Blk := l.foldl (fun acc c => addB acc 1 c.inl) []
theorem foldC_len (l : List Cel) : ∀ acc : List Blk, (l.foldl (fun acc c => addB acc 1 c.inl) acc).length ≤ acc.length + l.length := by
  induction l with
  | nil => intro acc; simp
  | cons b l ih => intro acc; have := ih (addB acc 1 b.inl); have := addB_len acc 1 b.inl; simp only [List.foldl_cons, List.length_cons]; omega
theorem ofB_len (l : List Cel) : (ofB l).length ≤ l.length := by have := foldC_len l []; simpa [ofB] using this
theorem ofB_take {l : List Cel} {k : Nat} (h : k < l.length) : ofB (l.take (k + 1)) = addB (ofB (l.take k)) 1 l[k].inl := by
  rw [List.take_add_one, List.getElem?_eq_getElem h]
  simp only [ofB, List.foldl_append, Option.toList, List.foldl_cons, List.foldl_nil]
end Go.Proofs.YtmfplfaeibehiaaDoor

namespace Go.Proofs.YtmfplfaeibehiaaDoor
open Go Go.K

theorem bool_inj {a b : Bool} (h : (a = true ↔ b = true)) : Value.bool a = .bool b := by congr 1; exact Bool.eq_iff_iff.2 h
/-- rubricref05.Same -/
theorem rsame_set {S S' : Nat → Prop} {a b : Value} {l m : List Attr} {w : World} (ha : RSet S w a l) (hb : RSet S' w b m) :
    callK Tryd.prog 31 [a, b] (fun v w' => v = .bool (decide (l = m)) ∧ Grow w w') w := by
  apply S31_ok
  unfold S31
  obtain ⟨pa, ca, rfl, hla⟩ := ha.shape
  obtain ⟨pb, cb, rfl, hlb⟩ := hb.shape
  simp only [KS]
  simp only [maxLen] at hla hlb
  by_cases hlen : l.length = m.length
  · rw [if_neg (show ¬ ¬ (l.length : Int) = m.length by omega)]
    refine LoopK_i (fun vs w' => ∃ k : Nat, k ≤ l.length ∧ vs = [.int .i64 k] ∧ Grow w w' ∧ l.take k = m.take k) (fun vs _ => l.length - iOf vs 0) ⟨0, Nat.zero_le _, rfl, Mod.refl _ _, rfl⟩ ?_
    rintro vs w1 ⟨k, hk, rfl, hg, ht⟩ h
    simp only [KS]
    by_cases hlt : k < l.length
    · rw [if_pos (show (k : Int) < l.length by omega)]
      refine ⟨fun w2 => Grow w1 w2, Mod.drew _ _, ?_⟩
      obtain ⟨p, r, rfl, _, hr, hc, hx⟩ := ha.get hlt
      obtain ⟨q, r', rfl, _, hr', hc', hx'⟩ := hb.get (show k < m.length by omega)
      refine ixK_n hlt (qldnK_i hr (fun w2 h2 j u hu => ?_) ?_)
      · rw [Addr.add_add]; exact h2.cell (hg.cell (hc j u hu) (fun h => h)) (fun h => h)
      refine ixK_n (by omega) (qldnK_i hr' (fun w2 h2 j u hu => ?_) ?_)
      · rw [Addr.add_add]; exact h2.cell (hg.cell (hc' j u hu) (fun h => h)) (fun h => h)
      subst hx; subst hx'
      refine ⟨_, fun w2 _ => run_ne_attr _ _ _ _ w2, fun w2 h2 => ?_⟩
      simp only [KS]
      by_cases he : l[k] = m[k]
      · rw [if_neg (fun h => h he)]
        refine ⟨⟨k + 1, by omega, by rw [wrap64 (by omega) (by omega)]; rfl, hg.trans h2, ?_⟩, ?_⟩
        · rw [List.take_add_one, List.take_add_one, ht]
          simp [hlt, show k < m.length by omega, he]
        · simp only [iOf, nth, List.headD_cons]; rw [wrap64 (by omega) (by omega)]; omega
      · rw [if_pos he]
        refine ⟨?_, hg.trans h2⟩
        congr 1
        symm
        rw [decide_eq_false_iff_not]
        intro e; subst e; exact he rfl
    · rw [if_neg (show ¬ (k : Int) < l.length by omega)]
      refine ⟨?_, hg⟩
      congr 1; symm
      rw [decide_eq_true_eq]
      have : k = l.length := by omega
      subst this
      rw [List.take_length] at ht
      rw [ht, hlen, List.take_length]
  · rw [if_pos (show ¬ (l.length : Int) = m.length by omega)]
    refine ⟨?_, Mod.refl _ _⟩
    congr 1; symm
    rw [decide_eq_false_iff_not]
    intro e; exact hlen (by rw [e])
/-- whether blocks are proper -/
def ProperB (l : List Blk) : Prop := ∀ (i : Nat) b, l[i]? = some b → 0 < b.n ∧ ∀ c, 0 < i → l[i - 1]? = some c → c.set ≠ b.set
def properN (l : List Blk) (k : Nat) : Prop := ∀ i, i < k → ∀ b, l[i]? = some b → 0 < b.n ∧ ∀ c, 0 < i → l[i - 1]? = some c → c.set ≠ b.set
end Go.Proofs.YtmfplfaeibehiaaDoor

namespace Go.Proofs.YtmfplfaeibehiaaDoor
open Go Go.K

/-- where the k-th block begins -/
def atB (l : List Blk) (k : Nat) : Int := (l.take k).foldl (fun s b => IntKind.i64.wrap (s + b.n)) 0
theorem atB_succ {l : List Blk} {k : Nat} (h : k < l.length) : atB l (k + 1) = IntKind.i64.wrap (atB l k + l[k].n) := by
  unfold atB
  rw [List.take_add_one, List.getElem?_eq_getElem h]
  simp only [List.foldl_append, Option.toList, List.foldl_cons, List.foldl_nil]
def encB (l : List Blk) (svs : Nat → Value) (k : Nat) : List Value := [.int .i64 (atB l k), .agg #[.int .i64 (match l[k]? with | some b => b.n | none => 0), svs k]]
theorem encB_at {l : List Blk} {svs : Nat → Value} {k : Nat} (h : k < l.length) : encB l svs k = [.int .i64 (atB l k), .agg #[.int .i64 l[k].n, svs k]] := by
  simp [encB, List.getElem?_eq_getElem h]
/-- the cells' values of what a slice of blocks holds -/
theorem sets_of {S D : Nat → Prop} {w : World} {v : Value} {l : List Blk} (h : RBlks S D w v l) : ∃ svs : Nat → Value, ∀ k (hk : k < l.length), ∃ a c p, v = .slice (some a) l.length c ∧ p = a ∧ S a.block ∧ w.cell? (a.add (k * 2)) = some (.int .i64 l[k].n) ∧ w.cell? (a.add (k * 2 + 1)) = some (svs k) ∧ RSet D w (svs k) l[k].set := by
  have : ∀ k, ∃ sv, ∀ (hk : k < l.length), ∃ a c p, v = .slice (some a) l.length c ∧ p = a ∧ S a.block ∧ w.cell? (a.add (k * 2)) = some (.int .i64 l[k].n) ∧ w.cell? (a.add (k * 2 + 1)) = some sv ∧ RSet D w sv l[k].set := by
    intro k
    by_cases hk : k < l.length
    · obtain ⟨a, c, hv, _⟩ := h.shape
      subst hv
      obtain ⟨p, r, rfl, hS, hr, hc, sv, rfl, hs⟩ := h.get hk
      exact ⟨sv, fun _ => ⟨_, _, _, rfl, rfl, hS, hc 0 _ rfl, hc 1 _ rfl, hs⟩⟩
    · exact ⟨undef, fun h => absurd h hk⟩
  exact ⟨fun k => Classical.choose (this k), fun k hk => Classical.choose_spec (this k) hk⟩
end Go.Proofs.YtmfplfaeibehiaaDoor

namespace Go.K
open Go
theorem add_block (a : Addr) (x : Nat) : (a.add x).block = a.block := by unfold Addr.add; split <;> rfl
theorem Mod.putObj {M : Nat → Prop} (w : World) (b : Nat) (o : Obj) (h : M b) : Mod M w (w.putObj b o) := ⟨rfl, rfl, rfl, by simp, fun k _ hk => World.putObj_heap_other fun e => hk (e ▸ h)⟩
theorem add0 (a : Nat) : (⟨a, 0, none⟩ : Addr).add 0 = ⟨a, 0, none⟩ := by unfold Addr.add; split <;> simp_all
theorem begK_i {It : Nat → Prop} {w W : World} {J : World → Prop} {Jx : Exit → World → Prop} {F : (Exit → World → Prop) → World → Prop} {W1 : World} {M : Nat → Prop} (hm : Mod M W W1) (hz : w.heap.size + 2 ≤ W.heap.size) (hIt : ItOk It w W)
    (hM : ∀ b, b < W.heap.size → M b → ¬ It b ∧ b ≠ w.heap.size ∧ b ≠ w.heap.size + 1) (h : ∀ W2, Mod (fun b => b = w.heap.size + 1) W1 W2 → F (rndP It w W2 J Jx) W2) : begK It w W J Jx F W1 := by
  refine ⟨⟨hm.size, fun b hb => hm.same b ?_ fun hb' => ?_⟩, h⟩
  · rcases hb with hb | rfl | rfl
    · exact (hIt b hb).1
    · omega
    · omega
  · rcases hb with hb | rfl | rfl
    · exact (hM _ (hIt b hb).1 hb').1 hb
    · exact (hM _ (by omega) hb').2.1 rfl
    · exact (hM _ (by omega) hb').2.2 rfl
theorem kpW_i {It : Nat → Prop} {w W W' : World} {M : Nat → Prop} (hm : Mod M W W') (hz : w.heap.size + 2 ≤ W.heap.size) (hIt : ∀ b, It b → b < W.heap.size)
    (hM : ∀ b, b < W.heap.size → M b → ¬ It b ∧ b ≠ w.heap.size ∧ b ≠ w.heap.size + 1) : KpW It w W W' := by
  refine ⟨hm.size, fun b hb => hm.same b ?_ fun hb' => ?_⟩
  · rcases hb with hb | rfl | rfl
    · exact hIt b hb
    · omega
    · omega
  · rcases hb with hb | rfl | rfl
    · exact (hM _ (hIt b hb) hb').1 hb
    · exact (hM _ (by omega) hb').2.1 rfl
    · exact (hM _ (by omega) hb').2.2 rfl
theorem LoopN_i {init : List Value} {ms : List Nat} {F : List Value → List Nat → (List Value → List Nat → World → Prop) → World → Prop} {w : World} (I : List Value → List Nat → World → Prop) (μ : List Value → World → Nat) (h0 : I init ms w) (h : ∀ vs ms w, I vs ms w → F vs ms (fun vs' ms' w' => I vs' ms' w' ∧ μ vs' w' < μ vs w) w) : LoopN init ms F w := ⟨I, μ, h0, h⟩
/-- the marks of ranges that are through -/
def Marks (ms : List Nat) (W : World) : Prop := ms.Nodup ∧ ∀ m ∈ ms, W.heap[m]? = some (.deferred (some []))
theorem Marks.nil {W : World} : Marks [] W := ⟨List.nodup_nil, fun _ h => by cases h⟩
theorem Marks.lt {ms : List Nat} {W : World} (h : Marks ms W) : ∀ m ∈ ms, m < W.heap.size := fun m hm => by
  have := h.2 m hm
  rcases Nat.lt_or_ge m W.heap.size with h1 | h1
  · exact h1
  · rw [Array.getElem?_eq_none h1] at this; cases this
theorem Marks.mod {ms : List Nat} {W W' : World} {M : Nat → Prop} (h : Marks ms W) (hm : Mod M W W') (hM : ∀ m ∈ ms, ¬ M m) : Marks ms W' :=
  ⟨h.1, fun m hm' => by rw [hm.same m (h.lt m hm') (hM m hm')]; exact h.2 m hm'⟩
theorem Marks.cons {ms : List Nat} {W : World} {m : Nat} (h : Marks ms W) (hm : W.heap[m]? = some (.deferred (some []))) (hn : m ∉ ms) : Marks (m :: ms) W :=
  ⟨List.nodup_cons.2 ⟨hn, h.1⟩, fun x hx => by rcases List.mem_cons.1 hx with rfl | hx; exact hm; exact h.2 x hx⟩
theorem Marks.done {K : World → Prop} : ∀ {ms : List Nat} {W : World}, Marks ms W → (∀ W', Mod (fun b => b ∈ ms) W W' → K W') → marksK ms K W := by
  intro ms
  induction ms with
  | nil => intro W _ hK; exact hK W (Mod.refl _ _)
  | cons m ms ih =>
    intro W h hK
    have hm : Mod (fun b => b = m) W (W.putObj m (.deferred none)) := Mod.putObj _ _ _ rfl
    have hn := List.nodup_cons.1 h.1
    have h' : Marks ms W := ⟨hn.2, fun x hx => h.2 x (List.mem_cons_of_mem _ hx)⟩
    refine ⟨h.2 m (by simp), ih (h'.mod hm fun x hx e => hn.1 (e ▸ hx)) fun W' hW' => hK W' ((hm.mono fun b _ e => by rw [e]; simp).trans (hW'.mono fun b _ hb => List.mem_cons_of_mem _ hb))⟩
/-- a range of no rounds -/
theorem range_none {P : Program} {ok : Nat → Bool} {st : Prop} {gf np : Nat} {cap : List Value} {encs : Nat → List Value} {Rd : Nat → Prop} {rnd : List Value → (((Exit → World → Prop) → World → Prop) → World → Prop) → World → Prop} {N : Exit → World → Prop} {w : World} (hok : ok gf = true) (hs : SeqK st P gf cap encs 0 Rd w)
    (h : ∀ W, Grow w W → w.heap.size + 2 ≤ W.heap.size → W.heap[w.heap.size]? = some (.deferred (some [])) → N .normal W) : RangeK P ok (.func (.func gf) #[] cap.toArray) np rnd N w := by
  refine ⟨st, gf, cap, encs, 0, Rd, rfl, hok, hs, fun k hk => absurd hk (Nat.not_lt_zero _), fun k It W => Grow w W ∧ ∀ b, It b → w.heap.size ≤ b, fun _ _ _ => False, ⟨Mod.refl _ _, fun _ h => h.elim⟩, ?_, fun x It It' W W' h => h.elim, ?_, fun k It W hk => absurd hk (Nat.not_lt_zero _), fun It W hJ _ hz hd => h W hJ.1 hz hd, fun x It W h => h.elim⟩
  · rintro k It It' W W' ⟨g, hI⟩ hm hI'
    refine ⟨g.next hm fun b hb e => ?_, fun b hb => by have := (hI' b hb).2.2; omega⟩
    rcases e with ⟨_, e⟩ | e | e
    · have := hI b e; omega
    · omega
    · omega
  · rintro k It W ⟨g, _⟩ b hb _
    exact g.same b hb fun h => h
end Go.K

namespace Go.Proofs.YtmfplfaeibehiaaDoor
open Go Go.K

end Go.Proofs.YtmfplfaeibehiaaDoor

namespace Go.K
open Go
/-- a variable of one cell -/
def Var (W : World) (b : Nat) (v : Value) : Prop := W.cell? ⟨b, 0, none⟩ = some v ∧ W.frozen? ⟨b, 0, none⟩ = false
theorem Var.lt {W : World} {b : Nat} {v : Value} (h : Var W b v) : b < W.heap.size := World.block_lt_of_cell? W ⟨b, 0, none⟩ h.1
theorem Var.mod {M : Nat → Prop} {W W' : World} {b : Nat} {v : Value} (h : Var W b v) (hm : Mod M W W') (hb : ¬ M b) : Var W' b v := ⟨hm.cell h.1 hb, (hm.frozen (show b < W.heap.size from h.lt) hb).trans h.2⟩
theorem Var.grow {W W' : World} {b : Nat} {v : Value} (h : Var W b v) (hm : Grow W W') : Var W' b v := h.mod hm fun h => h
theorem Var.new (w : World) (t : TypeId) (v : Value) : Var (w.alloc (.cells [v].toArray t)) w.heap.size v := ⟨by rw [← add0]; exact cell_box rfl, World.frozen?_alloc_new ..⟩
theorem Var.set {W : World} {b : Nat} {v : Value} (h : Var W b v) (u : Value) : Var (W.setCell ⟨b, 0, none⟩ u) b u := ⟨World.cell?_setCell_same' _ _ _ (by rw [h.1]; rfl), by rw [World.frozen?_setCell]; exact h.2⟩
theorem Var.mset (W : World) (b : Nat) (u : Value) : Mod (fun x => x = b) W (W.setCell ⟨b, 0, none⟩ u) := Mod.setCell _ _ _ rfl
theorem Var.ld {W : World} {b : Nat} {v : Value} {K : Cont} (h : Var W b v) (hK : K v W) : ld1K (.pointer (some ⟨b, 0, none⟩)) K W := ld1K_i h.1 hK
theorem Var.st {W : World} {b : Nat} {v u : Value} {K : World → Prop} (h : Var W b v) (h1 : u.oneCell' = true) (h2 : u.cells = #[u]) (hK : Var (W.setCell ⟨b, 0, none⟩ u) b u → Mod (fun x => x = b) W (W.setCell ⟨b, 0, none⟩ u) → K (W.setCell ⟨b, 0, none⟩ u)) :
    st1K (.pointer (some ⟨b, 0, none⟩)) u K W := st1K_i h1 h2 h.1 h.2 (hK (h.set u) (Var.mset W b u))
theorem OwnR.one {α : Type} {B e k : Nat} {R : World → List Value → α → Prop} {w : World} {v : Value} {l : List α} (h : OwnR B e k R w v l) : v.oneCell' = true ∧ v.cells = #[v] := by
  obtain ⟨a, c, rfl, _⟩ := OwnR.shape h
  exact ⟨rfl, rfl⟩
end Go.K
namespace Go.Proofs.YtmfplfaeibehiaaDoor
open Go Go.K

theorem OSet.mod {B : Nat} {M : Nat → Prop} {w w' : World} {v : Value} {l : List Attr} (h : OSet B w v l) (hm : Mod M w w') (hM : ∀ b, b < w.heap.size → B ≤ b → ¬ M b) : OSet B w' v l :=
  OwnR.mod h hm (fun g hg => hM g (OwnR.ownB h g hg).2 (OwnR.ownB h g hg).1) fun _ _ _ h => h
def hitB (l : List Blk) (i : Int) (k : Nat) : Prop := atB l k ≤ i ∧ i < atB l (k + 1)
end Go.Proofs.YtmfplfaeibehiaaDoor

namespace Go.Proofs.YtmfplfaeibehiaaDoor
open Go Go.K

def maxI (a b : Int) : Int := if b > a then b else a
def minI (a b : Int) : Int := if b < a then b else a
def cutN (t j a i : Int) : Int := IntKind.i64.wrap (minI t j - maxI a i)
def cutT (l : List Blk) (i j : Int) : Nat → List Blk
  | 0 => []
  | k + 1 => match l[k]? with | some b => addB (cutT l i j k) (cutN (atB l (k + 1)) j (atB l k) i) b.set | none => cutT l i j k
theorem cutT_len (l : List Blk) (i j : Int) : ∀ k, (cutT l i j k).length ≤ k := by
  intro k
  induction k with
  | zero => simp [cutT]
  | succ k ih =>
    simp only [cutT]
    split
    · exact Nat.le_trans (addB_len _ _ _) (by omega)
    · omega
theorem cutT_succ {l : List Blk} {i j : Int} {k : Nat} (h : k < l.length) : cutT l i j (k + 1) = addB (cutT l i j k) (cutN (atB l (k + 1)) j (atB l k) i) l[k].set := by
  simp [cutT, List.getElem?_eq_getElem h]
/-- the program's cut -/
def cutB (l : List Blk) (i j : Int) : List Blk :=
  if minI (maxI j 0) (atB l l.length) ≤ maxI i 0 then [] else cutT l (maxI i 0) (minI (maxI j 0) (atB l l.length)) l.length
end Go.Proofs.YtmfplfaeibehiaaDoor

namespace Go.Proofs.YtmfplfaeibehiaaDoor
open Go Go.K

/-- append to a fresh empty set -/
theorem fresh_set {S : Nat → Prop} {w : World} {sv : Value} {set : List Attr} {K : Cont} (hs : RSet S w sv set) (hset : set.length * 48 ≤ 140737488355328)
    (hK : ∀ v' w', OSet w.heap.size w' v' set → Grow w w' → K v' w') :
    rowK 56 5 0 [] [] (fun t w1 => runK Tryd.prog (Builtin.append_ #[53, 53] 53 [t, sv].toArray) K w1) w := by
  refine rowK_empty ?_
  have hm : set.length ≤ maxLen := by obtain ⟨_, _, _, h⟩ := hs.shape; exact h
  have hg : Grow w (w.alloc (.cells #[] 56)) := Mod.alloc _ _ _
  have ho : OSet w.heap.size (w.alloc (.cells #[] 56)) (.slice (some ⟨w.heap.size, 0, none⟩) 0 0) [] := OwnR.made (Nat.le_refl _)
  obtain ⟨v', w', h1, h2, h3, h4⟩ := OwnR.append (ty := 53) elem_attr ho (hs.grow hg (by decide) fun _ _ h => h) (fun _ _ => RAttr.one) (by simpa using hset) (by simp) (by simpa using hm) (fun _ _ _ _ h => h)
  refine runK_i h1 (hK v' w' ?_ (hg.next (Mod.of_grownBy h3) ?_))
  · refine OwnR.base h2 fun g hg' => ?_
    rcases h4 g hg' with h | h
    · cases h; exact Nat.le_refl _
    · simp only [World.size_alloc] at h; omega
  · intro b hb e; simp only [Value.ownBlock, Option.some.injEq] at e; omega
end Go.Proofs.YtmfplfaeibehiaaDoor

namespace Go.K
open Go
theorem SlR.made {α : Type} {k : Nat} {R : World → List Value → α → Prop} {w : World} {t : TypeId} {l : List α} (rows : List (List Value)) (hr : ∀ r ∈ rows, r.length = k) (hl : rows.length = l.length) (hlm : l.length ≤ maxLen)
    (hR : ∀ (i : Nat) (r : List Value) (x : α), rows[i]? = some r → l[i]? = some x → R (w.alloc (.cells rows.flatten.toArray t)) r x) : SlR (fun b => b = w.heap.size) k R (w.alloc (.cells rows.flatten.toArray t)) (.slice (some ⟨w.heap.size, 0, none⟩) l.length l.length) l := by
  refine ⟨_, _, rfl, Nat.le_refl _, hlm, fun i x hx => ?_⟩
  have hi : i < rows.length := by rw [hl]; exact (List.getElem?_eq_some_iff.1 hx).1
  refine ⟨_, rows[i], rfl, rfl, hr _ (by simp), fun j u hu => ?_, hR i _ x (by simp [hi]) hx⟩
  have hj : j < k := by rw [← hr rows[i] (by simp)]; exact (List.getElem?_eq_some_iff.1 hu).1
  refine cell_box ?_
  rw [flat_get rows i j rows[i] hr (by simp [hi]) hj]; exact hu
end Go.K
namespace Go.Proofs.YtmfplfaeibehiaaDoor
open Go Go.K

def knownX : List Attr := [⟨1, ⟨1, 1, 0, ByteArray.mk #[]⟩⟩]
end Go.Proofs.YtmfplfaeibehiaaDoor

namespace Go.Proofs.YtmfplfaeibehiaaDoor
open Go Go.K

theorem wrap_add (x m : Int) : IntKind.i64.wrap (IntKind.i64.wrap x + m) = IntKind.i64.wrap (x + m) := by
  have e1 : (2 : Int) ^ IntKind.i64.bits = 18446744073709551616 := by decide
  have e2 : (2 : Int) ^ (IntKind.i64.bits - 1) = 9223372036854775808 := by decide
  simp only [IntKind.wrap, e1, e2, IntKind.signed, Bool.true_and, decide_eq_true_eq]
  split <;> split <;> split <;> omega
theorem snoc_cases {α : Type} (l : List α) : l = [] ∨ ∃ i b, l = i ++ [b] := by
  rcases List.eq_nil_or_concat l with h | ⟨i, b, h⟩
  · exact .inl h
  · exact .inr ⟨i, b, by simpa using h⟩
theorem addB_nil {n : Int} {s : List Attr} (h : 0 < n) : addB [] n s = [⟨n, s⟩] := by
  simp [addB, show ¬ n ≤ 0 by omega]
theorem addB_snoc {i : List Blk} {b : Blk} {n : Int} {s : List Attr} (h : 0 < n) : addB (i ++ [b]) n s = if b.set = s then i ++ [⟨IntKind.i64.wrap (b.n + n), b.set⟩] else i ++ [b] ++ [⟨n, s⟩] := by
  unfold addB
  rw [if_neg (by omega)]
  simp only [List.getLast?_append, List.getLast?_singleton, Option.some_or]
  split
  · simp
  · rfl
theorem addB_zero {l : List Blk} {n : Int} {s : List Attr} (h : n ≤ 0) : addB l n s = l := by simp [addB, h]
theorem addB_two {acc : List Blk} {n m : Int} {s : List Attr} (h1 : 0 < n) (h2 : 0 < m) (h3 : n + m ≤ 9223372036854775807) : addB (addB acc n s) m s = addB acc (n + m) s := by
  rcases snoc_cases acc with rfl | ⟨i, b, rfl⟩
  · rw [addB_nil h1, addB_nil (by omega), show [(⟨n, s⟩ : Blk)] = [] ++ [⟨n, s⟩] from rfl, addB_snoc h2, if_pos rfl, wrap64 (by simp; omega) (by simpa using h3)]; rfl
  · rw [addB_snoc h1, addB_snoc (by omega)]
    by_cases hs : b.set = s
    · rw [if_pos hs, if_pos hs, addB_snoc h2, if_pos hs]
      simp only
      rw [wrap_add, Int.add_assoc]
    · rw [if_neg hs, if_neg hs, addB_snoc h2, if_pos rfl]
      simp only
      rw [wrap64 (by omega) (by omega)]
def foldJ (acc l : List Blk) : List Blk := l.foldl (fun acc b => addB acc b.n b.set) acc
def foldO (acc : List Blk) (l : List Cel) : List Blk := l.foldl (fun acc c => addB acc 1 c.inl) acc
theorem foldJ_snoc (acc l : List Blk) (b : Blk) : foldJ acc (l ++ [b]) = addB (foldJ acc l) b.n b.set := by simp [foldJ]
theorem foldO_snoc (acc : List Blk) (l : List Cel) (c : Cel) : foldO acc (l ++ [c]) = addB (foldO acc l) 1 c.inl := by simp [foldO]
theorem rev_ind {α : Type} {p : List α → Prop} (h0 : p []) (h1 : ∀ l a, p l → p (l ++ [a])) : ∀ l, p l := by
  intro l
  have : ∀ n, ∀ l : List α, l.length = n → p l := by
    intro n
    induction n with
    | zero => intro l hl; rw [List.eq_nil_of_length_eq_zero hl]; exact h0
    | succ n ih =>
      intro l hl
      rcases snoc_cases l with rfl | ⟨i, b, rfl⟩
      · simp at hl
      · exact h1 i b (ih i (by simp at hl; omega))
  exact this _ l rfl
/-- blocks of cells: each from 1 to as many as there are cells -/
theorem ofB_n (m : List Cel) (hm : (m.length : Int) ≤ 9223372036854775807) : ∀ b ∈ ofB m, 1 ≤ b.n ∧ b.n ≤ m.length := by
  revert hm
  refine rev_ind (p := fun m => (m.length : Int) ≤ 9223372036854775807 → ∀ b ∈ ofB m, 1 ≤ b.n ∧ b.n ≤ m.length) ?_ ?_ m
  · intro _ b hb; simp [ofB] at hb
  · intro m c ih hm
    have hm' : (m.length : Int) + 1 ≤ 9223372036854775807 := by simpa using hm
    have ih := ih (by omega)
    have e : ofB (m ++ [c]) = addB (ofB m) 1 c.inl := foldO_snoc [] m c
    rw [e]
    rcases snoc_cases (ofB m) with h | ⟨i, b, h⟩
    · rw [h, addB_nil (by decide)]
      intro b hb; simp at hb; subst hb; simp; omega
    · rw [h] at ih
      rw [h, addB_snoc (by decide)]
      have hb := ih b (by simp)
      intro x hx
      split at hx
      · simp only [List.mem_append, List.mem_singleton] at hx
        rcases hx with hx | hx
        · have := ih x (by simp [hx]); simp; omega
        · subst hx
          simp only [List.length_append, List.length_singleton]
          rw [wrap64 (by omega) (by omega)]; omega
      · simp only [List.mem_append, List.mem_singleton] at hx
        rcases hx with (hx | hx) | hx
        · have := ih x (by simp [hx]); simp; omega
        · subst hx; simp; omega
        · subst hx; simp; omega
theorem foldJ_of (acc : List Blk) (m : List Cel) (hm : (m.length : Int) ≤ 9223372036854775806) : foldJ acc (ofB m) = foldO acc m := by
  revert hm
  refine rev_ind (p := fun m => (m.length : Int) ≤ 9223372036854775806 → foldJ acc (ofB m) = foldO acc m) ?_ ?_ m
  · intro _; rfl
  · intro m c ih hm
    have hm' : (m.length : Int) + 1 ≤ 9223372036854775806 := by simpa using hm
    have ih := ih (by omega)
    have hn := ofB_n m (by omega)
    have e : ofB (m ++ [c]) = addB (ofB m) 1 c.inl := foldO_snoc [] m c
    rw [e, foldO_snoc, ← ih]
    rcases snoc_cases (ofB m) with h | ⟨i, b, h⟩
    · rw [h, addB_nil (by decide)]; rfl
    · rw [h] at hn ⊢
      have hb := hn b (by simp)
      rw [addB_snoc (by decide)]
      by_cases hs : b.set = c.inl
      · rw [if_pos hs, foldJ_snoc, foldJ_snoc]
        simp only
        rw [hs, wrap64 (by omega) (by omega), addB_two (by omega) (by decide) (by omega)]
      · rw [if_neg hs, foldJ_snoc]
/-- BlocksJoin's law -/
theorem join_of_app (l m : List Cel) (hl : l.length ≤ 1000) (hm : m.length ≤ 1000) : joinB (ofB l ++ ofB m) = ofB (l ++ m) := by
  have h1 : joinB (ofB l ++ ofB m) = foldJ (foldJ [] (ofB l)) (ofB m) := by simp [joinB, foldJ]
  rw [h1, foldJ_of [] l (by omega), foldJ_of _ m (by omega)]
  simp [foldO, ofB]
/-- the sets of what is added to -/
theorem addB_sets {acc : List Blk} {n : Int} {s : List Attr} : ∀ b ∈ addB acc n s, b.set = s ∨ ∃ c ∈ acc, b.set = c.set := by
  intro x hx
  by_cases hn : n ≤ 0
  · rw [addB_zero hn] at hx; exact .inr ⟨x, hx, rfl⟩
  rcases snoc_cases acc with rfl | ⟨i, b, rfl⟩
  · rw [addB_nil (by omega)] at hx; simp at hx; subst hx; exact .inl rfl
  · rw [addB_snoc (by omega)] at hx
    split at hx
    · simp only [List.mem_append, List.mem_singleton] at hx
      rcases hx with hx | hx
      · exact .inr ⟨x, by simp [hx], rfl⟩
      · subst hx; exact .inr ⟨b, by simp, rfl⟩
    · simp only [List.mem_append, List.mem_singleton] at hx
      rcases hx with (hx | hx) | hx
      · exact .inr ⟨x, by simp [hx], rfl⟩
      · exact .inr ⟨x, by simp [hx], rfl⟩
      · subst hx; exact .inl rfl
theorem foldJ_sets {p : List Attr → Prop} : ∀ (l acc : List Blk), (∀ b ∈ acc, p b.set) → (∀ b ∈ l, p b.set) → ∀ b ∈ foldJ acc l, p b.set := by
  intro l
  induction l with
  | nil => intro acc h _; exact h
  | cons c l ih =>
    intro acc h h2
    refine ih (addB acc c.n c.set) (fun b hb => ?_) fun b hb => h2 b (by simp [hb])
    rcases addB_sets b hb with e | ⟨d, hd, e⟩
    · rw [e]; exact h2 c (by simp)
    · rw [e]; exact h d hd
theorem foldO_sets {p : List Attr → Prop} : ∀ (l : List Cel) (acc : List Blk), (∀ b ∈ acc, p b.set) → (∀ c ∈ l, p c.inl) → ∀ b ∈ foldO acc l, p b.set := by
  intro l
  induction l with
  | nil => intro acc h _; exact h
  | cons c l ih =>
    intro acc h h2
    refine ih (addB acc 1 c.inl) (fun b hb => ?_) fun b hb => h2 b (by simp [hb])
    rcases addB_sets b hb with e | ⟨d, hd, e⟩
    · rw [e]; exact h2 c (by simp)
    · rw [e]; exact h d hd
theorem inl_len {c : Cel} {m : Nat} (h : c.set.length ≤ m) : c.inl.length ≤ m := by
  unfold Cel.inl; split
  · simp
  · exact h
theorem ofB_sets {l : List Cel} {m : Nat} (h : ∀ c ∈ l, c.set.length ≤ m) : ∀ b ∈ ofB l, b.set.length ≤ m := foldO_sets (p := fun s => s.length ≤ m) l [] (fun _ h => nomatch h) fun c hc => inl_len (h c hc)
theorem joinB_sets {l : List Blk} {m : Nat} (h : ∀ c ∈ l, c.set.length ≤ m) : ∀ b ∈ joinB l, b.set.length ≤ m := foldJ_sets (p := fun s => s.length ≤ m) l [] (fun _ h => nomatch h) h
end Go.Proofs.YtmfplfaeibehiaaDoor

namespace Go.Proofs.YtmfplfaeibehiaaDoor
open Go Go.K

theorem RCel.low {D : Nat → Prop} {w : World} {r : List Value} {c : Cel} (h : RCel D w r c) : RCel (fun b => b < w.heap.size) w r c := by
  obtain ⟨sv, rfl, hs⟩ := h
  exact ⟨sv, rfl, hs.sub (fun b hb _ => hb) (by decide) fun _ _ h => h⟩
theorem RCels.grow {S D : Nat → Prop} {w w' : World} {v : Value} {l : List Cel} (h : RCels S D w v l) (hg : Grow w w') : RCels S D w' v l :=
  SlR.grow h hg (by decide) fun _ _ hx => hx.mod hg (fun _ _ _ h => h) fun _ _ h => h
theorem RBlks.grow {S D : Nat → Prop} {w w' : World} {v : Value} {l : List Blk} (h : RBlks S D w v l) (hg : Grow w w') : RBlks S D w' v l :=
  SlR.grow h hg (by decide) fun _ _ hx => hx.mod hg (fun _ _ _ h => h) fun _ _ h => h
end Go.Proofs.YtmfplfaeibehiaaDoor

namespace Go.K
open Go
variable {H : Type} {enc : TypeId × Value → H} {P : Program} {w : World} {base : Nat} {spare : Nat → Bool} {held : Bool}
theorem SlR.of_trod {α : Type} {t e k : Nat} {R : World → List Value → α → Prop} {fuel : Nat} {cs : List Value} {x : DataW H × List MemPlace} (ht : P.underlying t = some (.slice e)) (hk : P.cellsOf e = k)
    (hel : ∀ n cs' y, DataW.trod enc P w base spare held n e cs' = some y → ∃ x, R w cs' x) (h : DataW.trod enc P w base spare held fuel t cs = some x) :
    ∃ v l, cs = [v] ∧ SlR (fun _ => True) k R w v l := by
  rcases Go.Deep.open_slice ht h with ⟨rfl, _⟩ | ⟨a, len, cap, m, n, D, Pl, rfl, hb, hl, hm, hmm, _, hall⟩
  · exact ⟨_, [], rfl, SlR.nil⟩
  · have hlm : len ≤ m := by rw [hmm]; split <;> omega
    have one : ∀ i, i < len → ∃ (cs' : List Value) (x : α), cs'.length = k ∧ (∀ j u, cs'[j]? = some u → w.cell? (a.add (i * k + j)) = some u) ∧ R w cs' x := by
      intro i hi
      obtain ⟨cs', h1, h2⟩ := hall i (by omega)
      obtain ⟨x, hx⟩ := hel n cs' _ h2
      obtain ⟨_, hlen, hc⟩ := World.cells?_some h1
      rw [hk] at hlen hc
      refine ⟨cs', x, hlen, fun j u hu => ?_, hx⟩
      have hj : j < k := by rw [← hlen]; exact (List.getElem?_eq_some_iff.1 hu).1
      have := hc j hj
      rw [Addr.add_add] at this
      rw [this]; exact hu
    have build : ∀ q, q ≤ len → ∃ l : List α, l.length = q ∧ ∀ i x, l[i]? = some x → ∃ cs' : List Value, cs'.length = k ∧ (∀ j u, cs'[j]? = some u → w.cell? (a.add (i * k + j)) = some u) ∧ R w cs' x := by
      intro q
      induction q with
      | zero => exact fun _ => ⟨[], rfl, fun i x h => by simp at h⟩
      | succ q ih =>
        intro hq
        obtain ⟨l, h1, h2⟩ := ih (by omega)
        obtain ⟨cs', x, h3, h4, h5⟩ := one q (by omega)
        refine ⟨l ++ [x], by simp [h1], fun i y hy => ?_⟩
        by_cases hi : i < q
        · rw [List.getElem?_append_left (by omega)] at hy; exact h2 i y hy
        · have : i = q := by have := (List.getElem?_eq_some_iff.1 hy).1; simp [h1] at this; omega
          subst this
          rw [List.getElem?_append_right (by omega)] at hy
          simp [h1] at hy; subst hy
          exact ⟨cs', h3, h4, h5⟩
    obtain ⟨l, h1, h2⟩ := build len (Nat.le_refl _)
    subst h1
    refine ⟨_, l, rfl, a, cap, rfl, hl, hm, fun i x hx => ?_⟩
    obtain ⟨cs', h3, h4, h5⟩ := h2 i x hx
    exact ⟨a, cs', rfl, trivial, h3, h4, h5⟩
end Go.K
namespace Go.Proofs.YtmfplfaeibehiaaDoor
open Go Go.K
open Go.ChangeShapes Go.Joins
variable {H : Type} {enc : TypeId × Value → H} {w : World} {base : Nat} {spare : Nat → Bool} {held : Bool}
theorem attr_of_trod {n : Nat} {cs : List Value} {y : DataW H × List MemPlace} (h : DataW.trod enc Tryd.prog w base spare held n 56 cs = some y) : ∃ x : Attr, cs = x.cells := by
  have c0 : Tryd.prog.cellsOf 56 = 5 := by kernel_rfl
  have c1 : Tryd.prog.cellsOf 3 = 1 := by kernel_rfl
  have c2 : Tryd.prog.cellsOf 30 = 4 := by kernel_rfl
  have c3 : Tryd.prog.cellsOf 5 = 1 := by kernel_rfl
  have c4 : Tryd.prog.cellsOf 2 = 1 := by kernel_rfl
  have c5 : Tryd.prog.cellsOf 28 = 1 := by kernel_rfl
  have c6 : Tryd.prog.cellsOf 9 = 1 := by kernel_rfl
  obtain ⟨y0, y1, m, _, hl, h0, h1⟩ := trod_struct2 Tryd.underlying56 h
  rw [c0] at hl
  simp only [c1, c2] at h0 h1
  match cs, hl with
  | [a0, a1, a2, a3, a4], _ =>
    simp only [List.drop_zero, List.take_succ_cons, List.take_zero, List.drop_succ_cons] at h0 h1
    obtain ⟨k, e0, _, _⟩ := DataW.trod_int Tryd.underlying3 h0
    obtain ⟨z0, z1, z2, z3, m', _, _, g0, g1, g2, g3⟩ := trod_struct4 Tryd.underlying30 h1
    simp only [c3, c4, c5, c6, List.drop_zero, List.take_succ_cons, List.take_zero, List.drop_succ_cons] at g0 g1 g2 g3
    obtain ⟨k0, f0, _, _⟩ := DataW.trod_int Tryd.underlying5 g0
    obtain ⟨k1, f1, _, _⟩ := DataW.trod_int Tryd.underlying2 g1
    obtain ⟨k2, f2, _, _⟩ := DataW.trod_int Tryd.underlying28 g2
    obtain ⟨k3, f3, _, _⟩ := DataW.trod_string Tryd.underlying9 g3
    cases e0; cases f0; cases f1; cases f2; cases f3
    exact ⟨⟨k, ⟨k0, k1, k2, k3⟩⟩, rfl⟩
theorem set_of_trod {n : Nat} {cs : List Value} {y : DataW H × List MemPlace} (h : DataW.trod enc Tryd.prog w base spare held n 53 cs = some y) : ∃ v l, cs = [v] ∧ RSet (fun _ => True) w v l :=
  SlR.of_trod Tryd.underlying53 (by kernel_rfl) (fun _ _ _ h => attr_of_trod h) h
end Go.Proofs.YtmfplfaeibehiaaDoor

namespace Go.Proofs.YtmfplfaeibehiaaDoor
open Go Go.K

def rep (n : Int) (s : List Attr) : List (List Attr) := List.replicate n.toNat s
/-- the places that blocks tell, one by one -/
def pl (l : List Blk) : List (List Attr) := l.flatMap fun b => rep b.n b.set
def NonNeg (l : List Blk) : Prop := ∀ b ∈ l, 0 ≤ b.n
abbrev big : Nat := 4611686018427387904
theorem pl_nil : pl [] = [] := rfl
theorem pl_append (l m : List Blk) : pl (l ++ m) = pl l ++ pl m := by simp [pl]
theorem pl_one (b : Blk) : pl [b] = rep b.n b.set := by simp [pl]
theorem pl_cons (b : Blk) (l : List Blk) : pl (b :: l) = rep b.n b.set ++ pl l := by simp [pl]
theorem rep_len (n : Int) (s : List Attr) : (rep n s).length = n.toNat := by simp [rep]
theorem pl_take_le (l : List Blk) (k : Nat) : (pl (l.take k)).length ≤ (pl l).length := by
  have : pl l = pl (l.take k) ++ pl (l.drop k) := by rw [← pl_append, List.take_append_drop]
  rw [this, List.length_append]; omega
theorem pl_take_succ {l : List Blk} {k : Nat} (h : k < l.length) : pl (l.take (k + 1)) = pl (l.take k) ++ rep l[k].n l[k].set := by
  rw [List.take_add_one, List.getElem?_eq_getElem h, pl_append]
  simp [pl]
theorem atB_pl {l : List Blk} (hn : NonNeg l) (hb : (pl l).length ≤ big) : ∀ k, k ≤ l.length → atB l k = (pl (l.take k)).length := by
  intro k
  induction k with
  | zero => intro _; simp [atB, pl]
  | succ k ih =>
    intro hk
    have h1 := pl_take_le l (k + 1)
    rw [atB_succ (by omega), ih (by omega)]
    rw [pl_take_succ (by omega), List.length_append, rep_len] at h1 ⊢
    have := hn l[k] (by simp)
    simp only [big] at hb
    rw [wrap64 (by omega) (by omega)]
    omega
theorem addB_pl {acc : List Blk} {n : Int} {s : List Attr} (ha : NonNeg acc) (hb : (pl acc).length + n.toNat ≤ big) : pl (addB acc n s) = pl acc ++ rep n s ∧ NonNeg (addB acc n s) := by
  by_cases hn : n ≤ 0
  · rw [addB_zero hn]
    refine ⟨?_, ha⟩
    have : n.toNat = 0 := by omega
    simp [rep, this]
  have hn' : 0 < n := by omega
  rcases snoc_cases acc with rfl | ⟨i, b, rfl⟩
  · rw [addB_nil hn']
    refine ⟨by simp [pl], fun x hx => ?_⟩
    simp at hx; subst hx; simp only; omega
  · rw [addB_snoc hn']
    have hb0 := ha b (by simp)
    rw [pl_append, List.length_append, pl_one, rep_len] at hb
    simp only [big] at hb
    by_cases hs : b.set = s
    · rw [if_pos hs, wrap64 (by omega) (by omega)]
      refine ⟨?_, fun x hx => ?_⟩
      · rw [pl_append, pl_append, pl_one, pl_one, List.append_assoc]
        congr 1
        simp only [rep, ← hs, List.replicate_append_replicate]
        congr 1; omega
      · simp only [List.mem_append, List.mem_singleton] at hx
        rcases hx with hx | rfl
        · exact ha x (by simp [hx])
        · simp only; omega
    · rw [if_neg hs]
      refine ⟨by rw [pl_append (i ++ [b]), pl_one], fun x hx => ?_⟩
      simp only [List.mem_append, List.mem_singleton] at hx
      rcases hx with (hx | rfl) | rfl
      · exact ha x (by simp [hx])
      · exact hb0
      · simp only; omega
theorem foldJ_pl : ∀ (l acc : List Blk), NonNeg acc → (pl acc).length + (pl l).length ≤ big → pl (foldJ acc l) = pl acc ++ pl l ∧ NonNeg (foldJ acc l) := by
  intro l
  induction l with
  | nil => intro acc ha _; exact ⟨by simp [foldJ, pl], ha⟩
  | cons b l ih =>
    intro acc ha hb
    rw [pl_cons, List.length_append, rep_len] at hb
    obtain ⟨h1, h2⟩ := addB_pl (s := b.set) (n := b.n) ha (by omega)
    obtain ⟨h3, h4⟩ := ih (addB acc b.n b.set) h2 (by rw [h1, List.length_append, rep_len]; omega)
    refine ⟨?_, h4⟩
    show pl (foldJ (addB acc b.n b.set) l) = _
    rw [h3, h1, pl_cons, List.append_assoc]
theorem foldO_pl : ∀ (l : List Cel) (acc : List Blk), NonNeg acc → (pl acc).length + l.length ≤ big → pl (foldO acc l) = pl acc ++ l.map Cel.inl ∧ NonNeg (foldO acc l) := by
  intro l
  induction l with
  | nil => intro acc ha _; exact ⟨by simp [foldO], ha⟩
  | cons c l ih =>
    intro acc ha hb
    rw [List.length_cons] at hb
    obtain ⟨h1, h2⟩ := addB_pl (s := c.inl) (n := 1) ha (by simp only [Int.toNat_one]; omega)
    obtain ⟨h3, h4⟩ := ih (addB acc 1 c.inl) h2 (by rw [h1, List.length_append, rep_len]; simp only [Int.toNat_one]; omega)
    refine ⟨?_, h4⟩
    show pl (foldO (addB acc 1 c.inl) l) = _
    rw [h3, h1]
    simp [rep]
theorem joinB_pl {l : List Blk} (hb : (pl l).length ≤ big) : pl (joinB l) = pl l ∧ NonNeg (joinB l) := by
  have h := foldJ_pl l [] (fun _ h => nomatch h) (by simpa [pl] using hb)
  rw [pl_nil, List.nil_append] at h
  exact h
theorem ofB_pl {l : List Cel} (hb : l.length ≤ big) : pl (ofB l) = l.map Cel.inl ∧ NonNeg (ofB l) := by
  have h := foldO_pl l [] (fun _ h => nomatch h) (by simpa [pl] using hb)
  rw [pl_nil, List.nil_append] at h
  exact h

/-! ### proper blocks are one for what they tell -/
def PropL : List Blk → Prop
  | [] => True
  | b :: r => 0 < b.n ∧ (∀ c, r.head? = some c → b.set ≠ c.set) ∧ PropL r
theorem propL_iff : ∀ (l : List Blk), ProperB l ↔ PropL l := by
  intro l
  induction l with
  | nil => exact ⟨fun _ => trivial, fun _ i b h => by simp at h⟩
  | cons b r ih =>
    constructor
    · intro h
      refine ⟨(h 0 b rfl).1, fun c hc => ?_, ih.1 fun i x hx => ?_⟩
      · have h1 : (b :: r)[1]? = some c := by rw [List.getElem?_cons_succ, ← List.head?_eq_getElem?]; exact hc
        exact (h 1 c h1).2 b (by decide) rfl
      · have h2 := h (i + 1) x (by simpa using hx)
        refine ⟨h2.1, fun c hi hc => h2.2 c (by omega) ?_⟩
        have : i + 1 - 1 = (i - 1) + 1 := by omega
        rw [this, List.getElem?_cons_succ]; exact hc
    · rintro ⟨h1, h2, h3⟩ i x hx
      cases i with
      | zero => cases hx; exact ⟨h1, fun c hc => by omega⟩
      | succ i =>
        rw [List.getElem?_cons_succ] at hx
        have h4 := ih.2 h3 i x hx
        refine ⟨h4.1, fun c _ hc => ?_⟩
        cases i with
        | zero =>
          simp at hc; subst hc
          exact h2 x (by rw [List.head?_eq_getElem?]; exact hx)
        | succ i =>
          have : i + 1 + 1 - 1 = i + 1 := by omega
          rw [this, List.getElem?_cons_succ] at hc
          exact h4.2 c (by omega) (by simpa using hc)
theorem propL_snoc : ∀ (l : List Blk) (b : Blk), PropL (l ++ [b]) ↔ PropL l ∧ 0 < b.n ∧ ∀ c, l.getLast? = some c → c.set ≠ b.set := by
  intro l
  induction l with
  | nil => intro b; simp [PropL]
  | cons a r ih =>
    intro b
    simp only [List.cons_append, PropL, ih]
    cases r with
    | nil =>
      simp only [List.nil_append, List.head?_cons, Option.some.injEq, PropL, List.getLast?_singleton, List.head?_nil]
      constructor
      · rintro ⟨h1, h2, h3, h4, h5⟩; exact ⟨⟨h1, fun c h => (nomatch h), trivial⟩, h4, fun c hc => by subst hc; exact h2 b rfl⟩
      · rintro ⟨⟨h1, _, _⟩, h4, h5⟩; exact ⟨h1, fun c hc => by subst hc; exact h5 a rfl, trivial, h4, fun c h => (nomatch h)⟩
    | cons c r =>
      simp only [List.cons_append, List.head?_cons, List.getLast?_cons_cons]
      constructor
      · rintro ⟨h1, h2, h3, h4, h5⟩; exact ⟨⟨h1, h2, h3⟩, h4, h5⟩
      · rintro ⟨⟨h1, h2, h3⟩, h4, h5⟩; exact ⟨h1, h2, h3, h4, h5⟩
theorem addB_prop {acc : List Blk} {n : Int} {s : List Attr} (h : PropL acc) (hb : (pl acc).length + n.toNat ≤ big) : PropL (addB acc n s) := by
  by_cases hn : n ≤ 0
  · rw [addB_zero hn]; exact h
  have hn' : 0 < n := by omega
  rcases snoc_cases acc with rfl | ⟨i, b, rfl⟩
  · rw [addB_nil hn']; exact ⟨hn', fun c h => (nomatch h), trivial⟩
  · rw [addB_snoc hn']
    have h' := (propL_snoc i b).1 h
    rw [pl_append, List.length_append, pl_one, rep_len] at hb
    simp only [big] at hb
    by_cases hs : b.set = s
    · rw [if_pos hs]
      refine (propL_snoc _ _).2 ⟨h'.1, ?_, h'.2.2⟩
      have := h'.2.1
      show 0 < IntKind.i64.wrap (b.n + n)
      rw [wrap64 (by omega) (by omega)]; omega
    · rw [if_neg hs]
      refine (propL_snoc _ _).2 ⟨h, hn', fun c hc => ?_⟩
      simp at hc; subst hc; exact hs
theorem propL_nonneg : ∀ (l : List Blk), PropL l → NonNeg l := by
  intro l
  induction l with
  | nil => intro _ b hb; simp at hb
  | cons a r ih =>
    rintro ⟨h1, _, h3⟩ b hb
    rcases List.mem_cons.1 hb with rfl | hb
    · omega
    · exact ih h3 b hb
theorem foldJ_prop : ∀ (l acc : List Blk), PropL acc → (pl acc).length + (pl l).length ≤ big → PropL (foldJ acc l) := by
  intro l
  induction l with
  | nil => intro acc ha _; exact ha
  | cons b l ih =>
    intro acc ha hb
    rw [pl_cons, List.length_append, rep_len] at hb
    refine ih _ (addB_prop ha (by omega)) ?_
    rw [(addB_pl (propL_nonneg _ ha) (by omega)).1, List.length_append, rep_len]; omega
theorem foldO_prop : ∀ (l : List Cel) (acc : List Blk), PropL acc → (pl acc).length + l.length ≤ big → PropL (foldO acc l) := by
  intro l
  induction l with
  | nil => intro acc ha _; exact ha
  | cons b l ih =>
    intro acc ha hb
    rw [List.length_cons] at hb
    refine ih _ (addB_prop ha (by simp only [Int.toNat_one]; omega)) ?_
    rw [(addB_pl (propL_nonneg _ ha) (by simp only [Int.toNat_one]; omega)).1, List.length_append, rep_len]; simp only [Int.toNat_one]; omega
theorem joinB_prop {l : List Blk} (hb : (pl l).length ≤ big) : PropL (joinB l) := foldJ_prop l [] trivial (by simpa [pl] using hb)
theorem ofB_prop {l : List Cel} (hb : l.length ≤ big) : PropL (ofB l) := foldO_prop l [] trivial (by simpa [pl] using hb)
theorem pl_head {b : Blk} {r : List Blk} (h : PropL (b :: r)) : (pl (b :: r)).head? = some b.set := by
  rw [pl_cons]
  have h1 := h.1
  have : b.n.toNat = (b.n.toNat - 1) + 1 := by omega
  simp only [rep]
  rw [this, List.replicate_succ]; rfl
theorem uniq : ∀ (l m : List Blk), PropL l → PropL m → pl l = pl m → l = m := by
  intro l
  induction l with
  | nil =>
    intro m _ hm h
    cases m with
    | nil => rfl
    | cons c m => have := pl_head hm; rw [← h] at this; simp [pl] at this
  | cons b l ih =>
    intro m hl hm h
    cases m with
    | nil => have := pl_head hl; rw [h] at this; simp [pl] at this
    | cons c m =>
      have hs : b.set = c.set := by
        have h1 := pl_head hl
        have h2 := pl_head hm
        rw [h, h2] at h1; exact (Option.some.inj h1).symm
      have nohead : ∀ (b : Blk) (r : List Blk), PropL (b :: r) → ∀ n : Nat, (pl r)[0]? ≠ some b.set := by
        intro b r hp _ h
        cases r with
        | nil => simp [pl] at h
        | cons d r =>
          have := pl_head hp.2.2
          rw [← List.head?_eq_getElem?, this] at h
          exact hp.2.1 d rfl (Option.some.inj h).symm
      have hlen : b.n.toNat = c.n.toNat := by
        rw [pl_cons, pl_cons] at h
        rcases Nat.lt_trichotomy b.n.toNat c.n.toNat with hlt | heq | hgt
        · exfalso
          have h1 := congrArg (fun x => x[b.n.toNat]?) h
          rw [List.getElem?_append_right (by simp [rep]), List.getElem?_append_left (by rw [rep_len]; exact hlt)] at h1
          simp only [rep, List.length_replicate, Nat.sub_self, List.getElem?_replicate, hlt, if_true] at h1
          exact nohead b l hl 0 (by rw [h1, hs])
        · exact heq
        · exfalso
          have h1 := congrArg (fun x => x[c.n.toNat]?) h
          rw [List.getElem?_append_left (by rw [rep_len]; exact hgt), List.getElem?_append_right (by simp [rep])] at h1
          simp only [rep, List.length_replicate, Nat.sub_self, List.getElem?_replicate, hgt, if_true] at h1
          exact nohead c m hm 0 (by rw [← h1, hs])
      have hb1 := hl.1
      have hc1 := hm.1
      have hn : b.n = c.n := by omega
      have hbc : b = c := by cases b; cases c; simp only at hn hs; rw [hn, hs]
      subst hbc
      rw [pl_cons, pl_cons] at h
      rw [ih m hl.2.2 hm.2.2 (List.append_cancel_left h)]
/-- what stands at a place -/
theorem hit_pl {l : List Blk} (hn : NonNeg l) (hb : (pl l).length ≤ big) {i : Int} {k : Nat} (hk : k < l.length) (h : hitB l i k) : 0 ≤ i ∧ (pl l)[i.toNat]? = some l[k].set := by
  obtain ⟨h1, h2⟩ := h
  rw [atB_pl hn hb k (by omega)] at h1
  rw [atB_pl hn hb (k + 1) (by omega), pl_take_succ hk, List.length_append, rep_len] at h2
  have e : pl l = pl (l.take (k + 1)) ++ pl (l.drop (k + 1)) := by rw [← pl_append, List.take_append_drop]
  refine ⟨by omega, ?_⟩
  rw [e, pl_take_succ hk, List.append_assoc, List.getElem?_append_right (by omega), List.getElem?_append_left (by rw [rep_len]; omega)]
  simp only [rep, List.getElem?_replicate]
  rw [if_pos (by omega)]
theorem hit_ex {l : List Blk} (hn : NonNeg l) (hb : (pl l).length ≤ big) {i : Int} (h0 : 0 ≤ i) (h1 : i < (pl l).length) : ∃ k, k < l.length ∧ hitB l i k := by
  have : ∀ q, q ≤ l.length → i < (pl (l.take q)).length → ∃ k, k < l.length ∧ hitB l i k := by
    intro q
    induction q with
    | zero => intro _ h; simp [pl] at h; omega
    | succ q ih =>
      intro hq h
      by_cases hlt : i < (pl (l.take q)).length
      · exact ih (by omega) hlt
      · refine ⟨q, by omega, ?_, ?_⟩
        · rw [atB_pl hn hb q (by omega)]; omega
        · rw [atB_pl hn hb (q + 1) (by omega)]; exact h
  exact this l.length (Nat.le_refl _) (by rw [List.take_length]; exact h1)
theorem hit_not {l : List Blk} (hn : NonNeg l) (hb : (pl l).length ≤ big) {i : Int} (h : ¬ (0 ≤ i ∧ i < (pl l).length)) {k : Nat} (hk : k < l.length) : ¬ hitB l i k := by
  intro hh
  obtain ⟨h1, h2⟩ := hit_pl hn hb hk hh
  have := (List.getElem?_eq_some_iff.1 h2).1
  exact h ⟨h1, by omega⟩
/-- a cut's places -/
theorem cutT_pl {l : List Blk} (hn : NonNeg l) (hb : (pl l).length ≤ big) {i j : Int} (hi : 0 ≤ i) (hj : 0 ≤ j) (hi2 : i ≤ 9223372036854775807) : ∀ k, k ≤ l.length → pl (cutT l i j k) = ((pl (l.take k)).take j.toNat).drop i.toNat ∧ PropL (cutT l i j k) := by
  intro k
  induction k with
  | zero => intro _; exact ⟨by simp [cutT, pl], trivial⟩
  | succ k ih =>
    intro hk
    obtain ⟨h1, h2⟩ := ih (by omega)
    rw [cutT_succ (by omega)]
    have ha := atB_pl hn hb k (by omega)
    have hb' := atB_pl hn hb (k + 1) (by omega)
    have h3 := pl_take_le l (k + 1)
    have hnk := hn l[k] (by simp)
    rw [pl_take_succ (by omega), List.length_append, rep_len] at h3 hb'
    simp only [big] at hb
    have hcn : (cutN (atB l (k + 1)) j (atB l k) i).toNat = min l[k].n.toNat (j.toNat - (pl (l.take k)).length) - (i.toNat - (pl (l.take k)).length) ∧ (cutN (atB l (k + 1)) j (atB l k) i).toNat ≤ l[k].n.toNat := by
      unfold cutN minI maxI
      rw [ha, hb']
      split <;> split <;> (rw [wrap64 (by omega) (by omega)]; omega)
    have hlen : (pl (cutT l i j k)).length ≤ (pl (l.take k)).length := by rw [h1]; simp; omega
    obtain ⟨h4, h5⟩ := addB_pl (s := l[k].set) (n := cutN (atB l (k + 1)) j (atB l k) i) (propL_nonneg _ h2) (by simp only [big]; omega)
    refine ⟨?_, addB_prop h2 (by simp only [big]; omega)⟩
    rw [h4, h1, pl_take_succ (by omega), List.take_append, List.drop_append]
    congr 1
    simp only [rep, List.take_replicate, List.drop_replicate]
    congr 1
    rw [hcn.1, List.length_take]
    omega
theorem cutB_pl {l : List Blk} (hn : NonNeg l) (hb : (pl l).length ≤ big) (i j : Int) : pl (cutB l i j) = ((pl l).take j.toNat).drop i.toNat ∧ PropL (cutB l i j) := by
  have hlen := atB_pl hn hb l.length (Nat.le_refl _)
  rw [List.take_length] at hlen
  have e1 : maxI i 0 = i.toNat := by unfold maxI; split <;> omega
  have e2 : (minI (maxI j 0) (atB l l.length)) = min j.toNat (pl l).length := by unfold minI maxI; rw [hlen]; split <;> split <;> omega
  unfold cutB
  rw [e1, e2]
  split
  · rename_i h
    refine ⟨?_, trivial⟩
    have : (((pl l).take j.toNat).drop i.toNat).length = 0 := by simp; omega
    rw [List.eq_nil_of_length_eq_zero this]; rfl
  · obtain ⟨h1, h2⟩ := cutT_pl hn hb (i := (i.toNat : Int)) (j := ((min j.toNat (pl l).length : Nat) : Int)) (by omega) (by omega) (by simp only [big] at hb; omega) l.length (Nat.le_refl _)
    refine ⟨?_, h2⟩
    rw [h1, List.take_length]
    simp only [Int.toNat_natCast]
    congr 1
    rcases Nat.le_total j.toNat (pl l).length with h | h
    · rw [Nat.min_eq_left h]
    · rw [Nat.min_eq_right h, List.take_of_length_le (Nat.le_refl _), List.take_of_length_le h]
end Go.Proofs.YtmfplfaeibehiaaDoor

namespace Go.Proofs.YtmfplfaeibehiaaDoor
open Go Go.K

def Tame1 (b : Blk) : Prop := 0 ≤ b.n ∧ b.n ≤ 1099511627776 ∧ b.set.length ≤ 30
instance (b : Blk) : Decidable (Tame1 b) := by unfold Tame1; infer_instance
def TameB (l : List Blk) : Prop := l.length ≤ 200 ∧ ∀ b ∈ l, Tame1 b
instance (l : List Blk) : Decidable (TameB l) := by unfold TameB; infer_instance
theorem pl_le : ∀ (l : List Blk), (∀ b ∈ l, Tame1 b) → (pl l).length ≤ l.length * 1099511627776 := by
  intro l
  induction l with
  | nil => intro _; simp [pl]
  | cons b l ih =>
    intro h
    have h1 := ih fun c hc => h c (by simp [hc])
    have h2 := (h b (by simp))
    rw [pl_cons, List.length_append, rep_len, List.length_cons, Nat.add_mul]
    have := h2.1
    have := h2.2.1
    omega
theorem TameB.big {l : List Blk} (h : TameB l) : (pl l).length ≤ 219902325555200 := by
  have h1 := pl_le l h.2
  have h2 : l.length * 1099511627776 ≤ 200 * 1099511627776 := Nat.mul_le_mul_right _ h.1
  omega
theorem TameB.nn {l : List Blk} (h : TameB l) : NonNeg l := fun b hb => (h.2 b hb).1
theorem TameB.le {l : List Blk} (h : TameB l) : (pl l).length ≤ Go.Proofs.YtmfplfaeibehiaaDoor.big := by have := h.big; simp only [Go.Proofs.YtmfplfaeibehiaaDoor.big]; omega
theorem TameB.sets {l : List Blk} (h : TameB l) : ∀ b ∈ l, b.set.length ≤ 30 := fun b hb => (h.2 b hb).2.2
theorem atB_len {l : List Blk} (hn : NonNeg l) (hb : (pl l).length ≤ big) : atB l l.length = (pl l).length := by
  rw [atB_pl hn hb _ (Nat.le_refl _), List.take_length]
theorem join_same {l m : List Blk} (hl : (pl l).length ≤ big) (hm : (pl m).length ≤ big) : joinB l = joinB m ↔ pl l = pl m := by
  constructor
  · intro h
    rw [← (joinB_pl hl).1, ← (joinB_pl hm).1, h]
  · intro h
    exact uniq _ _ (joinB_prop hl) (joinB_prop hm) (by rw [(joinB_pl hl).1, (joinB_pl hm).1, h])

end Go.Proofs.YtmfplfaeibehiaaDoor

namespace Go.Proofs.YtmfplfaeibehiaaDoor
open Go Go.K

theorem cutB_sets {l : List Blk} {i j : Int} {m : Nat} (h : ∀ b ∈ l, b.set.length ≤ m) : ∀ b ∈ cutB l i j, b.set.length ≤ m := by
  have key : ∀ (i j : Int) k, ∀ b ∈ cutT l i j k, b.set.length ≤ m := by
    intro i j k
    induction k with
    | zero => intro b hb; simp [cutT] at hb
    | succ k ih =>
      intro b hb
      simp only [cutT] at hb
      split at hb
      · rename_i c hc
        rcases addB_sets b hb with e | ⟨d, hd, e⟩
        · rw [e]; exact h c (List.mem_of_getElem? hc)
        · rw [e]; exact ih d hd
      · exact ih b hb
  intro b hb
  unfold cutB at hb
  split at hb
  · simp at hb
  · exact key _ _ _ b hb
theorem cutB_len {l : List Blk} {i j : Int} : (cutB l i j).length ≤ l.length := by
  unfold cutB; split
  · simp
  · exact cutT_len _ _ _ _
theorem pl_cut_len {l : List Blk} (hn : NonNeg l) (hb : (pl l).length ≤ big) (i j : Int) : (pl (cutB l i j)).length ≤ (pl l).length := by
  rw [(cutB_pl hn hb i j).1]; simp; omega
theorem RBlks.mod {S D M : Nat → Prop} {w w' : World} {v : Value} {l : List Blk} (h : RBlks S D w v l) (hm : Mod M w w') (hS : ∀ b, b < w.heap.size → S b → ¬ M b) (hD : ∀ b, b < w.heap.size → D b → ¬ M b) : RBlks S D w' v l :=
  SlR.mono h (fun _ _ h => h) (fun b hb hs => hm.same b hb (hS b hb hs)) (by decide) fun _ _ hx => hx.mod hm hD fun _ _ h => h
theorem take_drop_min {α : Type} (l : List α) (i j k : Nat) (hi : i ≤ j) : ((l.take j).drop i).take k = (l.take (min (i + k) j)).drop i := by
  rw [List.drop_take, List.take_take, List.drop_take]
  congr 1
  omega
end Go.Proofs.YtmfplfaeibehiaaDoor

namespace Go.Proofs.YtmfplfaeibehiaaDoor
open Go Go.K

/-- a set appended to an empty one of one's own -/
theorem app_set {S : Nat → Prop} {B : Nat} {w : World} {v sv : Value} {set : List Attr} {K : Cont} (ho : OSet B w v []) (hs : RSet S w sv set) (hB : B ≤ w.heap.size) (hset : set.length * 48 ≤ 140737488355328)
    (hK : ∀ v' w', OSet B w' v' set → Mod (fun b => B ≤ b) w w' → K v' w') :
    runK Tryd.prog (Builtin.append_ #[53, 53] 53 [v, sv].toArray) K w := by
  have hm : set.length ≤ maxLen := by obtain ⟨_, _, _, h⟩ := hs.shape; exact h
  obtain ⟨v', w', h1, h2, h3, h4⟩ := OwnR.append (ty := 53) elem_attr ho hs (fun _ _ => RAttr.one) (by simpa using hset) hB (by simpa using hm) (fun _ _ _ _ h => h)
  exact runK_i h1 (hK v' w' h2 ((Mod.of_grownBy h3).mono fun b _ e => (OwnR.ownB ho b e).1))
/-- the document's cut -/
def rcutB (l : List Blk) (i j : Int) : List Blk := if maxI i 0 < j then cutT l (maxI i 0) j l.length else []
end Go.Proofs.YtmfplfaeibehiaaDoor

namespace Go.K
open Go
theorem condK_p {p : Prop} [Decidable p] {A B : Prop} (h1 : p → A) (h2 : ¬ p → B) : condK (.bool (decide p)) A B := by
  rw [condK_d]; split
  · exact h1 (by assumption)
  · exact h2 (by assumption)
theorem addr0 (g x : Nat) : (⟨g, 0, none⟩ : Addr).add x = ⟨g, x, none⟩ := by unfold Addr.add; split <;> simp_all
/-- a comparison whose both ways go well; the numbers stay closed -/
theorem ltK_ab {q : IntKind} {a b : Int} {A B : Prop} (hA : A) (hB : B) : ltK q (.int q a) (.int q b) fun t => condK t A B := by
  rw [ltK_i]; exact condK_p (fun _ => hA) fun _ => hB
/-- a cell that is there and may be written -/
def Live (w : World) (a : Addr) : Prop := (w.cell? a).isSome = true ∧ w.frozen? a = false
theorem Live.set {w : World} {a : Addr} (h : Live w a) (b : Addr) (u : Value) : Live (w.setCell b u) a := by
  refine ⟨?_, by rw [World.frozen?_setCell]; exact h.2⟩
  obtain ⟨v, hv⟩ := Option.isSome_iff_exists.1 h.1
  by_cases e : b = a
  · subst e; rw [World.cell?_setCell_same w _ u hv]; rfl
  · rw [World.cell?_setCell_other w _ _ u e, hv]; rfl
theorem Live.mod {M : Nat → Prop} {w w' : World} {a : Addr} (h : Live w a) (hm : Mod M w w') (hn : ¬ M a.block) : Live w' a := by
  obtain ⟨v, hv⟩ := Option.isSome_iff_exists.1 h.1
  exact ⟨by rw [hm.cell hv hn]; rfl, (hm.frozen (World.block_lt_of_cell? w a hv) hn).trans h.2⟩
theorem Live.st {w : World} {a : Addr} {u : Value} {K : World → Prop} (h : Live w a) (h1 : u.oneCell' = true) (h2 : u.cells = #[u]) (hK : K (w.setCell a u)) : st1K (.pointer (some a)) u K w := by
  obtain ⟨v, hv⟩ := Option.isSome_iff_exists.1 h.1
  exact st1K_i h1 h2 hv h.2 hK
theorem OwnR.live {α : Type} {B e k : Nat} {R : World → List Value → α → Prop} {w : World} {a : Option Addr} {n c : Nat} {l : List α} (h : OwnR B e k R w (.slice a n c) l) {i j : Nat} (hi : i < l.length) (hj : j < k) :
    ∃ g, a = some ⟨g, 0, none⟩ ∧ n = l.length ∧ Live w ((⟨g, 0, none⟩ : Addr).add (i * k + j)) := by
  obtain ⟨rows, h1, h2, h3, h4⟩ := h
  have hrl : ∀ r ∈ rows, r.length = k := fun r hr => (h3 r hr).1
  have hsh : ∃ g, a = some ⟨g, 0, none⟩ ∧ n = l.length := by
    rcases h1.2 with ⟨h', hn⟩ | ⟨g', cap', cur, h', _⟩
    · omega
    · simp only [Value.slice.injEq] at h'; exact ⟨g', h'.1, h'.2.1⟩
  obtain ⟨g, rfl, rfl⟩ := hsh
  refine ⟨g, rfl, rfl, ?_⟩
  have hadd : (⟨g, 0, none⟩ : Addr).add (i * k + j) = ⟨g, i * k + j, none⟩ := by unfold Addr.add; split <;> simp_all
  have hlt : i * k + j < l.length * k := by
    have : (i + 1) * k ≤ l.length * k := Nat.mul_le_mul_right _ hi
    rw [Nat.add_mul] at this; omega
  rw [hadd]
  refine ⟨?_, h1.frozenAt _⟩
  rw [h1.cellAt _ hlt]
  simp [flat_len rows hrl, h2, hlt]
/-- the loop that writes one cell of each element -/
theorem wr_loop {sz off : Nat} {v u : Value} {n : Nat} {M : Nat → Prop} {w : World} {Rest : World → Prop} (J : World → Prop) (h1 : u.oneCell' = true) (h2 : u.cells = #[u]) (hn : (n : Int) ≤ 9223372036854775806) (hJ : J w)
    (hs : ∀ W, J W → ∀ i, i < n → ∃ p c, v = .slice (some p) n c ∧ Live W (p.add (i * sz + off)) ∧ J (W.setCell (p.add (i * sz + off)) u)) (hR : ∀ W, J W → Rest W) :
    LoopK [.int .i64 0] (fun vs again w17 => ∀ _ : Env, ltK .i64 (nth vs 0) (.int .i64 n) fun t114 => condK t114 (ixK sz v (nth vs 0) fun t118 => faK off t118 fun t119 => st1K t119 u (fun w18 => addK .i64 (nth vs 0) (.int .i64 1) fun t120 => again [t120] w18) w17) (Rest w17)) w := by
  refine LoopK_i (fun vs w1 => ∃ k : Nat, k ≤ n ∧ vs = [.int .i64 k] ∧ J w1) (fun vs _ => n - iOf vs 0) ⟨0, Nat.zero_le _, rfl, hJ⟩ ?_
  rintro vs w1 ⟨k, hk, rfl, hj⟩ _
  simp only [KS]
  by_cases hlt : k < n
  · rw [if_pos (show (k : Int) < n by omega)]
    obtain ⟨p, c, rfl, hl, hj'⟩ := hs w1 hj k hlt
    refine ixK_n hlt ?_
    simp only [KS]
    refine hl.st h1 h2 ?_
    refine ⟨⟨k + 1, by omega, by rw [wrap64 (by omega) (by omega)]; rfl, hj'⟩, ?_⟩
    simp only [iOf, nth, List.headD_cons]; rw [wrap64 (by omega) (by omega)]; omega
  · rw [if_neg (show ¬ (k : Int) < n by omega)]
    exact hR w1 hj
end Go.K

namespace Go.Proofs.YtmfplfaeibehiaaDoor
open Go Go.K

structure Chg where
  key : Int
  gone : Bool
  val : AVal
  deriving DecidableEq
def Chg.cells (a : Chg) : List Value := .int .i64 a.key :: .bool a.gone :: a.val.cells
theorem Chg.cells_len (a : Chg) : a.cells.length = 6 := rfl
abbrev RChg : World → List Value → Chg → Prop := fun _ r x => r = x.cells
abbrev RRune : World → List Value → Int → Prop := fun _ r x => r = [.int .i32 x]
/-- runes, patches in memory -/
abbrev RRun (S : Nat → Prop) (w : World) (v : Value) (l : List Int) : Prop := SlR S 1 RRune w v l
abbrev RPat (S : Nat → Prop) (w : World) (v : Value) (l : List Chg) : Prop := SlR S 6 RChg w v l
theorem RRune.one {w : World} {r : List Value} {x : Int} (h : RRune w r x) : ∀ u ∈ r, u.oneCell' = true := by
  subst h; intro u hu; simp at hu; subst hu; rfl
theorem RChg.one {w : World} {r : List Value} {x : Chg} (h : RChg w r x) : ∀ u ∈ r, u.oneCell' = true := by
  intro u hu
  subst h
  simp only [Chg.cells, AVal.cells, List.mem_cons, List.not_mem_nil, or_false] at hu
  rcases hu with rfl | rfl | rfl | rfl | rfl | rfl <;> rfl
theorem elem_rune : ElemOK Tryd.prog 116 21 1 4 := ⟨Tryd.t21, .int .i32 0, by kernel_rfl, by kernel_rfl, by kernel_rfl, by kernel_rfl, by kernel_rfl, by rfl, by decide⟩
theorem eqIn_val (n : Nat) (x y : AVal) (w : World) :
    (Op.equalIn (n + 2) 30 (.agg x.cells.toArray) (.agg y.cells.toArray)).run Tryd.prog w = .ok (decide (x = y)) w := by
  have hV : Tryd.prog.underlying 30 = some (.struct (Tryd.prog.fieldsOf 30)) := by kernel_rfl
  have u2 := Tryd.underlying5
  have u3 := Tryd.underlying2
  have u4 := Tryd.underlying28
  have u5 := Tryd.underlying9
  have a3 := Tryd.isAgg5
  have a4 := Tryd.isAgg2
  have a5 := Tryd.isAgg28
  have a6 := Tryd.isAgg9
  rw [run_equalIn_agg w (n + 1) _ _ _ hV Tryd.stoodInHeld30]
  simp only [Program.fieldsOf, Tryd.underlying30, AVal.cells]
  have e1 : ∀ a b : Int, (Op.equalIn (n + 1) 5 (.int .u8 a) (.int .u8 b)).run Tryd.prog w = .ok (a == b) w := fun a b => run_equalIn_int w n _ _ _ a b u2
  have e2 : ∀ a b : Int, (Op.equalIn (n + 1) 2 (.int .i64 a) (.int .i64 b)).run Tryd.prog w = .ok (a == b) w := fun a b => run_equalIn_int w n _ _ _ a b u3
  have e3 : ∀ a b : Int, (Op.equalIn (n + 1) 28 (.int .u64 a) (.int .u64 b)).run Tryd.prog w = .ok (a == b) w := fun a b => run_equalIn_int w n _ _ _ a b u4
  have e4 : ∀ a b : ByteArray, (Op.equalIn (n + 1) 9 (.string a) (.string b)).run Tryd.prog w = .ok (a.toList == b.toList) w := fun a b => run_equalIn_string w n _ a b u5
  have q : decide (x = y) = (x.kind == y.kind && (x.n == y.n && (x.f == y.f && decide (x.s = y.s)))) := by
    cases x; cases y
    rw [Bool.eq_iff_iff]
    simp [AVal.mk.injEq]
  rw [q]
  simp [Op.eqFields, part, a3, a4, a5, a6, e1, e2, e3, e4, toList_beq]
  by_cases h1 : x.kind = y.kind <;> by_cases h2 : x.n = y.n <;> by_cases h3 : x.f = y.f <;> by_cases h4 : x.s = y.s <;> simp [h1, h2, h3, h4]
theorem run_eq_val (xo yo : Operand) (a b : AVal) (w : World) :
    (binS .eql 30 xo yo (.agg a.cells.toArray) (.agg b.cells.toArray)).run Tryd.prog w = .ok (.bool (decide (a = b))) w := by
  simp only [binS, Sem.run_bind, run_eqGuard_agg w .eql _ xo yo _ _ Tryd.eqGuardType30, Result.andThen_ok]
  rw [run_eql_struct, eqIn_val 9998]; rfl
theorem run_ne_val (xo yo : Operand) (a b : AVal) (w : World) :
    (binS .neq 30 xo yo (.agg a.cells.toArray) (.agg b.cells.toArray)).run Tryd.prog w = .ok (.bool (!decide (a = b))) w := by
  simp only [binS, Sem.run_bind, run_eqGuard_agg w .neq _ xo yo _ _ Tryd.eqGuardType30, Result.andThen_ok]
  rw [run_neq_struct, eqIn_val 9998]; rfl

/-! ### ops -/
structure Dop where
  kind : Int
  n : Int
  runes : List Int
  set : List Attr
  patch : List Chg
  deriving DecidableEq
/-- an op's five cells, its lists in blocks of D -/
def RDop (D : Nat → Prop) (w : World) (r : List Value) (o : Dop) : Prop := ∃ rv sv pv, r = [.int .u8 o.kind, .int .i64 o.n, rv, sv, pv] ∧ RRun D w rv o.runes ∧ RSet D w sv o.set ∧ RPat D w pv o.patch
theorem RDop.one {D : Nat → Prop} {w : World} {r : List Value} {o : Dop} (h : RDop D w r o) : ∀ u ∈ r, u.oneCell' = true := by
  obtain ⟨rv, sv, pv, rfl, h1, h2, h3⟩ := h
  obtain ⟨a1, c1, rfl, _⟩ := h1.shape
  obtain ⟨a2, c2, rfl, _⟩ := h2.shape
  obtain ⟨a3, c3, rfl, _⟩ := h3.shape
  intro u hu
  simp only [List.mem_cons, List.not_mem_nil, or_false] at hu
  rcases hu with rfl | rfl | rfl | rfl | rfl <;> rfl
theorem RDop.mod {D D' M : Nat → Prop} {w w' : World} {r : List Value} {o : Dop} (h : RDop D w r o) (hm : Mod M w w') (hD : ∀ b, b < w.heap.size → D b → ¬ M b) (hD' : ∀ b, b < w.heap.size → D b → D' b) : RDop D' w' r o := by
  obtain ⟨rv, sv, pv, rfl, h1, h2, h3⟩ := h
  exact ⟨rv, sv, pv, rfl, h1.mono hD' (fun b hb hd => hm.same b hb (hD b hb hd)) (by decide) fun _ _ h => h, h2.mono hD' (fun b hb hd => hm.same b hb (hD b hb hd)) (by decide) fun _ _ h => h, h3.mono hD' (fun b hb hd => hm.same b hb (hD b hb hd)) (by decide) fun _ _ h => h⟩
/-- ops in memory: their row in S, what they hold in D -/
abbrev RDops (S D : Nat → Prop) (w : World) (v : Value) (l : List Dop) : Prop := SlR S 5 (RDop D) w v l
theorem RDops.grow {S D : Nat → Prop} {w w' : World} {v : Value} {l : List Dop} (h : RDops S D w v l) (hg : Grow w w') : RDops S D w' v l :=
  SlR.grow h hg (by decide) fun _ _ hx => hx.mod hg (fun _ _ _ h => h) fun _ _ h => h
theorem RDops.mod {S D M : Nat → Prop} {w w' : World} {v : Value} {l : List Dop} (h : RDops S D w v l) (hm : Mod M w w') (hS : ∀ b, b < w.heap.size → S b → ¬ M b) (hD : ∀ b, b < w.heap.size → D b → ¬ M b) : RDops S D w' v l :=
  SlR.mono h (fun _ _ h => h) (fun b hb hs => hm.same b hb (hS b hb hs)) (by decide) fun _ _ hx => hx.mod hm hD fun _ _ h => h
theorem own_rd {α : Type} {e k : Nat} {R : World → List Value → α → Prop} {D : Nat → Prop} {w : World} {v : Value} {l : List α} (hk : 0 < k) (h : OwnR 0 e k R w v l ∧ ∀ g, v.ownBlock = some g → D g) : SlR D k R w v l :=
  SlR.sub (OwnR.sl h.1) (fun g _ hg => h.2 g hg.2) hk fun _ _ h => h
theorem own_mod {α : Type} {e k : Nat} {R : World → List Value → α → Prop} {D D' M : Nat → Prop} {w w' : World} {v : Value} {l : List α} (h : OwnR 0 e k R w v l ∧ ∀ g, v.ownBlock = some g → D g) (hm : Mod M w w') (hD : ∀ b, b < w.heap.size → D b → ¬ M b) (hD' : ∀ b, b < w.heap.size → D b → D' b)
    (hR : ∀ r x, R w r x → R w' r x) : OwnR 0 e k R w' v l ∧ ∀ g, v.ownBlock = some g → D' g :=
  ⟨OwnR.mod h.1 hm (fun g hg => hD g (OwnR.ownB h.1 g hg).2 (h.2 g hg)) fun r x _ hx => hR r x hx, fun g hg => hD' g (OwnR.ownB h.1 g hg).2 (h.2 g hg)⟩
structure DKey where
  id : Int
  block : Bool
  kind : Int
  after : Bool
  before : Bool
  group : Int
  deriving DecidableEq
def DKey.cells (k : DKey) : List Value := [.int .i64 k.id, .bool k.block, .int .u8 k.kind, .bool k.after, .bool k.before, .int .i64 k.group]
abbrev RKey : World → List Value → DKey → Prop := fun _ r x => r = x.cells
abbrev RKeys (S : Nat → Prop) (w : World) (v : Value) (l : List DKey) : Prop := SlR S 6 RKey w v l
theorem RKey.one {w : World} {r : List Value} {x : DKey} (h : RKey w r x) : ∀ u ∈ r, u.oneCell' = true := by
  intro u hu
  subst h
  simp only [DKey.cells, List.mem_cons, List.not_mem_nil, or_false] at hu
  rcases hu with rfl | rfl | rfl | rfl | rfl | rfl <;> rfl
/-- how much there is in an attribute, a change, an op -/
def mAttr (a : Attr) : Nat := a.val.s.size + 1
def mChg (a : Chg) : Nat := a.val.s.size + 1
def mSet (l : List Attr) : Nat := (l.map mAttr).sum
def mPat (l : List Chg) : Nat := (l.map mChg).sum
def mDop (o : Dop) : Nat := 1 + o.runes.length + mSet o.set + mPat o.patch
def mDops (l : List Dop) : Nat := (l.map mDop).sum
end Go.Proofs.YtmfplfaeibehiaaDoor

namespace Go.Proofs.YtmfplfaeibehiaaDoor
open Go Go.K
open Go.ChangeShapes Go.Joins
variable {H : Type} {enc : TypeId × Value → H} {w : World} {base : Nat} {spare : Nat → Bool} {held : Bool}
theorem len4 {α : Type} {l : List α} (h : l.length = 4) : ∃ a b c d, l = [a, b, c, d] := by
  match l, h with | [a, b, c, d], _ => exact ⟨a, b, c, d, rfl⟩
theorem len5 {α : Type} {l : List α} (h : l.length = 5) : ∃ a b c d e, l = [a, b, c, d, e] := by
  match l, h with | [a, b, c, d, e], _ => exact ⟨a, b, c, d, e, rfl⟩
theorem len6 {α : Type} {l : List α} (h : l.length = 6) : ∃ a b c d e f, l = [a, b, c, d, e, f] := by
  match l, h with | [a, b, c, d, e, f], _ => exact ⟨a, b, c, d, e, f, rfl⟩
theorem bulk_app (l m : List (DataW H)) : Rows.uptoBulkAll (l ++ m) = Rows.uptoBulkAll l + Rows.uptoBulkAll m := by
  induction l with
  | nil => simp [Rows.uptoBulkAll]
  | cons d l ih => simp only [List.cons_append, Rows.uptoBulkAll, ih]; omega
theorem SlR.of_trodU {α : Type} {t e k : Nat} {R : World → List Value → α → Prop} {μ : α → Nat} {fuel : Nat} {cs : List Value} {x : DataW H × List MemPlace} (ht : Tryd.prog.underlying t = some (.slice e)) (hk : Tryd.prog.cellsOf e = k)
    (hel : ∀ n cs' y, DataW.trod enc Tryd.prog w base spare held n e cs' = some y → ∃ x, R w cs' x ∧ μ x ≤ Rows.uptoBulk y.1) (h : DataW.trod enc Tryd.prog w base spare held fuel t cs = some x) :
    ∃ v l, cs = [v] ∧ SlR (fun _ => True) k R w v l ∧ (l.map μ).sum + 1 ≤ Rows.uptoBulk x.1 := by
  rcases Go.Deep.open_slice ht h with ⟨rfl, rfl⟩ | ⟨a, len, cap, m, n, D, Pl, rfl, hb, hl, hm, hmm, rfl, hall⟩
  · exact ⟨_, [], rfl, SlR.nil, by simp [Rows.uptoBulk]⟩
  · have hlm : len ≤ m := by rw [hmm]; split <;> omega
    have one : ∀ i, i < len → ∃ (cs' : List Value) (x : α), cs'.length = k ∧ (∀ j u, cs'[j]? = some u → w.cell? (a.add (i * k + j)) = some u) ∧ R w cs' x ∧ μ x ≤ Rows.uptoBulk (D i) := by
      intro i hi
      obtain ⟨cs', h1, h2⟩ := hall i (by omega)
      obtain ⟨x, hx, hmu⟩ := hel n cs' _ h2
      obtain ⟨_, hlen, hc⟩ := World.cells?_some h1
      rw [hk] at hlen hc
      refine ⟨cs', x, hlen, fun j u hu => ?_, hx, hmu⟩
      have hj : j < k := by rw [← hlen]; exact (List.getElem?_eq_some_iff.1 hu).1
      have := hc j hj
      rw [Addr.add_add] at this
      rw [this]; exact hu
    have build : ∀ q, q ≤ len → ∃ l : List α, l.length = q ∧ (l.map μ).sum ≤ Rows.uptoBulkAll ((List.range q).map D) ∧ ∀ i x, l[i]? = some x → ∃ cs' : List Value, cs'.length = k ∧ (∀ j u, cs'[j]? = some u → w.cell? (a.add (i * k + j)) = some u) ∧ R w cs' x := by
      intro q
      induction q with
      | zero => exact fun _ => ⟨[], rfl, by simp [Rows.uptoBulkAll], fun i x h => by simp at h⟩
      | succ q ih =>
        intro hq
        obtain ⟨l, h1, hs, h2⟩ := ih (by omega)
        obtain ⟨cs', x, h3, h4, h5, h6⟩ := one q (by omega)
        refine ⟨l ++ [x], by simp [h1], ?_, fun i y hy => ?_⟩
        · rw [List.range_succ, List.map_append (f := D), bulk_app]
          simp only [List.map_append, List.sum_append, List.map_cons, List.map_nil, List.sum_cons, List.sum_nil, Rows.uptoBulkAll]
          omega
        by_cases hi : i < q
        · rw [List.getElem?_append_left (by omega)] at hy; exact h2 i y hy
        · have : i = q := by have := (List.getElem?_eq_some_iff.1 hy).1; simp [h1] at this; omega
          subst this
          rw [List.getElem?_append_right (by omega)] at hy
          simp [h1] at hy; subst hy
          exact ⟨cs', h3, h4, h5⟩
    obtain ⟨l, h1, hs, h2⟩ := build len (Nat.le_refl _)
    subst h1
    refine ⟨_, l, rfl, ⟨a, cap, rfl, hl, hm, fun i x hx => ?_⟩, ?_⟩
    · obtain ⟨cs', h3, h4, h5⟩ := h2 i x hx
      exact ⟨a, cs', rfl, trivial, h3, h4, h5⟩
    · simp only [Rows.uptoBulk]; omega
theorem val_of_trodU {n : Nat} {cs : List Value} {y : DataW H × List MemPlace} (h : DataW.trod enc Tryd.prog w base spare held n 30 cs = some y) : ∃ x : AVal, cs = x.cells ∧ x.s.size + 1 ≤ Rows.uptoBulk y.1 := by
  have c2 : Tryd.prog.cellsOf 30 = 4 := by kernel_rfl
  have c3 : Tryd.prog.cellsOf 5 = 1 := by kernel_rfl
  have c4 : Tryd.prog.cellsOf 2 = 1 := by kernel_rfl
  have c5 : Tryd.prog.cellsOf 28 = 1 := by kernel_rfl
  have c6 : Tryd.prog.cellsOf 9 = 1 := by kernel_rfl
  obtain ⟨z0, z1, z2, z3, m', rfl, hl, g0, g1, g2, g3⟩ := trod_struct4 Tryd.underlying30 h
  rw [c2] at hl
  simp only [c3, c4, c5, c6] at g0 g1 g2 g3
  match cs, hl with
  | [a0, a1, a2, a3], _ =>
    simp only [List.drop_zero, List.take_succ_cons, List.take_zero, List.drop_succ_cons] at g0 g1 g2 g3
    obtain ⟨k0, f0, e0, _⟩ := DataW.trod_int Tryd.underlying5 g0
    obtain ⟨k1, f1, e1, _⟩ := DataW.trod_int Tryd.underlying2 g1
    obtain ⟨k2, f2, e2, _⟩ := DataW.trod_int Tryd.underlying28 g2
    obtain ⟨k3, f3, e3, _⟩ := DataW.trod_string Tryd.underlying9 g3
    cases f0; cases f1; cases f2; cases f3; subst e0; subst e1; subst e2; subst e3
    refine ⟨⟨k0, k1, k2, k3⟩, rfl, ?_⟩
    simp only [Rows.uptoBulk, Rows.uptoBulkAll, Array.length_toList, ByteArray.size_data]
    omega
theorem attr_of_trodU {n : Nat} {cs : List Value} {y : DataW H × List MemPlace} (h : DataW.trod enc Tryd.prog w base spare held n 56 cs = some y) : ∃ x : Attr, RAttr w cs x ∧ mAttr x ≤ Rows.uptoBulk y.1 := by
  have c0 : Tryd.prog.cellsOf 56 = 5 := by kernel_rfl
  have c1 : Tryd.prog.cellsOf 3 = 1 := by kernel_rfl
  have c2 : Tryd.prog.cellsOf 30 = 4 := by kernel_rfl
  obtain ⟨y0, y1, m, rfl, hl, h0, h1⟩ := trod_struct2 Tryd.underlying56 h
  rw [c0] at hl
  simp only [c1, c2] at h0 h1
  match cs, hl with
  | [a0, a1, a2, a3, a4], _ =>
    simp only [List.drop_zero, List.take_succ_cons, List.take_zero, List.drop_succ_cons] at h0 h1
    obtain ⟨k, e0, _, _⟩ := DataW.trod_int Tryd.underlying3 h0
    obtain ⟨v, e1, hs⟩ := val_of_trodU h1
    cases e0; cases e1
    refine ⟨⟨k, v⟩, rfl, ?_⟩
    simp only [mAttr, Rows.uptoBulk, Rows.uptoBulkAll]
    omega
theorem rune_of_trodU {n : Nat} {cs : List Value} {y : DataW H × List MemPlace} (h : DataW.trod enc Tryd.prog w base spare held n 21 cs = some y) : ∃ x : Int, RRune w cs x ∧ 1 ≤ Rows.uptoBulk y.1 := by
  obtain ⟨k, rfl, e, _⟩ := DataW.trod_int Tryd.underlying21 h
  subst e
  exact ⟨k, rfl, by simp [Rows.uptoBulk]⟩
theorem set_of_trodU {n : Nat} {cs : List Value} {y : DataW H × List MemPlace} (h : DataW.trod enc Tryd.prog w base spare held n 53 cs = some y) : ∃ v l, cs = [v] ∧ RSet (fun _ => True) w v l ∧ mSet l + 1 ≤ Rows.uptoBulk y.1 :=
  SlR.of_trodU (μ := mAttr) Tryd.underlying53 (by kernel_rfl) (fun _ _ _ h => attr_of_trodU h) h
theorem runes_of_trodU {n : Nat} {cs : List Value} {y : DataW H × List MemPlace} (h : DataW.trod enc Tryd.prog w base spare held n 116 cs = some y) : ∃ v l, cs = [v] ∧ RRun (fun _ => True) w v l ∧ l.length + 1 ≤ Rows.uptoBulk y.1 := by
  obtain ⟨v, l, e, h1, h2⟩ := SlR.of_trodU (μ := fun _ : Int => 1) Tryd.underlying116 (by kernel_rfl) (fun _ _ _ h => rune_of_trodU h) h
  refine ⟨v, l, e, h1, ?_⟩
  have : (l.map fun _ => 1).sum = l.length := by clear h1 h2; induction l with | nil => rfl | cons a l ih => simp only [List.map_cons, List.sum_cons, List.length_cons, ih]; omega
  omega
theorem key_of_trodU {n : Nat} {cs : List Value} {y : DataW H × List MemPlace} (h : DataW.trod enc Tryd.prog w base spare held n 34 cs = some y) : ∃ x : DKey, RKey w cs x ∧ 1 ≤ Rows.uptoBulk y.1 := by
  have c0 : Tryd.prog.cellsOf 34 = 6 := by kernel_rfl
  have c1 : Tryd.prog.cellsOf 3 = 1 := by kernel_rfl
  have c2 : Tryd.prog.cellsOf 5 = 1 := by kernel_rfl
  have c3 : Tryd.prog.cellsOf 4 = 1 := by kernel_rfl
  obtain ⟨xs, m, _, rfl, hl, hlen, hf⟩ := DataW.trod_struct Tryd.underlying34 h
  match xs, hlen with
  | [y0, y1, y2, y3, y4, y5], _ =>
    have h0 : DataW.trod enc Tryd.prog w base spare held m 3 ((cs.drop 0).take (Tryd.prog.cellsOf 3)) = some y0 := hf 0 _ rfl
    have h1 : DataW.trod enc Tryd.prog w base spare held m 4 ((cs.drop 1).take (Tryd.prog.cellsOf 4)) = some y1 := hf 1 _ rfl
    have h2 : DataW.trod enc Tryd.prog w base spare held m 5 ((cs.drop 2).take (Tryd.prog.cellsOf 5)) = some y2 := hf 2 _ rfl
    have h3 : DataW.trod enc Tryd.prog w base spare held m 4 ((cs.drop 3).take (Tryd.prog.cellsOf 4)) = some y3 := hf 3 _ rfl
    have h4 : DataW.trod enc Tryd.prog w base spare held m 4 ((cs.drop 4).take (Tryd.prog.cellsOf 4)) = some y4 := hf 4 _ rfl
    have h5 : DataW.trod enc Tryd.prog w base spare held m 3 ((cs.drop 5).take (Tryd.prog.cellsOf 3)) = some y5 := hf 5 _ rfl
    rw [c0] at hl
    rw [c1] at h0
    rw [c3] at h1
    rw [c2] at h2
    rw [c3] at h3
    rw [c3] at h4
    rw [c1] at h5
    obtain ⟨a0, a1, a2, a3, a4, a5, rfl⟩ := len6 hl
    · clear hf
      simp only [List.drop_zero, List.take_succ_cons, List.take_zero, List.drop_succ_cons] at h0 h1 h2 h3 h4 h5
      obtain ⟨k0, e0, _, _⟩ := DataW.trod_int Tryd.underlying3 h0
      obtain ⟨k1, e1, _⟩ := DataW.trod_bool Tryd.underlying4 h1
      obtain ⟨k2, e2, _, _⟩ := DataW.trod_int Tryd.underlying5 h2
      obtain ⟨k3, e3, _⟩ := DataW.trod_bool Tryd.underlying4 h3
      obtain ⟨k4, e4, _⟩ := DataW.trod_bool Tryd.underlying4 h4
      obtain ⟨k5, e5, _, _⟩ := DataW.trod_int Tryd.underlying3 h5
      cases e0; cases e1; cases e2; cases e3; cases e4; cases e5
      refine ⟨⟨k0, k1, k2, k3, k4, k5⟩, rfl, ?_⟩
      simp only [Rows.uptoBulk]
      omega
theorem keys_of_trodU {n : Nat} {cs : List Value} {y : DataW H × List MemPlace} (h : DataW.trod enc Tryd.prog w base spare held n 22 cs = some y) : ∃ v l, cs = [v] ∧ RKeys (fun _ => True) w v l ∧ l.length + 1 ≤ Rows.uptoBulk y.1 := by
  obtain ⟨v, l, e, h1, h2⟩ := SlR.of_trodU (μ := fun _ : DKey => 1) Tryd.underlying22 (by kernel_rfl) (fun _ _ _ h => key_of_trodU h) h
  refine ⟨v, l, e, h1, ?_⟩
  have : (l.map fun _ => 1).sum = l.length := by clear h1 h2; induction l with | nil => rfl | cons a l ih => simp only [List.map_cons, List.sum_cons, List.length_cons, ih]; omega
  omega
end Go.Proofs.YtmfplfaeibehiaaDoor

namespace Go.Proofs.YtmfplfaeibehiaaDoor
open Go Go.K
open Go.ChangeShapes Go.Joins
variable {H : Type} {enc : TypeId × Value → H} {w : World} {base : Nat} {spare : Nat → Bool} {held : Bool}
theorem keys_of_trod {n : Nat} {cs : List Value} {y : DataW H × List MemPlace} (h : DataW.trod enc Tryd.prog w base spare held n 22 cs = some y) : ∃ v l, cs = [v] ∧ RKeys (fun _ => True) w v l := by
  obtain ⟨v, l, e, h1, _⟩ := keys_of_trodU h
  exact ⟨v, l, e, h1⟩
end Go.Proofs.YtmfplfaeibehiaaDoor

namespace Go.Proofs.YtmfplfaeibehiaaDoor
open Go Go.K
/-- rubric/rubricref04.May -/
def S16 (v0 : Value) (K : Cont) (w : World) : Prop :=
  lenK v0 fun t7 =>
  gtK .i64 t7 (.int .i64 64) fun t8 =>
  condK t8
  (K (.bool false) w)
  (LoopK [(.int .i64 0)] (fun vs again w1 => ∀ _h : Env,
  lenK v0 fun t11 =>
  ltK .i64 (nth vs 0) t11 fun t12 =>
  condK t12
  (ixK 6 v0 (nth vs 0) fun t17 =>
  ldnK 6 t17 (fun t18 w2 =>
  newK 34 [(.int .i64 0), (.bool false), (.int .u8 0), (.bool false), (.bool false), (.int .i64 0)] (fun t4 w3 =>
  stnK 6 t4 t18 (fun w4 =>
  JoinK (fun _vs_1 w5 => ∀ _h_1 : Env,
  LoopK [(.int .i64 0)] (fun vs_2 again_1 w6 => ∀ _h_2 : Env,
  ltK .i64 (nth vs_2 0) (nth vs 0) fun t67 =>
  condK t67
  (DrawK w6 (fun C =>
  ixK 6 v0 (nth vs_2 0) fun t72 =>
  faK 0 t72 fun t73 =>
  qld1K C t73 fun t74 =>
  faK 0 t4 fun t75 =>
  qld1K C t75 fun t76 =>
  eqK .i64 t74 t76 fun t77 =>
  ∀ w7 : World, C w7 →
  condK t77
  (K (.bool false) w7)
  (addK .i64 (nth vs_2 0) (.int .i64 1) fun t69 =>
  again_1 [t69] w7)))
  (addK .i64 (nth vs 0) (.int .i64 1) fun t14 =>
  again [t14] w6)) w5) (fun J =>
  faK 0 t4 fun t19 =>
  ld1K t19 (fun t20 w8 =>
  ltK .i64 t20 (.int .i64 1) fun t21 =>
  condK t21
  (K (.bool false) w8)
  (faK 0 t4 fun t23 =>
  ld1K t23 (fun t24 w9 =>
  gtK .i64 t24 (.int .i64 1000) fun t25 =>
  condK t25
  (K (.bool false) w9)
  (faK 2 t4 fun t28 =>
  ld1K t28 (fun t29 w10 =>
  ltK .u8 t29 (.int .u8 1) fun t30 =>
  condK t30
  (K (.bool false) w10)
  (faK 2 t4 fun t33 =>
  ld1K t33 (fun t34 w11 =>
  gtK .u8 t34 (.int .u8 4) fun t35 =>
  condK t35
  (K (.bool false) w11)
  (faK 5 t4 fun t38 =>
  ld1K t38 (fun t39 w12 =>
  ltK .i64 t39 (.int .i64 0) fun t40 =>
  condK t40
  (K (.bool false) w12)
  (faK 5 t4 fun t43 =>
  ld1K t43 (fun t44 w13 =>
  gtK .i64 t44 (.int .i64 8) fun t45 =>
  condK t45
  (K (.bool false) w13)
  (faK 1 t4 fun t48 =>
  ld1K t48 (fun t49 w14 =>
  notK t49 fun t50 =>
  condK t50
  (faK 5 t4 fun t52 =>
  ld1K t52 (fun t53 w15 =>
  neK .i64 t53 (.int .i64 0) fun t54 =>
  condK t54
  (K (.bool false) w15)
  (faK 1 t4 fun t58 =>
  ld1K t58 (fun t59 w16 =>
  condK t59
  (faK 4 t4 fun t61 =>
  ld1K t61 (fun t62 w17 =>
  condK t62
  (K (.bool false) w17)
  (J [] w17)) w16)
  (J [] w16)) w15)) w14)
  (faK 1 t4 fun t58_1 =>
  ld1K t58_1 (fun t59_1 w18 =>
  condK t59_1
  (faK 4 t4 fun t61_1 =>
  ld1K t61_1 (fun t62_1 w19 =>
  condK t62_1
  (K (.bool false) w19)
  (J [] w19)) w18)
  (J [] w18)) w14)) w13)) w12)) w11)) w10)) w9)) w8)) w4)) w3) w2) w1)
  (K (.bool true) w1)) w)
theorem S16_eq (v0 : Value) (K : Cont) (w : World) : S16 v0 K w = D Tryd.prog okf 78 (bodyOf Tryd.f16) (.node [] [] .nil (.node [] [] (.node [] [] .nil (.node [] [] (.node [] [] .nil .nil) .nil)) (.node [] [] (.node [] [] .nil (.node [3] [(2, 5), (9, 77)] (.node [] [] (.node [] [] .nil (.node [] [] .nil .nil)) (.node [] [] (.node [] [] .nil (.cut [] [(2, 2), (19, 64)] (.node [] [] .nil (.node [] [] (.node [] [] .nil .nil) .nil)) (.node [] [] .nil (.node [5] [(2, 2), (5, 5), (65, 77)] (.node [] [] (.node [] [] .nil (.node [] [] .nil .nil)) (.node [] [] (.node [] [] .draw (.node [] [] (.node [] [] .nil .nil) .nil)) .nil)) .nil)))) .nil)) .nil)) (.node [] [] .nil .nil)))) (retK Tryd.prog [.tmp 2] K) (nth [v0]) w := by kernel_rfl
theorem S16_ok {v0 : Value} {K : Cont} {w : World} (h : S16 v0 K w) : callK Tryd.prog 16 [v0] K w :=
  callK_of (P := Tryd.prog) (ok := okf) (n := 78) (fn := Tryd.f16) (c := bodyOf Tryd.f16) (rs := [.tmp 2]) (an := (.node [] [] .nil (.node [] [] (.node [] [] .nil (.node [] [] (.node [] [] .nil .nil) .nil)) (.node [] [] (.node [] [] .nil (.node [3] [(2, 5), (9, 77)] (.node [] [] (.node [] [] .nil (.node [] [] .nil .nil)) (.node [] [] (.node [] [] .nil (.cut [] [(2, 2), (19, 64)] (.node [] [] .nil (.node [] [] (.node [] [] .nil .nil) .nil)) (.node [] [] .nil (.node [5] [(2, 2), (5, 5), (65, 77)] (.node [] [] (.node [] [] .nil (.node [] [] .nil .nil)) (.node [] [] (.node [] [] .draw (.node [] [] (.node [] [] .nil .nil) .nil)) .nil)) .nil)))) .nil)) .nil)) (.node [] [] .nil .nil))))) good mixed Tryd.func16 (by kernel_rfl) (by kernel_rfl) (by kernel_rfl) (by kernel_rfl) (Eq.mp (S16_eq v0 K w) h)

/-- rubric/rubricref05.May -/
def S54 (v0 v1 : Value) (K : Cont) (w : World) : Prop :=
  JoinK (fun _vs w1 => ∀ _h : Env,
  LoopK [(.int .i64 0)] (fun vs_1 again w2 => ∀ _h_1 : Env,
  lenK v1 fun t17 =>
  ltK .i64 (nth vs_1 0) t17 fun t18 =>
  condK t18
  (ixK 5 v1 (nth vs_1 0) fun t23 =>
  faK 1 t23 fun t24 =>
  ldnK 4 t24 (fun t25 w3 =>
  callK Tryd.prog 47 [t25] (fun t26 w4 =>
  notK t26 fun t27 =>
  condK t27
  (K (.int .i64 3) w4)
  (addK .i64 (nth vs_1 0) (.int .i64 1) fun t20 =>
  again [t20] w4)) w3) w2)
  (LoopK [(.int .i64 0)] (fun vs_2 again_1 w5 => ∀ _h_2 : Env,
  lenK v1 fun t30 =>
  ltK .i64 (nth vs_2 0) t30 fun t31 =>
  condK t31
  (DrawC [11] [[], [], [], [1, 2], [1, 2, 3], [1, 2, 3, 4], [], [], [6, 7], [6, 7, 8], [6, 7, 8, 9], [0, 1, 2, 3, 4, 5, 6, 7, 8, 9, 10], [0, 1, 2, 3, 4, 5, 6, 7, 8, 9, 10, 11]] w5.drew (fun M St =>
  ixK 5 v1 (nth vs_2 0) fun t37 =>
  faK 0 t37 fun t38 =>
  sld1 (St 5) t38 fun t39 =>
  ixK 5 v1 (nth vs_2 0) fun t42 =>
  faK 1 t42 fun t43 =>
  sldn (St 10) 4 t43 fun t44 =>
  callK Tryd.prog 23 [v0, t39, t44] (fun t45 w6 =>
  Mod (M 11) w5.drew w6 ∧
  notK t45 fun t46 =>
  condK t46
  (K (.int .i64 4) w6)
  (addK .i64 (nth vs_2 0) (.int .i64 1) fun t33 =>
  again_1 [t33] w6)) w5.drew))
  (K (.int .i64 0) w5)) w2)) w1) (fun J =>
  callK Tryd.prog 71 [v1] (fun t8 w7 =>
  notK t8 fun t9 =>
  condK t9
  (K (.int .i64 3) w7)
  (lenK v1 fun t12 =>
  gtK .i64 t12 (.int .i64 64) fun t13 =>
  condK t13
  (K (.int .i64 3) w7)
  (J [] w7))) w)
theorem S54_eq (v0 v1 : Value) (K : Cont) (w : World) : S54 v0 v1 K w = D Tryd.prog okf 47 (bodyOf Tryd.f54) (.node [] [] .nil (.cut [] [(4, 4), (7, 14)] (.node [] [] .nil (.node [] [] (.node [] [] .nil .nil) .nil)) (.node [] [] (.node [] [] .nil (.node [5] [(4, 5), (15, 27)] (.node [] [] (.node [] [] .nil (.node [] [] .nil .nil)) (.node [] [] (.node [] [] .nil (.node [] [] (.node [] [] .nil .nil) .nil)) .nil)) .nil)) (.node [] [] (.node [] [] .nil (.node [6] [(4, 4), (6, 6), (28, 46)] (.node [] [] (.node [] [] .nil (.node [] [] .nil .nil)) (.node [] [] (.node [] [] (.dc [11] [[], [], [], [1, 2], [1, 2, 3], [1, 2, 3, 4], [], [], [6, 7], [6, 7, 8], [6, 7, 8, 9], [0, 1, 2, 3, 4, 5, 6, 7, 8, 9, 10], [0, 1, 2, 3, 4, 5, 6, 7, 8, 9, 10, 11]] []) (.node [] [] (.node [] [] .nil .nil) .nil)) .nil)) .nil)) (.node [] [] .nil .nil))))) (retK Tryd.prog [.tmp 4] K) (nth [v0, v1]) w := by kernel_rfl
theorem S54_ok {v0 v1 : Value} {K : Cont} {w : World} (h : S54 v0 v1 K w) : callK Tryd.prog 54 [v0, v1] K w :=
  callK_of (P := Tryd.prog) (ok := okf) (n := 47) (fn := Tryd.f54) (c := bodyOf Tryd.f54) (rs := [.tmp 4]) (an := (.node [] [] .nil (.cut [] [(4, 4), (7, 14)] (.node [] [] .nil (.node [] [] (.node [] [] .nil .nil) .nil)) (.node [] [] (.node [] [] .nil (.node [5] [(4, 5), (15, 27)] (.node [] [] (.node [] [] .nil (.node [] [] .nil .nil)) (.node [] [] (.node [] [] .nil (.node [] [] (.node [] [] .nil .nil) .nil)) .nil)) .nil)) (.node [] [] (.node [] [] .nil (.node [6] [(4, 4), (6, 6), (28, 46)] (.node [] [] (.node [] [] .nil (.node [] [] .nil .nil)) (.node [] [] (.node [] [] (.dc [11] [[], [], [], [1, 2], [1, 2, 3], [1, 2, 3, 4], [], [], [6, 7], [6, 7, 8], [6, 7, 8, 9], [0, 1, 2, 3, 4, 5, 6, 7, 8, 9, 10], [0, 1, 2, 3, 4, 5, 6, 7, 8, 9, 10, 11]] []) (.node [] [] (.node [] [] .nil .nil) .nil)) .nil)) .nil)) (.node [] [] .nil .nil)))))) good mixed Tryd.func54 (by kernel_rfl) (by kernel_rfl) (by kernel_rfl) (by kernel_rfl) (Eq.mp (S54_eq v0 v1 K w) h)

/-- rubric/rubricref01.May -/
def S94 (v0 : Value) (K : Cont) (w : World) : Prop :=
  geK .i32 v0 (.int .i32 0) fun t4 =>
  condK t4
  (ltK .i32 v0 (.int .i32 55296) fun t7 =>
  condK t7
  (K (.bool true) w)
  (geK .i32 v0 (.int .i32 57344) fun t11 =>
  condK t11
  (leK .i32 v0 (.int .i32 1114111) fun t14 =>
  K t14 w)
  (K (.bool false) w)))
  (geK .i32 v0 (.int .i32 57344) fun t11_1 =>
  condK t11_1
  (leK .i32 v0 (.int .i32 1114111) fun t14_1 =>
  K t14_1 w)
  (K (.bool false) w))
theorem S94_eq (v0 : Value) (K : Cont) (w : World) : S94 v0 K w = D Tryd.prog okf 17 (bodyOf Tryd.f94) (.node [] [] .nil (.node [] [] .nil .nil)) (retK Tryd.prog [.tmp 2] K) (nth [v0]) w := by kernel_rfl
theorem S94_ok {v0 : Value} {K : Cont} {w : World} (h : S94 v0 K w) : callK Tryd.prog 94 [v0] K w :=
  callK_of (P := Tryd.prog) (ok := okf) (n := 17) (fn := Tryd.f94) (c := bodyOf Tryd.f94) (rs := [.tmp 2]) (an := (.node [] [] .nil (.node [] [] .nil .nil))) good mixed Tryd.func94 (by kernel_rfl) (by kernel_rfl) (by kernel_rfl) (by kernel_rfl) (Eq.mp (S94_eq v0 K w) h)

/-- rubric/rubricref05.Rising -/
def S71 (v0 : Value) (K : Cont) (w : World) : Prop :=
  LoopK [(.int .i64 1)] (fun vs again w1 => ∀ _h : Env,
  lenK v0 fun t6 =>
  ltK .i64 (nth vs 0) t6 fun t7 =>
  condK t7
  (DrawK w1 (fun C =>
  subK .i64 (nth vs 0) (.int .i64 1) fun t12 =>
  ixK 5 v0 t12 fun t13 =>
  faK 0 t13 fun t14 =>
  qld1K C t14 fun t15 =>
  ixK 5 v0 (nth vs 0) fun t18 =>
  faK 0 t18 fun t19 =>
  qld1K C t19 fun t20 =>
  geK .i64 t15 t20 fun t21 =>
  ∀ w2 : World, C w2 →
  condK t21
  (K (.bool false) w2)
  (addK .i64 (nth vs 0) (.int .i64 1) fun t9 =>
  again [t9] w2)))
  (K (.bool true) w1)) w
theorem S71_eq (v0 : Value) (K : Cont) (w : World) : S71 v0 K w = D Tryd.prog okf 22 (bodyOf Tryd.f71) (.node [] [] .nil (.node [] [] (.node [] [] .nil (.node [3] [(2, 21)] (.node [] [] (.node [] [] .nil (.node [] [] .nil .nil)) (.node [] [] (.node [] [] .draw (.node [] [] (.node [] [] .nil .nil) .nil)) .nil)) .nil)) (.node [] [] .nil .nil))) (retK Tryd.prog [.tmp 2] K) (nth [v0]) w := by kernel_rfl
theorem S71_ok {v0 : Value} {K : Cont} {w : World} (h : S71 v0 K w) : callK Tryd.prog 71 [v0] K w :=
  callK_of (P := Tryd.prog) (ok := okf) (n := 22) (fn := Tryd.f71) (c := bodyOf Tryd.f71) (rs := [.tmp 2]) (an := (.node [] [] .nil (.node [] [] (.node [] [] .nil (.node [3] [(2, 21)] (.node [] [] (.node [] [] .nil (.node [] [] .nil .nil)) (.node [] [] (.node [] [] .draw (.node [] [] (.node [] [] .nil .nil) .nil)) .nil)) .nil)) (.node [] [] .nil .nil)))) good mixed Tryd.func71 (by kernel_rfl) (by kernel_rfl) (by kernel_rfl) (by kernel_rfl) (Eq.mp (S71_eq v0 K w) h)

/-- rubric/rubricref03.May -/
def S47 (v0 : Value) (K : Cont) (w : World) : Prop :=
  boxnK 30 v0 (fun t1 w1 =>
  faK 0 t1 fun t5 =>
  ld1K t5 (fun t6 w2 =>
  eqK .u8 t6 (.int .u8 1) fun t8 =>
  condK t8
  (ldnK 4 t1 (fun t9 w3 =>
  faK 1 t1 fun t10 =>
  ld1K t10 (fun t11 w4 =>
  buildK [(0, 1), (1, 1), (2, 1), (3, 1)] [(.int .u8 0), (.int .i64 0), (.int .u64 0), (.string (ByteArray.mk #[]))] [(0, (.int .u8 1)), (1, t11)] fun t12 =>
  runK Tryd.prog (binS .eql 30 (.tmp 9) (.tmp 12) t9 t12) (fun t13 w5 =>
  condK t13
  (faK 1 t1 fun t15 =>
  ld1K t15 (fun t16 w6 =>
  eqK .i64 t16 (.int .i64 0) fun t17 =>
  condK t17
  (K (.bool true) w6)
  (faK 1 t1 fun t19 =>
  ld1K t19 (fun t20 w7 =>
  eqK .i64 t20 (.int .i64 1) fun t21 =>
  K t21 w7) w6)) w5)
  (K (.bool false) w5)) w4) w3) w2)
  (eqK .u8 t6 (.int .u8 2) fun t25 =>
  condK t25
  (ldnK 4 t1 (fun t26 w8 =>
  faK 1 t1 fun t27 =>
  ld1K t27 (fun t28 w9 =>
  buildK [(0, 1), (1, 1), (2, 1), (3, 1)] [(.int .u8 0), (.int .i64 0), (.int .u64 0), (.string (ByteArray.mk #[]))] [(0, (.int .u8 2)), (1, t28)] fun t29 =>
  runK Tryd.prog (binS .eql 30 (.tmp 26) (.tmp 29) t26 t29) (fun t30 w10 =>
  K t30 w10) w9) w8) w2)
  (eqK .u8 t6 (.int .u8 3) fun t32 =>
  condK t32
  (ldnK 4 t1 (fun t33 w11 =>
  faK 2 t1 fun t34 =>
  ld1K t34 (fun t35 w12 =>
  buildK [(0, 1), (1, 1), (2, 1), (3, 1)] [(.int .u8 0), (.int .i64 0), (.int .u64 0), (.string (ByteArray.mk #[]))] [(0, (.int .u8 3)), (2, t35)] fun t36 =>
  runK Tryd.prog (binS .eql 30 (.tmp 33) (.tmp 36) t33 t36) (fun t37 w13 =>
  condK t37
  (faK 2 t1 fun t39 =>
  ld1K t39 (fun t40 w14 =>
  callK Tryd.prog 65 [t40] (fun t41 w15 =>
  notK t41 fun t42 =>
  condK t42
  (K (.bool true) w15)
  (faK 2 t1 fun t44 =>
  ld1K t44 (fun t45 w16 =>
  eqK .u64 t45 (.int .u64 9221120237041090560) fun t46 =>
  K t46 w16) w15)) w14) w13)
  (K (.bool false) w13)) w12) w11) w2)
  (eqK .u8 t6 (.int .u8 4) fun t50 =>
  condK t50
  (faK 3 t1 fun t52 =>
  ld1K t52 (fun t53 w17 =>
  runK Tryd.prog (convert 9 54 t53) (fun t54 w18 =>
  callK Tryd.prog 66 [t54] (fun t55 w19 =>
  extK 0 t55 fun _t56 =>
  extK 1 t55 fun t57 =>
  ldnK 4 t1 (fun t58 w20 =>
  faK 3 t1 fun t59 =>
  ld1K t59 (fun t60 w21 =>
  buildK [(0, 1), (1, 1), (2, 1), (3, 1)] [(.int .u8 0), (.int .i64 0), (.int .u64 0), (.string (ByteArray.mk #[]))] [(0, (.int .u8 4)), (3, t60)] fun t61 =>
  runK Tryd.prog (binS .eql 30 (.tmp 58) (.tmp 61) t58 t61) (fun t62 w22 =>
  condK t62
  (faK 3 t1 fun t64 =>
  ld1K t64 (fun t65 w23 =>
  slenK t65 fun t66 =>
  leK .i64 t66 (.int .i64 64) fun t67 =>
  condK t67
  (eqK .i64 t57 (.int .i64 0) fun t71 =>
  K t71 w23)
  (K (.bool false) w23)) w22)
  (K (.bool false) w22)) w21) w20) w19) w18) w17) w2)
  (K (.bool false) w2))))) w1) w
theorem S47_eq (v0 : Value) (K : Cont) (w : World) : S47 v0 K w = D Tryd.prog okf 73 (bodyOf Tryd.f47) (.node [] [] .nil (.node [] [] (.node [] [] .nil (.node [] [] .nil (.node [] [] (.node [] [] .nil .nil) (.node [] [] .nil (.node [] [] (.node [] [] .nil .nil) (.node [] [] .nil (.node [] [] (.node [] [] .nil .nil) (.node [] [] .nil (.node [] [] (.node [] [] .nil (.node [] [] .nil .nil)) .nil))))))))) (.node [] [] .nil .nil))) (retK Tryd.prog [.tmp 2] K) (nth [v0]) w := by kernel_rfl
theorem S47_ok {v0 : Value} {K : Cont} {w : World} (h : S47 v0 K w) : callK Tryd.prog 47 [v0] K w :=
  callK_of (P := Tryd.prog) (ok := okf) (n := 73) (fn := Tryd.f47) (c := bodyOf Tryd.f47) (rs := [.tmp 2]) (an := (.node [] [] .nil (.node [] [] (.node [] [] .nil (.node [] [] .nil (.node [] [] (.node [] [] .nil .nil) (.node [] [] .nil (.node [] [] (.node [] [] .nil .nil) (.node [] [] .nil (.node [] [] (.node [] [] .nil .nil) (.node [] [] .nil (.node [] [] (.node [] [] .nil (.node [] [] .nil .nil)) .nil))))))))) (.node [] [] .nil .nil)))) good mixed Tryd.func47 (by kernel_rfl) (by kernel_rfl) (by kernel_rfl) (by kernel_rfl) (Eq.mp (S47_eq v0 K w) h)

/-- rubric/rubricref04.Fits -/
def S23 (v0 v1 v2 : Value) (K : Cont) (w : World) : Prop :=
  boxnK 30 v2 (fun t5 w1 =>
  callK Tryd.prog 20 [v0, v1] (fun t12 w2 =>
  extK 0 t12 fun t13 =>
  extK 1 t12 fun t14 =>
  newK 34 [(.int .i64 0), (.bool false), (.int .u8 0), (.bool false), (.bool false), (.int .i64 0)] (fun t7 w3 =>
  stnK 6 t7 t13 (fun w4 =>
  condK t14
  (ldnK 4 t5 (fun t17 w5 =>
  callK Tryd.prog 47 [t17] (fun t18 w6 =>
  condK t18
  (faK 0 t5 fun t21 =>
  ld1K t21 (fun t22 w7 =>
  faK 2 t7 fun t23 =>
  ld1K t23 (fun t24 w8 =>
  eqK .u8 t22 t24 fun t25 =>
  K t25 w8) w7) w6)
  (K (.bool false) w6)) w5) w4)
  (K (.bool false) w4)) w3) w2) w1) w
theorem S23_eq (v0 v1 v2 : Value) (K : Cont) (w : World) : S23 v0 v1 v2 K w = D Tryd.prog okf 27 (bodyOf Tryd.f23) (.node [] [] .nil (.node [] [] .nil (.node [] [] .nil .nil))) (retK Tryd.prog [.tmp 6] K) (nth [v0, v1, v2]) w := by kernel_rfl
theorem S23_ok {v0 v1 v2 : Value} {K : Cont} {w : World} (h : S23 v0 v1 v2 K w) : callK Tryd.prog 23 [v0, v1, v2] K w :=
  callK_of (P := Tryd.prog) (ok := okf) (n := 27) (fn := Tryd.f23) (c := bodyOf Tryd.f23) (rs := [.tmp 6]) (an := (.node [] [] .nil (.node [] [] .nil (.node [] [] .nil .nil)))) good mixed Tryd.func23 (by kernel_rfl) (by kernel_rfl) (by kernel_rfl) (by kernel_rfl) (Eq.mp (S23_eq v0 v1 v2 K w) h)

/-- rubric/rubricref04.Find -/
def S20 (v0 v1 : Value) (K : Cont) (w : World) : Prop :=
  newK 34 [(.int .i64 0), (.bool false), (.int .u8 0), (.bool false), (.bool false), (.int .i64 0)] (fun t4 w1 =>
  LoopK [(.int .i64 0)] (fun vs again w2 => ∀ _h : Env,
  lenK v0 fun t9 =>
  ltK .i64 (nth vs 0) t9 fun t10 =>
  condK t10
  (ixK 6 v0 (nth vs 0) fun t15 =>
  faK 0 t15 fun t16 =>
  ld1K t16 (fun t17 w3 =>
  eqK .i64 t17 v1 fun t19 =>
  condK t19
  (ixK 6 v0 (nth vs 0) fun t22 =>
  ldnK 6 t22 (fun t23 w4 =>
  stnK 6 t4 t23 (fun w5 =>
  ldnK 6 t4 (fun r0 w6 =>
  K (.tuple #[r0, (.bool true)]) w6) w5) w4) w3)
  (addK .i64 (nth vs 0) (.int .i64 1) fun t12 =>
  again [t12] w3)) w2)
  (buildK [(0, 1), (1, 1), (2, 1), (3, 1), (4, 1), (5, 1)] [(.int .i64 0), (.bool false), (.int .u8 0), (.bool false), (.bool false), (.int .i64 0)] [] fun t24 =>
  stnK 6 t4 t24 (fun w7 =>
  ldnK 6 t4 (fun r0_1 w8 =>
  K (.tuple #[r0_1, (.bool false)]) w8) w7) w2)) w1) w
theorem S20_eq (v0 v1 : Value) (K : Cont) (w : World) : S20 v0 v1 K w = D Tryd.prog okf 25 (bodyOf Tryd.f20) (.node [] [] .nil (.node [] [] (.node [] [] .nil (.node [6] [(5, 23)] (.node [] [] (.node [] [] .nil (.node [] [] .nil .nil)) (.node [] [] (.node [] [] .nil (.node [] [] (.node [] [] .nil .nil) .nil)) .nil)) .nil)) (.node [] [] .nil .nil))) (retK Tryd.prog [.cell 4 34, .tmp 5] K) (nth [v0, v1]) w := by kernel_rfl
theorem S20_ok {v0 v1 : Value} {K : Cont} {w : World} (h : S20 v0 v1 K w) : callK Tryd.prog 20 [v0, v1] K w :=
  callK_of (P := Tryd.prog) (ok := okf) (n := 25) (fn := Tryd.f20) (c := bodyOf Tryd.f20) (rs := [.cell 4 34, .tmp 5]) (an := (.node [] [] .nil (.node [] [] (.node [] [] .nil (.node [6] [(5, 23)] (.node [] [] (.node [] [] .nil (.node [] [] .nil .nil)) (.node [] [] (.node [] [] .nil (.node [] [] (.node [] [] .nil .nil) .nil)) .nil)) .nil)) (.node [] [] .nil .nil)))) good mixed Tryd.func20 (by kernel_rfl) (by kernel_rfl) (by kernel_rfl) (by kernel_rfl) (Eq.mp (S20_eq v0 v1 K w) h)

/-- rubric/rubricref03.none -/
def S65 (v0 : Value) (K : Cont) (w : World) : Prop :=
  runK Tryd.prog (binS .rem 28 (.tmp 3) (.const (.int .u64 9223372036854775808)) v0 (.int .u64 9223372036854775808)) (fun t4 w1 =>
  gtK .u64 t4 (.int .u64 9218868437227405312) fun t5 =>
  K t5 w1) w
theorem S65_eq (v0 : Value) (K : Cont) (w : World) : S65 v0 K w = D Tryd.prog okf 6 (bodyOf Tryd.f65) (.node [] [] .nil (.node [] [] .nil .nil)) (retK Tryd.prog [.tmp 2] K) (nth [v0]) w := by kernel_rfl
theorem S65_ok {v0 : Value} {K : Cont} {w : World} (h : S65 v0 K w) : callK Tryd.prog 65 [v0] K w :=
  callK_of (P := Tryd.prog) (ok := okf) (n := 6) (fn := Tryd.f65) (c := bodyOf Tryd.f65) (rs := [.tmp 2]) (an := (.node [] [] .nil (.node [] [] .nil .nil))) good mixed Tryd.func65 (by kernel_rfl) (by kernel_rfl) (by kernel_rfl) (by kernel_rfl) (Eq.mp (S65_eq v0 K w) h)

/-- rubric/rubricref01.Read -/
def S66 (v0 : Value) (K : Cont) (w : World) : Prop :=
  LoopK [(.slice none 0 0), (.int .i64 0)] (fun vs again w1 => ∀ _h : Env,
  lenK v0 fun t10 =>
  ltK .i64 (nth vs 1) t10 fun t11 =>
  condK t11
  (runK Tryd.prog (Instr.sliceAt 54 v0 (some (nth vs 1)) none none) (fun t15 w2 =>
  callK Tryd.prog 85 [t15] (fun t16 w3 =>
  extK 0 t16 fun t17 =>
  extK 1 t16 fun t18 =>
  eqK .i64 t18 (.int .i64 0) fun t20 =>
  condK t20
  (K (.tuple #[(.slice none 0 0), (.int .i64 3)]) w3)
  (rowK 21 1 1 [(.int .i32 0)] [(0, t17)] (fun t23 w4 =>
  runK Tryd.prog (Builtin.append_ #[116, 116] 116 [(nth vs 0), t23].toArray) (fun t24 w5 =>
  addK .i64 (nth vs 1) t18 fun t27 =>
  again [t24, t27] w5) w4) w3)) w2) w1)
  (K (.tuple #[(nth vs 0), (.int .i64 0)]) w1)) w
theorem S66_eq (v0 : Value) (K : Cont) (w : World) : S66 v0 K w = D Tryd.prog okf 29 (bodyOf Tryd.f66) (.node [] [] .nil (.node [] [] .nil (.node [] [] (.node [] [] .nil (.node [4, 5] [(2, 27)] (.node [] [] (.node [] [] .nil (.node [] [] .nil .nil)) (.node [] [] .nil (.node [] [] (.node [] [] .nil (.node [] [] (.node [] [] .nil .nil) .nil)) (.node [] [] .nil .nil)))) .nil)) (.node [] [] .nil .nil)))) (retK Tryd.prog [.tmp 2, .tmp 3] K) (nth [v0]) w := by kernel_rfl
theorem S66_ok {v0 : Value} {K : Cont} {w : World} (h : S66 v0 K w) : callK Tryd.prog 66 [v0] K w :=
  callK_of (P := Tryd.prog) (ok := okf) (n := 29) (fn := Tryd.f66) (c := bodyOf Tryd.f66) (rs := [.tmp 2, .tmp 3]) (an := (.node [] [] .nil (.node [] [] .nil (.node [] [] (.node [] [] .nil (.node [4, 5] [(2, 27)] (.node [] [] (.node [] [] .nil (.node [] [] .nil .nil)) (.node [] [] .nil (.node [] [] (.node [] [] .nil (.node [] [] (.node [] [] .nil .nil) .nil)) (.node [] [] .nil .nil)))) .nil)) (.node [] [] .nil .nil))))) good mixed Tryd.func66 (by kernel_rfl) (by kernel_rfl) (by kernel_rfl) (by kernel_rfl) (Eq.mp (S66_eq v0 K w) h)

/-- rubric/rubricref01.next -/
def S85 (v0 : Value) (K : Cont) (w : World) : Prop :=
  ixK 1 v0 (.int .i64 0) fun t8 =>
  ld1K t8 (fun t9 w1 =>
  runK Tryd.prog (convert 5 21 t9) (fun t10 w2 =>
  JoinK (fun vs w3 => ∀ _h : Env,
  lenK v0 fun t47 =>
  ltK .i64 t47 (nth vs 0) fun t49 =>
  condK t49
  (K (.tuple #[(.int .i32 0), (.int .i64 0)]) w3)
  (LoopK [(nth vs 1), (.int .i64 1)] (fun vs_1 again w4 => ∀ _h_1 : Env,
  ltK .i64 (nth vs_1 1) (nth vs 0) fun t52 =>
  condK t52
  (JoinK (fun _vs_2 w5 => ∀ _h_2 : Env,
  mulK .i32 (nth vs_1 0) (.int .i32 64) fun t68 =>
  ixK 1 v0 (nth vs_1 1) fun t71 =>
  ld1K t71 (fun t72 w6 =>
  runK Tryd.prog (convert 5 21 t72) (fun t73 w7 =>
  addK .i32 t68 t73 fun t74 =>
  subK .i32 t74 (.int .i32 128) fun t75 =>
  addK .i64 (nth vs_1 1) (.int .i64 1) fun t54 =>
  again [t75, t54] w7) w6) w5) (fun J_1 =>
  ixK 1 v0 (nth vs_1 1) fun t57 =>
  ld1K t57 (fun t58 w8 =>
  ltK .u8 t58 (.int .u8 128) fun t59 =>
  condK t59
  (K (.tuple #[(.int .i32 0), (.int .i64 0)]) w8)
  (ixK 1 v0 (nth vs_1 1) fun t63 =>
  ld1K t63 (fun t64 w9 =>
  gtK .u8 t64 (.int .u8 191) fun t65 =>
  condK t65
  (K (.tuple #[(.int .i32 0), (.int .i64 0)]) w9)
  (J_1 [] w9)) w8)) w4))
  (callK Tryd.prog 94 [(nth vs_1 0)] (fun t77 w10 =>
  notK t77 fun t78 =>
  condK t78
  (K (.tuple #[(.int .i32 0), (.int .i64 0)]) w10)
  (callK Tryd.prog 95 [(nth vs_1 0)] (fun t81 w11 =>
  lenK t81 fun t82 =>
  neK .i64 t82 (nth vs 0) fun t84 =>
  condK t84
  (K (.tuple #[(.int .i32 0), (.int .i64 0)]) w11)
  (K (.tuple #[(nth vs_1 0), (nth vs 0)]) w11)) w10)) w4)) w3)) (fun J =>
  ixK 1 v0 (.int .i64 0) fun t13 =>
  ld1K t13 (fun t14 w12 =>
  geK .u8 t14 (.int .u8 240) fun t15 =>
  condK t15
  (ixK 1 v0 (.int .i64 0) fun t17 =>
  ld1K t17 (fun t18 w13 =>
  runK Tryd.prog (convert 5 21 t18) (fun t19 w14 =>
  subK .i32 t19 (.int .i32 240) fun t20 =>
  J [(.int .i64 4), t20] w14) w13) w12)
  (ixK 1 v0 (.int .i64 0) fun t23 =>
  ld1K t23 (fun t24 w15 =>
  geK .u8 t24 (.int .u8 224) fun t25 =>
  condK t25
  (ixK 1 v0 (.int .i64 0) fun t27 =>
  ld1K t27 (fun t28 w16 =>
  runK Tryd.prog (convert 5 21 t28) (fun t29 w17 =>
  subK .i32 t29 (.int .i32 224) fun t30 =>
  J [(.int .i64 3), t30] w17) w16) w15)
  (ixK 1 v0 (.int .i64 0) fun t33 =>
  ld1K t33 (fun t34 w18 =>
  geK .u8 t34 (.int .u8 192) fun t35 =>
  condK t35
  (ixK 1 v0 (.int .i64 0) fun t37 =>
  ld1K t37 (fun t38 w19 =>
  runK Tryd.prog (convert 5 21 t38) (fun t39 w20 =>
  subK .i32 t39 (.int .i32 192) fun t40 =>
  J [(.int .i64 2), t40] w20) w19) w18)
  (ixK 1 v0 (.int .i64 0) fun t43 =>
  ld1K t43 (fun t44 w21 =>
  geK .u8 t44 (.int .u8 128) fun t45 =>
  condK t45
  (K (.tuple #[(.int .i32 0), (.int .i64 0)]) w21)
  (J [(.int .i64 1), t10] w21)) w18)) w15)) w12)) w2)) w1) w
theorem S85_eq (v0 : Value) (K : Cont) (w : World) : S85 v0 K w = D Tryd.prog okf 88 (bodyOf Tryd.f85) (.node [] [] .nil (.node [] [] .nil (.node [] [] .nil (.cut [4, 5] [(2, 5), (11, 45)] (.node [] [] .nil (.node [] [] (.node [] [] .nil .nil) (.node [] [] .nil (.node [] [] (.node [] [] .nil .nil) (.node [] [] .nil (.node [] [] (.node [] [] .nil .nil) (.node [] [] .nil (.node [] [] (.node [] [] .nil .nil) .nil)))))))) (.node [] [] (.node [] [] .nil (.node [] [] (.node [] [] .nil .nil) .nil)) (.node [] [] (.node [] [] .nil (.node [5, 6] [(2, 3), (5, 6), (50, 75)] (.node [] [] (.node [] [] .nil (.node [] [] .nil .nil)) (.node [] [] (.cut [] [(2, 3), (55, 66)] (.node [] [] .nil (.node [] [] (.node [] [] .nil .nil) .nil)) .nil) .nil)) .nil)) (.node [] [] (.node [] [] .nil (.node [] [] (.node [] [] .nil .nil) .nil)) (.node [] [] .nil .nil)))))))) (retK Tryd.prog [.tmp 2, .tmp 3] K) (nth [v0]) w := by kernel_rfl
theorem S85_ok {v0 : Value} {K : Cont} {w : World} (h : S85 v0 K w) : callK Tryd.prog 85 [v0] K w :=
  callK_of (P := Tryd.prog) (ok := okf) (n := 88) (fn := Tryd.f85) (c := bodyOf Tryd.f85) (rs := [.tmp 2, .tmp 3]) (an := (.node [] [] .nil (.node [] [] .nil (.node [] [] .nil (.cut [4, 5] [(2, 5), (11, 45)] (.node [] [] .nil (.node [] [] (.node [] [] .nil .nil) (.node [] [] .nil (.node [] [] (.node [] [] .nil .nil) (.node [] [] .nil (.node [] [] (.node [] [] .nil .nil) (.node [] [] .nil (.node [] [] (.node [] [] .nil .nil) .nil)))))))) (.node [] [] (.node [] [] .nil (.node [] [] (.node [] [] .nil .nil) .nil)) (.node [] [] (.node [] [] .nil (.node [5, 6] [(2, 3), (5, 6), (50, 75)] (.node [] [] (.node [] [] .nil (.node [] [] .nil .nil)) (.node [] [] (.cut [] [(2, 3), (55, 66)] (.node [] [] .nil (.node [] [] (.node [] [] .nil .nil) .nil)) .nil) .nil)) .nil)) (.node [] [] (.node [] [] .nil (.node [] [] (.node [] [] .nil .nil) .nil)) (.node [] [] .nil .nil))))))))) good mixed Tryd.func85 (by kernel_rfl) (by kernel_rfl) (by kernel_rfl) (by kernel_rfl) (Eq.mp (S85_eq v0 K w) h)

/-- rubric/rubricref01.one -/
def S95 (v0 : Value) (K : Cont) (w : World) : Prop :=
  ltK .i32 v0 (.int .i32 128) fun t5 =>
  condK t5
  (runK Tryd.prog (convert 21 5 v0) (fun t7 w1 =>
  rowK 5 1 1 [(.int .u8 0)] [(0, t7)] (fun t8 w2 =>
  K t8 w2) w1) w)
  (ltK .i32 v0 (.int .i32 2048) fun t11 =>
  condK t11
  (runK Tryd.prog (binS .quo 21 (.tmp 12) (.const (.int .i32 64)) v0 (.int .i32 64)) (fun t13 w3 =>
  addK .i32 (.int .i32 192) t13 fun t14 =>
  runK Tryd.prog (convert 21 5 t14) (fun t15 w4 =>
  callK Tryd.prog 98 [v0] (fun t17 w5 =>
  rowK 5 1 2 [(.int .u8 0)] [(0, t15), (1, t17)] (fun t18 w6 =>
  K t18 w6) w5) w4) w3) w)
  (ltK .i32 v0 (.int .i32 65536) fun t21 =>
  condK t21
  (runK Tryd.prog (binS .quo 21 (.tmp 22) (.const (.int .i32 4096)) v0 (.int .i32 4096)) (fun t23 w7 =>
  addK .i32 (.int .i32 224) t23 fun t24 =>
  runK Tryd.prog (convert 21 5 t24) (fun t25 w8 =>
  runK Tryd.prog (binS .quo 21 (.tmp 26) (.const (.int .i32 64)) v0 (.int .i32 64)) (fun t27 w9 =>
  callK Tryd.prog 98 [t27] (fun t28 w10 =>
  callK Tryd.prog 98 [v0] (fun t30 w11 =>
  rowK 5 1 3 [(.int .u8 0)] [(0, t25), (1, t28), (2, t30)] (fun t31 w12 =>
  K t31 w12) w11) w10) w9) w8) w7) w)
  (runK Tryd.prog (binS .quo 21 (.tmp 32) (.const (.int .i32 262144)) v0 (.int .i32 262144)) (fun t33 w13 =>
  addK .i32 (.int .i32 240) t33 fun t34 =>
  runK Tryd.prog (convert 21 5 t34) (fun t35 w14 =>
  runK Tryd.prog (binS .quo 21 (.tmp 36) (.const (.int .i32 4096)) v0 (.int .i32 4096)) (fun t37 w15 =>
  callK Tryd.prog 98 [t37] (fun t38 w16 =>
  runK Tryd.prog (binS .quo 21 (.tmp 39) (.const (.int .i32 64)) v0 (.int .i32 64)) (fun t40 w17 =>
  callK Tryd.prog 98 [t40] (fun t41 w18 =>
  callK Tryd.prog 98 [v0] (fun t43 w19 =>
  rowK 5 1 4 [(.int .u8 0)] [(0, t35), (1, t38), (2, t41), (3, t43)] (fun t44 w20 =>
  K t44 w20) w19) w18) w17) w16) w15) w14) w13) w)))
theorem S95_eq (v0 : Value) (K : Cont) (w : World) : S95 v0 K w = D Tryd.prog okf 45 (bodyOf Tryd.f95) (.node [] [] .nil (.node [] [] (.node [] [] .nil (.node [] [] (.node [] [] .nil .nil) (.node [] [] .nil (.node [] [] (.node [] [] .nil .nil) (.node [] [] .nil (.node [] [] (.node [] [] .nil .nil) .nil)))))) (.node [] [] .nil .nil))) (retK Tryd.prog [.tmp 2] K) (nth [v0]) w := by kernel_rfl
theorem S95_ok {v0 : Value} {K : Cont} {w : World} (h : S95 v0 K w) : callK Tryd.prog 95 [v0] K w :=
  callK_of (P := Tryd.prog) (ok := okf) (n := 45) (fn := Tryd.f95) (c := bodyOf Tryd.f95) (rs := [.tmp 2]) (an := (.node [] [] .nil (.node [] [] (.node [] [] .nil (.node [] [] (.node [] [] .nil .nil) (.node [] [] .nil (.node [] [] (.node [] [] .nil .nil) (.node [] [] .nil (.node [] [] (.node [] [] .nil .nil) .nil)))))) (.node [] [] .nil .nil)))) good mixed Tryd.func95 (by kernel_rfl) (by kernel_rfl) (by kernel_rfl) (by kernel_rfl) (Eq.mp (S95_eq v0 K w) h)

/-- rubric/rubricref01.six -/
def S98 (v0 : Value) (K : Cont) (w : World) : Prop :=
  runK Tryd.prog (binS .rem 21 (.tmp 3) (.const (.int .i32 64)) v0 (.int .i32 64)) (fun t4 w1 =>
  addK .i32 (.int .i32 128) t4 fun t5 =>
  runK Tryd.prog (convert 21 5 t5) (fun t6 w2 =>
  K t6 w2) w1) w
theorem S98_eq (v0 : Value) (K : Cont) (w : World) : S98 v0 K w = D Tryd.prog okf 7 (bodyOf Tryd.f98) (.node [] [] .nil (.node [] [] .nil .nil)) (retK Tryd.prog [.tmp 2] K) (nth [v0]) w := by kernel_rfl
theorem S98_ok {v0 : Value} {K : Cont} {w : World} (h : S98 v0 K w) : callK Tryd.prog 98 [v0] K w :=
  callK_of (P := Tryd.prog) (ok := okf) (n := 7) (fn := Tryd.f98) (c := bodyOf Tryd.f98) (rs := [.tmp 2]) (an := (.node [] [] .nil (.node [] [] .nil .nil))) good mixed Tryd.func98 (by kernel_rfl) (by kernel_rfl) (by kernel_rfl) (by kernel_rfl) (Eq.mp (S98_eq v0 K w) h)

end Go.Proofs.YtmfplfaeibehiaaDoor

namespace Go.K
open Go
theorem clone_g {α : Type} {P : Program} {t e k bytes : Nat} {R : World → List Value → α → Prop} {S : Nat → Prop} {w : World} {v : Value} {l : List α} {K : Cont} (hE : ElemOK P t e k bytes) (h : SlR S k R w v l) (hl : l.length * bytes ≤ 140737488355328)
    (hone : ∀ w r y, R w r y → ∀ u ∈ r, u.oneCell' = true) (hR : ∀ w1 w2 r y, w.heap.size ≤ w1.heap.size → Mod (fun b => w.heap.size ≤ b) w1 w2 → R w1 r y → R w2 r y)
    (hK : ∀ v' w', OwnR w.heap.size e k R w' v' l → Grow w w' → K v' w') :
    snilK v fun b4 => condK (.bool b4) (K (.slice none 0 0) w) (rowK e k 0 [] [] (fun t5 w1 => runK P (Builtin.append_ #[t, t] t [t5, v].toArray) (fun t7 w2 => K t7 w2) w1) w) := by
  obtain ⟨a, c, rfl, hm⟩ := h.shape
  have hk := hE
  obtain ⟨_, _, _, _, _, _, _, _, hk0⟩ := hk
  cases a with
  | none =>
    simp only [KS]
    have : l = [] := by
      cases l with
      | nil => rfl
      | cons x l => obtain ⟨p, r, e, _⟩ := h.get (i := 0) (by simp); cases e
    subst this
    exact hK _ _ OwnR.nil (Mod.refl _ _)
  | some p =>
    simp only [KS]
    refine rowK_empty ?_
    have hg : Grow w (w.alloc (.cells #[] e)) := Mod.alloc _ _ _
    have ho : OwnR w.heap.size e k R (w.alloc (.cells #[] e)) (.slice (some ⟨w.heap.size, 0, none⟩) 0 0) ([] : List α) := OwnR.made (Nat.le_refl _)
    obtain ⟨v', w', h1, h2, h3, h4⟩ := OwnR.append (ty := t) hE ho ((h.old hk0).grow hg hk0 fun r x hx => hR _ _ _ _ (Nat.le_refl _) hg.mod hx) (fun _ _ => hone _ _ _) (by simpa using hl) (by simp) (by simpa using hm) (fun w' hg' r y hy => hR _ _ _ _ hg.size ((Mod.of_grownBy hg').mono fun b _ e => by simp only [Value.ownBlock, Option.some.injEq] at e; omega) hy)
    refine runK_i h1 (hK _ _ ?_ (hg.next (Mod.of_grownBy h3) ?_))
    · refine h2.base fun g hg' => ?_
      rcases h4 g hg' with h | h
      · cases h; exact Nat.le_refl _
      · simp only [World.size_alloc] at h; omega
    · intro b hb e; simp only [Value.ownBlock, Option.some.injEq] at e; omega
theorem condK_neg {p : Prop} [Decidable p] {A B : Prop} (h1 : p → B) (h2 : ¬ p → A) : condK (.bool (!decide p)) A B := by
  by_cases h : p
  · rw [decide_eq_true h]; exact h1 h
  · rw [decide_eq_false h]; exact h2 h
/-- the loop that compares two rows of the same length -/
theorem eq_loop {α : Type} [DecidableEq α] {P : Program} {k : Nat} {R R' : World → List Value → α → Prop} {S S' : Nat → Prop} {w : World} {a b : Option Addr} {ca cb : Nat} {l m : List α} {K : Cont} {bin : Value → Value → Sem Value}
    (ha : SlR S k R w (.slice a l.length ca) l) (hb : SlR S' k R' w (.slice b m.length cb) m) (hlen : l.length = m.length) (hm : l.length ≤ maxLen)
    (hbin : ∀ r r' x y w1, R w r x → R' w r' y → (bin (.agg r.toArray) (.agg r'.toArray)).run P w1 = .ok (.bool (!decide (x = y))) w1)
    (hK : ∀ w', Grow w w' → K (.bool (decide (l = m))) w') :
    LoopK [(.int .i64 0)] (fun vs again w1 => ∀ _ : Env, ltK .i64 (nth vs 0) (.int .i64 l.length) fun t14 => condK t14
      (DrawK w1 (fun C => ixK k (.slice a l.length ca) (nth vs 0) fun t18 => qldnK C k t18 fun t19 => ixK k (.slice b m.length cb) (nth vs 0) fun t22 => qldnK C k t22 fun t23 => qrunK P C (bin t19 t23) fun t24 =>
        ∀ w2 : World, C w2 → condK t24 (K (.bool false) w2) (addK .i64 (nth vs 0) (.int .i64 1) fun t25 => again [t25] w2)))
      (K (.bool true) w1)) w := by
  simp only [maxLen] at hm
  refine LoopK_i (fun vs w' => ∃ k : Nat, k ≤ l.length ∧ vs = [.int .i64 k] ∧ Grow w w' ∧ l.take k = m.take k) (fun vs _ => l.length - iOf vs 0) ⟨0, Nat.zero_le _, rfl, Mod.refl _ _, rfl⟩ ?_
  rintro vs w1 ⟨q, hq, rfl, hg, ht⟩ h
  simp only [KS]
  by_cases hlt : q < l.length
  · rw [if_pos (show (q : Int) < l.length by omega)]
    refine ⟨fun w2 => Grow w1 w2, Mod.drew _ _, ?_⟩
    obtain ⟨p, r, rfl, _, hr, hc, hx⟩ := ha.get hlt
    obtain ⟨p', r', rfl, _, hr', hc', hx'⟩ := hb.get (show q < m.length by omega)
    refine ixK_n hlt (qldnK_i hr (fun w2 h2 j u hu => ?_) ?_)
    · rw [Addr.add_add]; exact h2.cell (hg.cell (hc j u hu) (fun h => h)) (fun h => h)
    refine ixK_n (by omega) (qldnK_i hr' (fun w2 h2 j u hu => ?_) ?_)
    · rw [Addr.add_add]; exact h2.cell (hg.cell (hc' j u hu) (fun h => h)) (fun h => h)
    refine ⟨_, fun w2 _ => hbin _ _ _ _ w2 hx hx', fun w2 h2 => ?_⟩
    simp only [KS]
    by_cases he : l[q] = m[q]
    · rw [if_neg (fun h => h he)]
      refine ⟨⟨q + 1, by omega, by rw [wrap64 (by omega) (by omega)]; rfl, hg.trans h2, ?_⟩, ?_⟩
      · rw [List.take_add_one, List.take_add_one, ht]
        simp [hlt, show q < m.length by omega, he]
      · simp only [iOf, nth, List.headD_cons]; rw [wrap64 (by omega) (by omega)]; omega
    · rw [if_pos he]
      have : decide (l = m) = false := by rw [decide_eq_false_iff_not]; intro e; subst e; exact he rfl
      rw [← this]; exact hK _ (hg.trans h2)
  · rw [if_neg (show ¬ (q : Int) < l.length by omega)]
    have : q = l.length := by omega
    subst this
    rw [List.take_length, hlen, List.take_length] at ht
    have : decide (l = m) = true := by rw [decide_eq_true_eq]; exact ht
    rw [← this]; exact hK _ hg
/-- the same at elements of one cell -/
theorem eq_loop1 {q : IntKind} {R : World → List Value → Int → Prop} {S S' : Nat → Prop} {w : World} {a b : Option Addr} {ca cb : Nat} {l m : List Int} {K : Cont}
    (ha : SlR S 1 R w (.slice a l.length ca) l) (hb : SlR S' 1 R w (.slice b m.length cb) m) (hlen : l.length = m.length) (hm : l.length ≤ maxLen)
    (hRi : ∀ r x, R w r x → r = [.int q x])
    (hK : ∀ w', Grow w w' → K (.bool (decide (l = m))) w') :
    LoopK [(.int .i64 0)] (fun vs again w1 => ∀ _ : Env, ltK .i64 (nth vs 0) (.int .i64 l.length) fun t14 => condK t14
      (DrawK w1 (fun C => ixK 1 (.slice a l.length ca) (nth vs 0) fun t18 => qld1K C t18 fun t19 => ixK 1 (.slice b m.length cb) (nth vs 0) fun t22 => qld1K C t22 fun t23 => neK q t19 t23 fun t24 =>
        ∀ w2 : World, C w2 → condK t24 (K (.bool false) w2) (addK .i64 (nth vs 0) (.int .i64 1) fun t25 => again [t25] w2)))
      (K (.bool true) w1)) w := by
  simp only [maxLen] at hm
  refine LoopK_i (fun vs w' => ∃ k : Nat, k ≤ l.length ∧ vs = [.int .i64 k] ∧ Grow w w' ∧ l.take k = m.take k) (fun vs _ => l.length - iOf vs 0) ⟨0, Nat.zero_le _, rfl, Mod.refl _ _, rfl⟩ ?_
  rintro vs w1 ⟨i, hi, rfl, hg, ht⟩ h
  simp only [KS]
  by_cases hlt : i < l.length
  · rw [if_pos (show (i : Int) < l.length by omega)]
    refine ⟨fun w2 => Grow w1 w2, Mod.drew _ _, ?_⟩
    obtain ⟨p, r, rfl, _, hr, hc, hx⟩ := ha.get hlt
    obtain ⟨p', r', rfl, _, hr', hc', hx'⟩ := hb.get (show i < m.length by omega)
    obtain rfl := hRi _ _ hx
    obtain rfl := hRi _ _ hx'
    refine ixK_n hlt (qld1K_i (v := .int q l[i]) (fun w2 h2 => h2.cell (hg.cell (hc 0 _ rfl) fun h => h) fun h => h) ?_)
    refine ixK_n (by omega) (qld1K_i (v := .int q m[i]) (fun w2 h2 => h2.cell (hg.cell (hc' 0 _ rfl) fun h => h) fun h => h) ?_)
    simp only [KS]
    intro w2 h2
    by_cases he : l[i] = m[i]
    · rw [if_neg (fun h => h he)]
      refine ⟨⟨i + 1, by omega, by rw [wrap64 (by omega) (by omega)]; rfl, hg.trans h2, ?_⟩, ?_⟩
      · rw [List.take_add_one, List.take_add_one, ht]
        simp [hlt, show i < m.length by omega, he]
      · simp only [iOf, nth, List.headD_cons]; rw [wrap64 (by omega) (by omega)]; omega
    · rw [if_pos he]
      have : decide (l = m) = false := by rw [decide_eq_false_iff_not]; intro e; subst e; exact he rfl
      rw [← this]; exact hK _ (hg.trans h2)
  · rw [if_neg (show ¬ (i : Int) < l.length by omega)]
    have : i = l.length := by omega
    subst this
    rw [List.take_length, hlen, List.take_length] at ht
    have : decide (l = m) = true := by rw [decide_eq_true_eq]; exact ht
    rw [← this]; exact hK _ hg
end Go.K
namespace Go.Proofs.YtmfplfaeibehiaaDoor
open Go Go.K
theorem RDops.old {S D : Nat → Prop} {w : World} {v : Value} {l : List Dop} (h : RDops S D w v l) : RDops (fun b => S b ∧ b < w.heap.size) (fun b => D b ∧ b < w.heap.size) w v l :=
  SlR.sub h (fun b hb h => ⟨h, hb⟩) (by decide) fun r x hx => hx.mod (Mod.refl (fun _ => False) _) (fun _ _ _ h => h) fun b hb h => ⟨h, hb⟩
end Go.Proofs.YtmfplfaeibehiaaDoor

namespace Go.K
open Go
/-- a struct that is handed over, laid in a box -/
theorem boxn_i {t : TypeId} {vs : List Value} {K : Cont} {w : World} (h : ∀ b w1, b = w.heap.size → w1.heap.size = w.heap.size + 1 → Grow w w1 → (∀ j v, vs[j]? = some v → w1.cell? ((⟨b, 0, none⟩ : Addr).add j) = some v) → (∀ j, j < vs.length → Live w1 ((⟨b, 0, none⟩ : Addr).add j)) → K (.pointer (some ⟨b, 0, none⟩)) w1) : boxnK t (.agg vs.toArray) K w := by
  refine ⟨vs, rfl, ?_⟩
  refine h w.heap.size _ rfl (by simp) (Mod.alloc _ _ _) (fun j v hv => cell_box hv) fun j hj => ?_
  have hadd : (⟨w.heap.size, 0, none⟩ : Addr).add j = ⟨w.heap.size, j, none⟩ := by unfold Addr.add; split <;> simp_all
  rw [hadd]
  refine ⟨?_, World.frozen?_alloc_new ..⟩
  rw [World.cell?_alloc_new]; simp [hj]
/-- one that is laid anew and filled -/
theorem newst_i {t : TypeId} {zs vs : List Value} {K : Value → World → Prop} {w : World} (hl : zs.length = vs.length) (h1 : ∀ v ∈ vs, v.oneCell' = true) (h : ∀ b w1, b = w.heap.size → w1.heap.size = w.heap.size + 1 → Grow w w1 → (∀ j v, vs[j]? = some v → w1.cell? ((⟨b, 0, none⟩ : Addr).add j) = some v) → (∀ j, j < vs.length → Live w1 ((⟨b, 0, none⟩ : Addr).add j)) → K (.pointer (some ⟨b, 0, none⟩)) w1) :
    newK t zs (fun t5 w3 => stnK vs.length t5 (.agg vs.toArray) (fun w4 => K t5 w4) w3) w := by
  refine newK_i (stnew hl h1 ?_)
  obtain ⟨vs', e, h2⟩ := boxn_i (t := t) (K := K) (w := w) h
  have : vs = vs' := by
    have := congrArg Value.cells e
    simpa [Value.cells] using this
  subst this
  exact h2
theorem newst_n {t : TypeId} {n : Nat} {zs vs : List Value} {K : Value → World → Prop} {w : World} (hn : vs.length = n) (hl : zs.length = n) (h1 : ∀ v ∈ vs, v.oneCell' = true) (h : ∀ b w1, b = w.heap.size → w1.heap.size = w.heap.size + 1 → Grow w w1 → (∀ j v, vs[j]? = some v → w1.cell? ((⟨b, 0, none⟩ : Addr).add j) = some v) → (∀ j, j < vs.length → Live w1 ((⟨b, 0, none⟩ : Addr).add j)) → K (.pointer (some ⟨b, 0, none⟩)) w1) :
    newK t zs (fun t5 w3 => stnK n t5 (.agg vs.toArray) (fun w4 => K t5 w4) w3) w := by
  subst hn; exact newst_i hl h1 h
theorem callyK_f {P : Program} {ok : Nat → Bool} {g : Nat} {args : List Value} {K : Cont} {w : World} (hok : ok g = true) (h : callK P g args K w) : callyK P ok (.func (.func g) #[] #[]) args K w := .inl ⟨g, [], [], rfl, hok, by simpa using h⟩
theorem sld1_i {St : Addr → Value → Prop} {a : Addr} {v : Value} {k : Value → Prop} (h : St a v) (hk : k v) : sld1 St (.pointer (some a)) k := ⟨a, v, rfl, h, hk⟩
theorem sldn_i {St : Addr → Value → Prop} {m : Nat} {a : Addr} {vs : List Value} {k : Value → Prop} (hl : vs.length = m) (h : ∀ j v, vs[j]? = some v → St (a.add j) v) (hk : k (.agg vs.toArray)) : sldn St m (.pointer (some a)) k := ⟨a, vs, rfl, hl, h, hk⟩
theorem drawK_i {w : World} {F : (World → Prop) → Prop} (C : World → Prop) (h0 : C w.drew) (h : F C) : DrawK w F := ⟨C, h0, h⟩
theorem drawC_i {eff : List Nat} {AN : List (List Nat)} {w0 : World} {F : (Nat → Nat → Prop) → (Nat → Addr → Value → Prop) → Prop} (M : Nat → Nat → Prop) (h : F M (StI eff AN M w0)) : DrawC eff AN w0 F := ⟨M, h⟩
/-- a struct's cells written over -/
theorem setL_over {b : Nat} : ∀ (vs : List Value) (i : Nat) (W : World), (∀ j, i ≤ j → j < i + vs.length → Live W ((⟨b, 0, none⟩ : Addr).add j)) →
    Mod (fun x => x = b) W (setL W ⟨b, 0, none⟩ i vs) ∧ (∀ j u, vs[j]? = some u → (setL W ⟨b, 0, none⟩ i vs).cell? ((⟨b, 0, none⟩ : Addr).add (i + j)) = some u) ∧ (∀ j, j < i → (setL W ⟨b, 0, none⟩ i vs).cell? ((⟨b, 0, none⟩ : Addr).add j) = W.cell? ((⟨b, 0, none⟩ : Addr).add j)) ∧ (∀ a, Live W a → Live (setL W ⟨b, 0, none⟩ i vs) a) := by
  intro vs
  induction vs with
  | nil => intro i W _; exact ⟨Mod.refl _ _, fun j u hu => by simp at hu, fun _ _ => rfl, fun _ h => h⟩
  | cons x vs ih =>
    intro i W hl
    simp only [setL]
    obtain ⟨i1, i2, i3, i4⟩ := ih (i + 1) (W.setCell ((⟨b, 0, none⟩ : Addr).add i) x) (fun j h1 h2 => (hl j (by omega) (by simp; omega)).set _ _)
    refine ⟨(Mod.setCell _ _ _ (by rw [addr0])).trans i1, fun j u hu => ?_, fun j hj => ?_, fun a ha => i4 a (ha.set _ _)⟩
    · cases j with
      | zero =>
        simp at hu; subst hu
        obtain ⟨u', hu'⟩ := Option.isSome_iff_exists.1 (hl i (Nat.le_refl _) (by simp)).1
        exact (i3 i (by omega)).trans (World.cell?_setCell_same _ _ _ hu')
      | succ j =>
        have := i2 j u (by simpa using hu)
        rw [show i + (j + 1) = i + 1 + j by omega]; exact this
    · rw [i3 j (by omega), World.cell?_setCell_other _ _ _ _ (by rw [addr0, addr0]; intro e; simp only [Addr.mk.injEq] at e; omega)]
theorem stn_over {b n : Nat} {vs : List Value} {K : World → Prop} {W : World} (hn : vs.length = n) (h1 : ∀ v ∈ vs, v.oneCell' = true) (hl : ∀ j, j < n → Live W ((⟨b, 0, none⟩ : Addr).add j))
    (hK : ∀ W', Mod (fun x => x = b) W W' → (∀ j u, vs[j]? = some u → W'.cell? ((⟨b, 0, none⟩ : Addr).add j) = some u) → (∀ a, Live W a → Live W' a) → K W') : stnK n (.pointer (some ⟨b, 0, none⟩)) (.agg vs.toArray) K W := by
  obtain ⟨q1, q2, _, q4⟩ := setL_over (b := b) vs 0 W (fun j _ hj => hl j (by omega))
  exact ⟨_, vs, rfl, rfl, hn, h1, fun j hj => hl j hj, hK _ q1 (fun j u hu => by have := q2 j u hu; rwa [Nat.zero_add] at this) q4⟩
/-- a box that is laid anew, with what its type's zero has -/
theorem newz_i {t : TypeId} {zs : List Value} {K : Cont} {w : World} (h : ∀ b w1, b = w.heap.size → w1.heap.size = w.heap.size + 1 → Grow w w1 → (∀ j v, zs[j]? = some v → w1.cell? ((⟨b, 0, none⟩ : Addr).add j) = some v) → (∀ j, j < zs.length → Live w1 ((⟨b, 0, none⟩ : Addr).add j)) → K (.pointer (some ⟨b, 0, none⟩)) w1) : newK t zs K w := by
  refine newK_i ?_
  obtain ⟨vs', e, h2⟩ := boxn_i (t := t) (vs := zs) (K := K) (w := w) h
  have : zs = vs' := by have := congrArg Value.cells e; simpa [Value.cells] using this
  subst this
  exact h2
theorem wrap_range (x : Int) : -9223372036854775808 ≤ IntKind.i64.wrap x ∧ IntKind.i64.wrap x ≤ 9223372036854775807 := by
  have e1 : (2 : Int) ^ IntKind.i64.bits = 18446744073709551616 := by decide
  have e2 : (2 : Int) ^ (IntKind.i64.bits - 1) = 9223372036854775808 := by decide
  simp only [IntKind.wrap, e1, e2, IntKind.signed, Bool.true_and, decide_eq_true_eq]
  split <;> omega
theorem loop_step {n : Nat} (h : (n : Int) + 1 ≤ 9223372036854775807) : Value.int .i64 (IntKind.i64.wrap ((n : Int) + 1)) = .int .i64 ((n + 1 : Nat) : Int) := by
  rw [wrap64 (by omega) (by omega)]; rfl
theorem iOf0 {q : IntKind} {n : Int} {r : List Value} : iOf (.int q n :: r) 0 = n.toNat := rfl
theorem iOf1 {a : Value} {q : IntKind} {n : Int} {r : List Value} : iOf (a :: .int q n :: r) 1 = n.toNat := rfl
theorem iOf2 {a b : Value} {q : IntKind} {n : Int} {r : List Value} : iOf (a :: b :: .int q n :: r) 2 = n.toNat := rfl
end Go.K
namespace Go.Proofs.YtmfplfaeibehiaaDoor
open Go Go.K

def MayR (r : Int) : Prop := 0 ≤ r ∧ r < 55296 ∨ 57344 ≤ r ∧ r ≤ 1114111
instance (r : Int) : Decidable (MayR r) := by unfold MayR; infer_instance
theorem mayr_ok {r : Int} {w : World} : callK Tryd.prog 94 [.int .i32 r] (fun v w' => v = .bool (decide (MayR r)) ∧ w' = w) w := by
  apply S94_ok
  unfold S94
  have key : ∀ b : Bool, (b = true ↔ MayR r) → Value.bool b = .bool (decide (MayR r)) ∧ w = w := fun b h => ⟨by congr 1; rw [Bool.eq_iff_iff, h, decide_eq_true_eq], rfl⟩
  rw [geK_i]
  refine condK_p (fun h0 => ?_) fun h0 => ?_
  · rw [ltK_i]
    refine condK_p (fun h1 => ?_) fun h1 => ?_
    · exact key true (by simp only [true_iff]; exact .inl ⟨h0, h1⟩)
    · rw [geK_i]
      refine condK_p (fun h2 => ?_) fun h2 => ?_
      · rw [leK_i]
        exact key _ (by rw [decide_eq_true_eq]; exact ⟨fun h => .inr ⟨h2, h⟩, fun h => by rcases h with h | h <;> omega⟩)
      · exact key false (by simp only [Bool.false_eq_true, false_iff]; rintro (h | h) <;> omega)
  · rw [geK_i]
    refine condK_p (fun h2 => ?_) fun h2 => ?_
    · rw [leK_i]
      exact key _ (by rw [decide_eq_true_eq]; exact ⟨fun h => .inr ⟨h2, h⟩, fun h => by rcases h with h | h <;> omega⟩)
    · exact key false (by simp only [Bool.false_eq_true, false_iff]; rintro (h | h) <;> omega)

/-- an op's right form, runes and all -/
def FormO (o : Dop) : Prop := (o.kind = 1 ∧ o.runes = [] ∧ o.set = [] ∧ 1 ≤ o.n ∧ o.n ≤ 536870912) ∨ (o.kind = 3 ∧ o.runes = [] ∧ o.set = [] ∧ o.patch = [] ∧ 1 ≤ o.n ∧ o.n ≤ 536870912) ∨
  (o.kind = 2 ∧ (∀ r ∈ o.runes, MayR r) ∧ o.n = 0 ∧ o.patch = [] ∧ 1 ≤ o.runes.length ∧ o.runes.length ≤ 536870912)
instance (o : Dop) : Decidable (FormO o) := by unfold FormO; infer_instance
theorem len0 {α : Type} {l : List α} : ((l.length : Int) = 0) ↔ l = [] := by
  constructor
  · intro h; exact List.eq_nil_of_length_eq_zero (by omega)
  · rintro rfl; rfl
theorem FormO.form1 {o : Dop} (h : FormO o) : (o.kind = 1 ∧ o.runes = [] ∧ o.set = [] ∧ 1 ≤ o.n ∧ o.n ≤ 536870912) ∨ (o.kind = 3 ∧ o.runes = [] ∧ o.set = [] ∧ o.patch = [] ∧ 1 ≤ o.n ∧ o.n ≤ 536870912) ∨ (o.kind = 2 ∧ o.n = 0 ∧ o.patch = [] ∧ o.runes ≠ []) := by
  rcases h with h | h | h
  · exact .inl h
  · exact .inr (.inl h)
  · refine .inr (.inr ⟨h.1, h.2.2.1, h.2.2.2.1, fun e => ?_⟩)
    have := h.2.2.2.2.1
    rw [e] at this; simp at this

/-- an op's length -/
def lenO (o : Dop) : Int := if o.kind = 2 then o.runes.length else o.n
/-- sums, as the program reckons them -/
def sumW (f : Dop → Int) (x : List Dop) : Int := x.foldl (fun s o => IntKind.i64.wrap (s + f o)) 0
theorem sumW_take {f : Dop → Int} {x : List Dop} {k : Nat} (h : k < x.length) : sumW f (x.take (k + 1)) = IntKind.i64.wrap (sumW f (x.take k) + f x[k]) := by
  rw [List.take_add_one, List.getElem?_eq_getElem h]
  simp only [sumW, List.foldl_append, Option.toList, List.foldl_cons, List.foldl_nil]
def takesF (o : Dop) : Int := if o.kind = 2 then 0 else o.n
def makesF (o : Dop) : Int := if o.kind = 3 then 0 else lenO o
theorem sumW_small {f : Dop → Int} {m : Int} (hm : 0 ≤ m) (x : List Dop) (h : ∀ o ∈ x, 0 ≤ f o ∧ f o ≤ m) (hb : x.length * m ≤ 4611686018427387904) : sumW f x = (x.map f).sum ∧ 0 ≤ sumW f x ∧ sumW f x ≤ x.length * m := by
  induction x using rev_ind with
  | h0 => exact ⟨rfl, by simp [sumW], by simp [sumW]⟩
  | h1 x o ih =>
    have hx : ∀ o ∈ x, 0 ≤ f o ∧ f o ≤ m := fun o ho => h o (by simp [ho])
    have ho := h o (by simp)
    have e : ((x ++ [o]).length : Int) * m = x.length * m + m := by simp [Int.add_mul]
    rw [e] at hb
    obtain ⟨i1, i2, i3⟩ := ih hx (by omega)
    have e2 : sumW f (x ++ [o]) = IntKind.i64.wrap (sumW f x + f o) := by simp [sumW]
    rw [e2, wrap64 (by omega) (by omega), e]
    refine ⟨by rw [i1]; simp, by omega, by omega⟩
end Go.Proofs.YtmfplfaeibehiaaDoor

namespace Go.K
open Go
theorem rem_i {P : Program} {t : TypeId} {xo yo : Operand} {k : IntKind} {a b : Int} {K : Cont} {w : World} (hb : b ≠ 0) (h : K (.int k (a.tmod b)) w) : runK P (binS .rem t xo yo (.int k a) (.int k b)) K w := by
  refine ⟨_, _, ?_, h⟩
  simp [binS, eqGuard_rem, binOp_rem, Op.intDiv, hb]
theorem quo_i {P : Program} {t : TypeId} {xo yo : Operand} {k : IntKind} {a b : Int} {K : Cont} {w : World} (hb : b ≠ 0) (h : K (.int k (k.wrap (a.tdiv b))) w) : runK P (binS .quo t xo yo (.int k a) (.int k b)) K w := by
  refine ⟨_, _, ?_, h⟩
  simp [binS, eqGuard_quo, binOp_quo, Op.intDiv, hb]
theorem conv_i {P : Program} {s d : TypeId} {q k : IntKind} {n : Int} {K : Cont} {w : World} (hs : (P.underlying s).isSome = true) (hd : P.underlying d = some (.int k)) (h : K (.int k (k.wrap n)) w) : runK P (convert s d (.int q n)) K w := by
  refine ⟨_, _, ?_, h⟩
  obtain ⟨e, he⟩ := Option.isSome_iff_exists.mp hs
  simp [convert, run_underlying he, run_underlying hd, Conv.intToInt]
/-- a slice from a place on -/
theorem slice_lo {α : Type} {P : Program} {t e k : Nat} {i : TypeInfo} {R : World → List Value → α → Prop} {S : Nat → Prop} {w : World} {a : Option Addr} {n c : Nat} {l : List α} {j : Nat} {K : Cont} (ht : P.underlying t = some (.slice e)) (hi : P.info? e = some i) (hk : i.size = k)
    (h : SlR S k R w (.slice a n c) l) (hj : j ≤ l.length) (hK : ∀ v', SlR S k R w v' (l.drop j) → K v' w) : runK P (Instr.sliceAt t (.slice a n c) (some (.int .i64 j)) none none) K w := by
  obtain ⟨a', c', e1, h1, h2, h3⟩ := h
  cases e1
  have hel : P.elem t = e := by simp [Program.elem, ht]
  refine ⟨sliced a j l.length c k, w, ?_, hK _ ?_⟩
  · rw [run_sliceAt_slice _ _ _ _ _ _ (by rw [hel]; exact ht), run_slice_l _ _ _ _ _ (by rw [hel]; exact ht) _ _ (by omega) (by omega), hel]
    simp [sizeOf, typeInfo, hi, hk]
  · unfold sliced
    refine ⟨_, _, by rw [List.length_drop], by rw [List.length_drop]; omega, by omega, fun q x hx => ?_⟩
    rw [List.getElem?_drop] at hx
    obtain ⟨p, r, rfl, hS, hr, hc, hR⟩ := h3 _ x hx
    have hlt := (List.getElem?_eq_some_iff.1 hx).1
    rw [if_neg (by omega)]
    refine ⟨p.add (j * k), r, rfl, by rw [add_block]; exact hS, hr, fun m u hu => ?_, hR⟩
    rw [Addr.add_add, ← Nat.add_assoc, ← Nat.add_mul]
    exact hc m u hu
/-- a slice up to a place -/
theorem slice_hi {α : Type} {P : Program} {t e k : Nat} {i : TypeInfo} {R : World → List Value → α → Prop} {S : Nat → Prop} {w : World} {a : Option Addr} {n c : Nat} {l : List α} {j : Nat} {K : Cont} (ht : P.underlying t = some (.slice e)) (hi : P.info? e = some i) (hk : i.size = k)
    (h : SlR S k R w (.slice a n c) l) (hj : j ≤ l.length) (hK : ∀ v', SlR S k R w v' (l.take j) → K v' w) : runK P (Instr.sliceAt t (.slice a n c) none (some (.int .i64 j)) none) K w := by
  obtain ⟨a', c', e1, h1, h2, h3⟩ := h
  cases e1
  have hel : P.elem t = e := by simp [Program.elem, ht]
  refine ⟨sliced a 0 j c k, w, ?_, hK _ ?_⟩
  · rw [run_sliceAt_slice _ _ _ _ _ _ (by rw [hel]; exact ht), run_slice_h _ _ _ _ _ (by rw [hel]; exact ht) _ _ (by omega) (by omega), hel]
    simp [sizeOf, typeInfo, hi, hk]
  · unfold sliced
    have hl : (l.take j).length = j := by simp; omega
    refine ⟨_, _, by rw [hl, Nat.sub_zero], by rw [hl]; omega, by omega, fun q x hx => ?_⟩
    rw [List.getElem?_take] at hx
    split at hx
    · obtain ⟨p, r, rfl, hS, hr, hc, hR⟩ := h3 _ x hx
      rw [if_neg (by omega)]
      refine ⟨p.add (0 * k), r, rfl, by rw [add_block]; exact hS, hr, fun m u hu => ?_, hR⟩
      rw [Addr.add_add, Nat.zero_mul, Nat.zero_add]
      exact hc m u hu
    · cases hx
end Go.K
namespace Go.Proofs.YtmfplfaeibehiaaDoor
open Go Go.K
abbrev RByte : World → List Value → Int → Prop := fun _ r x => r = [.int .u8 x]
abbrev RBytes (S : Nat → Prop) (w : World) (v : Value) (l : List Int) : Prop := SlR S 1 RByte w v l
def bytesL (s : ByteArray) : List Int := s.data.toList.map fun b => (b.toNat : Int)
theorem conv_i32 {n : Int} {K : Cont} {w : World} (h : K (.int .i32 (IntKind.i32.wrap n)) w) : runK Tryd.prog (convert 5 21 (.int .u8 n)) K w := conv_i (by kernel_rfl) (by kernel_rfl) h
theorem conv_u8 {n : Int} {K : Cont} {w : World} (h : K (.int .u8 (IntKind.u8.wrap n)) w) : runK Tryd.prog (convert 21 5 (.int .i32 n)) K w := conv_i (by kernel_rfl) (by kernel_rfl) h
theorem six_ok {r : Int} {w : World} : callK Tryd.prog 98 [.int .i32 r] (fun v w' => (∃ n, v = .int .u8 n) ∧ w' = w) w := by
  apply S98_ok
  unfold S98
  refine rem_i (by decide) ?_
  rw [addK_i]
  exact conv_u8 ⟨⟨_, rfl⟩, rfl⟩
/-- how many bytes a rune has -/
def oneLen (r : Int) : Nat := if r < 128 then 1 else if r < 2048 then 2 else if r < 65536 then 3 else 4
theorem rowK_i {e k len : Nat} {zero : List Value} {parts : List (Nat × Value)} {cs : List Value} {K : Cont} {w : World} (hf : Instr.fill (fun i => some (i * k, k)) ((Array.range (len * k)).map (zero.toArray[· % zero.toArray.size]!)) parts = some cs.toArray) (h : K (.slice (some ⟨w.heap.size, 0, none⟩) len len) (w.alloc (.cells cs.toArray e))) : rowK e k len zero parts K w := ⟨_, hf, h⟩
theorem row1_i {q : IntKind} {e : Nat} {z a : Int} {K : Cont} {w : World} (h : ∀ w', Grow w w' → w'.heap.size = w.heap.size + 1 → (∀ j v, [Value.int q a][j]? = some v → w'.cell? ((⟨w.heap.size, 0, none⟩ : Addr).add j) = some v) → K (.slice (some ⟨w.heap.size, 0, none⟩) 1 1) w') : rowK e 1 1 [.int q z] [(0, .int q a)] K w :=
  rowK_i (cs := [.int q a]) (by kernel_rfl) (h _ (Mod.alloc _ _ _) (by simp) fun j v hv => cell_box hv)
theorem row2_i {q : IntKind} {e : Nat} {z a b : Int} {K : Cont} {w : World} (h : ∀ w', Grow w w' → w'.heap.size = w.heap.size + 1 → (∀ j v, [Value.int q a, .int q b][j]? = some v → w'.cell? ((⟨w.heap.size, 0, none⟩ : Addr).add j) = some v) → K (.slice (some ⟨w.heap.size, 0, none⟩) 2 2) w') : rowK e 1 2 [.int q z] [(0, .int q a), (1, .int q b)] K w :=
  rowK_i (cs := [.int q a, .int q b]) (by kernel_rfl) (h _ (Mod.alloc _ _ _) (by simp) fun j v hv => cell_box hv)
theorem row3_i {q : IntKind} {e : Nat} {z a b c : Int} {K : Cont} {w : World} (h : ∀ w', Grow w w' → w'.heap.size = w.heap.size + 1 → (∀ j v, [Value.int q a, .int q b, .int q c][j]? = some v → w'.cell? ((⟨w.heap.size, 0, none⟩ : Addr).add j) = some v) → K (.slice (some ⟨w.heap.size, 0, none⟩) 3 3) w') : rowK e 1 3 [.int q z] [(0, .int q a), (1, .int q b), (2, .int q c)] K w :=
  rowK_i (cs := [.int q a, .int q b, .int q c]) (by kernel_rfl) (h _ (Mod.alloc _ _ _) (by simp) fun j v hv => cell_box hv)
theorem row4_i {q : IntKind} {e : Nat} {z a b c d : Int} {K : Cont} {w : World} (h : ∀ w', Grow w w' → w'.heap.size = w.heap.size + 1 → (∀ j v, [Value.int q a, .int q b, .int q c, .int q d][j]? = some v → w'.cell? ((⟨w.heap.size, 0, none⟩ : Addr).add j) = some v) → K (.slice (some ⟨w.heap.size, 0, none⟩) 4 4) w') : rowK e 1 4 [.int q z] [(0, .int q a), (1, .int q b), (2, .int q c), (3, .int q d)] K w :=
  rowK_i (cs := [.int q a, .int q b, .int q c, .int q d]) (by kernel_rfl) (h _ (Mod.alloc _ _ _) (by simp) fun j v hv => cell_box hv)
theorem one_ok {r : Int} {w : World} : callK Tryd.prog 95 [.int .i32 r] (fun v w' => (∃ a c, v = .slice a (oneLen r) c) ∧ Grow w w') w := by
  apply S95_ok
  unfold S95
  rw [ltK_i]
  refine condK_p (fun h1 => ?_) fun h1 => ?_
  · exact conv_u8 (row1_i fun w' g _ _ => ⟨⟨_, _, by rw [oneLen, if_pos h1]⟩, g⟩)
  rw [ltK_i]
  refine condK_p (fun h2 => ?_) fun h2 => ?_
  · refine quo_i (by decide) ?_
    rw [addK_i]
    refine conv_u8 (callK_mono six_ok ?_)
    rintro v1 w1 ⟨⟨n1, rfl⟩, rfl⟩
    exact row2_i fun w' g _ _ => ⟨⟨_, _, by rw [oneLen, if_neg h1, if_pos h2]⟩, g⟩
  rw [ltK_i]
  refine condK_p (fun h3 => ?_) fun h3 => ?_
  · refine quo_i (by decide) ?_
    rw [addK_i]
    refine conv_u8 (quo_i (by decide) (callK_mono six_ok ?_))
    rintro v1 w1 ⟨⟨n1, rfl⟩, rfl⟩
    refine callK_mono six_ok ?_
    rintro v2 w2 ⟨⟨n2, rfl⟩, rfl⟩
    exact row3_i fun w' g _ _ => ⟨⟨_, _, by rw [oneLen, if_neg h1, if_neg h2, if_pos h3]⟩, g⟩
  · refine quo_i (by decide) ?_
    rw [addK_i]
    refine conv_u8 (quo_i (by decide) (callK_mono six_ok ?_))
    rintro v1 w1 ⟨⟨n1, rfl⟩, rfl⟩
    refine quo_i (by decide) (callK_mono six_ok ?_)
    rintro v2 w2 ⟨⟨n2, rfl⟩, rfl⟩
    refine callK_mono six_ok ?_
    rintro v3 w3 ⟨⟨n3, rfl⟩, rfl⟩
    exact row4_i fun w' g _ _ => ⟨⟨_, _, by rw [oneLen, if_neg h1, if_neg h2, if_neg h3]⟩, g⟩
/-- the rune that bytes begin with, as the document reckons it -/
def nextHead (b0 : Int) : Option (Nat × Int) :=
  if 240 ≤ b0 then some (4, IntKind.i32.wrap (IntKind.i32.wrap b0 - 240)) else if 224 ≤ b0 then some (3, IntKind.i32.wrap (IntKind.i32.wrap b0 - 224)) else if 192 ≤ b0 then some (2, IntKind.i32.wrap (IntKind.i32.wrap b0 - 192))
  else if 128 ≤ b0 then none else some (1, IntKind.i32.wrap b0)
def contB (b : List Int) : Nat → Nat → Int → Option Int
  | 0, _, r => some r
  | k + 1, i, r => match b[i]? with
    | some c => if c < 128 ∨ 191 < c then none else contB b k (i + 1) (IntKind.i32.wrap (IntKind.i32.wrap (IntKind.i32.wrap (r * 64) + IntKind.i32.wrap c) - 128))
    | none => none
def nextB (b : List Int) : Int × Nat := match nextHead (b.headD 0) with
  | none => (0, 0)
  | some (n, r) => if b.length < n then (0, 0) else match contB b (n - 1) 1 r with
    | none => (0, 0)
    | some r => if MayR r ∧ oneLen r = n then (r, n) else (0, 0)
theorem nextHead_n {b0 r : Int} {n : Nat} (h : nextHead b0 = some (n, r)) : 1 ≤ n ∧ n ≤ 4 := by
  unfold nextHead at h
  split at h
  · cases h; omega
  split at h
  · cases h; omega
  split at h
  · cases h; omega
  split at h
  · cases h
  · cases h; omega
theorem nextB_len (b : List Int) : (nextB b).2 ≤ b.length ∧ (nextB b).2 ≤ 4 := by
  unfold nextB
  split
  · exact ⟨Nat.zero_le _, Nat.zero_le _⟩
  · rename_i n r h
    have := nextHead_n h
    split
    · exact ⟨Nat.zero_le _, Nat.zero_le _⟩
    · split
      · exact ⟨Nat.zero_le _, Nat.zero_le _⟩
      · split <;> simp only <;> omega
theorem next_ok {S : Nat → Prop} {v : Value} {b : List Int} {w : World} (h : RBytes S w v b) (hb : b ≠ []) :
    callK Tryd.prog 85 [v] (fun v' w' => v' = .tuple #[.int .i32 (nextB b).1, .int .i64 (nextB b).2] ∧ Grow w w') w := by
  apply S85_ok
  unfold S85
  obtain ⟨a, c, rfl, hm⟩ := h.shape
  simp only [maxLen] at hm
  have hpos : 0 < b.length := List.length_pos_iff.2 hb
  obtain ⟨p, r0, rfl, _, hr0, hc0, rfl⟩ := h.get hpos
  have hb0 : b[0] = b.headD 0 := by cases b with | nil => simp at hpos | cons x b => rfl
  rw [hb0] at hc0
  have hc0' := hc0 0 _ rfl
  generalize e0 : b.headD 0 = b0 at *
  refine ixK_n (j := 0) hpos (ld1K_i hc0' (conv_i32 ?_))
  have fin : ∀ {x : Int × Nat} {w' : World}, x = nextB b → Grow w w' → Value.tuple #[.int .i32 x.1, .int .i64 x.2] = .tuple #[.int .i32 (nextB b).1, .int .i64 (nextB b).2] ∧ Grow w w' := by rintro x w' rfl g; exact ⟨rfl, g⟩
  refine JoinK_i (fun vs w1 => ∃ (n : Nat) (r : Int), nextHead b0 = some (n, r) ∧ vs = [.int .i64 n, .int .i32 r] ∧ w1 = w) ?_ ?_
  · rintro vs _ ⟨n, r, hh, rfl, rfl⟩ _
    rename World => w
    have hn := nextHead_n hh
    simp only [nth_s, nth_z, List.headD_cons, List.tail_cons]
    rw [lenK_i, ltK_i]
    refine condK_p (fun hl => ?_) fun hl => ?_
    · exact fin (x := (0, 0)) (by unfold nextB; rw [e0, hh]; simp only; rw [if_pos (by omega)]) (Mod.refl _ _)
    have hl' : n ≤ b.length := by omega
    refine LoopK_i (fun vs w1 => ∃ (i : Nat) (r' : Int), 1 ≤ i ∧ i ≤ n ∧ vs = [.int .i32 r', .int .i64 i] ∧ w1 = w ∧ contB b (n - 1) 1 r = contB b (n - i) i r') (fun vs _ => n - iOf vs 1) ⟨1, r, Nat.le_refl _, hn.1, rfl, rfl, rfl⟩ ?_
    rintro vs _ ⟨i, r', hi1, hi2, rfl, rfl, hcont⟩ _
    rename World => w
    simp only [nth_s, nth_z, List.headD_cons, List.tail_cons]
    rw [ltK_i]
    refine condK_p (fun hlt => ?_) fun hge => ?_
    · have hlt' : i < n := by omega
      obtain ⟨_, r1, e1, _, hr1, hc1, rfl⟩ := h.get (show i < b.length by omega)
      cases e1
      have hc1' := hc1 0 _ rfl
      have hbi : b[i]? = some b[i] := by simp
      obtain ⟨k, hk⟩ : ∃ k, n - i = k + 1 := ⟨n - i - 1, by omega⟩
      refine JoinK_i (fun vs w1 => w1 = w ∧ ¬ (b[i] < 128 ∨ 191 < b[i])) ?_ ?_
      · rintro vs _ ⟨rfl, hok⟩ _
        rename World => w
        rw [mulK_i]
        refine ixK_n (show i < b.length by omega) (ld1K_i hc1' (conv_i32 ?_))
        rw [addK_i, subK_i, addK_i, loop_step (by omega)]
        refine ⟨⟨i + 1, _, by omega, by omega, rfl, rfl, ?_⟩, by rw [iOf1, iOf1]; omega⟩
        rw [hcont, hk]
        simp only [contB, hbi, if_neg hok]
        congr 1; omega
      · refine ixK_n (show i < b.length by omega) (ld1K_i hc1' ?_)
        have bad : (b[i] < 128 ∨ 191 < b[i]) → (0, 0) = nextB b := by
          intro hx
          unfold nextB
          rw [e0, hh]
          simp only
          rw [if_neg (by omega), hcont, hk]
          simp only [contB, hbi, if_pos hx]
        rw [ltK_i]
        refine condK_p (fun hx => ?_) fun hx => ?_
        · exact fin (bad (.inl hx)) (Mod.refl _ _)
        · refine ixK_n (show i < b.length by omega) (ld1K_i hc1' ?_)
          rw [gtK_i]
          refine condK_p (fun hy => ?_) fun hy => ?_
          · exact fin (bad (.inr hy)) (Mod.refl _ _)
          · exact ⟨rfl, by omega⟩
    · have : i = n := by omega
      subst this
      rw [Nat.sub_self] at hcont
      simp only [contB] at hcont
      have hnx : nextB b = if MayR r' ∧ oneLen r' = i then (r', i) else (0, 0) := by
        unfold nextB
        rw [e0, hh]
        simp only
        rw [if_neg (by omega), hcont]
      refine callK_mono mayr_ok ?_
      rintro v2 w2 ⟨rfl, rfl⟩
      rw [notK_i]
      refine condK_neg (fun hmr => ?_) fun hmr => ?_
      · refine callK_mono one_ok ?_
        rintro v3 w3 ⟨⟨a3, c3, rfl⟩, g3⟩
        rw [lenK_i, neK_i]
        refine condK_neg (fun hon => ?_) fun hon => ?_
        · exact fin (x := (r', i)) (by rw [hnx, if_pos ⟨hmr, by omega⟩]) g3
        · exact fin (x := (0, 0)) (by rw [hnx, if_neg (by rintro ⟨_, e⟩; exact hon (by omega))]) g3
      · exact fin (x := (0, 0)) (by rw [hnx, if_neg (by rintro ⟨e, _⟩; exact hmr e)]) (Mod.refl _ _)
  · refine ixK_n (j := 0) hpos (ld1K_i hc0' ?_)
    rw [geK_i]
    refine condK_p (fun h1 => ?_) fun h1 => ?_
    · refine ixK_n (j := 0) hpos (ld1K_i hc0' (conv_i32 ?_))
      rw [subK_i]
      exact ⟨4, _, by unfold nextHead; rw [if_pos h1], rfl, rfl⟩
    refine ixK_n (j := 0) hpos (ld1K_i hc0' ?_)
    rw [geK_i]
    refine condK_p (fun h2 => ?_) fun h2 => ?_
    · refine ixK_n (j := 0) hpos (ld1K_i hc0' (conv_i32 ?_))
      rw [subK_i]
      exact ⟨3, _, by unfold nextHead; rw [if_neg h1, if_pos h2], rfl, rfl⟩
    refine ixK_n (j := 0) hpos (ld1K_i hc0' ?_)
    rw [geK_i]
    refine condK_p (fun h3 => ?_) fun h3 => ?_
    · refine ixK_n (j := 0) hpos (ld1K_i hc0' (conv_i32 ?_))
      rw [subK_i]
      exact ⟨2, _, by unfold nextHead; rw [if_neg h1, if_neg h2, if_pos h3], rfl, rfl⟩
    refine ixK_n (j := 0) hpos (ld1K_i hc0' ?_)
    rw [geK_i]
    refine condK_p (fun h4 => ?_) fun h4 => ?_
    · exact fin (x := (0, 0)) (by unfold nextB nextHead; rw [e0, if_neg h1, if_neg h2, if_neg h3, if_pos h4]) (Mod.refl _ _)
    · exact ⟨1, _, by unfold nextHead; rw [if_neg h1, if_neg h2, if_neg h3, if_neg h4], rfl, rfl⟩
end Go.Proofs.YtmfplfaeibehiaaDoor

namespace Go.K
open Go
theorem push_g2 {α : Type} {P : Program} {t e k bytes B : Nat} {R : World → List Value → α → Prop} {w : World} {v : Value} {l : List α} {x : α} {zero : List Value} {parts : List (Nat × Value)} {cs : List Value} {K : Cont} (hE : ElemOK P t e k bytes) (h : OwnR B e k R w v l) (hB : B ≤ w.heap.size)
    (hf : Instr.fill (fun i => some (i * k, k)) ((Array.range (1 * k)).map (zero.toArray[· % zero.toArray.size]!)) parts = some cs.toArray) (hcs : cs.length = k) (hx : R w cs x) (hone : ∀ w r y, R w r y → ∀ u ∈ r, u.oneCell' = true)
    (hR : ∀ w1 w2 r y, w.heap.size ≤ w1.heap.size → Mod (fun b => v.ownBlock = some b ∨ w.heap.size ≤ b) w1 w2 → R w1 r y → R w2 r y) (hlen : (l.length + 1) * bytes ≤ 140737488355328) (hlm : l.length + 1 ≤ maxLen)
    {Q1 : World → Prop} {Q2 : World → World → Prop} (hQ1 : ∀ w1, Grow w w1 → Q1 w1)
    (hK : ∀ w1 v' w', OwnR B e k R w' v' (l ++ [x]) → Mod (fun b => v.ownBlock = some b) w1 w' → Mod (fun b => v.ownBlock = some b) w w' → (∀ g, v'.ownBlock = some g → v.ownBlock = some g ∨ w.heap.size ≤ g) → Q2 w1 w' ∧ K v' w') :
    rowK e k 1 zero parts (fun s w1 => Q1 w1 ∧ runK P (Builtin.append_ #[t, t] t [v, s].toArray) (fun v' w' => Q2 w1 w' ∧ K v' w') w1) w := by
  refine ⟨_, hf, ?_⟩
  have hg : Grow w (w.alloc (.cells cs.toArray e)) := Mod.alloc _ _ _
  have hc : ∀ j u, cs[j]? = some u → (w.alloc (.cells cs.toArray e)).cell? ((⟨w.heap.size, 0, none⟩ : Addr).add j) = some u := fun j u hu => cell_box hu
  have hz : (w.alloc (.cells cs.toArray e)).heap.size = w.heap.size + 1 := by simp
  generalize w.alloc (.cells cs.toArray e) = w1 at hg hc hz ⊢
  have h' : OwnR B e k R w1 v l := OwnR.mod h hg (fun _ _ h => h) fun r y _ hy => hR _ _ _ _ (Nat.le_refl _) hg.mod hy
  have hs : SlR (fun _ => True) k R w1 (.slice (some ⟨w.heap.size, 0, none⟩) 1 1) [x] := by
    refine ⟨_, 1, rfl, Nat.le_refl _, by simp [maxLen], fun i y hy => ?_⟩
    have hi : i = 0 := by have := (List.getElem?_eq_some_iff.1 hy).1; simp at this; exact this
    subst hi
    simp at hy; subst hy
    exact ⟨_, cs, rfl, trivial, hcs, fun j u hu => by rw [Nat.zero_mul, Nat.zero_add]; exact hc j u hu, hR _ _ _ _ (Nat.le_refl _) hg.mod hx⟩
  obtain ⟨v', w', h1, h2, h3, h4⟩ := OwnR.append (ty := t) hE h' hs (fun _ _ => hone _ _ _) (by simpa using hlen) (by omega) (by simpa using hlm) (fun w2 hg' r y hy => hR _ _ _ _ (by omega) ((Mod.of_grownBy hg').mono fun b _ e => .inl e) hy)
  refine ⟨hQ1 _ hg, runK_i h1 (hK w1 v' w' h2 (Mod.of_grownBy h3) (hg.mod.next (Mod.of_grownBy h3) fun _ _ h => h) fun g hg' => ?_)⟩
  rcases h4 g hg' with h | h
  · exact .inl h
  · exact .inr (by omega)
theorem push_g {α : Type} {P : Program} {t e k bytes B : Nat} {R : World → List Value → α → Prop} {w : World} {v : Value} {l : List α} {x : α} {zero : List Value} {parts : List (Nat × Value)} {cs : List Value} {K : Cont} (hE : ElemOK P t e k bytes) (h : OwnR B e k R w v l) (hB : B ≤ w.heap.size)
    (hf : Instr.fill (fun i => some (i * k, k)) ((Array.range (1 * k)).map (zero.toArray[· % zero.toArray.size]!)) parts = some cs.toArray) (hcs : cs.length = k) (hx : R w cs x) (hone : ∀ w r y, R w r y → ∀ u ∈ r, u.oneCell' = true)
    (hR : ∀ w1 w2 r y, w.heap.size ≤ w1.heap.size → Mod (fun b => v.ownBlock = some b ∨ w.heap.size ≤ b) w1 w2 → R w1 r y → R w2 r y) (hlen : (l.length + 1) * bytes ≤ 140737488355328) (hlm : l.length + 1 ≤ maxLen)
    (hK : ∀ v' w', OwnR B e k R w' v' (l ++ [x]) → Mod (fun b => v.ownBlock = some b) w w' → (∀ g, v'.ownBlock = some g → v.ownBlock = some g ∨ w.heap.size ≤ g) → K v' w') :
    rowK e k 1 zero parts (fun s w1 => runK P (Builtin.append_ #[t, t] t [v, s].toArray) K w1) w := by
  obtain ⟨c, h1, _, v', w', h2, _, h3⟩ := push_g2 (t := t) (K := K) (Q1 := fun _ => True) (Q2 := fun _ _ => True) hE h hB hf hcs hx hone hR hlen hlm (fun _ _ => trivial) fun w1 v' w' k1 _ k2 k3 => ⟨trivial, hK v' w' k1 k2 k3⟩
  exact ⟨c, h1, v', w', h2, h3⟩
/-- adding behind, told of the world in which the function began -/
theorem push_n {α : Type} {P : Program} {t e k bytes : Nat} {R : World → List Value → α → Prop} {w0 w : World} {v : Value} {l : List α} {x : α} {zero : List Value} {parts : List (Nat × Value)} {cs : List Value} {K : Cont} (hE : ElemOK P t e k bytes) (h : OwnR w0.heap.size e k R w v l) (hg : Grow w0 w)
    (hf : Instr.fill (fun i => some (i * k, k)) ((Array.range (1 * k)).map (zero.toArray[· % zero.toArray.size]!)) parts = some cs.toArray) (hcs : cs.length = k) (hx : R w cs x) (hone : ∀ w r y, R w r y → ∀ u ∈ r, u.oneCell' = true)
    (hR : ∀ w1 w2 r y, w.heap.size ≤ w1.heap.size → Mod (fun b => v.ownBlock = some b ∨ w.heap.size ≤ b) w1 w2 → R w1 r y → R w2 r y) (hlen : (l.length + 1) * bytes ≤ 140737488355328) (hlm : l.length + 1 ≤ maxLen)
    (hK : ∀ v' w', OwnR w0.heap.size e k R w' v' (l ++ [x]) → Grow w0 w' → K v' w') :
    rowK e k 1 zero parts (fun s w1 => runK P (Builtin.append_ #[t, t] t [v, s].toArray) K w1) w :=
  push_g hE h hg.size hf hcs hx hone hR hlen hlm fun v' w' h1 h2 _ => hK v' w' h1 (hg.next h2 fun b hb e => by have := (OwnR.ownB h b e).1; omega)
end Go.K
namespace Go.Proofs.YtmfplfaeibehiaaDoor
open Go Go.K

def readF : Nat → List Int → Option (List Int)
  | 0, b => if b = [] then some [] else none
  | f + 1, b => if b = [] then some [] else if (nextB b).2 = 0 then none else (readF f (b.drop (nextB b).2)).map ((nextB b).1 :: ·)
def readB (b : List Int) : Option (List Int) := readF b.length b
theorem readF_fuel : ∀ (f g : Nat) (b : List Int), b.length ≤ f → b.length ≤ g → readF f b = readF g b := by
  intro f
  induction f with
  | zero =>
    intro g b hf hg
    have : b = [] := List.eq_nil_of_length_eq_zero (by omega)
    subst this
    cases g <;> simp [readF]
  | succ f ih =>
    intro g b hf hg
    cases g with
    | zero =>
      have : b = [] := List.eq_nil_of_length_eq_zero (by omega)
      subst this
      simp [readF]
    | succ g =>
      simp only [readF]
      split
      · rfl
      · split
        · rfl
        · rw [ih g _ (by simp; omega) (by simp; omega)]
theorem readB_cons {b : List Int} (hb : b ≠ []) : readB b = if (nextB b).2 = 0 then none else (readB (b.drop (nextB b).2)).map ((nextB b).1 :: ·) := by
  unfold readB
  obtain ⟨n, hn⟩ : ∃ n, b.length = n + 1 := ⟨b.length - 1, by have := List.length_pos_iff.2 hb; omega⟩
  rw [hn]
  simp only [readF, if_neg hb]
  split
  · rfl
  · rw [readF_fuel n _ _ (by simp; omega) (Nat.le_refl _)]
theorem read_ok {S : Nat → Prop} {v : Value} {b : List Int} {w : World} (h : RBytes S w v b) (hb : b.length * 4 ≤ 140737488355328) :
    callK Tryd.prog 66 [v] (fun v' w' => Grow w w' ∧ match readB b with
      | some l => ∃ sl, v' = .tuple #[sl, .int .i64 0] ∧ OwnR w.heap.size 21 1 RRune w' sl l
      | none => v' = .tuple #[.slice none 0 0, .int .i64 3]) w := by
  apply S66_ok
  unfold S66
  obtain ⟨a, c, rfl, hm⟩ := h.shape
  have hm' := hm
  simp only [maxLen] at hm'
  refine LoopK_i (fun vs w1 => ∃ (i : Nat) (out : Value) (acc : List Int), i ≤ b.length ∧ acc.length ≤ i ∧ vs = [out, .int .i64 i] ∧ OwnR w.heap.size 21 1 RRune w1 out acc ∧ Grow w w1 ∧ readB b = (readB (b.drop i)).map (acc ++ ·)) (fun vs _ => b.length - iOf vs 1)
    ⟨0, _, [], Nat.zero_le _, Nat.le_refl _, rfl, OwnR.nil, Mod.refl _ _, by simp⟩ ?_
  rintro vs w1 ⟨i, out, acc, hi, hacc, rfl, ho, hg, hrd⟩ _
  rw [lenK_i]
  simp only [nth_s, nth_z, List.headD_cons, List.tail_cons]
  rw [ltK_i]
  refine condK_p (fun hlt => ?_) fun hge => ?_
  · have hlt' : i < b.length := by omega
    have hne : b.drop i ≠ [] := by intro e; have := congrArg List.length e; simp at this; omega
    refine slice_lo (e := 5) (i := Tryd.t5) (by kernel_rfl) (by kernel_rfl) (by kernel_rfl) (h.grow hg (by decide) fun _ _ h => h) hi fun v' hv' => ?_
    refine callK_mono (next_ok hv' hne) ?_
    rintro v2 w2 ⟨rfl, g2⟩
    have hnl := nextB_len (b.drop i)
    rw [List.length_drop] at hnl
    rw [readB_cons hne] at hrd
    generalize nextB (b.drop i) = nx at hnl hrd ⊢
    obtain ⟨r, n⟩ := nx
    simp only at hnl hrd
    refine extK_i (vs := [.int .i32 r, .int .i64 n]) (by rfl) (extK_i (vs := [.int .i32 r, .int .i64 n]) (by rfl) ?_)
    rw [eqK_i]
    refine condK_p (fun hz => ?_) fun hz => ?_
    · refine ⟨hg.trans g2, ?_⟩
      rw [if_pos (show n = 0 by omega)] at hrd
      rw [hrd, Option.map_none]; trivial
    · rw [if_neg (show ¬ n = 0 by omega)] at hrd
      have ho2 : OwnR w.heap.size 21 1 RRune w2 out acc := OwnR.mod ho g2 (fun _ _ h => h) fun _ _ _ h => h
      refine push_n elem_rune ho2 (hg.trans g2) (cs := [.int .i32 r]) (x := r) (by kernel_rfl) rfl rfl (fun _ _ _ => RRune.one) (fun _ _ _ _ _ _ h => h) (by omega) (by simp only [maxLen]; omega) fun v' w' h1 h2 => ?_
      rw [addK_i, wrap64 (by omega) (by omega)]
      refine ⟨⟨i + n, v', acc ++ [r], by omega, by simp; omega, by simp, h1, h2, ?_⟩, ?_⟩
      · rw [hrd, List.drop_drop]
        cases readB (b.drop (i + n)) <;> simp
      · rw [iOf1, iOf1]; omega
  · have : i = b.length := by omega
    subst this
    rw [List.drop_length] at hrd
    have e : readB ([] : List Int) = some [] := by simp [readB, readF]
    rw [e] at hrd
    rw [hrd]
    exact ⟨hg, out, rfl, by simpa using ho⟩
end Go.Proofs.YtmfplfaeibehiaaDoor
