/- A range over an iterator: its rule in our calculus, and functions that hold one. No conditions. -/
import Derived.Test.YtmfplfaeibehiaaKF
import Derived.RangeFuncOwn
import Derived.RangeFuncLeaves
namespace Go.K
open Go

def updL (n : Nat) (e : Env) : List Nat → List Value → Env
  | [], _ => e
  | p :: ps, vs => updL n (upd n e p (vs.headD undef)) ps vs.tail

/-- what an iterator's function does with a yield: it hands it the rows of encs, one by one, till it is told to stop; it reads the blocks of Rd, and owns the blocks It, which the rounds leave alone (st: nor does it turn one itself once it has filled it) -/
def SeqK (st : Prop) (P : Program) (gf : Nat) (cap : List Value) (encs : Nat → List Value) (N : Nat) (Rd : Nat → Prop) (w : World) : Prop :=
  ∀ (l : Nat) (J : Nat → (Nat → Prop) → World → Prop) (Jx : (Nat → Prop) → World → Prop) (w1 : World),
    Mod (fun _ => False) w w1 → J 0 (fun _ => False) w1 →
    (∀ k It It' W W', J k It W → Mod (fun b => ¬ st ∧ It b) W W' → (∀ b, It' b → (It b ∨ W.heap.size ≤ b) ∧ b < W'.heap.size) → J k It' W') →
    (∀ It It' W W', Jx It W → Mod (fun b => ¬ st ∧ It b) W W' → (∀ b, It' b → (It b ∨ W.heap.size ≤ b) ∧ b < W'.heap.size) → Jx It' W') →
    (∀ k It W, J k It W → ∀ b, b < w.heap.size → Rd b → W.heap[b]? = w.heap[b]?) →
    (∀ k It W, k < N → J k It W → roundK P l (encs k) (fun v W' => W.heap.size ≤ W'.heap.size ∧ (∀ b, It b → W'.heap[b]? = W.heap[b]?) ∧ ((v = .bool true ∧ J (k + 1) It W') ∨ (v = .bool false ∧ Jx It W'))) W) →
    callK P gf (.func (.yield l) #[] #[] :: cap) (fun _ W' => ∃ It, J N It W' ∨ Jx It W') w1

def KpW (It : Nat → Prop) (w W W' : World) : Prop := W.heap.size ≤ W'.heap.size ∧ ∀ b, It b ∨ b = w.heap.size ∨ b = w.heap.size + 1 → W'.heap[b]? = W.heap[b]?
/-- how a round may end -/
def rndP (It : Nat → Prop) (w W : World) (J : World → Prop) (Jx : Exit → World → Prop) : Exit → World → Prop := fun x W' => KpW It w W W' ∧ match x with
  | .normal => J W' | .ret => Jx .ret W' | .exit i => Jx (.exit i) W' | _ => False
/-- between a round's assignment and its body the loop's record is turned -/
def begK (It : Nat → Prop) (w W : World) (J : World → Prop) (Jx : Exit → World → Prop) (F : (Exit → World → Prop) → World → Prop) (W1 : World) : Prop :=
  KpW It w W W1 ∧ ∀ W2, Mod (fun b => b = w.heap.size + 1) W1 W2 → F (rndP It w W2 J Jx) W2
def ItOk (It : Nat → Prop) (w W : World) : Prop := ∀ b, It b → b < W.heap.size ∧ w.heap.size + 2 ≤ b
def RangeK (P : Program) (ok : Nat → Bool) (f : Value) (np : Nat) (rnd : List Value → (((Exit → World → Prop) → World → Prop) → World → Prop) → World → Prop) (N : Exit → World → Prop) (w : World) : Prop :=
  ∃ st gf cap encs n Rd, f = .func (.func gf) #[] (List.toArray cap) ∧ ok gf = true ∧ SeqK st P gf cap encs n Rd w ∧ (∀ k, k < n → (encs k).length = np) ∧
  ∃ (J : Nat → (Nat → Prop) → World → Prop) (Jx : Exit → (Nat → Prop) → World → Prop),
    J 0 (fun _ => False) w ∧
    (∀ k It It' W W', J k It W → Mod (fun b => (¬ st ∧ It b) ∨ b = w.heap.size ∨ b = w.heap.size + 1) W W' → (∀ b, It' b → (It b ∨ W.heap.size ≤ b) ∧ b < W'.heap.size ∧ w.heap.size + 2 ≤ b) → J k It' W') ∧
    (∀ x It It' W W', Jx x It W → Mod (fun b => (¬ st ∧ It b) ∨ b = w.heap.size ∨ b = w.heap.size + 1) W W' → (∀ b, It' b → (It b ∨ W.heap.size ≤ b) ∧ b < W'.heap.size ∧ w.heap.size + 2 ≤ b) → Jx x It' W') ∧
    (∀ k It W, J k It W → ∀ b, b < w.heap.size → Rd b → W.heap[b]? = w.heap[b]?) ∧
    (∀ k It W, k < n → J k It W → w.heap.size + 2 ≤ W.heap.size → ItOk It w W → rnd (encs k) (begK It w W (J (k + 1) It) (fun x => Jx x It)) W) ∧
    (∀ It W, J n It W → ItOk It w W → w.heap.size + 2 ≤ W.heap.size → W.heap[w.heap.size]? = some (.deferred (some [])) → N .normal W) ∧
    (∀ x It W, Jx x It W → ItOk It w W → w.heap.size + 2 ≤ W.heap.size → W.heap[w.heap.size]? = some (.deferred (some [])) → N x W)

variable {P : Program} {ok : Nat → Bool} {n : Nat}

theorem roundK_mono {l : Nat} {args : List Value} {K K' : Cont} {w : World} (h : roundK P l args K w) (hk : ∀ v w', K v w' → K' v w') : roundK P l args K' w := by
  obtain ⟨f, tmps, asg, body, h1, h2⟩ := h
  exact ⟨f, tmps, asg, body, h1, RoundIn.mono h2 fun e w' ⟨v, e1, e2⟩ => ⟨v, e1, hk _ _ e2⟩⟩
theorem Fr.fill {ds : List Deferred} {a : Act} : ∀ (ps : List Nat) (vs : List Value) (e : Env) (a : Act), vs.length = ps.length → Fr ds n e a → Fr ds n (updL n e ps vs) { a with tmps := (ps.zip vs).foldl (fun t x => t.setIfInBounds x.1 x.2) a.tmps } := by
  intro ps
  induction ps with
  | nil => intro vs e a _ h; exact h
  | cons p ps ih =>
    intro vs e a hl h
    cases vs with
    | nil => simp at hl
    | cons v vs =>
      have := ih vs (upd n e p v) (a.put (some p) v) (by simpa using hl) (h.put (some p) v)
      exact this

def jumpOf : Exit → Option Code
  | .ret => some .ret
  | .exit i => some (.exit i)
  | _ => none

theorem rangeK_sound {ds : List Deferred} (hok : GoodFns P ok) (hm : P.follows .mixedOrders = true) {g : Operand} {ps : Array Tmp} {x y : Code} {ax ay : Ann} {e : Env} {a : Act} {w : World} {N : Exit → World → Prop} (hf : Fr ds n e a)
    (hx : rdB x = true) (hy : rdB y = true)
    (h : RangeK P ok (ev e g) ps.size (fun args beg W => D P ok n x ax (nEx (fun e' W1 => beg (fun post W2 => D P ok n y ay (fun ex _ W3 => post ex W3) e' W2) W1) (fun _ _ _ => False)) (updL n e ps.toList args) W) N w) :
    (Code.rangeFunc g ps x y).wpIn (Wd none) 0 P (fun ex a' w' => Fr ({ target := .collected w.heap.size, args := #[] } :: ds) n e a' ∧ N ex w') a w := by
  obtain ⟨st, gf, cap, encs, nn, Rd, hfv, hgf, hseq, hlen, J, Jx, h0, hJ, hJx, hRd, hround, hdone, hstop⟩ := h
  refine wpIn_rangeFunc ?_
  intro fn _
  have hev : a.eval g = .func (.func gf) #[] cap.toArray := by rw [hf.eval]; exact hfv
  obtain ⟨rec, hrec⟩ : ∃ rec : LoopState → Option Code → Loop, rec = fun st pe => { state := st, pending := pe, fn, tmps := a.tmps, params := ps, assign := x, body := y, defers := w.heap.size } := ⟨_, rfl⟩
  obtain ⟨W1, hW1⟩ : ∃ W1, (w.alloc (.deferred (some []))).alloc (.loop (rec .ready none)) = W1 := ⟨_, rfl⟩
  have hg1 : Mod (fun _ => False) w W1 := by rw [← hW1]; exact (Mod.alloc _ _ _).trans (Mod.alloc _ _ _)
  have hs1 : W1.heap.size = w.heap.size + 2 := by rw [← hW1]; simp
  have hL1 : W1.heap[w.heap.size + 1]? = some (.loop (rec .ready none)) := by
    rw [← hW1]; have := World.alloc_heap_new (w.alloc (.deferred (some []))) (.loop (rec .ready none)); rwa [World.size_alloc] at this
  have hK1 : W1.heap[w.heap.size]? = some (.deferred (some [])) := by
    rw [← hW1]; exact (RowKit.Below.heap_alloc _ _ _ (by simp)).trans (World.alloc_heap_new w _)
  refine ⟨w.heap.size + 1, [{ target := .collected w.heap.size, args := #[] }], W1, { target := .fn (.func gf) cap.toArray, args := #[.func (.yield (w.heap.size + 1)) #[] #[]] }, W1, gf,
    (.func (.yield (w.heap.size + 1)) #[] #[] :: cap).toArray, W1, ?_, ?_, fun _ _ => trivial, ?_, (fun h => by cases h), ?_⟩
  · rw [← hW1, hrec]; exact run_enterLoop_outer _ _ _ _ _
  · simp only [resolve, hev]
    simp [go_sem]
  · have := hok gf hgf
    simp [invoke, go_sem]
    exact this _ _
  have putMod : ∀ (M : Nat → Prop) (W : World) (b : Nat) (o : Obj), M b → Mod M W (W.putObj b o) := fun M W b o hb =>
    ⟨rfl, rfl, rfl, by simp, fun k _ hk => World.putObj_heap_other fun e => hk (e ▸ hb)⟩
  let J' : Nat → (Nat → Prop) → World → Prop := fun k It W => J k It W ∧ ItOk It w W ∧ w.heap.size + 2 ≤ W.heap.size ∧ W.heap[w.heap.size + 1]? = some (.loop (rec .ready none)) ∧ W.heap[w.heap.size]? = some (.deferred (some []))
  let Jx' : (Nat → Prop) → World → Prop := fun It W => ∃ ex c, jumpOf ex = some c ∧ Jx ex It W ∧ ItOk It w W ∧ w.heap.size + 2 ≤ W.heap.size ∧ W.heap[w.heap.size + 1]? = some (.loop (rec .done (some c))) ∧ W.heap[w.heap.size]? = some (.deferred (some []))
  have it' : ∀ (It It' : Nat → Prop) (W W' : World), ItOk It w W → w.heap.size + 2 ≤ W.heap.size → (∀ b, It' b → (It b ∨ W.heap.size ≤ b) ∧ b < W'.heap.size) → ItOk It' w W' := fun It It' W W' h1 hsz h2 b hb => by
    obtain ⟨h3 | h3, h4⟩ := h2 b hb
    · exact ⟨h4, (h1 b h3).2⟩
    · exact ⟨h4, by omega⟩
  have hcall := hseq (w.heap.size + 1) J' Jx' W1 hg1 ⟨hJ 0 _ _ w W1 h0 (Grow.mod hg1) (fun b hb => hb.elim), fun b hb => hb.elim, by omega, hL1, hK1⟩
    (fun k It It' W W' ⟨q1, q2, q3, q4, q5⟩ hmod hIt => ⟨hJ k It It' W W' q1 (hmod.mono fun b _ hb => .inl hb) (fun b hb => ⟨(hIt b hb).1, (hIt b hb).2, (it' It It' W W' q2 q3 hIt b hb).2⟩), it' It It' W W' q2 q3 hIt, by have := hmod.size; omega,
      (hmod.same _ (by omega) fun hb => by have := (q2 _ hb.2).2; omega).trans q4, (hmod.same _ (by omega) fun hb => by have := (q2 _ hb.2).2; omega).trans q5⟩)
    (fun It It' W W' ⟨ex, c, hc, q1, q2, q3, q4, q5⟩ hmod hIt => ⟨ex, c, hc, hJx ex It It' W W' q1 (hmod.mono fun b _ hb => .inl hb) (fun b hb => ⟨(hIt b hb).1, (hIt b hb).2, (it' It It' W W' q2 q3 hIt b hb).2⟩), it' It It' W W' q2 q3 hIt, by have := hmod.size; omega,
      (hmod.same _ (by omega) fun hb => by have := (q2 _ hb.2).2; omega).trans q4, (hmod.same _ (by omega) fun hb => by have := (q2 _ hb.2).2; omega).trans q5⟩)
    (fun k It W ⟨q1, _⟩ b hb hr => hRd k It W q1 b hb hr)
    ?_
  · -- behind the iterator
    refine (callsIn_wide.2 (Calls.mono hcall ?_) : CallsIn Fence.wide _ _ _ _ _ _)
    rintro en W2 ⟨v, rfl, It, hh⟩
    have hfr : Fr ({ target := .collected w.heap.size, args := #[] } :: ds) n e { a with defers := [{ target := .collected w.heap.size, args := #[] }] ++ a.defers } := ⟨hf.size, hf.get, by simp [hf.defers]⟩
    have modE : ∀ o, Mod (fun b => (¬ st ∧ It b) ∨ b = w.heap.size ∨ b = w.heap.size + 1) W2 (W2.putObj (w.heap.size + 1) o) := fun o => putMod _ _ _ _ (.inr (.inr rfl))
    rcases hh with ⟨q1, q2, q3, q4, q5⟩ | ⟨ex, c, hc, q1, q2, q3, q4, q5⟩
    · obtain ⟨o, ho⟩ : ∃ o, (Instr.endLoop (w.heap.size + 1)).run P W2 = .ok none (W2.putObj (w.heap.size + 1) o) := ⟨_, by have := run_endLoop (P := P) q4 (by rw [hrec]; simp); rw [hrec] at this; exact this⟩
      refine ⟨none, _, ho, hfr, ?_⟩
      refine hdone It _ (hJ nn It It _ _ q1 (modE _) fun b hb => ⟨.inl hb, by simpa using (q2 b hb).1, (q2 b hb).2⟩) (fun b hb => ⟨by simpa using (q2 b hb).1, (q2 b hb).2⟩) (by simpa using q3) ((World.putObj_heap_other (by omega)).trans q5)
    · obtain ⟨o, ho⟩ : ∃ o, (Instr.endLoop (w.heap.size + 1)).run P W2 = .ok (some c) (W2.putObj (w.heap.size + 1) o) := ⟨_, by have := run_endLoop (P := P) q4 (by rw [hrec]; simp); rw [hrec] at this; exact this⟩
      have key : N ex (W2.putObj (w.heap.size + 1) o) :=
        hstop ex It _ (hJx ex It It _ _ q1 (modE _) fun b hb => ⟨.inl hb, by simpa using (q2 b hb).1, (q2 b hb).2⟩) (fun b hb => ⟨by simpa using (q2 b hb).1, (q2 b hb).2⟩) (by simpa using q3) ((World.putObj_heap_other (by omega)).trans q5)
      refine ⟨some c, _, ho, ?_⟩
      cases ex with
      | ret => cases hc; exact wpIn_ret ⟨hfr, key⟩
      | exit i => cases hc; exact wpIn_exit ⟨hfr, key⟩
      | _ => cases hc
  · -- one round
    rintro k It W hk ⟨q1, q2, q3, q4, q5⟩
    have hround1 := hround k It W hk q1 q3 q2
    have hyl := run_yield (P := P) (args := (encs k).toArray) q4 (by rw [hrec]; simpa using hlen k hk)
    rw [hrec] at hyl
    refine ⟨fn, _, x, y, hyl, ?_⟩
    have hfr : Fr [] n (updL n e ps.toList (encs k)) { tmps := (ps.zip (encs k).toArray).foldl (fun t x => t.setIfInBounds x.1 x.2) a.tmps, defers := [] } := by
      have := Fr.fill (ds := []) (a := a) ps.toList (encs k) e { a with defers := [] } (by simpa using hlen k hk) ⟨hf.size, hf.get, rfl⟩
      have e1 : (ps.zip (encs k).toArray).foldl (fun t x => t.setIfInBounds x.1 x.2) a.tmps = (ps.toList.zip (encs k)).foldl (fun t x => t.setIfInBounds x.1 x.2) a.tmps := by
        rw [← Array.foldl_toList]; simp
      rw [e1]; exact this
    refine roundIn_of_wpIn (F := Fence.wide) trivial ?_
    refine wpIn_mono (D_sound (ds := []) (ro := some (w.heap.size + 1)) (m := 0) hok hm x ax _ _ W _ (.inr hx) hfr hround1) ?_
    rintro ex a1 Wa ⟨e1, hf1, _, hb⟩
    cases ex with
    | normal =>
      obtain ⟨⟨hkw1, hkw2⟩, hbody⟩ := hb
      have hl1 := (hkw2 (w.heap.size + 1) (.inr (.inr rfl))).trans q4
      have hd1 := (hkw2 w.heap.size (.inr (.inl rfl))).trans q5
      refine ⟨_, run_beginRound hl1 (by rw [hrec]), ?_⟩
      have hb2 := hbody (Wa.putObj (w.heap.size + 1) (.loop { rec .ready none with state := .busy })) (putMod _ _ _ _ rfl)
      have hl2 : (Wa.putObj (w.heap.size + 1) (.loop { rec .ready none with state := .busy })).heap[w.heap.size + 1]? = some (.loop { rec .ready none with state := .busy }) := World.putObj_heap_same (by omega)
      have hd2 : (Wa.putObj (w.heap.size + 1) (.loop { rec .ready none with state := .busy })).heap[w.heap.size]? = some (.deferred (some [])) := (World.putObj_heap_other (by omega)).trans hd1
      refine wpIn_mono (D_sound (ds := []) (ro := some (w.heap.size + 1)) (m := 0) hok hm y ay _ e1 _ _ (.inr hy) hf1 hb2) ?_
      rintro ex a3 W3 ⟨e3, hf3, _, ⟨hz1, hz2⟩, hp⟩
      have hsz : Wa.heap.size ≤ W3.heap.size := by simpa using hz1
      have hl3 := (hz2 (w.heap.size + 1) (.inr (.inr rfl))).trans hl2
      have hd3 := (hz2 w.heap.size (.inr (.inl rfl))).trans hd2
      have fin : ∀ (jump : Option Code), (Instr.endRound (w.heap.size + 1) jump).run P W3 = .ok (.bool jump.isNone) (W3.putObj (w.heap.size + 1) (.loop (rec (if jump.isNone then .ready else .done) jump))) ∧
          (W3.putObj (w.heap.size + 1) (.loop (rec (if jump.isNone then .ready else .done) jump))).heap[w.heap.size + 1]? = some (.loop (rec (if jump.isNone then .ready else .done) jump)) ∧
          (W3.putObj (w.heap.size + 1) (.loop (rec (if jump.isNone then .ready else .done) jump))).heap[w.heap.size]? = some (.deferred (some [])) := fun jump => by
        have := run_endRound (P := P) jump hl3
        rw [hrec] at this ⊢
        exact ⟨this, World.putObj_heap_same (by omega), (World.putObj_heap_other (by omega)).trans hd3⟩
      have itk : ∀ (o : Obj) b, It b → (W3.putObj (w.heap.size + 1) o).heap[b]? = W.heap[b]? := fun o b hb => by
        have h2 := (q2 b hb).2
        rw [World.putObj_heap_other (by omega), hz2 b (.inl hb), World.putObj_heap_other (by omega), hkw2 b (.inl hb)]
      have itok : ∀ (o : Obj), ItOk It w (W3.putObj (w.heap.size + 1) o) := fun o b hb => ⟨by have := (q2 b hb).1; simp; omega, (q2 b hb).2⟩
      have itn : ∀ (o : Obj) b, It b → (It b ∨ W3.heap.size ≤ b) ∧ b < (W3.putObj (w.heap.size + 1) o).heap.size ∧ w.heap.size + 2 ≤ b := fun o b hb => ⟨.inl hb, (itok o b hb).1, (q2 b hb).2⟩
      have modE : ∀ o, Mod (fun b => (¬ st ∧ It b) ∨ b = w.heap.size ∨ b = w.heap.size + 1) W3 (W3.putObj (w.heap.size + 1) o) := fun o => putMod _ _ _ _ (.inr (.inr rfl))
      cases ex with
      | normal =>
        obtain ⟨f1, f2, f3⟩ := fin none
        exact ⟨_, _, f1, _, rfl, by simp; omega, itk _, .inl ⟨rfl, hJ _ It It _ _ hp (modE _) (itn _), itok _, by simp; omega, f2, f3⟩⟩
      | ret =>
        obtain ⟨f1, f2, f3⟩ := fin (some .ret)
        exact ⟨_, _, f1, _, rfl, by simp; omega, itk _, .inr ⟨rfl, .ret, .ret, rfl, hJx .ret It It _ _ hp (modE _) (itn _), itok _, by simp; omega, f2, f3⟩⟩
      | exit i =>
        obtain ⟨f1, f2, f3⟩ := fin (some (.exit i))
        exact ⟨_, _, f1, _, rfl, by simp; omega, itk _, .inr ⟨rfl, .exit i, .exit i, rfl, hJx (.exit i) It It _ _ hp (modE _) (itn _), itok _, by simp; omega, f2, f3⟩⟩
      | _ => exact hp.elim
    | _ => exact hb.elim

/-! ### a function with one such loop -/
def lookN : List (Nat × (World → Prop)) → Nat → World → Prop
  | [], _, _ => False
  | (j, N) :: r, i, w => bif Nat.beq i j then N w else lookN r i w
/-- what follows each way out of the loop -/
def nOf (Nn Nr : World → Prop) (L : List (Nat × (World → Prop))) (x : Exit) (w : World) : Prop := match x with
  | .normal => Nn w | .ret => Nr w | .exit i => lookN L i w | _ => False
theorem lookN_map {Q : Nat → World → Prop} {w : World} {i : Nat} : ∀ {L : List Nat}, lookN (L.map fun i => (i, Q i)) i w → Q i w := by
  intro L
  induction L with
  | nil => intro h; exact h.elim
  | cons j L ih =>
    intro h
    simp only [List.map_cons, lookN] at h
    cases hb : Nat.beq i j with
    | true => rw [hb] at h; have := Nat.eq_of_beq_eq_true hb; subst this; exact h
    | false => rw [hb] at h; exact ih h
def hasRF : Code → Bool
  | .rangeFunc .. => true
  | .seq a b => hasRF a || hasRF b
  | .block _ a => hasRF a
  | _ => false
def bX (id : Nat) (Q : EQ) : EQ := fun ex e w => match ex with
  | .exit i => bif Nat.beq i id then False else Q (.exit i) e w
  | .normal => Q .normal e w | .ret => Q .ret e w | .goto l => Q (.goto l) e w | .panic c => Q (.panic c) e w | .outgrown => Q .outgrown e w
variable (P ok n)
/-- as D, of code that comes to just one range over an iterator: Q0 where it is left ahead of it, Q m behind it -/
def DM : Code → Ann → (Nat → EQ) → EQ → Env → World → Prop
  | .seq x y, an, Q, Q0, e, w => match an with
    | .node _ _ a b => bif hasRF x then (bif rdB y then DM x a (fun m => nEx (fun e' w' => D P ok n y b (Q m) e' w') (Q m)) Q0 e w else False)
        else D P ok n x a (nEx (fun e' w' => DM y b Q Q0 e' w') Q0) e w
    | _ => False
  | .block id x, an, Q, Q0, e, w => DM x an (fun m => bEx id (Q m)) (bX id Q0) e w
  | .rangeFunc g ps x y, an, Q, _, e, w => match an with
    | .node L _ ax ay => bif rdB x && rdB y then RangeK P ok (ev e g) ps.size (fun args beg W => D P ok n x ax (nEx (fun e' W1 => beg (fun post W2 => D P ok n y ay (fun ex _ W3 => post ex W3) e' W2) W1) (fun _ _ _ => False)) (updL n e ps.toList args) W) (nOf (fun W => Q w.heap.size .normal e W) (fun W => Q w.heap.size .ret e W) (L.map fun i => (i, fun W => Q w.heap.size (.exit i) e W))) w else False
    | _ => False
  | _, _, _, _, _, _ => False
variable {P ok n}
def liftM (n : Nat) (Q : Nat → EQ) (Q0 : EQ) : Exit → Act → World → Prop := fun ex a w =>
  (ex ≠ .normal ∧ ∃ e, Fr [] n e a ∧ Q0 ex e w) ∨ ∃ m e, Fr [{ target := .collected m, args := #[] }] n e a ∧ Q m ex e w

theorem DM_sound (hok : GoodFns P ok) (hm : P.follows .mixedOrders = true) : ∀ (c : Code) (an : Ann) (Q : Nat → EQ) (Q0 : EQ) (e : Env) (w : World) (a : Act), Fr [] n e a → DM P ok n c an Q Q0 e w → c.wpIn (Wd none) 0 P (liftM n Q Q0) a w := by
  intro c
  induction c with
  | seq x y ihx ihy =>
    intro an Q Q0 e w a hf h
    cases an with
    | node L W a1 a2 =>
      simp only [DM] at h
      cases hr : hasRF x with
      | true =>
        simp only [hr, cond_true] at h
        cases hy : rdB y with
        | false => simp only [hy, cond_false] at h
        | true =>
          simp only [hy, cond_true] at h
          refine wpIn_seq (wpIn_mono (ihx a1 _ _ e w a hf h) ?_)
          rintro ex a' w' (⟨hne, e', h1, h2⟩ | ⟨m, e', h1, h2⟩)
          · cases ex with
            | normal => exact absurd rfl hne
            | _ => exact .inl ⟨hne, e', h1, h2⟩
          · cases ex with
            | normal =>
              refine wpIn_mono (D_sound (ro := none) (m := 0) hok hm y a2 _ e' w' a' (.inr hy) h1 h2) ?_
              rintro ex a'' w'' ⟨e'', h4, _, h6⟩
              exact .inr ⟨m, e'', h4, h6⟩
            | _ => exact .inr ⟨m, e', h1, h2⟩
      | false =>
        simp only [hr, cond_false] at h
        refine wpIn_seq (wpIn_mono (D_sound (ds := []) (ro := none) (m := 0) hok hm x a1 _ e w a (.inl ⟨rfl, rfl⟩) hf h) ?_)
        rintro ex a' w' ⟨e', h1, _, h2⟩
        cases ex with
        | normal => exact ihy a2 Q Q0 e' w' a' h1 h2
        | _ => exact .inl ⟨by simp, e', h1, h2⟩
    | _ => exact h.elim
  | block id x ih =>
    intro an Q Q0 e w a hf h
    simp only [DM] at h
    refine wpIn_block (wpIn_mono (ih an _ _ e w a hf h) ?_)
    rintro ex a' w' (⟨hne, e', h1, h2⟩ | ⟨m, e', h1, h2⟩)
    · cases ex with
      | exit i =>
        simp only [bX] at h2
        simp only [Exit.inBlock]
        cases hb : Nat.beq i id with
        | true => rw [hb] at h2; exact h2.elim
        | false =>
          rw [hb] at h2
          rw [if_neg (by intro e1; subst e1; simp at hb)]
          exact .inl ⟨by simp, e', h1, h2⟩
      | normal => exact absurd rfl hne
      | _ => exact .inl ⟨by simp, e', h1, h2⟩
    · cases ex with
      | exit i =>
        simp only [bEx] at h2
        simp only [Exit.inBlock]
        cases hb : Nat.beq i id with
        | true => rw [hb] at h2; rw [if_pos (Nat.eq_of_beq_eq_true hb)]; exact .inr ⟨m, e', h1, h2⟩
        | false =>
          rw [hb] at h2
          rw [if_neg (by intro e1; subst e1; simp at hb)]
          exact .inr ⟨m, e', h1, h2⟩
      | _ => exact .inr ⟨m, e', h1, h2⟩
  | rangeFunc g ps x y _ _ =>
    intro an Q Q0 e w a hf h
    cases an with
    | node L W a1 a2 =>
      simp only [DM] at h
      cases hb : (rdB x && rdB y) with
      | false => simp only [hb, cond_false] at h
      | true =>
        simp only [hb, cond_true] at h
        simp only [Bool.and_eq_true] at hb
        refine wpIn_mono (rangeK_sound hok hm hf hb.1 hb.2 h) ?_
        rintro ex a' w' ⟨h1, h2⟩
        refine .inr ⟨_, e, h1, ?_⟩
        cases ex with
        | normal => exact h2
        | ret => exact h2
        | exit i => exact lookN_map (Q := fun i W => Q w.heap.size (.exit i) e W) h2
        | _ => exact h2.elim
    | _ => exact h.elim
  | _ => intro an Q Q0 e w a hf h; exact h.elim
end Go.K
namespace Go.K
open Go
variable {P : Program} {ok : Nat → Bool} {n : Nat}
/-- on the way out the loop's mark is taken -/
def markK (m : Nat) (K : World → Prop) (w : World) : Prop := w.heap[m]? = some (.deferred (some [])) ∧ K (w.putObj m (.deferred none))
def retMK (P : Program) (m : Nat) (rs : List ResultVar) (K : Cont) : EQ := fun ex e w => match ex with
  | .normal => markK m (fun w => resD P rs e w fun vs => K (tupK vs) w) w
  | .ret => markK m (fun w => resD P rs e w fun vs => K (tupK vs) w) w
  | _ => False
theorem callK_ofM {g : Nat} {fn : Func} {c : Code} {rs : List ResultVar} {args : List Value} {K : Cont} {w : World} {an : Ann} (hok : GoodFns P ok) (hm : P.follows .mixedOrders = true) (hf : P.funcs[g]? = some fn)
    (hb : fn.body = some c) (hn : fn.ntmps = n) (hrs : fn.results.toList = rs) (hl : Nat.ble args.length n = true) (h : DM P ok n c an (fun m => retMK P m rs K) (retK P rs K) (nth args) w) : callK P g args K w := by
  refine callsIn_wide.1 (callsIn_of_wp_marks (F := Fence.wide) (n := 0) hf hb trivial ?_)
  have hl' := Nat.le_of_ble_eq_true hl
  subst hn hrs
  refine wpIn_mono (DM_sound hok hm c an _ _ _ w _ (fr_args hl') h) ?_
  rintro ex a' w' (⟨hne, e, h1, h2⟩ | ⟨m, e, h1, h2⟩)
  · cases ex with
    | normal => exact absurd rfl hne
    | ret =>
      obtain ⟨v, h4, h5⟩ := results_run h1 h2
      show LeavesInM _ _ _ _ _ _ _ _ _
      rw [h1.defers]
      exact ⟨v, h4, v, rfl, h5⟩
    | _ => exact h2.elim
  · have key : ∀ (h2 : markK m (fun w => resD P fn.results.toList e w fun vs => K (tupK vs) w) w'), LeavesInM Fence.wide 0 P fn a'.tmps (fun e w' => ∃ v, e = .returned v ∧ K v w') a'.defers .returning w' := by
      rintro ⟨h3, h4⟩
      obtain ⟨v, h5, h6⟩ := results_run h1 h4
      rw [h1.defers]
      exact ⟨by simp, .inl ⟨_, _, rfl, run_takeDeferred h3, v, h5, v, rfl, h6⟩⟩
    cases ex with
    | normal => exact key h2
    | ret => exact key h2
    | _ => exact h2.elim
end Go.K
