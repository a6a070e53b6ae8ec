/- Regions that draw their order and make memory: one order of thinking for all orders. No conditions. -/
import Derived.Test.YtmfplfaeibehiaaKC
import Derived.Orders
import Derived.Still
namespace Go.K
open Go

/-- w' is w but for new blocks and what lies in the blocks of M -/
structure Mod (M : Nat → Prop) (w w' : World) : Prop where
  os : w'.os = w.os
  tape : w'.tape = w.tape
  output : w'.output = w.output
  size : w.heap.size ≤ w'.heap.size
  same : ∀ b, b < w.heap.size → ¬ M b → w'.heap[b]? = w.heap[b]?
theorem Mod.refl (M : Nat → Prop) (w : World) : Mod M w w := ⟨rfl, rfl, rfl, Nat.le_refl _, fun _ _ _ => rfl⟩
theorem Mod.trans {M : Nat → Prop} {a b c : World} (h : Mod M a b) (k : Mod M b c) : Mod M a c :=
  ⟨k.os.trans h.os, k.tape.trans h.tape, k.output.trans h.output, Nat.le_trans h.size k.size, fun i hi hm => (k.same i (Nat.lt_of_lt_of_le hi h.size) hm).trans (h.same i hi hm)⟩
theorem Mod.mono {M M' : Nat → Prop} {w w' : World} (h : Mod M w w') (hm : ∀ b, b < w.heap.size → M b → M' b) : Mod M' w w' := ⟨h.os, h.tape, h.output, h.size, fun b hb hn => h.same b hb fun h' => hn (hm b hb h')⟩

def memB (l : List Nat) (i : Nat) : Bool := l.any fun x => Nat.beq x i
def getA : List (List Nat) → Nat → List Nat
  | [], _ => []
  | a :: _, 0 => a
  | _ :: r, i + 1 => getA r i
theorem memB_iff {l : List Nat} {i : Nat} : memB l i = true ↔ i ∈ l := by
  simp only [memB, List.any_eq_true]
  constructor
  · rintro ⟨x, hx, hb⟩; rw [← Nat.eq_of_beq_eq_true hb]; exact hx
  · intro h; exact ⟨i, h, by simp⟩

section
variable (P : Program) (ok : Nat → Bool) (n : Nat)

/-- the pure operations run to a value, whatever the world -/
theorem pure_run {P : Program} {ok : Nat → Bool} {o : Oper} {ρ : Operand → Value} {K : Cont} {w : World} (hρ : ∀ v, ρ (.const v) = v) (hp : pureOp P o = true) (h : opD P ok o ρ K w) : ∃ v, K v w ∧ ∀ w', (execOp ρ o).run P w' = .ok (.value v) w' := by
  obtain ⟨v, h1, h2⟩ := pure_det hp h
  refine ⟨v, h1, fun w' => ?_⟩
  obtain ⟨K', hK', hK2⟩ : ∃ K' : Cont, K' v w' ∧ ∀ v' w'', K' v' w'' → v' = v ∧ w'' = w' := ⟨fun v' w'' => v' = v ∧ w'' = w', ⟨rfl, rfl⟩, fun _ _ h => h⟩
  have h3 := h2 K' w' hK'
  have fin : ∀ s : Sem Value, runK P s K' w' → (do pure (Next.value (← s)) : Sem Next).run P w' = .ok (.value v) w' := by
    rintro s ⟨v', w'', r1, r2⟩
    obtain ⟨rfl, rfl⟩ := hK2 _ _ r2
    simp [r1]
  clear h h1 h2
  obtain ⟨dst, op, type, pos, after, guard⟩ := o
  cases op with
  | move x => have h4 := (hK2 _ _ h3).1; simp [execOp, h4]
  | assign x => have h4 := (hK2 _ _ h3).1; simp [execOp, h4]
  | pick c a b =>
    simp only [opD, pickK] at h3
    cases hc : ρ c with
    | bool t => cases t <;> simp only [hc] at h3 <;> simp [execOp, asBool, hc, (hK2 _ _ h3).1]
    | _ => simp only [hc] at h3
  | nilCheck x => obtain ⟨a, h4, h5⟩ := h3; have h6 := (hK2 _ _ h5).1; rw [h4] at h6; subst h6; simp [execOp, h4]
  | extract t i => exact fin _ (ext_run h3)
  | unOp op t x =>
    cases op with
    | not => obtain ⟨a, h4, h5⟩ := h3; have h6 := (hK2 _ _ h5).1; simp [execOp, Op.unary, h4, ← h6]
    | _ => simp [pureOp] at hp
  | binOp op t x y yt =>
    simp only [pureOp] at hp
    have : binD P op t y (ρ x) (ρ y) (fun v' => K' v' w') False := by
      simp only [opD] at h3
      obtain ⟨u, g1, g2⟩ := pureBin_det hp h3
      exact g2 _ _ g1
    exact fin _ (bin_run (xo := x) (fun v hv => by rw [hv, hρ]) this (fun hF => hF.elim))
  | fieldAddr s x f =>
    simp only [opD] at h3
    split at h3
    · rename_i fs hu
      split at h3
      · rename_i fd hf
        split at h3
        · rename_i i hi
          cases hz : Nat.beq i.size 0 with
          | true => simp only [hz, cond_true] at h3
          | false => simp only [hz, cond_false] at h3; exact fin _ (fa_run hu hf hi hz h3)
        · exact h3.elim
      · exact h3.elim
    · exact h3.elim
  | indexAddr t x i =>
    simp only [opD, pureOp] at hp h3
    cases hu : P.underlying t with
    | none => simp [hu] at hp
    | some d =>
      simp only [hu] at hp h3
      cases d with
      | slice e =>
        simp only at h3
        cases hi : P.info? e with
        | none => simp [hi] at h3
        | some f => simp only [hi] at h3; exact fin _ (ix_run hu hi h3)
      | _ => simp at hp
  | build t parts =>
    have e1 : (execOp ρ ⟨dst, .build t parts, type, pos, after, guard⟩) = (do pure (Next.value (← Instr.build t (parts.toList.map fun p => (p.1, ρ p.2)).toArray)) : Sem Next) := by
      simp only [execOp]; rw [parts_map]
    rw [e1]
    simp only [opD, pureOp] at hp h3
    cases hu : P.underlying t with
    | none => simp [hu] at hp
    | some d =>
      cases hz : zeroOf P t with
      | none => simp [hu, hz] at hp
      | some z =>
        simp only [hu, hz] at hp h3
        cases d with
        | struct fs =>
          simp only at h3
          cases hl : placesOf P fs.toList with
          | none => simp [hl] at h3
          | some l => simp only [hl] at h3; exact fin _ (build_run hu hz hl h3)
        | _ => simp at hp
  | call c =>
    obtain ⟨callee, args, ats⟩ := c
    cases callee with
    | builtin b =>
      have hb : ∀ (s : Array Value → Sem Value), (∀ cs xs, builtin b ats type cs xs = (do pure (Next.value (← s xs)))) → runK P (s (args.toList.map ρ).toArray) K' w' →
          (execOp ρ ⟨dst, .call ⟨.builtin b, args, ats⟩, type, pos, after, guard⟩).run P w' = .ok (.value v) w' := by
        intro s hs hr
        simp only [execOp, resolve, pure_bind, invoke, hs, args_map]
        exact fin _ hr
      cases b <;> simp only [pureOp, opD] at hp h3 <;> try (cases hp; done)
      · split at hp
        · rename_i t x ht hx
          have hargs : (args.toList.map ρ).toArray = #[ρ x] := by rw [hx]; rfl
          simp only [ht, hx] at h3
          split at hp
          · rename_i e hu
            simp only [hu] at h3
            exact hb _ (fun _ _ => rfl) (by rw [hargs]; exact len_run ht hu h3)
          · rename_i hu
            simp only [hu] at h3
            exact hb _ (fun _ _ => rfl) (by rw [hargs]; exact slen_run ht hu h3)
          · cases hp
        · cases hp
      · split at hp
        · rename_i k x y hk hx
          simp only [hk, hx] at h3
          obtain ⟨p, q, g1, g2, g3⟩ := h3
          refine hb _ (fun _ _ => rfl) ⟨_, w', ?_, g3⟩
          rw [hx]
          simp only [List.map_cons, List.map_nil, g1, g2]
          exact run_max_int2 w' ats type k k p q
        · cases hp
      · split at hp
        · rename_i k x y hk hx
          simp only [hk, hx] at h3
          obtain ⟨p, q, g1, g2, g3⟩ := h3
          refine hb _ (fun _ _ => rfl) ⟨_, w', ?_, g3⟩
          rw [hx]
          simp only [List.map_cons, List.map_nil, g1, g2]
          exact run_min_int2 w' ats type k k p q
        · cases hp
    | _ => simp [pureOp] at hp
  | _ => simp [pureOp] at hp

/-! ### words of the rule -/
def sld1 (St : Addr → Value → Prop) (x : Value) (k : Value → Prop) : Prop := ∃ a v, x = .pointer (some a) ∧ St a v ∧ k v
def sldn (St : Addr → Value → Prop) (m : Nat) (x : Value) (k : Value → Prop) : Prop := ∃ a vs, x = .pointer (some a) ∧ List.length vs = m ∧ (∀ j v, vs[j]? = some v → St (a.add j) v) ∧ k (.agg vs.toArray)
def prunK (P : Program) (s : Sem Value) (k : Value → Prop) : Prop := ∃ v, (∀ w, s.run P w = .ok v w) ∧ k v
def lookK : List (Nat × Option Bool) → Nat → Option (Option Bool)
  | [], _ => none
  | (i, b) :: r, j => bif Nat.beq i j then some b else lookK r j
def dstAt : List Oper → Nat → Option Nat
  | [], _ => none
  | o :: _, 0 => o.dst
  | _ :: r, j + 1 => dstAt r j
def sameB (a b : Bool) : Bool := match a, b with | true, true => true | false, false => true | _, _ => false

/-- an operation met on the way: one of eff by what is said of it; a load by what stays; any other by itself -/
def wexec (eff : List Nat) (A : Nat → Value → World → Prop) (St : Addr → Value → Prop) (w : World) (o : Oper) (i : Nat) (ρ : Operand → Value) (k : Value → Prop) : Prop :=
  bif memB eff i then ∀ v, A i v w → k v
  else match o.op with
    | .load t x => match aggOf P t with | some (false, _) => sld1 St (ρ x) k | some (true, m) => sldn St m (ρ x) k | none => False
    | .binOp op t x y _ => bif pureBin P op t y then binD P op t y (ρ x) (ρ y) k False else prunK P (binS op t x y (ρ x) (ρ y)) k
    | _ => bif pureOp P o then opD P ok o ρ (fun v _ => k v) w else False

def walkD (all : List Oper) (eff : List Nat) (A : Nat → Value → World → Prop) (St : Nat → Addr → Value → Prop) (w : World) (sel : Nat → Bool) (K : List (Nat × Option Bool) → Env → Prop) :
    List Oper → Nat → List (Nat × Option Bool) → Env → Prop
  | [], _, kn, e => K kn e
  | o :: r, i, kn, e =>
    bif sel i then
      match o.guard with
      | none => wexec P ok eff A (St i) w o i (ev e) fun v => walkD all eff A St w sel K r (i + 1) kn (updO n e o.dst v)
      | some (j, want) => match lookK kn j with
        | some (some b) => bif sameB b want then wexec P ok eff A (St i) w o i (ev e) fun v => walkD all eff A St w sel K r (i + 1) kn (updO n e o.dst v)
            else walkD all eff A St w sel K r (i + 1) ((i, none) :: kn) (updO n e o.dst undef)
        | some none => walkD all eff A St w sel K r (i + 1) ((i, none) :: kn) (updO n e o.dst undef)
        | none => match dstAt all j with
          | some d => condK (e d)
              (bif want then wexec P ok eff A (St i) w o i (ev (upd n e d (.bool true))) fun v => walkD all eff A St w sel K r (i + 1) ((j, some true) :: kn) (updO n (upd n e d (.bool true)) o.dst v)
                else walkD all eff A St w sel K r (i + 1) ((i, none) :: (j, some true) :: kn) (updO n (upd n e d (.bool true)) o.dst undef))
              (bif want then walkD all eff A St w sel K r (i + 1) ((i, none) :: (j, some false) :: kn) (updO n (upd n e d (.bool false)) o.dst undef)
                else wexec P ok eff A (St i) w o i (ev (upd n e d (.bool false))) fun v => walkD all eff A St w sel K r (i + 1) ((j, some false) :: kn) (updO n (upd n e d (.bool false)) o.dst v))
          | none => False
    else walkD all eff A St w sel K r (i + 1) kn e

/-- at the end of a way: the operation of eff itself -/
def finK (all : List Oper) (A : Nat → Value → World → Prop) (M : Nat → Nat → Prop) (w : World) (k : Nat) (o : Oper) (kn : List (Nat × Option Bool)) (e : Nat → Value) : Prop :=
  match o.guard with
  | none => opD P ok o (ev e) (fun v w' => Mod (M k) w w' ∧ A k v w') w
  | some (j, want) => match lookK kn j with
    | some (some b) => bif sameB b want then opD P ok o (ev e) (fun v w' => Mod (M k) w w' ∧ A k v w') w else True
    | some none => True
    | none => match dstAt all j with
      | some d => condK (e d)
          (bif want then opD P ok o (ev (upd n e d (.bool true))) (fun v w' => Mod (M k) w w' ∧ A k v w') w else True)
          (bif want then True else opD P ok o (ev (upd n e d (.bool false))) (fun v w' => Mod (M k) w w' ∧ A k v w') w)
      | none => False

def interB (eff a : List Nat) : List Nat := a.filter (memB eff)
/-- the operations that hang on no other of eff than those of E -/
def selG (eff : List Nat) (AN : List (List Nat)) (E : List Nat) (i : Nat) : Bool := bif memB eff i then memB E i else (getA AN i).all fun j => bif memB eff j then memB E j else true
end
end Go.K
