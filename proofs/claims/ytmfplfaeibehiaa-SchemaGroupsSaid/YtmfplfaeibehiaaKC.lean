/- That one operation, as our calculus tells it, is the model's operation. No conditions. -/
import Derived.Test.YtmfplfaeibehiaaKB
namespace Go.K
open Go
section
variable {P : Program} {ok : Nat → Bool} {K : Cont} {w : World}

def NextOk (w0 : World) (r : Result Next) (K : Cont) (P : Program) : Prop :=
  match r with
  | .ok (.value v) w' => K v w'
  | .ok .skip w' => K undef w'
  | .ok (.enter f args) w' => w' = w0 ∧ Calls P f args w0 fun e w'' => ∃ v, e = .returned v ∧ K v w''
  | _ => False

theorem upon_of {o : Oper} {a : Act} {next : Act → World → Prop} {Q : Exit → Act → World → Prop} {r : Result Next}
    (h : NextOk w r K P) (hK : ∀ v w', K v w' → next (a.put o.dst v) w') : o.upon P a next Q r := by
  match r, h with
  | .ok (.value v) w', h => exact hK _ _ h
  | .ok .skip w', h => exact hK _ _ h
  | .ok (.enter f args) w', h =>
    obtain ⟨rfl, h⟩ := h
    exact Calls.mono h fun e w'' ⟨v, he, hv⟩ => by subst he; exact hK _ _ hv

theorem nx_v {s : Sem Value} (h : runK P s K w) : NextOk w ((do pure (Next.value (← s)) : Sem Next).run P w) K P := by
  obtain ⟨v, w', h1, h2⟩ := h
  simp only [Sem.run_bind, h1, Result.andThen_ok, Sem.run_pure]
  exact h2
theorem nx_u {s : Sem Unit} (h : runU P s (fun w => K undef w) w) : NextOk w ((do s; pure Next.skip : Sem Next).run P w) K P := by
  obtain ⟨w', h1, h2⟩ := h
  simp only [Sem.run_bind, h1, Result.andThen_ok, Sem.run_pure]
  exact h2
theorem nx_u' {s : Sem Unit} (h : runK P (do s; pure undef) K w) : NextOk w ((do s; pure Next.skip : Sem Next).run P w) K P := by
  obtain ⟨v, w', h1, h2⟩ := h
  simp only [Sem.run_bind, Sem.run_pure] at h1 ⊢
  revert h1
  cases s.run P w with
  | halt x w1 => intro h1; exact absurd h1 (by simp)
  | ok u w1 => intro h1; simp at h1; obtain ⟨rfl, rfl⟩ := h1; exact h2
theorem args_map (ρ : Operand → Value) (xs : Array Operand) : xs.map ρ = (xs.toList.map ρ).toArray := by
  apply Array.toList_inj.1; simp
theorem parts_map (ρ : Operand → Value) (xs : Array (Nat × Operand)) : (xs.map fun (i, x) => (i, ρ x)) = (xs.toList.map fun p => (p.1, ρ p.2)).toArray := by
  apply Array.toList_inj.1; simp
theorem nx_call (hok : GoodFns P ok) {g : Nat} {args : List Value} (hg : ok g = true) (h : callK P g args K w) :
    NextOk w ((callFunc g args.toArray).run P w) K P := by
  rw [hok g hg]
  exact ⟨rfl, h⟩
set_option maxHeartbeats 1000000 in
theorem opD_nx (hok : GoodFns P ok) {o : Oper} {ρ : Operand → Value} (hρ : ∀ v, ρ (.const v) = v) (hρf : ∀ f, ρ (.func f) = .func (.func f) #[] #[]) (h : opD P ok o ρ K w) :
    NextOk w ((execOp ρ o).run P w) K P := by
  obtain ⟨dst, op, type, pos, after, guard⟩ := o
  cases op with
  | move x => exact h
  | assign x => exact h
  | pick c a b =>
    simp only [opD, pickK] at h
    simp only [execOp]
    cases hc : ρ c with
    | bool t => cases t <;> simp only [hc] at h <;> simpa [asBool, NextOk] using h
    | _ => simp only [hc] at h
  | alloc t =>
    simp only [opD] at h
    split at h
    · rename_i z hz; exact nx_v (alloc_run hz h)
    · exact h.elim
  | box t x =>
    simp only [opD] at h
    split at h
    · exact nx_v (box1_run h)
    · exact nx_v (boxn_run h)
    · exact h.elim
  | load t x =>
    simp only [opD] at h
    split at h
    · rename_i ha; exact nx_v (ld1_run ha h)
    · rename_i ha; exact nx_v (ldn_run ha h)
    · exact h.elim
  | store t a x =>
    simp only [opD] at h
    split at h
    · rename_i k ha
      cases hk : Nat.beq k 1 with
      | false => simp only [hk, cond_false] at h
      | true =>
        simp only [hk, cond_true] at h
        rw [Nat.eq_of_beq_eq_true hk] at ha
        exact nx_u (st1_run ha h)
    · rename_i ha; exact nx_u (stn_run ha h)
    · exact h.elim
  | nilCheck x =>
    simp only [opD] at h
    obtain ⟨a, h1, h2⟩ := h
    simp only [execOp, h1]
    rw [h1] at h2
    exact h2
  | binOp op t x y yt =>
    simp only [opD] at h
    exact nx_v (bin_run (xo := x) (fun v hv => by rw [hv, hρ]) h (fun hF => hF))
  | unOp op t x =>
    simp only [opD] at h
    cases op with
    | plus => exact nx_v h
    | not =>
      obtain ⟨a, h1, h2⟩ := h
      exact nx_v ⟨_, w, by simp [Op.unary, h1], h2⟩
    | neg => exact nx_v h
    | xor => exact nx_v h
  | fieldAddr s x f =>
    simp only [opD] at h
    split at h
    · rename_i fs hu
      split at h
      · rename_i fd hf
        split at h
        · rename_i i hi
          cases hz : Nat.beq i.size 0 with
          | true => simp only [hz, cond_true] at h
          | false =>
            simp only [hz, cond_false] at h
            exact nx_v (fa_run hu hf hi hz h)
        · exact h.elim
      · exact h.elim
    · exact h.elim
  | indexAddr t x i =>
    simp only [opD] at h
    split at h
    · rename_i e hu
      split at h
      · rename_i f hi; exact nx_v (ix_run hu hi h)
      · exact h.elim
    · exact nx_v h
  | build t parts =>
    simp only [opD] at h
    have e1 : (execOp ρ ⟨dst, .build t parts, type, pos, after, guard⟩) = (do pure (Next.value (← Instr.build t (parts.toList.map fun p => (p.1, ρ p.2)).toArray)) : Sem Next) := by
      simp only [execOp]; rw [parts_map]
    rw [e1]
    split at h
    · rename_i fs z hu hz
      split at h
      · rename_i l hl; exact nx_v (build_run hu hz hl h)
      · exact h.elim
    · exact nx_v h
  | buildSlice t len parts =>
    simp only [opD] at h
    have e1 : (execOp ρ ⟨dst, .buildSlice t len parts, type, pos, after, guard⟩) = (do pure (Next.value (← Instr.buildSlice t len (parts.toList.map fun p => (p.1, ρ p.2)).toArray)) : Sem Next) := by
      simp only [execOp]; rw [parts_map]
    rw [e1]
    split at h
    · rename_i e hu
      split at h
      · rename_i i hi
        cases hb : (Nat.blt 0 (len * i.size) && Nat.ble (len * i.size) 1000000) with
        | true =>
          simp only [hb, cond_true] at h
          split at h
          · rename_i z hz; exact nx_v (row_run hu hi hz hb h)
          · exact h.elim
        | false =>
          simp only [hb, cond_false] at h
          cases hb2 : Nat.beq (len * i.size) 0 with
          | true => simp only [hb2, cond_true] at h; exact nx_v (row0_run hu hi hb2 h)
          | false => simp only [hb2, cond_false] at h
      · exact h.elim
    · exact h.elim
  | extract t i => exact nx_v (ext_run h)
  | makeFunc fn fst cap =>
    simp only [opD] at h
    simp only [execOp, Instr.makeFunc, args_map]
    exact h
  | convert s d x => exact nx_v h
  | slice t x lo hi mx => exact nx_v h
  | field t x f => exact nx_v h
  | index t x i => exact nx_v h
  | makeMap t r => exact nx_v h
  | makeSlice t l c => exact nx_v h
  | makeInterface t x => exact nx_v h
  | lookup t x i b => exact nx_v h
  | mapUpdate t m k x => exact nx_u' h
  | insert t m k x => exact nx_u' h
  | mapEntry t m k => exact nx_v h
  | entryStore t m s x => exact nx_u' h
  | range t x => exact nx_v h
  | next it s => exact nx_v h
  | entry it => exact nx_v h
  | typeAssert x xt at_ b => exact nx_v h
  | call c =>
    obtain ⟨callee, args, ats⟩ := c
    have hb : ∀ (b : Builtin) (s : Array Value → Sem Value), callee = .builtin b → (∀ cs xs, builtin b ats type cs xs = (do pure (Next.value (← s xs)))) →
        runK P (s (args.toList.map ρ).toArray) K w → NextOk w ((execOp ρ ⟨dst, .call ⟨callee, args, ats⟩, type, pos, after, guard⟩).run P w) K P := by
      intro b s hc hs hr
      subst hc
      simp only [execOp, resolve, pure_bind, invoke, hs, args_map]
      exact nx_v hr
    cases callee with
    | value f =>
      have hv : ∀ g fst cap, ρ f = .func (.func g) (List.toArray fst) (List.toArray cap) → ok g = true → callK P g (fst ++ args.toList.map ρ ++ cap) K w →
          NextOk w ((execOp ρ ⟨dst, .call ⟨.value f, args, ats⟩, type, pos, after, guard⟩).run P w) K P := by
        intro g fst cap hf hg hc
        simp only [execOp, resolve, hf, Deferred.ofValue, pure_bind, invoke, args_map]
        have := nx_call hok hg hc
        simpa using this
      cases f with
      | func g =>
        simp only [opD] at h
        cases hg : ok g with
        | false => simp only [hg, cond_false] at h
        | true =>
          simp only [hg, cond_true] at h
          exact hv g [] [] (hρf g) hg (by simpa using h)
      | tmp t => obtain ⟨g, fst, cap, h1, h2, h3⟩ := h; exact hv g fst cap h1 h2 h3
      | const v => obtain ⟨g, fst, cap, h1, h2, h3⟩ := h; exact hv g fst cap h1 h2 h3
      | global g => obtain ⟨g, fst, cap, h1, h2, h3⟩ := h; exact hv g fst cap h1 h2 h3
    | invoke r m => exact h.elim
    | builtin b =>
      cases b <;> first
        | exact h.elim
        | exact hb _ _ rfl (fun _ xs => rfl) h
        | skip
      case max =>
        simp only [opD] at h
        split at h
        · rename_i k x y hk hx
          obtain ⟨p, q, h1, h2, h3⟩ := h
          refine hb .max _ rfl (fun _ xs => rfl) ⟨_, w, ?_, h3⟩
          rw [hx]
          simp only [List.map_cons, List.map_nil, h1, h2]
          exact run_max_int2 w ats type k k p q
        · exact hb .max _ rfl (fun _ xs => rfl) h
      case min =>
        simp only [opD] at h
        split at h
        · rename_i k x y hk hx
          obtain ⟨p, q, h1, h2, h3⟩ := h
          refine hb .min _ rfl (fun _ xs => rfl) ⟨_, w, ?_, h3⟩
          rw [hx]
          simp only [List.map_cons, List.map_nil, h1, h2]
          exact run_min_int2 w ats type k k p q
        · exact hb .min _ rfl (fun _ xs => rfl) h
      simp only [opD] at h
      split at h
      · rename_i t x ht hx
        have hargs : (args.toList.map ρ).toArray = #[ρ x] := by rw [hx]; rfl
        refine hb .len _ rfl (fun _ xs => rfl) ?_
        rw [hargs]
        split at h
        · rename_i hu; exact len_run ht hu h
        · rename_i hu; exact slen_run ht hu h
        · exact h
      · exact h.elim
  | _ => exact h.elim

/-! ### operations that look at no memory -/
def pureBin (P : Program) (op : BinOp) (t : TypeId) (yo : Operand) : Bool :=
  match P.underlying t with
  | some (.int _) => match op with | .add | .sub | .mul | .lss | .leq | .gtr | .geq | .eql | .neq => true | _ => false
  | some .bool => match op with | .eql | .neq => true | _ => false
  | some .string => match op with | .eql | .neq => true | _ => false
  | some (.slice _) => isNilS yo && (match op with | .eql | .neq => true | _ => false)
  | some (.pointer _) => isNilP yo && (match op with | .eql | .neq => true | _ => false)
  | _ => false
def pureOp (P : Program) (o : Oper) : Bool :=
  match o.op with
  | .move _ => true | .assign _ => true | .pick _ _ _ => true | .nilCheck _ => true | .extract _ _ => true
  | .fieldAddr _ _ _ => true
  | .unOp .not _ _ => true
  | .binOp op t _ y _ => pureBin P op t y
  | .indexAddr t _ _ => match P.underlying t with | some (.slice _) => true | _ => false
  | .build t _ => match P.underlying t, zeroOf P t with | some (.struct _), some _ => true | _, _ => false
  | .call c => match c.callee with
    | .builtin .len => match c.argTypes.toList, c.args.toList with
      | [t], [_] => match P.underlying t with | some (.slice _) => true | some .string => true | _ => false
      | _, _ => false
    | .builtin .max => match P.underlying o.type, c.args.toList with | some (.int _), [_, _] => true | _, _ => false
    | .builtin .min => match P.underlying o.type, c.args.toList with | some (.int _), [_, _] => true | _, _ => false
    | _ => false
  | _ => false

theorem pureBin_det {op : BinOp} {t : TypeId} {yo : Operand} {x y : Value} {K : Value → Prop} {F : Prop} (hp : pureBin P op t yo = true) (h : binD P op t yo x y K F) :
    ∃ v, K v ∧ ∀ (K' : Value → Prop) (F' : Prop), K' v → binD P op t yo x y K' F' := by
  unfold pureBin at hp
  unfold binD at h
  simp only [binD]
  cases hu : P.underlying t with
  | none => simp [hu] at hp
  | some d =>
    simp only [hu] at hp h
    cases d with
    | int k => cases op <;> simp only at hp h ⊢ <;> first
        | (cases hp; done)
        | (obtain ⟨a, b, h1, h2, h3⟩ := h; exact ⟨_, h3, fun K' _ hk => ⟨a, b, h1, h2, hk⟩⟩)
    | bool => cases op <;> simp only at hp h ⊢ <;> first
        | (cases hp; done)
        | (obtain ⟨a, b, h1, h2, h3⟩ := h; exact ⟨_, h3, fun K' _ hk => ⟨a, b, h1, h2, hk⟩⟩)
    | string => cases op <;> simp only at hp h ⊢ <;> first
        | (cases hp; done)
        | (obtain ⟨a, b, h1, h2, h3⟩ := h; exact ⟨_, h3, fun K' _ hk => ⟨a, b, h1, h2, hk⟩⟩)
    | slice e =>
      simp only [Bool.and_eq_true] at hp
      simp only [hp.1, cond_true] at h ⊢
      have hp2 := hp.2
      cases op <;> simp only at hp2 h ⊢ <;> first
        | (cases hp2; done)
        | (obtain ⟨a, n, c, h1, h3⟩ := h; exact ⟨_, h3, fun K' _ hk => ⟨a, n, c, h1, hk⟩⟩)
    | pointer e =>
      simp only [Bool.and_eq_true] at hp
      simp only [hp.1, cond_true] at h ⊢
      have hp2 := hp.2
      cases op <;> simp only at hp2 h ⊢ <;> first
        | (cases hp2; done)
        | (obtain ⟨a, h1, h3⟩ := h; exact ⟨_, h3, fun K' _ hk => ⟨a, h1, hk⟩⟩)
    | _ => simp at hp

theorem pure_det {o : Oper} {ρ : Operand → Value} (hp : pureOp P o = true) (h : opD P ok o ρ K w) : ∃ v, K v w ∧ ∀ (K' : Cont) (w' : World), K' v w' → opD P ok o ρ K' w' := by
  obtain ⟨dst, op, type, pos, after, guard⟩ := o
  cases op with
  | move x => exact ⟨_, h, fun _ _ hk => hk⟩
  | assign x => exact ⟨_, h, fun _ _ hk => hk⟩
  | pick c a b =>
    simp only [opD, pickK] at h ⊢
    cases hc : ρ c with
    | bool t => cases t <;> simp only [hc] at h ⊢ <;> exact ⟨_, h, fun _ _ hk => hk⟩
    | _ => simp only [hc] at h
  | nilCheck x => obtain ⟨a, h1, h2⟩ := h; exact ⟨_, h2, fun _ _ hk => ⟨a, h1, hk⟩⟩
  | extract t i => obtain ⟨vs, v, h1, h2, h3⟩ := h; exact ⟨_, h3, fun _ _ hk => ⟨vs, v, h1, h2, hk⟩⟩
  | unOp op t x =>
    cases op with
    | not => obtain ⟨a, h1, h2⟩ := h; exact ⟨_, h2, fun _ _ hk => ⟨a, h1, hk⟩⟩
    | _ => simp [pureOp] at hp
  | binOp op t x y yt =>
    simp only [pureOp] at hp
    obtain ⟨v, h1, h2⟩ := pureBin_det hp h
    exact ⟨v, h1, fun K' w' hk => h2 _ _ hk⟩
  | fieldAddr s x f =>
    simp only [opD] at h ⊢
    split at h
    · split at h
      · split at h
        · rename_i i _
          cases hz : Nat.beq i.size 0 with
          | true => simp only [hz, cond_true] at h
          | false =>
            simp only [hz, cond_false] at h ⊢
            obtain ⟨a, h1, h2⟩ := h
            exact ⟨_, h2, fun _ _ hk => ⟨a, h1, hk⟩⟩
        · exact h.elim
      · exact h.elim
    · exact h.elim
  | indexAddr t x i =>
    simp only [opD, pureOp] at hp h ⊢
    cases hu : P.underlying t with
    | none => simp [hu] at hp
    | some d =>
      simp only [hu] at hp h ⊢
      cases d with
      | slice e =>
        simp only at h ⊢
        cases hi : P.info? e with
        | none => simp [hi] at h
        | some f =>
          simp only [hi] at h ⊢
          obtain ⟨a, n, c, k, j, h1, h2, h3, h4, h5⟩ := h
          exact ⟨_, h5, fun _ _ hk => ⟨a, n, c, k, j, h1, h2, h3, h4, hk⟩⟩
      | _ => simp at hp
  | build t parts =>
    simp only [opD, pureOp] at hp h ⊢
    cases hu : P.underlying t with
    | none => simp [hu] at hp
    | some d =>
      cases hz : zeroOf P t with
      | none => simp [hu, hz] at hp
      | some z =>
        simp only [hu, hz] at hp h ⊢
        cases d with
        | struct fs =>
          simp only at h ⊢
          cases hl : placesOf P fs.toList with
          | none => simp [hl] at h
          | some l =>
            simp only [hl] at h ⊢
            obtain ⟨cs, h1, h2⟩ := h
            exact ⟨_, h2, fun _ _ hk => ⟨cs, h1, hk⟩⟩
        | _ => simp at hp
  | call c =>
    obtain ⟨callee, args, ats⟩ := c
    cases callee with
    | builtin b =>
      cases b <;> simp only [pureOp, opD] at hp h ⊢ <;> try (cases hp; done)
      · split at hp
        · rename_i t x ht hx
          simp only [ht, hx] at h ⊢
          split at hp
          · rename_i e hu
            simp only [hu] at h ⊢
            obtain ⟨a, n, c, h1, h2⟩ := h
            exact ⟨_, h2, fun _ _ hk => ⟨a, n, c, h1, hk⟩⟩
          · rename_i hu
            simp only [hu] at h ⊢
            obtain ⟨s, h1, h2⟩ := h
            exact ⟨_, h2, fun _ _ hk => ⟨s, h1, hk⟩⟩
          · cases hp
        · cases hp
      · split at hp
        · rename_i k x y hk hx
          simp only [hk, hx] at h ⊢
          obtain ⟨a, b, h1, h2, h3⟩ := h
          exact ⟨_, h3, fun _ _ hk => ⟨a, b, h1, h2, hk⟩⟩
        · cases hp
      · split at hp
        · rename_i k x y hk hx
          simp only [hk, hx] at h ⊢
          obtain ⟨a, b, h1, h2, h3⟩ := h
          exact ⟨_, h3, fun _ _ hk => ⟨a, b, h1, h2, hk⟩⟩
        · cases hp
    | _ => simp [pureOp] at hp
  | _ => simp [pureOp] at hp
end
end Go.K
