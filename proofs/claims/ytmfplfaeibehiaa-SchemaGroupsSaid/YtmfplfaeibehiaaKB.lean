/- That our predicates on one operation are what the model does at it. No conditions. -/
import Derived.Test.YtmfplfaeibehiaaKA
import Derived.Laws.Strings
namespace Go.K
open Go
section
variable {P : Program} {ok : Nat → Bool} {K : Cont} {w : World}

/-- a run of a statement without a value -/
def runU (P : Program) (s : Sem Unit) (K : World → Prop) (w : World) : Prop := ∃ w', s.run P w = .ok () w' ∧ K w'

theorem st1_run {t : TypeId} {x v : Value} {K : World → Prop} (ha : aggOf P t = some (false, 1)) (h : st1K x v K w) : runU P (Instr.storeAt t x v) K w := by
  obtain ⟨a, u, rfl, h1, hc, hu, hf, hK⟩ := h
  refine ⟨_, ?_, hK⟩
  have hc' : v.cells.toList = [v] := by rw [hc]
  have hs : v.cells.size = 1 := by rw [hc]; rfl
  simp only [Instr.storeAt, Instr.sureAddr, storeVar, Sem.run_bind, Sem.run_pure, Result.andThen_ok, (run_isAgg ha w).2, hs]
  simp only [ne_eq, not_true_eq_false, if_false, Sem.run_bind, Sem.run_pure, hc', storeCells, run_store P w _ v .plain h1, Addr.add_zero', hu, hf]
  simp
theorem stn_run {t : TypeId} {k : Nat} {x v : Value} {K : World → Prop} (ha : aggOf P t = some (true, k)) (h : stnK k x v K w) : runU P (Instr.storeAt t x v) K w := by
  obtain ⟨a, vs, rfl, rfl, hl, h1, hc, hK⟩ := h
  refine ⟨_, ?_, hK⟩
  simp only [Instr.storeAt, Instr.sureAddr, storeVar, Sem.run_bind, Sem.run_pure, Result.andThen_ok, (run_isAgg ha w).2, Value.cells, List.size_toArray, hl]
  simp only [ne_eq, not_true_eq_false, if_false]
  exact setL_run a vs 0 w h1 (fun j _ hj => hc j (by omega))
theorem new_run {t : TypeId} {cs : List Value} {v : Value} (hv : v.cells = cs.toArray) (h : newK t cs K w) :
    runK P (do pure (.pointer (some (← newVar t v)))) K w := by
  refine ⟨_, _, ?_, h⟩
  simp [newVar, newRow, hv]
theorem alloc_run {t : TypeId} {z : Value} (hz : zeroOf P t = some z) (h : newK t z.cells.toList K w) : runK P (Instr.alloc t true (.tuple #[])) K w := by
  obtain ⟨v, w', h1, h2⟩ := new_run (P := P) (v := z) (by simp) h
  refine ⟨v, w', ?_, h2⟩
  simp only [Instr.alloc, Sem.run_bind, run_zeroValue hz, Result.andThen_ok]
  simpa using h1
theorem box1_run {t : TypeId} {x : Value} (h : box1K t x K w) : runK P (Instr.box t x) K w := new_run (v := x) (by rw [h.1]) h.2
theorem boxn_run {t : TypeId} {x : Value} (h : boxnK t x K w) : runK P (Instr.box t x) K w := by
  obtain ⟨vs, rfl, h⟩ := h
  exact new_run (v := .agg vs.toArray) rfl h
theorem fa_run {s : TypeId} {x : Value} {f : Nat} {fs : Array Field} {fd : Field} {i : TypeInfo} (hu : P.underlying s = some (.struct fs)) (hf : fs.toList[f]? = some fd)
    (hi : P.info? fd.type = some i) (hz : Nat.beq i.size 0 = false) (h : faK fd.offset x fun v => K v w) : runK P (Instr.fieldAt s x f) K w := by
  obtain ⟨a, rfl, hK⟩ := h
  refine ⟨_, w, ?_, hK⟩
  have hf' : fs[f]? = some fd := by rw [← Array.getElem?_toList]; exact hf
  have hz' : i.size ≠ 0 := by intro e; rw [e] at hz; exact absurd hz (by decide)
  simp [Instr.fieldAt, run_underlying hu, hf', Instr.sureAddr, fieldPlace, run_sizeOf hi, hz']
theorem ix_run {t e : TypeId} {x i : Value} {f : TypeInfo} (hu : P.underlying t = some (.slice e)) (hi : P.info? e = some f)
    (h : ixK f.size x i fun v => K v w) : runK P (Instr.indexAt t x i) K w := by
  obtain ⟨a, n, c, k, j, rfl, rfl, h0, h1, hK⟩ := h
  refine ⟨_, w, ?_, hK⟩
  simp [Instr.indexAt, asIntOf, run_underlying hu, h0, h1, run_sizeOf hi]
theorem places_run : ∀ (fs : List Field) (l : List (Nat × Nat)), placesOf P fs = some l → ∀ w : World,
    (fs.mapM (fun f => Prod.mk f.offset <$> sizeOf f.type) : Sem (List (Nat × Nat))).run P w = .ok l w := by
  intro fs
  induction fs with
  | nil => intro l h w; simp only [placesOf, Option.some.injEq] at h; subst h; simp
  | cons f r ih =>
    intro l h w
    simp only [placesOf] at h
    cases hi : P.info? f.type with
    | none => simp [hi] at h
    | some i =>
      cases hr : placesOf P r with
      | none => simp [hi, hr] at h
      | some l' =>
        simp only [hi, hr, Option.some.injEq] at h; subst h
        simp [List.mapM_cons, run_sizeOf hi, ih l' hr]
theorem build_run {t : TypeId} {fs : Array Field} {z : Value} {l : List (Nat × Nat)} {parts : List (Nat × Value)} (hu : P.underlying t = some (.struct fs)) (hz : zeroOf P t = some z)
    (hl : placesOf P fs.toList = some l) (h : buildK l z.cells.toList parts fun v => K v w) : runK P (Instr.build t parts.toArray) K w := by
  obtain ⟨cs, hf, hK⟩ := h
  refine ⟨_, w, ?_, hK⟩
  have hm : (fs.mapM (fun f => do pure (f.offset, ← sizeOf f.type)) : Sem (Array (Nat × Nat))).run P w = .ok l.toArray w := by
    rw [Array.mapM_eq_mapM_toList]
    have := places_run fs.toList l hl w
    simp only [Sem.run_map, bind_pure_comp, this]
    rfl
  simp only [Instr.build, Sem.run_bind, run_zeroValue hz, Result.andThen_ok, run_underlying hu, hm]
  simp only [Array.toArray_toList] at hf
  have e1 : (fun i : Nat => l.toArray[i]?) = fun i => l[i]? := by funext i; simp
  rw [e1, hf]
  rfl
theorem row_run {t e : TypeId} {len : Nat} {i : TypeInfo} {z : Value} {parts : List (Nat × Value)} (hu : P.underlying t = some (.slice e)) (hi : P.info? e = some i) (hz : i.zero = some z)
    (hb : (Nat.blt 0 (len * i.size) && Nat.ble (len * i.size) 1000000) = true) (h : rowK e i.size len z.cells.toList parts K w) : runK P (Instr.buildSlice t len parts.toArray) K w := by
  obtain ⟨cs, hf, hK⟩ := h
  refine ⟨_, _, ?_, hK⟩
  simp only [Bool.and_eq_true] at hb
  have h1 : ¬ len * i.size > 2 ^ 24 := by have := Nat.le_of_ble_eq_true hb.2; omega
  have h2 : ¬ len * i.size = 0 := by have := Nat.le_of_ble_eq_true hb.1; omega
  simp only [Instr.buildSlice, Sem.run_bind, run_underlying hu, run_sizeOf hi, Result.andThen_ok, h1, h2, if_false, Sem.run_pure]
  simp only [Array.toArray_toList] at hf
  have hz' : zeroOf P e = some z := by simp [zeroOf, hi, hz]
  simp only [run_zeroValue hz', Result.andThen_ok, hf]
  simp [newRow]
theorem row0_run {t e : TypeId} {len : Nat} {i : TypeInfo} {parts : List (Nat × Value)} (hu : P.underlying t = some (.slice e)) (hi : P.info? e = some i)
    (hb : Nat.beq (len * i.size) 0 = true) (h : rowK e i.size len [] parts K w) : runK P (Instr.buildSlice t len parts.toArray) K w := by
  obtain ⟨cs, hf, hK⟩ := h
  refine ⟨_, _, ?_, hK⟩
  have h2 : len * i.size = 0 := Nat.eq_of_beq_eq_true hb
  have h1 : ¬ len * i.size > 2 ^ 24 := by omega
  simp only [h2] at hf
  simp only [Instr.buildSlice, Sem.run_bind, run_underlying hu, run_sizeOf hi, Result.andThen_ok, h1, if_false]
  simp only [h2, if_true, Sem.run_bind, Sem.run_pure, Result.andThen_ok, hf]
  simp [newRow]
theorem len_run {ats : Array TypeId} {ty t e : TypeId} {x : Value} (ht : ats.toList = [t]) (hu : P.underlying t = some (.slice e)) (h : lenK x fun v => K v w) : runK P (Builtin.len_ ats ty #[x]) K w := by
  obtain ⟨a, n, c, rfl, hK⟩ := h
  refine ⟨_, w, ?_, hK⟩
  have ht' : ats = #[t] := by rw [← Array.toArray_toList (xs := ats), ht]
  subst ht'
  simp [Builtin.len_, run_underlying hu, goInt]
theorem slen_run {ats : Array TypeId} {ty t : TypeId} {x : Value} (ht : ats.toList = [t]) (hu : P.underlying t = some .string) (h : slenK x fun v => K v w) : runK P (Builtin.len_ ats ty #[x]) K w := by
  obtain ⟨s, rfl, hK⟩ := h
  refine ⟨_, w, ?_, hK⟩
  have ht' : ats = #[t] := by rw [← Array.toArray_toList (xs := ats), ht]
  subst ht'
  simp [Builtin.len_, run_underlying hu, goInt]
theorem ext_run {x : Value} {i : Nat} (h : extK i x fun v => K v w) : runK P (Instr.extract x i) K w := by
  obtain ⟨vs, v, rfl, hv, hK⟩ := h
  exact ⟨v, w, by simp [Instr.extract, hv], hK⟩
theorem toList_beq (a b : ByteArray) : (a.toList == b.toList) = decide (a = b) := by
  by_cases h : a = b
  · subst h; simp
  · have : ¬ a.toList = b.toList := by
      intro e; apply h
      rw [ByteArray.toList_eq, ByteArray.toList_eq] at e
      cases a; cases b; simp at e; simp [e]
    simp [h, this]
theorem run_equalIn_snil (d : Nat) {t e : TypeId} (hu : P.underlying t = some (.slice e)) (a : Option Addr) (n c n' c' : Nat) (w : World) :
    (Op.equalIn (d + 1) t (.slice a n c) (.slice none n' c')).run P w = .ok a.isNone w := by
  cases a <;> simp [Op.equalIn, run_underlying hu]
theorem run_equalIn_pnil (d : Nat) {t e : TypeId} (hu : P.underlying t = some (.pointer e)) (a : Option Addr) (w : World) :
    (Op.equalIn (d + 1) t (.pointer a) (.pointer none)).run P w = .ok a.isNone w := by
  cases a <;> simp [Op.equalIn, run_underlying hu]
theorem run_equal_snil {t e : TypeId} (hu : P.underlying t = some (.slice e)) (a : Option Addr) (n c n' c' : Nat) (w : World) :
    (Op.equal t (.slice a n c) (.slice none n' c')).run P w = .ok a.isNone w := run_equalIn_snil 9999 hu a n c n' c' w
theorem run_equal_pnil {t e : TypeId} (hu : P.underlying t = some (.pointer e)) (a : Option Addr) (w : World) :
    (Op.equal t (.pointer a) (.pointer none)).run P w = .ok a.isNone w := run_equalIn_pnil 9999 hu a w
theorem bin_run {op : BinOp} {t : TypeId} {xo yo : Operand} {x y : Value} {F : Prop} (hy : ∀ v, yo = .const v → y = v) (h : binD P op t yo x y (fun v => K v w) F)
    (hF : F → runK P (do eqGuard op t xo yo x y; binOp op t x y) K w) : runK P (do eqGuard op t xo yo x y; binOp op t x y) K w := by
  unfold binD at h
  cases hu : P.underlying t with
  | none => simp only [hu] at h; exact hF h
  | some d =>
    simp only [hu] at h
    cases d with
    | int k =>
      cases op <;> simp only at h <;> first
        | exact hF h
        | (obtain ⟨a, b, rfl, rfl, hK⟩ := h
           refine ⟨_, w, ?_, hK⟩
           simp [eqGuard_at_int, binOp, Op.intArith, Op.intCmp]
           done)
        | (obtain ⟨a, b, rfl, rfl, hK⟩ := h
           refine ⟨_, w, ?_, hK⟩
           simp [eqGuard_at_int, binOp, Op.intCmp]
           first | done | (by_cases hab : a = b <;> simp [hab]))
    | bool =>
      cases op <;> simp only at h <;> first
        | exact hF h
        | (obtain ⟨a, b, rfl, rfl, hK⟩ := h
           refine ⟨_, w, ?_, hK⟩
           simp [eqGuard_at_bool, run_eql_bool w t a b hu, run_neq_bool w t a b hu])
    | string =>
      cases op <;> simp only at h <;> first
        | exact hF h
        | (obtain ⟨a, b, rfl, rfl, hK⟩ := h
           refine ⟨_, w, ?_, hK⟩
           simp [eqGuard_at_string, binOp, Op.stringOp, toList_beq])
    | slice e =>
      cases hn : isNilS yo with
      | false => simp only [hn, cond_false] at h; exact hF h
      | true =>
        simp only [hn, cond_true] at h
        have hy2 : ∃ n c, y = .slice none n c := by
          unfold isNilS at hn; split at hn
          · exact ⟨_, _, hy _ rfl⟩
          · cases hn
        cases op <;> simp only at h <;> first
          | exact hF h
          | (obtain ⟨a, hK⟩ := h
             first
               | (obtain ⟨n, c, rfl, hK⟩ := hK
                  refine ⟨_, w, ?_, hK⟩
                  obtain ⟨n', c', rfl⟩ := hy2
                  simp [eqGuard_at_slice, binOp, run_equal_snil hu]
                  done)
               | (obtain ⟨rfl, hK⟩ := hK
                  refine ⟨_, w, ?_, hK⟩
                  subst hy2
                  simp [eqGuard_at_slice, binOp, run_equal_snil hu]
                  done))
    | pointer e =>
      cases hn : isNilP yo with
      | false => simp only [hn, cond_false] at h; exact hF h
      | true =>
        simp only [hn, cond_true] at h
        have hy2 : y = .pointer none := by
          unfold isNilP at hn; split at hn
          · exact hy _ rfl
          · cases hn
        cases op <;> simp only at h <;> first
          | exact hF h
          | (obtain ⟨a, hK⟩ := h
             first
               | (obtain ⟨n, c, rfl, hK⟩ := hK
                  refine ⟨_, w, ?_, hK⟩
                  obtain ⟨n', c', rfl⟩ := hy2
                  simp [eqGuard_at_pointer, binOp, run_equal_pnil hu]
                  done)
               | (obtain ⟨rfl, hK⟩ := hK
                  refine ⟨_, w, ?_, hK⟩
                  subst hy2
                  simp [eqGuard_at_pointer, binOp, run_equal_pnil hu]
                  done))
    | _ => exact hF h
end
end Go.K
