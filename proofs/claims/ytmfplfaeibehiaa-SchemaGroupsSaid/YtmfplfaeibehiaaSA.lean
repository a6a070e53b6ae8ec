/- Maps whose keys are ints, in memory. No conditions. -/
import Derived.Test.YtmfplfaeibehiaaKF
import Derived.MapKept
namespace Go.K
open Go

def MapI (w : World) (b : Nat) (l : List (Int × Value)) : Prop := ∃ es clock, w.heap[b]? = some (.map es clock) ∧ es.toList.map (fun e => (e.key, e.val)) = l.map fun p => (Value.int .i64 p.1, p.2)
theorem MapI.lt {w : World} {b : Nat} {l : List (Int × Value)} (h : MapI w b l) : b < w.heap.size := by
  obtain ⟨es, c, hb, _⟩ := h
  exact (Array.getElem?_eq_some_iff.1 hb).1
theorem MapI.mod {M : Nat → Prop} {w w' : World} {b : Nat} {l : List (Int × Value)} (h : MapI w b l) (hm : Mod M w w') (hb : ¬ M b) : MapI w' b l := by
  have hl := h.lt
  obtain ⟨es, c, h1, h2⟩ := h
  exact ⟨es, c, (hm.same b hl hb).trans h1, h2⟩
theorem MapI.make (w : World) : MapI (w.alloc (.map #[] 0)) w.heap.size [] := ⟨#[], 0, (MapKept.heap_alloc w _).1, rfl⟩

theorem findNow_int (k : Int) : ∀ (es : List MapEntry) (l : List (Int × Value)) (i : Nat), (es.map fun e => (e.key, e.val)) = (l.map fun p => (Value.int .i64 p.1, p.2)) →
    ∃ r, Instr.findNow (.int .i64) (.int .i64 k) es i = some r ∧ ((r = none ∧ l.find? (fun p => decide (p.1 = k)) = none) ∨ ∃ j p, r = some (j, p.2) ∧ l.find? (fun p => decide (p.1 = k)) = some p) := by
  intro es
  induction es with
  | nil =>
    intro l i h
    cases l with
    | nil => exact ⟨none, rfl, .inl ⟨rfl, rfl⟩⟩
    | cons p l => simp at h
  | cons e es ih =>
    intro l i h
    cases l with
    | nil => simp at h
    | cons p l =>
      simp only [List.map_cons, List.cons.injEq, Prod.mk.injEq] at h
      obtain ⟨⟨h1, h2⟩, h3⟩ := h
      obtain ⟨r, hr, hiff⟩ := MapKept.sameNow_of_keys (d := .int .i64) (a := .int .i64 k) (b := e.key) rfl (by rw [h1]; rfl)
      rw [h1] at hiff
      cases r with
      | true =>
        have hk : k = p.1 := by have := hiff.1 rfl; simpa using this
        exact ⟨some (i, e.val), by simp [Instr.findNow, hr], .inr ⟨i, p, by rw [h2], by simp [hk]⟩⟩
      | false =>
        have hk : ¬ p.1 = k := fun e => by have := hiff.2 (by rw [e]); cases this
        obtain ⟨r, h4, h5⟩ := ih l (i + 1) h3
        refine ⟨r, by simp [Instr.findNow, hr, h4], ?_⟩
        simpa [List.find?_cons, hk] using h5
theorem isKeyI (k : Int) : MapKept.IsKey (.int .i64) (.int .i64 k) := rfl
theorem map_lookup {P : Program} {t kt et : TypeId} {z : Value} {w : World} {b : Nat} {l : List (Int × Value)} (ht : P.underlying t = some (.map kt et)) (hk : P.underlying kt = some (.int .i64)) (hz : (zeroValue et).run P w = .ok z w) (h : MapI w b l) (k : Int) :
    (Instr.lookup t (.map (some b)) (.int .i64 k) true).run P w = .ok (.tuple #[((l.find? fun p => decide (p.1 = k)).map (·.2)).getD z, .bool (l.find? fun p => decide (p.1 = k)).isSome]) w := by
  obtain ⟨es, clock, hb, he⟩ := h
  obtain ⟨r, h1, h2⟩ := findNow_int k es.toList l 0 he
  have hf := MapKept.run_findKey (w := w) hk h1
  have hc := fun em => MapKept.run_checkKey (w := w) hk (isKeyI k) em 9999
  rcases h2 with ⟨rfl, h2⟩ | ⟨j, p, rfl, h2⟩
  · simp [Instr.lookup, run_underlying ht, MapKept.run_getObj_map hb, hc, hf, hz, Result.andThen, h2]
  · simp [Instr.lookup, run_underlying ht, MapKept.run_getObj_map hb, hc, hf, Result.andThen, h2]
theorem map_lookup_nil {P : Program} {t kt et : TypeId} {z : Value} {w : World} (ht : P.underlying t = some (.map kt et)) (hk : P.underlying kt = some (.int .i64)) (hz : (zeroValue et).run P w = .ok z w) (k : Int) :
    (Instr.lookup t (.map none) (.int .i64 k) true).run P w = .ok (.tuple #[z, .bool false]) w := by
  have hc := fun em => MapKept.run_checkKey (w := w) hk (isKeyI k) em 9999
  have hf := MapKept.run_findKey (w := w) (k := .int .i64 k) (l := []) hk rfl
  simp [Instr.lookup, run_underlying ht, hc, hf, hz, Result.andThen]
theorem map_update {P : Program} {t kt et : TypeId} {w : World} {b : Nat} {l : List (Int × Value)} (ht : P.underlying t = some (.map kt et)) (hk : P.underlying kt = some (.int .i64)) (h : MapI w b l) (k : Int) (v : Value) (hn : l.find? (fun p => decide (p.1 = k)) = none) :
    ∃ w', (Instr.mapUpdate t (.map (some b)) (.int .i64 k) v).run P w = .ok () w' ∧ MapI w' b (l ++ [(k, v)]) ∧ Mod (fun x => x = b) w w' := by
  obtain ⟨es, clock, hb, he⟩ := h
  obtain ⟨r, h1, h2⟩ := findNow_int k es.toList l 0 he
  have hf := MapKept.run_findKey (w := w) hk h1
  have hc := fun em => MapKept.run_checkKey (w := w) hk (isKeyI k) em 9999
  rcases h2 with ⟨rfl, h2⟩ | ⟨j, p, rfl, h2⟩
  · refine ⟨{ w with heap := w.heap.setIfInBounds b (.map (es.push ⟨.int .i64 k, v, clock⟩) (clock + 1)) }, by simp [Instr.mapUpdate, run_underlying ht, MapKept.run_getObj_map hb, hc, hf, MapKept.run_setObj_map _ hb, Result.andThen], ⟨_, _, (MapKept.heap_set hb).1, ?_⟩, ⟨rfl, rfl, rfl, by simp, fun x _ hx => (MapKept.heap_set hb).2 x hx⟩⟩
    simp [he]
  · rw [h2] at hn; cases hn
end Go.K
