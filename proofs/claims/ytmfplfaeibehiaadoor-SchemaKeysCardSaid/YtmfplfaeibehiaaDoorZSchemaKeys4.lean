/- SchemaKeys: for every input the law returns true, and each argument reads behind the call as it read before; the two tables tied. No conditions. -/
import Derived.Test.YtmfplfaeibehiaaDoorZSchemaKeys3
import Derived.Laws.BytesArg
import Derived.Laws.IdiomStrings
import Derived.MapKept
import Derived.Shelf.GgSortFunc.InsertionK
import Derived.Shelf.SlSortCmp.WholeK
import Derived.Shelf.SlSortCmp.NoneTotal
import Derived.ProofKit
import Derived.Lib.SmallJoins
import Derived.Deep.Slices
import Derived.Test.YtmfplfaeibehiaaDoorRows
import Derived.Lib.LaidU8
import Derived.Lib.LaidIn
import Derived.LaidHandle
import Derived.LaidMore
import Derived.MakeChecks
import Derived.Test.YtmfplfaeibehiaaDoorTie
import Derived.Test.YtmfplfaeibehiaaDoorCards
import Derived.WalkKit
import Derived.OpenShut
import Derived.ShutString
import Derived.ChangeOld
import Derived.ChangeVars
import Derived.JoinedOf
import Derived.SevenTiedAt
namespace Go.K
open Go
/-- where an iterator over a string stands -/
def posAt (w : World) (r : Nat) : Nat := match w.heap[r]? with | some (.stringIter _ p) => p | _ => 0
theorem run_next_str {P : Program} {w : World} {r : Nat} {s : ByteArray} {pos : Nat} {ty : TypeId} (h : w.heap[r]? = some (.stringIter s pos)) (hp : pos < s.size) :
    (Instr.next (.pointer (some ⟨r, 0, none⟩)) true ty).run P w = .ok (.tuple #[.bool true, .int .i64 pos, .int .i32 (Utf8.decode s pos).1]) { w with heap := w.heap.setIfInBounds r (.stringIter s (pos + (Utf8.decode s pos).2)) } := by
  simp only [Instr.next, getObj, setObj, Sem.run_bind, Sem.run, h, Result.andThen, hp, if_true]
  simp [goInt]
theorem run_next_over {P : Program} {w : World} {r : Nat} {s : ByteArray} {pos : Nat} {ty : TypeId} (h : w.heap[r]? = some (.stringIter s pos)) (hp : ¬ pos < s.size) :
    (Instr.next (.pointer (some ⟨r, 0, none⟩)) true ty).run P w = .ok (.tuple #[.bool false]) w := by
  simp only [Instr.next, getObj, Sem.run_bind, Sem.run, h, Result.andThen, hp, if_false]
  rfl
theorem Mod.setObj (w : World) (r : Nat) (o o' : Obj) (h : w.heap[r]? = some o) : Mod (fun b => b = r) w { w with heap := w.heap.setIfInBounds r o' } :=
  ⟨rfl, rfl, rfl, by simp, fun x _ hx => (MapKept.heap_set h).2 x hx⟩
end Go.K
namespace Go.Proofs.YtmfplfaeibehiaaDoor
open Go Go.K

theorem run_str {S : Nat → Prop} {v : Value} {b : List Int} {w : World} (h : RBytes S w v b) (hb : ByteL b) : (convert 54 9 v).run Tryd.prog w = .ok (.string (strOf b)) w := by
  obtain ⟨a, c, rfl, hm⟩ := h.shape
  cases a with
  | none =>
    have : b = [] := by
      cases b with
      | nil => rfl
      | cons x b => obtain ⟨p, r, e, _⟩ := h.get (i := 0) (by simp); cases e
    subst this
    exact run_convert_bytes_nil w 54 5 (by kernel_rfl) (by kernel_rfl) _ _ _ (by kernel_rfl)
  | some p =>
    have hl : (b.map fun x => UInt8.ofNat x.toNat).length = b.length := by simp
    have := run_convert_bytes_back (P := Tryd.prog) w 54 9 5 p c (b.map fun x => UInt8.ofNat x.toNat) (by kernel_rfl) (by kernel_rfl) (by kernel_rfl) (fun j hj => by
      rw [hl] at hj
      obtain ⟨_, r, e, _, hr, hc, rfl⟩ := h.get hj
      cases e
      have := hc 0 _ rfl
      rw [Nat.mul_one, Nat.add_zero] at this
      rw [this]
      have hbj := hb b[j] (List.getElem_mem hj)
      simp only [List.getElem_map, UInt8.toNat_ofNat']
      congr 2
      omega)
    rw [hl] at this
    exact this
/-- the program's decoding of a rune is the document's -/
theorem decode_next {s : ByteArray} {pos : Nat} {r : Int} {n : Nat} (hp : pos < s.size) (h : nextB ((bytesL s).drop pos) = (r, n)) (hn : n ≠ 0) : ((Utf8.decode s pos).1 : Int) = r ∧ (Utf8.decode s pos).2 = n := by
  have hat : ∀ k c, ((bytesL s).drop pos)[k]? = some c → pos + k < s.size ∧ (((s.get! (pos + k)).toNat : Nat) : Int) = c := by
    intro k c hc
    rw [List.getElem?_drop] at hc
    have hlt : pos + k < s.size := by
      have := (List.getElem?_eq_some_iff.1 hc).1
      rwa [bytesL_len] at this
    refine ⟨hlt, ?_⟩
    have hg : s.get! (pos + k) = s[pos + k]'hlt := by
      simp [ByteArray.get!, getElem!_pos, hlt]
      rfl
    rw [hg]
    simp only [bytesL, List.getElem?_map] at hc
    have hlt' : pos + k < s.data.toList.length := by simpa using hlt
    rw [List.getElem?_eq_getElem hlt'] at hc
    have := Option.some.inj hc
    exact this
  have hB : ByteL ((bytesL s).drop pos) := fun x hx => by
    have := List.mem_of_mem_drop hx
    simp only [bytesL, List.mem_map] at this
    obtain ⟨b, _, rfl⟩ := this
    have := b.toNat_lt
    omega
  have hne : ((bytesL s).drop pos).length ≠ 0 := by rw [List.length_drop, bytesL_len]; omega
  generalize (bytesL s).drop pos = l at h hat hB hne
  obtain ⟨b0, t, rfl⟩ : ∃ x t, l = x :: t := by cases l with | nil => simp at hne | cons x t => exact ⟨x, t, rfl⟩
  obtain ⟨_, e0⟩ := hat 0 b0 rfl
  have h0 := hB b0 List.mem_cons_self
  generalize hm0 : (s.get! (pos + 0)).toNat = m0 at e0
  by_cases ha : b0 < 128
  · rw [next_ascii h0.1 ha] at h
    cases h
    simp only [Utf8.decode, hm0]
    rw [if_pos (by omega)]
    exact ⟨e0, rfl⟩
  rcases hdSize_v b0 with hz | hz | hz | hz
  · rw [next_bad hB (by omega) hz] at h
    cases h; exact absurd rfl hn
  · cases t with
    | nil => rw [next_short h0.2 (by rw [hz]; simp)] at h; cases h; exact absurd rfl hn
    | cons c1 t =>
      have h1 := hB c1 (by simp)
      obtain ⟨l1, e1⟩ := hat 1 c1 rfl
      generalize hm1 : (s.get! (pos + 1)).toNat = m1 at e1
      rw [next_2 hz h1.1 h1.2] at h
      split at h
      · rename_i hc
        cases h
        have hb0 : 194 ≤ b0 ∧ b0 < 224 := by
          unfold hdSize at hz
          (repeat' split at hz) <;> omega
        have hlo : 128 ≤ hdLo b0 := by
          unfold hdLo
          split
          · decide
          · split <;> decide
        have hhi : hdHi b0 ≤ 191 := by
          unfold hdHi
          split
          · decide
          · split <;> decide
        have q1 : (m0 / 32 == 6 && (decide (pos + 1 < s.size) && m1 / 64 == 2)) = true := by
          simp only [Bool.and_eq_true, beq_iff_eq, decide_eq_true_eq]
          exact ⟨by omega, l1, by omega⟩
        simp only [Utf8.decode, hm0, hm1]
        rw [if_neg (by omega), if_pos q1, if_pos (by omega)]
        exact ⟨by omega, rfl⟩
      · cases h; exact absurd rfl hn
  · rcases t with _ | ⟨c1, _ | ⟨c2, t⟩⟩
    · rw [next_short h0.2 (by rw [hz]; simp)] at h; cases h; exact absurd rfl hn
    · rw [next_short h0.2 (by rw [hz]; simp)] at h; cases h; exact absurd rfl hn
    · have h1 := hB c1 (by simp)
      have h2 := hB c2 (by simp)
      obtain ⟨l1, e1⟩ := hat 1 c1 rfl
      obtain ⟨l2, e2⟩ := hat 2 c2 rfl
      generalize hm1 : (s.get! (pos + 1)).toNat = m1 at e1
      generalize hm2 : (s.get! (pos + 2)).toNat = m2 at e2
      rw [next_3 hz h1.1 h1.2 h2.1 h2.2] at h
      split at h
      · rename_i hc
        cases h
        have hb0 : 224 ≤ b0 ∧ b0 < 240 := by
          unfold hdSize at hz
          (repeat' split at hz) <;> omega
        have hlo : (if b0 = 224 then (160 : Int) else 128) ≤ c1 := by
          refine Int.le_trans ?_ hc.1.1
          unfold hdLo
          split
          · decide
          · split <;> decide
        have hhi : c1 ≤ (if b0 = 237 then (159 : Int) else 191) := by
          refine Int.le_trans hc.1.2 ?_
          unfold hdHi
          split
          · decide
          · split <;> decide
        have hlo2 : 128 ≤ c1 := by split at hlo <;> omega
        have hhi2 : c1 ≤ 191 := by split at hhi <;> omega
        have q1 : ¬ (m0 / 32 == 6 && (decide (pos + 1 < s.size) && m1 / 64 == 2)) = true := by
          simp only [Bool.and_eq_true, beq_iff_eq, decide_eq_true_eq]
          rintro ⟨x, _⟩; omega
        have q2 : (m0 / 16 == 14 && (decide (pos + 1 < s.size) && m1 / 64 == 2) && (decide (pos + 2 < s.size) && m2 / 64 == 2)) = true := by
          simp only [Bool.and_eq_true, beq_iff_eq, decide_eq_true_eq]
          exact ⟨⟨by omega, l1, by omega⟩, l2, by omega⟩
        have q3 : (decide (m0 % 16 * 4096 + m1 % 64 * 64 + m2 % 64 ≥ 2048) && Utf8.valid ((m0 % 16 * 4096 + m1 % 64 * 64 + m2 % 64 : Nat) : Int)) = true := by
          simp only [Utf8.valid, Bool.and_eq_true, Bool.or_eq_true, decide_eq_true_eq]
          refine ⟨by split at hlo <;> omega, ?_⟩
          split at hhi
          · left; omega
          · by_cases hb : b0 < 237
            · left; omega
            · right; omega
        simp only [Utf8.decode, hm0, hm1, hm2]
        rw [if_neg (by omega), if_neg q1, if_pos q2, if_pos q3]
        exact ⟨by omega, rfl⟩
      · cases h; exact absurd rfl hn
  · rcases t with _ | ⟨c1, _ | ⟨c2, _ | ⟨c3, t⟩⟩⟩
    · rw [next_short h0.2 (by rw [hz]; simp)] at h; cases h; exact absurd rfl hn
    · rw [next_short h0.2 (by rw [hz]; simp)] at h; cases h; exact absurd rfl hn
    · rw [next_short h0.2 (by rw [hz]; simp)] at h; cases h; exact absurd rfl hn
    · have h1 := hB c1 (by simp)
      have h2 := hB c2 (by simp)
      have h3 := hB c3 (by simp)
      obtain ⟨l1, e1⟩ := hat 1 c1 rfl
      obtain ⟨l2, e2⟩ := hat 2 c2 rfl
      obtain ⟨l3, e3⟩ := hat 3 c3 rfl
      generalize hm1 : (s.get! (pos + 1)).toNat = m1 at e1
      generalize hm2 : (s.get! (pos + 2)).toNat = m2 at e2
      generalize hm3 : (s.get! (pos + 3)).toNat = m3 at e3
      rw [next_4 hz h1.1 h1.2 h2.1 h2.2 h3.1 h3.2] at h
      split at h
      · rename_i hc
        cases h
        have hb0 : 240 ≤ b0 ∧ b0 < 245 := by
          unfold hdSize at hz
          (repeat' split at hz) <;> omega
        have hlo : (if b0 = 240 then (144 : Int) else 128) ≤ c1 := by
          refine Int.le_trans ?_ hc.1.1
          unfold hdLo
          rw [if_neg (show ¬ b0 = 224 by omega)]
          exact Int.le_refl _
        have hhi : c1 ≤ (if b0 = 244 then (143 : Int) else 191) := by
          refine Int.le_trans hc.1.2 ?_
          unfold hdHi
          rw [if_neg (show ¬ b0 = 237 by omega)]
          exact Int.le_refl _
        have hlo2 : 128 ≤ c1 := by split at hlo <;> omega
        have hhi2 : c1 ≤ 191 := by split at hhi <;> omega
        have q1 : ¬ (m0 / 32 == 6 && (decide (pos + 1 < s.size) && m1 / 64 == 2)) = true := by
          simp only [Bool.and_eq_true, beq_iff_eq, decide_eq_true_eq]
          rintro ⟨x, _⟩; omega
        have q2 : ¬ (m0 / 16 == 14 && (decide (pos + 1 < s.size) && m1 / 64 == 2) && (decide (pos + 2 < s.size) && m2 / 64 == 2)) = true := by
          simp only [Bool.and_eq_true, beq_iff_eq, decide_eq_true_eq]
          rintro ⟨⟨x, _⟩, _⟩; omega
        have q3 : (m0 / 8 == 30 && (decide (pos + 1 < s.size) && m1 / 64 == 2) && (decide (pos + 2 < s.size) && m2 / 64 == 2) && (decide (pos + 3 < s.size) && m3 / 64 == 2)) = true := by
          simp only [Bool.and_eq_true, beq_iff_eq, decide_eq_true_eq]
          exact ⟨⟨⟨by omega, l1, by omega⟩, l2, by omega⟩, l3, by omega⟩
        have q4 : (decide (m0 % 8 * 262144 + m1 % 64 * 4096 + m2 % 64 * 64 + m3 % 64 ≥ 65536) && Utf8.valid ((m0 % 8 * 262144 + m1 % 64 * 4096 + m2 % 64 * 64 + m3 % 64 : Nat) : Int)) = true := by
          simp only [Utf8.valid, Bool.and_eq_true, Bool.or_eq_true, decide_eq_true_eq]
          refine ⟨by split at hlo <;> omega, ?_⟩
          right
          split at hhi <;> omega
        simp only [Utf8.decode, hm0, hm1, hm2, hm3]
        rw [if_neg (by omega), if_neg q1, if_neg q2, if_pos q3, if_pos q4]
        exact ⟨by omega, rfl⟩
      · cases h; exact absurd rfl hn
theorem elem_rune' : ElemOK Tryd.prog 116 21 1 4 := elem_rune
theorem runes_ok {S : Nat → Prop} {v : Value} {b : List Int} {w : World} (h : RBytes S w v b) (hb : ByteL b) (hT : Tabs w) (hl : b.length * 4 ≤ 140737488355328) :
    callK Tryd.prog 84 [v] (fun v' w' => Grow w w' ∧ match readB b with
      | some l => ∃ sl, v' = .tuple #[sl, .int .i64 0] ∧ OwnR w.heap.size 21 1 RRune w' sl l
      | none => v' = .tuple #[.slice none 0 0, .int .i64 3]) w := by
  apply S84_ok
  unfold S84
  refine callK_mono (valid_ok h hb hT) ?_
  rintro _ w1 ⟨rfl, g1⟩
  rw [notK_i]
  cases hr : readB b with
  | none => exact condK_t ⟨g1, rfl⟩
  | some rs =>
    refine condK_f (runK_i (run_str (h.grow g1 (by decide) fun _ _ h => h) hb) ?_)
    have hs : bytesL (strOf b) = b := bytesL_strOf hb
    have hsz : (strOf b).size = b.length := by rw [← bytesL_len, hs]
    generalize strOf b = s at hs hsz
    refine runK_i (run_range_string w1 9 s (by kernel_rfl)) ?_
    have hit := World.iter_heap w1 s 0
    have g2 : Grow w1 (w1.iter s 0) := Mod.alloc _ _ _
    have hr1 := g1.size
    generalize w1.iter s 0 = w2 at hit g2
    generalize hrb : w1.heap.size = r at hit
    have hrw : w.heap.size ≤ r := by omega
    refine LoopK_i (fun vs W => ∃ (pos : Nat) (lv : Value) (acc : List Int), pos ≤ b.length ∧ acc.length ≤ pos ∧ vs = [lv] ∧ W.heap[r]? = some (.stringIter s pos) ∧ OwnR w.heap.size 21 1 RRune W lv acc ∧ lv.ownBlock ≠ some r ∧ Grow w W ∧ readB b = (readB (b.drop pos)).map (acc ++ ·)) (fun _ W => b.length - posAt W r)
      ⟨0, _, [], Nat.zero_le _, Nat.le_refl _, rfl, hit, OwnR.nil, (fun h => nomatch h), g1.trans g2, by simp⟩ ?_
    rintro vs W ⟨pos, lv, acc, hpos, hacc, rfl, hi, ho, hrn, gW, hrd⟩ _
    have hposAt : posAt W r = pos := by simp [posAt, hi]
    by_cases hlt : pos < s.size
    · have hlt' : pos < b.length := by omega
      have hne : b.drop pos ≠ [] := by intro e; have := congrArg List.length e; simp at this; omega
      have hnl := nextB_len (b.drop pos)
      rw [List.length_drop] at hnl
      rw [readB_cons hne] at hrd
      have hnx : ∃ q n, nextB (b.drop pos) = (q, n) := ⟨_, _, rfl⟩
      obtain ⟨q, n, hq⟩ := hnx
      rw [hq] at hrd hnl
      simp only at hrd hnl
      have hn : n ≠ 0 := by
        intro e
        rw [if_pos e, hr] at hrd
        cases hrd
      rw [if_neg hn] at hrd
      obtain ⟨d1, d2⟩ := decode_next (s := s) hlt (by rw [hs]; exact hq) hn
      refine runK_i (run_next_str hi hlt) ?_
      rw [d1, d2]
      refine extK_i (vs := [_, _, _]) (by rfl) (condK_t (extK_i (vs := [_, _, _]) (by rfl) ?_))
      have m3 := Mod.setObj W r _ (.stringIter s (pos + n)) hi
      have hi3 := (MapKept.heap_set (o' := .stringIter s (pos + n)) hi).1
      have hi3' : ({ W with heap := W.heap.setIfInBounds r (.stringIter s (pos + n)) } : World).heap[r]? = some (.stringIter s (pos + n)) := hi3
      generalize ({ W with heap := W.heap.setIfInBounds r (.stringIter s (pos + n)) } : World) = W3 at m3 hi3'
      have ho3 : OwnR w.heap.size 21 1 RRune W3 lv acc := OwnR.mod ho m3 (fun g hg e => hrn (e ▸ hg)) fun _ _ _ h => h
      have gW3 : Grow w W3 := gW.next m3 fun x hx e => by omega
      show rowK _ _ _ _ [(0, .int .i32 q)] _ _
      refine push_g elem_rune ho3 gW3.size (cs := [.int .i32 q]) (x := q) (by kernel_rfl) rfl rfl (fun _ _ _ => RRune.one) (fun _ _ _ _ _ _ h => h) (by omega) (by simp only [maxLen]; omega) fun v' w' h1 h2 h3 => ?_
      have hrlt : r < W3.heap.size := (Array.getElem?_eq_some_iff.1 hi3').1
      have hi4 : w'.heap[r]? = some (.stringIter s (pos + n)) := (h2.same r hrlt hrn).trans hi3'
      refine ⟨⟨pos + n, v', acc ++ [q], by omega, by simp; omega, rfl, hi4, h1, fun e => ?_, gW3.next h2 fun x hx e => ?_, ?_⟩, ?_⟩
      · rcases h3 r e with e | e
        · exact hrn e
        · omega
      · have := (OwnR.ownB ho3 x e).1
        omega
      · rw [hrd, List.drop_drop]
        cases readB (b.drop (pos + n)) <;> simp
      · rw [hposAt]
        have : posAt w' r = pos + n := by simp [posAt, hi4]
        rw [this]
        omega
    · refine runK_i (run_next_over hi hlt) ?_
      refine extK_i (vs := [_]) (by rfl) (condK_f ?_)
      have : pos = b.length := by omega
      subst this
      rw [List.drop_length, readB_nil, hr] at hrd
      simp only [Option.map_some, Option.some.injEq, List.append_nil] at hrd
      subst hrd
      exact ⟨gW, lv, rfl, ho⟩
end Go.Proofs.YtmfplfaeibehiaaDoor

namespace Go.Proofs.YtmfplfaeibehiaaDoor
open Go Go.K

theorem ext_bits {n : Nat} {w : World} : (callFunc 83 #[.float .f64 n]).run Tryd.prog w = .ok (.value (.int .u64 n)) w := by
  have h : Tryd.prog.funcs[83]? = some Tryd.f83 := Tryd.func83
  have e0 : (Tryd.f83.name == "runtime.NumGoroutine") = false := by kernel_rfl
  have e1 : Tryd.f83.body.isNone = true := by kernel_rfl
  have e2 : Extern.findNext Tryd.f83 = none := by kernel_rfl
  have e3 : Extern.find Tryd.f83 = some Extern.MathFloatBits.float64bits := by kernel_rfl
  simp only [callFunc, program, mark, Sem.run_bind, Sem.run, Result.andThen, h, e0, e1, e2, e3, Bool.false_eq_true, if_false, if_true]
  rfl
theorem ext_from {n : Int} {w : World} : (callFunc 63 #[.int .u64 n]).run Tryd.prog w = .ok (.value (.float .f64 n.toNat)) w := by
  have h : Tryd.prog.funcs[63]? = some Tryd.f63 := Tryd.func63
  have e0 : (Tryd.f63.name == "runtime.NumGoroutine") = false := by kernel_rfl
  have e1 : Tryd.f63.body.isNone = true := by kernel_rfl
  have e2 : Extern.findNext Tryd.f63 = none := by kernel_rfl
  have e3 : Extern.find Tryd.f63 = some Extern.MathFloatBits.float64frombits := by kernel_rfl
  simp only [callFunc, program, mark, Sem.run_bind, Sem.run, Result.andThen, h, e0, e1, e2, e3, Bool.false_eq_true, if_false, if_true]
  rfl
theorem isnan_ok {n : Nat} {w : World} : callK Tryd.prog 82 [.float .f64 n] (fun v w' => v = .bool (decide (NoNum (n : Int))) ∧ w' = w) w := by
  apply S82_ok
  unfold S82
  refine runK_i (v := .bool (decide (NoNum (n : Int)))) (w' := w) ?_ ⟨rfl, rfl⟩
  rw [← order_self]
  simp [binS, eqGuard, binOp, Op.floatCmp]
theorem flag_ok {b : Bool} {w : World} : callK Tryd.prog 60 [.bool b] (fun v w' => v = .agg (⟨1, if b then 1 else 0, 0, noS⟩ : AVal).cells.toArray ∧ Grow w w') w := by
  apply S60_ok
  unfold S60
  refine newz_i fun b2 w1 hb2 hz2 g2 _ hl2 => ?_
  refine ⟨(⟨1, 0, 0, noS⟩ : AVal).cells.toArray, by kernel_rfl, ?_⟩
  refine newst_n (vs := (⟨1, 0, 0, noS⟩ : AVal).cells) rfl rfl (AVal.one _) fun b3 w2 hb3 hz3 g3 hc3 hl3 => ?_
  have g23 := g2.trans g3
  cases b with
  | true =>
    refine condK_t ?_
    rw [faK_i]
    refine (hl3 1 (by decide)).st rfl rfl ?_
    rw [addr0]
    have m := Mod.setCell (M := fun x => x = b3) w2 ⟨b3, 1, none⟩ (.int .i64 1) rfl
    have hc : ∀ j u, (⟨1, 1, 0, noS⟩ : AVal).cells[j]? = some u → (w2.setCell ⟨b3, 1, none⟩ (.int .i64 1)).cell? ((⟨b3, 0, none⟩ : Addr).add j) = some u := by
      intro j u hu
      rw [addr0]
      by_cases e : j = 1
      · subst e
        have h1 := (hl3 1 (by decide)).1
        rw [addr0] at h1
        obtain ⟨u', hu'⟩ := Option.isSome_iff_exists.1 h1
        cases hu
        exact World.cell?_setCell_same _ _ _ hu'
      · rw [World.cell?_setCell_other _ _ _ _ (fun e' => by simp only [Addr.mk.injEq] at e'; exact e e'.2.1.symm)]
        have := hc3 j u (by
          rcases j with _ | _ | _ | _ | j
          · exact hu
          · exact absurd rfl e
          · exact hu
          · exact hu
          · exact hu)
        rwa [addr0] at this
    have hl2' := fun j hj => ((hl2 j hj).mod g3 fun h => h).mod m (fun e => by rw [addr0] at e; have : b2 = b3 := e; omega)
    generalize w2.setCell ⟨b3, 1, none⟩ (.int .i64 1) = w3 at m hc hl2' ⊢
    refine ldnK_i (vs := (⟨1, 1, 0, noS⟩ : AVal).cells) rfl hc ?_
    refine stn_over rfl (AVal.one _) (fun j hj => hl2' j hj) fun w4 m4 hc4 _ => ?_
    refine ldnK_i (vs := (⟨1, 1, 0, noS⟩ : AVal).cells) rfl hc4 ⟨rfl, ?_⟩
    exact (g23.next m fun x hx e => by omega).next m4 fun x hx e => by omega
  | false =>
    refine condK_f ?_
    refine ldnK_i (vs := (⟨1, 0, 0, noS⟩ : AVal).cells) rfl hc3 ?_
    refine stn_over rfl (AVal.one _) (fun j hj => (hl2 j hj).mod g3 fun h => h) fun w4 m4 hc4 _ => ?_
    refine ldnK_i (vs := (⟨1, 0, 0, noS⟩ : AVal).cells) rfl hc4 ⟨rfl, ?_⟩
    exact g23.next m4 fun x hx e => by omega
theorem int_ok {n : Int} {w : World} : callK Tryd.prog 61 [.int .i64 n] (fun v w' => v = .agg (⟨2, n, 0, noS⟩ : AVal).cells.toArray ∧ Grow w w') w := by
  apply S61_ok
  unfold S61
  refine newz_i fun b2 w1 hb2 hz2 g2 _ hl2 => ?_
  refine ⟨(⟨2, n, 0, noS⟩ : AVal).cells.toArray, by kernel_rfl, ?_⟩
  refine stn_over rfl (AVal.one _) (fun j hj => hl2 j hj) fun w4 m4 hc4 _ => ?_
  refine ldnK_i (vs := (⟨2, n, 0, noS⟩ : AVal).cells) rfl hc4 ⟨rfl, ?_⟩
  exact g2.next m4 fun x hx e => by omega
theorem float_ok {n : Nat} {w : World} : callK Tryd.prog 62 [.float .f64 n] (fun v w' => v = .agg (⟨3, 0, if NoNum (n : Int) then 9221120237041090560 else n, noS⟩ : AVal).cells.toArray ∧ Grow w w') w := by
  apply S62_ok
  unfold S62
  refine newz_i fun b2 w1 hb2 hz2 g2 _ hl2 => ?_
  refine callK_mono isnan_ok ?_
  rintro _ _ ⟨rfl, rfl⟩
  rename World => w1
  by_cases hn : NoNum (n : Int)
  · rw [decide_eq_true hn]
    refine condK_t ⟨(⟨3, 0, 9221120237041090560, noS⟩ : AVal).cells.toArray, by kernel_rfl, ?_⟩
    refine stn_over rfl (AVal.one _) (fun j hj => hl2 j hj) fun w4 m4 hc4 _ => ?_
    refine ldnK_i (vs := (⟨3, 0, 9221120237041090560, noS⟩ : AVal).cells) rfl hc4 ⟨by rw [if_pos hn], ?_⟩
    exact g2.next m4 fun x hx e => by omega
  · rw [decide_eq_false hn]
    refine condK_f ⟨_, _, ext_bits, ?_⟩
    refine ⟨(⟨3, 0, (n : Int), noS⟩ : AVal).cells.toArray, by kernel_rfl, ?_⟩
    refine stn_over rfl (AVal.one _) (fun j hj => hl2 j hj) fun w4 m4 hc4 _ => ?_
    refine ldnK_i (vs := (⟨3, 0, (n : Int), noS⟩ : AVal).cells) rfl hc4 ⟨by rw [if_neg hn], ?_⟩
    exact g2.next m4 fun x hx e => by omega
/-- whether a text may be a value's -/
def TextOK (s : ByteArray) : Prop := s.size ≤ 64 ∧ (readB (bytesL s)).isSome = true
instance (s : ByteArray) : Decidable (TextOK s) := by unfold TextOK; infer_instance
theorem bytesL_byte (s : ByteArray) : ByteL (bytesL s) := fun x hx => by
  simp only [bytesL, List.mem_map] at hx
  obtain ⟨b, _, rfl⟩ := hx
  have := b.toNat_lt
  omega
theorem text_ok {s : ByteArray} {w : World} (hT : Tabs w) : callK Tryd.prog 64 [.string s] (fun v w' => v = (if TextOK s then .tuple #[.agg (⟨4, 0, 0, s⟩ : AVal).cells.toArray, .int .i64 0] else .tuple #[.agg (⟨0, 0, 0, noS⟩ : AVal).cells.toArray, .int .i64 3]) ∧ Grow w w') w := by
  apply S64_ok
  unfold S64
  refine newz_i fun b2 w1 hb2 hz2 g2 _ hl2 => ?_
  rw [slenK_i, gtK_i]
  refine condK_p (fun hbig => ?_) fun hle => ?_
  · refine ⟨(⟨0, 0, 0, noS⟩ : AVal).cells.toArray, by kernel_rfl, ?_⟩
    refine stn_over rfl (AVal.one _) (fun j hj => hl2 j hj) fun w4 m4 hc4 _ => ?_
    refine ldnK_i (vs := (⟨0, 0, 0, noS⟩ : AVal).cells) rfl hc4 ⟨by rw [if_neg (fun h => by have := h.1; omega)], ?_⟩
    exact g2.next m4 fun x hx e => by omega
  · refine strbytes (by omega) fun v3 w3 g3 hb3 => ?_
    have g23 := g2.trans g3
    have hl3 : ∀ j, j < 4 → Live w3 ((⟨b2, 0, none⟩ : Addr).add j) := fun j hj => (hl2 j hj).mod g3 fun h => h
    refine callK_mono (runes_ok hb3 (bytesL_byte s) (hT.grow g23) (by rw [bytesL_len]; omega)) ?_
    rintro v5 w5 ⟨g5, hm⟩
    have hl5 : ∀ j, j < 4 → Live w5 ((⟨b2, 0, none⟩ : Addr).add j) := fun j hj => (hl3 j hj).mod g5 fun h => h
    have g25 := g23.trans g5
    cases hr : readB (bytesL s) with
    | none =>
      rw [hr] at hm
      subst hm
      refine extK_i (vs := [_, _]) (by rfl) (extK_i (vs := [_, _]) (by rfl) ?_)
      rw [neK_i]
      refine condK_neg (fun e => by cases e) fun _ => ?_
      refine ⟨(⟨0, 0, 0, noS⟩ : AVal).cells.toArray, by kernel_rfl, ?_⟩
      refine stn_over rfl (AVal.one _) (fun j hj => hl5 j hj) fun w6 m6 hc6 _ => ?_
      refine ldnK_i (vs := (⟨0, 0, 0, noS⟩ : AVal).cells) rfl hc6 ⟨by rw [if_neg (fun h => by have := h.2; rw [hr] at this; cases this)], ?_⟩
      exact g25.next m6 fun x hx e => by omega
    | some l =>
      rw [hr] at hm
      obtain ⟨sl, rfl, _⟩ := hm
      refine extK_i (vs := [_, _]) (by rfl) (extK_i (vs := [_, _]) (by rfl) ?_)
      rw [neK_i]
      refine condK_neg (fun _ => ?_) fun e => (e rfl).elim
      refine ⟨(⟨4, 0, 0, s⟩ : AVal).cells.toArray, by kernel_rfl, ?_⟩
      refine stn_over rfl (AVal.one _) (fun j hj => hl5 j hj) fun w6 m6 hc6 _ => ?_
      refine ldnK_i (vs := (⟨4, 0, 0, s⟩ : AVal).cells) rfl hc6 ⟨by rw [if_pos ⟨by omega, by rw [hr]; rfl⟩], ?_⟩
      exact g25.next m6 fun x hx e => by omega
theorem vmay_ok {v : AVal} {w : World} (hT : Tabs w) (h0 : 0 ≤ v.f) :
    callK Tryd.prog 46 [.agg v.cells.toArray] (fun v' w' => v' = .bool (decide (ValOK v)) ∧ Grow w w') w := by
  apply S46_ok
  unfold S46
  refine boxn_i fun b w1 _ hz g hc _ => ?_
  have l0 := hc 0 _ rfl
  have l1 := hc 1 _ rfl
  have l2 := hc 2 _ rfl
  have l3 := hc 3 _ rfl
  have key : ∀ (b : Bool) w', Grow w w' → (b = true ↔ ValOK v) → Value.bool b = .bool (decide (ValOK v)) ∧ Grow w w' := fun b w' g h => ⟨by congr 1; rw [Bool.eq_iff_iff, h, decide_eq_true_eq], g⟩
  have no : ∀ w', Grow w w' → ¬ ValOK v → Value.bool false = .bool (decide (ValOK v)) ∧ Grow w w' := fun w' g h => key false w' g (by simp only [Bool.false_eq_true, false_iff]; exact h)
  have hall : ∀ j u, v.cells[j]? = some u → w1.cell? ((⟨b, 0, none⟩ : Addr).add j) = some u := hc
  simp only [faK_i]
  refine ld1K_i l0 ?_
  rw [eqK_i]
  refine condK_p (fun k1 => ?_) fun k1 => ?_
  · refine drawK_i (fun w2 => Grow w1 w2) (Mod.drew _ _) ?_
    refine qldnK_i (vs := v.cells) rfl (fun w2 g2 j u hu => g2.cell (hall j u hu) fun h => h) (qld1K_i (fun w2 g2 => g2.cell l1 fun h => h) ?_)
    rw [eqK_i]
    refine ⟨_, fun w2 g2 => callK_mono flag_ok (by rintro _ w3 ⟨rfl, g3⟩; exact ⟨rfl, g2.trans g3⟩), ?_⟩
    refine ⟨_, fun w2 _ => run_eq_val _ _ v ⟨1, if decide (v.n = 1) then 1 else 0, 0, noS⟩ w2, ?_⟩
    intro w3 g3
    refine key _ _ (g.trans g3) ?_
    rw [decide_eq_true_eq]
    constructor
    · intro e
      refine .inl ⟨k1, ?_, ?_⟩
      · by_cases h1 : v.n = 1
        · rw [h1]; simpa [h1] using e
        · have en : v.n = 0 := by rw [e]; simp [h1]
          rw [en]; simpa [h1] using e
      · by_cases h1 : v.n = 1
        · exact .inr h1
        · left; rw [e]; simp [h1]
    · rintro (h | h | h | h)
      · obtain ⟨_, e, hn⟩ := h
        rcases hn with hn | hn
        · rw [hn] at e ⊢; exact e
        · rw [hn] at e ⊢; exact e
      · omega
      · omega
      · omega
  rw [eqK_i]
  refine condK_p (fun k2 => ?_) fun k2 => ?_
  · refine drawK_i (fun w2 => Grow w1 w2) (Mod.drew _ _) ?_
    refine qldnK_i (vs := v.cells) rfl (fun w2 g2 j u hu => g2.cell (hall j u hu) fun h => h) (qld1K_i (fun w2 g2 => g2.cell l1 fun h => h) ?_)
    refine ⟨_, fun w2 g2 => callK_mono int_ok (by rintro _ w3 ⟨rfl, g3⟩; exact ⟨rfl, g2.trans g3⟩), ?_⟩
    refine ⟨_, fun w2 _ => run_eq_val _ _ v ⟨2, v.n, 0, noS⟩ w2, ?_⟩
    intro w3 g3
    refine key _ _ (g.trans g3) ?_
    rw [decide_eq_true_eq]
    refine ⟨fun h => .inr (.inl ⟨k2, h⟩), fun h => ?_⟩
    rcases h with h | h | h | h
    · omega
    · exact h.2
    · omega
    · omega
  rw [eqK_i]
  refine condK_p (fun k3 => ?_) fun k3 => ?_
  · refine drawK_i (fun w2 => Grow w1 w2) (Mod.drew _ _) ?_
    refine qldnK_i (vs := v.cells) rfl (fun w2 g2 j u hu => g2.cell (hall j u hu) fun h => h) (qld1K_i (fun w2 g2 => g2.cell l2 fun h => h) ?_)
    refine ⟨_, fun w2 _ => ext_from, ?_⟩
    refine ⟨_, fun w2 g2 => callK_mono float_ok (by rintro _ w3 ⟨rfl, g3⟩; exact ⟨rfl, g2.trans g3⟩), ?_⟩
    refine ⟨_, fun w2 _ => run_eq_val _ _ v _ w2, ?_⟩
    intro w3 g3
    refine key _ _ (g.trans g3) ?_
    have ef : ((v.f.toNat : Nat) : Int) = v.f := by omega
    rw [decide_eq_true_eq, ef]
    constructor
    · intro e
      refine .inr (.inr (.inl ⟨k3, ?_, ?_⟩))
      · by_cases hn : NoNum v.f
        · rw [if_pos hn] at e
          have e2 : v.f = 9221120237041090560 := congrArg AVal.f e
          rw [e2]; exact e
        · rw [if_neg hn] at e; exact e
      · by_cases hn : NoNum v.f
        · rw [if_pos hn] at e
          exact .inr (congrArg AVal.f e)
        · exact .inl hn
    · rintro (h | h | h | h)
      · omega
      · omega
      · obtain ⟨_, e, hn⟩ := h
        by_cases hh : NoNum v.f
        · rw [if_pos hh]
          rw [hn.resolve_left fun x => x hh] at e
          exact e
        · rw [if_neg hh]; exact e
      · omega
  rw [eqK_i]
  refine condK_p (fun k4 => ?_) fun k4 => no _ g ?_
  · refine ld1K_i l3 (callK_mono (text_ok (hT.grow g)) ?_)
    rintro v3 w3 ⟨rfl, g3⟩
    have g03 := g.trans g3
    by_cases hx : TextOK v.s
    · rw [if_pos hx]
      refine extK_i (vs := [_, _]) (by rfl) (extK_i (vs := [_, _]) (by rfl) ?_)
      refine newst_n (vs := (⟨4, 0, 0, v.s⟩ : AVal).cells) rfl rfl (AVal.one _) fun b4 w4 _ _ g4 hc4 _ => ?_
      rw [eqK_i]
      refine condK_p (fun _ => ?_) fun e => (e rfl).elim
      refine ldnK_i (vs := v.cells) rfl (fun j u hu => (g3.trans g4).cell (hall j u hu) fun h => h) ?_
      refine ldnK_i (vs := (⟨4, 0, 0, v.s⟩ : AVal).cells) rfl hc4 (runK_i (run_eq_val _ _ v ⟨4, 0, 0, v.s⟩ w4) ?_)
      refine key _ _ (g03.trans g4) ?_
      rw [decide_eq_true_eq]
      refine ⟨fun e => .inr (.inr (.inr ⟨k4, e, hx.1, hx.2⟩)), fun h => ?_⟩
      rcases h with h | h | h | h
      · omega
      · omega
      · omega
      · exact h.2.1
    · rw [if_neg hx]
      refine extK_i (vs := [_, _]) (by rfl) (extK_i (vs := [_, _]) (by rfl) ?_)
      refine newst_n (vs := (⟨0, 0, 0, noS⟩ : AVal).cells) rfl rfl (AVal.one _) fun b4 w4 _ _ g4 hc4 _ => ?_
      rw [eqK_i]
      refine condK_p (fun e => by cases e) fun _ => no _ (g03.trans g4) ?_
      rintro (h | h | h | h)
      · omega
      · omega
      · omega
      · exact hx ⟨h.2.2.1, h.2.2.2⟩
  · rintro (h | h | h | h)
    · exact k1 h.1
    · exact k2 h.1
    · exact k3 h.1
    · exact k4 h.1
end Go.Proofs.YtmfplfaeibehiaaDoor

namespace Go.Proofs.YtmfplfaeibehiaaDoor
open Go Go.K

theorem filt_len {ks : List DKey} {f : DKey → Bool} (n : Nat) : ((ks.take n).filter f).length ≤ ks.length := Nat.le_trans (List.length_filter_le _ _) (by rw [List.length_take]; omega)
theorem sgroup_ok {D : Nat → Prop} {v : Value} {ks : List DKey} {w : World} (h : SchR D w v ks) (hl : ks.length ≤ 1099511627776) (id : Int) :
    callK Tryd.prog 21 [v, .int .i64 id] (fun v' w' => OwnR w.heap.size 3 1 RNum w' v' (groupK ks id) ∧ Grow w w') w := by
  apply S21_ok
  unfold S21
  refine callK_mono (sfind_ok h id) ?_
  rintro _ w1 ⟨rfl, g1⟩
  refine extK_i (vs := [_, _]) (by rfl) (extK_i (vs := [_, _]) (by rfl) ?_)
  generalize hk : (findK ks id).getD DKey.zero = k
  refine newst_n (vs := k.cells) rfl rfl (RKey.one (w := w) (x := k) rfl) fun b5 w3 hb5 hz5 g5 hc5 _ => ?_
  have g3 := g1.trans g5
  have none' : groupK ks id = [] → (∀ w', Grow w w' → (fun v' w' => OwnR w.heap.size 3 1 RNum w' v' (groupK ks id) ∧ Grow w w') (Value.slice none 0 0) w') := fun e w' g => ⟨by rw [e]; exact OwnR.nil, g⟩
  refine JoinK_i (fun _ w4 => w4 = w3 ∧ findK ks id = some k ∧ k.group ≠ 0) ?_ ?_
  · rintro _ _ ⟨rfl, hf, h0⟩ _
    rename World => w3
    obtain ⟨b, m, kv, l, rfl, _, _, h3, h4, h5, h6, h7⟩ := h.grow g3
    refine nilckK_s ?_
    rw [faK_i]
    refine ld1K_i (by rw [addr0]; exact h3) ?_
    obtain ⟨a, c, rfl, hm⟩ := h5.shape
    simp only [maxLen] at hm
    rw [lenK_i]
    have hG : groupK ks id = (ks.filter fun o => decide (o.group = k.group ∧ o.id ≠ id)).map (·.id) := by
      unfold groupK; rw [hf]; exact if_neg h0
    rw [hG]
    generalize hp : (fun o : DKey => decide (o.group = k.group ∧ o.id ≠ id)) = p
    have hpd : ∀ o : DKey, p o = true ↔ o.group = k.group ∧ o.id ≠ id := fun o => by rw [← hp]; exact decide_eq_true_iff
    refine LoopK_i (fun vs w6 => ∃ (i : Nat) (ov : Value), i ≤ ks.length ∧ vs = [ov, .int .i64 i] ∧ OwnR w3.heap.size 3 1 RNum w6 ov (((ks.take i).filter p).map (·.id)) ∧ Grow w3 w6) (fun vs _ => ks.length - iOf vs 1)
      ⟨0, _, Nat.zero_le _, rfl, OwnR.nil, Mod.refl _ _⟩ ?_
    rintro vs w6 ⟨i, ov, hi, rfl, ho, g6⟩ _
    show ltK .i64 (.int .i64 i) _ _
    rw [ltK_i]
    refine condK_p (fun hlt => ?_) fun hge => ?_
    · have hlt' : i < ks.length := by omega
      have e1 : (ks.take (i + 1)).filter p = (ks.take i).filter p ++ (if p ks[i] = true then [ks[i]] else []) := by
        rw [List.take_add_one, List.getElem?_eq_getElem hlt', List.filter_append]
        simp [List.filter_cons]
      have hfl : ((ks.take i).filter p).length ≤ ks.length := filt_len i
      refine JoinK_i (fun vs w7 => ∃ ov', vs = [ov'] ∧ OwnR w3.heap.size 3 1 RNum w7 ov' (((ks.take (i + 1)).filter p).map (·.id)) ∧ Grow w3 w7) ?_ ?_
      · rintro _ w7 ⟨ov', rfl, ho', g7⟩ _
        show addK .i64 (.int .i64 i) _ _
        rw [addK_i, loop_step (by omega)]
        exact ⟨⟨i + 1, ov', hlt', rfl, ho', g7⟩, by rw [iOf1, iOf1]; omega⟩
      · obtain ⟨q, r, rfl, _, hr, hc, rfl⟩ := (h5.grow g6 (by decide) fun _ _ h => h).get hlt'
        refine ixK_n hlt' (ldnK_i hr (fun j u hu => by rw [Addr.add_add]; exact hc j u hu) ?_)
        refine newst_n (vs := ks[i].cells) rfl rfl (RKey.one (w := w) (x := ks[i]) rfl) fun b9 w10 hb9 hz9 g9 hc9 _ => ?_
        have g10 := g6.trans g9
        have ho10 : OwnR w3.heap.size 3 1 RNum w10 ov (((ks.take i).filter p).map (·.id)) := OwnR.mod ho g9 (fun _ _ h => h) fun _ _ _ h => h
        have skip : p ks[i] = false → ∃ ov', [ov] = [ov'] ∧ OwnR w3.heap.size 3 1 RNum w10 ov' (((ks.take (i + 1)).filter p).map (·.id)) ∧ Grow w3 w10 := fun e => ⟨ov, rfl, by rw [e1, e]; simpa using ho10, g10⟩
        have pf : ¬ (ks[i].group = k.group ∧ ks[i].id ≠ id) → p ks[i] = false := fun hn => by
          cases hb : p ks[i] with
          | false => rfl
          | true => exact (hn ((hpd _).1 hb)).elim
        simp only [faK_i]
        refine ld1K_i (hc9 5 _ rfl) (ld1K_i (g10.cell (hc5 5 _ rfl) fun h => h) ?_)
        rw [eqK_i]
        refine condK_p (fun he => ?_) fun he => skip (pf fun h => he h.1)
        refine ld1K_i (hc9 0 _ rfl) ?_
        rw [neK_i]
        refine condK_neg (fun hn => skip (pf fun h => h.2 hn)) fun hn => ?_
        refine ld1K_i (hc9 0 _ rfl) ?_
        refine push_n (w0 := w3) elem_int ho10 g10 (cs := [.int .i64 ks[i].id]) (x := ks[i].id) (by kernel_rfl) rfl rfl (fun _ _ _ => RNum.one) (fun _ _ _ _ _ _ h => h) (by rw [List.length_map]; omega) (by rw [List.length_map]; simp only [maxLen]; omega) fun v' w' o' g' => ?_
        refine ⟨v', rfl, ?_, g'⟩
        rw [e1, if_pos ((hpd _).2 ⟨he, hn⟩), List.map_append]
        exact o'
    · have : i = ks.length := by omega
      subst this
      rw [List.take_length] at ho
      exact ⟨ho.base fun g hg => Nat.le_trans g3.size (OwnR.ownB ho g hg).1, g3.trans g6⟩
  · cases hf : findK ks id with
    | none =>
      show notK (.bool false) _
      rw [notK_i]
      exact condK_t (none' (by unfold groupK; rw [hf]) _ g3)
    | some k' =>
      have : k' = k := by rw [hf] at hk; exact hk
      subst this
      show notK (.bool true) _
      rw [notK_i]
      refine condK_f ?_
      rw [faK_i]
      refine ld1K_i (hc5 5 _ rfl) ?_
      rw [eqK_i]
      exact condK_p (fun h0 => none' (by unfold groupK; rw [hf]; exact if_pos h0) _ g3) fun h0 => ⟨rfl, rfl, h0⟩
end Go.Proofs.YtmfplfaeibehiaaDoor

namespace Go.K
open Go

section
variable {α : Type} [Inhabited α]
theorem flatK_toList (enc : α → List Value) (k : Nat) (hk : ∀ x, (enc x).length = k) (d : Array α) : (Sort.flatK enc k d).toList = (d.toList.map enc).flatten := by
  refine List.ext_getElem? fun t => ?_
  have hl : ∀ r ∈ d.toList.map enc, r.length = k := fun r hr => by obtain ⟨x, _, rfl⟩ := List.mem_map.1 hr; exact hk x
  have hfl : (d.toList.map enc).flatten.length = d.size * k := by rw [flat_len _ hl, List.length_map, Array.length_toList]
  by_cases ht : t < d.size * k
  · have k0 : 0 < k := by rcases Nat.eq_zero_or_pos k with h | h; · subst h; simp at ht
                          · exact h
    have hi : t / k < d.size := (Nat.div_lt_iff_lt_mul k0).2 ht
    have h1 := Sort.get_flatK enc k d t ht
    have h2 : (Sort.flatK enc k d).toList[t]? = some (Sort.flatK enc k d)[t]! := by
      have hs : t < (Sort.flatK enc k d).size := by simpa using ht
      rw [Array.getElem?_toList, Array.getElem?_eq_getElem hs, getElem!_pos _ t hs]
    rw [h2, h1]
    have h3 := flat_get (d.toList.map enc) (t / k) (t % k) (enc d[t / k]!) hl (by simp [hi]) (Nat.mod_lt _ k0)
    rw [Nat.div_add_mod' t k] at h3
    rw [h3]
    have hm : t % k < (enc d[t / k]!).length := by rw [hk]; exact Nat.mod_lt _ k0
    rw [List.getElem?_eq_getElem hm, getElem!_pos (enc d[t / k]!) _ hm]
  · rw [List.getElem?_eq_none (by simp; omega), List.getElem?_eq_none (by omega)]
theorem putCells_take (F cur : Array Value) (h : F.size ≤ cur.size) : (Sort.putCells id 0 F cur).size = cur.size ∧ (Sort.putCells id 0 F cur).toList.take F.size = F.toList := by
  refine ⟨by simp [Sort.putCells], List.ext_getElem? fun t => ?_⟩
  by_cases ht : t < F.size
  · rw [List.getElem?_take, if_pos ht, Array.getElem?_toList, Array.getElem?_toList]
    have h1 : t < cur.size := by omega
    simp [Sort.putCells, ht, h1]
  · rw [List.getElem?_take, if_neg ht, List.getElem?_eq_none (by simp; omega)]
theorem sortWorld_heap {enc : α → List Value} {k : Nat} {w : World} {g m e : Nat} {d : Array α} {os : Array Obj} {cur : Array Value} (hg : w.heap[g]? = some (.cells cur e (0, 0))) :
    (Go.Proofs.sortWorldK enc k w g 0 m d os).heap[g]? = some (.cells (Sort.putCells id 0 (Sort.flatK enc k d) cur) e (0, 0)) ∧ Mod (fun b => b = g) w (Go.Proofs.sortWorldK enc k w g 0 m d os) := by
  have hlt : g < w.heap.size := (Array.getElem?_eq_some_iff.1 hg).1
  have hsz : (w.heap.modify g (Sort.onCells (Sort.putCells id 0 (Sort.flatK enc k d)))).size = w.heap.size := by simp
  have eh : (Go.Proofs.sortWorldK enc k w g 0 m d os).heap = w.heap.modify g (Sort.onCells (Sort.putCells id 0 (Sort.flatK enc k d))) ++ os := rfl
  refine ⟨?_, ⟨rfl, rfl, rfl, by rw [eh, Array.size_append, hsz]; omega, fun b hb hn => ?_⟩⟩
  · rw [eh, Array.getElem?_append_left (by rw [hsz]; exact hlt), Array.getElem?_modify, if_pos rfl, hg]; rfl
  · rw [eh, Array.getElem?_append_left (by rw [hsz]; exact hb), Array.getElem?_modify, if_neg (fun h => hn h.symm)]
/-- a row of one's own holds what the sort's contract asks; and behind the sort it is one of one's own -/
theorem OwnR.sorted {B e k : Nat} {R : World → List Value → α → Prop} {enc : α → List Value} (hk : ∀ x, (enc x).length = k) (h1 : ∀ x, ∀ v ∈ enc x, v.oneCell' = true) (hR : ∀ w r x, R w r x ↔ r = enc x) {w : World} {g n c : Nat} {l : List α} (h : OwnR B e k R w (.slice (some ⟨g, 0, none⟩) n c) l) :
    n = l.length ∧ g < w.heap.size ∧ Sort.HoldsK enc k w g 0 l.toArray ∧ ∀ (m : Nat) (d : Array α) (os : Array Obj), d.size = l.length → OwnR B e k R (Go.Proofs.sortWorldK enc k w g 0 m d os) (.slice (some ⟨g, 0, none⟩) n c) d.toList ∧ Mod (fun b => b = g) w (Go.Proofs.sortWorldK enc k w g 0 m d os) := by
  obtain ⟨rows, h2, h3, h4, h5⟩ := h
  obtain ⟨q1, q2⟩ := h2
  rcases q2 with ⟨q, _⟩ | ⟨g', cap, cur, q, hg, hh, hn, hm, hcs, hcur⟩
  · cases q
  cases q
  have hlt : g < w.heap.size := (Array.getElem?_eq_some_iff.1 hh).1
  have hrows : rows = l.map enc := by
    refine List.ext_getElem? fun i => ?_
    rw [List.getElem?_map]
    by_cases hi : i < l.length
    · have hir : i < rows.length := by omega
      rw [List.getElem?_eq_getElem hi, List.getElem?_eq_getElem hir, Option.map_some]
      rw [(hR w rows[i] l[i]).1 (h5 i _ _ (List.getElem?_eq_getElem hir) (List.getElem?_eq_getElem hi))]
    · rw [List.getElem?_eq_none (by omega), List.getElem?_eq_none (by omega)]; rfl
  have hle : l.length * k ≤ c * k := Nat.mul_le_mul_right _ hn
  refine ⟨rfl, hlt, fun j hj => ?_, fun m d os hd => ?_⟩
  · rw [Sort.size_flatK] at hj
    have hjl : j < l.length * k := by simpa using hj
    have hjc : j < cur.size := by rw [hcs]; omega
    have e0 : (Sort.flatK enc k l.toArray).toList = rows.flatten := by rw [flatK_toList enc k hk, hrows]
    have e1 : rows.flatten[j]? = some (Sort.flatK enc k l.toArray)[j]! := by
      have hs : j < (Sort.flatK enc k l.toArray).size := by rw [Sort.size_flatK]; exact hj
      rw [← e0, Array.getElem?_toList, Array.getElem?_eq_getElem hs, getElem!_pos _ j hs]
    rw [← hcur, List.getElem?_take, if_pos hjl, Array.getElem?_toList] at e1
    rw [Nat.zero_add]
    refine ⟨?_, ?_⟩
    · simp only [World.cell?, hh]; exact e1
    · simp [World.frozen?, hh]
  · obtain ⟨r1, r2⟩ := sortWorld_heap (enc := enc) (k := k) (m := m) (d := d) (os := os) hh
    refine ⟨⟨d.toList.map enc, ⟨?_, .inr ⟨g, c, _, by have e : d.toList.length = l.length := hd; rw [e], hg, r1, ?_, hm, ?_, ?_⟩⟩, by simp, fun r hr => ?_, fun i r x hr hx => ?_⟩, r2⟩
    · have := flat_len (d.toList.map enc) (k := k) fun r hr => by obtain ⟨x, _, rfl⟩ := List.mem_map.1 hr; exact hk x
      simpa using this
    · rw [Array.length_toList, hd]; exact hn
    · rw [(putCells_take (Sort.flatK enc k d) cur (by rw [Sort.size_flatK, hd, hcs]; exact hle)).1]; exact hcs
    · have := (putCells_take (Sort.flatK enc k d) cur (by rw [Sort.size_flatK, hd, hcs]; exact hle)).2
      rw [Sort.size_flatK] at this
      rw [Array.length_toList, this, flatK_toList enc k hk]
    · obtain ⟨x, _, rfl⟩ := List.mem_map.1 hr
      exact ⟨hk x, h1 x⟩
    · rw [List.getElem?_map] at hr
      rw [hx] at hr
      exact (hR _ _ _).2 (Option.some.inj hr).symm
end
end Go.K

namespace Go.Proofs.YtmfplfaeibehiaaDoor
open Go Go.K

/-- (the shelf's laying, written by a program off the shelf's own command) -/
def sortKey_ren : Go.Shelf.Ren := ⟨fun | 6 => 43 | 15 => 58 | 14 => 57 | 28 => 80 | 29 => 81 | 20 => 72 | 21 => 73 | 22 => 74 | 23 => 75 | 24 => 76 | 25 => 77 | 26 => 78 | 27 => 79 | 46 => 88 | 47 => 89 | 48 => 90 | 49 => 91 | 50 => 92 | 57 => 96 | n => n, fun | 22 => 22 | 24 => 34 | 25 => 93 | 3 => 3 | 39 => 107 | 0 => 0 | 53 => 131 | 55 => 28 | 4 => 4 | 46 => 125 | 45 => 124 | 50 => 97 | 5 => 5 | 9 => 9 | 66 => 139 | 70 => 143 | 76 => 148 | 77 => 149 | n => n, fun | n => n⟩
theorem sortKey : Go.Proofs.SlLaysF0.n6 Tryd.prog sortKey_ren := {
  mixed := by kernel_rfl,
  f6 := ⟨Tryd.f43.name, by decide, Tryd.func43.trans (congrArg some (by kernel_rfl))⟩,
  f14 := ⟨Tryd.f57.name, by decide, Tryd.func57.trans (congrArg some (by kernel_rfl))⟩,
  f15 := Tryd.func58.trans (congrArg some (by kernel_rfl)),
  f20 := ⟨Tryd.f72.name, by decide, Tryd.func72.trans (congrArg some (by kernel_rfl))⟩,
  f21 := ⟨Tryd.f73.name, by decide, Tryd.func73.trans (congrArg some (by kernel_rfl))⟩,
  f22 := ⟨Tryd.f74.name, by decide, Tryd.func74.trans (congrArg some (by kernel_rfl))⟩,
  f23 := ⟨Tryd.f75.name, by decide, Tryd.func75.trans (congrArg some (by kernel_rfl))⟩,
  f24 := ⟨Tryd.f76.name, by decide, Tryd.func76.trans (congrArg some (by kernel_rfl))⟩,
  f25 := ⟨Tryd.f77.name, by decide, Tryd.func77.trans (congrArg some (by kernel_rfl))⟩,
  f26 := ⟨Tryd.f78.name, by decide, Tryd.func78.trans (congrArg some (by kernel_rfl))⟩,
  f27 := ⟨Tryd.f79.name, by decide, Tryd.func79.trans (congrArg some (by kernel_rfl))⟩,
  f28 := Tryd.func80.trans (congrArg some (by kernel_rfl)),
  f29 := Tryd.func81.trans (congrArg some (by kernel_rfl)),
  f46 := ⟨Tryd.f88.name, by decide, Tryd.func88.trans (congrArg some (by kernel_rfl))⟩,
  f47 := Tryd.func89.trans (congrArg some (by kernel_rfl)),
  f48 := Tryd.func90.trans (congrArg some (by kernel_rfl)),
  f49 := ⟨Tryd.f91.name, by decide, Tryd.func91.trans (congrArg some (by kernel_rfl))⟩,
  f50 := ⟨Tryd.f92.name, by decide, Tryd.func92.trans (congrArg some (by kernel_rfl))⟩,
  f57 := ⟨Tryd.f96.name, by decide, Tryd.func96.trans (congrArg some (by kernel_rfl))⟩,
  t0 := Tryd.underlying0,
  a0 := Tryd.isAgg0,
  z0 := Tryd.sizeOf0,
  v0 := Tryd.zeroValue0,
  t3 := Tryd.underlying3,
  a3 := Tryd.isAgg3,
  z3 := Tryd.sizeOf3,
  v3 := Tryd.zeroValue3,
  t4 := Tryd.underlying4,
  a4 := Tryd.isAgg4,
  z4 := Tryd.sizeOf4,
  v4 := Tryd.zeroValue4,
  t5 := Tryd.underlying5,
  a5 := Tryd.isAgg5,
  z5 := Tryd.sizeOf5,
  v5 := Tryd.zeroValue5,
  t9 := Tryd.underlying9,
  a9 := Tryd.isAgg9,
  z9 := Tryd.sizeOf9,
  v9 := Tryd.zeroValue9,
  t22 := Tryd.underlying22,
  a22 := Tryd.isAgg22,
  z22 := Tryd.sizeOf22,
  v22 := Tryd.zeroValue22,
  t25 := Tryd.underlying93,
  a25 := Tryd.isAgg93,
  z25 := Tryd.sizeOf93,
  v25 := Tryd.zeroValue93,
  t39 := Tryd.underlying107,
  a39 := Tryd.isAgg107,
  z39 := Tryd.sizeOf107,
  v39 := Tryd.zeroValue107,
  t45 := Tryd.underlying124,
  a45 := Tryd.isAgg124,
  z45 := Tryd.sizeOf124,
  v45 := Tryd.zeroValue124,
  t46 := Tryd.underlying125,
  a46 := Tryd.isAgg125,
  z46 := Tryd.sizeOf125,
  v46 := Tryd.zeroValue125,
  t50 := Tryd.underlying97,
  a50 := Tryd.isAgg97,
  z50 := Tryd.sizeOf97,
  v50 := Tryd.zeroValue97,
  t53 := Tryd.underlying131,
  a53 := Tryd.isAgg131,
  z53 := Tryd.sizeOf131,
  v53 := Tryd.zeroValue131,
  t55 := Tryd.underlying28,
  a55 := Tryd.isAgg28,
  z55 := Tryd.sizeOf28,
  v55 := Tryd.zeroValue28,
  t66 := Tryd.underlying139,
  a66 := Tryd.isAgg139,
  z66 := Tryd.sizeOf139,
  v66 := Tryd.zeroValue139,
  t70 := Tryd.underlying143,
  a70 := Tryd.isAgg143,
  z70 := Tryd.sizeOf143,
  v70 := Tryd.zeroValue143,
  t76 := Tryd.underlying148,
  a76 := Tryd.isAgg148,
  z76 := Tryd.sizeOf148,
  v76 := Tryd.zeroValue148,
  t77 := Tryd.underlying149,
  a77 := Tryd.isAgg149,
  z77 := Tryd.sizeOf149,
  v77 := Tryd.zeroValue149 }
theorem cmpk_ok (x y : DKey) (W : World) : Calls Tryd.prog 44 #[.agg x.cells.toArray, .agg y.cells.toArray] W fun e w' => e = .returned (.int .i64 (cmpI x.id y.id)) ∧ ∃ q os', w' = Sort.grow (W.drewN q) os' := by
  have h : callK Tryd.prog 44 [.agg x.cells.toArray, .agg y.cells.toArray] (fun v w' => v = .int .i64 (cmpI x.id y.id) ∧ ∃ os', w' = Sort.grow W os') W := by
    apply S44_ok
    unfold S44
    refine ⟨x.cells, rfl, ⟨y.cells, rfl, newK_i ?_⟩⟩
    rw [faK_i]
    have c1 : ∀ j u, x.cells[j]? = some u → ((W.alloc (.cells x.cells.toArray 34)).alloc (.cells y.cells.toArray 34)).cell? ((⟨W.heap.size, 0, none⟩ : Addr).add j) = some u := fun j u hu => (Mod.alloc (fun _ => False) _ _).cell (cell_box hu) fun h => h
    have c2 : ∀ j u, y.cells[j]? = some u → ((W.alloc (.cells x.cells.toArray 34)).alloc (.cells y.cells.toArray 34)).cell? ((⟨(W.alloc (.cells x.cells.toArray 34)).heap.size, 0, none⟩ : Addr).add j) = some u := fun j u hu => cell_box hu
    refine ld1K_i (c1 0 _ rfl) ?_
    rw [faK_i]
    refine ld1K_i (c2 0 _ rfl) ?_
    refine callK_mono cmp_ok ?_
    rintro _ _ ⟨rfl, rfl⟩
    exact ⟨rfl, _, by rw [Sort.alloc_eq_grow, Sort.alloc_eq_grow, Sort.grow_grow]⟩
  refine Calls.mono h ?_
  rintro e w' ⟨v, rfl, rfl, os', rfl⟩
  exact ⟨rfl, 0, os', rfl⟩
theorem swo_id : Sort.SWO (Go.Proofs.ltOf fun x y : DKey => cmpI x.id y.id) := by
  have e : ∀ x y : DKey, Go.Proofs.ltOf (fun x y : DKey => cmpI x.id y.id) x y = decide (x.id < y.id) := fun x y => by
    unfold Go.Proofs.ltOf cmpI
    by_cases h1 : x.id < y.id
    · simp [h1]
    · by_cases h2 : y.id < x.id <;> simp [h1, h2]
  exact ⟨fun x => by rw [e]; simp, fun x y z h1 h2 => by rw [e] at *; simp at *; omega, fun x y z h1 h2 => by rw [e] at *; simp at *; omega⟩
instance : Inhabited DKey := ⟨DKey.zero⟩
/-- slices.SortFunc at keys, by their ids -/
theorem sortk_ok {B : Nat} {v : Value} {keys : List DKey} {w : World} (h : OwnR B 34 6 RKey w v keys) (hl : keys.length ≤ 1099511627776) :
    callK Tryd.prog 43 [v, .func (.func 44) #[] #[]] (fun _ w' => ∃ ks : List DKey, ks.Perm keys ∧ ks.Pairwise (fun x y => x.id ≤ y.id) ∧ OwnR B 34 6 RKey w' v ks ∧ Mod (fun b => v.ownBlock = some b) w w') w := by
  obtain ⟨a, c, rfl, _, _, hp, hn⟩ := h.shape
  cases a with
  | none =>
    have e := hn rfl
    subst e
    refine Calls.mono (Go.Proofs.AnyF.slices_SortFunc_none sortKey none c _ w) ?_
    rintro _ _ ⟨rfl, rfl⟩
    exact ⟨_, rfl, [], List.Perm.refl _, List.Pairwise.nil, h, Mod.refl _ _⟩
  | some p =>
    obtain ⟨g, rfl, _, hlt, hob⟩ := hp p rfl
    obtain ⟨_, _, hH, hS⟩ := OwnR.sorted (enc := DKey.cells) (fun _ => rfl) (fun x => RKey.one (w := w) (x := x) rfl) (fun _ _ _ => Iff.rfl) h
    have hc := Go.Proofs.AnyQ.slices_SortFunc sortKey 6 Tryd.isAgg34 Tryd.sizeOf34 DKey.cells (fun _ => rfl) (fun x => RKey.one (w := w) (x := x) rfl) (fun x y => cmpI x.id y.id) swo_id 44 #[] g 0 c keys.toArray w (good _ rfl) (fun m os dk _ x y => cmpk_ok x y _) hH hlt (by simp; omega)
    rw [List.size_toArray] at hc
    refine Calls.mono hc ?_
    rintro _ _ ⟨rfl, d', m, os, hperm, hsort, rfl⟩
    obtain ⟨h1, h2, h3⟩ := hperm
    have hd : d'.size = keys.length := by rw [h1, List.size_toArray]
    obtain ⟨o1, o2⟩ := hS m d' os hd
    refine ⟨_, rfl, d'.toList, ?_, ?_, o1, o2.mono fun b _ e => by rw [e]; rfl⟩
    · have e1 : d'.extract 0 keys.length = d' := by rw [← hd]; exact Array.extract_size
      have e2 : keys.toArray.extract 0 keys.length = keys.toArray := by
        have := Array.extract_size (xs := keys.toArray); rwa [List.size_toArray] at this
      rw [e1, e2] at h3
      simpa using h3
    · rw [List.pairwise_iff_getElem]
      intro i j hi hj hij
      simp only [Array.length_toList] at hi hj
      have := hsort i j (Nat.zero_le _) hij (by omega)
      rw [getElem!_pos d' i hi, getElem!_pos d' j hj] at this
      have e : Go.Proofs.ltOf (fun x y : DKey => cmpI x.id y.id) d'[j] d'[i] = decide (d'[j].id < d'[i].id) := by
        unfold Go.Proofs.ltOf cmpI
        by_cases h1 : d'[j].id < d'[i].id
        · simp [h1]
        · by_cases h2 : d'[i].id < d'[j].id <;> simp [h1, h2]
      rw [e] at this
      simp only [decide_eq_false_iff_not] at this
      simp only [Array.getElem_toList]
      omega
end Go.Proofs.YtmfplfaeibehiaaDoor

namespace Go.Proofs.YtmfplfaeibehiaaDoor
open Go Go.K

def Dist (keys : List DKey) : Prop := keys.Pairwise fun x y => x.id ≠ y.id
theorem mayk_iff {keys : List DKey} : MayKeys keys ↔ keys.length ≤ 64 ∧ (∀ k ∈ keys, KeyOK k) ∧ Dist keys := by
  unfold MayKeys MayN Dist
  rw [List.pairwise_iff_getElem]
  constructor
  · rintro ⟨h1, h2⟩
    refine ⟨h1, fun k hk => ?_, fun i j hi hj hij => ?_⟩
    · obtain ⟨i, hi, rfl⟩ := List.getElem_of_mem hk
      exact (h2 i hi _ (List.getElem?_eq_getElem hi)).1
    · exact (h2 j hj _ (List.getElem?_eq_getElem hj)).2 i hij _ (List.getElem?_eq_getElem hi)
  · rintro ⟨h1, h2, h3⟩
    refine ⟨h1, fun i hi k hk => ?_⟩
    rw [List.getElem?_eq_getElem hi] at hk; cases hk
    refine ⟨h2 _ (List.getElem_mem hi), fun j hj k' hk' => ?_⟩
    rw [List.getElem?_eq_getElem (by omega)] at hk'; cases hk'
    exact h3 j i (by omega) hi hj
theorem find_map {L : List DKey} {id : Int} : (L.map fun k => (k.id, (Value.agg k.cells.toArray))).find? (fun p => decide (p.1 = id)) = (findK L id).map fun k => (k.id, .agg k.cells.toArray) := by
  unfold findK
  rw [List.find?_map]
  rfl
theorem findK_iff {L : List DKey} (hd : Dist L) {id : Int} {k : DKey} : findK L id = some k ↔ k ∈ L ∧ k.id = id := by
  induction L with
  | nil => simp [findK]
  | cons x L ih =>
    unfold Dist at hd
    rw [List.pairwise_cons] at hd
    have ih' := ih hd.2
    unfold findK at ih' ⊢
    by_cases hx : x.id = id
    · rw [List.find?_cons_of_pos (by simpa using hx)]
      simp only [Option.some.injEq, List.mem_cons]
      constructor
      · rintro rfl; exact ⟨.inl rfl, hx⟩
      · rintro ⟨rfl | hk, h2⟩
        · rfl
        · exact (hd.1 k hk (by rw [hx, h2])).elim
    · rw [List.find?_cons_of_neg (by simpa using hx), ih']
      constructor
      · rintro ⟨h1, h2⟩; exact ⟨List.mem_cons_of_mem _ h1, h2⟩
      · rintro ⟨h1, h2⟩
        rcases List.mem_cons.1 h1 with rfl | h1
        · exact (hx h2).elim
        · exact ⟨h1, h2⟩
theorem Dist.perm {L L' : List DKey} (hp : L.Perm L') (h : Dist L) : Dist L' := (hp.pairwise_iff (R := fun x y : DKey => x.id ≠ y.id) fun h => h.symm).1 h
theorem findK_perm {L L' : List DKey} (hp : L.Perm L') (hd : Dist L) (id : Int) : findK L id = findK L' id := by
  refine Option.ext fun k => ?_
  rw [findK_iff hd, findK_iff (hd.perm hp), hp.mem_iff]
theorem strict_of {L : List DKey} (hd : Dist L) (hs : L.Pairwise fun x y => x.id ≤ y.id) : L.Pairwise fun x y => x.id < y.id := by
  refine (List.Pairwise.and hd hs).imp fun {x y} h => ?_
  obtain ⟨h1, h2⟩ := h
  omega

structure NewI (w0 W : World) (b m : Nat) (kv : Value) (keys : List DKey) (i : Nat) : Prop where
  c0 : W.cell? ⟨b, 0, none⟩ = some kv
  c1 : W.cell? ⟨b, 1, none⟩ = some (.map (some m))
  row : OwnR w0.heap.size 34 6 RKey W kv keys
  mp : MapI W m ((keys.take i).map fun k => (k.id, .agg k.cells.toArray))
  hb : w0.heap.size ≤ b
  hm : w0.heap.size ≤ m
  ne : m ≠ b
  own : ∀ g, kv.ownBlock = some g → g ≠ m ∧ g ≠ b
  g : Grow w0 W
theorem NewI.grow {w0 W W' : World} {b m i : Nat} {kv : Value} {keys : List DKey} (h : NewI w0 W b m kv keys i) (hg : Grow W W') : NewI w0 W' b m kv keys i :=
  ⟨hg.cell h.c0 fun h => h, hg.cell h.c1 fun h => h, OwnR.mod h.row hg (fun _ _ h => h) fun _ _ _ h => h, h.mp.mod hg fun h => h, h.hb, h.hm, h.ne, h.own, h.g.trans hg⟩

open Classical in
theorem new_key_ok {S : Nat → Prop} {kv : Value} {keys : List DKey} {w : World} (h : RKeys S w kv keys) :
    callK Tryd.prog 12 [kv] (fun v' w' => Grow w w' ∧ ((MayKeys keys ∧ ∃ (sv : Value) (ks : List DKey), v' = .tuple #[sv, .int .i64 0] ∧ ks.Perm keys ∧ ks.Pairwise (fun x y => x.id < y.id) ∧ SchR (fun b => w.heap.size ≤ b) w' sv ks) ∨
      (¬ MayKeys keys ∧ v' = .tuple #[.pointer none, .int .i64 3]))) w := by
  apply S12_ok
  unfold S12
  obtain ⟨a, c, rfl, hmx⟩ := h.shape
  simp only [maxLen] at hmx
  rw [lenK_i, gtK_i]
  refine condK_p (fun h6 => ⟨Mod.refl _ _, .inr ⟨by rintro ⟨h, _⟩; omega, rfl⟩⟩) fun h6 => ?_
  refine callK_mono (clone_key h (by omega)) ?_
  rintro v1 w1 ⟨o1, g1⟩
  refine runK_i (v := .map (some w1.heap.size)) (w' := w1.alloc (.map #[] 0)) rfl ?_
  have g2 : Grow w1 (w1.alloc (.map #[] 0)) := Mod.alloc _ _ _
  have hmp : MapI (w1.alloc (.map #[] 0)) w1.heap.size [] := MapI.make w1
  have hz2 : (w1.alloc (.map #[] 0)).heap.size = w1.heap.size + 1 := by simp
  generalize w1.alloc (.map #[] 0) = w2 at g2 hmp hz2 ⊢
  obtain ⟨ra, rc, rfl, _, _, _, _⟩ := o1.shape
  refine ⟨#[.slice ra keys.length rc, .map (some w1.heap.size)], by kernel_rfl, ?_⟩
  refine boxn_i (vs := [.slice ra keys.length rc, .map (some w1.heap.size)]) fun b w3 hb hz3 g3 hc3 _ => ?_
  have z1 := g1.size
  have z2 := g2.size
  have hown : ∀ g, (Value.slice ra keys.length rc).ownBlock = some g → g < w1.heap.size := fun g hg => (OwnR.ownB o1 g hg).2
  have I0 : NewI w w3 b w1.heap.size (.slice ra keys.length rc) keys 0 :=
    ⟨by have := hc3 0 _ rfl; rwa [addr0] at this, by have := hc3 1 _ rfl; rwa [addr0] at this, OwnR.mod o1 (g2.trans g3) (fun _ _ h => h) fun _ _ _ h => h, by simpa using hmp.mod g3 fun h => h, by omega, by omega, by omega, fun g hg => by have := hown g hg; omega, (g1.trans g2).trans g3⟩
  generalize Value.slice ra keys.length rc = rv at I0 hown ⊢
  clear hc3 hmp o1
  generalize w1.heap.size = m at *
  rw [lenK_i]
  refine LoopK_i (fun vs W => ∃ i : Nat, i ≤ keys.length ∧ vs = [.int .i64 i] ∧ NewI w W b m rv keys i ∧ MayN keys i) (fun vs _ => keys.length - iOf vs 0) ⟨0, Nat.zero_le _, rfl, I0, fun i hi => by omega⟩ ?_
  rintro vs W ⟨i, hi, rfl, I, hmay⟩ _
  rw [nth_z, List.headD_cons, ltK_i]
  refine condK_p (fun hlt => ?_) fun hge => ?_
  · have hlt' : i < keys.length := by omega
    have hki : keys[i]? = some keys[i] := List.getElem?_eq_getElem hlt'
    obtain ⟨p, r, rfl, _, hr, hc, rfl⟩ := (h.grow I.g (by decide) fun _ _ h => h).get hlt'
    refine ixK_n hlt' (ldnK_i hr (fun j u hu => by rw [Addr.add_add]; exact hc j u hu) ?_)
    refine newst_n (vs := keys[i].cells) rfl rfl (RKey.one (w := w) (x := keys[i]) rfl) fun b6 W1 hb6 hz6 g6 hc6 _ => ?_
    have I1 := I.grow g6
    have bad : ∀ W', Grow W1 W' → ¬ MayKeys keys → (fun v' w' => Grow w w' ∧ ((MayKeys keys ∧ ∃ (sv : Value) (ks : List DKey), v' = .tuple #[sv, .int .i64 0] ∧ ks.Perm keys ∧ ks.Pairwise (fun x y => x.id < y.id) ∧ SchR (fun b => w.heap.size ≤ b) w' sv ks) ∨
      (¬ MayKeys keys ∧ v' = .tuple #[.pointer none, .int .i64 3]))) (Value.tuple #[.pointer none, .int .i64 3]) W' := fun W' g hn => ⟨I1.g.trans g, .inr ⟨hn, rfl⟩⟩
    refine JoinK_i (fun _ W2 => Grow W1 W2 ∧ findK (keys.take i) keys[i].id = none ∧ KeyOK keys[i]) ?_ ?_
    · rintro _ W2 ⟨gW2, hno, hok⟩ _
      have I2 := I1.grow gW2
      refine drawC_i (fun k y => k = 7 ∧ y = m) ?_
      have gd : Grow W2 W2.drew := Mod.drew _ _
      have I3 := I2.grow gd
      have c6 : ∀ j u, keys[i].cells[j]? = some u → W2.drew.cell? ((⟨b6, 0, none⟩ : Addr).add j) = some u := fun j u hu => (gW2.trans gd).cell (hc6 j u hu) fun h => h
      refine nilckK_s ?_
      rw [faK_i]
      refine sld1_i ⟨by rw [addr0]; exact I3.c1, fun j hj e => by obtain ⟨rfl, _⟩ := e; exact absurd hj (by decide)⟩ ?_
      rw [faK_i]
      refine sld1_i ⟨c6 0 _ rfl, fun j hj e => by obtain ⟨rfl, _⟩ := e; exact absurd hj (by decide)⟩ ?_
      refine sldn_i (vs := keys[i].cells) rfl (fun j u hu => ⟨c6 j u hu, fun j hj e => by obtain ⟨rfl, _⟩ := e; exact absurd hj (by decide)⟩) ?_
      obtain ⟨W4, hrun, hmp4, m4⟩ := map_update Tryd.underlying47 Tryd.underlying3 I3.mp keys[i].id (.agg keys[i].cells.toArray) (by rw [find_map, hno]; rfl)
      refine runK_i (v := undef) (w' := W4) (by simp only [Sem.run_bind, hrun, Result.andThen_ok, Sem.run_pure]) ⟨m4.mono fun y _ e => ⟨rfl, e⟩, ?_⟩
      rw [addK_i, loop_step (by omega)]
      refine ⟨⟨i + 1, hlt', rfl, ⟨m4.cell I3.c0 (fun e => I3.ne e.symm), m4.cell I3.c1 (fun e => I3.ne e.symm), OwnR.mod I3.row m4 (fun g hg e => (I3.own g hg).1 e) fun _ _ _ h => h, ?_, I3.hb, I3.hm, I3.ne, I3.own, I3.g.next m4 fun x hx e => by have := I3.hm; omega⟩, fun q hq k hk => ?_⟩, by rw [iOf0, iOf0]; omega⟩
      · rw [List.take_add_one, hki, List.map_append]; exact hmp4
      · by_cases e : q = i
        · subst e
          rw [hki] at hk; cases hk
          refine ⟨hok, fun j hj k' hk' e => ?_⟩
          unfold findK at hno
          rw [List.find?_eq_none] at hno
          exact hno k' (List.mem_of_getElem? (by rw [List.getElem?_take, if_pos hj]; exact hk')) (by simpa using e)
        · exact hmay q (by omega) k hk
    · refine JoinK_i (fun vs W2 => Grow W1 W2 ∧ vs = [.bool (findK (keys.take i) keys[i].id).isSome]) ?_ ?_
      · rintro _ W2 ⟨gW2, rfl⟩ _
        rw [nth_z, List.headD_cons]
        cases hf : findK (keys.take i) keys[i].id with
        | some k' =>
          refine condK_t (bad _ gW2 fun hM => ?_)
          have h1 := List.find?_some hf
          have h2 := List.mem_of_find?_eq_some hf
          obtain ⟨j, hj, e⟩ := List.getElem_of_mem h2
          rw [List.length_take] at hj
          rw [List.getElem_take] at e
          exact (hM.2 i hlt' _ hki).2 j (by omega) k' (by rw [List.getElem?_eq_getElem (by omega), e]) (by simpa using h1)
        | none =>
          refine condK_f (ldnK_i (vs := keys[i].cells) rfl (fun j u hu => gW2.cell (hc6 j u hu) fun h => h) ?_)
          refine callK_mono may1_ok ?_
          rintro _ W3 ⟨rfl, g3'⟩
          rw [notK_i]
          refine condK_neg (fun hok => ⟨gW2.trans g3', rfl, hok⟩) fun hbad => bad _ (gW2.trans g3') fun hM => hbad (hM.2 i hlt' _ hki).1
      · refine drawC_i (fun k y => k = 11 ∧ W1.heap.size ≤ y) ?_
        have gd : Grow W1 W1.drew := Mod.drew _ _
        have Id := I1.grow gd
        refine nilckK_s ?_
        rw [faK_i]
        refine sld1_i ⟨by rw [addr0]; exact Id.c1, fun j hj e => by obtain ⟨rfl, _⟩ := e; exact absurd hj (by decide)⟩ ?_
        rw [faK_i]
        refine sld1_i ⟨gd.cell (hc6 0 _ rfl) fun h => h, fun j hj e => by obtain ⟨rfl, _⟩ := e; exact absurd hj (by decide)⟩ ?_
        have look : ∀ W', Grow W1.drew W' → (Instr.lookup 47 (.map (some m)) (.int .i64 keys[i].id) true).run Tryd.prog W' = .ok (.tuple #[.agg (((findK (keys.take i) keys[i].id)).getD DKey.zero).cells.toArray, .bool (findK (keys.take i) keys[i].id).isSome]) W' := fun W' g' => by
          have := map_lookup Tryd.underlying47 Tryd.underlying3 (zero_key W') (Id.mp.mod g' fun h => h) keys[i].id
          rw [this, find_map]
          cases findK (keys.take i) keys[i].id <;> rfl
        generalize (findK (keys.take i) keys[i].id).getD DKey.zero = kz at look
        have one := RKey.one (w := w) (x := kz) rfl
        refine ⟨?_, ?_⟩
        · refine runK_i (look _ (Mod.refl _ _)) ⟨Mod.refl _ _, ?_⟩
          refine extK_i (vs := [_, _]) (by rfl) (extK_i (vs := [_, _]) (by rfl) ?_)
          refine newz_i fun b7 W5 hb7 hz7 g7 _ hl7 => ⟨g7.mono fun _ _ h => h.elim, ?_⟩
          refine stn_over rfl one hl7 fun W6 m6 _ _ => ⟨m6.mono fun y _ e => ⟨rfl, by have := gd.size; omega⟩, ?_, rfl⟩
          exact (gd.trans g7).next m6 fun x hx e => by have := gd.size; omega
        · refine newz_i fun b7 W5 hb7 hz7 g7 _ hl7 => ⟨g7.mono fun _ _ h => h.elim, ?_⟩
          refine runK_i (look _ g7) ⟨Mod.refl _ _, ?_⟩
          refine extK_i (vs := [_, _]) (by rfl) (extK_i (vs := [_, _]) (by rfl) ?_)
          refine stn_over rfl one hl7 fun W6 m6 _ _ => ⟨m6.mono fun y _ e => ⟨rfl, by have := gd.size; omega⟩, ?_, rfl⟩
          exact (gd.trans g7).next m6 fun x hx e => by have := gd.size; omega
  · have : i = keys.length := by omega
    subst this
    refine nilckK_s ?_
    rw [faK_i]
    refine ld1K_i (by rw [addr0]; exact I.c0) ?_
    refine callK_mono (sortk_ok I.row (by omega)) ?_
    rintro _ W2 ⟨ks, hp, hs, o2, m2⟩
    have hM : MayKeys keys := ⟨by omega, hmay⟩
    obtain ⟨_, _, hd⟩ := mayk_iff.1 hM
    have hd' := hd.perm hp.symm
    refine ⟨I.g.next m2 fun x hx e => by have := (OwnR.ownB I.row x e).1; omega, .inl ⟨hM, _, ks, rfl, hp, strict_of hd' hs, b, m, rv, _, rfl, I.hb, I.hm, m2.cell I.c0 fun e => (I.own _ e).2 rfl, m2.cell I.c1 fun e => (I.own _ e).2 rfl, (OwnR.sl o2).sub (fun _ _ h => h.1) (by decide) fun _ _ h => h, I.mp.mod m2 fun e => (I.own _ e).1 rfl, fun id => ?_⟩⟩
    rw [List.take_length, find_map, findK_perm hp hd']
    cases findK keys id <;> rfl
end Go.Proofs.YtmfplfaeibehiaaDoor

namespace Go.Proofs.YtmfplfaeibehiaaDoor
open Go Go.K

theorem eqIn_key (a b : DKey) (w : World) : (Op.equalIn 10000 34 (.agg a.cells.toArray) (.agg b.cells.toArray)).run Tryd.prog w = .ok (decide (a = b)) w := by
  have hS : Tryd.prog.underlying 34 = some (.struct (Tryd.prog.fieldsOf 34)) := by kernel_rfl
  rw [show (10000 : Nat) = 9999 + 1 from rfl, run_equalIn_agg w 9999 _ _ _ hS Tryd.stoodInHeld34]
  simp only [Program.fieldsOf, Tryd.underlying34, DKey.cells]
  have a1 := Tryd.isAgg3
  have a2 := Tryd.isAgg4
  have a3 := Tryd.isAgg5
  have e1 : ∀ a b : Int, (Op.equalIn 9999 3 (.int .i64 a) (.int .i64 b)).run Tryd.prog w = .ok (a == b) w := fun a b => run_equalIn_int w 9998 _ _ _ a b Tryd.underlying3
  have e2 : ∀ a b : Bool, (Op.equalIn 9999 4 (.bool a) (.bool b)).run Tryd.prog w = .ok (a == b) w := fun a b => run_equalIn_bool w 9998 _ a b Tryd.underlying4
  have e3 : ∀ a b : Int, (Op.equalIn 9999 5 (.int .u8 a) (.int .u8 b)).run Tryd.prog w = .ok (a == b) w := fun a b => run_equalIn_int w 9998 _ _ _ a b Tryd.underlying5
  have q : decide (a = b) = (a.id == b.id && (a.block == b.block && (a.kind == b.kind && (a.after == b.after && (a.before == b.before && a.group == b.group))))) := by
    cases a; cases b
    rw [Bool.eq_iff_iff]
    simp [DKey.mk.injEq]
  rw [q]
  simp [Op.eqFields, part, a1, a2, a3, e1, e2, e3]
  by_cases h1 : a.id = b.id <;> by_cases h2 : a.block = b.block <;> by_cases h3 : a.kind = b.kind <;> by_cases h4 : a.after = b.after <;> by_cases h5 : a.before = b.before <;> by_cases h6 : a.group = b.group <;> simp [h1, h2, h3, h4, h5, h6]
theorem run_ne_key (xo yo : Operand) (a b : DKey) (w : World) :
    (binS .neq 34 xo yo (.agg a.cells.toArray) (.agg b.cells.toArray)).run Tryd.prog w = .ok (.bool (!decide (a = b))) w := by
  simp only [binS, Sem.run_bind, run_eqGuard_agg w .neq _ xo yo _ _ Tryd.eqGuardType34, Result.andThen_ok]
  rw [run_neq_struct, eqIn_key]; rfl

theorem strict_uniq : ∀ {l l' : List DKey}, l.Perm l' → l.Pairwise (fun x y => x.id < y.id) → l'.Pairwise (fun x y => x.id < y.id) → l = l' := by
  intro l
  induction l with
  | nil => intro l' hp _ _; exact (List.nil_perm.1 hp).symm
  | cons x l ih =>
    intro l' hp h h'
    cases l' with
    | nil => exact absurd hp.length_eq (by simp)
    | cons y l' =>
      rw [List.pairwise_cons] at h h'
      have e : x = y := by
        have hx : x ∈ y :: l' := hp.mem_iff.1 List.mem_cons_self
        have hy : y ∈ x :: l := hp.mem_iff.2 List.mem_cons_self
        rcases List.mem_cons.1 hx with e | hx
        · exact e
        · rcases List.mem_cons.1 hy with e | hy
          · exact e.symm
          · have h1 := h.1 y hy
            have h2 := h'.1 x hx
            omega
      subst e
      rw [ih (List.perm_cons x |>.1 hp) h.2 h'.2]
theorem mayk_perm {L L' : List DKey} (hp : L.Perm L') : MayKeys L ↔ MayKeys L' := by
  rw [mayk_iff, mayk_iff, hp.length_eq]
  exact ⟨fun ⟨h1, h2, h3⟩ => ⟨h1, fun k hk => h2 k (hp.mem_iff.2 hk), h3.perm hp⟩, fun ⟨h1, h2, h3⟩ => ⟨h1, fun k hk => h2 k (hp.mem_iff.1 hk), h3.perm hp.symm⟩⟩
theorem strict_dist {L : List DKey} (h : L.Pairwise fun x y => x.id < y.id) : Dist L := List.Pairwise.imp (fun {x y} h => by omega) h
theorem mem_group {ks : List DKey} (hd : Dist ks) {a : DKey} (ha : a ∈ ks) (n : Int) : n ∈ groupK ks a.id ↔ a.group ≠ 0 ∧ ∃ o ∈ ks, o.group = a.group ∧ o.id ≠ a.id ∧ o.id = n := by
  unfold groupK
  rw [(findK_iff hd).2 ⟨ha, rfl⟩]
  simp only
  by_cases h0 : a.group = 0
  · simp [h0]
  · rw [if_neg h0]
    simp only [List.mem_map, List.mem_filter, decide_eq_true_eq, ne_eq, h0, not_false_eq_true, true_and]
    exact ⟨fun ⟨o, ⟨h1, h2, h3⟩, h4⟩ => ⟨o, h1, h2, h3, h4⟩, fun ⟨o, h1, h2, h3, h4⟩ => ⟨o, ⟨h1, h2, h3⟩, h4⟩⟩
theorem group_symm {ks : List DKey} (hd : Dist ks) {a b : DKey} (ha : a ∈ ks) (hb : b ∈ ks) : b.id ∈ groupK ks a.id ↔ a.id ∈ groupK ks b.id := by
  have one : ∀ {x y : DKey}, x ∈ ks → y ∈ ks → x.id = y.id → x = y := fun {x y} hx hy e => by
    have h1 := (findK_iff hd (id := y.id)).2 ⟨hx, e⟩
    have h2 := (findK_iff hd (id := y.id)).2 ⟨hy, rfl⟩
    rw [h1] at h2; exact Option.some.inj h2
  rw [mem_group hd ha, mem_group hd hb]
  constructor
  · rintro ⟨h1, o, ho, h2, h3, h4⟩
    have := one ho hb h4
    subst this
    exact ⟨by rw [h2]; exact h1, a, ha, h2.symm, fun e => h3 e.symm, rfl⟩
  · rintro ⟨h1, o, ho, h2, h3, h4⟩
    have := one ho ha h4
    subst this
    exact ⟨by rw [h2]; exact h1, b, hb, h2.symm, fun e => h3 e.symm, rfl⟩
theorem group_self {ks : List DKey} (hd : Dist ks) {a : DKey} (ha : a ∈ ks) : a.id ∉ groupK ks a.id := by
  rw [mem_group hd ha]
  rintro ⟨_, o, _, _, h3, h4⟩
  exact h3 h4
theorem group_len {ks : List DKey} {id : Int} : (groupK ks id).length ≤ ks.length := by
  unfold groupK
  split
  · simp
  · split
    · simp
    · rw [List.length_map]; exact List.length_filter_le _ _

def key04 : List DKey := [⟨9, true, 1, false, false, 1⟩, ⟨5, true, 2, false, false, 1⟩, ⟨7, true, 3, false, false, 1⟩, ⟨1, false, 4, false, false, 0⟩]
theorem sl_keys {w : World} (l : List DKey) (hl : l.length ≤ 1000) : RKeys (fun b => b = w.heap.size) (w.alloc (.cells (l.map DKey.cells).flatten.toArray 34)) (.slice (some ⟨w.heap.size, 0, none⟩) l.length l.length) l := by
  refine SlR.made (t := 34) (l.map DKey.cells) (fun r hr => by obtain ⟨x, _, rfl⟩ := List.mem_map.1 hr; rfl) (by simp) (by simp only [maxLen]; omega) fun i r x hr hx => ?_
  rw [List.getElem?_map, hx] at hr
  exact (Option.some.inj hr).symm
theorem known04_ok {w : World} : callK Tryd.prog 13 [] (fun v w' => v = .bool true ∧ Grow w w') w := by
  apply S13_ok
  unfold S13
  refine ⟨(⟨9, true, 1, false, false, 1⟩ : DKey).cells.toArray, by kernel_rfl, ⟨(⟨5, true, 2, false, false, 1⟩ : DKey).cells.toArray, by kernel_rfl, ⟨(⟨7, true, 3, false, false, 1⟩ : DKey).cells.toArray, by kernel_rfl, ⟨(⟨1, false, 4, false, false, 0⟩ : DKey).cells.toArray, by kernel_rfl, ?_⟩⟩⟩⟩
  refine rowK_i (cs := (key04.map DKey.cells).flatten) (by kernel_rfl) ?_
  have hK := sl_keys (w := w) key04 (by decide)
  have g1 : Grow w (w.alloc (.cells (key04.map DKey.cells).flatten.toArray 34)) := Mod.alloc _ _ _
  show callK Tryd.prog 12 [.slice (some ⟨w.heap.size, 0, none⟩) 4 4] _ _
  generalize w.alloc (.cells (key04.map DKey.cells).flatten.toArray 34) = w1 at hK g1 ⊢
  refine callK_mono (new_key_ok hK) ?_
  rintro _ w2 ⟨g2, hr⟩
  have hM : MayKeys key04 := mayk_iff.2 ⟨by decide, fun k hk => by
    simp only [key04, List.mem_cons, List.not_mem_nil, or_false] at hk
    rcases hk with rfl | rfl | rfl | rfl <;> (unfold KeyOK; decide), by unfold Dist; decide⟩
  rcases hr with ⟨_, sv, ks, rfl, hp, hs, hS⟩ | ⟨hn, _⟩
  rotate_left
  · exact (hn hM).elim
  have hks : ks = [⟨1, false, 4, false, false, 0⟩, ⟨5, true, 2, false, false, 1⟩, ⟨7, true, 3, false, false, 1⟩, ⟨9, true, 1, false, false, 1⟩] := strict_uniq (hp.trans (by decide)) hs (by decide)
  subst hks
  refine extK_i (vs := [_, _]) (by rfl) (extK_i (vs := [_, _]) (by rfl) ?_)
  refine callK_mono (sgroup_ok hS (by decide) 7) ?_
  rintro gv w3 ⟨og, g3⟩
  have eg : groupK [⟨1, false, 4, false, false, 0⟩, ⟨5, true, 2, false, false, 1⟩, ⟨7, true, 3, false, false, 1⟩, ⟨9, true, 1, false, false, 1⟩] 7 = [5, 9] := by decide
  rw [eg] at og
  refine ⟨(⟨3, false, 1, false, false, 0⟩ : DKey).cells.toArray, by kernel_rfl, ⟨(⟨3, false, 1, false, false, 0⟩ : DKey).cells.toArray, by kernel_rfl, ?_⟩⟩
  refine rowK_i (cs := (([⟨3, false, 1, false, false, 0⟩, ⟨3, false, 1, false, false, 0⟩] : List DKey).map DKey.cells).flatten) (by kernel_rfl) ?_
  have hK2 := sl_keys (w := w3) [⟨3, false, 1, false, false, 0⟩, ⟨3, false, 1, false, false, 0⟩] (by decide)
  have g4 : Grow w3 (w3.alloc (.cells (([⟨3, false, 1, false, false, 0⟩, ⟨3, false, 1, false, false, 0⟩] : List DKey).map DKey.cells).flatten.toArray 34)) := Mod.alloc _ _ _
  show callK Tryd.prog 12 [.slice (some ⟨w3.heap.size, 0, none⟩) 2 2] _ _
  generalize w3.alloc (.cells (([⟨3, false, 1, false, false, 0⟩, ⟨3, false, 1, false, false, 0⟩] : List DKey).map DKey.cells).flatten.toArray 34) = w4 at hK2 g4 ⊢
  refine callK_mono (new_key_ok hK2) ?_
  rintro _ w5 ⟨g5, hr2⟩
  rcases hr2 with ⟨hM2, _⟩ | ⟨_, rfl⟩
  · exact absurd (mayk_iff.1 hM2).2.2 (by unfold Dist; decide)
  refine extK_i (vs := [_, _]) (by rfl) (extK_i (vs := [_, _]) (by rfl) ?_)
  have g35 := g4.trans g5
  have g05 := ((g1.trans g2).trans g3).trans g35
  rw [eqK_i, decide_eq_true rfl]
  refine condK_t ?_
  have hg := (OwnR.sl (OwnR.mod (R' := RNum) og g35 (fun _ _ h => h) fun _ _ _ h => h))
  obtain ⟨ga, gc, rfl, _⟩ := hg.shape
  rw [lenK_i, eqK_i]
  refine condK_p (fun _ => ?_) fun hne => (hne rfl).elim
  obtain ⟨p, r, rfl, _, _, hc, rfl⟩ := hg.get (i := 0) (by decide)
  obtain ⟨p', r', e, _, _, hc', rfl⟩ := hg.get (i := 1) (by decide)
  cases e
  refine ixK_n (j := 0) (by decide) (ld1K_i (hc 0 _ rfl) ?_)
  rw [eqK_i]
  refine condK_p (fun _ => ?_) fun hne => (hne rfl).elim
  refine ixK_n (j := 1) (by decide) (ld1K_i (hc' 0 _ rfl) ?_)
  rw [eqK_i]
  refine condK_p (fun _ => ?_) fun hne => (hne rfl).elim
  rw [eqK_i, decide_eq_true rfl]
  refine condK_t ?_
  refine callK_mono (slen_ok (hS.grow (g3.trans g35))) ?_
  rintro _ _ ⟨rfl, rfl⟩
  rw [eqK_i]
  exact ⟨rfl, g05⟩

end Go.Proofs.YtmfplfaeibehiaaDoor

namespace Go.Proofs.YtmfplfaeibehiaaDoor
open Go Go.K

open Classical in
theorem sfits_ok {D : Nat → Prop} {v : Value} {ks : List DKey} {id : Int} {x : AVal} {w : World} (h : SchR D w v ks) (hT : Tabs w) (h0 : 0 ≤ x.f) :
    callK Tryd.prog 14 [v, .int .i64 id, .agg x.cells.toArray] (fun v' w' => v' = .bool (decide (FitsK ks id x)) ∧ Grow w w') w := by
  apply S14_ok
  unfold S14
  have no : ∀ w', Grow w w' → ¬ FitsK ks id x → Value.bool false = .bool (decide (FitsK ks id x)) ∧ Grow w w' := fun w' g h => ⟨by rw [decide_eq_false h], g⟩
  refine boxn_i fun b w1 _ hz g hc _ => ?_
  refine callK_mono (sfind_ok (h.grow g) id) ?_
  rintro _ w2 ⟨rfl, g2⟩
  refine extK_i (vs := [_, _]) (by rfl) (extK_i (vs := [_, _]) (by rfl) ?_)
  generalize hk : (findK ks id).getD DKey.zero = k
  refine newst_n (vs := k.cells) rfl rfl (RKey.one (w := w) (x := k) rfl) fun b5 w3 hb5 hz5 g5 hc5 _ => ?_
  have g13 := g2.trans g5
  have g03 := g.trans g13
  cases hf : findK ks id with
  | none =>
    rw [Option.isSome_none]
    exact no _ g03 (by rintro ⟨k, e, _⟩; rw [hf] at e; cases e)
  | some k' =>
    rw [hf] at hk
    simp only [Option.getD_some] at hk
    subst hk
    rw [Option.isSome_some]
    refine condK_t ?_
    rw [faK_i]
    refine ld1K_i (hc5 2 _ rfl) ?_
    rw [faK_i]
    refine ld1K_i (g13.cell (hc 0 _ rfl) fun h => h) ?_
    rw [eqK_i]
    refine condK_p (fun he => ?_) fun he => no _ g03 (by rintro ⟨k, e, _, h⟩; rw [hf] at e; cases e; exact he h.symm)
    refine ldnK_i (vs := x.cells) rfl (fun j u hu => g13.cell (hc j u hu) fun h => h) (callK_mono (vmay_ok (hT.grow g03) h0) ?_)
    rintro _ w4 ⟨rfl, g4⟩
    refine ⟨?_, g03.trans g4⟩
    congr 1
    rw [decide_eq_decide]
    constructor
    · intro ho; exact ⟨k', hf, ho, he.symm⟩
    · rintro ⟨_, _, ho, _⟩; exact ho

def fitV : List AVal := [⟨1, 0, 0, noS⟩, ⟨2, -5, 0, noS⟩, ⟨3, 0, 9221120237041090560, noS⟩, ⟨4, 0, 0, ByteArray.mk #[97]⟩]
/-- the kind of a key of the schema; 0: there is none -/
def kindK (ks : List DKey) (id : Int) : Int := match findK ks id with | some k => k.kind | none => 0
theorem fitV_ok : ∀ v ∈ fitV, ValOK v := by decide +kernel
theorem fitV_f : ∀ v ∈ fitV, 0 ≤ v.f := by decide +kernel
theorem fits_fitV {ks : List DKey} {id : Int} {i : Nat} (hi : i < 4) : FitsK ks id (fitV[i]'hi) ↔ kindK ks id = i + 1 := by
  have hk : (fitV[i]'hi).kind = i + 1 := by
    rcases (show i = 0 ∨ i = 1 ∨ i = 2 ∨ i = 3 by omega) with rfl | rfl | rfl | rfl <;> rfl
  unfold FitsK kindK
  cases findK ks id with
  | none => simp only [reduceCtorEq, false_and, exists_false, false_iff]; omega
  | some k =>
    simp only [Option.some.injEq]
    constructor
    · rintro ⟨_, rfl, _, h⟩; rw [← h, hk]
    · intro h; exact ⟨k, rfl, fitV_ok _ (List.getElem_mem hi), by rw [hk, h]⟩
open Classical in
theorem SchemaFits_ok {S : Nat → Prop} {kv : Value} {keys : List DKey} {id : Int} {w : World} (hT : Tabs w) (h : RKeys S w kv keys) (hw : (Lit.int .i64 id).wf = true) :
    callK Tryd.prog 3 [kv, .int .i64 id] (fun v w' => v = .bool true ∧ Grow w w') w := by
  apply S3_ok
  unfold S3
  have kn : ∀ {w1 : World}, Grow w w1 → callK Tryd.prog 13 [] (fun v w' => v = .bool true ∧ Grow w w') w1 := fun g => callK_mono known04_ok fun _ _ h => ⟨h.1, g.trans h.2⟩
  refine callK_mono (new_key_ok h) ?_
  rintro _ w1 ⟨g1, hr⟩
  obtain ⟨a, c, rfl, hmx⟩ := h.shape
  rcases hr with ⟨hM, sv, ks, rfl, hp, hs, hS⟩ | ⟨hn, rfl⟩
  rotate_left
  · refine extK_i (vs := [_, _]) (by rfl) (extK_i (vs := [_, _]) (by rfl) ?_)
    refine JoinK_i (fun _ _ => False) (fun _ _ h => h.elim) ?_
    rw [neK_i]
    exact condK_neg (fun e => by cases e) fun _ => kn g1
  refine extK_i (vs := [_, _]) (by rfl) (extK_i (vs := [_, _]) (by rfl) ?_)
  have hkl : ks.length ≤ 64 := by rw [hp.length_eq]; exact hM.1
  have hkind : kindK ks id = 0 ∧ findK ks id = none ∨ ∃ k, findK ks id = some k ∧ k.id = id ∧ kindK ks id = k.kind ∧ 1 ≤ k.kind ∧ k.kind ≤ 4 := by
    unfold kindK
    cases hf : findK ks id with
    | none => exact .inl ⟨rfl, rfl⟩
    | some k =>
      have hm : k ∈ ks := List.mem_of_find?_eq_some hf
      have hid : k.id = id := by have := List.find?_some hf; simpa using this
      have ok := (mayk_iff.1 hM).2.1 k (hp.mem_iff.1 hm)
      exact .inr ⟨k, rfl, hid, rfl, ok.2.2.1, ok.2.2.2.1⟩
  refine JoinK_i (fun _ w2 => w2 = w1) ?_ ?_
  · rintro _ _ rfl _
    rename World => w1
    refine ⟨(⟨1, 0, 0, noS⟩ : AVal).cells.toArray, by kernel_rfl, ⟨(⟨2, -5, 0, noS⟩ : AVal).cells.toArray, by kernel_rfl, ⟨(⟨3, 0, 9221120237041090560, noS⟩ : AVal).cells.toArray, by kernel_rfl, ⟨(⟨4, 0, 0, ByteArray.mk #[97]⟩ : AVal).cells.toArray, by kernel_rfl, ?_⟩⟩⟩⟩
    refine runK_i (v := .agg (fitV.map AVal.cells).flatten.toArray) (w' := w1) (by kernel_rfl) ?_
    refine newst_n (vs := (fitV.map AVal.cells).flatten) rfl rfl (fun u hu => by
      simp only [List.mem_flatten, List.mem_map] at hu
      obtain ⟨l, ⟨v, _, rfl⟩, hu⟩ := hu
      exact AVal.one v u hu) fun b7 w2 hb7 hz7 g7 hc7 _ => ?_
    have hT1 := hT.grow g1
    refine LoopK_i (fun vs W => ∃ i : Nat, i ≤ 4 ∧ vs = [.int .i64 (if 1 ≤ kindK ks id ∧ kindK ks id ≤ i then 1 else 0), .int .i64 i] ∧ Grow w2 W) (fun vs _ => 4 - iOf vs 1) ⟨0, Nat.zero_le _, by rw [if_neg (by omega)]; rfl, Mod.refl _ _⟩ ?_
    rintro vs W ⟨i, hi, rfl, gW⟩ _
    have gS := g7.trans gW
    have hSW := hS.grow gS
    have hTW := hT1.grow gS
    simp only [nth_s, nth_z, List.headD_cons, List.tail_cons]
    rw [ltK_i]
    refine condK_p (fun hlt => ?_) fun hge => ?_
    · have hlt' : i < 4 := by omega
      refine runK_i (run_indexAt_arr (n := 4) (e := 30) (i := Tryd.t30) (s := 4) (by kernel_rfl) (by kernel_rfl) (by kernel_rfl) (by omega) (by omega)) ?_
      rw [Int.toNat_natCast]
      have hcell : ∀ j u, (fitV[i]'hlt').cells[j]? = some u → W.cell? (((⟨b7, 0, none⟩ : Addr).add (i * 4)).add j) = some u := by
        intro j u hu
        have hj : j < 4 := (List.getElem?_eq_some_iff.1 hu).1
        rw [Addr.add_add]
        refine gW.cell (hc7 (i * 4 + j) u ?_) fun h => h
        rcases (show i = 0 ∨ i = 1 ∨ i = 2 ∨ i = 3 by omega) with rfl | rfl | rfl | rfl <;>
          rcases (show j = 0 ∨ j = 1 ∨ j = 2 ∨ j = 3 by omega) with rfl | rfl | rfl | rfl <;> exact hu
      refine ldnK_i (vs := (fitV[i]'hlt').cells) rfl hcell ?_
      have hf0 : 0 ≤ (fitV[i]'hlt').f := fitV_f _ (List.getElem_mem hlt')
      refine callK_mono (sfits_ok hSW hTW hf0) ?_
      rintro _ W2 ⟨rfl, g2⟩
      have gW2 := gW.trans g2
      by_cases hfit : kindK ks id = i + 1
      · rw [decide_eq_true ((fits_fitV hlt').2 hfit)]
        refine condK_t ?_
        rw [if_neg (by omega), addK_i, addK_i, loop_step (by omega)]
        refine ⟨⟨i + 1, hlt', ?_, gW2⟩, by rw [iOf1, iOf1]; omega⟩
        rw [if_pos (by omega)]; rfl
      · rw [decide_eq_false (fun h => hfit ((fits_fitV hlt').1 h))]
        refine condK_f ?_
        rw [addK_i, loop_step (by omega)]
        refine ⟨⟨i + 1, hlt', ?_, gW2⟩, by rw [iOf1, iOf1]; omega⟩
        congr 2
        by_cases hq : 1 ≤ kindK ks id ∧ kindK ks id ≤ i
        · rw [if_pos hq, if_pos (by omega)]
        · rw [if_neg hq, if_neg (by omega)]
    · have : i = 4 := by omega
      subst this
      refine callK_mono (sfind_ok hSW id) ?_
      rintro _ W2 ⟨rfl, g2⟩
      refine extK_i (vs := [_, _]) (by rfl) (extK_i (vs := [_, _]) (by rfl) ?_)
      generalize hk : (findK ks id).getD DKey.zero = k
      refine newst_n (vs := k.cells) rfl rfl (RKey.one (w := w) (x := k) rfl) fun b5 W3 hb5 hz5 g5 hc5 _ => ?_
      have g13 := g2.trans g5
      have gS3 := gS.trans g13
      -- what no value of a key has
      have nofit : ∀ x : AVal, ¬ ValOK x → 0 ≤ x.f → ∀ {W' : World} {K : Cont}, Grow w1 W' → (∀ W'', Grow w1 W'' → K (.bool false) W'') → callK Tryd.prog 14 [sv, .int .i64 id, .agg x.cells.toArray] K W' := by
        intro x hx hf W' K g' hK
        refine callK_mono (sfits_ok (hS.grow g') (hT1.grow g') hf) ?_
        rintro _ W'' ⟨rfl, g''⟩
        rw [decide_eq_false (by rintro ⟨_, _, h, _⟩; exact hx h)]
        exact hK _ (g'.trans g'')
      have tail : ∀ {W' : World}, Grow w1 W' → buildK [(0, 1), (1, 1), (2, 1), (3, 1)] [(.int .u8 0), (.int .i64 0), (.int .u64 0), (.string (ByteArray.mk #[]))] [] fun t73 =>
          callK Tryd.prog 14 [sv, .int .i64 id, t73] (fun t74 w13 =>
          notK t74 fun t75 =>
          condK t75
          (buildK [(0, 1), (1, 1), (2, 1), (3, 1)] [(.int .u8 0), (.int .i64 0), (.int .u64 0), (.string (ByteArray.mk #[]))] [(0, (.int .u8 3)), (2, (.int .u64 9221120237041090561))] fun t80 =>
          callK Tryd.prog 14 [sv, .int .i64 id, t80] (fun t81 w14 =>
          notK t81 fun t82 =>
          condK t82
          (callK Tryd.prog 13 [] (fun t85 w15 => t85 = .bool true ∧ Grow w w15) w14)
          ((Value.bool false) = .bool true ∧ Grow w w14)) w13)
          ((Value.bool false) = .bool true ∧ Grow w w13)) W' := by
        intro W' g'
        refine ⟨(⟨0, 0, 0, noS⟩ : AVal).cells.toArray, by kernel_rfl, ?_⟩
        refine nofit ⟨0, 0, 0, noS⟩ (by decide +kernel) (by decide) g' fun W2' g2' => ?_
        rw [notK_i]
        refine condK_t ⟨(⟨3, 0, 9221120237041090561, noS⟩ : AVal).cells.toArray, by kernel_rfl, ?_⟩
        refine nofit ⟨3, 0, 9221120237041090561, noS⟩ (by decide +kernel) (by decide) g2' fun W3' g3' => ?_
        rw [notK_i]
        exact condK_t (kn (g1.trans g3'))
      rcases hkind with ⟨h0, hf⟩ | ⟨k', hf, hid, hkk, h1, h4⟩
      · rw [hf, h0, if_neg (by omega), eqK_i, Option.isSome_none, beqK_i]
        refine condK_t ?_
        rw [eqK_i]
        refine condK_p (fun _ => ?_) fun e => (e rfl).elim
        rw [notK_i]
        exact condK_t (tail gS3)
      · rw [hf] at hk
        simp only [Option.getD_some] at hk
        subst hk
        rw [hf, hkk, if_pos (by omega), eqK_i, Option.isSome_some, beqK_i]
        refine condK_t ?_
        rw [eqK_i]
        refine condK_p (fun e => by cases e) fun _ => ?_
        rw [eqK_i]
        refine condK_p (fun _ => ?_) fun e => (e rfl).elim
        rw [notK_i]
        refine condK_f ?_
        rw [faK_i]
        refine ld1K_i (hc5 0 _ rfl) ?_
        rw [eqK_i]
        exact condK_p (fun _ => tail gS3) fun e => (e hid).elim
  · rw [neK_i]
    refine condK_neg (fun _ => ?_) fun e => (e rfl).elim
    rw [lenK_i, gtK_i]
    refine condK_p (fun hbig => ?_) fun _ => rfl
    have := hM.1; omega
end Go.Proofs.YtmfplfaeibehiaaDoor

namespace Go.K
open Go
/-- 'append([]T{}, xs...)' -/
theorem append_fresh {α : Type} {P : Program} {t ty e k bytes : Nat} {R : World → List Value → α → Prop} {S : Nat → Prop} {w : World} {v : Value} {l : List α} {K : Cont} (hE : ElemOK P t e k bytes) (h : SlR S k R w v l) (hk : 0 < k)
    (hone : ∀ w r y, R w r y → ∀ u ∈ r, u.oneCell' = true) (hR : ∀ w1 w2 r y, R w1 r y → R w2 r y) (hl : l.length * bytes ≤ 140737488355328) (hm : l.length ≤ maxLen)
    (hK : ∀ v' w', OwnR w.heap.size e k R w' v' l → Grow w w' → K v' w') : rowK e k 0 [] [] (fun s w1 => runK P (Builtin.append_ #[t, t] ty [s, v].toArray) K w1) w := by
  refine rowK_empty ?_
  have hg : Grow w (w.alloc (.cells #[] e)) := Mod.alloc _ _ _
  have ho : OwnR w.heap.size e k R (w.alloc (.cells #[] e)) (.slice (some ⟨w.heap.size, 0, none⟩) 0 0) ([] : List α) := OwnR.made (Nat.le_refl _)
  obtain ⟨v', w', h1, h2, h3, h4⟩ := OwnR.append (ty := ty) hE ho (h.grow hg hk fun _ _ h => hR _ _ _ _ h) (fun _ _ => hone _ _ _) (by simpa using hl) (by simp) (by simpa using hm) (fun _ _ _ _ h => hR _ _ _ _ h)
  refine runK_i h1 (hK _ _ (h2.base fun g hg' => ?_) (hg.next (Mod.of_grownBy h3) ?_))
  · rcases h4 g hg' with h | h
    · cases h; exact Nat.le_refl _
    · simp only [World.size_alloc] at h; omega
  · intro b hb e; simp only [Value.ownBlock, Option.some.injEq] at e; omega
end Go.K
namespace Go.Proofs.YtmfplfaeibehiaaDoor
open Go Go.K

/-- the keys by rising ids -/
def sortedK (keys : List DKey) : List DKey := (List.range 1000).filterMap fun i : Nat => findK keys ((i : Int) + 1)
theorem findK_id {keys : List DKey} {id : Int} {k : DKey} (h : findK keys id = some k) : k.id = id := by
  have := List.find?_some h; simpa using this
theorem sortedK_eq {keys ks : List DKey} (hM : MayKeys keys) (hp : ks.Perm keys) (hs : ks.Pairwise fun x y => x.id < y.id) : sortedK keys = ks := by
  obtain ⟨_, h2, h3⟩ := mayk_iff.1 hM
  have hpw : (sortedK keys).Pairwise fun x y => x.id < y.id := by
    unfold sortedK
    rw [List.pairwise_filterMap]
    refine List.Pairwise.imp ?_ List.pairwise_lt_range
    intro a b hab x hx y hy
    have := findK_id hx
    have := findK_id hy
    omega
  refine strict_uniq ?_ hpw hs
  have nd : ∀ {l : List DKey}, (l.Pairwise fun x y => x.id < y.id) → l.Nodup := fun h => List.Pairwise.imp (fun {x y} h e => by rw [e] at h; omega) h
  refine (List.perm_ext_iff_of_nodup (nd hpw) (nd hs)).2 fun k => ?_
  rw [hp.mem_iff]
  unfold sortedK
  rw [List.mem_filterMap]
  constructor
  · rintro ⟨i, _, h⟩
    exact List.mem_of_find?_eq_some h
  · intro hk
    have ok := h2 k hk
    have := ok.1
    have := ok.2.1
    refine ⟨(k.id - 1).toNat, List.mem_range.2 (by omega), ?_⟩
    rw [findK_iff h3]
    exact ⟨hk, by omega⟩
set_option maxRecDepth 20000 in
theorem rkeys_ok {S : Nat → Prop} {kv : Value} {keys : List DKey} {w : World} (h : RKeys S w kv keys) :
    callK Tryd.prog 18 [kv] (fun v' w' => OwnR w.heap.size 34 6 RKey w' v' (sortedK keys) ∧ Grow w w') w := by
  apply S18_ok
  unfold S18
  refine LoopK_i (fun vs W => ∃ (i : Nat) (lv : Value), i ≤ 1000 ∧ vs = [lv, .int .i64 ((i : Int) + 1)] ∧ OwnR w.heap.size 34 6 RKey W lv ((List.range i).filterMap fun i : Nat => findK keys ((i : Int) + 1)) ∧ Grow w W) (fun vs _ => 1001 - iOf vs 1)
    ⟨0, _, Nat.zero_le _, rfl, OwnR.nil, Mod.refl _ _⟩ ?_
  rintro vs W ⟨i, lv, hi, rfl, ho, g⟩ _
  simp only [nth_s, nth_z, List.headD_cons, List.tail_cons]
  rw [leK_i]
  refine condK_p (fun hle => ?_) fun hgt => ?_
  · refine callK_mono (find_ok (h.grow g (by decide) fun _ _ h => h)) ?_
    rintro _ W1 ⟨rfl, g1⟩
    refine extK_i (vs := [_, _]) (by rfl) (extK_i (vs := [_, _]) (by rfl) ?_)
    generalize hk : (findK keys ((i : Int) + 1)).getD DKey.zero = k
    refine newst_n (vs := k.cells) rfl rfl (RKey.one (w := w) (x := k) rfl) fun b5 W2 hb5 hz5 g5 hc5 _ => ?_
    have g12 := g1.trans g5
    have gW := g.trans g12
    have ho2 : OwnR w.heap.size 34 6 RKey W2 lv ((List.range i).filterMap fun i : Nat => findK keys ((i : Int) + 1)) := OwnR.mod ho g12 (fun _ _ h => h) fun _ _ _ h => h
    have hlen : ((List.range i).filterMap fun i : Nat => findK keys ((i : Int) + 1)).length ≤ i := by
      have := List.length_filterMap_le (fun i : Nat => findK keys ((i : Int) + 1)) (List.range i)
      rwa [List.length_range] at this
    have hstep : ((List.range (i + 1)).filterMap fun i : Nat => findK keys ((i : Int) + 1)) = ((List.range i).filterMap fun i : Nat => findK keys ((i : Int) + 1)) ++ (findK keys ((i : Int) + 1)).toList := by
      rw [List.range_succ, List.filterMap_append]
      cases hq : findK keys ((i : Int) + 1) <;> simp [hq]
    cases hf : findK keys ((i : Int) + 1) with
    | none =>
      rw [Option.isSome_none]
      refine condK_f ?_
      rw [addK_i, wrap64 (by omega) (by omega)]
      refine ⟨⟨i + 1, lv, by omega, rfl, ?_, gW⟩, by rw [iOf1, iOf1]; omega⟩
      rw [hstep, hf]; simpa using ho2
    | some k' =>
      rw [hf] at hk
      simp only [Option.getD_some] at hk
      subst hk
      rw [Option.isSome_some]
      refine condK_t ?_
      refine ldnK_i (vs := k'.cells) rfl hc5 ?_
      refine push_n (w0 := w) elem_key ho2 gW (cs := k'.cells) (x := k') (by kernel_rfl) rfl rfl (fun _ _ _ => RKey.one) (fun _ _ _ _ _ _ h => h) (by omega) (by simp only [maxLen]; omega) fun v' w' o' g' => ?_
      rw [addK_i, wrap64 (by omega) (by omega)]
      refine ⟨⟨i + 1, v', by omega, rfl, ?_, g'⟩, by rw [iOf1, iOf1]; omega⟩
      rw [hstep, hf]; exact o'
  · have : i = 1000 := by omega
    subst this
    exact ⟨ho, g⟩
/-- the document's group -/
theorem rgroup_ok {S : Nat → Prop} {kv : Value} {keys ks : List DKey} {id : Int} {w : World} (h : RKeys S w kv keys) (hM : MayKeys keys) (hp : ks.Perm keys) (hs : ks.Pairwise fun x y => x.id < y.id) :
    callK Tryd.prog 22 [kv, .int .i64 id] (fun v' w' => OwnR w.heap.size 3 1 RNum w' v' (groupK ks id) ∧ Grow w w') w := by
  apply S22_ok
  unfold S22
  have hse := sortedK_eq hM hp hs
  have hfp : findK keys id = findK ks id := (findK_perm hp (strict_dist hs) id).symm
  have hkl : ks.length ≤ 64 := by rw [hp.length_eq]; exact hM.1
  refine callK_mono (find_ok h) ?_
  rintro _ w1 ⟨rfl, g1⟩
  rw [hfp]
  refine extK_i (vs := [_, _]) (by rfl) (extK_i (vs := [_, _]) (by rfl) ?_)
  generalize hk : (findK ks id).getD DKey.zero = k
  refine newst_n (vs := k.cells) rfl rfl (RKey.one (w := w) (x := k) rfl) fun b5 w2 hb5 hz5 g5 hc5 _ => ?_
  have g12 := g1.trans g5
  refine callK_mono (rkeys_ok (h.grow g12 (by decide) fun _ _ h => h)) ?_
  rintro lv w3 ⟨ol, g3⟩
  rw [hse] at ol
  have g03 := g12.trans g3
  have hl := OwnR.sl ol
  obtain ⟨la, lc, rfl, hm⟩ := hl.shape
  have hc5' : ∀ j u, k.cells[j]? = some u → w3.cell? ((⟨b5, 0, none⟩ : Addr).add j) = some u := fun j u hu => g3.cell (hc5 j u hu) fun h => h
  cases hf : findK ks id with
  | none =>
    rw [Option.isSome_none]
    refine LoopK_i (fun vs W => vs = [.slice none 0 0, .int .i64 0] ∧ W = w3) (fun _ _ => 0) ⟨rfl, rfl⟩ ?_
    rintro _ _ ⟨rfl, rfl⟩ _
    refine JoinK_i (fun _ _ => False) (fun _ _ h => h.elim) ?_
    refine condK_f ⟨?_, g03⟩
    have : groupK ks id = [] := by unfold groupK; rw [hf]
    rw [this]; exact OwnR.nil
  | some k' =>
    rw [hf] at hk
    simp only [Option.getD_some] at hk
    subst hk
    rw [Option.isSome_some]
    have c5 := hc5' 5 _ rfl
    by_cases h0 : k'.group = 0
    · refine LoopK_i (fun vs W => vs = [.slice none 0 0, .int .i64 0] ∧ W = w3) (fun _ _ => 0) ⟨rfl, rfl⟩ ?_
      rintro _ _ ⟨rfl, rfl⟩ _
      refine JoinK_i (fun _ _ => False) (fun _ _ h => h.elim) ?_
      refine condK_t ?_
      rw [faK_i]
      refine ld1K_i c5 ?_
      rw [neK_i]
      refine condK_neg (fun _ => ⟨?_, g03⟩) fun e => (e h0).elim
      have : groupK ks id = [] := by unfold groupK; rw [hf]; exact if_pos h0
      show OwnR _ _ _ _ _ (Value.slice none 0 0) _
      rw [this]; exact OwnR.nil
    have hG : groupK ks id = (ks.filter fun o => decide (o.group = k'.group ∧ o.id ≠ id)).map (·.id) := by
      unfold groupK; rw [hf]; exact if_neg h0
    rw [hG]
    generalize hp' : (fun o : DKey => decide (o.group = k'.group ∧ o.id ≠ id)) = p
    have hpd : ∀ o : DKey, p o = true ↔ o.group = k'.group ∧ o.id ≠ id := fun o => by rw [← hp']; exact decide_eq_true_iff
    refine LoopK_i (fun vs W => ∃ (i : Nat) (ov : Value), i ≤ ks.length ∧ vs = [ov, .int .i64 i] ∧ OwnR w3.heap.size 3 1 RNum W ov (((ks.take i).filter p).map (·.id)) ∧ Grow w3 W) (fun vs _ => ks.length - iOf vs 1)
      ⟨0, _, Nat.zero_le _, rfl, OwnR.nil, Mod.refl _ _⟩ ?_
    rintro vs W ⟨i, ov, hi, rfl, ho, gW⟩ _
    have g0W := g03.trans gW
    simp only [nth_s, nth_z, List.headD_cons, List.tail_cons]
    refine JoinK_i (fun _ W' => i < ks.length ∧ W' = W) ?_ ?_
    · rintro _ _ ⟨hlt, rfl⟩ _
      rename World => W
      obtain ⟨q, r, rfl, _, hr, hc, rfl⟩ := (hl.grow gW (by decide) fun _ _ h => h).get hlt
      have hlen : (((ks.take i).filter p).map (·.id)).length ≤ i := by
        rw [List.length_map]
        refine Nat.le_trans (List.length_filter_le _ _) ?_
        rw [List.length_take]; omega
      have tk : ks.take (i + 1) = ks.take i ++ [ks[i]] := by rw [List.take_add_one, List.getElem?_eq_getElem hlt]; rfl
      refine JoinK_i (fun vs W' => ∃ ov', vs = [ov'] ∧ OwnR w3.heap.size 3 1 RNum W' ov' (((ks.take (i + 1)).filter p).map (·.id)) ∧ Grow w3 W') ?_ ?_
      · rintro vs W' ⟨ov', rfl, o', g'⟩ _
        rw [addK_i, loop_step (by omega)]
        exact ⟨⟨i + 1, ov', hlt, rfl, o', g'⟩, by rw [iOf1, iOf1]; omega⟩
      · have skip : ¬ (p ks[i] = true) → (((ks.take (i + 1)).filter p).map (·.id)) = (((ks.take i).filter p).map (·.id)) := fun hn => by
          rw [tk, List.filter_append]; simp [hn]
        refine drawK_i (fun W' => Grow W W') (Mod.drew _ _) ?_
        refine ixK_n hlt ?_
        rw [faK_i, Addr.add_add]
        refine qld1K_i (fun w2 g2 => g2.cell (hc 5 _ rfl) fun h => h) ?_
        rw [faK_i]
        refine qld1K_i (fun w2 g2 => g2.cell (gW.cell c5 fun h => h) fun h => h) ?_
        rw [eqK_i]
        refine condK_p (fun hg => ?_) fun hg => fun W' g' => ?_
        · refine ixK_n hlt ?_
          rw [faK_i, Addr.add_add]
          refine qld1K_i (fun w2 g2 => g2.cell (hc 0 _ rfl) fun h => h) ?_
          rw [neK_i]
          intro W' g'
          have ho' : OwnR w3.heap.size 3 1 RNum W' ov (((ks.take i).filter p).map (·.id)) := OwnR.mod ho g' (fun _ _ h => h) fun _ _ _ h => h
          refine condK_neg (fun he => ?_) fun he => ?_
          · exact ⟨ov, rfl, by rw [skip (fun h => ((hpd _).1 h).2 he)]; exact ho', gW.trans g'⟩
          · refine ixK_n hlt ?_
            rw [faK_i, Addr.add_add]
            refine ld1K_i (g'.cell (hc 0 _ rfl) fun h => h) ?_
            refine push_n (w0 := w3) elem_int ho' (gW.trans g') (cs := [.int .i64 ks[i].id]) (x := ks[i].id) (by kernel_rfl) rfl rfl (fun _ _ _ => RNum.one) (fun _ _ _ _ _ _ h => h) (by omega) (by simp only [maxLen]; omega) fun v' w' o' gp => ?_
            refine ⟨v', rfl, ?_, gp⟩
            rw [tk, List.filter_append]
            simpa [(hpd ks[i]).2 ⟨hg, he⟩] using o'
        · have ho' : OwnR w3.heap.size 3 1 RNum W' ov (((ks.take i).filter p).map (·.id)) := OwnR.mod ho g' (fun _ _ h => h) fun _ _ _ h => h
          exact ⟨ov, rfl, by rw [skip (fun h => hg ((hpd _).1 h).1)]; exact ho', gW.trans g'⟩
    · refine condK_t ?_
      rw [faK_i]
      refine ld1K_i (gW.cell c5 fun h => h) ?_
      rw [neK_i]
      refine condK_neg (fun e => (h0 e).elim) fun _ => ?_
      rw [lenK_i, ltK_i]
      refine condK_p (fun hlt => ⟨by omega, rfl⟩) fun hge => ?_
      have : i = ks.length := by omega
      subst this
      rw [List.take_length] at ho
      exact ⟨ho.base fun g hg => by have := (OwnR.ownB ho g hg).1; have := g03.size; omega, g0W⟩
end Go.Proofs.YtmfplfaeibehiaaDoor

namespace Go.K
open Go
/-- a number stored into a row of the call's own -/
theorem row_store {α : Type} {B e k : Nat} {R : World → List Value → α → Prop} {W : World} {a : Addr} {n c : Nat} {l : List α} {i j : Nat} {u : Value} {x' : α} {K : World → Prop} (h : OwnR B e k R W (.slice (some a) n c) l) (hi : i < l.length) (hj : j < k)
    (hu : u.oneCell' = true) (hu2 : u.cells = #[u]) (hR : ∀ w1 w2 r y, R w1 r y → R w2 r y) (hx : ∀ w1 w2 r, R w1 r l[i] → R w2 (r.set j u) x')
    (hK : ∀ W', OwnR B e k R W' (.slice (some a) n c) (l.set i x') → Mod (fun b => b = a.block) W W' → K W') : st1K (.pointer (some (a.add (i * k + j)))) u K W := by
  obtain ⟨⟨v, hv⟩, hf, ho, hm⟩ := OwnR.store (R' := R) (u := u) (x' := x') (j := j) h hi hj hu (fun r y _ hr => hR _ _ _ _ hr) (fun r hr => hx _ _ _ hr)
  exact st1K_i hu hu2 hv hf (hK _ ho hm)
/-- 'for i := range l { l[i].First++ }' -/
theorem inc_loop {α : Type} {B e k : Nat} {R : World → List Value → α → Prop} {w : World} {v : Value} {l : List α} {Rest : World → Prop} (h : OwnR B e k R w v l) (hk : 0 < k) (hl : l.length ≤ 1099511627776)
    (hR : ∀ w1 w2 r y, R w1 r y → R w2 r y) (hget : ∀ y : α, ∃ x, ∀ w r, R w r y → r[0]? = some (.int .i64 x)) (hset : ∀ (y : α) (z : Int), ∃ y' : α, ∀ w1 w2 r, R w1 r y → R w2 (r.set 0 (.int .i64 z)) y')
    (hK : ∀ W l', OwnR B e k R W v l' → Mod (fun b => v.ownBlock = some b) w W → Rest W) :
    LoopK [.int .i64 0] (fun vs again w6 => ∀ _h : Env, ltK .i64 (nth vs 0) (.int .i64 l.length) fun t43 => condK t43
      (ixK k v (nth vs 0) fun t47 => faK 0 t47 fun t48 => ld1K t48 (fun t49 w7 => addK .i64 t49 (.int .i64 1) fun t50 => ixK k v (nth vs 0) fun t51 => faK 0 t51 fun t52 => st1K t52 t50 (fun w8 => addK .i64 (nth vs 0) (.int .i64 1) fun t53 => again [t53] w8) w7) w6) (Rest w6)) w := by
  refine LoopK_i (fun vs W => ∃ (i : Nat) (l' : List α), i ≤ l.length ∧ vs = [.int .i64 i] ∧ l'.length = l.length ∧ OwnR B e k R W v l' ∧ Mod (fun b => v.ownBlock = some b) w W) (fun vs _ => l.length - iOf vs 0) ⟨0, l, Nat.zero_le _, rfl, rfl, h, Mod.refl _ _⟩ ?_
  rintro vs W ⟨i, l', hi, rfl, hl', ho, hm⟩ _
  rw [nth_z, List.headD_cons, ltK_i]
  refine condK_p (fun hlt => ?_) fun hge => hK W l' ho hm
  have hlt' : i < l'.length := by omega
  obtain ⟨a, c, rfl, _⟩ := (OwnR.sl ho).shape
  obtain ⟨p, r, rfl, hp, hr, hc, hRr⟩ := (OwnR.sl ho).get hlt'
  obtain ⟨x, hx⟩ := hget l'[i]
  refine ixK_n hlt' ?_
  rw [faK_i, Addr.add_add]
  refine ld1K_i (hc 0 _ (hx _ _ hRr)) ?_
  rw [addK_i]
  refine ixK_n hlt' ?_
  rw [faK_i, Addr.add_add]
  obtain ⟨y', hy'⟩ := hset l'[i] (IntKind.i64.wrap (x + 1))
  refine row_store ho hlt' hk rfl rfl hR hy' fun W' ho' hm' => ?_
  rw [addK_i, loop_step (by omega)]
  exact ⟨⟨i + 1, _, by omega, rfl, by rw [List.length_set]; exact hl', ho', hm.trans (hm'.mono fun b _ e => by rw [e]; exact hp.2)⟩, by rw [iOf0, iOf0]; omega⟩
end Go.K
namespace Go.Proofs.YtmfplfaeibehiaaDoor
open Go Go.K

theorem key_get (y : DKey) : ∃ x, ∀ (w : World) r, RKey w r y → r[0]? = some (.int .i64 x) := ⟨y.id, fun _ _ e => by rw [e]; rfl⟩
theorem key_set (y : DKey) (z : Int) : ∃ y' : DKey, ∀ (w1 w2 : World) r, RKey w1 r y → RKey w2 (r.set 0 (.int .i64 z)) y' := ⟨{ y with id := z }, fun _ _ _ e => by rw [e]; rfl⟩
theorem set_tail {α : Type} {l' ks : List α} {i : Nat} {y : α} (h : ∀ j, i ≤ j → l'[j]? = ks[j]?) : ∀ j, i + 1 ≤ j → (l'.set i y)[j]? = ks[j]? := fun j hj => by
  rw [List.getElem?_set_ne (by omega)]; exact h j (by omega)
open Classical in
set_option maxRecDepth 20000 in
theorem SchemaKeys_ok {S : Nat → Prop} {kv : Value} {keys : List DKey} {id : Int} {x : AVal} {w : World} (hT : Tabs w) (h : RKeys S w kv keys) (h0 : 0 ≤ x.f) :
    callK Tryd.prog 4 [kv, .int .i64 id, .agg x.cells.toArray] (fun v w' => v = .bool true ∧ Grow w w') w := by
  apply S4_ok
  unfold S4
  have kn : ∀ {w1 : World}, Grow w w1 → callK Tryd.prog 13 [] (fun v w' => v = .bool true ∧ Grow w w') w1 := fun g => callK_mono known04_ok fun _ _ h => ⟨h.1, g.trans h.2⟩
  refine boxn_i fun b5 w1 hb5 hz1 g1 hc1 _ => ?_
  obtain ⟨ka, kc, rfl, hmx⟩ := h.shape
  have h1 := h.grow g1 (by decide) fun _ _ h => h
  refine JoinK_i (fun _ W => W = w1 ∧ keys.length ≤ 200 ∧ x.s.size ≤ 1000) ?_ ?_
  rotate_left
  · rw [lenK_i, gtK_i]
    refine condK_p (fun _ => kn g1) fun hk2 => ?_
    rw [faK_i]
    refine ld1K_i (hc1 3 _ rfl) ?_
    rw [slenK_i, gtK_i]
    exact condK_p (fun _ => kn g1) fun hs2 => ⟨rfl, by omega, by omega⟩
  rintro _ _ ⟨rfl, hkl, hsz⟩ _
  rename World => w1
  refine append_fresh elem_key h1 (by decide) (fun _ _ _ => RKey.one) (fun _ _ _ _ h => h) (by omega) (by simp only [maxLen]; omega) fun iv w3 oi g3 => ?_
  have g13 := g1.trans g3
  refine callK_mono (new_key_ok (OwnR.sl oi)) ?_
  rintro _ w5 ⟨g5, hr⟩
  have hoi5 : OwnR w1.heap.size 34 6 RKey w5 iv keys := OwnR.mod oi g5 (fun _ _ h => h) fun _ _ _ h => h
  have hib : ∀ g, iv.ownBlock = some g → w1.heap.size ≤ g ∧ g < w3.heap.size := fun g hg => OwnR.ownB oi g hg
  have g15 := g13.trans g5
  have z1 := g1.size
  have grow6 : ∀ {W}, Mod (fun b => iv.ownBlock = some b) w5 W → Grow w W := fun m => g15.next m fun b hb e => by have := (hib b e).1; omega
  obtain ⟨ia, ic, rfl, _⟩ := oi.sl.shape
  rcases hr with ⟨hM, sv, ks, rfl, hp, hs, hS⟩ | ⟨hn, rfl⟩
  rotate_left
  · refine extK_i (vs := [_, _]) (by rfl) (extK_i (vs := [_, _]) (by rfl) ?_)
    rw [lenK_i]
    refine inc_loop hoi5 (by decide) (by omega) (fun _ _ _ _ h => h) key_get key_set fun W l' ho hm => ?_
    have gW := grow6 hm
    refine callK_mono (rmay_ok (h.grow gW (by decide) fun _ _ h => h)) ?_
    rintro _ W2 ⟨rfl, g2⟩
    rw [decide_eq_false hn, notK_i]
    refine condK_t ?_
    rw [pnilK_i]
    refine condK_t ?_
    rw [eqK_i]
    exact condK_p (fun _ => kn (gW.trans g2)) fun e => (e rfl).elim
  refine extK_i (vs := [_, _]) (by rfl) (extK_i (vs := [_, _]) (by rfl) ?_)
  rw [lenK_i]
  refine inc_loop hoi5 (by decide) (by omega) (fun _ _ _ _ h => h) key_get key_set fun W l' ho hm => ?_
  have gW := grow6 hm
  have hS6 : SchR (fun b => w3.heap.size ≤ b) W sv ks := hS.mod hm fun b _ hb e => by have := (hib b e).2; omega
  have hW := h.grow gW (by decide) fun _ _ h => h
  have gW1 : Grow w1 W := (g3.trans g5).next hm fun b hb e => by have := (hib b e).1; omega
  clear ho hm hoi5 oi
  refine callK_mono (rmay_ok hW) ?_
  rintro _ W2 ⟨rfl, g2⟩
  rw [decide_eq_true hM, notK_i]
  refine condK_f ?_
  have gW2 := gW.trans g2
  have hS2 := hS6.grow g2
  have hks : ks.length = keys.length := hp.length_eq
  refine JoinK_i (fun _ W' => W' = W2) ?_ ?_
  rotate_left
  · rw [neK_i]
    refine condK_neg (fun _ => ?_) fun e => (e rfl).elim
    refine callK_mono (slen_ok hS2) ?_
    rintro _ _ ⟨rfl, rfl⟩
    rename World => W2
    rw [lenK_i, neK_i]
    exact condK_neg (fun _ => rfl) fun e => (e (by rw [hks])).elim
  rintro _ _ rfl _
  rename World => W2
  refine callK_mono (rkeys_ok (hW.grow g2 (by decide) fun _ _ h => h)) ?_
  rintro tv W3 ⟨ot, g3'⟩
  rw [sortedK_eq hM hp hs] at ot
  have hSt := OwnR.sl ot
  have gW3 := gW2.trans g3'
  have hS3 := hS2.grow g3'
  clear ot
  have h3 := h.grow gW3 (by decide) fun _ _ h => h
  obtain ⟨ta, tc, rfl, _⟩ := hSt.shape
  have hT3 := hT.grow gW3
  have hc3 : ∀ {W'}, Grow W3 W' → ∀ j u, x.cells[j]? = some u → W'.cell? ((⟨b5, 0, none⟩ : Addr).add j) = some u := by
    intro W' g' j u hu
    exact (gW1.trans (g2.trans (g3'.trans g'))).cell (hc1 j u hu) fun h => h
  refine LoopK_i (fun vs W => ∃ q : Nat, q ≤ 2 ∧ vs = [.int .i64 q] ∧ Grow W3 W) (fun vs _ => 2 - iOf vs 0) ⟨0, Nat.zero_le _, rfl, Mod.refl _ _⟩ ?_
  rintro vs W4 ⟨q, hq, rfl, g4⟩ _
  rw [nth_z, List.headD_cons, ltK_i]
  refine condK_p (fun hlt => ?_) fun hge => kn (gW3.trans g4)
  have hq' : q < 2 := by omega
  refine callK_mono (skeys_ok (hS3.grow g4) (by omega)) ?_
  rintro lv W5 ⟨ol, g5'⟩
  obtain ⟨la, lc, rfl, _⟩ := ol.sl.shape
  rw [lenK_i, lenK_i, neK_i]
  refine condK_neg (fun _ => ?_) fun e => (e rfl).elim
  rw [lenK_i]
  refine LoopK_i (fun vs W => ∃ (i : Nat) (l' : List DKey), i ≤ ks.length ∧ vs = [.int .i64 i] ∧ l'.length = ks.length ∧ (∀ j, i ≤ j → l'[j]? = ks[j]?) ∧ OwnR W4.heap.size 34 6 RKey W (.slice la ks.length lc) l' ∧ Grow W4 W) (fun vs _ => ks.length - iOf vs 0)
    ⟨0, ks, Nat.zero_le _, rfl, rfl, fun _ _ => rfl, ol, g5'⟩ ?_
  rintro vs W6 ⟨i, l', hi, rfl, hl', htl, ho, g6⟩ _
  rw [nth_z, List.headD_cons, ltK_i]
  refine condK_p (fun hlt2 => ?_) fun hge2 => ?_
  · have hlt' : i < ks.length := by omega
    have hlt'' : i < l'.length := by omega
    have he : l'[i] = ks[i] := by
      have := htl i (Nat.le_refl _)
      rw [List.getElem?_eq_getElem hlt'', List.getElem?_eq_getElem hlt'] at this
      exact Option.some.inj this
    obtain ⟨p, r, rfl, hpb, hr, hc, rfl⟩ := (OwnR.sl ho).get hlt''
    obtain ⟨p2, r2, rfl, _, hr2, hc2, rfl⟩ := (hSt.grow (g4.trans g6) (by decide) fun _ _ h => h).get hlt'
    refine drawK_i (fun W' => Grow W6 W') (Mod.drew _ _) ?_
    refine ixK_n hlt' (qldnK_i hr (fun w2 h2 j u hu => by rw [Addr.add_add]; exact h2.cell (hc j u hu) fun h => h) ?_)
    refine ixK_n hlt' (qldnK_i hr2 (fun w2 h2 j u hu => by rw [Addr.add_add]; exact h2.cell (hc2 j u hu) fun h => h) ?_)
    refine ⟨_, fun w2 _ => run_ne_key _ _ _ _ w2, ?_⟩
    intro W7 g7
    refine condK_neg (fun _ => ?_) fun e => (e he).elim
    refine ixK_n hlt' ?_
    rw [faK_i, Addr.add_add]
    have ho7 : OwnR W4.heap.size 34 6 RKey W7 (.slice (some p) ks.length lc) l' := OwnR.mod ho g7 (fun _ _ h => h) fun _ _ _ h => h
    refine row_store (x' := { l'[i] with kind := 0 }) ho7 hlt'' (by decide) rfl rfl (fun _ _ _ _ h => h) (fun _ _ r e => by rw [e]; rfl) fun W8 ho8 hm8 => ?_
    rw [addK_i, loop_step (by omega)]
    refine ⟨⟨i + 1, _, hlt', rfl, by rw [List.length_set]; exact hl', set_tail htl, ho8, (g6.trans g7).next hm8 fun b hb e => ?_⟩, by rw [iOf0, iOf0]; omega⟩
    have := hpb.1
    rw [e] at hb
    omega
  have g36 := g4.trans g6
  have hS6' := hS3.grow g36
  refine callK_mono (sfind_ok hS6' id) ?_
  rintro _ W7 ⟨rfl, g7⟩
  refine extK_i (vs := [_, _]) (by rfl) (extK_i (vs := [_, _]) (by rfl) ?_)
  generalize hk : (findK ks id).getD DKey.zero = k
  have kone := RKey.one (w := w) (x := k) rfl
  refine newst_n (vs := k.cells) rfl rfl kone fun b15 W8 _ _ g8 hc8 _ => ?_
  have g78 := g7.trans g8
  have g38 := g36.trans g78
  refine callK_mono (find_ok (h3.grow g38 (by decide) fun _ _ h => h)) ?_
  rintro _ W9 ⟨rfl, g9⟩
  have hfp : findK keys id = findK ks id := (findK_perm hp (strict_dist hs) id).symm
  rw [hfp, hk]
  refine extK_i (vs := [_, _]) (by rfl) (extK_i (vs := [_, _]) (by rfl) ?_)
  refine newst_n (vs := k.cells) rfl rfl kone fun b17 W10 _ _ g10 hc10 _ => ?_
  have g310 := (g38.trans g9).trans g10
  refine callK_mono (sgroup_ok (hS3.grow g310) (by omega) id) ?_
  rintro gv W11 ⟨og, g11⟩
  have g311 := g310.trans g11
  refine callK_mono (rgroup_ok (id := id) (h3.grow g311 (by decide) fun _ _ h => h) hM hp hs) ?_
  rintro hv W12 ⟨oh, g12⟩
  have g312 := g311.trans g12
  have hgb := OwnR.ownB og
  have og12 : OwnR W10.heap.size 3 1 RNum W12 gv (groupK ks id) := OwnR.mod og g12 (fun _ _ h => h) fun _ _ _ h => h
  have hh := OwnR.sl oh
  have hgl : (groupK ks id).length ≤ ks.length := group_len
  obtain ⟨ga, gc, rfl, _⟩ := og12.sl.shape
  obtain ⟨ha, hc', rfl, _⟩ := hh.shape
  clear og oh ho ol
  refine JoinK_i (fun _ W' => Grow W12 W') ?_ ?_
  · rintro _ W13 g13' _
    have og13 : OwnR W10.heap.size 3 1 RNum W13 (.slice ga (groupK ks id).length gc) (groupK ks id) := OwnR.mod og12 g13' (fun _ _ h => h) fun _ _ _ h => h
    have hh13 := hh.grow g13' (by decide) fun _ _ h => h
    rw [lenK_i]
    generalize groupK ks id = gl at og13 hh13 hgl hgb ⊢
    refine LoopK_i (fun vs W => ∃ (i : Nat) (l' : List Int), i ≤ gl.length ∧ vs = [.int .i64 i] ∧ l'.length = gl.length ∧ (∀ j, i ≤ j → l'[j]? = gl[j]?) ∧ OwnR W10.heap.size 3 1 RNum W (.slice ga gl.length gc) l' ∧ SlR (fun b => W11.heap.size ≤ b) 1 RNum W (.slice ha gl.length hc') gl ∧ Grow W3 W) (fun vs _ => gl.length - iOf vs 0)
      ⟨0, gl, Nat.zero_le _, rfl, rfl, fun _ _ => rfl, og13, hh13.sub (fun b _ hb => hb.1) (by decide) fun _ _ h => h, g312.trans g13'⟩ ?_
    rintro vs W14 ⟨i, l', hi, rfl, hl', htl, ho, hhW, g14⟩ _
    rw [nth_z, List.headD_cons, ltK_i]
    refine condK_p (fun hlt2 => ?_) fun hge2 => ?_
    · have hlt' : i < gl.length := by omega
      have hlt'' : i < l'.length := by omega
      have he : l'[i] = gl[i] := by
        have := htl i (Nat.le_refl _)
        rw [List.getElem?_eq_getElem hlt'', List.getElem?_eq_getElem hlt'] at this
        exact Option.some.inj this
      have hob := OwnR.ownB ho
      obtain ⟨p, r, rfl, hpb, hr, hc, rfl⟩ := (OwnR.sl ho).get hlt''
      obtain ⟨p2, r2, rfl, _, hr2, hc2, rfl⟩ := hhW.get hlt'
      refine drawK_i (fun W' => Grow W14 W') (Mod.drew _ _) ?_
      refine ixK_n hlt' (qld1K_i (fun w2 h2 => h2.cell (hc 0 _ rfl) fun h => h) ?_)
      refine ixK_n hlt' (qld1K_i (fun w2 h2 => h2.cell (hc2 0 _ rfl) fun h => h) ?_)
      rw [neK_i]
      intro W15 g15'
      refine condK_neg (fun _ => ?_) fun e => (e he).elim
      refine ixK_n hlt' ?_
      have ho15 : OwnR W10.heap.size 3 1 RNum W15 (.slice (some p) gl.length gc) l' := OwnR.mod ho g15' (fun _ _ h => h) fun _ _ _ h => h
      show st1K (.pointer (some (p.add (i * 1 + 0)))) _ _ _
      refine row_store (x' := -1) ho15 hlt'' (by decide) rfl rfl (fun _ _ _ _ h => h) (fun _ _ r e => by rw [e]; rfl) fun W16 ho16 hm16 => ?_
      rw [addK_i, loop_step (by omega)]
      have hpw : p.block < W11.heap.size := (hgb p.block hpb.2).2
      refine ⟨⟨i + 1, _, hlt', rfl, by rw [List.length_set]; exact hl', set_tail htl, ho16, (hhW.grow g15' (by decide) fun _ _ h => h).mod hm16 (fun b _ hb e => by omega) (by decide) fun _ _ h => h, (g14.trans g15').next hm16 fun b hb e => ?_⟩, by rw [iOf0, iOf0]; omega⟩
      have := hpb.1
      have := g310.size
      rw [e] at hb
      omega
    · rw [addK_i, loop_step (by omega)]
      exact ⟨⟨q + 1, by omega, rfl, g14⟩, by rw [iOf0, iOf0]; omega⟩
  · refine drawC_i (fun _ _ => False) ?_
    have gd : Grow W12 W12.drew := Mod.drew _ _
    have gd3 := g312.trans gd
    refine sldn_i (vs := k.cells) rfl (fun j u hu => ⟨((g9.trans g10).trans (g11.trans (g12.trans gd))).cell (hc8 j u hu) fun h => h, fun _ _ h => h⟩) ?_
    refine sldn_i (vs := k.cells) rfl (fun j u hu => ⟨(g11.trans (g12.trans gd)).cell (hc10 j u hu) fun h => h, fun _ _ h => h⟩) ?_
    refine ⟨_, fun w2 => run_ne_key _ _ _ _ w2, ?_⟩
    refine condK_neg (fun _ => ?_) fun e => (e rfl).elim
    rw [bneK_i]
    have eb : (!((findK ks id).isSome == (findK ks id).isSome)) = false := by simp
    rw [eb]
    refine condK_f ?_
    refine sldn_i (vs := x.cells) rfl (fun j u hu => ⟨hc3 gd3 j u hu, fun _ _ h => h⟩) ?_
    refine callK_mono (sfits_ok (hS3.grow gd3) (hT3.grow gd3) h0) ?_
    rintro _ W13 ⟨rfl, g13'⟩
    refine ⟨g13', ?_⟩
    refine sldn_i (vs := x.cells) rfl (fun j u hu => ⟨hc3 gd3 j u hu, fun _ _ h => h⟩) ?_
    refine callK_mono (rfits_ok (id := id) (h3.grow (gd3.trans g13') (by decide) fun _ _ h => h) (by omega)) ?_
    rintro _ W14 ⟨rfl, g14⟩
    refine ⟨g14, ?_⟩
    have ef : FitsK ks id x ↔ FitsK keys id x := by unfold FitsK; rw [hfp]
    rw [decide_eq_decide.2 ef, bneK_i]
    have eb2 : (!(decide (FitsK keys id x) == decide (FitsK keys id x))) = false := by simp
    rw [eb2]
    refine condK_f ?_
    rw [lenK_i, lenK_i, neK_i]
    exact condK_neg (fun _ => gd.trans (g13'.trans g14)) fun e => (e rfl).elim
end Go.Proofs.YtmfplfaeibehiaaDoor

namespace Go.K
open Go
variable {H : Type} {enc : TypeId × Value → H} {P : Program} {w : World} {base : Nat} {spare : Nat → Bool} {held : Bool}
theorem SlR.of_trod {α : Type} {t e k : Nat} {R : World → List Value → α → Prop} {fuel : Nat} {cs : List Value} {x : DataW H × List MemPlace} (ht : P.underlying t = some (.slice e)) (hk : P.cellsOf e = k)
    (hel : ∀ n cs' y, DataW.trod enc P w base spare held n e cs' = some y → ∃ x, R w cs' x) (h : DataW.trod enc P w base spare held fuel t cs = some x) :
    ∃ v l, cs = [v] ∧ SlR (fun _ => True) k R w v l := by
  rcases Go.Deep.open_slice ht h with ⟨rfl, _⟩ | ⟨a, len, cap, m, n, D, Pl, rfl, hb, hl, hm, hmm, _, hall⟩
  · exact ⟨_, [], rfl, SlR.nil⟩
  · have hlm : len ≤ m := by rw [hmm]; split <;> omega
    have one : ∀ i, i < len → ∃ (cs' : List Value) (x : α), cs'.length = k ∧ (∀ j u, cs'[j]? = some u → w.cell? (a.add (i * k + j)) = some u) ∧ R w cs' x := by
      intro i hi
      obtain ⟨cs', h1, h2⟩ := hall i (by omega)
      obtain ⟨x, hx⟩ := hel n cs' _ h2
      obtain ⟨_, hlen, hc⟩ := World.cells?_some h1
      rw [hk] at hlen hc
      refine ⟨cs', x, hlen, fun j u hu => ?_, hx⟩
      have hj : j < k := by rw [← hlen]; exact (List.getElem?_eq_some_iff.1 hu).1
      have := hc j hj
      rw [Addr.add_add] at this
      rw [this]; exact hu
    have build : ∀ q, q ≤ len → ∃ l : List α, l.length = q ∧ ∀ i x, l[i]? = some x → ∃ cs' : List Value, cs'.length = k ∧ (∀ j u, cs'[j]? = some u → w.cell? (a.add (i * k + j)) = some u) ∧ R w cs' x := by
      intro q
      induction q with
      | zero => exact fun _ => ⟨[], rfl, fun i x h => by simp at h⟩
      | succ q ih =>
        intro hq
        obtain ⟨l, h1, h2⟩ := ih (by omega)
        obtain ⟨cs', x, h3, h4, h5⟩ := one q (by omega)
        refine ⟨l ++ [x], by simp [h1], fun i y hy => ?_⟩
        by_cases hi : i < q
        · rw [List.getElem?_append_left (by omega)] at hy; exact h2 i y hy
        · have : i = q := by have := (List.getElem?_eq_some_iff.1 hy).1; simp [h1] at this; omega
          subst this
          rw [List.getElem?_append_right (by omega)] at hy
          simp [h1] at hy; subst hy
          exact ⟨cs', h3, h4, h5⟩
    obtain ⟨l, h1, h2⟩ := build len (Nat.le_refl _)
    subst h1
    refine ⟨_, l, rfl, a, cap, rfl, hl, hm, fun i x hx => ?_⟩
    obtain ⟨cs', h3, h4, h5⟩ := h2 i x hx
    exact ⟨a, cs', rfl, trivial, h3, h4, h5⟩
end Go.K
namespace Go.Proofs.YtmfplfaeibehiaaDoor
open Go Go.K
open Go.ChangeShapes Go.Joins
variable {H : Type} {enc : TypeId × Value → H} {w : World} {base : Nat} {spare : Nat → Bool} {held : Bool}
theorem attr_of_trod {n : Nat} {cs : List Value} {y : DataW H × List MemPlace} (h : DataW.trod enc Tryd.prog w base spare held n 56 cs = some y) : ∃ x : Attr, cs = x.cells := by
  have c0 : Tryd.prog.cellsOf 56 = 5 := by kernel_rfl
  have c1 : Tryd.prog.cellsOf 3 = 1 := by kernel_rfl
  have c2 : Tryd.prog.cellsOf 30 = 4 := by kernel_rfl
  have c3 : Tryd.prog.cellsOf 5 = 1 := by kernel_rfl
  have c4 : Tryd.prog.cellsOf 2 = 1 := by kernel_rfl
  have c5 : Tryd.prog.cellsOf 28 = 1 := by kernel_rfl
  have c6 : Tryd.prog.cellsOf 9 = 1 := by kernel_rfl
  obtain ⟨y0, y1, m, _, hl, h0, h1⟩ := trod_struct2 Tryd.underlying56 h
  rw [c0] at hl
  simp only [c1, c2] at h0 h1
  match cs, hl with
  | [a0, a1, a2, a3, a4], _ =>
    simp only [List.drop_zero, List.take_succ_cons, List.take_zero, List.drop_succ_cons] at h0 h1
    obtain ⟨k, e0, _, _⟩ := DataW.trod_int Tryd.underlying3 h0
    obtain ⟨z0, z1, z2, z3, m', _, _, g0, g1, g2, g3⟩ := trod_struct4 Tryd.underlying30 h1
    simp only [c3, c4, c5, c6, List.drop_zero, List.take_succ_cons, List.take_zero, List.drop_succ_cons] at g0 g1 g2 g3
    obtain ⟨k0, f0, _, _⟩ := DataW.trod_int Tryd.underlying5 g0
    obtain ⟨k1, f1, _, _⟩ := DataW.trod_int Tryd.underlying2 g1
    obtain ⟨k2, f2, _, _⟩ := DataW.trod_int Tryd.underlying28 g2
    obtain ⟨k3, f3, _, _⟩ := DataW.trod_string Tryd.underlying9 g3
    cases e0; cases f0; cases f1; cases f2; cases f3
    exact ⟨⟨k, ⟨k0, k1, k2, k3⟩⟩, rfl⟩
theorem set_of_trod {n : Nat} {cs : List Value} {y : DataW H × List MemPlace} (h : DataW.trod enc Tryd.prog w base spare held n 53 cs = some y) : ∃ v l, cs = [v] ∧ RSet (fun _ => True) w v l :=
  SlR.of_trod Tryd.underlying53 (by kernel_rfl) (fun _ _ _ h => attr_of_trod h) h
end Go.Proofs.YtmfplfaeibehiaaDoor

namespace Go.Proofs.YtmfplfaeibehiaaDoor
open Go Go.K
open Go.ChangeShapes Go.Joins
variable {H : Type} {enc : TypeId × Value → H} {w : World} {base : Nat} {spare : Nat → Bool} {held : Bool}
theorem len4 {α : Type} {l : List α} (h : l.length = 4) : ∃ a b c d, l = [a, b, c, d] := by
  match l, h with | [a, b, c, d], _ => exact ⟨a, b, c, d, rfl⟩
theorem len5 {α : Type} {l : List α} (h : l.length = 5) : ∃ a b c d e, l = [a, b, c, d, e] := by
  match l, h with | [a, b, c, d, e], _ => exact ⟨a, b, c, d, e, rfl⟩
theorem len6 {α : Type} {l : List α} (h : l.length = 6) : ∃ a b c d e f, l = [a, b, c, d, e, f] := by
  match l, h with | [a, b, c, d, e, f], _ => exact ⟨a, b, c, d, e, f, rfl⟩
theorem bulk_app (l m : List (DataW H)) : Rows.uptoBulkAll (l ++ m) = Rows.uptoBulkAll l + Rows.uptoBulkAll m := by
  induction l with
  | nil => simp [Rows.uptoBulkAll]
  | cons d l ih => simp only [List.cons_append, Rows.uptoBulkAll, ih]; omega
theorem SlR.of_trodU {α : Type} {t e k : Nat} {R : World → List Value → α → Prop} {μ : α → Nat} {fuel : Nat} {cs : List Value} {x : DataW H × List MemPlace} (ht : Tryd.prog.underlying t = some (.slice e)) (hk : Tryd.prog.cellsOf e = k)
    (hel : ∀ n cs' y, DataW.trod enc Tryd.prog w base spare held n e cs' = some y → ∃ x, R w cs' x ∧ μ x ≤ Rows.uptoBulk y.1) (h : DataW.trod enc Tryd.prog w base spare held fuel t cs = some x) :
    ∃ v l, cs = [v] ∧ SlR (fun _ => True) k R w v l ∧ (l.map μ).sum + 1 ≤ Rows.uptoBulk x.1 := by
  rcases Go.Deep.open_slice ht h with ⟨rfl, rfl⟩ | ⟨a, len, cap, m, n, D, Pl, rfl, hb, hl, hm, hmm, rfl, hall⟩
  · exact ⟨_, [], rfl, SlR.nil, by simp [Rows.uptoBulk]⟩
  · have hlm : len ≤ m := by rw [hmm]; split <;> omega
    have one : ∀ i, i < len → ∃ (cs' : List Value) (x : α), cs'.length = k ∧ (∀ j u, cs'[j]? = some u → w.cell? (a.add (i * k + j)) = some u) ∧ R w cs' x ∧ μ x ≤ Rows.uptoBulk (D i) := by
      intro i hi
      obtain ⟨cs', h1, h2⟩ := hall i (by omega)
      obtain ⟨x, hx, hmu⟩ := hel n cs' _ h2
      obtain ⟨_, hlen, hc⟩ := World.cells?_some h1
      rw [hk] at hlen hc
      refine ⟨cs', x, hlen, fun j u hu => ?_, hx, hmu⟩
      have hj : j < k := by rw [← hlen]; exact (List.getElem?_eq_some_iff.1 hu).1
      have := hc j hj
      rw [Addr.add_add] at this
      rw [this]; exact hu
    have build : ∀ q, q ≤ len → ∃ l : List α, l.length = q ∧ (l.map μ).sum ≤ Rows.uptoBulkAll ((List.range q).map D) ∧ ∀ i x, l[i]? = some x → ∃ cs' : List Value, cs'.length = k ∧ (∀ j u, cs'[j]? = some u → w.cell? (a.add (i * k + j)) = some u) ∧ R w cs' x := by
      intro q
      induction q with
      | zero => exact fun _ => ⟨[], rfl, by simp [Rows.uptoBulkAll], fun i x h => by simp at h⟩
      | succ q ih =>
        intro hq
        obtain ⟨l, h1, hs, h2⟩ := ih (by omega)
        obtain ⟨cs', x, h3, h4, h5, h6⟩ := one q (by omega)
        refine ⟨l ++ [x], by simp [h1], ?_, fun i y hy => ?_⟩
        · rw [List.range_succ, List.map_append (f := D), bulk_app]
          simp only [List.map_append, List.sum_append, List.map_cons, List.map_nil, List.sum_cons, List.sum_nil, Rows.uptoBulkAll]
          omega
        by_cases hi : i < q
        · rw [List.getElem?_append_left (by omega)] at hy; exact h2 i y hy
        · have : i = q := by have := (List.getElem?_eq_some_iff.1 hy).1; simp [h1] at this; omega
          subst this
          rw [List.getElem?_append_right (by omega)] at hy
          simp [h1] at hy; subst hy
          exact ⟨cs', h3, h4, h5⟩
    obtain ⟨l, h1, hs, h2⟩ := build len (Nat.le_refl _)
    subst h1
    refine ⟨_, l, rfl, ⟨a, cap, rfl, hl, hm, fun i x hx => ?_⟩, ?_⟩
    · obtain ⟨cs', h3, h4, h5⟩ := h2 i x hx
      exact ⟨a, cs', rfl, trivial, h3, h4, h5⟩
    · simp only [Rows.uptoBulk]; omega
theorem val_of_trodU {n : Nat} {cs : List Value} {y : DataW H × List MemPlace} (h : DataW.trod enc Tryd.prog w base spare held n 30 cs = some y) : ∃ x : AVal, cs = x.cells ∧ x.s.size + 1 ≤ Rows.uptoBulk y.1 := by
  have c2 : Tryd.prog.cellsOf 30 = 4 := by kernel_rfl
  have c3 : Tryd.prog.cellsOf 5 = 1 := by kernel_rfl
  have c4 : Tryd.prog.cellsOf 2 = 1 := by kernel_rfl
  have c5 : Tryd.prog.cellsOf 28 = 1 := by kernel_rfl
  have c6 : Tryd.prog.cellsOf 9 = 1 := by kernel_rfl
  obtain ⟨z0, z1, z2, z3, m', rfl, hl, g0, g1, g2, g3⟩ := trod_struct4 Tryd.underlying30 h
  rw [c2] at hl
  simp only [c3, c4, c5, c6] at g0 g1 g2 g3
  match cs, hl with
  | [a0, a1, a2, a3], _ =>
    simp only [List.drop_zero, List.take_succ_cons, List.take_zero, List.drop_succ_cons] at g0 g1 g2 g3
    obtain ⟨k0, f0, e0, _⟩ := DataW.trod_int Tryd.underlying5 g0
    obtain ⟨k1, f1, e1, _⟩ := DataW.trod_int Tryd.underlying2 g1
    obtain ⟨k2, f2, e2, _⟩ := DataW.trod_int Tryd.underlying28 g2
    obtain ⟨k3, f3, e3, _⟩ := DataW.trod_string Tryd.underlying9 g3
    cases f0; cases f1; cases f2; cases f3; subst e0; subst e1; subst e2; subst e3
    refine ⟨⟨k0, k1, k2, k3⟩, rfl, ?_⟩
    simp only [Rows.uptoBulk, Rows.uptoBulkAll, Array.length_toList, ByteArray.size_data]
    omega
theorem attr_of_trodU {n : Nat} {cs : List Value} {y : DataW H × List MemPlace} (h : DataW.trod enc Tryd.prog w base spare held n 56 cs = some y) : ∃ x : Attr, RAttr w cs x ∧ mAttr x ≤ Rows.uptoBulk y.1 := by
  have c0 : Tryd.prog.cellsOf 56 = 5 := by kernel_rfl
  have c1 : Tryd.prog.cellsOf 3 = 1 := by kernel_rfl
  have c2 : Tryd.prog.cellsOf 30 = 4 := by kernel_rfl
  obtain ⟨y0, y1, m, rfl, hl, h0, h1⟩ := trod_struct2 Tryd.underlying56 h
  rw [c0] at hl
  simp only [c1, c2] at h0 h1
  match cs, hl with
  | [a0, a1, a2, a3, a4], _ =>
    simp only [List.drop_zero, List.take_succ_cons, List.take_zero, List.drop_succ_cons] at h0 h1
    obtain ⟨k, e0, _, _⟩ := DataW.trod_int Tryd.underlying3 h0
    obtain ⟨v, e1, hs⟩ := val_of_trodU h1
    cases e0; cases e1
    refine ⟨⟨k, v⟩, rfl, ?_⟩
    simp only [mAttr, Rows.uptoBulk, Rows.uptoBulkAll]
    omega
theorem rune_of_trodU {n : Nat} {cs : List Value} {y : DataW H × List MemPlace} (h : DataW.trod enc Tryd.prog w base spare held n 21 cs = some y) : ∃ x : Int, RRune w cs x ∧ 1 ≤ Rows.uptoBulk y.1 := by
  obtain ⟨k, rfl, e, _⟩ := DataW.trod_int Tryd.underlying21 h
  subst e
  exact ⟨k, rfl, by simp [Rows.uptoBulk]⟩
theorem set_of_trodU {n : Nat} {cs : List Value} {y : DataW H × List MemPlace} (h : DataW.trod enc Tryd.prog w base spare held n 53 cs = some y) : ∃ v l, cs = [v] ∧ RSet (fun _ => True) w v l ∧ mSet l + 1 ≤ Rows.uptoBulk y.1 :=
  SlR.of_trodU (μ := mAttr) Tryd.underlying53 (by kernel_rfl) (fun _ _ _ h => attr_of_trodU h) h
theorem runes_of_trodU {n : Nat} {cs : List Value} {y : DataW H × List MemPlace} (h : DataW.trod enc Tryd.prog w base spare held n 116 cs = some y) : ∃ v l, cs = [v] ∧ RRun (fun _ => True) w v l ∧ l.length + 1 ≤ Rows.uptoBulk y.1 := by
  obtain ⟨v, l, e, h1, h2⟩ := SlR.of_trodU (μ := fun _ : Int => 1) Tryd.underlying116 (by kernel_rfl) (fun _ _ _ h => rune_of_trodU h) h
  refine ⟨v, l, e, h1, ?_⟩
  have : (l.map fun _ => 1).sum = l.length := by clear h1 h2; induction l with | nil => rfl | cons a l ih => simp only [List.map_cons, List.sum_cons, List.length_cons, ih]; omega
  omega
theorem key_of_trodU {n : Nat} {cs : List Value} {y : DataW H × List MemPlace} (h : DataW.trod enc Tryd.prog w base spare held n 34 cs = some y) : ∃ x : DKey, RKey w cs x ∧ 1 ≤ Rows.uptoBulk y.1 := by
  have c0 : Tryd.prog.cellsOf 34 = 6 := by kernel_rfl
  have c1 : Tryd.prog.cellsOf 3 = 1 := by kernel_rfl
  have c2 : Tryd.prog.cellsOf 5 = 1 := by kernel_rfl
  have c3 : Tryd.prog.cellsOf 4 = 1 := by kernel_rfl
  obtain ⟨xs, m, _, rfl, hl, hlen, hf⟩ := DataW.trod_struct Tryd.underlying34 h
  match xs, hlen with
  | [y0, y1, y2, y3, y4, y5], _ =>
    have h0 : DataW.trod enc Tryd.prog w base spare held m 3 ((cs.drop 0).take (Tryd.prog.cellsOf 3)) = some y0 := hf 0 _ rfl
    have h1 : DataW.trod enc Tryd.prog w base spare held m 4 ((cs.drop 1).take (Tryd.prog.cellsOf 4)) = some y1 := hf 1 _ rfl
    have h2 : DataW.trod enc Tryd.prog w base spare held m 5 ((cs.drop 2).take (Tryd.prog.cellsOf 5)) = some y2 := hf 2 _ rfl
    have h3 : DataW.trod enc Tryd.prog w base spare held m 4 ((cs.drop 3).take (Tryd.prog.cellsOf 4)) = some y3 := hf 3 _ rfl
    have h4 : DataW.trod enc Tryd.prog w base spare held m 4 ((cs.drop 4).take (Tryd.prog.cellsOf 4)) = some y4 := hf 4 _ rfl
    have h5 : DataW.trod enc Tryd.prog w base spare held m 3 ((cs.drop 5).take (Tryd.prog.cellsOf 3)) = some y5 := hf 5 _ rfl
    rw [c0] at hl
    rw [c1] at h0
    rw [c3] at h1
    rw [c2] at h2
    rw [c3] at h3
    rw [c3] at h4
    rw [c1] at h5
    obtain ⟨a0, a1, a2, a3, a4, a5, rfl⟩ := len6 hl
    · clear hf
      simp only [List.drop_zero, List.take_succ_cons, List.take_zero, List.drop_succ_cons] at h0 h1 h2 h3 h4 h5
      obtain ⟨k0, e0, _, _⟩ := DataW.trod_int Tryd.underlying3 h0
      obtain ⟨k1, e1, _⟩ := DataW.trod_bool Tryd.underlying4 h1
      obtain ⟨k2, e2, _, _⟩ := DataW.trod_int Tryd.underlying5 h2
      obtain ⟨k3, e3, _⟩ := DataW.trod_bool Tryd.underlying4 h3
      obtain ⟨k4, e4, _⟩ := DataW.trod_bool Tryd.underlying4 h4
      obtain ⟨k5, e5, _, _⟩ := DataW.trod_int Tryd.underlying3 h5
      cases e0; cases e1; cases e2; cases e3; cases e4; cases e5
      refine ⟨⟨k0, k1, k2, k3, k4, k5⟩, rfl, ?_⟩
      simp only [Rows.uptoBulk]
      omega
theorem keys_of_trodU {n : Nat} {cs : List Value} {y : DataW H × List MemPlace} (h : DataW.trod enc Tryd.prog w base spare held n 22 cs = some y) : ∃ v l, cs = [v] ∧ RKeys (fun _ => True) w v l ∧ l.length + 1 ≤ Rows.uptoBulk y.1 := by
  obtain ⟨v, l, e, h1, h2⟩ := SlR.of_trodU (μ := fun _ : DKey => 1) Tryd.underlying22 (by kernel_rfl) (fun _ _ _ h => key_of_trodU h) h
  refine ⟨v, l, e, h1, ?_⟩
  have : (l.map fun _ => 1).sum = l.length := by clear h1 h2; induction l with | nil => rfl | cons a l ih => simp only [List.map_cons, List.sum_cons, List.length_cons, ih]; omega
  omega
end Go.Proofs.YtmfplfaeibehiaaDoor

namespace Go.Proofs.YtmfplfaeibehiaaDoor
open Go Go.K
open Go.ChangeShapes Go.Joins
variable {H : Type} {enc : TypeId × Value → H} {w : World} {base : Nat} {spare : Nat → Bool} {held : Bool}
theorem keys_of_trod {n : Nat} {cs : List Value} {y : DataW H × List MemPlace} (h : DataW.trod enc Tryd.prog w base spare held n 22 cs = some y) : ∃ v l, cs = [v] ∧ RKeys (fun _ => True) w v l := by
  obtain ⟨v, l, e, h1, _⟩ := keys_of_trodU h
  exact ⟨v, l, e, h1⟩
end Go.Proofs.YtmfplfaeibehiaaDoor

namespace Go.Proofs.YtmfplfaeibehiaaDoor
open Go Go.K
open Go.ChangeShapes Go.WideShapes Go.ChangeAt Go.RowKit Go.Joins

def laidL : List (String × DataW Unit) := [("unicode/utf8.acceptRanges", Rows.laid_unicode_utf8_acceptRanges), ("unicode/utf8.first", Rows.laid_unicode_utf8_first)]
theorem first_tab : Rows.laid_unicode_utf8_first = Lib.tabData .u8 (Pinned.utf8FirstZ.map Int.ofNat) := by kernel_rfl
theorem first_at : (List.range 256).all (fun j => decide (128 ≤ j → (Pinned.utf8FirstZ.map Int.ofNat)[j]? = some (firstT j))) = true := by decide +kernel
theorem acc_tab : Rows.laid_unicode_utf8_acceptRanges (H := Unit) = .agg ((List.range 16).map fun i => .agg ([accLo i, accHi i].map fun z => .lit (.int .u8 z))) := by kernel_rfl
theorem tabs_of_laid {W : World} (h : laidMetH Tryd.prog laidL W) : Tabs W := by
  rw [MakeChecks.laidMetH_plain _ _ _ (by kernel_rfl)] at h
  have h4 := Lib.laidMet.reads h (.head _)
  have h3 := Lib.laidMet.reads h (.tail _ (.head _))
  have hf : ∀ j : Nat, 128 ≤ j → j < 256 → W.cell? ⟨1, j, none⟩ = some (.int .u8 (firstT j)) := by
    intro j hj1 hj2
    obtain ⟨g, t, cs, fuel, p, hg, hty, hvar, hd⟩ := h3
    obtain rfl := Option.some.inj ((show Tryd.prog.globalNamed "unicode/utf8.first" = some 1 by kernel_rfl).symm.trans hg)
    obtain rfl := Option.some.inj ((show (Tryd.prog.globals[1]?).map (·.type) = some 152 by kernel_rfl).symm.trans hty)
    rw [first_tab] at hd
    have hcs := Lib.cells_of_tab Tryd.underlying152 Tryd.underlying5 (by kernel_rfl) (by kernel_rfl) hd
    have := World.var?_cell hg hvar j
    rw [this, ← Array.getElem?_toList, hcs]
    have ha := List.all_eq_true.1 first_at j (List.mem_range.2 hj2)
    rw [decide_eq_true_eq] at ha
    rw [List.getElem?_map, ha hj1]
    rfl
  have hac : ∀ j : Nat, j < 16 → W.cell? ⟨2, j * 2, none⟩ = some (.int .u8 (accLo j)) ∧ W.cell? ⟨2, j * 2 + 1, none⟩ = some (.int .u8 (accHi j)) := by
    intro i hi
    obtain ⟨g, t, cs, fuel, p, hg, hty, hvar, hd⟩ := h4
    obtain rfl := Option.some.inj ((show Tryd.prog.globalNamed "unicode/utf8.acceptRanges" = some 2 by kernel_rfl).symm.trans hg)
    obtain rfl := Option.some.inj ((show (Tryd.prog.globals[2]?).map (·.type) = some 155 by kernel_rfl).symm.trans hty)
    rw [acc_tab] at hd
    obtain ⟨fuel', d, q, hdi, he⟩ := Lib.array_elem Tryd.underlying155 hd i hi
    simp only [List.getElem?_map, List.getElem?_range hi, Option.map_some, Option.some.injEq] at hdi
    subst hdi
    have c2 : Tryd.prog.cellsOf 154 = 2 := by kernel_rfl
    rw [c2] at he
    have hcs := Lib.ints_of_struct Tryd.underlying154 (fun j f hj => by
      match j, hj with
      | 0, hj => simp at hj; subst hj; exact ⟨Tryd.underlying5, rfl, by kernel_rfl⟩
      | 1, hj => simp at hj; subst hj; exact ⟨Tryd.underlying5, rfl, by kernel_rfl⟩
      | j + 2, hj => simp at hj) (by rw [c2]; rfl) he
    have e0 := congrArg (·[0]?) hcs
    have e1 := congrArg (·[1]?) hcs
    simp at e0 e1
    have w0 := World.var?_cell hg hvar (i * 2)
    have w1 := World.var?_cell hg hvar (i * 2 + 1)
    rw [w0, w1, ← Array.getElem?_toList, ← Array.getElem?_toList]
    exact ⟨by simpa using e0, by simpa using e1⟩
  have := World.block_lt_of_cell? W _ (hac 0 (by decide)).1
  exact ⟨this, hf, hac⟩
/-- a world that meets the condition -/
noncomputable def laidWorld (os : Os) : World :=
  let w0 := World.holding Tryd.prog os ⟨#[], #[], []⟩
  let put (h : Array Obj) (g : Nat) (cs : Array Value) : Array Obj := h.modify g fun
    | .cells _ t frozen => .cells cs t frozen
    | o => o
  let h1 := put w0.heap 1 (Pinned.utf8FirstZ.map fun (z : Nat) => Value.int .u8 (Int.ofNat z)).toArray
  let h2 := put h1 2 ((List.range 16).flatMap fun i => [Value.int .u8 (accLo i), Value.int .u8 (accHi i)]).toArray
  { w0 with heap := h2 }
theorem laidWorld_met (os : Os) (args : Array Value) : laidMetH Tryd.prog laidL ((laidWorld os).forCall (fun _ _ => 0) ⟨#[], args, []⟩).memory := by
  rw [MakeChecks.laidMetH_plain _ _ _ (by kernel_rfl)]
  exact (LaidIn.of_run (l := laidL) [2, 1] 8 (by kernel_rfl) (by kernel_rfl) (by kernel_rfl) (by kernel_rfl)).met

/-- a value whose numbers lie in their types -/
def InV (v : AVal) : Prop := (0 ≤ v.kind ∧ v.kind < 256) ∧ (-9223372036854775808 ≤ v.n ∧ v.n ≤ 9223372036854775807) ∧ (0 ≤ v.f ∧ v.f < 18446744073709551616) ∧ v.s.size < 18446744073709551616
variable {H : Type} {enc : TypeId × Value → H} {w : World} {base : Nat} {spare : Nat → Bool} {held : Bool}
theorem wf_range {k : IntKind} {n : Int} (h : (Lit.int k n).wf = true) : k.min ≤ n ∧ n ≤ k.max := by
  simpa [Lit.wf] using h
theorem val_of_trodR {n : Nat} {cs : List Value} {y : DataW H × List MemPlace} (h : DataW.trod enc Tryd.prog w base spare held n 30 cs = some y) : ∃ x : AVal, cs = x.cells ∧ InV x := by
  have c2 : Tryd.prog.cellsOf 30 = 4 := by kernel_rfl
  have c3 : Tryd.prog.cellsOf 5 = 1 := by kernel_rfl
  have c4 : Tryd.prog.cellsOf 2 = 1 := by kernel_rfl
  have c5 : Tryd.prog.cellsOf 28 = 1 := by kernel_rfl
  have c6 : Tryd.prog.cellsOf 9 = 1 := by kernel_rfl
  obtain ⟨z0, z1, z2, z3, m', _, hl, g0, g1, g2, g3⟩ := trod_struct4 Tryd.underlying30 h
  rw [c2] at hl
  simp only [c3, c4, c5, c6] at g0 g1 g2 g3
  match cs, hl with
  | [a1, a2, a3, a4], _ =>
    simp only [List.drop_zero, List.take_succ_cons, List.take_zero, List.drop_succ_cons] at g0 g1 g2 g3
    obtain ⟨k0, f0, _, w0⟩ := DataW.trod_int Tryd.underlying5 g0
    obtain ⟨k1, f1, _, w1⟩ := DataW.trod_int Tryd.underlying2 g1
    obtain ⟨k2, f2, _, w2⟩ := DataW.trod_int Tryd.underlying28 g2
    obtain ⟨k3, f3, _, w3⟩ := DataW.trod_string Tryd.underlying9 g3
    cases f0; cases f1; cases f2; cases f3
    refine ⟨⟨k0, k1, k2, k3⟩, rfl, ?_⟩
    have r0 := wf_range w0
    have r1 := wf_range w1
    have r2 := wf_range w2
    have m0 : IntKind.u8.min = 0 ∧ IntKind.u8.max = 255 := by decide
    have m1 : IntKind.i64.min = -9223372036854775808 ∧ IntKind.i64.max = 9223372036854775807 := by decide
    have m2 : IntKind.u64.min = 0 ∧ IntKind.u64.max = 18446744073709551615 := by decide
    rw [m0.1, m0.2] at r0
    rw [m1.1, m1.2] at r1
    rw [m2.1, m2.2] at r2
    have r3 : k3.size ≤ 9223372036854775807 := by
      simp only [Lit.wf, maxLen] at w3
      simpa using w3
    exact ⟨⟨r0.1, show k0 < 256 by omega⟩, r1, ⟨r2.1, show k2 < 18446744073709551616 by omega⟩, show k3.size < 18446744073709551616 by omega⟩
end Go.Proofs.YtmfplfaeibehiaaDoor

namespace Go.Proofs.YtmfplfaeibehiaaDoor
open Go Go.K
open Go.ChangeShapes Go.WideShapes Go.ChangeAt Go.RowKit
set_option linter.unusedVariables false

theorem ownK : ownKnob Tryd.prog.godebug = none := by kernel_rfl
theorem laidOut : laidOutB Tryd.prog = true := by kernel_rfl

set_option maxRecDepth 100000 in
theorem SchemaKeys_lifted (os : Os) (started : os.Started) (H : Type) (enc : TypeId × Value → H) :
    ReturnsInHanded {} Tryd.checked os 4 .any (fun w args => (Rows.schemaKeysSpec.pre enc Tryd.prog Tryd.f4 [] false w args ∧ laidMetH Tryd.prog Rows.schemaKeysRow.laid w) ∧ sizedMet enc Tryd.prog Tryd.f4 (OpenSpec.ofChange Rows.schemaKeysSpec) false w args)
      (Rows.schemaKeysSpec.post enc Tryd.prog Tryd.f4 false true false false) := by
  refine returnsInHanded_of_change_and (C := Tryd.checked) (X := fun w _ => laidMetH Tryd.prog Rows.schemaKeysRow.laid w) (fun _ _ _ hh h => h.of_heap hh) ownK started (by kernel_rfl) Tryd.func4
    (ChangeSpec.witness_at (enc := enc) (C := Tryd.checked) (os := os) (X := fun w _ => laidMetH Tryd.prog Rows.schemaKeysRow.laid w) false (laidWorld os) #[.slice none 0 0, .int .i64 0, .agg #[.int .u8 0, .int .i64 0, .int .u64 0, .string ⟨#[]⟩]] 8 rfl (by kernel_rfl) (by kernel_rfl) (by kernel_rfl) (by kernel_rfl) (by kernel_rfl) (laidWorld_met os _)) ?_
  intro W base args ds gs before hval0 hW _ _ hL _
  have hW' := hW
  obtain ⟨p, q, hA0, hV, rfl, hfz, hnd⟩ := hW
  have hA : DataW.TrodAll enc Tryd.prog W 0 (fun _ => true) true Tryd.f4.params.toList args.toList ds p := hA0
  have hval : ∀ (j : Nat) t v, Tryd.f4.params[j]? = some t → args[j]? = some v → Value.okWide Tryd.prog W .any base t v := hval0
  rw [Tryd.params4] at hA hval
  have htab : Tabs W := tabs_of_laid hL
  obtain ⟨v0, vs0, d0, ds0, p0, q0, hargs, rfl, rfl, h0, r0⟩ := trodAll_cons hA
  obtain ⟨v1, vs1, d1, ds1, p1, q1, rfl, rfl, rfl, h1, r1⟩ := trodAll_cons r0
  obtain ⟨v2, vs2, d2, ds2, p2, q2, rfl, rfl, rfl, h2, r2⟩ := trodAll_cons r1
  obtain ⟨rfl, rfl, rfl⟩ := trodAll_nil r2
  obtain rfl : args = #[v0, v1, v2] := by cases args; simp_all
  obtain ⟨rfl, rfl⟩ := trodVars_none hV
  have lt0 : ∀ x ∈ p0, x.block < W.heap.size := by obtain ⟨m, hm⟩ := h0; exact DataW.trod_lt m _ _ _ hm
  obtain ⟨fuel0, hf0⟩ := id h0
  obtain ⟨u0, l0, e0, s0⟩ := keys_of_trod hf0
  obtain ⟨a0, n0, c0, rfl⟩ := okWide_slice Tryd.underlying22 (hval 0 22 v0 rfl rfl)
  simp only [Value.cells, List.cons.injEq, and_true] at e0
  subst e0
  obtain ⟨x1, rfl, rfl, rfl, w1⟩ := open_int Tryd.underlying3 (hval 1 3 v1 rfl rfl) h1
  have lt2 : ∀ x ∈ p2, x.block < W.heap.size := by obtain ⟨m, hm⟩ := h2; exact DataW.trod_lt m _ _ _ hm
  obtain ⟨fuel2, hf2⟩ := id h2
  obtain ⟨c2, rfl, _⟩ := okWide_struct Tryd.underlying30 (hval 2 30 v2 rfl rfl)
  obtain ⟨x2, e2, s2⟩ := val_of_trodR (show DataW.trod enc Tryd.prog W 0 _ true fuel2 30 c2.toList = _ from hf2)
  obtain rfl : c2 = x2.cells.toArray := by rw [← e2]
  clear hA0 hval0
  refine (SchemaKeys_ok htab s0 s2.2.2.1.1).mono fun e W' ⟨v, he, hv, hg⟩ => ?_
  subst he; subst hv
  have bel : Below W.heap.size W W' := Mod.below hg (Nat.le_refl _) fun _ h => h.elim
  exact ⟨_, rfl, _, _, _, [], _, [], hW', trodAll_mk1 (shut_bool Tryd.underlying4 _), (trodAll_cons_mk (Below.trod laidOut (by kernel_rfl) (of_decide_eq_true (by kernel_rfl)) h0 bel lt0) (trodAll_cons_mk (shut_int Tryd.underlying3 w1) (trodAll_cons_mk (Below.trod laidOut (by kernel_rfl) (of_decide_eq_true (by kernel_rfl)) h2 bel lt2) trodAll_mk0))), rfl, bel.frame _, fun h => by cases h⟩
/-- the row -/
theorem SchemaKeys_said : Rows.SchemaKeysSaid :=
  OpenClaim.holds_of_wide 4 Tryd.f4 rfl rfl rfl rfl rfl rfl rfl ⟨rfl, rfl, rfl, rfl, rfl⟩ rfl rfl rfl rfl rfl (by kernel_rfl) Tryd.func4 (by kernel_rfl)
    (of_decide_eq_true (by kernel_rfl)) (by unfold Func.isWrapper; first | (rw [if_pos (by decide +kernel)]; kernel_rfl) | (rw [if_neg (by decide +kernel)]; exact ⟨rfl, rfl⟩))
    (fun os started H enc _ => SchemaKeys_lifted os started H enc)
/-- the statement: the tied card -/
theorem SchemaKeys_proved : Rows.SchemaKeysCardSaid :=
  Claim7.holds_tied_plain_at .later [] [.data, .pinned] true Rows.schemaKeysCard.stood.harness false
    SchemaKeys_said (fun _ h => by cases h) (by kernel_rfl) (fun _ h => by cases h) schemaKeys_row_tie rfl ⟨rfl, rfl⟩ (by kernel_rfl) rfl
    (fun f fn hf hfn => by
      obtain rfl : f = 4 := Option.some.inj ((show Tryd.prog.funcNamed "rubric/rubriclaw04.SchemaKeys" = some 4 by kernel_rfl).symm.trans hf) |>.symm
      obtain rfl : fn = Tryd.f4 := (Option.some.inj (Tryd.func4.symm.trans hfn)).symm
      exact ⟨by kernel_rfl, fun j t ht => by
        rw [Tryd.params4] at ht
        have hm : t ∈ [22, 3, 30] := by simpa using Array.mem_of_getElem? ht
        have hall : ([22, 3, 30].all fun u => !Tryd.prog.wantsStandIn u) = true := by kernel_rfl
        exact (show Tryd.prog.wantsStandIn t = false by simpa using List.all_eq_true.1 hall t hm)⟩)
    (by kernel_rfl)
#print axioms SchemaKeys_proved
end Go.Proofs.YtmfplfaeibehiaaDoor
