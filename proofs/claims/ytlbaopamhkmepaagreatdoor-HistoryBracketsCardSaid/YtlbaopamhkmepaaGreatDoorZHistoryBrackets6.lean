/- HistoryBrackets: for every input the law returns true, and each argument reads behind the call as it read before; the two tables tied. No conditions. -/
import Derived.Test.YtlbaopamhkmepaaGreatDoorZHistoryBrackets5
import Derived.Laws.BytesArg
import Derived.Laws.IdiomStrings
import Derived.MapKept
import Derived.Lib.Zigzag
import Derived.Test.YtlbaopamhkmepaaGreatDoorRows
import Derived.Lib.LaidU8
import Derived.Lib.LaidIn
import Derived.LaidHandle
import Derived.LaidMore
import Derived.MakeChecks
import Derived.Test.YtlbaopamhkmepaaGreatDoorTie
import Derived.Test.YtlbaopamhkmepaaGreatDoorCards
import Derived.WalkKit
import Derived.OpenShut
import Derived.ShutString
import Derived.ChangeOld
import Derived.ChangeVars
import Derived.JoinedOf
import Derived.SevenTiedAt
namespace Go.Proofs.YtlbaopamhkmepaaGreatDoor
open Go Go.K

def strOf (l : List Int) : ByteArray := ⟨(l.map fun x => UInt8.ofNat x.toNat).toArray⟩
theorem bytesL_strOf {l : List Int} (h : ∀ x ∈ l, 0 ≤ x ∧ x < 256) : bytesL (strOf l) = l := by
  unfold bytesL strOf
  simp only [List.map_map]
  conv => rhs; rw [← List.map_id l]
  refine List.map_congr_left fun x hx => ?_
  have := h x hx
  simp only [Function.comp, UInt8.toNat_ofNat', id]
  omega
theorem encA_byte {a : Attr} (h : InA a) : ∀ x ∈ encA a, 0 ≤ x ∧ x < 256 := by
  obtain ⟨a1, a2, a3, a4, a5⟩ := h
  intro x hx
  simp only [encA, List.mem_append] at hx
  rcases hx with hx | hx | hx | hx | hx | hx
  · exact uv_byte (zigN_lt a1.1 a1.2) x hx
  · exact uv_byte (by omega) x hx
  · exact uv_byte (zigN_lt a3.1 a3.2) x hx
  · exact uv_byte (by omega) x hx
  · exact uv_byte a5 x hx
  · simp only [bytesL, List.mem_map] at hx
    obtain ⟨b, _, rfl⟩ := hx
    have := b.toNat_lt
    omega
theorem encS_byte {l : List Attr} (h : ∀ a ∈ l, InA a) : ∀ x ∈ encS l, 0 ≤ x ∧ x < 256 := by
  intro x hx
  simp only [encS, List.mem_flatMap] at hx
  obtain ⟨a, ha, hx⟩ := hx
  exact encA_byte (h a ha) x hx
/-- a set's text -/
def textOf (l : List Attr) : ByteArray := strOf (encS l)
theorem textOf_inj {l m : List Attr} (hl : ∀ a ∈ l, InA a) (hm : ∀ a ∈ m, InA a) (h : textOf l = textOf m) : l = m := by
  refine encS_inj hl hm ?_
  rw [← bytesL_strOf (encS_byte hl), ← bytesL_strOf (encS_byte hm)]
  exact congrArg bytesL h
/-- what the map must say -/
def IdsOf (t : Tab (List Attr)) (f : Value → Option Value) : Prop := ∀ s v, f (.string s) = some v ↔ ∃ (i : Nat) (p : Ent (List Attr)), t.places[i]? = some p ∧ 0 < p.held ∧ s = textOf p.set ∧ v = .int .i64 ((i : Int) + 1)
/-- what holds of the sets that are held -/
def GoodS (ks : List Attr → Prop) (s : List Attr) : Prop := s ≠ [] ∧ (∀ a ∈ s, InA a) ∧ ks s
theorem IdsOf.some {K : List Attr → Prop} {t : Tab (List Attr)} {f : Value → Option Value} (h : IdsOf t f) (hi : t.Inv (GoodS K)) {s : List Attr} (hs : ∀ a ∈ s, InA a) {v : Value} (hv : f (.string (textOf s)) = some v) : ∃ i n : Nat, t.places[i]? = .some ⟨s, n⟩ ∧ 0 < n ∧ v = .int .i64 ((i : Int) + 1) := by
  obtain ⟨i, p, h1, h2, h3, h4⟩ := (h _ _).1 hv
  have := textOf_inj hs (hi.ok i p h1 h2).2.1 h3
  subst this
  exact ⟨i, p.held, h1, h2, h4⟩
theorem IdsOf.none {t : Tab (List Attr)} {f : Value → Option Value} (h : IdsOf t f) {s : List Attr} (hv : f (.string (textOf s)) = Option.none) : ∀ (i : Nat) (p : Ent (List Attr)), t.places[i]? = .some p → 0 < p.held → p.set ≠ s := by
  rintro i p h1 h2 rfl
  have := (h (textOf p.set) _).2 ⟨i, p, h1, h2, rfl, rfl⟩
  rw [hv] at this; cases this
open Classical in
theorem IdsOf.put {K : List Attr → Prop} {t : Tab (List Attr)} {f : Value → Option Value} (h : IdsOf t f) (hi : t.Inv (GoodS K)) {s : List Attr} (hg : GoodS K s) (hv : f (.string (textOf s)) = Option.none) :
    IdsOf (t.put s).2 (fun k' => if k' = .string (textOf s) then Option.some (.int .i64 (((t.put s).1 : Int) + 1)) else f k') := by
  obtain ⟨_, h1, h2, h3, _⟩ := Tab.put_spec hi hg (h.none hv)
  intro s' v
  simp only [Value.string.injEq]
  constructor
  · intro hh
    split at hh
    · rename_i e; subst e; cases hh
      exact ⟨_, _, h1, Nat.one_pos, rfl, rfl⟩
    · obtain ⟨j, p, q1, q2, q3, q4⟩ := (h s' v).1 hh
      have hj : j ≠ (t.put s).1 := by
        rintro rfl
        have := h2 p q1; omega
      exact ⟨j, p, (h3 j hj).trans q1, q2, q3, q4⟩
  · rintro ⟨j, p, q1, q2, q3, q4⟩
    by_cases hj : j = (t.put s).1
    · subst hj
      rw [h1] at q1; cases q1
      rw [if_pos q3, q4]
    · rw [h3 j hj] at q1
      rw [if_neg]
      · exact (h s' v).2 ⟨j, p, q1, q2, q3, q4⟩
      · intro e
        rw [e] at q3
        exact h.none hv j p q1 q2 (textOf_inj (hi.ok j p q1 q2).2.1 hg.2.1 q3.symm)
open Classical in
theorem IdsOf.drop {K : List Attr → Prop} {t : Tab (List Attr)} {f : Value → Option Value} (h : IdsOf t f) (hi : t.Inv (GoodS K)) {i : Nat} {p : Ent (List Attr)} (hp : t.places[i]? = .some p) (h0 : 0 < p.held) :
    IdsOf (t.drop [] i) (fun k' => if k' = .string (textOf p.set) then Option.none else f k') := by
  have hlt := (List.getElem?_eq_some_iff.1 hp).1
  have hsame : (t.places.set i ⟨[], 0⟩)[i]? = .some ⟨[], 0⟩ := List.getElem?_set_self hlt
  have hoth : ∀ j : Nat, j ≠ i → (t.places.set i (⟨[], 0⟩ : Ent (List Attr)))[j]? = t.places[j]? := fun j hj => List.getElem?_set_ne (Ne.symm hj)
  intro s' v
  simp only [Value.string.injEq]
  constructor
  · intro hh
    split at hh
    · cases hh
    · rename_i e
      obtain ⟨j, q, q1, q2, q3, q4⟩ := (h s' v).1 hh
      have hj : j ≠ i := by
        rintro rfl
        rw [hp] at q1; cases q1
        exact e q3
      exact ⟨j, q, (hoth j hj).trans q1, q2, q3, q4⟩
  · rintro ⟨j, q, q1, q2, q3, q4⟩
    have q1' : (t.places.set i (⟨[], 0⟩ : Ent (List Attr)))[j]? = .some q := q1
    by_cases hj : j = i
    · subst hj
      rw [hsame] at q1'; cases q1'
      exact absurd q2 (Nat.lt_irrefl _)
    · rw [hoth j hj] at q1'
      rw [if_neg]
      · exact (h s' v).2 ⟨j, q, q1', q2, q3, q4⟩
      · intro e
        rw [e] at q3
        exact hj (hi.uni j i q p q1' hp q2 h0 (textOf_inj (hi.ok j q q1' q2).2.1 (hi.ok i p hp h0).2.1 q3.symm))
theorem IdsOf.z : IdsOf (Tab.z _) (fun _ => Option.none) := fun s v => by simp [Tab.z]
end Go.Proofs.YtlbaopamhkmepaaGreatDoor

namespace Go.K
open Go
/-- where an iterator over a string stands -/
def posAt (w : World) (r : Nat) : Nat := match w.heap[r]? with | some (.stringIter _ p) => p | _ => 0
theorem run_next_str {P : Program} {w : World} {r : Nat} {s : ByteArray} {pos : Nat} {ty : TypeId} (h : w.heap[r]? = some (.stringIter s pos)) (hp : pos < s.size) :
    (Instr.next (.pointer (some ⟨r, 0, none⟩)) true ty).run P w = .ok (.tuple #[.bool true, .int .i64 pos, .int .i32 (Utf8.decode s pos).1]) { w with heap := w.heap.setIfInBounds r (.stringIter s (pos + (Utf8.decode s pos).2)) } := by
  simp only [Instr.next, getObj, setObj, Sem.run_bind, Sem.run, h, Result.andThen, hp, if_true]
  simp [goInt]
theorem run_next_over {P : Program} {w : World} {r : Nat} {s : ByteArray} {pos : Nat} {ty : TypeId} (h : w.heap[r]? = some (.stringIter s pos)) (hp : ¬ pos < s.size) :
    (Instr.next (.pointer (some ⟨r, 0, none⟩)) true ty).run P w = .ok (.tuple #[.bool false]) w := by
  simp only [Instr.next, getObj, Sem.run_bind, Sem.run, h, Result.andThen, hp, if_false]
  rfl
theorem Mod.setObj (w : World) (r : Nat) (o o' : Obj) (h : w.heap[r]? = some o) : Mod (fun b => b = r) w { w with heap := w.heap.setIfInBounds r o' } :=
  ⟨rfl, rfl, rfl, by simp, fun x _ hx => (MapKept.heap_set h).2 x hx⟩
end Go.K
namespace Go.Proofs.YtlbaopamhkmepaaGreatDoor
open Go Go.K

theorem run_str {S : Nat → Prop} {v : Value} {b : List Int} {w : World} (h : RBytes S w v b) (hb : ByteL b) : (convert 70 9 v).run Tryz.prog w = .ok (.string (strOf b)) w := by
  obtain ⟨a, c, rfl, hm⟩ := h.shape
  cases a with
  | none =>
    have : b = [] := by
      cases b with
      | nil => rfl
      | cons x b => obtain ⟨p, r, e, _⟩ := h.get (i := 0) (by simp); cases e
    subst this
    exact run_convert_bytes_nil w 70 5 (by kernel_rfl) (by kernel_rfl) _ _ _ (by kernel_rfl)
  | some p =>
    have hl : (b.map fun x => UInt8.ofNat x.toNat).length = b.length := by simp
    have := run_convert_bytes_back (P := Tryz.prog) w 70 9 5 p c (b.map fun x => UInt8.ofNat x.toNat) (by kernel_rfl) (by kernel_rfl) (by kernel_rfl) (fun j hj => by
      rw [hl] at hj
      obtain ⟨_, r, e, _, hr, hc, rfl⟩ := h.get hj
      cases e
      have := hc 0 _ rfl
      rw [Nat.mul_one, Nat.add_zero] at this
      rw [this]
      have hbj := hb b[j] (List.getElem_mem hj)
      simp only [List.getElem_map, UInt8.toNat_ofNat']
      congr 2
      omega)
    rw [hl] at this
    exact this
/-- the program's decoding of a rune is the document's -/
theorem decode_next {s : ByteArray} {pos : Nat} {r : Int} {n : Nat} (hp : pos < s.size) (h : nextB ((bytesL s).drop pos) = (r, n)) (hn : n ≠ 0) : ((Utf8.decode s pos).1 : Int) = r ∧ (Utf8.decode s pos).2 = n := by
  have hat : ∀ k c, ((bytesL s).drop pos)[k]? = some c → pos + k < s.size ∧ (((s.get! (pos + k)).toNat : Nat) : Int) = c := by
    intro k c hc
    rw [List.getElem?_drop] at hc
    have hlt : pos + k < s.size := by
      have := (List.getElem?_eq_some_iff.1 hc).1
      rwa [bytesL_len] at this
    refine ⟨hlt, ?_⟩
    have hg : s.get! (pos + k) = s[pos + k]'hlt := by
      simp [ByteArray.get!, getElem!_pos, hlt]
      rfl
    rw [hg]
    simp only [bytesL, List.getElem?_map] at hc
    have hlt' : pos + k < s.data.toList.length := by simpa using hlt
    rw [List.getElem?_eq_getElem hlt'] at hc
    have := Option.some.inj hc
    exact this
  have hB : ByteL ((bytesL s).drop pos) := fun x hx => by
    have := List.mem_of_mem_drop hx
    simp only [bytesL, List.mem_map] at this
    obtain ⟨b, _, rfl⟩ := this
    have := b.toNat_lt
    omega
  have hne : ((bytesL s).drop pos).length ≠ 0 := by rw [List.length_drop, bytesL_len]; omega
  generalize (bytesL s).drop pos = l at h hat hB hne
  obtain ⟨b0, t, rfl⟩ : ∃ x t, l = x :: t := by cases l with | nil => simp at hne | cons x t => exact ⟨x, t, rfl⟩
  obtain ⟨_, e0⟩ := hat 0 b0 rfl
  have h0 := hB b0 List.mem_cons_self
  generalize hm0 : (s.get! (pos + 0)).toNat = m0 at e0
  by_cases ha : b0 < 128
  · rw [next_ascii h0.1 ha] at h
    cases h
    simp only [Utf8.decode, hm0]
    rw [if_pos (by omega)]
    exact ⟨e0, rfl⟩
  rcases hdSize_v b0 with hz | hz | hz | hz
  · rw [next_bad hB (by omega) hz] at h
    cases h; exact absurd rfl hn
  · cases t with
    | nil => rw [next_short h0.2 (by rw [hz]; simp)] at h; cases h; exact absurd rfl hn
    | cons c1 t =>
      have h1 := hB c1 (by simp)
      obtain ⟨l1, e1⟩ := hat 1 c1 rfl
      generalize hm1 : (s.get! (pos + 1)).toNat = m1 at e1
      rw [next_2 hz h1.1 h1.2] at h
      split at h
      · rename_i hc
        cases h
        have hb0 : 194 ≤ b0 ∧ b0 < 224 := by
          unfold hdSize at hz
          (repeat' split at hz) <;> omega
        have hlo : 128 ≤ hdLo b0 := by
          unfold hdLo
          split
          · decide
          · split <;> decide
        have hhi : hdHi b0 ≤ 191 := by
          unfold hdHi
          split
          · decide
          · split <;> decide
        have q1 : (m0 / 32 == 6 && (decide (pos + 1 < s.size) && m1 / 64 == 2)) = true := by
          simp only [Bool.and_eq_true, beq_iff_eq, decide_eq_true_eq]
          exact ⟨by omega, l1, by omega⟩
        simp only [Utf8.decode, hm0, hm1]
        rw [if_neg (by omega), if_pos q1, if_pos (by omega)]
        exact ⟨by omega, rfl⟩
      · cases h; exact absurd rfl hn
  · rcases t with _ | ⟨c1, _ | ⟨c2, t⟩⟩
    · rw [next_short h0.2 (by rw [hz]; simp)] at h; cases h; exact absurd rfl hn
    · rw [next_short h0.2 (by rw [hz]; simp)] at h; cases h; exact absurd rfl hn
    · have h1 := hB c1 (by simp)
      have h2 := hB c2 (by simp)
      obtain ⟨l1, e1⟩ := hat 1 c1 rfl
      obtain ⟨l2, e2⟩ := hat 2 c2 rfl
      generalize hm1 : (s.get! (pos + 1)).toNat = m1 at e1
      generalize hm2 : (s.get! (pos + 2)).toNat = m2 at e2
      rw [next_3 hz h1.1 h1.2 h2.1 h2.2] at h
      split at h
      · rename_i hc
        cases h
        have hb0 : 224 ≤ b0 ∧ b0 < 240 := by
          unfold hdSize at hz
          (repeat' split at hz) <;> omega
        have hlo : (if b0 = 224 then (160 : Int) else 128) ≤ c1 := by
          refine Int.le_trans ?_ hc.1.1
          unfold hdLo
          split
          · decide
          · split <;> decide
        have hhi : c1 ≤ (if b0 = 237 then (159 : Int) else 191) := by
          refine Int.le_trans hc.1.2 ?_
          unfold hdHi
          split
          · decide
          · split <;> decide
        have hlo2 : 128 ≤ c1 := by split at hlo <;> omega
        have hhi2 : c1 ≤ 191 := by split at hhi <;> omega
        have q1 : ¬ (m0 / 32 == 6 && (decide (pos + 1 < s.size) && m1 / 64 == 2)) = true := by
          simp only [Bool.and_eq_true, beq_iff_eq, decide_eq_true_eq]
          rintro ⟨x, _⟩; omega
        have q2 : (m0 / 16 == 14 && (decide (pos + 1 < s.size) && m1 / 64 == 2) && (decide (pos + 2 < s.size) && m2 / 64 == 2)) = true := by
          simp only [Bool.and_eq_true, beq_iff_eq, decide_eq_true_eq]
          exact ⟨⟨by omega, l1, by omega⟩, l2, by omega⟩
        have q3 : (decide (m0 % 16 * 4096 + m1 % 64 * 64 + m2 % 64 ≥ 2048) && Utf8.valid ((m0 % 16 * 4096 + m1 % 64 * 64 + m2 % 64 : Nat) : Int)) = true := by
          simp only [Utf8.valid, Bool.and_eq_true, Bool.or_eq_true, decide_eq_true_eq]
          refine ⟨by split at hlo <;> omega, ?_⟩
          split at hhi
          · left; omega
          · by_cases hb : b0 < 237
            · left; omega
            · right; omega
        simp only [Utf8.decode, hm0, hm1, hm2]
        rw [if_neg (by omega), if_neg q1, if_pos q2, if_pos q3]
        exact ⟨by omega, rfl⟩
      · cases h; exact absurd rfl hn
  · rcases t with _ | ⟨c1, _ | ⟨c2, _ | ⟨c3, t⟩⟩⟩
    · rw [next_short h0.2 (by rw [hz]; simp)] at h; cases h; exact absurd rfl hn
    · rw [next_short h0.2 (by rw [hz]; simp)] at h; cases h; exact absurd rfl hn
    · rw [next_short h0.2 (by rw [hz]; simp)] at h; cases h; exact absurd rfl hn
    · have h1 := hB c1 (by simp)
      have h2 := hB c2 (by simp)
      have h3 := hB c3 (by simp)
      obtain ⟨l1, e1⟩ := hat 1 c1 rfl
      obtain ⟨l2, e2⟩ := hat 2 c2 rfl
      obtain ⟨l3, e3⟩ := hat 3 c3 rfl
      generalize hm1 : (s.get! (pos + 1)).toNat = m1 at e1
      generalize hm2 : (s.get! (pos + 2)).toNat = m2 at e2
      generalize hm3 : (s.get! (pos + 3)).toNat = m3 at e3
      rw [next_4 hz h1.1 h1.2 h2.1 h2.2 h3.1 h3.2] at h
      split at h
      · rename_i hc
        cases h
        have hb0 : 240 ≤ b0 ∧ b0 < 245 := by
          unfold hdSize at hz
          (repeat' split at hz) <;> omega
        have hlo : (if b0 = 240 then (144 : Int) else 128) ≤ c1 := by
          refine Int.le_trans ?_ hc.1.1
          unfold hdLo
          rw [if_neg (show ¬ b0 = 224 by omega)]
          exact Int.le_refl _
        have hhi : c1 ≤ (if b0 = 244 then (143 : Int) else 191) := by
          refine Int.le_trans hc.1.2 ?_
          unfold hdHi
          rw [if_neg (show ¬ b0 = 237 by omega)]
          exact Int.le_refl _
        have hlo2 : 128 ≤ c1 := by split at hlo <;> omega
        have hhi2 : c1 ≤ 191 := by split at hhi <;> omega
        have q1 : ¬ (m0 / 32 == 6 && (decide (pos + 1 < s.size) && m1 / 64 == 2)) = true := by
          simp only [Bool.and_eq_true, beq_iff_eq, decide_eq_true_eq]
          rintro ⟨x, _⟩; omega
        have q2 : ¬ (m0 / 16 == 14 && (decide (pos + 1 < s.size) && m1 / 64 == 2) && (decide (pos + 2 < s.size) && m2 / 64 == 2)) = true := by
          simp only [Bool.and_eq_true, beq_iff_eq, decide_eq_true_eq]
          rintro ⟨⟨x, _⟩, _⟩; omega
        have q3 : (m0 / 8 == 30 && (decide (pos + 1 < s.size) && m1 / 64 == 2) && (decide (pos + 2 < s.size) && m2 / 64 == 2) && (decide (pos + 3 < s.size) && m3 / 64 == 2)) = true := by
          simp only [Bool.and_eq_true, beq_iff_eq, decide_eq_true_eq]
          exact ⟨⟨⟨by omega, l1, by omega⟩, l2, by omega⟩, l3, by omega⟩
        have q4 : (decide (m0 % 8 * 262144 + m1 % 64 * 4096 + m2 % 64 * 64 + m3 % 64 ≥ 65536) && Utf8.valid ((m0 % 8 * 262144 + m1 % 64 * 4096 + m2 % 64 * 64 + m3 % 64 : Nat) : Int)) = true := by
          simp only [Utf8.valid, Bool.and_eq_true, Bool.or_eq_true, decide_eq_true_eq]
          refine ⟨by split at hlo <;> omega, ?_⟩
          right
          split at hhi <;> omega
        simp only [Utf8.decode, hm0, hm1, hm2, hm3]
        rw [if_neg (by omega), if_neg q1, if_neg q2, if_pos q3, if_pos q4]
        exact ⟨by omega, rfl⟩
      · cases h; exact absurd rfl hn
theorem runes_ok {S : Nat → Prop} {v : Value} {b : List Int} {w : World} (h : RBytes S w v b) (hb : ByteL b) (hT : Tabs w) (hl : b.length * 4 ≤ 140737488355328) :
    callK Tryz.prog 114 [v] (fun v' w' => Grow w w' ∧ match readB b with
      | some l => ∃ sl, v' = .tuple #[sl, .int .i64 0] ∧ OwnR w.heap.size 21 1 RRune w' sl l
      | none => v' = .tuple #[.slice none 0 0, .int .i64 3]) w := by
  apply S114_ok
  unfold S114
  refine callK_mono (valid_ok h hb hT) ?_
  rintro _ w1 ⟨rfl, g1⟩
  rw [notK_i]
  cases hr : readB b with
  | none => exact condK_t ⟨g1, rfl⟩
  | some rs =>
    refine condK_f (runK_i (run_str (h.grow g1 (by decide) fun _ _ h => h) hb) ?_)
    have hs : bytesL (strOf b) = b := bytesL_strOf hb
    have hsz : (strOf b).size = b.length := by rw [← bytesL_len, hs]
    generalize strOf b = s at hs hsz
    refine runK_i (run_range_string w1 9 s (by kernel_rfl)) ?_
    have hit := World.iter_heap w1 s 0
    have g2 : Grow w1 (w1.iter s 0) := Mod.alloc _ _ _
    have hr1 := g1.size
    generalize w1.iter s 0 = w2 at hit g2
    generalize hrb : w1.heap.size = r at hit
    have hrw : w.heap.size ≤ r := by omega
    refine LoopK_i (fun vs W => ∃ (pos : Nat) (lv : Value) (acc : List Int), pos ≤ b.length ∧ acc.length ≤ pos ∧ vs = [lv] ∧ W.heap[r]? = some (.stringIter s pos) ∧ OwnR w.heap.size 21 1 RRune W lv acc ∧ lv.ownBlock ≠ some r ∧ Grow w W ∧ readB b = (readB (b.drop pos)).map (acc ++ ·)) (fun _ W => b.length - posAt W r)
      ⟨0, _, [], Nat.zero_le _, Nat.le_refl _, rfl, hit, OwnR.nil, (fun h => nomatch h), g1.trans g2, by simp⟩ ?_
    rintro vs W ⟨pos, lv, acc, hpos, hacc, rfl, hi, ho, hrn, gW, hrd⟩ _
    have hposAt : posAt W r = pos := by simp [posAt, hi]
    by_cases hlt : pos < s.size
    · have hlt' : pos < b.length := by omega
      have hne : b.drop pos ≠ [] := by intro e; have := congrArg List.length e; simp at this; omega
      have hnl := nextB_len (b.drop pos)
      rw [List.length_drop] at hnl
      rw [readB_cons hne] at hrd
      have hnx : ∃ q n, nextB (b.drop pos) = (q, n) := ⟨_, _, rfl⟩
      obtain ⟨q, n, hq⟩ := hnx
      rw [hq] at hrd hnl
      simp only at hrd hnl
      have hn : n ≠ 0 := by
        intro e
        rw [if_pos e, hr] at hrd
        cases hrd
      rw [if_neg hn] at hrd
      obtain ⟨d1, d2⟩ := decode_next (s := s) hlt (by rw [hs]; exact hq) hn
      refine runK_i (run_next_str hi hlt) ?_
      rw [d1, d2]
      refine extK_i (vs := [_, _, _]) (by rfl) (condK_t (extK_i (vs := [_, _, _]) (by rfl) ?_))
      have m3 := Mod.setObj W r _ (.stringIter s (pos + n)) hi
      have hi3 := (MapKept.heap_set (o' := .stringIter s (pos + n)) hi).1
      have hi3' : ({ W with heap := W.heap.setIfInBounds r (.stringIter s (pos + n)) } : World).heap[r]? = some (.stringIter s (pos + n)) := hi3
      generalize ({ W with heap := W.heap.setIfInBounds r (.stringIter s (pos + n)) } : World) = W3 at m3 hi3'
      have ho3 : OwnR w.heap.size 21 1 RRune W3 lv acc := OwnR.mod ho m3 (fun g hg e => hrn (e ▸ hg)) fun _ _ _ h => h
      have gW3 : Grow w W3 := gW.next m3 fun x hx e => by omega
      show rowK _ _ _ _ [(0, .int .i32 q)] _ _
      refine push_g elem_rune ho3 gW3.size (cs := [.int .i32 q]) (x := q) (by kernel_rfl) rfl rfl (fun _ _ _ => RRune.one) (fun _ _ _ _ _ _ h => h) (by omega) (by simp only [maxLen]; omega) fun v' w' h1 h2 h3 => ?_
      have hrlt : r < W3.heap.size := (Array.getElem?_eq_some_iff.1 hi3').1
      have hi4 : w'.heap[r]? = some (.stringIter s (pos + n)) := (h2.same r hrlt hrn).trans hi3'
      refine ⟨⟨pos + n, v', acc ++ [q], by omega, by simp; omega, rfl, hi4, h1, fun e => ?_, gW3.next h2 fun x hx e => ?_, ?_⟩, ?_⟩
      · rcases h3 r e with e | e
        · exact hrn e
        · omega
      · have := (OwnR.ownB ho3 x e).1
        omega
      · rw [hrd, List.drop_drop]
        cases readB (b.drop (pos + n)) <;> simp
      · rw [hposAt]
        have : posAt w' r = pos + n := by simp [posAt, hi4]
        rw [this]
        omega
    · refine runK_i (run_next_over hi hlt) ?_
      refine extK_i (vs := [_]) (by rfl) (condK_f ?_)
      have : pos = b.length := by omega
      subst this
      rw [List.drop_length, readB_nil, hr] at hrd
      simp only [Option.map_some, Option.some.injEq, List.append_nil] at hrd
      subst hrd
      exact ⟨gW, lv, rfl, ho⟩
end Go.Proofs.YtlbaopamhkmepaaGreatDoor

namespace Go.Proofs.YtlbaopamhkmepaaGreatDoor
open Go Go.K
/-- rubric/attrs.May -/
def S154 (v0 v1 : Value) (K : Cont) (w : World) : Prop :=
  lenK v1 fun t9 =>
  gtK .i64 t9 (.int .i64 64) fun t10 =>
  condK t10
  (K (.int .i64 3) w)
  (lenK v1 fun t12 =>
  LoopK [(.int .i64 0), (.int .i64 0)] (fun vs again w1 => ∀ _h : Env,
  ltK .i64 (nth vs 1) t12 fun t14 =>
  condK t14
  (ixK 5 v1 (nth vs 1) fun t16 =>
  ldnK 5 t16 (fun t17 w2 =>
  newK 109 [(.int .i64 0), (.int .u8 0), (.int .i64 0), (.int .u64 0), (.string (ByteArray.mk #[]))] (fun t7 w3 =>
  stnK 5 t7 t17 (fun w4 =>
  JoinK (fun vs_1 w5 => ∀ _h_1 : Env,
  condK (nth vs_1 0)
  (K (.int .i64 3) w5)
  (faK 0 t7 fun t40 =>
  ld1K t40 (fun t41 w6 =>
  faK 1 t7 fun t42 =>
  ldnK 4 t42 (fun t43 w7 =>
  callK Tryz.prog 192 [v0, t41, t43] (fun t44 w8 =>
  notK t44 fun t45 =>
  condK t45
  (addK .i64 (nth vs 1) (.int .i64 1) fun t46 =>
  again [(.int .i64 4), t46] w8)
  (addK .i64 (nth vs 1) (.int .i64 1) fun t46_1 =>
  again [(nth vs 0), t46_1] w8)) w7) w6) w5)) (fun J =>
  DrawC [16] [[], [0], [0, 1], [0, 1, 2], [0, 1, 2], [0, 1, 2, 4], [0, 1, 2, 3, 4, 5], [0, 1, 2, 3, 4, 5, 6], [0, 1, 2, 3, 4, 5, 6, 7], [0, 1, 2], [0, 1, 2, 9], [0, 1, 2, 3, 4, 5, 6, 7, 8, 9, 10], [0, 1, 2, 3, 4, 5, 6, 7, 8, 9, 10, 11], [0, 1, 2, 3, 4, 5, 6, 7, 8, 9, 10, 11, 12], [0, 1, 2, 3, 4, 5, 6, 7, 8, 9, 10, 11, 12, 13], [0, 1, 2, 3, 4, 5, 6, 7, 8, 9, 10, 11, 12, 13, 14], [0, 1, 2, 3, 4, 5, 6, 7, 8, 9, 10, 11, 12, 13, 14, 15], [0, 1, 2, 3, 4, 5, 6, 7, 8, 9, 10, 11, 12, 13, 14, 15, 16], [0, 1, 2, 3, 4, 5, 6, 7, 8, 9, 10, 11, 12, 13, 14, 15, 16, 17], [0, 1, 2, 3, 4, 5, 6, 7, 8, 9, 10, 11, 12, 13, 14, 15, 16, 17, 18]] w4.drew (fun M St =>
  gtK .i64 (nth vs 1) (.int .i64 0) fun t20 =>
  condK t20
  (subK .i64 (nth vs 1) (.int .i64 1) fun t24 =>
  ixK 5 v1 t24 fun t25 =>
  faK 0 t25 fun t26 =>
  sld1 (St 8) t26 fun t27 =>
  faK 0 t7 fun t28 =>
  sld1 (St 10) t28 fun t29 =>
  geK .i64 t27 t29 fun t30 =>
  condK t30
  (J [(.bool true)] w4.drew)
  (faK 1 t7 fun t33 =>
  sldn (St 15) 4 t33 fun t34 =>
  callK Tryz.prog 191 [t34] (fun t35 w9 =>
  Mod (M 16) w4.drew w9 ∧
  notK t35 fun t36 =>
  J [t36] w9) w4.drew))
  (faK 1 t7 fun t33_1 =>
  sldn (St 15) 4 t33_1 fun t34_1 =>
  callK Tryz.prog 191 [t34_1] (fun t35_1 w10 =>
  Mod (M 16) w4.drew w10 ∧
  notK t35_1 fun t36_1 =>
  J [t36_1] w10) w4.drew)))) w3) w2) w1)
  (K (nth vs 0) w1)) w)
theorem S154_eq (v0 v1 : Value) (K : Cont) (w : World) : S154 v0 v1 K w = D Tryz.prog okf 48 (bodyOf Tryz.f154) (.node [] [] .nil (.node [] [] (.node [] [] .nil (.node [] [] (.node [] [] .nil .nil) .nil)) (.node [] [] .nil (.node [] [] (.node [] [] .nil (.node [5, 13] [(4, 7), (13, 46)] (.node [] [] .nil (.node [] [] (.node [] [] .nil .nil) (.node [] [] (.node [] [] .nil (.cut [18] [(18, 37)] (.dc [16] [[], [0], [0, 1], [0, 1, 2], [0, 1, 2], [0, 1, 2, 4], [0, 1, 2, 3, 4, 5], [0, 1, 2, 3, 4, 5, 6], [0, 1, 2, 3, 4, 5, 6, 7], [0, 1, 2], [0, 1, 2, 9], [0, 1, 2, 3, 4, 5, 6, 7, 8, 9, 10], [0, 1, 2, 3, 4, 5, 6, 7, 8, 9, 10, 11], [0, 1, 2, 3, 4, 5, 6, 7, 8, 9, 10, 11, 12], [0, 1, 2, 3, 4, 5, 6, 7, 8, 9, 10, 11, 12, 13], [0, 1, 2, 3, 4, 5, 6, 7, 8, 9, 10, 11, 12, 13, 14], [0, 1, 2, 3, 4, 5, 6, 7, 8, 9, 10, 11, 12, 13, 14, 15], [0, 1, 2, 3, 4, 5, 6, 7, 8, 9, 10, 11, 12, 13, 14, 15, 16], [0, 1, 2, 3, 4, 5, 6, 7, 8, 9, 10, 11, 12, 13, 14, 15, 16, 17], [0, 1, 2, 3, 4, 5, 6, 7, 8, 9, 10, 11, 12, 13, 14, 15, 16, 17, 18]] []) (.node [] [] (.node [] [] .nil .nil) (.node [] [] .nil (.node [] [] .nil .nil))))) .nil))) .nil)) (.node [] [] .nil .nil))))) (retK Tryz.prog [.tmp 4] K) (nth [v0, v1]) w := by kernel_rfl
theorem S154_ok {v0 v1 : Value} {K : Cont} {w : World} (h : S154 v0 v1 K w) : callK Tryz.prog 154 [v0, v1] K w :=
  callK_of (P := Tryz.prog) (ok := okf) (n := 48) (fn := Tryz.f154) (c := bodyOf Tryz.f154) (rs := [.tmp 4]) (an := (.node [] [] .nil (.node [] [] (.node [] [] .nil (.node [] [] (.node [] [] .nil .nil) .nil)) (.node [] [] .nil (.node [] [] (.node [] [] .nil (.node [5, 13] [(4, 7), (13, 46)] (.node [] [] .nil (.node [] [] (.node [] [] .nil .nil) (.node [] [] (.node [] [] .nil (.cut [18] [(18, 37)] (.dc [16] [[], [0], [0, 1], [0, 1, 2], [0, 1, 2], [0, 1, 2, 4], [0, 1, 2, 3, 4, 5], [0, 1, 2, 3, 4, 5, 6], [0, 1, 2, 3, 4, 5, 6, 7], [0, 1, 2], [0, 1, 2, 9], [0, 1, 2, 3, 4, 5, 6, 7, 8, 9, 10], [0, 1, 2, 3, 4, 5, 6, 7, 8, 9, 10, 11], [0, 1, 2, 3, 4, 5, 6, 7, 8, 9, 10, 11, 12], [0, 1, 2, 3, 4, 5, 6, 7, 8, 9, 10, 11, 12, 13], [0, 1, 2, 3, 4, 5, 6, 7, 8, 9, 10, 11, 12, 13, 14], [0, 1, 2, 3, 4, 5, 6, 7, 8, 9, 10, 11, 12, 13, 14, 15], [0, 1, 2, 3, 4, 5, 6, 7, 8, 9, 10, 11, 12, 13, 14, 15, 16], [0, 1, 2, 3, 4, 5, 6, 7, 8, 9, 10, 11, 12, 13, 14, 15, 16, 17], [0, 1, 2, 3, 4, 5, 6, 7, 8, 9, 10, 11, 12, 13, 14, 15, 16, 17, 18]] []) (.node [] [] (.node [] [] .nil .nil) (.node [] [] .nil (.node [] [] .nil .nil))))) .nil))) .nil)) (.node [] [] .nil .nil)))))) good mixed Tryz.func154 (by kernel_rfl) (by kernel_rfl) (by kernel_rfl) (by kernel_rfl) (Eq.mp (S154_eq v0 v1 K w) h)

end Go.Proofs.YtlbaopamhkmepaaGreatDoor

namespace Go.Proofs.YtlbaopamhkmepaaGreatDoor
open Go Go.K

theorem RByte.one {w : World} {r : List Value} {x : Int} (h : RByte w r x) : ∀ u ∈ r, u.oneCell' = true := by
  subst h; intro u hu; simp at hu; subst hu; rfl
end Go.Proofs.YtlbaopamhkmepaaGreatDoor

namespace Go.Proofs.YtlbaopamhkmepaaGreatDoor
open Go Go.K

theorem ext_bits {n : Nat} {w : World} : (callFunc 217 #[.float .f64 n]).run Tryz.prog w = .ok (.value (.int .u64 n)) w := by
  have h : Tryz.prog.funcs[217]? = some Tryz.f217 := Tryz.func217
  have e0 : (Tryz.f217.name == "runtime.NumGoroutine") = false := by kernel_rfl
  have e1 : Tryz.f217.body.isNone = true := by kernel_rfl
  have e2 : Extern.findNext Tryz.f217 = none := by kernel_rfl
  have e3 : Extern.find Tryz.f217 = some Extern.MathFloatBits.float64bits := by kernel_rfl
  simp only [callFunc, program, mark, Sem.run_bind, Sem.run, Result.andThen, h, e0, e1, e2, e3, Bool.false_eq_true, if_false, if_true]
  rfl
theorem ext_from {n : Int} {w : World} : (callFunc 209 #[.int .u64 n]).run Tryz.prog w = .ok (.value (.float .f64 n.toNat)) w := by
  have h : Tryz.prog.funcs[209]? = some Tryz.f209 := Tryz.func209
  have e0 : (Tryz.f209.name == "runtime.NumGoroutine") = false := by kernel_rfl
  have e1 : Tryz.f209.body.isNone = true := by kernel_rfl
  have e2 : Extern.findNext Tryz.f209 = none := by kernel_rfl
  have e3 : Extern.find Tryz.f209 = some Extern.MathFloatBits.float64frombits := by kernel_rfl
  simp only [callFunc, program, mark, Sem.run_bind, Sem.run, Result.andThen, h, e0, e1, e2, e3, Bool.false_eq_true, if_false, if_true]
  rfl
theorem isnan_ok {n : Nat} {w : World} : callK Tryz.prog 216 [.float .f64 n] (fun v w' => v = .bool (decide (NoNum (n : Int))) ∧ w' = w) w := by
  apply S216_ok
  unfold S216
  refine runK_i (v := .bool (decide (NoNum (n : Int)))) (w' := w) ?_ ⟨rfl, rfl⟩
  rw [← order_self]
  simp [binS, eqGuard, binOp, Op.floatCmp]
theorem flag_ok {b : Bool} {w : World} : callK Tryz.prog 206 [.bool b] (fun v w' => v = .agg (⟨1, if b then 1 else 0, 0, noS⟩ : AVal).cells.toArray ∧ Grow w w') w := by
  apply S206_ok
  unfold S206
  refine newz_i fun b2 w1 hb2 hz2 g2 _ hl2 => ?_
  refine ⟨(⟨1, 0, 0, noS⟩ : AVal).cells.toArray, by kernel_rfl, ?_⟩
  refine newst_n (vs := (⟨1, 0, 0, noS⟩ : AVal).cells) rfl rfl (AVal.one _) fun b3 w2 hb3 hz3 g3 hc3 hl3 => ?_
  have g23 := g2.trans g3
  cases b with
  | true =>
    refine condK_t ?_
    rw [faK_i]
    refine (hl3 1 (by decide)).st rfl rfl ?_
    rw [addr0]
    have m := Mod.setCell (M := fun x => x = b3) w2 ⟨b3, 1, none⟩ (.int .i64 1) rfl
    have hc : ∀ j u, (⟨1, 1, 0, noS⟩ : AVal).cells[j]? = some u → (w2.setCell ⟨b3, 1, none⟩ (.int .i64 1)).cell? ((⟨b3, 0, none⟩ : Addr).add j) = some u := by
      intro j u hu
      rw [addr0]
      by_cases e : j = 1
      · subst e
        have h1 := (hl3 1 (by decide)).1
        rw [addr0] at h1
        obtain ⟨u', hu'⟩ := Option.isSome_iff_exists.1 h1
        cases hu
        exact World.cell?_setCell_same _ _ _ hu'
      · rw [World.cell?_setCell_other _ _ _ _ (fun e' => by simp only [Addr.mk.injEq] at e'; exact e e'.2.1.symm)]
        have := hc3 j u (by
          rcases j with _ | _ | _ | _ | j
          · exact hu
          · exact absurd rfl e
          · exact hu
          · exact hu
          · exact hu)
        rwa [addr0] at this
    have hl2' := fun j hj => ((hl2 j hj).mod g3 fun h => h).mod m (fun e => by rw [addr0] at e; have : b2 = b3 := e; omega)
    generalize w2.setCell ⟨b3, 1, none⟩ (.int .i64 1) = w3 at m hc hl2' ⊢
    refine ldnK_i (vs := (⟨1, 1, 0, noS⟩ : AVal).cells) rfl hc ?_
    refine stn_over rfl (AVal.one _) (fun j hj => hl2' j hj) fun w4 m4 hc4 _ => ?_
    refine ldnK_i (vs := (⟨1, 1, 0, noS⟩ : AVal).cells) rfl hc4 ⟨rfl, ?_⟩
    exact (g23.next m fun x hx e => by omega).next m4 fun x hx e => by omega
  | false =>
    refine condK_f ?_
    refine ldnK_i (vs := (⟨1, 0, 0, noS⟩ : AVal).cells) rfl hc3 ?_
    refine stn_over rfl (AVal.one _) (fun j hj => (hl2 j hj).mod g3 fun h => h) fun w4 m4 hc4 _ => ?_
    refine ldnK_i (vs := (⟨1, 0, 0, noS⟩ : AVal).cells) rfl hc4 ⟨rfl, ?_⟩
    exact g23.next m4 fun x hx e => by omega
theorem int_ok {n : Int} {w : World} : callK Tryz.prog 207 [.int .i64 n] (fun v w' => v = .agg (⟨2, n, 0, noS⟩ : AVal).cells.toArray ∧ Grow w w') w := by
  apply S207_ok
  unfold S207
  refine newz_i fun b2 w1 hb2 hz2 g2 _ hl2 => ?_
  refine ⟨(⟨2, n, 0, noS⟩ : AVal).cells.toArray, by kernel_rfl, ?_⟩
  refine stn_over rfl (AVal.one _) (fun j hj => hl2 j hj) fun w4 m4 hc4 _ => ?_
  refine ldnK_i (vs := (⟨2, n, 0, noS⟩ : AVal).cells) rfl hc4 ⟨rfl, ?_⟩
  exact g2.next m4 fun x hx e => by omega
theorem float_ok {n : Nat} {w : World} : callK Tryz.prog 208 [.float .f64 n] (fun v w' => v = .agg (⟨3, 0, if NoNum (n : Int) then 9221120237041090560 else n, noS⟩ : AVal).cells.toArray ∧ Grow w w') w := by
  apply S208_ok
  unfold S208
  refine newz_i fun b2 w1 hb2 hz2 g2 _ hl2 => ?_
  refine callK_mono isnan_ok ?_
  rintro _ _ ⟨rfl, rfl⟩
  rename World => w1
  by_cases hn : NoNum (n : Int)
  · rw [decide_eq_true hn]
    refine condK_t ⟨(⟨3, 0, 9221120237041090560, noS⟩ : AVal).cells.toArray, by kernel_rfl, ?_⟩
    refine stn_over rfl (AVal.one _) (fun j hj => hl2 j hj) fun w4 m4 hc4 _ => ?_
    refine ldnK_i (vs := (⟨3, 0, 9221120237041090560, noS⟩ : AVal).cells) rfl hc4 ⟨by rw [if_pos hn], ?_⟩
    exact g2.next m4 fun x hx e => by omega
  · rw [decide_eq_false hn]
    refine condK_f ⟨_, _, ext_bits, ?_⟩
    refine ⟨(⟨3, 0, (n : Int), noS⟩ : AVal).cells.toArray, by kernel_rfl, ?_⟩
    refine stn_over rfl (AVal.one _) (fun j hj => hl2 j hj) fun w4 m4 hc4 _ => ?_
    refine ldnK_i (vs := (⟨3, 0, (n : Int), noS⟩ : AVal).cells) rfl hc4 ⟨by rw [if_neg hn], ?_⟩
    exact g2.next m4 fun x hx e => by omega
/-- whether a text may be a value's -/
def TextOK (s : ByteArray) : Prop := s.size ≤ 64 ∧ (readB (bytesL s)).isSome = true
instance (s : ByteArray) : Decidable (TextOK s) := by unfold TextOK; infer_instance
theorem bytesL_byte (s : ByteArray) : ByteL (bytesL s) := fun x hx => by
  simp only [bytesL, List.mem_map] at hx
  obtain ⟨b, _, rfl⟩ := hx
  have := b.toNat_lt
  omega
theorem text_ok {s : ByteArray} {w : World} (hT : Tabs w) : callK Tryz.prog 210 [.string s] (fun v w' => v = (if TextOK s then .tuple #[.agg (⟨4, 0, 0, s⟩ : AVal).cells.toArray, .int .i64 0] else .tuple #[.agg (⟨0, 0, 0, noS⟩ : AVal).cells.toArray, .int .i64 3]) ∧ Grow w w') w := by
  apply S210_ok
  unfold S210
  refine newz_i fun b2 w1 hb2 hz2 g2 _ hl2 => ?_
  rw [slenK_i, gtK_i]
  refine condK_p (fun hbig => ?_) fun hle => ?_
  · refine ⟨(⟨0, 0, 0, noS⟩ : AVal).cells.toArray, by kernel_rfl, ?_⟩
    refine stn_over rfl (AVal.one _) (fun j hj => hl2 j hj) fun w4 m4 hc4 _ => ?_
    refine ldnK_i (vs := (⟨0, 0, 0, noS⟩ : AVal).cells) rfl hc4 ⟨by rw [if_neg (fun h => by have := h.1; omega)], ?_⟩
    exact g2.next m4 fun x hx e => by omega
  · refine strbytes (by omega) fun v3 w3 g3 hb3 => ?_
    have g23 := g2.trans g3
    have hl3 : ∀ j, j < 4 → Live w3 ((⟨b2, 0, none⟩ : Addr).add j) := fun j hj => (hl2 j hj).mod g3 fun h => h
    refine callK_mono (runes_ok hb3 (bytesL_byte s) (hT.grow g23) (by rw [bytesL_len]; omega)) ?_
    rintro v5 w5 ⟨g5, hm⟩
    have hl5 : ∀ j, j < 4 → Live w5 ((⟨b2, 0, none⟩ : Addr).add j) := fun j hj => (hl3 j hj).mod g5 fun h => h
    have g25 := g23.trans g5
    cases hr : readB (bytesL s) with
    | none =>
      rw [hr] at hm
      subst hm
      refine extK_i (vs := [_, _]) (by rfl) (extK_i (vs := [_, _]) (by rfl) ?_)
      rw [neK_i]
      refine condK_neg (fun e => by cases e) fun _ => ?_
      refine ⟨(⟨0, 0, 0, noS⟩ : AVal).cells.toArray, by kernel_rfl, ?_⟩
      refine stn_over rfl (AVal.one _) (fun j hj => hl5 j hj) fun w6 m6 hc6 _ => ?_
      refine ldnK_i (vs := (⟨0, 0, 0, noS⟩ : AVal).cells) rfl hc6 ⟨by rw [if_neg (fun h => by have := h.2; rw [hr] at this; cases this)], ?_⟩
      exact g25.next m6 fun x hx e => by omega
    | some l =>
      rw [hr] at hm
      obtain ⟨sl, rfl, _⟩ := hm
      refine extK_i (vs := [_, _]) (by rfl) (extK_i (vs := [_, _]) (by rfl) ?_)
      rw [neK_i]
      refine condK_neg (fun _ => ?_) fun e => (e rfl).elim
      refine ⟨(⟨4, 0, 0, s⟩ : AVal).cells.toArray, by kernel_rfl, ?_⟩
      refine stn_over rfl (AVal.one _) (fun j hj => hl5 j hj) fun w6 m6 hc6 _ => ?_
      refine ldnK_i (vs := (⟨4, 0, 0, s⟩ : AVal).cells) rfl hc6 ⟨by rw [if_pos ⟨by omega, by rw [hr]; rfl⟩], ?_⟩
      exact g25.next m6 fun x hx e => by omega
theorem vmay_ok {v : AVal} {w : World} (hT : Tabs w) (h0 : 0 ≤ v.f) :
    callK Tryz.prog 191 [.agg v.cells.toArray] (fun v' w' => v' = .bool (decide (ValOK v)) ∧ Grow w w') w := by
  apply S191_ok
  unfold S191
  refine boxn_i fun b w1 _ hz g hc _ => ?_
  have l0 := hc 0 _ rfl
  have l1 := hc 1 _ rfl
  have l2 := hc 2 _ rfl
  have l3 := hc 3 _ rfl
  have key : ∀ (b : Bool) w', Grow w w' → (b = true ↔ ValOK v) → Value.bool b = .bool (decide (ValOK v)) ∧ Grow w w' := fun b w' g h => ⟨by congr 1; rw [Bool.eq_iff_iff, h, decide_eq_true_eq], g⟩
  have no : ∀ w', Grow w w' → ¬ ValOK v → Value.bool false = .bool (decide (ValOK v)) ∧ Grow w w' := fun w' g h => key false w' g (by simp only [Bool.false_eq_true, false_iff]; exact h)
  have hall : ∀ j u, v.cells[j]? = some u → w1.cell? ((⟨b, 0, none⟩ : Addr).add j) = some u := hc
  simp only [faK_i]
  refine ld1K_i l0 ?_
  rw [eqK_i]
  refine condK_p (fun k1 => ?_) fun k1 => ?_
  · refine drawK_i (fun w2 => Grow w1 w2) (Mod.drew _ _) ?_
    refine qldnK_i (vs := v.cells) rfl (fun w2 g2 j u hu => g2.cell (hall j u hu) fun h => h) (qld1K_i (fun w2 g2 => g2.cell l1 fun h => h) ?_)
    rw [eqK_i]
    refine ⟨_, fun w2 g2 => callK_mono flag_ok (by rintro _ w3 ⟨rfl, g3⟩; exact ⟨rfl, g2.trans g3⟩), ?_⟩
    refine ⟨_, fun w2 _ => run_eq_val _ _ v ⟨1, if decide (v.n = 1) then 1 else 0, 0, noS⟩ w2, ?_⟩
    intro w3 g3
    refine key _ _ (g.trans g3) ?_
    rw [decide_eq_true_eq]
    constructor
    · intro e
      refine .inl ⟨k1, ?_, ?_⟩
      · by_cases h1 : v.n = 1
        · rw [h1]; simpa [h1] using e
        · have en : v.n = 0 := by rw [e]; simp [h1]
          rw [en]; simpa [h1] using e
      · by_cases h1 : v.n = 1
        · exact .inr h1
        · left; rw [e]; simp [h1]
    · rintro (h | h | h | h)
      · obtain ⟨_, e, hn⟩ := h
        rcases hn with hn | hn
        · rw [hn] at e ⊢; exact e
        · rw [hn] at e ⊢; exact e
      · omega
      · omega
      · omega
  rw [eqK_i]
  refine condK_p (fun k2 => ?_) fun k2 => ?_
  · refine drawK_i (fun w2 => Grow w1 w2) (Mod.drew _ _) ?_
    refine qldnK_i (vs := v.cells) rfl (fun w2 g2 j u hu => g2.cell (hall j u hu) fun h => h) (qld1K_i (fun w2 g2 => g2.cell l1 fun h => h) ?_)
    refine ⟨_, fun w2 g2 => callK_mono int_ok (by rintro _ w3 ⟨rfl, g3⟩; exact ⟨rfl, g2.trans g3⟩), ?_⟩
    refine ⟨_, fun w2 _ => run_eq_val _ _ v ⟨2, v.n, 0, noS⟩ w2, ?_⟩
    intro w3 g3
    refine key _ _ (g.trans g3) ?_
    rw [decide_eq_true_eq]
    refine ⟨fun h => .inr (.inl ⟨k2, h⟩), fun h => ?_⟩
    rcases h with h | h | h | h
    · omega
    · exact h.2
    · omega
    · omega
  rw [eqK_i]
  refine condK_p (fun k3 => ?_) fun k3 => ?_
  · refine drawK_i (fun w2 => Grow w1 w2) (Mod.drew _ _) ?_
    refine qldnK_i (vs := v.cells) rfl (fun w2 g2 j u hu => g2.cell (hall j u hu) fun h => h) (qld1K_i (fun w2 g2 => g2.cell l2 fun h => h) ?_)
    refine ⟨_, fun w2 _ => ext_from, ?_⟩
    refine ⟨_, fun w2 g2 => callK_mono float_ok (by rintro _ w3 ⟨rfl, g3⟩; exact ⟨rfl, g2.trans g3⟩), ?_⟩
    refine ⟨_, fun w2 _ => run_eq_val _ _ v _ w2, ?_⟩
    intro w3 g3
    refine key _ _ (g.trans g3) ?_
    have ef : ((v.f.toNat : Nat) : Int) = v.f := by omega
    rw [decide_eq_true_eq, ef]
    constructor
    · intro e
      refine .inr (.inr (.inl ⟨k3, ?_, ?_⟩))
      · by_cases hn : NoNum v.f
        · rw [if_pos hn] at e
          have e2 : v.f = 9221120237041090560 := congrArg AVal.f e
          rw [e2]; exact e
        · rw [if_neg hn] at e; exact e
      · by_cases hn : NoNum v.f
        · rw [if_pos hn] at e
          exact .inr (congrArg AVal.f e)
        · exact .inl hn
    · rintro (h | h | h | h)
      · omega
      · omega
      · obtain ⟨_, e, hn⟩ := h
        by_cases hh : NoNum v.f
        · rw [if_pos hh]
          rw [hn.resolve_left fun x => x hh] at e
          exact e
        · rw [if_neg hh]; exact e
      · omega
  rw [eqK_i]
  refine condK_p (fun k4 => ?_) fun k4 => no _ g ?_
  · refine ld1K_i l3 (callK_mono (text_ok (hT.grow g)) ?_)
    rintro v3 w3 ⟨rfl, g3⟩
    have g03 := g.trans g3
    by_cases hx : TextOK v.s
    · rw [if_pos hx]
      refine extK_i (vs := [_, _]) (by rfl) (extK_i (vs := [_, _]) (by rfl) ?_)
      refine newst_n (vs := (⟨4, 0, 0, v.s⟩ : AVal).cells) rfl rfl (AVal.one _) fun b4 w4 _ _ g4 hc4 _ => ?_
      rw [eqK_i]
      refine condK_p (fun _ => ?_) fun e => (e rfl).elim
      refine ldnK_i (vs := v.cells) rfl (fun j u hu => (g3.trans g4).cell (hall j u hu) fun h => h) ?_
      refine ldnK_i (vs := (⟨4, 0, 0, v.s⟩ : AVal).cells) rfl hc4 (runK_i (run_eq_val _ _ v ⟨4, 0, 0, v.s⟩ w4) ?_)
      refine key _ _ (g03.trans g4) ?_
      rw [decide_eq_true_eq]
      refine ⟨fun e => .inr (.inr (.inr ⟨k4, e, hx.1, hx.2⟩)), fun h => ?_⟩
      rcases h with h | h | h | h
      · omega
      · omega
      · omega
      · exact h.2.1
    · rw [if_neg hx]
      refine extK_i (vs := [_, _]) (by rfl) (extK_i (vs := [_, _]) (by rfl) ?_)
      refine newst_n (vs := (⟨0, 0, 0, noS⟩ : AVal).cells) rfl rfl (AVal.one _) fun b4 w4 _ _ g4 hc4 _ => ?_
      rw [eqK_i]
      refine condK_p (fun e => by cases e) fun _ => no _ (g03.trans g4) ?_
      rintro (h | h | h | h)
      · omega
      · omega
      · omega
      · exact hx ⟨h.2.2.1, h.2.2.2⟩
  · rintro (h | h | h | h)
    · exact k1 h.1
    · exact k2 h.1
    · exact k3 h.1
    · exact k4 h.1
end Go.Proofs.YtlbaopamhkmepaaGreatDoor

namespace Go.Proofs.YtlbaopamhkmepaaGreatDoor
open Go Go.K

open Classical in
theorem sfits_ok {D : Nat → Prop} {v : Value} {ks : List DKey} {id : Int} {x : AVal} {w : World} (h : SchR D w v ks) (hT : Tabs w) (h0 : 0 ≤ x.f) :
    callK Tryz.prog 192 [v, .int .i64 id, .agg x.cells.toArray] (fun v' w' => v' = .bool (decide (FitsK ks id x)) ∧ Grow w w') w := by
  apply S192_ok
  unfold S192
  have no : ∀ w', Grow w w' → ¬ FitsK ks id x → Value.bool false = .bool (decide (FitsK ks id x)) ∧ Grow w w' := fun w' g h => ⟨by rw [decide_eq_false h], g⟩
  refine boxn_i fun b w1 _ hz g hc _ => ?_
  refine callK_mono (sfind_ok (h.grow g) id) ?_
  rintro _ w2 ⟨rfl, g2⟩
  refine extK_i (vs := [_, _]) (by rfl) (extK_i (vs := [_, _]) (by rfl) ?_)
  generalize hk : (findK ks id).getD DKey.zero = k
  refine newst_n (vs := k.cells) rfl rfl (RKey.one (w := w) (x := k) rfl) fun b5 w3 hb5 hz5 g5 hc5 _ => ?_
  have g13 := g2.trans g5
  have g03 := g.trans g13
  cases hf : findK ks id with
  | none =>
    rw [Option.isSome_none]
    exact no _ g03 (by rintro ⟨k, e, _⟩; rw [hf] at e; cases e)
  | some k' =>
    rw [hf] at hk
    simp only [Option.getD_some] at hk
    subst hk
    rw [Option.isSome_some]
    refine condK_t ?_
    rw [faK_i]
    refine ld1K_i (hc5 2 _ rfl) ?_
    rw [faK_i]
    refine ld1K_i (g13.cell (hc 0 _ rfl) fun h => h) ?_
    rw [eqK_i]
    refine condK_p (fun he => ?_) fun he => no _ g03 (by rintro ⟨k, e, _, h⟩; rw [hf] at e; cases e; exact he h.symm)
    refine ldnK_i (vs := x.cells) rfl (fun j u hu => g13.cell (hc j u hu) fun h => h) (callK_mono (vmay_ok (hT.grow g03) h0) ?_)
    rintro _ w4 ⟨rfl, g4⟩
    refine ⟨?_, g03.trans g4⟩
    congr 1
    rw [decide_eq_decide]
    constructor
    · intro ho; exact ⟨k', hf, ho, he.symm⟩
    · rintro ⟨_, _, ho, _⟩; exact ho

end Go.Proofs.YtlbaopamhkmepaaGreatDoor

namespace Go.Proofs.YtlbaopamhkmepaaGreatDoor
open Go Go.K

/-- attrs.May -/
theorem smay_ok {D S : Nat → Prop} {sv v : Value} {ks : List DKey} {l : List Attr} {w : World} (hS : SchR D w sv ks) (h : RSet S w v l) (hT : Tabs w) (hI : ∀ a ∈ l, 0 ≤ a.val.f) :
    callK Tryz.prog 154 [sv, v] (fun v' w' => v' = .int .i64 (maySet ks l) ∧ Grow w w') w := by
  classical
  apply S154_ok
  unfold S154
  obtain ⟨a, c, rfl, hm⟩ := h.shape
  simp only [maxLen] at hm
  have bad : ∀ w', Grow w w' → SetBad l → Value.int .i64 3 = .int .i64 (maySet ks l) ∧ Grow w w' := fun w' g hb => ⟨by rw [maySet, if_pos hb], g⟩
  rw [lenK_i, gtK_i]
  refine condK_p (fun h6 => bad _ (Mod.refl _ _) (.inr (.inl (by omega)))) fun h6 => ?_
  rw [lenK_i]
  refine LoopK_i (fun vs W => ∃ i : Nat, i ≤ l.length ∧ vs = [.int .i64 (if SetNoKey ks (l.take i) then 4 else 0), .int .i64 i] ∧ Grow w W ∧ (∀ a ∈ l.take i, ValOK a.val) ∧ RisN Attr.key l i) (fun vs _ => l.length - iOf vs 1)
    ⟨0, Nat.zero_le _, by rw [if_neg (by rintro ⟨a, ha, _⟩; simp at ha)]; rfl, Mod.refl _ _, by simp, fun j hj => by omega⟩ ?_
  rintro vs W ⟨i, hi, rfl, g, hv, hris⟩ _
  simp only [nth_s, nth_z, List.headD_cons, List.tail_cons]
  rw [ltK_i]
  refine condK_p (fun hlt => ?_) fun hge => ?_
  · have hlt' : i < l.length := by omega
    obtain ⟨p, r, rfl, _, hr, hc, rfl⟩ := (h.grow g (by decide) fun _ _ h => h).get hlt'
    refine ixK_n hlt' (ldnK_i hr (fun j u hu => by rw [Addr.add_add]; exact hc j u hu) ?_)
    refine newst_n (vs := l[i].cells) rfl rfl (RAttr.one (w := w) (x := l[i]) rfl) fun b7 W1 hb7 hz7 g7 hc7 _ => ?_
    have gW1 := g.trans g7
    have hf0 := hI l[i] (List.getElem_mem hlt')
    have e1 : l.take (i + 1) = l.take i ++ [l[i]] := by rw [List.take_add_one, List.getElem?_eq_getElem hlt']; rfl
    refine JoinK_i (fun vs W2 => Grow W1 W2 ∧ ((vs = [.bool true] ∧ SetBad l) ∨ (vs = [.bool false] ∧ ValOK l[i].val ∧ RisN Attr.key l (i + 1)))) ?_ ?_
    · rintro vs W2 ⟨g2, hvs⟩ _
      rcases hvs with ⟨rfl, hb⟩ | ⟨rfl, hok, hrs⟩
      · exact condK_t (bad _ (gW1.trans g2) hb)
      · refine condK_f ?_
        rw [faK_i]
        refine ld1K_i (g2.cell (hc7 0 _ rfl) fun h => h) ?_
        rw [faK_i]
        refine ldnK_i (vs := l[i].val.cells) rfl (fun j u hu => g2.cell (by rw [Addr.add_add]; exact hc7 (1 + j) u (by rw [Nat.add_comm]; exact hu)) fun h => h) ?_
        refine callK_mono (sfits_ok (hS.grow (gW1.trans g2)) (hT.grow (gW1.trans g2)) hf0) ?_
        rintro _ W3 ⟨rfl, g3⟩
        have g03 := (gW1.trans g2).trans g3
        rw [notK_i]
        have hv' : ∀ a ∈ l.take (i + 1), ValOK a.val := fun a ha => by
          rw [e1] at ha
          rcases List.mem_append.1 ha with ha | ha
          · exact hv a ha
          · simp at ha; subst ha; exact hok
        by_cases hfit : FitsK ks l[i].key l[i].val
        · rw [decide_eq_true hfit]
          refine condK_f ?_
          rw [addK_i, loop_step (by omega)]
          refine ⟨⟨i + 1, hlt', ?_, g03, hv', hrs⟩, by rw [iOf1, iOf1]; omega⟩
          have e : SetNoKey ks (l.take (i + 1)) ↔ SetNoKey ks (l.take i) := by
            unfold SetNoKey
            rw [e1]
            constructor
            · rintro ⟨a, ha, hn⟩
              rcases List.mem_append.1 ha with ha | ha
              · exact ⟨a, ha, hn⟩
              · simp at ha; subst ha; exact absurd hfit hn
            · rintro ⟨a, ha, hn⟩; exact ⟨a, List.mem_append_left _ ha, hn⟩
          simp only [e]
        · rw [decide_eq_false hfit]
          refine condK_t ?_
          rw [addK_i, loop_step (by omega)]
          refine ⟨⟨i + 1, hlt', ?_, g03, hv', hrs⟩, by rw [iOf1, iOf1]; omega⟩
          rw [if_pos (show SetNoKey ks (l.take (i + 1)) from ⟨l[i], by rw [e1]; exact List.mem_append_right _ (List.mem_singleton.2 rfl), hfit⟩)]
    · refine drawC_i (fun _ _ => False) ?_
      have gd : Grow W1 W1.drew := Mod.drew _ _
      -- whether the value may be
      have vmay : RisN Attr.key l (i + 1) → faK 1 (.pointer (some (⟨b7, 0, none⟩ : Addr))) fun t33 => sldn (StI [16] [[], [0], [0, 1], [0, 1, 2], [0, 1, 2], [0, 1, 2, 4], [0, 1, 2, 3, 4, 5], [0, 1, 2, 3, 4, 5, 6], [0, 1, 2, 3, 4, 5, 6, 7], [0, 1, 2], [0, 1, 2, 9], [0, 1, 2, 3, 4, 5, 6, 7, 8, 9, 10], [0, 1, 2, 3, 4, 5, 6, 7, 8, 9, 10, 11], [0, 1, 2, 3, 4, 5, 6, 7, 8, 9, 10, 11, 12], [0, 1, 2, 3, 4, 5, 6, 7, 8, 9, 10, 11, 12, 13], [0, 1, 2, 3, 4, 5, 6, 7, 8, 9, 10, 11, 12, 13, 14], [0, 1, 2, 3, 4, 5, 6, 7, 8, 9, 10, 11, 12, 13, 14, 15], [0, 1, 2, 3, 4, 5, 6, 7, 8, 9, 10, 11, 12, 13, 14, 15, 16], [0, 1, 2, 3, 4, 5, 6, 7, 8, 9, 10, 11, 12, 13, 14, 15, 16, 17], [0, 1, 2, 3, 4, 5, 6, 7, 8, 9, 10, 11, 12, 13, 14, 15, 16, 17, 18]] (fun _ _ => False) W1.drew 15) 4 t33 fun t34 =>
          callK Tryz.prog 191 [t34] (fun t35 w9 => Mod (fun _ => False) W1.drew w9 ∧ notK t35 fun t36 => (fun vs W2 => Grow W1 W2 ∧ ((vs = [.bool true] ∧ SetBad l) ∨ (vs = [.bool false] ∧ ValOK l[i].val ∧ RisN Attr.key l (i + 1)))) [t36] w9) W1.drew := by
        intro hrs
        rw [faK_i]
        refine sldn_i (vs := l[i].val.cells) rfl (fun j u hu => ⟨gd.cell (by rw [Addr.add_add]; exact hc7 (1 + j) u (by rw [Nat.add_comm]; exact hu)) fun h => h, fun _ _ h => h⟩) ?_
        refine callK_mono (vmay_ok (hT.grow (gW1.trans gd)) hf0) ?_
        rintro _ W3 ⟨rfl, g3⟩
        refine ⟨g3, ?_⟩
        rw [notK_i]
        refine ⟨gd.trans g3, ?_⟩
        by_cases hok : ValOK l[i].val
        · exact .inr ⟨by rw [decide_eq_true hok]; rfl, hok, hrs⟩
        · exact .inl ⟨by rw [decide_eq_false hok]; rfl, .inr (.inr ⟨l[i], List.getElem_mem hlt', hok⟩)⟩
      rw [gtK_i]
      refine condK_p (fun hi0 => ?_) fun hi0 => vmay (fun j hj => by omega)
      rw [subK_i, wrap64 (by omega) (by omega), show ((i : Int) - 1) = ((i - 1 : Nat) : Int) by omega]
      have hi1 : i - 1 < l.length := by omega
      obtain ⟨_, r2, e2, _, hr2, hc2, rfl⟩ := (h.grow g (by decide) fun _ _ h => h).get hi1
      cases e2
      refine ixK_n hi1 ?_
      rw [faK_i, Addr.add_add]
      refine sld1_i ⟨(g7.trans gd).cell (hc2 0 _ rfl) fun h => h, fun _ _ h => h⟩ ?_
      rw [faK_i]
      refine sld1_i ⟨gd.cell (hc7 0 _ rfl) fun h => h, fun _ _ h => h⟩ ?_
      rw [geK_i]
      refine condK_p (fun hge => ⟨gd, .inl ⟨rfl, .inl fun hr => ?_⟩⟩) fun hlt2 => vmay ?_
      · have := hr i (by omega) hlt' _ _ (List.getElem?_eq_getElem hi1) (List.getElem?_eq_getElem hlt')
        omega
      · intro j hj1 hj2 x y hx hy
        by_cases hji : j < i
        · exact hris j hj1 hji x y hx hy
        · have : j = i := by omega
          subst this
          rw [List.getElem?_eq_getElem hi1] at hx
          rw [List.getElem?_eq_getElem hlt'] at hy
          cases hx; cases hy
          omega
  · have : i = l.length := by omega
    subst this
    rw [List.take_length] at hv
    refine ⟨?_, g⟩
    have ok : ¬ SetBad l := by
      rintro (h | h | ⟨a, ha, h⟩)
      · exact h hris
      · omega
      · exact h (hv a ha)
    rw [List.take_length, maySet, if_neg ok]
end Go.Proofs.YtlbaopamhkmepaaGreatDoor

namespace Go.Proofs.YtlbaopamhkmepaaGreatDoor
open Go Go.K

theorem validr_ok {r : Int} {w : World} : callK Tryz.prog 195 [.int .i32 r] (fun v' w' => v' = .bool (decide (MayR r)) ∧ w' = w) w := by
  apply S195_ok
  unfold S195
  have key : ∀ {b : Bool}, (b = true ↔ MayR r) → Value.bool b = .bool (decide (MayR r)) ∧ w = w := fun h => ⟨by congr 1; rw [Bool.eq_iff_iff, h, decide_eq_true_eq], rfl⟩
  unfold MayR at key ⊢
  rw [leK_i]
  refine condK_p (fun h0 => ?_) fun h0 => ?_
  · rw [ltK_i]
    refine condK_p (fun h1 => key (by simp; omega)) fun h1 => ?_
    rw [ltK_i]
    refine condK_p (fun h2 => ?_) fun h2 => key (by simp; omega)
    rw [leK_i]
    exact condK_p (fun h3 => key (by simp; omega)) fun h3 => key (by simp; omega)
  · rw [ltK_i]
    refine condK_p (fun h2 => ?_) fun h2 => key (by simp; omega)
    rw [leK_i]
    exact condK_p (fun h3 => key (by simp; omega)) fun h3 => key (by simp; omega)
theorem rmayp_ok {r : Int} {w : World} : callK Tryz.prog 159 [.int .i32 r] (fun v' w' => v' = .bool (decide (MayR r)) ∧ w' = w) w := by
  apply S159_ok
  unfold S159
  exact validr_ok
/-- whether one of the runes may not be -/
theorem crunes_ok {S : Nat → Prop} {v : Value} {l : List Int} {w : World} (h : RRun S w v l) :
    callK Tryz.prog 189 [v, .func (.func 190) #[] #[]] (fun v' w' => v' = .bool (!decide (∀ r ∈ l, MayR r)) ∧ w' = w) w := by
  apply S189_ok
  unfold S189
  refine callK_mono (K := fun v' w' => w' = w ∧ ((v' = .int .i64 (-1) ∧ ∀ r ∈ l, MayR r) ∨ ∃ i : Nat, v' = .int .i64 i ∧ ¬ ∀ r ∈ l, MayR r)) ?_ ?_
  · apply S205_ok
    unfold S205
    obtain ⟨a, c, rfl, hm⟩ := h.shape
    simp only [maxLen] at hm
    rw [lenK_i]
    refine LoopK_i (fun vs W => ∃ i : Nat, i ≤ l.length ∧ vs = [.int .i64 i] ∧ W = w ∧ ∀ c ∈ l.take i, MayR c) (fun vs _ => l.length - iOf vs 0) ⟨0, Nat.zero_le _, rfl, rfl, by simp⟩ ?_
    rintro vs _ ⟨i, hi, rfl, rfl, hall⟩ _
    rename World => w
    rw [nth_z, List.headD_cons, ltK_i]
    refine condK_p (fun hlt => ?_) fun hge => ?_
    · have hlt' : i < l.length := by omega
      obtain ⟨q, r, rfl, _, hr, hc, rfl⟩ := h.get hlt'
      refine ixK_n hlt' (ld1K_i (by have := hc 0 _ rfl; exact this) ?_)
      refine callyK_f (by kernel_rfl) ?_
      apply S190_ok
      unfold S190
      refine callK_mono rmayp_ok ?_
      rintro _ _ ⟨rfl, rfl⟩
      rename World => w
      rw [notK_i]
      by_cases hm1 : MayR l[i]
      · rw [decide_eq_true hm1]
        refine condK_f ?_
        rw [addK_i, loop_step (by omega)]
        refine ⟨⟨i + 1, hlt', rfl, rfl, fun c hc => ?_⟩, by rw [iOf0, iOf0]; omega⟩
        rw [List.take_add_one, List.getElem?_eq_getElem hlt'] at hc
        rcases List.mem_append.1 hc with hc | hc
        · exact hall c hc
        · simp at hc; subst hc; exact hm1
      · rw [decide_eq_false hm1]
        exact condK_t ⟨rfl, .inr ⟨i, rfl, fun hall => hm1 (hall _ (List.getElem_mem hlt'))⟩⟩
    · have : i = l.length := by omega
      subst this
      exact ⟨rfl, .inl ⟨rfl, fun c hc => hall c (by rw [List.take_length]; exact hc)⟩⟩
  · rintro _ _ ⟨rfl, ⟨rfl, hall⟩ | ⟨i, rfl, hn⟩⟩
    · rw [geK_i]
      exact ⟨by rw [decide_eq_true hall]; rfl, rfl⟩
    · rw [geK_i]
      exact ⟨by rw [decide_eq_false hn, decide_eq_true (by omega : (i : Int) ≥ 0)]; rfl, rfl⟩
/-- the form of its kind, without the length -/
def FormP (o : Dop) : Prop := (o.kind = 1 ∧ o.runes = [] ∧ o.set = []) ∨ (o.kind = 3 ∧ o.runes = [] ∧ o.set = [] ∧ o.patch = []) ∨ (o.kind = 2 ∧ o.n = 0 ∧ o.patch = [] ∧ ∀ r ∈ o.runes, MayR r)
instance (o : Dop) : Decidable (FormP o) := by unfold FormP; infer_instance
theorem formO_iff (o : Dop) : FormO o ↔ FormP o ∧ 1 ≤ lenO o ∧ lenO o ≤ 536870912 := by
  unfold FormO FormP lenO
  constructor
  · rintro (⟨h1, h2, h3, h4, h5⟩ | ⟨h1, h2, h3, h4, h5, h6⟩ | ⟨h1, h2, h3, h4, h5, h6⟩)
    · exact ⟨.inl ⟨h1, h2, h3⟩, by rw [h1, if_neg (by decide)]; exact h4, by rw [h1, if_neg (by decide)]; exact h5⟩
    · exact ⟨.inr (.inl ⟨h1, h2, h3, h4⟩), by rw [h1, if_neg (by decide)]; exact h5, by rw [h1, if_neg (by decide)]; exact h6⟩
    · exact ⟨.inr (.inr ⟨h1, h3, h4, h2⟩), by rw [if_pos h1]; omega, by rw [if_pos h1]; omega⟩
  · rintro ⟨⟨h1, h2, h3⟩ | ⟨h1, h2, h3, h4⟩ | ⟨h1, h2, h3, h4⟩, h5, h6⟩
    · rw [h1, if_neg (by decide)] at h5 h6; exact .inl ⟨h1, h2, h3, h5, h6⟩
    · rw [h1, if_neg (by decide)] at h5 h6; exact .inr (.inl ⟨h1, h2, h3, h4, h5, h6⟩)
    · rw [if_pos h1] at h5 h6; exact .inr (.inr ⟨h1, h4, h2, h3, by omega, by omega⟩)
theorem formp_ok {D : Nat → Prop} {r : List Value} {o : Dop} {w : World} (h : RDop D w r o) :
    callK Tryz.prog 152 [.agg r.toArray] (fun v w' => v = .bool (decide (FormP o)) ∧ Grow w w') w := by
  apply S152_ok
  unfold S152
  have hr1 := h.one
  obtain ⟨rv, sv, pv, rfl, h1, h2, h3⟩ := h
  refine boxn_i fun b w1 _ hz g hc _ => ?_
  have h1' := h1.grow g (by decide) fun _ _ h => h
  obtain ⟨a1, c1, rfl, m1⟩ := h1.shape
  obtain ⟨a2, c2, rfl, m2⟩ := h2.shape
  obtain ⟨a3, c3, rfl, m3⟩ := h3.shape
  have key : ∀ {x : Bool}, (x = true ↔ FormP o) → Value.bool x = .bool (decide (FormP o)) ∧ Grow w w1 := fun h => ⟨by congr 1; rw [Bool.eq_iff_iff, h, decide_eq_true_eq], g⟩
  unfold FormP at key ⊢
  refine JoinK_i (fun vs w2 => w2 = w1 ∧ vs = [.bool (decide (¬ (o.runes = [] ∧ o.set = [])))]) ?_ ?_
  rotate_left
  · rw [faK_i]
    refine ld1K_i (hc 2 _ rfl) ?_
    rw [lenK_i, gtK_i]
    refine condK_p (fun e => ?_) fun e => ?_
    · refine ⟨rfl, ?_⟩
      rw [decide_eq_true]
      rintro ⟨e2, _⟩; rw [e2] at e; simp at e
    · have e1 : o.runes = [] := List.eq_nil_of_length_eq_zero (by omega)
      rw [faK_i]
      refine ld1K_i (hc 3 _ rfl) ?_
      rw [lenK_i, gtK_i]
      refine ⟨rfl, ?_⟩
      congr 2
      rw [decide_eq_decide]
      constructor
      · rintro e3 ⟨_, e4⟩; rw [e4] at e3; simp at e3
      · intro e3
        have : o.set ≠ [] := fun e4 => e3 ⟨e1, e4⟩
        have := List.length_pos_iff.2 this
        omega
  rintro _ _ ⟨rfl, rfl⟩ _
  rename World => w1
  rw [nth_z, List.headD_cons, faK_i]
  refine ld1K_i (hc 0 _ rfl) ?_
  rw [eqK_i]
  refine condK_p (fun k1 => ?_) fun k1 => ?_
  · rw [notK_i]
    refine key ?_
    simp only [k1, decide_not, Bool.not_not, decide_eq_true_eq]
    constructor
    · exact fun h => .inl ⟨trivial, h⟩
    · rintro (h | h | h)
      · exact h.2
      · omega
      · omega
  rw [eqK_i]
  refine condK_p (fun k3 => ?_) fun k3 => ?_
  · rw [notK_i]
    by_cases hT : o.runes = [] ∧ o.set = []
    · rw [show (!decide ¬ (o.runes = [] ∧ o.set = [])) = true by simp [hT]]
      refine condK_t ?_
      rw [faK_i]
      refine ld1K_i (hc 4 _ rfl) ?_
      rw [lenK_i, eqK_i]
      refine key ?_
      rw [decide_eq_true_eq, len0]
      constructor
      · exact fun h => .inr (.inl ⟨k3, hT.1, hT.2, h⟩)
      · rintro (h | h | h)
        · omega
        · exact h.2.2.2
        · omega
    · rw [show (!decide ¬ (o.runes = [] ∧ o.set = [])) = false by simp [hT]]
      refine condK_f (key ?_)
      simp only [Bool.false_eq_true, false_iff]
      rintro (h | h | h)
      · omega
      · exact hT ⟨h.2.1, h.2.2.1⟩
      · omega
  rw [eqK_i]
  refine condK_p (fun k2 => ?_) fun k2 => key (by simp only [Bool.false_eq_true, false_iff]; rintro (h | h | h) <;> omega)
  rw [faK_i]
  refine ld1K_i (hc 1 _ rfl) ?_
  rw [eqK_i]
  refine condK_p (fun hn => ?_) fun hn => key (by simp only [Bool.false_eq_true, false_iff]; rintro (h | h | h) <;> omega)
  rw [faK_i]
  refine ld1K_i (hc 4 _ rfl) ?_
  rw [lenK_i, eqK_i]
  refine condK_p (fun hp => ?_) fun hp => key (by
    simp only [Bool.false_eq_true, false_iff]
    rintro (h | h | h)
    · omega
    · omega
    · exact hp (len0.2 h.2.2.1))
  rw [len0] at hp
  rw [faK_i]
  refine ld1K_i (hc 2 _ rfl) ?_
  refine callK_mono (crunes_ok h1') ?_
  rintro _ _ ⟨rfl, rfl⟩
  rename World => w1
  rw [notK_i, Bool.not_not]
  refine key ?_
  rw [decide_eq_true_eq]
  constructor
  · exact fun h => .inr (.inr ⟨k2, hn, hp, h⟩)
  · rintro (h | h | h)
    · omega
    · omega
    · exact h.2.2.2
theorem sizep_ok {D : Nat → Prop} {r : List Value} {o : Dop} {w : World} (h : RDop D w r o) :
    callK Tryz.prog 153 [.agg r.toArray] (fun v w' => v = .int .i64 (lenO o) ∧ Grow w w') w := by
  apply S153_ok
  unfold S153
  obtain ⟨rv, sv, pv, rfl, h1, h2, h3⟩ := h
  obtain ⟨a1, c1, rfl, m1⟩ := h1.shape
  refine boxn_i fun b w1 _ hz g hc _ => ?_
  rw [faK_i]
  refine ld1K_i (hc 0 _ rfl) ?_
  rw [eqK_i]
  refine condK_p (fun k1 => ?_) fun k1 => ?_
  · rw [faK_i]
    refine ld1K_i (hc 2 _ rfl) ?_
    rw [lenK_i]
    exact ⟨by rw [lenO, if_pos k1], g⟩
  · rw [faK_i]
    refine ld1K_i (hc 1 _ rfl) ?_
    exact ⟨by rw [lenO, if_neg k1], g⟩
/-- what a delta takes -/
theorem takesp_ok {S D : Nat → Prop} {v : Value} {x : List Dop} {w : World} (h : RDops S D w v x) :
    callK Tryz.prog 94 [v] (fun v' w' => v' = .int .i64 (sumW takesF x) ∧ Grow w w') w := by
  apply S94_ok
  unfold S94
  obtain ⟨a, c, rfl, hm⟩ := h.shape
  simp only [maxLen] at hm
  rw [lenK_i]
  refine LoopK_i (fun vs w1 => ∃ k : Nat, k ≤ x.length ∧ vs = [.int .i64 (sumW takesF (x.take k)), .int .i64 k] ∧ Grow w w1) (fun vs _ => x.length - iOf vs 1) ⟨0, Nat.zero_le _, rfl, Mod.refl _ _⟩ ?_
  rintro vs w1 ⟨k, hk, rfl, g⟩ _
  simp only [nth_s, nth_z, List.headD_cons, List.tail_cons]
  rw [ltK_i]
  refine condK_p (fun hlt => ?_) fun hge => ?_
  · have hlt' : k < x.length := by omega
    obtain ⟨p, r, rfl, hS, hr, hc, hop⟩ := (RDops.grow h g).get hlt'
    refine ixK_n hlt' (ldnK_i hr (fun j u hu => by rw [Addr.add_add]; exact hc j u hu) ?_)
    refine newst_n hr rfl hop.one fun b w2 hb hz g2 hc2 _ => ?_
    obtain ⟨rv, sv, pv, rfl, h1, h2, h3⟩ := hop
    rw [faK_i]
    refine ld1K_i (hc2 0 _ rfl) ?_
    rw [neK_i]
    refine condK_neg (fun e => ?_) fun e => ?_
    · rw [addK_i, loop_step (by omega)]
      refine ⟨⟨k + 1, hlt', ?_, g.trans g2⟩, by rw [iOf1, iOf1]; omega⟩
      rw [sumW_take hlt', takesF, if_pos e, Int.add_zero]
      have : IntKind.i64.wrap (sumW takesF (x.take k)) = sumW takesF (x.take k) := by
        by_cases h0 : k = 0
        · subst h0; simp [sumW]; rfl
        · obtain ⟨k', rfl⟩ : ∃ k', k = k' + 1 := ⟨k - 1, by omega⟩
          rw [sumW_take (by omega)]
          have := wrap_range (sumW takesF (x.take k') + takesF x[k'])
          rw [wrap64 (by omega) (by omega)]
      rw [this]
    · rw [faK_i]
      refine ld1K_i (hc2 1 _ rfl) ?_
      rw [addK_i, addK_i, loop_step (by omega)]
      refine ⟨⟨k + 1, hlt', ?_, g.trans g2⟩, by rw [iOf1, iOf1]; omega⟩
      rw [sumW_take hlt', takesF, if_neg e]
  · have : k = x.length := by omega
    subst this
    rw [List.take_length]
    exact ⟨rfl, g⟩
theorem makesp_ok {S D : Nat → Prop} {v : Value} {x : List Dop} {w : World} (h : RDops S D w v x) :
    callK Tryz.prog 95 [v] (fun v' w' => v' = .int .i64 (sumW makesF x) ∧ Grow w w') w := by
  apply S95_ok
  unfold S95
  obtain ⟨a, c, rfl, hm⟩ := h.shape
  simp only [maxLen] at hm
  rw [lenK_i]
  refine LoopK_i (fun vs w1 => ∃ k : Nat, k ≤ x.length ∧ vs = [.int .i64 (sumW makesF (x.take k)), .int .i64 k] ∧ Grow w w1) (fun vs _ => x.length - iOf vs 1) ⟨0, Nat.zero_le _, rfl, Mod.refl _ _⟩ ?_
  rintro vs w1 ⟨k, hk, rfl, g⟩ _
  simp only [nth_s, nth_z, List.headD_cons, List.tail_cons]
  rw [ltK_i]
  refine condK_p (fun hlt => ?_) fun hge => ?_
  · have hlt' : k < x.length := by omega
    obtain ⟨p, r, rfl, hS, hr, hc, hop⟩ := (RDops.grow h g).get hlt'
    refine ixK_n hlt' (ldnK_i hr (fun j u hu => by rw [Addr.add_add]; exact hc j u hu) ?_)
    refine newst_n hr rfl hop.one fun b w2 hb hz g2 hc2 _ => ?_
    have hop2 := hop.mod (D' := D) g2 (fun _ _ _ h => h) fun _ _ h => h
    obtain ⟨rv, sv, pv, rfl, h1, h2, h3⟩ := id hop
    rw [faK_i]
    refine ld1K_i (hc2 0 _ rfl) ?_
    rw [neK_i]
    refine condK_neg (fun e => ?_) fun e => ?_
    · rw [addK_i, loop_step (by omega)]
      refine ⟨⟨k + 1, hlt', ?_, g.trans g2⟩, by rw [iOf1, iOf1]; omega⟩
      rw [sumW_take hlt', makesF, if_pos e, Int.add_zero]
      have : IntKind.i64.wrap (sumW makesF (x.take k)) = sumW makesF (x.take k) := by
        by_cases h0 : k = 0
        · subst h0; simp [sumW]; rfl
        · obtain ⟨k', rfl⟩ : ∃ k', k = k' + 1 := ⟨k - 1, by omega⟩
          rw [sumW_take (by omega)]
          have := wrap_range (sumW makesF (x.take k') + makesF x[k'])
          rw [wrap64 (by omega) (by omega)]
      rw [this]
    · refine ldnK_i hr hc2 ?_
      refine callK_mono (sizep_ok hop2) ?_
      rintro _ w3 ⟨rfl, g3⟩
      rw [addK_i, addK_i, loop_step (by omega)]
      refine ⟨⟨k + 1, hlt', ?_, (g.trans g2).trans g3⟩, by rw [iOf1, iOf1]; omega⟩
      rw [sumW_take hlt', makesF, if_neg e]
  · have : k = x.length := by omega
    subst this
    rw [List.take_length]
    exact ⟨rfl, g⟩
theorem ite_iff {α : Type} {p q : Prop} [Decidable p] [Decidable q] {a b : α} (h : p ↔ q) : (if p then a else b) = if q then a else b := by
  by_cases hp : p
  · rw [if_pos hp, if_pos (h.1 hp)]
  · rw [if_neg hp, if_neg fun hq => hp (h.2 hq)]
/-- what is wrong with a change by itself -/
def ChgBad (c : Chg) : Prop := (c.gone = true ∧ c.val ≠ AVal.zero) ∨ (c.gone = false ∧ ¬ ValOK c.val)
def ChgNo (ks : List DKey) (c : Chg) : Prop := findK ks c.key = none ∨ (c.gone = false ∧ ¬ FitsK ks c.key c.val)
set_option maxRecDepth 20000 in
open Classical in
/-- patch.May -/
theorem pmayp_ok {D S : Nat → Prop} {sv v : Value} {ks : List DKey} {p : List Chg} {w : World} (hS : SchR D w sv ks) (h : RPat S w v p) (hT : Tabs w) (hI : ∀ c ∈ p, 0 ≤ c.val.f) :
    callK Tryz.prog 155 [sv, v] (fun v' w' => v' = .int .i64 (mayPat ks p) ∧ Grow w w') w := by
  apply S155_ok
  unfold S155
  obtain ⟨a, c, rfl, hm⟩ := h.shape
  simp only [maxLen] at hm
  have bad : ∀ w', Grow w w' → PatBad p → Value.int .i64 3 = .int .i64 (mayPat ks p) ∧ Grow w w' := fun w' g hb => ⟨by rw [mayPat, if_pos hb], g⟩
  rw [lenK_i, gtK_i]
  refine condK_p (fun h6 => bad _ (Mod.refl _ _) (.inr (.inl (by omega)))) fun h6 => ?_
  rw [lenK_i]
  refine LoopK_i (fun vs W => ∃ i : Nat, i ≤ p.length ∧ vs = [.int .i64 (if PatNoKey ks (p.take i) then 4 else 0), .int .i64 i] ∧ Grow w W ∧ (∀ a ∈ p.take i, ¬ ChgBad a) ∧ RisN Chg.key p i) (fun vs _ => p.length - iOf vs 1)
    ⟨0, Nat.zero_le _, by rw [if_neg (by rintro ⟨a, ha, _⟩; simp at ha)]; rfl, Mod.refl _ _, by simp, fun j hj => by omega⟩ ?_
  rintro vs W ⟨i, hi, rfl, g, hv, hris⟩ _
  simp only [nth_s, nth_z, List.headD_cons, List.tail_cons]
  rw [ltK_i]
  refine condK_p (fun hlt => ?_) fun hge => ?_
  rotate_left
  · have : i = p.length := by omega
    subst this
    rw [List.take_length] at hv ⊢
    refine ⟨?_, g⟩
    have hnb : ¬ PatBad p := by
      rintro (hn | hn | ⟨c, hc, hn⟩)
      · exact hn hris
      · omega
      · exact hv c hc hn
    unfold mayPat
    rw [if_neg hnb]
  have hlt' : i < p.length := by omega
  have hmem := List.getElem_mem hlt'
  have hf0 := hI p[i] hmem
  have e1 : p.take (i + 1) = p.take i ++ [p[i]] := by rw [List.take_add_one, List.getElem?_eq_getElem hlt']; rfl
  have hno : PatNoKey ks (p.take (i + 1)) ↔ PatNoKey ks (p.take i) ∨ ChgNo ks p[i] := by
    unfold PatNoKey ChgNo
    rw [e1]
    constructor
    · rintro ⟨a, ha, hn⟩
      rcases List.mem_append.1 ha with ha | ha
      · exact .inl ⟨a, ha, hn⟩
      · simp at ha; subst ha; exact .inr hn
    · rintro (⟨a, ha, hn⟩ | hn)
      · exact ⟨a, List.mem_append_left _ ha, hn⟩
      · exact ⟨p[i], List.mem_append_right _ (List.mem_singleton.2 rfl), hn⟩
  refine JoinK_i (fun vs W2 => Grow w W2 ∧ vs = [.int .i64 (if PatNoKey ks (p.take (i + 1)) then 4 else 0)] ∧ ¬ ChgBad p[i] ∧ RisN Chg.key p (i + 1)) ?_ ?_
  · rintro vs W2 ⟨g2, rfl, hnb, hr⟩ _
    simp only [nth_s, nth_z, List.headD_cons, List.tail_cons]
    rw [addK_i, loop_step (by omega)]
    refine ⟨⟨i + 1, hlt', rfl, g2, fun a ha => ?_, hr⟩, by rw [iOf1, iOf1]; omega⟩
    rw [e1] at ha
    rcases List.mem_append.1 ha with ha | ha
    · exact hv a ha
    · simp at ha; subst ha; exact hnb
  obtain ⟨q, r, rfl, _, hr, hc, rfl⟩ := (h.grow g (by decide) fun _ _ h => h).get hlt'
  refine ixK_n hlt' (ldnK_i hr (fun j u hu => by rw [Addr.add_add]; exact hc j u hu) ?_)
  refine newst_n (vs := p[i].cells) rfl rfl (RChg.one (w := w) (x := p[i]) rfl) fun b7 W1 hb7 hz7 g7 hc7 _ => ?_
  rw [faK_i]
  refine ld1K_i (hc7 0 _ rfl) ?_
  refine callK_mono (sfind_ok (hS.grow (g.trans g7)) p[i].key) ?_
  rintro _ W2 ⟨rfl, g2⟩
  refine extK_i (vs := [_, _]) (by rfl) (extK_i (vs := [_, _]) (by rfl) ?_)
  refine newst_n (vs := ((findK ks p[i].key).getD DKey.zero).cells) rfl rfl (RKey.one (w := W2) (x := (findK ks p[i].key).getD DKey.zero) rfl) fun b8 W3 hb8 hz8 g3 _ _ => ?_
  have g03 := ((g.trans g7).trans g2).trans g3
  have c7 : ∀ j u, p[i].cells[j]? = some u → W3.cell? ((⟨b7, 0, none⟩ : Addr).add j) = some u := fun j u hu => (g2.trans g3).cell (hc7 j u hu) fun h => h
  have hgo : p[i].cells[1]? = some (.bool p[i].gone) := rfl
  have hva : ∀ j u, p[i].val.cells[j]? = some u → p[i].cells[2 + j]? = some u := fun j u hu => by rw [Nat.add_comm]; exact hu
  refine JoinK_i (fun vs W4 => Grow W3 W4 ∧ ((vs = [.bool true] ∧ PatBad p) ∨ (vs = [.bool false] ∧ ¬ ChgBad p[i] ∧ RisN Chg.key p (i + 1)))) ?_ ?_
  · rintro vs W4 ⟨g4, ⟨rfl, hb⟩ | ⟨rfl, hnb, hrs⟩⟩ _
    · exact condK_t (bad _ (g03.trans g4) hb)
    refine condK_f ?_
    rw [notK_i]
    cases hk : findK ks p[i].key with
    | none =>
      refine condK_t ⟨g03.trans g4, ?_, hnb, hrs⟩
      rw [if_pos (hno.2 (.inr (.inl hk)))]
    | some k =>
      refine condK_f ?_
      rw [faK_i]
      refine ld1K_i (g4.cell (c7 1 _ hgo) fun h => h) ?_
      rw [notK_i]
      cases hg : p[i].gone with
      | true =>
        refine condK_f ⟨g03.trans g4, ?_, hnb, hrs⟩
        congr 2
        refine ite_iff ?_
        rw [hno]
        constructor
        · exact .inl
        · rintro (h | h | h)
          · exact h
          · rw [hk] at h; cases h
          · rw [hg] at h; cases h.1
      | false =>
        refine condK_t ?_
        rw [faK_i]
        refine ld1K_i (g4.cell (c7 0 _ rfl) fun h => h) ?_
        rw [faK_i]
        refine ldnK_i (vs := p[i].val.cells) rfl (fun j u hu => g4.cell (by rw [Addr.add_add]; exact c7 (2 + j) u (hva j u hu)) fun h => h) ?_
        refine callK_mono (sfits_ok (hS.grow (g03.trans g4)) (hT.grow (g03.trans g4)) hf0) ?_
        rintro _ W5 ⟨rfl, g5⟩
        rw [notK_i]
        by_cases hfit : FitsK ks p[i].key p[i].val
        · rw [decide_eq_true hfit]
          refine condK_f ⟨(g03.trans g4).trans g5, ?_, hnb, hrs⟩
          congr 2
          refine ite_iff ?_
          rw [hno]
          constructor
          · exact .inl
          · rintro (h | h | h)
            · exact h
            · rw [hk] at h; cases h
            · exact (h.2 hfit).elim
        · rw [decide_eq_false hfit]
          refine condK_t ⟨(g03.trans g4).trans g5, ?_, hnb, hrs⟩
          rw [if_pos (hno.2 (.inr (.inr ⟨hg, hfit⟩)))]
  refine JoinK_i (fun vs W4 => Grow W3 W4 ∧ ((vs = [.bool true] ∧ PatBad p) ∨ (vs = [.bool false] ∧ RisN Chg.key p (i + 1)))) ?_ ?_
  · rintro vs W4 ⟨g4, ⟨rfl, hb⟩ | ⟨rfl, hrs⟩⟩ _
    · exact condK_t ⟨g4, .inl ⟨rfl, hb⟩⟩
    refine condK_f ?_
    rw [faK_i]
    refine ld1K_i (g4.cell (c7 1 _ hgo) fun h => h) ?_
    cases hg : p[i].gone with
    | true =>
      refine condK_t ?_
      rw [faK_i]
      refine ldnK_i (vs := p[i].val.cells) rfl (fun j u hu => g4.cell (by rw [Addr.add_add]; exact c7 (2 + j) u (hva j u hu)) fun h => h) ?_
      refine ⟨AVal.zero.cells.toArray, by kernel_rfl, ?_⟩
      refine runK_i (run_ne_val _ _ p[i].val AVal.zero W4) ?_
      by_cases hz : p[i].val = AVal.zero
      · rw [decide_eq_true hz]
        refine condK_f ?_
        rw [faK_i]
        refine ld1K_i (g4.cell (c7 1 _ hgo) fun h => h) ?_
        rw [notK_i, hg]
        refine condK_f ⟨g4, .inr ⟨rfl, ?_, hrs⟩⟩
        rintro (h | h)
        · exact h.2 hz
        · rw [hg] at h; cases h.1
      · rw [decide_eq_false hz]
        exact condK_t ⟨g4, .inl ⟨rfl, .inr (.inr ⟨p[i], hmem, .inl ⟨hg, hz⟩⟩)⟩⟩
    | false =>
      refine condK_f ?_
      rw [faK_i]
      refine ld1K_i (g4.cell (c7 1 _ hgo) fun h => h) ?_
      rw [notK_i, hg]
      refine condK_t ?_
      rw [faK_i]
      refine ldnK_i (vs := p[i].val.cells) rfl (fun j u hu => g4.cell (by rw [Addr.add_add]; exact c7 (2 + j) u (hva j u hu)) fun h => h) ?_
      refine callK_mono (vmay_ok (hT.grow (g03.trans g4)) hf0) ?_
      rintro _ W5 ⟨rfl, g5⟩
      rw [notK_i]
      refine ⟨g4.trans g5, ?_⟩
      by_cases hok : ValOK p[i].val
      · refine .inr ⟨by rw [decide_eq_true hok]; rfl, ?_, hrs⟩
        rintro (h | h)
        · rw [hg] at h; cases h.1
        · exact h.2 hok
      · exact .inl ⟨by rw [decide_eq_false hok]; rfl, .inr (.inr ⟨p[i], hmem, .inr ⟨hg, hok⟩⟩)⟩
  refine drawK_i (fun W => Grow W3 W) (Mod.drew _ _) ?_
  rw [gtK_i]
  refine condK_p (fun hi0 => ?_) fun hi0 W4 g4 => ⟨g4, .inr ⟨rfl, fun j hj => by omega⟩⟩
  rw [subK_i, wrap64 (by omega) (by omega), show ((i : Int) - 1) = ((i - 1 : Nat) : Int) by omega]
  have hi1 : i - 1 < p.length := by omega
  obtain ⟨_, r2, e2, _, hr2, hc2, rfl⟩ := (h.grow g03 (by decide) fun _ _ h => h).get hi1
  cases e2
  refine ixK_n hi1 ?_
  rw [faK_i, Addr.add_add]
  refine qld1K_i (fun W hW => hW.cell (hc2 0 _ rfl) fun h => h) ?_
  rw [faK_i]
  refine qld1K_i (fun W hW => hW.cell (c7 0 _ rfl) fun h => h) ?_
  rw [geK_i]
  intro W4 g4
  by_cases hge : p[i - 1].key ≥ p[i].key
  · rw [decide_eq_true hge]
    refine ⟨g4, .inl ⟨rfl, .inl fun hall => ?_⟩⟩
    have := hall i (by omega) hlt' _ _ (List.getElem?_eq_getElem hi1) (List.getElem?_eq_getElem hlt')
    omega
  · rw [decide_eq_false hge]
    refine ⟨g4, .inr ⟨rfl, fun j h1 h2 a b ha hb => ?_⟩⟩
    by_cases e : j = i
    · subst e
      rw [List.getElem?_eq_getElem hi1] at ha
      rw [List.getElem?_eq_getElem hlt'] at hb
      cases ha; cases hb; omega
    · exact hris j h1 (by omega) a b ha hb
/-- an op's numbers lie as they must -/
def InO (o : Dop) : Prop := (∀ a ∈ o.set, 0 ≤ a.val.f) ∧ ∀ c ∈ o.patch, 0 ≤ c.val.f
open Classical in
noncomputable def mayO (ks : List DKey) (o : Dop) : Int := if ¬ FormO o then 3 else if maySet ks o.set ≠ 0 then maySet ks o.set else mayPat ks o.patch
open Classical in
theorem onep_ok {E D : Nat → Prop} {sv : Value} {ks : List DKey} {r : List Value} {o : Dop} {w : World} (hS : SchR E w sv ks) (h : RDop D w r o) (hT : Tabs w) (hI : InO o) :
    callK Tryz.prog 93 [sv, .agg r.toArray] (fun v w' => v = .int .i64 (mayO ks o) ∧ Grow w w') w := by
  apply S93_ok
  unfold S93
  refine boxn_i fun b w1 _ hz g hc _ => ?_
  have hr5 : r.length = 5 := by obtain ⟨_, _, _, rfl, _⟩ := h; rfl
  have h1 := h.mod (D' := D) g (fun _ _ _ h => h) fun _ _ h => h
  refine JoinK_i (fun vs w2 => Grow w1 w2 ∧ FormO o) ?_ ?_
  · rintro vs w2 ⟨g2, hf⟩ _
    obtain ⟨rv, uv, pv, rfl, q1, q2, q3⟩ := h1.mod (D' := D) g2 (fun _ _ _ h => h) fun _ _ h => h
    rw [faK_i]
    refine ld1K_i (g2.cell (hc 3 _ rfl) fun h => h) ?_
    refine callK_mono (smay_ok (hS.grow (g.trans g2)) q2 (hT.grow (g.trans g2)) hI.1) ?_
    rintro _ w3 ⟨rfl, g3⟩
    rw [neK_i]
    have e0 : mayO ks o = if maySet ks o.set ≠ 0 then maySet ks o.set else mayPat ks o.patch := by rw [mayO, if_neg (not_not_intro hf)]
    refine condK_neg (fun hz => ?_) fun hz => ⟨by rw [e0, if_pos hz], (g.trans g2).trans g3⟩
    rw [faK_i]
    refine ld1K_i ((g2.trans g3).cell (hc 4 _ rfl) fun h => h) ?_
    refine callK_mono (pmayp_ok (hS.grow ((g.trans g2).trans g3)) (q3.grow g3 (by decide) fun _ _ h => h) (hT.grow ((g.trans g2).trans g3)) hI.2) ?_
    rintro _ w4 ⟨rfl, g4⟩
    exact ⟨by rw [e0, if_neg (not_not_intro hz)], ((g.trans g2).trans g3).trans g4⟩
  have no : ∀ w', Grow w1 w' → ¬ FormO o → Value.int .i64 3 = .int .i64 (mayO ks o) ∧ Grow w w' := fun w' g' hn => ⟨by rw [mayO, if_pos hn], g.trans g'⟩
  refine ldnK_i hr5 hc ?_
  refine callK_mono (formp_ok h1) ?_
  rintro _ w2 ⟨rfl, g2⟩
  rw [notK_i]
  refine condK_neg (fun hp => ?_) fun hp => no _ g2 fun hf => hp ((formO_iff o).1 hf).1
  refine ldnK_i hr5 (fun j u hu => g2.cell (hc j u hu) fun h => h) ?_
  refine callK_mono (sizep_ok (h1.mod (D' := D) g2 (fun _ _ _ h => h) fun _ _ h => h)) ?_
  rintro _ w3 ⟨rfl, g3⟩
  rw [ltK_i]
  refine condK_p (fun hl => no _ (g2.trans g3) fun hf => by have := ((formO_iff o).1 hf).2.1; omega) fun hl => ?_
  refine ldnK_i hr5 (fun j u hu => (g2.trans g3).cell (hc j u hu) fun h => h) ?_
  refine callK_mono (sizep_ok (h1.mod (D' := D) (g2.trans g3) (fun _ _ _ h => h) fun _ _ h => h)) ?_
  rintro _ w4 ⟨rfl, g4⟩
  rw [gtK_i]
  refine condK_p (fun hl2 => no _ ((g2.trans g3).trans g4) fun hf => by have := ((formO_iff o).1 hf).2.2; omega) fun hl2 => ⟨(g2.trans g3).trans g4, (formO_iff o).2 ⟨hp, by omega, by omega⟩⟩
theorem maySet_nil (ks : List DKey) : maySet ks [] = 0 := setK_iff.2 setK_nil
theorem mayPat_nil (ks : List DKey) : mayPat ks [] = 0 := patK_iff.2 patK_nil
theorem maySet_v (ks : List DKey) (l : List Attr) : maySet ks l = 0 ∨ maySet ks l = 3 ∨ maySet ks l = 4 := by
  unfold maySet; split
  · exact .inr (.inl rfl)
  · split
    · exact .inr (.inr rfl)
    · exact .inl rfl
theorem mayPat_v (ks : List DKey) (l : List Chg) : mayPat ks l = 0 ∨ mayPat ks l = 3 ∨ mayPat ks l = 4 := by
  unfold mayPat; split
  · exact .inr (.inl rfl)
  · split
    · exact .inr (.inr rfl)
    · exact .inl rfl
theorem mayO_v (ks : List DKey) (o : Dop) : (mayO ks o = 3 ↔ ¬ FormO o ∨ maySet ks o.set = 3 ∨ mayPat ks o.patch = 3) ∧ (mayO ks o = 0 ∨ mayO ks o = 3 ∨ mayO ks o = 4) ∧ (mayO ks o ≠ 3 → (mayO ks o = 0 ↔ maySet ks o.set = 0 ∧ mayPat ks o.patch = 0)) := by
  have v1 := maySet_v ks o.set
  have v2 := mayPat_v ks o.patch
  by_cases hf : FormO o
  · have hx : maySet ks o.set = 0 ∨ mayPat ks o.patch = 0 := by
      rcases hf with ⟨_, _, h, _⟩ | ⟨_, _, h, _⟩ | ⟨_, _, _, h, _⟩
      · left; rw [h]; exact maySet_nil ks
      · left; rw [h]; exact maySet_nil ks
      · right; rw [h]; exact mayPat_nil ks
    unfold mayO
    rw [if_neg (not_not_intro hf)]
    by_cases hz : maySet ks o.set = 0
    · rw [if_neg (not_not_intro hz)]
      exact ⟨⟨fun h => .inr (.inr h), fun h => by rcases h with h | h | h; exact (h hf).elim; omega; exact h⟩, v2, fun _ => ⟨fun h => ⟨hz, h⟩, fun h => h.2⟩⟩
    · rw [if_pos hz]
      refine ⟨⟨fun h => .inr (.inl h), fun h => by rcases h with h | h | h; exact (h hf).elim; exact h; omega⟩, v1, fun _ => ⟨fun h => ⟨h, by omega⟩, fun h => h.1⟩⟩
  · unfold mayO
    rw [if_pos hf]
    exact ⟨⟨fun _ => .inl hf, fun _ => rfl⟩, .inr (.inl rfl), fun h => (h rfl).elim⟩
open Classical in
/-- ops.May -/
theorem maypo_ok {E S D : Nat → Prop} {sv v : Value} {ks : List DKey} {x : List Dop} {w : World} (hS : SchR E w sv ks) (h : RDops S D w v x) (hT : Tabs w) (hI : ∀ o ∈ x, InO o) :
    callK Tryz.prog 59 [sv, v] (fun v' w' => v' = .int .i64 (mayOps ks x) ∧ Grow w w') w := by
  apply S59_ok
  unfold S59
  have ho := h
  obtain ⟨a, c, rfl, hm⟩ := h.shape
  simp only [maxLen] at hm
  have bad : ∀ w', Grow w w' → OpsBad ks x → Value.int .i64 3 = .int .i64 (mayOps ks x) ∧ Grow w w' := fun w' g hb => ⟨by rw [mayOps, if_pos hb], g⟩
  rw [lenK_i]
  refine LoopK_i (fun vs w1 => ∃ k : Nat, k ≤ x.length ∧ vs = [.int .i64 (if OpsNoKey ks (x.take k) then 4 else 0), .int .i64 k] ∧ Grow w w1 ∧ ∀ o ∈ x.take k, mayO ks o ≠ 3) (fun vs _ => x.length - iOf vs 1)
    ⟨0, Nat.zero_le _, by rw [if_neg (by rintro ⟨a, ha, _⟩; simp at ha)]; rfl, Mod.refl _ _, by simp⟩ ?_
  rintro vs w1 ⟨k, hk, rfl, g, hall⟩ _
  simp only [nth_s, nth_z, List.headD_cons, List.tail_cons]
  rw [ltK_i]
  refine condK_p (fun hlt => ?_) fun hge => ?_
  · have hlt' : k < x.length := by omega
    have hmem := List.getElem_mem hlt'
    obtain ⟨p, r, rfl, _, hr, hc, hop⟩ := (RDops.grow h g).get hlt'
    refine ixK_n hlt' (ldnK_i hr (fun j u hu => by rw [Addr.add_add]; exact hc j u hu) ?_)
    refine newst_n hr rfl hop.one fun b w2 hb hz g2 hc2 _ => ?_
    refine ldnK_i hr hc2 ?_
    refine callK_mono (onep_ok (hS.grow (g.trans g2)) (hop.mod (D' := D) g2 (fun _ _ _ h => h) fun _ _ h => h) (hT.grow (g.trans g2)) (hI _ hmem)) ?_
    rintro _ w3 ⟨rfl, g3⟩
    have g03 := (g.trans g2).trans g3
    obtain ⟨m1, m2, m3⟩ := mayO_v ks x[k]
    rw [eqK_i]
    refine condK_p (fun h3 => ?_) fun h3 => ?_
    · rw [h3]; exact bad _ g03 (.inl ⟨_, hmem, m1.1 h3⟩)
    have e1 : x.take (k + 1) = x.take k ++ [x[k]] := by rw [List.take_add_one, List.getElem?_eq_getElem hlt']; rfl
    have hall' : ∀ o ∈ x.take (k + 1), mayO ks o ≠ 3 := fun o ho => by
      rw [e1] at ho
      rcases List.mem_append.1 ho with ho | ho
      · exact hall o ho
      · simp at ho; subst ho; exact h3
    have hno : OpsNoKey ks (x.take (k + 1)) ↔ OpsNoKey ks (x.take k) ∨ mayO ks x[k] ≠ 0 := by
      unfold OpsNoKey
      rw [e1]
      constructor
      · rintro ⟨a, ha, hn⟩
        rcases List.mem_append.1 ha with ha | ha
        · exact .inl ⟨a, ha, hn⟩
        · simp at ha; subst ha
          exact .inr fun h0 => by have := (m3 h3).1 h0; rcases hn with hn | hn; exact hn this.1; exact hn this.2
      · rintro (⟨a, ha, hn⟩ | hn)
        · exact ⟨a, List.mem_append_left _ ha, hn⟩
        · refine ⟨x[k], List.mem_append_right _ (List.mem_singleton.2 rfl), ?_⟩
          by_cases hz : maySet ks x[k].set = 0
          · exact .inr fun h0 => hn ((m3 h3).2 ⟨hz, h0⟩)
          · exact .inl hz
    rw [neK_i]
    refine condK_neg (fun h0 => ?_) fun h0 => ?_
    · rw [addK_i, loop_step (by omega)]
      refine ⟨⟨k + 1, hlt', ?_, g03, hall'⟩, by rw [iOf1, iOf1]; omega⟩
      congr 2
      refine ite_iff ?_
      rw [hno]
      exact ⟨.inl, fun h' => by rcases h' with h' | h'; exact h'; exact (h' h0).elim⟩
    · rw [addK_i, loop_step (by omega)]
      refine ⟨⟨k + 1, hlt', ?_, g03, hall'⟩, by rw [iOf1, iOf1]; omega⟩
      rw [if_pos (hno.2 (.inr h0))]
      congr 2
      omega
  · have : k = x.length := by omega
    subst this
    rw [List.take_length] at hall ⊢
    refine callK_mono (takesp_ok (RDops.grow ho g)) ?_
    rintro _ w2 ⟨rfl, g2⟩
    rw [gtK_i]
    refine condK_p (fun h1 => bad _ (g.trans g2) (.inr (.inl h1))) fun h1 => ?_
    refine callK_mono (makesp_ok (RDops.grow ho (g.trans g2))) ?_
    rintro _ w3 ⟨rfl, g3⟩
    rw [gtK_i]
    refine condK_p (fun h2 => bad _ ((g.trans g2).trans g3) (.inr (.inr h2))) fun h2 => ?_
    refine ⟨?_, (g.trans g2).trans g3⟩
    have hnb : ¬ OpsBad ks x := by
      rintro (⟨o, ho, hn⟩ | hn | hn)
      · exact hall o ho ((mayO_v ks o).1.2 hn)
      · exact h1 hn
      · exact h2 hn
    unfold mayOps
    rw [if_neg hnb]
end Go.Proofs.YtlbaopamhkmepaaGreatDoor

namespace Go.Proofs.YtlbaopamhkmepaaGreatDoor
open Go Go.K

section
variable {ks : List DKey}
theorem good_head {o : Dop} {n : Nat} (h : GoodK ks o) (h1 : 1 ≤ n) (h2 : n ≤ lenN o) : GoodK ks (headO n o) := by
  rcases h with ⟨k1, k2, k3, k4, k5⟩ | ⟨k1, k2, k3, k4, k5⟩ | ⟨k1, k2, k3, k4, k5, k6⟩
  · unfold headO
    rw [if_neg (by omega)]
    exact .inl ⟨k1, k2, k3, by simp only; omega, k5⟩
  · unfold headO
    rw [if_neg (by omega)]
    exact .inr (.inl ⟨k1, k2, k3, k4, by simp only; omega⟩)
  · unfold headO
    rw [if_pos k1]
    simp only [lenN, k1, if_true] at h2
    refine .inr (.inr ⟨rfl, fun r hr => k2 r (List.mem_of_mem_take hr), k3, k4, ?_, k6⟩)
    intro e
    have := congrArg List.length e
    simp at this
    rcases this with h | h
    · omega
    · exact k5 h
theorem good_rest {o : Dop} {n : Nat} (h : GoodK ks o) (h2 : n < lenN o) : GoodK ks (restO n o) := by
  rcases h with ⟨k1, k2, k3, k4, k5⟩ | ⟨k1, k2, k3, k4, k5⟩ | ⟨k1, k2, k3, k4, k5, k6⟩
  · unfold restO
    simp only [lenN, show o.kind ≠ 2 by omega, if_false] at h2
    rw [if_neg (by omega)]
    exact .inl ⟨k1, k2, k3, by simp only; omega, k5⟩
  · unfold restO
    simp only [lenN, show o.kind ≠ 2 by omega, if_false] at h2
    rw [if_neg (by omega)]
    exact .inr (.inl ⟨k1, k2, k3, k4, by simp only; omega⟩)
  · unfold restO
    rw [if_pos k1]
    simp only [lenN, k1, if_true] at h2
    refine .inr (.inr ⟨rfl, fun r hr => k2 r (List.mem_of_mem_drop hr), k3, k4, ?_, k6⟩)
    intro e
    have := congrArg List.length e
    simp at this
    omega
theorem good_behind {n : Nat} {x : List Dop} (h : ∀ o ∈ x, GoodK ks o) : ∀ o ∈ behind n x, GoodK ks o := by
  cases x with
  | nil => intro o ho; simp [behind] at ho
  | cons a x =>
    intro o ho
    simp only [behind] at ho
    split at ho
    · rcases List.mem_cons.1 ho with rfl | ho
      · exact good_rest (h a (by simp)) (by assumption)
      · exact h o (by simp [ho])
    · exact h o (by simp [ho])
theorem GoodM.more {PS : List Attr → Prop} {PP : List Chg → Prop} {s : MkS} {t t' : Nat} (h : GoodM PS PP s t) (ht : t ≤ t') : GoodM PS PP s t' := ⟨h.done, h.ins, h.gone, Nat.le_trans h.tot ht⟩
theorem good_both (h64 : ks.length ≤ 64) {s : MkS} {t n : Nat} {u v : Dop} (hs : GoodM (SetK ks) (PatK ks) s t) (hu : GoodK ks u) (hv : GoodK ks v) (h1 : lenN u = n) (h2 : lenN v = n) (hk : v.kind ≠ 2) (hku : u.kind ≠ 3) (hn : 1 ≤ n) (ht : t + n ≤ 16777216) : GoodM (SetK ks) (PatK ks) (bothS ks s u v) (t + n) := by
  have fu := GoodK.form hu (by omega)
  have fv := GoodK.form hv (by omega)
  have vk : v.kind = 1 ∨ v.kind = 3 := by rcases hv with ⟨h, _⟩ | ⟨h, _⟩ | ⟨h, _⟩ <;> omega
  have uk : u.kind = 1 ∨ u.kind = 2 := by rcases hu with ⟨h, _⟩ | ⟨h, _⟩ | ⟨h, _⟩ <;> omega
  have ln : v.n = n := by
    have := h2
    simp only [lenN, hk, if_false] at this
    omega
  unfold bothS
  by_cases ku : u.kind = 1
  · rw [if_pos ku]
    by_cases kv : v.kind = 1
    · rw [if_pos kv]
      have := good_step hs (o := ⟨1, v.n, [], [], comP u.patch v.patch⟩) (.inl ⟨rfl, rfl, rfl, by simp only; omega, comP_may h64 fu.2.2 fv.2.2⟩) (by simp only [lenN, show ¬ (1 : Int) = 2 by decide, if_false]; omega)
      simp only [lenN, show ¬ (1 : Int) = 2 by decide, if_false, ln, Int.toNat_natCast] at this
      rw [ln]
      simpa [stepS] using this
    · rw [if_neg kv]
      have k3 : v.kind = 3 := by omega
      have := good_step hs hv (by omega)
      rw [h2] at this
      simpa [stepS, k3] using this
  · rw [if_neg ku]
    split
    · have hl : u.runes.length = n := by simpa [lenN, show u.kind = 2 by omega] using h1
      have hr : ∀ r ∈ u.runes, MayR r := by
        rcases hu with ⟨h, _⟩ | ⟨h, _⟩ | ⟨h, e, _⟩
        · omega
        · omega
        · exact e
      have := fold_good h64 u.set v.patch fu.2.1 fv.2.2 u.runes hr hs (by omega)
      rwa [hl] at this
    · exact hs.more (by omega)
/-- the numbers of what is composed lie as they must -/
theorem cmp_in (h64 : ks.length ≤ 64) {x y : List Dop} (hx : ∀ o ∈ x, GoodK ks o ∧ InO o) (hy : ∀ o ∈ y, GoodK ks o ∧ InO o) (hb : total x + total y ≤ 1099511627776) : ∀ z ∈ cmpD ks x y, InO z := by
  obtain ⟨h1, h2⟩ := ref_good h64 (fun o ho => (hx o ho).1) fun o ho => (hy o ho).1
  have one : ∀ {l : List Dop}, (∀ o ∈ l, GoodK ks o ∧ InO o) → ∀ u ∈ onesL l, InO u := fun {l} hl u hu => by
    simp only [onesL, List.mem_flatMap] at hu
    obtain ⟨o, ho, hu⟩ := hu
    obtain ⟨_, e1, e2⟩ := ones_kind hu
    have := (hl o ho).2
    unfold InO at this ⊢
    rw [e1, e2]; exact this
  have hin : ∀ z ∈ refC (oneP ks) (onesL x) (onesL y), InO z := by
    intro z hz
    rcases refC_mem hz with h | h | ⟨u, c, hu, hc, _, h⟩
    · exact one hx z h
    · exact one hy z h
    · have iu : InO u := by
        rcases hu with hu | rfl
        · exact one hx u hu
        · exact ⟨by simp, by simp⟩
      have ic := one hy c hc
      unfold oneP at h
      split at h
      · split at h
        · simp at h; subst h; exact ic
        · split at h
          · simp at h; subst h
            refine ⟨by simp, fun d hd => ?_⟩
            rcases comP_mem hd with hd | hd
            · exact iu.2 d hd
            · exact ic.2 d hd
          · simp at h
      · split at h
        · simp at h; subst h
          refine ⟨fun a ha => ?_, by simp⟩
          rcases appP_mem ha with ha | ⟨d, hd, _, rfl⟩
          · exact iu.1 a ha
          · exact ic.2 d (List.mem_filter.1 hd).1
        · simp at h
  obtain ⟨h3, _⟩ := good_norm (PS := fun l => ∀ a ∈ l, 0 ≤ a.val.f) (PP := fun p => ∀ c ∈ p, 0 ≤ c.val.f) (refC (oneP ks) (onesL x) (onesL y)) (fun z hz => by
    have i := hin z hz
    rcases (h1 z hz).1 with ⟨k1, k2, k3, k4, k5⟩ | ⟨k1, k2, k3, k4, k5⟩ | ⟨k1, k2, k3, k4, k5, k6⟩
    · exact .inl ⟨k1, k2, k3, k4, i.2⟩
    · exact .inr (.inl ⟨k1, k2, k3, k4, k5⟩)
    · exact .inr (.inr ⟨k1, k2, k3, k4, k5, i.1⟩)) (by omega)
  intro z hz
  rcases h3 z hz with ⟨k1, k2, k3, k4, k5⟩ | ⟨k1, k2, k3, k4, k5⟩ | ⟨k1, k2, k3, k4, k5, k6⟩
  · exact ⟨by rw [k3]; simp, k5⟩
  · exact ⟨by rw [k3]; simp, by rw [k4]; simp⟩
  · exact ⟨k6, by rw [k4]; simp⟩
theorem cmay_ok {E S D S' D' : Nat → Prop} {sv xv yv : Value} {x y : List Dop} {w : World} (hS : SchR E w sv ks) (hx : RDops S D w xv x) (hy : RDops S' D' w yv y) (hT : Tabs w) (ix : ∀ o ∈ x, InO o) (iy : ∀ o ∈ y, InO o) (mx : mayOps ks x = 0) (my : mayOps ks y = 0) :
    callK Tryz.prog 141 [sv, xv, yv] (fun v' w' => v' = .int .i64 0 ∧ Grow w w') w := by
  apply S141_ok
  unfold S141
  refine callK_mono (maypo_ok hS hx hT ix) ?_
  rintro _ w1 ⟨rfl, g1⟩
  refine callK_mono (maypo_ok (hS.grow g1) (RDops.grow hy g1) (hT.grow g1) iy) ?_
  rintro _ w2 ⟨rfl, g2⟩
  rw [mx, my, eqK_i]
  exact condK_p (fun _ => ⟨rfl, g1.trans g2⟩) fun e => (e rfl).elim
end
end Go.Proofs.YtlbaopamhkmepaaGreatDoor

namespace Go.Proofs.YtlbaopamhkmepaaGreatDoor
open Go Go.K

/-- where the maker and both readers lie -/
structure Cx (w W0 : World) (Sx Dx Sy Dy : Nat → Prop) (b c d : Nat) : Prop where
  b1 : w.heap.size ≤ b
  c1 : w.heap.size ≤ c
  d1 : w.heap.size ≤ d
  b2 : b < W0.heap.size
  c2 : c < W0.heap.size
  d2 : d < W0.heap.size
  bc : b ≠ c
  bd : b ≠ d
  cd : c ≠ d
  x : ∀ z, Sx z ∨ Dx z → z < w.heap.size
  y : ∀ z, Sy z ∨ Dy z → z < w.heap.size
/-- the maker's blocks -/
def Fof (W0 W : World) (b : Nat) (F : Nat → Prop) : Prop := ∀ z, F z → (z = b ∨ W0.heap.size ≤ z) ∧ z < W.heap.size
section
variable {w W0 W W' We : World} {Sx Dx Sy Dy F : Nat → Prop} {b c d : Nat} {u v : List Dop} {s s' : MkS}
theorem Cx.after (cx : Cx w W0 Sx Dx Sy Dy b c d) (hF : Fof W0 W b F) (hL : MkL W F We b s') (ru : RdI Sx Dx W c u) (rv : RdI Sy Dy W d v) (g : Grow w W) (h0 : W0.heap.size ≤ W.heap.size) :
    (∃ F', MkI F' We b s' ∧ Fof W0 We b F') ∧ RdI Sx Dx We c u ∧ RdI Sy Dy We d v ∧ Grow w We ∧ W0.heap.size ≤ We.heap.size := by
  obtain ⟨F', h1, h2, h3⟩ := hL
  have nc : ¬ F c := fun e => by have := (hF c e).1; have := cx.bc; have := cx.c2; omega
  have nd : ¬ F d := fun e => by have := (hF d e).1; have := cx.bd; have := cx.d2; omega
  have nx : ∀ z, z < w.heap.size → ¬ F z := fun z hz e => by have := (hF z e).1; have := cx.b1; have := cx.b2; omega
  refine ⟨⟨F', h1, fun z hz => ⟨?_, (h2 z hz).2⟩⟩, ru.mod h3 nc (fun z hz => nx z (cx.x z (.inl hz))) fun z hz => nx z (cx.x z (.inr hz)), rv.mod h3 nd (fun z hz => nx z (cx.y z (.inl hz))) fun z hz => nx z (cx.y z (.inr hz)), g.next h3 fun z hz e => nx z hz e, Nat.le_trans h0 h3.size⟩
  rcases (h2 z hz).1 with e | e
  · exact (hF z e).1
  · exact .inr (Nat.le_trans h0 e)
theorem Cx.tookX (cx : Cx w W0 Sx Dx Sy Dy b c d) (hm : MkI F W b s) (hF : Fof W0 W b F) (m : Mod (fun z => z = c) W W') (rv : RdI Sy Dy W d v) (g : Grow w W) (h0 : W0.heap.size ≤ W.heap.size) :
    MkI F W' b s ∧ Fof W0 W' b F ∧ RdI Sy Dy W' d v ∧ Grow w W' ∧ W0.heap.size ≤ W'.heap.size := by
  have := cx.bc; have := cx.c2; have := cx.c1; have := cx.cd
  refine ⟨hm.mod m fun z hz e => by have := (hF z hz).1; omega, fun z hz => ⟨(hF z hz).1, Nat.lt_of_lt_of_le (hF z hz).2 m.size⟩, rv.mod m (fun e => by omega) (fun z hz e => by have := cx.y z (.inl hz); omega) fun z hz e => by have := cx.y z (.inr hz); omega, g.next m fun z hz e => by omega, Nat.le_trans h0 m.size⟩
theorem Cx.tookY (cx : Cx w W0 Sx Dx Sy Dy b c d) (hm : MkI F W b s) (hF : Fof W0 W b F) (m : Mod (fun z => z = d) W W') (ru : RdI Sx Dx W c u) (g : Grow w W) (h0 : W0.heap.size ≤ W.heap.size) :
    MkI F W' b s ∧ Fof W0 W' b F ∧ RdI Sx Dx W' c u ∧ Grow w W' ∧ W0.heap.size ≤ W'.heap.size := by
  have := cx.bd; have := cx.d2; have := cx.d1; have := cx.cd
  refine ⟨hm.mod m fun z hz e => by have := (hF z hz).1; omega, fun z hz => ⟨(hF z hz).1, Nat.lt_of_lt_of_le (hF z hz).2 m.size⟩, ru.mod m (fun e => by omega) (fun z hz e => by have := cx.x z (.inl hz); omega) fun z hz e => by have := cx.x z (.inr hz); omega, g.next m fun z hz e => by omega, Nat.le_trans h0 m.size⟩
theorem Cx.grew (hm : MkI F W b s) (hF : Fof W0 W b F) (g : Grow W W') : MkI F W' b s ∧ Fof W0 W' b F := ⟨hm.mod g fun _ _ h => h, fun z hz => ⟨(hF z hz).1, Nat.lt_of_lt_of_le (hF z hz).2 g.size⟩⟩
end
section
variable {ks : List DKey}
theorem total_cons (o : Dop) (x : List Dop) : total (o :: x) = lenN o + total x := by simp [total]
theorem behind_all {o : Dop} {x : List Dop} : behind (lenN o) (o :: x) = x := by simp [behind]
set_option maxRecDepth 20000 in
theorem compose_ok {E S D S' D' : Nat → Prop} {sv xv yv : Value} {x y : List Dop} {w : World} (h64 : ks.length ≤ 64) (hS : SchR E w sv ks) (hx : RDops S D w xv x) (hy : RDops S' D' w yv y) (hT : Tabs w) (gx : ∀ o ∈ x, GoodK ks o ∧ InO o) (gy : ∀ o ∈ y, GoodK ks o ∧ InO o) (hb : total x + total y ≤ 16777216) :
    callK Tryz.prog 87 [sv, xv, yv] (fun v' w' => ∃ zv, v' = .tuple #[zv, .int .i64 0] ∧ ODops w.heap.size w' zv (cmpD ks x y) ∧ Grow w w') w := by
  apply S87_ok
  unfold S87
  refine callK_mono (cmay_ok hS hx hy hT (fun o ho => (gx o ho).2) (fun o ho => (gy o ho).2) (good_may (fun o ho => (gx o ho).1) (by omega)) (good_may (fun o ho => (gy o ho).1) (by omega))) ?_
  rintro _ w1 ⟨rfl, g1⟩
  rw [neK_i]
  refine condK_neg (fun _ => ?_) fun e => (e rfl).elim
  refine callK_mono new_ok ?_
  rintro _ w2 ⟨g2, b, hb1, hb2, rfl, hmk⟩
  have hx0 := RDops.old hx
  have hy0 := RDops.old hy
  have z1 := g1.size
  have z2 := g2.size
  obtain ⟨xa, xc, rfl, _⟩ := hx.shape
  obtain ⟨ya, yc, rfl, _⟩ := hy.shape
  refine ⟨#[.slice xa x.length xc, .int .i64 0], by kernel_rfl, ?_⟩
  refine boxn_i (vs := [.slice xa x.length xc, .int .i64 0]) fun c w3 hc hz3 g3 hc3 hl3 => ?_
  refine ⟨#[.slice ya y.length yc, .int .i64 0], by kernel_rfl, ?_⟩
  refine boxn_i (vs := [.slice ya y.length yc, .int .i64 0]) fun d w4 hd hz4 g4 hc4 hl4 => ?_
  have g04 := ((g1.trans g2).trans g3).trans g4
  have cx : Cx w w4 (fun z => S z ∧ z < w.heap.size) (fun z => D z ∧ z < w.heap.size) (fun z => S' z ∧ z < w.heap.size) (fun z => D' z ∧ z < w.heap.size) b c d :=
    ⟨by omega, by omega, by omega, by omega, by omega, by omega, by omega, by omega, by omega, fun z hz => by rcases hz with hz | hz <;> exact hz.2, fun z hz => by rcases hz with hz | hz <;> exact hz.2⟩
  -- at first
  have rx : RdI (fun z => S z ∧ z < w.heap.size) (fun z => D z ∧ z < w.heap.size) w4 c x := by
    refine ⟨_, x, 0, ⟨by have := g4.cell (hc3 0 _ rfl) fun h => h; rwa [addr0] at this, by have := g4.cell (hc3 1 _ rfl) fun h => h; rwa [addr0] at this, fun j hj => by have := (hl3 j hj).mod g4 fun h => h; rwa [addr0] at this, RDops.grow hx0 g04, fun z hz => by rcases hz with hz | hz <;> (have := hz.2; omega), fun o ho => GoodK.opk (gx o ho).1 (by have := total_mem ho; omega)⟩, fun o r e => by have := (GoodK.m (gx o (by rw [e]; simp)).1).2; omega, ?_⟩
    cases x with
    | nil => rfl
    | cons o r => simp only [remO, restO_0]
  have ry : RdI (fun z => S' z ∧ z < w.heap.size) (fun z => D' z ∧ z < w.heap.size) w4 d y := by
    refine ⟨_, y, 0, ⟨by have := hc4 0 _ rfl; rwa [addr0] at this, by have := hc4 1 _ rfl; rwa [addr0] at this, fun j hj => by have := hl4 j hj; rwa [addr0] at this, RDops.grow hy0 g04, fun z hz => by rcases hz with hz | hz <;> (have := hz.2; omega), fun o ho => GoodK.opk (gy o ho).1 (by have := total_mem ho; omega)⟩, fun o r e => by have := (GoodK.m (gy o (by rw [e]; simp)).1).2; omega, ?_⟩
    cases y with
    | nil => rfl
    | cons o r => simp only [remO, restO_0]
  have gm0 : GoodM (SetK ks) (PatK ks) MkS.z 0 := ⟨by simp [MkS.z], by simp [MkS.z], by simp [MkS.z], by simp [MkS.z, total]⟩
  generalize (fun z => S z ∧ z < w.heap.size) = Sx at cx rx
  generalize (fun z => D z ∧ z < w.heap.size) = Dx at cx rx
  generalize (fun z => S' z ∧ z < w.heap.size) = Sy at cx ry
  generalize (fun z => D' z ∧ z < w.heap.size) = Dy at cx ry
  have hE : SchR (fun z => E z ∧ z < w.heap.size) w sv ks := hS.sub fun z hz h => ⟨h, hz⟩
  have nF : ∀ {W : World} {F : Nat → Prop}, Fof w4 W b F → ∀ z, z < w.heap.size → ¬ F z := fun hF z hz e => by have := (hF z e).1; have := cx.b1; have := cx.b2; omega
  refine LoopK_i (fun vs W => ∃ (u v : List Dop) (s : MkS) (F : Nat → Prop) (t : Nat), vs = [] ∧ MkI F W b s ∧ Fof w4 W b F ∧ GoodM (SetK ks) (PatK ks) s t ∧ t + total u + total v ≤ total x + total y ∧ RdI Sx Dx W c u ∧ RdI Sy Dy W d v ∧ (∀ o ∈ u, GoodK ks o) ∧ (∀ o ∈ v, GoodK ks o) ∧ goC ks s u v = goC ks MkS.z x y ∧ Grow w W ∧ w4.heap.size ≤ W.heap.size)
    (fun _ W => rank W c + rank W d) ⟨x, y, MkS.z, _, 0, rfl, hmk.mod (g3.trans g4) fun _ _ h => h, fun z hz => ⟨.inl hz, by subst hz; omega⟩, gm0, by omega, rx, ry, fun o ho => (gx o ho).1, fun o ho => (gy o ho).1, rfl, g04, Nat.le_refl _⟩ ?_
  rintro _ W ⟨u, v, s, F, t, rfl, hm, hF, hs, htt, ru, rv, gu, gv, hgo, g, h0⟩ _
  have hT2 : ∀ {q : List Dop} {o : Dop}, o ∈ q → lenN o ≤ total q := fun h => total_mem h
  refine callK_mono (rover_ok rv) ?_
  rintro _ _ ⟨rfl, rfl⟩
  rename World => W
  rw [notK_i]
  cases v with
  | nil =>
    rw [decide_eq_true rfl]
    refine condK_f ?_
    rw [go_end fun o ho => GoodK.opk (gu o ho) (by have := hT2 ho; omega)] at hgo
    -- the rest of the first one
    refine LoopK_i (fun vs W => ∃ (u : List Dop) (s : MkS) (F : Nat → Prop) (t : Nat), vs = [] ∧ MkI F W b s ∧ Fof w4 W b F ∧ GoodM (SetK ks) (PatK ks) s t ∧ t + total u ≤ total x + total y ∧ RdI Sx Dx W c u ∧ RdI Sy Dy W d [] ∧ (∀ o ∈ u, GoodK ks o) ∧ u.foldl stepS s = goC ks MkS.z x y ∧ Grow w W ∧ w4.heap.size ≤ W.heap.size)
      (fun _ W => rank W c) ⟨u, s, F, t, rfl, hm, hF, hs, by omega, ru, rv, gu, hgo, g, h0⟩ ?_
    clear hm hF hs htt ru rv gu hgo g h0
    rintro _ W ⟨u, s, F, t, rfl, hm, hF, hs, htt, ru, rv, gu, hgo, g, h0⟩ _
    refine callK_mono (rover_ok ru) ?_
    rintro _ _ ⟨rfl, rfl⟩
    rename World => W
    rw [notK_i]
    cases u with
    | nil =>
      rw [decide_eq_true rfl]
      refine condK_f ?_
      simp only [List.foldl_nil] at hgo
      subst hgo
      obtain ⟨q1, q2, q3⟩ := hs.bnd (by omega)
      refine callK_mono (ops_ok hm q1) ?_
      rintro zv w5 ⟨oz, g5⟩
      have ez : opsS (goC ks MkS.z x y) = cmpD ks x y := rfl
      rw [ez] at oz
      obtain ⟨c1, c2⟩ := cmp_good h64 (fun o ho => (gx o ho).1) (fun o ho => (gy o ho).1) (by omega)
      have hn : ∀ o ∈ cmpD ks x y, 0 ≤ o.n := fun o ho => by rcases c1 o ho with ⟨_, _, _, h4, _⟩ | ⟨_, _, _, _, h4⟩ | ⟨_, _, h4, _⟩ <;> omega
      have ht1 := sumW_total (f := takesF) (cmpD ks x y) (fun o ho => by have := hn o ho; unfold takesF lenN; split <;> omega) (by omega)
      have ht2 := sumW_total (f := makesF) (cmpD ks x y) (fun o ho => by have := hn o ho; unfold makesF lenN lenO; split <;> (split <;> omega)) (by omega)
      refine callK_mono (takesp_ok (ODops.sl oz)) ?_
      rintro _ w6 ⟨rfl, g6⟩
      rw [gtK_i]
      refine condK_p (fun e => by omega) fun _ => ?_
      refine callK_mono (makesp_ok (RDops.grow (ODops.sl oz) g6)) ?_
      rintro _ w7 ⟨rfl, g7⟩
      rw [gtK_i]
      refine condK_p (fun e => by omega) fun _ => ?_
      refine ⟨zv, rfl, ?_, ((g.trans g5).trans g6).trans g7⟩
      have o7 := ODops.grow oz (g6.trans g7) fun _ _ _ h => h
      have : w.heap.size ≤ W.heap.size := g.size
      unfold ODops at o7 ⊢
      refine OwnR.base (OwnR.mod o7 (Mod.refl (fun _ => False) _) (fun _ _ h => h) fun r o _ ho => ho.mod (Mod.refl (fun _ => False) _) (fun _ _ _ h => h) fun z _ hz => ⟨by omega, hz.2⟩) fun z hz => by have := (OwnR.ownB o7 z hz).1; omega
    | cons o u =>
      rw [decide_eq_false (by simp)]
      refine condK_t ?_
      have ho := gu o (by simp)
      have hlo := hT2 (show o ∈ o :: u by simp)
      have op := GoodK.opk ho (by omega)
      refine callK_mono (rtake_ok ru (n := 536870912) (by decide) (by decide)) ?_
      rintro _ W1 ⟨r, o', u', rfl, hr, ru1, m1, ⟨e, _⟩ | ⟨o1, u1, e, rfl, rfl, hrk⟩⟩
      · simp at e
      cases e
      have hmin : min 536870912 (lenN o) = lenN o := by omega
      rw [hmin, headO_all op] at hr
      rw [hmin, behind_all] at ru1
      obtain ⟨hm1, hF1, rv1, gw1, h01⟩ := cx.tookX hm hF m1 rv g h0
      rw [total_cons] at htt
      refine callK_mono (tell_ok hm1 hr (fun z hz e => nF hF1 z (cx.x z (.inr hz)) e) hs ho (by omega)) ?_
      rintro _ W2 hL
      obtain ⟨⟨F2, hm2, hF2⟩, ru2, rv2, gw2, h02⟩ := cx.after hF1 hL ru1 rv1 gw1 h01
      refine ⟨⟨u, stepS s o, F2, t + lenN o, rfl, hm2, hF2, good_step hs ho (by omega), by omega, ru2, rv2, fun q hq => gu q (by simp [hq]), hgo, gw2, h02⟩, ?_⟩
      obtain ⟨_, _, _, mL⟩ := hL
      rw [ru1.rank_mod mL fun e => by have := (hF1 c e).1; have := cx.bc; have := cx.c2; omega]
      exact hrk
  | cons o v =>
    rw [decide_eq_false (by simp)]
    refine condK_t ?_
    have ho := gv o (by simp)
    have hlo := hT2 (show o ∈ o :: v by simp)
    have op := GoodK.opk ho (by omega)
    refine callK_mono (rkind_ok rv) ?_
    rintro _ _ ⟨rfl, rfl⟩
    rename World => W
    rw [eqK_i]
    refine condK_p (fun k2 => ?_) fun k2 => ?_
    · -- an insert of the second one
      rw [go_ins op k2] at hgo
      refine callK_mono (rtake_ok rv (n := 536870912) (by decide) (by decide)) ?_
      rintro _ W1 ⟨r, o', v', rfl, hr, rv1, m1, ⟨e, _⟩ | ⟨o1, v1, e, rfl, rfl, hrk⟩⟩
      · simp at e
      cases e
      have hmin : min 536870912 (lenN o) = lenN o := by omega
      rw [hmin, headO_all op] at hr
      rw [hmin, behind_all] at rv1
      obtain ⟨hm1, hF1, ru1, gw1, h01⟩ := cx.tookY hm hF m1 ru g h0
      rw [total_cons] at htt
      refine callK_mono (tell_ok hm1 hr (fun z hz e => nF hF1 z (cx.y z (.inr hz)) e) hs ho (by omega)) ?_
      rintro _ W2 hL
      obtain ⟨⟨F2, hm2, hF2⟩, ru2, rv2, gw2, h02⟩ := cx.after hF1 hL ru1 rv1 gw1 h01
      refine ⟨⟨u, v, stepS s o, F2, t + lenN o, rfl, hm2, hF2, good_step hs ho (by omega), by omega, ru2, rv2, gu, fun q hq => gv q (by simp [hq]), hgo, gw2, h02⟩, ?_⟩
      obtain ⟨_, _, _, mL⟩ := hL
      rw [ru1.rank_mod mL fun e => by have := (hF1 c e).1; have := cx.bc; have := cx.c2; omega, rv1.rank_mod mL fun e => by have := (hF1 d e).1; have := cx.bd; have := cx.d2; omega, ru.rank_mod m1 cx.cd]
      omega
    refine callK_mono (rkind_ok ru) ?_
    rintro _ _ ⟨rfl, rfl⟩
    rename World => W
    rw [eqK_i]
    -- what both give together
    have both : ∀ (a : Dop) (n : Nat), 1 ≤ n → n ≤ lenN o → (u = [] ∧ a = ⟨1, n, [], [], []⟩ ∧ n = lenN o ∨ ∃ a1 u1, u = a1 :: u1 ∧ a1.kind ≠ 3 ∧ n = min (lenN a1) (lenN o) ∧ a = headO n a1) →
        GoodK ks a ∧ lenN a = n ∧ a.kind ≠ 3 ∧ goC ks (bothS ks s a (headO n o)) (behind n u) (behind n (o :: v)) = goC ks MkS.z x y ∧ total (behind n u) + total (behind n (o :: v)) + n ≤ total u + total (o :: v) := by
      intro a n hn1 hn2 hc
      have tv := total_behind (x := v) hn2
      rcases hc with ⟨rfl, rfl, rfl⟩ | ⟨a1, u1, rfl, k3, hmin, rfl⟩
      · refine ⟨.inl ⟨rfl, rfl, rfl, by simp only; omega, patK_nil⟩, by simp [lenN], by simp, ?_, ?_⟩
        · rw [go_none op k2] at hgo
          rw [headO_all op, behind_all]; exact hgo
        · simp only [behind] at tv ⊢; omega
      · have ga := gu a1 (by simp)
        have hla := hT2 (show a1 ∈ a1 :: u1 by simp)
        have na : n ≤ lenN a1 := by omega
        have tu := total_behind (x := u1) na
        refine ⟨good_head ga hn1 na, headO_len na, by rw [headO_kind]; exact k3, ?_, by omega⟩
        rw [go_both (GoodK.opk ga (by omega)) op k3 k2 hmin] at hgo
        exact hgo
    -- the step
    have step : (∀ a1 u1, u = a1 :: u1 → a1.kind ≠ 3) → callK Tryz.prog 146 [.pointer (some ⟨c, 0, none⟩)] (fun t48 w14 => callK Tryz.prog 146 [.pointer (some ⟨d, 0, none⟩)] (fun t50 w15 => minK .i64 t48 t50 fun t51 =>
        callK Tryz.prog 145 [.pointer (some ⟨c, 0, none⟩), t51] (fun t56 w16 => callK Tryz.prog 145 [.pointer (some ⟨d, 0, none⟩), t51] (fun t59 w17 => callK Tryz.prog 147 [sv, .pointer (some ⟨b, 0, none⟩), t56, t59] (fun _ W' =>
          (∃ (u v : List Dop) (s : MkS) (F : Nat → Prop) (t : Nat), ([] : List Value) = [] ∧ MkI F W' b s ∧ Fof w4 W' b F ∧ GoodM (SetK ks) (PatK ks) s t ∧ t + total u + total v ≤ total x + total y ∧ RdI Sx Dx W' c u ∧ RdI Sy Dy W' d v ∧ (∀ o ∈ u, GoodK ks o) ∧ (∀ o ∈ v, GoodK ks o) ∧ goC ks s u v = goC ks MkS.z x y ∧ Grow w W' ∧ w4.heap.size ≤ W'.heap.size) ∧ rank W' c + rank W' d < rank W c + rank W d) w17) w16) w15) w14) W := by
      intro hk3
      refine callK_mono (rlong_ok ru) ?_
      rintro _ W1 ⟨rfl, g1'⟩
      have rv1 := rv.mod g1' (fun h => h) (fun _ _ h => h) fun _ _ h => h
      refine callK_mono (rlong_ok rv1) ?_
      rintro _ W2 ⟨rfl, g2'⟩
      have g12' := g1'.trans g2'
      have ru2 := ru.mod g12' (fun h => h) (fun _ _ h => h) fun _ _ h => h
      have rv2 := rv.mod g12' (fun h => h) (fun _ _ h => h) fun _ _ h => h
      obtain ⟨hm2, hF2⟩ := Cx.grew hm hF g12'
      have g02 := g.trans g12'
      have h02 : w4.heap.size ≤ W2.heap.size := Nat.le_trans h0 g12'.size
      have ek1 : rank W2 c = rank W c := ru.rank_mod g12' fun h => h
      have ek2 : rank W2 d = rank W d := rv.rank_mod g12' fun h => h
      rw [minK_i]
      obtain ⟨n, hn⟩ : ∃ n : Nat, n = min (longH u) (lenN o) := ⟨_, rfl⟩
      have en : (if ((longH (o :: v) : Nat) : Int) < ((longH u : Nat) : Int) then ((longH (o :: v) : Nat) : Int) else ((longH u : Nat) : Int)) = (n : Int) := by
        rw [longH_cons]
        split <;> omega
      rw [en]
      have hpos := op.pos
      have hn1 : 1 ≤ n := by
        cases u with
        | nil => rw [longH_nil, Nat.min_eq_right op.le] at hn; rw [hn]; exact hpos
        | cons a u1 => have := (GoodK.m (gu a (by simp))).2; rw [longH_cons] at hn; omega
      have hn2 : n ≤ lenN o := by omega
      refine callK_mono (rtake_ok ru2 (n := n) hn1 (by omega)) ?_
      rintro _ W3 ⟨r, a, u', rfl, hr, ru3, m3, hcase⟩
      obtain ⟨hm3, hF3, rv3, g03, h03⟩ := cx.tookX hm2 hF2 m3 rv2 g02 h02
      refine callK_mono (rtake_ok rv3 (n := n) hn1 (by omega)) ?_
      rintro _ W4 ⟨r2, o2, v2, rfl, hr2, rv4, m4, ⟨e, _⟩ | ⟨o1, v1, e, rfl, rfl, hrk⟩⟩
      · simp at e
      cases e
      have hmin2 : min n (lenN o) = n := by omega
      rw [hmin2] at hr2 rv4
      obtain ⟨hm4, hF4, ru4, g04', h04⟩ := cx.tookY hm3 hF3 m4 ru3 g03 h03
      have hca : (u = [] ∧ a = ⟨1, n, [], [], []⟩ ∧ n = lenN o ∨ ∃ a1 u1, u = a1 :: u1 ∧ a1.kind ≠ 3 ∧ n = min (lenN a1) (lenN o) ∧ a = headO n a1) ∧ u' = behind n u ∧ rank W3 c ≤ rank W2 c := by
        rcases hcase with ⟨hu, ha, hu', hrk'⟩ | ⟨a1, u1, hu, ha, hu', hrk'⟩
        · subst hu
          rw [longH_nil, Nat.min_eq_right op.le] at hn
          exact ⟨.inl ⟨rfl, ha, by omega⟩, hu', by omega⟩
        · subst hu
          rw [longH_cons] at hn
          have hmin3 : min n (lenN a1) = n := by omega
          rw [hmin3] at ha hu'
          exact ⟨.inr ⟨a1, u1, rfl, hk3 _ _ rfl, hn, ha⟩, hu', by omega⟩
      obtain ⟨hca1, rfl, hrk3⟩ := hca
      obtain ⟨ga, la, ka, hgo', htot⟩ := both a n hn1 hn2 hca1
      have gho := good_head ho hn1 hn2
      have hr4 : RDop Dx W4 r a := hr.mod m4 (fun z _ hz e => by have := cx.x z (.inr hz); have := cx.d1; omega) fun _ _ h => h
      have hS4 : SchR (fun z => E z ∧ z < w.heap.size) W4 sv ks := hE.grow g04'
      refine callK_mono (both_ok h64 hS4 (fun z hz e => nF hF4 z hz.2 e) hm4 (fun z hz => (hF4 z hz).2) hr4 (fun z hz e => nF hF4 z (cx.x z (.inr hz)) e) hr2 (fun z hz e => nF hF4 z (cx.y z (.inr hz)) e) hs ga gho (by omega) (by rw [la, headO_len hn2]) (by rw [headO_kind]; exact k2)) ?_
      rintro _ W5 hL
      obtain ⟨⟨F5, hm5, hF5⟩, ru5, rv5, g05, h05⟩ := cx.after hF4 hL ru4 rv4 g04' h04
      refine ⟨⟨behind n u, behind n (o :: v), _, F5, t + n, rfl, hm5, hF5, good_both h64 hs ga gho la (headO_len hn2) (by rw [headO_kind]; exact k2) ka hn1 (by omega), by omega, ru5, rv5, good_behind gu, good_behind gv, hgo', g05, h05⟩, ?_⟩
      obtain ⟨_, _, _, mL⟩ := hL
      have e1 : rank W5 c = rank W3 c := by rw [ru4.rank_mod mL fun e => by have := (hF4 c e).1; have := cx.bc; have := cx.c2; omega, ru3.rank_mod m4 cx.cd]
      have e2 : rank W5 d = rank W4 d := rv4.rank_mod mL fun e => by have := (hF4 d e).1; have := cx.bd; have := cx.d2; omega
      have e3 : rank W3 d = rank W2 d := rv2.rank_mod m3 fun e => cx.cd e.symm
      omega
    cases u with
    | nil => exact condK_p (fun e => by simp [kindH] at e) fun _ => step fun a1 u1 e => by simp at e
    | cons a u =>
      refine condK_p (fun k3 => ?_) fun k3 => step fun a1 u1 e => by cases e; exact k3
      -- a delete of the first one
      have ga := gu a (by simp)
      have hla := hT2 (show a ∈ a :: u by simp)
      have oa := GoodK.opk ga (by omega)
      rw [go_del oa op k3 k2] at hgo
      refine callK_mono (rtake_ok ru (n := 536870912) (by decide) (by decide)) ?_
      rintro _ W1 ⟨r, o', u', rfl, hr, ru1, m1, ⟨e, _⟩ | ⟨o1, u1, e, rfl, rfl, hrk⟩⟩
      · simp at e
      cases e
      have hmin : min 536870912 (lenN a) = lenN a := by omega
      rw [hmin, headO_all oa] at hr
      rw [hmin, behind_all] at ru1
      obtain ⟨hm1, hF1, rv1, gw1, h01⟩ := cx.tookX hm hF m1 rv g h0
      rw [total_cons a u] at htt
      refine callK_mono (tell_ok hm1 hr (fun z hz e => nF hF1 z (cx.x z (.inr hz)) e) hs ga (by omega)) ?_
      rintro _ W2 hL
      obtain ⟨⟨F2, hm2, hF2⟩, ru2, rv2, gw2, h02⟩ := cx.after hF1 hL ru1 rv1 gw1 h01
      refine ⟨⟨u, o :: v, stepS s a, F2, t + lenN a, rfl, hm2, hF2, good_step hs ga (by omega), by omega, ru2, rv2, fun q hq => gu q (by simp [hq]), gv, hgo, gw2, h02⟩, ?_⟩
      obtain ⟨_, _, _, mL⟩ := hL
      rw [ru1.rank_mod mL fun e => by have := (hF1 c e).1; have := cx.bc; have := cx.c2; omega, rv1.rank_mod mL fun e => by have := (hF1 d e).1; have := cx.bd; have := cx.d2; omega, rv.rank_mod m1 fun e => cx.cd e.symm]
      omega
end
end Go.Proofs.YtlbaopamhkmepaaGreatDoor

namespace Go.Proofs.YtlbaopamhkmepaaGreatDoor
open Go Go.K

/-- a group of deltas that may be, of at most so many cells -/
def GoodG (ks : List DKey) (T : Nat) (g : Grp) : Prop := (∀ o ∈ g.d, GoodK ks o ∧ InO o) ∧ (∀ o ∈ g.u, GoodK ks o ∧ InO o) ∧ total g.d ≤ T ∧ total g.u ≤ T
/-- the bracket's group with one more behind it -/
def withL (ks : List DKey) (own : List Grp) (g : Grp) : Grp := match own with
  | [] => g
  | a :: _ => ⟨cmpD ks a.d g.d, cmpD ks g.u a.u⟩
theorem GoodG.m {ks : List DKey} {T : Nat} {g : Grp} (h : GoodG ks T g) (hT : T ≤ 16777216) : mDops g.d ≤ 1099511627776 ∧ mDops g.u ≤ 1099511627776 := by
  have h1 := good_m fun o ho => (h.1 o ho).1
  have h2 := good_m fun o ho => (h.2.1 o ho).1
  have := h.2.2.1
  have := h.2.2.2
  omega
theorem GoodG.with {ks : List DKey} {T T' : Nat} {own : List Grp} {g : Grp} (h64 : ks.length ≤ 64) (h : GoodG ks T g) (ho : ∀ a ∈ own, GoodG ks T' a) (hT : T + T' ≤ 16777216) : GoodG ks (T + T') (withL ks own g) := by
  cases own with
  | nil => exact ⟨h.1, h.2.1, by have := h.2.2.1; show total g.d ≤ T + T'; omega, by have := h.2.2.2; show total g.u ≤ T + T'; omega⟩
  | cons a r =>
    have ha := ho a (by simp)
    have e1 := h.2.2.1
    have e2 := h.2.2.2
    have e3 := ha.2.2.1
    have e4 := ha.2.2.2
    have c1 := cmp_good h64 (fun o ho => (ha.1 o ho).1) (fun o ho => (h.1 o ho).1) (by omega)
    have c2 := cmp_good h64 (fun o ho => (h.2.1 o ho).1) (fun o ho => (ha.2.1 o ho).1) (by omega)
    exact ⟨fun o ho => ⟨c1.1 o ho, cmp_in h64 ha.1 h.1 (by omega) o ho⟩, fun o ho => ⟨c2.1 o ho, cmp_in h64 h.2.1 ha.2.1 (by omega) o ho⟩, by show total (cmpD ks a.d g.d) ≤ T + T'; omega, by show total (cmpD ks g.u a.u) ≤ T + T'; omega⟩
section
variable {F C C' : Nat → Prop} {W : World} {b T T' : Nat} {sv uv rv ov dv uu : Value} {ks : List DKey} {mx : Nat} {us rs own : List Grp} {op : Bool} {g : Grp}
set_option maxRecDepth 20000 in
theorem with_ok (hR : HistR F C W b sv ks uv rv ov mx us rs op own) (hg : RGrp C' W [dv, uu] g) (h1 : own.length ≤ 1) (h64 : ks.length ≤ 64) (hT : Tabs W) (gg : GoodG ks T g) (go : ∀ a ∈ own, GoodG ks T' a) (hb : T + T' ≤ 16777216) :
    callK Tryz.prog 50 [.pointer (some ⟨b, 0, none⟩), .agg #[dv, uu]] (fun v' w' => ∃ dv' uu', v' = .tuple #[.agg #[dv', uu'], .int .i64 0] ∧ RGrp (fun z => C' z ∨ W.heap.size ≤ z ∧ z < w'.heap.size) w' [dv', uu'] (withL ks own g) ∧ Grow W w') W := by
  apply S50_ok
  unfold S50
  refine boxn_i (vs := [dv, uu]) fun b3 w1 hb3 hz1 g1 hc1 _ => ?_
  refine newz_i fun b4 w2 hb4 hz2 g2 _ hl2 => ?_
  have g12 := g1.trans g2
  have hR2 := hR.grow g12
  have hr1 := hg.one
  refine nilckK_s ?_
  rw [faK_i, addr0]
  refine ld1K_i (hR2.cells 6 _ rfl) ?_
  obtain ⟨oa, oc, rfl, _⟩ := hR2.own.shape
  rw [lenK_i, eqK_i]
  refine condK_p (fun h0 => ?_) fun h0 => ?_
  · have e0 : own = [] := List.eq_nil_of_length_eq_zero (by omega)
    subst e0
    refine ldnK_i (vs := [dv, uu]) rfl (fun j u hu => g2.cell (hc1 j u hu) fun h => h) ?_
    refine stn_over (vs := [dv, uu]) rfl hr1 (fun j hj => hl2 j hj) fun w3 m3 hc3 _ => ?_
    refine ldnK_i (vs := [dv, uu]) rfl hc3 ?_
    refine ⟨dv, uu, rfl, ?_, g12.next m3 fun x hx e => by omega⟩
    exact hg.to (g12.next m3 fun x hx e => by omega : Grow W w3) (fun _ _ _ h => h) fun _ _ h => .inl h
  obtain ⟨a, rfl⟩ : ∃ a, own = [a] := by
    match own, h1, h0 with
    | [], _, h0 => simp at h0
    | [a], _, _ => exact ⟨a, rfl⟩
    | _ :: _ :: _, h1, _ => simp at h1
  have ga := go a (by simp)
  have gd : Grow w2 w2.drew := Mod.drew _ _
  have hR3 := hR2.grow gd
  have c3 : ∀ j u, ([dv, uu] : List Value)[j]? = some u → w2.drew.cell? ((⟨b3, 0, none⟩ : Addr).add j) = some u := fun j u hu => (g2.trans gd).cell (hc1 j u hu) fun h => h
  obtain ⟨p, r, rfl, _, hr2, hcr, da, ua, rfl, hda, hua⟩ := hR3.own.get (i := 0) (by simp)
  have hda' : RDops C C w2.drew da a.d := hda
  have hua' : RDops C C w2.drew ua a.u := hua
  obtain ⟨dv0, uu0, e0, hd0, hu0⟩ := hg
  cases e0
  have e1 := gg.2.2.1
  have e2 := gg.2.2.2
  have e3 := ga.2.2.1
  have e4 := ga.2.2.2
  have g3 := g12.trans gd
  refine drawC_i (fun _ _ => False) ?_
  refine nilckK_s ?_
  rw [faK_i, addr0]
  refine sld1_i ⟨hR3.cells 0 _ rfl, fun _ _ h => h⟩ ?_
  refine nilckK_s ?_
  rw [faK_i, addr0]
  refine sld1_i ⟨hR3.cells 6 _ rfl, fun _ _ h => h⟩ ?_
  refine ixK_n (j := 0) (by simp) ?_
  rw [faK_i, Addr.add_add]
  refine sld1_i ⟨hcr 0 _ rfl, fun _ _ h => h⟩ ?_
  rw [faK_i]
  refine sld1_i ⟨c3 0 _ rfl, fun _ _ h => h⟩ ?_
  refine callK_mono (compose_ok h64 hR3.sch hda' (hd0.grow g3) (hT.grow g3) ga.1 gg.1 (by omega)) ?_
  rintro _ w4 ⟨zd, rfl, od, g4⟩
  refine ⟨g4, extK_i (vs := [_, _]) (by rfl) (extK_i (vs := [_, _]) (by rfl) ?_)⟩
  rw [neK_i]
  refine condK_neg (fun _ => ?_) fun e => (e rfl).elim
  have gd2 : Grow w4 w4.drew := Mod.drew _ _
  have g34 := g4.trans gd2
  have hR4 := hR3.grow g34
  refine drawC_i (fun _ _ => False) ?_
  refine nilckK_s ?_
  rw [faK_i, addr0]
  refine sld1_i ⟨hR4.cells 0 _ rfl, fun _ _ h => h⟩ ?_
  rw [faK_i]
  refine sld1_i ⟨g34.cell (c3 1 _ rfl) fun h => h, fun _ _ h => h⟩ ?_
  refine nilckK_s ?_
  rw [faK_i, addr0]
  refine sld1_i ⟨hR4.cells 6 _ rfl, fun _ _ h => h⟩ ?_
  refine ixK_n (j := 0) (by simp) ?_
  rw [faK_i, Addr.add_add]
  refine sld1_i ⟨g34.cell (hcr 1 _ rfl) fun h => h, fun _ _ h => h⟩ ?_
  refine callK_mono (compose_ok h64 hR4.sch (hu0.grow (g3.trans g34)) (hua'.grow g34) (hT.grow (g3.trans g34)) gg.2.1 ga.2.1 (by omega)) ?_
  rintro _ w5 ⟨zu, rfl, ou, g5⟩
  refine ⟨g5, extK_i (vs := [_, _]) (by rfl) (extK_i (vs := [_, _]) (by rfl) ?_)⟩
  obtain ⟨ca, cc, ecd, _⟩ := (ODops.sl od).shape
  obtain ⟨ca', cc', ecu, _⟩ := (ODops.sl ou).shape
  refine ⟨#[zd, zu], by rw [ecd, ecu]; kernel_rfl, ?_⟩
  have z12 := g12.size
  have z3 : w2.drew.heap.size = w2.heap.size := rfl
  have z34 := g34.size
  have z4 := g4.size
  have z5 := g5.size
  have g35 := g34.trans g5
  refine stn_over (vs := [zd, zu]) rfl (fun u hu => by simp at hu; rcases hu with rfl | rfl; rw [ecd]; rfl; rw [ecu]; rfl) (fun j hj => ((hl2 j hj).mod gd fun h => h).mod g35 fun h => h) fun w6 m6 hc6 _ => ?_
  refine ldnK_i (vs := [zd, zu]) rfl hc6 ?_
  have z6 := m6.size
  have g06 : Grow W w6 := (g3.trans g35).next m6 fun x hx e => by omega
  have hb4' : b4 < w2.drew.heap.size := by omega
  refine ⟨zd, zu, rfl, ⟨zd, zu, rfl, ?_, ?_⟩, g06⟩
  · exact ((ODops.reads od).to (gd2.trans g5) (fun _ _ _ h => h) (fun _ _ _ h => h) (fun _ _ h => h) fun _ _ h => h).to m6 (fun x _ hx e => by have := hx.1; omega) (fun x _ hx e => by have := hx.1; omega) (fun x _ hx => .inr ⟨by have := hx.1; omega, by have := hx.2; omega⟩) fun x _ hx => .inr ⟨by have := hx.1; omega, by have := hx.2; omega⟩
  · exact (ODops.reads ou).to m6 (fun x _ hx e => by have := hx.1; have := gd2.size; omega) (fun x _ hx e => by have := hx.1; have := gd2.size; omega) (fun x _ hx => .inr ⟨by have := hx.1; have := gd2.size; omega, by have := hx.2; omega⟩) fun x _ hx => .inr ⟨by have := hx.1; have := gd2.size; omega, by have := hx.2; omega⟩
end
section
variable {F C M : Nat → Prop} {W W' : World} {b T T' : Nat} {ks : List DKey} {h : Hist}
/-- Push, within a bracket -/
theorem push2_ok {S D S' D' : Nat → Prop} {dv uu : Value} {x y : List Dop} (hh : HistI F W b ks h) (hop : h.op = true) (h1 : h.own.length ≤ 1) (h64 : ks.length ≤ 64) (hT : Tabs W) (hd : RDops S D W dv x) (hu : RDops S' D' W uu y) (gg : GoodG ks T ⟨x, y⟩) (go : ∀ a ∈ h.own, GoodG ks T' a) (hb : T + T' ≤ 16777216) (hF : ∀ z, F z → z < W.heap.size) :
    callK Tryz.prog 18 [.pointer (some ⟨b, 0, none⟩), dv, uu] (fun v' w' => v' = .int .i64 0 ∧ HAfter F W w' b ks { h with own := [withL ks h.own ⟨x, y⟩], rs := [] }) W := by
  apply S18_ok
  unfold S18
  refine callK_mono (hready_ok hh) ?_
  rintro _ _ ⟨rfl, rfl⟩
  rename World => W
  obtain ⟨C, sv, uv, rv, ov, hR⟩ := hh
  obtain ⟨bx, by'⟩ := gg.m (by omega)
  rw [notK_i]
  refine condK_f ?_
  refine callK_mono (copy_dops hd bx) ?_
  rintro cv w2 ⟨o2, g2⟩
  refine callK_mono (copy_dops (hu.grow g2) by') ?_
  rintro cu w3 ⟨o3, g3⟩
  have g23 := g2.trans g3
  obtain ⟨ca, cc, ecv, _⟩ := (ODops.sl o2).shape
  obtain ⟨ca', cc', ecu, _⟩ := (ODops.sl o3).shape
  refine ⟨#[cv, cu], by rw [ecv, ecu]; kernel_rfl, ?_⟩
  refine newst_n (vs := [cv, cu]) rfl rfl (fun u hu => by simp at hu; rcases hu with rfl | rfl; rw [ecv]; rfl; rw [ecu]; rfl) fun b7 w4 hb7 hz7 g4 hc4 _ => ?_
  have z2 := g2.size
  have z3 := g3.size
  have r2 : RDops (fun z => W.heap.size ≤ z ∧ z < w4.heap.size) (fun z => W.heap.size ≤ z ∧ z < w4.heap.size) w4 cv x := (ODops.reads o2).to (g3.trans g4) (fun _ _ _ h => h) (fun _ _ _ h => h) (fun z _ hz => ⟨hz.1, by omega⟩) fun z _ hz => ⟨hz.1, by omega⟩
  have r3 : RDops (fun z => W.heap.size ≤ z ∧ z < w4.heap.size) (fun z => W.heap.size ≤ z ∧ z < w4.heap.size) w4 cu y := (ODops.reads o3).to g4 (fun _ _ _ h => h) (fun _ _ _ h => h) (fun z _ hz => ⟨by omega, by omega⟩) fun z _ hz => ⟨by omega, by omega⟩
  have hg : RGrp (fun z => W.heap.size ≤ z ∧ z < w4.heap.size) w4 [cv, cu] ⟨x, y⟩ := ⟨cv, cu, rfl, r2, r3⟩
  have g04 := g23.trans g4
  have hR4 := hR.grow g04
  refine JoinK_i (fun _ w6 => ∃ F' C' ov', (∀ z, F' z → F z ∨ W.heap.size ≤ z ∧ z < w6.heap.size) ∧ HistR F' C' w6 b sv ks uv rv ov' h.max h.us h.rs h.op [withL ks h.own ⟨x, y⟩] ∧ Mod F W w6) ?_ ?_
  · rintro _ w6 ⟨F', C', ov', hF', hR6, m6⟩ _
    refine nilckK_s ?_
    rw [faK_i, addr0]
    refine hR6.setR (F' := F') (M := fun _ => False) (Mod.refl _ _) (fun _ h => h.elim) (fun _ h => h) (.inl OwnR.nil) (fun g hg => nomatch hg) fun w7 hR7 m7 => ⟨rfl, F', fun z hz => ?_, ⟨_, sv, uv, _, ov', hR7⟩, m6.trans (m7.mono fun z _ e => by rw [e]; exact hR.fb.1)⟩
    have := m7.size
    rcases hF' z hz with h | h
    · exact .inl h
    · exact .inr ⟨h.1, by omega⟩
  refine nilckK_s ?_
  rw [faK_i, addr0]
  refine ld1K_i (hR4.cells 5 _ rfl) ?_
  rw [hop]
  refine condK_t ?_
  refine ldnK_i (vs := [cv, cu]) rfl hc4 ?_
  rw [← hop]
  refine callK_mono (with_ok hR4 hg h1 h64 (hT.grow g04) gg go hb) ?_
  rintro _ w5 ⟨dv', uu', rfl, hg5, g5⟩
  refine extK_i (vs := [_, _]) (by rfl) (extK_i (vs := [_, _]) (by rfl) ?_)
  have z4 := g04.size
  have z5 := g5.size
  refine newst_n (vs := [dv', uu']) rfl rfl hg5.one fun b8 w6 hb8 hz8 g6 hc6 _ => ?_
  rw [neK_i]
  refine condK_neg (fun _ => ?_) fun e => (e rfl).elim
  refine ldnK_i (vs := [dv', uu']) rfl hc6 ?_
  have hg6 := hg5.to (C' := fun z => W.heap.size ≤ z ∧ z < w5.heap.size) g6 (fun _ _ _ h => h) fun z _ hz => by
    rcases hz with hz | hz
    · exact ⟨hz.1, by omega⟩
    · exact ⟨by omega, hz.2⟩
  have shp : ∃ a1 n1 c1 a2 n2 c2, dv' = .slice a1 n1 c1 ∧ uu' = .slice a2 n2 c2 := by
    obtain ⟨d0, u0, e0, q1, q2⟩ := hg6
    cases e0
    obtain ⟨a1, c1, rfl, _⟩ := q1.shape
    obtain ⟨a2, c2, rfl, _⟩ := q2.shape
    exact ⟨_, _, _, _, _, _, rfl, rfl⟩
  refine rowK_i (cs := [dv', uu']) (by obtain ⟨_, _, _, _, _, _, rfl, rfl⟩ := shp; kernel_rfl) ?_
  have g7 : Grow w6 (w6.alloc (.cells [dv', uu'].toArray TGrp)) := Mod.alloc _ _ _
  have z7 : (w6.alloc (.cells [dv', uu'].toArray TGrp)).heap.size = w6.heap.size + 1 := by simp
  have hg7 := hg6.mod g7 fun _ _ _ h => h
  have o7 : OwnR w6.heap.size TGrp 2 (RGrp fun z => W.heap.size ≤ z ∧ z < w5.heap.size) (w6.alloc (.cells [dv', uu'].toArray TGrp)) (.slice (some ⟨w6.heap.size, 0, none⟩) 1 1) [withL ks h.own ⟨x, y⟩] := OwnR.row1 (Nat.le_refl _) rfl hg5.one hg7
  generalize w6.alloc (.cells [dv', uu'].toArray TGrp) = w7 at g7 z7 hg7 o7 ⊢
  have g47 := (g5.trans g6).trans g7
  have z6 := g6.size
  have hR7 := (hR4.grow g47).more (F' := fun z => F z ∨ W.heap.size ≤ z ∧ z < w7.heap.size) (C' := fun z => C z ∨ W.heap.size ≤ z ∧ z < w7.heap.size) (fun _ h => .inl h) (fun _ h => .inl h) (fun z hz => by
    rcases hz with hz | hz
    · have := hR.cf z hz; exact ⟨.inl this.1, by omega, .inl hz⟩
    · exact ⟨.inr hz, hz.2, .inr fun hf => by have := hF z hf; omega⟩)
  refine nilckK_s ?_
  rw [faK_i, addr0]
  have osl : SlR (fun z => C z ∨ W.heap.size ≤ z ∧ z < w7.heap.size) 2 (RGrp fun z => C z ∨ W.heap.size ≤ z ∧ z < w7.heap.size) w7 (.slice (some ⟨w6.heap.size, 0, none⟩) 1 1) [withL ks h.own ⟨x, y⟩] :=
    SlR.sub (OwnR.sl o7) (fun z hz h => .inr ⟨by have := h.1; omega, hz⟩) (by decide) fun r g hg => hg.to (Mod.refl (fun _ => False) _) (fun _ _ _ h => h) fun z _ hz => .inr ⟨hz.1, by omega⟩
  refine hR7.setOwn osl fun w8 hR8 m8 => ⟨_, _, _, fun z hz => ?_, hR8, ?_⟩
  · have := m8.size
    rcases hz with hz | hz
    · exact .inl hz
    · exact .inr ⟨hz.1, by omega⟩
  · exact ((g04.trans g47).mono fun _ _ e => e.elim : Mod F W w7).trans (m8.mono fun z _ e => by rw [e]; exact hR.fb.1)
/-- the bracket's group, if there is one, kept -/
def endL (mx : Nat) (us own : List Grp) : List Grp := match own with
  | [] => us
  | g :: _ => keepL mx us g
/-- End -/
theorem end_ok (hh : HistI F W b ks h) (h1 : h.own.length ≤ 1) (hl : h.us.length ≤ h.max) (hmx : h.max ≤ 65536) :
    callK Tryz.prog 29 [.pointer (some ⟨b, 0, none⟩)] (fun v' w' => (h.op = false ∧ v' = .int .i64 9 ∧ w' = W) ∨ (h.op = true ∧ v' = .int .i64 0 ∧ HAfter F W w' b ks { h with us := endL h.max h.us h.own, op := false, own := [] })) W := by
  apply S29_ok
  unfold S29
  refine callK_mono (hready_ok hh) ?_
  rintro _ _ ⟨rfl, rfl⟩
  rename World => W
  obtain ⟨C, sv, uv, rv, ov, hR⟩ := hh
  rw [notK_i]
  refine condK_f (nilckK_s ?_)
  rw [faK_i, addr0]
  refine ld1K_i (hR.cells 5 _ rfl) ?_
  rw [notK_i]
  cases hop : h.op with
  | false => exact condK_t (.inl ⟨rfl, rfl, rfl⟩)
  | true =>
    rw [hop] at hR
    refine condK_f (nilckK_s ?_)
    rw [faK_i, addr0]
    refine ld1K_i (hR.cells 6 _ rfl) ?_
    obtain ⟨oa, oc, rfl, _⟩ := hR.own.shape
    rw [lenK_i]
    refine LoopK_i (fun vs W1 => ∃ (i : Nat) (F' : Nat → Prop) (uv' : Value), i ≤ h.own.length ∧ vs = [.int .i64 i] ∧ (∀ x, F' x → F x ∨ W.heap.size ≤ x ∧ x < W1.heap.size) ∧ HistR F' C W1 b sv ks uv' rv (.slice oa h.own.length oc) h.max (endL h.max h.us (h.own.take i)) h.rs true h.own ∧ Mod F W W1) (fun vs _ => h.own.length - iOf vs 0)
      ⟨0, F, uv, Nat.zero_le _, rfl, fun _ h => .inl h, hR, Mod.refl _ _⟩ ?_
    rintro vs W1 ⟨i, F', uv', hi, rfl, hF', hR1, m1⟩ _
    rw [nth_z, List.headD_cons, ltK_i]
    refine condK_p (fun hlt => ?_) fun hge => ?_
    · have hlt' : i < h.own.length := by omega
      obtain rfl : i = 0 := by omega
      obtain ⟨p, r, rfl, _, hr, hc, hg⟩ := hR1.own.get hlt'
      refine ixK_n (j := 0) (by omega) (ldnK_i hr (fun j u hu => by rw [Addr.add_add]; exact hc j u hu) ?_)
      refine newst_n hr rfl hg.one fun b4 W2 hb4 hz4 g4 hc4 _ => ?_
      refine ldnK_i hr hc4 ?_
      obtain ⟨dv, uu, rfl, q1, q2⟩ := id hg
      refine callK_mono (keep_ok (hR1.grow g4) hl hmx (hg.mod g4 fun _ _ _ h => h)) ?_
      rintro _ W3 ⟨F3, uv3, hF3, hR3, m3⟩
      rw [addK_i, loop_step (by omega)]
      have z1 := m1.size
      have z4 := g4.size
      have z3 := m3.size
      refine ⟨⟨1, F3, uv3, hlt', rfl, fun x hx => ?_, ?_, (m1.next g4 fun _ _ e => e.elim).next m3 fun x hx e => ?_⟩, by rw [iOf0, iOf0]; omega⟩
      · rcases hF3 x hx with e | e
        · rcases hF' x e with e | e
          · exact .inl e
          · exact .inr ⟨e.1, by omega⟩
        · exact .inr ⟨by omega, e.2⟩
      · have e1 : h.own.take 1 = [h.own[0]] := by rw [List.take_add_one, List.getElem?_eq_getElem hlt']; rfl
        rw [e1]
        exact hR3
      · rcases hF' x e with e | e
        · exact e
        · omega
    · obtain rfl : i = h.own.length := by omega
      rw [List.take_length] at hR1
      refine nilckK_s ?_
      rw [faK_i, addr0]
      refine hR1.setOp fun W2 hR2 m2 => nilckK_s ?_
      rw [faK_i, addr0]
      refine hR2.setOwn SlR.nil fun W3 hR3 m3 => .inr ⟨rfl, rfl, F', fun x hx => ?_, ⟨C, sv, uv', rv, _, hR3⟩, m1.trans ((m2.trans m3).mono fun x _ e => by rw [e]; exact hR.fb.1)⟩
      have := m2.size
      have := m3.size
      rcases hF' x hx with e | e
      · exact .inl e
      · exact .inr ⟨e.1, by omega⟩
end
section
variable {w0 W : World} {F : Nat → Prop} {b T T' : Nat} {ks : List DKey} {h : Hist}
theorem HL.push2 {S D S' D' : Nat → Prop} {dv uu : Value} {x y : List Dop} (hh : HL w0 F W b ks h) (hop : h.op = true) (h1 : h.own.length ≤ 1) (h64 : ks.length ≤ 64) (hT : Tabs w0) (hd : RDops S D W dv x) (hu : RDops S' D' W uu y) (gg : GoodG ks T ⟨x, y⟩) (go : ∀ a ∈ h.own, GoodG ks T' a) (hb : T + T' ≤ 16777216) :
    callK Tryz.prog 18 [.pointer (some ⟨b, 0, none⟩), dv, uu] (fun v' w' => v' = .int .i64 0 ∧ ∃ F', HL w0 F' w' b ks { h with own := [withL ks h.own ⟨x, y⟩], rs := [] } ∧ (∀ x, F' x → F x ∨ W.heap.size ≤ x) ∧ Mod F W w') W :=
  callK_mono (push2_ok hh.his hop h1 h64 (hT.grow hh.g) hd hu gg go hb fun x hx => (hh.hF x hx).2) fun _ _ h' => ⟨h'.1, hh.after h'.2⟩
theorem HL.begin (hh : HL w0 F W b ks h) (hop : h.op = false) :
    callK Tryz.prog 27 [.pointer (some ⟨b, 0, none⟩)] (fun v' w' => v' = .int .i64 0 ∧ ∃ F', HL w0 F' w' b ks { h with op := true, own := [] } ∧ (∀ x, F' x → F x ∨ W.heap.size ≤ x) ∧ Mod F W w') W :=
  callK_mono (begin_ok hh.his) fun _ _ h' => by
    rcases h' with ⟨e, _⟩ | ⟨_, e, ha⟩
    · rw [hop] at e; cases e
    · exact ⟨e, hh.after ha⟩
theorem HL.end (hh : HL w0 F W b ks h) (hop : h.op = true) (h1 : h.own.length ≤ 1) (hl : h.us.length ≤ h.max) (hmx : h.max ≤ 65536) :
    callK Tryz.prog 29 [.pointer (some ⟨b, 0, none⟩)] (fun v' w' => v' = .int .i64 0 ∧ ∃ F', HL w0 F' w' b ks { h with us := endL h.max h.us h.own, op := false, own := [] } ∧ (∀ x, F' x → F x ∨ W.heap.size ≤ x) ∧ Mod F W w') W :=
  callK_mono (end_ok hh.his h1 hl hmx) fun _ _ h' => by
    rcases h' with ⟨e, _⟩ | ⟨_, e, ha⟩
    · rw [hop] at e; cases e
    · exact ⟨e, hh.after ha⟩
end
end Go.Proofs.YtlbaopamhkmepaaGreatDoor

namespace Go.Proofs.YtlbaopamhkmepaaGreatDoor
open Go Go.K

theorem gin_small (r n : Int) : mDops (gin r n).u ≤ 1099511627776 ∧ mDops (gin r n).d ≤ 1099511627776 := ⟨mdel n, mins r⟩
theorem rep_small {i : Nat} {r n : Int} : (∀ g ∈ List.replicate i (gin r n), mDops g.u ≤ 1099511627776) ∧ ∀ g ∈ List.replicate i (gin r n), mDops g.d ≤ 1099511627776 :=
  ⟨fun g hg => by rw [(List.mem_replicate.1 hg).2]; exact (gin_small r n).1, fun g hg => by rw [(List.mem_replicate.1 hg).2]; exact (gin_small r n).2⟩
theorem rep_end {α : Type} {x : α} {i : Nat} {l : List α} {g : α} (h : List.replicate i x = l ++ [g]) : ∃ j, i = j + 1 ∧ l = List.replicate j x ∧ g = x := by
  cases i with
  | zero => simp at h
  | succ j =>
    rw [List.replicate_succ'] at h
    obtain ⟨h1, h2⟩ := concat_inj h
    exact ⟨j, rfl, h1.symm, h2.symm⟩
theorem keep_rep {mx i : Nat} {g : Grp} (h : i ≤ mx) : keepL mx (List.replicate i g) g = List.replicate (min (i + 1) mx) g := by
  unfold keepL
  rw [List.length_replicate, ← List.replicate_succ']
  split
  · rw [Nat.min_eq_left (by omega)]
  · rw [List.drop_replicate, Nat.min_eq_right (by omega)]
    congr 1; omega
end Go.Proofs.YtlbaopamhkmepaaGreatDoor

namespace Go.Proofs.YtlbaopamhkmepaaGreatDoor
open Go Go.K
section
variable {F C : Nat → Prop} {W : World} {b : Nat} {sv uv rv ov : Value} {ks : List DKey} {mx : Nat} {us rs own : List Grp}
theorem move_open {q : Nat} {v2 : Value} {a : Option Addr} {n c : Nat} (h : HistR F C W b sv ks uv rv ov mx us rs true own) (hq : W.cell? ⟨b, q, none⟩ = some (.slice a n c)) :
    callK Tryz.prog 52 [.pointer (some ⟨b, 0, none⟩), .pointer (some ⟨b, q, none⟩), v2] (fun v' w' => v' = .tuple #[.agg #[.slice none 0 0, .slice none 0 0], .int .i64 9] ∧ Grow W w') W := by
  apply S52_ok
  unfold S52
  refine newz_i fun b6 w1 hb6 hz1 g1 _ hl6 => ?_
  have hR1 := h.grow g1
  refine nilckK_s ?_
  refine ld1K_i (g1.cell hq fun h => h) ?_
  rw [lenK_i, subK_i]
  refine nilckK_s ?_
  rw [faK_i, addr0]
  refine ld1K_i (hR1.cells 5 _ rfl) ?_
  refine condK_t ⟨#[.slice none 0 0, .slice none 0 0], by kernel_rfl, ?_⟩
  refine stn_over (vs := [.slice none 0 0, .slice none 0 0]) rfl (fun u hu => by simp at hu; subst hu; rfl) (fun j hj => hl6 j hj) fun W'' m hc _ => ?_
  exact ldnK_i rfl hc ⟨rfl, g1.next m fun x hx e => by omega⟩
theorem stk_slice (h : StkR TGrp 2 (RGrp C) W uv us) : ∃ a n c, uv = .slice a n c := by
  obtain ⟨a, c, e, _⟩ := h.sl (by decide)
  exact ⟨a, _, c, e⟩
end
section
variable {F : Nat → Prop} {W : World} {b : Nat} {ks : List DKey} {h : Hist}
theorem undo_open (hh : HistI F W b ks h) (hop : h.op = true) :
    callK Tryz.prog 19 [.pointer (some ⟨b, 0, none⟩)] (fun v' w' => ∃ cv, v' = .tuple #[cv, .int .i64 9] ∧ Grow W w') W := by
  apply S19_ok
  unfold S19
  refine callK_mono (hready_ok hh) ?_
  rintro _ _ ⟨rfl, rfl⟩
  rename World => W
  obtain ⟨C, sv, uv, rv, ov, hR⟩ := hh
  rw [hop] at hR
  obtain ⟨ua, un, uc, rfl⟩ := stk_slice hR.und
  rw [notK_i]
  refine condK_f ?_
  refine JoinK_i (fun vs w2 => ∃ b4, vs = [.pointer (some ⟨b4, 0, none⟩), .int .i64 9] ∧ (∀ j v, ([.slice none 0 0, .slice none 0 0] : List Value)[j]? = some v → w2.cell? ((⟨b4, 0, none⟩ : Addr).add j) = some v) ∧ Grow W w2) ?_ ?_
  · rintro _ w2 ⟨b4, rfl, hc, g2⟩ _
    simp only [nth_s, nth_z, List.headD_cons, List.tail_cons]
    rw [faK_i]
    refine ld1K_i (hc 1 _ rfl) ?_
    refine callK_mono (copy_dops (S := fun _ => False) (D := fun _ => False) (x := []) SlR.nil (by simp [mDops])) ?_
    rintro cv w3 ⟨_, g3⟩
    exact ⟨cv, rfl, g2.trans g3⟩
  have gd : Grow W W.drew := Mod.drew _ _
  have zd : W.drew.heap.size = W.heap.size := rfl
  refine drawC_i (fun k y => k = 12 ∧ W.heap.size ≤ y) ?_
  refine nilckK_s ?_
  rw [faK_i, addr0]
  refine nilckK_s ?_
  rw [faK_i, addr0]
  refine ⟨?_, ?_⟩
  · refine callK_mono (move_open (q := 3) (hR.grow gd) (gd.cell (hR.cells 3 _ rfl) fun h => h)) ?_
    rintro _ w5 ⟨rfl, g5⟩
    refine ⟨g5.mono fun _ _ h => h.elim, ?_⟩
    refine extK_i (vs := [_, _]) (by rfl) (extK_i (vs := [_, _]) (by rfl) ?_)
    refine newz_i fun b4 w6 hb4 hz6 g6 _ hl6 => ⟨g6.mono fun _ _ h => h.elim, ?_⟩
    have z5 := g5.size
    refine stn_over (vs := [.slice none 0 0, .slice none 0 0]) rfl (fun u hu => by simp at hu; subst hu; rfl) (fun j hj => hl6 j hj) fun w7 m7 hc7 _ => ⟨m7.mono fun x _ e => ⟨rfl, by omega⟩, b4, rfl, hc7, ((gd.trans g5).trans g6).next m7 fun x hx e => by omega⟩
  · refine newz_i fun b4 w8 hb4 hz8 g8 _ hl8 => ⟨g8.mono fun _ _ h => h.elim, ?_⟩
    have z8 := g8.size
    refine callK_mono (move_open (q := 3) ((hR.grow gd).grow g8) (g8.cell (gd.cell (hR.cells 3 _ rfl) fun h => h) fun h => h)) ?_
    rintro _ w9 ⟨rfl, g9⟩
    refine ⟨g9.mono fun _ _ h => h.elim, ?_⟩
    refine extK_i (vs := [_, _]) (by rfl) (extK_i (vs := [_, _]) (by rfl) ?_)
    refine stn_over (vs := [.slice none 0 0, .slice none 0 0]) rfl (fun u hu => by simp at hu; subst hu; rfl) (fun j hj => (hl8 j hj).mod g9 fun h => h) fun w7 m7 hc7 _ => ⟨m7.mono fun x _ e => ⟨rfl, by omega⟩, b4, rfl, hc7, ((gd.trans g8).trans g9).next m7 fun x hx e => by omega⟩
theorem redo_open (hh : HistI F W b ks h) (hop : h.op = true) :
    callK Tryz.prog 21 [.pointer (some ⟨b, 0, none⟩)] (fun v' w' => ∃ cv, v' = .tuple #[cv, .int .i64 9] ∧ Grow W w') W := by
  apply S21_ok
  unfold S21
  refine callK_mono (hready_ok hh) ?_
  rintro _ _ ⟨rfl, rfl⟩
  rename World => W
  obtain ⟨C, sv, uv, rv, ov, hR⟩ := hh
  rw [hop] at hR
  obtain ⟨ua, un, uc, rfl⟩ := stk_slice hR.red
  rw [notK_i]
  refine condK_f ?_
  refine JoinK_i (fun vs w2 => ∃ b4, vs = [.pointer (some ⟨b4, 0, none⟩), .int .i64 9] ∧ (∀ j v, ([.slice none 0 0, .slice none 0 0] : List Value)[j]? = some v → w2.cell? ((⟨b4, 0, none⟩ : Addr).add j) = some v) ∧ Grow W w2) ?_ ?_
  · rintro _ w2 ⟨b4, rfl, hc, g2⟩ _
    simp only [nth_s, nth_z, List.headD_cons, List.tail_cons]
    rw [faK_i]
    refine ld1K_i (hc 0 _ rfl) ?_
    refine callK_mono (copy_dops (S := fun _ => False) (D := fun _ => False) (x := []) SlR.nil (by simp [mDops])) ?_
    rintro cv w3 ⟨_, g3⟩
    exact ⟨cv, rfl, g2.trans g3⟩
  have gd : Grow W W.drew := Mod.drew _ _
  have zd : W.drew.heap.size = W.heap.size := rfl
  refine drawC_i (fun k y => k = 12 ∧ W.heap.size ≤ y) ?_
  refine nilckK_s ?_
  rw [faK_i, addr0]
  refine nilckK_s ?_
  rw [faK_i, addr0]
  refine ⟨?_, ?_⟩
  · refine callK_mono (move_open (q := 4) (hR.grow gd) (gd.cell (hR.cells 4 _ rfl) fun h => h)) ?_
    rintro _ w5 ⟨rfl, g5⟩
    refine ⟨g5.mono fun _ _ h => h.elim, ?_⟩
    refine extK_i (vs := [_, _]) (by rfl) (extK_i (vs := [_, _]) (by rfl) ?_)
    refine newz_i fun b4 w6 hb4 hz6 g6 _ hl6 => ⟨g6.mono fun _ _ h => h.elim, ?_⟩
    have z5 := g5.size
    refine stn_over (vs := [.slice none 0 0, .slice none 0 0]) rfl (fun u hu => by simp at hu; subst hu; rfl) (fun j hj => hl6 j hj) fun w7 m7 hc7 _ => ⟨m7.mono fun x _ e => ⟨rfl, by omega⟩, b4, rfl, hc7, ((gd.trans g5).trans g6).next m7 fun x hx e => by omega⟩
  · refine newz_i fun b4 w8 hb4 hz8 g8 _ hl8 => ⟨g8.mono fun _ _ h => h.elim, ?_⟩
    have z8 := g8.size
    refine callK_mono (move_open (q := 4) ((hR.grow gd).grow g8) (g8.cell (gd.cell (hR.cells 4 _ rfl) fun h => h) fun h => h)) ?_
    rintro _ w9 ⟨rfl, g9⟩
    refine ⟨g9.mono fun _ _ h => h.elim, ?_⟩
    refine extK_i (vs := [_, _]) (by rfl) (extK_i (vs := [_, _]) (by rfl) ?_)
    refine stn_over (vs := [.slice none 0 0, .slice none 0 0]) rfl (fun u hu => by simp at hu; subst hu; rfl) (fun j hj => (hl8 j hj).mod g9 fun h => h) fun w7 m7 hc7 _ => ⟨m7.mono fun x _ e => ⟨rfl, by omega⟩, b4, rfl, hc7, ((gd.trans g8).trans g9).next m7 fun x hx e => by omega⟩
end
/-- what brackets of one insert make -/
def bigG (k : Nat) : Grp := ⟨[⟨2, 0, List.replicate k 120, [], []⟩], [⟨3, k, [], [], []⟩]⟩
theorem big_with (k : Nat) (hk : 1 ≤ k) (hk2 : k ≤ 1000) : withL [] [bigG k] (gin 120 1) = bigG (k + 1) := by
  have e1 : onesL (bigG k).d = List.replicate k ⟨2, 0, [120], [], []⟩ := by simp [onesL, ones, bigG]
  have e2 : onesL (gin 120 1).d = [⟨2, 0, [120], [], []⟩] := rfl
  have e3 : onesL (bigG k).u = List.replicate k ⟨3, 1, [], [], []⟩ := by simp [onesL, ones, bigG]
  have e4 : onesL (gin 120 1).u = [⟨3, 1, [], [], []⟩] := rfl
  have f1 : runS ((⟨2, 0, [120], [], []⟩ : Dop) :: List.replicate k ⟨2, 0, [120], [], []⟩) = insS MkS.z (List.replicate (k + 1) 120) [] := by
    have := ins_n MkS.z (List.replicate (k + 1) 120) [] []
    rw [List.map_replicate, List.replicate_succ] at this
    exact this
  have f2 : runS ((⟨3, 1, [], [], []⟩ : Dop) :: List.replicate k ⟨3, 1, [], [], []⟩) = delS MkS.z ((k + 1 : Nat) : Int) := by
    rcases del_n MkS.z (k + 1) [] [] with h | ⟨h, _⟩
    · rw [List.replicate_succ] at h; exact h
    · omega
  have k3 : refC (oneP []) (onesL (gin 120 1).u) (onesL (bigG k).u) = ⟨3, 1, [], [], []⟩ :: List.replicate k ⟨3, 1, [], [], []⟩ := by
    rw [e3, e4]
    obtain ⟨k, rfl⟩ : ∃ q, k = q + 1 := ⟨k - 1, by omega⟩
    have hd := refC_del (one := oneP []) (A := [⟨3, 1, [], [], []⟩]) (a := []) (c := ⟨3, 1, [], [], []⟩) (b := List.replicate k ⟨3, 1, [], [], []⟩) (by simp) (by decide)
    rw [List.append_nil] at hd
    rw [List.replicate_succ, hd]
    have hn := refC_none (one := oneP []) (B := List.replicate (k + 1) (⟨3, 1, [], [], []⟩ : Dop)) (b := []) (by intro c hc; rw [(List.mem_replicate.1 hc).2]; decide)
    rw [List.append_nil, List.map_replicate] at hn
    rw [← List.replicate_succ, hn]
    have e5 : oneP [] ⟨1, 1, [], [], []⟩ ⟨3, 1, [], [], []⟩ = [⟨3, 1, [], [], []⟩] := rfl
    rw [e5, List.flatten_replicate_singleton]
    simp [refC]
  have k4 : refC (oneP []) (onesL (bigG k).d) (onesL (gin 120 1).d) = ⟨2, 0, [120], [], []⟩ :: List.replicate k ⟨2, 0, [120], [], []⟩ := by
    rw [e1, e2]; simp [refC]
  unfold withL cmpD normB
  simp only
  rw [k3, k4, f1, f2]
  unfold bigG
  have g1 : opsS (insS MkS.z (List.replicate (k + 1) 120) []) = [⟨2, 0, List.replicate (k + 1) 120, [], []⟩] := by
    unfold insS
    rw [if_neg (by simp)]
    simp [MkS.z, opsS, addI, gapL, trimL]
  have g2 : opsS (delS MkS.z ((k + 1 : Nat) : Int)) = [⟨3, ((k + 1 : Nat) : Int), [], [], []⟩] := by
    unfold delS maxI
    rw [if_neg (by omega)]
    have : IntKind.i64.wrap (MkS.z.gone + ((k + 1 : Nat) : Int)) = ((k + 1 : Nat) : Int) := by
      show IntKind.i64.wrap (0 + ((k + 1 : Nat) : Int)) = _
      rw [wrap64 (by omega) (by omega)]; omega
    rw [this]
    simp only [opsS, gapL, MkS.z, List.nil_append]
    rw [if_pos (by omega)]
    rfl
  rw [g1, g2]
theorem gin_good (ks : List DKey) : GoodG ks 1 (gin 120 1) := by
  refine ⟨fun o ho => ?_, fun o ho => ?_, by simp [gin, insO, total, lenN], by simp [gin, delO, total, lenN]⟩
  · simp [gin] at ho; subst ho
    exact ⟨.inr (.inr ⟨rfl, by simp [insO, MayR], rfl, rfl, by simp [insO], setK_nil⟩), by simp [InO, insO]⟩
  · simp [gin] at ho; subst ho
    exact ⟨.inr (.inl ⟨rfl, rfl, rfl, rfl, by simp [delO]⟩), by simp [InO, delO]⟩
theorem big_good (ks : List DKey) (k : Nat) (hk : 1 ≤ k) : GoodG ks k (bigG k) := by
  refine ⟨fun o ho => ?_, fun o ho => ?_, by simp [bigG, total, lenN], by simp [bigG, total, lenN]⟩
  · simp [bigG] at ho; subst ho
    exact ⟨.inr (.inr ⟨rfl, by intro r hr; rw [(List.mem_replicate.1 hr).2]; simp [MayR], rfl, rfl, by simp; omega, setK_nil⟩), by simp [InO]⟩
  · simp [bigG] at ho; subst ho
    exact ⟨.inr (.inl ⟨rfl, rfl, rfl, rfl, by simp only; omega⟩), by simp [InO]⟩
end Go.Proofs.YtlbaopamhkmepaaGreatDoor

namespace Go.Proofs.YtlbaopamhkmepaaGreatDoor
open Go Go.K
/-- a box with the history's pointer, out of the history's reach -/
def BX (F : Nat → Prop) (W : World) (c b : Nat) : Prop := W.cell? ⟨c, 0, none⟩ = some (.pointer (some ⟨b, 0, none⟩)) ∧ ¬ F c ∧ c < W.heap.size
theorem BX.grow {F : Nat → Prop} {W W' : World} {c b : Nat} (h : BX F W c b) (g : Grow W W') : BX F W' c b := ⟨g.cell h.1 fun h => h, h.2.1, Nat.lt_of_lt_of_le h.2.2 g.size⟩
theorem BX.next {F F' : Nat → Prop} {W W' : World} {c b : Nat} (h : BX F W c b) (m : Mod F W W') (hF : ∀ x, F' x → F x ∨ W.heap.size ≤ x) : BX F' W' c b :=
  ⟨m.cell h.1 h.2.1, fun e => by rcases hF c e with e | e; exact h.2.1 e; have := h.2.2; omega, Nat.lt_of_lt_of_le h.2.2 m.size⟩
section
variable {w0 W : World} {F : Nat → Prop} {b c mx T' : Nat} {us rs own : List Grp}
theorem bpush_out (hh : HL w0 F W b [] ⟨mx, us, rs, false, []⟩) (hb : BX F W c b) (hl : us.length ≤ mx) (hmx : mx ≤ 65536) {K : Cont}
    (hK : ∀ W' F', HL w0 F' W' b [] ⟨mx, keepL mx us (gin 120 1), [], false, []⟩ → BX F' W' c b → K (.bool true) W') :
    callyK Tryz.prog okf (.func (.func 35) #[] #[.pointer (some ⟨c, 0, none⟩)]) [] K W := by
  refine .inl ⟨_, [], [.pointer (some ⟨c, 0, none⟩)], rfl, by kernel_rfl, ?_⟩
  apply S35_ok
  unfold S35
  refine callK_mono in_ok ?_
  rintro _ w1 ⟨g1, dv, uv, rfl, hd, hu, _⟩
  refine extK_i (vs := [_, _]) (by rfl) (extK_i (vs := [_, _]) (by rfl) ?_)
  have hb1 := hb.grow g1
  refine ld1K_i hb1.1 ?_
  refine callK_mono ((hh.grow g1).push rfl hl hmx (ODops.sl hd) (ODops.sl hu) (mins 120) (mdel 1)) ?_
  rintro _ w2 ⟨rfl, F2, hH2, hF2, m2⟩
  rw [eqK_i]
  exact hK w2 F2 hH2 (hb1.next m2 hF2)
theorem bpush_in (hh : HL w0 F W b [] ⟨mx, us, rs, true, own⟩) (hb : BX F W c b) (h1 : own.length ≤ 1) (hT : Tabs w0) (go : ∀ a ∈ own, GoodG [] T' a) (hT' : T' ≤ 1000) {K : Cont}
    (hK : ∀ W' F', HL w0 F' W' b [] ⟨mx, us, [], true, [withL [] own (gin 120 1)]⟩ → BX F' W' c b → K (.bool true) W') :
    callyK Tryz.prog okf (.func (.func 35) #[] #[.pointer (some ⟨c, 0, none⟩)]) [] K W := by
  refine .inl ⟨_, [], [.pointer (some ⟨c, 0, none⟩)], rfl, by kernel_rfl, ?_⟩
  apply S35_ok
  unfold S35
  refine callK_mono in_ok ?_
  rintro _ w1 ⟨g1, dv, uv, rfl, hd, hu, _⟩
  refine extK_i (vs := [_, _]) (by rfl) (extK_i (vs := [_, _]) (by rfl) ?_)
  have hb1 := hb.grow g1
  refine ld1K_i hb1.1 ?_
  refine callK_mono ((hh.grow g1).push2 rfl h1 (by simp) hT (ODops.sl hd) (ODops.sl hu) (gin_good []) go (by omega)) ?_
  rintro _ w2 ⟨rfl, F2, hH2, hF2, m2⟩
  rw [eqK_i]
  exact hK w2 F2 hH2 (hb1.next m2 hF2)
end
/-- the bracket's group behind k pushes -/
def ownB (k : Nat) : List Grp := if k = 0 then [] else [bigG k]
theorem ownB_with {k : Nat} (hk : k ≤ 9) : [withL [] (ownB k) (gin 120 1)] = ownB (k + 1) := by
  unfold ownB
  by_cases h : k = 0
  · subst h; rfl
  · rw [if_neg h, if_neg (by omega)]
    exact congrArg (fun g => [g]) (big_with k (by omega) (by omega))
theorem keep_last {mx : Nat} {us : List Grp} {g : Grp} (h1 : 1 ≤ mx) (h : us.length ≤ mx) : ∃ l, keepL mx us g = l ++ [g] ∧ ∀ x ∈ l, x ∈ us := by
  unfold keepL
  split
  · exact ⟨us, rfl, fun _ h => h⟩
  · cases us with
    | nil => simp at *; omega
    | cons a us => exact ⟨us, rfl, fun x hx => by simp [hx]⟩
set_option maxRecDepth 20000 in
theorem HistoryBrackets_ok {max ahead within : Int} {w : World} (hT : Tabs w) :
    callK Tryz.prog 7 [.int .i64 max, .int .i64 ahead, .int .i64 within] (fun v w' => v = .bool true ∧ Grow w w') w := by
  apply S7_ok
  unfold S7
  have kn : ∀ {w1 : World}, Grow w w1 → callK Tryz.prog 16 [] (fun v w' => v = .bool true ∧ Grow w w') w1 := fun g => callK_mono known27_ok fun _ _ h => ⟨h.1, g.trans h.2⟩
  refine JoinK_i (fun _ W => W = w ∧ 1 ≤ max ∧ max ≤ 100 ∧ 0 ≤ ahead ∧ ahead ≤ 9 ∧ 0 ≤ within ∧ within ≤ 9) ?_ ?_
  rotate_left
  · rw [ltK_i]
    refine condK_p (fun _ => kn (Mod.refl _ _)) fun h1 => ?_
    rw [gtK_i]
    refine condK_p (fun _ => kn (Mod.refl _ _)) fun h2 => ?_
    rw [ltK_i]
    refine condK_p (fun _ => kn (Mod.refl _ _)) fun h3 => ?_
    rw [gtK_i]
    refine condK_p (fun _ => kn (Mod.refl _ _)) fun h4 => ?_
    rw [ltK_i]
    refine condK_p (fun _ => kn (Mod.refl _ _)) fun h5 => ?_
    rw [gtK_i]
    exact condK_p (fun _ => kn (Mod.refl _ _)) fun h6 => ⟨rfl, by omega, by omega, by omega, by omega, by omega, by omega⟩
  rintro _ _ ⟨rfl, hm1, hm2, ha1, ha2, hw1, hw2⟩ _
  rename World => w
  obtain ⟨mx, rfl⟩ : ∃ m : Nat, max = m := ⟨max.toNat, by omega⟩
  obtain ⟨ah, rfl⟩ : ∃ m : Nat, ahead = m := ⟨ahead.toNat, by omega⟩
  obtain ⟨wi, rfl⟩ : ∃ m : Nat, within = m := ⟨within.toNat, by omega⟩
  refine callK_mono newnil_ok ?_
  rintro _ w1 ⟨g1, sv, rfl, hS⟩
  refine extK_i (vs := [_, _]) (by rfl) (extK_i (vs := [_, _]) (by rfl) ?_)
  refine callK_mono (HL.new (mx := mx) hS (fun x _ hx => hx) g1 (by omega)) ?_
  rintro _ w2 ⟨b, F, rfl, hH⟩
  refine extK_i (vs := [_, _]) (by rfl) (extK_i (vs := [_, _]) (by rfl) ?_)
  refine newz_i fun c w3 hc hz3 g3 hc3 hl3 => ?_
  have hH3 := hH.grow g3
  have l3 := hl3 0 (by decide)
  rw [addr0] at l3
  refine l3.st rfl rfl ?_
  have m4 : Mod (fun x => x = c) w3 (w3.setCell ⟨c, 0, none⟩ (.pointer (some ⟨b, 0, none⟩))) := Mod.setCell _ _ _ rfl
  have c4 : (w3.setCell ⟨c, 0, none⟩ (.pointer (some ⟨b, 0, none⟩))).cell? ⟨c, 0, none⟩ = some (.pointer (some ⟨b, 0, none⟩)) := by
    obtain ⟨u', hu'⟩ := Option.isSome_iff_exists.1 l3.1
    exact World.cell?_setCell_same _ _ _ hu'
  generalize w3.setCell ⟨c, 0, none⟩ (.pointer (some ⟨b, 0, none⟩)) = w4 at m4 c4 ⊢
  have nFc : ∀ x, F x → x ≠ c := fun x hx e => by have := (hH.hF x hx).2; omega
  have z4 := m4.size
  have hH4 : HL w F w4 b [] ⟨mx, [], [], false, []⟩ := ⟨hH3.his.mod m4 fun x hx e => nFc x hx e, fun x hx => ⟨(hH3.hF x hx).1, Nat.lt_of_lt_of_le (hH3.hF x hx).2 z4⟩, hH3.g.next m4 fun x hx e => by have := hH.g.size; omega⟩
  have hB4 : BX F w4 c b := ⟨c4, fun e => nFc c e rfl, by omega⟩
  refine JoinK_i (fun _ W => W = w4) ?_ ?_
  rotate_left
  · rw [neK_i]
    refine condK_neg (fun _ => ?_) fun e => (e rfl).elim
    rw [neK_i]
    refine condK_neg (fun _ => ?_) fun e => (e rfl).elim
    refine ld1K_i c4 ?_
    exact pnilK_s (condK_f rfl)
  rintro _ _ rfl _
  rename World => w4
  clear hH hH3 hz3 g3 hc3 hl3 l3 m4 c4 nFc z4
  refine LoopK_i (fun vs W => ∃ (i : Nat) (F : Nat → Prop), i ≤ ah ∧ vs = [.int .i64 i] ∧ HL w F W b [] ⟨mx, List.replicate (min i mx) (gin 120 1), [], false, []⟩ ∧ BX F W c b) (fun vs _ => ah - iOf vs 0) ⟨0, F, by omega, rfl, by rw [Nat.zero_min]; exact hH4, hB4⟩ ?_
  rintro vs W ⟨i, F, hi, rfl, hH, hB⟩ _
  rw [nth_z, List.headD_cons, ltK_i]
  refine condK_p (fun hlt => ?_) fun hge => ?_
  · refine bpush_out hH hB (by simp only [List.length_replicate]; omega) (by omega) fun W' F' hH' hB' => ?_
    rw [notK_i]
    refine condK_f ?_
    rw [addK_i, loop_step (by omega)]
    refine ⟨⟨i + 1, F', by omega, rfl, ?_, hB'⟩, by rw [iOf0, iOf0]; omega⟩
    have e : keepL mx (List.replicate (min i mx) (gin 120 1)) (gin 120 1) = List.replicate (min (i + 1) mx) (gin 120 1) := by
      rw [keep_rep (by omega)]; congr 1; omega
    rw [← e]; exact hH'
  obtain rfl : i = ah := by omega
  obtain ⟨u0, hu0⟩ : ∃ u0, u0 = min i mx := ⟨_, rfl⟩
  rw [← hu0] at hH
  -- one step back
  refine JoinK_i (fun vs W => ∃ (bk : Nat) (F : Nat → Prop), bk ≤ 1 ∧ bk ≤ u0 ∧ vs = [.int .i64 bk] ∧ HL w F W b [] ⟨mx, List.replicate (u0 - bk) (gin 120 1), List.replicate bk (gin 120 1), false, []⟩ ∧ BX F W c b) ?_ ?_
  rotate_left
  · refine ld1K_i hB.1 ?_
    refine callK_mono (hH.undo rfl (by simp only [List.length_replicate]; omega) (by simp) rep_small.1) ?_
    rintro _ w9 (⟨hn, cv, rfl, g9⟩ | ⟨l, g, cx, n9, F9, hlg, rfl, hn9, ox, hH9, hF9, m9⟩)
    · have hn' := congrArg List.length hn
      simp only [List.length_replicate, List.length_nil] at hn'
      refine extK_i (vs := [_, _]) (by rfl) (extK_i (vs := [_, _]) (by rfl) ?_)
      rw [eqK_i]
      refine condK_p (fun e => absurd e (by decide)) fun _ => ⟨0, F, by omega, by omega, rfl, hH.grow g9, hB.grow g9⟩
    · obtain ⟨q, hq, rfl, rfl⟩ := rep_end hlg
      refine extK_i (vs := [_, _]) (by rfl) (extK_i (vs := [_, _]) (by rfl) ?_)
      rw [eqK_i]
      refine condK_p (fun _ => ⟨1, F9, by omega, by omega, rfl, ?_, hB.next m9 fun x hx => (hF9 x hx).1⟩) fun e => (e rfl).elim
      rw [show u0 - 1 = q by omega]
      exact hH9
  clear hH hB hH4 hB4 hge hi
  rename_i hHo hBo
  clear hHo hBo
  rintro _ W ⟨bk, F, hb1, hb2, rfl, hH, hB⟩ _
  simp only [nth_s, nth_z, List.headD_cons, List.tail_cons]
  refine ld1K_i hB.1 ?_
  refine callK_mono (depths_ok hH.his) ?_
  rintro _ w5 ⟨rfl, g5⟩
  refine extK_i (vs := [_, _]) (by rfl) (extK_i (vs := [_, _]) (by rfl) ?_)
  simp only [List.length_replicate]
  have hH5 := hH.grow g5
  have hB5 := hB.grow g5
  refine JoinK_i (fun _ W => ∃ F, HL w F W b [] ⟨mx, List.replicate (u0 - bk) (gin 120 1), List.replicate bk (gin 120 1), true, []⟩ ∧ BX F W c b) ?_ ?_
  rotate_left
  · rw [neK_i]
    refine condK_neg (fun _ => ?_) fun e => (e rfl).elim
    rw [minK_i, subK_i, neK_i, show (if (mx : Int) < (i : Int) then (mx : Int) else (i : Int)) = ((u0 : Nat) : Int) by split <;> omega, wrap64 (by omega) (by omega)]
    refine condK_neg (fun _ => ?_) fun e => (e (by omega)).elim
    refine ld1K_i hB5.1 ?_
    refine callK_mono (hH5.begin rfl) ?_
    rintro _ w6 ⟨rfl, F6, hH6, hF6, m6⟩
    rw [neK_i]
    exact condK_neg (fun _ => ⟨F6, hH6, hB5.next m6 hF6⟩) fun e => (e rfl).elim
  clear hH hB hH5 hB5
  rintro _ w6 ⟨F, hH, hB⟩ _
  refine LoopK_i (fun vs W => ∃ (k : Nat) (F : Nat → Prop), k ≤ wi ∧ vs = [.int .i64 k] ∧ HL w F W b [] ⟨mx, List.replicate (u0 - bk) (gin 120 1), if k = 0 then List.replicate bk (gin 120 1) else [], true, ownB k⟩ ∧ BX F W c b) (fun vs _ => wi - iOf vs 0) ⟨0, F, by omega, rfl, hH, hB⟩ ?_
  clear hH hB
  rintro vs W ⟨k, F, hk, rfl, hH, hB⟩ _
  simp only [nth_s, nth_z, List.headD_cons, List.tail_cons]
  rw [ltK_i]
  have hol : (ownB k).length ≤ 1 := by unfold ownB; split <;> simp
  have hog : ∀ a ∈ ownB k, GoodG [] k a := fun a ha => by
    unfold ownB at ha
    split at ha
    · simp at ha
    · simp at ha; subst ha; exact big_good [] k (by omega)
  refine condK_p (fun hlt => ?_) fun hge => ?_
  · refine bpush_in hH hB hol hT hog (by omega) fun W' F' hH' hB' => ?_
    rw [notK_i]
    refine condK_f ?_
    rw [addK_i, loop_step (by omega)]
    refine ⟨⟨k + 1, F', by omega, rfl, ?_, hB'⟩, by rw [iOf0, iOf0]; omega⟩
    rw [if_neg (by omega), ← ownB_with (by omega)]
    exact hH'
  obtain rfl : k = wi := by omega
  refine ld1K_i hB.1 ?_
  refine callK_mono (undo_open hH.his rfl) ?_
  rintro _ w7 ⟨cv7, rfl, g7⟩
  refine extK_i (vs := [_, _]) (by rfl) (extK_i (vs := [_, _]) (by rfl) ?_)
  have hH7 := hH.grow g7
  have hB7 := hB.grow g7
  refine ld1K_i hB7.1 ?_
  refine callK_mono (redo_open hH7.his rfl) ?_
  rintro _ w8 ⟨cv8, rfl, g8⟩
  refine extK_i (vs := [_, _]) (by rfl) (extK_i (vs := [_, _]) (by rfl) ?_)
  have hH8 := hH7.grow g8
  have hB8 := hB7.grow g8
  have hul : (List.replicate (u0 - bk) (gin 120 1)).length ≤ mx := by simp only [List.length_replicate]; omega
  refine JoinK_i (fun _ W => ∃ F, HL w F W b [] ⟨mx, endL mx (List.replicate (u0 - bk) (gin 120 1)) (ownB k), if k = 0 then List.replicate bk (gin 120 1) else [], false, []⟩ ∧ BX F W c b) ?_ ?_
  rotate_left
  · rw [neK_i]
    refine condK_neg (fun _ => ?_) fun e => (e rfl).elim
    rw [neK_i]
    refine condK_neg (fun _ => ?_) fun e => (e rfl).elim
    refine ld1K_i hB8.1 ?_
    refine callK_mono (hH8.end rfl hol hul (show mx ≤ 65536 by omega)) ?_
    rintro _ w9 ⟨rfl, F9, hH9, hF9, m9⟩
    have hB9 := hB8.next m9 hF9
    rw [neK_i]
    refine condK_neg (fun _ => ?_) fun e => (e rfl).elim
    refine ld1K_i hB9.1 ?_
    have hel : (endL mx (List.replicate (u0 - bk) (gin 120 1)) (ownB k)).length ≤ mx := by
      unfold endL
      split
      · exact hul
      · exact (keepL_len hul).1
    refine callK_mono (end_ok hH9.his (by simp) hel (show mx ≤ 65536 by omega)) ?_
    rintro _ w10 (⟨_, rfl, rfl⟩ | ⟨e, _⟩)
    rotate_left
    · cases e
    rw [neK_i]
    exact condK_neg (fun _ => ⟨F9, hH9, hB9⟩) fun e => (e rfl).elim
  clear hH hB hH7 hB7 hH8 hB8 hge hk
  rintro _ w9 ⟨F, hH, hB⟩ _
  refine ld1K_i hB.1 ?_
  refine callK_mono (depths_ok hH.his) ?_
  rintro _ w10 ⟨rfl, g10⟩
  have hH10 := hH.grow g10
  have hB10 := hB.grow g10
  refine extK_i (vs := [_, _]) (by rfl) (extK_i (vs := [_, _]) (by rfl) ?_)
  rw [eqK_i]
  by_cases hk0 : k = 0
  · subst hk0
    refine condK_p (fun _ => ?_) fun e => (e rfl).elim
    simp only [endL, ownB, if_true, List.length_replicate]
    rw [eqK_i]
    refine condK_p (fun _ => ?_) fun e => (e rfl).elim
    rw [eqK_i]
    refine condK_p (fun _ => ?_) fun e => (e rfl).elim
    exact kn hH10.g
  refine condK_p (fun e => absurd e (by omega)) fun _ => ?_
  have eO : ownB k = [bigG k] := by rw [ownB, if_neg hk0]
  simp only [eO, endL, if_neg hk0, List.length_nil] at hH10 ⊢
  have hkl := (keepL_len (g := bigG k) hul).2
  simp only [List.length_replicate] at hkl
  refine JoinK_i (fun _ W => W = w10) ?_ ?_
  rotate_left
  · rw [addK_i, wrap64 (by omega) (by omega), minK_i, neK_i]
    refine condK_neg (fun _ => ?_) fun e => (e (by split <;> omega)).elim
    rw [neK_i]
    exact condK_neg (fun _ => rfl) fun e => (e rfl).elim
  rintro _ _ rfl _
  rename World => w10
  obtain ⟨l0, el0, hl0⟩ := keep_last (g := bigG k) (show 1 ≤ mx by omega) hul
  refine ld1K_i hB10.1 ?_
  refine callK_mono (hH10.undo rfl (by simp only; omega) (by simp) fun g hg => ?_) ?_
  · simp only at hg
    rw [el0] at hg
    rcases List.mem_append.1 hg with hg | hg
    · have := hl0 g hg
      rw [(List.mem_replicate.1 this).2]; exact (gin_small 120 1).1
    · simp at hg; subst hg; exact ((big_good [] k (by omega)).m (by omega)).2
  rintro _ w11 (⟨hn, _⟩ | ⟨l, g, cx, n11, F11, hlg, rfl, hn11, ox, hH11, hF11, m11⟩)
  · simp only at hn
    rw [el0] at hn
    simp at hn
  simp only at hlg
  rw [el0] at hlg
  obtain ⟨_, rfl⟩ := concat_inj hlg
  refine extK_i (vs := [_, _]) (by rfl) (extK_i (vs := [_, _]) (by rfl) ?_)
  have rx := ODops.sl ox
  have ex : (bigG k).u = [⟨3, k, [], [], []⟩] := rfl
  rw [ex] at rx
  obtain ⟨xa, xc, rfl, _⟩ := rx.shape
  rw [lenK_i]
  refine LoopK_i (fun vs W => ∃ (j : Nat), j ≤ 1 ∧ vs = [.int .i64 (j * k : Nat), .int .i64 j] ∧ Grow w11 W) (fun vs _ => 1 - iOf vs 1) ⟨0, by omega, by simp, Mod.refl _ _⟩ ?_
  rintro vs W ⟨j, hj, rfl, gW⟩ _
  simp only [nth_s, nth_z, List.headD_cons, List.tail_cons]
  rw [ltK_i]
  refine condK_p (fun hlt => ?_) fun hge => ?_
  · obtain rfl : j = 0 := by simp at hlt; omega
    obtain ⟨p, r, rfl, _, hr, hc, hop⟩ := (rx.grow gW).get (i := 0) (by simp)
    refine ixK_n (j := 0) (by simp) (ldnK_i hr (fun j u hu => by rw [Addr.add_add]; exact hc j u hu) ?_)
    refine newst_n hr rfl hop.one fun b27 w12 hb27 hz12 g12 hc12 _ => ?_
    obtain ⟨rv, sv', pv, rfl, _⟩ := hop
    rw [faK_i]
    refine ld1K_i (hc12 1 _ rfl) ?_
    rw [addK_i, addK_i, loop_step (by omega)]
    refine ⟨⟨1, by omega, ?_, gW.trans g12⟩, by rw [iOf1, iOf1]; omega⟩
    simp only [Nat.zero_mul, Nat.one_mul, List.getElem_cons_zero]
    rw [wrap64 (by omega) (by omega)]
    congr 2
    omega
  · obtain rfl : j = 1 := by simp at hge; omega
    rw [eqK_i]
    refine condK_p (fun _ => ?_) fun e => (e rfl).elim
    rw [eqK_i]
    refine condK_p (fun _ => ?_) fun e => (e (by omega)).elim
    exact kn (hH11.g.trans gW)
end Go.Proofs.YtlbaopamhkmepaaGreatDoor

namespace Go.Proofs.YtlbaopamhkmepaaGreatDoor
open Go Go.K
open Go.ChangeShapes Go.WideShapes Go.ChangeAt Go.RowKit Go.Joins

def laidL : List (String × DataW Unit) := [("unicode/utf8.acceptRanges", Rows.laid_unicode_utf8_acceptRanges), ("unicode/utf8.first", Rows.laid_unicode_utf8_first)]
theorem first_tab : Rows.laid_unicode_utf8_first = Lib.tabData .u8 (Pinned.utf8FirstZ.map Int.ofNat) := by kernel_rfl
theorem first_at : (List.range 256).all (fun j => decide (128 ≤ j → (Pinned.utf8FirstZ.map Int.ofNat)[j]? = some (firstT j))) = true := by decide +kernel
theorem acc_tab : Rows.laid_unicode_utf8_acceptRanges (H := Unit) = .agg ((List.range 16).map fun i => .agg ([accLo i, accHi i].map fun z => .lit (.int .u8 z))) := by kernel_rfl
theorem tabs_of_laid {W : World} (h : laidMetH Tryz.prog laidL W) : Tabs W := by
  rw [MakeChecks.laidMetH_plain _ _ _ (by kernel_rfl)] at h
  have h4 := Lib.laidMet.reads h (.head _)
  have h3 := Lib.laidMet.reads h (.tail _ (.head _))
  have hf : ∀ j : Nat, 128 ≤ j → j < 256 → W.cell? ⟨0, j, none⟩ = some (.int .u8 (firstT j)) := by
    intro j hj1 hj2
    obtain ⟨g, t, cs, fuel, p, hg, hty, hvar, hd⟩ := h3
    obtain rfl := Option.some.inj ((show Tryz.prog.globalNamed "unicode/utf8.first" = some 0 by kernel_rfl).symm.trans hg)
    obtain rfl := Option.some.inj ((show (Tryz.prog.globals[0]?).map (·.type) = some 242 by kernel_rfl).symm.trans hty)
    rw [first_tab] at hd
    have hcs := Lib.cells_of_tab Tryz.underlying242 Tryz.underlying5 (by kernel_rfl) (by kernel_rfl) hd
    have := World.var?_cell hg hvar j
    rw [this, ← Array.getElem?_toList, hcs]
    have ha := List.all_eq_true.1 first_at j (List.mem_range.2 hj2)
    rw [decide_eq_true_eq] at ha
    rw [List.getElem?_map, ha hj1]
    rfl
  have hac : ∀ j : Nat, j < 16 → W.cell? ⟨1, j * 2, none⟩ = some (.int .u8 (accLo j)) ∧ W.cell? ⟨1, j * 2 + 1, none⟩ = some (.int .u8 (accHi j)) := by
    intro i hi
    obtain ⟨g, t, cs, fuel, p, hg, hty, hvar, hd⟩ := h4
    obtain rfl := Option.some.inj ((show Tryz.prog.globalNamed "unicode/utf8.acceptRanges" = some 1 by kernel_rfl).symm.trans hg)
    obtain rfl := Option.some.inj ((show (Tryz.prog.globals[1]?).map (·.type) = some 245 by kernel_rfl).symm.trans hty)
    rw [acc_tab] at hd
    obtain ⟨fuel', d, q, hdi, he⟩ := Lib.array_elem Tryz.underlying245 hd i hi
    simp only [List.getElem?_map, List.getElem?_range hi, Option.map_some, Option.some.injEq] at hdi
    subst hdi
    have c2 : Tryz.prog.cellsOf 244 = 2 := by kernel_rfl
    rw [c2] at he
    have hcs := Lib.ints_of_struct Tryz.underlying244 (fun j f hj => by
      match j, hj with
      | 0, hj => simp at hj; subst hj; exact ⟨Tryz.underlying5, rfl, by kernel_rfl⟩
      | 1, hj => simp at hj; subst hj; exact ⟨Tryz.underlying5, rfl, by kernel_rfl⟩
      | j + 2, hj => simp at hj) (by rw [c2]; rfl) he
    have e0 := congrArg (·[0]?) hcs
    have e1 := congrArg (·[1]?) hcs
    simp at e0 e1
    have w0 := World.var?_cell hg hvar (i * 2)
    have w1 := World.var?_cell hg hvar (i * 2 + 1)
    rw [w0, w1, ← Array.getElem?_toList, ← Array.getElem?_toList]
    exact ⟨by simpa using e0, by simpa using e1⟩
  have := World.block_lt_of_cell? W _ (hac 0 (by decide)).1
  exact ⟨this, hf, hac⟩
/-- a world that meets the condition -/
noncomputable def laidWorld (os : Os) : World :=
  let w0 := World.holding Tryz.prog os ⟨#[], #[], []⟩
  let put (h : Array Obj) (g : Nat) (cs : Array Value) : Array Obj := h.modify g fun
    | .cells _ t frozen => .cells cs t frozen
    | o => o
  let h1 := put w0.heap 0 (Pinned.utf8FirstZ.map fun (z : Nat) => Value.int .u8 (Int.ofNat z)).toArray
  let h2 := put h1 1 ((List.range 16).flatMap fun i => [Value.int .u8 (accLo i), Value.int .u8 (accHi i)]).toArray
  { w0 with heap := h2 }
theorem laidWorld_met (os : Os) (args : Array Value) : laidMetH Tryz.prog laidL ((laidWorld os).forCall (fun _ _ => 0) ⟨#[], args, []⟩).memory := by
  rw [MakeChecks.laidMetH_plain _ _ _ (by kernel_rfl)]
  exact (LaidIn.of_run (l := laidL) [1, 0] 8 (by kernel_rfl) (by kernel_rfl) (by kernel_rfl) (by kernel_rfl)).met

variable {H : Type} {enc : TypeId × Value → H} {w : World} {base : Nat} {spare : Nat → Bool} {held : Bool}
end Go.Proofs.YtlbaopamhkmepaaGreatDoor

namespace Go.Proofs.YtlbaopamhkmepaaGreatDoor
open Go Go.K
open Go.ChangeShapes Go.WideShapes Go.ChangeAt Go.RowKit
set_option linter.unusedVariables false

theorem ownK : ownKnob Tryz.prog.godebug = none := by kernel_rfl
theorem laidOut : laidOutB Tryz.prog = true := by kernel_rfl

set_option maxRecDepth 100000 in
theorem HistoryBrackets_lifted (os : Os) (started : os.Started) (H : Type) (enc : TypeId × Value → H) :
    ReturnsInHanded {} Tryz.checked os 7 .any (fun w args => (Rows.historyBracketsSpec.pre enc Tryz.prog Tryz.f7 [] false w args ∧ laidMetH Tryz.prog Rows.historyBracketsRow.laid w) ∧ sizedMet enc Tryz.prog Tryz.f7 (OpenSpec.ofChange Rows.historyBracketsSpec) false w args)
      (Rows.historyBracketsSpec.post enc Tryz.prog Tryz.f7 false true false false) := by
  refine returnsInHanded_of_change_and (C := Tryz.checked) (X := fun w _ => laidMetH Tryz.prog Rows.historyBracketsRow.laid w) (fun _ _ _ hh h => h.of_heap hh) ownK started (by kernel_rfl) Tryz.func7
    (ChangeSpec.witness_at (enc := enc) (C := Tryz.checked) (os := os) (X := fun w _ => laidMetH Tryz.prog Rows.historyBracketsRow.laid w) false (laidWorld os) #[.int .i64 0, .int .i64 0, .int .i64 0] 8 rfl (by kernel_rfl) (by kernel_rfl) (by kernel_rfl) (by kernel_rfl) (by kernel_rfl) (laidWorld_met os _)) ?_
  intro W base args ds gs before hval0 hW _ _ hL _
  have hW' := hW
  obtain ⟨p, q, hA0, hV, rfl, hfz, hnd⟩ := hW
  have hA : DataW.TrodAll enc Tryz.prog W 0 (fun _ => true) true Tryz.f7.params.toList args.toList ds p := hA0
  have hval : ∀ (j : Nat) t v, Tryz.f7.params[j]? = some t → args[j]? = some v → Value.okWide Tryz.prog W .any base t v := hval0
  rw [Tryz.params7] at hA hval
  have htab : Tabs W := tabs_of_laid hL
  obtain ⟨v0, vs0, d0, ds0, p0, q0, hargs, rfl, rfl, h0, r0⟩ := trodAll_cons hA
  obtain ⟨v1, vs1, d1, ds1, p1, q1, rfl, rfl, rfl, h1, r1⟩ := trodAll_cons r0
  obtain ⟨v2, vs2, d2, ds2, p2, q2, rfl, rfl, rfl, h2, r2⟩ := trodAll_cons r1
  obtain ⟨rfl, rfl, rfl⟩ := trodAll_nil r2
  obtain rfl : args = #[v0, v1, v2] := by cases args; simp_all
  obtain ⟨rfl, rfl⟩ := trodVars_none hV
  obtain ⟨x0, rfl, rfl, rfl, w0⟩ := open_int Tryz.underlying3 (hval 0 3 v0 rfl rfl) h0
  obtain ⟨x1, rfl, rfl, rfl, w1⟩ := open_int Tryz.underlying3 (hval 1 3 v1 rfl rfl) h1
  obtain ⟨x2, rfl, rfl, rfl, w2⟩ := open_int Tryz.underlying3 (hval 2 3 v2 rfl rfl) h2
  clear hA0 hval0
  refine (HistoryBrackets_ok htab).mono fun e W' ⟨v, he, hv, hg⟩ => ?_
  subst he; subst hv
  have bel : Below W.heap.size W W' := Mod.below hg (Nat.le_refl _) fun _ h => h.elim
  exact ⟨_, rfl, _, _, _, [], _, [], hW', trodAll_mk1 (shut_bool Tryz.underlying4 _), (trodAll_cons_mk (shut_int Tryz.underlying3 w0) (trodAll_cons_mk (shut_int Tryz.underlying3 w1) (trodAll_cons_mk (shut_int Tryz.underlying3 w2) trodAll_mk0))), rfl, bel.frame _, fun h => by cases h⟩
/-- the row -/
theorem HistoryBrackets_said : Rows.HistoryBracketsSaid :=
  OpenClaim.holds_of_wide 7 Tryz.f7 rfl rfl rfl rfl rfl rfl rfl ⟨rfl, rfl, rfl, rfl, rfl⟩ rfl rfl rfl rfl rfl (by kernel_rfl) Tryz.func7 (by kernel_rfl)
    (of_decide_eq_true (by kernel_rfl)) (by unfold Func.isWrapper; first | (rw [if_pos (by decide +kernel)]; kernel_rfl) | (rw [if_neg (by decide +kernel)]; exact ⟨rfl, rfl⟩))
    (fun os started H enc _ => HistoryBrackets_lifted os started H enc)
/-- the statement: the tied card -/
theorem HistoryBrackets_proved : Rows.HistoryBracketsCardSaid :=
  Claim7.holds_tied_plain_at .later [] [.data, .pinned] true Rows.historyBracketsCard.stood.harness false
    HistoryBrackets_said (fun _ h => by cases h) (by kernel_rfl) (fun _ h => by cases h) historyBrackets_row_tie rfl ⟨rfl, rfl⟩ (by kernel_rfl) rfl
    (fun f fn hf hfn => by
      obtain rfl : f = 7 := Option.some.inj ((show Tryz.prog.funcNamed "rubric/rubriclaw27.HistoryBrackets" = some 7 by kernel_rfl).symm.trans hf) |>.symm
      obtain rfl : fn = Tryz.f7 := (Option.some.inj (Tryz.func7.symm.trans hfn)).symm
      exact ⟨by kernel_rfl, fun j t ht => by
        rw [Tryz.params7] at ht
        have hm : t ∈ [3, 3, 3] := by simpa using Array.mem_of_getElem? ht
        have hall : ([3, 3, 3].all fun u => !Tryz.prog.wantsStandIn u) = true := by kernel_rfl
        exact (show Tryz.prog.wantsStandIn t = false by simpa using List.all_eq_true.1 hall t hm)⟩)
    (by kernel_rfl)
#print axioms HistoryBrackets_proved
end Go.Proofs.YtlbaopamhkmepaaGreatDoor
