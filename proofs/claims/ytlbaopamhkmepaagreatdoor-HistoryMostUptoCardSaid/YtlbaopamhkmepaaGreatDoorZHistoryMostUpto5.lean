/- The plain law of composing deltas: cut in ones; the maker that is told the parts comes to the same. No program in sight, no conditions. The plain law of composing deltas: what may be, composed, may be; how long it gets. No program in sight. By a program of ours: of each function below the predicate that its code comes to, and that it is sound. No conditions. Contracts: a patch behind another one; a set with a patch on it. Conditions: the sizes. Plain laws of UTF-8: the document's reading, byte by byte, as the library tells a valid text. No conditions but that bytes are bytes. Plain laws: what is no number; eight bytes in one word. No conditions. By a program of ours: of each function below the predicate that its code comes to, and that it is sound. No conditions. Contracts: eight bytes as a word; whether bytes are UTF-8. Conditions: the two tables lie in memory as they are laid. -/
import Derived.Test.YtlbaopamhkmepaaGreatDoorZHistoryMostUpto4
namespace Go.Proofs.YtlbaopamhkmepaaGreatDoor
open Go Go.K

/-! ### deltas cut in ones, one behind the other -/
def lenN (o : Dop) : Nat := if o.kind = 2 then o.runes.length else o.n.toNat
def ones (o : Dop) : List Dop := if o.kind = 2 then o.runes.map fun r => ⟨2, 0, [r], o.set, o.patch⟩ else List.replicate o.n.toNat ⟨o.kind, 1, [], o.set, o.patch⟩
def onesL (x : List Dop) : List Dop := x.flatMap ones
def refC (one : Dop → Dop → List Dop) : List Dop → List Dop → List Dop
  | a, [] => a
  | a, c :: b => if c.kind = 2 then c :: refC one a b else
      a.takeWhile (fun o => decide (o.kind = 3)) ++
      match a.dropWhile (fun o => decide (o.kind = 3)) with
      | [] => one ⟨1, 1, [], [], []⟩ c ++ refC one [] b
      | u :: a => one u c ++ refC one a b
theorem wrapI_add (a b : Int) : IntKind.i64.wrap (IntKind.i64.wrap a + b) = IntKind.i64.wrap (a + b) := by
  simp only [IntKind.wrap, IntKind.bits, IntKind.signed]
  simp
  omega
theorem wrapI_in {x : Int} (h0 : 0 ≤ x) (h1 : x ≤ 1099511627776) : IntKind.i64.wrap x = x := by
  simp only [IntKind.wrap, IntKind.bits, IntKind.signed]
  simp
  omega
/-! #### the maker cannot tell an op from its parts -/
theorem del_two (s : MkS) {a b : Int} (ha : 0 ≤ a) (hb : 0 ≤ b) : delS (delS s a) b = delS s (a + b) := by
  unfold delS maxI
  rw [if_neg (by omega), if_neg (by omega), if_neg (by omega)]
  simp only [wrapI_add, Int.add_assoc]
theorem ins_two (s : MkS) (a b : List Int) (set : List Attr) : insS (insS s a set) b set = insS s (a ++ b) set := by
  unfold insS
  by_cases ha : a = []
  · subst ha; simp
  by_cases hb : b = []
  · subst hb; simp [ha]
  rw [if_neg ha, if_neg hb, if_neg (by simp [ha])]
  have e : addI (addI s.ins a set) b set = addI s.ins (a ++ b) set := by
    generalize s.ins = ins
    unfold addI
    rcases List.eq_nil_or_concat ins with rfl | ⟨i, o, rfl⟩
    · simp
    · simp only [List.concat_eq_append, List.getLast?_append, List.getLast?_singleton, Option.some_or]
      by_cases e : o.set = set
      · simp [e]
      · simp [e]
  simp only [e]
theorem ret_two (s : MkS) {a b : Int} (ha : 1 ≤ a) (hb : 1 ≤ b) (hab : a + b ≤ 1099511627776) (p : List Chg) : retS (retS s a p) b p = retS s (a + b) p := by
  unfold retS
  rw [if_neg (by omega), if_neg (by omega), if_neg (by omega)]
  simp only [gapL, Int.lt_irrefl, if_false, List.append_nil]
  generalize s.done ++ (if 0 < s.gone then s.ins ++ [⟨3, s.gone, [], [], []⟩] else s.ins) = d
  congr 1
  unfold putS
  rcases List.eq_nil_or_concat d with rfl | ⟨i, o, rfl⟩
  · simp [wrapI_in (show 0 ≤ a + b by omega) hab]
  · simp only [List.concat_eq_append, List.getLast?_append, List.getLast?_singleton, Option.some_or]
    by_cases e : o.kind = 1 ∧ o.patch = p
    · simp [e, wrapI_add, Int.add_assoc]
    · simp [e, wrapI_in (show 0 ≤ a + b by omega) hab]
theorem del_n (s : MkS) (n : Nat) (set : List Attr) (p : List Chg) : (List.replicate n (⟨3, 1, [], set, p⟩ : Dop)).foldl stepS s = delS s n ∨ (n = 0 ∧ (List.replicate n (⟨3, 1, [], set, p⟩ : Dop)).foldl stepS s = s) := by
  induction n generalizing s with
  | zero => exact .inr ⟨rfl, rfl⟩
  | succ n ih =>
    left
    rw [List.replicate_succ, List.foldl_cons]
    have e : stepS s ⟨3, 1, [], set, p⟩ = delS s 1 := by simp [stepS]
    rw [e]
    rcases ih (delS s 1) with h | ⟨rfl, h⟩
    · rw [h, del_two s (by decide) (by omega)]
      congr 1; omega
    · rw [h]; rfl
theorem ret_n (s : MkS) (n : Nat) (h1 : 1 ≤ n) (h2 : n ≤ 1099511627776) (set : List Attr) (p : List Chg) : (List.replicate n (⟨1, 1, [], set, p⟩ : Dop)).foldl stepS s = retS s n p := by
  induction n generalizing s with
  | zero => omega
  | succ n ih =>
    rw [List.replicate_succ, List.foldl_cons]
    have e : stepS s ⟨1, 1, [], set, p⟩ = retS s 1 p := by simp [stepS]
    rw [e]
    by_cases hn : n = 0
    · subst hn; rfl
    · rw [ih _ (by omega) (by omega), ret_two s (by decide) (by omega) (by omega)]
      congr 1; omega
theorem ins_n (s : MkS) (rs : List Int) (set : List Attr) (p : List Chg) : (rs.map fun r => (⟨2, 0, [r], set, p⟩ : Dop)).foldl stepS s = insS s rs set := by
  induction rs generalizing s with
  | nil => simp [insS]
  | cons r rs ih =>
    rw [List.map_cons, List.foldl_cons]
    have e : stepS s ⟨2, 0, [r], set, p⟩ = insS s [r] set := by simp [stepS]
    rw [e, ih, ins_two]
    rfl
/-- an op that may be told -/
structure Opk (o : Dop) : Prop where
  k : o.kind = 1 ∨ o.kind = 2 ∨ o.kind = 3
  pos : 1 ≤ lenN o
  le : lenN o ≤ 536870912
theorem ones_len (o : Dop) : (ones o).length = lenN o := by unfold ones lenN; split <;> simp
theorem tell_ones (s : MkS) {o : Dop} (h : Opk o) : (ones o).foldl stepS s = stepS s o := by
  obtain ⟨k, n, rs, set, p⟩ := o
  obtain ⟨h1, h2, h3⟩ := h
  simp only [lenN] at h1 h2 h3
  rcases h1 with rfl | rfl | rfl
  · simp only [ones, show ¬ (1 : Int) = 2 by decide, if_false] at *
    rw [ret_n _ _ h2 (by omega)]
    simp only [stepS, if_true]
    rw [show ((n.toNat : Nat) : Int) = n by omega]
  · simp only [ones, if_true]
    rw [ins_n]
    simp [stepS]
  · simp only [ones, show ¬ (3 : Int) = 2 by decide, if_false] at *
    rcases del_n s n.toNat set p with h | ⟨h, _⟩
    · rw [h]
      simp only [stepS, show ¬ (3 : Int) = 1 by decide, show ¬ (3 : Int) = 2 by decide, if_false]
      rw [show ((n.toNat : Nat) : Int) = n by omega]
    · omega
/-! #### reading: the first op's first part -/
def headO (n : Nat) (o : Dop) : Dop := if o.kind = 2 then ⟨2, o.n, o.runes.take n, o.set, o.patch⟩ else ⟨o.kind, n, o.runes, o.set, o.patch⟩
def restO (n : Nat) (o : Dop) : Dop := if o.kind = 2 then ⟨2, o.n, o.runes.drop n, o.set, o.patch⟩ else ⟨o.kind, o.n - n, o.runes, o.set, o.patch⟩
/-- what is left behind n -/
def behind (n : Nat) : List Dop → List Dop
  | [] => []
  | o :: x => if n < lenN o then restO n o :: x else x
theorem ones_cut {n : Nat} {o : Dop} (h : n ≤ lenN o) : ones (headO n o) ++ ones (restO n o) = ones o := by
  obtain ⟨k, m, rs, set, p⟩ := o
  by_cases e : k = 2
  · subst e
    simp only [ones, headO, restO, if_true, ← List.map_append, List.take_append_drop]
  · simp only [lenN, ones, headO, restO, e, if_false] at *
    rw [← List.replicate_append_replicate.symm]
    congr 1
    omega
theorem onesL_cut {n : Nat} {o : Dop} {x : List Dop} (h : n ≤ lenN o) : onesL (o :: x) = ones (headO n o) ++ onesL (behind n (o :: x)) := by
  simp only [behind]
  split
  · simp only [onesL, List.flatMap_cons, ← List.append_assoc, ones_cut h]
  · have e : n = lenN o := by omega
    have h2 : ones (restO n o) = [] := List.length_eq_zero_iff.1 (by
      have := congrArg List.length (ones_cut h)
      simp only [List.length_append, ones_len] at this
      have h3 : lenN (headO n o) = n := by
        obtain ⟨k, m, rs, set, p⟩ := o
        by_cases e : k = 2
        · subst e; simp [lenN, headO] at *; omega
        · simp [lenN, headO, e] at *
      rw [ones_len]; omega)
    have := ones_cut h
    rw [h2, List.append_nil] at this
    simp only [onesL, List.flatMap_cons, this]
theorem headO_len {n : Nat} {o : Dop} (h : n ≤ lenN o) : lenN (headO n o) = n := by
  obtain ⟨k, m, rs, set, p⟩ := o
  by_cases e : k = 2
  · subst e; simp [lenN, headO] at *; omega
  · simp [lenN, headO, e] at *
theorem restO_len {n : Nat} {o : Dop} (h : n ≤ lenN o) : lenN (restO n o) = lenN o - n := by
  obtain ⟨k, m, rs, set, p⟩ := o
  by_cases e : k = 2
  · subst e; simp [lenN, restO] at *
  · simp [lenN, restO, e] at *
theorem headO_kind (n : Nat) (o : Dop) : (headO n o).kind = o.kind := by unfold headO; split <;> simp_all
theorem restO_kind (n : Nat) (o : Dop) : (restO n o).kind = o.kind := by unfold restO; split <;> simp_all
theorem headO_all {o : Dop} (h : Opk o) : headO (lenN o) o = o := by
  obtain ⟨k, m, rs, set, p⟩ := o
  obtain ⟨_, h2, _⟩ := h
  by_cases e : k = 2
  · subst e; simp [headO, lenN]
  · simp only [headO, lenN, e, if_false] at *
    congr; omega
theorem ones_kind {o u : Dop} (h : u ∈ ones o) : u.kind = o.kind ∧ u.set = o.set ∧ u.patch = o.patch := by
  unfold ones at h
  split at h
  · simp only [List.mem_map] at h
    obtain ⟨r, _, rfl⟩ := h
    exact ⟨by simp_all, rfl, rfl⟩
  · rw [List.mem_replicate] at h
    rw [h.2]; exact ⟨rfl, rfl, rfl⟩
def total (x : List Dop) : Nat := (x.map lenN).sum
theorem total_behind {n : Nat} {o : Dop} {x : List Dop} (h : n ≤ lenN o) : total (behind n (o :: x)) + n = total (o :: x) := by
  simp only [behind]
  split
  · simp only [total, List.map_cons, List.sum_cons, restO_len h]; omega
  · simp only [total, List.map_cons, List.sum_cons]; omega
theorem onesL_len (x : List Dop) : (onesL x).length = total x := by
  induction x with
  | nil => rfl
  | cons o x ih => simp only [onesL, List.flatMap_cons, List.length_append, ones_len, total, List.map_cons, List.sum_cons] at *; omega
/-! #### the steps of both readers -/
section
variable {one : Dop → Dop → List Dop}
theorem refC_ins : ∀ {A a b : List Dop}, (∀ c ∈ A, c.kind = 2) → refC one a (A ++ b) = A ++ refC one a b := by
  intro A
  induction A with
  | nil => intro a b _; rfl
  | cons c A ih =>
    intro a b h
    rw [List.cons_append]
    simp only [refC]
    rw [if_pos (h c (by simp)), ih fun c hc => h c (by simp [hc])]
    rfl
theorem refC_del {A a : List Dop} {c : Dop} {b : List Dop} (hA : ∀ u ∈ A, u.kind = 3) (hc : c.kind ≠ 2) : refC one (A ++ a) (c :: b) = A ++ refC one a (c :: b) := by
  induction A with
  | nil => rfl
  | cons u A ih =>
    have hu := hA u (by simp)
    have := ih fun u hu => hA u (by simp [hu])
    simp only [refC, if_neg hc] at this ⊢
    rw [List.cons_append, List.takeWhile_cons, if_pos (by simp [hu]), List.dropWhile_cons, if_pos (by simp [hu]), List.cons_append, this]
    rfl
theorem refC_both : ∀ {A a B b : List Dop}, A.length = B.length → (∀ u ∈ A, u.kind ≠ 3) → (∀ c ∈ B, c.kind ≠ 2) → refC one (A ++ a) (B ++ b) = (A.zipWith one B).flatten ++ refC one a b := by
  intro A
  induction A with
  | nil => intro a B b h _ _; cases B with
    | nil => rfl
    | cons c B => simp at h
  | cons u A ih =>
    intro a B b h hA hB
    cases B with
    | nil => simp at h
    | cons c B =>
      have hu := hA u (by simp)
      have hc := hB c (by simp)
      simp only [List.cons_append, refC]
      rw [if_neg hc, List.takeWhile_cons, if_neg (by simp [hu]), List.dropWhile_cons, if_neg (by simp [hu])]
      simp only [List.nil_append, List.zipWith_cons_cons, List.flatten_cons, List.append_assoc]
      rw [ih (by simpa using h) (fun u hu => hA u (by simp [hu])) fun c hc => hB c (by simp [hc])]
theorem refC_none : ∀ {B b : List Dop}, (∀ c ∈ B, c.kind ≠ 2) → refC one [] (B ++ b) = (B.map fun c => one ⟨1, 1, [], [], []⟩ c).flatten ++ refC one [] b := by
  intro B
  induction B with
  | nil => intro b _; rfl
  | cons c B ih =>
    intro b hB
    have hc := hB c (by simp)
    simp only [List.cons_append, refC]
    rw [if_neg hc]
    simp only [List.takeWhile_nil, List.dropWhile_nil, List.nil_append, List.map_cons, List.flatten_cons, List.append_assoc]
    rw [ih fun c hc => hB c (by simp [hc])]
/-- what is made comes of both -/
theorem refC_mem {b a : List Dop} {z : Dop} (h : z ∈ refC one a b) : z ∈ a ∨ z ∈ b ∨ ∃ u c, (u ∈ a ∨ u = ⟨1, 1, [], [], []⟩) ∧ c ∈ b ∧ c.kind ≠ 2 ∧ z ∈ one u c := by
  induction b generalizing a with
  | nil => exact .inl h
  | cons c b ih =>
    simp only [refC] at h
    split at h
    · rcases List.mem_cons.1 h with rfl | h
      · exact .inr (.inl (by simp))
      · rcases ih h with h | h | ⟨u, d, h1, h2, h3, h4⟩
        · exact .inl h
        · exact .inr (.inl (by simp [h]))
        · exact .inr (.inr ⟨u, d, h1, by simp [h2], h3, h4⟩)
    · rename_i hc
      rcases List.mem_append.1 h with h | h
      · exact .inl ((List.takeWhile_sublist _).subset h)
      · have hd : ∀ u ∈ a.dropWhile (fun o => decide (o.kind = 3)), u ∈ a := fun u hu => (List.dropWhile_sublist _).subset hu
        revert hd h
        generalize a.dropWhile (fun o => decide (o.kind = 3)) = a'
        intro h hd
        cases a' with
        | nil =>
          simp only at h
          rcases List.mem_append.1 h with h | h
          · exact .inr (.inr ⟨_, c, .inr rfl, by simp, hc, h⟩)
          · rcases ih h with h | h | ⟨u, d, h1, h2, h3, h4⟩
            · simp at h
            · exact .inr (.inl (by simp [h]))
            · exact .inr (.inr ⟨u, d, by rcases h1 with h1 | h1; simp at h1; exact .inr h1, by simp [h2], h3, h4⟩)
        | cons u a' =>
          simp only at h
          rcases List.mem_append.1 h with h | h
          · exact .inr (.inr ⟨u, c, .inl (hd u (by simp)), by simp, hc, h⟩)
          · rcases ih h with h | h | ⟨u', d, h1, h2, h3, h4⟩
            · exact .inl (hd z (by simp [h]))
            · exact .inr (.inl (by simp [h]))
            · exact .inr (.inr ⟨u', d, by rcases h1 with h1 | h1; exact .inl (hd u' (by simp [h1])); exact .inr h1, by simp [h2], h3, h4⟩)
end
/-! ### what composing makes of ones -/
def partP (ks : List DKey) (b : Bool) (p : List Chg) : List Chg := p.filter fun c => match findK ks c.key with | some k => decide (k.block = b) | none => false
def cellP (ks : List DKey) (set : List Attr) (p : List Chg) (r : Int) : List Attr := appP set (partP ks (decide (r = 10)) p)
def oneP (ks : List DKey) (u c : Dop) : List Dop :=
  if u.kind = 1 then (if c.kind = 3 then [c] else if c.kind = 1 then [⟨1, 1, [], [], comP u.patch c.patch⟩] else [])
  else if c.kind = 1 then [⟨2, 0, [u.runes.headD 0], cellP ks u.set c.patch (u.runes.headD 0), []⟩] else []
def bothS (ks : List DKey) (s : MkS) (u v : Dop) : MkS :=
  if u.kind = 1 then (if v.kind = 1 then retS s v.n (comP u.patch v.patch) else delS s v.n)
  else if v.kind = 1 then u.runes.foldl (fun s r => insS s [r] (cellP ks u.set v.patch r)) s else s
theorem zip_same {α β γ : Type} (f : α → β → γ) (x : α) : ∀ (B : List β) (n : Nat), B.length = n → (List.replicate n x).zipWith f B = B.map (f x) := by
  intro B
  induction B with
  | nil => intro n h; simp at h; subst h; rfl
  | cons c B ih => intro n h; simp at h; subst h; rw [List.replicate_succ, List.zipWith_cons_cons, ih _ rfl]; rfl
theorem both_ones (ks : List DKey) (s : MkS) {u v : Dop} {n : Nat} (hu : lenN u = n) (hv : lenN v = n) (h1 : 1 ≤ n) (h2 : n ≤ 536870912) (ku : u.kind = 1 ∨ u.kind = 2) (kv : v.kind = 1 ∨ v.kind = 3) :
    ((ones u).zipWith (oneP ks) (ones v)).flatten.foldl stepS s = bothS ks s u v := by
  obtain ⟨k, m, rs, set, p⟩ := u
  obtain ⟨k', m', rs', set', p'⟩ := v
  simp only at ku kv
  have o1 : ∀ c, oneP ks ⟨1, 1, [], set, p⟩ c = if c.kind = 3 then [c] else if c.kind = 1 then [⟨1, 1, [], [], comP p c.patch⟩] else [] := fun c => rfl
  rcases ku with rfl | rfl <;> rcases kv with rfl | rfl
  · simp only [lenN, show ¬ (1 : Int) = 2 by decide, if_false] at hu hv
    simp only [ones, show ¬ (1 : Int) = 2 by decide, if_false, hu, hv, List.zipWith_replicate, o1, show ¬ (1 : Int) = 3 by decide, if_true]
    rw [List.flatten_replicate_singleton, Nat.min_self, ret_n _ _ h1 (by omega)]
    simp only [bothS, if_true]
    rw [show ((n : Nat) : Int) = m' by omega]
  · simp only [lenN, show ¬ (1 : Int) = 2 by decide, show ¬ (3 : Int) = 2 by decide, if_false] at hu hv
    simp only [ones, show ¬ (1 : Int) = 2 by decide, show ¬ (3 : Int) = 2 by decide, if_false, hu, hv, List.zipWith_replicate, o1, if_true]
    rw [List.flatten_replicate_singleton, Nat.min_self]
    rcases del_n s n set' p' with h | ⟨h, _⟩
    · rw [h]
      simp only [bothS, if_true, show ¬ (3 : Int) = 1 by decide, if_false]
      rw [show ((n : Nat) : Int) = m' by omega]
    · omega
  · simp only [lenN, show ¬ (1 : Int) = 2 by decide, if_true, if_false] at hu hv
    simp only [ones, show ¬ (1 : Int) = 2 by decide, if_true, if_false, hv, bothS, show ¬ (2 : Int) = 1 by decide]
    clear h1 h2
    induction rs generalizing s n m' with
    | nil => simp
    | cons r rs ih =>
      simp only [List.length_cons] at hu
      subst hu
      rw [List.map_cons, List.replicate_succ, List.zipWith_cons_cons, List.flatten_cons, List.foldl_append, List.foldl_cons]
      rw [← ih (m' := rs.length) (n := rs.length) _ (by omega) rfl]
      rfl
  · simp only [lenN, show ¬ (3 : Int) = 2 by decide, if_true, if_false] at hu hv
    simp only [ones, show ¬ (3 : Int) = 2 by decide, if_true, if_false, hv, bothS, show ¬ (2 : Int) = 1 by decide, show ¬ (3 : Int) = 1 by decide]
    clear h1 h2
    induction rs generalizing s n m' with
    | nil => simp
    | cons r rs ih =>
      simp only [List.length_cons] at hu
      subst hu
      rw [List.map_cons, List.replicate_succ, List.zipWith_cons_cons, List.flatten_cons, List.foldl_append]
      exact ih (m' := rs.length) (n := rs.length) _ (by omega) rfl
/-- what both readers still come to -/
def goC (ks : List DKey) (s : MkS) (u v : List Dop) : MkS := (refC (oneP ks) (onesL u) (onesL v)).foldl stepS s
theorem onesL_cons (o : Dop) (x : List Dop) : onesL (o :: x) = ones o ++ onesL x := rfl
theorem go_ins {ks : List DKey} {s : MkS} {u v : List Dop} {o : Dop} (ho : Opk o) (hk : o.kind = 2) : goC ks s u (o :: v) = goC ks (stepS s o) u v := by
  unfold goC
  rw [onesL_cons, refC_ins fun c hc => (ones_kind hc).1.trans hk, List.foldl_append, tell_ones s ho]
theorem onesL_ne {o : Dop} {x : List Dop} (ho : Opk o) : ∃ c b, onesL (o :: x) = c :: b ∧ c.kind = o.kind := by
  rw [onesL_cons]
  have := ones_len o
  have hp := ho.pos
  cases e : ones o with
  | nil => rw [e] at this; simp at this; omega
  | cons c b => exact ⟨c, b ++ onesL x, rfl, (ones_kind (o := o) (u := c) (by simp [e])).1⟩
theorem go_del {ks : List DKey} {s : MkS} {u v : List Dop} {d o : Dop} (hd : Opk d) (ho : Opk o) (kd : d.kind = 3) (hk : o.kind ≠ 2) : goC ks s (d :: u) (o :: v) = goC ks (stepS s d) u (o :: v) := by
  unfold goC
  obtain ⟨c, b, e, kc⟩ := onesL_ne (x := v) ho
  rw [e, onesL_cons, refC_del (fun u hu => (ones_kind hu).1.trans kd) (by omega), List.foldl_append, tell_ones s hd]
theorem go_both {ks : List DKey} {s : MkS} {u v : List Dop} {a o : Dop} {n : Nat} (ha : Opk a) (ho : Opk o) (ka : a.kind ≠ 3) (hk : o.kind ≠ 2) (hn : n = min (lenN a) (lenN o)) :
    goC ks s (a :: u) (o :: v) = goC ks (bothS ks s (headO n a) (headO n o)) (behind n (a :: u)) (behind n (o :: v)) := by
  have h1 := ha.pos
  have h2 := ho.pos
  have h3 := ha.le
  have na : n ≤ lenN a := by omega
  have no : n ≤ lenN o := by omega
  unfold goC
  rw [onesL_cut na, onesL_cut no, refC_both (by rw [ones_len, ones_len, headO_len na, headO_len no]) (fun u hu => by rw [(ones_kind hu).1, headO_kind]; exact ka) (fun c hc => by rw [(ones_kind hc).1, headO_kind]; exact hk), List.foldl_append,
    both_ones ks s (headO_len na) (headO_len no) (by omega) (by omega) (by rw [headO_kind]; rcases ha.k with h | h | h <;> simp_all) (by rw [headO_kind]; rcases ho.k with h | h | h <;> simp_all)]
theorem go_none {ks : List DKey} {s : MkS} {v : List Dop} {o : Dop} (ho : Opk o) (hk : o.kind ≠ 2) :
    goC ks s [] (o :: v) = goC ks (bothS ks s ⟨1, lenN o, [], [], []⟩ o) [] v := by
  have h2 := ho.pos
  have h3 := ho.le
  unfold goC
  rw [onesL_cons, show onesL [] = [] from rfl, refC_none (fun c hc => by rw [(ones_kind hc).1]; exact hk), List.foldl_append]
  congr 1
  rw [← both_ones ks s (u := ⟨1, lenN o, [], [], []⟩) (v := o) (n := lenN o) (by simp [lenN]) rfl h2 h3 (.inl rfl) (by rcases ho.k with h | h | h <;> simp_all)]
  congr 2
  rw [show ones ⟨1, lenN o, [], [], []⟩ = List.replicate (lenN o) ⟨1, 1, [], [], []⟩ by simp [ones]]
  exact (zip_same (oneP ks) (⟨1, 1, [], [], []⟩ : Dop) (ones o) _ (ones_len o)).symm
theorem tell_all {x : List Dop} : ∀ {s : MkS}, (∀ o ∈ x, Opk o) → (onesL x).foldl stepS s = x.foldl stepS s := by
  induction x with
  | nil => intro s _; rfl
  | cons o x ih =>
    intro s h
    rw [onesL_cons, List.foldl_append, tell_ones s (h o (by simp)), ih fun u hu => h u (by simp [hu])]
    rfl
theorem go_end {ks : List DKey} {s : MkS} {u : List Dop} (h : ∀ o ∈ u, Opk o) : goC ks s u [] = u.foldl stepS s := by
  unfold goC
  rw [show onesL [] = [] from rfl]
  simp only [refC]
  exact tell_all h
end Go.Proofs.YtlbaopamhkmepaaGreatDoor

namespace Go.Proofs.YtlbaopamhkmepaaGreatDoor
open Go Go.K

/-! ### what normal forms and composed deltas are made of -/
def Good (PS : List Attr → Prop) (PP : List Chg → Prop) (o : Dop) : Prop := (o.kind = 1 ∧ o.runes = [] ∧ o.set = [] ∧ 1 ≤ o.n ∧ PP o.patch) ∨ (o.kind = 3 ∧ o.runes = [] ∧ o.set = [] ∧ o.patch = [] ∧ 1 ≤ o.n) ∨
  (o.kind = 2 ∧ (∀ r ∈ o.runes, MayR r) ∧ o.n = 0 ∧ o.patch = [] ∧ o.runes ≠ [] ∧ PS o.set)
theorem total_app (x y : List Dop) : total (x ++ y) = total x + total y := by simp [total]
theorem total_one (o : Dop) : total [o] = lenN o := by simp [total]
theorem total_mem {x : List Dop} {o : Dop} (h : o ∈ x) : lenN o ≤ total x := by
  induction x with
  | nil => simp at h
  | cons a x ih =>
    simp only [total, List.map_cons, List.sum_cons] at *
    rcases List.mem_cons.1 h with rfl | h
    · omega
    · have := ih h; omega
theorem set_end (i : List Dop) (b o : Dop) : (i ++ [b]).set ((i ++ [b]).length - 1) o = i ++ [o] := by
  rw [List.set_append_right _ _ (by simp)]; simp
section
variable {PS : List Attr → Prop} {PP : List Chg → Prop}
theorem good_gap {ins : List Dop} {g : Int} (h : ∀ o ∈ ins, Good PS PP o ∧ o.kind = 2) : ∀ o ∈ gapL ins g, Good PS PP o := by
  intro o ho
  unfold gapL at ho
  split at ho
  · rcases List.mem_append.1 ho with h' | h'
    · exact (h o h').1
    · simp at h'; subst h'; exact .inr (.inl ⟨rfl, rfl, rfl, rfl, by simp only; omega⟩)
  · exact (h o ho).1
theorem total_gap (ins : List Dop) (g : Int) : total (gapL ins g) = total ins + g.toNat := by
  unfold gapL
  split
  · rw [total_app, total_one]; simp [lenN]
  · omega
structure GoodM (PS : List Attr → Prop) (PP : List Chg → Prop) (s : MkS) (t : Nat) : Prop where
  done : ∀ o ∈ s.done, Good PS PP o
  ins : ∀ o ∈ s.ins, Good PS PP o ∧ o.kind = 2
  gone : 0 ≤ s.gone
  tot : total s.done + total s.ins + s.gone.toNat ≤ t
theorem good_step {s : MkS} {t : Nat} {o : Dop} (h : GoodM PS PP s t) (ho : Good PS PP o) (ht : t + lenN o ≤ 1099511627776) : GoodM PS PP (stepS s o) (t + lenN o) := by
  obtain ⟨done, ins, gone⟩ := s
  obtain ⟨h1, h2, h3, h4⟩ := h
  simp only at h1 h2 h3 h4
  obtain ⟨k, n, rs, set, p⟩ := o
  rcases ho with ⟨e1, e2, e3, e4, e5⟩ | ⟨e1, e2, e3, e4, e5⟩ | ⟨e1, e2, e3, e4, e5, e6⟩
  · simp only at e1 e2 e3 e4 e5
    subst e1; subst e2; subst e3
    simp only [lenN, show ¬ (1 : Int) = 2 by decide, if_false] at ht ⊢
    simp only [stepS, if_true, retS, if_neg (show ¬ n < 1 by omega)]
    have hd : ∀ o ∈ done ++ gapL ins gone, Good PS PP o := fun o ho => by
      rcases List.mem_append.1 ho with h | h
      · exact h1 o h
      · exact good_gap h2 o h
    have td : total (done ++ gapL ins gone) ≤ t := by rw [total_app, total_gap]; omega
    generalize done ++ gapL ins gone = d at hd td ⊢
    have new : GoodM PS PP ⟨d ++ [⟨1, n, [], [], p⟩], [], 0⟩ (t + n.toNat) := by
      refine ⟨fun o ho => ?_, by simp, by simp, ?_⟩
      · rcases List.mem_append.1 ho with h | h
        · exact hd o h
        · simp at h; subst h; exact .inl ⟨rfl, rfl, rfl, e4, e5⟩
      · simp only [total_app, total_one, lenN, show ¬ (1 : Int) = 2 by decide, if_false]
        simp [total]; simp [total] at td; omega
    unfold putS
    rcases List.eq_nil_or_concat d with rfl | ⟨i, q, rfl⟩
    · exact new
    · simp only [List.concat_eq_append, List.getLast?_append, List.getLast?_singleton, Option.some_or] at *
      by_cases e : q.kind = 1 ∧ q.patch = p
      · rw [if_pos e]
        have hq := hd q (by simp)
        obtain ⟨kq, nq, rq, sq, pq⟩ := q
        simp only at e
        obtain ⟨rfl, rfl⟩ := e
        rcases hq with ⟨f1, f2, f3, f4, f5⟩ | ⟨f1, _⟩ | ⟨f1, _⟩
        · simp only at f2 f3 f4
          subst f2; subst f3
          rw [total_app, total_one] at td
          simp only [lenN, show ¬ (1 : Int) = 2 by decide, if_false] at td
          dsimp only
          rw [wrapI_in (by omega) (by omega), set_end]
          refine ⟨fun o ho => ?_, by simp, by simp, ?_⟩
          · rcases List.mem_append.1 ho with h | h
            · exact hd o (by simp [h])
            · simp at h; subst h; exact .inl ⟨rfl, rfl, rfl, by simp only; omega, e5⟩
          · simp only [total_app, total_one, lenN, show ¬ (1 : Int) = 2 by decide, if_false]
            simp [total]; simp [total] at td; omega
        · simp at f1
        · simp at f1
      · rw [if_neg e]; exact new
  · simp only at e1 e2 e3 e4 e5
    subst e1; subst e2; subst e3; subst e4
    simp only [lenN, show ¬ (3 : Int) = 2 by decide, if_false] at ht ⊢
    simp only [stepS, show ¬ (3 : Int) = 1 by decide, show ¬ (3 : Int) = 2 by decide, if_false, delS]
    have : maxI n 0 = n := by unfold maxI; rw [if_neg (by omega)]
    rw [this, wrapI_in (by omega) (by omega)]
    exact ⟨h1, h2, by simp only; omega, by simp only; omega⟩
  · simp only at e1 e2 e3 e4 e5 e6
    subst e1; subst e3; subst e4
    simp only [lenN, if_true] at ht ⊢
    simp only [stepS, show ¬ (2 : Int) = 1 by decide, if_true, if_false, insS, if_neg e5]
    have new : GoodM PS PP ⟨done, ins ++ [⟨2, 0, rs, set, []⟩], gone⟩ (t + rs.length) := by
      refine ⟨h1, fun o ho => ?_, h3, ?_⟩
      · rcases List.mem_append.1 ho with h | h
        · exact h2 o h
        · simp at h; subst h; exact ⟨.inr (.inr ⟨rfl, e2, rfl, rfl, e5, e6⟩), rfl⟩
      · simp only [total_app, total_one, lenN, if_true]; omega
    unfold addI
    rcases List.eq_nil_or_concat ins with rfl | ⟨i, q, rfl⟩
    · exact new
    · simp only [List.concat_eq_append, List.getLast?_append, List.getLast?_singleton, Option.some_or] at *
      by_cases e : q.set = set
      · rw [if_pos e]
        have hq := h2 q (by simp)
        obtain ⟨kq, nq, rq, sq, pq⟩ := q
        simp only at e
        subst e
        obtain ⟨hq, hk⟩ := hq
        simp only at hk
        subst hk
        rcases hq with ⟨f1, _⟩ | ⟨f1, _⟩ | ⟨f1, f2, f3, f4, f5, f6⟩
        · simp at f1
        · simp at f1
        · simp only at f2 f3 f4 f5 f6
          subst f3; subst f4
          rw [set_end]
          refine ⟨h1, fun o ho => ?_, h3, ?_⟩
          · rcases List.mem_append.1 ho with h | h
            · exact h2 o (by simp [h])
            · simp at h; subst h
              exact ⟨.inr (.inr ⟨rfl, fun r hr => by rcases List.mem_append.1 hr with h | h; exact f2 r h; exact e2 r h, rfl, rfl, by simp [e5], f6⟩), rfl⟩
          · simp only [total_app, total_one, lenN, if_true, List.length_append] at h4 ⊢; omega
      · rw [if_neg e]; exact new
theorem good_run (x : List Dop) (h : ∀ o ∈ x, Good PS PP o) (hb : total x ≤ 1099511627776) : GoodM PS PP (runS x) (total x) := by
  induction x using rev_ind with
  | h0 => exact ⟨by simp [runS, MkS.z], by simp [runS, MkS.z], by simp [runS, MkS.z], by simp [runS, MkS.z, total]⟩
  | h1 x o ih =>
    rw [total_app, total_one] at hb ⊢
    have := good_step (ih (fun o ho => h o (by simp [ho])) (by omega)) (h o (by simp)) hb
    simpa [runS] using this
theorem good_norm (x : List Dop) (h : ∀ o ∈ x, Good PS PP o) (hb : total x ≤ 1099511627776) : (∀ o ∈ normB x, Good PS PP o) ∧ total (normB x) ≤ total x := by
  obtain ⟨h1, h2, h3, h4⟩ := good_run x h hb
  have hd : ∀ o ∈ (runS x).done ++ gapL (runS x).ins (runS x).gone, Good PS PP o := fun o ho => by
    rcases List.mem_append.1 ho with h | h
    · exact h1 o h
    · exact good_gap h2 o h
  have td : total ((runS x).done ++ gapL (runS x).ins (runS x).gone) ≤ total x := by rw [total_app, total_gap]; omega
  unfold normB opsS
  generalize (runS x).done ++ gapL (runS x).ins (runS x).gone = d at hd td
  unfold trimL
  rcases List.eq_nil_or_concat d with rfl | ⟨i, q, rfl⟩
  · exact ⟨hd, td⟩
  · simp only [List.concat_eq_append, List.getLast?_append, List.getLast?_singleton, Option.some_or, List.dropLast_concat] at *
    split
    · rw [total_app] at td
      exact ⟨fun o ho => hd o (by simp [ho]), by omega⟩
    · exact ⟨hd, td⟩
end
/-! ### what may be, composed, may be -/
section
variable {ks : List DKey}
/-- a set, a patch of the keys -/
def SetK (ks : List DKey) (l : List Attr) : Prop := RisS l ∧ l.length ≤ 64 ∧ ∀ a ∈ l, ValOK a.val ∧ FitsK ks a.key a.val
def PatK (ks : List DKey) (p : List Chg) : Prop := RisP p ∧ p.length ≤ 64 ∧ ∀ c ∈ p, (c.gone = true → c.val = AVal.zero) ∧ (c.gone = false → ValOK c.val ∧ FitsK ks c.key c.val) ∧ findK ks c.key ≠ none
theorem setK_iff {l : List Attr} : maySet ks l = 0 ↔ SetK ks l := by
  unfold maySet
  constructor
  · intro h
    split at h
    · cases h
    · split at h
      · cases h
      · rename_i h1 h2
        refine ⟨Classical.byContradiction fun hn => h1 (.inl fun hr => hn (ris_pw hr)), Classical.byContradiction fun hn => h1 (.inr (.inl (by omega))), fun a ha => ⟨Classical.byContradiction fun hn => h1 (.inr (.inr ⟨a, ha, hn⟩)), Classical.byContradiction fun hn => h2 ⟨a, ha, hn⟩⟩⟩
  · rintro ⟨h1, h2, h3⟩
    rw [if_neg, if_neg]
    · rintro ⟨a, ha, hn⟩; exact hn (h3 a ha).2
    · rintro (hn | hn | ⟨a, ha, hn⟩)
      · exact hn (pw_ris h1)
      · omega
      · exact hn (h3 a ha).1
theorem patK_iff {l : List Chg} : mayPat ks l = 0 ↔ PatK ks l := by
  unfold mayPat
  constructor
  · intro h
    split at h
    · cases h
    · split at h
      · cases h
      · rename_i h1 h2
        refine ⟨Classical.byContradiction fun hn => h1 (.inl fun hr => hn (ris_pw hr)), Classical.byContradiction fun hn => h1 (.inr (.inl (by omega))), fun a ha => ⟨fun hg => Classical.byContradiction fun hn => h1 (.inr (.inr ⟨a, ha, .inl ⟨hg, hn⟩⟩)), fun hg => ⟨Classical.byContradiction fun hn => h1 (.inr (.inr ⟨a, ha, .inr ⟨hg, hn⟩⟩)), Classical.byContradiction fun hn => h2 ⟨a, ha, .inr ⟨hg, hn⟩⟩⟩, fun hn => h2 ⟨a, ha, .inl hn⟩⟩⟩
  · rintro ⟨h1, h2, h3⟩
    rw [if_neg, if_neg]
    · rintro ⟨a, ha, hn | ⟨hg, hn⟩⟩
      · exact (h3 a ha).2.2 hn
      · exact hn ((h3 a ha).2.1 hg).2
    · rintro (hn | hn | ⟨a, ha, ⟨hg, hn⟩ | ⟨hg, hn⟩⟩)
      · exact hn (pw_ris h1)
      · omega
      · exact hn ((h3 a ha).1 hg)
      · exact hn ((h3 a ha).2.1 hg).1
theorem setK_nil : SetK ks [] := ⟨List.Pairwise.nil, by simp, by simp⟩
theorem patK_nil : PatK ks [] := ⟨List.Pairwise.nil, by simp, by simp⟩
theorem find_id {id : Int} {k : DKey} (h : findK ks id = some k) : id ∈ ks.map DKey.id := by
  have h1 := List.find?_some h
  simp at h1
  exact List.mem_map.2 ⟨k, List.mem_of_find?_eq_some h, h1⟩
theorem find_id' {id : Int} (h : findK ks id ≠ none) : id ∈ ks.map DKey.id := by
  cases e : findK ks id with
  | none => exact (h e).elim
  | some k => exact find_id e
theorem comP_may (h64 : ks.length ≤ 64) {p q : List Chg} (hp : PatK ks p) (hq : PatK ks q) : PatK ks (comP p q) := by
  have hm : ∀ c ∈ comP p q, (c.gone = true → c.val = AVal.zero) ∧ (c.gone = false → ValOK c.val ∧ FitsK ks c.key c.val) ∧ findK ks c.key ≠ none := fun c hc => by
    rcases comP_mem hc with h | h
    · exact hp.2.2 c h
    · exact hq.2.2 c h
  have hr := comP_ris hp.1 hq.1
  refine ⟨hr, ?_, hm⟩
  have := few (key := Chg.key) (ids := ks.map DKey.id) hr fun c hc => find_id' (hm c hc).2.2
  rw [List.length_map] at this
  omega
theorem appP_may (h64 : ks.length ≤ 64) {s : List Attr} {p : List Chg} (hs : SetK ks s) (hp : RisP p) (hp2 : ∀ c ∈ p, c.gone = false → ValOK c.val ∧ FitsK ks c.key c.val) : SetK ks (appP s p) := by
  have hm : ∀ a ∈ appP s p, ValOK a.val ∧ FitsK ks a.key a.val := fun a ha => by
    rcases appP_mem ha with h | ⟨c, hc, hg, rfl⟩
    · exact hs.2.2 a h
    · exact hp2 c hc hg
  have hr := appP_ris hs.1 hp
  refine ⟨hr, ?_, hm⟩
  have := few (key := Attr.key) (ids := ks.map DKey.id) hr fun a ha => by
    obtain ⟨k, hk, _⟩ := (hm a ha).2
    exact find_id hk
  rw [List.length_map] at this
  omega
theorem cellP_may (h64 : ks.length ≤ 64) {s : List Attr} {p : List Chg} (hs : SetK ks s) (hp : PatK ks p) (r : Int) : SetK ks (cellP ks s p r) := by
  refine appP_may h64 hs (hp.1.filter _) fun c hc hg => (hp.2.2 c (List.mem_filter.1 hc).1).2.1 hg
/-- deltas that may be -/
abbrev GoodK (ks : List DKey) (o : Dop) : Prop := Good (SetK ks) (PatK ks) o
theorem GoodK.opk {o : Dop} (h : GoodK ks o) (hl : lenN o ≤ 536870912) : Opk o := by
  rcases h with ⟨h1, _, _, h4, _⟩ | ⟨h1, _, _, _, h4⟩ | ⟨h1, _, _, _, h4, _⟩
  · exact ⟨.inl h1, by simp only [lenN, h1, show ¬ (1 : Int) = 2 by decide, if_false]; omega, hl⟩
  · exact ⟨.inr (.inr h1), by simp only [lenN, h1, show ¬ (3 : Int) = 2 by decide, if_false]; omega, hl⟩
  · refine ⟨.inr (.inl h1), ?_, hl⟩
    simp only [lenN, h1, if_true]
    exact List.length_pos_iff.2 h4
theorem GoodK.form {o : Dop} (h : GoodK ks o) (hl : lenN o ≤ 536870912) : FormO o ∧ SetK ks o.set ∧ PatK ks o.patch := by
  rcases h with ⟨h1, h2, h3, h4, h5⟩ | ⟨h1, h2, h3, h4, h5⟩ | ⟨h1, h2, h3, h4, h5, h6⟩
  · simp only [lenN, h1, show ¬ (1 : Int) = 2 by decide, if_false] at hl
    exact ⟨.inl ⟨h1, h2, h3, h4, by omega⟩, by rw [h3]; exact setK_nil, h5⟩
  · simp only [lenN, h1, show ¬ (3 : Int) = 2 by decide, if_false] at hl
    exact ⟨.inr (.inl ⟨h1, h2, h3, h4, h5, by omega⟩), by rw [h3]; exact setK_nil, by rw [h4]; exact patK_nil⟩
  · simp only [lenN, h1, if_true] at hl
    exact ⟨.inr (.inr ⟨h1, h2, h3, h4, List.length_pos_iff.2 h5, hl⟩), h6, by rw [h4]; exact patK_nil⟩
theorem FormO.good {o : Dop} (h : FormO o) (hs : SetK ks o.set) (hp : PatK ks o.patch) : GoodK ks o ∧ lenN o ≤ 536870912 := by
  rcases h with ⟨h1, h2, h3, h4, h5⟩ | ⟨h1, h2, h3, h4, h5, h6⟩ | ⟨h1, h2, h3, h4, h5, h6⟩
  · exact ⟨.inl ⟨h1, h2, h3, h4, hp⟩, by simp only [lenN, h1, show ¬ (1 : Int) = 2 by decide, if_false]; omega⟩
  · exact ⟨.inr (.inl ⟨h1, h2, h3, h4, h5⟩), by simp only [lenN, h1, show ¬ (3 : Int) = 2 by decide, if_false]; omega⟩
  · exact ⟨.inr (.inr ⟨h1, h2, h3, h4, by intro e; rw [e] at h5; simp at h5, hs⟩), by simp only [lenN, h1, if_true]; exact h6⟩
theorem may_good {x : List Dop} (h : mayOps ks x = 0) : ∀ o ∈ x, GoodK ks o ∧ lenN o ≤ 536870912 := by
  unfold mayOps at h
  split at h
  · cases h
  · split at h
    · cases h
    · rename_i h1 h2
      intro o ho
      refine FormO.good (Classical.byContradiction fun hn => h1 (.inl ⟨o, ho, .inl hn⟩)) (setK_iff.1 (Classical.byContradiction fun hn => h2 ⟨o, ho, .inl hn⟩)) (patK_iff.1 (Classical.byContradiction fun hn => h2 ⟨o, ho, .inr hn⟩))
theorem sumW_total {f : Dop → Int} (x : List Dop) (h : ∀ o ∈ x, 0 ≤ f o ∧ f o ≤ lenN o) (hb : total x ≤ 1099511627776) : 0 ≤ sumW f x ∧ sumW f x ≤ total x := by
  induction x using rev_ind with
  | h0 => exact ⟨by simp [sumW], by simp [sumW]⟩
  | h1 x o ih =>
    rw [total_app, total_one] at hb ⊢
    have i1 := ih (fun o ho => h o (by simp [ho])) (by omega)
    have i2 := h o (by simp)
    have e : sumW f (x ++ [o]) = IntKind.i64.wrap (sumW f x + f o) := by simp [sumW]
    rw [e, wrapI_in (by omega) (by omega)]
    omega
theorem good_may {x : List Dop} (h : ∀ o ∈ x, GoodK ks o) (hb : total x ≤ 536870912) : mayOps ks x = 0 := by
  have hf : ∀ o ∈ x, FormO o ∧ SetK ks o.set ∧ PatK ks o.patch := fun o ho => GoodK.form (h o ho) (by have := total_mem ho; omega)
  have hn : ∀ o ∈ x, 0 ≤ o.n := fun o ho => by
    rcases h o ho with ⟨_, _, _, h4, _⟩ | ⟨_, _, _, _, h4⟩ | ⟨_, _, h4, _⟩ <;> omega
  have ht := sumW_total (f := takesF) x (fun o ho => by
    have := hn o ho
    unfold takesF lenN
    split <;> omega) (by omega)
  have hm := sumW_total (f := makesF) x (fun o ho => by
    have := hn o ho
    unfold makesF lenN lenO
    split
    · split <;> omega
    · split <;> omega) (by omega)
  unfold mayOps
  rw [if_neg, if_neg]
  · rintro ⟨o, ho, hn | hn⟩
    · exact hn (setK_iff.2 (hf o ho).2.1)
    · exact hn (patK_iff.2 (hf o ho).2.2)
  · rintro (⟨o, ho, hn | hn | hn⟩ | hn | hn)
    · exact hn (hf o ho).1
    · rw [setK_iff.2 (hf o ho).2.1] at hn; cases hn
    · rw [patK_iff.2 (hf o ho).2.2] at hn; cases hn
    · omega
    · omega
theorem good_ones {o u : Dop} (h : GoodK ks o) (hu : u ∈ ones o) : GoodK ks u ∧ lenN u = 1 := by
  rcases h with ⟨h1, h2, h3, h4, h5⟩ | ⟨h1, h2, h3, h4, h5⟩ | ⟨h1, h2, h3, h4, h5, h6⟩
  · simp only [ones, h1, show ¬ (1 : Int) = 2 by decide, if_false] at hu
    rw [List.mem_replicate] at hu
    rw [hu.2]
    exact ⟨.inl ⟨rfl, rfl, h3, by simp only; omega, h5⟩, rfl⟩
  · simp only [ones, h1, show ¬ (3 : Int) = 2 by decide, if_false] at hu
    rw [List.mem_replicate] at hu
    rw [hu.2]
    exact ⟨.inr (.inl ⟨rfl, rfl, h3, h4, by simp only; omega⟩), rfl⟩
  · simp only [ones, h1, if_true, List.mem_map] at hu
    obtain ⟨r, hr, rfl⟩ := hu
    exact ⟨.inr (.inr ⟨rfl, by simpa using h2 r hr, rfl, h4, by simp, h6⟩), by simp [lenN]⟩
theorem good_onesL {x : List Dop} (h : ∀ o ∈ x, GoodK ks o) : ∀ u ∈ onesL x, GoodK ks u ∧ lenN u = 1 := by
  intro u hu
  simp only [onesL, List.mem_flatMap] at hu
  obtain ⟨o, ho, hu⟩ := hu
  exact good_ones (h o ho) hu
theorem oneP_good (h64 : ks.length ≤ 64) {u c z : Dop} (hu : GoodK ks u ∧ lenN u = 1) (hc : GoodK ks c ∧ lenN c = 1) (hz : z ∈ oneP ks u c) : GoodK ks z ∧ lenN z = 1 := by
  unfold oneP at hz
  split at hz
  · rename_i k1
    split at hz
    · simp at hz; subst hz; exact hc
    · split at hz
      · rename_i k3
        simp at hz
        subst hz
        refine ⟨.inl ⟨rfl, rfl, rfl, (show (1 : Int) ≤ 1 by decide), ?_⟩, rfl⟩
        rcases hu.1 with ⟨_, _, _, _, hp⟩ | ⟨h, _⟩ | ⟨h, _⟩
        · rcases hc.1 with ⟨_, _, _, _, hq⟩ | ⟨h, _⟩ | ⟨h, _⟩
          · exact comP_may h64 hp hq
          · omega
          · omega
        · omega
        · omega
      · simp at hz
  · split at hz
    · rename_i k1 k2
      simp at hz
      rcases hc.1 with ⟨_, _, _, _, hq⟩ | ⟨h, _⟩ | ⟨h, _⟩
      · rcases hu.1 with ⟨h, _⟩ | ⟨h, h2, h3, h4, h5⟩ | ⟨_, h2, _, _, h5, h6⟩
        · omega
        · subst hz
          -- an insert of no rune never comes: a delete has none
          rcases hu with ⟨_, hl⟩
          refine ⟨.inr (.inr ⟨rfl, ?_, rfl, rfl, by simp, ?_⟩), by simp [lenN]⟩
          · rw [h2]; simp [MayR]
          · rw [h3]; exact cellP_may h64 setK_nil hq _
        · subst hz
          refine ⟨.inr (.inr ⟨rfl, ?_, rfl, rfl, by simp, cellP_may h64 h6 hq _⟩), by simp [lenN]⟩
          cases e : u.runes with
          | nil => exact (h5 e).elim
          | cons r rs => simpa using h2 r (by simp [e])
      · omega
      · omega
    · simp at hz
theorem refC_len {one : Dop → Dop → List Dop} (h : ∀ u c, (one u c).length ≤ 1) : ∀ {b a : List Dop}, (refC one a b).length ≤ a.length + b.length := by
  intro b
  induction b with
  | nil => intro a; simp [refC]
  | cons c b ih =>
    intro a
    simp only [refC]
    split
    · have := ih (a := a); simp only [List.length_cons]; omega
    · have e := congrArg List.length (List.takeWhile_append_dropWhile (p := fun o : Dop => decide (o.kind = 3)) (l := a))
      simp only [List.length_append] at e ⊢
      revert e
      generalize a.dropWhile (fun o => decide (o.kind = 3)) = a'
      intro e
      cases a' with
      | nil =>
        have := ih (a := [])
        have := h ⟨1, 1, [], [], []⟩ c
        simp only [List.length_append, List.length_nil, List.length_cons] at *
        omega
      | cons u a' =>
        have := ih (a := a')
        have := h u c
        simp only [List.length_append, List.length_cons] at *
        omega
theorem total_units {x : List Dop} (h : ∀ o ∈ x, lenN o = 1) : total x = x.length := by
  induction x with
  | nil => rfl
  | cons o x ih =>
    have := ih fun o ho => h o (by simp [ho])
    simp only [total, List.map_cons, List.sum_cons, List.length_cons] at *
    rw [h o (by simp)]; omega
/-- what is composed of what may be -/
def cmpD (ks : List DKey) (x y : List Dop) : List Dop := normB (refC (oneP ks) (onesL x) (onesL y))
theorem ref_good (h64 : ks.length ≤ 64) {x y : List Dop} (hx : ∀ o ∈ x, GoodK ks o) (hy : ∀ o ∈ y, GoodK ks o) : (∀ z ∈ refC (oneP ks) (onesL x) (onesL y), GoodK ks z ∧ lenN z = 1) ∧ total (refC (oneP ks) (onesL x) (onesL y)) ≤ total x + total y := by
  have h1 := good_onesL hx
  have h2 := good_onesL hy
  have hz : ∀ z ∈ refC (oneP ks) (onesL x) (onesL y), GoodK ks z ∧ lenN z = 1 := by
    intro z hz
    rcases refC_mem hz with h | h | ⟨u, c, hu, hc, _, h⟩
    · exact h1 z h
    · exact h2 z h
    · refine oneP_good h64 ?_ (h2 c hc) h
      rcases hu with hu | rfl
      · exact h1 u hu
      · exact ⟨.inl ⟨rfl, rfl, rfl, by decide, patK_nil⟩, rfl⟩
  refine ⟨hz, ?_⟩
  rw [total_units fun z h => (hz z h).2, ← onesL_len x, ← onesL_len y]
  refine refC_len fun u c => ?_
  unfold oneP
  split
  · split
    · simp
    · split <;> simp
  · split <;> simp
theorem cmp_good (h64 : ks.length ≤ 64) {x y : List Dop} (hx : ∀ o ∈ x, GoodK ks o) (hy : ∀ o ∈ y, GoodK ks o) (hb : total x + total y ≤ 1099511627776) : (∀ z ∈ cmpD ks x y, GoodK ks z) ∧ total (cmpD ks x y) ≤ total x + total y := by
  obtain ⟨h1, h2⟩ := ref_good h64 hx hy
  obtain ⟨h3, h4⟩ := good_norm _ (fun z hz => (h1 z hz).1) (by omega)
  exact ⟨h3, by unfold cmpD; omega⟩
end
end Go.Proofs.YtlbaopamhkmepaaGreatDoor

namespace Go.Proofs.YtlbaopamhkmepaaGreatDoor
open Go Go.K
/-- rubric/ops.May -/
def S59 (v0 v1 : Value) (K : Cont) (w : World) : Prop :=
  lenK v1 fun t10 =>
  LoopK [(.int .i64 0), (.int .i64 0)] (fun vs again w1 => ∀ _h : Env,
  ltK .i64 (nth vs 1) t10 fun t12 =>
  condK t12
  (ixK 5 v1 (nth vs 1) fun t13 =>
  ldnK 5 t13 (fun t14 w2 =>
  newK 39 [(.int .u8 0), (.int .i64 0), (.slice none 0 0), (.slice none 0 0), (.slice none 0 0)] (fun t7 w3 =>
  stnK 5 t7 t14 (fun w4 =>
  ldnK 5 t7 (fun t16 w5 =>
  callK Tryz.prog 93 [v0, t16] (fun t17 w6 =>
  eqK .i64 t17 (.int .i64 3) fun t20 =>
  condK t20
  (K t17 w6)
  (neK .i64 t17 (.int .i64 0) fun t24 =>
  condK t24
  (addK .i64 (nth vs 1) (.int .i64 1) fun t26 =>
  again [t17, t26] w6)
  (addK .i64 (nth vs 1) (.int .i64 1) fun t26_1 =>
  again [(nth vs 0), t26_1] w6))) w5) w4) w3) w2) w1)
  (callK Tryz.prog 94 [v1] (fun t28 w7 =>
  gtK .i64 t28 (.int .i64 536870912) fun t29 =>
  condK t29
  (K (.int .i64 3) w7)
  (callK Tryz.prog 95 [v1] (fun t32 w8 =>
  gtK .i64 t32 (.int .i64 536870912) fun t33 =>
  condK t33
  (K (.int .i64 3) w8)
  (K (nth vs 0) w8)) w7)) w1)) w
theorem S59_eq (v0 v1 : Value) (K : Cont) (w : World) : S59 v0 v1 K w = D Tryz.prog okf 36 (bodyOf Tryz.f59) (.node [] [] .nil (.node [] [] .nil (.node [] [] (.node [] [] .nil (.node [5, 11] [(4, 5), (7, 8), (11, 26)] (.node [] [] .nil (.node [] [] (.node [] [] .nil .nil) (.node [] [] (.node [] [] .nil (.node [] [] .nil (.node [] [] .nil (.node [] [] (.node [] [] .nil .nil) (.node [] [] .nil (.node [] [] .nil .nil)))))) .nil))) .nil)) (.node [] [] (.node [] [] .nil (.node [] [] (.node [] [] .nil .nil) .nil)) (.node [] [] .nil .nil))))) (retK Tryz.prog [.tmp 4] K) (nth [v0, v1]) w := by kernel_rfl
theorem S59_ok {v0 v1 : Value} {K : Cont} {w : World} (h : S59 v0 v1 K w) : callK Tryz.prog 59 [v0, v1] K w :=
  callK_of (P := Tryz.prog) (ok := okf) (n := 36) (fn := Tryz.f59) (c := bodyOf Tryz.f59) (rs := [.tmp 4]) (an := (.node [] [] .nil (.node [] [] .nil (.node [] [] (.node [] [] .nil (.node [5, 11] [(4, 5), (7, 8), (11, 26)] (.node [] [] .nil (.node [] [] (.node [] [] .nil .nil) (.node [] [] (.node [] [] .nil (.node [] [] .nil (.node [] [] .nil (.node [] [] (.node [] [] .nil .nil) (.node [] [] .nil (.node [] [] .nil .nil)))))) .nil))) .nil)) (.node [] [] (.node [] [] .nil (.node [] [] (.node [] [] .nil .nil) .nil)) (.node [] [] .nil .nil)))))) good mixed Tryz.func59 (by kernel_rfl) (by kernel_rfl) (by kernel_rfl) (by kernel_rfl) (Eq.mp (S59_eq v0 v1 K w) h)

/-- rubric/ops.one -/
def S93 (v0 v1 : Value) (K : Cont) (w : World) : Prop :=
  boxnK 39 v1 (fun t3 w1 =>
  JoinK (fun _vs w2 => ∀ _h : Env,
  faK 3 t3 fun t20 =>
  ld1K t20 (fun t21 w3 =>
  callK Tryz.prog 154 [v0, t21] (fun t22 w4 =>
  neK .i64 t22 (.int .i64 0) fun t24 =>
  condK t24
  (K t22 w4)
  (faK 4 t3 fun t27 =>
  ld1K t27 (fun t28 w5 =>
  callK Tryz.prog 155 [v0, t28] (fun t29 w6 =>
  K t29 w6) w5) w4)) w3) w2) (fun J =>
  ldnK 5 t3 (fun t6 w7 =>
  callK Tryz.prog 152 [t6] (fun t7 w8 =>
  notK t7 fun t8 =>
  condK t8
  (K (.int .i64 3) w8)
  (ldnK 5 t3 (fun t10 w9 =>
  callK Tryz.prog 153 [t10] (fun t11 w10 =>
  ltK .i64 t11 (.int .i64 1) fun t12 =>
  condK t12
  (K (.int .i64 3) w10)
  (ldnK 5 t3 (fun t15 w11 =>
  callK Tryz.prog 153 [t15] (fun t16 w12 =>
  gtK .i64 t16 (.int .i64 536870912) fun t17 =>
  condK t17
  (K (.int .i64 3) w12)
  (J [] w12)) w11) w10)) w9) w8)) w7) w1)) w
theorem S93_eq (v0 v1 : Value) (K : Cont) (w : World) : S93 v0 v1 K w = D Tryz.prog okf 30 (bodyOf Tryz.f93) (.node [] [] .nil (.cut [] [(4, 4), (6, 18)] (.node [] [] .nil (.node [] [] (.node [] [] .nil .nil) .nil)) (.node [] [] (.node [] [] .nil (.node [] [] .nil (.node [] [] (.node [] [] .nil .nil) .nil))) (.node [] [] .nil .nil)))) (retK Tryz.prog [.tmp 4] K) (nth [v0, v1]) w := by kernel_rfl
theorem S93_ok {v0 v1 : Value} {K : Cont} {w : World} (h : S93 v0 v1 K w) : callK Tryz.prog 93 [v0, v1] K w :=
  callK_of (P := Tryz.prog) (ok := okf) (n := 30) (fn := Tryz.f93) (c := bodyOf Tryz.f93) (rs := [.tmp 4]) (an := (.node [] [] .nil (.cut [] [(4, 4), (6, 18)] (.node [] [] .nil (.node [] [] (.node [] [] .nil .nil) .nil)) (.node [] [] (.node [] [] .nil (.node [] [] .nil (.node [] [] (.node [] [] .nil .nil) .nil))) (.node [] [] .nil .nil))))) good mixed Tryz.func93 (by kernel_rfl) (by kernel_rfl) (by kernel_rfl) (by kernel_rfl) (Eq.mp (S93_eq v0 v1 K w) h)

/-- rubric/ops.form -/
def S152 (v0 : Value) (K : Cont) (w : World) : Prop :=
  boxnK 39 v0 (fun t1 w1 =>
  JoinK (fun vs w2 => ∀ _h : Env,
  faK 0 t1 fun t14 =>
  ld1K t14 (fun t15 w3 =>
  eqK .u8 t15 (.int .u8 1) fun t17 =>
  condK t17
  (notK (nth vs 0) fun t19 =>
  K t19 w3)
  (eqK .u8 t15 (.int .u8 3) fun t21 =>
  condK t21
  (notK (nth vs 0) fun t23 =>
  condK t23
  (faK 4 t1 fun t25 =>
  ld1K t25 (fun t26 w4 =>
  lenK t26 fun t27 =>
  eqK .i64 t27 (.int .i64 0) fun t28 =>
  K t28 w4) w3)
  (K (.bool false) w3))
  (eqK .u8 t15 (.int .u8 2) fun t31 =>
  condK t31
  (faK 1 t1 fun t32 =>
  ld1K t32 (fun t33 w5 =>
  eqK .i64 t33 (.int .i64 0) fun t34 =>
  condK t34
  (faK 4 t1 fun t36 =>
  ld1K t36 (fun t37 w6 =>
  lenK t37 fun t38 =>
  eqK .i64 t38 (.int .i64 0) fun t39 =>
  condK t39
  (faK 2 t1 fun t42 =>
  ld1K t42 (fun t43 w7 =>
  callK Tryz.prog 189 [t43, (.func (.func 190) #[] #[])] (fun t44 w8 =>
  notK t44 fun t45 =>
  K t45 w8) w7) w6)
  (K (.bool false) w6)) w5)
  (K (.bool false) w5)) w3)
  (K (.bool false) w3)))) w2) (fun J =>
  faK 2 t1 fun t4 =>
  ld1K t4 (fun t5 w9 =>
  lenK t5 fun t6 =>
  gtK .i64 t6 (.int .i64 0) fun t7 =>
  condK t7
  (J [(.bool true)] w9)
  (faK 3 t1 fun t9 =>
  ld1K t9 (fun t10 w10 =>
  lenK t10 fun t11 =>
  gtK .i64 t11 (.int .i64 0) fun t12 =>
  J [t12] w10) w9)) w1)) w
theorem S152_eq (v0 : Value) (K : Cont) (w : World) : S152 v0 K w = D Tryz.prog okf 47 (bodyOf Tryz.f152) (.node [] [] .nil (.cut [3] [(3, 13)] .nil (.node [] [] (.node [] [] .nil (.node [] [] .nil (.node [] [] (.node [] [] .nil .nil) (.node [] [] .nil (.node [] [] (.node [] [] .nil .nil) (.node [] [] .nil (.node [] [] (.node [] [] .nil .nil) .nil))))))) (.node [] [] .nil .nil)))) (retK Tryz.prog [.tmp 2] K) (nth [v0]) w := by kernel_rfl
theorem S152_ok {v0 : Value} {K : Cont} {w : World} (h : S152 v0 K w) : callK Tryz.prog 152 [v0] K w :=
  callK_of (P := Tryz.prog) (ok := okf) (n := 47) (fn := Tryz.f152) (c := bodyOf Tryz.f152) (rs := [.tmp 2]) (an := (.node [] [] .nil (.cut [3] [(3, 13)] .nil (.node [] [] (.node [] [] .nil (.node [] [] .nil (.node [] [] (.node [] [] .nil .nil) (.node [] [] .nil (.node [] [] (.node [] [] .nil .nil) (.node [] [] .nil (.node [] [] (.node [] [] .nil .nil) .nil))))))) (.node [] [] .nil .nil))))) good mixed Tryz.func152 (by kernel_rfl) (by kernel_rfl) (by kernel_rfl) (by kernel_rfl) (Eq.mp (S152_eq v0 K w) h)

/-- rubric/ops.form$1 -/
def S190 (v0 : Value) (K : Cont) (w : World) : Prop :=
  callK Tryz.prog 159 [v0] (fun t4 w1 =>
  notK t4 fun t5 =>
  K t5 w1) w
theorem S190_eq (v0 : Value) (K : Cont) (w : World) : S190 v0 K w = D Tryz.prog okf 6 (bodyOf Tryz.f190) (.node [] [] .nil (.node [] [] .nil .nil)) (retK Tryz.prog [.tmp 2] K) (nth [v0]) w := by kernel_rfl
theorem S190_ok {v0 : Value} {K : Cont} {w : World} (h : S190 v0 K w) : callK Tryz.prog 190 [v0] K w :=
  callK_of (P := Tryz.prog) (ok := okf) (n := 6) (fn := Tryz.f190) (c := bodyOf Tryz.f190) (rs := [.tmp 2]) (an := (.node [] [] .nil (.node [] [] .nil .nil))) good mixed Tryz.func190 (by kernel_rfl) (by kernel_rfl) (by kernel_rfl) (by kernel_rfl) (Eq.mp (S190_eq v0 K w) h)

/-- rubric/ops.size -/
def S153 (v0 : Value) (K : Cont) (w : World) : Prop :=
  boxnK 39 v0 (fun t1 w1 =>
  faK 0 t1 fun t3 =>
  ld1K t3 (fun t4 w2 =>
  eqK .u8 t4 (.int .u8 2) fun t5 =>
  condK t5
  (faK 2 t1 fun t6 =>
  ld1K t6 (fun t7 w3 =>
  lenK t7 fun t8 =>
  K t8 w3) w2)
  (faK 1 t1 fun t9 =>
  ld1K t9 (fun t10 w4 =>
  K t10 w4) w2)) w1) w
theorem S153_eq (v0 : Value) (K : Cont) (w : World) : S153 v0 K w = D Tryz.prog okf 11 (bodyOf Tryz.f153) (.node [] [] .nil (.node [] [] (.node [] [] .nil (.node [] [] (.node [] [] .nil .nil) .nil)) (.node [] [] .nil .nil))) (retK Tryz.prog [.tmp 2] K) (nth [v0]) w := by kernel_rfl
theorem S153_ok {v0 : Value} {K : Cont} {w : World} (h : S153 v0 K w) : callK Tryz.prog 153 [v0] K w :=
  callK_of (P := Tryz.prog) (ok := okf) (n := 11) (fn := Tryz.f153) (c := bodyOf Tryz.f153) (rs := [.tmp 2]) (an := (.node [] [] .nil (.node [] [] (.node [] [] .nil (.node [] [] (.node [] [] .nil .nil) .nil)) (.node [] [] .nil .nil)))) good mixed Tryz.func153 (by kernel_rfl) (by kernel_rfl) (by kernel_rfl) (by kernel_rfl) (Eq.mp (S153_eq v0 K w) h)

/-- rubric/ops.Takes -/
def S94 (v0 : Value) (K : Cont) (w : World) : Prop :=
  lenK v0 fun t7 =>
  LoopK [(.int .i64 0), (.int .i64 0)] (fun vs again w1 => ∀ _h : Env,
  ltK .i64 (nth vs 1) t7 fun t9 =>
  condK t9
  (ixK 5 v0 (nth vs 1) fun t10 =>
  ldnK 5 t10 (fun t11 w2 =>
  newK 39 [(.int .u8 0), (.int .i64 0), (.slice none 0 0), (.slice none 0 0), (.slice none 0 0)] (fun t5 w3 =>
  stnK 5 t5 t11 (fun w4 =>
  faK 0 t5 fun t12 =>
  ld1K t12 (fun t13 w5 =>
  neK .u8 t13 (.int .u8 2) fun t14 =>
  condK t14
  (faK 1 t5 fun t16 =>
  ld1K t16 (fun t17 w6 =>
  addK .i64 (nth vs 0) t17 fun t18 =>
  addK .i64 (nth vs 1) (.int .i64 1) fun t19 =>
  again [t18, t19] w6) w5)
  (addK .i64 (nth vs 1) (.int .i64 1) fun t19_1 =>
  again [(nth vs 0), t19_1] w5)) w4) w3) w2) w1)
  (K (nth vs 0) w1)) w
theorem S94_eq (v0 : Value) (K : Cont) (w : World) : S94 v0 K w = D Tryz.prog okf 21 (bodyOf Tryz.f94) (.node [] [] .nil (.node [] [] .nil (.node [] [] (.node [] [] .nil (.node [3, 8] [(3, 3), (5, 5), (8, 19)] (.node [] [] .nil (.node [] [] (.node [] [] .nil .nil) (.node [] [] (.node [] [] .nil (.node [] [] .nil (.node [] [] .nil .nil))) .nil))) .nil)) (.node [] [] .nil .nil)))) (retK Tryz.prog [.tmp 2] K) (nth [v0]) w := by kernel_rfl
theorem S94_ok {v0 : Value} {K : Cont} {w : World} (h : S94 v0 K w) : callK Tryz.prog 94 [v0] K w :=
  callK_of (P := Tryz.prog) (ok := okf) (n := 21) (fn := Tryz.f94) (c := bodyOf Tryz.f94) (rs := [.tmp 2]) (an := (.node [] [] .nil (.node [] [] .nil (.node [] [] (.node [] [] .nil (.node [3, 8] [(3, 3), (5, 5), (8, 19)] (.node [] [] .nil (.node [] [] (.node [] [] .nil .nil) (.node [] [] (.node [] [] .nil (.node [] [] .nil (.node [] [] .nil .nil))) .nil))) .nil)) (.node [] [] .nil .nil))))) good mixed Tryz.func94 (by kernel_rfl) (by kernel_rfl) (by kernel_rfl) (by kernel_rfl) (Eq.mp (S94_eq v0 K w) h)

/-- rubric/ops.Makes -/
def S95 (v0 : Value) (K : Cont) (w : World) : Prop :=
  lenK v0 fun t7 =>
  LoopK [(.int .i64 0), (.int .i64 0)] (fun vs again w1 => ∀ _h : Env,
  ltK .i64 (nth vs 1) t7 fun t9 =>
  condK t9
  (ixK 5 v0 (nth vs 1) fun t10 =>
  ldnK 5 t10 (fun t11 w2 =>
  newK 39 [(.int .u8 0), (.int .i64 0), (.slice none 0 0), (.slice none 0 0), (.slice none 0 0)] (fun t5 w3 =>
  stnK 5 t5 t11 (fun w4 =>
  faK 0 t5 fun t12 =>
  ld1K t12 (fun t13 w5 =>
  neK .u8 t13 (.int .u8 3) fun t14 =>
  condK t14
  (ldnK 5 t5 (fun t16 w6 =>
  callK Tryz.prog 153 [t16] (fun t17 w7 =>
  addK .i64 (nth vs 0) t17 fun t18 =>
  addK .i64 (nth vs 1) (.int .i64 1) fun t19 =>
  again [t18, t19] w7) w6) w5)
  (addK .i64 (nth vs 1) (.int .i64 1) fun t19_1 =>
  again [(nth vs 0), t19_1] w5)) w4) w3) w2) w1)
  (K (nth vs 0) w1)) w
theorem S95_eq (v0 : Value) (K : Cont) (w : World) : S95 v0 K w = D Tryz.prog okf 21 (bodyOf Tryz.f95) (.node [] [] .nil (.node [] [] .nil (.node [] [] (.node [] [] .nil (.node [3, 8] [(3, 3), (5, 5), (8, 19)] (.node [] [] .nil (.node [] [] (.node [] [] .nil .nil) (.node [] [] (.node [] [] .nil (.node [] [] .nil (.node [] [] .nil .nil))) .nil))) .nil)) (.node [] [] .nil .nil)))) (retK Tryz.prog [.tmp 2] K) (nth [v0]) w := by kernel_rfl
theorem S95_ok {v0 : Value} {K : Cont} {w : World} (h : S95 v0 K w) : callK Tryz.prog 95 [v0] K w :=
  callK_of (P := Tryz.prog) (ok := okf) (n := 21) (fn := Tryz.f95) (c := bodyOf Tryz.f95) (rs := [.tmp 2]) (an := (.node [] [] .nil (.node [] [] .nil (.node [] [] (.node [] [] .nil (.node [3, 8] [(3, 3), (5, 5), (8, 19)] (.node [] [] .nil (.node [] [] (.node [] [] .nil .nil) (.node [] [] (.node [] [] .nil (.node [] [] .nil (.node [] [] .nil .nil))) .nil))) .nil)) (.node [] [] .nil .nil))))) good mixed Tryz.func95 (by kernel_rfl) (by kernel_rfl) (by kernel_rfl) (by kernel_rfl) (Eq.mp (S95_eq v0 K w) h)

/-- rubric/runes.May -/
def S159 (v0 : Value) (K : Cont) (w : World) : Prop :=
  callK Tryz.prog 195 [v0] (fun t4 w1 =>
  K t4 w1) w
theorem S159_eq (v0 : Value) (K : Cont) (w : World) : S159 v0 K w = D Tryz.prog okf 5 (bodyOf Tryz.f159) (.node [] [] .nil (.node [] [] .nil .nil)) (retK Tryz.prog [.tmp 2] K) (nth [v0]) w := by kernel_rfl
theorem S159_ok {v0 : Value} {K : Cont} {w : World} (h : S159 v0 K w) : callK Tryz.prog 159 [v0] K w :=
  callK_of (P := Tryz.prog) (ok := okf) (n := 5) (fn := Tryz.f159) (c := bodyOf Tryz.f159) (rs := [.tmp 2]) (an := (.node [] [] .nil (.node [] [] .nil .nil))) good mixed Tryz.func159 (by kernel_rfl) (by kernel_rfl) (by kernel_rfl) (by kernel_rfl) (Eq.mp (S159_eq v0 K w) h)

/-- unicode/utf8.ValidRune -/
def S195 (v0 : Value) (K : Cont) (w : World) : Prop :=
  leK .i32 (.int .i32 0) v0 fun t5 =>
  condK t5
  (ltK .i32 v0 (.int .i32 55296) fun t8 =>
  condK t8
  (K (.bool true) w)
  (ltK .i32 (.int .i32 57343) v0 fun t12 =>
  condK t12
  (leK .i32 v0 (.int .i32 1114111) fun t15 =>
  condK t15
  (K (.bool true) w)
  (K (.bool false) w))
  (K (.bool false) w)))
  (ltK .i32 (.int .i32 57343) v0 fun t12_1 =>
  condK t12_1
  (leK .i32 v0 (.int .i32 1114111) fun t15_1 =>
  condK t15_1
  (K (.bool true) w)
  (K (.bool false) w))
  (K (.bool false) w))
theorem S195_eq (v0 : Value) (K : Cont) (w : World) : S195 v0 K w = D Tryz.prog okf 17 (bodyOf Tryz.f195) (.node [] [] .nil (.node [] [] (.node [] [] .nil (.node [] [] (.node [] [] .nil .nil) (.node [] [] .nil (.node [] [] (.node [] [] .nil .nil) .nil)))) (.node [] [] .nil .nil))) (retK Tryz.prog [.tmp 2] K) (nth [v0]) w := by kernel_rfl
theorem S195_ok {v0 : Value} {K : Cont} {w : World} (h : S195 v0 K w) : callK Tryz.prog 195 [v0] K w :=
  callK_of (P := Tryz.prog) (ok := okf) (n := 17) (fn := Tryz.f195) (c := bodyOf Tryz.f195) (rs := [.tmp 2]) (an := (.node [] [] .nil (.node [] [] (.node [] [] .nil (.node [] [] (.node [] [] .nil .nil) (.node [] [] .nil (.node [] [] (.node [] [] .nil .nil) .nil)))) (.node [] [] .nil .nil)))) good mixed Tryz.func195 (by kernel_rfl) (by kernel_rfl) (by kernel_rfl) (by kernel_rfl) (Eq.mp (S195_eq v0 K w) h)

/-- slices.ContainsFunc[[]int32,int32] -/
def S189 (v0 v1 : Value) (K : Cont) (w : World) : Prop :=
  callK Tryz.prog 205 [v0, v1] (fun t7 w1 =>
  geK .i64 t7 (.int .i64 0) fun t8 =>
  K t8 w1) w
theorem S189_eq (v0 v1 : Value) (K : Cont) (w : World) : S189 v0 v1 K w = D Tryz.prog okf 9 (bodyOf Tryz.f189) (.node [] [] .nil (.node [] [] .nil .nil)) (retK Tryz.prog [.tmp 4] K) (nth [v0, v1]) w := by kernel_rfl
theorem S189_ok {v0 v1 : Value} {K : Cont} {w : World} (h : S189 v0 v1 K w) : callK Tryz.prog 189 [v0, v1] K w :=
  callK_of (P := Tryz.prog) (ok := okf) (n := 9) (fn := Tryz.f189) (c := bodyOf Tryz.f189) (rs := [.tmp 4]) (an := (.node [] [] .nil (.node [] [] .nil .nil))) good mixed Tryz.func189 (by kernel_rfl) (by kernel_rfl) (by kernel_rfl) (by kernel_rfl) (Eq.mp (S189_eq v0 v1 K w) h)

/-- slices.IndexFunc[[]int32,int32] -/
def S205 (v0 v1 : Value) (K : Cont) (w : World) : Prop :=
  lenK v0 fun t7 =>
  LoopK [(.int .i64 0)] (fun vs again w1 => ∀ _h : Env,
  ltK .i64 (nth vs 0) t7 fun t9 =>
  condK t9
  (ixK 1 v0 (nth vs 0) fun t14 =>
  ld1K t14 (fun t15 w2 =>
  callyK Tryz.prog okf v1 [t15] (fun t16 w3 =>
  condK t16
  (K (nth vs 0) w3)
  (addK .i64 (nth vs 0) (.int .i64 1) fun t18 =>
  again [t18] w3)) w2) w1)
  (K (.int .i64 (-1)) w1)) w
theorem S205_eq (v0 v1 : Value) (K : Cont) (w : World) : S205 v0 v1 K w = D Tryz.prog okf 19 (bodyOf Tryz.f205) (.node [] [] .nil (.node [] [] (.node [] [] .nil (.node [8] [(4, 5), (8, 18)] (.node [] [] .nil (.node [] [] (.node [] [] .nil .nil) (.node [] [] (.node [] [] .nil (.node [] [] .nil (.node [] [] (.node [] [] .nil .nil) .nil))) .nil))) .nil)) (.node [] [] .nil .nil))) (retK Tryz.prog [.tmp 4] K) (nth [v0, v1]) w := by kernel_rfl
theorem S205_ok {v0 v1 : Value} {K : Cont} {w : World} (h : S205 v0 v1 K w) : callK Tryz.prog 205 [v0, v1] K w :=
  callK_of (P := Tryz.prog) (ok := okf) (n := 19) (fn := Tryz.f205) (c := bodyOf Tryz.f205) (rs := [.tmp 4]) (an := (.node [] [] .nil (.node [] [] (.node [] [] .nil (.node [8] [(4, 5), (8, 18)] (.node [] [] .nil (.node [] [] (.node [] [] .nil .nil) (.node [] [] (.node [] [] .nil (.node [] [] .nil (.node [] [] (.node [] [] .nil .nil) .nil))) .nil))) .nil)) (.node [] [] .nil .nil)))) good mixed Tryz.func205 (by kernel_rfl) (by kernel_rfl) (by kernel_rfl) (by kernel_rfl) (Eq.mp (S205_eq v0 v1 K w) h)

/-- rubric/patch.May -/
def S155 (v0 v1 : Value) (K : Cont) (w : World) : Prop :=
  lenK v1 fun t11 =>
  gtK .i64 t11 (.int .i64 64) fun t12 =>
  condK t12
  (K (.int .i64 3) w)
  (lenK v1 fun t14 =>
  LoopK [(.int .i64 0), (.int .i64 0)] (fun vs again w1 => ∀ _h : Env,
  ltK .i64 (nth vs 1) t14 fun t16 =>
  condK t16
  (JoinK (fun vs_1 w2 => ∀ _h_1 : Env,
  addK .i64 (nth vs 1) (.int .i64 1) fun t75 =>
  again [(nth vs_1 0), t75] w2) (fun J =>
  ixK 6 v1 (nth vs 1) fun t18 =>
  ldnK 6 t18 (fun t19 w3 =>
  newK 111 [(.int .i64 0), (.bool false), (.int .u8 0), (.int .i64 0), (.int .u64 0), (.string (ByteArray.mk #[]))] (fun t7 w4 =>
  stnK 6 t7 t19 (fun w5 =>
  faK 0 t7 fun t22 =>
  ld1K t22 (fun t23 w6 =>
  callK Tryz.prog 193 [v0, t23] (fun t24 w7 =>
  extK 0 t24 fun t25 =>
  extK 1 t24 fun t26 =>
  newK 84 [(.int .i64 0), (.bool false), (.int .u8 0), (.bool false), (.bool false), (.int .i64 0)] (fun t8 w8 =>
  stnK 6 t8 t25 (fun w9 =>
  JoinK (fun vs_2 w10 => ∀ _h_2 : Env,
  condK (nth vs_2 0)
  (K (.int .i64 3) w10)
  (notK t26 fun t60 =>
  condK t60
  (J [(.int .i64 4)] w10)
  (faK 1 t7 fun t62 =>
  ld1K t62 (fun t63 w11 =>
  notK t63 fun t64 =>
  condK t64
  (faK 0 t7 fun t67 =>
  ld1K t67 (fun t68 w12 =>
  faK 2 t7 fun t69 =>
  ldnK 4 t69 (fun t70 w13 =>
  callK Tryz.prog 192 [v0, t68, t70] (fun t71 w14 =>
  notK t71 fun t72 =>
  condK t72
  (J [(.int .i64 4)] w14)
  (J [(nth vs 0)] w14)) w13) w12) w11)
  (J [(nth vs 0)] w11)) w10))) (fun J_1 =>
  JoinK (fun vs_3 w15 => ∀ _h_3 : Env,
  condK (nth vs_3 0)
  (J_1 [(nth vs_3 0)] w15)
  (faK 1 t7 fun t41 =>
  ld1K t41 (fun t42 w16 =>
  condK t42
  (faK 2 t7 fun t44 =>
  ldnK 4 t44 (fun t45 w17 =>
  buildK [(0, 1), (1, 1), (2, 1), (3, 1)] [(.int .u8 0), (.int .i64 0), (.int .u64 0), (.string (ByteArray.mk #[]))] [] fun t46 =>
  runK Tryz.prog (binS .neq 107 (.tmp 45) (.tmp 46) t45 t46) (fun t47 w18 =>
  condK t47
  (J_1 [t47] w18)
  (faK 1 t7 fun t49 =>
  ld1K t49 (fun t50 w19 =>
  notK t50 fun t51 =>
  condK t51
  (faK 2 t7 fun t53 =>
  ldnK 4 t53 (fun t54 w20 =>
  callK Tryz.prog 191 [t54] (fun t55 w21 =>
  notK t55 fun t56 =>
  J_1 [t56] w21) w20) w19)
  (J_1 [(.bool false)] w19)) w18)) w17) w16)
  (faK 1 t7 fun t49_1 =>
  ld1K t49_1 (fun t50_1 w22 =>
  notK t50_1 fun t51_1 =>
  condK t51_1
  (faK 2 t7 fun t53_1 =>
  ldnK 4 t53_1 (fun t54_1 w23 =>
  callK Tryz.prog 191 [t54_1] (fun t55_1 w24 =>
  notK t55_1 fun t56_1 =>
  J_1 [t56_1] w24) w23) w22)
  (J_1 [(.bool false)] w22)) w16)) w15)) (fun J_2 =>
  DrawK w9 (fun C =>
  gtK .i64 (nth vs 1) (.int .i64 0) fun t29 =>
  condK t29
  (subK .i64 (nth vs 1) (.int .i64 1) fun t33 =>
  ixK 6 v1 t33 fun t34 =>
  faK 0 t34 fun t35 =>
  qld1K C t35 fun t36 =>
  faK 0 t7 fun t37 =>
  qld1K C t37 fun t38 =>
  geK .i64 t36 t38 fun t39 =>
  ∀ w25 : World, C w25 →
  J_2 [t39] w25)
  (∀ w26 : World, C w26 →
  J_2 [(.bool false)] w26))))) w8) w7) w6) w5) w4) w3) w1))
  (K (nth vs 0) w1)) w)
theorem S155_eq (v0 v1 : Value) (K : Cont) (w : World) : S155 v0 v1 K w = D Tryz.prog okf 77 (bodyOf Tryz.f155) (.node [] [] .nil (.node [] [] (.node [] [] .nil (.node [] [] (.node [] [] .nil .nil) .nil)) (.node [] [] .nil (.node [] [] (.node [] [] .nil (.node [5, 15] [(4, 9), (15, 75)] (.node [] [] .nil (.node [] [] (.node [] [] .nil .nil) (.cut [5] [(4, 9), (17, 74)] (.node [] [] .nil (.node [] [] .nil (.cut [27] [(27, 57)] (.cut [27] [(27, 40)] .draw (.node [] [] .nil (.node [] [] .nil (.node [] [] .nil .nil)))) (.node [] [] (.node [] [] .nil .nil) (.node [] [] .nil (.node [] [] .nil .nil)))))) .nil))) .nil)) (.node [] [] .nil .nil))))) (retK Tryz.prog [.tmp 4] K) (nth [v0, v1]) w := by kernel_rfl
theorem S155_ok {v0 v1 : Value} {K : Cont} {w : World} (h : S155 v0 v1 K w) : callK Tryz.prog 155 [v0, v1] K w :=
  callK_of (P := Tryz.prog) (ok := okf) (n := 77) (fn := Tryz.f155) (c := bodyOf Tryz.f155) (rs := [.tmp 4]) (an := (.node [] [] .nil (.node [] [] (.node [] [] .nil (.node [] [] (.node [] [] .nil .nil) .nil)) (.node [] [] .nil (.node [] [] (.node [] [] .nil (.node [5, 15] [(4, 9), (15, 75)] (.node [] [] .nil (.node [] [] (.node [] [] .nil .nil) (.cut [5] [(4, 9), (17, 74)] (.node [] [] .nil (.node [] [] .nil (.cut [27] [(27, 57)] (.cut [27] [(27, 40)] .draw (.node [] [] .nil (.node [] [] .nil (.node [] [] .nil .nil)))) (.node [] [] (.node [] [] .nil .nil) (.node [] [] .nil (.node [] [] .nil .nil)))))) .nil))) .nil)) (.node [] [] .nil .nil)))))) good mixed Tryz.func155 (by kernel_rfl) (by kernel_rfl) (by kernel_rfl) (by kernel_rfl) (Eq.mp (S155_eq v0 v1 K w) h)

/-- rubric/patch.Compose -/
def S185 (v0 v1 : Value) (K : Cont) (w : World) : Prop :=
  lenK v1 fun t10 =>
  LoopK [(.slice none 0 0), (.int .i64 0), (.int .i64 0)] (fun vs again w1 => ∀ _h : Env,
  ltK .i64 (nth vs 2) t10 fun t12 =>
  condK t12
  (ixK 6 v1 (nth vs 2) fun t13 =>
  ldnK 6 t13 (fun t14 w2 =>
  newK 111 [(.int .i64 0), (.bool false), (.int .u8 0), (.int .i64 0), (.int .u64 0), (.string (ByteArray.mk #[]))] (fun t8 w3 =>
  stnK 6 t8 t14 (fun w4 =>
  JoinK (fun vs_1 w5 => ∀ _h_1 : Env,
  ldnK 6 t8 (fun t47 w6 =>
  rowK 111 6 1 [(.int .i64 0), (.bool false), (.int .u8 0), (.int .i64 0), (.int .u64 0), (.string (ByteArray.mk #[]))] [(0, t47)] (fun t48 w7 =>
  runK Tryz.prog (Builtin.append_ #[37, 37] 37 [(nth vs_1 0), t48].toArray) (fun t49 w8 =>
  addK .i64 (nth vs 2) (.int .i64 1) fun t50 =>
  again [t49, (nth vs_1 1), t50] w8) w7) w6) w5) (fun J =>
  LoopK [(nth vs 0), (nth vs 1)] (fun vs_2 again_1 w9 => ∀ _h_2 : Env,
  JoinK (fun _vs_3 w10 => ∀ _h_3 : Env,
  DrawK w10 (fun C =>
  ixK 6 v0 (nth vs_2 1) fun t33 =>
  faK 0 t33 fun t34 =>
  qld1K C t34 fun t35 =>
  faK 0 t8 fun t36 =>
  qld1K C t36 fun t37 =>
  ltK .i64 t35 t37 fun t38 =>
  ∀ w11 : World, C w11 →
  condK t38
  (ixK 6 v0 (nth vs_2 1) fun t42 =>
  ldnK 6 t42 (fun t43 w12 =>
  rowK 111 6 1 [(.int .i64 0), (.bool false), (.int .u8 0), (.int .i64 0), (.int .u64 0), (.string (ByteArray.mk #[]))] [(0, t43)] (fun t44 w13 =>
  runK Tryz.prog (Builtin.append_ #[37, 37] 37 [(nth vs_2 0), t44].toArray) (fun t45 w14 =>
  addK .i64 (nth vs_2 1) (.int .i64 1) fun t30 =>
  again_1 [t45, t30] w14) w13) w12) w11)
  (addK .i64 (nth vs_2 1) (.int .i64 1) fun t30_1 =>
  again_1 [(nth vs_2 0), t30_1] w11))) (fun J_1 =>
  DrawK w9 (fun C_1 =>
  lenK v0 fun t17 =>
  ltK .i64 (nth vs_2 1) t17 fun t18 =>
  condK t18
  (ixK 6 v0 (nth vs_2 1) fun t22 =>
  faK 0 t22 fun t23 =>
  qld1K C_1 t23 fun t24 =>
  faK 0 t8 fun t25 =>
  qld1K C_1 t25 fun t26 =>
  leK .i64 t24 t26 fun t27 =>
  ∀ w15 : World, C_1 w15 →
  condK t27
  (J_1 [] w15)
  (J [(nth vs_2 0), (nth vs_2 1)] w15))
  (∀ w16 : World, C_1 w16 →
  J [(nth vs_2 0), (nth vs_2 1)] w16)))) w4)) w3) w2) w1)
  (runK Tryz.prog (Instr.sliceAt 37 v0 (some (nth vs 1)) none none) (fun t54 w17 =>
  runK Tryz.prog (Builtin.append_ #[37, 37] 37 [(nth vs 0), t54].toArray) (fun t55 w18 =>
  K t55 w18) w17) w1)) w
theorem S185_eq (v0 v1 : Value) (K : Cont) (w : World) : S185 v0 v1 K w = D Tryz.prog okf 56 (bodyOf Tryz.f185) (.node [] [] .nil (.node [] [] .nil (.node [] [] .nil (.node [] [] (.node [] [] .nil (.node [5, 6, 11] [(5, 6), (8, 8), (11, 50)] (.node [] [] .nil (.node [] [] (.node [] [] .nil .nil) (.node [] [] (.node [] [] .nil (.cut [5, 6] [(5, 6), (15, 45)] (.node [5, 6] [(5, 6), (15, 45)] (.cut [] [(15, 28)] (.node [] [] .draw (.node [] [] .nil .nil)) (.node [] [] (.node [] [] .draw (.node [] [] .nil .nil)) .nil)) .nil) .nil)) .nil))) .nil)) (.node [] [] .nil .nil))))) (retK Tryz.prog [.tmp 4] K) (nth [v0, v1]) w := by kernel_rfl
theorem S185_ok {v0 v1 : Value} {K : Cont} {w : World} (h : S185 v0 v1 K w) : callK Tryz.prog 185 [v0, v1] K w :=
  callK_of (P := Tryz.prog) (ok := okf) (n := 56) (fn := Tryz.f185) (c := bodyOf Tryz.f185) (rs := [.tmp 4]) (an := (.node [] [] .nil (.node [] [] .nil (.node [] [] .nil (.node [] [] (.node [] [] .nil (.node [5, 6, 11] [(5, 6), (8, 8), (11, 50)] (.node [] [] .nil (.node [] [] (.node [] [] .nil .nil) (.node [] [] (.node [] [] .nil (.cut [5, 6] [(5, 6), (15, 45)] (.node [5, 6] [(5, 6), (15, 45)] (.cut [] [(15, 28)] (.node [] [] .draw (.node [] [] .nil .nil)) (.node [] [] (.node [] [] .draw (.node [] [] .nil .nil)) .nil)) .nil) .nil)) .nil))) .nil)) (.node [] [] .nil .nil)))))) good mixed Tryz.func185 (by kernel_rfl) (by kernel_rfl) (by kernel_rfl) (by kernel_rfl) (Eq.mp (S185_eq v0 v1 K w) h)

/-- rubric/patch.Apply -/
def S203 (v0 v1 : Value) (K : Cont) (w : World) : Prop :=
  lenK v1 fun t10 =>
  LoopK [(.slice none 0 0), (.int .i64 0), (.int .i64 0)] (fun vs again w1 => ∀ _h : Env,
  ltK .i64 (nth vs 2) t10 fun t12 =>
  condK t12
  (JoinK (fun vs_1 w2 => ∀ _h_1 : Env,
  addK .i64 (nth vs 2) (.int .i64 1) fun t70 =>
  again [(nth vs_1 0), (nth vs_1 1), t70] w2) (fun J =>
  ixK 6 v1 (nth vs 2) fun t13 =>
  ldnK 6 t13 (fun t14 w3 =>
  newK 111 [(.int .i64 0), (.bool false), (.int .u8 0), (.int .i64 0), (.int .u64 0), (.string (ByteArray.mk #[]))] (fun t8 w4 =>
  stnK 6 t8 t14 (fun w5 =>
  LoopK [(nth vs 0), (nth vs 1)] (fun vs_2 again_1 w6 => ∀ _h_2 : Env,
  lenK v0 fun t17 =>
  ltK .i64 (nth vs_2 1) t17 fun t18 =>
  condK t18
  (JoinK (fun vs_3 w7 => ∀ _h_3 : Env,
  faK 1 t8 fun t48 =>
  ld1K t48 (fun t49 w8 =>
  notK t49 fun t50 =>
  condK t50
  (faK 0 t8 fun t52 =>
  ld1K t52 (fun t53 w9 =>
  faK 2 t8 fun t54 =>
  ldnK 4 t54 (fun t55 w10 =>
  buildK [(0, 1), (1, 4)] [(.int .i64 0), (.int .u8 0), (.int .i64 0), (.int .u64 0), (.string (ByteArray.mk #[]))] [(0, t53), (1, t55)] fun t56 =>
  rowK 109 5 1 [(.int .i64 0), (.int .u8 0), (.int .i64 0), (.int .u64 0), (.string (ByteArray.mk #[]))] [(0, t56)] (fun t57 w11 =>
  runK Tryz.prog (Builtin.append_ #[36, 36] 36 [(nth vs_3 0), t57].toArray) (fun t58 w12 =>
  J [t58, (nth vs_3 1)] w12) w11) w10) w9) w8)
  (J [(nth vs_3 0), (nth vs_3 1)] w8)) w7) (fun J_1 =>
  DrawK w6 (fun C =>
  ixK 5 v0 (nth vs_2 1) fun t24 =>
  faK 0 t24 fun t25 =>
  qld1K C t25 fun t26 =>
  faK 0 t8 fun t27 =>
  qld1K C t27 fun t28 =>
  ltK .i64 t26 t28 fun t29 =>
  ∀ w13 : World, C w13 →
  condK t29
  (ixK 5 v0 (nth vs_2 1) fun t33 =>
  ldnK 5 t33 (fun t34 w14 =>
  rowK 109 5 1 [(.int .i64 0), (.int .u8 0), (.int .i64 0), (.int .u64 0), (.string (ByteArray.mk #[]))] [(0, t34)] (fun t35 w15 =>
  runK Tryz.prog (Builtin.append_ #[36, 36] 36 [(nth vs_2 0), t35].toArray) (fun t36 w16 =>
  addK .i64 (nth vs_2 1) (.int .i64 1) fun t20 =>
  again_1 [t36, t20] w16) w15) w14) w13)
  (DrawK w13 (fun C_1 =>
  ixK 5 v0 (nth vs_2 1) fun t40 =>
  faK 0 t40 fun t41 =>
  qld1K C_1 t41 fun t42 =>
  faK 0 t8 fun t43 =>
  qld1K C_1 t43 fun t44 =>
  eqK .i64 t42 t44 fun t45 =>
  ∀ w17 : World, C_1 w17 →
  condK t45
  (addK .i64 (nth vs_2 1) (.int .i64 1) fun t47 =>
  J_1 [(nth vs_2 0), t47] w17)
  (J_1 [(nth vs_2 0), (nth vs_2 1)] w17))))))
  (faK 1 t8 fun t59 =>
  ld1K t59 (fun t60 w18 =>
  notK t60 fun t61 =>
  condK t61
  (faK 0 t8 fun t63 =>
  ld1K t63 (fun t64 w19 =>
  faK 2 t8 fun t65 =>
  ldnK 4 t65 (fun t66 w20 =>
  buildK [(0, 1), (1, 4)] [(.int .i64 0), (.int .u8 0), (.int .i64 0), (.int .u64 0), (.string (ByteArray.mk #[]))] [(0, t64), (1, t66)] fun t67 =>
  rowK 109 5 1 [(.int .i64 0), (.int .u8 0), (.int .i64 0), (.int .u64 0), (.string (ByteArray.mk #[]))] [(0, t67)] (fun t68 w21 =>
  runK Tryz.prog (Builtin.append_ #[36, 36] 36 [(nth vs_2 0), t68].toArray) (fun t69 w22 =>
  J [t69, (nth vs_2 1)] w22) w21) w20) w19) w18)
  (J [(nth vs_2 0), (nth vs_2 1)] w18)) w6)) w5) w4) w3) w1))
  (runK Tryz.prog (Instr.sliceAt 36 v0 (some (nth vs 1)) none none) (fun t74 w23 =>
  runK Tryz.prog (Builtin.append_ #[36, 36] 36 [(nth vs 0), t74].toArray) (fun t75 w24 =>
  K t75 w24) w23) w1)) w
theorem S203_eq (v0 v1 : Value) (K : Cont) (w : World) : S203 v0 v1 K w = D Tryz.prog okf 76 (bodyOf Tryz.f203) (.node [] [] .nil (.node [] [] .nil (.node [] [] .nil (.node [] [] .nil (.node [] [] (.node [] [] .nil (.node [5, 6, 11] [(5, 6), (8, 8), (11, 70)] (.node [] [] .nil (.node [] [] (.node [] [] .nil .nil) (.cut [5, 6] [(5, 6), (8, 8), (13, 69)] (.node [] [] .nil (.node [] [] (.node [5, 6] [(5, 6), (15, 58)] (.node [] [] (.node [] [] .nil (.node [] [] .nil .nil)) (.node [] [] (.cut [5, 6] [(5, 6), (21, 47)] (.node [] [] .draw (.node [] [] (.node [] [] .nil .nil) (.node [] [] .draw (.node [] [] .nil .nil)))) (.node [] [] (.node [] [] .nil (.node [] [] .nil .nil)) .nil)) .nil)) .nil) (.node [] [] .nil (.node [] [] .nil .nil)))) .nil))) .nil)) (.node [] [] .nil .nil)))))) (retK Tryz.prog [.tmp 4] K) (nth [v0, v1]) w := by kernel_rfl
theorem S203_ok {v0 v1 : Value} {K : Cont} {w : World} (h : S203 v0 v1 K w) : callK Tryz.prog 203 [v0, v1] K w :=
  callK_of (P := Tryz.prog) (ok := okf) (n := 76) (fn := Tryz.f203) (c := bodyOf Tryz.f203) (rs := [.tmp 4]) (an := (.node [] [] .nil (.node [] [] .nil (.node [] [] .nil (.node [] [] .nil (.node [] [] (.node [] [] .nil (.node [5, 6, 11] [(5, 6), (8, 8), (11, 70)] (.node [] [] .nil (.node [] [] (.node [] [] .nil .nil) (.cut [5, 6] [(5, 6), (8, 8), (13, 69)] (.node [] [] .nil (.node [] [] (.node [5, 6] [(5, 6), (15, 58)] (.node [] [] (.node [] [] .nil (.node [] [] .nil .nil)) (.node [] [] (.cut [5, 6] [(5, 6), (21, 47)] (.node [] [] .draw (.node [] [] (.node [] [] .nil .nil) (.node [] [] .draw (.node [] [] .nil .nil)))) (.node [] [] (.node [] [] .nil (.node [] [] .nil .nil)) .nil)) .nil)) .nil) (.node [] [] .nil (.node [] [] .nil .nil)))) .nil))) .nil)) (.node [] [] .nil .nil))))))) good mixed Tryz.func203 (by kernel_rfl) (by kernel_rfl) (by kernel_rfl) (by kernel_rfl) (Eq.mp (S203_eq v0 v1 K w) h)

/-- rubric/patch.Part -/
def S204 (v0 v1 v2 : Value) (K : Cont) (w : World) : Prop :=
  box1K 23 v0 (fun t3 w1 =>
  box1K 4 v2 (fun t5 w2 =>
  callK Tryz.prog 140 [v1] (fun t8 w3 =>
  callK Tryz.prog 214 [t8, (.func (.func 215) #[] #[t3, t5])] (fun t10 w4 =>
  K t10 w4) w3) w2) w1) w
theorem S204_eq (v0 v1 v2 : Value) (K : Cont) (w : World) : S204 v0 v1 v2 K w = D Tryz.prog okf 11 (bodyOf Tryz.f204) (.node [] [] .nil (.node [] [] .nil .nil)) (retK Tryz.prog [.tmp 6] K) (nth [v0, v1, v2]) w := by kernel_rfl
theorem S204_ok {v0 v1 v2 : Value} {K : Cont} {w : World} (h : S204 v0 v1 v2 K w) : callK Tryz.prog 204 [v0, v1, v2] K w :=
  callK_of (P := Tryz.prog) (ok := okf) (n := 11) (fn := Tryz.f204) (c := bodyOf Tryz.f204) (rs := [.tmp 6]) (an := (.node [] [] .nil (.node [] [] .nil .nil))) good mixed Tryz.func204 (by kernel_rfl) (by kernel_rfl) (by kernel_rfl) (by kernel_rfl) (Eq.mp (S204_eq v0 v1 v2 K w) h)

/-- rubric/patch.Part$1 -/
def S215 (v0 v1 v2 : Value) (K : Cont) (w : World) : Prop :=
  boxnK 111 v0 (fun t3 w1 =>
  ld1K v1 (fun t8 w2 =>
  faK 0 t3 fun t9 =>
  ld1K t9 (fun t10 w3 =>
  callK Tryz.prog 193 [t8, t10] (fun t11 w4 =>
  extK 0 t11 fun t12 =>
  extK 1 t11 fun t13 =>
  newK 84 [(.int .i64 0), (.bool false), (.int .u8 0), (.bool false), (.bool false), (.int .i64 0)] (fun t5 w5 =>
  stnK 6 t5 t12 (fun w6 =>
  notK t13 fun t15 =>
  condK t15
  (K (.bool true) w6)
  (faK 1 t5 fun t17 =>
  ld1K t17 (fun t18 w7 =>
  ld1K v2 (fun t19 w8 =>
  bneK t18 t19 fun t20 =>
  K t20 w8) w7) w6)) w5) w4) w3) w2) w1) w
theorem S215_eq (v0 v1 v2 : Value) (K : Cont) (w : World) : S215 v0 v1 v2 K w = D Tryz.prog okf 22 (bodyOf Tryz.f215) (.node [] [] .nil (.node [] [] .nil (.node [] [] .nil .nil))) (retK Tryz.prog [.tmp 4] K) (nth [v0, v1, v2]) w := by kernel_rfl
theorem S215_ok {v0 v1 v2 : Value} {K : Cont} {w : World} (h : S215 v0 v1 v2 K w) : callK Tryz.prog 215 [v0, v1, v2] K w :=
  callK_of (P := Tryz.prog) (ok := okf) (n := 22) (fn := Tryz.f215) (c := bodyOf Tryz.f215) (rs := [.tmp 4]) (an := (.node [] [] .nil (.node [] [] .nil (.node [] [] .nil .nil)))) good mixed Tryz.func215 (by kernel_rfl) (by kernel_rfl) (by kernel_rfl) (by kernel_rfl) (Eq.mp (S215_eq v0 v1 v2 K w) h)

/-- slices.DeleteFunc[[]rubric/api.Change,rubric/api.Change] -/
def S214 (v0 v1 : Value) (K : Cont) (w : World) : Prop :=
  callK Tryz.prog 218 [v0, v1] (fun t10 w1 =>
  eqK .i64 t10 (.int .i64 (-1)) fun t12 =>
  condK t12
  (K v0 w1)
  (addK .i64 t10 (.int .i64 1) fun t15 =>
  LoopK [t10, t15] (fun vs again w2 => ∀ _h : Env,
  lenK v0 fun t18 =>
  ltK .i64 (nth vs 1) t18 fun t19 =>
  condK t19
  (ixK 6 v0 (nth vs 1) fun t24 =>
  ldnK 6 t24 (fun t25 w3 =>
  newK 111 [(.int .i64 0), (.bool false), (.int .u8 0), (.int .i64 0), (.int .u64 0), (.string (ByteArray.mk #[]))] (fun t7 w4 =>
  stnK 6 t7 t25 (fun w5 =>
  ldnK 6 t7 (fun t27 w6 =>
  callyK Tryz.prog okf v1 [t27] (fun t28 w7 =>
  notK t28 fun t29 =>
  condK t29
  (ldnK 6 t7 (fun t32 w8 =>
  ixK 6 v0 (nth vs 0) fun t33 =>
  stnK 6 t33 t32 (fun w9 =>
  addK .i64 (nth vs 0) (.int .i64 1) fun t35 =>
  addK .i64 (nth vs 1) (.int .i64 1) fun t21 =>
  again [t35, t21] w9) w8) w7)
  (addK .i64 (nth vs 1) (.int .i64 1) fun t21_1 =>
  again [(nth vs 0), t21_1] w7)) w6) w5) w4) w3) w2)
  (runK Tryz.prog (Instr.sliceAt 37 v0 (some (nth vs 0)) none none) (fun t38 w10 =>
  runK Tryz.prog (Builtin.clear_ #[37] 0 [t38].toArray) (fun _u w11 =>
  runK Tryz.prog (Instr.sliceAt 37 v0 none (some (nth vs 0)) none) (fun t41 w12 =>
  K t41 w12) w11) w10) w2)) w1)) w
theorem S214_eq (v0 v1 : Value) (K : Cont) (w : World) : S214 v0 v1 K w = D Tryz.prog okf 42 (bodyOf Tryz.f214) (.node [] [] .nil (.node [] [] .nil (.node [] [] (.node [] [] .nil (.node [] [] (.node [] [] .nil .nil) .nil)) (.node [] [] (.node [] [] .nil (.node [5, 6] [(5, 7), (16, 35)] (.node [] [] (.node [] [] .nil (.node [] [] .nil .nil)) (.node [] [] (.node [] [] .nil (.node [] [] .nil (.node [] [] (.node [] [] .nil .nil) .nil))) .nil)) .nil)) (.node [] [] .nil (.node [] [] .nil .nil)))))) (retK Tryz.prog [.tmp 4] K) (nth [v0, v1]) w := by kernel_rfl
theorem S214_ok {v0 v1 : Value} {K : Cont} {w : World} (h : S214 v0 v1 K w) : callK Tryz.prog 214 [v0, v1] K w :=
  callK_of (P := Tryz.prog) (ok := okf) (n := 42) (fn := Tryz.f214) (c := bodyOf Tryz.f214) (rs := [.tmp 4]) (an := (.node [] [] .nil (.node [] [] .nil (.node [] [] (.node [] [] .nil (.node [] [] (.node [] [] .nil .nil) .nil)) (.node [] [] (.node [] [] .nil (.node [5, 6] [(5, 7), (16, 35)] (.node [] [] (.node [] [] .nil (.node [] [] .nil .nil)) (.node [] [] (.node [] [] .nil (.node [] [] .nil (.node [] [] (.node [] [] .nil .nil) .nil))) .nil)) .nil)) (.node [] [] .nil (.node [] [] .nil .nil))))))) good mixed Tryz.func214 (by kernel_rfl) (by kernel_rfl) (by kernel_rfl) (by kernel_rfl) (Eq.mp (S214_eq v0 v1 K w) h)

/-- slices.IndexFunc[[]rubric/api.Change,rubric/api.Change] -/
def S218 (v0 v1 : Value) (K : Cont) (w : World) : Prop :=
  lenK v0 fun t7 =>
  LoopK [(.int .i64 0)] (fun vs again w1 => ∀ _h : Env,
  ltK .i64 (nth vs 0) t7 fun t9 =>
  condK t9
  (ixK 6 v0 (nth vs 0) fun t14 =>
  ldnK 6 t14 (fun t15 w2 =>
  callyK Tryz.prog okf v1 [t15] (fun t16 w3 =>
  condK t16
  (K (nth vs 0) w3)
  (addK .i64 (nth vs 0) (.int .i64 1) fun t18 =>
  again [t18] w3)) w2) w1)
  (K (.int .i64 (-1)) w1)) w
theorem S218_eq (v0 v1 : Value) (K : Cont) (w : World) : S218 v0 v1 K w = D Tryz.prog okf 19 (bodyOf Tryz.f218) (.node [] [] .nil (.node [] [] (.node [] [] .nil (.node [8] [(4, 5), (8, 18)] (.node [] [] .nil (.node [] [] (.node [] [] .nil .nil) (.node [] [] (.node [] [] .nil (.node [] [] .nil (.node [] [] (.node [] [] .nil .nil) .nil))) .nil))) .nil)) (.node [] [] .nil .nil))) (retK Tryz.prog [.tmp 4] K) (nth [v0, v1]) w := by kernel_rfl
theorem S218_ok {v0 v1 : Value} {K : Cont} {w : World} (h : S218 v0 v1 K w) : callK Tryz.prog 218 [v0, v1] K w :=
  callK_of (P := Tryz.prog) (ok := okf) (n := 19) (fn := Tryz.f218) (c := bodyOf Tryz.f218) (rs := [.tmp 4]) (an := (.node [] [] .nil (.node [] [] (.node [] [] .nil (.node [8] [(4, 5), (8, 18)] (.node [] [] .nil (.node [] [] (.node [] [] .nil .nil) (.node [] [] (.node [] [] .nil (.node [] [] .nil (.node [] [] (.node [] [] .nil .nil) .nil))) .nil))) .nil)) (.node [] [] .nil .nil)))) good mixed Tryz.func218 (by kernel_rfl) (by kernel_rfl) (by kernel_rfl) (by kernel_rfl) (Eq.mp (S218_eq v0 v1 K w) h)

/-- rubric/apply.Cell -/
def S186 (v0 v1 v2 : Value) (K : Cont) (w : World) : Prop :=
  boxnK 152 v1 (fun t4 w1 =>
  newK 152 [(.int .i32 0), (.slice none 0 0)] (fun t6 w2 =>
  DrawC [9, 10, 12] [[], [0], [], [2], [], [], [], [6], [6, 7], [4, 5, 6, 7, 8], [2, 3, 4, 5, 6, 7, 8, 9], [0, 1, 2, 3, 4, 5, 6, 7, 8, 9, 10], [0, 1, 2, 3, 4, 5, 6, 7, 8, 9, 10, 11]] w2.drew (fun M St =>
  faK 0 t4 fun t7 =>
  sld1 (St 1) t7 fun t8 =>
  faK 1 t4 fun t9 =>
  sld1 (St 3) t9 fun t10 =>
  faK 0 t4 fun t13 =>
  sld1 (St 7) t13 fun t14 =>
  eqK .i32 t14 (.int .i32 10) fun t15 =>
  callK Tryz.prog 204 [v0, v2, t15] (fun t16 w3 =>
  Mod (M 9) w2.drew w3 ∧
  callK Tryz.prog 203 [t10, t16] (fun t17 w4 =>
  Mod (M 10) w3 w4 ∧
  buildK [(0, 1), (1, 1)] [(.int .i32 0), (.slice none 0 0)] [(0, t8), (1, t17)] fun t18 =>
  stnK 2 t6 t18 (fun w5 =>
  Mod (M 12) w4 w5 ∧
  ldnK 2 t6 (fun r0 w6 =>
  K r0 w6) w5) w4) w3) w2.drew)) w1) w
theorem S186_eq (v0 v1 v2 : Value) (K : Cont) (w : World) : S186 v0 v1 v2 K w = D Tryz.prog okf 19 (bodyOf Tryz.f186) (.node [] [] .nil (.node [] [] (.dc [9, 10, 12] [[], [0], [], [2], [], [], [], [6], [6, 7], [4, 5, 6, 7, 8], [2, 3, 4, 5, 6, 7, 8, 9], [0, 1, 2, 3, 4, 5, 6, 7, 8, 9, 10], [0, 1, 2, 3, 4, 5, 6, 7, 8, 9, 10, 11]] [[9, 10]]) .nil)) (retK Tryz.prog [.cell 6 152] K) (nth [v0, v1, v2]) w := by kernel_rfl
theorem S186_ok {v0 v1 v2 : Value} {K : Cont} {w : World} (h : S186 v0 v1 v2 K w) : callK Tryz.prog 186 [v0, v1, v2] K w :=
  callK_of (P := Tryz.prog) (ok := okf) (n := 19) (fn := Tryz.f186) (c := bodyOf Tryz.f186) (rs := [.cell 6 152]) (an := (.node [] [] .nil (.node [] [] (.dc [9, 10, 12] [[], [0], [], [2], [], [], [], [6], [6, 7], [4, 5, 6, 7, 8], [2, 3, 4, 5, 6, 7, 8, 9], [0, 1, 2, 3, 4, 5, 6, 7, 8, 9, 10], [0, 1, 2, 3, 4, 5, 6, 7, 8, 9, 10, 11]] [[9, 10]]) .nil))) good mixed Tryz.func186 (by kernel_rfl) (by kernel_rfl) (by kernel_rfl) (by kernel_rfl) (Eq.mp (S186_eq v0 v1 v2 K w) h)

/-- rubric/compose.may -/
def S141 (v0 v1 v2 : Value) (K : Cont) (w : World) : Prop :=
  callK Tryz.prog 59 [v0, v1] (fun t11 w1 =>
  callK Tryz.prog 59 [v0, v2] (fun t14 w2 =>
  eqK .i64 t11 (.int .i64 0) fun t16 =>
  condK t16
  (K t14 w2)
  (eqK .i64 t14 (.int .i64 3) fun t19 =>
  condK t19
  (K t14 w2)
  (K t11 w2))) w1) w
theorem S141_eq (v0 v1 v2 : Value) (K : Cont) (w : World) : S141 v0 v1 v2 K w = D Tryz.prog okf 23 (bodyOf Tryz.f141) (.node [] [] .nil (.node [] [] .nil (.node [] [] (.node [] [] .nil (.node [] [] (.node [] [] .nil .nil) .nil)) (.node [] [] .nil .nil)))) (retK Tryz.prog [.tmp 6] K) (nth [v0, v1, v2]) w := by kernel_rfl
theorem S141_ok {v0 v1 v2 : Value} {K : Cont} {w : World} (h : S141 v0 v1 v2 K w) : callK Tryz.prog 141 [v0, v1, v2] K w :=
  callK_of (P := Tryz.prog) (ok := okf) (n := 23) (fn := Tryz.f141) (c := bodyOf Tryz.f141) (rs := [.tmp 6]) (an := (.node [] [] .nil (.node [] [] .nil (.node [] [] (.node [] [] .nil (.node [] [] (.node [] [] .nil .nil) .nil)) (.node [] [] .nil .nil))))) good mixed Tryz.func141 (by kernel_rfl) (by kernel_rfl) (by kernel_rfl) (by kernel_rfl) (Eq.mp (S141_eq v0 v1 v2 K w) h)

/-- rubric/compose.tell -/
def S144 (v0 v1 : Value) (K : Cont) (w : World) : Prop :=
  boxnK 39 v1 (fun t3 w1 =>
  faK 0 t3 fun t4 =>
  ld1K t4 (fun t5 w2 =>
  eqK .u8 t5 (.int .u8 1) fun t11 =>
  condK t11
  (faK 1 t3 fun t13 =>
  ld1K t13 (fun t14 w3 =>
  faK 4 t3 fun t15 =>
  ld1K t15 (fun t16 w4 =>
  callK Tryz.prog 76 [v0, t14, t16] (fun _t17 w5 =>
  K (.tuple #[]) w5) w4) w3) w2)
  (eqK .u8 t5 (.int .u8 2) fun t19 =>
  condK t19
  (faK 2 t3 fun t21 =>
  ld1K t21 (fun t22 w6 =>
  faK 3 t3 fun t23 =>
  ld1K t23 (fun t24 w7 =>
  callK Tryz.prog 77 [v0, t22, t24] (fun _t25 w8 =>
  K (.tuple #[]) w8) w7) w6) w2)
  (faK 1 t3 fun t7 =>
  ld1K t7 (fun t8 w9 =>
  callK Tryz.prog 78 [v0, t8] (fun _t9 w10 =>
  K (.tuple #[]) w10) w9) w2))) w1) w
theorem S144_eq (v0 v1 : Value) (K : Cont) (w : World) : S144 v0 v1 K w = D Tryz.prog okf 26 (bodyOf Tryz.f144) (.node [] [] .nil (.node [] [] .nil (.node [] [] .nil (.node [] [] .nil (.node [] [] .nil (.node [] [] .nil .nil)))))) (retK Tryz.prog [] K) (nth [v0, v1]) w := by kernel_rfl
theorem S144_ok {v0 v1 : Value} {K : Cont} {w : World} (h : S144 v0 v1 K w) : callK Tryz.prog 144 [v0, v1] K w :=
  callK_of (P := Tryz.prog) (ok := okf) (n := 26) (fn := Tryz.f144) (c := bodyOf Tryz.f144) (rs := []) (an := (.node [] [] .nil (.node [] [] .nil (.node [] [] .nil (.node [] [] .nil (.node [] [] .nil (.node [] [] .nil .nil))))))) good mixed Tryz.func144 (by kernel_rfl) (by kernel_rfl) (by kernel_rfl) (by kernel_rfl) (Eq.mp (S144_eq v0 v1 K w) h)

/-- rubric/compose.both -/
def S147 (v0 v1 v2 v3 : Value) (K : Cont) (w : World) : Prop :=
  boxnK 39 v2 (fun t6 w1 =>
  boxnK 39 v3 (fun t7 w2 =>
  JoinK (fun vs w3 => ∀ _h : Env,
  condK (nth vs 0)
  (DrawC [7, 8] [[], [], [1], [], [3], [], [5], [3, 4, 5, 6], [0, 1, 2, 3, 4, 5, 6, 7]] w3.drew (fun M St =>
  faK 1 t7 fun t21 =>
  sld1 (St 2) t21 fun t22 =>
  faK 4 t6 fun t23 =>
  sld1 (St 4) t23 fun t24 =>
  faK 4 t7 fun t25 =>
  sld1 (St 6) t25 fun t26 =>
  callK Tryz.prog 185 [t24, t26] (fun t27 w4 =>
  Mod (M 7) w3.drew w4 ∧
  callK Tryz.prog 76 [v1, t22, t27] (fun _t28 w5 =>
  Mod (M 8) w4 w5 ∧
  K (.tuple #[]) w5) w4) w3.drew))
  (faK 0 t6 fun t30 =>
  ld1K t30 (fun t31 w6 =>
  eqK .u8 t31 (.int .u8 1) fun t32 =>
  condK t32
  (faK 1 t7 fun t34 =>
  ld1K t34 (fun t35 w7 =>
  callK Tryz.prog 78 [v1, t35] (fun _t36 w8 =>
  K (.tuple #[]) w8) w7) w6)
  (faK 0 t7 fun t38 =>
  ld1K t38 (fun t39 w9 =>
  eqK .u8 t39 (.int .u8 1) fun t40 =>
  condK t40
  (faK 2 t6 fun t41 =>
  ld1K t41 (fun t42 w10 =>
  lenK t42 fun t43 =>
  LoopK [(.int .i64 0)] (fun vs_1 again w11 => ∀ _h_1 : Env,
  ltK .i64 (nth vs_1 0) t43 fun t45 =>
  condK t45
  (ixK 1 t42 (nth vs_1 0) fun t46 =>
  ld1K t46 (fun t47 w12 =>
  faK 3 t6 fun t50 =>
  ld1K t50 (fun t51 w13 =>
  buildK [(0, 1), (1, 1)] [(.int .i32 0), (.slice none 0 0)] [(0, t47), (1, t51)] fun t52 =>
  faK 4 t7 fun t53 =>
  ld1K t53 (fun t54 w14 =>
  callK Tryz.prog 186 [v0, t52, t54] (fun t55 w15 =>
  newK 152 [(.int .i32 0), (.slice none 0 0)] (fun t10 w16 =>
  stnK 2 t10 t55 (fun w17 =>
  faK 0 t10 fun t57 =>
  ld1K t57 (fun t58 w18 =>
  rowK 21 1 1 [(.int .i32 0)] [(0, t58)] (fun t59 w19 =>
  faK 1 t10 fun t60 =>
  ld1K t60 (fun t61 w20 =>
  callK Tryz.prog 77 [v1, t59, t61] (fun _t62 w21 =>
  addK .i64 (nth vs_1 0) (.int .i64 1) fun t63 =>
  again [t63] w21) w20) w19) w18) w17) w16) w15) w14) w13) w12) w11)
  (K (.tuple #[]) w11)) w10) w9)
  (K (.tuple #[]) w9)) w6)) w3)) (fun J =>
  faK 0 t6 fun t12 =>
  ld1K t12 (fun t13 w22 =>
  eqK .u8 t13 (.int .u8 1) fun t14 =>
  condK t14
  (faK 0 t7 fun t16 =>
  ld1K t16 (fun t17 w23 =>
  eqK .u8 t17 (.int .u8 1) fun t18 =>
  J [t18] w23) w22)
  (J [(.bool false)] w22)) w2)) w1) w
theorem S147_eq (v0 v1 v2 v3 : Value) (K : Cont) (w : World) : S147 v0 v1 v2 v3 K w = D Tryz.prog okf 64 (bodyOf Tryz.f147) (.node [] [] .nil (.cut [11] [(11, 19)] .nil (.node [] [] (.dc [7, 8] [[], [], [1], [], [3], [], [5], [3, 4, 5, 6], [0, 1, 2, 3, 4, 5, 6, 7]] []) (.node [] [] .nil (.node [] [] .nil (.node [] [] .nil (.node [] [] (.node [] [] .nil (.node [44] [(9, 10), (44, 63)] (.node [] [] .nil (.node [] [] (.node [] [] .nil .nil) (.node [] [] (.node [] [] .nil (.node [] [] .nil .nil)) .nil))) .nil)) .nil))))))) (retK Tryz.prog [] K) (nth [v0, v1, v2, v3]) w := by kernel_rfl
theorem S147_ok {v0 v1 v2 v3 : Value} {K : Cont} {w : World} (h : S147 v0 v1 v2 v3 K w) : callK Tryz.prog 147 [v0, v1, v2, v3] K w :=
  callK_of (P := Tryz.prog) (ok := okf) (n := 64) (fn := Tryz.f147) (c := bodyOf Tryz.f147) (rs := []) (an := (.node [] [] .nil (.cut [11] [(11, 19)] .nil (.node [] [] (.dc [7, 8] [[], [], [1], [], [3], [], [5], [3, 4, 5, 6], [0, 1, 2, 3, 4, 5, 6, 7]] []) (.node [] [] .nil (.node [] [] .nil (.node [] [] .nil (.node [] [] (.node [] [] .nil (.node [44] [(9, 10), (44, 63)] (.node [] [] .nil (.node [] [] (.node [] [] .nil .nil) (.node [] [] (.node [] [] .nil (.node [] [] .nil .nil)) .nil))) .nil)) .nil)))))))) good mixed Tryz.func147 (by kernel_rfl) (by kernel_rfl) (by kernel_rfl) (by kernel_rfl) (Eq.mp (S147_eq v0 v1 v2 v3 K w) h)

/-- rubric/compose.Compose -/
def S87 (v0 v1 v2 : Value) (K : Cont) (w : World) : Prop :=
  callK Tryz.prog 141 [v0, v1, v2] (fun t17 w1 =>
  neK .i64 t17 (.int .i64 0) fun t19 =>
  condK t19
  (K (.tuple #[(.slice none 0 0), t17]) w1)
  (callK Tryz.prog 75 [] (fun t21 w2 =>
  buildK [(0, 1), (1, 1)] [(.slice none 0 0), (.int .i64 0)] [(0, v1)] fun t23 =>
  boxnK 196 t23 (fun t24 w3 =>
  buildK [(0, 1), (1, 1)] [(.slice none 0 0), (.int .i64 0)] [(0, v2)] fun t26 =>
  boxnK 196 t26 (fun t27 w4 =>
  LoopK [] (fun _vs again w5 => ∀ _h : Env,
  callK Tryz.prog 142 [t27] (fun t29 w6 =>
  notK t29 fun t30 =>
  condK t30
  (callK Tryz.prog 143 [t27] (fun t33 w7 =>
  eqK .u8 t33 (.int .u8 2) fun t34 =>
  condK t34
  (callK Tryz.prog 145 [t27, (.int .i64 536870912)] (fun t37 w8 =>
  callK Tryz.prog 144 [t21, t37] (fun _t38 w9 =>
  again [] w9) w8) w7)
  (callK Tryz.prog 143 [t24] (fun t41 w10 =>
  eqK .u8 t41 (.int .u8 3) fun t42 =>
  condK t42
  (callK Tryz.prog 145 [t24, (.int .i64 536870912)] (fun t45 w11 =>
  callK Tryz.prog 144 [t21, t45] (fun _t46 w12 =>
  again [] w12) w11) w10)
  (callK Tryz.prog 146 [t24] (fun t48 w13 =>
  callK Tryz.prog 146 [t27] (fun t50 w14 =>
  minK .i64 t48 t50 fun t51 =>
  callK Tryz.prog 145 [t24, t51] (fun t56 w15 =>
  callK Tryz.prog 145 [t27, t51] (fun t59 w16 =>
  callK Tryz.prog 147 [v0, t21, t56, t59] (fun _t60 w17 =>
  again [] w17) w16) w15) w14) w13) w10)) w7)) w6)
  (LoopK [] (fun _vs_1 again_1 w18 => ∀ _h_1 : Env,
  callK Tryz.prog 142 [t24] (fun t62 w19 =>
  notK t62 fun t63 =>
  condK t63
  (callK Tryz.prog 145 [t24, (.int .i64 536870912)] (fun t66 w20 =>
  callK Tryz.prog 144 [t21, t66] (fun _t67 w21 =>
  again_1 [] w21) w20) w19)
  (callK Tryz.prog 79 [t21] (fun t69 w22 =>
  callK Tryz.prog 94 [t69] (fun t71 w23 =>
  gtK .i64 t71 (.int .i64 536870912) fun t72 =>
  condK t72
  (K (.tuple #[(.slice none 0 0), (.int .i64 3)]) w23)
  (callK Tryz.prog 95 [t69] (fun t75 w24 =>
  gtK .i64 t75 (.int .i64 536870912) fun t76 =>
  condK t76
  (K (.tuple #[(.slice none 0 0), (.int .i64 3)]) w24)
  (K (.tuple #[t69, (.int .i64 0)]) w24)) w23)) w22) w19)) w18) w6)) w5) w4) w3) w2) w1)) w
theorem S87_eq (v0 v1 v2 : Value) (K : Cont) (w : World) : S87 v0 v1 v2 K w = D Tryz.prog okf 79 (bodyOf Tryz.f87) (.node [] [] .nil (.node [] [] (.node [] [] .nil (.node [] [] .nil (.node [] [] (.node [] [] .nil .nil) .nil))) (.node [] [] .nil (.node [] [] .nil (.node [] [] .nil (.node [] [] (.node [] [(12, 12), (28, 60)] (.node [] [] (.node [] [] .nil (.node [] [] .nil .nil)) (.node [] [] (.node [] [] .nil (.node [] [] (.node [] [] .nil .nil) (.node [] [] .nil (.node [] [] (.node [] [] .nil .nil) .nil)))) (.node [] [] .nil .nil))) .nil) (.node [] [] (.node [] [(61, 67)] (.node [] [] (.node [] [] .nil (.node [] [] .nil .nil)) .nil) .nil) (.node [] [] .nil (.node [] [] (.node [] [] .nil (.node [] [] (.node [] [] .nil .nil) .nil)) (.node [] [] .nil .nil)))))))))) (retK Tryz.prog [.tmp 6, .tmp 7] K) (nth [v0, v1, v2]) w := by kernel_rfl
theorem S87_ok {v0 v1 v2 : Value} {K : Cont} {w : World} (h : S87 v0 v1 v2 K w) : callK Tryz.prog 87 [v0, v1, v2] K w :=
  callK_of (P := Tryz.prog) (ok := okf) (n := 79) (fn := Tryz.f87) (c := bodyOf Tryz.f87) (rs := [.tmp 6, .tmp 7]) (an := (.node [] [] .nil (.node [] [] (.node [] [] .nil (.node [] [] .nil (.node [] [] (.node [] [] .nil .nil) .nil))) (.node [] [] .nil (.node [] [] .nil (.node [] [] .nil (.node [] [] (.node [] [(12, 12), (28, 60)] (.node [] [] (.node [] [] .nil (.node [] [] .nil .nil)) (.node [] [] (.node [] [] .nil (.node [] [] (.node [] [] .nil .nil) (.node [] [] .nil (.node [] [] (.node [] [] .nil .nil) .nil)))) (.node [] [] .nil .nil))) .nil) (.node [] [] (.node [] [(61, 67)] (.node [] [] (.node [] [] .nil (.node [] [] .nil .nil)) .nil) .nil) (.node [] [] .nil (.node [] [] (.node [] [] .nil (.node [] [] (.node [] [] .nil .nil) .nil)) (.node [] [] .nil .nil))))))))))) good mixed Tryz.func87 (by kernel_rfl) (by kernel_rfl) (by kernel_rfl) (by kernel_rfl) (Eq.mp (S87_eq v0 v1 v2 K w) h)

/-- (*rubric/compose.reader).over -/
def S142 (v0 : Value) (K : Cont) (w : World) : Prop :=
  nilckK v0 fun t4 =>
  faK 0 t4 fun t5 =>
  ld1K t5 (fun t6 w1 =>
  lenK t6 fun t7 =>
  eqK .i64 t7 (.int .i64 0) fun t8 =>
  K t8 w1) w
theorem S142_eq (v0 : Value) (K : Cont) (w : World) : S142 v0 K w = D Tryz.prog okf 9 (bodyOf Tryz.f142) (.node [] [] .nil (.node [] [] .nil .nil)) (retK Tryz.prog [.tmp 2] K) (nth [v0]) w := by kernel_rfl
theorem S142_ok {v0 : Value} {K : Cont} {w : World} (h : S142 v0 K w) : callK Tryz.prog 142 [v0] K w :=
  callK_of (P := Tryz.prog) (ok := okf) (n := 9) (fn := Tryz.f142) (c := bodyOf Tryz.f142) (rs := [.tmp 2]) (an := (.node [] [] .nil (.node [] [] .nil .nil))) good mixed Tryz.func142 (by kernel_rfl) (by kernel_rfl) (by kernel_rfl) (by kernel_rfl) (Eq.mp (S142_eq v0 K w) h)

/-- (*rubric/compose.reader).kind -/
def S143 (v0 : Value) (K : Cont) (w : World) : Prop :=
  callK Tryz.prog 142 [v0] (fun t4 w1 =>
  condK t4
  (K (.int .u8 1) w1)
  (nilckK v0 fun t6 =>
  faK 0 t6 fun t7 =>
  ld1K t7 (fun t8 w2 =>
  ixK 5 t8 (.int .i64 0) fun t9 =>
  faK 0 t9 fun t10 =>
  ld1K t10 (fun t11 w3 =>
  K t11 w3) w2) w1)) w
theorem S143_eq (v0 : Value) (K : Cont) (w : World) : S143 v0 K w = D Tryz.prog okf 12 (bodyOf Tryz.f143) (.node [] [] .nil (.node [] [] (.node [] [] .nil (.node [] [] (.node [] [] .nil .nil) .nil)) (.node [] [] .nil .nil))) (retK Tryz.prog [.tmp 2] K) (nth [v0]) w := by kernel_rfl
theorem S143_ok {v0 : Value} {K : Cont} {w : World} (h : S143 v0 K w) : callK Tryz.prog 143 [v0] K w :=
  callK_of (P := Tryz.prog) (ok := okf) (n := 12) (fn := Tryz.f143) (c := bodyOf Tryz.f143) (rs := [.tmp 2]) (an := (.node [] [] .nil (.node [] [] (.node [] [] .nil (.node [] [] (.node [] [] .nil .nil) .nil)) (.node [] [] .nil .nil)))) good mixed Tryz.func143 (by kernel_rfl) (by kernel_rfl) (by kernel_rfl) (by kernel_rfl) (Eq.mp (S143_eq v0 K w) h)

/-- (*rubric/compose.reader).take -/
def S145 (v0 v1 : Value) (K : Cont) (w : World) : Prop :=
  newK 39 [(.int .u8 0), (.int .i64 0), (.slice none 0 0), (.slice none 0 0), (.slice none 0 0)] (fun t4 w1 =>
  callK Tryz.prog 142 [v0] (fun t7 w2 =>
  condK t7
  (buildK [(0, 1), (1, 1), (2, 1), (3, 1), (4, 1)] [(.int .u8 0), (.int .i64 0), (.slice none 0 0), (.slice none 0 0), (.slice none 0 0)] [(0, (.int .u8 1)), (1, v1)] fun t9 =>
  stnK 5 t4 t9 (fun w3 =>
  ldnK 5 t4 (fun r0 w4 =>
  K r0 w4) w3) w2)
  (nilckK v0 fun t11 =>
  faK 0 t11 fun t12 =>
  ld1K t12 (fun t13 w5 =>
  ixK 5 t13 (.int .i64 0) fun t14 =>
  ldnK 5 t14 (fun t15 w6 =>
  newK 39 [(.int .u8 0), (.int .i64 0), (.slice none 0 0), (.slice none 0 0), (.slice none 0 0)] (fun t5 w7 =>
  stnK 5 t5 t15 (fun w8 =>
  callK Tryz.prog 184 [v0] (fun t18 w9 =>
  minK .i64 v1 t18 fun t19 =>
  JoinK (fun _vs w10 => ∀ _h : Env,
  nilckK v0 fun t40 =>
  faK 1 t40 fun t41 =>
  ld1K t41 (fun t42 w11 =>
  addK .i64 t42 t19 fun t44 =>
  nilckK v0 fun t45 =>
  faK 1 t45 fun t46 =>
  st1K t46 t44 (fun w12 =>
  callK Tryz.prog 184 [v0] (fun t48 w13 =>
  eqK .i64 t48 (.int .i64 0) fun t49 =>
  condK t49
  (nilckK v0 fun t53 =>
  faK 0 t53 fun t54 =>
  ld1K t54 (fun t55 w14 =>
  runK Tryz.prog (Instr.sliceAt 31 t55 (some (.int .i64 1)) none none) (fun t56 w15 =>
  nilckK v0 fun t57 =>
  faK 0 t57 fun t58 =>
  st1K t58 t56 (fun w16 =>
  nilckK v0 fun t59 =>
  faK 1 t59 fun t60 =>
  st1K t60 (.int .i64 0) (fun w17 =>
  ldnK 5 t5 (fun t61 w18 =>
  stnK 5 t4 t61 (fun w19 =>
  ldnK 5 t4 (fun r0_1 w20 =>
  K r0_1 w20) w19) w18) w17) w16) w15) w14) w13)
  (ldnK 5 t5 (fun t61_1 w21 =>
  stnK 5 t4 t61_1 (fun w22 =>
  ldnK 5 t4 (fun r0_2 w23 =>
  K r0_2 w23) w22) w21) w13)) w12) w11) w10) (fun J =>
  faK 0 t5 fun t20 =>
  ld1K t20 (fun t21 w24 =>
  eqK .u8 t21 (.int .u8 2) fun t22 =>
  condK t22
  (DrawC [12, 14] [[], [0], [], [2], [2, 3], [2, 3, 4], [], [6], [6, 7], [6, 7, 8], [], [6, 7, 8, 9, 10], [0, 1, 2, 3, 4, 5, 6, 7, 8, 9, 10, 11], [0, 1, 2, 3, 4, 5, 6, 7, 8, 9, 10, 11, 12], [0, 1, 2, 3, 4, 5, 6, 7, 8, 9, 10, 11, 12, 13]] w24.drew (fun M St =>
  faK 2 t5 fun t23 =>
  sld1 (St 1) t23 fun t24 =>
  nilckK v0 fun t26 =>
  faK 1 t26 fun t27 =>
  sld1 (St 5) t27 fun t28 =>
  nilckK v0 fun t30 =>
  faK 1 t30 fun t31 =>
  sld1 (St 9) t31 fun t32 =>
  addK .i64 t32 t19 fun t34 =>
  runK Tryz.prog (Instr.sliceAt 35 t24 (some t28) (some t34) none) (fun t35 w25 =>
  Mod (M 12) w24.drew w25 ∧
  faK 2 t5 fun t36 =>
  st1K t36 t35 (fun w26 =>
  Mod (M 14) w25 w26 ∧
  J [] w26) w25) w24.drew))
  (faK 1 t5 fun t38 =>
  st1K t38 t19 (fun w27 =>
  J [] w27) w24)) w9)) w8) w7) w6) w5) w2)) w1) w
theorem S145_eq (v0 v1 : Value) (K : Cont) (w : World) : S145 v0 v1 K w = D Tryz.prog okf 62 (bodyOf Tryz.f145) (.node [] [] .nil (.node [] [] (.node [] [] .nil (.node [] [] (.node [] [] .nil .nil) .nil)) (.node [] [] .nil (.node [] [] .nil (.cut [] [(20, 38)] (.node [] [] .nil (.node [] [] (.dc [12, 14] [[], [0], [], [2], [2, 3], [2, 3, 4], [], [6], [6, 7], [6, 7, 8], [], [6, 7, 8, 9, 10], [0, 1, 2, 3, 4, 5, 6, 7, 8, 9, 10, 11], [0, 1, 2, 3, 4, 5, 6, 7, 8, 9, 10, 11, 12], [0, 1, 2, 3, 4, 5, 6, 7, 8, 9, 10, 11, 12, 13]] [[12]]) .nil)) (.node [] [] .nil (.node [] [] (.node [] [] .nil (.node [] [] .nil .nil)) (.node [] [] .nil .nil)))))))) (retK Tryz.prog [.cell 4 39] K) (nth [v0, v1]) w := by kernel_rfl
theorem S145_ok {v0 v1 : Value} {K : Cont} {w : World} (h : S145 v0 v1 K w) : callK Tryz.prog 145 [v0, v1] K w :=
  callK_of (P := Tryz.prog) (ok := okf) (n := 62) (fn := Tryz.f145) (c := bodyOf Tryz.f145) (rs := [.cell 4 39]) (an := (.node [] [] .nil (.node [] [] (.node [] [] .nil (.node [] [] (.node [] [] .nil .nil) .nil)) (.node [] [] .nil (.node [] [] .nil (.cut [] [(20, 38)] (.node [] [] .nil (.node [] [] (.dc [12, 14] [[], [0], [], [2], [2, 3], [2, 3, 4], [], [6], [6, 7], [6, 7, 8], [], [6, 7, 8, 9, 10], [0, 1, 2, 3, 4, 5, 6, 7, 8, 9, 10, 11], [0, 1, 2, 3, 4, 5, 6, 7, 8, 9, 10, 11, 12], [0, 1, 2, 3, 4, 5, 6, 7, 8, 9, 10, 11, 12, 13]] [[12]]) .nil)) (.node [] [] .nil (.node [] [] (.node [] [] .nil (.node [] [] .nil .nil)) (.node [] [] .nil .nil))))))))) good mixed Tryz.func145 (by kernel_rfl) (by kernel_rfl) (by kernel_rfl) (by kernel_rfl) (Eq.mp (S145_eq v0 v1 K w) h)

/-- (*rubric/compose.reader).long -/
def S146 (v0 : Value) (K : Cont) (w : World) : Prop :=
  callK Tryz.prog 142 [v0] (fun t4 w1 =>
  condK t4
  (K (.int .i64 536870912) w1)
  (callK Tryz.prog 184 [v0] (fun t6 w2 =>
  K t6 w2) w1)) w
theorem S146_eq (v0 : Value) (K : Cont) (w : World) : S146 v0 K w = D Tryz.prog okf 7 (bodyOf Tryz.f146) (.node [] [] .nil (.node [] [] (.node [] [] .nil (.node [] [] (.node [] [] .nil .nil) .nil)) (.node [] [] .nil .nil))) (retK Tryz.prog [.tmp 2] K) (nth [v0]) w := by kernel_rfl
theorem S146_ok {v0 : Value} {K : Cont} {w : World} (h : S146 v0 K w) : callK Tryz.prog 146 [v0] K w :=
  callK_of (P := Tryz.prog) (ok := okf) (n := 7) (fn := Tryz.f146) (c := bodyOf Tryz.f146) (rs := [.tmp 2]) (an := (.node [] [] .nil (.node [] [] (.node [] [] .nil (.node [] [] (.node [] [] .nil .nil) .nil)) (.node [] [] .nil .nil)))) good mixed Tryz.func146 (by kernel_rfl) (by kernel_rfl) (by kernel_rfl) (by kernel_rfl) (Eq.mp (S146_eq v0 K w) h)

/-- (*rubric/compose.reader).left -/
def S184 (v0 : Value) (K : Cont) (w : World) : Prop :=
  nilckK v0 fun t4 =>
  faK 0 t4 fun t5 =>
  ld1K t5 (fun t6 w1 =>
  ixK 5 t6 (.int .i64 0) fun t7 =>
  faK 0 t7 fun t8 =>
  ld1K t8 (fun t9 w2 =>
  eqK .u8 t9 (.int .u8 2) fun t10 =>
  condK t10
  (DrawK w2 (fun C =>
  nilckK v0 fun t12 =>
  faK 0 t12 fun t13 =>
  qld1K C t13 fun t14 =>
  ixK 5 t14 (.int .i64 0) fun t15 =>
  faK 2 t15 fun t16 =>
  qld1K C t16 fun t17 =>
  lenK t17 fun t18 =>
  nilckK v0 fun t20 =>
  faK 1 t20 fun t21 =>
  qld1K C t21 fun t22 =>
  subK .i64 t18 t22 fun t23 =>
  ∀ w3 : World, C w3 →
  K t23 w3))
  (DrawK w2 (fun C_1 =>
  nilckK v0 fun t25 =>
  faK 0 t25 fun t26 =>
  qld1K C_1 t26 fun t27 =>
  ixK 5 t27 (.int .i64 0) fun t28 =>
  faK 1 t28 fun t29 =>
  qld1K C_1 t29 fun t30 =>
  nilckK v0 fun t32 =>
  faK 1 t32 fun t33 =>
  qld1K C_1 t33 fun t34 =>
  subK .i64 t30 t34 fun t35 =>
  ∀ w4 : World, C_1 w4 →
  K t35 w4))) w1) w
theorem S184_eq (v0 : Value) (K : Cont) (w : World) : S184 v0 K w = D Tryz.prog okf 36 (bodyOf Tryz.f184) (.node [] [] .nil (.node [] [] (.node [] [] .nil (.node [] [] (.node [] [] .draw .nil) .nil)) (.node [] [] .draw .nil))) (retK Tryz.prog [.tmp 2] K) (nth [v0]) w := by kernel_rfl
theorem S184_ok {v0 : Value} {K : Cont} {w : World} (h : S184 v0 K w) : callK Tryz.prog 184 [v0] K w :=
  callK_of (P := Tryz.prog) (ok := okf) (n := 36) (fn := Tryz.f184) (c := bodyOf Tryz.f184) (rs := [.tmp 2]) (an := (.node [] [] .nil (.node [] [] (.node [] [] .nil (.node [] [] (.node [] [] .draw .nil) .nil)) (.node [] [] .draw .nil)))) good mixed Tryz.func184 (by kernel_rfl) (by kernel_rfl) (by kernel_rfl) (by kernel_rfl) (Eq.mp (S184_eq v0 K w) h)

end Go.Proofs.YtlbaopamhkmepaaGreatDoor

namespace Go.K
open Go
/-- a slice appended to a row of the call's own -/
theorem app_n {α : Type} {P : Program} {t e k bytes : Nat} {R : World → List Value → α → Prop} {S : Nat → Prop} {w0 w : World} {v x : Value} {l m : List α} {K : Cont} (hE : ElemOK P t e k bytes) (h : OwnR w0.heap.size e k R w v l) (hg : Grow w0 w) (hx : SlR S k R w x m)
    (hone : ∀ r y, R w r y → ∀ u ∈ r, u.oneCell' = true) (hR : ∀ w1 w2 r y, R w1 r y → R w2 r y) (h63 : (l.length + m.length) * bytes ≤ 140737488355328) (hlm : l.length + m.length ≤ maxLen)
    (hK : ∀ v' w', OwnR w0.heap.size e k R w' v' (l ++ m) → Grow w0 w' → K v' w') : runK P (Builtin.append_ #[t, t] t [v, x].toArray) K w := by
  obtain ⟨v', w', h1, h2, h3, _⟩ := OwnR.append (ty := t) hE h hx hone h63 hg.size hlm fun w' _ r y hy => hR _ _ _ _ hy
  exact runK_i h1 (hK v' w' h2 (hg.next (Mod.of_grownBy h3) fun b hb e => by have := (OwnR.ownB h b e).1; omega))
/-- a row that grows, seen from a world in which it was another one -/
def RowIn (ov0 : Value) (w4 W : World) (ov : Value) : Prop := Mod (fun b => ov0.ownBlock = some b) w4 W ∧ ∀ b, ov.ownBlock = some b → ov0.ownBlock = some b ∨ w4.heap.size ≤ b
section
variable {ov0 ov v' : Value} {w w4 W W' : World}
theorem RowIn.start : RowIn ov w4 w4 ov := ⟨Mod.refl _ _, fun _ h => .inl h⟩
theorem RowIn.grow (h : RowIn ov0 w4 W ov) (g : Grow W W') : RowIn ov0 w4 W' ov := ⟨h.1.next g fun _ _ e => e.elim, h.2⟩
theorem RowIn.push (h : RowIn ov0 w4 W ov) (m : Mod (fun b => ov.ownBlock = some b) W W') (hv : ∀ g, v'.ownBlock = some g → ov.ownBlock = some g ∨ W.heap.size ≤ g) : RowIn ov0 w4 W' v' :=
  ⟨h.1.next m fun b hb e => by rcases h.2 b e with e | e; exact e; omega, fun b hb => by
    rcases hv b hb with e | e
    · exact h.2 b e
    · exact .inr (Nat.le_trans h.1.size e)⟩
theorem RowIn.g (h : RowIn ov0 w4 W ov) (g : Grow w w4) (hB : ∀ b, ov0.ownBlock = some b → w.heap.size ≤ b) : Grow w W := g.next h.1 fun b hb e => by have := hB b e; omega
end
end Go.K
namespace Go.Proofs.YtlbaopamhkmepaaGreatDoor
open Go Go.K

theorem drop_cons {α : Type} {l : List α} {i : Nat} (h : i < l.length) : l.drop i = l[i] :: l.drop (i + 1) := List.drop_eq_getElem_cons h
set_option maxRecDepth 20000 in
theorem pcom_ok {S S' : Nat → Prop} {pv qv : Value} {p q : List Chg} {w : World} (hp : RPat S w pv p) (hq : RPat S' w qv q) (hb : p.length + q.length ≤ 1099511627776) :
    callK Tryz.prog 185 [pv, qv] (fun v' w' => OwnR w.heap.size 111 6 RChg w' v' (comP p q) ∧ Grow w w') w := by
  apply S185_ok
  unfold S185
  obtain ⟨pa, pc, rfl, _⟩ := hp.shape
  obtain ⟨qa, qc, rfl, _⟩ := hq.shape
  rw [lenK_i]
  refine LoopK_i (fun vs W => ∃ (k i : Nat) (ov : Value) (out : List Chg), k ≤ q.length ∧ i ≤ p.length ∧ vs = [ov, .int .i64 i, .int .i64 k] ∧ OwnR w.heap.size 111 6 RChg W ov out ∧ Grow w W ∧ out.length + (p.length - i) + (q.length - k) ≤ p.length + q.length ∧ out ++ comP (p.drop i) (q.drop k) = comP p q) (fun vs _ => q.length - iOf vs 2) ⟨0, 0, _, [], by omega, by omega, rfl, OwnR.nil, Mod.refl _ _, by simp, rfl⟩ ?_
  rintro vs W ⟨k, i, ov0, out, hk, hi, rfl, ho, g, hlen, he⟩ _
  simp only [nth_s, nth_z, List.headD_cons, List.tail_cons]
  rw [ltK_i]
  refine condK_p (fun hlt => ?_) fun hge => ?_
  · have hlt' : k < q.length := by omega
    obtain ⟨a, r, rfl, _, hr, hc, rfl⟩ := (hq.grow g (by decide) fun _ _ h => h).get hlt'
    refine ixK_n hlt' (ldnK_i hr (fun j u hu => by rw [Addr.add_add]; exact hc j u hu) ?_)
    refine newst_n (vs := q[k].cells) rfl rfl (RChg.one (w := W) (x := q[k]) rfl) fun b8 w4 hb8 hz8 g4 hc8 _ => ?_
    have g04 := g.trans g4
    have hB : ∀ b, ov0.ownBlock = some b → w.heap.size ≤ b := fun b e => (OwnR.ownB ho b e).1
    have h8 : ov0.ownBlock ≠ some b8 := fun e => by have := (OwnR.ownB ho b8 e).2; omega
    have ho4 : OwnR w.heap.size 111 6 RChg w4 ov0 out := OwnR.mod ho g4 (fun _ _ h => h) fun _ _ _ h => h
    rw [drop_cons hlt'] at he
    simp only [comP] at he
    refine JoinK_i (fun vs W => ∃ (i : Nat) (ov : Value) (out : List Chg), i ≤ p.length ∧ vs = [ov, .int .i64 i] ∧ OwnR w.heap.size 111 6 RChg W ov out ∧ RowIn ov0 w4 W ov ∧ out.length + (p.length - i) + (q.length - k) ≤ p.length + q.length ∧ out ++ q[k] :: comP (p.drop i) (q.drop (k + 1)) = comP p q) ?_ ?_
    · rintro vs W ⟨i, ov, out, hi, rfl, ho, g5, hlen, he⟩ _
      simp only [nth_s, nth_z, List.headD_cons, List.tail_cons]
      refine ldnK_i (vs := q[k].cells) rfl (fun j u hu => g5.1.cell (hc8 j u hu) (by rw [add_block]; exact h8)) ?_
      refine push_n (w0 := w) elem_chg ho (g5.g g04 hB) (cs := q[k].cells) (x := q[k]) (by kernel_rfl) rfl rfl (fun _ _ _ => RChg.one) (fun _ _ _ _ _ _ h => h) (by omega) (by simp only [maxLen]; omega) fun v' w' o' g' => ?_
      rw [addK_i, loop_step (by omega)]
      refine ⟨⟨k + 1, i, v', out ++ [q[k]], hlt', hi, rfl, o', g', by simp only [List.length_append, List.length_cons, List.length_nil]; omega, by rw [List.append_assoc]; exact he⟩, ?_⟩
      show q.length - ((k + 1 : Nat) : Int).toNat < q.length - (k : Int).toNat
      omega
    refine LoopK_i (fun vs W => ∃ (i : Nat) (ov : Value) (out : List Chg), i ≤ p.length ∧ vs = [ov, .int .i64 i] ∧ OwnR w.heap.size 111 6 RChg W ov out ∧ RowIn ov0 w4 W ov ∧ out.length + (p.length - i) + (q.length - k) ≤ p.length + q.length ∧ out ++ lowC q[k] (p.drop i) ++ q[k] :: comP (highC q[k] (p.drop i)) (q.drop (k + 1)) = comP p q) (fun vs _ => p.length - iOf vs 1) ⟨i, ov0, out, hi, rfl, ho4, RowIn.start, hlen, by rw [← he, List.append_assoc]⟩ ?_
    clear ho ho4 hlen he hi
    rintro vs W1 ⟨i, ov, out, hi, rfl, ho, g5, hlen, he⟩ _
    have g05 := g5.g g04 hB
    have c8 : W1.cell? ((⟨b8, 0, none⟩ : Addr).add 0) = some (.int .i64 q[k].key) := g5.1.cell (hc8 0 _ rfl) (by rw [add_block]; exact h8)
    simp only [nth_s, nth_z, List.headD_cons, List.tail_cons]
    refine JoinK_i (fun _ W => ∃ hl : i < p.length, Grow W1 W ∧ p[i].key ≤ q[k].key) ?_ ?_
    · rintro _ W2 ⟨hl, g6, hle⟩ _
      obtain ⟨a, r, e, _, hr, hc, hx⟩ := (hp.grow (g05.trans g6) (by decide) fun _ _ h => h).get hl
      subst hx
      cases e
      have eL : lowC q[k] (p.drop i) = (if p[i].key < q[k].key then p[i] :: lowC q[k] (p.drop (i + 1)) else lowC q[k] (p.drop (i + 1))) := by
        rw [drop_cons hl]; simp only [lowC]; rw [if_pos hle]
      have eH : highC q[k] (p.drop i) = highC q[k] (p.drop (i + 1)) := by
        rw [drop_cons hl]; simp only [highC]; rw [if_pos hle]
      rw [eL, eH] at he
      refine drawK_i (fun W => Grow W2 W) (Mod.drew _ _) ?_
      refine ixK_n hl ?_
      rw [faK_i, Addr.add_add]
      refine qld1K_i (fun W hW => hW.cell (hc 0 _ rfl) fun h => h) ?_
      rw [faK_i]
      refine qld1K_i (fun W hW => hW.cell (g6.cell c8 fun h => h) fun h => h) ?_
      rw [ltK_i]
      intro W3 g7
      have ho3 : OwnR w.heap.size 111 6 RChg W3 ov out := OwnR.mod ho (g6.trans g7) (fun _ _ h => h) fun _ _ _ h => h
      refine condK_p (fun hlt => ?_) fun hnl => ?_
      · refine ixK_n hl (ldnK_i hr (fun j u hu => by rw [Addr.add_add]; exact g7.cell (hc j u hu) fun h => h) ?_)
        refine push_g elem_chg ho3 ((g05.trans g6).trans g7).size (cs := p[i].cells) (x := p[i]) (by kernel_rfl) rfl rfl (fun _ _ _ => RChg.one) (fun _ _ _ _ _ _ h => h) (by omega) (by simp only [maxLen]; omega) fun v' w' o' m' hv' => ?_
        rw [if_pos hlt] at he
        rw [addK_i, loop_step (by omega)]
        refine ⟨⟨i + 1, v', out ++ [p[i]], hl, rfl, o', ((g5.grow g6).grow g7).push m' hv', by simp only [List.length_append, List.length_cons, List.length_nil]; omega, by rw [← he]; simp⟩, by rw [iOf1, iOf1]; omega⟩
      · rw [if_neg hnl] at he
        rw [addK_i, loop_step (by omega)]
        exact ⟨⟨i + 1, ov, out, hl, rfl, ho3, (g5.grow g6).grow g7, by omega, he⟩, by rw [iOf1, iOf1]; omega⟩
    · refine drawK_i (fun W => Grow W1 W) (Mod.drew _ _) ?_
      rw [lenK_i, ltK_i]
      refine condK_p (fun hl => ?_) fun hge => ?_
      · have hl' : i < p.length := by omega
        obtain ⟨a, r, e, _, hr, hc, hx⟩ := (hp.grow g05 (by decide) fun _ _ h => h).get hl'
        subst hx
        cases e
        refine ixK_n hl' ?_
        rw [faK_i, Addr.add_add]
        refine qld1K_i (fun W hW => hW.cell (hc 0 _ rfl) fun h => h) ?_
        rw [faK_i]
        refine qld1K_i (fun W hW => hW.cell c8 fun h => h) ?_
        rw [leK_i]
        intro W2 g6
        refine condK_p (fun hle => ⟨hl', g6, hle⟩) fun hgt => ?_
        have eL : lowC q[k] (p.drop i) = [] := by rw [drop_cons hl']; simp only [lowC]; rw [if_neg hgt]
        have eH : highC q[k] (p.drop i) = p.drop i := by rw [drop_cons hl']; simp only [highC]; rw [if_neg hgt]
        rw [eL, eH, List.append_nil] at he
        exact ⟨i, ov, out, hi, rfl, OwnR.mod ho g6 (fun _ _ h => h) fun _ _ _ h => h, g5.grow g6, hlen, he⟩
      · intro W2 g6
        have e : p.drop i = [] := List.drop_eq_nil_of_le (by omega)
        rw [e] at he
        simp only [lowC, highC, List.append_nil] at he
        exact ⟨i, ov, out, hi, rfl, OwnR.mod ho g6 (fun _ _ h => h) fun _ _ _ h => h, g5.grow g6, hlen, by rw [e]; exact he⟩
  · obtain rfl : k = q.length := by omega
    rw [List.drop_length] at he
    simp only [comP] at he
    refine slice_lo (e := 111) (k := 6) (i := Tryz.t111) (by kernel_rfl) (by kernel_rfl) (by kernel_rfl) (hp.grow g (by decide) fun _ _ h => h) hi fun v' hv' => ?_
    refine app_n (w0 := w) elem_chg ho g hv' (fun _ _ => RChg.one (w := W)) (fun _ _ _ _ h => h) (by rw [List.length_drop]; omega) (by simp only [maxLen, List.length_drop]; omega) fun v'' w' o' g' => ?_
    rw [he] at o'
    exact ⟨o', g'⟩
set_option maxRecDepth 20000 in
theorem papp_ok {S S' : Nat → Prop} {sv pv : Value} {s : List Attr} {p : List Chg} {w : World} (hs : RSet S w sv s) (hp : RPat S' w pv p) (hb : s.length + p.length ≤ 1099511627776) :
    callK Tryz.prog 203 [sv, pv] (fun v' w' => OSet w.heap.size w' v' (appP s p) ∧ Grow w w') w := by
  apply S203_ok
  unfold S203
  obtain ⟨sa, sc, rfl, _⟩ := hs.shape
  obtain ⟨pa, pc, rfl, _⟩ := hp.shape
  rw [lenK_i]
  refine LoopK_i (fun vs W => ∃ (k i : Nat) (ov : Value) (out : List Attr), k ≤ p.length ∧ i ≤ s.length ∧ vs = [ov, .int .i64 i, .int .i64 k] ∧ OSet w.heap.size W ov out ∧ Grow w W ∧ out.length + (s.length - i) + (p.length - k) ≤ s.length + p.length ∧ out ++ appP (s.drop i) (p.drop k) = appP s p) (fun vs _ => p.length - iOf vs 2) ⟨0, 0, _, [], by omega, by omega, rfl, OwnR.nil, Mod.refl _ _, by simp, rfl⟩ ?_
  rintro vs W ⟨k, i, ov0, out, hk, hi, rfl, ho, g, hlen, he⟩ _
  simp only [nth_s, nth_z, List.headD_cons, List.tail_cons]
  rw [ltK_i]
  refine condK_p (fun hlt => ?_) fun hge => ?_
  · have hlt' : k < p.length := by omega
    rw [drop_cons hlt'] at he
    simp only [appP] at he
    refine JoinK_i (fun vs W => ∃ (i : Nat) (ov : Value) (out : List Attr), i ≤ s.length ∧ vs = [ov, .int .i64 i] ∧ OSet w.heap.size W ov out ∧ Grow w W ∧ out.length + (s.length - i) + (p.length - (k + 1)) ≤ s.length + p.length ∧ out ++ appP (s.drop i) (p.drop (k + 1)) = appP s p) ?_ ?_
    · rintro vs W ⟨i, ov, out, hi, rfl, ho, g5, hlen, he⟩ _
      simp only [nth_s, nth_z, List.headD_cons, List.tail_cons]
      rw [addK_i, loop_step (by omega)]
      refine ⟨⟨k + 1, i, ov, out, hlt', hi, rfl, ho, g5, hlen, he⟩, ?_⟩
      show p.length - ((k + 1 : Nat) : Int).toNat < p.length - (k : Int).toNat
      omega
    obtain ⟨a, r, rfl, _, hr, hc, rfl⟩ := (hp.grow g (by decide) fun _ _ h => h).get hlt'
    refine ixK_n hlt' (ldnK_i hr (fun j u hu => by rw [Addr.add_add]; exact hc j u hu) ?_)
    refine newst_n (vs := p[k].cells) rfl rfl (RChg.one (w := W) (x := p[k]) rfl) fun b8 w4 hb8 hz8 g4 hc8 _ => ?_
    have g04 := g.trans g4
    have hB : ∀ b, ov0.ownBlock = some b → w.heap.size ≤ b := fun b e => (OwnR.ownB ho b e).1
    have h8 : ov0.ownBlock ≠ some b8 := fun e => by have := (OwnR.ownB ho b8 e).2; omega
    have ho4 : OSet w.heap.size w4 ov0 out := OwnR.mod ho g4 (fun _ _ h => h) fun _ _ _ h => h
    -- what the change itself puts
    have put : ∀ (i : Nat) (ov : Value) (out : List Attr) (W1 : World), OSet w.heap.size W1 ov out → RowIn ov0 w4 W1 ov → i ≤ s.length → out.length + (s.length - i) + (p.length - k) ≤ s.length + p.length → out ++ midA p[k] ++ appP (s.drop i) (p.drop (k + 1)) = appP s p →
        (faK 1 (.pointer (some ⟨b8, 0, none⟩)) fun t48 => ld1K t48 (fun t49 w8 => notK t49 fun t50 => condK t50
          (faK 0 (.pointer (some ⟨b8, 0, none⟩)) fun t52 => ld1K t52 (fun t53 w9 => faK 2 (.pointer (some ⟨b8, 0, none⟩)) fun t54 => ldnK 4 t54 (fun t55 w10 =>
            buildK [(0, 1), (1, 4)] [(.int .i64 0), (.int .u8 0), (.int .i64 0), (.int .u64 0), (.string (ByteArray.mk #[]))] [(0, t53), (1, t55)] fun t56 =>
            rowK 109 5 1 [(.int .i64 0), (.int .u8 0), (.int .i64 0), (.int .u64 0), (.string (ByteArray.mk #[]))] [(0, t56)] (fun t57 w11 =>
            runK Tryz.prog (Builtin.append_ #[36, 36] 36 [ov, t57].toArray) (fun t58 w12 =>
              ∃ (i' : Nat) (ov' : Value) (out' : List Attr), i' ≤ s.length ∧ [t58, .int .i64 (i : Int)] = [ov', .int .i64 (i' : Int)] ∧ OSet w.heap.size w12 ov' out' ∧ Grow w w12 ∧ out'.length + (s.length - i') + (p.length - (k + 1)) ≤ s.length + p.length ∧ out' ++ appP (s.drop i') (p.drop (k + 1)) = appP s p) w11) w10) w9) w8)
          (∃ (i' : Nat) (ov' : Value) (out' : List Attr), i' ≤ s.length ∧ [ov, .int .i64 (i : Int)] = [ov', .int .i64 (i' : Int)] ∧ OSet w.heap.size w8 ov' out' ∧ Grow w w8 ∧ out'.length + (s.length - i') + (p.length - (k + 1)) ≤ s.length + p.length ∧ out' ++ appP (s.drop i') (p.drop (k + 1)) = appP s p)) W1) := by
      intro i ov out W1 ho g5 hi hlen he
      have c8 : ∀ j u, p[k].cells[j]? = some u → W1.cell? ((⟨b8, 0, none⟩ : Addr).add j) = some u := fun j u hu => g5.1.cell (hc8 j u hu) (by rw [add_block]; exact h8)
      rw [faK_i]
      refine ld1K_i (c8 1 _ rfl) ?_
      rw [notK_i]
      have g05 := g5.g g04 hB
      cases hg : p[k].gone with
      | true =>
        refine condK_f ?_
        rw [midA, hg, if_pos rfl, List.append_nil] at he
        exact ⟨i, ov, out, hi, rfl, ho, g05, by omega, he⟩
      | false =>
        refine condK_t ?_
        rw [midA, hg, if_neg (by decide)] at he
        rw [faK_i]
        refine ld1K_i (c8 0 _ rfl) ?_
        rw [faK_i]
        refine ldnK_i (vs := p[k].val.cells) rfl (fun j u hu => by rw [Addr.add_add]; exact c8 (2 + j) u (by rw [Nat.add_comm]; exact hu)) ?_
        refine ⟨(⟨p[k].key, p[k].val⟩ : Attr).cells.toArray, by kernel_rfl, ?_⟩
        refine push_n (w0 := w) elem_attr ho g05 (cs := (⟨p[k].key, p[k].val⟩ : Attr).cells) (x := ⟨p[k].key, p[k].val⟩) (by kernel_rfl) rfl rfl (fun _ _ _ => RAttr.one) (fun _ _ _ _ _ _ h => h) (by omega) (by simp only [maxLen]; omega) fun v' w' o' g' => ?_
        exact ⟨i, v', _, hi, rfl, o', g', by simp only [List.length_append, List.length_cons, List.length_nil]; omega, he⟩
    refine LoopK_i (fun vs W => ∃ (i : Nat) (ov : Value) (out : List Attr), i ≤ s.length ∧ vs = [ov, .int .i64 i] ∧ OSet w.heap.size W ov out ∧ RowIn ov0 w4 W ov ∧ out.length + (s.length - i) + (p.length - k) ≤ s.length + p.length ∧ out ++ (lowA p[k] (s.drop i) ++ midA p[k] ++ appP (highA p[k] (s.drop i)) (p.drop (k + 1))) = appP s p) (fun vs _ => s.length - iOf vs 1) ⟨i, ov0, out, hi, rfl, ho4, RowIn.start, hlen, he⟩ ?_
    clear ho ho4 hlen he hi
    rintro vs W1 ⟨i, ov, out, hi, rfl, ho, g5, hlen, he⟩ _
    have g05 := g5.g g04 hB
    have c8 : W1.cell? ((⟨b8, 0, none⟩ : Addr).add 0) = some (.int .i64 p[k].key) := g5.1.cell (hc8 0 _ rfl) (by rw [add_block]; exact h8)
    simp only [nth_s, nth_z, List.headD_cons, List.tail_cons]
    rw [lenK_i, ltK_i]
    refine condK_p (fun hl => ?_) fun hge => ?_
    · have hl' : i < s.length := by omega
      rw [drop_cons hl'] at he
      simp only [lowA, highA] at he
      refine JoinK_i (fun vs W => ∃ (i : Nat), i ≤ s.length ∧ vs = [ov, .int .i64 i] ∧ Grow W1 W ∧ out.length + (s.length - i) + (p.length - k) ≤ s.length + p.length ∧ out ++ midA p[k] ++ appP (s.drop i) (p.drop (k + 1)) = appP s p) ?_ ?_
      · rintro vs W2 ⟨i', hi', rfl, g6, hlen', he'⟩ _
        simp only [nth_s, nth_z, List.headD_cons, List.tail_cons]
        exact put i' ov out W2 (OwnR.mod ho g6 (fun _ _ h => h) fun _ _ _ h => h) (g5.grow g6) hi' hlen' he'
      obtain ⟨a, r, e, _, hr, hc, hx⟩ := (hs.grow g05 (by decide) fun _ _ h => h).get hl'
      subst hx
      cases e
      refine drawK_i (fun W => Grow W1 W) (Mod.drew _ _) ?_
      refine ixK_n hl' ?_
      rw [faK_i, Addr.add_add]
      refine qld1K_i (fun W hW => hW.cell (hc 0 _ rfl) fun h => h) ?_
      rw [faK_i]
      refine qld1K_i (fun W hW => hW.cell c8 fun h => h) ?_
      rw [ltK_i]
      intro W2 g6
      have ho2 : OSet w.heap.size W2 ov out := OwnR.mod ho g6 (fun _ _ h => h) fun _ _ _ h => h
      refine condK_p (fun hlt => ?_) fun hnl => ?_
      · rw [if_pos hlt, if_pos hlt] at he
        refine ixK_n hl' (ldnK_i hr (fun j u hu => by rw [Addr.add_add]; exact g6.cell (hc j u hu) fun h => h) ?_)
        refine push_g elem_attr ho2 (g05.trans g6).size (cs := s[i].cells) (x := s[i]) (by kernel_rfl) rfl rfl (fun _ _ _ => RAttr.one) (fun _ _ _ _ _ _ h => h) (by omega) (by simp only [maxLen]; omega) fun v' w' o' m' hv' => ?_
        rw [addK_i, loop_step (by omega)]
        refine ⟨⟨i + 1, v', out ++ [s[i]], hl', rfl, o', (g5.grow g6).push m' hv', by simp only [List.length_append, List.length_cons, List.length_nil]; omega, by rw [← he]; simp⟩, by rw [iOf1, iOf1]; omega⟩
      · rw [if_neg hnl, if_neg hnl] at he
        refine drawK_i (fun W => Grow W2 W) (Mod.drew _ _) ?_
        refine ixK_n hl' ?_
        rw [faK_i, Addr.add_add]
        refine qld1K_i (fun W hW => hW.cell (g6.cell (hc 0 _ rfl) fun h => h) fun h => h) ?_
        rw [faK_i]
        refine qld1K_i (fun W hW => hW.cell (g6.cell c8 fun h => h) fun h => h) ?_
        rw [eqK_i]
        intro W3 g7
        refine condK_p (fun heq => ?_) fun hne => ?_
        · rw [if_pos heq] at he
          rw [addK_i, loop_step (by omega)]
          exact ⟨i + 1, hl', rfl, g6.trans g7, by omega, by rw [← he]; simp⟩
        · rw [if_neg hne] at he
          exact ⟨i, hi, rfl, g6.trans g7, hlen, by rw [drop_cons hl', ← he]; simp⟩
    · have e : s.drop i = [] := List.drop_eq_nil_of_le (by omega)
      rw [e] at he
      simp only [lowA, highA, List.nil_append] at he
      exact put i ov out W1 ho g5 hi hlen (by rw [e, ← he]; simp)
  · obtain rfl : k = p.length := by omega
    rw [List.drop_length] at he
    simp only [appP] at he
    refine slice_lo (e := 109) (k := 5) (i := Tryz.t109) (by kernel_rfl) (by kernel_rfl) (by kernel_rfl) (hs.grow g (by decide) fun _ _ h => h) hi fun v' hv' => ?_
    refine app_n (w0 := w) elem_attr ho g hv' (fun _ _ => RAttr.one (w := W)) (fun _ _ _ _ h => h) (by rw [List.length_drop]; omega) (by simp only [maxLen, List.length_drop]; omega) fun v'' w' o' g' => ?_
    rw [he] at o'
    exact ⟨o', g'⟩
end Go.Proofs.YtlbaopamhkmepaaGreatDoor

namespace Go.Proofs.YtlbaopamhkmepaaGreatDoor
open Go Go.K

/-- how many bytes a rune has that begins so (0: none begins so), and the bounds of the second byte -/
def hdSize (b0 : Int) : Nat := if b0 < 194 then 0 else if b0 < 224 then 2 else if b0 < 240 then 3 else if b0 < 245 then 4 else 0
def hdLo (b0 : Int) : Int := if b0 = 224 then 160 else if b0 = 240 then 144 else 128
def hdHi (b0 : Int) : Int := if b0 = 237 then 159 else if b0 = 244 then 143 else 191
theorem wrap32 {x : Int} (h0 : -2147483648 ≤ x) (h1 : x < 2147483648) : IntKind.i32.wrap x = x := by
  have e1 : (2 : Int) ^ IntKind.i32.bits = 4294967296 := by decide
  have e2 : (2 : Int) ^ (IntKind.i32.bits - 1) = 2147483648 := by decide
  simp only [IntKind.wrap, e1, e2, IntKind.signed, Bool.true_and, decide_eq_true_eq]
  split <;> omega
theorem cont_step {b : List Int} {i k : Nat} {c r : Int} (hc : b[i]? = some c) (h0 : 0 ≤ r) (h1 : r < 16777216) (c0 : 0 ≤ c) (c1 : c < 256) : contB b (k + 1) i r = if c < 128 ∨ 191 < c then none else contB b k (i + 1) (r * 64 + c - 128) := by
  simp only [contB, hc]
  rw [wrap32 (x := r * 64) (by omega) (by omega), wrap32 (x := c) (by omega) (by omega), wrap32 (x := r * 64 + c) (by omega) (by omega), wrap32 (x := r * 64 + c - 128) (by omega) (by omega)]
theorem head4 {b0 : Int} (h0 : 240 ≤ b0) (h1 : b0 < 256) : nextHead b0 = some (4, b0 - 240) := by
  unfold nextHead
  rw [if_pos h0, wrap32 (x := b0) (by omega) (by omega), wrap32 (by omega) (by omega)]
theorem head3 {b0 : Int} (h0 : 224 ≤ b0) (h1 : b0 < 240) : nextHead b0 = some (3, b0 - 224) := by
  unfold nextHead
  rw [if_neg (by omega), if_pos h0, wrap32 (x := b0) (by omega) (by omega), wrap32 (by omega) (by omega)]
theorem head2 {b0 : Int} (h0 : 192 ≤ b0) (h1 : b0 < 224) : nextHead b0 = some (2, b0 - 192) := by
  unfold nextHead
  rw [if_neg (by omega), if_neg (by omega), if_pos h0, wrap32 (x := b0) (by omega) (by omega), wrap32 (by omega) (by omega)]
theorem next_ascii {b0 : Int} {t : List Int} (h0 : 0 ≤ b0) (h1 : b0 < 128) : nextB (b0 :: t) = (b0, 1) := by
  have hh : nextHead b0 = some (1, b0) := by
    unfold nextHead
    rw [if_neg (by omega), if_neg (by omega), if_neg (by omega), if_neg (by omega), wrap32 (by omega) (by omega)]
  unfold nextB
  rw [List.headD_cons, hh]
  simp only [List.length_cons, contB, Nat.sub_self]
  rw [if_neg (by omega), if_pos ⟨by unfold MayR; omega, by unfold oneLen; rw [if_pos h1]⟩]
theorem next_short {b0 : Int} {t : List Int} (h1 : b0 < 256) (h : (b0 :: t).length < hdSize b0) : nextB (b0 :: t) = (0, 0) := by
  unfold nextB
  rw [List.headD_cons]
  unfold hdSize at h
  split at h
  · omega
  split at h
  · rw [head2 (by omega) (by omega)]; simp only; rw [if_pos h]
  split at h
  · rw [head3 (by omega) (by omega)]; simp only; rw [if_pos h]
  split at h
  · rw [head4 (by omega) (by omega)]; simp only; rw [if_pos h]
  · omega
theorem cont_lt {b : List Int} : ∀ {k i : Nat} {r x : Int}, contB b k i r = some x → (∀ y ∈ b, 0 ≤ y ∧ y < 256) → 0 ≤ r → r * 64 ^ k < 1073741824 → k ≤ 3 → r * 64 ^ k ≤ x ∧ x ≤ r * 64 ^ k + 64 ^ k - 1 := by
  intro k
  induction k with
  | zero => intro i r x h _ _ _ _; simp only [contB] at h; cases h; simp
  | succ k ih =>
    intro i r x h hb h0 h1 hk
    cases hc : b[i]? with
    | none => simp [contB, hc] at h
    | some c =>
      have hcb := hb c (List.mem_iff_getElem?.2 ⟨i, hc⟩)
      have e : (64 : Int) ^ (k + 1) = 64 * 64 ^ k := by rw [Int.pow_succ]; omega
      rw [e] at h1
      have hp : (1 : Int) ≤ 64 ^ k := by
        rcases (show k = 0 ∨ k = 1 ∨ k = 2 by omega) with rfl | rfl | rfl <;> decide
      have h2 : r * (64 * 64 ^ k) = (r * 64) * 64 ^ k := by rw [Int.mul_assoc]
      rw [h2] at h1
      have hr : r * 64 ≤ r * 64 * 64 ^ k := by
        have := Int.mul_le_mul_of_nonneg_left hp (show 0 ≤ r * 64 by omega)
        omega
      rw [cont_step hc h0 (by omega) hcb.1 hcb.2] at h
      split at h
      · cases h
      · rename_i hcc
        have e3 : (r * 64 + c - 128) * 64 ^ k = r * 64 * 64 ^ k + (c - 128) * 64 ^ k := by rw [show r * 64 + c - 128 = r * 64 + (c - 128) by omega, Int.add_mul]
        have hc2 : (c - 128) * 64 ^ k ≤ 63 * 64 ^ k := Int.mul_le_mul_of_nonneg_right (by omega) (by omega)
        have hc3 : 0 ≤ (c - 128) * 64 ^ k := Int.mul_nonneg (by omega) (by omega)
        have hp3 : (64 : Int) ^ k ≤ 4096 := by
          rcases (show k = 0 ∨ k = 1 ∨ k = 2 by omega) with rfl | rfl | rfl <;> decide
        by_cases hbig : (r * 64 + c - 128) * 64 ^ k < 1073741824
        · have := ih h hb (by omega) hbig (by omega)
          rw [e, h2]
          omega
        · exfalso
          rw [e3] at hbig
          have hdv : r * 64 * 64 ^ k ≤ 1073741824 - 64 * 64 ^ k := by
            rcases (show k = 0 ∨ k = 1 ∨ k = 2 by omega) with rfl | rfl | rfl
            · simp only [Int.pow_zero] at *; omega
            · simp only [Int.pow_one] at *; omega
            · rw [show (64 : Int) ^ 2 = 4096 by decide] at *; omega
          omega
theorem next_bad {b0 : Int} {t : List Int} (hb : ∀ y ∈ b0 :: t, 0 ≤ y ∧ y < 256) (h0 : 128 ≤ b0) (h : hdSize b0 = 0) : nextB (b0 :: t) = (0, 0) := by
  have h1 := (hb b0 List.mem_cons_self).2
  have hc : b0 < 194 ∨ 245 ≤ b0 := by
    unfold hdSize at h
    (repeat' split at h) <;> omega
  unfold nextB
  rw [List.headD_cons]
  by_cases h2 : b0 < 192
  · have hh : nextHead b0 = none := by
      unfold nextHead
      rw [if_neg (by omega), if_neg (by omega), if_neg (by omega), if_pos h0]
    rw [hh]
  by_cases h3 : b0 < 194
  · rw [head2 (by omega) (by omega)]
    simp only
    split
    · rfl
    · split
      · rfl
      · rename_i x hx
        have := cont_lt hx hb (by omega) (by omega) (by omega)
        rw [if_neg]
        rintro ⟨_, ho⟩
        unfold oneLen at ho
        rw [if_pos (by omega)] at ho
        omega
  · rw [head4 (by omega) (by omega)]
    simp only
    split
    · rfl
    · split
      · rfl
      · rename_i x hx
        have := cont_lt hx hb (by omega) (by omega) (by omega)
        rw [if_neg]
        rintro ⟨hm, _⟩
        unfold MayR at hm
        omega
theorem next_2 {b0 c1 : Int} {t : List Int} (h : hdSize b0 = 2) (c0 : 0 ≤ c1) (c2 : c1 < 256) :
    nextB (b0 :: c1 :: t) = if hdLo b0 ≤ c1 ∧ c1 ≤ hdHi b0 then ((b0 - 192) * 64 + (c1 - 128), 2) else (0, 0) := by
  have hb : 194 ≤ b0 ∧ b0 < 224 := by
    unfold hdSize at h
    (repeat' split at h) <;> omega
  have hl : hdLo b0 = 128 := by unfold hdLo; rw [if_neg (by omega), if_neg (by omega)]
  have hh : hdHi b0 = 191 := by unfold hdHi; rw [if_neg (by omega), if_neg (by omega)]
  unfold nextB
  rw [List.headD_cons, head2 (by omega) (by omega)]
  simp only
  rw [if_neg (by simp), cont_step (b := b0 :: c1 :: t) (i := 1) (c := c1) rfl (by omega) (by omega) c0 c2, hl, hh]
  by_cases hc : c1 < 128 ∨ 191 < c1
  · rw [if_pos hc, if_neg (by omega)]
  · rw [if_neg hc, if_pos (by omega)]
    simp only [contB]
    rw [if_pos ⟨by unfold MayR; omega, by unfold oneLen; rw [if_neg (by omega), if_pos (by omega)]⟩]
    congr 1; omega
theorem next_3 {b0 c1 c2 : Int} {t : List Int} (h : hdSize b0 = 3) (c0 : 0 ≤ c1) (c0' : c1 < 256) (d0 : 0 ≤ c2) (d0' : c2 < 256) :
    nextB (b0 :: c1 :: c2 :: t) = if (hdLo b0 ≤ c1 ∧ c1 ≤ hdHi b0) ∧ 128 ≤ c2 ∧ c2 ≤ 191 then ((b0 - 224) * 4096 + (c1 - 128) * 64 + (c2 - 128), 3) else (0, 0) := by
  have hb : 224 ≤ b0 ∧ b0 < 240 := by
    unfold hdSize at h
    (repeat' split at h) <;> omega
  have hl : hdLo b0 = if b0 = 224 then 160 else 128 := by
    unfold hdLo; split
    · rfl
    · rw [if_neg (by omega)]
  have hh : hdHi b0 = if b0 = 237 then 159 else 191 := by
    unfold hdHi; split
    · rfl
    · rw [if_neg (by omega)]
  unfold nextB
  rw [List.headD_cons, head3 (by omega) (by omega)]
  simp only
  rw [if_neg (by simp), cont_step (b := b0 :: c1 :: c2 :: t) (i := 1) (c := c1) rfl (by omega) (by omega) c0 c0', hl, hh]
  by_cases hc : c1 < 128 ∨ 191 < c1
  · rw [if_pos hc, if_neg]
    rintro ⟨⟨h1, h2⟩, _⟩
    split at h1 <;> split at h2 <;> omega
  rw [if_neg hc, cont_step (b := b0 :: c1 :: c2 :: t) (i := 2) (c := c2) rfl (by omega) (by omega) d0 d0']
  by_cases hd : c2 < 128 ∨ 191 < c2
  · rw [if_pos hd, if_neg (by omega)]
  rw [if_neg hd]
  simp only [contB]
  by_cases ha : ((if b0 = 224 then (160 : Int) else 128) ≤ c1 ∧ c1 ≤ (if b0 = 237 then (159 : Int) else 191))
  · have hA := (show (_ ∧ 128 ≤ c2 ∧ c2 ≤ 191) from ⟨ha, by omega⟩)
    rw [if_pos hA, if_pos]
    · congr 1; omega
    · obtain ⟨h1, h2⟩ := ha
      refine ⟨?_, ?_⟩
      · unfold MayR
        split at h1 <;> split at h2 <;> omega
      · unfold oneLen
        rw [if_neg (by split at h1 <;> omega), if_neg (by split at h1 <;> omega), if_pos (by omega)]
  · rw [if_neg (fun x : (_ ∧ 128 ≤ c2 ∧ c2 ≤ 191) => ha x.1), if_neg]
    rintro ⟨hm, ho⟩
    apply ha
    unfold MayR at hm
    have : ¬ (b0 - 224) * 64 * 64 + (c1 - 128) * 64 + c2 - 128 < 2048 := by
      intro hx
      unfold oneLen at ho
      split at ho
      · cases ho
      · split at ho
        · cases ho
        · omega
    constructor
    · split <;> omega
    · split <;> omega
theorem next_4 {b0 c1 c2 c3 : Int} {t : List Int} (h : hdSize b0 = 4) (c0 : 0 ≤ c1) (c0' : c1 < 256) (d0 : 0 ≤ c2) (d0' : c2 < 256) (e0 : 0 ≤ c3) (e0' : c3 < 256) :
    nextB (b0 :: c1 :: c2 :: c3 :: t) = if (hdLo b0 ≤ c1 ∧ c1 ≤ hdHi b0) ∧ (128 ≤ c2 ∧ c2 ≤ 191) ∧ 128 ≤ c3 ∧ c3 ≤ 191 then ((b0 - 240) * 262144 + (c1 - 128) * 4096 + (c2 - 128) * 64 + (c3 - 128), 4) else (0, 0) := by
  have hb : 240 ≤ b0 ∧ b0 < 245 := by
    unfold hdSize at h
    (repeat' split at h) <;> omega
  have hl : hdLo b0 = if b0 = 240 then 144 else 128 := by unfold hdLo; rw [if_neg (by omega)]
  have hh : hdHi b0 = if b0 = 244 then 143 else 191 := by unfold hdHi; rw [if_neg (by omega)]
  unfold nextB
  rw [List.headD_cons, head4 (by omega) (by omega)]
  simp only
  rw [if_neg (by simp), cont_step (b := b0 :: c1 :: c2 :: c3 :: t) (i := 1) (c := c1) rfl (by omega) (by omega) c0 c0', hl, hh]
  by_cases hc : c1 < 128 ∨ 191 < c1
  · rw [if_pos hc, if_neg]
    rintro ⟨⟨h1, h2⟩, _⟩
    split at h1 <;> split at h2 <;> omega
  rw [if_neg hc, cont_step (b := b0 :: c1 :: c2 :: c3 :: t) (i := 2) (c := c2) rfl (by omega) (by omega) d0 d0']
  by_cases hd : c2 < 128 ∨ 191 < c2
  · rw [if_pos hd, if_neg (by omega)]
  rw [if_neg hd, cont_step (b := b0 :: c1 :: c2 :: c3 :: t) (i := 3) (c := c3) rfl (by omega) (by omega) e0 e0']
  by_cases he : c3 < 128 ∨ 191 < c3
  · rw [if_pos he, if_neg (by omega)]
  rw [if_neg he]
  simp only [contB]
  by_cases ha : ((if b0 = 240 then (144 : Int) else 128) ≤ c1 ∧ c1 ≤ (if b0 = 244 then (143 : Int) else 191))
  · have hA := (show (_ ∧ (128 ≤ c2 ∧ c2 ≤ 191) ∧ 128 ≤ c3 ∧ c3 ≤ 191) from ⟨ha, by omega⟩)
    rw [if_pos hA, if_pos]
    · congr 1; omega
    · obtain ⟨h1, h2⟩ := ha
      refine ⟨?_, ?_⟩
      · unfold MayR
        split at h1 <;> split at h2 <;> omega
      · unfold oneLen
        rw [if_neg (by split at h1 <;> omega), if_neg (by split at h1 <;> omega), if_neg (by split at h1 <;> omega)]
  · rw [if_neg (fun x : (_ ∧ (128 ≤ c2 ∧ c2 ≤ 191) ∧ 128 ≤ c3 ∧ c3 ≤ 191) => ha x.1), if_neg]
    rintro ⟨hm, ho⟩
    apply ha
    unfold MayR at hm
    have : ¬ ((b0 - 240) * 64 + (c1 - 128)) * 64 * 64 + (c2 - 128) * 64 + c3 - 128 < 65536 := by
      intro hx
      unfold oneLen at ho
      split at ho
      · cases ho
      · split at ho
        · cases ho
        · split at ho
          · cases ho
          · omega
    constructor
    · split <;> omega
    · split <;> omega
theorem readB_step {b : List Int} (hb : b ≠ []) : (readB b).isSome = (decide ((nextB b).2 ≠ 0) && (readB (b.drop (nextB b).2)).isSome) := by
  rw [readB_cons hb]
  by_cases h : (nextB b).2 = 0
  · simp [h]
  · simp [h]
theorem readB_nil : readB ([] : List Int) = some [] := by simp [readB, readF]
theorem readB_skip : ∀ {k : Nat} {b : List Int}, k ≤ b.length → (∀ j x, j < k → b[j]? = some x → 0 ≤ x ∧ x < 128) → (readB b).isSome = (readB (b.drop k)).isSome := by
  intro k
  induction k with
  | zero => intro b _ _; rw [List.drop_zero]
  | succ k ih =>
    intro b hk h
    cases b with
    | nil => simp at hk
    | cons b0 t =>
      have h0 := h 0 b0 (by omega) rfl
      rw [readB_step (by simp), next_ascii h0.1 h0.2]
      simp only [List.drop_succ_cons]
      simp only [ne_eq, Nat.one_ne_zero, not_false_eq_true, decide_true, Bool.true_and, List.drop_zero]
      exact ih (by simpa using hk) fun j x hj hx => h (j + 1) x (by omega) hx
end Go.Proofs.YtlbaopamhkmepaaGreatDoor

namespace Go.Proofs.YtlbaopamhkmepaaGreatDoor
open Go Go.K
theorem order_self (n : Nat) : (FloatKind.f64.format.order n n != some .eq) = decide (NoNum (n : Int)) := by
  have h1 : Ieee.double.signWeight = 9223372036854775808 := by decide
  have h2 : Ieee.double.infRung = 9218868437227405312 := by decide
  have h3 : Ieee.double.binade = 4503599627370496 := by decide
  have hN : NoNum (n : Int) ↔ 9218868437227405312 < n % 9223372036854775808 := by
    unfold NoNum
    rw [Int.tmod_eq_emod_of_nonneg (by omega)]
    omega
  have hs : ∀ x : Int, compare x x = .eq := fun x => by simp [compare, compareOfLessAndEq]
  have hn : ∀ x : Nat, compare x x = .eq := fun x => by simp [compare, compareOfLessAndEq]
  rw [show decide (NoNum (n : Int)) = decide (9218868437227405312 < n % 9223372036854775808) from decide_eq_decide.2 hN]
  show ((Ieee.double.read n).order (Ieee.double.read n) != some .eq) = _
  unfold Ieee.Format.read
  simp only [h1, h2, h3]
  split
  · rename_i hh
    have : ¬ 9218868437227405312 < n % 9223372036854775808 := by omega
    simp only [Ieee.Datum.order, hs, decide_eq_false this]; rfl
  · split
    · have : ¬ 9218868437227405312 < n % 9223372036854775808 := by omega
      simp only [Ieee.Datum.order, hs, decide_eq_false this]; rfl
    · split
      · have : ¬ 9218868437227405312 < n % 9223372036854775808 := by omega
        simp only [Ieee.Datum.order, hn, decide_eq_false this]; rfl
      · have : 9218868437227405312 < n % 9223372036854775808 := by omega
        simp only [Ieee.Datum.order, decide_eq_true this]; rfl
/-- what a word of eight bytes is, as far as the test of the eighth bits goes -/
def U64 (x : Int) : Prop := 0 ≤ x ∧ x < 18446744073709551616
def orN (a b : Int) : Int := ((a.toNat ||| b.toNat : Nat) : Int)
theorem wrapu64 {x : Int} (h : U64 x) : IntKind.u64.wrap x = x := by
  have e1 : (2 : Int) ^ IntKind.u64.bits = 18446744073709551616 := by decide
  unfold U64 at h
  simp only [IntKind.wrap, e1, IntKind.signed, Bool.false_and]
  rw [if_neg (by decide)]
  omega
theorem bv_or {a b : Int} (ha : U64 a) (hb : U64 b) : ((BitVec.ofInt 64 a ||| BitVec.ofInt 64 b).toNat : Int) = orN a b := by
  unfold U64 at ha hb
  unfold orN
  rw [BitVec.toNat_or, BitVec.toNat_ofInt, BitVec.toNat_ofInt]
  have e : ((2 ^ 64 : Nat) : Int) = 18446744073709551616 := by decide
  rw [e, Int.emod_eq_of_lt ha.1 ha.2, Int.emod_eq_of_lt hb.1 hb.2]
theorem bv_and {a b : Int} (ha : U64 a) (hb : U64 b) : ((BitVec.ofInt 64 a &&& BitVec.ofInt 64 b).toNat : Int) = ((a.toNat &&& b.toNat : Nat) : Int) := by
  unfold U64 at ha hb
  rw [BitVec.toNat_and, BitVec.toNat_ofInt, BitVec.toNat_ofInt]
  have e : ((2 ^ 64 : Nat) : Int) = 18446744073709551616 := by decide
  rw [e, Int.emod_eq_of_lt ha.1 ha.2, Int.emod_eq_of_lt hb.1 hb.2]
theorem orN_U {a b : Int} (ha : U64 a) (hb : U64 b) : U64 (orN a b) := by
  unfold U64 at *
  unfold orN
  have : a.toNat ||| b.toNat < 2 ^ 64 := Nat.or_lt_two_pow (by omega) (by omega)
  omega
def HiB (x : Int) (j : Nat) : Prop := x.toNat.testBit (8 * j + 7) = true
theorem HiB.l {a b : Int} {j : Nat} (h : HiB a j) : HiB (orN a b) j := by
  unfold HiB orN at *
  rw [Int.toNat_natCast, Nat.testBit_or, h, Bool.true_or]
theorem HiB.r {a b : Int} {j : Nat} (h : HiB b j) : HiB (orN a b) j := by
  unfold HiB orN at *
  rw [Int.toNat_natCast, Nat.testBit_or, h, Bool.or_true]
theorem hib_byte {x : Int} {j : Nat} (hj : j < 8) (h0 : 128 ≤ x) (h1 : x < 256) : U64 (x * 2 ^ (8 * j)) ∧ HiB (x * 2 ^ (8 * j)) j := by
  obtain ⟨n, rfl⟩ : ∃ n : Nat, x = n := ⟨x.toNat, by omega⟩
  have e : ((n : Int) * 2 ^ (8 * j)) = ((n * 2 ^ (8 * j) : Nat) : Int) := by rw [Int.natCast_mul, Int.natCast_pow]; rfl
  have hp : n * 2 ^ (8 * j) < 2 ^ (8 + 8 * j) := by
    rw [Nat.pow_add]
    exact Nat.mul_lt_mul_of_pos_right (by omega) (Nat.pow_pos (by decide))
  have hq : 2 ^ (8 + 8 * j) ≤ 2 ^ 64 := Nat.pow_le_pow_right (by decide) (by omega)
  refine ⟨?_, ?_⟩
  · rw [e]; unfold U64; omega
  · rw [e]; unfold HiB
    rw [Int.toNat_natCast, Nat.testBit_mul_two_pow]
    simp only [show 8 * j ≤ 8 * j + 7 by omega, decide_true, Bool.true_and, show 8 * j + 7 - 8 * j = 7 by omega]
    rw [Nat.testBit_eq_decide_div_mod_eq]
    rw [decide_eq_true_eq]
    omega
theorem hib_u {x : Int} {j : Nat} (hj : j < 8) (h0 : 0 ≤ x) (h1 : x < 256) : U64 (x * 2 ^ (8 * j)) := by
  obtain ⟨n, rfl⟩ : ∃ n : Nat, x = n := ⟨x.toNat, by omega⟩
  have e : ((n : Int) * 2 ^ (8 * j)) = ((n * 2 ^ (8 * j) : Nat) : Int) := by rw [Int.natCast_mul, Int.natCast_pow]; rfl
  have hp : n * 2 ^ (8 * j) < 2 ^ (8 + 8 * j) := by
    rw [Nat.pow_add]
    exact Nat.mul_lt_mul_of_pos_right (by omega) (Nat.pow_pos (by decide))
  have hq : 2 ^ (8 + 8 * j) ≤ 2 ^ 64 := Nat.pow_le_pow_right (by decide) (by omega)
  rw [e]; unfold U64; omega
theorem hib_none {x : Int} (h : x.toNat &&& 9259542123273814144 = 0) {j : Nat} (hj : j < 8) : ¬ HiB x j := by
  intro hx
  unfold HiB at hx
  have : (x.toNat &&& 9259542123273814144).testBit (8 * j + 7) = true := by
    rw [Nat.testBit_and, hx, Bool.true_and]
    rcases (show j = 0 ∨ j = 1 ∨ j = 2 ∨ j = 3 ∨ j = 4 ∨ j = 5 ∨ j = 6 ∨ j = 7 by omega) with rfl | rfl | rfl | rfl | rfl | rfl | rfl | rfl <;> decide
  rw [h, Nat.zero_testBit] at this
  cases this
end Go.Proofs.YtlbaopamhkmepaaGreatDoor

namespace Go.Proofs.YtlbaopamhkmepaaGreatDoor
open Go Go.K
/-- (*rubric/schema.Schema).Fits -/
def S192 (v0 v1 v2 : Value) (K : Cont) (w : World) : Prop :=
  boxnK 107 v2 (fun t5 w1 =>
  callK Tryz.prog 193 [v0, v1] (fun t12 w2 =>
  extK 0 t12 fun t13 =>
  extK 1 t12 fun t14 =>
  newK 84 [(.int .i64 0), (.bool false), (.int .u8 0), (.bool false), (.bool false), (.int .i64 0)] (fun t7 w3 =>
  stnK 6 t7 t13 (fun w4 =>
  condK t14
  (faK 2 t7 fun t17 =>
  ld1K t17 (fun t18 w5 =>
  faK 0 t5 fun t19 =>
  ld1K t19 (fun t20 w6 =>
  eqK .u8 t18 t20 fun t21 =>
  condK t21
  (ldnK 4 t5 (fun t24 w7 =>
  callK Tryz.prog 191 [t24] (fun t25 w8 =>
  K t25 w8) w7) w6)
  (K (.bool false) w6)) w5) w4)
  (K (.bool false) w4)) w3) w2) w1) w
theorem S192_eq (v0 v1 v2 : Value) (K : Cont) (w : World) : S192 v0 v1 v2 K w = D Tryz.prog okf 27 (bodyOf Tryz.f192) (.node [] [] .nil (.node [] [] .nil (.node [] [] .nil .nil))) (retK Tryz.prog [.tmp 6] K) (nth [v0, v1, v2]) w := by kernel_rfl
theorem S192_ok {v0 v1 v2 : Value} {K : Cont} {w : World} (h : S192 v0 v1 v2 K w) : callK Tryz.prog 192 [v0, v1, v2] K w :=
  callK_of (P := Tryz.prog) (ok := okf) (n := 27) (fn := Tryz.f192) (c := bodyOf Tryz.f192) (rs := [.tmp 6]) (an := (.node [] [] .nil (.node [] [] .nil (.node [] [] .nil .nil)))) good mixed Tryz.func192 (by kernel_rfl) (by kernel_rfl) (by kernel_rfl) (by kernel_rfl) (Eq.mp (S192_eq v0 v1 v2 K w) h)

/-- rubric/value.May -/
def S191 (v0 : Value) (K : Cont) (w : World) : Prop :=
  boxnK 107 v0 (fun t1 w1 =>
  faK 0 t1 fun t5 =>
  ld1K t5 (fun t6 w2 =>
  eqK .u8 t6 (.int .u8 1) fun t8 =>
  condK t8
  (DrawK w2 (fun C =>
  qldnK C 4 t1 fun t9 =>
  faK 1 t1 fun t10 =>
  qld1K C t10 fun t11 =>
  eqK .i64 t11 (.int .i64 1) fun t12 =>
  qcallK Tryz.prog C 206 [t12] fun t13 =>
  qrunK Tryz.prog C (binS .eql 107 (.tmp 9) (.tmp 13) t9 t13) fun t14 =>
  ∀ w3 : World, C w3 →
  K t14 w3))
  (eqK .u8 t6 (.int .u8 2) fun t16 =>
  condK t16
  (DrawK w2 (fun C_1 =>
  qldnK C_1 4 t1 fun t17 =>
  faK 1 t1 fun t18 =>
  qld1K C_1 t18 fun t19 =>
  qcallK Tryz.prog C_1 207 [t19] fun t20 =>
  qrunK Tryz.prog C_1 (binS .eql 107 (.tmp 17) (.tmp 20) t17 t20) fun t21 =>
  ∀ w4 : World, C_1 w4 →
  K t21 w4))
  (eqK .u8 t6 (.int .u8 3) fun t23 =>
  condK t23
  (DrawK w2 (fun C_2 =>
  qldnK C_2 4 t1 fun t24 =>
  faK 2 t1 fun t25 =>
  qld1K C_2 t25 fun t26 =>
  qextK Tryz.prog C_2 209 [t26] fun t27 =>
  qcallK Tryz.prog C_2 208 [t27] fun t28 =>
  qrunK Tryz.prog C_2 (binS .eql 107 (.tmp 24) (.tmp 28) t24 t28) fun t29 =>
  ∀ w5 : World, C_2 w5 →
  K t29 w5))
  (eqK .u8 t6 (.int .u8 4) fun t31 =>
  condK t31
  (faK 3 t1 fun t33 =>
  ld1K t33 (fun t34 w6 =>
  callK Tryz.prog 210 [t34] (fun t35 w7 =>
  extK 0 t35 fun t36 =>
  extK 1 t35 fun t37 =>
  newK 107 [(.int .u8 0), (.int .i64 0), (.int .u64 0), (.string (ByteArray.mk #[]))] (fun t3 w8 =>
  stnK 4 t3 t36 (fun w9 =>
  eqK .i64 t37 (.int .i64 0) fun t39 =>
  condK t39
  (ldnK 4 t1 (fun t41 w10 =>
  ldnK 4 t3 (fun t42 w11 =>
  runK Tryz.prog (binS .eql 107 (.tmp 41) (.tmp 42) t41 t42) (fun t43 w12 =>
  K t43 w12) w11) w10) w9)
  (K (.bool false) w9)) w8) w7) w6) w2)
  (K (.bool false) w2))))) w1) w
theorem S191_eq (v0 : Value) (K : Cont) (w : World) : S191 v0 K w = D Tryz.prog okf 45 (bodyOf Tryz.f191) (.node [] [] .nil (.node [] [] (.node [] [] .nil (.node [] [] .nil (.node [] [] (.node [] [] .draw .nil) (.node [] [] .nil (.node [] [] (.node [] [] .draw .nil) (.node [] [] .nil (.node [] [] (.node [] [] .draw .nil) (.node [] [] .nil (.node [] [] (.node [] [] .nil (.node [] [] .nil .nil)) .nil))))))))) (.node [] [] .nil .nil))) (retK Tryz.prog [.tmp 2] K) (nth [v0]) w := by kernel_rfl
theorem S191_ok {v0 : Value} {K : Cont} {w : World} (h : S191 v0 K w) : callK Tryz.prog 191 [v0] K w :=
  callK_of (P := Tryz.prog) (ok := okf) (n := 45) (fn := Tryz.f191) (c := bodyOf Tryz.f191) (rs := [.tmp 2]) (an := (.node [] [] .nil (.node [] [] (.node [] [] .nil (.node [] [] .nil (.node [] [] (.node [] [] .draw .nil) (.node [] [] .nil (.node [] [] (.node [] [] .draw .nil) (.node [] [] .nil (.node [] [] (.node [] [] .draw .nil) (.node [] [] .nil (.node [] [] (.node [] [] .nil (.node [] [] .nil .nil)) .nil))))))))) (.node [] [] .nil .nil)))) good mixed Tryz.func191 (by kernel_rfl) (by kernel_rfl) (by kernel_rfl) (by kernel_rfl) (Eq.mp (S191_eq v0 K w) h)

/-- rubric/value.Flag -/
def S206 (v0 : Value) (K : Cont) (w : World) : Prop :=
  newK 107 [(.int .u8 0), (.int .i64 0), (.int .u64 0), (.string (ByteArray.mk #[]))] (fun t2 w1 =>
  buildK [(0, 1), (1, 1), (2, 1), (3, 1)] [(.int .u8 0), (.int .i64 0), (.int .u64 0), (.string (ByteArray.mk #[]))] [(0, (.int .u8 1))] fun t4 =>
  newK 107 [(.int .u8 0), (.int .i64 0), (.int .u64 0), (.string (ByteArray.mk #[]))] (fun t3 w2 =>
  stnK 4 t3 t4 (fun w3 =>
  condK v0
  (faK 1 t3 fun t6 =>
  st1K t6 (.int .i64 1) (fun w4 =>
  ldnK 4 t3 (fun t7 w5 =>
  stnK 4 t2 t7 (fun w6 =>
  ldnK 4 t2 (fun r0 w7 =>
  K r0 w7) w6) w5) w4) w3)
  (ldnK 4 t3 (fun t7_1 w8 =>
  stnK 4 t2 t7_1 (fun w9 =>
  ldnK 4 t2 (fun r0_1 w10 =>
  K r0_1 w10) w9) w8) w3)) w2) w1) w
theorem S206_eq (v0 : Value) (K : Cont) (w : World) : S206 v0 K w = D Tryz.prog okf 8 (bodyOf Tryz.f206) (.node [] [] .nil (.node [] [] .nil (.node [] [] (.node [] [] .nil (.node [] [] .nil .nil)) (.node [] [] .nil .nil)))) (retK Tryz.prog [.cell 2 107] K) (nth [v0]) w := by kernel_rfl
theorem S206_ok {v0 : Value} {K : Cont} {w : World} (h : S206 v0 K w) : callK Tryz.prog 206 [v0] K w :=
  callK_of (P := Tryz.prog) (ok := okf) (n := 8) (fn := Tryz.f206) (c := bodyOf Tryz.f206) (rs := [.cell 2 107]) (an := (.node [] [] .nil (.node [] [] .nil (.node [] [] (.node [] [] .nil (.node [] [] .nil .nil)) (.node [] [] .nil .nil))))) good mixed Tryz.func206 (by kernel_rfl) (by kernel_rfl) (by kernel_rfl) (by kernel_rfl) (Eq.mp (S206_eq v0 K w) h)

/-- rubric/value.Int -/
def S207 (v0 : Value) (K : Cont) (w : World) : Prop :=
  newK 107 [(.int .u8 0), (.int .i64 0), (.int .u64 0), (.string (ByteArray.mk #[]))] (fun t2 w1 =>
  buildK [(0, 1), (1, 1), (2, 1), (3, 1)] [(.int .u8 0), (.int .i64 0), (.int .u64 0), (.string (ByteArray.mk #[]))] [(0, (.int .u8 2)), (1, v0)] fun t4 =>
  stnK 4 t2 t4 (fun w2 =>
  ldnK 4 t2 (fun r0 w3 =>
  K r0 w3) w2) w1) w
theorem S207_eq (v0 : Value) (K : Cont) (w : World) : S207 v0 K w = D Tryz.prog okf 5 (bodyOf Tryz.f207) (.node [] [] .nil (.node [] [] .nil .nil)) (retK Tryz.prog [.cell 2 107] K) (nth [v0]) w := by kernel_rfl
theorem S207_ok {v0 : Value} {K : Cont} {w : World} (h : S207 v0 K w) : callK Tryz.prog 207 [v0] K w :=
  callK_of (P := Tryz.prog) (ok := okf) (n := 5) (fn := Tryz.f207) (c := bodyOf Tryz.f207) (rs := [.cell 2 107]) (an := (.node [] [] .nil (.node [] [] .nil .nil))) good mixed Tryz.func207 (by kernel_rfl) (by kernel_rfl) (by kernel_rfl) (by kernel_rfl) (Eq.mp (S207_eq v0 K w) h)

/-- rubric/value.Float -/
def S208 (v0 : Value) (K : Cont) (w : World) : Prop :=
  newK 107 [(.int .u8 0), (.int .i64 0), (.int .u64 0), (.string (ByteArray.mk #[]))] (fun t2 w1 =>
  callK Tryz.prog 216 [v0] (fun t4 w2 =>
  condK t4
  (buildK [(0, 1), (1, 1), (2, 1), (3, 1)] [(.int .u8 0), (.int .i64 0), (.int .u64 0), (.string (ByteArray.mk #[]))] [(0, (.int .u8 3)), (2, (.int .u64 9221120237041090560))] fun t5 =>
  stnK 4 t2 t5 (fun w3 =>
  ldnK 4 t2 (fun r0 w4 =>
  K r0 w4) w3) w2)
  (extcK Tryz.prog 217 [v0] (fun t7 w5 =>
  buildK [(0, 1), (1, 1), (2, 1), (3, 1)] [(.int .u8 0), (.int .i64 0), (.int .u64 0), (.string (ByteArray.mk #[]))] [(0, (.int .u8 3)), (2, t7)] fun t8 =>
  stnK 4 t2 t8 (fun w6 =>
  ldnK 4 t2 (fun r0_1 w7 =>
  K r0_1 w7) w6) w5) w2)) w1) w
theorem S208_eq (v0 : Value) (K : Cont) (w : World) : S208 v0 K w = D Tryz.prog okf 9 (bodyOf Tryz.f208) (.node [] [] .nil (.node [] [] (.node [] [] .nil (.node [] [] (.node [] [] .nil .nil) .nil)) (.node [] [] .nil .nil))) (retK Tryz.prog [.cell 2 107] K) (nth [v0]) w := by kernel_rfl
theorem S208_ok {v0 : Value} {K : Cont} {w : World} (h : S208 v0 K w) : callK Tryz.prog 208 [v0] K w :=
  callK_of (P := Tryz.prog) (ok := okf) (n := 9) (fn := Tryz.f208) (c := bodyOf Tryz.f208) (rs := [.cell 2 107]) (an := (.node [] [] .nil (.node [] [] (.node [] [] .nil (.node [] [] (.node [] [] .nil .nil) .nil)) (.node [] [] .nil .nil)))) good mixed Tryz.func208 (by kernel_rfl) (by kernel_rfl) (by kernel_rfl) (by kernel_rfl) (Eq.mp (S208_eq v0 K w) h)

/-- rubric/value.Text -/
def S210 (v0 : Value) (K : Cont) (w : World) : Prop :=
  newK 107 [(.int .u8 0), (.int .i64 0), (.int .u64 0), (.string (ByteArray.mk #[]))] (fun t2 w1 =>
  slenK v0 fun t7 =>
  gtK .i64 t7 (.int .i64 64) fun t8 =>
  condK t8
  (buildK [(0, 1), (1, 1), (2, 1), (3, 1)] [(.int .u8 0), (.int .i64 0), (.int .u64 0), (.string (ByteArray.mk #[]))] [] fun t9 =>
  stnK 4 t2 t9 (fun w2 =>
  ldnK 4 t2 (fun r0 w3 =>
  K (.tuple #[r0, (.int .i64 3)]) w3) w2) w1)
  (runK Tryz.prog (convert 9 70 v0) (fun t12 w4 =>
  callK Tryz.prog 114 [t12] (fun t13 w5 =>
  extK 0 t13 fun _t14 =>
  extK 1 t13 fun t15 =>
  neK .i64 t15 (.int .i64 0) fun t17 =>
  condK t17
  (buildK [(0, 1), (1, 1), (2, 1), (3, 1)] [(.int .u8 0), (.int .i64 0), (.int .u64 0), (.string (ByteArray.mk #[]))] [] fun t18 =>
  stnK 4 t2 t18 (fun w6 =>
  ldnK 4 t2 (fun r0_1 w7 =>
  K (.tuple #[r0_1, t15]) w7) w6) w5)
  (buildK [(0, 1), (1, 1), (2, 1), (3, 1)] [(.int .u8 0), (.int .i64 0), (.int .u64 0), (.string (ByteArray.mk #[]))] [(0, (.int .u8 4)), (3, v0)] fun t21 =>
  stnK 4 t2 t21 (fun w8 =>
  ldnK 4 t2 (fun r0_2 w9 =>
  K (.tuple #[r0_2, (.int .i64 0)]) w9) w8) w5)) w4) w1)) w
theorem S210_eq (v0 : Value) (K : Cont) (w : World) : S210 v0 K w = D Tryz.prog okf 22 (bodyOf Tryz.f210) (.node [] [] .nil (.node [] [] (.node [] [] .nil (.node [] [] (.node [] [] .nil .nil) .nil)) (.node [] [] (.node [] [] .nil (.node [] [] .nil (.node [] [] (.node [] [] .nil .nil) .nil))) (.node [] [] .nil .nil)))) (retK Tryz.prog [.cell 2 107, .tmp 3] K) (nth [v0]) w := by kernel_rfl
theorem S210_ok {v0 : Value} {K : Cont} {w : World} (h : S210 v0 K w) : callK Tryz.prog 210 [v0] K w :=
  callK_of (P := Tryz.prog) (ok := okf) (n := 22) (fn := Tryz.f210) (c := bodyOf Tryz.f210) (rs := [.cell 2 107, .tmp 3]) (an := (.node [] [] .nil (.node [] [] (.node [] [] .nil (.node [] [] (.node [] [] .nil .nil) .nil)) (.node [] [] (.node [] [] .nil (.node [] [] .nil (.node [] [] (.node [] [] .nil .nil) .nil))) (.node [] [] .nil .nil))))) good mixed Tryz.func210 (by kernel_rfl) (by kernel_rfl) (by kernel_rfl) (by kernel_rfl) (Eq.mp (S210_eq v0 K w) h)

/-- math.IsNaN -/
def S216 (v0 : Value) (K : Cont) (w : World) : Prop :=
  runK Tryz.prog (binS .neq 254 (.tmp 3) (.tmp 4) v0 v0) (fun t5 w1 =>
  K t5 w1) w
theorem S216_eq (v0 : Value) (K : Cont) (w : World) : S216 v0 K w = D Tryz.prog okf 6 (bodyOf Tryz.f216) (.node [] [] .nil (.node [] [] .nil .nil)) (retK Tryz.prog [.tmp 2] K) (nth [v0]) w := by kernel_rfl
theorem S216_ok {v0 : Value} {K : Cont} {w : World} (h : S216 v0 K w) : callK Tryz.prog 216 [v0] K w :=
  callK_of (P := Tryz.prog) (ok := okf) (n := 6) (fn := Tryz.f216) (c := bodyOf Tryz.f216) (rs := [.tmp 2]) (an := (.node [] [] .nil (.node [] [] .nil .nil))) good mixed Tryz.func216 (by kernel_rfl) (by kernel_rfl) (by kernel_rfl) (by kernel_rfl) (Eq.mp (S216_eq v0 K w) h)

/-- rubric/runes.Read -/
def S114 (v0 : Value) (K : Cont) (w : World) : Prop :=
  callK Tryz.prog 174 [v0] (fun t8 w1 =>
  notK t8 fun t9 =>
  condK t9
  (K (.tuple #[(.slice none 0 0), (.int .i64 3)]) w1)
  (runK Tryz.prog (convert 70 9 v0) (fun t11 w2 =>
  runK Tryz.prog (Instr.range 9 t11) (fun t12 w3 =>
  LoopK [(.slice none 0 0)] (fun vs again w4 => ∀ _h : Env,
  runK Tryz.prog (Instr.next t12 true 0) (fun t13 w5 =>
  extK 0 t13 fun t14 =>
  condK t14
  (extK 2 t13 fun t15 =>
  rowK 21 1 1 [(.int .i32 0)] [(0, t15)] (fun t18 w6 =>
  runK Tryz.prog (Builtin.append_ #[35, 35] 35 [(nth vs 0), t18].toArray) (fun t19 w7 =>
  again [t19] w7) w6) w5)
  (K (.tuple #[(nth vs 0), (.int .i64 0)]) w5)) w4) w3) w2) w1)) w
theorem S114_eq (v0 : Value) (K : Cont) (w : World) : S114 v0 K w = D Tryz.prog okf 21 (bodyOf Tryz.f114) (.node [] [] .nil (.node [] [] (.node [] [] .nil (.node [] [] (.node [] [] .nil .nil) .nil)) (.node [] [] .nil (.node [] [] (.node [] [] .nil (.node [4] [(4, 4), (6, 6), (13, 19)] (.node [] [] .nil (.node [] [] (.node [] [] .nil .nil) (.node [] [] .nil .nil))) .nil)) (.node [] [] .nil .nil))))) (retK Tryz.prog [.tmp 2, .tmp 3] K) (nth [v0]) w := by kernel_rfl
theorem S114_ok {v0 : Value} {K : Cont} {w : World} (h : S114 v0 K w) : callK Tryz.prog 114 [v0] K w :=
  callK_of (P := Tryz.prog) (ok := okf) (n := 21) (fn := Tryz.f114) (c := bodyOf Tryz.f114) (rs := [.tmp 2, .tmp 3]) (an := (.node [] [] .nil (.node [] [] (.node [] [] .nil (.node [] [] (.node [] [] .nil .nil) .nil)) (.node [] [] .nil (.node [] [] (.node [] [] .nil (.node [4] [(4, 4), (6, 6), (13, 19)] (.node [] [] .nil (.node [] [] (.node [] [] .nil .nil) (.node [] [] .nil .nil))) .nil)) (.node [] [] .nil .nil)))))) good mixed Tryz.func114 (by kernel_rfl) (by kernel_rfl) (by kernel_rfl) (by kernel_rfl) (Eq.mp (S114_eq v0 K w) h)

/-- unicode/utf8.Valid -/
def S174 (v0 : Value) (K : Cont) (w : World) : Prop :=
  lenK v0 fun t9 =>
  lenK v0 fun t11 =>
  runK Tryz.prog (Instr.sliceAt 70 v0 none (some t9) (some t11)) (fun t12 w1 =>
  LoopK [t12] (fun vs again w2 => ∀ _h : Env,
  lenK (nth vs 0) fun t14 =>
  gtK .i64 t14 (.int .i64 0) fun t15 =>
  condK t15
  (ixK 1 (nth vs 0) (.int .i64 0) fun t17 =>
  ld1K t17 (fun t18 w3 =>
  ltK .u8 t18 (.int .u8 128) fun t20 =>
  condK t20
  (runK Tryz.prog (Instr.sliceAt 70 (nth vs 0) (some (.int .i64 1)) none none) (fun t22 w4 =>
  JoinK (fun vs_1 w5 => ∀ _h_1 : Env,
  condK (nth vs_1 0)
  (runK Tryz.prog (Instr.sliceAt 70 t22 (some (.int .i64 8)) none none) (fun t33 w6 =>
  JoinK (fun vs_2 w7 => ∀ _h_2 : Env,
  condK (nth vs_2 0)
  (runK Tryz.prog (Instr.sliceAt 70 t33 (some (.int .i64 16)) none none) (fun t48 w8 =>
  LoopK [t48] (fun vs_3 again_1 w9 => ∀ _h_3 : Env,
  DrawK w9 (fun C =>
  lenK (nth vs_3 0) fun t50 =>
  gtK .i64 t50 (.int .i64 32) fun t51 =>
  condK t51
  (qcallK Tryz.prog C 200 [(nth vs_3 0)] fun t54 =>
  qrunK Tryz.prog C (Instr.sliceAt 70 (nth vs_3 0) (some (.int .i64 8)) none none) fun t56 =>
  qcallK Tryz.prog C 200 [t56] fun t57 =>
  qrunK Tryz.prog C (binS .or 12 (.tmp 54) (.tmp 57) t54 t57) fun t58 =>
  qrunK Tryz.prog C (Instr.sliceAt 70 (nth vs_3 0) (some (.int .i64 16)) none none) fun t60 =>
  qcallK Tryz.prog C 200 [t60] fun t61 =>
  qrunK Tryz.prog C (Instr.sliceAt 70 (nth vs_3 0) (some (.int .i64 24)) none none) fun t63 =>
  qcallK Tryz.prog C 200 [t63] fun t64 =>
  qrunK Tryz.prog C (binS .or 12 (.tmp 61) (.tmp 64) t61 t64) fun t65 =>
  qrunK Tryz.prog C (binS .or 12 (.tmp 58) (.tmp 65) t58 t65) fun t66 =>
  qrunK Tryz.prog C (binS .and 12 (.tmp 66) (.const (.int .u64 9259542123273814144)) t66 (.int .u64 9259542123273814144)) fun t67 =>
  eqK .u64 t67 (.int .u64 0) fun t68 =>
  ∀ w10 : World, C w10 →
  condK t68
  (runK Tryz.prog (Instr.sliceAt 70 (nth vs_3 0) (some (.int .i64 32)) none none) (fun t71 w11 =>
  again_1 [t71] w11) w10)
  (again [(nth vs_3 0)] w10))
  (∀ w12 : World, C w12 →
  again [(nth vs_3 0)] w12))) w8) w7)
  (again [t33] w7)) (fun J_1 =>
  DrawK w6 (fun C_1 =>
  lenK t33 fun t35 =>
  gtK .i64 t35 (.int .i64 16) fun t36 =>
  condK t36
  (qcallK Tryz.prog C_1 200 [t33] fun t39 =>
  qrunK Tryz.prog C_1 (Instr.sliceAt 70 t33 (some (.int .i64 8)) none none) fun t41 =>
  qcallK Tryz.prog C_1 200 [t41] fun t42 =>
  qrunK Tryz.prog C_1 (binS .or 12 (.tmp 39) (.tmp 42) t39 t42) fun t43 =>
  qrunK Tryz.prog C_1 (binS .and 12 (.tmp 43) (.const (.int .u64 9259542123273814144)) t43 (.int .u64 9259542123273814144)) fun t44 =>
  eqK .u64 t44 (.int .u64 0) fun t45 =>
  ∀ w14 : World, C_1 w14 →
  J_1 [t45] w14)
  (∀ w15 : World, C_1 w15 →
  J_1 [(.bool false)] w15)))) w5)
  (again [t22] w5)) (fun J =>
  lenK t22 fun t24 =>
  gtK .i64 t24 (.int .i64 8) fun t25 =>
  condK t25
  (callK Tryz.prog 200 [t22] (fun t28 w16 =>
  runK Tryz.prog (binS .and 12 (.tmp 28) (.const (.int .u64 9259542123273814144)) t28 (.int .u64 9259542123273814144)) (fun t29 w17 =>
  eqK .u64 t29 (.int .u64 0) fun t30 =>
  J [t30] w17) w16) w4)
  (J [(.bool false)] w4))) w3)
  (runK Tryz.prog (Instr.indexAt 242 (.pointer (some ⟨0, 0, none⟩)) t18) (fun t73 w18 =>
  ld1K t73 (fun t74 w19 =>
  runK Tryz.prog (binS .and 5 (.tmp 75) (.const (.int .u8 7)) t74 (.int .u8 7)) (fun t76 w20 =>
  runK Tryz.prog (convert 5 3 t76) (fun t77 w21 =>
  runK Tryz.prog (binS .shr 5 (.tmp 78) (.const (.int .u64 4)) t74 (.int .u64 4)) (fun t79 w22 =>
  runK Tryz.prog (Instr.indexAt 245 (.pointer (some ⟨1, 0, none⟩)) t79) (fun t80 w23 =>
  ldnK 2 t80 (fun t81 w24 =>
  newK 244 [(.int .u8 0), (.int .u8 0)] (fun t6 w25 =>
  stnK 2 t6 t81 (fun w26 =>
  eqK .i64 t77 (.int .i64 2) fun t84 =>
  condK t84
  (JoinK (fun _vs_4 w27 => ∀ _h_4 : Env,
  runK Tryz.prog (Instr.sliceAt 70 (nth vs 0) (some (.int .i64 2)) none none) (fun t105 w28 =>
  again [t105] w28) w27) (fun J_2 =>
  DrawK w26 (fun C_2 =>
  lenK (nth vs 0) fun t86 =>
  ltK .i64 t86 (.int .i64 2) fun t87 =>
  condK t87
  (∀ w29 : World, C_2 w29 →
  K (.bool false) w29)
  (ixK 1 (nth vs 0) (.int .i64 1) fun t90 =>
  qld1K C_2 t90 fun t91 =>
  faK 0 t6 fun t92 =>
  qld1K C_2 t92 fun t93 =>
  ltK .u8 t91 t93 fun t94 =>
  condK t94
  (∀ w30 : World, C_2 w30 →
  K (.bool false) w30)
  (faK 1 t6 fun t97 =>
  qld1K C_2 t97 fun t98 =>
  ixK 1 (nth vs 0) (.int .i64 1) fun t100 =>
  qld1K C_2 t100 fun t101 =>
  ltK .u8 t98 t101 fun t102 =>
  ∀ w31 : World, C_2 w31 →
  condK t102
  (K (.bool false) w31)
  (J_2 [] w31))))))
  (eqK .i64 t77 (.int .i64 3) fun t107 =>
  condK t107
  (JoinK (fun _vs_5 w32 => ∀ _h_5 : Env,
  runK Tryz.prog (Instr.sliceAt 70 (nth vs 0) (some (.int .i64 3)) none none) (fun t140 w33 =>
  again [t140] w33) w32) (fun J_3 =>
  DrawK w26 (fun C_3 =>
  lenK (nth vs 0) fun t109 =>
  ltK .i64 t109 (.int .i64 3) fun t110 =>
  condK t110
  (∀ w34 : World, C_3 w34 →
  K (.bool false) w34)
  (ixK 1 (nth vs 0) (.int .i64 1) fun t113 =>
  qld1K C_3 t113 fun t114 =>
  faK 0 t6 fun t115 =>
  qld1K C_3 t115 fun t116 =>
  ltK .u8 t114 t116 fun t117 =>
  condK t117
  (∀ w35 : World, C_3 w35 →
  K (.bool false) w35)
  (faK 1 t6 fun t120 =>
  qld1K C_3 t120 fun t121 =>
  ixK 1 (nth vs 0) (.int .i64 1) fun t123 =>
  qld1K C_3 t123 fun t124 =>
  ltK .u8 t121 t124 fun t125 =>
  condK t125
  (∀ w36 : World, C_3 w36 →
  K (.bool false) w36)
  (ixK 1 (nth vs 0) (.int .i64 2) fun t129 =>
  qld1K C_3 t129 fun t130 =>
  ltK .u8 t130 (.int .u8 128) fun t131 =>
  condK t131
  (∀ w37 : World, C_3 w37 →
  K (.bool false) w37)
  (ixK 1 (nth vs 0) (.int .i64 2) fun t135 =>
  qld1K C_3 t135 fun t136 =>
  ltK .u8 (.int .u8 191) t136 fun t137 =>
  ∀ w38 : World, C_3 w38 →
  condK t137
  (K (.bool false) w38)
  (J_3 [] w38))))))))
  (eqK .i64 t77 (.int .i64 4) fun t142 =>
  condK t142
  (JoinK (fun _vs_6 w39 => ∀ _h_6 : Env,
  runK Tryz.prog (Instr.sliceAt 70 (nth vs 0) (some (.int .i64 4)) none none) (fun t187 w40 =>
  again [t187] w40) w39) (fun J_4 =>
  DrawK w26 (fun C_4 =>
  lenK (nth vs 0) fun t144 =>
  ltK .i64 t144 (.int .i64 4) fun t145 =>
  condK t145
  (∀ w41 : World, C_4 w41 →
  K (.bool false) w41)
  (ixK 1 (nth vs 0) (.int .i64 1) fun t148 =>
  qld1K C_4 t148 fun t149 =>
  faK 0 t6 fun t150 =>
  qld1K C_4 t150 fun t151 =>
  ltK .u8 t149 t151 fun t152 =>
  condK t152
  (∀ w42 : World, C_4 w42 →
  K (.bool false) w42)
  (faK 1 t6 fun t155 =>
  qld1K C_4 t155 fun t156 =>
  ixK 1 (nth vs 0) (.int .i64 1) fun t158 =>
  qld1K C_4 t158 fun t159 =>
  ltK .u8 t156 t159 fun t160 =>
  condK t160
  (∀ w43 : World, C_4 w43 →
  K (.bool false) w43)
  (ixK 1 (nth vs 0) (.int .i64 2) fun t164 =>
  qld1K C_4 t164 fun t165 =>
  ltK .u8 t165 (.int .u8 128) fun t166 =>
  condK t166
  (∀ w44 : World, C_4 w44 →
  K (.bool false) w44)
  (ixK 1 (nth vs 0) (.int .i64 2) fun t170 =>
  qld1K C_4 t170 fun t171 =>
  ltK .u8 (.int .u8 191) t171 fun t172 =>
  condK t172
  (∀ w45 : World, C_4 w45 →
  K (.bool false) w45)
  (ixK 1 (nth vs 0) (.int .i64 3) fun t176 =>
  qld1K C_4 t176 fun t177 =>
  ltK .u8 t177 (.int .u8 128) fun t178 =>
  condK t178
  (∀ w46 : World, C_4 w46 →
  K (.bool false) w46)
  (ixK 1 (nth vs 0) (.int .i64 3) fun t182 =>
  qld1K C_4 t182 fun t183 =>
  ltK .u8 (.int .u8 191) t183 fun t184 =>
  ∀ w47 : World, C_4 w47 →
  condK t184
  (K (.bool false) w47)
  (J_4 [] w47))))))))))
  (K (.bool false) w26)))) w25) w24) w23) w22) w21) w20) w19) w18) w3)) w2)
  (K (.bool true) w2)) w1) w
theorem S174_eq (v0 : Value) (K : Cont) (w : World) : S174 v0 K w = D Tryz.prog okf 188 (bodyOf Tryz.f174) (.node [] [] .nil (.node [] [] .nil (.node [] [] (.node [0] [(0, 0), (2, 6), (13, 187)] (.node [] [] (.node [] [] .nil (.node [] [] .nil .nil)) (.node [] [] .nil (.node [] [] (.node [] [] .nil (.node [] [] (.node [] [] .nil (.node [] [] (.cut [31] [(23, 31)] .nil (.node [] [] (.node [] [] .nil (.cut [46] [(34, 46)] .draw (.node [] [] (.node [] [] .nil (.node [0] [(0, 0), (49, 71)] (.node [] [] (.node [] [] .draw (.node [] [] .nil .nil)) .nil) .nil)) .nil))) .nil)) .nil)) .nil)) (.node [] [] .nil (.node [] [] .nil (.node [] [] .nil (.node [] [] .nil (.node [] [] .nil (.node [] [] (.cut [] [(2, 2), (85, 103)] (.node [] [] .draw (.node [] [] (.node [] [] .nil .nil) .nil)) .nil) (.node [] [] .nil (.node [] [] (.cut [] [(2, 2), (108, 138)] (.node [] [] .draw (.node [] [] (.node [] [] .nil .nil) .nil)) .nil) (.node [] [] .nil (.node [] [] (.cut [] [(2, 2), (143, 185)] (.node [] [] .draw (.node [] [] (.node [] [] .nil .nil) .nil)) .nil) (.node [] [] .nil .nil)))))))))))))) .nil) (.node [] [] .nil .nil)))) (retK Tryz.prog [.tmp 2] K) (nth [v0]) w := by kernel_rfl
theorem S174_ok {v0 : Value} {K : Cont} {w : World} (h : S174 v0 K w) : callK Tryz.prog 174 [v0] K w :=
  callK_of (P := Tryz.prog) (ok := okf) (n := 188) (fn := Tryz.f174) (c := bodyOf Tryz.f174) (rs := [.tmp 2]) (an := (.node [] [] .nil (.node [] [] .nil (.node [] [] (.node [0] [(0, 0), (2, 6), (13, 187)] (.node [] [] (.node [] [] .nil (.node [] [] .nil .nil)) (.node [] [] .nil (.node [] [] (.node [] [] .nil (.node [] [] (.node [] [] .nil (.node [] [] (.cut [31] [(23, 31)] .nil (.node [] [] (.node [] [] .nil (.cut [46] [(34, 46)] .draw (.node [] [] (.node [] [] .nil (.node [0] [(0, 0), (49, 71)] (.node [] [] (.node [] [] .draw (.node [] [] .nil .nil)) .nil) .nil)) .nil))) .nil)) .nil)) .nil)) (.node [] [] .nil (.node [] [] .nil (.node [] [] .nil (.node [] [] .nil (.node [] [] .nil (.node [] [] (.cut [] [(2, 2), (85, 103)] (.node [] [] .draw (.node [] [] (.node [] [] .nil .nil) .nil)) .nil) (.node [] [] .nil (.node [] [] (.cut [] [(2, 2), (108, 138)] (.node [] [] .draw (.node [] [] (.node [] [] .nil .nil) .nil)) .nil) (.node [] [] .nil (.node [] [] (.cut [] [(2, 2), (143, 185)] (.node [] [] .draw (.node [] [] (.node [] [] .nil .nil) .nil)) .nil) (.node [] [] .nil .nil)))))))))))))) .nil) (.node [] [] .nil .nil))))) good mixed Tryz.func174 (by kernel_rfl) (by kernel_rfl) (by kernel_rfl) (by kernel_rfl) (Eq.mp (S174_eq v0 K w) h)

/-- unicode/utf8.word[[]byte] -/
def S200 (v0 : Value) (K : Cont) (w : World) : Prop :=
  DrawK w (fun C_1 =>
  ixK 1 v0 (.int .i64 0) fun t26 =>
  qld1K C_1 t26 fun t27 =>
  qrunK Tryz.prog C_1 (convert 5 34 t27) fun t28 =>
  ixK 1 v0 (.int .i64 1) fun t30 =>
  qld1K C_1 t30 fun t31 =>
  qrunK Tryz.prog C_1 (convert 5 34 t31) fun t32 =>
  qrunK Tryz.prog C_1 (binS .shl 34 (.tmp 32) (.const (.int .u64 8)) t32 (.int .u64 8)) fun t33 =>
  qrunK Tryz.prog C_1 (binS .or 34 (.tmp 28) (.tmp 33) t28 t33) fun t34 =>
  ixK 1 v0 (.int .i64 2) fun t36 =>
  qld1K C_1 t36 fun t37 =>
  qrunK Tryz.prog C_1 (convert 5 34 t37) fun t38 =>
  qrunK Tryz.prog C_1 (binS .shl 34 (.tmp 38) (.const (.int .u64 16)) t38 (.int .u64 16)) fun t39 =>
  qrunK Tryz.prog C_1 (binS .or 34 (.tmp 34) (.tmp 39) t34 t39) fun t40 =>
  ixK 1 v0 (.int .i64 3) fun t42 =>
  qld1K C_1 t42 fun t43 =>
  qrunK Tryz.prog C_1 (convert 5 34 t43) fun t44 =>
  qrunK Tryz.prog C_1 (binS .shl 34 (.tmp 44) (.const (.int .u64 24)) t44 (.int .u64 24)) fun t45 =>
  qrunK Tryz.prog C_1 (binS .or 34 (.tmp 40) (.tmp 45) t40 t45) fun t46 =>
  ixK 1 v0 (.int .i64 4) fun t48 =>
  qld1K C_1 t48 fun t49 =>
  qrunK Tryz.prog C_1 (convert 5 34 t49) fun t50 =>
  qrunK Tryz.prog C_1 (binS .shl 34 (.tmp 50) (.const (.int .u64 32)) t50 (.int .u64 32)) fun t51 =>
  qrunK Tryz.prog C_1 (binS .or 34 (.tmp 46) (.tmp 51) t46 t51) fun t52 =>
  ixK 1 v0 (.int .i64 5) fun t54 =>
  qld1K C_1 t54 fun t55 =>
  qrunK Tryz.prog C_1 (convert 5 34 t55) fun t56 =>
  qrunK Tryz.prog C_1 (binS .shl 34 (.tmp 56) (.const (.int .u64 40)) t56 (.int .u64 40)) fun t57 =>
  qrunK Tryz.prog C_1 (binS .or 34 (.tmp 52) (.tmp 57) t52 t57) fun t58 =>
  ixK 1 v0 (.int .i64 6) fun t60 =>
  qld1K C_1 t60 fun t61 =>
  qrunK Tryz.prog C_1 (convert 5 34 t61) fun t62 =>
  qrunK Tryz.prog C_1 (binS .shl 34 (.tmp 62) (.const (.int .u64 48)) t62 (.int .u64 48)) fun t63 =>
  qrunK Tryz.prog C_1 (binS .or 34 (.tmp 58) (.tmp 63) t58 t63) fun t64 =>
  ixK 1 v0 (.int .i64 7) fun t66 =>
  qld1K C_1 t66 fun t67 =>
  qrunK Tryz.prog C_1 (convert 5 34 t67) fun t68 =>
  qrunK Tryz.prog C_1 (binS .shl 34 (.tmp 68) (.const (.int .u64 56)) t68 (.int .u64 56)) fun t69 =>
  qrunK Tryz.prog C_1 (binS .or 34 (.tmp 64) (.tmp 69) t64 t69) fun t70 =>
  ∀ w2 : World, C_1 w2 →
  K t70 w2)
theorem S200_eq (v0 : Value) (K : Cont) (w : World) : S200 v0 K w = D Tryz.prog okf 71 (bodyOf Tryz.f200) (.node [] [] .nil (.node [] [] (.node [] [] (.node [] [] .draw .nil) .nil) (.node [] [] .draw .nil))) (retK Tryz.prog [.tmp 2] K) (nth [v0]) w := by kernel_rfl
theorem S200_ok {v0 : Value} {K : Cont} {w : World} (h : S200 v0 K w) : callK Tryz.prog 200 [v0] K w :=
  callK_of (P := Tryz.prog) (ok := okf) (n := 71) (fn := Tryz.f200) (c := bodyOf Tryz.f200) (rs := [.tmp 2]) (an := (.node [] [] .nil (.node [] [] (.node [] [] (.node [] [] .draw .nil) .nil) (.node [] [] .draw .nil)))) good mixed Tryz.func200 (by kernel_rfl) (by kernel_rfl) (by kernel_rfl) (by kernel_rfl) (Eq.mp (S200_eq v0 K w) h)

end Go.Proofs.YtlbaopamhkmepaaGreatDoor

namespace Go.K
open Go
theorem slice_lo_run {P : Program} {t e k : Nat} {i : TypeInfo} {a : Option Addr} {n c j : Nat} (ht : P.underlying t = some (.slice e)) (hi : P.info? e = some i) (hk : i.size = k) (hj : j ≤ n) (w : World) : (Instr.sliceAt t (.slice a n c) (some (.int .i64 j)) none none).run P w = .ok (sliced a j n c k) w := by
  have hel : P.elem t = e := by simp [Program.elem, ht]
  rw [run_sliceAt_slice _ _ _ _ _ _ (by rw [hel]; exact ht), run_slice_l _ _ _ _ _ (by rw [hel]; exact ht) _ _ (by omega) (by omega), hel]
  simp [sizeOf, typeInfo, hi, hk]
theorem slice_lo_sl {α : Type} {k : Nat} {R : World → List Value → α → Prop} {S : Nat → Prop} {w : World} {a : Option Addr} {n c : Nat} {l : List α} {j : Nat} (h : SlR S k R w (.slice a n c) l) (hj : j ≤ l.length) : SlR S k R w (sliced a j n c k) (l.drop j) := by
  obtain ⟨a', c', e1, h1, h2, h3⟩ := h
  cases e1
  unfold sliced
  refine ⟨_, _, by rw [List.length_drop], by rw [List.length_drop]; omega, by omega, fun q x hx => ?_⟩
  rw [List.getElem?_drop] at hx
  obtain ⟨p, r, rfl, hS, hr, hc, hR⟩ := h3 _ x hx
  have hlt := (List.getElem?_eq_some_iff.1 hx).1
  rw [if_neg (by omega)]
  refine ⟨p.add (j * k), r, rfl, by rw [add_block]; exact hS, hr, fun m u hu => ?_, hR⟩
  rw [Addr.add_add, ← Nat.add_assoc, ← Nat.add_mul]
  exact hc m u hu
theorem slice_all_run {P : Program} {t e k : Nat} {i : TypeInfo} {a : Option Addr} {n c : Nat} (ht : P.underlying t = some (.slice e)) (hi : P.info? e = some i) (hk : i.size = k) (hc : n ≤ c) (w : World) : ∃ a', (Instr.sliceAt t (.slice a n c) none (some (.int .i64 n)) (some (.int .i64 n))).run P w = .ok (.slice a' n n) w ∧ (0 < n → a' = a) := by
  have hel : P.elem t = e := by simp [Program.elem, ht]
  refine ⟨if n = 0 then a else a.map (·.add (0 * k)), ?_, fun h => ?_⟩
  · rw [run_sliceAt_slice _ _ _ _ _ _ (by rw [hel]; exact ht)]
    simp [Instr.slice, run_underlying ht, Instr.sliceBounds, run_sliceBound, hc, sizeOf, typeInfo, hi, hk, Result.andThen]
  · rw [if_neg (by omega)]
    cases a with
    | none => rfl
    | some a => simp [Addr.add]
theorem run_indexAt_arr {P : Program} {t e n s : Nat} {i : TypeInfo} {k : IntKind} {a : Addr} {j : Int} {w : World} (ht : P.underlying t = some (.array n e)) (hi : P.info? e = some i) (hs : i.size = s) (h0 : 0 ≤ j) (h1 : j < n) : (Instr.indexAt t (.pointer (some a)) (.int k j)).run P w = .ok (.pointer (some (a.add (j.toNat * s)))) w := by
  simp [Instr.indexAt, Instr.sureAddr, run_underlying ht, asIntOf, sizeOf, typeInfo, hi, hs, h0, h1, Result.andThen]
theorem run_conv {P : Program} {s d : TypeId} {q k : IntKind} {n : Int} (w : World) (hs : (P.underlying s).isSome = true) (hd : P.underlying d = some (.int k)) : (convert s d (.int q n)).run P w = .ok (.int k (k.wrap n)) w := by
  obtain ⟨e, he⟩ := Option.isSome_iff_exists.mp hs
  simp [convert, run_underlying he, run_underlying hd, Conv.intToInt]
theorem run_shl {P : Program} {t : TypeId} {xo yo : Operand} {k q : IntKind} {a : Int} {n : Nat} (w : World) (hn : n ≤ k.bits) : (binS .shl t xo yo (.int k a) (.int q n)).run P w = .ok (.int k (k.wrap (a * 2 ^ n))) w := by
  have h0 : ¬ ((n : Int) < 0) := by omega
  simp [binS, eqGuard, binOp, Op.shift, Nat.min_eq_left hn, h0]
theorem run_shr {P : Program} {t : TypeId} {xo yo : Operand} {k q : IntKind} {a : Int} {n : Nat} (w : World) (hn : n ≤ k.bits) : (binS .shr t xo yo (.int k a) (.int q n)).run P w = .ok (.int k (a.fdiv (2 ^ n))) w := by
  have h0 : ¬ ((n : Int) < 0) := by omega
  simp [binS, eqGuard, binOp, Op.shift, Nat.min_eq_left hn, h0]
theorem run_bits {P : Program} {t : TypeId} {xo yo : Operand} {k : IntKind} {a b : Int} (w : World) : (binS .or t xo yo (.int k a) (.int k b)).run P w = .ok (.int k (k.wrap (BitVec.ofInt k.bits a ||| BitVec.ofInt k.bits b).toNat)) w ∧ (binS .and t xo yo (.int k a) (.int k b)).run P w = .ok (.int k (k.wrap (BitVec.ofInt k.bits a &&& BitVec.ofInt k.bits b).toNat)) w := by
  constructor <;> simp [binS, eqGuard, binOp, Op.intBits]
end Go.K
namespace Go.Proofs.YtlbaopamhkmepaaGreatDoor
open Go Go.K

theorem run_or64 {t : TypeId} {xo yo : Operand} {a b : Int} (w : World) (ha : U64 a) (hb : U64 b) : (binS .or t xo yo (.int .u64 a) (.int .u64 b)).run Tryz.prog w = .ok (.int .u64 (orN a b)) w := by
  rw [(run_bits w).1]
  have e : ((BitVec.ofInt IntKind.u64.bits a ||| BitVec.ofInt IntKind.u64.bits b).toNat : Int) = orN a b := bv_or ha hb
  rw [e, wrapu64 (orN_U ha hb)]
theorem run_and64 {t : TypeId} {xo yo : Operand} {a b : Int} (w : World) (ha : U64 a) (hb : U64 b) : (binS .and t xo yo (.int .u64 a) (.int .u64 b)).run Tryz.prog w = .ok (.int .u64 ((a.toNat &&& b.toNat : Nat) : Int)) w := by
  rw [(run_bits w).2]
  have e : ((BitVec.ofInt IntKind.u64.bits a &&& BitVec.ofInt IntKind.u64.bits b).toNat : Int) = ((a.toNat &&& b.toNat : Nat) : Int) := bv_and ha hb
  rw [e, wrapu64 ⟨by omega, ?_⟩]
  have := Nat.and_le_left (n := a.toNat) (m := b.toNat)
  have := ha.2
  have := ha.1
  omega
def shB (x : Int) (j : Nat) : Int := x * 2 ^ (8 * j)
/-- eight bytes as a word -/
def wordN (b : List Int) : Int := orN (orN (orN (orN (orN (orN (orN (b.getD 0 0) (shB (b.getD 1 0) 1)) (shB (b.getD 2 0) 2)) (shB (b.getD 3 0) 3)) (shB (b.getD 4 0) 4)) (shB (b.getD 5 0) 5)) (shB (b.getD 6 0) 6)) (shB (b.getD 7 0) 7)
abbrev ByteL (b : List Int) : Prop := ∀ x ∈ b, 0 ≤ x ∧ x < 256
theorem ByteL.getD {b : List Int} (h : ByteL b) (j : Nat) : 0 ≤ b.getD j 0 ∧ b.getD j 0 < 256 := by
  rw [List.getD_eq_getElem?_getD]
  cases e : b[j]? with
  | none => simp
  | some x => exact h x (List.mem_iff_getElem?.2 ⟨j, e⟩)
theorem ByteL.drop {b : List Int} (h : ByteL b) (j : Nat) : ByteL (b.drop j) := fun x hx => h x (List.mem_of_mem_drop hx)
theorem byte_U {x : Int} (h : 0 ≤ x ∧ x < 256) : U64 x := ⟨h.1, by omega⟩
theorem wordN_U {b : List Int} (h : ByteL b) : U64 (wordN b) := by
  have u : ∀ j, j < 8 → U64 (shB (b.getD j 0) j) := fun j hj => hib_u hj (h.getD j).1 (h.getD j).2
  unfold wordN
  exact orN_U (orN_U (orN_U (orN_U (orN_U (orN_U (orN_U (byte_U (h.getD 0)) (u 1 (by decide))) (u 2 (by decide))) (u 3 (by decide))) (u 4 (by decide))) (u 5 (by decide))) (u 6 (by decide))) (u 7 (by decide))
theorem wordN_hi {b : List Int} (h : ByteL b) {j : Nat} (hj : j < 8) (hx : 128 ≤ b.getD j 0) : HiB (wordN b) j := by
  have hh := (hib_byte hj hx (h.getD j).2).2
  unfold wordN
  rcases (show j = 0 ∨ j = 1 ∨ j = 2 ∨ j = 3 ∨ j = 4 ∨ j = 5 ∨ j = 6 ∨ j = 7 by omega) with rfl | rfl | rfl | rfl | rfl | rfl | rfl | rfl
  · rw [show b.getD 0 0 * 2 ^ (8 * 0) = b.getD 0 0 by omega] at hh
    exact .l (.l (.l (.l (.l (.l (.l hh))))))
  · exact .l (.l (.l (.l (.l (.l (.r hh))))))
  · exact .l (.l (.l (.l (.l (.r hh)))))
  · exact .l (.l (.l (.l (.r hh))))
  · exact .l (.l (.l (.r hh)))
  · exact .l (.l (.r hh))
  · exact .l (.r hh)
  · exact .r hh
theorem word_step {C : World → Prop} {p : Addr} {n c : Nat} {b : Int} {j : Nat} {m : Int} {xo yo : Operand} {k : Value → Prop} (hj : j < n) (hm : m = 8 * j) (hj8 : j < 8) (hb : 0 ≤ b ∧ b < 256) (hc : ∀ w, C w → w.cell? (p.add (j * 1)) = some (.int .u8 b)) (hk : k (.int .u64 (shB b j))) :
    ixK 1 (.slice (some p) n c) (.int .i64 j) fun t30 => qld1K C t30 fun t31 => qrunK Tryz.prog C (convert 5 34 t31) fun t32 => qrunK Tryz.prog C (binS .shl 34 xo yo t32 (.int .u64 m)) k := by
  refine ixK_n hj (qld1K_i hc ⟨.int .u64 (IntKind.u64.wrap b), fun w _ => run_conv (k := .u64) w (by kernel_rfl) (by kernel_rfl), ?_⟩)
  rw [wrapu64 (byte_U hb)]
  subst hm
  refine ⟨_, fun w _ => ?_, hk⟩
  have e := run_shl (P := Tryz.prog) (t := 34) (xo := xo) (yo := yo) (k := .u64) (q := .u64) (a := b) (n := 8 * j) w (by show 8 * j ≤ 64; omega)
  rw [wrapu64 (hib_u hj8 hb.1 hb.2)] at e
  have e2 : ((8 * j : Nat) : Int) = 8 * (j : Int) := by omega
  rw [e2] at e
  exact e
theorem word_ok {S : Nat → Prop} {v : Value} {b : List Int} {w : World} (h : RBytes S w v b) (hb : ByteL b) (hl : 8 ≤ b.length) :
    callK Tryz.prog 200 [v] (fun v' w' => v' = .int .u64 (wordN b) ∧ Grow w w') w := by
  apply S200_ok
  unfold S200
  obtain ⟨a, c, rfl, hm⟩ := h.shape
  have cell : ∀ j (hj : j < b.length), ∃ p, a = some p ∧ w.cell? (p.add (j * 1)) = some (.int .u8 (b.getD j 0)) := by
    intro j hj
    obtain ⟨p, r, rfl, _, hr, hc, rfl⟩ := h.get hj
    refine ⟨p, rfl, ?_⟩
    rw [List.getD_eq_getElem?_getD, List.getElem?_eq_getElem hj]
    exact hc 0 _ rfl
  obtain ⟨p, rfl, c0⟩ := cell 0 (by omega)
  have cellp : ∀ j, j < b.length → w.cell? (p.add (j * 1)) = some (.int .u8 (b.getD j 0)) := fun j hj => by obtain ⟨p', e, hc⟩ := cell j hj; cases e; exact hc
  refine drawK_i (fun w2 => Grow w w2) (Mod.drew _ _) ?_
  have hc : ∀ j, j < b.length → ∀ w2, Grow w w2 → w2.cell? (p.add (j * 1)) = some (.int .u8 (b.getD j 0)) := fun j hj w2 g => g.cell (cellp j hj) fun h => h
  have u : ∀ j, j < 8 → U64 (shB (b.getD j 0) j) := fun j hj => hib_u hj (hb.getD j).1 (hb.getD j).2
  refine ixK_n (j := 0) (by omega) (qld1K_i (hc 0 (by omega)) ⟨.int .u64 (IntKind.u64.wrap (b.getD 0 0)), fun w _ => run_conv (k := .u64) w (by kernel_rfl) (by kernel_rfl), ?_⟩)
  rw [wrapu64 (byte_U (hb.getD 0))]
  have u0 := byte_U (hb.getD 0)
  refine word_step (j := 1) (by omega) rfl (by decide) (hb.getD 1) (hc 1 (by omega)) ⟨_, fun w _ => run_or64 w u0 (u 1 (by decide)), ?_⟩
  have u1 := orN_U u0 (u 1 (by decide))
  refine word_step (j := 2) (by omega) rfl (by decide) (hb.getD 2) (hc 2 (by omega)) ⟨_, fun w _ => run_or64 w u1 (u 2 (by decide)), ?_⟩
  have u2 := orN_U u1 (u 2 (by decide))
  refine word_step (j := 3) (by omega) rfl (by decide) (hb.getD 3) (hc 3 (by omega)) ⟨_, fun w _ => run_or64 w u2 (u 3 (by decide)), ?_⟩
  have u3 := orN_U u2 (u 3 (by decide))
  refine word_step (j := 4) (by omega) rfl (by decide) (hb.getD 4) (hc 4 (by omega)) ⟨_, fun w _ => run_or64 w u3 (u 4 (by decide)), ?_⟩
  have u4 := orN_U u3 (u 4 (by decide))
  refine word_step (j := 5) (by omega) rfl (by decide) (hb.getD 5) (hc 5 (by omega)) ⟨_, fun w _ => run_or64 w u4 (u 5 (by decide)), ?_⟩
  have u5 := orN_U u4 (u 5 (by decide))
  refine word_step (j := 6) (by omega) rfl (by decide) (hb.getD 6) (hc 6 (by omega)) ⟨_, fun w _ => run_or64 w u5 (u 6 (by decide)), ?_⟩
  have u6 := orN_U u5 (u 6 (by decide))
  refine word_step (j := 7) (by omega) rfl (by decide) (hb.getD 7) (hc 7 (by omega)) ⟨_, fun w _ => run_or64 w u6 (u 7 (by decide)), ?_⟩
  exact fun w2 g => ⟨rfl, g⟩
/-- a word without a high bit: eight bytes of ASCII -/
theorem word_ascii {b : List Int} (hb : ByteL b) (h : ((wordN b).toNat &&& 9259542123273814144 : Nat) = 0) {j : Nat} (hj : j < 8) : b.getD j 0 < 128 := by
  have := hib_none h hj
  have hx : ¬ 128 ≤ b.getD j 0 := fun hx => this (wordN_hi hb hj hx)
  omega
end Go.Proofs.YtlbaopamhkmepaaGreatDoor
