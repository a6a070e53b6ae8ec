/- InternNone: for every input the law returns true, and each argument reads behind the call as it read before; the two tables tied. No conditions. -/
import Derived.Test.YtmfplfaeibehiaaDoorZInternNone5
import Derived.ProofKit
import Derived.Lib.SmallJoins
import Derived.Deep.Slices
import Derived.Test.YtmfplfaeibehiaaDoorRows
import Derived.Lib.LaidU8
import Derived.Lib.LaidIn
import Derived.LaidHandle
import Derived.LaidMore
import Derived.MakeChecks
import Derived.Test.YtmfplfaeibehiaaDoorTie
import Derived.Test.YtmfplfaeibehiaaDoorCards
import Derived.WalkKit
import Derived.OpenShut
import Derived.ShutString
import Derived.ChangeOld
import Derived.ChangeVars
import Derived.JoinedOf
import Derived.SevenTiedAt
namespace Go.Proofs.YtmfplfaeibehiaaDoor
open Go Go.K

/-- a table that is not there, or was not made -/
def ZeroT (W : World) (v : Value) : Prop := v = .pointer none ∨ ∃ b, v = .pointer (some ⟨b, 0, none⟩) ∧ W.cell? ⟨b, 3, none⟩ = some (.map none)
theorem ZeroT.grow {W W' : World} {v : Value} (h : ZeroT W v) (g : Grow W W') : ZeroT W' v := by
  rcases h with h | ⟨b, h, hc⟩
  · exact .inl h
  · exact .inr ⟨b, h, g.cell hc fun h => h⟩
section
variable {W : World} {v : Value}
theorem zready_ok (h : ZeroT W v) : callK Tryd.prog 48 [v] (fun v' w' => v' = .bool false ∧ w' = W) W := by
  apply S48_ok
  unfold S48
  rcases h with rfl | ⟨b, rfl, hc⟩
  · rw [pnilK_i]; exact condK_f ⟨rfl, rfl⟩
  · refine pnilK_s (condK_t (nilckK_s ?_))
    rw [faK_i, addr0]
    exact ld1K_i hc (runK_i (run_ne_nilmap W) ⟨rfl, rfl⟩)
theorem zadd_ok {sv : Value} (h : ZeroT W v) : callK Tryd.prog 27 [v, sv] (fun v' w' => v' = .tuple #[.int .i64 0, .int .i64 1] ∧ w' = W) W := by
  apply S27_ok
  unfold S27
  refine callK_mono (zready_ok h) ?_
  rintro _ _ ⟨rfl, rfl⟩
  rw [notK_i]
  exact condK_t ⟨rfl, rfl⟩
theorem zasked_ok {iv : Value} (h : ZeroT W v) : callK Tryd.prog 53 [v, iv] (fun v' w' => v' = .tuple #[.agg #[.slice none 0 0, .int .i64 0], .int .i64 1] ∧ Grow W w') W := by
  apply S53_ok
  unfold S53
  refine newz_i fun b4 w1 hb4 hz4 g4 _ hl4 => ?_
  refine JoinK_i (fun _ _ => False) (fun _ _ h => h.elim) ?_
  refine callK_mono (zready_ok (h.grow g4)) ?_
  rintro _ _ ⟨rfl, rfl⟩
  rw [notK_i]
  refine condK_t ⟨#[.slice none 0 0, .int .i64 0], by kernel_rfl, ?_⟩
  refine stn_over (vs := [.slice none 0 0, .int .i64 0]) rfl (fun u hu => by simp at hu; rcases hu with rfl | rfl <;> rfl) (fun j hj => hl4 j hj) fun W'' m hc _ => ?_
  exact ldnK_i rfl hc ⟨rfl, g4.next m fun x hx e => by omega⟩
theorem zset_ok {iv : Value} (h : ZeroT W v) : callK Tryd.prog 30 [v, iv] (fun v' w' => v' = .tuple #[.slice none 0 0, .int .i64 1] ∧ Grow W w') W := by
  apply S30_ok
  unfold S30
  refine callK_mono (zasked_ok h) ?_
  rintro _ w1 ⟨rfl, g1⟩
  refine extK_i (vs := [_, _]) (by rfl) (extK_i (vs := [_, _]) (by rfl) ?_)
  refine newst_n (vs := [.slice none 0 0, .int .i64 0]) rfl rfl (fun u hu => by simp at hu; rcases hu with rfl | rfl <;> rfl) fun b5 w2 _ _ g2 hc2 _ => ?_
  rw [neK_i]
  exact condK_neg (fun e => by cases e) fun _ => ⟨rfl, g1.trans g2⟩
theorem zheld_ok {iv : Value} (h : ZeroT W v) : callK Tryd.prog 32 [v, iv] (fun v' w' => v' = .int .i64 0 ∧ Grow W w') W := by
  apply S32_ok
  unfold S32
  refine callK_mono (zasked_ok h) ?_
  rintro _ w1 ⟨rfl, g1⟩
  refine extK_i (vs := [_, _]) (by rfl) (extK_i (vs := [_, _]) (by rfl) ?_)
  refine newst_n (vs := [.slice none 0 0, .int .i64 0]) rfl rfl (fun u hu => by simp at hu; rcases hu with rfl | rfl <;> rfl) fun b5 w2 _ _ g2 hc2 _ => ?_
  rw [faK_i]
  exact ld1K_i (hc2 1 _ rfl) ⟨rfl, g1.trans g2⟩
theorem zhold_ok {iv : Value} (h : ZeroT W v) : callK Tryd.prog 34 [v, iv] (fun v' w' => v' = .int .i64 1 ∧ Grow W w') W := by
  apply S34_ok
  unfold S34
  refine callK_mono (zasked_ok h) ?_
  rintro _ w1 ⟨rfl, g1⟩
  refine extK_i (vs := [_, _]) (by rfl) (extK_i (vs := [_, _]) (by rfl) ?_)
  refine newst_n (vs := [.slice none 0 0, .int .i64 0]) rfl rfl (fun u hu => by simp at hu; rcases hu with rfl | rfl <;> rfl) fun b5 w2 _ _ g2 hc2 _ => ?_
  rw [neK_i]
  exact condK_neg (fun e => by cases e) fun _ => ⟨rfl, g1.trans g2⟩
theorem zfree_ok {iv : Value} (h : ZeroT W v) : callK Tryd.prog 28 [v, iv] (fun v' w' => v' = .int .i64 1 ∧ Grow W w') W := by
  apply S28_ok
  unfold S28
  refine callK_mono (zasked_ok h) ?_
  rintro _ w1 ⟨rfl, g1⟩
  refine extK_i (vs := [_, _]) (by rfl) (extK_i (vs := [_, _]) (by rfl) ?_)
  refine newst_n (vs := [.slice none 0 0, .int .i64 0]) rfl rfl (fun u hu => by simp at hu; rcases hu with rfl | rfl <;> rfl) fun b5 w2 _ _ g2 hc2 _ => ?_
  rw [neK_i]
  exact condK_neg (fun e => by cases e) fun _ => ⟨rfl, g1.trans g2⟩
theorem ztlen_ok (h : ZeroT W v) : callK Tryd.prog 29 [v] (fun v' w' => v' = .int .i64 0 ∧ w' = W) W := by
  apply S29_ok
  unfold S29
  refine callK_mono (zready_ok h) ?_
  rintro _ _ ⟨rfl, rfl⟩
  rw [notK_i]
  exact condK_t ⟨rfl, rfl⟩
theorem zall_ok (h : ZeroT W v) : callK Tryd.prog 40 [v] (fun v' w' => ∃ b, v' = .func (.func 56) #[] #[.pointer (some ⟨b, 0, none⟩)] ∧ w'.cell? ⟨b, 0, none⟩ = some (.slice none 0 0) ∧ Grow W w') W := by
  apply S40_ok
  unfold S40
  refine newz_i fun b w1 _ _ g hc _ => ?_
  refine callK_mono (zready_ok (h.grow g)) ?_
  rintro _ _ ⟨rfl, rfl⟩
  exact condK_f ⟨b, rfl, by have := hc 0 _ rfl; rwa [addr0] at this, g⟩
/-- the iterator over nothing -/
theorem zall_seq {b : Nat} (h : W.cell? ⟨b, 0, none⟩ = some (.slice none 0 0)) : SeqK True Tryd.prog 56 [.pointer (some ⟨b, 0, none⟩)] (fun _ => []) 0 (fun _ => False) W := by
  intro yl J Jx w1 hg h0 _ _ _ _
  apply S56_ok
  unfold S56
  refine ld1K_i (hg.cell h fun h => h) ?_
  rw [lenK_i]
  refine LoopK_i (fun vs W => vs = [.int .i64 0] ∧ W = w1) (fun _ _ => 0) ⟨rfl, rfl⟩ ?_
  rintro vs W ⟨rfl, rfl⟩ _
  rw [nth_z, List.headD_cons, ltK_i]
  exact condK_p (fun e => absurd e (by decide)) fun _ => ⟨_, .inl h0⟩
end
theorem run_equalIn_func_nil {P : Program} {w : World} (d : Nat) (t : TypeId) {ps rs : Array TypeId} {vd : Bool} (f : Fn) (fi ca : Array Value) (h : P.underlying t = some (.func ps rs vd)) : (Op.equalIn (d + 1) t (.func f fi ca) .nilFunc).run P w = .ok false w := by
  simp [Op.equalIn, run_underlying h]
theorem run_equal_func_nil {P : Program} {w : World} (t : TypeId) {ps rs : Array TypeId} {vd : Bool} (f : Fn) (fi ca : Array Value) (h : P.underlying t = some (.func ps rs vd)) : (Op.equal t (.func f fi ca) .nilFunc).run P w = .ok false w := run_equalIn_func_nil 9999 t f fi ca h
theorem run_eq_nilfunc {xo : Operand} {f : Fn} {fi ca : Array Value} {w : World} : (binS .eql 87 xo (.const .nilFunc) (.func f fi ca) .nilFunc).run Tryd.prog w = .ok (.bool false) w := by
  have hu : Tryd.prog.underlying 87 = some (.func #[77] #[] false) := by kernel_rfl
  simp [binS, eqGuard, binOp, run_equal_func_nil _ _ _ _ hu]
theorem InternNone_ok {S : Nat → Prop} {id : Int} {v : Value} {l : List Attr} {w : World} (hT : Tabs w) (hv : RSet S w v l) :
    callK Tryd.prog 11 [.int .i64 id, v] (fun v w' => v = .bool true ∧ Grow w w') w := by
  apply S11_ok
  unfold S11
  obtain ⟨a, c, rfl, _⟩ := hv.shape
  refine newz_i fun b4 w1 hb4 hz4 g4 _ hl4 => ?_
  -- how it ends: by the known case
  have fin : ∀ {ms : List Nat} {W : World}, Grow w1 W → Marks ms W → (∀ m ∈ ms, w1.heap.size ≤ m) → callK Tryd.prog 24 [] (fun t w2 => st1K (.pointer (some ⟨b4, 0, none⟩)) t (fun w3 => marksK ms (fun w4 => ld1K (.pointer (some ⟨b4, 0, none⟩)) (fun r w5 => r = .bool true ∧ Grow w w5) w4) w3) w2) W := by
    intro ms W g hm hlo
    have lb : Live W ⟨b4, 0, none⟩ := by
      have := (hl4 0 (by decide)).mod g fun h => h
      rwa [addr0] at this
    refine callK_mono (known07_ok (hT.grow (g4.trans g))) ?_
    rintro _ W2 ⟨rfl, g2⟩
    have l2 := lb.mod g2 fun h => h
    refine l2.st rfl rfl ?_
    have m3 : Mod (fun x => x = b4) W2 (W2.setCell ⟨b4, 0, none⟩ (.bool true)) := Mod.setCell _ _ _ rfl
    obtain ⟨u, hu⟩ := Option.isSome_iff_exists.1 l2.1
    have c3 : (W2.setCell ⟨b4, 0, none⟩ (.bool true)).cell? ⟨b4, 0, none⟩ = some (.bool true) := World.cell?_setCell_same _ _ _ hu
    refine ((hm.mod g2 fun _ _ h => h).mod m3 fun m hm' e => by have := hlo m hm'; omega).done fun W4 m4 => ?_
    refine ld1K_i (m4.cell c3 fun hb => by have := hlo b4 hb; omega) ⟨rfl, ?_⟩
    exact (((g4.trans g).trans g2).next m3 fun x hx e => by omega).next m4 fun x hx e => by have := hlo x e; omega
  rw [lenK_i, gtK_i]
  refine condK_p (fun _ => fin (Mod.refl _ _) Marks.nil fun _ h => by cases h) fun hlen => ?_
  refine newz_i fun b5 w2 hb5 hz5 g5 hc5 _ => ?_
  refine rowK_i (cs := [.pointer none, .pointer (some ⟨b5, 0, none⟩)]) (by kernel_rfl) ?_
  have g6 : Grow w2 (w2.alloc (.cells [.pointer none, .pointer (some ⟨b5, 0, none⟩)].toArray 51)) := Mod.alloc _ _ _
  have c0 : (w2.alloc (.cells [.pointer none, .pointer (some ⟨b5, 0, none⟩)].toArray 51)).cell? ((⟨w2.heap.size, 0, none⟩ : Addr).add 0) = some (.pointer none) := cell_box rfl
  have c1 : (w2.alloc (.cells [.pointer none, .pointer (some ⟨b5, 0, none⟩)].toArray 51)).cell? ((⟨w2.heap.size, 0, none⟩ : Addr).add 1) = some (.pointer (some ⟨b5, 0, none⟩)) := cell_box rfl
  generalize w2.alloc (.cells [.pointer none, .pointer (some ⟨b5, 0, none⟩)].toArray 51) = w3 at g6 c0 c1 ⊢
  have z2 : ZeroT w3 (.pointer (some ⟨b5, 0, none⟩)) := ZeroT.grow (.inr ⟨b5, rfl, by simpa only [addr0] using hc5 3 _ rfl⟩) g6
  rw [lenK_i]
  refine LoopN_i (fun vs ms W => ∃ i : Nat, i ≤ 2 ∧ vs = [.int .i64 i] ∧ Grow w3 W ∧ Marks ms W ∧ ∀ m ∈ ms, w1.heap.size ≤ m) (fun vs _ => 2 - iOf vs 0) ⟨0, Nat.zero_le _, rfl, Mod.refl _ _, Marks.nil, fun _ h => by cases h⟩ ?_
  rintro vs ms W ⟨i, hi, rfl, gW, hm, hlo⟩ _
  have g13 : Grow w1 W := (g5.trans g6).trans gW
  rw [nth_z, List.headD_cons, ltK_i]
  refine condK_p (fun hlt => ?_) fun hge => fin g13 hm hlo
  have hlt' : i < 2 := by omega
  obtain ⟨tv, hcell, hz⟩ : ∃ tv, W.cell? ((⟨w2.heap.size, 0, none⟩ : Addr).add (i * 1)) = some tv ∧ ZeroT W tv := by
    rcases (show i = 0 ∨ i = 1 by omega) with rfl | rfl
    · exact ⟨_, gW.cell c0 fun h => h, .inl rfl⟩
    · exact ⟨_, gW.cell c1 fun h => h, z2.grow gW⟩
  refine ixK_n (j := i) hlt' (ld1K_i hcell ?_)
  refine callK_mono (zadd_ok hz) ?_
  rintro _ _ ⟨rfl, rfl⟩
  rename World => W
  refine extK_i (vs := [_, _]) (by rfl) (extK_i (vs := [_, _]) (by rfl) ?_)
  refine callK_mono (zset_ok hz) ?_
  rintro _ W1 ⟨rfl, q1⟩
  refine extK_i (vs := [_, _]) (by rfl) (extK_i (vs := [_, _]) (by rfl) ?_)
  refine callK_mono (zall_ok (hz.grow q1)) ?_
  rintro _ W2 ⟨bx, rfl, hbx, q2⟩
  refine runK_i run_eq_nilfunc (condK_f ?_)
  refine range_none (by kernel_rfl) (zall_seq hbx) fun W3 q3 hz3 hd => ?_
  have q03 := (q1.trans q2).trans q3
  have hm3 : Marks (W2.heap.size :: ms) W3 := (hm.mod q03 fun _ _ h => h).cons hd fun h => by have := hm.lt _ h; have := (q1.trans q2).size; omega
  have hlo3 : ∀ m ∈ W2.heap.size :: ms, w1.heap.size ≤ m := fun m h => by
    rcases List.mem_cons.1 h with rfl | h
    · have := g13.size; have := (q1.trans q2).size; omega
    · exact hlo m h
  dsimp only [nOf]
  rw [neK_i]
  refine condK_neg (fun _ => ?_) fun hne => (hne rfl).elim
  rw [neK_i]
  refine condK_neg (fun _ => ?_) fun hne => (hne rfl).elim
  refine callK_mono (zhold_ok (hz.grow q03)) ?_
  rintro _ W4 ⟨rfl, q4⟩
  rw [neK_i]
  refine condK_neg (fun _ => ?_) fun hne => (hne rfl).elim
  refine callK_mono (zfree_ok (hz.grow (q03.trans q4))) ?_
  rintro _ W5 ⟨rfl, q5⟩
  rw [neK_i]
  refine condK_neg (fun _ => ?_) fun hne => (hne rfl).elim
  refine callK_mono (zheld_ok (hz.grow ((q03.trans q4).trans q5))) ?_
  rintro _ W6 ⟨rfl, q6⟩
  have q36 := (q4.trans q5).trans q6
  refine callK_mono (ztlen_ok (hz.grow (q03.trans q36))) ?_
  rintro _ _ ⟨rfl, rfl⟩
  rename World => W6
  rw [addK_i, neK_i]
  refine condK_neg (fun _ => ?_) fun hne => (hne rfl).elim
  rw [addK_i, loop_step (by omega)]
  exact ⟨⟨i + 1, hlt', rfl, gW.trans (q03.trans q36), hm3.mod q36 fun _ _ h => h, hlo3⟩, by rw [iOf0, iOf0]; omega⟩
end Go.Proofs.YtmfplfaeibehiaaDoor

namespace Go.K
open Go
variable {H : Type} {enc : TypeId × Value → H} {P : Program} {w : World} {base : Nat} {spare : Nat → Bool} {held : Bool}
theorem SlR.of_trod {α : Type} {t e k : Nat} {R : World → List Value → α → Prop} {fuel : Nat} {cs : List Value} {x : DataW H × List MemPlace} (ht : P.underlying t = some (.slice e)) (hk : P.cellsOf e = k)
    (hel : ∀ n cs' y, DataW.trod enc P w base spare held n e cs' = some y → ∃ x, R w cs' x) (h : DataW.trod enc P w base spare held fuel t cs = some x) :
    ∃ v l, cs = [v] ∧ SlR (fun _ => True) k R w v l := by
  rcases Go.Deep.open_slice ht h with ⟨rfl, _⟩ | ⟨a, len, cap, m, n, D, Pl, rfl, hb, hl, hm, hmm, _, hall⟩
  · exact ⟨_, [], rfl, SlR.nil⟩
  · have hlm : len ≤ m := by rw [hmm]; split <;> omega
    have one : ∀ i, i < len → ∃ (cs' : List Value) (x : α), cs'.length = k ∧ (∀ j u, cs'[j]? = some u → w.cell? (a.add (i * k + j)) = some u) ∧ R w cs' x := by
      intro i hi
      obtain ⟨cs', h1, h2⟩ := hall i (by omega)
      obtain ⟨x, hx⟩ := hel n cs' _ h2
      obtain ⟨_, hlen, hc⟩ := World.cells?_some h1
      rw [hk] at hlen hc
      refine ⟨cs', x, hlen, fun j u hu => ?_, hx⟩
      have hj : j < k := by rw [← hlen]; exact (List.getElem?_eq_some_iff.1 hu).1
      have := hc j hj
      rw [Addr.add_add] at this
      rw [this]; exact hu
    have build : ∀ q, q ≤ len → ∃ l : List α, l.length = q ∧ ∀ i x, l[i]? = some x → ∃ cs' : List Value, cs'.length = k ∧ (∀ j u, cs'[j]? = some u → w.cell? (a.add (i * k + j)) = some u) ∧ R w cs' x := by
      intro q
      induction q with
      | zero => exact fun _ => ⟨[], rfl, fun i x h => by simp at h⟩
      | succ q ih =>
        intro hq
        obtain ⟨l, h1, h2⟩ := ih (by omega)
        obtain ⟨cs', x, h3, h4, h5⟩ := one q (by omega)
        refine ⟨l ++ [x], by simp [h1], fun i y hy => ?_⟩
        by_cases hi : i < q
        · rw [List.getElem?_append_left (by omega)] at hy; exact h2 i y hy
        · have : i = q := by have := (List.getElem?_eq_some_iff.1 hy).1; simp [h1] at this; omega
          subst this
          rw [List.getElem?_append_right (by omega)] at hy
          simp [h1] at hy; subst hy
          exact ⟨cs', h3, h4, h5⟩
    obtain ⟨l, h1, h2⟩ := build len (Nat.le_refl _)
    subst h1
    refine ⟨_, l, rfl, a, cap, rfl, hl, hm, fun i x hx => ?_⟩
    obtain ⟨cs', h3, h4, h5⟩ := h2 i x hx
    exact ⟨a, cs', rfl, trivial, h3, h4, h5⟩
end Go.K
namespace Go.Proofs.YtmfplfaeibehiaaDoor
open Go Go.K
open Go.ChangeShapes Go.Joins
variable {H : Type} {enc : TypeId × Value → H} {w : World} {base : Nat} {spare : Nat → Bool} {held : Bool}
theorem attr_of_trod {n : Nat} {cs : List Value} {y : DataW H × List MemPlace} (h : DataW.trod enc Tryd.prog w base spare held n 56 cs = some y) : ∃ x : Attr, cs = x.cells := by
  have c0 : Tryd.prog.cellsOf 56 = 5 := by kernel_rfl
  have c1 : Tryd.prog.cellsOf 3 = 1 := by kernel_rfl
  have c2 : Tryd.prog.cellsOf 30 = 4 := by kernel_rfl
  have c3 : Tryd.prog.cellsOf 5 = 1 := by kernel_rfl
  have c4 : Tryd.prog.cellsOf 2 = 1 := by kernel_rfl
  have c5 : Tryd.prog.cellsOf 28 = 1 := by kernel_rfl
  have c6 : Tryd.prog.cellsOf 9 = 1 := by kernel_rfl
  obtain ⟨y0, y1, m, _, hl, h0, h1⟩ := trod_struct2 Tryd.underlying56 h
  rw [c0] at hl
  simp only [c1, c2] at h0 h1
  match cs, hl with
  | [a0, a1, a2, a3, a4], _ =>
    simp only [List.drop_zero, List.take_succ_cons, List.take_zero, List.drop_succ_cons] at h0 h1
    obtain ⟨k, e0, _, _⟩ := DataW.trod_int Tryd.underlying3 h0
    obtain ⟨z0, z1, z2, z3, m', _, _, g0, g1, g2, g3⟩ := trod_struct4 Tryd.underlying30 h1
    simp only [c3, c4, c5, c6, List.drop_zero, List.take_succ_cons, List.take_zero, List.drop_succ_cons] at g0 g1 g2 g3
    obtain ⟨k0, f0, _, _⟩ := DataW.trod_int Tryd.underlying5 g0
    obtain ⟨k1, f1, _, _⟩ := DataW.trod_int Tryd.underlying2 g1
    obtain ⟨k2, f2, _, _⟩ := DataW.trod_int Tryd.underlying28 g2
    obtain ⟨k3, f3, _, _⟩ := DataW.trod_string Tryd.underlying9 g3
    cases e0; cases f0; cases f1; cases f2; cases f3
    exact ⟨⟨k, ⟨k0, k1, k2, k3⟩⟩, rfl⟩
theorem set_of_trod {n : Nat} {cs : List Value} {y : DataW H × List MemPlace} (h : DataW.trod enc Tryd.prog w base spare held n 53 cs = some y) : ∃ v l, cs = [v] ∧ RSet (fun _ => True) w v l :=
  SlR.of_trod Tryd.underlying53 (by kernel_rfl) (fun _ _ _ h => attr_of_trod h) h
end Go.Proofs.YtmfplfaeibehiaaDoor

namespace Go.Proofs.YtmfplfaeibehiaaDoor
open Go Go.K
open Go.ChangeShapes Go.Joins
variable {H : Type} {enc : TypeId × Value → H} {w : World} {base : Nat} {spare : Nat → Bool} {held : Bool}
theorem len4 {α : Type} {l : List α} (h : l.length = 4) : ∃ a b c d, l = [a, b, c, d] := by
  match l, h with | [a, b, c, d], _ => exact ⟨a, b, c, d, rfl⟩
theorem len5 {α : Type} {l : List α} (h : l.length = 5) : ∃ a b c d e, l = [a, b, c, d, e] := by
  match l, h with | [a, b, c, d, e], _ => exact ⟨a, b, c, d, e, rfl⟩
theorem len6 {α : Type} {l : List α} (h : l.length = 6) : ∃ a b c d e f, l = [a, b, c, d, e, f] := by
  match l, h with | [a, b, c, d, e, f], _ => exact ⟨a, b, c, d, e, f, rfl⟩
theorem bulk_app (l m : List (DataW H)) : Rows.uptoBulkAll (l ++ m) = Rows.uptoBulkAll l + Rows.uptoBulkAll m := by
  induction l with
  | nil => simp [Rows.uptoBulkAll]
  | cons d l ih => simp only [List.cons_append, Rows.uptoBulkAll, ih]; omega
theorem SlR.of_trodU {α : Type} {t e k : Nat} {R : World → List Value → α → Prop} {μ : α → Nat} {fuel : Nat} {cs : List Value} {x : DataW H × List MemPlace} (ht : Tryd.prog.underlying t = some (.slice e)) (hk : Tryd.prog.cellsOf e = k)
    (hel : ∀ n cs' y, DataW.trod enc Tryd.prog w base spare held n e cs' = some y → ∃ x, R w cs' x ∧ μ x ≤ Rows.uptoBulk y.1) (h : DataW.trod enc Tryd.prog w base spare held fuel t cs = some x) :
    ∃ v l, cs = [v] ∧ SlR (fun _ => True) k R w v l ∧ (l.map μ).sum + 1 ≤ Rows.uptoBulk x.1 := by
  rcases Go.Deep.open_slice ht h with ⟨rfl, rfl⟩ | ⟨a, len, cap, m, n, D, Pl, rfl, hb, hl, hm, hmm, rfl, hall⟩
  · exact ⟨_, [], rfl, SlR.nil, by simp [Rows.uptoBulk]⟩
  · have hlm : len ≤ m := by rw [hmm]; split <;> omega
    have one : ∀ i, i < len → ∃ (cs' : List Value) (x : α), cs'.length = k ∧ (∀ j u, cs'[j]? = some u → w.cell? (a.add (i * k + j)) = some u) ∧ R w cs' x ∧ μ x ≤ Rows.uptoBulk (D i) := by
      intro i hi
      obtain ⟨cs', h1, h2⟩ := hall i (by omega)
      obtain ⟨x, hx, hmu⟩ := hel n cs' _ h2
      obtain ⟨_, hlen, hc⟩ := World.cells?_some h1
      rw [hk] at hlen hc
      refine ⟨cs', x, hlen, fun j u hu => ?_, hx, hmu⟩
      have hj : j < k := by rw [← hlen]; exact (List.getElem?_eq_some_iff.1 hu).1
      have := hc j hj
      rw [Addr.add_add] at this
      rw [this]; exact hu
    have build : ∀ q, q ≤ len → ∃ l : List α, l.length = q ∧ (l.map μ).sum ≤ Rows.uptoBulkAll ((List.range q).map D) ∧ ∀ i x, l[i]? = some x → ∃ cs' : List Value, cs'.length = k ∧ (∀ j u, cs'[j]? = some u → w.cell? (a.add (i * k + j)) = some u) ∧ R w cs' x := by
      intro q
      induction q with
      | zero => exact fun _ => ⟨[], rfl, by simp [Rows.uptoBulkAll], fun i x h => by simp at h⟩
      | succ q ih =>
        intro hq
        obtain ⟨l, h1, hs, h2⟩ := ih (by omega)
        obtain ⟨cs', x, h3, h4, h5, h6⟩ := one q (by omega)
        refine ⟨l ++ [x], by simp [h1], ?_, fun i y hy => ?_⟩
        · rw [List.range_succ, List.map_append (f := D), bulk_app]
          simp only [List.map_append, List.sum_append, List.map_cons, List.map_nil, List.sum_cons, List.sum_nil, Rows.uptoBulkAll]
          omega
        by_cases hi : i < q
        · rw [List.getElem?_append_left (by omega)] at hy; exact h2 i y hy
        · have : i = q := by have := (List.getElem?_eq_some_iff.1 hy).1; simp [h1] at this; omega
          subst this
          rw [List.getElem?_append_right (by omega)] at hy
          simp [h1] at hy; subst hy
          exact ⟨cs', h3, h4, h5⟩
    obtain ⟨l, h1, hs, h2⟩ := build len (Nat.le_refl _)
    subst h1
    refine ⟨_, l, rfl, ⟨a, cap, rfl, hl, hm, fun i x hx => ?_⟩, ?_⟩
    · obtain ⟨cs', h3, h4, h5⟩ := h2 i x hx
      exact ⟨a, cs', rfl, trivial, h3, h4, h5⟩
    · simp only [Rows.uptoBulk]; omega
theorem val_of_trodU {n : Nat} {cs : List Value} {y : DataW H × List MemPlace} (h : DataW.trod enc Tryd.prog w base spare held n 30 cs = some y) : ∃ x : AVal, cs = x.cells ∧ x.s.size + 1 ≤ Rows.uptoBulk y.1 := by
  have c2 : Tryd.prog.cellsOf 30 = 4 := by kernel_rfl
  have c3 : Tryd.prog.cellsOf 5 = 1 := by kernel_rfl
  have c4 : Tryd.prog.cellsOf 2 = 1 := by kernel_rfl
  have c5 : Tryd.prog.cellsOf 28 = 1 := by kernel_rfl
  have c6 : Tryd.prog.cellsOf 9 = 1 := by kernel_rfl
  obtain ⟨z0, z1, z2, z3, m', rfl, hl, g0, g1, g2, g3⟩ := trod_struct4 Tryd.underlying30 h
  rw [c2] at hl
  simp only [c3, c4, c5, c6] at g0 g1 g2 g3
  match cs, hl with
  | [a0, a1, a2, a3], _ =>
    simp only [List.drop_zero, List.take_succ_cons, List.take_zero, List.drop_succ_cons] at g0 g1 g2 g3
    obtain ⟨k0, f0, e0, _⟩ := DataW.trod_int Tryd.underlying5 g0
    obtain ⟨k1, f1, e1, _⟩ := DataW.trod_int Tryd.underlying2 g1
    obtain ⟨k2, f2, e2, _⟩ := DataW.trod_int Tryd.underlying28 g2
    obtain ⟨k3, f3, e3, _⟩ := DataW.trod_string Tryd.underlying9 g3
    cases f0; cases f1; cases f2; cases f3; subst e0; subst e1; subst e2; subst e3
    refine ⟨⟨k0, k1, k2, k3⟩, rfl, ?_⟩
    simp only [Rows.uptoBulk, Rows.uptoBulkAll, Array.length_toList, ByteArray.size_data]
    omega
theorem attr_of_trodU {n : Nat} {cs : List Value} {y : DataW H × List MemPlace} (h : DataW.trod enc Tryd.prog w base spare held n 56 cs = some y) : ∃ x : Attr, RAttr w cs x ∧ mAttr x ≤ Rows.uptoBulk y.1 := by
  have c0 : Tryd.prog.cellsOf 56 = 5 := by kernel_rfl
  have c1 : Tryd.prog.cellsOf 3 = 1 := by kernel_rfl
  have c2 : Tryd.prog.cellsOf 30 = 4 := by kernel_rfl
  obtain ⟨y0, y1, m, rfl, hl, h0, h1⟩ := trod_struct2 Tryd.underlying56 h
  rw [c0] at hl
  simp only [c1, c2] at h0 h1
  match cs, hl with
  | [a0, a1, a2, a3, a4], _ =>
    simp only [List.drop_zero, List.take_succ_cons, List.take_zero, List.drop_succ_cons] at h0 h1
    obtain ⟨k, e0, _, _⟩ := DataW.trod_int Tryd.underlying3 h0
    obtain ⟨v, e1, hs⟩ := val_of_trodU h1
    cases e0; cases e1
    refine ⟨⟨k, v⟩, rfl, ?_⟩
    simp only [mAttr, Rows.uptoBulk, Rows.uptoBulkAll]
    omega
theorem rune_of_trodU {n : Nat} {cs : List Value} {y : DataW H × List MemPlace} (h : DataW.trod enc Tryd.prog w base spare held n 21 cs = some y) : ∃ x : Int, RRune w cs x ∧ 1 ≤ Rows.uptoBulk y.1 := by
  obtain ⟨k, rfl, e, _⟩ := DataW.trod_int Tryd.underlying21 h
  subst e
  exact ⟨k, rfl, by simp [Rows.uptoBulk]⟩
theorem set_of_trodU {n : Nat} {cs : List Value} {y : DataW H × List MemPlace} (h : DataW.trod enc Tryd.prog w base spare held n 53 cs = some y) : ∃ v l, cs = [v] ∧ RSet (fun _ => True) w v l ∧ mSet l + 1 ≤ Rows.uptoBulk y.1 :=
  SlR.of_trodU (μ := mAttr) Tryd.underlying53 (by kernel_rfl) (fun _ _ _ h => attr_of_trodU h) h
theorem runes_of_trodU {n : Nat} {cs : List Value} {y : DataW H × List MemPlace} (h : DataW.trod enc Tryd.prog w base spare held n 116 cs = some y) : ∃ v l, cs = [v] ∧ RRun (fun _ => True) w v l ∧ l.length + 1 ≤ Rows.uptoBulk y.1 := by
  obtain ⟨v, l, e, h1, h2⟩ := SlR.of_trodU (μ := fun _ : Int => 1) Tryd.underlying116 (by kernel_rfl) (fun _ _ _ h => rune_of_trodU h) h
  refine ⟨v, l, e, h1, ?_⟩
  have : (l.map fun _ => 1).sum = l.length := by clear h1 h2; induction l with | nil => rfl | cons a l ih => simp only [List.map_cons, List.sum_cons, List.length_cons, ih]; omega
  omega
theorem key_of_trodU {n : Nat} {cs : List Value} {y : DataW H × List MemPlace} (h : DataW.trod enc Tryd.prog w base spare held n 34 cs = some y) : ∃ x : DKey, RKey w cs x ∧ 1 ≤ Rows.uptoBulk y.1 := by
  have c0 : Tryd.prog.cellsOf 34 = 6 := by kernel_rfl
  have c1 : Tryd.prog.cellsOf 3 = 1 := by kernel_rfl
  have c2 : Tryd.prog.cellsOf 5 = 1 := by kernel_rfl
  have c3 : Tryd.prog.cellsOf 4 = 1 := by kernel_rfl
  obtain ⟨xs, m, _, rfl, hl, hlen, hf⟩ := DataW.trod_struct Tryd.underlying34 h
  match xs, hlen with
  | [y0, y1, y2, y3, y4, y5], _ =>
    have h0 : DataW.trod enc Tryd.prog w base spare held m 3 ((cs.drop 0).take (Tryd.prog.cellsOf 3)) = some y0 := hf 0 _ rfl
    have h1 : DataW.trod enc Tryd.prog w base spare held m 4 ((cs.drop 1).take (Tryd.prog.cellsOf 4)) = some y1 := hf 1 _ rfl
    have h2 : DataW.trod enc Tryd.prog w base spare held m 5 ((cs.drop 2).take (Tryd.prog.cellsOf 5)) = some y2 := hf 2 _ rfl
    have h3 : DataW.trod enc Tryd.prog w base spare held m 4 ((cs.drop 3).take (Tryd.prog.cellsOf 4)) = some y3 := hf 3 _ rfl
    have h4 : DataW.trod enc Tryd.prog w base spare held m 4 ((cs.drop 4).take (Tryd.prog.cellsOf 4)) = some y4 := hf 4 _ rfl
    have h5 : DataW.trod enc Tryd.prog w base spare held m 3 ((cs.drop 5).take (Tryd.prog.cellsOf 3)) = some y5 := hf 5 _ rfl
    rw [c0] at hl
    rw [c1] at h0
    rw [c3] at h1
    rw [c2] at h2
    rw [c3] at h3
    rw [c3] at h4
    rw [c1] at h5
    obtain ⟨a0, a1, a2, a3, a4, a5, rfl⟩ := len6 hl
    · clear hf
      simp only [List.drop_zero, List.take_succ_cons, List.take_zero, List.drop_succ_cons] at h0 h1 h2 h3 h4 h5
      obtain ⟨k0, e0, _, _⟩ := DataW.trod_int Tryd.underlying3 h0
      obtain ⟨k1, e1, _⟩ := DataW.trod_bool Tryd.underlying4 h1
      obtain ⟨k2, e2, _, _⟩ := DataW.trod_int Tryd.underlying5 h2
      obtain ⟨k3, e3, _⟩ := DataW.trod_bool Tryd.underlying4 h3
      obtain ⟨k4, e4, _⟩ := DataW.trod_bool Tryd.underlying4 h4
      obtain ⟨k5, e5, _, _⟩ := DataW.trod_int Tryd.underlying3 h5
      cases e0; cases e1; cases e2; cases e3; cases e4; cases e5
      refine ⟨⟨k0, k1, k2, k3, k4, k5⟩, rfl, ?_⟩
      simp only [Rows.uptoBulk]
      omega
theorem keys_of_trodU {n : Nat} {cs : List Value} {y : DataW H × List MemPlace} (h : DataW.trod enc Tryd.prog w base spare held n 22 cs = some y) : ∃ v l, cs = [v] ∧ RKeys (fun _ => True) w v l ∧ l.length + 1 ≤ Rows.uptoBulk y.1 := by
  obtain ⟨v, l, e, h1, h2⟩ := SlR.of_trodU (μ := fun _ : DKey => 1) Tryd.underlying22 (by kernel_rfl) (fun _ _ _ h => key_of_trodU h) h
  refine ⟨v, l, e, h1, ?_⟩
  have : (l.map fun _ => 1).sum = l.length := by clear h1 h2; induction l with | nil => rfl | cons a l ih => simp only [List.map_cons, List.sum_cons, List.length_cons, ih]; omega
  omega
end Go.Proofs.YtmfplfaeibehiaaDoor

namespace Go.Proofs.YtmfplfaeibehiaaDoor
open Go Go.K
open Go.ChangeShapes Go.Joins
variable {H : Type} {enc : TypeId × Value → H} {w : World} {base : Nat} {spare : Nat → Bool} {held : Bool}
theorem keys_of_trod {n : Nat} {cs : List Value} {y : DataW H × List MemPlace} (h : DataW.trod enc Tryd.prog w base spare held n 22 cs = some y) : ∃ v l, cs = [v] ∧ RKeys (fun _ => True) w v l := by
  obtain ⟨v, l, e, h1, _⟩ := keys_of_trodU h
  exact ⟨v, l, e, h1⟩
end Go.Proofs.YtmfplfaeibehiaaDoor

namespace Go.Proofs.YtmfplfaeibehiaaDoor
open Go Go.K
open Go.ChangeShapes Go.WideShapes Go.ChangeAt Go.RowKit Go.Joins

def laidL : List (String × DataW Unit) := [("unicode/utf8.acceptRanges", Rows.laid_unicode_utf8_acceptRanges), ("unicode/utf8.first", Rows.laid_unicode_utf8_first)]
theorem first_tab : Rows.laid_unicode_utf8_first = Lib.tabData .u8 (Pinned.utf8FirstZ.map Int.ofNat) := by kernel_rfl
theorem first_at : (List.range 256).all (fun j => decide (128 ≤ j → (Pinned.utf8FirstZ.map Int.ofNat)[j]? = some (firstT j))) = true := by decide +kernel
theorem acc_tab : Rows.laid_unicode_utf8_acceptRanges (H := Unit) = .agg ((List.range 16).map fun i => .agg ([accLo i, accHi i].map fun z => .lit (.int .u8 z))) := by kernel_rfl
theorem tabs_of_laid {W : World} (h : laidMetH Tryd.prog laidL W) : Tabs W := by
  rw [MakeChecks.laidMetH_plain _ _ _ (by kernel_rfl)] at h
  have h4 := Lib.laidMet.reads h (.head _)
  have h3 := Lib.laidMet.reads h (.tail _ (.head _))
  have hf : ∀ j : Nat, 128 ≤ j → j < 256 → W.cell? ⟨1, j, none⟩ = some (.int .u8 (firstT j)) := by
    intro j hj1 hj2
    obtain ⟨g, t, cs, fuel, p, hg, hty, hvar, hd⟩ := h3
    obtain rfl := Option.some.inj ((show Tryd.prog.globalNamed "unicode/utf8.first" = some 1 by kernel_rfl).symm.trans hg)
    obtain rfl := Option.some.inj ((show (Tryd.prog.globals[1]?).map (·.type) = some 152 by kernel_rfl).symm.trans hty)
    rw [first_tab] at hd
    have hcs := Lib.cells_of_tab Tryd.underlying152 Tryd.underlying5 (by kernel_rfl) (by kernel_rfl) hd
    have := World.var?_cell hg hvar j
    rw [this, ← Array.getElem?_toList, hcs]
    have ha := List.all_eq_true.1 first_at j (List.mem_range.2 hj2)
    rw [decide_eq_true_eq] at ha
    rw [List.getElem?_map, ha hj1]
    rfl
  have hac : ∀ j : Nat, j < 16 → W.cell? ⟨2, j * 2, none⟩ = some (.int .u8 (accLo j)) ∧ W.cell? ⟨2, j * 2 + 1, none⟩ = some (.int .u8 (accHi j)) := by
    intro i hi
    obtain ⟨g, t, cs, fuel, p, hg, hty, hvar, hd⟩ := h4
    obtain rfl := Option.some.inj ((show Tryd.prog.globalNamed "unicode/utf8.acceptRanges" = some 2 by kernel_rfl).symm.trans hg)
    obtain rfl := Option.some.inj ((show (Tryd.prog.globals[2]?).map (·.type) = some 155 by kernel_rfl).symm.trans hty)
    rw [acc_tab] at hd
    obtain ⟨fuel', d, q, hdi, he⟩ := Lib.array_elem Tryd.underlying155 hd i hi
    simp only [List.getElem?_map, List.getElem?_range hi, Option.map_some, Option.some.injEq] at hdi
    subst hdi
    have c2 : Tryd.prog.cellsOf 154 = 2 := by kernel_rfl
    rw [c2] at he
    have hcs := Lib.ints_of_struct Tryd.underlying154 (fun j f hj => by
      match j, hj with
      | 0, hj => simp at hj; subst hj; exact ⟨Tryd.underlying5, rfl, by kernel_rfl⟩
      | 1, hj => simp at hj; subst hj; exact ⟨Tryd.underlying5, rfl, by kernel_rfl⟩
      | j + 2, hj => simp at hj) (by rw [c2]; rfl) he
    have e0 := congrArg (·[0]?) hcs
    have e1 := congrArg (·[1]?) hcs
    simp at e0 e1
    have w0 := World.var?_cell hg hvar (i * 2)
    have w1 := World.var?_cell hg hvar (i * 2 + 1)
    rw [w0, w1, ← Array.getElem?_toList, ← Array.getElem?_toList]
    exact ⟨by simpa using e0, by simpa using e1⟩
  have := World.block_lt_of_cell? W _ (hac 0 (by decide)).1
  exact ⟨this, hf, hac⟩
/-- a world that meets the condition -/
noncomputable def laidWorld (os : Os) : World :=
  let w0 := World.holding Tryd.prog os ⟨#[], #[], []⟩
  let put (h : Array Obj) (g : Nat) (cs : Array Value) : Array Obj := h.modify g fun
    | .cells _ t frozen => .cells cs t frozen
    | o => o
  let h1 := put w0.heap 1 (Pinned.utf8FirstZ.map fun (z : Nat) => Value.int .u8 (Int.ofNat z)).toArray
  let h2 := put h1 2 ((List.range 16).flatMap fun i => [Value.int .u8 (accLo i), Value.int .u8 (accHi i)]).toArray
  { w0 with heap := h2 }
theorem laidWorld_met (os : Os) (args : Array Value) : laidMetH Tryd.prog laidL ((laidWorld os).forCall (fun _ _ => 0) ⟨#[], args, []⟩).memory := by
  rw [MakeChecks.laidMetH_plain _ _ _ (by kernel_rfl)]
  exact (LaidIn.of_run (l := laidL) [2, 1] 8 (by kernel_rfl) (by kernel_rfl) (by kernel_rfl) (by kernel_rfl)).met

/-- a value whose numbers lie in their types -/
def InV (v : AVal) : Prop := (0 ≤ v.kind ∧ v.kind < 256) ∧ (-9223372036854775808 ≤ v.n ∧ v.n ≤ 9223372036854775807) ∧ (0 ≤ v.f ∧ v.f < 18446744073709551616) ∧ v.s.size < 18446744073709551616
variable {H : Type} {enc : TypeId × Value → H} {w : World} {base : Nat} {spare : Nat → Bool} {held : Bool}
theorem wf_range {k : IntKind} {n : Int} (h : (Lit.int k n).wf = true) : k.min ≤ n ∧ n ≤ k.max := by
  simpa [Lit.wf] using h
theorem val_of_trodR {n : Nat} {cs : List Value} {y : DataW H × List MemPlace} (h : DataW.trod enc Tryd.prog w base spare held n 30 cs = some y) : ∃ x : AVal, cs = x.cells ∧ InV x := by
  have c2 : Tryd.prog.cellsOf 30 = 4 := by kernel_rfl
  have c3 : Tryd.prog.cellsOf 5 = 1 := by kernel_rfl
  have c4 : Tryd.prog.cellsOf 2 = 1 := by kernel_rfl
  have c5 : Tryd.prog.cellsOf 28 = 1 := by kernel_rfl
  have c6 : Tryd.prog.cellsOf 9 = 1 := by kernel_rfl
  obtain ⟨z0, z1, z2, z3, m', _, hl, g0, g1, g2, g3⟩ := trod_struct4 Tryd.underlying30 h
  rw [c2] at hl
  simp only [c3, c4, c5, c6] at g0 g1 g2 g3
  match cs, hl with
  | [a1, a2, a3, a4], _ =>
    simp only [List.drop_zero, List.take_succ_cons, List.take_zero, List.drop_succ_cons] at g0 g1 g2 g3
    obtain ⟨k0, f0, _, w0⟩ := DataW.trod_int Tryd.underlying5 g0
    obtain ⟨k1, f1, _, w1⟩ := DataW.trod_int Tryd.underlying2 g1
    obtain ⟨k2, f2, _, w2⟩ := DataW.trod_int Tryd.underlying28 g2
    obtain ⟨k3, f3, _, w3⟩ := DataW.trod_string Tryd.underlying9 g3
    cases f0; cases f1; cases f2; cases f3
    refine ⟨⟨k0, k1, k2, k3⟩, rfl, ?_⟩
    have r0 := wf_range w0
    have r1 := wf_range w1
    have r2 := wf_range w2
    have m0 : IntKind.u8.min = 0 ∧ IntKind.u8.max = 255 := by decide
    have m1 : IntKind.i64.min = -9223372036854775808 ∧ IntKind.i64.max = 9223372036854775807 := by decide
    have m2 : IntKind.u64.min = 0 ∧ IntKind.u64.max = 18446744073709551615 := by decide
    rw [m0.1, m0.2] at r0
    rw [m1.1, m1.2] at r1
    rw [m2.1, m2.2] at r2
    have r3 : k3.size ≤ 9223372036854775807 := by
      simp only [Lit.wf, maxLen] at w3
      simpa using w3
    exact ⟨⟨r0.1, show k0 < 256 by omega⟩, r1, ⟨r2.1, show k2 < 18446744073709551616 by omega⟩, show k3.size < 18446744073709551616 by omega⟩
end Go.Proofs.YtmfplfaeibehiaaDoor

namespace Go.K
open Go
theorem Tab.hold_at {α : Type} {t : Tab α} {z : α} {i : Nat} {p : Ent α} (h : t.places[i]? = some p) (h0 : 0 < p.held) : t.hold z ((i : Int) + 1) = t.setP i ⟨p.set, p.held + 1⟩ := by
  unfold Tab.hold
  rw [Tab.ask_at h h0]
  dsimp only
  rw [if_neg (by omega), show ((i : Int) + 1 - 1).toNat = i by omega]
theorem Tab.release_at {α : Type} {t : Tab α} {z : α} {i : Nat} {p : Ent α} (h : t.places[i]? = some p) (h0 : 0 < p.held) : t.release z ((i : Int) + 1) = if p.held = 1 then t.drop z i else t.setP i ⟨p.set, p.held - 1⟩ := by
  unfold Tab.release
  rw [Tab.ask_at h h0]
  dsimp only
  rw [if_neg (by omega), show ((i : Int) + 1 - 1).toNat = i by omega]
end Go.K
namespace Go.Proofs.YtmfplfaeibehiaaDoor
open Go Go.K

set_option maxRecDepth 20000 in
theorem InternHolds_ok {n : Int} {flag : Bool} {w : World} (hT : Tabs w) (hw : (Lit.int .i64 n).wf = true) :
    callK Tryd.prog 9 [.int .i64 n, .bool flag] (fun v w' => v = .bool true ∧ Grow w w') w := by
  apply S9_ok
  unfold S9
  have kn : ∀ {w1 : World}, Grow w w1 → callK Tryd.prog 24 [] (fun v w' => v = .bool true ∧ Grow w w') w1 := fun g => callK_mono (known07_ok (hT.grow g)) fun _ _ h => ⟨h.1, g.trans h.2⟩
  refine JoinK_i (fun _ W => W = w ∧ 0 ≤ n ∧ n ≤ 50) ?_ ?_
  rotate_left
  · rw [ltK_i]
    refine condK_p (fun _ => kn (Mod.refl _ _)) fun h1 => ?_
    rw [gtK_i]
    exact condK_p (fun _ => kn (Mod.refl _ _)) fun h2 => ⟨rfl, by omega, by omega⟩
  rintro _ _ ⟨rfl, hn0, hn1⟩ _
  rename World => w
  obtain ⟨m, rfl⟩ : ∃ m : Nat, n = m := ⟨n.toNat, by omega⟩
  have hm : m ≤ 50 := by omega
  refine ⟨key07.cells.toArray, by kernel_rfl, ?_⟩
  refine rowK_i (cs := key07.cells) (by kernel_rfl) ?_
  refine new_one (w0 := w) key07_ok (Mod.refl _ _) fun w2 sv C g2 hS hC => ?_
  refine extK_i (vs := [_, _]) (by rfl) (extK_i (vs := [_, _]) (by rfl) ?_)
  refine callK_mono (L.new hS hC g2) ?_
  rintro _ w4 ⟨b, F4, rfl, hL4, _⟩
  refine JoinK_i (fun _ W => W = w4) ?_ ?_
  rotate_left
  · rw [neK_i]
    refine condK_neg (fun _ => ?_) fun e => (e rfl).elim
    exact pnilK_s (condK_f rfl)
  rintro _ _ rfl _
  rename World => w4
  refine callK_mono flags_ok ?_
  rintro v6 w6 ⟨hv6, g6⟩
  refine JoinK_i (fun vs W => ∃ v fl, vs = [v] ∧ (fl = 0 ∨ fl = 1) ∧ RSet (fun x => w4.heap.size ≤ x) W v [flagA fl] ∧ Grow w4 W) ?_ ?_
  rotate_left
  · cases flag with
    | false => exact condK_f ⟨v6, 0, rfl, .inl rfl, hv6, g6⟩
    | true =>
      refine condK_t (callK_mono flags_ok ?_)
      rintro v7 w7 ⟨hv7, g7⟩
      have := g6.size
      exact ⟨v7, 1, rfl, .inr rfl, hv7.sub (fun x _ hx => by omega) (by decide) fun _ _ h => h, g6.trans g7⟩
  rintro vs w7 ⟨v7, fl, rfl, hfl, hv7, g7⟩ _
  rw [nth_z, List.headD_cons]
  refine callK_mono ((hL4.grow g7).add (small_of (by simp [Tab.z]) (by simp [Tab.z]) (by simp [Tab.z])) hT hv7 (flagA_in (by omega) (by omega)) fun x hx hf => by have := (hL4.hF x hf).2; omega) ?_
  rintro v8 w8 (⟨h1, _⟩ | ⟨_, id, t1, F8, rfl, ha, hL8, _, _⟩)
  · exact absurd (may_flag hfl) h1
  obtain ⟨rfl, rfl⟩ := ha.new (by simp) (fun i p hp => by simp [Tab.z] at hp)
  have hL8' : L w F8 w8 b [key07] ⟨[⟨[flagA fl], 1⟩], [], 0⟩ := hL8
  clear hL8 ha
  refine extK_i (vs := [_, _]) (by rfl) (extK_i (vs := [_, _]) (by rfl) ?_)
  refine JoinK_i (fun _ W => W = w8) ?_ ?_
  rotate_left
  · rw [neK_i]
    refine condK_neg (fun _ => ?_) fun e => (e rfl).elim
    rw [ltK_i]
    refine condK_p (fun e => by cases e) fun _ => rfl
  rintro _ _ rfl _
  rename World => w8
  generalize hsd : [flagA fl] = s at hL8'
  have sm : ∀ k, k ≤ 60 → (⟨[⟨s, k⟩], [], 0⟩ : Tab (List Attr)).Small 1099511627 := fun k hk => small_of (by simp) (by simp) (by simp; omega)
  refine LoopK_i (fun vs W => ∃ (i : Nat) (F : Nat → Prop), i ≤ m ∧ vs = [.int .i64 i] ∧ L w F W b [key07] ⟨[⟨s, i + 1⟩], [], 0⟩) (fun vs _ => m - iOf vs 0) ⟨0, F8, Nat.zero_le _, rfl, hL8'⟩ ?_
  rintro vs W ⟨i, F, hi, rfl, hL⟩ _
  rw [nth_z, List.headD_cons, ltK_i]
  refine condK_p (fun hlt => ?_) fun hge => ?_
  · have hp : (⟨[⟨s, i + 1⟩], [], 0⟩ : Tab (List Attr)).places[0]? = some ⟨s, i + 1⟩ := rfl
    have hp0 : 0 < (⟨s, i + 1⟩ : Ent (List Attr)).held := Nat.succ_pos i
    refine callK_mono (hL.hold (id := 1) (Small.up (sm _ (by omega))) (by decide) (by decide)) ?_
    rintro _ W2 ⟨rfl, F2, hL2, _, _⟩
    have ea : (⟨[⟨s, i + 1⟩], [], 0⟩ : Tab (List Attr)).ask [] 1 = some ⟨s, i + 1⟩ := Tab.ask_at hp hp0
    have eh : (⟨[⟨s, i + 1⟩], [], 0⟩ : Tab (List Attr)).hold [] 1 = ⟨[⟨s, i + 1 + 1⟩], [], 0⟩ := Tab.hold_at hp hp0
    rw [eh] at hL2
    rw [ea, neK_i]
    refine condK_neg (fun _ => ?_) fun e => (e rfl).elim
    rw [addK_i, loop_step (by omega)]
    exact ⟨⟨i + 1, F2, by omega, rfl, hL2⟩, by rw [iOf0, iOf0]; omega⟩
  · have : i = m := by omega
    subst this
    rename Nat => m
    rw [addK_i, wrap64 (by omega) (by omega)]
    refine LoopK_i (fun vs W => ∃ (j : Nat) (F : Nat → Prop), j ≤ m + 1 ∧ vs = [.int .i64 j] ∧ L w F W b [key07] (if j ≤ m then ⟨[⟨s, m + 1 - j⟩], [], 0⟩ else ⟨[⟨[], 0⟩], [0], 0⟩)) (fun vs _ => m + 1 - iOf vs 0) ⟨0, F, Nat.zero_le _, rfl, by rw [if_pos (Nat.zero_le _)]; exact hL⟩ ?_
    rintro vs W2 ⟨j, F2, hj, rfl, hL2⟩ _
    rw [nth_z, List.headD_cons, ltK_i]
    refine condK_p (fun hlt2 => ?_) fun hge2 => ?_
    · have hjm : j ≤ m := by omega
      rw [if_pos hjm] at hL2
      have hp : (⟨[⟨s, m + 1 - j⟩], [], 0⟩ : Tab (List Attr)).places[0]? = some ⟨s, m + 1 - j⟩ := rfl
      have hp0 : 0 < (⟨s, m + 1 - j⟩ : Ent (List Attr)).held := by show 0 < m + 1 - j; omega
      have ea : (⟨[⟨s, m + 1 - j⟩], [], 0⟩ : Tab (List Attr)).ask [] 1 = some ⟨s, m + 1 - j⟩ := Tab.ask_at hp hp0
      refine callK_mono (hL2.held (id := 1) (by simp) (by decide) (by decide)) ?_
      rintro _ W3 ⟨rfl, g3, hL3⟩
      rw [ea, addK_i, wrap64 (by omega) (by omega), subK_i, wrap64 (by omega) (by omega), neK_i]
      refine condK_neg (fun _ => ?_) fun e => (e (by show ((m + 1 - j : Nat) : Int) = _; omega)).elim
      refine callK_mono (hL3.free (id := 1) (sm _ (by omega)) (by decide) (by decide)) ?_
      rintro _ W4 ⟨rfl, F4', hL4', _, _⟩
      rw [ea, neK_i]
      refine condK_neg (fun _ => ?_) fun e => (e rfl).elim
      rw [addK_i, loop_step (by omega)]
      refine ⟨⟨j + 1, F4', by omega, rfl, ?_⟩, by rw [iOf0, iOf0]; omega⟩
      have er : (⟨[⟨s, m + 1 - j⟩], [], 0⟩ : Tab (List Attr)).release [] 1 = if m + 1 - j = 1 then ⟨[⟨[], 0⟩], [0], 0⟩ else ⟨[⟨s, m + 1 - j - 1⟩], [], 0⟩ := Tab.release_at hp hp0
      rw [er] at hL4'
      by_cases he : m + 1 - j = 1
      · rw [if_pos he] at hL4'
        rw [if_neg (by omega)]; exact hL4'
      · rw [if_neg he] at hL4'
        rw [if_pos (by omega), show m + 1 - (j + 1) = m + 1 - j - 1 by omega]; exact hL4'
    · rw [if_neg (by omega)] at hL2
      refine callK_mono (hL2.held (id := 1) (by simp) (by decide) (by decide)) ?_
      rintro _ W3 ⟨rfl, g3, hL3⟩
      rw [eqK_i]
      refine condK_p (fun _ => ?_) fun e => (e rfl).elim
      refine callK_mono (hL3.hold (id := 1) (Small.up (small_of (by simp) (by simp) (by simp))) (by decide) (by decide)) ?_
      rintro _ W4 ⟨rfl, F4', hL4', _, _⟩
      have hL4'' : L w F4' W4 b [key07] ⟨[⟨[], 0⟩], [0], 0⟩ := hL4'
      rw [eqK_i]
      refine condK_p (fun _ => ?_) fun e => (e rfl).elim
      refine callK_mono (hL4''.len (by simp)) ?_
      rintro _ W5 ⟨rfl, g5, hL5⟩
      rw [eqK_i]
      exact condK_p (fun _ => kn hL5.g) fun e => (e rfl).elim
end Go.Proofs.YtmfplfaeibehiaaDoor

namespace Go.K
open Go
theorem Tab.Small.added {α : Type} {t t' : Tab α} {z s : α} {id : Int} {N : Nat} (h : t.Small N) (ha : t.Added z s id t') : t'.Small (N + 1) := by
  have up : ∀ p ∈ t.places, p.held ≤ N + 1 := fun p hp => Nat.le_succ_of_le (h.he p hp)
  have hpl := h.pl
  have hem := h.em
  rcases ha with ⟨_, _, rfl⟩ | ⟨_, i, n, hp, hn, _, rfl⟩ | ⟨_, _, _, rfl⟩
  · exact ⟨Nat.le_succ_of_le h.pl, Nat.succ_le_succ h.em, up⟩
  · refine ⟨?_, Nat.le_succ_of_le h.em, fun p hp' => ?_⟩
    · show (t.places.set i _).length ≤ _
      rw [List.length_set]; omega
    · rcases List.mem_or_eq_of_mem_set hp' with hp' | rfl
      · exact up p hp'
      · have := h.he _ (List.mem_of_getElem? hp)
        simp only at this ⊢
        omega
  · unfold Tab.put
    cases t.free.getLast? with
    | some i =>
      refine ⟨?_, Nat.le_succ_of_le h.em, fun p hp' => ?_⟩
      · show (t.places.set i _).length ≤ _
        rw [List.length_set]; omega
      · rcases List.mem_or_eq_of_mem_set hp' with hp' | rfl
        · exact up p hp'
        · simp
    | none =>
      refine ⟨?_, Nat.le_succ_of_le h.em, fun p hp' => ?_⟩
      · show (t.places ++ [_]).length ≤ _
        rw [List.length_append, List.length_singleton]; omega
      · rcases List.mem_append.1 hp' with hp' | hp'
        · exact up p hp'
        · rw [List.mem_singleton] at hp'; subst hp'; simp
theorem Tab.Small.release {α : Type} {t : Tab α} {z : α} {id : Int} {N : Nat} (h : t.Small N) : (t.release z id).Small N := by
  unfold Tab.release
  cases ha : t.ask z id with
  | none => exact h
  | some p =>
    dsimp only
    have hpl := h.pl
    have hem := h.em
    split
    · exact ⟨h.pl, by show t.empty - 1 ≤ N; omega, h.he⟩
    · rename_i h0
      split
      · refine ⟨by show (t.places.set _ _).length ≤ _; rw [List.length_set]; exact h.pl, h.em, fun q hq => ?_⟩
        rcases List.mem_or_eq_of_mem_set hq with hq | rfl
        · exact h.he q hq
        · simp
      · refine ⟨by show (t.places.set _ _).length ≤ _; rw [List.length_set]; exact h.pl, h.em, fun q hq => ?_⟩
        rcases List.mem_or_eq_of_mem_set hq with hq | rfl
        · exact h.he q hq
        · obtain ⟨i, _, hp, _⟩ := Tab.ask_pos ha h0
          have := h.he _ (List.mem_of_getElem? hp)
          simp only; omega
theorem Tab.Small.hold {α : Type} {t : Tab α} {z : α} {id : Int} {N : Nat} (h : t.Small N) : (t.hold z id).Small (N + 1) := by
  unfold Tab.hold
  have hpl := h.pl
  have hem := h.em
  cases ha : t.ask z id with
  | none => exact ⟨Nat.le_succ_of_le h.pl, Nat.le_succ_of_le h.em, fun p hp => Nat.le_succ_of_le (h.he p hp)⟩
  | some p =>
    dsimp only
    split
    · exact ⟨by show t.places.length ≤ _; omega, by show t.empty + 1 ≤ _; omega, fun p hp => Nat.le_succ_of_le (h.he p hp)⟩
    · rename_i h0
      refine ⟨by show (t.places.set _ _).length ≤ _; rw [List.length_set]; omega, by show t.empty ≤ _; omega, fun q hq => ?_⟩
      rcases List.mem_or_eq_of_mem_set hq with hq | rfl
      · exact Nat.le_succ_of_le (h.he q hq)
      · obtain ⟨i, _, hp, _⟩ := Tab.ask_pos ha h0
        have := h.he _ (List.mem_of_getElem? hp)
        simp only; omega
theorem Tab.Small.le {α : Type} {t : Tab α} {N N' : Nat} (h : t.Small N) (hn : N ≤ N') : t.Small N' := ⟨Nat.le_trans h.pl hn, Nat.le_trans h.em hn, fun p hp => Nat.le_trans (h.he p hp) hn⟩
/-- a set has an id -/
def Tab.Has {α : Type} (t : Tab α) (z s : α) (id : Int) (n : Nat) : Prop := t.ask z id = some ⟨s, n⟩ ∧ 0 < n ∧ (id = 0 ↔ s = z)
theorem Tab.Has.zero {α : Type} {t : Tab α} {z s : α} {n : Nat} (h : t.Has z s 0 n) : s = z ∧ t.empty = n := by
  have h1 := h.1
  unfold Tab.ask at h1
  rw [if_pos rfl] at h1
  cases h1
  exact ⟨rfl, rfl⟩
theorem Tab.Has.pos {α : Type} {t : Tab α} {z s : α} {id : Int} {n : Nat} (h : t.Has z s id n) (h0 : id ≠ 0) : ∃ i : Nat, id = (i : Int) + 1 ∧ t.places[i]? = some ⟨s, n⟩ := by
  obtain ⟨i, e, hp, _⟩ := Tab.ask_pos h.1 h0
  exact ⟨i, e, hp⟩
theorem Tab.Has.mkz {α : Type} {t : Tab α} {z : α} (h : 0 < t.empty) : t.Has z z 0 t.empty := ⟨by unfold Tab.ask; rw [if_pos rfl], h, by simp⟩
theorem Tab.Has.mkp {α : Type} {t : Tab α} {z s : α} {i n : Nat} (hs : s ≠ z) (hp : t.places[i]? = some ⟨s, n⟩) (hn : 0 < n) : t.Has z s ((i : Int) + 1) n := ⟨Tab.ask_at hp hn, hn, ⟨fun h => by omega, fun h => absurd h hs⟩⟩
/-- what was added is there -/
theorem Tab.Added.has {α : Type} {t t' : Tab α} {z x : α} {k : Int} {G : α → Prop} (h : t.Added z x k t') (hi : t.Inv G) (hg : x ≠ z → G x) : ∃ n, t'.Has z x k n := by
  rcases h with ⟨rfl, rfl, rfl⟩ | ⟨hz, i, n, hp, hn, rfl, rfl⟩ | ⟨hz, hno, rfl, rfl⟩
  · exact ⟨t.empty + 1, Tab.Has.mkz (t := { t with empty := t.empty + 1 }) (Nat.succ_pos _)⟩
  · have hlt := (List.getElem?_eq_some_iff.1 hp).1
    exact ⟨n + 1, Tab.Has.mkp hz (by show (t.places.set i _)[i]? = _; rw [List.getElem?_set_self hlt]) (Nat.succ_pos _)⟩
  · obtain ⟨_, h1, _⟩ := Tab.put_spec hi (hg hz) hno
    exact ⟨1, Tab.Has.mkp hz h1 Nat.one_pos⟩
/-- what adding keeps of a set that is there -/
theorem Tab.Added.keeps {α : Type} [DecidableEq α] {t t' : Tab α} {z x s : α} {k id : Int} {n : Nat} {G : α → Prop} (h : t.Added z x k t') (hi : t.Inv G) (hg : x ≠ z → G x) (hs : t.Has z s id n) : t'.Has z s id (if x = s then n + 1 else n) ∧ (x = s ↔ k = id) := by
  by_cases h0 : id = 0
  · subst h0
    obtain ⟨rfl, rfl⟩ := hs.zero
    rcases h with ⟨rfl, rfl, rfl⟩ | ⟨hz, i, n, hp, hn, rfl, rfl⟩ | ⟨hz, hno, rfl, rfl⟩
    · rw [if_pos rfl]
      exact ⟨Tab.Has.mkz (t := { t with empty := t.empty + 1 }) (Nat.succ_pos _), by simp⟩
    · rw [if_neg hz]
      exact ⟨Tab.Has.mkz (t := t.setP i _) hs.2.1, ⟨fun e => absurd e hz, fun e => by omega⟩⟩
    · rw [if_neg hz]
      obtain ⟨_, _, _, _, h4⟩ := Tab.put_spec hi (hg hz) hno
      refine ⟨?_, ⟨fun e => absurd e hz, fun e => by omega⟩⟩
      have := Tab.Has.mkz (t := (t.put x).2) (z := s) (by rw [h4]; exact hs.2.1)
      rwa [h4] at this
  · obtain ⟨j, rfl, hp⟩ := hs.pos h0
    have hsz : s ≠ z := fun e => h0 (hs.2.2.2 e)
    have hlt := (List.getElem?_eq_some_iff.1 hp).1
    rcases h with ⟨rfl, rfl, rfl⟩ | ⟨hz, i, m, hp', hm, rfl, rfl⟩ | ⟨hz, hno, rfl, rfl⟩
    · rw [if_neg (Ne.symm hsz)]
      exact ⟨Tab.Has.mkp (t := { t with empty := t.empty + 1 }) hsz hp hs.2.1, ⟨fun e => absurd e.symm hsz, fun e => by omega⟩⟩
    · by_cases e : x = s
      · subst e
        have hij := hi.uni i j _ _ hp' hp hm hs.2.1 rfl
        subst hij
        rw [hp] at hp'; cases hp'
        rw [if_pos rfl]
        exact ⟨Tab.Has.mkp hsz (by show (t.places.set i _)[i]? = _; rw [List.getElem?_set_self hlt]) (Nat.succ_pos _), by simp⟩
      · rw [if_neg e]
        have hij : i ≠ j := fun hij => by subst hij; rw [hp] at hp'; cases hp'; exact e rfl
        exact ⟨Tab.Has.mkp hsz (by show (t.places.set i _)[j]? = _; rw [List.getElem?_set_ne hij]; exact hp) hs.2.1, ⟨fun h => absurd h e, fun h => absurd (by omega) hij⟩⟩
    · have e : x ≠ s := fun e => hno j _ hp hs.2.1 e.symm
      rw [if_neg e]
      obtain ⟨_, _, h2, h3, _⟩ := Tab.put_spec hi (hg hz) hno
      have hij : j ≠ (t.put x).1 := fun hij => by
        have := h2 ⟨s, n⟩ (hij ▸ hp)
        have := hs.2.1
        simp only at *
        omega
      exact ⟨Tab.Has.mkp hsz ((h3 j hij).trans hp) hs.2.1, ⟨fun h => absurd h e, fun h => absurd (by omega) hij⟩⟩
/-- what freeing keeps -/
theorem Tab.Has.release {α : Type} {t : Tab α} {z s : α} {k id : Int} {n : Nat} (hs : t.Has z s id n) (hk : k ≠ id ∨ 1 < n) : (t.release z k).Has z s id (if k = id then n - 1 else n) := by
  by_cases e : k = id
  · subst e
    have hn : 1 < n := hk.resolve_left fun h => h rfl
    rw [if_pos rfl]
    unfold Tab.release
    rw [hs.1]
    dsimp only
    by_cases h0 : k = 0
    · subst h0
      obtain ⟨rfl, rfl⟩ := hs.zero
      rw [if_pos rfl]
      exact Tab.Has.mkz (t := { t with empty := t.empty - 1 }) (by show 0 < t.empty - 1; omega)
    · obtain ⟨j, rfl, hp⟩ := hs.pos h0
      have hlt := (List.getElem?_eq_some_iff.1 hp).1
      rw [if_neg h0, if_neg (by omega), show ((j : Int) + 1 - 1).toNat = j by omega]
      exact Tab.Has.mkp (fun e => h0 (hs.2.2.2 e)) (by show (t.places.set j _)[j]? = _; rw [List.getElem?_set_self hlt]) (by omega)
  · rw [if_neg e]
    unfold Tab.release
    cases ha : t.ask z k with
    | none => exact hs
    | some p =>
      dsimp only
      by_cases hk0 : k = 0
      · rw [if_pos hk0]
        have h0 : id ≠ 0 := fun h => e (by rw [hk0, h])
        obtain ⟨j, rfl, hp⟩ := hs.pos h0
        exact Tab.Has.mkp (t := { t with empty := t.empty - 1 }) (fun e => h0 (hs.2.2.2 e)) hp hs.2.1
      · rw [if_neg hk0]
        obtain ⟨i, rfl, hp, hp0⟩ := Tab.ask_pos ha hk0
        rw [show ((i : Int) + 1 - 1).toNat = i by omega]
        by_cases h0 : id = 0
        · subst h0
          obtain ⟨rfl, rfl⟩ := hs.zero
          split
          · exact Tab.Has.mkz (t := t.drop s i) hs.2.1
          · exact Tab.Has.mkz (t := t.setP i _) hs.2.1
        · obtain ⟨j, rfl, hpj⟩ := hs.pos h0
          have hij : i ≠ j := fun h => e (by rw [h])
          split
          · exact Tab.Has.mkp (fun e => h0 (hs.2.2.2 e)) (by show (t.places.set i _)[j]? = _; rw [List.getElem?_set_ne hij]; exact hpj) hs.2.1
          · exact Tab.Has.mkp (fun e => h0 (hs.2.2.2 e)) (by show (t.places.set i _)[j]? = _; rw [List.getElem?_set_ne hij]; exact hpj) hs.2.1
theorem Tab.Has.le {α : Type} {t : Tab α} {z s : α} {id : Int} {n N : Nat} (h : t.Has z s id n) (hs : t.Small N) : 0 ≤ id ∧ id ≤ N := by
  by_cases h0 : id = 0
  · omega
  · obtain ⟨j, rfl, hp⟩ := h.pos h0
    have := (List.getElem?_eq_some_iff.1 hp).1
    have := hs.pl
    omega
end Go.K

namespace Go.Proofs.YtmfplfaeibehiaaDoor
open Go Go.K

/-- a row of sets -/
def RSetV (S : Nat → Prop) : World → List Value → List Attr → Prop := fun w r x => ∃ sv, r = [sv] ∧ RSet S w sv x
theorem RSetV.mod {S M : Nat → Prop} {w w' : World} {r : List Value} {x : List Attr} (h : RSetV S w r x) (hm : Mod M w w') (hS : ∀ b, b < w.heap.size → S b → ¬ M b) : RSetV S w' r x := by
  obtain ⟨sv, e, hs⟩ := h
  exact ⟨sv, e, hs.mod hm hS (by decide) fun _ _ h => h⟩
theorem L.set {w0 W : World} {F : Nat → Prop} {b : Nat} {ks : List DKey} {t : Tab (List Attr)} {id : Int} (h : L w0 F W b ks t) (hs : t.places.length ≤ 1099511627776) (h0 : -9223372036854775808 ≤ id) (h1 : id ≤ 9223372036854775807) :
    callK Tryd.prog 30 [.pointer (some ⟨b, 0, none⟩), .int .i64 id] (fun v' w' => (match t.ask [] id with
      | some p => ∃ sv, v' = .tuple #[sv, .int .i64 0] ∧ OSet W.heap.size w' sv p.set
      | none => v' = .tuple #[.slice none 0 0, .int .i64 5]) ∧ Grow W w' ∧ L w0 F w' b ks t) W :=
  callK_mono (iset_ok h.tab hs h0 h1) fun _ _ h' => ⟨h'.2, h'.1, h.grow h'.1⟩
theorem heldS {ks : List DKey} {x : List Attr} (hI : ∀ a ∈ x, InA a) (h0 : maySet ks x = 0) : x ≠ [] → Held ks x := fun hx => ⟨hx, hI, h0⟩
/-- a set of the law's arguments lies in none of the table's blocks -/
theorem L.addArg {w0 W : World} {F S : Nat → Prop} {b : Nat} {ks : List DKey} {t : Tab (List Attr)} {v : Value} {x : List Attr} {N : Nat} (h : L w0 F W b ks t) (hs : t.Small N) (hN : N ≤ 1000) (hT : Tabs w0) (hv : RSet S w0 v x) (hI : ∀ a ∈ x, InA a) :
    callK Tryd.prog 27 [.pointer (some ⟨b, 0, none⟩), v] (fun v' w' => (maySet ks x ≠ 0 ∧ v' = .tuple #[.int .i64 0, .int .i64 (maySet ks x)] ∧ L w0 F w' b ks t) ∨
      (maySet ks x = 0 ∧ ∃ id t' F', v' = .tuple #[.int .i64 id, .int .i64 0] ∧ t.Added [] x id t' ∧ L w0 F' w' b ks t' ∧ t'.Small (N + 1))) W := by
  refine callK_mono (h.add (hs.le (by omega)) hT ((hv.old (by decide)).grow h.g (by decide) fun _ _ h => h) hI fun y hy hf => by have := (h.hF y hf).1; have := hy.2; omega) ?_
  rintro v' w' (⟨h1, h2, _, h3⟩ | ⟨h1, id, t', F', h2, h3, h4, _⟩)
  · exact .inl ⟨h1, h2, h3⟩
  · exact .inr ⟨h1, id, t', F', h2, h3, h4, hs.added h3⟩
set_option maxRecDepth 20000 in
theorem InternStays_ok {S1 S2 S3 S4 : Nat → Prop} {kv sv lv : Value} {keys : List DKey} {s : List Attr} {ls : List (List Attr)} {w : World} (hT : Tabs w) (hk : RKeys S1 w kv keys) (hs : RSet S2 w sv s) (hsI : ∀ a ∈ s, InA a) (hl : SlR S3 1 (RSetV S4) w lv ls) (hlI : ∀ x ∈ ls, ∀ a ∈ x, InA a) :
    callK Tryd.prog 8 [kv, sv, lv] (fun v w' => v = .bool true ∧ Grow w w') w := by
  classical
  apply S8_ok
  unfold S8
  have kn : ∀ {w1 : World}, Grow w w1 → callK Tryd.prog 24 [] (fun v w' => v = .bool true ∧ Grow w w') w1 := fun g => callK_mono (known07_ok (hT.grow g)) fun _ _ h => ⟨h.1, g.trans h.2⟩
  refine callK_mono (new_key_ok hk) ?_
  rintro _ w1 ⟨g1, hr⟩
  obtain ⟨sa, sc, rfl, _⟩ := hs.shape
  obtain ⟨la, lc, rfl, hlm⟩ := hl.shape
  rcases hr with ⟨hM, sch, ks, rfl, hp, hsr, hS⟩ | ⟨hn, rfl⟩
  rotate_left
  · refine extK_i (vs := [_, _]) (by rfl) (extK_i (vs := [_, _]) (by rfl) ?_)
    refine JoinK_i (fun _ _ => False) (fun _ _ h => h.elim) ?_
    rw [neK_i]
    exact condK_neg (fun e => by cases e) fun _ => kn g1
  refine extK_i (vs := [_, _]) (by rfl) (extK_i (vs := [_, _]) (by rfl) ?_)
  refine JoinK_i (fun _ W => W = w1 ∧ ls.length ≤ 60) ?_ ?_
  rotate_left
  · rw [neK_i]
    refine condK_neg (fun _ => ?_) fun e => (e rfl).elim
    rw [lenK_i, gtK_i]
    refine condK_p (fun _ => kn g1) fun h60 => ?_
    rw [lenK_i, gtK_i]
    exact condK_p (fun _ => kn g1) fun h70 => ⟨rfl, by omega⟩
  rintro _ _ ⟨rfl, hl60⟩ _
  rename World => w1
  refine callK_mono (L.new hS (fun x _ hx => hx) g1) ?_
  rintro _ w3 ⟨b, F3, rfl, hL3, _⟩
  refine pnilK_s (condK_f ?_)
  refine callK_mono (hL3.addArg (N := 0) ⟨by simp [Tab.z], by simp [Tab.z], by simp [Tab.z]⟩ (by omega) hT hs hsI) ?_
  rintro v4 w4 (⟨h1, rfl, hL4⟩ | ⟨hm0, id, t4, F4, rfl, ha4, hL4, hsm4⟩)
  · refine extK_i (vs := [_, _]) (by rfl) (extK_i (vs := [_, _]) (by rfl) ?_)
    rw [neK_i]
    exact condK_neg (fun e => absurd e h1) fun _ => kn hL4.g
  obtain ⟨n4, hhas4⟩ := ha4.has (Tab.Inv.z _) (heldS hsI hm0)
  refine extK_i (vs := [_, _]) (by rfl) (extK_i (vs := [_, _]) (by rfl) ?_)
  rw [neK_i]
  refine condK_neg (fun _ => ?_) fun e => (e rfl).elim
  rw [lenK_i]
  clear ha4
  refine LoopK_i (fun vs W => ∃ (i n : Nat) (t : Tab (List Attr)) (F : Nat → Prop), i ≤ ls.length ∧ vs = [.int .i64 i] ∧ L w F W b ks t ∧ t.Small (i + 1) ∧ t.Has [] s id n) (fun vs _ => ls.length - iOf vs 0) ⟨0, n4, t4, F4, Nat.zero_le _, rfl, hL4, hsm4, hhas4⟩ ?_
  rintro vs W ⟨i, n, t, F, hi, rfl, hL, hsm, hhas⟩ _
  rw [nth_z, List.headD_cons, ltK_i]
  refine condK_p (fun hlt => ?_) fun hge => ?_
  · have hlt' : i < ls.length := by omega
    refine JoinK_i (fun _ W' => ∃ (n : Nat) (t : Tab (List Attr)) (F : Nat → Prop), L w F W' b ks t ∧ t.Small (i + 2) ∧ t.Has [] s id n) ?_ ?_
    · rintro _ W' ⟨n', t', F', hL', hsm', hhas'⟩ _
      rw [addK_i, loop_step (by omega)]
      exact ⟨⟨i + 1, n', t', F', hlt', rfl, hL', hsm', hhas'⟩, by rw [iOf0, iOf0]; omega⟩
    obtain ⟨p, r, rfl, _, hr, hc, hre⟩ := hl.get hlt'
    obtain ⟨xv, rfl, hx⟩ := hre
    obtain ⟨xa, xc, rfl, _⟩ := hx.shape
    have hxI := hlI ls[i] (List.getElem_mem hlt')
    generalize ls[i] = x at hx hxI hc
    refine ixK_n hlt' (ld1K_i (hL.g.cell (hc 0 _ rfl) fun h => h) ?_)
    rw [lenK_i, gtK_i]
    refine condK_p (fun _ => ⟨n, t, F, hL, hsm.le (by omega), hhas⟩) fun h70 => ?_
    -- what stands behind the round
    have fin : ∀ {W2 : World} {t2 : Tab (List Attr)} {F2 : Nat → Prop} {n2 : Nat}, L w F2 W2 b ks t2 → t2.Small (i + 2) → t2.Has [] s id n2 →
        callK Tryd.prog 30 [.pointer (some ⟨b, 0, none⟩), .int .i64 id] (fun t83 w11 =>
          extK 0 t83 fun t84 =>
          extK 1 t83 fun t85 =>
          neK .i64 t85 (.int .i64 0) fun t87 =>
          condK t87
          ((Value.bool false) = .bool true ∧ Grow w w11)
          (callK Tryd.prog 31 [t84, .slice sa s.length sc] (fun t91 w12 =>
          notK t91 fun t92 =>
          condK t92
          ((Value.bool false) = .bool true ∧ Grow w w12)
          (callK Tryd.prog 32 [.pointer (some ⟨b, 0, none⟩), .int .i64 id] (fun t97 w13 =>
          ltK .i64 t97 (.int .i64 1) fun t98 =>
          condK t98
          ((Value.bool false) = .bool true ∧ Grow w w13)
          ((fun _ W' => ∃ (n : Nat) (t : Tab (List Attr)) (F : Nat → Prop), L w F W' b ks t ∧ t.Small (i + 2) ∧ t.Has [] s id n) ([] : List Value) w13)) w12)) w11)) W2 := by
      intro W2 t2 F2 n2 hL2 hsm2 hhas2
      have hid := hhas2.le hsm2
      refine callK_mono (hL2.set (by have := hsm2.pl; omega) (by omega) (by omega)) ?_
      rintro v5 W5 ⟨hm5, g5, hL5⟩
      rw [hhas2.1] at hm5
      obtain ⟨yv, rfl, oy⟩ := hm5
      refine extK_i (vs := [_, _]) (by rfl) (extK_i (vs := [_, _]) (by rfl) ?_)
      rw [neK_i]
      refine condK_neg (fun _ => ?_) fun e => (e rfl).elim
      refine callK_mono (rsame_set oy.sl (hs.grow hL5.g (by decide) fun _ _ h => h)) ?_
      rintro _ W6 ⟨rfl, g6⟩
      rw [decide_eq_true rfl, notK_i]
      refine condK_f ?_
      refine callK_mono ((hL5.grow g6).held (by have := hsm2.pl; omega) (by omega) (by omega)) ?_
      rintro _ W7 ⟨rfl, g7, hL7⟩
      rw [hhas2.1, ltK_i]
      refine condK_p (fun hlt1 => ?_) fun _ => ⟨n2, t2, F2, hL7, hsm2, hhas2⟩
      have := hhas2.2.1
      simp only [Option.elim] at hlt1
      omega
    refine callK_mono (hL.addArg hsm (by omega) hT hx hxI) ?_
    rintro v5 W5 (⟨h1, rfl, hL5⟩ | ⟨hm5, k, t5, F5, rfl, ha5, hL5, hsm5⟩)
    · refine extK_i (vs := [_, _]) (by rfl) (extK_i (vs := [_, _]) (by rfl) ?_)
      refine JoinK_i (fun _ W' => W' = W5) ?_ ?_
      · rintro _ _ rfl _
        exact fin hL5 (hsm.le (by omega)) hhas
      · rw [eqK_i]
        exact condK_p (fun e => absurd e h1) fun _ => rfl
    · refine extK_i (vs := [_, _]) (by rfl) (extK_i (vs := [_, _]) (by rfl) ?_)
      obtain ⟨hk1, hk2⟩ := ha5.keeps hL.inv (heldS hxI hm5) hhas
      refine JoinK_i (fun _ W' => ∃ (n : Nat) (t : Tab (List Attr)) (F : Nat → Prop), L w F W' b ks t ∧ t.Small (i + 2) ∧ t.Has [] s id n) ?_ ?_
      · rintro _ W' ⟨n', t', F', hL', hsm', hhas'⟩ _
        exact fin hL' hsm' hhas'
      · rw [eqK_i]
        refine condK_p (fun _ => ?_) fun e => (e rfl).elim
        refine rem_i (by decide) ?_
        rw [eqK_i]
        refine condK_p (fun _ => ?_) fun _ => ⟨_, t5, F5, hL5, hsm5, hk1⟩
        obtain ⟨m, hxh⟩ := ha5.has hL.inv (heldS hxI hm5)
        have hkr := hxh.le hsm5
        refine callK_mono (hL5.free (id := k) (hsm5.le (by omega)) (by omega) (by omega)) ?_
        rintro _ W6 ⟨rfl, F6, hL6, _, _⟩
        rw [hxh.1, neK_i]
        refine condK_neg (fun _ => ?_) fun e => (e rfl).elim
        have hn := hhas.2.1
        refine ⟨_, _, F6, hL6, hsm5.release, hk1.release ?_⟩
        by_cases e : x = s
        · right; rw [if_pos e]; omega
        · left; exact fun h => e (hk2.2 h)
  · refine callK_mono (hL.addArg (hsm.le (show i + 1 ≤ 100 by omega)) (by omega) hT hs hsI) ?_
    rintro v5 W5 (⟨h1, rfl, hL5⟩ | ⟨_, k, t5, F5, rfl, ha5, hL5, _⟩)
    · exact absurd hm0 h1
    obtain ⟨_, hk2⟩ := ha5.keeps hL.inv (heldS hsI hm0) hhas
    refine extK_i (vs := [_, _]) (by rfl) (extK_i (vs := [_, _]) (by rfl) ?_)
    rw [eqK_i]
    refine condK_p (fun _ => ?_) fun e => (e rfl).elim
    rw [eqK_i]
    exact condK_p (fun _ => kn hL5.g) fun e => (e (hk2.1 rfl)).elim
end Go.Proofs.YtmfplfaeibehiaaDoor

namespace Go.K
open Go
theorem SlR.strip {α : Type} {S : Nat → Prop} {k : Nat} {R : World → List Value → α → Prop} {P : α → Prop} {w : World} {v : Value} {l : List α} (h : SlR S k (fun w r x => R w r x ∧ P x) w v l) : SlR S k R w v l ∧ ∀ x ∈ l, P x := by
  obtain ⟨a, c, e, h1, h2, h3⟩ := h
  refine ⟨⟨a, c, e, h1, h2, fun i x hx => ?_⟩, fun x hx => ?_⟩
  · obtain ⟨p, r, q1, q2, q3, q4, q5⟩ := h3 i x hx
    exact ⟨p, r, q1, q2, q3, q4, q5.1⟩
  · obtain ⟨i, hi⟩ := List.mem_iff_getElem?.1 hx
    obtain ⟨_, _, _, _, _, _, q5⟩ := h3 i x hi
    exact q5.2
end Go.K
namespace Go.Proofs.YtmfplfaeibehiaaDoor
open Go Go.K
open Go.ChangeShapes Go.WideShapes Go.ChangeAt Go.RowKit Go.Joins
variable {H : Type} {enc : TypeId × Value → H} {w : World} {base : Nat} {spare : Nat → Bool} {held : Bool}
theorem attr_of_trodR {n : Nat} {cs : List Value} {y : DataW H × List MemPlace} (h : DataW.trod enc Tryd.prog w base spare held n 56 cs = some y) : ∃ x : Attr, cs = x.cells ∧ InA x := by
  have c0 : Tryd.prog.cellsOf 56 = 5 := by kernel_rfl
  have c1 : Tryd.prog.cellsOf 3 = 1 := by kernel_rfl
  have c2 : Tryd.prog.cellsOf 30 = 4 := by kernel_rfl
  obtain ⟨y0, y1, m, _, hl, h0, h1⟩ := trod_struct2 Tryd.underlying56 h
  rw [c0] at hl
  simp only [c1, c2] at h0 h1
  match cs, hl with
  | [a0, a1, a2, a3, a4], _ =>
    simp only [List.drop_zero, List.take_succ_cons, List.take_zero, List.drop_succ_cons] at h0 h1
    obtain ⟨k, e0, _, w0⟩ := DataW.trod_int Tryd.underlying3 h0
    obtain ⟨x, ex, hx⟩ := val_of_trodR h1
    cases e0
    have r0 := wf_range w0
    have m1 : IntKind.i64.min = -9223372036854775808 ∧ IntKind.i64.max = 9223372036854775807 := by decide
    rw [m1.1, m1.2] at r0
    refine ⟨⟨k, x⟩, ?_, r0, hx⟩
    show _ = Value.int .i64 k :: x.cells
    rw [← ex]
theorem set_of_trodR {n : Nat} {cs : List Value} {y : DataW H × List MemPlace} (h : DataW.trod enc Tryd.prog w base spare held n 53 cs = some y) : ∃ v l, cs = [v] ∧ (RSet (fun _ => True) w v l ∧ ∀ a ∈ l, InA a) := by
  obtain ⟨v, l, e, hl⟩ := SlR.of_trod (k := 5) (R := fun (w : World) r (x : Attr) => r = x.cells ∧ InA x) Tryd.underlying53 (by kernel_rfl) (fun _ _ _ h => attr_of_trodR h) h
  exact ⟨v, l, e, hl.strip⟩
theorem sets_of_trodR {n : Nat} {cs : List Value} {y : DataW H × List MemPlace} (h : DataW.trod enc Tryd.prog w base spare held n 62 cs = some y) : ∃ v l, cs = [v] ∧ (SlR (fun _ => True) 1 (RSetV fun _ => True) w v l ∧ ∀ x ∈ l, ∀ a ∈ x, InA a) := by
  obtain ⟨v, l, e, hl⟩ := SlR.of_trod (k := 1) (R := fun (w : World) r (x : List Attr) => RSetV (fun _ => True) w r x ∧ ∀ a ∈ x, InA a) Tryd.underlying62 (by kernel_rfl) (fun _ _ _ h => by
    obtain ⟨v, l, e, h1, h2⟩ := set_of_trodR h
    exact ⟨l, ⟨v, e, h1⟩, h2⟩) h
  exact ⟨v, l, e, hl.strip⟩
end Go.Proofs.YtmfplfaeibehiaaDoor

namespace Go.Proofs.YtmfplfaeibehiaaDoor
open Go Go.K
open Go.ChangeShapes Go.WideShapes Go.ChangeAt Go.RowKit
set_option linter.unusedVariables false

theorem ownK : ownKnob Tryd.prog.godebug = none := by kernel_rfl
theorem laidOut : laidOutB Tryd.prog = true := by kernel_rfl

set_option maxRecDepth 100000 in
theorem InternNone_lifted (os : Os) (started : os.Started) (H : Type) (enc : TypeId × Value → H) :
    ReturnsInHanded {} Tryd.checked os 11 .any (fun w args => (Rows.internNoneSpec.pre enc Tryd.prog Tryd.f11 [] false w args ∧ laidMetH Tryd.prog Rows.internNoneRow.laid w) ∧ sizedMet enc Tryd.prog Tryd.f11 (OpenSpec.ofChange Rows.internNoneSpec) false w args)
      (Rows.internNoneSpec.post enc Tryd.prog Tryd.f11 false true false false) := by
  refine returnsInHanded_of_change_and (C := Tryd.checked) (X := fun w _ => laidMetH Tryd.prog Rows.internNoneRow.laid w) (fun _ _ _ hh h => h.of_heap hh) ownK started (by kernel_rfl) Tryd.func11
    (ChangeSpec.witness_at (enc := enc) (C := Tryd.checked) (os := os) (X := fun w _ => laidMetH Tryd.prog Rows.internNoneRow.laid w) false (laidWorld os) #[.int .i64 0, .slice none 0 0] 8 rfl (by kernel_rfl) (by kernel_rfl) (by kernel_rfl) (by kernel_rfl) (by kernel_rfl) (laidWorld_met os _)) ?_
  intro W base args ds gs before hval0 hW _ _ hL _
  have hW' := hW
  obtain ⟨p, q, hA0, hV, rfl, hfz, hnd⟩ := hW
  have hA : DataW.TrodAll enc Tryd.prog W 0 (fun _ => true) true Tryd.f11.params.toList args.toList ds p := hA0
  have hval : ∀ (j : Nat) t v, Tryd.f11.params[j]? = some t → args[j]? = some v → Value.okWide Tryd.prog W .any base t v := hval0
  rw [Tryd.params11] at hA hval
  have htab : Tabs W := tabs_of_laid hL
  obtain ⟨v0, vs0, d0, ds0, p0, q0, hargs, rfl, rfl, h0, r0⟩ := trodAll_cons hA
  obtain ⟨v1, vs1, d1, ds1, p1, q1, rfl, rfl, rfl, h1, r1⟩ := trodAll_cons r0
  obtain ⟨rfl, rfl, rfl⟩ := trodAll_nil r1
  obtain rfl : args = #[v0, v1] := by cases args; simp_all
  obtain ⟨rfl, rfl⟩ := trodVars_none hV
  obtain ⟨x0, rfl, rfl, rfl, w0⟩ := open_int Tryd.underlying3 (hval 0 3 v0 rfl rfl) h0
  have lt1 : ∀ x ∈ p1, x.block < W.heap.size := by obtain ⟨m, hm⟩ := h1; exact DataW.trod_lt m _ _ _ hm
  obtain ⟨fuel1, hf1⟩ := id h1
  obtain ⟨u1, l1, e1, s1⟩ := set_of_trodR hf1
  obtain ⟨a1, n1, c1, rfl⟩ := okWide_slice Tryd.underlying53 (hval 1 53 v1 rfl rfl)
  simp only [Value.cells, List.cons.injEq, and_true] at e1
  subst e1
  clear hA0 hval0
  refine (InternNone_ok htab s1.1).mono fun e W' ⟨v, he, hv, hg⟩ => ?_
  subst he; subst hv
  have bel : Below W.heap.size W W' := Mod.below hg (Nat.le_refl _) fun _ h => h.elim
  exact ⟨_, rfl, _, _, _, [], _, [], hW', trodAll_mk1 (shut_bool Tryd.underlying4 _), (trodAll_cons_mk (shut_int Tryd.underlying3 w0) (trodAll_cons_mk (Below.trod laidOut (by kernel_rfl) (of_decide_eq_true (by kernel_rfl)) h1 bel lt1) trodAll_mk0)), rfl, bel.frame _, fun h => by cases h⟩
/-- the row -/
theorem InternNone_said : Rows.InternNoneSaid :=
  OpenClaim.holds_of_wide 11 Tryd.f11 rfl rfl rfl rfl rfl rfl rfl ⟨rfl, rfl, rfl, rfl, rfl⟩ rfl rfl rfl rfl rfl (by kernel_rfl) Tryd.func11 (by kernel_rfl)
    (of_decide_eq_true (by kernel_rfl)) (by unfold Func.isWrapper; first | (rw [if_pos (by decide +kernel)]; kernel_rfl) | (rw [if_neg (by decide +kernel)]; exact ⟨rfl, rfl⟩))
    (fun os started H enc _ => InternNone_lifted os started H enc)
/-- the statement: the tied card -/
theorem InternNone_proved : Rows.InternNoneCardSaid :=
  Claim7.holds_tied_plain_at .later [] [.data, .pinned] true Rows.internNoneCard.stood.harness false
    InternNone_said (fun _ h => by cases h) (by kernel_rfl) (fun _ h => by cases h) internNone_row_tie rfl ⟨rfl, rfl⟩ (by kernel_rfl) rfl
    (fun f fn hf hfn => by
      obtain rfl : f = 11 := Option.some.inj ((show Tryd.prog.funcNamed "rubric/rubriclaw07.InternNone" = some 11 by kernel_rfl).symm.trans hf) |>.symm
      obtain rfl : fn = Tryd.f11 := (Option.some.inj (Tryd.func11.symm.trans hfn)).symm
      exact ⟨by kernel_rfl, fun j t ht => by
        rw [Tryd.params11] at ht
        have hm : t ∈ [3, 53] := by simpa using Array.mem_of_getElem? ht
        have hall : ([3, 53].all fun u => !Tryd.prog.wantsStandIn u) = true := by kernel_rfl
        exact (show Tryd.prog.wantsStandIn t = false by simpa using List.all_eq_true.1 hall t hm)⟩)
    (by kernel_rfl)
#print axioms InternNone_proved
end Go.Proofs.YtmfplfaeibehiaaDoor
