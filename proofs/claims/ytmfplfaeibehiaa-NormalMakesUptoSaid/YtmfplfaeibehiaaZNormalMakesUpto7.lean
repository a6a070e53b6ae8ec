/- NormalMakes: for every input of bulk at most 1048576 the law returns true, and each argument reads behind the call as it read before. Condition: the bulk. -/
import Derived.Test.YtmfplfaeibehiaaZNormalMakesUpto6
import Derived.ProofKit
import Derived.Lib.SmallJoins
import Derived.Deep.Slices
import Derived.Test.YtmfplfaeibehiaaRows
import Derived.WalkKit
import Derived.OpenShut
import Derived.ShutString
import Derived.ChangeOld
import Derived.JoinedCond
namespace Go.Proofs.Ytmfplfaeibehiaa
open Go Go.K

/-- the loop that counts up all runes, keys and numbers of a delta of one's own -/
theorem inc_all2 {B E gB c : Nat} {a : Option Addr} {W : World} {l : List Dop} {rs ss ps : Nat → Value} {Rest : World → Prop} (h : 0 < l.length → a = some ⟨gB, 0, none⟩ ∧ WOps B E gB W l rs ss ps) (hl : mDops l ≤ 1099511627776) (hR : ∀ W', Mod (fun b => B ≤ b ∧ b < E) W W' → Rest W') :
    LoopK [(.int .i64 0)] (fun vs_4 again_1 w16 => ∀ _h_4 : Env,
      ltK .i64 (nth vs_4 0) (.int .i64 l.length) fun t159 => condK t159
      (ixK 5 (.slice a l.length c) (nth vs_4 0) fun t163 => faK 2 t163 fun t164 => ld1K t164 (fun t165 w17 => lenK t165 fun t166 =>
      LoopK [(.int .i64 0)] (fun vs_5 again_2 w18 => ∀ _h_5 : Env, ltK .i64 (nth vs_5 0) t166 fun t168 => condK t168
      (ixK 5 (.slice a l.length c) (nth vs_4 0) fun t172 => faK 2 t172 fun t173 => ld1K t173 (fun t174 w19 => ixK 1 t174 (nth vs_5 0) fun t176 => ld1K t176 (fun t177 w20 => addK .i32 t177 (.int .i32 1) fun t178 => ixK 1 t174 (nth vs_5 0) fun t179 => st1K t179 t178 (fun w21 => addK .i64 (nth vs_5 0) (.int .i64 1) fun t180 => again_2 [t180] w21) w20) w19) w18)
      (ixK 5 (.slice a l.length c) (nth vs_4 0) fun t183 => faK 4 t183 fun t184 => ld1K t184 (fun t185 w22 => lenK t185 fun t186 =>
      LoopK [(.int .i64 0)] (fun vs_6 again_3 w23 => ∀ _h_6 : Env, ltK .i64 (nth vs_6 0) t186 fun t188 => condK t188
      (ixK 5 (.slice a l.length c) (nth vs_4 0) fun t192 => faK 4 t192 fun t193 => ld1K t193 (fun t194 w24 => ixK 6 t194 (nth vs_6 0) fun t196 => faK 0 t196 fun t197 => ld1K t197 (fun t198 w25 => addK .i64 t198 (.int .i64 1) fun t199 => ixK 6 t194 (nth vs_6 0) fun t200 => faK 0 t200 fun t201 => st1K t201 t199 (fun w26 => addK .i64 (nth vs_6 0) (.int .i64 1) fun t202 => again_3 [t202] w26) w25) w24) w23)
      (ixK 5 (.slice a l.length c) (nth vs_4 0) fun t205 => faK 3 t205 fun t206 => ld1K t206 (fun t207 w27 => lenK t207 fun t208 =>
      LoopK [(.int .i64 0)] (fun vs_7 again_4 w28 => ∀ _h_7 : Env, ltK .i64 (nth vs_7 0) t208 fun t210 => condK t210
      (ixK 5 (.slice a l.length c) (nth vs_4 0) fun t214 => faK 3 t214 fun t215 => ld1K t215 (fun t216 w29 => ixK 5 t216 (nth vs_7 0) fun t218 => faK 0 t218 fun t219 => ld1K t219 (fun t220 w30 => addK .i64 t220 (.int .i64 1) fun t221 => ixK 5 t216 (nth vs_7 0) fun t222 => faK 0 t222 fun t223 => st1K t223 t221 (fun w31 => addK .i64 (nth vs_7 0) (.int .i64 1) fun t224 => again_4 [t224] w31) w30) w29) w28)
      (ixK 5 (.slice a l.length c) (nth vs_4 0) fun t227 => faK 1 t227 fun t228 => ld1K t228 (fun t229 w32 => addK .i64 t229 (.int .i64 1) fun t230 => ixK 5 (.slice a l.length c) (nth vs_4 0) fun t231 => faK 1 t231 fun t232 => st1K t232 t230 (fun w33 => addK .i64 (nth vs_4 0) (.int .i64 1) fun t233 => again_1 [t233] w33) w32) w28)) w27) w23)) w22) w18)) w17) w16)
      (Rest w16)) W := by
  have hll := mDops_len l
  refine LoopK_i (fun vs w1 => ∃ i : Nat, i ≤ l.length ∧ vs = [.int .i64 i] ∧ (0 < l.length → a = some ⟨gB, 0, none⟩ ∧ WOps B E gB w1 l rs ss ps) ∧ Mod (fun b => B ≤ b ∧ b < E) W w1) (fun vs _ => l.length - iOf vs 0) ⟨0, Nat.zero_le _, rfl, h, Mod.refl _ _⟩ ?_
  rintro vs w1 ⟨i, hi, rfl, hw, hm⟩ _
  rw [nth_z, List.headD_cons, ltK_i]
  refine condK_p (fun hlt => ?_) fun _ => hR w1 hm
  have hlt' : i < l.length := by omega
  obtain ⟨ea, hwo⟩ := hw (by omega)
  subst ea
  clear hw h
  have ho : mDop l[i] ≤ mDops l := mDops_mem (by simp)
  simp only [mDop, mSet_eq, mPat_eq] at ho
  have hJ : WJ B E gB W l rs ss ps w1 := ⟨hwo, hm⟩
  refine ixK_n hlt' ?_
  rw [faK_i, Addr.add_add, addr0]
  refine ld1K_i (hwo.cr i hlt') ?_
  obtain ⟨a1, c1, e1, _⟩ := (hwo.op i hlt').r
  rw [e1, lenK_i]
  refine inc_loop0 (J := WJ B E gB W l rs ss ps) hJ hlt' (by omega) ⟨_, _, e1⟩ (fun W' h => h.1.cr i hlt') (fun W' h k hk => h.lr hlt' hk) fun w2 hJ2 => ?_
  refine ixK_n hlt' ?_
  rw [faK_i, Addr.add_add, addr0]
  refine ld1K_i (hJ2.1.cp i hlt') ?_
  obtain ⟨a3, c3, e3, _⟩ := (hwo.op i hlt').p
  rw [e3, lenK_i]
  refine inc_loop1 (J := WJ B E gB W l rs ss ps) hJ2 hlt' (by omega) ⟨_, _, e3⟩ (fun W' h => h.1.cp i hlt') (fun W' h k hk => h.lp hlt' hk) fun w3 hJ3 => ?_
  refine ixK_n hlt' ?_
  rw [faK_i, Addr.add_add, addr0]
  refine ld1K_i (hJ3.1.cs i hlt') ?_
  obtain ⟨a2, c2, e2, _⟩ := (hwo.op i hlt').s
  rw [e2, lenK_i]
  refine inc_loop1 (J := WJ B E gB W l rs ss ps) hJ3 hlt' (by omega) ⟨_, _, e2⟩ (fun W' h => h.1.cs i hlt') (fun W' h k hk => h.ls hlt' hk) fun w4 hJ4 => ?_
  refine ixK_n hlt' ?_
  rw [faK_i, Addr.add_add, addr0]
  obtain ⟨y, hy⟩ := hJ4.1.n i hlt'
  refine ld1K_i hy ?_
  rw [addK_i]
  refine ixK_n hlt' ?_
  rw [faK_i, Addr.add_add, addr0]
  refine (hJ4.1.ty.live hy).st rfl rfl ?_
  rw [addK_i, loop_step (by omega)]
  exact ⟨⟨i + 1, hlt', rfl, fun _ => ⟨rfl, hJ4.1.setN _⟩, hJ4.2.trans (Mod.setCell _ _ _ ⟨hJ4.1.lo, hJ4.1.hi⟩)⟩, by rw [iOf0, iOf0]; omega⟩
theorem rof_take (x : List Dop) (h : ∀ o ∈ x, Form1 o) (i : Nat) : opsS (runS (x.take i)) = rof (x.take i) := norm_eq _ fun o ho => h o (List.mem_of_mem_take ho)
/-- what may be written of an op's lists that stand in a box, and where a box lies apart -/
def PJ (B E b9 : Nat) (W0 : World) (o : Dop) (rv sv pv : Value) (W : World) : Prop := WOp B E b9 W o rv sv pv ∧ Mod (fun b => (B ≤ b ∧ b < E) ∧ b ≠ b9) W0 W
theorem PJ.r {B E b9 : Nat} {W0 W : World} {o : Dop} {rv sv pv : Value} (h : PJ B E b9 W0 o rv sv pv W) {k : Nat} (hk : k < o.runes.length) (y : Int) :
    ∃ g cc, rv = .slice (some ⟨g, 0, none⟩) o.runes.length cc ∧ Live W ⟨g, k * 1, none⟩ ∧ PJ B E b9 W0 o rv sv pv (W.setCell ⟨g, k * 1, none⟩ (.int .i32 y)) := by
  obtain ⟨a, c, e, hh⟩ := h.1.r
  obtain ⟨g, rfl, h2, h3, h4, h5, x, h6⟩ := hh k hk
  exact ⟨g, c, e, h5.live h6, h.1.set h5 (fun _ => ⟨y, rfl⟩) (fun e => absurd e (by decide)) (fun e => absurd e (by decide)), h.2.trans (Mod.setCell _ _ _ ⟨⟨h3, h4⟩, h2⟩)⟩
theorem PJ.s {B E b9 : Nat} {W0 W : World} {o : Dop} {rv sv pv : Value} (h : PJ B E b9 W0 o rv sv pv W) {k : Nat} (hk : k < o.set.length) (y : Int) :
    ∃ g cc, sv = .slice (some ⟨g, 0, none⟩) o.set.length cc ∧ Live W ⟨g, k * 5, none⟩ ∧ PJ B E b9 W0 o rv sv pv (W.setCell ⟨g, k * 5, none⟩ (.int .i64 y)) := by
  obtain ⟨a, c, e, hh⟩ := h.1.s
  obtain ⟨g, rfl, h2, h3, h4, h5, x, h6⟩ := hh k hk
  exact ⟨g, c, e, h5.live h6, h.1.set h5 (fun e => absurd e (by decide)) (fun _ => ⟨y, rfl⟩) (fun e => absurd e (by decide)), h.2.trans (Mod.setCell _ _ _ ⟨⟨h3, h4⟩, h2⟩)⟩
theorem PJ.p {B E b9 : Nat} {W0 W : World} {o : Dop} {rv sv pv : Value} (h : PJ B E b9 W0 o rv sv pv W) {k : Nat} (hk : k < o.patch.length) (y : Int) :
    ∃ g cc, pv = .slice (some ⟨g, 0, none⟩) o.patch.length cc ∧ Live W ⟨g, k * 6, none⟩ ∧ PJ B E b9 W0 o rv sv pv (W.setCell ⟨g, k * 6, none⟩ (.int .i64 y)) := by
  obtain ⟨a, c, e, hh⟩ := h.1.p
  obtain ⟨g, rfl, h2, h3, h4, h5, x, h6⟩ := hh k hk
  exact ⟨g, c, e, h5.live h6, h.1.set h5 (fun e => absurd e (by decide)) (fun e => absurd e (by decide)) (fun _ => ⟨y, rfl⟩), h.2.trans (Mod.setCell _ _ _ ⟨⟨h3, h4⟩, h2⟩)⟩
theorem WOp.mod {B E gB : Nat} {M : Nat → Prop} {W W' : World} {o : Dop} {rv sv pv : Value} (h : WOp B E gB W o rv sv pv) (hm : Mod M W W') (hM : ∀ b, B ≤ b → b < E → ¬ M b) : WOp B E gB W' o rv sv pv := ⟨h.r.mod hm hM, h.s.mod hm hM, h.p.mod hm hM⟩
theorem WL.weak {B B' E E' gB gB' ty sz n : Nat} {q : IntKind} {W : World} {v : Value} (h : WL B E gB ty sz q W v n) (hh : ∀ g, g ≠ gB → B ≤ g → g < E → g ≠ gB' ∧ B' ≤ g ∧ g < E') : WL B' E' gB' ty sz q W v n := by
  obtain ⟨a, c, rfl, h⟩ := h
  refine ⟨a, c, rfl, fun k hk => ?_⟩
  obtain ⟨g', h1, h2, h3, h4, h5, h6⟩ := h k hk
  obtain ⟨k1, k2, k3⟩ := hh g' h2 h3 h4
  exact ⟨g', h1, k1, k2, k3, h5, h6⟩
theorem WOp.weak {B B' E E' gB gB' : Nat} {W : World} {o : Dop} {rv sv pv : Value} (h : WOp B E gB W o rv sv pv) (hh : ∀ g, g ≠ gB → B ≤ g → g < E → g ≠ gB' ∧ B' ≤ g ∧ g < E') : WOp B' E' gB' W o rv sv pv := ⟨WL.weak h.r hh, WL.weak h.s hh, WL.weak h.p hh⟩
theorem insS_nil (s : MkS) (set : List Attr) : insS s [] set = s := if_pos rfl
theorem retS_nil (s : MkS) (p : List Chg) : retS s 0 p = s := if_pos (by decide)
theorem delS_nil (x : List Dop) : delS (runS x) (-1) = runS x := by
  have e : maxI (-1) 0 = 0 := by decide
  unfold delS
  rw [e, Int.add_zero, gone_wr]
theorem mk_zero {z : Nat} {w : World} (hc : ∀ j v, [Value.slice none 0 0, .slice none 0 0, .int .i64 0][j]? = some v → w.cell? ((⟨z, 0, none⟩ : Addr).add j) = some v) (hl : ∀ j, j < 3 → Live w ((⟨z, 0, none⟩ : Addr).add j)) : MkI (fun x => x = z) w z MkS.z := by
  have a0 : ∀ j, (⟨z, 0, none⟩ : Addr).add j = ⟨z, j, none⟩ := fun j => addr0 z j
  exact ⟨_, _, fun _ => False, none, by rw [← a0]; exact hc 0 _ rfl, by rw [← a0]; exact hc 1 _ rfl, by rw [← a0]; exact hc 2 _ rfl, fun q hq => by rw [← a0]; exact hl q hq, rfl, fun h => h, fun _ h => h.elim, OwnR.nil, fun g hg => (nomatch hg), .inl ⟨rfl, rfl, rfl⟩⟩
open Classical in
theorem NormalMakes_ok {S S' D : Nat → Prop} {kv v : Value} {keys : List DKey} {x : List Dop} {w : World} (hk : RKeys S w kv keys) (h : RDops S' D w v x) (hb : mDops x ≤ 1048576) :
    callK Try.prog 9 [kv, v] (fun v w' => v = .bool true ∧ Grow w w') w := by
  apply S9_ok
  unfold S9
  have kn : ∀ {w1}, Grow w w1 → callK Try.prog 35 [] (fun v w' => v = .bool true ∧ Grow w w') w1 := fun hg => callK_mono known16_ok fun v w' ⟨e, h⟩ => ⟨e, hg.trans h⟩
  refine JoinK_i (fun vs w1 => Grow w w1 ∧ TameX keys x ∧ x.length ≤ 60) ?_ ?_
  rotate_left
  · obtain ⟨pa, pc, rfl, _⟩ := h.shape
    refine callK_mono (tamex_ok hk h (by omega)) ?_
    rintro v2 w2 ⟨rfl, g2⟩
    rw [notK_i]
    refine condK_neg (fun ht => ?_) fun ht => kn g2
    rw [lenK_i, gtK_i]
    exact condK_p (fun _ => kn g2) fun hl => ⟨g2, ht, by omega⟩
  rintro vs w1 ⟨g1, ht, h60⟩ _
  have hf := ht.form1
  have hl := ht.len
  have hm : mDops x ≤ 20000 := ht.2.1
  have hold := h.old
  obtain ⟨a, c, rfl, hmx⟩ := h.shape
  refine callK_mono new_ok ?_
  rintro vm w2 ⟨g2, b, hb1, hb2, rfl, hM⟩
  refine newz_i fun z w3 hz hz3 g3 hc3 hl3 => ?_
  have z1 := g1.size
  have z2 := g2.size
  have g03 := (g1.trans g2).trans g3
  have hT0 : Two (fun y => w.heap.size ≤ y) w3 b z MkS.z MkS.z := ⟨_, _, hM.mod g3 fun _ _ h => h, mk_zero hc3 hl3, fun y e1 e2 => by omega, fun y e => ⟨by omega, by omega⟩, fun y e => ⟨by omega, by omega⟩⟩
  clear hM hc3 hl3
  rw [lenK_i]
  refine LoopK_i (fun vs W => ∃ k : Nat, k ≤ x.length ∧ vs = [.int .i64 k] ∧ Grow w W ∧ Two (fun y => w.heap.size ≤ y) W b z (runS (x.take k)) (runS (x.take k))) (fun vs _ => x.length - iOf vs 0) ⟨0, Nat.zero_le _, rfl, g03, hT0⟩ ?_
  rintro vs W ⟨k, hk', rfl, gW, hT⟩ _
  clear hT0
  have hmk := runS_m (x.take k)
  have hmk2 := mDops_le x k
  have hdl := mDops_len (runS (x.take k)).done
  have hil := mDops_len (runS (x.take k)).ins
  have zW := gW.size
  rw [nth_z, List.headD_cons, ltK_i]
  refine condK_p (fun hlt => ?_) fun hge => ?_
  · have hlt' : k < x.length := by omega
    have hmo : mDop x[k] ≤ mDops x := mDops_mem (by simp)
    have hmk3 := runS_m (x.take (k + 1))
    have hmk4 := mDops_le x (k + 1)
    rw [addK_i, wrap64 (by omega) (by omega), show ((k : Int) + 1) = ((k + 1 : Nat) : Int) by omega]
    refine slice_lh (t := 50) (e := 59) (k := 5) (i := Try.t59) (by kernel_rfl) (by kernel_rfl) (by kernel_rfl) (RDops.grow hold gW) (by omega) (by omega) fun v' hv => ?_
    have e1 : (x.take (k + 1)).drop k = [x[k]] := by
      rw [List.take_add_one, List.getElem?_eq_getElem hlt', Option.toList_some, List.drop_append_of_le_length (by simp; omega)]
      simp
    rw [e1] at hv
    refine callK_mono (rcopy_dops hv (by rw [mDops_one]; omega)) ?_
    rintro v5 w5 ⟨o5, g5⟩
    have estep : runS (x.take (k + 1)) = stepS (runS (x.take k)) x[k] := by
      rw [List.take_add_one, List.getElem?_eq_getElem hlt']; simp only [runS, Option.toList, List.foldl_append, List.foldl_cons, List.foldl_nil]
    generalize hs : runS (x.take k) = s at hT hmk hdl hil estep
    generalize x[k] = o at o5 hmo estep
    have z5 := g5.size
    obtain ⟨a5, c5, rfl, _⟩ := OwnR.shape o5
    obtain ⟨p, r, rfl, _, hr, hc, hop⟩ := (OwnR.sl o5).get (i := 0) (by simp)
    replace hop : ODop _ w5 r o := hop
    refine ixK_n (j := 0) (by simp) ?_
    refine ldnK_i hr (fun j u hu => by rw [Addr.add_add]; exact hc j u hu) ?_
    refine newst_n (vs := r) hr rfl hop.one fun b9 w6 hb9 hz6 g6 hc6 _ => ?_
    have hrd : RDop (fun y => W.heap.size ≤ y ∧ y < w5.heap.size) w6 r o := hop.rd.mod g6 (fun _ _ _ h => h) fun y hy hd => ⟨hd.1, hy⟩
    obtain ⟨rv, sv, pv, rfl, hw5⟩ := hop.wop (B := W.heap.size) (gB := p.block) fun y hy => ⟨fun e => hy.2 (by rw [e]; rfl), hy.1⟩
    have hP : WOp W.heap.size w5.heap.size b9 w6 o rv sv pv := (hw5.weak fun g _ h1 h2 => ⟨by omega, h1, h2⟩).mod g6 fun _ _ _ h => h
    obtain ⟨_, _, _, e, q1, q2, q3⟩ := hrd
    simp only [List.cons.injEq, and_true, true_and] at e
    obtain ⟨rfl, rfl, rfl⟩ := e
    have hc6' : ∀ {W' : World} {M : Nat → Prop}, Mod M w6 W' → ¬ M b9 → ∀ j u, [Value.int .u8 o.kind, .int .i64 o.n, rv, sv, pv][j]? = some u → W'.cell? ⟨b9, j, none⟩ = some u := fun hm hn j u hu => by rw [← addr0]; exact hm.cell (hc6 j u hu) fun e => hn (by rw [add_block] at e; exact e)
    let G : Nat → Prop := fun y => (w.heap.size ≤ y ∧ y < W.heap.size) ∨ w6.heap.size ≤ y
    have hT6 : Two G w6 b z s s := ((hT.sub (G' := fun y => w.heap.size ≤ y ∧ y < W.heap.size) fun y hy hg => ⟨hg, hy⟩).mod (g5.trans g6) fun _ _ _ h => h).sub fun y _ hy => .inl hy
    have hG6 : ∀ {W' : World}, w6.heap.size ≤ W'.heap.size → ∀ y, W'.heap.size ≤ y → G y := fun h1 y h2 => .inr (by omega)
    have nb9 : ¬ G b9 := by rintro (⟨_, e⟩ | e) <;> omega
    have nS : ∀ y, W.heap.size ≤ y ∧ y < w5.heap.size → ¬ G y := by rintro y ⟨e1, e2⟩ (⟨_, e⟩ | e) <;> omega
    have mW6 : Mod (fun y => w.heap.size ≤ y) W w6 := Grow.mod (g5.trans g6)
    have MG : ∀ {A B : World}, Mod (fun y => G y ∧ y < A.heap.size) A B → Mod G A B := fun hm => hm.mono fun _ _ h => h.1
    have GW : ∀ {A B : World}, Mod G A B → Mod (fun y => w.heap.size ≤ y) A B := fun hm => hm.mono fun y _ h => by rcases h with e | e <;> omega
    have ss : o.runes.length ≤ 20000 ∧ o.set.length ≤ 20000 ∧ o.patch.length ≤ 20000 := by
      simp only [mDop, mSet_eq, mPat_eq] at hmo
      omega
    have si : ∀ o' ∈ s.ins, (o'.runes.length + o.runes.length) * 4 ≤ 140737488355328 := fun o' ho => by have := mDops_mem ho; simp only [mDop] at this; omega
    refine JoinK_i (fun _ W' => Grow w W' ∧ Two (fun y => w.heap.size ≤ y) W' b z (runS (x.take (k + 1))) (runS (x.take (k + 1)))) ?_ ?_
    · -- behind the op: what changes nothing; the forms
      rintro _ w7 ⟨g7, hT7⟩ _
      have r1 := retS_nil (runS (x.take (k + 1))) []
      have r2 := insS_nil (runS (x.take (k + 1))) []
      have r3 := delS_nil (x.take (k + 1))
      have eN := rof_take x hf (k + 1)
      generalize hs' : runS (x.take (k + 1)) = s' at hT7 hmk3 r1 r2 r3 eN
      have hdl' := mDops_len s'.done
      have hil' := mDops_len s'.ins
      have z7 := g7.size
      refine callK_mono (Two.call (s' := s') hT7 (fun y hy => by omega) fun F hF _ => ?_) ?_
      · refine callK_mono (retain_ok (S := fun _ => False) hF SlR.nil (fun _ h => h.elim) (by omega) (by simp)) fun _ w' ⟨h1, h2⟩ => ⟨by rw [r1] at h1; exact h1, h2⟩
      rintro _ w8 ⟨hT8, m8⟩
      have g8 : Grow w w8 := g7.next m8 fun y hy e => by omega
      have z8 := g8.size
      refine callK_mono (Two.call (s' := s') hT8 (fun y hy => by omega) fun F hF _ => ?_) ?_
      · refine callK_mono (insert_ok (S := fun _ => False) (rs := []) (set := []) hF SlR.nil SlR.nil (fun _ h => h.elim) (by omega) (fun o' ho => by have := mDops_mem ho; simp only [mDop] at this; simp only [List.length_nil]; omega) (by simp) (by simp)) fun _ w' ⟨h1, h2⟩ => ⟨by rw [r2] at h1; exact h1, h2⟩
      rintro _ w9 ⟨hT9, m9⟩
      have g9 : Grow w w9 := g8.next m9 fun y hy e => by omega
      have z9 := g9.size
      refine callK_mono (Two.call (s' := s') hT9 (fun y hy => by omega) fun F hF _ => ?_) ?_
      · refine callK_mono (delete_ok hF) fun _ w' ⟨h1, h2⟩ => ⟨by rw [r3] at h1; exact h1.sub fun _ h => .inl h, h2⟩
      rintro _ w10 ⟨hT10, m10⟩
      have g10 : Grow w w10 := g9.next m10 fun y hy e => by omega
      have z10 := g10.size
      obtain ⟨Fm, Fz, k1, k2, k3, k4, k5⟩ := hT10
      refine callK_mono (ops_ok k1 (by omega)) ?_
      rintro v11 w11 ⟨o11, g11⟩
      have z11 := g11.size
      have hmN : mDops (opsS s') ≤ 1099511627776 := by
        have h2 := gapL_m s'.ins s'.gone
        have h3 := mDops_sub (l := s'.done ++ gapL s'.ins s'.gone)
        rw [mDops_app] at h3
        unfold opsS
        omega
      obtain ⟨ga, gc, rfl, hwr⟩ := o11.wr
      refine JoinK_i (fun _ W' => Grow w11 W') ?_ ?_
      · rintro _ w12 g12 _
        have hJ : ∃ gB rs ss ps, 0 < (opsS s').length → ga = some ⟨gB, 0, none⟩ ∧ WOps w10.heap.size w11.heap.size gB w12 (opsS s') rs ss ps := by
          by_cases h0 : 0 < (opsS s').length
          · obtain ⟨gB, rs, ss, ps, e, hw⟩ := hwr h0
            exact ⟨gB, rs, ss, ps, fun _ => ⟨e, hw.mod g12 fun _ _ _ h => h⟩⟩
          · exact ⟨0, fun _ => .bool true, fun _ => .bool true, fun _ => .bool true, fun h => (h0 h).elim⟩
        obtain ⟨gB, rs', ss', ps', hw⟩ := hJ
        rw [lenK_i]
        refine inc_all2 hw hmN fun w13 m13 => ?_
        have m1013 : Mod (fun y => w10.heap.size ≤ y) w10 w13 := (Grow.mod (g11.trans g12)).trans (m13.mono fun y _ e => e.1)
        have z13 := m1013.size
        rw [addK_i, loop_step (by omega)]
        exact ⟨⟨k + 1, hlt', rfl, g10.next m1013 fun y hy e => by omega, (by rw [hs']; exact Two.mod ⟨Fm, Fz, k1, k2, k3, k4, k5⟩ m1013 fun y hy _ e => by omega)⟩, by rw [iOf0, iOf0]; omega⟩
      · rw [addK_i, wrap64 (by omega) (by omega), show ((k : Int) + 1) = ((k + 1 : Nat) : Int) by omega]
        have g011 := g10.trans g11
        refine slice_hi (e := 59) (i := Try.t59) (by kernel_rfl) (by kernel_rfl) (by kernel_rfl) (RDops.grow hold g011) hlt' fun v12 hv12 => ?_
        refine callK_mono (rof_ok hv12 (by omega)) ?_
        rintro v13 w13 ⟨o13, g13⟩
        refine callK_mono (rsame_dops (RDops.grow (ODops.reads o11) g13) (ODops.reads o13)) ?_
        rintro _ w14 ⟨rfl, g14⟩
        rw [decide_eq_true eN, notK_i, Bool.not_true, condK_b, if_neg (by decide)]
        have g1114 := g13.trans g14
        refine callK_mono (ops_ok (k2.mod (g11.trans g1114) fun _ _ h => h) (by omega)) ?_
        rintro v15 w15 ⟨o15, g15⟩
        refine callK_mono (rsame_dops (ODops.reads o15) (RDops.grow (ODops.reads o11) (g1114.trans g15))) ?_
        rintro _ w16 ⟨rfl, g16⟩
        rw [decide_eq_true rfl, notK_i, Bool.not_true, condK_b, if_neg (by decide)]
        refine callK_mono ops_nil ?_
        rintro _ _ ⟨rfl, rfl⟩
        rw [lenK_i, neK_i]
        refine condK_neg (fun _ => ?_) fun hne => (hne rfl).elim
        exact (g1114.trans g15).trans g16
    · rw [faK_i, addr0]
      refine ld1K_i (hc6' (Mod.refl G _) nb9 0 _ rfl) ?_
      rw [eqK_i]
      have fin : ∀ {w8 w9 : World} {s' : MkS}, Two G w8 b z s' s' → Mod G w6 w8 → PJ W.heap.size w5.heap.size b9 w8 o rv sv pv w9 → runS (x.take (k + 1)) = s' → Grow w w9 ∧ Two (fun y => w.heap.size ≤ y) w9 b z (runS (x.take (k + 1))) (runS (x.take (k + 1))) := by
        intro w8 w9 s' t8 m8 j9 e
        refine ⟨gW.next ((mW6.trans (GW m8)).trans (j9.2.mono fun y _ e => by omega)) fun y hy e => by omega, ?_⟩
        rw [e]
        exact (t8.mod j9.2 fun y _ hg he => nS y ⟨he.1.1, he.1.2⟩ hg).sub fun y _ hg => by rcases hg with e | e <;> omega
      have pj : ∀ {w8 : World}, Mod G w6 w8 → PJ W.heap.size w5.heap.size b9 w8 o rv sv pv w8 := fun m8 => ⟨hP.mod m8 fun y h1 h2 => nS y ⟨h1, h2⟩, Mod.refl _ _⟩
      have cell : ∀ {w8 w9 : World}, Mod G w6 w8 → PJ W.heap.size w5.heap.size b9 w8 o rv sv pv w9 → ∀ j u, [Value.int .u8 o.kind, .int .i64 o.n, rv, sv, pv][j]? = some u → w9.cell? ⟨b9, j, none⟩ = some u := fun m8 j9 j u hu => j9.2.cell (hc6' m8 nb9 j u hu) fun e => e.2 rfl
      refine condK_p (fun k1 => ?_) fun k1 => ?_
      · rw [faK_i, addr0]
        refine ld1K_i (hc6' (Mod.refl G _) nb9 1 _ rfl) ?_
        rw [faK_i, addr0]
        refine ld1K_i (hc6' (Mod.refl G _) nb9 4 _ rfl) ?_
        refine callK_mono (Two.call (s' := retS s o.n o.patch) hT6 (hG6 (Nat.le_refl _)) fun F hF hFG => retain_ok hF q3 (fun y hy hf => nS y hy (hFG y hf).1) (by omega) (by omega)) ?_
        rintro _ w7 ⟨hT7, m7'⟩
        have m7 := MG m7'
        have z7 := m7.size
        rw [faK_i, addr0]
        refine ld1K_i (hc6' m7 nb9 1 _ rfl) ?_
        rw [faK_i, addr0]
        refine ld1K_i (hc6' m7 nb9 4 _ rfl) ?_
        have q3' := q3.mod m7 (fun y _ hy => nS y hy) (by decide) fun _ _ h => h
        refine callK_mono (Two.call (s' := retS s o.n o.patch) hT7.symm (hG6 (by omega)) fun F hF hFG => retain_ok hF q3' (fun y hy hf => nS y hy (hFG y hf).1) (by omega) (by omega)) ?_
        rintro _ w8 ⟨hT8, m8'⟩
        have m8 := m7.trans (MG m8')
        rw [faK_i, addr0]
        refine ld1K_i (hc6' m8 nb9 1 _ rfl) ?_
        rw [faK_i, addr0]
        refine ld1K_i (hc6' m8 nb9 4 _ rfl) ?_
        refine callK_mono retain_nil ?_
        rintro _ _ rfl
        rename World => w8
        rw [faK_i, addr0]
        refine ld1K_i (hc6' m8 nb9 4 _ rfl) ?_
        obtain ⟨pa, pc, epv, _⟩ := q3.shape
        rw [epv, lenK_i]
        refine put_loop1 (J := PJ W.heap.size w5.heap.size b9 w8 o rv sv pv) (pj m8) (by omega) rfl rfl (fun W' hj => cell m8 hj 4 _ rfl) (fun W' hj k hk => hj.p hk _) fun w9 j9 => ?_
        exact fin hT8.symm m8 j9 (by rw [estep, stepS, if_pos k1])
      · rw [eqK_i]
        refine condK_p (fun k2 => ?_) fun k2 => ?_
        · rw [faK_i, addr0]
          refine ld1K_i (hc6' (Mod.refl G _) nb9 2 _ rfl) ?_
          rw [faK_i, addr0]
          refine ld1K_i (hc6' (Mod.refl G _) nb9 3 _ rfl) ?_
          refine callK_mono (Two.call (s' := insS s o.runes o.set) hT6 (hG6 (Nat.le_refl _)) fun F hF hFG => insert_ok hF q1 q2 (fun y hy hf => nS y hy (hFG y hf).1) (by omega) si (by omega) (by omega)) ?_
          rintro _ w7 ⟨hT7, m7'⟩
          have m7 := MG m7'
          have z7 := m7.size
          rw [faK_i, addr0]
          refine ld1K_i (hc6' m7 nb9 2 _ rfl) ?_
          rw [faK_i, addr0]
          refine ld1K_i (hc6' m7 nb9 3 _ rfl) ?_
          have q1' := q1.mod m7 (fun y _ hy => nS y hy) (by decide) fun _ _ h => h
          have q2' := q2.mod m7 (fun y _ hy => nS y hy) (by decide) fun _ _ h => h
          refine callK_mono (Two.call (s' := insS s o.runes o.set) hT7.symm (hG6 (by omega)) fun F hF hFG => insert_ok hF q1' q2' (fun y hy hf => nS y hy (hFG y hf).1) (by omega) si (by omega) (by omega)) ?_
          rintro _ w8 ⟨hT8, m8'⟩
          have m8 := m7.trans (MG m8')
          rw [faK_i, addr0]
          refine ld1K_i (hc6' m8 nb9 2 _ rfl) ?_
          rw [faK_i, addr0]
          refine ld1K_i (hc6' m8 nb9 3 _ rfl) ?_
          refine callK_mono insert_nil ?_
          rintro _ _ rfl
          rename World => w8
          rw [faK_i, addr0]
          refine ld1K_i (hc6' m8 nb9 2 _ rfl) ?_
          obtain ⟨ra, rc, erv, _⟩ := q1.shape
          obtain ⟨sa, sc, esv, _⟩ := q2.shape
          rw [erv, lenK_i]
          refine put_loop0 (J := PJ W.heap.size w5.heap.size b9 w8 o rv sv pv) (pj m8) (by omega) rfl rfl (fun W' hj => cell m8 hj 2 _ rfl) (fun W' hj k hk => hj.r hk _) fun w9 j9 => ?_
          rw [faK_i, addr0]
          refine ld1K_i (cell m8 j9 3 _ rfl) ?_
          rw [esv, lenK_i]
          refine put_loop1 (J := PJ W.heap.size w5.heap.size b9 w8 o rv sv pv) j9 (by omega) rfl rfl (fun W' hj => cell m8 hj 3 _ rfl) (fun W' hj k hk => hj.s hk _) fun w10 j10 => ?_
          exact fin hT8.symm m8 j10 (by rw [estep, stepS, if_neg k1, if_pos k2])
        · rw [faK_i, addr0]
          refine ld1K_i (hc6' (Mod.refl G _) nb9 1 _ rfl) ?_
          refine callK_mono (Two.call (s' := delS s o.n) hT6 (hG6 (Nat.le_refl _)) fun F hF hFG => callK_mono (delete_ok hF) fun _ w' ⟨h1, h2⟩ => ⟨h1.sub fun _ h => .inl h, h2⟩) ?_
          rintro _ w7 ⟨hT7, m7'⟩
          have m7 := MG m7'
          have z7 := m7.size
          rw [faK_i, addr0]
          refine ld1K_i (hc6' m7 nb9 1 _ rfl) ?_
          refine callK_mono (Two.call (s' := delS s o.n) hT7.symm (hG6 (by omega)) fun F hF hFG => callK_mono (delete_ok hF) fun _ w' ⟨h1, h2⟩ => ⟨h1.sub fun _ h => .inl h, h2⟩) ?_
          rintro _ w8 ⟨hT8, m8'⟩
          have m8 := m7.trans (MG m8')
          rw [faK_i, addr0]
          refine ld1K_i (hc6' m8 nb9 1 _ rfl) ?_
          refine callK_mono delete_nil ?_
          rintro _ _ rfl
          exact fin hT8.symm m8 (pj m8) (by rw [estep, stepS, if_neg k1, if_neg k2])
  · have hke : k = x.length := by omega
    subst hke
    rw [List.take_length] at hT hmk
    obtain ⟨Fm, Fz, k1, _⟩ := hT
    refine callK_mono (ops_ok k1 (by omega)) ?_
    rintro v4 w4 ⟨o4, g4⟩
    refine callK_mono (rof_ok (RDops.grow h (gW.trans g4)) (by omega)) ?_
    rintro v5 w5 ⟨o5, g5⟩
    refine callK_mono (rsame_dops (RDops.grow (ODops.reads o4) g5) (ODops.reads o5)) ?_
    rintro _ w6 ⟨rfl, g6⟩
    have eN : opsS (runS x) = rof x := norm_eq x hf
    rw [decide_eq_true eN, condK_b, if_pos rfl]
    exact kn (((gW.trans g4).trans g5).trans g6)
end Go.Proofs.Ytmfplfaeibehiaa

namespace Go.K
open Go
variable {H : Type} {enc : TypeId × Value → H} {P : Program} {w : World} {base : Nat} {spare : Nat → Bool} {held : Bool}
theorem SlR.of_trod {α : Type} {t e k : Nat} {R : World → List Value → α → Prop} {fuel : Nat} {cs : List Value} {x : DataW H × List MemPlace} (ht : P.underlying t = some (.slice e)) (hk : P.cellsOf e = k)
    (hel : ∀ n cs' y, DataW.trod enc P w base spare held n e cs' = some y → ∃ x, R w cs' x) (h : DataW.trod enc P w base spare held fuel t cs = some x) :
    ∃ v l, cs = [v] ∧ SlR (fun _ => True) k R w v l := by
  rcases Go.Deep.open_slice ht h with ⟨rfl, _⟩ | ⟨a, len, cap, m, n, D, Pl, rfl, hb, hl, hm, hmm, _, hall⟩
  · exact ⟨_, [], rfl, SlR.nil⟩
  · have hlm : len ≤ m := by rw [hmm]; split <;> omega
    have one : ∀ i, i < len → ∃ (cs' : List Value) (x : α), cs'.length = k ∧ (∀ j u, cs'[j]? = some u → w.cell? (a.add (i * k + j)) = some u) ∧ R w cs' x := by
      intro i hi
      obtain ⟨cs', h1, h2⟩ := hall i (by omega)
      obtain ⟨x, hx⟩ := hel n cs' _ h2
      obtain ⟨_, hlen, hc⟩ := World.cells?_some h1
      rw [hk] at hlen hc
      refine ⟨cs', x, hlen, fun j u hu => ?_, hx⟩
      have hj : j < k := by rw [← hlen]; exact (List.getElem?_eq_some_iff.1 hu).1
      have := hc j hj
      rw [Addr.add_add] at this
      rw [this]; exact hu
    have build : ∀ q, q ≤ len → ∃ l : List α, l.length = q ∧ ∀ i x, l[i]? = some x → ∃ cs' : List Value, cs'.length = k ∧ (∀ j u, cs'[j]? = some u → w.cell? (a.add (i * k + j)) = some u) ∧ R w cs' x := by
      intro q
      induction q with
      | zero => exact fun _ => ⟨[], rfl, fun i x h => by simp at h⟩
      | succ q ih =>
        intro hq
        obtain ⟨l, h1, h2⟩ := ih (by omega)
        obtain ⟨cs', x, h3, h4, h5⟩ := one q (by omega)
        refine ⟨l ++ [x], by simp [h1], fun i y hy => ?_⟩
        by_cases hi : i < q
        · rw [List.getElem?_append_left (by omega)] at hy; exact h2 i y hy
        · have : i = q := by have := (List.getElem?_eq_some_iff.1 hy).1; simp [h1] at this; omega
          subst this
          rw [List.getElem?_append_right (by omega)] at hy
          simp [h1] at hy; subst hy
          exact ⟨cs', h3, h4, h5⟩
    obtain ⟨l, h1, h2⟩ := build len (Nat.le_refl _)
    subst h1
    refine ⟨_, l, rfl, a, cap, rfl, hl, hm, fun i x hx => ?_⟩
    obtain ⟨cs', h3, h4, h5⟩ := h2 i x hx
    exact ⟨a, cs', rfl, trivial, h3, h4, h5⟩
end Go.K
namespace Go.Proofs.Ytmfplfaeibehiaa
open Go Go.K
open Go.ChangeShapes Go.Joins
variable {H : Type} {enc : TypeId × Value → H} {w : World} {base : Nat} {spare : Nat → Bool} {held : Bool}
theorem attr_of_trod {n : Nat} {cs : List Value} {y : DataW H × List MemPlace} (h : DataW.trod enc Try.prog w base spare held n 46 cs = some y) : ∃ x : Attr, cs = x.cells := by
  have c0 : Try.prog.cellsOf 46 = 5 := by kernel_rfl
  have c1 : Try.prog.cellsOf 3 = 1 := by kernel_rfl
  have c2 : Try.prog.cellsOf 44 = 4 := by kernel_rfl
  have c3 : Try.prog.cellsOf 5 = 1 := by kernel_rfl
  have c4 : Try.prog.cellsOf 2 = 1 := by kernel_rfl
  have c5 : Try.prog.cellsOf 42 = 1 := by kernel_rfl
  have c6 : Try.prog.cellsOf 9 = 1 := by kernel_rfl
  obtain ⟨y0, y1, m, _, hl, h0, h1⟩ := trod_struct2 Try.underlying46 h
  rw [c0] at hl
  simp only [c1, c2] at h0 h1
  match cs, hl with
  | [a0, a1, a2, a3, a4], _ =>
    simp only [List.drop_zero, List.take_succ_cons, List.take_zero, List.drop_succ_cons] at h0 h1
    obtain ⟨k, e0, _, _⟩ := DataW.trod_int Try.underlying3 h0
    obtain ⟨z0, z1, z2, z3, m', _, _, g0, g1, g2, g3⟩ := trod_struct4 Try.underlying44 h1
    simp only [c3, c4, c5, c6, List.drop_zero, List.take_succ_cons, List.take_zero, List.drop_succ_cons] at g0 g1 g2 g3
    obtain ⟨k0, f0, _, _⟩ := DataW.trod_int Try.underlying5 g0
    obtain ⟨k1, f1, _, _⟩ := DataW.trod_int Try.underlying2 g1
    obtain ⟨k2, f2, _, _⟩ := DataW.trod_int Try.underlying42 g2
    obtain ⟨k3, f3, _, _⟩ := DataW.trod_string Try.underlying9 g3
    cases e0; cases f0; cases f1; cases f2; cases f3
    exact ⟨⟨k, ⟨k0, k1, k2, k3⟩⟩, rfl⟩
theorem set_of_trod {n : Nat} {cs : List Value} {y : DataW H × List MemPlace} (h : DataW.trod enc Try.prog w base spare held n 24 cs = some y) : ∃ v l, cs = [v] ∧ RSet (fun _ => True) w v l :=
  SlR.of_trod Try.underlying24 (by kernel_rfl) (fun _ _ _ h => attr_of_trod h) h
theorem blk_of_trod {n : Nat} {cs : List Value} {y : DataW H × List MemPlace} (h : DataW.trod enc Try.prog w base spare held n 34 cs = some y) : ∃ x : Blk, RBlk (fun _ => True) w cs x := by
  have c0 : Try.prog.cellsOf 34 = 2 := by kernel_rfl
  have c1 : Try.prog.cellsOf 3 = 1 := by kernel_rfl
  have c2 : Try.prog.cellsOf 24 = 1 := by kernel_rfl
  obtain ⟨y0, y1, m, _, hl, h0, h1⟩ := trod_struct2 Try.underlying34 h
  rw [c0] at hl
  simp only [c1, c2] at h0 h1
  match cs, hl with
  | [a0, a1], _ =>
    simp only [List.drop_zero, List.take_succ_cons, List.take_zero, List.drop_succ_cons] at h0 h1
    obtain ⟨k, e0, _, _⟩ := DataW.trod_int Try.underlying3 h0
    obtain ⟨v, l, e1, hs⟩ := set_of_trod h1
    cases e0; cases e1
    exact ⟨⟨k, l⟩, _, rfl, hs⟩
theorem blks_of_trod {n : Nat} {cs : List Value} {y : DataW H × List MemPlace} (h : DataW.trod enc Try.prog w base spare held n 27 cs = some y) : ∃ v l, cs = [v] ∧ RBlks (fun _ => True) (fun _ => True) w v l :=
  SlR.of_trod Try.underlying27 (by kernel_rfl) (fun _ _ _ h => blk_of_trod h) h
theorem cel_of_trod {n : Nat} {cs : List Value} {y : DataW H × List MemPlace} (h : DataW.trod enc Try.prog w base spare held n 26 cs = some y) : ∃ x : Cel, RCel (fun _ => True) w cs x := by
  have c0 : Try.prog.cellsOf 26 = 2 := by kernel_rfl
  have c1 : Try.prog.cellsOf 21 = 1 := by kernel_rfl
  have c2 : Try.prog.cellsOf 24 = 1 := by kernel_rfl
  obtain ⟨y0, y1, m, _, hl, h0, h1⟩ := trod_struct2 Try.underlying26 h
  rw [c0] at hl
  simp only [c1, c2] at h0 h1
  match cs, hl with
  | [a0, a1], _ =>
    simp only [List.drop_zero, List.take_succ_cons, List.take_zero, List.drop_succ_cons] at h0 h1
    obtain ⟨k, e0, _, _⟩ := DataW.trod_int Try.underlying21 h0
    obtain ⟨v, l, e1, hs⟩ := set_of_trod h1
    cases e0; cases e1
    exact ⟨⟨k, l⟩, _, rfl, hs⟩
theorem cels_of_trod {n : Nat} {cs : List Value} {y : DataW H × List MemPlace} (h : DataW.trod enc Try.prog w base spare held n 22 cs = some y) : ∃ v l, cs = [v] ∧ RCels (fun _ => True) (fun _ => True) w v l :=
  SlR.of_trod Try.underlying22 (by kernel_rfl) (fun _ _ _ h => cel_of_trod h) h
end Go.Proofs.Ytmfplfaeibehiaa

namespace Go.Proofs.Ytmfplfaeibehiaa
open Go Go.K
open Go.ChangeShapes Go.Joins
variable {H : Type} {enc : TypeId × Value → H} {w : World} {base : Nat} {spare : Nat → Bool} {held : Bool}
theorem len4 {α : Type} {l : List α} (h : l.length = 4) : ∃ a b c d, l = [a, b, c, d] := by
  match l, h with | [a, b, c, d], _ => exact ⟨a, b, c, d, rfl⟩
theorem len5 {α : Type} {l : List α} (h : l.length = 5) : ∃ a b c d e, l = [a, b, c, d, e] := by
  match l, h with | [a, b, c, d, e], _ => exact ⟨a, b, c, d, e, rfl⟩
theorem len6 {α : Type} {l : List α} (h : l.length = 6) : ∃ a b c d e f, l = [a, b, c, d, e, f] := by
  match l, h with | [a, b, c, d, e, f], _ => exact ⟨a, b, c, d, e, f, rfl⟩
theorem bulk_app (l m : List (DataW H)) : Rows.uptoBulkAll (l ++ m) = Rows.uptoBulkAll l + Rows.uptoBulkAll m := by
  induction l with
  | nil => simp [Rows.uptoBulkAll]
  | cons d l ih => simp only [List.cons_append, Rows.uptoBulkAll, ih]; omega
theorem SlR.of_trodU {α : Type} {t e k : Nat} {R : World → List Value → α → Prop} {μ : α → Nat} {fuel : Nat} {cs : List Value} {x : DataW H × List MemPlace} (ht : Try.prog.underlying t = some (.slice e)) (hk : Try.prog.cellsOf e = k)
    (hel : ∀ n cs' y, DataW.trod enc Try.prog w base spare held n e cs' = some y → ∃ x, R w cs' x ∧ μ x ≤ Rows.uptoBulk y.1) (h : DataW.trod enc Try.prog w base spare held fuel t cs = some x) :
    ∃ v l, cs = [v] ∧ SlR (fun _ => True) k R w v l ∧ (l.map μ).sum + 1 ≤ Rows.uptoBulk x.1 := by
  rcases Go.Deep.open_slice ht h with ⟨rfl, rfl⟩ | ⟨a, len, cap, m, n, D, Pl, rfl, hb, hl, hm, hmm, rfl, hall⟩
  · exact ⟨_, [], rfl, SlR.nil, by simp [Rows.uptoBulk]⟩
  · have hlm : len ≤ m := by rw [hmm]; split <;> omega
    have one : ∀ i, i < len → ∃ (cs' : List Value) (x : α), cs'.length = k ∧ (∀ j u, cs'[j]? = some u → w.cell? (a.add (i * k + j)) = some u) ∧ R w cs' x ∧ μ x ≤ Rows.uptoBulk (D i) := by
      intro i hi
      obtain ⟨cs', h1, h2⟩ := hall i (by omega)
      obtain ⟨x, hx, hmu⟩ := hel n cs' _ h2
      obtain ⟨_, hlen, hc⟩ := World.cells?_some h1
      rw [hk] at hlen hc
      refine ⟨cs', x, hlen, fun j u hu => ?_, hx, hmu⟩
      have hj : j < k := by rw [← hlen]; exact (List.getElem?_eq_some_iff.1 hu).1
      have := hc j hj
      rw [Addr.add_add] at this
      rw [this]; exact hu
    have build : ∀ q, q ≤ len → ∃ l : List α, l.length = q ∧ (l.map μ).sum ≤ Rows.uptoBulkAll ((List.range q).map D) ∧ ∀ i x, l[i]? = some x → ∃ cs' : List Value, cs'.length = k ∧ (∀ j u, cs'[j]? = some u → w.cell? (a.add (i * k + j)) = some u) ∧ R w cs' x := by
      intro q
      induction q with
      | zero => exact fun _ => ⟨[], rfl, by simp [Rows.uptoBulkAll], fun i x h => by simp at h⟩
      | succ q ih =>
        intro hq
        obtain ⟨l, h1, hs, h2⟩ := ih (by omega)
        obtain ⟨cs', x, h3, h4, h5, h6⟩ := one q (by omega)
        refine ⟨l ++ [x], by simp [h1], ?_, fun i y hy => ?_⟩
        · rw [List.range_succ, List.map_append (f := D), bulk_app]
          simp only [List.map_append, List.sum_append, List.map_cons, List.map_nil, List.sum_cons, List.sum_nil, Rows.uptoBulkAll]
          omega
        by_cases hi : i < q
        · rw [List.getElem?_append_left (by omega)] at hy; exact h2 i y hy
        · have : i = q := by have := (List.getElem?_eq_some_iff.1 hy).1; simp [h1] at this; omega
          subst this
          rw [List.getElem?_append_right (by omega)] at hy
          simp [h1] at hy; subst hy
          exact ⟨cs', h3, h4, h5⟩
    obtain ⟨l, h1, hs, h2⟩ := build len (Nat.le_refl _)
    subst h1
    refine ⟨_, l, rfl, ⟨a, cap, rfl, hl, hm, fun i x hx => ?_⟩, ?_⟩
    · obtain ⟨cs', h3, h4, h5⟩ := h2 i x hx
      exact ⟨a, cs', rfl, trivial, h3, h4, h5⟩
    · simp only [Rows.uptoBulk]; omega
theorem val_of_trodU {n : Nat} {cs : List Value} {y : DataW H × List MemPlace} (h : DataW.trod enc Try.prog w base spare held n 44 cs = some y) : ∃ x : AVal, cs = x.cells ∧ x.s.size + 1 ≤ Rows.uptoBulk y.1 := by
  have c2 : Try.prog.cellsOf 44 = 4 := by kernel_rfl
  have c3 : Try.prog.cellsOf 5 = 1 := by kernel_rfl
  have c4 : Try.prog.cellsOf 2 = 1 := by kernel_rfl
  have c5 : Try.prog.cellsOf 42 = 1 := by kernel_rfl
  have c6 : Try.prog.cellsOf 9 = 1 := by kernel_rfl
  obtain ⟨z0, z1, z2, z3, m', rfl, hl, g0, g1, g2, g3⟩ := trod_struct4 Try.underlying44 h
  rw [c2] at hl
  simp only [c3, c4, c5, c6] at g0 g1 g2 g3
  match cs, hl with
  | [a0, a1, a2, a3], _ =>
    simp only [List.drop_zero, List.take_succ_cons, List.take_zero, List.drop_succ_cons] at g0 g1 g2 g3
    obtain ⟨k0, f0, e0, _⟩ := DataW.trod_int Try.underlying5 g0
    obtain ⟨k1, f1, e1, _⟩ := DataW.trod_int Try.underlying2 g1
    obtain ⟨k2, f2, e2, _⟩ := DataW.trod_int Try.underlying42 g2
    obtain ⟨k3, f3, e3, _⟩ := DataW.trod_string Try.underlying9 g3
    cases f0; cases f1; cases f2; cases f3; subst e0; subst e1; subst e2; subst e3
    refine ⟨⟨k0, k1, k2, k3⟩, rfl, ?_⟩
    simp only [Rows.uptoBulk, Rows.uptoBulkAll, Array.length_toList, ByteArray.size_data]
    omega
theorem attr_of_trodU {n : Nat} {cs : List Value} {y : DataW H × List MemPlace} (h : DataW.trod enc Try.prog w base spare held n 46 cs = some y) : ∃ x : Attr, RAttr w cs x ∧ mAttr x ≤ Rows.uptoBulk y.1 := by
  have c0 : Try.prog.cellsOf 46 = 5 := by kernel_rfl
  have c1 : Try.prog.cellsOf 3 = 1 := by kernel_rfl
  have c2 : Try.prog.cellsOf 44 = 4 := by kernel_rfl
  obtain ⟨y0, y1, m, rfl, hl, h0, h1⟩ := trod_struct2 Try.underlying46 h
  rw [c0] at hl
  simp only [c1, c2] at h0 h1
  match cs, hl with
  | [a0, a1, a2, a3, a4], _ =>
    simp only [List.drop_zero, List.take_succ_cons, List.take_zero, List.drop_succ_cons] at h0 h1
    obtain ⟨k, e0, _, _⟩ := DataW.trod_int Try.underlying3 h0
    obtain ⟨v, e1, hs⟩ := val_of_trodU h1
    cases e0; cases e1
    refine ⟨⟨k, v⟩, rfl, ?_⟩
    simp only [mAttr, Rows.uptoBulk, Rows.uptoBulkAll]
    omega
theorem chg_of_trodU {n : Nat} {cs : List Value} {y : DataW H × List MemPlace} (h : DataW.trod enc Try.prog w base spare held n 61 cs = some y) : ∃ x : Chg, RChg w cs x ∧ mChg x ≤ Rows.uptoBulk y.1 := by
  have c0 : Try.prog.cellsOf 61 = 6 := by kernel_rfl
  have c1 : Try.prog.cellsOf 3 = 1 := by kernel_rfl
  have c2 : Try.prog.cellsOf 44 = 4 := by kernel_rfl
  have c3 : Try.prog.cellsOf 4 = 1 := by kernel_rfl
  obtain ⟨xs, m, _, rfl, hl, hlen, hf⟩ := DataW.trod_struct Try.underlying61 h
  match xs, hlen with
  | [y0, y1, y2], _ =>
    have h0 : DataW.trod enc Try.prog w base spare held m 3 ((cs.drop 0).take (Try.prog.cellsOf 3)) = some y0 := hf 0 _ rfl
    have h1 : DataW.trod enc Try.prog w base spare held m 4 ((cs.drop 1).take (Try.prog.cellsOf 4)) = some y1 := hf 1 _ rfl
    have h2 : DataW.trod enc Try.prog w base spare held m 44 ((cs.drop 2).take (Try.prog.cellsOf 44)) = some y2 := hf 2 _ rfl
    rw [c0] at hl
    rw [c1] at h0
    rw [c3] at h1
    rw [c2] at h2
    obtain ⟨a0, a1, a2, a3, a4, a5, rfl⟩ := len6 hl
    · clear hf
      simp only [List.drop_zero, List.take_succ_cons, List.take_zero, List.drop_succ_cons] at h0 h1 h2
      obtain ⟨k, e0, _, _⟩ := DataW.trod_int Try.underlying3 h0
      obtain ⟨b, e1, _⟩ := DataW.trod_bool Try.underlying4 h1
      obtain ⟨v, e2, hs⟩ := val_of_trodU h2
      cases e0; cases e1; cases e2
      refine ⟨⟨k, b, v⟩, rfl, ?_⟩
      simp only [mChg, List.map_cons, List.map_nil, Rows.uptoBulk, Rows.uptoBulkAll]
      omega
theorem rune_of_trodU {n : Nat} {cs : List Value} {y : DataW H × List MemPlace} (h : DataW.trod enc Try.prog w base spare held n 21 cs = some y) : ∃ x : Int, RRune w cs x ∧ 1 ≤ Rows.uptoBulk y.1 := by
  obtain ⟨k, rfl, e, _⟩ := DataW.trod_int Try.underlying21 h
  subst e
  exact ⟨k, rfl, by simp [Rows.uptoBulk]⟩
theorem set_of_trodU {n : Nat} {cs : List Value} {y : DataW H × List MemPlace} (h : DataW.trod enc Try.prog w base spare held n 24 cs = some y) : ∃ v l, cs = [v] ∧ RSet (fun _ => True) w v l ∧ mSet l + 1 ≤ Rows.uptoBulk y.1 :=
  SlR.of_trodU (μ := mAttr) Try.underlying24 (by kernel_rfl) (fun _ _ _ h => attr_of_trodU h) h
theorem pat_of_trodU {n : Nat} {cs : List Value} {y : DataW H × List MemPlace} (h : DataW.trod enc Try.prog w base spare held n 57 cs = some y) : ∃ v l, cs = [v] ∧ RPat (fun _ => True) w v l ∧ mPat l + 1 ≤ Rows.uptoBulk y.1 :=
  SlR.of_trodU (μ := mChg) Try.underlying57 (by kernel_rfl) (fun _ _ _ h => chg_of_trodU h) h
theorem runes_of_trodU {n : Nat} {cs : List Value} {y : DataW H × List MemPlace} (h : DataW.trod enc Try.prog w base spare held n 56 cs = some y) : ∃ v l, cs = [v] ∧ RRun (fun _ => True) w v l ∧ l.length + 1 ≤ Rows.uptoBulk y.1 := by
  obtain ⟨v, l, e, h1, h2⟩ := SlR.of_trodU (μ := fun _ : Int => 1) Try.underlying56 (by kernel_rfl) (fun _ _ _ h => rune_of_trodU h) h
  refine ⟨v, l, e, h1, ?_⟩
  have : (l.map fun _ => 1).sum = l.length := by clear h1 h2; induction l with | nil => rfl | cons a l ih => simp only [List.map_cons, List.sum_cons, List.length_cons, ih]; omega
  omega
theorem dop_of_trodU {n : Nat} {cs : List Value} {y : DataW H × List MemPlace} (h : DataW.trod enc Try.prog w base spare held n 59 cs = some y) : ∃ x : Dop, RDop (fun _ => True) w cs x ∧ mDop x ≤ Rows.uptoBulk y.1 := by
  have c0 : Try.prog.cellsOf 59 = 5 := by kernel_rfl
  have c1 : Try.prog.cellsOf 3 = 1 := by kernel_rfl
  have c2 : Try.prog.cellsOf 5 = 1 := by kernel_rfl
  have c3 : Try.prog.cellsOf 56 = 1 := by kernel_rfl
  have c4 : Try.prog.cellsOf 24 = 1 := by kernel_rfl
  have c5 : Try.prog.cellsOf 57 = 1 := by kernel_rfl
  obtain ⟨xs, m, _, rfl, hl, hlen, hf⟩ := DataW.trod_struct Try.underlying59 h
  match xs, hlen with
  | [y0, y1, y2, y3, y4], _ =>
    have h0 : DataW.trod enc Try.prog w base spare held m 5 ((cs.drop 0).take (Try.prog.cellsOf 5)) = some y0 := hf 0 _ rfl
    have h1 : DataW.trod enc Try.prog w base spare held m 3 ((cs.drop 1).take (Try.prog.cellsOf 3)) = some y1 := hf 1 _ rfl
    have h2 : DataW.trod enc Try.prog w base spare held m 56 ((cs.drop 2).take (Try.prog.cellsOf 56)) = some y2 := hf 2 _ rfl
    have h3 : DataW.trod enc Try.prog w base spare held m 24 ((cs.drop 3).take (Try.prog.cellsOf 24)) = some y3 := hf 3 _ rfl
    have h4 : DataW.trod enc Try.prog w base spare held m 57 ((cs.drop 4).take (Try.prog.cellsOf 57)) = some y4 := hf 4 _ rfl
    rw [c0] at hl
    rw [c2] at h0
    rw [c1] at h1
    rw [c3] at h2
    rw [c4] at h3
    rw [c5] at h4
    obtain ⟨a0, a1, a2, a3, a4, rfl⟩ := len5 hl
    · clear hf
      simp only [List.drop_zero, List.take_succ_cons, List.take_zero, List.drop_succ_cons] at h0 h1 h2 h3 h4
      obtain ⟨k, e0, _, _⟩ := DataW.trod_int Try.underlying5 h0
      obtain ⟨n, e1, _, _⟩ := DataW.trod_int Try.underlying3 h1
      obtain ⟨rv, rl, e2, hr, b2⟩ := runes_of_trodU h2
      obtain ⟨sv, sl, e3, hs, b3⟩ := set_of_trodU h3
      obtain ⟨pv, pl', e4, hp, b4⟩ := pat_of_trodU h4
      cases e0; cases e1; cases e2; cases e3; cases e4
      refine ⟨⟨k, n, rl, sl, pl'⟩, ⟨a2, a3, a4, rfl, hr, hs, hp⟩, ?_⟩
      simp only [mDop, List.map_cons, List.map_nil, Rows.uptoBulk, Rows.uptoBulkAll]
      omega
theorem dops_of_trodU {n : Nat} {cs : List Value} {y : DataW H × List MemPlace} (h : DataW.trod enc Try.prog w base spare held n 50 cs = some y) : ∃ v l, cs = [v] ∧ RDops (fun _ => True) (fun _ => True) w v l ∧ mDops l + 1 ≤ Rows.uptoBulk y.1 :=
  SlR.of_trodU (μ := mDop) Try.underlying50 (by kernel_rfl) (fun _ _ _ h => dop_of_trodU h) h

/-! ### keys -/
theorem key_of_trodU {n : Nat} {cs : List Value} {y : DataW H × List MemPlace} (h : DataW.trod enc Try.prog w base spare held n 72 cs = some y) : ∃ x : DKey, RKey w cs x ∧ 1 ≤ Rows.uptoBulk y.1 := by
  have c0 : Try.prog.cellsOf 72 = 6 := by kernel_rfl
  have c1 : Try.prog.cellsOf 3 = 1 := by kernel_rfl
  have c2 : Try.prog.cellsOf 5 = 1 := by kernel_rfl
  have c3 : Try.prog.cellsOf 4 = 1 := by kernel_rfl
  obtain ⟨xs, m, _, rfl, hl, hlen, hf⟩ := DataW.trod_struct Try.underlying72 h
  match xs, hlen with
  | [y0, y1, y2, y3, y4, y5], _ =>
    have h0 : DataW.trod enc Try.prog w base spare held m 3 ((cs.drop 0).take (Try.prog.cellsOf 3)) = some y0 := hf 0 _ rfl
    have h1 : DataW.trod enc Try.prog w base spare held m 4 ((cs.drop 1).take (Try.prog.cellsOf 4)) = some y1 := hf 1 _ rfl
    have h2 : DataW.trod enc Try.prog w base spare held m 5 ((cs.drop 2).take (Try.prog.cellsOf 5)) = some y2 := hf 2 _ rfl
    have h3 : DataW.trod enc Try.prog w base spare held m 4 ((cs.drop 3).take (Try.prog.cellsOf 4)) = some y3 := hf 3 _ rfl
    have h4 : DataW.trod enc Try.prog w base spare held m 4 ((cs.drop 4).take (Try.prog.cellsOf 4)) = some y4 := hf 4 _ rfl
    have h5 : DataW.trod enc Try.prog w base spare held m 3 ((cs.drop 5).take (Try.prog.cellsOf 3)) = some y5 := hf 5 _ rfl
    rw [c0] at hl
    rw [c1] at h0
    rw [c3] at h1
    rw [c2] at h2
    rw [c3] at h3
    rw [c3] at h4
    rw [c1] at h5
    obtain ⟨a0, a1, a2, a3, a4, a5, rfl⟩ := len6 hl
    · clear hf
      simp only [List.drop_zero, List.take_succ_cons, List.take_zero, List.drop_succ_cons] at h0 h1 h2 h3 h4 h5
      obtain ⟨k0, e0, _, _⟩ := DataW.trod_int Try.underlying3 h0
      obtain ⟨k1, e1, _⟩ := DataW.trod_bool Try.underlying4 h1
      obtain ⟨k2, e2, _, _⟩ := DataW.trod_int Try.underlying5 h2
      obtain ⟨k3, e3, _⟩ := DataW.trod_bool Try.underlying4 h3
      obtain ⟨k4, e4, _⟩ := DataW.trod_bool Try.underlying4 h4
      obtain ⟨k5, e5, _, _⟩ := DataW.trod_int Try.underlying3 h5
      cases e0; cases e1; cases e2; cases e3; cases e4; cases e5
      refine ⟨⟨k0, k1, k2, k3, k4, k5⟩, rfl, ?_⟩
      simp only [Rows.uptoBulk]
      omega
theorem keys_of_trodU {n : Nat} {cs : List Value} {y : DataW H × List MemPlace} (h : DataW.trod enc Try.prog w base spare held n 49 cs = some y) : ∃ v l, cs = [v] ∧ RKeys (fun _ => True) w v l ∧ l.length + 1 ≤ Rows.uptoBulk y.1 := by
  obtain ⟨v, l, e, h1, h2⟩ := SlR.of_trodU (μ := fun _ : DKey => 1) Try.underlying49 (by kernel_rfl) (fun _ _ _ h => key_of_trodU h) h
  refine ⟨v, l, e, h1, ?_⟩
  have : (l.map fun _ => 1).sum = l.length := by clear h1 h2; induction l with | nil => rfl | cons a l ih => simp only [List.map_cons, List.sum_cons, List.length_cons, ih]; omega
  omega
end Go.Proofs.Ytmfplfaeibehiaa

namespace Go.Proofs.Ytmfplfaeibehiaa
open Go Go.K
open Go.ChangeShapes Go.WideShapes Go.ChangeAt Go.RowKit
set_option linter.unusedVariables false

theorem ownK : ownKnob Try.prog.godebug = none := by kernel_rfl
theorem laidOut : laidOutB Try.prog = true := by kernel_rfl

set_option maxRecDepth 100000 in
theorem NormalMakes_lifted (os : Os) (started : os.Started) (H : Type) (enc : TypeId × Value → H) (F0 : Stop.Interp) :
    ReturnsInHanded Rows.normalMakesUptoRow.assume Try.checked os 9 .any ((Rows.OpenSpec.upto Rows.normalMakesSpec).pre6 enc Try.prog Try.f9 Rows.normalMakesUptoRow.domain false) (((Rows.OpenSpec.upto Rows.normalMakesSpec).at F0).post enc Try.prog Try.f9 false true false false) := by
  refine returnsInHanded_of_cond (C := Try.checked) (s := (Rows.OpenSpec.upto Rows.normalMakesSpec)) (k := Rows.uptoSmall) rfl ownK started (by kernel_rfl) Try.func9
    (OpenSpec.witness (enc := enc) (C := Try.checked) (s := (Rows.OpenSpec.upto Rows.normalMakesSpec)) (k := Rows.uptoSmall) rfl false ⟨#[], #[.slice none 0 0, .slice none 0 0], []⟩ 8 (by kernel_rfl) (by kernel_rfl) (by kernel_rfl) (x := ([.nil, .nil], [], [])) (by kernel_rfl) (by kernel_rfl) (by kernel_rfl)) ?_
  intro W base args ds gs before hval0 hW hcnd hk0 _
  have hW' := hW
  obtain ⟨p, q, hA0, hV, rfl, hfz, hnd⟩ := hW
  have hA : DataW.TrodAll enc Try.prog W 0 (fun _ => true) true Try.f9.params.toList args.toList ds p := hA0
  have hval : ∀ (j : Nat) t v, Try.f9.params[j]? = some t → args[j]? = some v → Value.okWide Try.prog W .any base t v := hval0
  rw [Try.params9] at hA hval
  obtain ⟨v0, vs0, d0, ds0, p0, q0, hargs, rfl, rfl, h0, r0⟩ := trodAll_cons hA
  obtain ⟨v1, vs1, d1, ds1, p1, q1, rfl, rfl, rfl, h1, r1⟩ := trodAll_cons r0
  obtain ⟨rfl, rfl, rfl⟩ := trodAll_nil r1
  obtain rfl : args = #[v0, v1] := by cases args; simp_all
  obtain ⟨rfl, rfl⟩ := trodVars_none hV
  have hk := of_decide_eq_true hk0
  simp only [List.append_nil, Rows.uptoBulkAll] at hk
  have lt0 : ∀ x ∈ p0, x.block < W.heap.size := by obtain ⟨m, hm⟩ := h0; exact DataW.trod_lt m _ _ _ hm
  obtain ⟨fuel0, hf0⟩ := id h0
  obtain ⟨u0, l0, e0, s0, b0⟩ := keys_of_trodU hf0
  simp only at b0
  obtain ⟨a0, n0, c0, rfl⟩ := okWide_slice Try.underlying49 (hval 0 49 v0 rfl rfl)
  simp only [Value.cells, List.cons.injEq, and_true] at e0
  subst e0
  have lt1 : ∀ x ∈ p1, x.block < W.heap.size := by obtain ⟨m, hm⟩ := h1; exact DataW.trod_lt m _ _ _ hm
  obtain ⟨fuel1, hf1⟩ := id h1
  obtain ⟨u1, l1, e1, s1, b1⟩ := dops_of_trodU hf1
  simp only at b1
  obtain ⟨a1, n1, c1, rfl⟩ := okWide_slice Try.underlying50 (hval 1 50 v1 rfl rfl)
  simp only [Value.cells, List.cons.injEq, and_true] at e1
  subst e1
  clear hA0 hval0
  refine (NormalMakes_ok s0 s1 (by omega)).mono fun e W' ⟨v, he, hv, hg⟩ => ?_
  subst he; subst hv
  have bel : Below W.heap.size W W' := Mod.below hg (Nat.le_refl _) fun _ h => h.elim
  exact ⟨_, rfl, _, _, _, [], _, [], hW', trodAll_mk1 (shut_bool Try.underlying4 _), (trodAll_cons_mk (Below.trod laidOut (by kernel_rfl) (of_decide_eq_true (by kernel_rfl)) h0 bel lt0) (trodAll_cons_mk (Below.trod laidOut (by kernel_rfl) (of_decide_eq_true (by kernel_rfl)) h1 bel lt1) trodAll_mk0)), rfl, bel.frame _, fun h => by cases h⟩
/-- the statement -/
theorem NormalMakes_proved : Rows.NormalMakesUptoSaid :=
  OpenClaim.holds_of_cond 9 Try.f9 rfl rfl rfl rfl rfl rfl rfl ⟨rfl, rfl, rfl, rfl, rfl⟩ rfl rfl rfl rfl rfl (by kernel_rfl) Try.func9 (by kernel_rfl)
    (of_decide_eq_true (by kernel_rfl)) (by unfold Func.isWrapper; first | (rw [if_pos (by decide +kernel)]; kernel_rfl) | (rw [if_neg (by decide +kernel)]; exact ⟨rfl, rfl⟩))
    (fun os started H enc _ F0 => NormalMakes_lifted os started H enc F0)
#print axioms NormalMakes_proved
end Go.Proofs.Ytmfplfaeibehiaa
