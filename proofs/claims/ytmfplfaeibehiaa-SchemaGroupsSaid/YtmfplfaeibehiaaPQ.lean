/- Writing over what was told: cells that may be written, and the loops that write them. No conditions. -/
import Derived.Test.YtmfplfaeibehiaaPP
namespace Go.K
open Go
theorem condK_p {p : Prop} [Decidable p] {A B : Prop} (h1 : p → A) (h2 : ¬ p → B) : condK (.bool (decide p)) A B := by
  rw [condK_d]; split
  · exact h1 (by assumption)
  · exact h2 (by assumption)
theorem addr0 (g x : Nat) : (⟨g, 0, none⟩ : Addr).add x = ⟨g, x, none⟩ := by unfold Addr.add; split <;> simp_all
/-- a comparison whose both ways go well; the numbers stay closed -/
theorem ltK_ab {q : IntKind} {a b : Int} {A B : Prop} (hA : A) (hB : B) : ltK q (.int q a) (.int q b) fun t => condK t A B := by
  rw [ltK_i]; exact condK_p (fun _ => hA) fun _ => hB
/-- a cell that is there and may be written -/
def Live (w : World) (a : Addr) : Prop := (w.cell? a).isSome = true ∧ w.frozen? a = false
theorem Live.set {w : World} {a : Addr} (h : Live w a) (b : Addr) (u : Value) : Live (w.setCell b u) a := by
  refine ⟨?_, by rw [World.frozen?_setCell]; exact h.2⟩
  obtain ⟨v, hv⟩ := Option.isSome_iff_exists.1 h.1
  by_cases e : b = a
  · subst e; rw [World.cell?_setCell_same w _ u hv]; rfl
  · rw [World.cell?_setCell_other w _ _ u e, hv]; rfl
theorem Live.mod {M : Nat → Prop} {w w' : World} {a : Addr} (h : Live w a) (hm : Mod M w w') (hn : ¬ M a.block) : Live w' a := by
  obtain ⟨v, hv⟩ := Option.isSome_iff_exists.1 h.1
  exact ⟨by rw [hm.cell hv hn]; rfl, (hm.frozen (World.block_lt_of_cell? w a hv) hn).trans h.2⟩
theorem Live.st {w : World} {a : Addr} {u : Value} {K : World → Prop} (h : Live w a) (h1 : u.oneCell' = true) (h2 : u.cells = #[u]) (hK : K (w.setCell a u)) : st1K (.pointer (some a)) u K w := by
  obtain ⟨v, hv⟩ := Option.isSome_iff_exists.1 h.1
  exact st1K_i h1 h2 hv h.2 hK
theorem OwnR.live {α : Type} {B e k : Nat} {R : World → List Value → α → Prop} {w : World} {a : Option Addr} {n c : Nat} {l : List α} (h : OwnR B e k R w (.slice a n c) l) {i j : Nat} (hi : i < l.length) (hj : j < k) :
    ∃ g, a = some ⟨g, 0, none⟩ ∧ n = l.length ∧ Live w ((⟨g, 0, none⟩ : Addr).add (i * k + j)) := by
  obtain ⟨rows, h1, h2, h3, h4⟩ := h
  have hrl : ∀ r ∈ rows, r.length = k := fun r hr => (h3 r hr).1
  have hsh : ∃ g, a = some ⟨g, 0, none⟩ ∧ n = l.length := by
    rcases h1.2 with ⟨h', hn⟩ | ⟨g', cap', cur, h', _⟩
    · omega
    · simp only [Value.slice.injEq] at h'; exact ⟨g', h'.1, h'.2.1⟩
  obtain ⟨g, rfl, rfl⟩ := hsh
  refine ⟨g, rfl, rfl, ?_⟩
  have hadd : (⟨g, 0, none⟩ : Addr).add (i * k + j) = ⟨g, i * k + j, none⟩ := by unfold Addr.add; split <;> simp_all
  have hlt : i * k + j < l.length * k := by
    have : (i + 1) * k ≤ l.length * k := Nat.mul_le_mul_right _ hi
    rw [Nat.add_mul] at this; omega
  rw [hadd]
  refine ⟨?_, h1.frozenAt _⟩
  rw [h1.cellAt _ hlt]
  simp [flat_len rows hrl, h2, hlt]
/-- the loop that writes one cell of each element -/
theorem wr_loop {sz off : Nat} {v u : Value} {n : Nat} {M : Nat → Prop} {w : World} {Rest : World → Prop} (J : World → Prop) (h1 : u.oneCell' = true) (h2 : u.cells = #[u]) (hn : (n : Int) ≤ 9223372036854775806) (hJ : J w)
    (hs : ∀ W, J W → ∀ i, i < n → ∃ p c, v = .slice (some p) n c ∧ Live W (p.add (i * sz + off)) ∧ J (W.setCell (p.add (i * sz + off)) u)) (hR : ∀ W, J W → Rest W) :
    LoopK [.int .i64 0] (fun vs again w17 => ∀ _ : Env, ltK .i64 (nth vs 0) (.int .i64 n) fun t114 => condK t114 (ixK sz v (nth vs 0) fun t118 => faK off t118 fun t119 => st1K t119 u (fun w18 => addK .i64 (nth vs 0) (.int .i64 1) fun t120 => again [t120] w18) w17) (Rest w17)) w := by
  refine LoopK_i (fun vs w1 => ∃ k : Nat, k ≤ n ∧ vs = [.int .i64 k] ∧ J w1) (fun vs _ => n - iOf vs 0) ⟨0, Nat.zero_le _, rfl, hJ⟩ ?_
  rintro vs w1 ⟨k, hk, rfl, hj⟩ _
  simp only [KS]
  by_cases hlt : k < n
  · rw [if_pos (show (k : Int) < n by omega)]
    obtain ⟨p, c, rfl, hl, hj'⟩ := hs w1 hj k hlt
    refine ixK_n hlt ?_
    simp only [KS]
    refine hl.st h1 h2 ?_
    refine ⟨⟨k + 1, by omega, by rw [wrap64 (by omega) (by omega)]; rfl, hj'⟩, ?_⟩
    simp only [iOf, nth, List.headD_cons]; rw [wrap64 (by omega) (by omega)]; omega
  · rw [if_neg (show ¬ (k : Int) < n by omega)]
    exact hR w1 hj
end Go.K
