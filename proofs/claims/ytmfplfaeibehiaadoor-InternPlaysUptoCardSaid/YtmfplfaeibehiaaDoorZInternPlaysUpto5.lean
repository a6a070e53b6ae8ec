/- Contract of schema.New; known04; the plain law of keys. No conditions. What is known of schemas; the law SchemaGroups: it answers true, and leaves all memory as it was. No conditions. Contract of Schema.Fits; the law SchemaFits: it answers true, and leaves all memory as it was. Conditions: the two tables lie in memory as they are laid. Contracts: the text of a set (intern.text); why a set may not be (attrs.May). Conditions: the sets' numbers lie in their types; of the text: the set may be. Contracts of the document's Keys and Group; the law SchemaKeys: it answers true, and leaves all memory as it was. Conditions: the two tables lie in memory as they are laid. The law SchemaKeys: it answers true, and leaves all memory as it was. Conditions: the two tables lie in memory as they are laid. The table of interned sets in memory; contracts of New, ready, Len, asked, Held, Hold, Set. Conditions: the sizes. Contracts of the table of interned sets: Held, Set, Hold, Free. Conditions: the sizes. The table of interned sets in memory, step by step; contracts of Free, place, Add. Conditions: the sizes. Contract of Free. Conditions: the sizes. Contracts of place and Add. Conditions: the sizes; the sets' numbers lie in their types; the two tables lie in memory as they are laid. Contract of Add. Conditions: the sizes; the sets' numbers lie in their types; the two tables lie in memory as they are laid. The table as the laws use it; a set of one flag; what is known of the table. Conditions: the two tables lie in memory as they are laid. What is known of the table; the law InternHolds: it answers true, and leaves all memory as it was. Conditions: the two tables lie in memory as they are laid. The law InternHolds: it answers true, and leaves all memory as it was. Conditions: the two tables lie in memory as they are laid. Plain laws: what adding and freeing keep of the table. No conditions. -/
import Derived.Test.YtmfplfaeibehiaaDoorZInternPlaysUpto4
import Derived.Laws.Cover3
namespace Go.Proofs.YtmfplfaeibehiaaDoor
open Go Go.K

def Dist (keys : List DKey) : Prop := keys.Pairwise fun x y => x.id ≠ y.id
theorem mayk_iff {keys : List DKey} : MayKeys keys ↔ keys.length ≤ 64 ∧ (∀ k ∈ keys, KeyOK k) ∧ Dist keys := by
  unfold MayKeys MayN Dist
  rw [List.pairwise_iff_getElem]
  constructor
  · rintro ⟨h1, h2⟩
    refine ⟨h1, fun k hk => ?_, fun i j hi hj hij => ?_⟩
    · obtain ⟨i, hi, rfl⟩ := List.getElem_of_mem hk
      exact (h2 i hi _ (List.getElem?_eq_getElem hi)).1
    · exact (h2 j hj _ (List.getElem?_eq_getElem hj)).2 i hij _ (List.getElem?_eq_getElem hi)
  · rintro ⟨h1, h2, h3⟩
    refine ⟨h1, fun i hi k hk => ?_⟩
    rw [List.getElem?_eq_getElem hi] at hk; cases hk
    refine ⟨h2 _ (List.getElem_mem hi), fun j hj k' hk' => ?_⟩
    rw [List.getElem?_eq_getElem (by omega)] at hk'; cases hk'
    exact h3 j i (by omega) hi hj
theorem find_map {L : List DKey} {id : Int} : (L.map fun k => (k.id, (Value.agg k.cells.toArray))).find? (fun p => decide (p.1 = id)) = (findK L id).map fun k => (k.id, .agg k.cells.toArray) := by
  unfold findK
  rw [List.find?_map]
  rfl
theorem findK_iff {L : List DKey} (hd : Dist L) {id : Int} {k : DKey} : findK L id = some k ↔ k ∈ L ∧ k.id = id := by
  induction L with
  | nil => simp [findK]
  | cons x L ih =>
    unfold Dist at hd
    rw [List.pairwise_cons] at hd
    have ih' := ih hd.2
    unfold findK at ih' ⊢
    by_cases hx : x.id = id
    · rw [List.find?_cons_of_pos (by simpa using hx)]
      simp only [Option.some.injEq, List.mem_cons]
      constructor
      · rintro rfl; exact ⟨.inl rfl, hx⟩
      · rintro ⟨rfl | hk, h2⟩
        · rfl
        · exact (hd.1 k hk (by rw [hx, h2])).elim
    · rw [List.find?_cons_of_neg (by simpa using hx), ih']
      constructor
      · rintro ⟨h1, h2⟩; exact ⟨List.mem_cons_of_mem _ h1, h2⟩
      · rintro ⟨h1, h2⟩
        rcases List.mem_cons.1 h1 with rfl | h1
        · exact (hx h2).elim
        · exact ⟨h1, h2⟩
theorem Dist.perm {L L' : List DKey} (hp : L.Perm L') (h : Dist L) : Dist L' := (hp.pairwise_iff (R := fun x y : DKey => x.id ≠ y.id) fun h => h.symm).1 h
theorem findK_perm {L L' : List DKey} (hp : L.Perm L') (hd : Dist L) (id : Int) : findK L id = findK L' id := by
  refine Option.ext fun k => ?_
  rw [findK_iff hd, findK_iff (hd.perm hp), hp.mem_iff]
theorem strict_of {L : List DKey} (hd : Dist L) (hs : L.Pairwise fun x y => x.id ≤ y.id) : L.Pairwise fun x y => x.id < y.id := by
  refine (List.Pairwise.and hd hs).imp fun {x y} h => ?_
  obtain ⟨h1, h2⟩ := h
  omega

structure NewI (w0 W : World) (b m : Nat) (kv : Value) (keys : List DKey) (i : Nat) : Prop where
  c0 : W.cell? ⟨b, 0, none⟩ = some kv
  c1 : W.cell? ⟨b, 1, none⟩ = some (.map (some m))
  row : OwnR w0.heap.size 34 6 RKey W kv keys
  mp : MapI W m ((keys.take i).map fun k => (k.id, .agg k.cells.toArray))
  hb : w0.heap.size ≤ b
  hm : w0.heap.size ≤ m
  ne : m ≠ b
  own : ∀ g, kv.ownBlock = some g → g ≠ m ∧ g ≠ b
  g : Grow w0 W
theorem NewI.grow {w0 W W' : World} {b m i : Nat} {kv : Value} {keys : List DKey} (h : NewI w0 W b m kv keys i) (hg : Grow W W') : NewI w0 W' b m kv keys i :=
  ⟨hg.cell h.c0 fun h => h, hg.cell h.c1 fun h => h, OwnR.mod h.row hg (fun _ _ h => h) fun _ _ _ h => h, h.mp.mod hg fun h => h, h.hb, h.hm, h.ne, h.own, h.g.trans hg⟩

open Classical in
theorem new_key_ok {S : Nat → Prop} {kv : Value} {keys : List DKey} {w : World} (h : RKeys S w kv keys) :
    callK Tryd.prog 12 [kv] (fun v' w' => Grow w w' ∧ ((MayKeys keys ∧ ∃ (sv : Value) (ks : List DKey), v' = .tuple #[sv, .int .i64 0] ∧ ks.Perm keys ∧ ks.Pairwise (fun x y => x.id < y.id) ∧ SchR (fun b => w.heap.size ≤ b) w' sv ks) ∨
      (¬ MayKeys keys ∧ v' = .tuple #[.pointer none, .int .i64 3]))) w := by
  apply S12_ok
  unfold S12
  obtain ⟨a, c, rfl, hmx⟩ := h.shape
  simp only [maxLen] at hmx
  rw [lenK_i, gtK_i]
  refine condK_p (fun h6 => ⟨Mod.refl _ _, .inr ⟨by rintro ⟨h, _⟩; omega, rfl⟩⟩) fun h6 => ?_
  refine callK_mono (clone_key h (by omega)) ?_
  rintro v1 w1 ⟨o1, g1⟩
  refine runK_i (v := .map (some w1.heap.size)) (w' := w1.alloc (.map #[] 0)) rfl ?_
  have g2 : Grow w1 (w1.alloc (.map #[] 0)) := Mod.alloc _ _ _
  have hmp : MapI (w1.alloc (.map #[] 0)) w1.heap.size [] := MapI.make w1
  have hz2 : (w1.alloc (.map #[] 0)).heap.size = w1.heap.size + 1 := by simp
  generalize w1.alloc (.map #[] 0) = w2 at g2 hmp hz2 ⊢
  obtain ⟨ra, rc, rfl, _, _, _, _⟩ := o1.shape
  refine ⟨#[.slice ra keys.length rc, .map (some w1.heap.size)], by kernel_rfl, ?_⟩
  refine boxn_i (vs := [.slice ra keys.length rc, .map (some w1.heap.size)]) fun b w3 hb hz3 g3 hc3 _ => ?_
  have z1 := g1.size
  have z2 := g2.size
  have hown : ∀ g, (Value.slice ra keys.length rc).ownBlock = some g → g < w1.heap.size := fun g hg => (OwnR.ownB o1 g hg).2
  have I0 : NewI w w3 b w1.heap.size (.slice ra keys.length rc) keys 0 :=
    ⟨by have := hc3 0 _ rfl; rwa [addr0] at this, by have := hc3 1 _ rfl; rwa [addr0] at this, OwnR.mod o1 (g2.trans g3) (fun _ _ h => h) fun _ _ _ h => h, by simpa using hmp.mod g3 fun h => h, by omega, by omega, by omega, fun g hg => by have := hown g hg; omega, (g1.trans g2).trans g3⟩
  generalize Value.slice ra keys.length rc = rv at I0 hown ⊢
  clear hc3 hmp o1
  generalize w1.heap.size = m at *
  rw [lenK_i]
  refine LoopK_i (fun vs W => ∃ i : Nat, i ≤ keys.length ∧ vs = [.int .i64 i] ∧ NewI w W b m rv keys i ∧ MayN keys i) (fun vs _ => keys.length - iOf vs 0) ⟨0, Nat.zero_le _, rfl, I0, fun i hi => by omega⟩ ?_
  rintro vs W ⟨i, hi, rfl, I, hmay⟩ _
  rw [nth_z, List.headD_cons, ltK_i]
  refine condK_p (fun hlt => ?_) fun hge => ?_
  · have hlt' : i < keys.length := by omega
    have hki : keys[i]? = some keys[i] := List.getElem?_eq_getElem hlt'
    obtain ⟨p, r, rfl, _, hr, hc, rfl⟩ := (h.grow I.g (by decide) fun _ _ h => h).get hlt'
    refine ixK_n hlt' (ldnK_i hr (fun j u hu => by rw [Addr.add_add]; exact hc j u hu) ?_)
    refine newst_n (vs := keys[i].cells) rfl rfl (RKey.one (w := w) (x := keys[i]) rfl) fun b6 W1 hb6 hz6 g6 hc6 _ => ?_
    have I1 := I.grow g6
    have bad : ∀ W', Grow W1 W' → ¬ MayKeys keys → (fun v' w' => Grow w w' ∧ ((MayKeys keys ∧ ∃ (sv : Value) (ks : List DKey), v' = .tuple #[sv, .int .i64 0] ∧ ks.Perm keys ∧ ks.Pairwise (fun x y => x.id < y.id) ∧ SchR (fun b => w.heap.size ≤ b) w' sv ks) ∨
      (¬ MayKeys keys ∧ v' = .tuple #[.pointer none, .int .i64 3]))) (Value.tuple #[.pointer none, .int .i64 3]) W' := fun W' g hn => ⟨I1.g.trans g, .inr ⟨hn, rfl⟩⟩
    refine JoinK_i (fun _ W2 => Grow W1 W2 ∧ findK (keys.take i) keys[i].id = none ∧ KeyOK keys[i]) ?_ ?_
    · rintro _ W2 ⟨gW2, hno, hok⟩ _
      have I2 := I1.grow gW2
      refine drawC_i (fun k y => k = 7 ∧ y = m) ?_
      have gd : Grow W2 W2.drew := Mod.drew _ _
      have I3 := I2.grow gd
      have c6 : ∀ j u, keys[i].cells[j]? = some u → W2.drew.cell? ((⟨b6, 0, none⟩ : Addr).add j) = some u := fun j u hu => (gW2.trans gd).cell (hc6 j u hu) fun h => h
      refine nilckK_s ?_
      rw [faK_i]
      refine sld1_i ⟨by rw [addr0]; exact I3.c1, fun j hj e => by obtain ⟨rfl, _⟩ := e; exact absurd hj (by decide)⟩ ?_
      rw [faK_i]
      refine sld1_i ⟨c6 0 _ rfl, fun j hj e => by obtain ⟨rfl, _⟩ := e; exact absurd hj (by decide)⟩ ?_
      refine sldn_i (vs := keys[i].cells) rfl (fun j u hu => ⟨c6 j u hu, fun j hj e => by obtain ⟨rfl, _⟩ := e; exact absurd hj (by decide)⟩) ?_
      obtain ⟨W4, hrun, hmp4, m4⟩ := map_update Tryd.underlying47 Tryd.underlying3 I3.mp keys[i].id (.agg keys[i].cells.toArray) (by rw [find_map, hno]; rfl)
      refine runK_i (v := undef) (w' := W4) (by simp only [Sem.run_bind, hrun, Result.andThen_ok, Sem.run_pure]) ⟨m4.mono fun y _ e => ⟨rfl, e⟩, ?_⟩
      rw [addK_i, loop_step (by omega)]
      refine ⟨⟨i + 1, hlt', rfl, ⟨m4.cell I3.c0 (fun e => I3.ne e.symm), m4.cell I3.c1 (fun e => I3.ne e.symm), OwnR.mod I3.row m4 (fun g hg e => (I3.own g hg).1 e) fun _ _ _ h => h, ?_, I3.hb, I3.hm, I3.ne, I3.own, I3.g.next m4 fun x hx e => by have := I3.hm; omega⟩, fun q hq k hk => ?_⟩, by rw [iOf0, iOf0]; omega⟩
      · rw [List.take_add_one, hki, List.map_append]; exact hmp4
      · by_cases e : q = i
        · subst e
          rw [hki] at hk; cases hk
          refine ⟨hok, fun j hj k' hk' e => ?_⟩
          unfold findK at hno
          rw [List.find?_eq_none] at hno
          exact hno k' (List.mem_of_getElem? (by rw [List.getElem?_take, if_pos hj]; exact hk')) (by simpa using e)
        · exact hmay q (by omega) k hk
    · refine JoinK_i (fun vs W2 => Grow W1 W2 ∧ vs = [.bool (findK (keys.take i) keys[i].id).isSome]) ?_ ?_
      · rintro _ W2 ⟨gW2, rfl⟩ _
        rw [nth_z, List.headD_cons]
        cases hf : findK (keys.take i) keys[i].id with
        | some k' =>
          refine condK_t (bad _ gW2 fun hM => ?_)
          have h1 := List.find?_some hf
          have h2 := List.mem_of_find?_eq_some hf
          obtain ⟨j, hj, e⟩ := List.getElem_of_mem h2
          rw [List.length_take] at hj
          rw [List.getElem_take] at e
          exact (hM.2 i hlt' _ hki).2 j (by omega) k' (by rw [List.getElem?_eq_getElem (by omega), e]) (by simpa using h1)
        | none =>
          refine condK_f (ldnK_i (vs := keys[i].cells) rfl (fun j u hu => gW2.cell (hc6 j u hu) fun h => h) ?_)
          refine callK_mono may1_ok ?_
          rintro _ W3 ⟨rfl, g3'⟩
          rw [notK_i]
          refine condK_neg (fun hok => ⟨gW2.trans g3', rfl, hok⟩) fun hbad => bad _ (gW2.trans g3') fun hM => hbad (hM.2 i hlt' _ hki).1
      · refine drawC_i (fun k y => k = 11 ∧ W1.heap.size ≤ y) ?_
        have gd : Grow W1 W1.drew := Mod.drew _ _
        have Id := I1.grow gd
        refine nilckK_s ?_
        rw [faK_i]
        refine sld1_i ⟨by rw [addr0]; exact Id.c1, fun j hj e => by obtain ⟨rfl, _⟩ := e; exact absurd hj (by decide)⟩ ?_
        rw [faK_i]
        refine sld1_i ⟨gd.cell (hc6 0 _ rfl) fun h => h, fun j hj e => by obtain ⟨rfl, _⟩ := e; exact absurd hj (by decide)⟩ ?_
        have look : ∀ W', Grow W1.drew W' → (Instr.lookup 47 (.map (some m)) (.int .i64 keys[i].id) true).run Tryd.prog W' = .ok (.tuple #[.agg (((findK (keys.take i) keys[i].id)).getD DKey.zero).cells.toArray, .bool (findK (keys.take i) keys[i].id).isSome]) W' := fun W' g' => by
          have := map_lookup Tryd.underlying47 Tryd.underlying3 (zero_key W') (Id.mp.mod g' fun h => h) keys[i].id
          rw [this, find_map]
          cases findK (keys.take i) keys[i].id <;> rfl
        generalize (findK (keys.take i) keys[i].id).getD DKey.zero = kz at look
        have one := RKey.one (w := w) (x := kz) rfl
        refine ⟨?_, ?_⟩
        · refine runK_i (look _ (Mod.refl _ _)) ⟨Mod.refl _ _, ?_⟩
          refine extK_i (vs := [_, _]) (by rfl) (extK_i (vs := [_, _]) (by rfl) ?_)
          refine newz_i fun b7 W5 hb7 hz7 g7 _ hl7 => ⟨g7.mono fun _ _ h => h.elim, ?_⟩
          refine stn_over rfl one hl7 fun W6 m6 _ _ => ⟨m6.mono fun y _ e => ⟨rfl, by have := gd.size; omega⟩, ?_, rfl⟩
          exact (gd.trans g7).next m6 fun x hx e => by have := gd.size; omega
        · refine newz_i fun b7 W5 hb7 hz7 g7 _ hl7 => ⟨g7.mono fun _ _ h => h.elim, ?_⟩
          refine runK_i (look _ g7) ⟨Mod.refl _ _, ?_⟩
          refine extK_i (vs := [_, _]) (by rfl) (extK_i (vs := [_, _]) (by rfl) ?_)
          refine stn_over rfl one hl7 fun W6 m6 _ _ => ⟨m6.mono fun y _ e => ⟨rfl, by have := gd.size; omega⟩, ?_, rfl⟩
          exact (gd.trans g7).next m6 fun x hx e => by have := gd.size; omega
  · have : i = keys.length := by omega
    subst this
    refine nilckK_s ?_
    rw [faK_i]
    refine ld1K_i (by rw [addr0]; exact I.c0) ?_
    refine callK_mono (sortk_ok I.row (by omega)) ?_
    rintro _ W2 ⟨ks, hp, hs, o2, m2⟩
    have hM : MayKeys keys := ⟨by omega, hmay⟩
    obtain ⟨_, _, hd⟩ := mayk_iff.1 hM
    have hd' := hd.perm hp.symm
    refine ⟨I.g.next m2 fun x hx e => by have := (OwnR.ownB I.row x e).1; omega, .inl ⟨hM, _, ks, rfl, hp, strict_of hd' hs, b, m, rv, _, rfl, I.hb, I.hm, m2.cell I.c0 fun e => (I.own _ e).2 rfl, m2.cell I.c1 fun e => (I.own _ e).2 rfl, (OwnR.sl o2).sub (fun _ _ h => h.1) (by decide) fun _ _ h => h, I.mp.mod m2 fun e => (I.own _ e).1 rfl, fun id => ?_⟩⟩
    rw [List.take_length, find_map, findK_perm hp hd']
    cases findK keys id <;> rfl
end Go.Proofs.YtmfplfaeibehiaaDoor

namespace Go.Proofs.YtmfplfaeibehiaaDoor
open Go Go.K

theorem eqIn_key (a b : DKey) (w : World) : (Op.equalIn 10000 34 (.agg a.cells.toArray) (.agg b.cells.toArray)).run Tryd.prog w = .ok (decide (a = b)) w := by
  have hS : Tryd.prog.underlying 34 = some (.struct (Tryd.prog.fieldsOf 34)) := by kernel_rfl
  rw [show (10000 : Nat) = 9999 + 1 from rfl, run_equalIn_agg w 9999 _ _ _ hS Tryd.stoodInHeld34]
  simp only [Program.fieldsOf, Tryd.underlying34, DKey.cells]
  have a1 := Tryd.isAgg3
  have a2 := Tryd.isAgg4
  have a3 := Tryd.isAgg5
  have e1 : ∀ a b : Int, (Op.equalIn 9999 3 (.int .i64 a) (.int .i64 b)).run Tryd.prog w = .ok (a == b) w := fun a b => run_equalIn_int w 9998 _ _ _ a b Tryd.underlying3
  have e2 : ∀ a b : Bool, (Op.equalIn 9999 4 (.bool a) (.bool b)).run Tryd.prog w = .ok (a == b) w := fun a b => run_equalIn_bool w 9998 _ a b Tryd.underlying4
  have e3 : ∀ a b : Int, (Op.equalIn 9999 5 (.int .u8 a) (.int .u8 b)).run Tryd.prog w = .ok (a == b) w := fun a b => run_equalIn_int w 9998 _ _ _ a b Tryd.underlying5
  have q : decide (a = b) = (a.id == b.id && (a.block == b.block && (a.kind == b.kind && (a.after == b.after && (a.before == b.before && a.group == b.group))))) := by
    cases a; cases b
    rw [Bool.eq_iff_iff]
    simp [DKey.mk.injEq]
  rw [q]
  simp [Op.eqFields, part, a1, a2, a3, e1, e2, e3]
  by_cases h1 : a.id = b.id <;> by_cases h2 : a.block = b.block <;> by_cases h3 : a.kind = b.kind <;> by_cases h4 : a.after = b.after <;> by_cases h5 : a.before = b.before <;> by_cases h6 : a.group = b.group <;> simp [h1, h2, h3, h4, h5, h6]
theorem run_ne_key (xo yo : Operand) (a b : DKey) (w : World) :
    (binS .neq 34 xo yo (.agg a.cells.toArray) (.agg b.cells.toArray)).run Tryd.prog w = .ok (.bool (!decide (a = b))) w := by
  simp only [binS, Sem.run_bind, run_eqGuard_agg w .neq _ xo yo _ _ Tryd.eqGuardType34, Result.andThen_ok]
  rw [run_neq_struct, eqIn_key]; rfl

theorem strict_uniq : ∀ {l l' : List DKey}, l.Perm l' → l.Pairwise (fun x y => x.id < y.id) → l'.Pairwise (fun x y => x.id < y.id) → l = l' := by
  intro l
  induction l with
  | nil => intro l' hp _ _; exact (List.nil_perm.1 hp).symm
  | cons x l ih =>
    intro l' hp h h'
    cases l' with
    | nil => exact absurd hp.length_eq (by simp)
    | cons y l' =>
      rw [List.pairwise_cons] at h h'
      have e : x = y := by
        have hx : x ∈ y :: l' := hp.mem_iff.1 List.mem_cons_self
        have hy : y ∈ x :: l := hp.mem_iff.2 List.mem_cons_self
        rcases List.mem_cons.1 hx with e | hx
        · exact e
        · rcases List.mem_cons.1 hy with e | hy
          · exact e.symm
          · have h1 := h.1 y hy
            have h2 := h'.1 x hx
            omega
      subst e
      rw [ih (List.perm_cons x |>.1 hp) h.2 h'.2]
theorem mayk_perm {L L' : List DKey} (hp : L.Perm L') : MayKeys L ↔ MayKeys L' := by
  rw [mayk_iff, mayk_iff, hp.length_eq]
  exact ⟨fun ⟨h1, h2, h3⟩ => ⟨h1, fun k hk => h2 k (hp.mem_iff.2 hk), h3.perm hp⟩, fun ⟨h1, h2, h3⟩ => ⟨h1, fun k hk => h2 k (hp.mem_iff.1 hk), h3.perm hp.symm⟩⟩
theorem strict_dist {L : List DKey} (h : L.Pairwise fun x y => x.id < y.id) : Dist L := List.Pairwise.imp (fun {x y} h => by omega) h
theorem mem_group {ks : List DKey} (hd : Dist ks) {a : DKey} (ha : a ∈ ks) (n : Int) : n ∈ groupK ks a.id ↔ a.group ≠ 0 ∧ ∃ o ∈ ks, o.group = a.group ∧ o.id ≠ a.id ∧ o.id = n := by
  unfold groupK
  rw [(findK_iff hd).2 ⟨ha, rfl⟩]
  simp only
  by_cases h0 : a.group = 0
  · simp [h0]
  · rw [if_neg h0]
    simp only [List.mem_map, List.mem_filter, decide_eq_true_eq, ne_eq, h0, not_false_eq_true, true_and]
    exact ⟨fun ⟨o, ⟨h1, h2, h3⟩, h4⟩ => ⟨o, h1, h2, h3, h4⟩, fun ⟨o, h1, h2, h3, h4⟩ => ⟨o, ⟨h1, h2, h3⟩, h4⟩⟩
theorem group_symm {ks : List DKey} (hd : Dist ks) {a b : DKey} (ha : a ∈ ks) (hb : b ∈ ks) : b.id ∈ groupK ks a.id ↔ a.id ∈ groupK ks b.id := by
  have one : ∀ {x y : DKey}, x ∈ ks → y ∈ ks → x.id = y.id → x = y := fun {x y} hx hy e => by
    have h1 := (findK_iff hd (id := y.id)).2 ⟨hx, e⟩
    have h2 := (findK_iff hd (id := y.id)).2 ⟨hy, rfl⟩
    rw [h1] at h2; exact Option.some.inj h2
  rw [mem_group hd ha, mem_group hd hb]
  constructor
  · rintro ⟨h1, o, ho, h2, h3, h4⟩
    have := one ho hb h4
    subst this
    exact ⟨by rw [h2]; exact h1, a, ha, h2.symm, fun e => h3 e.symm, rfl⟩
  · rintro ⟨h1, o, ho, h2, h3, h4⟩
    have := one ho ha h4
    subst this
    exact ⟨by rw [h2]; exact h1, b, hb, h2.symm, fun e => h3 e.symm, rfl⟩
theorem group_self {ks : List DKey} (hd : Dist ks) {a : DKey} (ha : a ∈ ks) : a.id ∉ groupK ks a.id := by
  rw [mem_group hd ha]
  rintro ⟨_, o, _, _, h3, h4⟩
  exact h3 h4
theorem group_len {ks : List DKey} {id : Int} : (groupK ks id).length ≤ ks.length := by
  unfold groupK
  split
  · simp
  · split
    · simp
    · rw [List.length_map]; exact List.length_filter_le _ _

def key04 : List DKey := [⟨9, true, 1, false, false, 1⟩, ⟨5, true, 2, false, false, 1⟩, ⟨7, true, 3, false, false, 1⟩, ⟨1, false, 4, false, false, 0⟩]
theorem sl_keys {w : World} (l : List DKey) (hl : l.length ≤ 1000) : RKeys (fun b => b = w.heap.size) (w.alloc (.cells (l.map DKey.cells).flatten.toArray 34)) (.slice (some ⟨w.heap.size, 0, none⟩) l.length l.length) l := by
  refine SlR.made (t := 34) (l.map DKey.cells) (fun r hr => by obtain ⟨x, _, rfl⟩ := List.mem_map.1 hr; rfl) (by simp) (by simp only [maxLen]; omega) fun i r x hr hx => ?_
  rw [List.getElem?_map, hx] at hr
  exact (Option.some.inj hr).symm
theorem known04_ok {w : World} : callK Tryd.prog 13 [] (fun v w' => v = .bool true ∧ Grow w w') w := by
  apply S13_ok
  unfold S13
  refine ⟨(⟨9, true, 1, false, false, 1⟩ : DKey).cells.toArray, by kernel_rfl, ⟨(⟨5, true, 2, false, false, 1⟩ : DKey).cells.toArray, by kernel_rfl, ⟨(⟨7, true, 3, false, false, 1⟩ : DKey).cells.toArray, by kernel_rfl, ⟨(⟨1, false, 4, false, false, 0⟩ : DKey).cells.toArray, by kernel_rfl, ?_⟩⟩⟩⟩
  refine rowK_i (cs := (key04.map DKey.cells).flatten) (by kernel_rfl) ?_
  have hK := sl_keys (w := w) key04 (by decide)
  have g1 : Grow w (w.alloc (.cells (key04.map DKey.cells).flatten.toArray 34)) := Mod.alloc _ _ _
  show callK Tryd.prog 12 [.slice (some ⟨w.heap.size, 0, none⟩) 4 4] _ _
  generalize w.alloc (.cells (key04.map DKey.cells).flatten.toArray 34) = w1 at hK g1 ⊢
  refine callK_mono (new_key_ok hK) ?_
  rintro _ w2 ⟨g2, hr⟩
  have hM : MayKeys key04 := mayk_iff.2 ⟨by decide, fun k hk => by
    simp only [key04, List.mem_cons, List.not_mem_nil, or_false] at hk
    rcases hk with rfl | rfl | rfl | rfl <;> (unfold KeyOK; decide), by unfold Dist; decide⟩
  rcases hr with ⟨_, sv, ks, rfl, hp, hs, hS⟩ | ⟨hn, _⟩
  rotate_left
  · exact (hn hM).elim
  have hks : ks = [⟨1, false, 4, false, false, 0⟩, ⟨5, true, 2, false, false, 1⟩, ⟨7, true, 3, false, false, 1⟩, ⟨9, true, 1, false, false, 1⟩] := strict_uniq (hp.trans (by decide)) hs (by decide)
  subst hks
  refine extK_i (vs := [_, _]) (by rfl) (extK_i (vs := [_, _]) (by rfl) ?_)
  refine callK_mono (sgroup_ok hS (by decide) 7) ?_
  rintro gv w3 ⟨og, g3⟩
  have eg : groupK [⟨1, false, 4, false, false, 0⟩, ⟨5, true, 2, false, false, 1⟩, ⟨7, true, 3, false, false, 1⟩, ⟨9, true, 1, false, false, 1⟩] 7 = [5, 9] := by decide
  rw [eg] at og
  refine ⟨(⟨3, false, 1, false, false, 0⟩ : DKey).cells.toArray, by kernel_rfl, ⟨(⟨3, false, 1, false, false, 0⟩ : DKey).cells.toArray, by kernel_rfl, ?_⟩⟩
  refine rowK_i (cs := (([⟨3, false, 1, false, false, 0⟩, ⟨3, false, 1, false, false, 0⟩] : List DKey).map DKey.cells).flatten) (by kernel_rfl) ?_
  have hK2 := sl_keys (w := w3) [⟨3, false, 1, false, false, 0⟩, ⟨3, false, 1, false, false, 0⟩] (by decide)
  have g4 : Grow w3 (w3.alloc (.cells (([⟨3, false, 1, false, false, 0⟩, ⟨3, false, 1, false, false, 0⟩] : List DKey).map DKey.cells).flatten.toArray 34)) := Mod.alloc _ _ _
  show callK Tryd.prog 12 [.slice (some ⟨w3.heap.size, 0, none⟩) 2 2] _ _
  generalize w3.alloc (.cells (([⟨3, false, 1, false, false, 0⟩, ⟨3, false, 1, false, false, 0⟩] : List DKey).map DKey.cells).flatten.toArray 34) = w4 at hK2 g4 ⊢
  refine callK_mono (new_key_ok hK2) ?_
  rintro _ w5 ⟨g5, hr2⟩
  rcases hr2 with ⟨hM2, _⟩ | ⟨_, rfl⟩
  · exact absurd (mayk_iff.1 hM2).2.2 (by unfold Dist; decide)
  refine extK_i (vs := [_, _]) (by rfl) (extK_i (vs := [_, _]) (by rfl) ?_)
  have g35 := g4.trans g5
  have g05 := ((g1.trans g2).trans g3).trans g35
  rw [eqK_i, decide_eq_true rfl]
  refine condK_t ?_
  have hg := (OwnR.sl (OwnR.mod (R' := RNum) og g35 (fun _ _ h => h) fun _ _ _ h => h))
  obtain ⟨ga, gc, rfl, _⟩ := hg.shape
  rw [lenK_i, eqK_i]
  refine condK_p (fun _ => ?_) fun hne => (hne rfl).elim
  obtain ⟨p, r, rfl, _, _, hc, rfl⟩ := hg.get (i := 0) (by decide)
  obtain ⟨p', r', e, _, _, hc', rfl⟩ := hg.get (i := 1) (by decide)
  cases e
  refine ixK_n (j := 0) (by decide) (ld1K_i (hc 0 _ rfl) ?_)
  rw [eqK_i]
  refine condK_p (fun _ => ?_) fun hne => (hne rfl).elim
  refine ixK_n (j := 1) (by decide) (ld1K_i (hc' 0 _ rfl) ?_)
  rw [eqK_i]
  refine condK_p (fun _ => ?_) fun hne => (hne rfl).elim
  rw [eqK_i, decide_eq_true rfl]
  refine condK_t ?_
  refine callK_mono (slen_ok (hS.grow (g3.trans g35))) ?_
  rintro _ _ ⟨rfl, rfl⟩
  rw [eqK_i]
  exact ⟨rfl, g05⟩

end Go.Proofs.YtmfplfaeibehiaaDoor

namespace Go.Proofs.YtmfplfaeibehiaaDoor
open Go Go.K

open Classical in
theorem sfits_ok {D : Nat → Prop} {v : Value} {ks : List DKey} {id : Int} {x : AVal} {w : World} (h : SchR D w v ks) (hT : Tabs w) (h0 : 0 ≤ x.f) :
    callK Tryd.prog 14 [v, .int .i64 id, .agg x.cells.toArray] (fun v' w' => v' = .bool (decide (FitsK ks id x)) ∧ Grow w w') w := by
  apply S14_ok
  unfold S14
  have no : ∀ w', Grow w w' → ¬ FitsK ks id x → Value.bool false = .bool (decide (FitsK ks id x)) ∧ Grow w w' := fun w' g h => ⟨by rw [decide_eq_false h], g⟩
  refine boxn_i fun b w1 _ hz g hc _ => ?_
  refine callK_mono (sfind_ok (h.grow g) id) ?_
  rintro _ w2 ⟨rfl, g2⟩
  refine extK_i (vs := [_, _]) (by rfl) (extK_i (vs := [_, _]) (by rfl) ?_)
  generalize hk : (findK ks id).getD DKey.zero = k
  refine newst_n (vs := k.cells) rfl rfl (RKey.one (w := w) (x := k) rfl) fun b5 w3 hb5 hz5 g5 hc5 _ => ?_
  have g13 := g2.trans g5
  have g03 := g.trans g13
  cases hf : findK ks id with
  | none =>
    rw [Option.isSome_none]
    exact no _ g03 (by rintro ⟨k, e, _⟩; rw [hf] at e; cases e)
  | some k' =>
    rw [hf] at hk
    simp only [Option.getD_some] at hk
    subst hk
    rw [Option.isSome_some]
    refine condK_t ?_
    rw [faK_i]
    refine ld1K_i (hc5 2 _ rfl) ?_
    rw [faK_i]
    refine ld1K_i (g13.cell (hc 0 _ rfl) fun h => h) ?_
    rw [eqK_i]
    refine condK_p (fun he => ?_) fun he => no _ g03 (by rintro ⟨k, e, _, h⟩; rw [hf] at e; cases e; exact he h.symm)
    refine ldnK_i (vs := x.cells) rfl (fun j u hu => g13.cell (hc j u hu) fun h => h) (callK_mono (vmay_ok (hT.grow g03) h0) ?_)
    rintro _ w4 ⟨rfl, g4⟩
    refine ⟨?_, g03.trans g4⟩
    congr 1
    rw [decide_eq_decide]
    constructor
    · intro ho; exact ⟨k', hf, ho, he.symm⟩
    · rintro ⟨_, _, ho, _⟩; exact ho

def fitV : List AVal := [⟨1, 0, 0, noS⟩, ⟨2, -5, 0, noS⟩, ⟨3, 0, 9221120237041090560, noS⟩, ⟨4, 0, 0, ByteArray.mk #[97]⟩]
/-- the kind of a key of the schema; 0: there is none -/
def kindK (ks : List DKey) (id : Int) : Int := match findK ks id with | some k => k.kind | none => 0
theorem fitV_ok : ∀ v ∈ fitV, ValOK v := by decide +kernel
theorem fitV_f : ∀ v ∈ fitV, 0 ≤ v.f := by decide +kernel
theorem fits_fitV {ks : List DKey} {id : Int} {i : Nat} (hi : i < 4) : FitsK ks id (fitV[i]'hi) ↔ kindK ks id = i + 1 := by
  have hk : (fitV[i]'hi).kind = i + 1 := by
    rcases (show i = 0 ∨ i = 1 ∨ i = 2 ∨ i = 3 by omega) with rfl | rfl | rfl | rfl <;> rfl
  unfold FitsK kindK
  cases findK ks id with
  | none => simp only [reduceCtorEq, false_and, exists_false, false_iff]; omega
  | some k =>
    simp only [Option.some.injEq]
    constructor
    · rintro ⟨_, rfl, _, h⟩; rw [← h, hk]
    · intro h; exact ⟨k, rfl, fitV_ok _ (List.getElem_mem hi), by rw [hk, h]⟩
open Classical in
theorem SchemaFits_ok {S : Nat → Prop} {kv : Value} {keys : List DKey} {id : Int} {w : World} (hT : Tabs w) (h : RKeys S w kv keys) (hw : (Lit.int .i64 id).wf = true) :
    callK Tryd.prog 3 [kv, .int .i64 id] (fun v w' => v = .bool true ∧ Grow w w') w := by
  apply S3_ok
  unfold S3
  have kn : ∀ {w1 : World}, Grow w w1 → callK Tryd.prog 13 [] (fun v w' => v = .bool true ∧ Grow w w') w1 := fun g => callK_mono known04_ok fun _ _ h => ⟨h.1, g.trans h.2⟩
  refine callK_mono (new_key_ok h) ?_
  rintro _ w1 ⟨g1, hr⟩
  obtain ⟨a, c, rfl, hmx⟩ := h.shape
  rcases hr with ⟨hM, sv, ks, rfl, hp, hs, hS⟩ | ⟨hn, rfl⟩
  rotate_left
  · refine extK_i (vs := [_, _]) (by rfl) (extK_i (vs := [_, _]) (by rfl) ?_)
    refine JoinK_i (fun _ _ => False) (fun _ _ h => h.elim) ?_
    rw [neK_i]
    exact condK_neg (fun e => by cases e) fun _ => kn g1
  refine extK_i (vs := [_, _]) (by rfl) (extK_i (vs := [_, _]) (by rfl) ?_)
  have hkl : ks.length ≤ 64 := by rw [hp.length_eq]; exact hM.1
  have hkind : kindK ks id = 0 ∧ findK ks id = none ∨ ∃ k, findK ks id = some k ∧ k.id = id ∧ kindK ks id = k.kind ∧ 1 ≤ k.kind ∧ k.kind ≤ 4 := by
    unfold kindK
    cases hf : findK ks id with
    | none => exact .inl ⟨rfl, rfl⟩
    | some k =>
      have hm : k ∈ ks := List.mem_of_find?_eq_some hf
      have hid : k.id = id := by have := List.find?_some hf; simpa using this
      have ok := (mayk_iff.1 hM).2.1 k (hp.mem_iff.1 hm)
      exact .inr ⟨k, rfl, hid, rfl, ok.2.2.1, ok.2.2.2.1⟩
  refine JoinK_i (fun _ w2 => w2 = w1) ?_ ?_
  · rintro _ _ rfl _
    rename World => w1
    refine ⟨(⟨1, 0, 0, noS⟩ : AVal).cells.toArray, by kernel_rfl, ⟨(⟨2, -5, 0, noS⟩ : AVal).cells.toArray, by kernel_rfl, ⟨(⟨3, 0, 9221120237041090560, noS⟩ : AVal).cells.toArray, by kernel_rfl, ⟨(⟨4, 0, 0, ByteArray.mk #[97]⟩ : AVal).cells.toArray, by kernel_rfl, ?_⟩⟩⟩⟩
    refine runK_i (v := .agg (fitV.map AVal.cells).flatten.toArray) (w' := w1) (by kernel_rfl) ?_
    refine newst_n (vs := (fitV.map AVal.cells).flatten) rfl rfl (fun u hu => by
      simp only [List.mem_flatten, List.mem_map] at hu
      obtain ⟨l, ⟨v, _, rfl⟩, hu⟩ := hu
      exact AVal.one v u hu) fun b7 w2 hb7 hz7 g7 hc7 _ => ?_
    have hT1 := hT.grow g1
    refine LoopK_i (fun vs W => ∃ i : Nat, i ≤ 4 ∧ vs = [.int .i64 (if 1 ≤ kindK ks id ∧ kindK ks id ≤ i then 1 else 0), .int .i64 i] ∧ Grow w2 W) (fun vs _ => 4 - iOf vs 1) ⟨0, Nat.zero_le _, by rw [if_neg (by omega)]; rfl, Mod.refl _ _⟩ ?_
    rintro vs W ⟨i, hi, rfl, gW⟩ _
    have gS := g7.trans gW
    have hSW := hS.grow gS
    have hTW := hT1.grow gS
    simp only [nth_s, nth_z, List.headD_cons, List.tail_cons]
    rw [ltK_i]
    refine condK_p (fun hlt => ?_) fun hge => ?_
    · have hlt' : i < 4 := by omega
      refine runK_i (run_indexAt_arr (n := 4) (e := 30) (i := Tryd.t30) (s := 4) (by kernel_rfl) (by kernel_rfl) (by kernel_rfl) (by omega) (by omega)) ?_
      rw [Int.toNat_natCast]
      have hcell : ∀ j u, (fitV[i]'hlt').cells[j]? = some u → W.cell? (((⟨b7, 0, none⟩ : Addr).add (i * 4)).add j) = some u := by
        intro j u hu
        have hj : j < 4 := (List.getElem?_eq_some_iff.1 hu).1
        rw [Addr.add_add]
        refine gW.cell (hc7 (i * 4 + j) u ?_) fun h => h
        rcases (show i = 0 ∨ i = 1 ∨ i = 2 ∨ i = 3 by omega) with rfl | rfl | rfl | rfl <;>
          rcases (show j = 0 ∨ j = 1 ∨ j = 2 ∨ j = 3 by omega) with rfl | rfl | rfl | rfl <;> exact hu
      refine ldnK_i (vs := (fitV[i]'hlt').cells) rfl hcell ?_
      have hf0 : 0 ≤ (fitV[i]'hlt').f := fitV_f _ (List.getElem_mem hlt')
      refine callK_mono (sfits_ok hSW hTW hf0) ?_
      rintro _ W2 ⟨rfl, g2⟩
      have gW2 := gW.trans g2
      by_cases hfit : kindK ks id = i + 1
      · rw [decide_eq_true ((fits_fitV hlt').2 hfit)]
        refine condK_t ?_
        rw [if_neg (by omega), addK_i, addK_i, loop_step (by omega)]
        refine ⟨⟨i + 1, hlt', ?_, gW2⟩, by rw [iOf1, iOf1]; omega⟩
        rw [if_pos (by omega)]; rfl
      · rw [decide_eq_false (fun h => hfit ((fits_fitV hlt').1 h))]
        refine condK_f ?_
        rw [addK_i, loop_step (by omega)]
        refine ⟨⟨i + 1, hlt', ?_, gW2⟩, by rw [iOf1, iOf1]; omega⟩
        congr 2
        by_cases hq : 1 ≤ kindK ks id ∧ kindK ks id ≤ i
        · rw [if_pos hq, if_pos (by omega)]
        · rw [if_neg hq, if_neg (by omega)]
    · have : i = 4 := by omega
      subst this
      refine callK_mono (sfind_ok hSW id) ?_
      rintro _ W2 ⟨rfl, g2⟩
      refine extK_i (vs := [_, _]) (by rfl) (extK_i (vs := [_, _]) (by rfl) ?_)
      generalize hk : (findK ks id).getD DKey.zero = k
      refine newst_n (vs := k.cells) rfl rfl (RKey.one (w := w) (x := k) rfl) fun b5 W3 hb5 hz5 g5 hc5 _ => ?_
      have g13 := g2.trans g5
      have gS3 := gS.trans g13
      -- what no value of a key has
      have nofit : ∀ x : AVal, ¬ ValOK x → 0 ≤ x.f → ∀ {W' : World} {K : Cont}, Grow w1 W' → (∀ W'', Grow w1 W'' → K (.bool false) W'') → callK Tryd.prog 14 [sv, .int .i64 id, .agg x.cells.toArray] K W' := by
        intro x hx hf W' K g' hK
        refine callK_mono (sfits_ok (hS.grow g') (hT1.grow g') hf) ?_
        rintro _ W'' ⟨rfl, g''⟩
        rw [decide_eq_false (by rintro ⟨_, _, h, _⟩; exact hx h)]
        exact hK _ (g'.trans g'')
      have tail : ∀ {W' : World}, Grow w1 W' → buildK [(0, 1), (1, 1), (2, 1), (3, 1)] [(.int .u8 0), (.int .i64 0), (.int .u64 0), (.string (ByteArray.mk #[]))] [] fun t73 =>
          callK Tryd.prog 14 [sv, .int .i64 id, t73] (fun t74 w13 =>
          notK t74 fun t75 =>
          condK t75
          (buildK [(0, 1), (1, 1), (2, 1), (3, 1)] [(.int .u8 0), (.int .i64 0), (.int .u64 0), (.string (ByteArray.mk #[]))] [(0, (.int .u8 3)), (2, (.int .u64 9221120237041090561))] fun t80 =>
          callK Tryd.prog 14 [sv, .int .i64 id, t80] (fun t81 w14 =>
          notK t81 fun t82 =>
          condK t82
          (callK Tryd.prog 13 [] (fun t85 w15 => t85 = .bool true ∧ Grow w w15) w14)
          ((Value.bool false) = .bool true ∧ Grow w w14)) w13)
          ((Value.bool false) = .bool true ∧ Grow w w13)) W' := by
        intro W' g'
        refine ⟨(⟨0, 0, 0, noS⟩ : AVal).cells.toArray, by kernel_rfl, ?_⟩
        refine nofit ⟨0, 0, 0, noS⟩ (by decide +kernel) (by decide) g' fun W2' g2' => ?_
        rw [notK_i]
        refine condK_t ⟨(⟨3, 0, 9221120237041090561, noS⟩ : AVal).cells.toArray, by kernel_rfl, ?_⟩
        refine nofit ⟨3, 0, 9221120237041090561, noS⟩ (by decide +kernel) (by decide) g2' fun W3' g3' => ?_
        rw [notK_i]
        exact condK_t (kn (g1.trans g3'))
      rcases hkind with ⟨h0, hf⟩ | ⟨k', hf, hid, hkk, h1, h4⟩
      · rw [hf, h0, if_neg (by omega), eqK_i, Option.isSome_none, beqK_i]
        refine condK_t ?_
        rw [eqK_i]
        refine condK_p (fun _ => ?_) fun e => (e rfl).elim
        rw [notK_i]
        exact condK_t (tail gS3)
      · rw [hf] at hk
        simp only [Option.getD_some] at hk
        subst hk
        rw [hf, hkk, if_pos (by omega), eqK_i, Option.isSome_some, beqK_i]
        refine condK_t ?_
        rw [eqK_i]
        refine condK_p (fun e => by cases e) fun _ => ?_
        rw [eqK_i]
        refine condK_p (fun _ => ?_) fun e => (e rfl).elim
        rw [notK_i]
        refine condK_f ?_
        rw [faK_i]
        refine ld1K_i (hc5 0 _ rfl) ?_
        rw [eqK_i]
        exact condK_p (fun _ => tail gS3) fun e => (e hid).elim
  · rw [neK_i]
    refine condK_neg (fun _ => ?_) fun e => (e rfl).elim
    rw [lenK_i, gtK_i]
    refine condK_p (fun hbig => ?_) fun _ => rfl
    have := hM.1; omega
end Go.Proofs.YtmfplfaeibehiaaDoor

namespace Go.Proofs.YtmfplfaeibehiaaDoor
open Go Go.K

theorem encA_len {a : Attr} : (encA a).length ≤ 50 + a.val.s.size := by
  have h1 := (uvB_len 9 (zigN a.key)).2
  have h2 := (uvB_len 9 a.val.kind.toNat).2
  have h3 := (uvB_len 9 (zigN a.val.n)).2
  have h4 := (uvB_len 9 a.val.f.toNat).2
  have h5 := (uvB_len 9 a.val.s.size).2
  simp only [encA, List.length_append, uv, bytesL_len]
  omega
theorem encS_len : ∀ {l : List Attr}, (∀ a ∈ l, a.val.s.size ≤ 64) → (encS l).length ≤ 114 * l.length := by
  intro l
  induction l with
  | nil => intro _; simp [encS]
  | cons a l ih =>
    intro h
    have h1 := @encA_len a
    have h2 := h a List.mem_cons_self
    have h3 := ih fun x hx => h x (List.mem_cons_of_mem _ hx)
    simp only [encS, List.flatMap_cons, List.length_append, List.length_cons] at *
    omega
theorem OBytes.low {B B' : Nat} {w : World} {v : Value} {l : List Int} (h : OBytes B w v l) (hb : B' ≤ B) : OBytes B' w v l := h.base fun g hg => by have := (OwnR.ownB h g hg).1; omega
theorem text_set {S : Nat → Prop} {v : Value} {l : List Attr} {w : World} (h : RSet S w v l) (hI : ∀ a ∈ l, InA a) (hs : ∀ a ∈ l, a.val.s.size ≤ 64) (hl : l.length ≤ 64) :
    callK Tryd.prog 50 [v] (fun v' w' => v' = .string (textOf l) ∧ Grow w w') w := by
  apply S50_ok
  unfold S50
  obtain ⟨a, c, rfl, _⟩ := h.shape
  rw [lenK_i]
  refine LoopK_i (fun vs W => ∃ (i : Nat) (lv : Value), i ≤ l.length ∧ vs = [lv, .int .i64 i] ∧ OBytes w.heap.size W lv (encS (l.take i)) ∧ Grow w W) (fun vs _ => l.length - iOf vs 1)
    ⟨0, _, Nat.zero_le _, rfl, OwnR.nil, Mod.refl _ _⟩ ?_
  rintro vs W ⟨i, lv, hi, rfl, ho, g⟩ _
  simp only [nth_s, nth_z, List.headD_cons, List.tail_cons]
  rw [ltK_i]
  refine condK_p (fun hlt => ?_) fun hge => ?_
  · have hlt' : i < l.length := by omega
    have hia := hI l[i] (List.getElem_mem hlt')
    have hsa := hs l[i] (List.getElem_mem hlt')
    have hlen : (encS (l.take i)).length ≤ 114 * i := by
      have := @encS_len (l.take i) fun a ha => hs a (List.mem_of_mem_take ha)
      rw [List.length_take] at this
      omega
    have htk : encS (l.take (i + 1)) = encS (l.take i) ++ encA l[i] := by
      have e : l.take (i + 1) = l.take i ++ [l[i]] := by rw [List.take_add_one, List.getElem?_eq_getElem hlt']; rfl
      rw [e]
      unfold encS
      rw [List.flatMap_append]
      simp only [List.flatMap_cons, List.flatMap_nil, List.append_nil]
    obtain ⟨p, r, rfl, _, hr, hc, rfl⟩ := (h.grow g (by decide) fun _ _ h => h).get hlt'
    generalize l[i] = x at *
    obtain ⟨i1, i2, i3, i4, i5⟩ := hia
    refine ixK_n hlt' (ldnK_i hr (fun j u hu => by rw [Addr.add_add]; exact hc j u hu) ?_)
    refine newst_n (vs := x.cells) rfl rfl (RAttr.one (w := w) (x := x) rfl) fun b5 W1 hb5 hz5 g5 hc5 _ => ?_
    have q0 := hc5 0 _ rfl
    have q1 := hc5 1 _ rfl
    have q2 := hc5 2 _ rfl
    have q3 := hc5 3 _ rfl
    have q4 := hc5 4 _ rfl
    have gW1 := g.trans g5
    have o1 : OBytes w.heap.size W1 lv (encS (l.take i)) := OwnR.mod ho g5 (fun _ _ h => h) fun _ _ _ h => h
    rw [faK_i]
    refine ld1K_i q0 ?_
    refine callK_mono (aint_ok o1.sl (by omega) i1.1 i1.2) ?_
    rintro v2 W2 ⟨o2, g2⟩
    have hul : ∀ n, (uv n).length ≤ 10 := fun n => (uvB_len 9 n).2
    have u1 := hul (zigN x.key)
    have u2 := hul x.val.kind.toNat
    have u3 := hul (zigN x.val.n)
    have u4 := hul x.val.f.toNat
    rw [faK_i, faK_i, Addr.add_add]
    refine ld1K_i (g2.cell q1 fun h => h) ?_
    refine runK_i (run_conv (k := .u64) W2 (by kernel_rfl) (by kernel_rfl)) ?_
    rw [wrapu64 ⟨i2.1, by omega⟩]
    have ek : (Value.int .u64 x.val.kind) = .int .u64 ((x.val.kind.toNat : Nat) : Int) := by rw [Int.toNat_of_nonneg i2.1]
    rw [ek]
    refine callK_mono (auint_ok o2.sl (by simp only [List.length_append]; omega) (by omega)) ?_
    rintro v3 W3 ⟨o3, g3⟩
    have g13 := g2.trans g3
    rw [faK_i, faK_i, Addr.add_add]
    refine ld1K_i (g13.cell q2 fun h => h) ?_
    refine callK_mono (aint_ok o3.sl (by simp only [List.length_append]; omega) i3.1 i3.2) ?_
    rintro v4 W4 ⟨o4, g4⟩
    have g14 := g13.trans g4
    rw [faK_i, faK_i, Addr.add_add]
    refine ld1K_i (g14.cell q3 fun h => h) ?_
    have ef : (Value.int .u64 x.val.f) = .int .u64 ((x.val.f.toNat : Nat) : Int) := by rw [Int.toNat_of_nonneg i4.1]
    rw [ef]
    refine callK_mono (auint_ok o4.sl (by simp only [List.length_append]; omega) (by omega)) ?_
    rintro v5 W5 ⟨o5, g5'⟩
    have g15 := g14.trans g5'
    rw [faK_i, faK_i, Addr.add_add]
    refine ld1K_i (g15.cell q4 fun h => h) ?_
    refine strbytes (by omega) fun v6 W6 g6 hb6 => ?_
    have g16 := g15.trans g6
    have o6 : OBytes W4.heap.size W6 v5 _ := OwnR.mod (R' := RByte) o5 g6 (fun _ _ h => h) fun _ _ _ h => h
    refine callK_mono (abytes_ok o6.sl hb6 (by simp only [List.length_append, bytesL_len]; omega)) ?_
    rintro v7 W7 ⟨o7, g7⟩
    have g17 := g16.trans g7
    rw [addK_i, loop_step (by omega)]
    refine ⟨⟨i + 1, v7, hlt', rfl, ?_, gW1.trans g17⟩, by rw [iOf1, iOf1]; omega⟩
    rw [htk]
    have e7 : encS (l.take i) ++ encA x = encS (l.take i) ++ uv (zigN x.key) ++ uv x.val.kind.toNat ++ uv (zigN x.val.n) ++ uv x.val.f.toNat ++ (uv (bytesL x.val.s).length ++ bytesL x.val.s) := by
      rw [bytesL_len]; simp only [encA, List.append_assoc]
    rw [e7]
    exact o7.low (Nat.le_trans gW1.size g16.size)
  · have : i = l.length := by omega
    subst this
    rw [List.take_length] at ho
    exact runK_i (run_str ho.sl (encS_byte hI)) ⟨rfl, g⟩
/-- attrs.May -/
theorem smay_ok {D S : Nat → Prop} {sv v : Value} {ks : List DKey} {l : List Attr} {w : World} (hS : SchR D w sv ks) (h : RSet S w v l) (hT : Tabs w) (hI : ∀ a ∈ l, 0 ≤ a.val.f) :
    callK Tryd.prog 49 [sv, v] (fun v' w' => v' = .int .i64 (maySet ks l) ∧ Grow w w') w := by
  classical
  apply S49_ok
  unfold S49
  obtain ⟨a, c, rfl, hm⟩ := h.shape
  simp only [maxLen] at hm
  have bad : ∀ w', Grow w w' → SetBad l → Value.int .i64 3 = .int .i64 (maySet ks l) ∧ Grow w w' := fun w' g hb => ⟨by rw [maySet, if_pos hb], g⟩
  rw [lenK_i, gtK_i]
  refine condK_p (fun h6 => bad _ (Mod.refl _ _) (.inr (.inl (by omega)))) fun h6 => ?_
  rw [lenK_i]
  refine LoopK_i (fun vs W => ∃ i : Nat, i ≤ l.length ∧ vs = [.int .i64 (if SetNoKey ks (l.take i) then 4 else 0), .int .i64 i] ∧ Grow w W ∧ (∀ a ∈ l.take i, ValOK a.val) ∧ RisN Attr.key l i) (fun vs _ => l.length - iOf vs 1)
    ⟨0, Nat.zero_le _, by rw [if_neg (by rintro ⟨a, ha, _⟩; simp at ha)]; rfl, Mod.refl _ _, by simp, fun j hj => by omega⟩ ?_
  rintro vs W ⟨i, hi, rfl, g, hv, hris⟩ _
  simp only [nth_s, nth_z, List.headD_cons, List.tail_cons]
  rw [ltK_i]
  refine condK_p (fun hlt => ?_) fun hge => ?_
  · have hlt' : i < l.length := by omega
    obtain ⟨p, r, rfl, _, hr, hc, rfl⟩ := (h.grow g (by decide) fun _ _ h => h).get hlt'
    refine ixK_n hlt' (ldnK_i hr (fun j u hu => by rw [Addr.add_add]; exact hc j u hu) ?_)
    refine newst_n (vs := l[i].cells) rfl rfl (RAttr.one (w := w) (x := l[i]) rfl) fun b7 W1 hb7 hz7 g7 hc7 _ => ?_
    have gW1 := g.trans g7
    have hf0 := hI l[i] (List.getElem_mem hlt')
    have e1 : l.take (i + 1) = l.take i ++ [l[i]] := by rw [List.take_add_one, List.getElem?_eq_getElem hlt']; rfl
    refine JoinK_i (fun vs W2 => Grow W1 W2 ∧ ((vs = [.bool true] ∧ SetBad l) ∨ (vs = [.bool false] ∧ ValOK l[i].val ∧ RisN Attr.key l (i + 1)))) ?_ ?_
    · rintro vs W2 ⟨g2, hvs⟩ _
      rcases hvs with ⟨rfl, hb⟩ | ⟨rfl, hok, hrs⟩
      · exact condK_t (bad _ (gW1.trans g2) hb)
      · refine condK_f ?_
        rw [faK_i]
        refine ld1K_i (g2.cell (hc7 0 _ rfl) fun h => h) ?_
        rw [faK_i]
        refine ldnK_i (vs := l[i].val.cells) rfl (fun j u hu => g2.cell (by rw [Addr.add_add]; exact hc7 (1 + j) u (by rw [Nat.add_comm]; exact hu)) fun h => h) ?_
        refine callK_mono (sfits_ok (hS.grow (gW1.trans g2)) (hT.grow (gW1.trans g2)) hf0) ?_
        rintro _ W3 ⟨rfl, g3⟩
        have g03 := (gW1.trans g2).trans g3
        rw [notK_i]
        have hv' : ∀ a ∈ l.take (i + 1), ValOK a.val := fun a ha => by
          rw [e1] at ha
          rcases List.mem_append.1 ha with ha | ha
          · exact hv a ha
          · simp at ha; subst ha; exact hok
        by_cases hfit : FitsK ks l[i].key l[i].val
        · rw [decide_eq_true hfit]
          refine condK_f ?_
          rw [addK_i, loop_step (by omega)]
          refine ⟨⟨i + 1, hlt', ?_, g03, hv', hrs⟩, by rw [iOf1, iOf1]; omega⟩
          have e : SetNoKey ks (l.take (i + 1)) ↔ SetNoKey ks (l.take i) := by
            unfold SetNoKey
            rw [e1]
            constructor
            · rintro ⟨a, ha, hn⟩
              rcases List.mem_append.1 ha with ha | ha
              · exact ⟨a, ha, hn⟩
              · simp at ha; subst ha; exact absurd hfit hn
            · rintro ⟨a, ha, hn⟩; exact ⟨a, List.mem_append_left _ ha, hn⟩
          simp only [e]
        · rw [decide_eq_false hfit]
          refine condK_t ?_
          rw [addK_i, loop_step (by omega)]
          refine ⟨⟨i + 1, hlt', ?_, g03, hv', hrs⟩, by rw [iOf1, iOf1]; omega⟩
          rw [if_pos (show SetNoKey ks (l.take (i + 1)) from ⟨l[i], by rw [e1]; exact List.mem_append_right _ (List.mem_singleton.2 rfl), hfit⟩)]
    · refine drawC_i (fun _ _ => False) ?_
      have gd : Grow W1 W1.drew := Mod.drew _ _
      -- whether the value may be
      have vmay : RisN Attr.key l (i + 1) → faK 1 (.pointer (some (⟨b7, 0, none⟩ : Addr))) fun t33 => sldn (StI [16] [[], [0], [0, 1], [0, 1, 2], [0, 1, 2], [0, 1, 2, 4], [0, 1, 2, 3, 4, 5], [0, 1, 2, 3, 4, 5, 6], [0, 1, 2, 3, 4, 5, 6, 7], [0, 1, 2], [0, 1, 2, 9], [0, 1, 2, 3, 4, 5, 6, 7, 8, 9, 10], [0, 1, 2, 3, 4, 5, 6, 7, 8, 9, 10, 11], [0, 1, 2, 3, 4, 5, 6, 7, 8, 9, 10, 11, 12], [0, 1, 2, 3, 4, 5, 6, 7, 8, 9, 10, 11, 12, 13], [0, 1, 2, 3, 4, 5, 6, 7, 8, 9, 10, 11, 12, 13, 14], [0, 1, 2, 3, 4, 5, 6, 7, 8, 9, 10, 11, 12, 13, 14, 15], [0, 1, 2, 3, 4, 5, 6, 7, 8, 9, 10, 11, 12, 13, 14, 15, 16], [0, 1, 2, 3, 4, 5, 6, 7, 8, 9, 10, 11, 12, 13, 14, 15, 16, 17], [0, 1, 2, 3, 4, 5, 6, 7, 8, 9, 10, 11, 12, 13, 14, 15, 16, 17, 18]] (fun _ _ => False) W1.drew 15) 4 t33 fun t34 =>
          callK Tryd.prog 46 [t34] (fun t35 w9 => Mod (fun _ => False) W1.drew w9 ∧ notK t35 fun t36 => (fun vs W2 => Grow W1 W2 ∧ ((vs = [.bool true] ∧ SetBad l) ∨ (vs = [.bool false] ∧ ValOK l[i].val ∧ RisN Attr.key l (i + 1)))) [t36] w9) W1.drew := by
        intro hrs
        rw [faK_i]
        refine sldn_i (vs := l[i].val.cells) rfl (fun j u hu => ⟨gd.cell (by rw [Addr.add_add]; exact hc7 (1 + j) u (by rw [Nat.add_comm]; exact hu)) fun h => h, fun _ _ h => h⟩) ?_
        refine callK_mono (vmay_ok (hT.grow (gW1.trans gd)) hf0) ?_
        rintro _ W3 ⟨rfl, g3⟩
        refine ⟨g3, ?_⟩
        rw [notK_i]
        refine ⟨gd.trans g3, ?_⟩
        by_cases hok : ValOK l[i].val
        · exact .inr ⟨by rw [decide_eq_true hok]; rfl, hok, hrs⟩
        · exact .inl ⟨by rw [decide_eq_false hok]; rfl, .inr (.inr ⟨l[i], List.getElem_mem hlt', hok⟩)⟩
      rw [gtK_i]
      refine condK_p (fun hi0 => ?_) fun hi0 => vmay (fun j hj => by omega)
      rw [subK_i, wrap64 (by omega) (by omega), show ((i : Int) - 1) = ((i - 1 : Nat) : Int) by omega]
      have hi1 : i - 1 < l.length := by omega
      obtain ⟨_, r2, e2, _, hr2, hc2, rfl⟩ := (h.grow g (by decide) fun _ _ h => h).get hi1
      cases e2
      refine ixK_n hi1 ?_
      rw [faK_i, Addr.add_add]
      refine sld1_i ⟨(g7.trans gd).cell (hc2 0 _ rfl) fun h => h, fun _ _ h => h⟩ ?_
      rw [faK_i]
      refine sld1_i ⟨gd.cell (hc7 0 _ rfl) fun h => h, fun _ _ h => h⟩ ?_
      rw [geK_i]
      refine condK_p (fun hge => ⟨gd, .inl ⟨rfl, .inl fun hr => ?_⟩⟩) fun hlt2 => vmay ?_
      · have := hr i (by omega) hlt' _ _ (List.getElem?_eq_getElem hi1) (List.getElem?_eq_getElem hlt')
        omega
      · intro j hj1 hj2 x y hx hy
        by_cases hji : j < i
        · exact hris j hj1 hji x y hx hy
        · have : j = i := by omega
          subst this
          rw [List.getElem?_eq_getElem hi1] at hx
          rw [List.getElem?_eq_getElem hlt'] at hy
          cases hx; cases hy
          omega
  · have : i = l.length := by omega
    subst this
    rw [List.take_length] at hv
    refine ⟨?_, g⟩
    have ok : ¬ SetBad l := by
      rintro (h | h | ⟨a, ha, h⟩)
      · exact h hris
      · omega
      · exact h (hv a ha)
    rw [List.take_length, maySet, if_neg ok]
end Go.Proofs.YtmfplfaeibehiaaDoor

namespace Go.K
open Go
/-- 'append([]T{}, xs...)' -/
theorem append_fresh {α : Type} {P : Program} {t ty e k bytes : Nat} {R : World → List Value → α → Prop} {S : Nat → Prop} {w : World} {v : Value} {l : List α} {K : Cont} (hE : ElemOK P t e k bytes) (h : SlR S k R w v l) (hk : 0 < k)
    (hone : ∀ w r y, R w r y → ∀ u ∈ r, u.oneCell' = true) (hR : ∀ w1 w2 r y, R w1 r y → R w2 r y) (hl : l.length * bytes ≤ 140737488355328) (hm : l.length ≤ maxLen)
    (hK : ∀ v' w', OwnR w.heap.size e k R w' v' l → Grow w w' → K v' w') : rowK e k 0 [] [] (fun s w1 => runK P (Builtin.append_ #[t, t] ty [s, v].toArray) K w1) w := by
  refine rowK_empty ?_
  have hg : Grow w (w.alloc (.cells #[] e)) := Mod.alloc _ _ _
  have ho : OwnR w.heap.size e k R (w.alloc (.cells #[] e)) (.slice (some ⟨w.heap.size, 0, none⟩) 0 0) ([] : List α) := OwnR.made (Nat.le_refl _)
  obtain ⟨v', w', h1, h2, h3, h4⟩ := OwnR.append (ty := ty) hE ho (h.grow hg hk fun _ _ h => hR _ _ _ _ h) (fun _ _ => hone _ _ _) (by simpa using hl) (by simp) (by simpa using hm) (fun _ _ _ _ h => hR _ _ _ _ h)
  refine runK_i h1 (hK _ _ (h2.base fun g hg' => ?_) (hg.next (Mod.of_grownBy h3) ?_))
  · rcases h4 g hg' with h | h
    · cases h; exact Nat.le_refl _
    · simp only [World.size_alloc] at h; omega
  · intro b hb e; simp only [Value.ownBlock, Option.some.injEq] at e; omega
end Go.K
namespace Go.Proofs.YtmfplfaeibehiaaDoor
open Go Go.K

/-- the keys by rising ids -/
def sortedK (keys : List DKey) : List DKey := (List.range 1000).filterMap fun i : Nat => findK keys ((i : Int) + 1)
theorem findK_id {keys : List DKey} {id : Int} {k : DKey} (h : findK keys id = some k) : k.id = id := by
  have := List.find?_some h; simpa using this
theorem sortedK_eq {keys ks : List DKey} (hM : MayKeys keys) (hp : ks.Perm keys) (hs : ks.Pairwise fun x y => x.id < y.id) : sortedK keys = ks := by
  obtain ⟨_, h2, h3⟩ := mayk_iff.1 hM
  have hpw : (sortedK keys).Pairwise fun x y => x.id < y.id := by
    unfold sortedK
    rw [List.pairwise_filterMap]
    refine List.Pairwise.imp ?_ List.pairwise_lt_range
    intro a b hab x hx y hy
    have := findK_id hx
    have := findK_id hy
    omega
  refine strict_uniq ?_ hpw hs
  have nd : ∀ {l : List DKey}, (l.Pairwise fun x y => x.id < y.id) → l.Nodup := fun h => List.Pairwise.imp (fun {x y} h e => by rw [e] at h; omega) h
  refine (List.perm_ext_iff_of_nodup (nd hpw) (nd hs)).2 fun k => ?_
  rw [hp.mem_iff]
  unfold sortedK
  rw [List.mem_filterMap]
  constructor
  · rintro ⟨i, _, h⟩
    exact List.mem_of_find?_eq_some h
  · intro hk
    have ok := h2 k hk
    have := ok.1
    have := ok.2.1
    refine ⟨(k.id - 1).toNat, List.mem_range.2 (by omega), ?_⟩
    rw [findK_iff h3]
    exact ⟨hk, by omega⟩
set_option maxRecDepth 20000 in
theorem rkeys_ok {S : Nat → Prop} {kv : Value} {keys : List DKey} {w : World} (h : RKeys S w kv keys) :
    callK Tryd.prog 18 [kv] (fun v' w' => OwnR w.heap.size 34 6 RKey w' v' (sortedK keys) ∧ Grow w w') w := by
  apply S18_ok
  unfold S18
  refine LoopK_i (fun vs W => ∃ (i : Nat) (lv : Value), i ≤ 1000 ∧ vs = [lv, .int .i64 ((i : Int) + 1)] ∧ OwnR w.heap.size 34 6 RKey W lv ((List.range i).filterMap fun i : Nat => findK keys ((i : Int) + 1)) ∧ Grow w W) (fun vs _ => 1001 - iOf vs 1)
    ⟨0, _, Nat.zero_le _, rfl, OwnR.nil, Mod.refl _ _⟩ ?_
  rintro vs W ⟨i, lv, hi, rfl, ho, g⟩ _
  simp only [nth_s, nth_z, List.headD_cons, List.tail_cons]
  rw [leK_i]
  refine condK_p (fun hle => ?_) fun hgt => ?_
  · refine callK_mono (find_ok (h.grow g (by decide) fun _ _ h => h)) ?_
    rintro _ W1 ⟨rfl, g1⟩
    refine extK_i (vs := [_, _]) (by rfl) (extK_i (vs := [_, _]) (by rfl) ?_)
    generalize hk : (findK keys ((i : Int) + 1)).getD DKey.zero = k
    refine newst_n (vs := k.cells) rfl rfl (RKey.one (w := w) (x := k) rfl) fun b5 W2 hb5 hz5 g5 hc5 _ => ?_
    have g12 := g1.trans g5
    have gW := g.trans g12
    have ho2 : OwnR w.heap.size 34 6 RKey W2 lv ((List.range i).filterMap fun i : Nat => findK keys ((i : Int) + 1)) := OwnR.mod ho g12 (fun _ _ h => h) fun _ _ _ h => h
    have hlen : ((List.range i).filterMap fun i : Nat => findK keys ((i : Int) + 1)).length ≤ i := by
      have := List.length_filterMap_le (fun i : Nat => findK keys ((i : Int) + 1)) (List.range i)
      rwa [List.length_range] at this
    have hstep : ((List.range (i + 1)).filterMap fun i : Nat => findK keys ((i : Int) + 1)) = ((List.range i).filterMap fun i : Nat => findK keys ((i : Int) + 1)) ++ (findK keys ((i : Int) + 1)).toList := by
      rw [List.range_succ, List.filterMap_append]
      cases hq : findK keys ((i : Int) + 1) <;> simp [hq]
    cases hf : findK keys ((i : Int) + 1) with
    | none =>
      rw [Option.isSome_none]
      refine condK_f ?_
      rw [addK_i, wrap64 (by omega) (by omega)]
      refine ⟨⟨i + 1, lv, by omega, rfl, ?_, gW⟩, by rw [iOf1, iOf1]; omega⟩
      rw [hstep, hf]; simpa using ho2
    | some k' =>
      rw [hf] at hk
      simp only [Option.getD_some] at hk
      subst hk
      rw [Option.isSome_some]
      refine condK_t ?_
      refine ldnK_i (vs := k'.cells) rfl hc5 ?_
      refine push_n (w0 := w) elem_key ho2 gW (cs := k'.cells) (x := k') (by kernel_rfl) rfl rfl (fun _ _ _ => RKey.one) (fun _ _ _ _ _ _ h => h) (by omega) (by simp only [maxLen]; omega) fun v' w' o' g' => ?_
      rw [addK_i, wrap64 (by omega) (by omega)]
      refine ⟨⟨i + 1, v', by omega, rfl, ?_, g'⟩, by rw [iOf1, iOf1]; omega⟩
      rw [hstep, hf]; exact o'
  · have : i = 1000 := by omega
    subst this
    exact ⟨ho, g⟩
/-- the document's group -/
theorem rgroup_ok {S : Nat → Prop} {kv : Value} {keys ks : List DKey} {id : Int} {w : World} (h : RKeys S w kv keys) (hM : MayKeys keys) (hp : ks.Perm keys) (hs : ks.Pairwise fun x y => x.id < y.id) :
    callK Tryd.prog 22 [kv, .int .i64 id] (fun v' w' => OwnR w.heap.size 3 1 RNum w' v' (groupK ks id) ∧ Grow w w') w := by
  apply S22_ok
  unfold S22
  have hse := sortedK_eq hM hp hs
  have hfp : findK keys id = findK ks id := (findK_perm hp (strict_dist hs) id).symm
  have hkl : ks.length ≤ 64 := by rw [hp.length_eq]; exact hM.1
  refine callK_mono (find_ok h) ?_
  rintro _ w1 ⟨rfl, g1⟩
  rw [hfp]
  refine extK_i (vs := [_, _]) (by rfl) (extK_i (vs := [_, _]) (by rfl) ?_)
  generalize hk : (findK ks id).getD DKey.zero = k
  refine newst_n (vs := k.cells) rfl rfl (RKey.one (w := w) (x := k) rfl) fun b5 w2 hb5 hz5 g5 hc5 _ => ?_
  have g12 := g1.trans g5
  refine callK_mono (rkeys_ok (h.grow g12 (by decide) fun _ _ h => h)) ?_
  rintro lv w3 ⟨ol, g3⟩
  rw [hse] at ol
  have g03 := g12.trans g3
  have hl := OwnR.sl ol
  obtain ⟨la, lc, rfl, hm⟩ := hl.shape
  have hc5' : ∀ j u, k.cells[j]? = some u → w3.cell? ((⟨b5, 0, none⟩ : Addr).add j) = some u := fun j u hu => g3.cell (hc5 j u hu) fun h => h
  cases hf : findK ks id with
  | none =>
    rw [Option.isSome_none]
    refine LoopK_i (fun vs W => vs = [.slice none 0 0, .int .i64 0] ∧ W = w3) (fun _ _ => 0) ⟨rfl, rfl⟩ ?_
    rintro _ _ ⟨rfl, rfl⟩ _
    refine JoinK_i (fun _ _ => False) (fun _ _ h => h.elim) ?_
    refine condK_f ⟨?_, g03⟩
    have : groupK ks id = [] := by unfold groupK; rw [hf]
    rw [this]; exact OwnR.nil
  | some k' =>
    rw [hf] at hk
    simp only [Option.getD_some] at hk
    subst hk
    rw [Option.isSome_some]
    have c5 := hc5' 5 _ rfl
    by_cases h0 : k'.group = 0
    · refine LoopK_i (fun vs W => vs = [.slice none 0 0, .int .i64 0] ∧ W = w3) (fun _ _ => 0) ⟨rfl, rfl⟩ ?_
      rintro _ _ ⟨rfl, rfl⟩ _
      refine JoinK_i (fun _ _ => False) (fun _ _ h => h.elim) ?_
      refine condK_t ?_
      rw [faK_i]
      refine ld1K_i c5 ?_
      rw [neK_i]
      refine condK_neg (fun _ => ⟨?_, g03⟩) fun e => (e h0).elim
      have : groupK ks id = [] := by unfold groupK; rw [hf]; exact if_pos h0
      show OwnR _ _ _ _ _ (Value.slice none 0 0) _
      rw [this]; exact OwnR.nil
    have hG : groupK ks id = (ks.filter fun o => decide (o.group = k'.group ∧ o.id ≠ id)).map (·.id) := by
      unfold groupK; rw [hf]; exact if_neg h0
    rw [hG]
    generalize hp' : (fun o : DKey => decide (o.group = k'.group ∧ o.id ≠ id)) = p
    have hpd : ∀ o : DKey, p o = true ↔ o.group = k'.group ∧ o.id ≠ id := fun o => by rw [← hp']; exact decide_eq_true_iff
    refine LoopK_i (fun vs W => ∃ (i : Nat) (ov : Value), i ≤ ks.length ∧ vs = [ov, .int .i64 i] ∧ OwnR w3.heap.size 3 1 RNum W ov (((ks.take i).filter p).map (·.id)) ∧ Grow w3 W) (fun vs _ => ks.length - iOf vs 1)
      ⟨0, _, Nat.zero_le _, rfl, OwnR.nil, Mod.refl _ _⟩ ?_
    rintro vs W ⟨i, ov, hi, rfl, ho, gW⟩ _
    have g0W := g03.trans gW
    simp only [nth_s, nth_z, List.headD_cons, List.tail_cons]
    refine JoinK_i (fun _ W' => i < ks.length ∧ W' = W) ?_ ?_
    · rintro _ _ ⟨hlt, rfl⟩ _
      rename World => W
      obtain ⟨q, r, rfl, _, hr, hc, rfl⟩ := (hl.grow gW (by decide) fun _ _ h => h).get hlt
      have hlen : (((ks.take i).filter p).map (·.id)).length ≤ i := by
        rw [List.length_map]
        refine Nat.le_trans (List.length_filter_le _ _) ?_
        rw [List.length_take]; omega
      have tk : ks.take (i + 1) = ks.take i ++ [ks[i]] := by rw [List.take_add_one, List.getElem?_eq_getElem hlt]; rfl
      refine JoinK_i (fun vs W' => ∃ ov', vs = [ov'] ∧ OwnR w3.heap.size 3 1 RNum W' ov' (((ks.take (i + 1)).filter p).map (·.id)) ∧ Grow w3 W') ?_ ?_
      · rintro vs W' ⟨ov', rfl, o', g'⟩ _
        rw [addK_i, loop_step (by omega)]
        exact ⟨⟨i + 1, ov', hlt, rfl, o', g'⟩, by rw [iOf1, iOf1]; omega⟩
      · have skip : ¬ (p ks[i] = true) → (((ks.take (i + 1)).filter p).map (·.id)) = (((ks.take i).filter p).map (·.id)) := fun hn => by
          rw [tk, List.filter_append]; simp [hn]
        refine drawK_i (fun W' => Grow W W') (Mod.drew _ _) ?_
        refine ixK_n hlt ?_
        rw [faK_i, Addr.add_add]
        refine qld1K_i (fun w2 g2 => g2.cell (hc 5 _ rfl) fun h => h) ?_
        rw [faK_i]
        refine qld1K_i (fun w2 g2 => g2.cell (gW.cell c5 fun h => h) fun h => h) ?_
        rw [eqK_i]
        refine condK_p (fun hg => ?_) fun hg => fun W' g' => ?_
        · refine ixK_n hlt ?_
          rw [faK_i, Addr.add_add]
          refine qld1K_i (fun w2 g2 => g2.cell (hc 0 _ rfl) fun h => h) ?_
          rw [neK_i]
          intro W' g'
          have ho' : OwnR w3.heap.size 3 1 RNum W' ov (((ks.take i).filter p).map (·.id)) := OwnR.mod ho g' (fun _ _ h => h) fun _ _ _ h => h
          refine condK_neg (fun he => ?_) fun he => ?_
          · exact ⟨ov, rfl, by rw [skip (fun h => ((hpd _).1 h).2 he)]; exact ho', gW.trans g'⟩
          · refine ixK_n hlt ?_
            rw [faK_i, Addr.add_add]
            refine ld1K_i (g'.cell (hc 0 _ rfl) fun h => h) ?_
            refine push_n (w0 := w3) elem_int ho' (gW.trans g') (cs := [.int .i64 ks[i].id]) (x := ks[i].id) (by kernel_rfl) rfl rfl (fun _ _ _ => RNum.one) (fun _ _ _ _ _ _ h => h) (by omega) (by simp only [maxLen]; omega) fun v' w' o' gp => ?_
            refine ⟨v', rfl, ?_, gp⟩
            rw [tk, List.filter_append]
            simpa [(hpd ks[i]).2 ⟨hg, he⟩] using o'
        · have ho' : OwnR w3.heap.size 3 1 RNum W' ov (((ks.take i).filter p).map (·.id)) := OwnR.mod ho g' (fun _ _ h => h) fun _ _ _ h => h
          exact ⟨ov, rfl, by rw [skip (fun h => hg ((hpd _).1 h).1)]; exact ho', gW.trans g'⟩
    · refine condK_t ?_
      rw [faK_i]
      refine ld1K_i (gW.cell c5 fun h => h) ?_
      rw [neK_i]
      refine condK_neg (fun e => (h0 e).elim) fun _ => ?_
      rw [lenK_i, ltK_i]
      refine condK_p (fun hlt => ⟨by omega, rfl⟩) fun hge => ?_
      have : i = ks.length := by omega
      subst this
      rw [List.take_length] at ho
      exact ⟨ho.base fun g hg => by have := (OwnR.ownB ho g hg).1; have := g03.size; omega, g0W⟩
end Go.Proofs.YtmfplfaeibehiaaDoor

namespace Go.K
open Go
/-- a number stored into a row of the call's own -/
theorem row_store {α : Type} {B e k : Nat} {R : World → List Value → α → Prop} {W : World} {a : Addr} {n c : Nat} {l : List α} {i j : Nat} {u : Value} {x' : α} {K : World → Prop} (h : OwnR B e k R W (.slice (some a) n c) l) (hi : i < l.length) (hj : j < k)
    (hu : u.oneCell' = true) (hu2 : u.cells = #[u]) (hR : ∀ w1 w2 r y, R w1 r y → R w2 r y) (hx : ∀ w1 w2 r, R w1 r l[i] → R w2 (r.set j u) x')
    (hK : ∀ W', OwnR B e k R W' (.slice (some a) n c) (l.set i x') → Mod (fun b => b = a.block) W W' → K W') : st1K (.pointer (some (a.add (i * k + j)))) u K W := by
  obtain ⟨⟨v, hv⟩, hf, ho, hm⟩ := OwnR.store (R' := R) (u := u) (x' := x') (j := j) h hi hj hu (fun r y _ hr => hR _ _ _ _ hr) (fun r hr => hx _ _ _ hr)
  exact st1K_i hu hu2 hv hf (hK _ ho hm)
/-- 'for i := range l { l[i].First++ }' -/
theorem inc_loop {α : Type} {B e k : Nat} {R : World → List Value → α → Prop} {w : World} {v : Value} {l : List α} {Rest : World → Prop} (h : OwnR B e k R w v l) (hk : 0 < k) (hl : l.length ≤ 1099511627776)
    (hR : ∀ w1 w2 r y, R w1 r y → R w2 r y) (hget : ∀ y : α, ∃ x, ∀ w r, R w r y → r[0]? = some (.int .i64 x)) (hset : ∀ (y : α) (z : Int), ∃ y' : α, ∀ w1 w2 r, R w1 r y → R w2 (r.set 0 (.int .i64 z)) y')
    (hK : ∀ W l', OwnR B e k R W v l' → Mod (fun b => v.ownBlock = some b) w W → Rest W) :
    LoopK [.int .i64 0] (fun vs again w6 => ∀ _h : Env, ltK .i64 (nth vs 0) (.int .i64 l.length) fun t43 => condK t43
      (ixK k v (nth vs 0) fun t47 => faK 0 t47 fun t48 => ld1K t48 (fun t49 w7 => addK .i64 t49 (.int .i64 1) fun t50 => ixK k v (nth vs 0) fun t51 => faK 0 t51 fun t52 => st1K t52 t50 (fun w8 => addK .i64 (nth vs 0) (.int .i64 1) fun t53 => again [t53] w8) w7) w6) (Rest w6)) w := by
  refine LoopK_i (fun vs W => ∃ (i : Nat) (l' : List α), i ≤ l.length ∧ vs = [.int .i64 i] ∧ l'.length = l.length ∧ OwnR B e k R W v l' ∧ Mod (fun b => v.ownBlock = some b) w W) (fun vs _ => l.length - iOf vs 0) ⟨0, l, Nat.zero_le _, rfl, rfl, h, Mod.refl _ _⟩ ?_
  rintro vs W ⟨i, l', hi, rfl, hl', ho, hm⟩ _
  rw [nth_z, List.headD_cons, ltK_i]
  refine condK_p (fun hlt => ?_) fun hge => hK W l' ho hm
  have hlt' : i < l'.length := by omega
  obtain ⟨a, c, rfl, _⟩ := (OwnR.sl ho).shape
  obtain ⟨p, r, rfl, hp, hr, hc, hRr⟩ := (OwnR.sl ho).get hlt'
  obtain ⟨x, hx⟩ := hget l'[i]
  refine ixK_n hlt' ?_
  rw [faK_i, Addr.add_add]
  refine ld1K_i (hc 0 _ (hx _ _ hRr)) ?_
  rw [addK_i]
  refine ixK_n hlt' ?_
  rw [faK_i, Addr.add_add]
  obtain ⟨y', hy'⟩ := hset l'[i] (IntKind.i64.wrap (x + 1))
  refine row_store ho hlt' hk rfl rfl hR hy' fun W' ho' hm' => ?_
  rw [addK_i, loop_step (by omega)]
  exact ⟨⟨i + 1, _, by omega, rfl, by rw [List.length_set]; exact hl', ho', hm.trans (hm'.mono fun b _ e => by rw [e]; exact hp.2)⟩, by rw [iOf0, iOf0]; omega⟩
end Go.K
namespace Go.Proofs.YtmfplfaeibehiaaDoor
open Go Go.K

theorem key_get (y : DKey) : ∃ x, ∀ (w : World) r, RKey w r y → r[0]? = some (.int .i64 x) := ⟨y.id, fun _ _ e => by rw [e]; rfl⟩
theorem key_set (y : DKey) (z : Int) : ∃ y' : DKey, ∀ (w1 w2 : World) r, RKey w1 r y → RKey w2 (r.set 0 (.int .i64 z)) y' := ⟨{ y with id := z }, fun _ _ _ e => by rw [e]; rfl⟩
theorem set_tail {α : Type} {l' ks : List α} {i : Nat} {y : α} (h : ∀ j, i ≤ j → l'[j]? = ks[j]?) : ∀ j, i + 1 ≤ j → (l'.set i y)[j]? = ks[j]? := fun j hj => by
  rw [List.getElem?_set_ne (by omega)]; exact h j (by omega)
open Classical in
set_option maxRecDepth 20000 in
theorem SchemaKeys_ok {S : Nat → Prop} {kv : Value} {keys : List DKey} {id : Int} {x : AVal} {w : World} (hT : Tabs w) (h : RKeys S w kv keys) (h0 : 0 ≤ x.f) :
    callK Tryd.prog 4 [kv, .int .i64 id, .agg x.cells.toArray] (fun v w' => v = .bool true ∧ Grow w w') w := by
  apply S4_ok
  unfold S4
  have kn : ∀ {w1 : World}, Grow w w1 → callK Tryd.prog 13 [] (fun v w' => v = .bool true ∧ Grow w w') w1 := fun g => callK_mono known04_ok fun _ _ h => ⟨h.1, g.trans h.2⟩
  refine boxn_i fun b5 w1 hb5 hz1 g1 hc1 _ => ?_
  obtain ⟨ka, kc, rfl, hmx⟩ := h.shape
  have h1 := h.grow g1 (by decide) fun _ _ h => h
  refine JoinK_i (fun _ W => W = w1 ∧ keys.length ≤ 200 ∧ x.s.size ≤ 1000) ?_ ?_
  rotate_left
  · rw [lenK_i, gtK_i]
    refine condK_p (fun _ => kn g1) fun hk2 => ?_
    rw [faK_i]
    refine ld1K_i (hc1 3 _ rfl) ?_
    rw [slenK_i, gtK_i]
    exact condK_p (fun _ => kn g1) fun hs2 => ⟨rfl, by omega, by omega⟩
  rintro _ _ ⟨rfl, hkl, hsz⟩ _
  rename World => w1
  refine append_fresh elem_key h1 (by decide) (fun _ _ _ => RKey.one) (fun _ _ _ _ h => h) (by omega) (by simp only [maxLen]; omega) fun iv w3 oi g3 => ?_
  have g13 := g1.trans g3
  refine callK_mono (new_key_ok (OwnR.sl oi)) ?_
  rintro _ w5 ⟨g5, hr⟩
  have hoi5 : OwnR w1.heap.size 34 6 RKey w5 iv keys := OwnR.mod oi g5 (fun _ _ h => h) fun _ _ _ h => h
  have hib : ∀ g, iv.ownBlock = some g → w1.heap.size ≤ g ∧ g < w3.heap.size := fun g hg => OwnR.ownB oi g hg
  have g15 := g13.trans g5
  have z1 := g1.size
  have grow6 : ∀ {W}, Mod (fun b => iv.ownBlock = some b) w5 W → Grow w W := fun m => g15.next m fun b hb e => by have := (hib b e).1; omega
  obtain ⟨ia, ic, rfl, _⟩ := oi.sl.shape
  rcases hr with ⟨hM, sv, ks, rfl, hp, hs, hS⟩ | ⟨hn, rfl⟩
  rotate_left
  · refine extK_i (vs := [_, _]) (by rfl) (extK_i (vs := [_, _]) (by rfl) ?_)
    rw [lenK_i]
    refine inc_loop hoi5 (by decide) (by omega) (fun _ _ _ _ h => h) key_get key_set fun W l' ho hm => ?_
    have gW := grow6 hm
    refine callK_mono (rmay_ok (h.grow gW (by decide) fun _ _ h => h)) ?_
    rintro _ W2 ⟨rfl, g2⟩
    rw [decide_eq_false hn, notK_i]
    refine condK_t ?_
    rw [pnilK_i]
    refine condK_t ?_
    rw [eqK_i]
    exact condK_p (fun _ => kn (gW.trans g2)) fun e => (e rfl).elim
  refine extK_i (vs := [_, _]) (by rfl) (extK_i (vs := [_, _]) (by rfl) ?_)
  rw [lenK_i]
  refine inc_loop hoi5 (by decide) (by omega) (fun _ _ _ _ h => h) key_get key_set fun W l' ho hm => ?_
  have gW := grow6 hm
  have hS6 : SchR (fun b => w3.heap.size ≤ b) W sv ks := hS.mod hm fun b _ hb e => by have := (hib b e).2; omega
  have hW := h.grow gW (by decide) fun _ _ h => h
  have gW1 : Grow w1 W := (g3.trans g5).next hm fun b hb e => by have := (hib b e).1; omega
  clear ho hm hoi5 oi
  refine callK_mono (rmay_ok hW) ?_
  rintro _ W2 ⟨rfl, g2⟩
  rw [decide_eq_true hM, notK_i]
  refine condK_f ?_
  have gW2 := gW.trans g2
  have hS2 := hS6.grow g2
  have hks : ks.length = keys.length := hp.length_eq
  refine JoinK_i (fun _ W' => W' = W2) ?_ ?_
  rotate_left
  · rw [neK_i]
    refine condK_neg (fun _ => ?_) fun e => (e rfl).elim
    refine callK_mono (slen_ok hS2) ?_
    rintro _ _ ⟨rfl, rfl⟩
    rename World => W2
    rw [lenK_i, neK_i]
    exact condK_neg (fun _ => rfl) fun e => (e (by rw [hks])).elim
  rintro _ _ rfl _
  rename World => W2
  refine callK_mono (rkeys_ok (hW.grow g2 (by decide) fun _ _ h => h)) ?_
  rintro tv W3 ⟨ot, g3'⟩
  rw [sortedK_eq hM hp hs] at ot
  have hSt := OwnR.sl ot
  have gW3 := gW2.trans g3'
  have hS3 := hS2.grow g3'
  clear ot
  have h3 := h.grow gW3 (by decide) fun _ _ h => h
  obtain ⟨ta, tc, rfl, _⟩ := hSt.shape
  have hT3 := hT.grow gW3
  have hc3 : ∀ {W'}, Grow W3 W' → ∀ j u, x.cells[j]? = some u → W'.cell? ((⟨b5, 0, none⟩ : Addr).add j) = some u := by
    intro W' g' j u hu
    exact (gW1.trans (g2.trans (g3'.trans g'))).cell (hc1 j u hu) fun h => h
  refine LoopK_i (fun vs W => ∃ q : Nat, q ≤ 2 ∧ vs = [.int .i64 q] ∧ Grow W3 W) (fun vs _ => 2 - iOf vs 0) ⟨0, Nat.zero_le _, rfl, Mod.refl _ _⟩ ?_
  rintro vs W4 ⟨q, hq, rfl, g4⟩ _
  rw [nth_z, List.headD_cons, ltK_i]
  refine condK_p (fun hlt => ?_) fun hge => kn (gW3.trans g4)
  have hq' : q < 2 := by omega
  refine callK_mono (skeys_ok (hS3.grow g4) (by omega)) ?_
  rintro lv W5 ⟨ol, g5'⟩
  obtain ⟨la, lc, rfl, _⟩ := ol.sl.shape
  rw [lenK_i, lenK_i, neK_i]
  refine condK_neg (fun _ => ?_) fun e => (e rfl).elim
  rw [lenK_i]
  refine LoopK_i (fun vs W => ∃ (i : Nat) (l' : List DKey), i ≤ ks.length ∧ vs = [.int .i64 i] ∧ l'.length = ks.length ∧ (∀ j, i ≤ j → l'[j]? = ks[j]?) ∧ OwnR W4.heap.size 34 6 RKey W (.slice la ks.length lc) l' ∧ Grow W4 W) (fun vs _ => ks.length - iOf vs 0)
    ⟨0, ks, Nat.zero_le _, rfl, rfl, fun _ _ => rfl, ol, g5'⟩ ?_
  rintro vs W6 ⟨i, l', hi, rfl, hl', htl, ho, g6⟩ _
  rw [nth_z, List.headD_cons, ltK_i]
  refine condK_p (fun hlt2 => ?_) fun hge2 => ?_
  · have hlt' : i < ks.length := by omega
    have hlt'' : i < l'.length := by omega
    have he : l'[i] = ks[i] := by
      have := htl i (Nat.le_refl _)
      rw [List.getElem?_eq_getElem hlt'', List.getElem?_eq_getElem hlt'] at this
      exact Option.some.inj this
    obtain ⟨p, r, rfl, hpb, hr, hc, rfl⟩ := (OwnR.sl ho).get hlt''
    obtain ⟨p2, r2, rfl, _, hr2, hc2, rfl⟩ := (hSt.grow (g4.trans g6) (by decide) fun _ _ h => h).get hlt'
    refine drawK_i (fun W' => Grow W6 W') (Mod.drew _ _) ?_
    refine ixK_n hlt' (qldnK_i hr (fun w2 h2 j u hu => by rw [Addr.add_add]; exact h2.cell (hc j u hu) fun h => h) ?_)
    refine ixK_n hlt' (qldnK_i hr2 (fun w2 h2 j u hu => by rw [Addr.add_add]; exact h2.cell (hc2 j u hu) fun h => h) ?_)
    refine ⟨_, fun w2 _ => run_ne_key _ _ _ _ w2, ?_⟩
    intro W7 g7
    refine condK_neg (fun _ => ?_) fun e => (e he).elim
    refine ixK_n hlt' ?_
    rw [faK_i, Addr.add_add]
    have ho7 : OwnR W4.heap.size 34 6 RKey W7 (.slice (some p) ks.length lc) l' := OwnR.mod ho g7 (fun _ _ h => h) fun _ _ _ h => h
    refine row_store (x' := { l'[i] with kind := 0 }) ho7 hlt'' (by decide) rfl rfl (fun _ _ _ _ h => h) (fun _ _ r e => by rw [e]; rfl) fun W8 ho8 hm8 => ?_
    rw [addK_i, loop_step (by omega)]
    refine ⟨⟨i + 1, _, hlt', rfl, by rw [List.length_set]; exact hl', set_tail htl, ho8, (g6.trans g7).next hm8 fun b hb e => ?_⟩, by rw [iOf0, iOf0]; omega⟩
    have := hpb.1
    rw [e] at hb
    omega
  have g36 := g4.trans g6
  have hS6' := hS3.grow g36
  refine callK_mono (sfind_ok hS6' id) ?_
  rintro _ W7 ⟨rfl, g7⟩
  refine extK_i (vs := [_, _]) (by rfl) (extK_i (vs := [_, _]) (by rfl) ?_)
  generalize hk : (findK ks id).getD DKey.zero = k
  have kone := RKey.one (w := w) (x := k) rfl
  refine newst_n (vs := k.cells) rfl rfl kone fun b15 W8 _ _ g8 hc8 _ => ?_
  have g78 := g7.trans g8
  have g38 := g36.trans g78
  refine callK_mono (find_ok (h3.grow g38 (by decide) fun _ _ h => h)) ?_
  rintro _ W9 ⟨rfl, g9⟩
  have hfp : findK keys id = findK ks id := (findK_perm hp (strict_dist hs) id).symm
  rw [hfp, hk]
  refine extK_i (vs := [_, _]) (by rfl) (extK_i (vs := [_, _]) (by rfl) ?_)
  refine newst_n (vs := k.cells) rfl rfl kone fun b17 W10 _ _ g10 hc10 _ => ?_
  have g310 := (g38.trans g9).trans g10
  refine callK_mono (sgroup_ok (hS3.grow g310) (by omega) id) ?_
  rintro gv W11 ⟨og, g11⟩
  have g311 := g310.trans g11
  refine callK_mono (rgroup_ok (id := id) (h3.grow g311 (by decide) fun _ _ h => h) hM hp hs) ?_
  rintro hv W12 ⟨oh, g12⟩
  have g312 := g311.trans g12
  have hgb := OwnR.ownB og
  have og12 : OwnR W10.heap.size 3 1 RNum W12 gv (groupK ks id) := OwnR.mod og g12 (fun _ _ h => h) fun _ _ _ h => h
  have hh := OwnR.sl oh
  have hgl : (groupK ks id).length ≤ ks.length := group_len
  obtain ⟨ga, gc, rfl, _⟩ := og12.sl.shape
  obtain ⟨ha, hc', rfl, _⟩ := hh.shape
  clear og oh ho ol
  refine JoinK_i (fun _ W' => Grow W12 W') ?_ ?_
  · rintro _ W13 g13' _
    have og13 : OwnR W10.heap.size 3 1 RNum W13 (.slice ga (groupK ks id).length gc) (groupK ks id) := OwnR.mod og12 g13' (fun _ _ h => h) fun _ _ _ h => h
    have hh13 := hh.grow g13' (by decide) fun _ _ h => h
    rw [lenK_i]
    generalize groupK ks id = gl at og13 hh13 hgl hgb ⊢
    refine LoopK_i (fun vs W => ∃ (i : Nat) (l' : List Int), i ≤ gl.length ∧ vs = [.int .i64 i] ∧ l'.length = gl.length ∧ (∀ j, i ≤ j → l'[j]? = gl[j]?) ∧ OwnR W10.heap.size 3 1 RNum W (.slice ga gl.length gc) l' ∧ SlR (fun b => W11.heap.size ≤ b) 1 RNum W (.slice ha gl.length hc') gl ∧ Grow W3 W) (fun vs _ => gl.length - iOf vs 0)
      ⟨0, gl, Nat.zero_le _, rfl, rfl, fun _ _ => rfl, og13, hh13.sub (fun b _ hb => hb.1) (by decide) fun _ _ h => h, g312.trans g13'⟩ ?_
    rintro vs W14 ⟨i, l', hi, rfl, hl', htl, ho, hhW, g14⟩ _
    rw [nth_z, List.headD_cons, ltK_i]
    refine condK_p (fun hlt2 => ?_) fun hge2 => ?_
    · have hlt' : i < gl.length := by omega
      have hlt'' : i < l'.length := by omega
      have he : l'[i] = gl[i] := by
        have := htl i (Nat.le_refl _)
        rw [List.getElem?_eq_getElem hlt'', List.getElem?_eq_getElem hlt'] at this
        exact Option.some.inj this
      have hob := OwnR.ownB ho
      obtain ⟨p, r, rfl, hpb, hr, hc, rfl⟩ := (OwnR.sl ho).get hlt''
      obtain ⟨p2, r2, rfl, _, hr2, hc2, rfl⟩ := hhW.get hlt'
      refine drawK_i (fun W' => Grow W14 W') (Mod.drew _ _) ?_
      refine ixK_n hlt' (qld1K_i (fun w2 h2 => h2.cell (hc 0 _ rfl) fun h => h) ?_)
      refine ixK_n hlt' (qld1K_i (fun w2 h2 => h2.cell (hc2 0 _ rfl) fun h => h) ?_)
      rw [neK_i]
      intro W15 g15'
      refine condK_neg (fun _ => ?_) fun e => (e he).elim
      refine ixK_n hlt' ?_
      have ho15 : OwnR W10.heap.size 3 1 RNum W15 (.slice (some p) gl.length gc) l' := OwnR.mod ho g15' (fun _ _ h => h) fun _ _ _ h => h
      show st1K (.pointer (some (p.add (i * 1 + 0)))) _ _ _
      refine row_store (x' := -1) ho15 hlt'' (by decide) rfl rfl (fun _ _ _ _ h => h) (fun _ _ r e => by rw [e]; rfl) fun W16 ho16 hm16 => ?_
      rw [addK_i, loop_step (by omega)]
      have hpw : p.block < W11.heap.size := (hgb p.block hpb.2).2
      refine ⟨⟨i + 1, _, hlt', rfl, by rw [List.length_set]; exact hl', set_tail htl, ho16, (hhW.grow g15' (by decide) fun _ _ h => h).mod hm16 (fun b _ hb e => by omega) (by decide) fun _ _ h => h, (g14.trans g15').next hm16 fun b hb e => ?_⟩, by rw [iOf0, iOf0]; omega⟩
      have := hpb.1
      have := g310.size
      rw [e] at hb
      omega
    · rw [addK_i, loop_step (by omega)]
      exact ⟨⟨q + 1, by omega, rfl, g14⟩, by rw [iOf0, iOf0]; omega⟩
  · refine drawC_i (fun _ _ => False) ?_
    have gd : Grow W12 W12.drew := Mod.drew _ _
    have gd3 := g312.trans gd
    refine sldn_i (vs := k.cells) rfl (fun j u hu => ⟨((g9.trans g10).trans (g11.trans (g12.trans gd))).cell (hc8 j u hu) fun h => h, fun _ _ h => h⟩) ?_
    refine sldn_i (vs := k.cells) rfl (fun j u hu => ⟨(g11.trans (g12.trans gd)).cell (hc10 j u hu) fun h => h, fun _ _ h => h⟩) ?_
    refine ⟨_, fun w2 => run_ne_key _ _ _ _ w2, ?_⟩
    refine condK_neg (fun _ => ?_) fun e => (e rfl).elim
    rw [bneK_i]
    have eb : (!((findK ks id).isSome == (findK ks id).isSome)) = false := by simp
    rw [eb]
    refine condK_f ?_
    refine sldn_i (vs := x.cells) rfl (fun j u hu => ⟨hc3 gd3 j u hu, fun _ _ h => h⟩) ?_
    refine callK_mono (sfits_ok (hS3.grow gd3) (hT3.grow gd3) h0) ?_
    rintro _ W13 ⟨rfl, g13'⟩
    refine ⟨g13', ?_⟩
    refine sldn_i (vs := x.cells) rfl (fun j u hu => ⟨hc3 gd3 j u hu, fun _ _ h => h⟩) ?_
    refine callK_mono (rfits_ok (id := id) (h3.grow (gd3.trans g13') (by decide) fun _ _ h => h) (by omega)) ?_
    rintro _ W14 ⟨rfl, g14⟩
    refine ⟨g14, ?_⟩
    have ef : FitsK ks id x ↔ FitsK keys id x := by unfold FitsK; rw [hfp]
    rw [decide_eq_decide.2 ef, bneK_i]
    have eb2 : (!(decide (FitsK keys id x) == decide (FitsK keys id x))) = false := by simp
    rw [eb2]
    refine condK_f ?_
    rw [lenK_i, lenK_i, neK_i]
    exact condK_neg (fun _ => gd.trans (g13'.trans g14)) fun e => (e rfl).elim
end Go.Proofs.YtmfplfaeibehiaaDoor

namespace Go.K
open Go
theorem flat_take {k : Nat} : ∀ (rows : List (List Value)) (j : Nat), (∀ r ∈ rows, r.length = k) → rows.flatten.take (j * k) = (rows.take j).flatten := by
  intro rows
  induction rows with
  | nil => intro j _; simp
  | cons r rows ih =>
    intro j h
    have h0 := h r (by simp)
    cases j with
    | zero => simp
    | succ j =>
      rw [List.flatten_cons, List.take_succ_cons, List.flatten_cons, ← ih j fun x hx => h x (by simp [hx])]
      rw [List.take_append, List.take_of_length_le (by rw [h0, Nat.add_mul]; omega)]
      congr 2
      rw [h0, Nat.add_mul]; omega
/-- the first elements of a row of the call's own -/
theorem OwnR.take {α : Type} {B e k : Nat} {R : World → List Value → α → Prop} {w : World} {g n c : Nat} {l : List α} (h : OwnR B e k R w (.slice (some ⟨g, 0, none⟩) n c) l) {j : Nat} (hj : j ≤ l.length) : OwnR B e k R w (.slice (some ⟨g, 0, none⟩) j c) (l.take j) := by
  obtain ⟨rows, h1, h2, h3, h4⟩ := h
  have hrl : ∀ r ∈ rows, r.length = k := fun r hr => (h3 r hr).1
  refine ⟨rows.take j, ⟨?_, ?_⟩, by rw [List.length_take, List.length_take, h2], fun r hr => h3 r (List.mem_of_mem_take hr), fun i r x hr hx => ?_⟩
  · rw [flat_len _ fun r hr => hrl r (List.mem_of_mem_take hr), List.length_take, List.length_take, h2]
  · rcases h1.2 with ⟨hn, _⟩ | ⟨g', cap, cur, hv, hb, hg, hn, hm, hs, ht⟩
    · cases hn
    · cases hv
      refine .inr ⟨g, c, cur, by rw [List.length_take, Nat.min_eq_left hj], hb, hg, by rw [List.length_take]; omega, hm, hs, ?_⟩
      rw [← flat_take rows j hrl, ← ht, List.take_take, List.length_take]
      congr 1
      rw [Nat.min_eq_left hj, Nat.min_eq_left (Nat.mul_le_mul_right _ hj)]
  · rw [List.getElem?_take] at hr hx
    split at hr
    · rename_i hlt; rw [if_pos hlt] at hx; exact h4 i r x hr hx
    · cases hr
theorem slice_hi_run {P : Program} {t e k : Nat} {i : TypeInfo} {g n c j : Nat} (ht : P.underlying t = some (.slice e)) (hi : P.info? e = some i) (hk : i.size = k) (hj : j ≤ c) (w : World) : (Instr.sliceAt t (.slice (some ⟨g, 0, none⟩) n c) none (some (.int .i64 j)) none).run P w = .ok (.slice (some ⟨g, 0, none⟩) j c) w := by
  have hel : P.elem t = e := by simp [Program.elem, ht]
  rw [run_sliceAt_slice _ _ _ _ _ _ (by rw [hel]; exact ht), run_slice_h _ _ _ _ _ (by rw [hel]; exact ht) _ _ (by omega) (by omega), hel]
  simp [sizeOf, typeInfo, hi, hk, sliced, Addr.add]
/-- a store into one of a box's cells -/
theorem box_store {b : Nat} {vs : List Value} {q : Nat} {u : Value} {W : World} {K : World → Prop} (hc : ∀ j v, vs[j]? = some v → W.cell? ⟨b, j, none⟩ = some v) (hl : ∀ j, j < vs.length → Live W ⟨b, j, none⟩) (hq : q < vs.length) (h1 : u.oneCell' = true) (h2 : u.cells = #[u])
    (hK : ∀ W', Mod (fun x => x = b) W W' → (∀ j v, (vs.set q u)[j]? = some v → W'.cell? ⟨b, j, none⟩ = some v) → (∀ j, j < (vs.set q u).length → Live W' ⟨b, j, none⟩) → K W') : st1K (.pointer (some ⟨b, q, none⟩)) u K W := by
  refine (hl q hq).st h1 h2 (hK _ (Mod.setCell (M := fun x => x = b) W ⟨b, q, none⟩ u rfl) (fun j v hv => ?_) fun j hj => (hl j (by simpa using hj)).set _ _)
  by_cases e : j = q
  · subst e
    rw [List.getElem?_set_self hq] at hv
    cases hv
    obtain ⟨u', hu'⟩ := Option.isSome_iff_exists.1 (hl j hq).1
    exact World.cell?_setCell_same _ _ _ hu'
  · rw [List.getElem?_set_ne (Ne.symm e)] at hv
    rw [World.cell?_setCell_other _ _ _ _ (fun e' => by simp only [Addr.mk.injEq] at e'; exact e e'.2.1.symm)]
    exact hc j v hv
theorem isKeyS (s : ByteArray) : MapKept.IsKey .string (.string s) := trivial
/-- an entry of the table, as one asks for it -/
def Tab.ask {α : Type} (t : Tab α) (z : α) (id : Int) : Option (Ent α) := if id = 0 then some ⟨z, t.empty⟩ else if id < 0 then none else match t.places[(id - 1).toNat]? with
  | some p => if p.held = 0 then none else some p
  | none => none
/-- how large a table is at most -/
structure Tab.Small {α : Type} (t : Tab α) (n : Nat) : Prop where
  pl : t.places.length ≤ n
  em : t.empty ≤ n
  he : ∀ p ∈ t.places, p.held ≤ n
theorem Tab.ask_pos {α : Type} {t : Tab α} {z : α} {id : Int} {p : Ent α} (h : t.ask z id = some p) (h0 : id ≠ 0) : ∃ i : Nat, id = (i : Int) + 1 ∧ t.places[i]? = some p ∧ 0 < p.held := by
  unfold Tab.ask at h
  rw [if_neg h0] at h
  split at h
  · cases h
  · cases hp : t.places[(id - 1).toNat]? with
    | none => rw [hp] at h; cases h
    | some q =>
      rw [hp] at h
      simp only at h
      split at h
      · cases h
      · cases h
        exact ⟨(id - 1).toNat, by omega, hp, by omega⟩
theorem Tab.ask_at {α : Type} {t : Tab α} {z : α} {i : Nat} {p : Ent α} (h : t.places[i]? = some p) (h0 : 0 < p.held) : t.ask z ((i : Int) + 1) = some p := by
  unfold Tab.ask
  rw [if_neg (by omega), if_neg (by omega), show ((i : Int) + 1 - 1).toNat = i by omega, h]
  simp only
  rw [if_neg (by omega)]
end Go.K
namespace Go.Proofs.YtmfplfaeibehiaaDoor
open Go Go.K

abbrev TEnt : Nat := 100
def REnt (C : Nat → Prop) : World → List Value → Ent (List Attr) → Prop := fun w r x => ∃ sv, r = [sv, .int .i64 x.held] ∧ RSet C w sv x.set
theorem REnt.one {C : Nat → Prop} {w : World} {r : List Value} {x : Ent (List Attr)} (h : REnt C w r x) : ∀ u ∈ r, u.oneCell' = true := by
  obtain ⟨sv, rfl, hs⟩ := h
  obtain ⟨a, c, rfl, _⟩ := hs.shape
  intro u hu
  simp at hu
  rcases hu with rfl | rfl <;> rfl
theorem REnt.mod {C M : Nat → Prop} {w w' : World} {r : List Value} {x : Ent (List Attr)} (h : REnt C w r x) (hm : Mod M w w') (hC : ∀ b, b < w.heap.size → C b → ¬ M b) : REnt C w' r x := by
  obtain ⟨sv, e, hs⟩ := h
  exact ⟨sv, e, hs.mod hm hC (by decide) fun _ _ h => h⟩
theorem REnt.sub {C C' : Nat → Prop} {w : World} {r : List Value} {x : Ent (List Attr)} (h : REnt C w r x) (hC : ∀ b, b < w.heap.size → C b → C' b) : REnt C' w r x := by
  obtain ⟨sv, e, hs⟩ := h
  exact ⟨sv, e, hs.sub hC (by decide) fun _ _ h => h⟩
/-- what a held set is, of a schema of the keys ks -/
abbrev Held (ks : List DKey) : List Attr → Prop := GoodS fun s => maySet ks s = 0
/-- the table's memory but for its own five cells. F: all its blocks; C: those that are only read -/
structure TabC (F C : Nat → Prop) (W : World) (b : Nat) (sv : Value) (ks : List DKey) (t : Tab (List Attr)) (pl fr : Value) (bm : Nat) : Prop where
  sch : SchR C W sv ks
  pls : OwnR 0 TEnt 2 (REnt C) W pl t.places
  frs : OwnR 0 3 1 RNum W fr (t.free.map fun i : Nat => (i : Int))
  map : ∃ f, MapG .string W bm f ∧ IdsOf t f
  inv : t.Inv (Held ks)
  fb : F b ∧ ¬ C b
  fm : F bm ∧ ¬ C bm ∧ bm ≠ b
  pF : ∀ g, pl.ownBlock = some g → F g ∧ ¬ C g ∧ g ≠ b ∧ g ≠ bm
  fF : ∀ g, fr.ownBlock = some g → F g ∧ ¬ C g ∧ g ≠ b ∧ g ≠ bm ∧ pl.ownBlock ≠ some g
  cf : ∀ x, C x → F x ∧ x < W.heap.size
theorem TabC.mod {F C M : Nat → Prop} {W W' : World} {b : Nat} {sv : Value} {ks : List DKey} {t : Tab (List Attr)} {pl fr : Value} {bm : Nat} (h : TabC F C W b sv ks t pl fr bm) (hm : Mod M W W') (hM : ∀ x, F x → x ≠ b → ¬ M x) : TabC F C W' b sv ks t pl fr bm := by
  have hC : ∀ x, x < W.heap.size → C x → ¬ M x := fun x _ hx => hM x (h.cf x hx).1 fun e => h.fb.2 (e ▸ hx)
  obtain ⟨f, hf, hi⟩ := h.map
  exact ⟨h.sch.mod hm hC, OwnR.mod h.pls hm (fun g hg => hM g (h.pF g hg).1 (h.pF g hg).2.2.1) fun r x _ hx => hx.mod hm hC, OwnR.mod h.frs hm (fun g hg => hM g (h.fF g hg).1 (h.fF g hg).2.2.1) fun _ _ _ h => h, ⟨f, hf.mod hm (hM bm h.fm.1 h.fm.2.2), hi⟩, h.inv, h.fb, h.fm, h.pF, h.fF,
    fun x hx => ⟨(h.cf x hx).1, Nat.lt_of_lt_of_le (h.cf x hx).2 hm.size⟩⟩
/-- the table's five cells -/
abbrev tabL (sv pl fr : Value) (bm : Nat) (em : Nat) : List Value := [sv, pl, fr, .map (some bm), .int .i64 em]
structure TabR (F C : Nat → Prop) (W : World) (b : Nat) (sv : Value) (ks : List DKey) (t : Tab (List Attr)) (pl fr : Value) (bm : Nat) : Prop where
  cells : ∀ j v, (tabL sv pl fr bm t.empty)[j]? = some v → W.cell? ⟨b, j, none⟩ = some v
  live : ∀ j, j < 5 → Live W ⟨b, j, none⟩
  core : TabC F C W b sv ks t pl fr bm
/-- a table at block b -/
def TabI (F : Nat → Prop) (W : World) (b : Nat) (ks : List DKey) (t : Tab (List Attr)) : Prop := ∃ C sv pl fr bm, TabR F C W b sv ks t pl fr bm
theorem TabR.mod {F C M : Nat → Prop} {W W' : World} {b : Nat} {sv : Value} {ks : List DKey} {t : Tab (List Attr)} {pl fr : Value} {bm : Nat} (h : TabR F C W b sv ks t pl fr bm) (hm : Mod M W W') (hM : ∀ x, F x → ¬ M x) : TabR F C W' b sv ks t pl fr bm :=
  ⟨fun j v hv => hm.cell (h.cells j v hv) (hM b h.core.fb.1), fun j hj => (h.live j hj).mod hm (hM b h.core.fb.1), h.core.mod hm fun x hx _ => hM x hx⟩
theorem TabI.mod {F M : Nat → Prop} {W W' : World} {b : Nat} {ks : List DKey} {t : Tab (List Attr)} (h : TabI F W b ks t) (hm : Mod M W W') (hM : ∀ x, F x → ¬ M x) : TabI F W' b ks t := by
  obtain ⟨C, sv, pl, fr, bm, h⟩ := h
  exact ⟨C, sv, pl, fr, bm, h.mod hm hM⟩
theorem TabI.grow {F : Nat → Prop} {W W' : World} {b : Nat} {ks : List DKey} {t : Tab (List Attr)} (h : TabI F W b ks t) (g : Grow W W') : TabI F W' b ks t := h.mod g fun _ _ h => h
/-- the answer of a call that may turn the table -/
def After (F : Nat → Prop) (w w' : World) (b : Nat) (ks : List DKey) (t : Tab (List Attr)) : Prop := ∃ F', (∀ x, F' x → F x ∨ w.heap.size ≤ x ∧ x < w'.heap.size) ∧ TabI F' w' b ks t ∧ Mod F w w'
theorem After.same {F : Nat → Prop} {w w' : World} {b : Nat} {ks : List DKey} {t : Tab (List Attr)} (h : TabI F w' b ks t) (hm : Mod F w w') : After F w w' b ks t := ⟨F, fun _ h => .inl h, h, hm⟩
theorem TabI.lt {F : Nat → Prop} {W : World} {b : Nat} {ks : List DKey} {t : Tab (List Attr)} (h : TabI F W b ks t) : b < W.heap.size ∧ F b := by
  obtain ⟨C, sv, pl, fr, bm, h⟩ := h
  exact ⟨World.block_lt_of_cell? W _ (h.cells 4 _ rfl), h.core.fb.1⟩

theorem run_ne_nilmap {xo yo : Operand} {m : Option Nat} (w : World) : (binS .neq 82 xo yo (.map m) (.map none)).run Tryd.prog w = .ok (.bool (!m.isNone)) w := by
  have hu := Tryd.underlying82
  have e : (binOp .neq 82 (.map m) (.map none)).run Tryd.prog w = .ok (.bool (!m.isNone)) w := run_neq_map_nil w _ _ _ _ hu
  simp [binS, eqGuard, e]
theorem ready_ok {F : Nat → Prop} {W : World} {b : Nat} {ks : List DKey} {t : Tab (List Attr)} (h : TabI F W b ks t) : callK Tryd.prog 48 [.pointer (some ⟨b, 0, none⟩)] (fun v' w' => v' = .bool true ∧ w' = W) W := by
  obtain ⟨C, sv, pl, fr, bm, h⟩ := h
  apply S48_ok
  unfold S48
  refine pnilK_s (condK_t (nilckK_s ?_))
  rw [faK_i, addr0]
  exact ld1K_i (h.cells 3 _ rfl) (runK_i (run_ne_nilmap W) ⟨rfl, rfl⟩)
theorem inew_ok {sv : Value} {ks : List DKey} {C : Nat → Prop} {w : World} (h : SchR C w sv ks) :
    callK Tryd.prog 25 [sv] (fun v' w' => Grow w w' ∧ ∃ b, w.heap.size ≤ b ∧ v' = .pointer (some ⟨b, 0, none⟩) ∧ TabI (fun x => (C x ∧ x < w.heap.size) ∨ w.heap.size ≤ x ∧ x < w'.heap.size) w' b ks (Tab.z _)) w := by
  apply S25_ok
  unfold S25
  refine runK_i (v := .map (some w.heap.size)) (w' := w.alloc (.map #[] 0)) rfl ?_
  have g1 : Grow w (w.alloc (.map #[] 0)) := Mod.alloc _ _ _
  have hmp : MapG .string (w.alloc (.map #[] 0)) w.heap.size (fun _ => none) := MapG.make .string w
  have hz1 : (w.alloc (.map #[] 0)).heap.size = w.heap.size + 1 := by simp
  generalize w.alloc (.map #[] 0) = w1 at g1 hmp hz1 ⊢
  obtain ⟨bs, _, _, _, rfl, _⟩ := id h
  refine ⟨(tabL (.pointer (some ⟨bs, 0, none⟩)) (.slice none 0 0) (.slice none 0 0) w.heap.size 0).toArray, by kernel_rfl, ?_⟩
  refine boxn_i (vs := tabL (.pointer (some ⟨bs, 0, none⟩)) (.slice none 0 0) (.slice none 0 0) w.heap.size 0) fun b w2 hb hz2 g2 hc2 hl2 => ?_
  have g12 := g1.trans g2
  have hsch := (h.sub (D' := fun x => C x ∧ x < w.heap.size) fun x hx hC => ⟨hC, hx⟩).grow g12
  refine ⟨g12, b, by omega, rfl, fun x => C x ∧ x < w.heap.size, .pointer (some ⟨bs, 0, none⟩), .slice none 0 0, .slice none 0 0, w.heap.size, ?_⟩
  refine ⟨fun j v hv => by have := hc2 j v hv; rwa [addr0] at this, fun j hj => by have := hl2 j hj; rwa [addr0] at this, ?_⟩
  refine ⟨hsch, OwnR.nil, OwnR.nil, ⟨_, hmp.mod g2 fun h => h, IdsOf.z⟩, Tab.Inv.z _, ⟨.inr ⟨by omega, by omega⟩, fun h => by have := h.2; omega⟩, ⟨.inr ⟨by omega, by omega⟩, fun h => by have := h.2; omega, by omega⟩, (fun g hg => nomatch hg), (fun g hg => nomatch hg), fun x hx => ⟨.inl hx, by have := hx.2; have := g12.size; omega⟩⟩
theorem ilen_ok {F : Nat → Prop} {W : World} {b : Nat} {ks : List DKey} {t : Tab (List Attr)} (h : TabI F W b ks t) (hs : t.places.length ≤ 1099511627776) :
    callK Tryd.prog 29 [.pointer (some ⟨b, 0, none⟩)] (fun v' w' => v' = .int .i64 (1 + t.places.length - t.free.length) ∧ Grow W w') W := by
  apply S29_ok
  unfold S29
  refine callK_mono (ready_ok h) ?_
  rintro _ _ ⟨rfl, rfl⟩
  rename World => W
  obtain ⟨C, sv, pl, fr, bm, h⟩ := h
  have hf := Tab.free_le h.core.inv
  rw [notK_i]
  refine condK_f (drawK_i (fun W' => Grow W W') (Mod.drew _ _) ?_)
  refine nilckK_s ?_
  rw [faK_i, addr0]
  refine qld1K_i (fun w2 g => g.cell (h.cells 1 _ rfl) fun h => h) ?_
  obtain ⟨a, c, e1, _⟩ := h.core.pls.sl.shape
  obtain ⟨a', c', e2, _⟩ := h.core.frs.sl.shape
  rw [e1, lenK_i, addK_i]
  refine nilckK_s ?_
  rw [faK_i, addr0]
  refine qld1K_i (fun w2 g => g.cell (h.cells 2 _ rfl) fun h => h) ?_
  rw [e2, lenK_i, subK_i, List.length_map]
  intro W' g'
  refine ⟨?_, g'⟩
  rw [wrap64 (x := 1 + (t.places.length : Int)) (by omega) (by omega), wrap64 (by omega) (by omega)]
/-- asked -/
theorem asked_ok {F : Nat → Prop} {W : World} {b : Nat} {ks : List DKey} {t : Tab (List Attr)} {id : Int} (h : TabI F W b ks t) (hs : t.places.length ≤ 1099511627776) (h0 : -9223372036854775808 ≤ id) (h1 : id ≤ 9223372036854775807) :
    callK Tryd.prog 53 [.pointer (some ⟨b, 0, none⟩), .int .i64 id] (fun v' w' => Grow W w' ∧ match t.ask [] id with
      | some p => ∃ sv, v' = .tuple #[.agg #[sv, .int .i64 p.held], .int .i64 0] ∧ sv.oneCell' = true ∧ RSet F w' sv p.set
      | none => v' = .tuple #[.agg #[.slice none 0 0, .int .i64 0], .int .i64 5]) W := by
  apply S53_ok
  unfold S53
  refine newz_i fun b4 w1 hb4 hz4 g4 _ hl4 => ?_
  have hT1 := h.grow g4
  obtain ⟨C, sv, pl, fr, bm, hR⟩ := h
  have hR1 := hR.mod g4 fun _ _ h => h
  obtain ⟨pa, pc, epl, _⟩ := hR.core.pls.sl.shape
  have hpl := hR1.core.pls.sl
  rw [epl] at hpl
  -- what is told goes through the box
  have box : ∀ (vs : List Value) {W' : World} {K : Cont}, vs.length = 2 → (∀ v ∈ vs, v.oneCell' = true) → Grow w1 W' → (∀ W'', Grow W W'' → K (.agg vs.toArray) W'') → stnK 2 (.pointer (some ⟨b4, 0, none⟩)) (.agg vs.toArray) (fun w => ldnK 2 (.pointer (some ⟨b4, 0, none⟩)) K w) W' := by
    intro vs W' K hn ho g' hK
    refine stn_over hn ho (fun j hj => (hl4 j hj).mod g' fun h => h) fun W'' m hc _ => ?_
    exact ldnK_i hn hc (hK _ ((g4.trans g').next m fun x hx e => by omega))
  have no : t.ask [] id = none → ∀ {W'' : World}, Grow W W'' → Grow W W'' ∧ match t.ask [] id with
      | some p => ∃ sv, Value.tuple #[.agg #[.slice none 0 0, .int .i64 0], .int .i64 5] = .tuple #[.agg #[sv, .int .i64 p.held], .int .i64 0] ∧ sv.oneCell' = true ∧ RSet F W'' sv p.set
      | none => Value.tuple #[.agg #[.slice none 0 0, .int .i64 0], .int .i64 5] = .tuple #[.agg #[.slice none 0 0, .int .i64 0], .int .i64 5] := fun e W'' g => ⟨g, by rw [e]⟩
  refine JoinK_i (fun _ W' => Grow w1 W' ∧ ∃ (i : Nat) (p : Ent (List Attr)), id = (i : Int) + 1 ∧ t.places[i]? = some p ∧ 0 < p.held) ?_ ?_
  · rintro _ W2 ⟨g2, i, p, rfl, hp, hp0⟩ _
    have hi := (List.getElem?_eq_some_iff.1 hp).1
    have hpe := (List.getElem?_eq_some_iff.1 hp).2
    refine nilckK_s ?_
    rw [faK_i, addr0]
    refine ld1K_i (g2.cell (hR1.cells 1 _ rfl) fun h => h) ?_
    rw [subK_i, wrap64 (by omega) (by omega), show ((i : Int) + 1 - 1) = (i : Int) by omega, epl]
    obtain ⟨q, r, rfl, _, hr, hc, hre⟩ := hpl.get hi
    obtain ⟨si, rfl, hsi⟩ := hre
    refine ixK_n hi (ldnK_i hr (fun j u hu => by rw [Addr.add_add]; exact g2.cell (hc j u hu) fun h => h) ?_)
    obtain ⟨sa, sc, rfl, _⟩ := hsi.shape
    refine box [_, _] rfl (fun u hu => by simp at hu; rcases hu with rfl | rfl <;> rfl) g2 fun W'' g'' => ?_
    rw [Tab.ask_at hp hp0]
    refine ⟨g'', _, by rw [hpe], rfl, ?_⟩
    have hsW : RSet C W (.slice sa t.places[i].set.length sc) t.places[i].set := by
      obtain ⟨q', r', e', _, hr', hc', s', e2, hs'⟩ := (epl ▸ hR.core.pls.sl).get hi
      cases e'
      have c0 := g4.cell (hc' 0 s' (by rw [e2]; rfl)) fun h => h
      have c1 := hc 0 _ rfl
      rw [c0] at c1
      cases c1
      exact hs'
    rw [← hpe]
    exact (hsW.sub (fun x _ hx => (hR.core.cf x hx).1) (by decide) fun _ _ h => h).grow g'' (by decide) fun _ _ h => h
  · refine callK_mono (ready_ok hT1) ?_
    rintro _ _ ⟨rfl, rfl⟩
    rename World => w1
    rw [notK_i]
    refine condK_f ?_
    rw [eqK_i]
    refine condK_p (fun hz => ?_) fun hz => ?_
    · refine nilckK_s ?_
      rw [faK_i, addr0]
      refine ld1K_i (hR1.cells 4 _ rfl) ?_
      refine ⟨#[.slice none 0 0, .int .i64 t.empty], by kernel_rfl, ?_⟩
      refine box [.slice none 0 0, .int .i64 t.empty] rfl (fun u hu => by simp at hu; rcases hu with rfl | rfl <;> rfl) (Mod.refl _ _) fun W'' g'' => ?_
      have ea : t.ask [] id = some ⟨[], t.empty⟩ := by unfold Tab.ask; rw [if_pos hz]
      rw [ea]
      exact ⟨g'', _, rfl, rfl, SlR.nil⟩
    rw [ltK_i]
    refine condK_p (fun hlt => ?_) fun hge => ?_
    · refine ⟨#[.slice none 0 0, .int .i64 0], by kernel_rfl, ?_⟩
      exact box [.slice none 0 0, .int .i64 0] rfl (fun u hu => by simp at hu; rcases hu with rfl | rfl <;> rfl) (Mod.refl _ _) fun W'' g'' => no (by unfold Tab.ask; rw [if_neg hz, if_pos hlt]) g''
    have hge' : 0 ≤ id := by omega
    refine nilckK_s ?_
    rw [faK_i, addr0]
    refine ld1K_i (hR1.cells 1 _ rfl) ?_
    rw [epl, lenK_i, gtK_i]
    refine condK_p (fun hbig => ?_) fun hle => ?_
    · refine ⟨#[.slice none 0 0, .int .i64 0], by kernel_rfl, ?_⟩
      refine box [.slice none 0 0, .int .i64 0] rfl (fun u hu => by simp at hu; rcases hu with rfl | rfl <;> rfl) (Mod.refl _ _) fun W'' g'' => no ?_ g''
      unfold Tab.ask
      rw [if_neg hz, if_neg hge, List.getElem?_eq_none (by omega)]
    obtain ⟨i, rfl⟩ : ∃ i : Nat, id = (i : Int) + 1 := ⟨(id - 1).toNat, by omega⟩
    have hi : i < t.places.length := by omega
    refine nilckK_s ?_
    rw [faK_i, addr0]
    refine ld1K_i (hR1.cells 1 _ rfl) ?_
    rw [subK_i, wrap64 (by omega) (by omega), show ((i : Int) + 1 - 1) = (i : Int) by omega, epl]
    obtain ⟨q, r, rfl, _, hr, hc, hre⟩ := hpl.get hi
    obtain ⟨si, rfl, hsi⟩ := hre
    refine ixK_n hi ?_
    rw [faK_i, Addr.add_add]
    refine ld1K_i (hc 1 _ rfl) ?_
    rw [eqK_i]
    refine condK_p (fun h0 => ?_) fun h0 => ⟨Mod.refl _ _, i, t.places[i], rfl, List.getElem?_eq_getElem hi, by omega⟩
    refine ⟨#[.slice none 0 0, .int .i64 0], by kernel_rfl, ?_⟩
    refine box [.slice none 0 0, .int .i64 0] rfl (fun u hu => by simp at hu; rcases hu with rfl | rfl <;> rfl) (Mod.refl _ _) fun W'' g'' => no ?_ g''
    unfold Tab.ask
    rw [if_neg hz, if_neg hge, show ((i : Int) + 1 - 1).toNat = i by omega, List.getElem?_eq_getElem hi]
    simp only
    rw [if_pos (by omega)]
end Go.Proofs.YtmfplfaeibehiaaDoor

namespace Go.K
open Go
def Tab.hold {α : Type} (t : Tab α) (z : α) (id : Int) : Tab α := match t.ask z id with
  | none => t
  | some p => if id = 0 then { t with empty := t.empty + 1 } else t.setP (id - 1).toNat ⟨p.set, p.held + 1⟩
def Tab.release {α : Type} (t : Tab α) (z : α) (id : Int) : Tab α := match t.ask z id with
  | none => t
  | some p => if id = 0 then { t with empty := t.empty - 1 } else if p.held = 1 then t.drop z (id - 1).toNat else t.setP (id - 1).toNat ⟨p.set, p.held - 1⟩
end Go.K
namespace Go.Proofs.YtmfplfaeibehiaaDoor
open Go Go.K

theorem held_len {ks : List DKey} {s : List Attr} (h : Held ks s) : s.length ≤ 64 ∧ ∀ a ∈ s, a.val.s.size ≤ 64 := by
  classical
  have hb : ¬ SetBad s := fun hb => by
    have h' : maySet ks s = 0 := h.2.2
    unfold maySet at h'
    rw [if_pos hb] at h'
    cases h'
  refine ⟨Nat.le_of_not_lt fun hx => hb (.inr (.inl hx)), fun a ha => Nat.le_of_not_lt fun hx => hb (.inr (.inr ⟨a, ha, fun ho => ?_⟩))⟩
  rcases ho with ho | ho | ho | ho
  · rw [ho.2.1] at hx; exact absurd hx (by simp [noS, ByteArray.size])
  · rw [ho.2] at hx; exact absurd hx (by simp [noS, ByteArray.size])
  · rw [ho.2.1] at hx; exact absurd hx (by simp [noS, ByteArray.size])
  · have := ho.2.2.1; omega
theorem ask_len {F C : Nat → Prop} {W : World} {b : Nat} {sv : Value} {ks : List DKey} {t : Tab (List Attr)} {pl fr : Value} {bm : Nat} (h : TabC F C W b sv ks t pl fr bm) {id : Int} {p : Ent (List Attr)} (hp : t.ask [] id = some p) : p.set.length ≤ 64 := by
  by_cases h0 : id = 0
  · unfold Tab.ask at hp; rw [if_pos h0] at hp; cases hp; simp
  · obtain ⟨i, _, h1, h2⟩ := Tab.ask_pos hp h0
    exact (held_len (h.inv.ok i p h1 h2)).1
theorem iheld_ok {F : Nat → Prop} {W : World} {b : Nat} {ks : List DKey} {t : Tab (List Attr)} {id : Int} (h : TabI F W b ks t) (hs : t.places.length ≤ 1099511627776) (h0 : -9223372036854775808 ≤ id) (h1 : id ≤ 9223372036854775807) :
    callK Tryd.prog 32 [.pointer (some ⟨b, 0, none⟩), .int .i64 id] (fun v' w' => v' = .int .i64 ((t.ask [] id).elim 0 fun p => (p.held : Int)) ∧ Grow W w') W := by
  apply S32_ok
  unfold S32
  refine callK_mono (asked_ok h hs h0 h1) ?_
  rintro v1 w1 ⟨g1, hm⟩
  cases ha : t.ask [] id with
  | none =>
    rw [ha] at hm
    subst hm
    refine extK_i (vs := [_, _]) (by rfl) (extK_i (vs := [_, _]) (by rfl) ?_)
    refine newst_n (vs := [.slice none 0 0, .int .i64 0]) rfl rfl (fun u hu => by simp at hu; rcases hu with rfl | rfl <;> rfl) fun b5 w2 _ _ g2 hc2 _ => ?_
    rw [faK_i]
    exact ld1K_i (hc2 1 _ rfl) ⟨rfl, g1.trans g2⟩
  | some p =>
    rw [ha] at hm
    obtain ⟨sv, rfl, ho, _⟩ := hm
    refine extK_i (vs := [_, _]) (by rfl) (extK_i (vs := [_, _]) (by rfl) ?_)
    refine newst_n (vs := [sv, .int .i64 p.held]) rfl rfl (fun u hu => by simp at hu; rcases hu with rfl | rfl; exact ho; rfl) fun b5 w2 _ _ g2 hc2 _ => ?_
    rw [faK_i]
    exact ld1K_i (hc2 1 _ rfl) ⟨rfl, g1.trans g2⟩
theorem iset_ok {F : Nat → Prop} {W : World} {b : Nat} {ks : List DKey} {t : Tab (List Attr)} {id : Int} (h : TabI F W b ks t) (hs : t.places.length ≤ 1099511627776) (h0 : -9223372036854775808 ≤ id) (h1 : id ≤ 9223372036854775807) :
    callK Tryd.prog 30 [.pointer (some ⟨b, 0, none⟩), .int .i64 id] (fun v' w' => Grow W w' ∧ match t.ask [] id with
      | some p => ∃ sv, v' = .tuple #[sv, .int .i64 0] ∧ OSet W.heap.size w' sv p.set
      | none => v' = .tuple #[.slice none 0 0, .int .i64 5]) W := by
  apply S30_ok
  unfold S30
  refine callK_mono (asked_ok h hs h0 h1) ?_
  rintro v1 w1 ⟨g1, hm⟩
  cases ha : t.ask [] id with
  | none =>
    rw [ha] at hm
    subst hm
    refine extK_i (vs := [_, _]) (by rfl) (extK_i (vs := [_, _]) (by rfl) ?_)
    refine newst_n (vs := [.slice none 0 0, .int .i64 0]) rfl rfl (fun u hu => by simp at hu; rcases hu with rfl | rfl <;> rfl) fun b5 w2 _ _ g2 hc2 _ => ?_
    rw [neK_i]
    exact condK_neg (fun e => by cases e) fun _ => ⟨g1.trans g2, rfl⟩
  | some p =>
    rw [ha] at hm
    obtain ⟨sv, rfl, ho, hset⟩ := hm
    refine extK_i (vs := [_, _]) (by rfl) (extK_i (vs := [_, _]) (by rfl) ?_)
    refine newst_n (vs := [sv, .int .i64 p.held]) rfl rfl (fun u hu => by simp at hu; rcases hu with rfl | rfl; exact ho; rfl) fun b5 w2 _ _ g2 hc2 _ => ?_
    rw [neK_i]
    refine condK_neg (fun _ => ?_) fun e => (e rfl).elim
    rw [faK_i]
    refine ld1K_i (hc2 0 _ rfl) ?_
    obtain ⟨C, sv', pl, fr, bm, hR⟩ := h
    have hl := ask_len hR.core ha
    refine callK_mono (copy_set (hset.grow g2 (by decide) fun _ _ h => h) (by omega)) ?_
    rintro v3 w3 ⟨o3, g3⟩
    have g12 := g1.trans g2
    exact ⟨g12.trans g3, v3, rfl, o3.base fun g hg => by have := (OwnR.ownB o3 g hg).1; have := g12.size; omega⟩
/-- how often a place is held is set -/
theorem held_store {F C : Nat → Prop} {W : World} {b : Nat} {sv : Value} {ks : List DKey} {t : Tab (List Attr)} {pl fr : Value} {bm i n : Nat} {p : Ent (List Attr)} {K : World → Prop} {a : Addr} {c : Nat} (h : TabR F C W b sv ks t pl fr bm) (hp : t.places[i]? = some p) (h0 : 0 < p.held) (hn : 0 < n) (epl : pl = .slice (some a) t.places.length c)
    (hK : ∀ W', TabR F C W' b sv ks (t.setP i ⟨p.set, n⟩) pl fr bm → Mod F W W' → K W') : st1K (.pointer (some (a.add (i * 2 + 1)))) (.int .i64 n) K W := by
  have hi := (List.getElem?_eq_some_iff.1 hp).1
  have hpe := (List.getElem?_eq_some_iff.1 hp).2
  have hpl := h.core.pls
  rw [epl] at hpl
  have hob : pl.ownBlock = some a.block := by rw [epl]; rfl
  obtain ⟨f1, f2, f3, f4⟩ := h.core.pF _ hob
  have hm0 : Mod (fun x => x = a.block) W (W.setCell (a.add (i * 2 + 1)) (.int .i64 n)) := Mod.setCell _ _ _ (by rw [add_block])
  have hC : ∀ x, x < W.heap.size → C x → ¬ x = a.block := fun x _ hx e => f2 (e ▸ hx)
  obtain ⟨⟨u, hu⟩, hf, ho, hm⟩ := OwnR.store (R' := REnt C) (u := .int .i64 n) (x' := ⟨p.set, n⟩) (j := 1) hpl hi (by decide) rfl (fun r y _ hr => hr.mod hm0 hC) (fun r hr => by
    obtain ⟨s, rfl, hs⟩ := hr
    refine ⟨s, rfl, ?_⟩
    rw [hpe] at hs
    exact hs.mod hm0 hC (by decide) fun _ _ h => h)
  refine st1K_i rfl rfl hu hf (hK _ ?_ (hm.mono fun x _ e => by rw [e]; exact f1))
  obtain ⟨f, hmf, hif⟩ := h.core.map
  refine ⟨fun j v hv => hm.cell (h.cells j v hv) (fun e => f3 e.symm), fun j hj => (h.live j hj).mod hm (fun e => f3 e.symm), ?_⟩
  exact ⟨h.core.sch.mod hm hC, by rw [epl]; exact ho, OwnR.mod h.core.frs hm (fun g hg e => (h.core.fF g hg).2.2.2.2 (by rw [hob, e])) fun _ _ _ h => h, ⟨f, hmf.mod hm (fun e => f4 e.symm), hif.setP hp h0 hn⟩, h.core.inv.setP hp h0 hn, h.core.fb, h.core.fm, h.core.pF, h.core.fF, fun x hx => ⟨(h.core.cf x hx).1, Nat.lt_of_lt_of_le (h.core.cf x hx).2 hm.size⟩⟩
/-- how often the empty set is held is set -/
theorem empty_store {F C : Nat → Prop} {W : World} {b : Nat} {sv : Value} {ks : List DKey} {t : Tab (List Attr)} {pl fr : Value} {bm n : Nat} {K : World → Prop} (h : TabR F C W b sv ks t pl fr bm)
    (hK : ∀ W', TabR F C W' b sv ks { t with empty := n } pl fr bm → Mod F W W' → K W') : st1K (.pointer (some ⟨b, 4, none⟩)) (.int .i64 n) K W := by
  refine box_store h.cells (fun j hj => h.live j hj) (q := 4) (show 4 < 5 by decide) rfl rfl fun W' hm hc hl => ?_
  refine hK W' ⟨hc, fun j hj => hl j hj, ?_⟩ (hm.mono fun x _ e => by rw [e]; exact h.core.fb.1)
  have := h.core.mod hm fun x _ hx => hx
  exact ⟨this.sch, this.pls, this.frs, this.map, ⟨this.inv.nod, this.inv.fre, this.inv.uni, this.inv.ok⟩, this.fb, this.fm, this.pF, this.fF, this.cf⟩
theorem ihold_ok {F : Nat → Prop} {W : World} {b : Nat} {ks : List DKey} {t : Tab (List Attr)} {id : Int} (h : TabI F W b ks t) (hs : t.Small 1099511627776) (h0 : -9223372036854775808 ≤ id) (h1 : id ≤ 9223372036854775807) :
    callK Tryd.prog 34 [.pointer (some ⟨b, 0, none⟩), .int .i64 id] (fun v' w' => v' = .int .i64 (if (t.ask [] id).isSome then 0 else 5) ∧ After F W w' b ks (t.hold [] id)) W := by
  apply S34_ok
  unfold S34
  refine callK_mono (asked_ok h hs.pl h0 h1) ?_
  rintro v1 w1 ⟨g1, hm⟩
  unfold Tab.hold
  cases ha : t.ask [] id with
  | none =>
    rw [ha] at hm
    subst hm
    refine extK_i (vs := [_, _]) (by rfl) (extK_i (vs := [_, _]) (by rfl) ?_)
    refine newst_n (vs := [.slice none 0 0, .int .i64 0]) rfl rfl (fun u hu => by simp at hu; rcases hu with rfl | rfl <;> rfl) fun b5 w2 _ _ g2 hc2 _ => ?_
    rw [neK_i]
    have g12 := g1.trans g2
    exact condK_neg (fun e => by cases e) fun _ => ⟨rfl, .same (h.grow g12) (g12.mono fun _ _ h => h.elim)⟩
  | some p =>
    rw [ha] at hm
    obtain ⟨sv, rfl, ho, hset⟩ := hm
    refine extK_i (vs := [_, _]) (by rfl) (extK_i (vs := [_, _]) (by rfl) ?_)
    refine newst_n (vs := [sv, .int .i64 p.held]) rfl rfl (fun u hu => by simp at hu; rcases hu with rfl | rfl; exact ho; rfl) fun b5 w2 _ _ g2 hc2 _ => ?_
    have g12 := g1.trans g2
    obtain ⟨C, sv', pl, fr, bm, hR⟩ := h
    have hR2 := hR.mod g12 fun _ _ h => h
    rw [neK_i]
    refine condK_neg (fun _ => ?_) fun e => (e rfl).elim
    rw [eqK_i]
    refine condK_p (fun hz => ?_) fun hz => ?_
    · refine nilckK_s ?_
      rw [faK_i, addr0]
      refine ld1K_i (hR2.cells 4 _ rfl) ?_
      have := hs.em
      rw [addK_i, wrap64 (by omega) (by omega)]
      refine nilckK_s ?_
      rw [faK_i, addr0]
      have en : ((t.empty : Int) + 1) = ((t.empty + 1 : Nat) : Int) := by omega
      rw [en]
      refine empty_store hR2 fun W' hR' hm' => ⟨rfl, ?_⟩
      dsimp only
      rw [if_pos hz]
      exact .same ⟨C, sv', pl, fr, bm, hR'⟩ ((g12.mono fun _ _ h => h.elim).trans hm')
    · obtain ⟨i, rfl, hp, hp0⟩ := Tab.ask_pos ha hz
      have hi := (List.getElem?_eq_some_iff.1 hp).1
      have hpe := (List.getElem?_eq_some_iff.1 hp).2
      refine nilckK_s ?_
      rw [faK_i, addr0]
      refine ld1K_i (hR2.cells 1 _ rfl) ?_
      obtain ⟨pa, pc, epl, _⟩ := hR2.core.pls.sl.shape
      have hpl := hR2.core.pls.sl
      rw [epl] at hpl
      rw [subK_i, wrap64 (by omega) (by omega), show ((i : Int) + 1 - 1) = (i : Int) by omega, epl]
      obtain ⟨q, r, rfl, _, hr, hc, hre⟩ := hpl.get hi
      obtain ⟨si, rfl, hsi⟩ := hre
      refine ixK_n hi ?_
      rw [faK_i, Addr.add_add]
      refine ld1K_i (hc 1 _ rfl) ?_
      have hle := hs.he t.places[i] (List.getElem_mem hi)
      rw [addK_i, wrap64 (by omega) (by omega)]
      refine ixK_n hi ?_
      rw [faK_i, Addr.add_add]
      have en : ((t.places[i].held : Int) + 1) = ((p.held + 1 : Nat) : Int) := by rw [hpe]; omega
      rw [en]
      refine held_store hR2 hp hp0 (n := p.held + 1) (by omega) epl fun W' hR' hm' => ⟨rfl, ?_⟩
      dsimp only
      rw [if_neg hz, Int.toNat_natCast]
      exact .same ⟨C, sv', pl, fr, bm, hR'⟩ ((g12.mono fun _ _ h => h.elim).trans hm')
end Go.Proofs.YtmfplfaeibehiaaDoor

namespace Go.Proofs.YtmfplfaeibehiaaDoor
open Go Go.K

/-- the table's memory, whatever it says -/
structure TabM (F C : Nat → Prop) (W : World) (b : Nat) (sv : Value) (ks : List DKey) (places : List (Ent (List Attr))) (free : List Nat) (em : Nat) (f : Value → Option Value) (pl fr : Value) (bm : Nat) : Prop where
  cells : ∀ j v, (tabL sv pl fr bm em)[j]? = some v → W.cell? ⟨b, j, none⟩ = some v
  live : ∀ j, j < 5 → Live W ⟨b, j, none⟩
  sch : SchR C W sv ks
  pls : OwnR 0 TEnt 2 (REnt C) W pl places
  frs : OwnR 0 3 1 RNum W fr (free.map fun i : Nat => (i : Int))
  map : MapG .string W bm f
  fb : F b ∧ ¬ C b
  fm : F bm ∧ ¬ C bm ∧ bm ≠ b
  pF : ∀ g, pl.ownBlock = some g → F g ∧ ¬ C g ∧ g ≠ b ∧ g ≠ bm
  fF : ∀ g, fr.ownBlock = some g → F g ∧ ¬ C g ∧ g ≠ b ∧ g ≠ bm ∧ pl.ownBlock ≠ some g
  cf : ∀ x, C x → F x ∧ x < W.heap.size
section
variable {F C M : Nat → Prop} {W W' : World} {b : Nat} {sv : Value} {ks : List DKey} {t : Tab (List Attr)} {places : List (Ent (List Attr))} {free : List Nat} {em : Nat} {f : Value → Option Value} {pl fr : Value} {bm : Nat}
theorem TabR.m (h : TabR F C W b sv ks t pl fr bm) : ∃ f, TabM F C W b sv ks t.places t.free t.empty f pl fr bm ∧ IdsOf t f := by
  obtain ⟨f, hf, hi⟩ := h.core.map
  exact ⟨f, ⟨h.cells, h.live, h.core.sch, h.core.pls, h.core.frs, hf, h.core.fb, h.core.fm, h.core.pF, h.core.fF, h.core.cf⟩, hi⟩
theorem TabM.r (h : TabM F C W b sv ks t.places t.free t.empty f pl fr bm) (hi : IdsOf t f) (hv : t.Inv (Held ks)) : TabR F C W b sv ks t pl fr bm :=
  ⟨h.cells, h.live, h.sch, h.pls, h.frs, ⟨f, h.map, hi⟩, hv, h.fb, h.fm, h.pF, h.fF, h.cf⟩
theorem TabM.mod (h : TabM F C W b sv ks places free em f pl fr bm) (hm : Mod M W W') (hM : ∀ x, F x → ¬ M x) : TabM F C W' b sv ks places free em f pl fr bm := by
  have hC : ∀ x, x < W.heap.size → C x → ¬ M x := fun x _ hx => hM x (h.cf x hx).1
  exact ⟨fun j v hv => hm.cell (h.cells j v hv) (hM b h.fb.1), fun j hj => (h.live j hj).mod hm (hM b h.fb.1), h.sch.mod hm hC, OwnR.mod h.pls hm (fun g hg => hM g (h.pF g hg).1) fun r x _ hx => hx.mod hm hC, OwnR.mod h.frs hm (fun g hg => hM g (h.fF g hg).1) fun _ _ _ h => h,
    h.map.mod hm (hM bm h.fm.1), h.fb, h.fm, h.pF, h.fF, fun x hx => ⟨(h.cf x hx).1, Nat.lt_of_lt_of_le (h.cf x hx).2 hm.size⟩⟩
theorem TabM.sub {F' : Nat → Prop} (h : TabM F C W b sv ks places free em f pl fr bm) (hF : ∀ x, F x → F' x) : TabM F' C W b sv ks places free em f pl fr bm :=
  ⟨h.cells, h.live, h.sch, h.pls, h.frs, h.map, ⟨hF _ h.fb.1, h.fb.2⟩, ⟨hF _ h.fm.1, h.fm.2⟩, fun g hg => ⟨hF _ (h.pF g hg).1, (h.pF g hg).2⟩, fun g hg => ⟨hF _ (h.fF g hg).1, (h.fF g hg).2⟩, fun x hx => ⟨hF _ (h.cf x hx).1, (h.cf x hx).2⟩⟩
/-- the map turns -/
theorem TabM.setMap {f' : Value → Option Value} (h : TabM F C W b sv ks places free em f pl fr bm) (hm : Mod (fun x => x = bm) W W') (hf : MapG .string W' bm f') : TabM F C W' b sv ks places free em f' pl fr bm := by
  have hC : ∀ x, x < W.heap.size → C x → ¬ x = bm := fun x _ hx e => h.fm.2.1 (e ▸ hx)
  have hb : ¬ b = bm := fun e => h.fm.2.2 e.symm
  exact ⟨fun j v hv => hm.cell (h.cells j v hv) hb, fun j hj => (h.live j hj).mod hm hb, h.sch.mod hm hC, OwnR.mod h.pls hm (fun g hg => (h.pF g hg).2.2.2) fun r x _ hx => hx.mod hm hC, OwnR.mod h.frs hm (fun g hg => (h.fF g hg).2.2.2.1) fun _ _ _ h => h,
    hf, h.fb, h.fm, h.pF, h.fF, fun x hx => ⟨(h.cf x hx).1, Nat.lt_of_lt_of_le (h.cf x hx).2 hm.size⟩⟩
/-- the row of places turns -/
theorem TabM.setPls {places' : List (Ent (List Attr))} {g : Nat} (h : TabM F C W b sv ks places free em f pl fr bm) (hg : pl.ownBlock = some g) (hm : Mod (fun x => x = g) W W') (hp : OwnR 0 TEnt 2 (REnt C) W' pl places') : TabM F C W' b sv ks places' free em f pl fr bm := by
  obtain ⟨f1, f2, f3, f4⟩ := h.pF g hg
  have hC : ∀ x, x < W.heap.size → C x → ¬ x = g := fun x _ hx e => f2 (e ▸ hx)
  exact ⟨fun j v hv => hm.cell (h.cells j v hv) (fun e => f3 e.symm), fun j hj => (h.live j hj).mod hm (fun e => f3 e.symm), h.sch.mod hm hC, hp, OwnR.mod h.frs hm (fun g' hg' e => (h.fF g' hg').2.2.2.2 (by rw [hg, e])) fun _ _ _ h => h,
    h.map.mod hm (fun e => f4 e.symm), h.fb, h.fm, h.pF, h.fF, fun x hx => ⟨(h.cf x hx).1, Nat.lt_of_lt_of_le (h.cf x hx).2 hm.size⟩⟩
/-- a store into the table's own cells: the row of the free places -/
theorem TabM.setFr {F' : Nat → Prop} {fr' : Value} {free' : List Nat} {K : World → Prop} {Mf : Nat → Prop} (h : TabM F C W b sv ks places free em f pl fr bm) (hm : Mod Mf W W') (hMf : ∀ x, Mf x → fr.ownBlock = some x) (hF : ∀ x, F x → F' x)
    (ho : OwnR 0 3 1 RNum W' fr' (free'.map fun i : Nat => (i : Int))) (hn : ∀ g, fr'.ownBlock = some g → fr.ownBlock = some g ∨ W.heap.size ≤ g ∧ F' g) (hone : fr'.oneCell' = true) (hc1 : fr'.cells = #[fr'])
    (hK : ∀ W'', TabM F' C W'' b sv ks places free' em f pl fr' bm → Mod (fun x => x = b) W' W'' → K W'') : st1K (.pointer (some ⟨b, 2, none⟩)) fr' K W' := by
  have hb : ∀ x, Mf x → F x ∧ ¬ C x ∧ x ≠ b ∧ x ≠ bm ∧ pl.ownBlock ≠ some x := fun x hx => h.fF x (hMf x hx)
  have hC : ∀ x, x < W.heap.size → C x → ¬ Mf x := fun x _ hx e => (hb x e).2.1 hx
  refine box_store (vs := tabL sv pl fr bm em) (fun j v hv => hm.cell (h.cells j v hv) fun e => (hb b e).2.2.1 rfl) (fun j hj => (h.live j hj).mod hm fun e => (hb b e).2.2.1 rfl) (q := 2) (show 2 < 5 by decide) hone hc1 fun W'' hm' hc hl => ?_
  have hbs := World.block_lt_of_cell? W _ (h.cells 4 _ rfl)
  have hC' : ∀ x, x < W'.heap.size → C x → ¬ x = b := fun x _ hx e => h.fb.2 (e ▸ hx)
  have hpo := OwnR.ownB h.pls
  have hms := h.map.lt
  refine hK W'' ⟨hc, fun j hj => hl j hj, (h.sch.mod hm hC).mod hm' hC', OwnR.mod (OwnR.mod (R' := REnt C) h.pls hm (fun g hg e => (hb g e).2.2.2.2 hg) fun r x _ hx => hx.mod hm hC) hm' (fun g hg => (h.pF g hg).2.2.1) fun r x _ hx => hx.mod hm' hC', OwnR.mod ho hm' (fun g hg e => ?_) fun _ _ _ h => h,
    (h.map.mod hm fun e => (hb bm e).2.2.2.1 rfl).mod hm' h.fm.2.2, ⟨hF _ h.fb.1, h.fb.2⟩, ⟨hF _ h.fm.1, h.fm.2⟩, fun g hg => ⟨hF _ (h.pF g hg).1, (h.pF g hg).2⟩, fun g hg => ?_, fun x hx => ⟨hF _ (h.cf x hx).1, Nat.lt_of_lt_of_le (h.cf x hx).2 (Nat.le_trans hm.size hm'.size)⟩⟩ hm'
  · subst e
    rcases hn g hg with e | ⟨e, _⟩
    · exact (h.fF g e).2.2.1 rfl
    · have : g < W.heap.size := hbs
      omega
  · rcases hn g hg with e | ⟨e, e'⟩
    · have := h.fF g e
      exact ⟨hF _ this.1, this.2⟩
    · refine ⟨e', fun hc => by have := (h.cf g hc).2; omega, fun e2 => ?_, fun e2 => by omega, fun e2 => by have := (hpo g e2).2; omega⟩
      have : b < W.heap.size := hbs
      omega
end
end Go.Proofs.YtmfplfaeibehiaaDoor

namespace Go.Proofs.YtmfplfaeibehiaaDoor
open Go Go.K

/-- an entry is cleared -/
theorem ent_zero {C : Nat → Prop} {W : World} {a : Addr} {n c i : Nat} {l : List (Ent (List Attr))} {K : World → Prop} (h : OwnR 0 TEnt 2 (REnt C) W (.slice (some a) n c) l) (hi : i < l.length) (hC : ∀ x, x < W.heap.size → C x → ¬ x = a.block)
    (hK : ∀ W', OwnR 0 TEnt 2 (REnt C) W' (.slice (some a) n c) (l.set i ⟨[], 0⟩) → Mod (fun x => x = a.block) W W' → K W') : stnK 2 (.pointer (some (a.add (i * 2)))) (.agg #[.slice none 0 0, .int .i64 0]) K W := by
  have hm1 : Mod (fun x => x = a.block) W (W.setCell (a.add (i * 2 + 0)) (.slice none 0 0)) := Mod.setCell _ _ _ (by rw [add_block])
  obtain ⟨⟨u1, hu1⟩, hf1, ho1, _⟩ := OwnR.store (R' := REnt C) (u := .slice none 0 0) (x' := ⟨[], l[i].held⟩) (j := 0) h hi (by decide) rfl (fun r y _ hr => hr.mod hm1 hC) (fun r hr => by
    obtain ⟨s, rfl, hs⟩ := hr
    exact ⟨_, rfl, SlR.nil⟩)
  have hi2 : i < (l.set i ⟨[], l[i].held⟩).length := by rw [List.length_set]; exact hi
  have hm2 : Mod (fun x => x = a.block) (W.setCell (a.add (i * 2 + 0)) (.slice none 0 0)) ((W.setCell (a.add (i * 2 + 0)) (.slice none 0 0)).setCell (a.add (i * 2 + 1)) (.int .i64 0)) := Mod.setCell _ _ _ (by rw [add_block])
  have hC2 : ∀ x, x < (W.setCell (a.add (i * 2 + 0)) (.slice none 0 0)).heap.size → C x → ¬ x = a.block := fun x hx hc => hC x (by simpa using hx) hc
  obtain ⟨_, _, ho2, _⟩ := OwnR.store (R' := REnt C) (u := .int .i64 0) (x' := ⟨[], 0⟩) (j := 1) ho1 hi2 (by decide) rfl (fun r y _ hr => hr.mod hm2 hC2) (fun r hr => by
    obtain ⟨s, rfl, hs⟩ := hr
    refine ⟨s, rfl, ?_⟩
    have e : (l.set i ⟨[], l[i].held⟩)[i].set = [] := by rw [List.getElem_set_self]
    rw [e] at hs
    exact hs.mod hm2 hC2 (by decide) fun _ _ h => h)
  rw [List.set_set] at ho2
  obtain ⟨⟨u2, hu2⟩, hf2, _, _⟩ := OwnR.store (R' := fun _ _ (_ : Ent (List Attr)) => True) (u := .int .i64 0) (x' := ⟨[], 0⟩) (j := 1) h hi (by decide) rfl (fun _ _ _ _ => trivial) (fun _ _ => trivial)
  refine ⟨_, [.slice none 0 0, .int .i64 0], rfl, rfl, rfl, fun u hu => by simp at hu; rcases hu with rfl | rfl <;> rfl, fun j hj => ?_, hK _ ?_ ?_⟩
  · rcases (show j = 0 ∨ j = 1 by omega) with rfl | rfl
    · rw [Addr.add_add]; exact ⟨by rw [hu1]; rfl, hf1⟩
    · rw [Addr.add_add]; exact ⟨by rw [hu2]; rfl, hf2⟩
  · simp only [setL, Addr.add_add]
    exact ho2
  · simp only [setL, Addr.add_add]
    exact hm1.trans hm2
theorem After.step {F : Nat → Prop} {w w1 w' : World} {b : Nat} {ks : List DKey} {t : Tab (List Attr)} (g : Grow w w1) (h : After F w1 w' b ks t) : After F w w' b ks t := by
  obtain ⟨F', h1, h2, h3⟩ := h
  exact ⟨F', fun x hx => by rcases h1 x hx with h | h; exact .inl h; exact .inr ⟨Nat.le_trans g.size h.1, h.2⟩, h2, (g.mono fun _ _ h => h.elim).trans h3⟩
theorem ifree_ok {F : Nat → Prop} {W : World} {b : Nat} {ks : List DKey} {t : Tab (List Attr)} {id : Int} (h : TabI F W b ks t) (hs : t.Small 1099511627) (h0 : -9223372036854775808 ≤ id) (h1 : id ≤ 9223372036854775807) :
    callK Tryd.prog 28 [.pointer (some ⟨b, 0, none⟩), .int .i64 id] (fun v' w' => v' = .int .i64 (if (t.ask [] id).isSome then 0 else 5) ∧ After F W w' b ks (t.release [] id)) W := by
  apply S28_ok
  unfold S28
  have hpl' := hs.pl
  refine callK_mono (asked_ok h (by omega) h0 h1) ?_
  rintro v1 w1 ⟨g1, hm⟩
  unfold Tab.release
  cases ha : t.ask [] id with
  | none =>
    rw [ha] at hm
    subst hm
    refine extK_i (vs := [_, _]) (by rfl) (extK_i (vs := [_, _]) (by rfl) ?_)
    refine newst_n (vs := [.slice none 0 0, .int .i64 0]) rfl rfl (fun u hu => by simp at hu; rcases hu with rfl | rfl <;> rfl) fun b5 w2 _ _ g2 hc2 _ => ?_
    rw [neK_i]
    have g12 := g1.trans g2
    exact condK_neg (fun e => by cases e) fun _ => ⟨rfl, .same (h.grow g12) (g12.mono fun _ _ h => h.elim)⟩
  | some p =>
    rw [ha] at hm
    obtain ⟨si, rfl, ho, hset⟩ := hm
    refine extK_i (vs := [_, _]) (by rfl) (extK_i (vs := [_, _]) (by rfl) ?_)
    refine newst_n (vs := [si, .int .i64 p.held]) rfl rfl (fun u hu => by simp at hu; rcases hu with rfl | rfl; exact ho; rfl) fun b5 w2 _ _ g2 hc2 _ => ?_
    have g12 := g1.trans g2
    obtain ⟨C, sv', pl, fr, bm, hR⟩ := h
    have hR2 := hR.mod g12 fun _ _ h => h
    have hset2 := hset.grow g2 (by decide) fun _ _ h => h
    rw [neK_i]
    refine condK_neg (fun _ => ?_) fun e => (e rfl).elim
    rw [eqK_i]
    refine condK_p (fun hz => ?_) fun hz => ?_
    · refine nilckK_s ?_
      rw [faK_i, addr0]
      refine ld1K_i (hR2.cells 4 _ rfl) ?_
      have := hs.em
      rw [subK_i, maxK_i, wrap64 (by omega) (by omega)]
      refine nilckK_s ?_
      rw [faK_i, addr0]
      have en : (if (0 : Int) > (t.empty : Int) - 1 then (0 : Int) else (t.empty : Int) - 1) = ((t.empty - 1 : Nat) : Int) := by split <;> omega
      rw [en]
      refine empty_store hR2 fun W' hR' hm' => ⟨rfl, ?_⟩
      dsimp only
      rw [if_pos hz]
      exact .same ⟨C, sv', pl, fr, bm, hR'⟩ ((g12.mono fun _ _ h => h.elim).trans hm')
    · obtain ⟨i, rfl, hp, hp0⟩ := Tab.ask_pos ha hz
      have hi := (List.getElem?_eq_some_iff.1 hp).1
      have hpe := (List.getElem?_eq_some_iff.1 hp).2
      have hle := hs.he t.places[i] (List.getElem_mem hi)
      obtain ⟨pa, pc, epl, _⟩ := hR2.core.pls.sl.shape
      rw [faK_i]
      refine ld1K_i (hc2 1 _ rfl) ?_
      rw [eqK_i]
      refine condK_p (fun hone => ?_) fun hone => ?_
      · -- the last one lets go
        have hheld : p.held = 1 := by omega
        have hgood := hR.core.inv.ok i p hp hp0
        obtain ⟨hl1, hl2⟩ := held_len hgood
        refine drawC_i (fun k y => k = 7 ∧ y = bm) ?_
        have gd : Grow w2 w2.drew := Mod.drew _ _
        refine nilckK_s ?_
        rw [faK_i, addr0]
        refine sld1_i ⟨gd.cell (hR2.cells 3 _ rfl) fun h => h, fun j hj e => by obtain ⟨rfl, _⟩ := e; exact absurd hj (by decide)⟩ ?_
        rw [faK_i]
        refine sld1_i ⟨gd.cell (hc2 0 _ rfl) fun h => h, fun j hj e => by obtain ⟨rfl, _⟩ := e; exact absurd hj (by decide)⟩ ?_
        refine callK_mono (text_set (hset2.grow gd (by decide) fun _ _ h => h) hgood.2.1 hl2 hl1) ?_
        rintro _ w4 ⟨rfl, g4⟩
        refine ⟨g4.mono fun _ _ h => h.elim, ?_⟩
        have g24 := gd.trans g4
        have g04 := g12.trans g24
        have hR4 := hR2.mod g24 fun _ _ h => h
        have hinv := hR4.core.inv
        obtain ⟨f, hM4, hids⟩ := hR4.m
        obtain ⟨w5, hrun, hmap5, hm5⟩ := mapg_delete (P := Tryd.prog) (ty := 0) (t := 82) (kt := 9) Tryd.underlying82 Tryd.underlying9 (isKeyS (textOf p.set)) hM4.map
        refine runK_i hrun ⟨hm5.mono fun x _ e => ⟨rfl, e⟩, ?_⟩
        have hM5 := hM4.setMap hm5 hmap5
        refine nilckK_s ?_
        rw [faK_i, addr0]
        refine ld1K_i (hM5.cells 1 _ rfl) ?_
        rw [subK_i, wrap64 (by omega) (by omega), show ((i : Int) + 1 - 1) = (i : Int) by omega]
        refine ⟨#[.slice none 0 0, .int .i64 0], by kernel_rfl, ?_⟩
        have hpl5 := hM5.pls
        rw [epl] at hpl5 ⊢
        obtain ⟨q, r, rfl, hq, _, _, _⟩ := hpl5.sl.get hi
        refine ixK_n hi ?_
        have hob : pl.ownBlock = some q.block := by rw [epl]; exact hq.2
        have hC5 : ∀ x, x < w5.heap.size → C x → ¬ x = q.block := fun x _ hx e => (hM5.pF _ hob).2.1 (e ▸ hx)
        refine ent_zero hpl5 hi hC5 fun w6 ho6 hm6 => ?_
        have hM6 := hM5.setPls hob hm6 (by rw [epl]; exact ho6)
        refine nilckK_s ?_
        rw [faK_i, addr0]
        refine ld1K_i (hM6.cells 2 _ rfl) ?_
        have hfl := Tab.free_le hinv
        rw [subK_i, wrap64 (by omega) (by omega), show ((i : Int) + 1 - 1) = (i : Int) by omega]
        refine push_g elem_int hM6.frs (Nat.zero_le _) (cs := [.int .i64 i]) (x := (i : Int)) (by kernel_rfl) rfl rfl (fun _ _ _ => RNum.one) (fun _ _ _ _ _ _ h => h) (by rw [List.length_map]; omega) (by rw [List.length_map]; simp only [maxLen]; omega) fun fr' w7 ho7 hm7 hn7 => ?_
        refine nilckK_s ?_
        rw [faK_i, addr0]
        have efree : (t.free.map fun i : Nat => (i : Int)) ++ [(i : Int)] = (t.free ++ [i]).map fun i : Nat => (i : Int) := by simp
        rw [efree] at ho7
        have s7 := hm7.size
        have hlt7 := OwnR.ownB ho7
        refine TabM.setFr (F' := fun x => F x ∨ w6.heap.size ≤ x ∧ x < w7.heap.size) hM6 hm7 (fun _ h => h) (fun _ h => .inl h) ho7 (fun g hg => by
          rcases hn7 g hg with e | e
          · exact .inl e
          · exact .inr ⟨e, .inr ⟨e, (hlt7 g hg).2⟩⟩) ho7.one.1 ho7.one.2 fun w8 hM8 hm8 => ⟨rfl, ?_⟩
        dsimp only
        rw [if_neg hz, if_pos hheld, Int.toNat_natCast]
        have z4 := g04.size
        have z5 := hm5.size
        have z6 := hm6.size
        have z8 := hm8.size
        refine ⟨_, fun x hx => ?_, ⟨C, sv', pl, fr', bm, TabM.r (t := t.drop [] i) hM8 (hids.drop hinv hp hp0) (Tab.drop_inv hinv hp hp0 [])⟩, ?_⟩
        · rcases hx with hx | hx
          · exact .inl hx
          · exact .inr ⟨by omega, by omega⟩
        · refine (((((g04.mono fun _ _ h => h.elim).trans (hm5.mono fun x _ e => by rw [e]; exact hM4.fm.1)).trans (hm6.mono fun x _ e => by rw [e]; exact (hM5.pF _ hob).1)).trans (hm7.mono fun x _ e => (hM6.fF x e).1)).trans (hm8.mono fun x _ e => by rw [e]; exact hM6.fb.1))
      · -- one of several
        refine nilckK_s ?_
        rw [faK_i, addr0]
        refine ld1K_i (hR2.cells 1 _ rfl) ?_
        have hpl := hR2.core.pls.sl
        rw [epl] at hpl
        rw [subK_i, wrap64 (by omega) (by omega), show ((i : Int) + 1 - 1) = (i : Int) by omega, epl]
        obtain ⟨q, r, rfl, _, hr, hc, hre⟩ := hpl.get hi
        obtain ⟨s2, rfl, hsi⟩ := hre
        refine ixK_n hi ?_
        rw [faK_i, Addr.add_add]
        refine ld1K_i (hc 1 _ rfl) ?_
        rw [subK_i, wrap64 (by omega) (by omega)]
        refine ixK_n hi ?_
        rw [faK_i, Addr.add_add]
        have hp1 : p.held ≠ 1 := fun e => hone (by rw [e]; rfl)
        have en : ((t.places[i].held : Int) - 1) = ((p.held - 1 : Nat) : Int) := by rw [hpe]; omega
        rw [en]
        refine held_store hR2 hp hp0 (n := p.held - 1) (by omega) epl fun W' hR' hm' => ⟨rfl, ?_⟩
        dsimp only
        rw [if_neg hz, if_neg hp1, Int.toNat_natCast]
        exact .same ⟨C, sv', pl, fr, bm, hR'⟩ ((g12.mono fun _ _ h => h.elim).trans hm')
end Go.Proofs.YtmfplfaeibehiaaDoor

namespace Go.Proofs.YtmfplfaeibehiaaDoor
open Go Go.K

theorem elem_ent : ElemOK Tryd.prog 81 TEnt 2 32 := ⟨Tryd.t100, .agg #[.slice none 0 0, .int .i64 0], by kernel_rfl, by kernel_rfl, by kernel_rfl, by kernel_rfl, by kernel_rfl, by rfl, by decide⟩
section
variable {F C M : Nat → Prop} {W W' : World} {b : Nat} {sv : Value} {ks : List DKey} {t : Tab (List Attr)} {places : List (Ent (List Attr))} {free : List Nat} {em : Nat} {f : Value → Option Value} {pl fr : Value} {bm : Nat}
/-- a store into the table's own cells: the row of places -/
theorem TabM.setPl {F' : Nat → Prop} {pl' : Value} {places' : List (Ent (List Attr))} {K : World → Prop} (h : TabM F C W b sv ks places free em f pl fr bm) (hm : Mod (fun x => pl.ownBlock = some x) W W') (hF : ∀ x, F x → F' x)
    (ho : OwnR 0 TEnt 2 (REnt C) W' pl' places') (hn : ∀ g, pl'.ownBlock = some g → pl.ownBlock = some g ∨ W.heap.size ≤ g ∧ F' g) (hone : pl'.oneCell' = true) (hc1 : pl'.cells = #[pl'])
    (hK : ∀ W'', TabM F' C W'' b sv ks places' free em f pl' fr bm → Mod (fun x => x = b) W' W'' → K W'') : st1K (.pointer (some ⟨b, 1, none⟩)) pl' K W' := by
  have hb : ∀ x, pl.ownBlock = some x → F x ∧ ¬ C x ∧ x ≠ b ∧ x ≠ bm := fun x hx => h.pF x hx
  have hC : ∀ x, x < W.heap.size → C x → ¬ pl.ownBlock = some x := fun x _ hx e => (hb x e).2.1 hx
  refine box_store (vs := tabL sv pl fr bm em) (fun j v hv => hm.cell (h.cells j v hv) fun e => (hb b e).2.2.1 rfl) (fun j hj => (h.live j hj).mod hm fun e => (hb b e).2.2.1 rfl) (q := 1) (show 1 < 5 by decide) hone hc1 fun W'' hm' hc hl => ?_
  have hbs : b < W.heap.size := World.block_lt_of_cell? W _ (h.cells 4 _ rfl)
  have hC' : ∀ x, x < W'.heap.size → C x → ¬ x = b := fun x _ hx e => h.fb.2 (e ▸ hx)
  have hfo := OwnR.ownB h.frs
  have hms := h.map.lt
  refine hK W'' ⟨hc, fun j hj => hl j hj, (h.sch.mod hm hC).mod hm' hC', OwnR.mod ho hm' (fun g hg e => ?_) fun r x _ hx => hx.mod hm' hC', OwnR.mod (OwnR.mod (R' := RNum) h.frs hm (fun g hg e => (h.fF g hg).2.2.2.2 e) fun _ _ _ h => h) hm' (fun g hg => (h.fF g hg).2.2.1) fun _ _ _ h => h,
    (h.map.mod hm fun e => (hb bm e).2.2.2 rfl).mod hm' h.fm.2.2, ⟨hF _ h.fb.1, h.fb.2⟩, ⟨hF _ h.fm.1, h.fm.2⟩, fun g hg => ?_, fun g hg => ⟨hF _ (h.fF g hg).1, (h.fF g hg).2.1, (h.fF g hg).2.2.1, (h.fF g hg).2.2.2.1, fun e => ?_⟩, fun x hx => ⟨hF _ (h.cf x hx).1, Nat.lt_of_lt_of_le (h.cf x hx).2 (Nat.le_trans hm.size hm'.size)⟩⟩ hm'
  · subst e
    rcases hn g hg with e | ⟨e, _⟩
    · exact (h.pF g e).2.2.1 rfl
    · omega
  · rcases hn g hg with e | ⟨e, e'⟩
    · have := h.pF g e
      exact ⟨hF _ this.1, this.2⟩
    · exact ⟨e', fun hc => by have := (h.cf g hc).2; omega, fun e2 => by omega, fun e2 => by omega⟩
  · rcases hn g e with e | ⟨e, _⟩
    · exact (h.fF g hg).2.2.2.2 e
    · have := (hfo g hg).2; omega
/-- how often a place is held -/
theorem TabM.setHeld {K : World → Prop} {a : Addr} {c i n : Nat} {p : Ent (List Attr)} (h : TabM F C W b sv ks places free em f pl fr bm) (hp : places[i]? = some p) (epl : pl = .slice (some a) places.length c)
    (hK : ∀ W', TabM F C W' b sv ks (places.set i ⟨p.set, n⟩) free em f pl fr bm → Mod F W W' → K W') : st1K (.pointer (some (a.add (i * 2 + 1)))) (.int .i64 n) K W := by
  have hi := (List.getElem?_eq_some_iff.1 hp).1
  have hpe := (List.getElem?_eq_some_iff.1 hp).2
  have hpl := h.pls
  rw [epl] at hpl
  have hob : pl.ownBlock = some a.block := by rw [epl]; rfl
  obtain ⟨f1, f2, f3, f4⟩ := h.pF _ hob
  have hm0 : Mod (fun x => x = a.block) W (W.setCell (a.add (i * 2 + 1)) (.int .i64 n)) := Mod.setCell _ _ _ (by rw [add_block])
  have hC : ∀ x, x < W.heap.size → C x → ¬ x = a.block := fun x _ hx e => f2 (e ▸ hx)
  obtain ⟨⟨u, hu⟩, hf, ho, hm⟩ := OwnR.store (R' := REnt C) (u := .int .i64 n) (x' := ⟨p.set, n⟩) (j := 1) hpl hi (by decide) rfl (fun r y _ hr => hr.mod hm0 hC) (fun r hr => by
    obtain ⟨s, rfl, hs⟩ := hr
    refine ⟨s, rfl, ?_⟩
    rw [hpe] at hs
    exact hs.mod hm0 hC (by decide) fun _ _ h => h)
  exact st1K_i rfl rfl hu hf (hK _ (h.setPls hob hm (by rw [epl]; exact ho)) (hm.mono fun x _ e => by rw [e]; exact f1))
/-- a place's set: a row of its own -/
theorem TabM.setSet {K : World → Prop} {a : Addr} {c i B : Nat} {p : Ent (List Attr)} {cv : Value} {s : List Attr} (h : TabM F C W b sv ks places free em f pl fr bm) (hp : places[i]? = some p) (epl : pl = .slice (some a) places.length c) (hB : ∀ x, F x → x < B) (hs : OSet B W cv s)
    (hK : ∀ W', TabM (fun x => F x ∨ cv.ownBlock = some x) (fun x => C x ∨ cv.ownBlock = some x) W' b sv ks (places.set i ⟨s, p.held⟩) free em f pl fr bm → Mod (fun x => x = a.block) W W' → K W') : st1K (.pointer (some (a.add (i * 2 + 0)))) cv K W := by
  have hi := (List.getElem?_eq_some_iff.1 hp).1
  have hpe := (List.getElem?_eq_some_iff.1 hp).2
  have hob : pl.ownBlock = some a.block := by rw [epl]; rfl
  obtain ⟨f1, f2, f3, f4⟩ := h.pF _ hob
  have hso := OwnR.ownB hs
  have nF : ∀ x, cv.ownBlock = some x → ¬ F x := fun x hx hF => by have := (hso x hx).1; have := hB x hF; omega
  have hM2 : TabM (fun x => F x ∨ cv.ownBlock = some x) (fun x => C x ∨ cv.ownBlock = some x) W b sv ks places free em f pl fr bm :=
    ⟨h.cells, h.live, h.sch.sub fun _ _ h => .inl h, OwnR.mod h.pls (Mod.refl (fun _ => False) _) (fun _ _ h => h) fun r x _ hx => hx.sub fun _ _ h => .inl h, h.frs, h.map, ⟨.inl h.fb.1, fun e => e.elim h.fb.2 fun e => nF _ e h.fb.1⟩, ⟨.inl h.fm.1, fun e => e.elim h.fm.2.1 fun e => nF _ e h.fm.1, h.fm.2.2⟩,
      fun g hg => ⟨.inl (h.pF g hg).1, fun e => e.elim (h.pF g hg).2.1 fun e => nF _ e (h.pF g hg).1, (h.pF g hg).2.2⟩, fun g hg => ⟨.inl (h.fF g hg).1, fun e => e.elim (h.fF g hg).2.1 fun e => nF _ e (h.fF g hg).1, (h.fF g hg).2.2⟩, fun x hx => hx.elim (fun hx => ⟨.inl (h.cf x hx).1, (h.cf x hx).2⟩) fun hx => ⟨.inr hx, (hso x hx).2⟩⟩
  have hpl := hM2.pls
  rw [epl] at hpl
  have hm0 : Mod (fun x => x = a.block) W (W.setCell (a.add (i * 2 + 0)) cv) := Mod.setCell _ _ _ (by rw [add_block])
  have hC : ∀ x, x < W.heap.size → (C x ∨ cv.ownBlock = some x) → ¬ x = a.block := fun x _ hx e => (hM2.pF _ hob).2.1 (e ▸ hx)
  obtain ⟨⟨u, hu⟩, hf, ho, hm⟩ := OwnR.store (R' := REnt (fun x => C x ∨ cv.ownBlock = some x)) (u := cv) (x' := ⟨s, p.held⟩) (j := 0) hpl hi (by decide) hs.one.1 (fun r y _ hr => hr.mod hm0 hC) (fun r hr => by
    obtain ⟨s', rfl, _⟩ := hr
    refine ⟨cv, by rw [hpe]; rfl, ?_⟩
    exact (OwnR.sl hs).mod hm0 (fun x _ hx e => hC x (hso x hx.2).2 (.inr hx.2) e) (by decide) (fun _ _ h => h) |>.sub (fun x _ hx => .inr hx.2) (by decide) fun _ _ h => h)
  exact st1K_i hs.one.1 hs.one.2 hu hf (hK _ (hM2.setPls hob hm (by rw [epl]; exact ho)) hm)
end
/-- place -/
theorem iplace_ok {F C : Nat → Prop} {W : World} {b : Nat} {sv : Value} {ks : List DKey} {t : Tab (List Attr)} {f : Value → Option Value} {pl fr : Value} {bm : Nat} (h : TabM F C W b sv ks t.places t.free t.empty f pl fr bm) (hi : t.Inv (Held ks)) (hs : t.Small 1099511627) :
    callK Tryd.prog 51 [.pointer (some ⟨b, 0, none⟩)] (fun v' w' => ∃ (i : Nat) (F' : Nat → Prop) (places' : List (Ent (List Attr))) (free' : List Nat) (pl' fr' : Value), v' = .int .i64 ((i : Int) + 1) ∧ TabM F' C w' b sv ks places' free' t.empty f pl' fr' bm ∧ Mod F W w' ∧
      (∀ x, F' x → F x ∨ W.heap.size ≤ x ∧ x < w'.heap.size) ∧ ((t.free.getLast? = some i ∧ places' = t.places ∧ free' = t.free.dropLast) ∨ (t.free = [] ∧ i = t.places.length ∧ places' = t.places ++ [⟨[], 0⟩] ∧ free' = []))) W := by
  apply S51_ok
  unfold S51
  have hfl := Tab.free_le hi
  have hpl' := hs.pl
  refine nilckK_s ?_
  rw [faK_i, addr0]
  refine ld1K_i (h.cells 2 _ rfl) ?_
  obtain ⟨fa, fc, efr, hcap0, _, hfa, hfn⟩ := h.frs.shape
  rw [List.length_map] at hcap0
  rw [efr, lenK_i, subK_i, List.length_map, wrap64 (by omega) (by omega), geK_i]
  refine condK_p (fun hge => ?_) fun hlt => ?_
  · have hpos : 0 < t.free.length := by omega
    have hne : t.free ≠ [] := List.length_pos_iff.1 hpos
    obtain ⟨i, hl⟩ : ∃ i, t.free.getLast? = some i := ⟨_, List.getLast?_eq_some_getLast hne⟩
    cases fa with
    | none => have := hfn rfl; rw [List.map_eq_nil_iff] at this; exact absurd this hne
    | some q =>
      obtain ⟨g, rfl, _, _, hob⟩ := hfa q rfl
      have hsl := h.frs.sl
      have hfrs := h.frs
      rw [efr, List.length_map] at hsl hfrs
      refine nilckK_s ?_
      rw [faK_i, addr0]
      refine ld1K_i (h.cells 2 _ rfl) ?_
      rw [efr, List.length_map]
      have hj : t.free.length - 1 < (t.free.map fun i : Nat => (i : Int)).length := by rw [List.length_map]; omega
      obtain ⟨_, r, e1, _, hr, hc, rfl⟩ := hsl.get hj
      cases e1
      have ev : (t.free.map fun i : Nat => (i : Int))[t.free.length - 1] = (i : Int) := by
        rw [List.getElem_map]
        rw [List.getLast?_eq_some_getLast hne, List.getLast_eq_getElem] at hl
        rw [Option.some.inj hl]
      rw [ev] at hc
      have en : ((t.free.length : Int) - 1) = ((t.free.length - 1 : Nat) : Int) := by omega
      rw [en]
      refine ixK_n (show t.free.length - 1 < t.free.length by omega) (ld1K_i (hc 0 _ rfl) ?_)
      refine nilckK_s ?_
      rw [faK_i, addr0]
      refine ld1K_i (h.cells 2 _ rfl) ?_
      rw [efr, List.length_map]
      refine runK_i (slice_hi_run (e := 3) (k := 1) (i := Tryd.t3) (by kernel_rfl) (by kernel_rfl) (by kernel_rfl) (by omega) W) ?_
      refine nilckK_s ?_
      rw [faK_i, addr0]
      have ht := OwnR.take hfrs (j := t.free.length - 1) (by rw [List.length_map]; omega)
      have ed : (t.free.map fun i : Nat => (i : Int)).take (t.free.length - 1) = t.free.dropLast.map fun i : Nat => (i : Int) := by rw [List.dropLast_eq_take, List.map_take]
      rw [ed] at ht
      refine TabM.setFr (F' := F) (free' := t.free.dropLast) (Mf := fun _ => False) h (Mod.refl _ _) (fun _ h => h.elim) (fun _ h => h) ht (fun g' hg' => .inl ?_) rfl rfl fun w' hM' hm' => ?_
      · rw [efr]; exact hg'
      rw [addK_i]
      obtain ⟨p, hp, _⟩ := (hi.fre i).1 (List.mem_of_getLast? hl)
      have := (List.getElem?_eq_some_iff.1 hp).1
      rw [wrap64 (by omega) (by omega)]
      exact ⟨i, F, t.places, t.free.dropLast, pl, _, rfl, hM', hm'.mono fun x _ e => by rw [e]; exact h.fb.1, fun x hx => .inl hx, .inl ⟨hl, rfl, rfl⟩⟩
  · have hf0 : t.free = [] := List.eq_nil_of_length_eq_zero (by omega)
    refine nilckK_s ?_
    rw [faK_i, addr0]
    refine ld1K_i (h.cells 1 _ rfl) ?_
    refine ⟨#[.slice none 0 0, .int .i64 0], by kernel_rfl, ?_⟩
    refine push_g elem_ent h.pls (Nat.zero_le _) (cs := [.slice none 0 0, .int .i64 0]) (x := ⟨[], 0⟩) (by kernel_rfl) rfl ⟨_, rfl, SlR.nil⟩ (fun _ _ _ => REnt.one) (fun w1 w2 r y hs1 hm hr => hr.mod hm fun x hx hC e => ?_) (by omega) (by simp only [maxLen]; omega) fun pl' w1 ho hm hn => ?_
    · rcases e with e | e
      · exact (h.pF x e).2.1 hC
      · have := (h.cf x hC).2; omega
    refine nilckK_s ?_
    rw [faK_i, addr0]
    have hlt1 := OwnR.ownB ho
    refine TabM.setPl (F' := fun x => F x ∨ W.heap.size ≤ x ∧ x < w1.heap.size) h hm (fun _ h => .inl h) ho (fun g hg => by
      rcases hn g hg with e | e
      · exact .inl e
      · exact .inr ⟨e, .inr ⟨e, (hlt1 g hg).2⟩⟩) ho.one.1 ho.one.2 fun w2 hM2 hm2 => ?_
    refine nilckK_s ?_
    rw [faK_i, addr0]
    refine ld1K_i (hM2.cells 1 _ rfl) ?_
    obtain ⟨a2, c2, e2, _⟩ := ho.sl.shape
    have z2 := hm2.size
    rw [e2, lenK_i]
    refine ⟨t.places.length, _, _, t.free, pl', fr, by simp, hM2, (hm.mono fun x _ e => (h.pF x e).1).trans (hm2.mono fun x _ e => by rw [e]; exact h.fb.1), fun x hx => ?_, .inr ⟨hf0, rfl, rfl, hf0⟩⟩
    rcases hx with hx | hx
    · exact .inl hx
    · exact .inr ⟨hx.1, by omega⟩
end Go.Proofs.YtmfplfaeibehiaaDoor

namespace Go.K
open Go
/-- what adding a set that may be comes to: its id, the table behind it -/
def Tab.Added {α : Type} (t : Tab α) (z s : α) (id : Int) (t' : Tab α) : Prop :=
  (s = z ∧ id = 0 ∧ t' = { t with empty := t.empty + 1 }) ∨ (s ≠ z ∧ ∃ i n : Nat, t.places[i]? = some ⟨s, n⟩ ∧ 0 < n ∧ id = (i : Int) + 1 ∧ t' = t.setP i ⟨s, n + 1⟩) ∨
    (s ≠ z ∧ (∀ (i : Nat) (p : Ent α), t.places[i]? = some p → 0 < p.held → p.set ≠ s) ∧ id = ((t.put s).1 : Int) + 1 ∧ t' = (t.put s).2)
end Go.K
namespace Go.Proofs.YtmfplfaeibehiaaDoor
open Go Go.K

theorem iadd_ok {F S : Nat → Prop} {W : World} {b : Nat} {ks : List DKey} {t : Tab (List Attr)} {v : Value} {l : List Attr} (h : TabI F W b ks t) (hs : t.Small 1099511627) (hv : RSet S W v l) (hT : Tabs W) (hI : ∀ a ∈ l, InA a) (hF : ∀ x, F x → 3 ≤ x ∧ x < W.heap.size) (hSF : ∀ x, S x → ¬ F x) :
    callK Tryd.prog 27 [.pointer (some ⟨b, 0, none⟩), v] (fun v' w' => (maySet ks l ≠ 0 ∧ v' = .tuple #[.int .i64 0, .int .i64 (maySet ks l)] ∧ Grow W w') ∨
      (maySet ks l = 0 ∧ ∃ id t', v' = .tuple #[.int .i64 id, .int .i64 0] ∧ t.Added [] l id t' ∧ After F W w' b ks t')) W := by
  apply S27_ok
  unfold S27
  have hpl' := hs.pl
  have hf0 : ∀ a ∈ l, 0 ≤ a.val.f := fun a ha => (hI a ha).2.2.2.1.1
  refine callK_mono (ready_ok h) ?_
  rintro _ _ ⟨rfl, rfl⟩
  rename World => W
  obtain ⟨C, sv, pl, fr, bm, hR⟩ := h
  rw [notK_i]
  refine condK_f (nilckK_s ?_)
  rw [faK_i, addr0]
  refine ld1K_i (hR.cells 0 _ rfl) ?_
  refine callK_mono (smay_ok hR.core.sch hv hT hf0) ?_
  rintro _ w3 ⟨rfl, g3⟩
  rw [neK_i]
  refine condK_neg (fun hm0 => ?_) fun hm0 => ?_
  rotate_left
  · exact .inl ⟨hm0, rfl, g3⟩
  have hR3 := hR.mod g3 fun _ _ h => h
  have hv3 := hv.grow g3 (by decide) fun _ _ h => h
  obtain ⟨va, vc, rfl, _⟩ := hv.shape
  rw [lenK_i, eqK_i]
  refine condK_p (fun hz => ?_) fun hz => ?_
  · have hl : l = [] := List.eq_nil_of_length_eq_zero (by omega)
    refine nilckK_s ?_
    rw [faK_i, addr0]
    refine ld1K_i (hR3.cells 4 _ rfl) ?_
    have := hs.em
    rw [addK_i, wrap64 (by omega) (by omega)]
    refine nilckK_s ?_
    rw [faK_i, addr0]
    have en : ((t.empty : Int) + 1) = ((t.empty + 1 : Nat) : Int) := by omega
    rw [en]
    refine empty_store hR3 fun W' hR' hm' => .inr ⟨hm0, 0, _, rfl, .inl ⟨hl, rfl, rfl⟩, ?_⟩
    exact .same ⟨C, sv, pl, fr, bm, hR'⟩ ((g3.mono fun _ _ h => h.elim).trans hm')
  have hl : l ≠ [] := fun e => hz (by rw [e]; rfl)
  have hgood : Held ks l := ⟨hl, hI, hm0⟩
  obtain ⟨hl1, hl2⟩ := held_len hgood
  refine callK_mono (text_set hv3 hI hl2 hl1) ?_
  rintro _ w6 ⟨rfl, g6⟩
  have g06 := g3.trans g6
  have hR6 := hR3.mod g6 fun _ _ h => h
  have hinv := hR6.core.inv
  obtain ⟨f, hM6, hids⟩ := hR6.m
  refine nilckK_s ?_
  rw [faK_i, addr0]
  refine ld1K_i (hM6.cells 3 _ rfl) ?_
  refine runK_i (mapg_lookup (P := Tryd.prog) (t := 82) (kt := 9) (et := 3) (z := .int .i64 0) Tryd.underlying82 Tryd.underlying9 (isKeyS (textOf l)) (run_zeroValue (by kernel_rfl) w6) hM6.map) ?_
  refine extK_i (vs := [_, _]) (by rfl) (extK_i (vs := [_, _]) (by rfl) ?_)
  -- one more holds the place
  refine JoinK_i (fun vs w9 => ∃ (i n : Nat) (F9 C9 : Nat → Prop) (places9 : List (Ent (List Attr))) (free9 : List Nat) (f9 : Value → Option Value) (pl9 fr9 : Value), vs = [.int .i64 ((i : Int) + 1)] ∧ TabM F9 C9 w9 b sv ks places9 free9 t.empty f9 pl9 fr9 bm ∧ places9[i]? = some ⟨l, n⟩ ∧ n ≤ 1099511627776 ∧ i ≤ 1099511627776 ∧
      Mod F W w9 ∧ (∀ x, F9 x → F x ∨ W.heap.size ≤ x ∧ x < w9.heap.size) ∧ t.Added [] l ((i : Int) + 1) ⟨places9.set i ⟨l, n + 1⟩, free9, t.empty⟩ ∧ IdsOf ⟨places9.set i ⟨l, n + 1⟩, free9, t.empty⟩ f9 ∧ (⟨places9.set i ⟨l, n + 1⟩, free9, t.empty⟩ : Tab (List Attr)).Inv (Held ks)) ?_ ?_
  · rintro vs w9 ⟨i, n, F9, C9, places9, free9, f9, pl9, fr9, rfl, hM9, hp9, hn9, hi9, hmod9, hF9, hadd, hids9, hinv9⟩ _
    rw [nth_z, List.headD_cons]
    have hi := (List.getElem?_eq_some_iff.1 hp9).1
    have hpe := (List.getElem?_eq_some_iff.1 hp9).2
    refine nilckK_s ?_
    rw [faK_i, addr0]
    refine ld1K_i (hM9.cells 1 _ rfl) ?_
    obtain ⟨pa, pc, epl, _⟩ := hM9.pls.sl.shape
    have hpl := hM9.pls.sl
    rw [epl] at hpl
    rw [subK_i, wrap64 (by omega) (by omega), show ((i : Int) + 1 - 1) = (i : Int) by omega, epl]
    obtain ⟨q, r, rfl, _, hr, hc, hre⟩ := hpl.get hi
    obtain ⟨si, rfl, hsi⟩ := hre
    refine ixK_n hi ?_
    rw [faK_i, Addr.add_add]
    refine ld1K_i (hc 1 _ rfl) ?_
    have eh : places9[i].held = n := by rw [hpe]
    rw [addK_i, wrap64 (by omega) (by omega)]
    refine ixK_n hi ?_
    rw [faK_i, Addr.add_add]
    have en : ((places9[i].held : Int) + 1) = ((n + 1 : Nat) : Int) := by omega
    rw [en]
    refine hM9.setHeld hp9 epl fun W' hM' hm' => .inr ⟨hm0, _, _, rfl, hadd, ?_⟩
    have s' := hm'.size
    refine ⟨F9, fun x hx => ?_, ⟨C9, sv, pl9, fr9, bm, hM'.r hids9 hinv9⟩, hmod9.next hm' fun x hx e => ?_⟩
    · rcases hF9 x hx with h | h
      · exact .inl h
      · exact .inr ⟨h.1, by omega⟩
    · rcases hF9 x e with h | h
      · exact h
      · omega
  · rw [notK_i]
    cases hf : f (.string (textOf l)) with
    | some v =>
      obtain ⟨i, n, hp, hn, rfl⟩ := hids.some hinv hI hf
      have hi := (List.getElem?_eq_some_iff.1 hp).1
      have hle := hs.he t.places[i] (List.getElem_mem hi)
      have hpe := (List.getElem?_eq_some_iff.1 hp).2
      rw [hpe] at hle
      refine condK_f ?_
      exact ⟨i, n, F, C, t.places, t.free, f, pl, fr, rfl, hM6, hp, Nat.le_trans hle (by decide), by omega, g06.mono fun _ _ h => h.elim, fun x hx => .inl hx, .inr (.inl ⟨hl, i, n, hp, hn, rfl, rfl⟩), hids.setP hp hn (by omega), hinv.setP hp hn (by omega)⟩
    | none =>
      refine condK_t ?_
      have hnone := hids.none hf
      refine callK_mono (iplace_ok hM6 hinv hs) ?_
      rintro _ w13 ⟨i, F7, places7, free7, pl7, fr7, rfl, hM7, hm7, hF7, hcase⟩
      have hs6 := hM6.cf
      have z06 := g06.size
      have z7 := hm7.size
      have hF7lt : ∀ x, F7 x → x < w13.heap.size := fun x hx => by
        rcases hF7 x hx with h | h
        · have := (hF x h).2; omega
        · exact h.2
      -- the place
      obtain ⟨p, hp7, hput1, hput2⟩ : ∃ p, places7[i]? = some p ∧ p.held = 0 ∧ ((t.put l).1 = i ∧ (t.put l).2 = ⟨places7.set i ⟨l, 1⟩, free7, t.empty⟩) := by
        unfold Tab.put
        rcases hcase with ⟨h1, rfl, rfl⟩ | ⟨h1, rfl, rfl, rfl⟩
        · rw [h1]
          obtain ⟨p, hp, hp0⟩ := (hinv.fre i).1 (List.mem_of_getLast? h1)
          exact ⟨p, hp, hp0, rfl, rfl⟩
        · rw [h1]
          refine ⟨⟨[], 0⟩, by simp, rfl, rfl, ?_⟩
          simp
      have hi7 := (List.getElem?_eq_some_iff.1 hp7).1
      have hib : i ≤ 1099511627 := by
        rcases hcase with ⟨h1, rfl, _⟩ | ⟨_, rfl, _⟩
        · omega
        · exact hpl'
      refine drawC_i (fun k y => k = 10 ∧ pl7.ownBlock = some y) ?_
      have gd : Grow w13 w13.drew := Mod.drew _ _
      refine nilckK_s ?_
      rw [faK_i, addr0]
      refine sld1_i ⟨gd.cell (hM7.cells 1 _ rfl) fun h => h, fun j hj e => by obtain ⟨rfl, _⟩ := e; exact absurd hj (by decide)⟩ ?_
      obtain ⟨pa, pc, epl, _⟩ := hM7.pls.sl.shape
      have hpls := hM7.pls.sl
      rw [subK_i, wrap64 (by omega) (by omega), show ((i : Int) + 1 - 1) = (i : Int) by omega]
      have hv13 : RSet S w13 (.slice va l.length vc) l := (hv.grow g06 (by decide) fun _ _ h => h).mod hm7 (fun x _ hx hf => hSF x hx hf) (by decide) fun _ _ h => h
      refine callK_mono (copy_set (hv13.grow gd (by decide) fun _ _ h => h) (by omega)) ?_
      rintro cv w14 ⟨o14, g14⟩
      refine ⟨g14.mono fun _ _ h => h.elim, ?_⟩
      have gd14 := gd.trans g14
      have hM14 := hM7.mod gd14 fun _ _ h => h
      rw [epl] at hpls ⊢
      obtain ⟨q, r, rfl, hq, _, _, _⟩ := hpls.get hi7
      refine ixK_n hi7 ?_
      rw [faK_i, Addr.add_add]
      have zd := gd.size
      have z14 := g14.size
      have hco := OwnR.ownB o14
      refine hM14.setSet (B := w13.drew.heap.size) hp7 epl (fun x hx => by have := hF7lt x hx; omega) o14 fun w15 hM15 hm15 => ?_
      have hob : pl7.ownBlock = some q.block := by rw [epl]; exact hq.2
      refine ⟨hm15.mono fun x _ e => ⟨rfl, by rw [e]; exact hq.2⟩, ?_⟩
      refine nilckK_s ?_
      rw [faK_i, addr0]
      refine ld1K_i (hM15.cells 3 _ rfl) ?_
      obtain ⟨w16, hrun, hmap16, hm16⟩ := mapg_update (P := Tryd.prog) (t := 82) (kt := 9) (v := .int .i64 ((i : Int) + 1)) Tryd.underlying82 Tryd.underlying9 (isKeyS (textOf l)) hM15.map hf
      refine runK_i (v := undef) (w' := w16) (by simp only [Sem.run_bind, hrun, Result.andThen]; rfl) ?_
      have hM16 := hM15.setMap hm16 hmap16
      obtain ⟨hspec1, hspec2, _, _, _⟩ := Tab.put_spec hinv hgood hnone
      have hids' := hids.put hinv hgood hf
      rw [hput2.2] at hspec1 hids'
      rw [hput2.1] at hids'
      have hset : (places7.set i ⟨l, p.held⟩).set i ⟨l, p.held + 1⟩ = places7.set i ⟨l, 1⟩ := by rw [List.set_set, hput1]
      refine ⟨i, p.held, _, _, _, free7, _, pl7, fr7, rfl, hM16, by rw [List.getElem?_set_self hi7], by omega, by omega, ?_, ?_, ?_, ?_, ?_⟩
      · refine ((((g06.mono fun _ _ h => h.elim).trans hm7).trans (gd14.mono fun _ _ h => h.elim)).next hm15 fun x hx e => ?_).next hm16 fun x hx e => ?_
        · have := (hM7.pF _ hob).1
          rw [← e] at this
          rcases hF7 x this with h | h
          · exact h
          · omega
        · have := hM6.fm.1
          rw [← e] at this; exact this
      · have s15 := hm15.size
        have s16 := hm16.size
        rintro x (hx | hx)
        · rcases hF7 x hx with h | h
          · exact .inl h
          · exact .inr ⟨by omega, by omega⟩
        · have := hco x hx
          exact .inr ⟨by omega, by omega⟩
      · rw [hset]
        exact .inr (.inr ⟨hl, hnone, by rw [hput2.1], hput2.2.symm⟩)
      · rw [hset]; exact hids'
      · rw [hset]; exact hspec1
end Go.Proofs.YtmfplfaeibehiaaDoor

namespace Go.K
open Go
theorem Tab.Added.new {α : Type} {t t' : Tab α} {z s : α} {id : Int} (h : t.Added z s id t') (hz : s ≠ z) (hn : ∀ (i : Nat) (p : Ent α), t.places[i]? = some p → 0 < p.held → p.set ≠ s) : id = ((t.put s).1 : Int) + 1 ∧ t' = (t.put s).2 := by
  rcases h with ⟨h, _⟩ | ⟨_, i, n, h, h0, _⟩ | ⟨_, _, h1, h2⟩
  · exact absurd h hz
  · exact absurd rfl (hn i _ h h0)
  · exact ⟨h1, h2⟩
theorem Tab.Added.old {α : Type} {t t' : Tab α} {z s : α} {id : Int} {i n : Nat} {G : α → Prop} (h : t.Added z s id t') (hi : t.Inv G) (hz : s ≠ z) (hp : t.places[i]? = some ⟨s, n⟩) (hn : 0 < n) : id = (i : Int) + 1 ∧ t' = t.setP i ⟨s, n + 1⟩ := by
  rcases h with ⟨h, _⟩ | ⟨_, j, m, h, h0, h1, h2⟩ | ⟨_, h1, _⟩
  · exact absurd h hz
  · have e := hi.uni i j _ _ hp h hn h0 rfl
    subst e
    rw [hp] at h; cases h
    exact ⟨h1, h2⟩
  · exact absurd rfl (h1 i _ hp hn)
theorem Tab.Added.empty {α : Type} {t t' : Tab α} {z : α} {id : Int} (h : t.Added z z id t') : id = 0 ∧ t' = { t with empty := t.empty + 1 } := by
  rcases h with ⟨_, h1, h2⟩ | ⟨h, _⟩ | ⟨h, _⟩
  · exact ⟨h1, h2⟩
  · exact absurd rfl h
  · exact absurd rfl h
end Go.K
namespace Go.Proofs.YtmfplfaeibehiaaDoor
open Go Go.K

/-- a table of the law's own (w0: the world in which the law began) -/
structure L (w0 : World) (F : Nat → Prop) (W : World) (b : Nat) (ks : List DKey) (t : Tab (List Attr)) : Prop where
  tab : TabI F W b ks t
  hF : ∀ x, F x → w0.heap.size ≤ x ∧ x < W.heap.size
  g : Grow w0 W
theorem L.grow {w0 W W' : World} {F : Nat → Prop} {b : Nat} {ks : List DKey} {t : Tab (List Attr)} (h : L w0 F W b ks t) (g : Grow W W') : L w0 F W' b ks t :=
  ⟨h.tab.grow g, fun x hx => ⟨(h.hF x hx).1, Nat.lt_of_lt_of_le (h.hF x hx).2 g.size⟩, h.g.trans g⟩
theorem L.mod {w0 W W' : World} {F M : Nat → Prop} {b : Nat} {ks : List DKey} {t : Tab (List Attr)} (h : L w0 F W b ks t) (hm : Mod M W W') (hM : ∀ x, M x → ¬ F x ∧ w0.heap.size ≤ x) : L w0 F W' b ks t :=
  ⟨h.tab.mod hm fun x hx e => (hM x e).1 hx, fun x hx => ⟨(h.hF x hx).1, Nat.lt_of_lt_of_le (h.hF x hx).2 hm.size⟩, h.g.next hm fun x hx e => by have := (hM x e).2; omega⟩
theorem L.inv {w0 W : World} {F : Nat → Prop} {b : Nat} {ks : List DKey} {t : Tab (List Attr)} (h : L w0 F W b ks t) : t.Inv (Held ks) := by
  obtain ⟨C, sv, pl, fr, bm, hR⟩ := h.tab
  exact hR.core.inv
theorem L.after {w0 W W' : World} {F : Nat → Prop} {b : Nat} {ks : List DKey} {t t' : Tab (List Attr)} (h : L w0 F W b ks t) (ha : After F W W' b ks t') : ∃ F', L w0 F' W' b ks t' ∧ (∀ x, F' x → F x ∨ W.heap.size ≤ x) ∧ Mod F W W' := by
  obtain ⟨F', h1, h2, h3⟩ := ha
  have s := h3.size
  have s0 := h.g.size
  refine ⟨F', ⟨h2, fun x hx => ?_, h.g.next h3 fun x hx e => by have := (h.hF x e).1; omega⟩, fun x hx => ?_, h3⟩
  · rcases h1 x hx with e | e
    · have := h.hF x e; exact ⟨this.1, by omega⟩
    · exact ⟨by omega, e.2⟩
  · rcases h1 x hx with e | e
    · exact .inl e
    · exact .inr e.1
section
variable {w0 W : World} {F : Nat → Prop} {b : Nat} {ks : List DKey} {t : Tab (List Attr)}
theorem L.new {sv : Value} {C : Nat → Prop} (hS : SchR C W sv ks) (hC : ∀ x, x < W.heap.size → C x → w0.heap.size ≤ x) (g : Grow w0 W) :
    callK Tryd.prog 25 [sv] (fun v' w' => ∃ b F, v' = .pointer (some ⟨b, 0, none⟩) ∧ L w0 F w' b ks (Tab.z _) ∧ Grow W w') W := by
  refine callK_mono (inew_ok hS) ?_
  rintro _ w' ⟨g', b, _, rfl, hT⟩
  have := g.size
  have := g'.size
  exact ⟨b, _, rfl, ⟨hT, fun x hx => by rcases hx with ⟨h1, h2⟩ | ⟨h1, h2⟩; exact ⟨hC x h2 h1, by omega⟩; exact ⟨by omega, h2⟩, g.trans g'⟩, g'⟩
theorem L.add {S : Nat → Prop} {v : Value} {l : List Attr} (h : L w0 F W b ks t) (hs : t.Small 1099511627) (hT : Tabs w0) (hv : RSet S W v l) (hI : ∀ a ∈ l, InA a) (hSF : ∀ x, S x → ¬ F x) :
    callK Tryd.prog 27 [.pointer (some ⟨b, 0, none⟩), v] (fun v' w' => (maySet ks l ≠ 0 ∧ v' = .tuple #[.int .i64 0, .int .i64 (maySet ks l)] ∧ Grow W w' ∧ L w0 F w' b ks t) ∨
      (maySet ks l = 0 ∧ ∃ id t' F', v' = .tuple #[.int .i64 id, .int .i64 0] ∧ t.Added [] l id t' ∧ L w0 F' w' b ks t' ∧ (∀ x, F' x → F x ∨ W.heap.size ≤ x) ∧ Mod F W w')) W := by
  refine callK_mono (iadd_ok h.tab hs hv (hT.grow h.g) hI (fun x hx => ⟨by have := (h.hF x hx).1; have := hT.size; omega, (h.hF x hx).2⟩) hSF) ?_
  rintro v' w' (⟨h1, h2, h3⟩ | ⟨h1, id, t', h2, h3, h4⟩)
  · exact .inl ⟨h1, h2, h3, h.grow h3⟩
  · obtain ⟨F', k1, k2, k3⟩ := h.after h4
    exact .inr ⟨h1, id, t', F', h2, h3, k1, k2, k3⟩
theorem L.hold {id : Int} (h : L w0 F W b ks t) (hs : t.Small 1099511627776) (h0 : -9223372036854775808 ≤ id) (h1 : id ≤ 9223372036854775807) :
    callK Tryd.prog 34 [.pointer (some ⟨b, 0, none⟩), .int .i64 id] (fun v' w' => v' = .int .i64 (if (t.ask [] id).isSome then 0 else 5) ∧ ∃ F', L w0 F' w' b ks (t.hold [] id) ∧ (∀ x, F' x → F x ∨ W.heap.size ≤ x) ∧ Mod F W w') W :=
  callK_mono (ihold_ok h.tab hs h0 h1) fun _ _ h' => ⟨h'.1, h.after h'.2⟩
theorem L.free {id : Int} (h : L w0 F W b ks t) (hs : t.Small 1099511627) (h0 : -9223372036854775808 ≤ id) (h1 : id ≤ 9223372036854775807) :
    callK Tryd.prog 28 [.pointer (some ⟨b, 0, none⟩), .int .i64 id] (fun v' w' => v' = .int .i64 (if (t.ask [] id).isSome then 0 else 5) ∧ ∃ F', L w0 F' w' b ks (t.release [] id) ∧ (∀ x, F' x → F x ∨ W.heap.size ≤ x) ∧ Mod F W w') W :=
  callK_mono (ifree_ok h.tab hs h0 h1) fun _ _ h' => ⟨h'.1, h.after h'.2⟩
theorem L.held {id : Int} (h : L w0 F W b ks t) (hs : t.places.length ≤ 1099511627776) (h0 : -9223372036854775808 ≤ id) (h1 : id ≤ 9223372036854775807) :
    callK Tryd.prog 32 [.pointer (some ⟨b, 0, none⟩), .int .i64 id] (fun v' w' => v' = .int .i64 ((t.ask [] id).elim 0 fun p => (p.held : Int)) ∧ Grow W w' ∧ L w0 F w' b ks t) W :=
  callK_mono (iheld_ok h.tab hs h0 h1) fun _ _ h' => ⟨h'.1, h'.2, h.grow h'.2⟩
theorem L.len (h : L w0 F W b ks t) (hs : t.places.length ≤ 1099511627776) :
    callK Tryd.prog 29 [.pointer (some ⟨b, 0, none⟩)] (fun v' w' => v' = .int .i64 (1 + t.places.length - t.free.length) ∧ Grow W w' ∧ L w0 F w' b ks t) W :=
  callK_mono (ilen_ok h.tab hs) fun _ _ h' => ⟨h'.1, h'.2, h.grow h'.2⟩
end
/-- a set of one flag -/
def flagA (n : Int) : Attr := ⟨1, 1, n, 0, noS⟩
theorem flags_ok {n : Int} {w : World} : callK Tryd.prog 33 [.int .i64 n] (fun v' w' => RSet (fun x => w.heap.size ≤ x) w' v' [flagA n] ∧ Grow w w') w := by
  apply S33_ok
  unfold S33
  refine ⟨(⟨1, n, 0, noS⟩ : AVal).cells.toArray, by kernel_rfl, ⟨(flagA n).cells.toArray, by kernel_rfl, ?_⟩⟩
  refine rowK_i (cs := (flagA n).cells) (by kernel_rfl) ?_
  have g : Grow w (w.alloc (.cells (flagA n).cells.toArray 56)) := Mod.alloc _ _ _
  refine ⟨⟨_, 1, rfl, Nat.le_refl _, by simp [maxLen], fun i x hx => ?_⟩, g⟩
  have hi : i = 0 := by have := (List.getElem?_eq_some_iff.1 hx).1; simp at this; exact this
  subst hi
  simp at hx; subst hx
  exact ⟨_, (flagA n).cells, rfl, Nat.le_refl _, rfl, fun j u hu => by rw [Nat.zero_mul, Nat.zero_add]; exact cell_box hu, rfl⟩
theorem flagA_in {n : Int} (h0 : -9223372036854775808 ≤ n) (h1 : n ≤ 9223372036854775807) : ∀ a ∈ [flagA n], InA a := by
  intro a ha
  simp only [List.mem_singleton] at ha
  subst ha
  exact ⟨by simp [flagA], by simp [flagA], ⟨h0, h1⟩, by simp [flagA], by simp [flagA, noS, ByteArray.size]⟩
def key07 : DKey := ⟨1, false, 1, false, false, 0⟩
theorem may_flag {n : Int} (hn : n = 0 ∨ n = 1) : maySet [key07] [flagA n] = 0 := by
  classical
  unfold maySet
  have hv : ValOK (flagA n).val := .inl ⟨rfl, rfl, hn⟩
  rw [if_neg, if_neg]
  · rintro ⟨a, ha, h⟩
    simp only [List.mem_singleton] at ha
    subst ha
    exact h ⟨key07, rfl, hv, rfl⟩
  · rintro (h | h | ⟨a, ha, h⟩)
    · refine h fun i h1 h2 => ?_
      simp only [List.length_singleton] at h2
      omega
    · simp at h
    · simp only [List.mem_singleton] at ha
      subst ha
      exact h hv
theorem may_nil {ks : List DKey} : maySet ks [] = 0 := by
  classical
  unfold maySet
  rw [if_neg, if_neg]
  · rintro ⟨a, ha, _⟩; cases ha
  · rintro (h | h | ⟨a, ha, _⟩)
    · exact h fun i h1 h2 => by simp at h2
    · simp at h
    · cases ha
/-- a schema of one key -/
theorem new_one {k : DKey} {w w0 : World} {K : Cont} (hk : KeyOK k) (g0 : Grow w0 w) (hK : ∀ w' sv C, Grow w w' → SchR C w' sv [k] → (∀ x, x < w'.heap.size → C x → w0.heap.size ≤ x) → K (.tuple #[sv, .int .i64 0]) w') :
    callK Tryd.prog 12 [.slice (some ⟨w.heap.size, 0, none⟩) 1 1] K (w.alloc (.cells k.cells.toArray 34)) := by
  have hKy := sl_keys (w := w) [k] (by simp)
  have g1 : Grow w (w.alloc (.cells k.cells.toArray 34)) := Mod.alloc _ _ _
  have e : (([k].map DKey.cells).flatten : List Value) = k.cells := by simp
  rw [e] at hKy
  have z1 := g1.size
  have z0 := g0.size
  refine callK_mono (new_key_ok hKy) ?_
  rintro _ w2 ⟨g2, hr⟩
  have hM : MayKeys [k] := mayk_iff.2 ⟨by simp, fun x hx => by simp only [List.mem_singleton] at hx; subst hx; exact hk, by unfold Dist; simp⟩
  rcases hr with ⟨_, sv, ks, rfl, hp, hs, hS⟩ | ⟨hn, _⟩
  · have : ks = [k] := List.perm_singleton.1 hp
    subst this
    exact hK _ _ _ (g1.trans g2) hS fun x _ hx => by omega
  · exact absurd hM hn
end Go.Proofs.YtmfplfaeibehiaaDoor

namespace Go.Proofs.YtmfplfaeibehiaaDoor
open Go Go.K

theorem L.addFlag {w0 W : World} {F : Nat → Prop} {b : Nat} {t : Tab (List Attr)} {n : Int} {K : Cont} (h : L w0 F W b [key07] t) (hs : t.Small 1099511627) (hT : Tabs w0) (hn : n = 0 ∨ n = 1)
    (hK : ∀ id t' F' w', t.Added [] [flagA n] id t' → L w0 F' w' b [key07] t' → K (.tuple #[.int .i64 id, .int .i64 0]) w') :
    callK Tryd.prog 33 [.int .i64 n] (fun t33 w6 => callK Tryd.prog 27 [.pointer (some ⟨b, 0, none⟩), t33] K w6) W := by
  refine callK_mono flags_ok ?_
  rintro v w1 ⟨hv, g1⟩
  refine callK_mono ((h.grow g1).add hs hT hv (flagA_in (by omega) (by omega)) fun x hx hf => by have := (h.hF x hf).2; omega) ?_
  rintro v' w' (⟨h1, _⟩ | ⟨_, id, t', F', rfl, ha, hL, _, _⟩)
  · exact absurd (may_flag hn) h1
  · exact hK id t' F' w' ha hL
theorem flag_ne : ([flagA 1] : List Attr) ≠ [flagA 0] := by decide +kernel
theorem key07_ok : KeyOK key07 := by unfold KeyOK; decide
theorem small_of {t : Tab (List Attr)} (h1 : t.places.length ≤ 1000) (h2 : t.empty ≤ 1000) (h3 : ∀ p ∈ t.places, p.held ≤ 1000) : t.Small 1099511627 := ⟨by omega, by omega, fun p hp => by have := h3 p hp; omega⟩
theorem Small.up {t : Tab (List Attr)} (h : t.Small 1099511627) : t.Small 1099511627776 := ⟨by have := h.pl; omega, by have := h.em; omega, fun p hp => by have := h.he p hp; omega⟩
theorem known07_ok {w : World} (hT : Tabs w) : callK Tryd.prog 24 [] (fun v w' => v = .bool true ∧ Grow w w') w := by
  apply S24_ok
  unfold S24
  refine ⟨key07.cells.toArray, by kernel_rfl, ?_⟩
  refine rowK_i (cs := key07.cells) (by kernel_rfl) ?_
  refine new_one (w0 := w) key07_ok (Mod.refl _ _) fun w2 sv C g2 hS hC => ?_
  refine extK_i (vs := [_, _]) (by rfl) (extK_i (vs := [_, _]) (by rfl) ?_)
  refine callK_mono (L.new hS hC g2) ?_
  rintro _ w3 ⟨b, F3, rfl, hL3, g3⟩
  refine JoinK_i (fun _ W => W = w3) ?_ ?_
  rotate_left
  · rw [neK_i]
    refine condK_neg (fun _ => ?_) fun e => (e rfl).elim
    exact pnilK_s (condK_f rfl)
  rintro _ _ rfl _
  rename World => w3
  refine callK_mono (hL3.add (S := fun _ => False) (small_of (by simp [Tab.z]) (by simp [Tab.z]) (by simp [Tab.z])) hT SlR.nil (by simp) fun _ h => h.elim) ?_
  rintro v5 w5 (⟨h1, _⟩ | ⟨_, id, t1, F5, rfl, ha, hL5, _, _⟩)
  · exact absurd may_nil h1
  obtain ⟨rfl, rfl⟩ := ha.empty
  refine extK_i (vs := [_, _]) (by rfl) (extK_i (vs := [_, _]) (by rfl) ?_)
  refine hL5.addFlag (small_of (by simp [Tab.z]) (by simp [Tab.z]) (by simp [Tab.z])) hT (.inr rfl) fun id t2 F7 w7 ha hL7 => ?_
  obtain ⟨rfl, rfl⟩ := ha.new (by simp) (fun i p hp => by simp [Tab.z] at hp)
  refine extK_i (vs := [_, _]) (by rfl) (extK_i (vs := [_, _]) (by rfl) ?_)
  refine L.addFlag (t := ⟨[⟨[flagA 1], 1⟩], [], 1⟩) hL7 (small_of (by simp) (by simp) (by simp)) hT (.inr rfl) fun id t3 F9 w9 ha hL9 => ?_
  obtain ⟨rfl, rfl⟩ := ha.old (i := 0) (n := 1) hL7.inv (by simp) rfl (by decide)
  refine extK_i (vs := [_, _]) (by rfl) (extK_i (vs := [_, _]) (by rfl) ?_)
  refine L.addFlag (t := ⟨[⟨[flagA 1], 2⟩], [], 1⟩) hL9 (small_of (by simp) (by simp) (by simp)) hT (.inl rfl) fun id t4 F11 w11 ha hL11 => ?_
  obtain ⟨rfl, rfl⟩ := ha.new (by simp) (fun i p hp h0 => by
    cases i with
    | zero => cases hp; exact flag_ne
    | succ i => simp at hp)
  refine extK_i (vs := [_, _]) (by rfl) (extK_i (vs := [_, _]) (by rfl) ?_)
  have sm4 : (⟨[⟨[flagA 1], 2⟩, ⟨[flagA 0], 1⟩], [], 1⟩ : Tab (List Attr)).Small 1099511627 := small_of (by simp) (by simp) (by simp)
  have hL4 : L w F11 w11 b [key07] ⟨[⟨[flagA 1], 2⟩, ⟨[flagA 0], 1⟩], [], 1⟩ := hL11
  rw [eqK_i]; refine condK_p (fun _ => ?_) fun e => (e rfl).elim
  rw [eqK_i]; refine condK_p (fun _ => ?_) fun e => (e rfl).elim
  rw [eqK_i]; refine condK_p (fun _ => ?_) fun e => (e rfl).elim
  rw [eqK_i]; refine condK_p (fun _ => ?_) fun e => (e rfl).elim
  rw [eqK_i]; refine condK_p (fun _ => ?_) fun e => (e rfl).elim
  rw [eqK_i]; refine condK_p (fun _ => ?_) fun e => (e rfl).elim
  rw [eqK_i]; refine condK_p (fun _ => ?_) fun e => (e rfl).elim
  rw [eqK_i]; refine condK_p (fun _ => ?_) fun e => (e rfl).elim
  refine callK_mono (hL4.len (by simp)) ?_
  rintro _ w12 ⟨rfl, g12, hL12⟩
  rw [eqK_i]; refine condK_p (fun _ => ?_) fun e => (e rfl).elim
  refine callK_mono (hL12.free (id := 1) sm4 (by decide) (by decide)) ?_
  rintro _ w13 ⟨rfl, F13, hL13, _, _⟩
  have hL13' : L w F13 w13 b [key07] ⟨[⟨[flagA 1], 1⟩, ⟨[flagA 0], 1⟩], [], 1⟩ := hL13
  rw [eqK_i]; refine condK_p (fun _ => ?_) fun e => (e rfl).elim
  refine callK_mono (hL13'.free (id := 1) (small_of (by simp) (by simp) (by simp)) (by decide) (by decide)) ?_
  rintro _ w14 ⟨rfl, F14, hL14, _, _⟩
  have hL14' : L w F14 w14 b [key07] ⟨[⟨[], 0⟩, ⟨[flagA 0], 1⟩], [0], 1⟩ := hL14
  rw [eqK_i]; refine condK_p (fun _ => ?_) fun e => (e rfl).elim
  have sm5 : (⟨[⟨[], 0⟩, ⟨[flagA 0], 1⟩], [0], 1⟩ : Tab (List Attr)).Small 1099511627 := small_of (by simp) (by simp) (by simp)
  refine callK_mono (hL14'.free (id := 1) sm5 (by decide) (by decide)) ?_
  rintro _ w15 ⟨rfl, F15, hL15, _, _⟩
  have hL15' : L w F15 w15 b [key07] ⟨[⟨[], 0⟩, ⟨[flagA 0], 1⟩], [0], 1⟩ := hL15
  rw [eqK_i]; refine condK_p (fun _ => ?_) fun e => (e rfl).elim
  refine callK_mono (hL15'.len (by simp)) ?_
  rintro _ w16 ⟨rfl, g16, hL16⟩
  rw [eqK_i]; refine condK_p (fun _ => ?_) fun e => (e rfl).elim
  refine callK_mono (hL16.held (id := 2) (by simp) (by decide) (by decide)) ?_
  rintro _ w17 ⟨rfl, g17, hL17⟩
  rw [eqK_i]
  exact ⟨rfl, hL17.g⟩
end Go.Proofs.YtmfplfaeibehiaaDoor

namespace Go.K
open Go
theorem Tab.hold_at {α : Type} {t : Tab α} {z : α} {i : Nat} {p : Ent α} (h : t.places[i]? = some p) (h0 : 0 < p.held) : t.hold z ((i : Int) + 1) = t.setP i ⟨p.set, p.held + 1⟩ := by
  unfold Tab.hold
  rw [Tab.ask_at h h0]
  dsimp only
  rw [if_neg (by omega), show ((i : Int) + 1 - 1).toNat = i by omega]
theorem Tab.release_at {α : Type} {t : Tab α} {z : α} {i : Nat} {p : Ent α} (h : t.places[i]? = some p) (h0 : 0 < p.held) : t.release z ((i : Int) + 1) = if p.held = 1 then t.drop z i else t.setP i ⟨p.set, p.held - 1⟩ := by
  unfold Tab.release
  rw [Tab.ask_at h h0]
  dsimp only
  rw [if_neg (by omega), show ((i : Int) + 1 - 1).toNat = i by omega]
end Go.K
namespace Go.Proofs.YtmfplfaeibehiaaDoor
open Go Go.K

set_option maxRecDepth 20000 in
theorem InternHolds_ok {n : Int} {flag : Bool} {w : World} (hT : Tabs w) (hw : (Lit.int .i64 n).wf = true) :
    callK Tryd.prog 9 [.int .i64 n, .bool flag] (fun v w' => v = .bool true ∧ Grow w w') w := by
  apply S9_ok
  unfold S9
  have kn : ∀ {w1 : World}, Grow w w1 → callK Tryd.prog 24 [] (fun v w' => v = .bool true ∧ Grow w w') w1 := fun g => callK_mono (known07_ok (hT.grow g)) fun _ _ h => ⟨h.1, g.trans h.2⟩
  refine JoinK_i (fun _ W => W = w ∧ 0 ≤ n ∧ n ≤ 50) ?_ ?_
  rotate_left
  · rw [ltK_i]
    refine condK_p (fun _ => kn (Mod.refl _ _)) fun h1 => ?_
    rw [gtK_i]
    exact condK_p (fun _ => kn (Mod.refl _ _)) fun h2 => ⟨rfl, by omega, by omega⟩
  rintro _ _ ⟨rfl, hn0, hn1⟩ _
  rename World => w
  obtain ⟨m, rfl⟩ : ∃ m : Nat, n = m := ⟨n.toNat, by omega⟩
  have hm : m ≤ 50 := by omega
  refine ⟨key07.cells.toArray, by kernel_rfl, ?_⟩
  refine rowK_i (cs := key07.cells) (by kernel_rfl) ?_
  refine new_one (w0 := w) key07_ok (Mod.refl _ _) fun w2 sv C g2 hS hC => ?_
  refine extK_i (vs := [_, _]) (by rfl) (extK_i (vs := [_, _]) (by rfl) ?_)
  refine callK_mono (L.new hS hC g2) ?_
  rintro _ w4 ⟨b, F4, rfl, hL4, _⟩
  refine JoinK_i (fun _ W => W = w4) ?_ ?_
  rotate_left
  · rw [neK_i]
    refine condK_neg (fun _ => ?_) fun e => (e rfl).elim
    exact pnilK_s (condK_f rfl)
  rintro _ _ rfl _
  rename World => w4
  refine callK_mono flags_ok ?_
  rintro v6 w6 ⟨hv6, g6⟩
  refine JoinK_i (fun vs W => ∃ v fl, vs = [v] ∧ (fl = 0 ∨ fl = 1) ∧ RSet (fun x => w4.heap.size ≤ x) W v [flagA fl] ∧ Grow w4 W) ?_ ?_
  rotate_left
  · cases flag with
    | false => exact condK_f ⟨v6, 0, rfl, .inl rfl, hv6, g6⟩
    | true =>
      refine condK_t (callK_mono flags_ok ?_)
      rintro v7 w7 ⟨hv7, g7⟩
      have := g6.size
      exact ⟨v7, 1, rfl, .inr rfl, hv7.sub (fun x _ hx => by omega) (by decide) fun _ _ h => h, g6.trans g7⟩
  rintro vs w7 ⟨v7, fl, rfl, hfl, hv7, g7⟩ _
  rw [nth_z, List.headD_cons]
  refine callK_mono ((hL4.grow g7).add (small_of (by simp [Tab.z]) (by simp [Tab.z]) (by simp [Tab.z])) hT hv7 (flagA_in (by omega) (by omega)) fun x hx hf => by have := (hL4.hF x hf).2; omega) ?_
  rintro v8 w8 (⟨h1, _⟩ | ⟨_, id, t1, F8, rfl, ha, hL8, _, _⟩)
  · exact absurd (may_flag hfl) h1
  obtain ⟨rfl, rfl⟩ := ha.new (by simp) (fun i p hp => by simp [Tab.z] at hp)
  have hL8' : L w F8 w8 b [key07] ⟨[⟨[flagA fl], 1⟩], [], 0⟩ := hL8
  clear hL8 ha
  refine extK_i (vs := [_, _]) (by rfl) (extK_i (vs := [_, _]) (by rfl) ?_)
  refine JoinK_i (fun _ W => W = w8) ?_ ?_
  rotate_left
  · rw [neK_i]
    refine condK_neg (fun _ => ?_) fun e => (e rfl).elim
    rw [ltK_i]
    refine condK_p (fun e => by cases e) fun _ => rfl
  rintro _ _ rfl _
  rename World => w8
  generalize hsd : [flagA fl] = s at hL8'
  have sm : ∀ k, k ≤ 60 → (⟨[⟨s, k⟩], [], 0⟩ : Tab (List Attr)).Small 1099511627 := fun k hk => small_of (by simp) (by simp) (by simp; omega)
  refine LoopK_i (fun vs W => ∃ (i : Nat) (F : Nat → Prop), i ≤ m ∧ vs = [.int .i64 i] ∧ L w F W b [key07] ⟨[⟨s, i + 1⟩], [], 0⟩) (fun vs _ => m - iOf vs 0) ⟨0, F8, Nat.zero_le _, rfl, hL8'⟩ ?_
  rintro vs W ⟨i, F, hi, rfl, hL⟩ _
  rw [nth_z, List.headD_cons, ltK_i]
  refine condK_p (fun hlt => ?_) fun hge => ?_
  · have hp : (⟨[⟨s, i + 1⟩], [], 0⟩ : Tab (List Attr)).places[0]? = some ⟨s, i + 1⟩ := rfl
    have hp0 : 0 < (⟨s, i + 1⟩ : Ent (List Attr)).held := Nat.succ_pos i
    refine callK_mono (hL.hold (id := 1) (Small.up (sm _ (by omega))) (by decide) (by decide)) ?_
    rintro _ W2 ⟨rfl, F2, hL2, _, _⟩
    have ea : (⟨[⟨s, i + 1⟩], [], 0⟩ : Tab (List Attr)).ask [] 1 = some ⟨s, i + 1⟩ := Tab.ask_at hp hp0
    have eh : (⟨[⟨s, i + 1⟩], [], 0⟩ : Tab (List Attr)).hold [] 1 = ⟨[⟨s, i + 1 + 1⟩], [], 0⟩ := Tab.hold_at hp hp0
    rw [eh] at hL2
    rw [ea, neK_i]
    refine condK_neg (fun _ => ?_) fun e => (e rfl).elim
    rw [addK_i, loop_step (by omega)]
    exact ⟨⟨i + 1, F2, by omega, rfl, hL2⟩, by rw [iOf0, iOf0]; omega⟩
  · have : i = m := by omega
    subst this
    rename Nat => m
    rw [addK_i, wrap64 (by omega) (by omega)]
    refine LoopK_i (fun vs W => ∃ (j : Nat) (F : Nat → Prop), j ≤ m + 1 ∧ vs = [.int .i64 j] ∧ L w F W b [key07] (if j ≤ m then ⟨[⟨s, m + 1 - j⟩], [], 0⟩ else ⟨[⟨[], 0⟩], [0], 0⟩)) (fun vs _ => m + 1 - iOf vs 0) ⟨0, F, Nat.zero_le _, rfl, by rw [if_pos (Nat.zero_le _)]; exact hL⟩ ?_
    rintro vs W2 ⟨j, F2, hj, rfl, hL2⟩ _
    rw [nth_z, List.headD_cons, ltK_i]
    refine condK_p (fun hlt2 => ?_) fun hge2 => ?_
    · have hjm : j ≤ m := by omega
      rw [if_pos hjm] at hL2
      have hp : (⟨[⟨s, m + 1 - j⟩], [], 0⟩ : Tab (List Attr)).places[0]? = some ⟨s, m + 1 - j⟩ := rfl
      have hp0 : 0 < (⟨s, m + 1 - j⟩ : Ent (List Attr)).held := by show 0 < m + 1 - j; omega
      have ea : (⟨[⟨s, m + 1 - j⟩], [], 0⟩ : Tab (List Attr)).ask [] 1 = some ⟨s, m + 1 - j⟩ := Tab.ask_at hp hp0
      refine callK_mono (hL2.held (id := 1) (by simp) (by decide) (by decide)) ?_
      rintro _ W3 ⟨rfl, g3, hL3⟩
      rw [ea, addK_i, wrap64 (by omega) (by omega), subK_i, wrap64 (by omega) (by omega), neK_i]
      refine condK_neg (fun _ => ?_) fun e => (e (by show ((m + 1 - j : Nat) : Int) = _; omega)).elim
      refine callK_mono (hL3.free (id := 1) (sm _ (by omega)) (by decide) (by decide)) ?_
      rintro _ W4 ⟨rfl, F4', hL4', _, _⟩
      rw [ea, neK_i]
      refine condK_neg (fun _ => ?_) fun e => (e rfl).elim
      rw [addK_i, loop_step (by omega)]
      refine ⟨⟨j + 1, F4', by omega, rfl, ?_⟩, by rw [iOf0, iOf0]; omega⟩
      have er : (⟨[⟨s, m + 1 - j⟩], [], 0⟩ : Tab (List Attr)).release [] 1 = if m + 1 - j = 1 then ⟨[⟨[], 0⟩], [0], 0⟩ else ⟨[⟨s, m + 1 - j - 1⟩], [], 0⟩ := Tab.release_at hp hp0
      rw [er] at hL4'
      by_cases he : m + 1 - j = 1
      · rw [if_pos he] at hL4'
        rw [if_neg (by omega)]; exact hL4'
      · rw [if_neg he] at hL4'
        rw [if_pos (by omega), show m + 1 - (j + 1) = m + 1 - j - 1 by omega]; exact hL4'
    · rw [if_neg (by omega)] at hL2
      refine callK_mono (hL2.held (id := 1) (by simp) (by decide) (by decide)) ?_
      rintro _ W3 ⟨rfl, g3, hL3⟩
      rw [eqK_i]
      refine condK_p (fun _ => ?_) fun e => (e rfl).elim
      refine callK_mono (hL3.hold (id := 1) (Small.up (small_of (by simp) (by simp) (by simp))) (by decide) (by decide)) ?_
      rintro _ W4 ⟨rfl, F4', hL4', _, _⟩
      have hL4'' : L w F4' W4 b [key07] ⟨[⟨[], 0⟩], [0], 0⟩ := hL4'
      rw [eqK_i]
      refine condK_p (fun _ => ?_) fun e => (e rfl).elim
      refine callK_mono (hL4''.len (by simp)) ?_
      rintro _ W5 ⟨rfl, g5, hL5⟩
      rw [eqK_i]
      exact condK_p (fun _ => kn hL5.g) fun e => (e rfl).elim
end Go.Proofs.YtmfplfaeibehiaaDoor

namespace Go.K
open Go
theorem Tab.Small.added {α : Type} {t t' : Tab α} {z s : α} {id : Int} {N : Nat} (h : t.Small N) (ha : t.Added z s id t') : t'.Small (N + 1) := by
  have up : ∀ p ∈ t.places, p.held ≤ N + 1 := fun p hp => Nat.le_succ_of_le (h.he p hp)
  have hpl := h.pl
  have hem := h.em
  rcases ha with ⟨_, _, rfl⟩ | ⟨_, i, n, hp, hn, _, rfl⟩ | ⟨_, _, _, rfl⟩
  · exact ⟨Nat.le_succ_of_le h.pl, Nat.succ_le_succ h.em, up⟩
  · refine ⟨?_, Nat.le_succ_of_le h.em, fun p hp' => ?_⟩
    · show (t.places.set i _).length ≤ _
      rw [List.length_set]; omega
    · rcases List.mem_or_eq_of_mem_set hp' with hp' | rfl
      · exact up p hp'
      · have := h.he _ (List.mem_of_getElem? hp)
        simp only at this ⊢
        omega
  · unfold Tab.put
    cases t.free.getLast? with
    | some i =>
      refine ⟨?_, Nat.le_succ_of_le h.em, fun p hp' => ?_⟩
      · show (t.places.set i _).length ≤ _
        rw [List.length_set]; omega
      · rcases List.mem_or_eq_of_mem_set hp' with hp' | rfl
        · exact up p hp'
        · simp
    | none =>
      refine ⟨?_, Nat.le_succ_of_le h.em, fun p hp' => ?_⟩
      · show (t.places ++ [_]).length ≤ _
        rw [List.length_append, List.length_singleton]; omega
      · rcases List.mem_append.1 hp' with hp' | hp'
        · exact up p hp'
        · rw [List.mem_singleton] at hp'; subst hp'; simp
theorem Tab.Small.release {α : Type} {t : Tab α} {z : α} {id : Int} {N : Nat} (h : t.Small N) : (t.release z id).Small N := by
  unfold Tab.release
  cases ha : t.ask z id with
  | none => exact h
  | some p =>
    dsimp only
    have hpl := h.pl
    have hem := h.em
    split
    · exact ⟨h.pl, by show t.empty - 1 ≤ N; omega, h.he⟩
    · rename_i h0
      split
      · refine ⟨by show (t.places.set _ _).length ≤ _; rw [List.length_set]; exact h.pl, h.em, fun q hq => ?_⟩
        rcases List.mem_or_eq_of_mem_set hq with hq | rfl
        · exact h.he q hq
        · simp
      · refine ⟨by show (t.places.set _ _).length ≤ _; rw [List.length_set]; exact h.pl, h.em, fun q hq => ?_⟩
        rcases List.mem_or_eq_of_mem_set hq with hq | rfl
        · exact h.he q hq
        · obtain ⟨i, _, hp, _⟩ := Tab.ask_pos ha h0
          have := h.he _ (List.mem_of_getElem? hp)
          simp only; omega
theorem Tab.Small.hold {α : Type} {t : Tab α} {z : α} {id : Int} {N : Nat} (h : t.Small N) : (t.hold z id).Small (N + 1) := by
  unfold Tab.hold
  have hpl := h.pl
  have hem := h.em
  cases ha : t.ask z id with
  | none => exact ⟨Nat.le_succ_of_le h.pl, Nat.le_succ_of_le h.em, fun p hp => Nat.le_succ_of_le (h.he p hp)⟩
  | some p =>
    dsimp only
    split
    · exact ⟨by show t.places.length ≤ _; omega, by show t.empty + 1 ≤ _; omega, fun p hp => Nat.le_succ_of_le (h.he p hp)⟩
    · rename_i h0
      refine ⟨by show (t.places.set _ _).length ≤ _; rw [List.length_set]; omega, by show t.empty ≤ _; omega, fun q hq => ?_⟩
      rcases List.mem_or_eq_of_mem_set hq with hq | rfl
      · exact Nat.le_succ_of_le (h.he q hq)
      · obtain ⟨i, _, hp, _⟩ := Tab.ask_pos ha h0
        have := h.he _ (List.mem_of_getElem? hp)
        simp only; omega
theorem Tab.Small.le {α : Type} {t : Tab α} {N N' : Nat} (h : t.Small N) (hn : N ≤ N') : t.Small N' := ⟨Nat.le_trans h.pl hn, Nat.le_trans h.em hn, fun p hp => Nat.le_trans (h.he p hp) hn⟩
/-- a set has an id -/
def Tab.Has {α : Type} (t : Tab α) (z s : α) (id : Int) (n : Nat) : Prop := t.ask z id = some ⟨s, n⟩ ∧ 0 < n ∧ (id = 0 ↔ s = z)
theorem Tab.Has.zero {α : Type} {t : Tab α} {z s : α} {n : Nat} (h : t.Has z s 0 n) : s = z ∧ t.empty = n := by
  have h1 := h.1
  unfold Tab.ask at h1
  rw [if_pos rfl] at h1
  cases h1
  exact ⟨rfl, rfl⟩
theorem Tab.Has.pos {α : Type} {t : Tab α} {z s : α} {id : Int} {n : Nat} (h : t.Has z s id n) (h0 : id ≠ 0) : ∃ i : Nat, id = (i : Int) + 1 ∧ t.places[i]? = some ⟨s, n⟩ := by
  obtain ⟨i, e, hp, _⟩ := Tab.ask_pos h.1 h0
  exact ⟨i, e, hp⟩
theorem Tab.Has.mkz {α : Type} {t : Tab α} {z : α} (h : 0 < t.empty) : t.Has z z 0 t.empty := ⟨by unfold Tab.ask; rw [if_pos rfl], h, by simp⟩
theorem Tab.Has.mkp {α : Type} {t : Tab α} {z s : α} {i n : Nat} (hs : s ≠ z) (hp : t.places[i]? = some ⟨s, n⟩) (hn : 0 < n) : t.Has z s ((i : Int) + 1) n := ⟨Tab.ask_at hp hn, hn, ⟨fun h => by omega, fun h => absurd h hs⟩⟩
/-- what was added is there -/
theorem Tab.Added.has {α : Type} {t t' : Tab α} {z x : α} {k : Int} {G : α → Prop} (h : t.Added z x k t') (hi : t.Inv G) (hg : x ≠ z → G x) : ∃ n, t'.Has z x k n := by
  rcases h with ⟨rfl, rfl, rfl⟩ | ⟨hz, i, n, hp, hn, rfl, rfl⟩ | ⟨hz, hno, rfl, rfl⟩
  · exact ⟨t.empty + 1, Tab.Has.mkz (t := { t with empty := t.empty + 1 }) (Nat.succ_pos _)⟩
  · have hlt := (List.getElem?_eq_some_iff.1 hp).1
    exact ⟨n + 1, Tab.Has.mkp hz (by show (t.places.set i _)[i]? = _; rw [List.getElem?_set_self hlt]) (Nat.succ_pos _)⟩
  · obtain ⟨_, h1, _⟩ := Tab.put_spec hi (hg hz) hno
    exact ⟨1, Tab.Has.mkp hz h1 Nat.one_pos⟩
/-- what adding keeps of a set that is there -/
theorem Tab.Added.keeps {α : Type} [DecidableEq α] {t t' : Tab α} {z x s : α} {k id : Int} {n : Nat} {G : α → Prop} (h : t.Added z x k t') (hi : t.Inv G) (hg : x ≠ z → G x) (hs : t.Has z s id n) : t'.Has z s id (if x = s then n + 1 else n) ∧ (x = s ↔ k = id) := by
  by_cases h0 : id = 0
  · subst h0
    obtain ⟨rfl, rfl⟩ := hs.zero
    rcases h with ⟨rfl, rfl, rfl⟩ | ⟨hz, i, n, hp, hn, rfl, rfl⟩ | ⟨hz, hno, rfl, rfl⟩
    · rw [if_pos rfl]
      exact ⟨Tab.Has.mkz (t := { t with empty := t.empty + 1 }) (Nat.succ_pos _), by simp⟩
    · rw [if_neg hz]
      exact ⟨Tab.Has.mkz (t := t.setP i _) hs.2.1, ⟨fun e => absurd e hz, fun e => by omega⟩⟩
    · rw [if_neg hz]
      obtain ⟨_, _, _, _, h4⟩ := Tab.put_spec hi (hg hz) hno
      refine ⟨?_, ⟨fun e => absurd e hz, fun e => by omega⟩⟩
      have := Tab.Has.mkz (t := (t.put x).2) (z := s) (by rw [h4]; exact hs.2.1)
      rwa [h4] at this
  · obtain ⟨j, rfl, hp⟩ := hs.pos h0
    have hsz : s ≠ z := fun e => h0 (hs.2.2.2 e)
    have hlt := (List.getElem?_eq_some_iff.1 hp).1
    rcases h with ⟨rfl, rfl, rfl⟩ | ⟨hz, i, m, hp', hm, rfl, rfl⟩ | ⟨hz, hno, rfl, rfl⟩
    · rw [if_neg (Ne.symm hsz)]
      exact ⟨Tab.Has.mkp (t := { t with empty := t.empty + 1 }) hsz hp hs.2.1, ⟨fun e => absurd e.symm hsz, fun e => by omega⟩⟩
    · by_cases e : x = s
      · subst e
        have hij := hi.uni i j _ _ hp' hp hm hs.2.1 rfl
        subst hij
        rw [hp] at hp'; cases hp'
        rw [if_pos rfl]
        exact ⟨Tab.Has.mkp hsz (by show (t.places.set i _)[i]? = _; rw [List.getElem?_set_self hlt]) (Nat.succ_pos _), by simp⟩
      · rw [if_neg e]
        have hij : i ≠ j := fun hij => by subst hij; rw [hp] at hp'; cases hp'; exact e rfl
        exact ⟨Tab.Has.mkp hsz (by show (t.places.set i _)[j]? = _; rw [List.getElem?_set_ne hij]; exact hp) hs.2.1, ⟨fun h => absurd h e, fun h => absurd (by omega) hij⟩⟩
    · have e : x ≠ s := fun e => hno j _ hp hs.2.1 e.symm
      rw [if_neg e]
      obtain ⟨_, _, h2, h3, _⟩ := Tab.put_spec hi (hg hz) hno
      have hij : j ≠ (t.put x).1 := fun hij => by
        have := h2 ⟨s, n⟩ (hij ▸ hp)
        have := hs.2.1
        simp only at *
        omega
      exact ⟨Tab.Has.mkp hsz ((h3 j hij).trans hp) hs.2.1, ⟨fun h => absurd h e, fun h => absurd (by omega) hij⟩⟩
/-- what freeing keeps -/
theorem Tab.Has.release {α : Type} {t : Tab α} {z s : α} {k id : Int} {n : Nat} (hs : t.Has z s id n) (hk : k ≠ id ∨ 1 < n) : (t.release z k).Has z s id (if k = id then n - 1 else n) := by
  by_cases e : k = id
  · subst e
    have hn : 1 < n := hk.resolve_left fun h => h rfl
    rw [if_pos rfl]
    unfold Tab.release
    rw [hs.1]
    dsimp only
    by_cases h0 : k = 0
    · subst h0
      obtain ⟨rfl, rfl⟩ := hs.zero
      rw [if_pos rfl]
      exact Tab.Has.mkz (t := { t with empty := t.empty - 1 }) (by show 0 < t.empty - 1; omega)
    · obtain ⟨j, rfl, hp⟩ := hs.pos h0
      have hlt := (List.getElem?_eq_some_iff.1 hp).1
      rw [if_neg h0, if_neg (by omega), show ((j : Int) + 1 - 1).toNat = j by omega]
      exact Tab.Has.mkp (fun e => h0 (hs.2.2.2 e)) (by show (t.places.set j _)[j]? = _; rw [List.getElem?_set_self hlt]) (by omega)
  · rw [if_neg e]
    unfold Tab.release
    cases ha : t.ask z k with
    | none => exact hs
    | some p =>
      dsimp only
      by_cases hk0 : k = 0
      · rw [if_pos hk0]
        have h0 : id ≠ 0 := fun h => e (by rw [hk0, h])
        obtain ⟨j, rfl, hp⟩ := hs.pos h0
        exact Tab.Has.mkp (t := { t with empty := t.empty - 1 }) (fun e => h0 (hs.2.2.2 e)) hp hs.2.1
      · rw [if_neg hk0]
        obtain ⟨i, rfl, hp, hp0⟩ := Tab.ask_pos ha hk0
        rw [show ((i : Int) + 1 - 1).toNat = i by omega]
        by_cases h0 : id = 0
        · subst h0
          obtain ⟨rfl, rfl⟩ := hs.zero
          split
          · exact Tab.Has.mkz (t := t.drop s i) hs.2.1
          · exact Tab.Has.mkz (t := t.setP i _) hs.2.1
        · obtain ⟨j, rfl, hpj⟩ := hs.pos h0
          have hij : i ≠ j := fun h => e (by rw [h])
          split
          · exact Tab.Has.mkp (fun e => h0 (hs.2.2.2 e)) (by show (t.places.set i _)[j]? = _; rw [List.getElem?_set_ne hij]; exact hpj) hs.2.1
          · exact Tab.Has.mkp (fun e => h0 (hs.2.2.2 e)) (by show (t.places.set i _)[j]? = _; rw [List.getElem?_set_ne hij]; exact hpj) hs.2.1
theorem Tab.Has.le {α : Type} {t : Tab α} {z s : α} {id : Int} {n N : Nat} (h : t.Has z s id n) (hs : t.Small N) : 0 ≤ id ∧ id ≤ N := by
  by_cases h0 : id = 0
  · omega
  · obtain ⟨j, rfl, hp⟩ := h.pos h0
    have := (List.getElem?_eq_some_iff.1 hp).1
    have := hs.pl
    omega
end Go.K
