/- Contract of schema.New; known04; the plain law of keys. No conditions. -/
import Derived.Test.YtmfplfaeibehiaaSD
namespace Go.Proofs.Ytmfplfaeibehiaa
open Go Go.K

def Dist (keys : List DKey) : Prop := keys.Pairwise fun x y => x.id ≠ y.id
theorem mayk_iff {keys : List DKey} : MayKeys keys ↔ keys.length ≤ 64 ∧ (∀ k ∈ keys, KeyOK k) ∧ Dist keys := by
  unfold MayKeys MayN Dist
  rw [List.pairwise_iff_getElem]
  constructor
  · rintro ⟨h1, h2⟩
    refine ⟨h1, fun k hk => ?_, fun i j hi hj hij => ?_⟩
    · obtain ⟨i, hi, rfl⟩ := List.getElem_of_mem hk
      exact (h2 i hi _ (List.getElem?_eq_getElem hi)).1
    · exact (h2 j hj _ (List.getElem?_eq_getElem hj)).2 i hij _ (List.getElem?_eq_getElem hi)
  · rintro ⟨h1, h2, h3⟩
    refine ⟨h1, fun i hi k hk => ?_⟩
    rw [List.getElem?_eq_getElem hi] at hk; cases hk
    refine ⟨h2 _ (List.getElem_mem hi), fun j hj k' hk' => ?_⟩
    rw [List.getElem?_eq_getElem (by omega)] at hk'; cases hk'
    exact h3 j i (by omega) hi hj
theorem find_map {L : List DKey} {id : Int} : (L.map fun k => (k.id, (Value.agg k.cells.toArray))).find? (fun p => decide (p.1 = id)) = (findK L id).map fun k => (k.id, .agg k.cells.toArray) := by
  unfold findK
  rw [List.find?_map]
  rfl
theorem findK_iff {L : List DKey} (hd : Dist L) {id : Int} {k : DKey} : findK L id = some k ↔ k ∈ L ∧ k.id = id := by
  induction L with
  | nil => simp [findK]
  | cons x L ih =>
    unfold Dist at hd
    rw [List.pairwise_cons] at hd
    have ih' := ih hd.2
    unfold findK at ih' ⊢
    by_cases hx : x.id = id
    · rw [List.find?_cons_of_pos (by simpa using hx)]
      simp only [Option.some.injEq, List.mem_cons]
      constructor
      · rintro rfl; exact ⟨.inl rfl, hx⟩
      · rintro ⟨rfl | hk, h2⟩
        · rfl
        · exact (hd.1 k hk (by rw [hx, h2])).elim
    · rw [List.find?_cons_of_neg (by simpa using hx), ih']
      constructor
      · rintro ⟨h1, h2⟩; exact ⟨List.mem_cons_of_mem _ h1, h2⟩
      · rintro ⟨h1, h2⟩
        rcases List.mem_cons.1 h1 with rfl | h1
        · exact (hx h2).elim
        · exact ⟨h1, h2⟩
theorem Dist.perm {L L' : List DKey} (hp : L.Perm L') (h : Dist L) : Dist L' := (hp.pairwise_iff (R := fun x y : DKey => x.id ≠ y.id) fun h => h.symm).1 h
theorem findK_perm {L L' : List DKey} (hp : L.Perm L') (hd : Dist L) (id : Int) : findK L id = findK L' id := by
  refine Option.ext fun k => ?_
  rw [findK_iff hd, findK_iff (hd.perm hp), hp.mem_iff]
theorem strict_of {L : List DKey} (hd : Dist L) (hs : L.Pairwise fun x y => x.id ≤ y.id) : L.Pairwise fun x y => x.id < y.id := by
  refine (List.Pairwise.and hd hs).imp fun {x y} h => ?_
  obtain ⟨h1, h2⟩ := h
  omega

structure NewI (w0 W : World) (b m : Nat) (kv : Value) (keys : List DKey) (i : Nat) : Prop where
  c0 : W.cell? ⟨b, 0, none⟩ = some kv
  c1 : W.cell? ⟨b, 1, none⟩ = some (.map (some m))
  row : OwnR w0.heap.size 72 6 RKey W kv keys
  mp : MapI W m ((keys.take i).map fun k => (k.id, .agg k.cells.toArray))
  hb : w0.heap.size ≤ b
  hm : w0.heap.size ≤ m
  ne : m ≠ b
  own : ∀ g, kv.ownBlock = some g → g ≠ m ∧ g ≠ b
  g : Grow w0 W
theorem NewI.grow {w0 W W' : World} {b m i : Nat} {kv : Value} {keys : List DKey} (h : NewI w0 W b m kv keys i) (hg : Grow W W') : NewI w0 W' b m kv keys i :=
  ⟨hg.cell h.c0 fun h => h, hg.cell h.c1 fun h => h, OwnR.mod h.row hg (fun _ _ h => h) fun _ _ _ h => h, h.mp.mod hg fun h => h, h.hb, h.hm, h.ne, h.own, h.g.trans hg⟩

open Classical in
theorem new_key_ok {S : Nat → Prop} {kv : Value} {keys : List DKey} {w : World} (h : RKeys S w kv keys) :
    callK Try.prog 47 [kv] (fun v' w' => Grow w w' ∧ ((MayKeys keys ∧ ∃ (sv : Value) (ks : List DKey), v' = .tuple #[sv, .int .i64 0] ∧ ks.Perm keys ∧ ks.Pairwise (fun x y => x.id < y.id) ∧ SchR (fun b => w.heap.size ≤ b) w' sv ks) ∨
      (¬ MayKeys keys ∧ v' = .tuple #[.pointer none, .int .i64 3]))) w := by
  apply S47_ok
  unfold S47
  obtain ⟨a, c, rfl, hmx⟩ := h.shape
  simp only [maxLen] at hmx
  rw [lenK_i, gtK_i]
  refine condK_p (fun h6 => ⟨Mod.refl _ _, .inr ⟨by rintro ⟨h, _⟩; omega, rfl⟩⟩) fun h6 => ?_
  refine callK_mono (clone_key h (by omega)) ?_
  rintro v1 w1 ⟨o1, g1⟩
  refine runK_i (v := .map (some w1.heap.size)) (w' := w1.alloc (.map #[] 0)) rfl ?_
  have g2 : Grow w1 (w1.alloc (.map #[] 0)) := Mod.alloc _ _ _
  have hmp : MapI (w1.alloc (.map #[] 0)) w1.heap.size [] := MapI.make w1
  have hz2 : (w1.alloc (.map #[] 0)).heap.size = w1.heap.size + 1 := by simp
  generalize w1.alloc (.map #[] 0) = w2 at g2 hmp hz2 ⊢
  obtain ⟨ra, rc, rfl, _, _, _, _⟩ := o1.shape
  refine ⟨#[.slice ra keys.length rc, .map (some w1.heap.size)], by kernel_rfl, ?_⟩
  refine boxn_i (vs := [.slice ra keys.length rc, .map (some w1.heap.size)]) fun b w3 hb hz3 g3 hc3 _ => ?_
  have z1 := g1.size
  have z2 := g2.size
  have hown : ∀ g, (Value.slice ra keys.length rc).ownBlock = some g → g < w1.heap.size := fun g hg => (OwnR.ownB o1 g hg).2
  have I0 : NewI w w3 b w1.heap.size (.slice ra keys.length rc) keys 0 :=
    ⟨by have := hc3 0 _ rfl; rwa [addr0] at this, by have := hc3 1 _ rfl; rwa [addr0] at this, OwnR.mod o1 (g2.trans g3) (fun _ _ h => h) fun _ _ _ h => h, by simpa using hmp.mod g3 fun h => h, by omega, by omega, by omega, fun g hg => by have := hown g hg; omega, (g1.trans g2).trans g3⟩
  generalize Value.slice ra keys.length rc = rv at I0 hown ⊢
  clear hc3 hmp o1
  generalize w1.heap.size = m at *
  rw [lenK_i]
  refine LoopK_i (fun vs W => ∃ i : Nat, i ≤ keys.length ∧ vs = [.int .i64 i] ∧ NewI w W b m rv keys i ∧ MayN keys i) (fun vs _ => keys.length - iOf vs 0) ⟨0, Nat.zero_le _, rfl, I0, fun i hi => by omega⟩ ?_
  rintro vs W ⟨i, hi, rfl, I, hmay⟩ _
  rw [nth_z, List.headD_cons, ltK_i]
  refine condK_p (fun hlt => ?_) fun hge => ?_
  · have hlt' : i < keys.length := by omega
    have hki : keys[i]? = some keys[i] := List.getElem?_eq_getElem hlt'
    obtain ⟨p, r, rfl, _, hr, hc, rfl⟩ := (h.grow I.g (by decide) fun _ _ h => h).get hlt'
    refine ixK_n hlt' (ldnK_i hr (fun j u hu => by rw [Addr.add_add]; exact hc j u hu) ?_)
    refine newst_n (vs := keys[i].cells) rfl rfl (RKey.one (w := w) (x := keys[i]) rfl) fun b6 W1 hb6 hz6 g6 hc6 _ => ?_
    have I1 := I.grow g6
    have bad : ∀ W', Grow W1 W' → ¬ MayKeys keys → (fun v' w' => Grow w w' ∧ ((MayKeys keys ∧ ∃ (sv : Value) (ks : List DKey), v' = .tuple #[sv, .int .i64 0] ∧ ks.Perm keys ∧ ks.Pairwise (fun x y => x.id < y.id) ∧ SchR (fun b => w.heap.size ≤ b) w' sv ks) ∨
      (¬ MayKeys keys ∧ v' = .tuple #[.pointer none, .int .i64 3]))) (Value.tuple #[.pointer none, .int .i64 3]) W' := fun W' g hn => ⟨I1.g.trans g, .inr ⟨hn, rfl⟩⟩
    refine JoinK_i (fun _ W2 => Grow W1 W2 ∧ findK (keys.take i) keys[i].id = none ∧ KeyOK keys[i]) ?_ ?_
    · rintro _ W2 ⟨gW2, hno, hok⟩ _
      have I2 := I1.grow gW2
      refine drawC_i (fun k y => k = 7 ∧ y = m) ?_
      have gd : Grow W2 W2.drew := Mod.drew _ _
      have I3 := I2.grow gd
      have c6 : ∀ j u, keys[i].cells[j]? = some u → W2.drew.cell? ((⟨b6, 0, none⟩ : Addr).add j) = some u := fun j u hu => (gW2.trans gd).cell (hc6 j u hu) fun h => h
      refine nilckK_s ?_
      rw [faK_i]
      refine sld1_i ⟨by rw [addr0]; exact I3.c1, fun j hj e => by obtain ⟨rfl, _⟩ := e; exact absurd hj (by decide)⟩ ?_
      rw [faK_i]
      refine sld1_i ⟨c6 0 _ rfl, fun j hj e => by obtain ⟨rfl, _⟩ := e; exact absurd hj (by decide)⟩ ?_
      refine sldn_i (vs := keys[i].cells) rfl (fun j u hu => ⟨c6 j u hu, fun j hj e => by obtain ⟨rfl, _⟩ := e; exact absurd hj (by decide)⟩) ?_
      obtain ⟨W4, hrun, hmp4, m4⟩ := map_update Try.underlying97 Try.underlying3 I3.mp keys[i].id (.agg keys[i].cells.toArray) (by rw [find_map, hno]; rfl)
      refine runK_i (v := undef) (w' := W4) (by simp only [Sem.run_bind, hrun, Result.andThen_ok, Sem.run_pure]) ⟨m4.mono fun y _ e => ⟨rfl, e⟩, ?_⟩
      rw [addK_i, loop_step (by omega)]
      refine ⟨⟨i + 1, hlt', rfl, ⟨m4.cell I3.c0 (fun e => I3.ne e.symm), m4.cell I3.c1 (fun e => I3.ne e.symm), OwnR.mod I3.row m4 (fun g hg e => (I3.own g hg).1 e) fun _ _ _ h => h, ?_, I3.hb, I3.hm, I3.ne, I3.own, I3.g.next m4 fun x hx e => by have := I3.hm; omega⟩, fun q hq k hk => ?_⟩, by rw [iOf0, iOf0]; omega⟩
      · rw [List.take_add_one, hki, List.map_append]; exact hmp4
      · by_cases e : q = i
        · subst e
          rw [hki] at hk; cases hk
          refine ⟨hok, fun j hj k' hk' e => ?_⟩
          unfold findK at hno
          rw [List.find?_eq_none] at hno
          exact hno k' (List.mem_of_getElem? (by rw [List.getElem?_take, if_pos hj]; exact hk')) (by simpa using e)
        · exact hmay q (by omega) k hk
    · refine JoinK_i (fun vs W2 => Grow W1 W2 ∧ vs = [.bool (findK (keys.take i) keys[i].id).isSome]) ?_ ?_
      · rintro _ W2 ⟨gW2, rfl⟩ _
        rw [nth_z, List.headD_cons]
        cases hf : findK (keys.take i) keys[i].id with
        | some k' =>
          refine condK_t (bad _ gW2 fun hM => ?_)
          have h1 := List.find?_some hf
          have h2 := List.mem_of_find?_eq_some hf
          obtain ⟨j, hj, e⟩ := List.getElem_of_mem h2
          rw [List.length_take] at hj
          rw [List.getElem_take] at e
          exact (hM.2 i hlt' _ hki).2 j (by omega) k' (by rw [List.getElem?_eq_getElem (by omega), e]) (by simpa using h1)
        | none =>
          refine condK_f (ldnK_i (vs := keys[i].cells) rfl (fun j u hu => gW2.cell (hc6 j u hu) fun h => h) ?_)
          refine callK_mono may1_ok ?_
          rintro _ W3 ⟨rfl, g3'⟩
          rw [notK_i]
          refine condK_neg (fun hok => ⟨gW2.trans g3', rfl, hok⟩) fun hbad => bad _ (gW2.trans g3') fun hM => hbad (hM.2 i hlt' _ hki).1
      · refine drawC_i (fun k y => k = 11 ∧ W1.heap.size ≤ y) ?_
        have gd : Grow W1 W1.drew := Mod.drew _ _
        have Id := I1.grow gd
        refine nilckK_s ?_
        rw [faK_i]
        refine sld1_i ⟨by rw [addr0]; exact Id.c1, fun j hj e => by obtain ⟨rfl, _⟩ := e; exact absurd hj (by decide)⟩ ?_
        rw [faK_i]
        refine sld1_i ⟨gd.cell (hc6 0 _ rfl) fun h => h, fun j hj e => by obtain ⟨rfl, _⟩ := e; exact absurd hj (by decide)⟩ ?_
        have look : ∀ W', Grow W1.drew W' → (Instr.lookup 97 (.map (some m)) (.int .i64 keys[i].id) true).run Try.prog W' = .ok (.tuple #[.agg (((findK (keys.take i) keys[i].id)).getD DKey.zero).cells.toArray, .bool (findK (keys.take i) keys[i].id).isSome]) W' := fun W' g' => by
          have := map_lookup Try.underlying97 Try.underlying3 (zero_key W') (Id.mp.mod g' fun h => h) keys[i].id
          rw [this, find_map]
          cases findK (keys.take i) keys[i].id <;> rfl
        generalize (findK (keys.take i) keys[i].id).getD DKey.zero = kz at look
        have one := RKey.one (w := w) (x := kz) rfl
        refine ⟨?_, ?_⟩
        · refine runK_i (look _ (Mod.refl _ _)) ⟨Mod.refl _ _, ?_⟩
          refine extK_i (vs := [_, _]) (by rfl) (extK_i (vs := [_, _]) (by rfl) ?_)
          refine newz_i fun b7 W5 hb7 hz7 g7 _ hl7 => ⟨g7.mono fun _ _ h => h.elim, ?_⟩
          refine stn_over rfl one hl7 fun W6 m6 _ _ => ⟨m6.mono fun y _ e => ⟨rfl, by have := gd.size; omega⟩, ?_, rfl⟩
          exact (gd.trans g7).next m6 fun x hx e => by have := gd.size; omega
        · refine newz_i fun b7 W5 hb7 hz7 g7 _ hl7 => ⟨g7.mono fun _ _ h => h.elim, ?_⟩
          refine runK_i (look _ g7) ⟨Mod.refl _ _, ?_⟩
          refine extK_i (vs := [_, _]) (by rfl) (extK_i (vs := [_, _]) (by rfl) ?_)
          refine stn_over rfl one hl7 fun W6 m6 _ _ => ⟨m6.mono fun y _ e => ⟨rfl, by have := gd.size; omega⟩, ?_, rfl⟩
          exact (gd.trans g7).next m6 fun x hx e => by have := gd.size; omega
  · have : i = keys.length := by omega
    subst this
    refine nilckK_s ?_
    rw [faK_i]
    refine ld1K_i (by rw [addr0]; exact I.c0) ?_
    refine callK_mono (sortk_ok I.row (by omega)) ?_
    rintro _ W2 ⟨ks, hp, hs, o2, m2⟩
    have hM : MayKeys keys := ⟨by omega, hmay⟩
    obtain ⟨_, _, hd⟩ := mayk_iff.1 hM
    have hd' := hd.perm hp.symm
    refine ⟨I.g.next m2 fun x hx e => by have := (OwnR.ownB I.row x e).1; omega, .inl ⟨hM, _, ks, rfl, hp, strict_of hd' hs, b, m, rv, _, rfl, I.hb, I.hm, m2.cell I.c0 fun e => (I.own _ e).2 rfl, m2.cell I.c1 fun e => (I.own _ e).2 rfl, (OwnR.sl o2).sub (fun _ _ h => h.1) (by decide) fun _ _ h => h, I.mp.mod m2 fun e => (I.own _ e).1 rfl, fun id => ?_⟩⟩
    rw [List.take_length, find_map, findK_perm hp hd']
    cases findK keys id <;> rfl
end Go.Proofs.Ytmfplfaeibehiaa
