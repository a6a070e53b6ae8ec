/- Contracts of the codec's writer: values, attributes, changes. Conditions: the sizes. Contract of the document's copying of a delta. Condition: how much there is. Contract of the document's gap: inserts with one set made one, then one delete. Condition: how much there is. A slice from a place up to a place; of a row of one's own, cut short. No conditions. Contract of the document's normal form, and of whether a delta is one. Condition: how much there is. What is known of normal forms; the laws NormalTwice and NormalShort: they answer true, and leave all memory as it was. Conditions: how much there is. The law NormalForms: it answers true, and leaves all memory as it was. Condition: how much there is. Contracts of the codec's writer: lists, sets, patches, ops, deltas. Conditions: the sizes. Contracts of the codec's reader: numbers, whole numbers, bytes at a place. Conditions: the sizes. Contracts of the codec's reader: its state; numbers, bytes, values. Conditions: the sizes. Contracts of the codec's reader: lengths, keys, values, attributes, changes. Conditions: the sizes. Contracts of the codec's reader: attributes, changes, ops, and rows of them. Conditions: the sizes. Contract: a delta's bytes. Conditions: the sizes; the numbers lie in their types. Contract: the delta of bytes. Conditions: the sizes. -/
import Derived.Test.YtgmpbihbdbmhoaaGreatDoorZCodecWritesUpto5
namespace Go.Proofs.YtgmpbihbdbmhoaaGreatDoor
open Go Go.K

theorem callyK_g {P:Program} {ok:Nat→Bool} {g:Nat} {bs cs args:List Value} {K:Cont} {w:World} (hok:ok g=true) (h:callK P g (bs++args++cs) K w):callyK P ok (.func (.func g) bs.toArray cs.toArray) args K w:=.inl ⟨g,bs,cs,rfl,hok,by simpa using h⟩
theorem strbytes' {s:ByteArray} {K:Cont} {w:World} (hs:s.size * 4≤140737488355328) (hK:∀ v w',Grow w w'→RBytes (fun z=>w.heap.size≤z∧z < w'.heap.size) w' v (bytesL s)→K v w'):runK Tryz.prog (convert 9 31 (.string s)) K w:=by
 refine ⟨_,_,run_bytes_of_string w _ _ 5 s (by kernel_rfl) (by kernel_rfl) (by kernel_rfl),hK _ _ ((Mod.drew (fun _=>False) w).trans (Mod.alloc _ _ _)) ?_⟩
 have hl:(bytesL s).length=s.size:=by simp [bytesL]
 have hm:s.size≤maxLen:=by simp only [maxLen];omega
 refine ⟨_,_,by rw [hl],by rw [hl];exact grownCap_ge _ _ _ _,grownCap_le_maxLen _ _ _ _ hm,fun i x hx=>⟨_,[.int .u8 x],rfl,⟨Nat.le_refl _,by simp⟩,rfl,fun j u hu=>?_,rfl⟩⟩
 have hj:j=0:=by have:=(List.getElem?_eq_some_iff.1 hu).1;simp at this;exact this
 subst hj
 simp at hu;subst hu
 rw [addr0,Nat.mul_one,Nat.add_zero]
 have hi:=(List.getElem?_eq_some_iff.1 hx).1
 rw [hl] at hi
 have hx':x=((s.data[i]'hi).toNat:Int):=by
  simp only [bytesL,List.getElem?_map,Array.getElem?_toList] at hx
  rw [Array.getElem?_eq_getElem hi] at hx
  simpa using hx.symm
 subst hx'
 have hs2:i < s.data.size:=hi
 refine (cell_allocF w.drew _ _ _ i).trans ?_
 simp [bytesRow,Array.getElem?_append,hi]
section
variable {G G':Nat→Prop} {W W':World} {c:Nat} {l:List Int}
theorem WrI.app2 {S M8 M11:Nat→Prop} {bv x:Value} {m:List Int} {K:World→Prop} (h:WrI G W c l) (hb:W.cell? ⟨c,0,none⟩=some bv) (hx:RBytes S W x m) (hl:l.length+m.length≤1099511627776) (h8:∀ z,bv.ownBlock=some z→M8 z) (h11:M11 c)
  (hK:∀ W',WrI G W' c (l++m)→Mod G W W'→K W') :
  runK Tryz.prog (Builtin.append_ #[31,31] 31 [bv,x].toArray) (fun t w=>Mod M8 W w∧nilckK (.pointer (some ⟨c,0,none⟩)) fun p=>faK 0 p fun q=>st1K q t (fun w'=>Mod M11 w w'∧K w') w) W:=by
 obtain ⟨bv',h1,h2,h3⟩:=h.ex
 obtain rfl:bv=bv':=Option.some.inj (hb.symm.trans h1)
 obtain ⟨v',w',r1,r2,r3,r4⟩:=OwnR.append (ty:=31) elem_byte h2 hx (fun _ _=>RByte.one) (by omega) (Nat.zero_le _) (by simp only [maxLen];omega) fun _ _ _ _ h=>h
 have m1:=Mod.of_grownBy r3
 have hlt:=h.lt
 have ncb:¬ bv.ownBlock=some c:=fun e=>(h3 c e).2 rfl
 refine runK_i r1 ⟨m1.mono fun z _ e=>h8 z e,nilckK_s ?_⟩
 rw [faK_i,addr0]
 have one:=OwnR.one r2
 refine (h.live.mod m1 ncb).st one.1 one.2 ⟨Mod.setCell _ _ _ h11,hK _ ⟨⟨v',World.cell?_setCell_same _ _ _ (m1.cell h1 ncb),OwnR.mod r2 (Mod.setCell (M:=fun z=>z=c) w' ⟨c,0,none⟩ v' rfl) (fun g hg e=>?_) fun _ _ _ h=>h,fun g hg=>?_⟩,(h.live.mod m1 ncb).set _ _,h.gc,fun z hz=>h.gn z ?_⟩ ((m1.mono fun z _ e=>(h3 z e).1).trans (Mod.setCell _ _ _ h.gc))⟩
 ·rcases r4 g hg with e' | e'
  ·exact (h3 g e').2 e
  ·omega
 ·rcases r4 g hg with e' | e'
  ·exact h3 g e'
  ·exact ⟨h.gn g e',by omega⟩
 ·have:=m1.size
  simp only [World.size_setCell] at hz
  omega
theorem wvalue_ok {v:AVal} (h:WrI G W c l) (hv:RepV v) (hl:l.length+v.s.size+100≤1099511627776) :
  callK Tryz.prog 101 [.pointer (some ⟨c,0,none⟩),.agg v.cells.toArray] (fun _ w'=>WrI G w' c (l++encV v)∧Mod G W w') W:=by
 apply S101_ok
 unfold S101
 have hk:=hv.kind
 refine boxn_i fun b w1 hb hz g hc _=>?_
 have h1:=h.narrow g
 have nb:¬ (G b∧¬ (W.heap.size≤b∧b < w1.heap.size)):=fun e=>e.2 ⟨by omega,by omega⟩
 have fin:∀ w' X,WrI (fun z=>G z∧¬ (W.heap.size≤z∧z < w1.heap.size)) w' c (l++X)→Mod (fun z=>G z∧¬ (W.heap.size≤z∧z < w1.heap.size)) w1 w'→X=encV v→WrI G w' c (l++encV v)∧Mod G W w':=fun w' X hX hm e=>by
  subst e
  exact ⟨hX.widen fun z hz=>hz.1,(g.mono fun _ _ e=>e.elim).trans (hm.mono fun z _ e=>e.1)⟩
 obtain ⟨k,hkk⟩:∃ k:Nat,v.kind=k:=⟨v.kind.toNat,by omega⟩
 have c0:=hc 0 _ rfl
 have c1:=hc 1 _ rfl
 have c2:=hc 2 _ rfl
 have c3:=hc 3 _ rfl
 rw [faK_i]
 refine ld1K_i c0 ?_
 rw [hkk]
 refine conv8_64 (by omega) ?_
 have eV:encV v=uv k++encW v:=by rw [encV_eq,hkk];rfl
 have hul:(uv k).length≤10:=(uvB_len 9 k).2
 refine callK_mono (wuint_ok h1 (by omega) (by omega)) ?_
 rintro _ w2 ⟨h2,m2⟩
 have ll:(l++uv k).length=l.length+(uv k).length:=List.length_append
 rw [faK_i]
 refine ld1K_i (m2.cell c0 nb) ?_
 rw [hkk]
 refine JoinK_i (fun vs W'=>W'=w2∧(v.kind=1∨v.kind=2)) ?_ ?_
 ·rintro _ _ ⟨rfl,hk12⟩ _
  rename World=>w2
  obtain ⟨bv,hbv,_,hbg⟩:=h2.ex
  have gd:Grow w2 w2.drew:=Mod.drew _ _
  have hn:-9223372036854775808≤v.n∧v.n≤9223372036854775807:=by
   rcases hv with ⟨_,h,_⟩ | ⟨h,_⟩ | ⟨h,_⟩
   ·exact h
   ·omega
   ·omega
  refine drawC_i (fun k z=>(k=8∧bv.ownBlock=some z)∨(k=11∧z=c)) ?_
  refine nilckK_s ?_
  rw [faK_i,addr0]
  refine sld1_i ⟨gd.cell hbv fun h=>h,fun j hj e=>by rcases e with ⟨rfl,_⟩ | ⟨rfl,_⟩ <;> exact absurd hj (by decide)⟩ ?_
  rw [faK_i]
  refine sld1_i ⟨gd.cell (m2.cell c1 nb) fun h=>h,fun j hj e=>by rcases e with ⟨rfl,e⟩ | ⟨rfl,e⟩ <;> first | exact absurd hj (by decide) | skip⟩ ?_
  refine callK_mono (aint_ok (S:=fun _=>True) (l:=[]) SlR.nil (by simp) hn.1 hn.2) ?_
  rintro v7 w7 ⟨o7,g7⟩
  refine ⟨g7.mono fun _ _ e=>e.elim,?_⟩
  have h7:=(h2.grow gd).grow g7
  rw [List.nil_append] at o7
  have hzl:(uv (zigN v.n)).length≤10:=(uvB_len 9 _).2
  refine h7.app2 (bv:=bv) (g7.cell (gd.cell hbv fun h=>h) fun h=>h) (OwnR.sl o7) (by omega) (fun z e=>.inl ⟨rfl,e⟩) (.inr ⟨rfl,rfl⟩) fun W' h' m'=>?_
  refine fin W' (uv k++uv (zigN v.n)) (by rw [←List.append_assoc];exact h') (m2.trans (((gd.trans g7).mono fun _ _ e=>e.elim).trans m')) ?_
  rw [eV];unfold encW;rw [if_pos hk12]
 ·rw [eqK_i]
  refine condK_p (fun e=>⟨rfl,.inl (by omega)⟩) fun n1=>?_
  rw [eqK_i]
  refine condK_p (fun e=>⟨rfl,.inr (by omega)⟩) fun n2=>?_
  rw [eqK_i]
  refine condK_p (fun e=>?_) fun n3=>?_
  ·rw [faK_i]
   refine ld1K_i (m2.cell c2 nb) ?_
   have hf:0≤v.f∧v.f < 18446744073709551616:=by
    rcases hv with ⟨h,_⟩ | ⟨_,_,h,_⟩ | ⟨h,_⟩
    ·omega
    ·exact h
    ·omega
   have ef:v.f=((v.f.toNat:Nat):Int):=by omega
   rw [ef]
   refine callK_mono (wuint_ok h2 (by omega) (by omega)) ?_
   rintro _ w3 ⟨h3,m3⟩
   refine fin w3 (uv k++uv v.f.toNat) (by rw [←List.append_assoc];exact h3) (m2.trans m3) ?_
   rw [eV];unfold encW;rw [if_neg (by omega),if_pos (by omega)]
  ·rw [eqK_i]
   refine condK_p (fun e=>?_) fun n4=>by omega
   rw [faK_i]
   refine ld1K_i (m2.cell c3 nb) ?_
   refine strbytes' (by omega) fun v4 w4 g4 hb4=>?_
   have h4:=h2.narrow g4
   refine callK_mono (wbytes_ok h4 hb4 (fun z hz e=>e.2 hz) (by rw [bytesL_len];omega)) ?_
   rintro _ w5 ⟨h5,m5⟩
   refine fin w5 (uv k++encX (bytesL v.s)) (by rw [←List.append_assoc];exact h5.widen fun z hz=>hz.1) (m2.trans ((g4.mono fun _ _ e=>e.elim).trans (m5.mono fun z _ e=>e.1))) ?_
   rw [eV];unfold encW encX;rw [if_neg (by omega),if_neg (by omega),if_pos (by omega),bytesL_len]
theorem encV_len (v:AVal):(encV v).length≤40+v.s.size:=by
 have h1:∀ n,(uv n).length≤10:=fun n=>(uvB_len 9 n).2
 have a:=h1 v.kind.toNat
 have b:=h1 (zigN v.n)
 have d:=h1 v.f.toNat
 have e:=h1 v.s.size
 unfold encV
 rw [List.length_append]
 split
 ·omega
 ·split
  ·omega
  ·split
   ·rw [List.length_append,bytesL_len];omega
   ·simp;omega
theorem wattr_ok {tb:Nat} {a:Attr} (h:WrI G W c l) (ht:W.cell? ⟨tb,0,none⟩=some (.pointer (some ⟨c,0,none⟩))) (hg:¬ G tb) (ha:RepA a) (hl:l.length+mAttr a+200≤1099511627776) :
  callK Tryz.prog 105 [.agg a.cells.toArray,.pointer (some ⟨tb,0,none⟩)] (fun _ w'=>WrI G w' c (l++encAt a)∧Mod G W w') W:=by
 apply S105_ok
 unfold S105
 refine boxn_i fun b w1 hb hz g hc _=>?_
 have h1:=h.narrow g
 have nb:¬ (G b∧¬ (W.heap.size≤b∧b < w1.heap.size)):=fun e=>e.2 ⟨by omega,by omega⟩
 have nt:¬ (G tb∧¬ (W.heap.size≤tb∧tb < w1.heap.size)):=fun e=>hg e.1
 have t1:=g.cell ht fun h=>h
 refine ld1K_i t1 ?_
 rw [faK_i]
 refine ld1K_i (hc 0 _ rfl) ?_
 have hk:=ha.1
 unfold Key63 at hk
 obtain ⟨k,hkk⟩:∃ k:Nat,a.key=k:=⟨a.key.toNat,by omega⟩
 rw [hkk]
 simp only [mAttr] at hl
 refine conv_64 (by omega) ?_
 have hul:(uv k).length≤10:=(uvB_len 9 k).2
 refine callK_mono (wuint_ok h1 (by omega) (by omega)) ?_
 rintro _ w2 ⟨h2,m2⟩
 refine ld1K_i (m2.cell t1 nt) ?_
 rw [faK_i]
 refine ldnK_i (vs:=a.val.cells) rfl (fun j u hu=>by rw [Addr.add_add];exact m2.cell (hc (1+j) u (by rw [Nat.add_comm];exact hu)) (by rw [addr0];exact nb)) ?_
 refine callK_mono (wvalue_ok h2 ha.2 (by rw [List.length_append];omega)) ?_
 rintro _ w3 ⟨h3,m3⟩
 refine ⟨?_,(g.mono fun _ _ e=>e.elim).trans ((m2.trans m3).mono fun z _ e=>e.1)⟩
 have e:l++encAt a=l++uv k++encV a.val:=by unfold encAt;rw [hkk,←List.append_assoc];rfl
 rw [e]
 exact h3.widen fun z hz=>hz.1
theorem wchg_ok {tb:Nat} {a:Chg} (h:WrI G W c l) (ht:W.cell? ⟨tb,0,none⟩=some (.pointer (some ⟨c,0,none⟩))) (hg:¬ G tb) (ha:RepC a) (hl:l.length+mChg a+200≤1099511627776) :
  callK Tryz.prog 100 [.agg a.cells.toArray,.pointer (some ⟨tb,0,none⟩)] (fun _ w'=>WrI G w' c (l++encCh a)∧Mod G W w') W:=by
 apply S100_ok
 unfold S100
 refine boxn_i fun b w1 hb hz g hc _=>?_
 have h1:=h.narrow g
 have nb:¬ (G b∧¬ (W.heap.size≤b∧b < w1.heap.size)):=fun e=>e.2 ⟨by omega,by omega⟩
 have nt:¬ (G tb∧¬ (W.heap.size≤tb∧tb < w1.heap.size)):=fun e=>hg e.1
 have t1:=g.cell ht fun h=>h
 refine ld1K_i t1 ?_
 rw [faK_i]
 refine ld1K_i (hc 0 _ rfl) ?_
 have hk:=ha.1
 unfold Key63 at hk
 obtain ⟨k,hkk⟩:∃ k:Nat,a.key=k:=⟨a.key.toNat,by omega⟩
 rw [hkk]
 simp only [mChg] at hl
 refine conv_64 (by omega) ?_
 have hul:(uv k).length≤10:=(uvB_len 9 k).2
 refine callK_mono (wuint_ok h1 (by omega) (by omega)) ?_
 rintro _ w2 ⟨h2,m2⟩
 have fin:∀ w' X,WrI (fun z=>G z∧¬ (W.heap.size≤z∧z < w1.heap.size)) w' c (l++uv k++X)→Mod (fun z=>G z∧¬ (W.heap.size≤z∧z < w1.heap.size)) w2 w'→X=(if a.gone then uv 0 else encV a.val)→WrI G w' c (l++encCh a)∧Mod G W w':=fun w' X hX hm e=>by
  subst e
  have e:l++encCh a=l++uv k++(if a.gone then uv 0 else encV a.val):=by unfold encCh;rw [hkk,←List.append_assoc];rfl
  rw [e]
  exact ⟨hX.widen fun z hz=>hz.1,(g.mono fun _ _ e=>e.elim).trans ((m2.trans hm).mono fun z _ e=>e.1)⟩
 rw [faK_i]
 refine ld1K_i (m2.cell (hc 1 _ rfl) nb) ?_
 refine condK_bb (fun hg1=>?_) fun hg1=>?_
 ·refine ld1K_i (m2.cell t1 nt) ?_
  refine callK_mono (wuint_ok (n:=0) h2 (by rw [List.length_append];omega) (by omega)) ?_
  rintro _ w3 ⟨h3,m3⟩
  exact fin w3 _ h3 m3 (by rw [hg1];rfl)
 ·refine ld1K_i (m2.cell t1 nt) ?_
  rw [faK_i]
  refine ldnK_i (vs:=a.val.cells) rfl (fun j u hu=>by rw [Addr.add_add];exact m2.cell (hc (2+j) u (by rw [Nat.add_comm];exact hu)) (by rw [addr0];exact nb)) ?_
  have hv:RepV a.val:=by
   rcases ha.2 with ⟨h,_⟩ | ⟨_,h⟩
   ·rw [h] at hg1;cases hg1
   ·exact h
  refine callK_mono (wvalue_ok h2 hv (by rw [List.length_append];omega)) ?_
  rintro _ w3 ⟨h3,m3⟩
  exact fin w3 _ h3 m3 (by rw [hg1];rfl)
end
end Go.Proofs.YtgmpbihbdbmhoaaGreatDoor

namespace Go.Proofs.YtgmpbihbdbmhoaaGreatDoor
open Go Go.K

theorem rcopy_dops {S D:Nat→Prop} {v:Value} {x:List Dop} {w:World} (h:RDops S D w v x) (hb:mDops x≤1099511627776) :
  callK Tryz.prog 8 [v] (fun v' w'=>ODops w.heap.size w' v' x∧Grow w w') w:=by
 apply S8_ok
 unfold S8
 have hxl:=mDops_len x
 obtain ⟨a,c,rfl,hmx⟩:=h.shape
 have hsz:∀ o ∈ x,o.runes.length * 4≤140737488355328∧o.set.length * 48≤140737488355328∧o.patch.length * 56≤140737488355328:=by
  intro o ho
  have:=mDops_mem ho
  simp only [mDop,mSet_eq,mPat_eq] at this
  omega
 refine LoopK_i (fun vs W=>∃ (i:Nat) (ov:Value),i≤x.length∧vs=[ov,.int .i64 i]∧ODops w.heap.size W ov (x.take i)∧Grow w W) (fun vs _=>x.length - iOf vs 1) ⟨0,_,Nat.zero_le _,rfl,OwnR.nil,Mod.refl _ _⟩ ?_
 rintro vs W ⟨i,ov,hi,rfl,ho,gW⟩ _
 rw [lenK_i]
 show ltK .i64 (.int .i64 i) _ _
 rw [ltK_i]
 refine condK_p (fun hlt=>?_) fun hge=>?_
 ·have hlt':i < x.length:=by omega
  obtain ⟨p,r,rfl,_,hr,hc0,hx⟩:=h.get hlt'
  have hc:∀ j u,r[j]?=some u→W.cell? (p.add (i * 5+j))=some u:=fun j u hu=>gW.cell (hc0 j u hu) fun h=>h
  refine ixK_n hlt' (ldnK_i hr (fun j u hu=>by rw [Addr.add_add];exact hc j u hu) ?_)
  refine newst_n hr rfl (RDop.one hx) fun b5 W4 hb5 hz5 g5 hc5 _=>?_
  have hx4:=hx.mod (D':=fun b=>b < w.heap.size) (gW.trans g5) (fun _ _ _ h=>h) fun _ hb _=>hb
  have gd:Grow W4 W4.drew:=Mod.drew _ _
  have hzd:W4.drew.heap.size=W4.heap.size:=rfl
  obtain ⟨rv,sv,pv,rfl,q1,q2,q3⟩:=hx4
  have hov:∀ y,ov.ownBlock=some y→y < W.heap.size∧w.heap.size≤y:=fun y hy=>⟨(OwnR.ownB ho y hy).2,(OwnR.ownB ho y hy).1⟩
  obtain ⟨z1,z2,z3⟩:=hsz x[i] (by simp)
  generalize hz:W4.heap.size=z at *
  have zW:W.heap.size < z:=by omega
  have zw:w.heap.size≤W.heap.size:=gW.size
  let M:Nat→Nat→Prop:=fun k y=>k=19∧ov.ownBlock=some y
  let E:Nat→Value→World→Prop:=fun e t W'=>∃ b,t=.slice (some ⟨b,0,none⟩) 0 0∧z≤b∧W'.heap[b]?=some (.cells #[] e (0,0))
  let A:Nat→Value→World→Prop:=fun k t W'=>match k with
   | 5=>E 21 t W' | 9=>E 61 t W' | 13=>E 63 t W'
   | 8=>OwnR z 21 1 RRune W' t x[i].runes
   | 12=>OwnR z 61 5 RAttr W' t x[i].set
   | 16=>OwnR z 63 6 RChg W' t x[i].patch
   | 18=>SlR (fun b=>z≤b) 5 (ODop fun b=>z≤b) W' t [x[i]]
   | 19=>ODops w.heap.size W' t (x.take (i+1))
   | _=>True
  have low:∀ k y,M k y→y < z:=fun k y hy=>by have:=hov y hy.2;omega
  have Est:∀ {e t W1 W2},E e t W1→Mod (fun y=>y < z) W1 W2→E e t W2:=fun ⟨b,e1,e2,e3⟩ hm=>⟨b,e1,e2,(hm.same b (Array.getElem?_eq_some_iff.1 e3).1 (by omega)).trans e3⟩
  have stab:Stab [5,8,9,12,13,16,18,19] A M W4.drew:=by
   intro j hj k hk hjk t W1 W2 _ hA hm
   have hm':Mod (fun y=>y < z) W1 W2:=hm.mono fun y _ e=>low k y e
   have own:∀ {β:Type} {e q:Nat} {R:World→List Value→β→Prop} {l:List β},(∀ r y,R W1 r y→R W2 r y)→OwnR z e q R W1 t l→OwnR z e q R W2 t l:=fun hR h=>OwnR.mod h hm' (fun g hg e=>by have:=(OwnR.ownB h g hg).1;omega) fun r y _ hy=>hR r y hy
   simp only [List.mem_cons,List.not_mem_nil,or_false] at hj
   rcases hj with rfl | rfl | rfl | rfl | rfl | rfl | rfl | rfl
   ·exact Est hA hm'
   ·exact own (fun _ _ h=>h) hA
   ·exact Est hA hm'
   ·exact own (fun _ _ h=>h) hA
   ·exact Est hA hm'
   ·exact own (fun _ _ h=>h) hA
   ·exact SlR.mod hA hm' (fun b _ hb e=>by omega) (by decide) fun r y hy=>ODop.mod hy hm' (fun b _ hb e=>by omega) fun _ _ h=>h
   ·have hg:Grow W1 W2:=hm.mono fun y _ e=>hjk e.1.symm
    exact ODops.grow hA hg fun _ _ _ h=>h
  refine ⟨A,M,stab,?_⟩
  have ld:∀ {q:Nat} {u:Value} (l:List Nat),[Value.int .u8 x[i].kind,.int .i64 x[i].n,rv,sv,pv][q]?=some u→W4.drew.cell? ((⟨b5,0,none⟩:Addr).add q)=some u∧∀ j ∈ l,¬ M j ((⟨b5,0,none⟩:Addr).add q).block:=fun l hu=>
   ⟨gd.cell (hc5 _ _ hu) fun h=>h,fun j _ e=>by
    have e2:ov.ownBlock=some b5:=by have:=e.2;rwa [add_block] at this
    have:=hov _ e2;omega⟩
  have qm:∀ {MM:Nat→Prop} {W':World},Mod MM W4.drew W'→(∀ y,MM y→ov.ownBlock=some y)→z≤W'.heap.size∧RRun (fun b=>b < w.heap.size) W' rv x[i].runes∧RSet (fun b=>b < w.heap.size) W' sv x[i].set∧RPat (fun b=>b < w.heap.size) W' pv x[i].patch:=by
   intro MM W' hm hMM
   have hno:∀ b,b < w.heap.size→¬ MM b:=fun b hb e=>by have:=hov b (hMM b e);omega
   have zz:z≤W'.heap.size:=by have:=hm.size;omega
   exact ⟨zz,(q1.grow gd (by decide) fun _ _ h=>h).mod hm (fun b _ hb=>hno b hb) (by decide) fun _ _ h=>h,(q2.grow gd (by decide) fun _ _ h=>h).mod hm (fun b _ hb=>hno b hb) (by decide) fun _ _ h=>h,(q3.grow gd (by decide) fun _ _ h=>h).mod hm (fun b _ hb=>hno b hb) (by decide) fun _ _ h=>h⟩
  have row0:∀ {e k:Nat} {W':World},z≤W'.heap.size→∀ j,A j=E e→rowK e k 0 [] [] (fun t W''=>Mod (M j) W' W''∧A j t W'') W':=fun {e k W'} hz j hj=>rowK_empty ⟨Mod.alloc _ _ _,by rw [hj];exact ⟨_,rfl,hz,(MapKept.heap_alloc W' _).1⟩⟩
  have own1:∀ {β:Type} {t e q bytes:Nat} {R:World→List Value→β→Prop} {l:List β} {S':Nat→Prop} {W':World} {t0 v:Value} (j:Nat),ElemOK Tryz.prog t e q bytes→E e t0 W'→SlR S' q R W' v l→(∀ w r y,R w r y→∀ u ∈ r,u.oneCell'=true)→l.length * bytes≤140737488355328→(∀ (w1 w2:World) r y,R w1 r y→R w2 r y)→z≤W'.heap.size→
    A j=(fun v' w'=>OwnR z e q R w' v' l)→runK Tryz.prog (Builtin.append_ #[t,t] t [t0,v].toArray) (fun v' w'=>Mod (M j) W' w'∧A j v' w') W':=by
   intro β t e q bytes R l S' W' t0 v j hE ⟨b,e1,e2,e3⟩ hv hone hlen hR hzz hA
   subst e1
   obtain ⟨v',w',r1,r2,r3,r4⟩:=append_new (ty:=t) hE e3 hv hone hlen fun w' _ r y hy=>hR _ _ r y hy
   refine runK_i r1 ⟨r3.mono fun _ _ h=>h.elim,?_⟩
   rw [hA]
   exact r2.base fun g hg=>by rcases r4 g hg with h | h <;> omega
  have bm:∀ {k:Nat} {l:List Nat} y,ButM l M k y→ov.ownBlock=some y:=fun y ⟨_,_,_,e⟩=>e.2
  have am:∀ {l:List Nat} y,AllM l M y→ov.ownBlock=some y:=fun y ⟨_,_,e⟩=>e.2
  have sh:∀ {e k:Nat} {β:Type} {R:World→List Value→β→Prop} {W':World} {v:Value} {l:List β},OwnR z e k R W' v l→∃ a n c,v=.slice a n c:=fun h=>by obtain ⟨a,c,rfl,_⟩:=h.shape;exact ⟨_,_,_,rfl⟩
  refine ⟨?_,?_,?_,?_,?_,?_,?_,?_,?_,?_⟩
  ·intro W5 hm
   obtain ⟨zz,_⟩:=qm hm bm
   rw [faK_i];refine sld1_i (ld _ rfl) ?_
   rw [faK_i];refine sld1_i (ld _ rfl) ?_
   rw [faK_i];refine sld1_i (ld _ rfl) ?_
   rw [faK_i];refine sld1_i (ld _ rfl) ?_
   rw [faK_i];refine sld1_i (ld _ rfl) ?_
   exact row0 zz 5 rfl
  ·intro W5 hm
   obtain ⟨zz,p1,p2,p3⟩:=qm hm bm
   rw [faK_i];refine sld1_i (ld _ rfl) ?_
   rw [faK_i];refine sld1_i (ld _ rfl) ?_
   intro t5 h5
   rw [faK_i];refine sld1_i (ld _ rfl) ?_
   rw [faK_i];refine sld1_i (ld _ rfl) ?_
   rw [faK_i];refine sld1_i (ld _ rfl) ?_
   exact own1 8 elem_rune h5 p1 (fun _ _ _=>RRune.one) z1 (fun _ _ _ _ h=>h) zz rfl
  ·intro W5 hm
   obtain ⟨zz,_⟩:=qm hm bm
   rw [faK_i];refine sld1_i (ld _ rfl) ?_
   rw [faK_i];refine sld1_i (ld _ rfl) ?_
   rw [faK_i];refine sld1_i (ld _ rfl) ?_
   rw [faK_i];refine sld1_i (ld _ rfl) ?_
   rw [faK_i];refine sld1_i (ld _ rfl) ?_
   exact row0 zz 9 rfl
  ·intro W5 hm
   obtain ⟨zz,p1,p2,p3⟩:=qm hm bm
   rw [faK_i];refine sld1_i (ld _ rfl) ?_
   rw [faK_i];refine sld1_i (ld _ rfl) ?_
   intro t5 h5
   rw [faK_i];refine sld1_i (ld _ rfl) ?_
   intro t8 h8 t9 h9
   rw [faK_i];refine sld1_i (ld _ rfl) ?_
   rw [faK_i];refine sld1_i (ld _ rfl) ?_
   exact own1 12 elem_attr h9 p2 (fun _ _ _=>RAttr.one) z2 (fun _ _ _ _ h=>h) zz rfl
  ·intro W5 hm
   obtain ⟨zz,_⟩:=qm hm bm
   rw [faK_i];refine sld1_i (ld _ rfl) ?_
   rw [faK_i];refine sld1_i (ld _ rfl) ?_
   rw [faK_i];refine sld1_i (ld _ rfl) ?_
   rw [faK_i];refine sld1_i (ld _ rfl) ?_
   rw [faK_i];refine sld1_i (ld _ rfl) ?_
   exact row0 zz 13 rfl
  ·intro W5 hm
   obtain ⟨zz,p1,p2,p3⟩:=qm hm bm
   rw [faK_i];refine sld1_i (ld _ rfl) ?_
   rw [faK_i];refine sld1_i (ld _ rfl) ?_
   intro t5 h5
   rw [faK_i];refine sld1_i (ld _ rfl) ?_
   intro t8 h8 t9 h9
   rw [faK_i];refine sld1_i (ld _ rfl) ?_
   intro t12 h12 t13 h13
   rw [faK_i];refine sld1_i (ld _ rfl) ?_
   exact own1 16 elem_chg h13 p3 (fun _ _ _=>RChg.one) z3 (fun _ _ _ _ h=>h) zz rfl
  ·intro W5 hm
   obtain ⟨zz,p1,p2,p3⟩:=qm hm bm
   rw [faK_i];refine sld1_i (ld _ rfl) ?_
   rw [faK_i];refine sld1_i (ld _ rfl) ?_
   intro t5 h5
   rw [faK_i];refine sld1_i (ld _ rfl) ?_
   intro t8 h8 t9 h9
   rw [faK_i];refine sld1_i (ld _ rfl) ?_
   intro t12 h12 t13 h13
   rw [faK_i];refine sld1_i (ld _ rfl) ?_
   intro t16 h16
   obtain ⟨a8,n8,c8,rfl⟩:=sh h8
   obtain ⟨a12,n12,c12,rfl⟩:=sh h12
   obtain ⟨a16,n16,c16,rfl⟩:=sh h16
   refine ⟨(row5 x[i] (.slice a8 n8 c8) (.slice a12 n12 c12) (.slice a16 n16 c16)).toArray,by kernel_rfl,?_⟩
   refine rowK_i (cs:=([row5 x[i] (.slice a8 n8 c8) (.slice a12 n12 c12) (.slice a16 n16 c16)]:List (List Value)).flatten) (by kernel_rfl) ⟨Mod.alloc _ _ _,?_⟩
   have ga:Grow W5 (W5.alloc (.cells ([row5 x[i] (.slice a8 n8 c8) (.slice a12 n12 c12) (.slice a16 n16 c16)]:List (List Value)).flatten.toArray TOp)):=Mod.alloc _ _ _
   have up:∀ {e k:Nat} {β:Type} {R:World→List Value→β→Prop} {v:Value} {l:List β},(∀ (w1 w2:World) r y,R w1 r y→R w2 r y)→OwnR z e k R W5 v l→OwnR 0 e k R (W5.alloc (.cells ([row5 x[i] (.slice a8 n8 c8) (.slice a12 n12 c12) (.slice a16 n16 c16)]:List (List Value)).flatten.toArray TOp)) v l∧∀ g,v.ownBlock=some g→z≤g:=fun hR h=>
    ⟨(OwnR.mod h ga (fun _ _ h=>h) fun r y _ hy=>hR _ _ r y hy).base fun _ _=>Nat.zero_le _,fun g hg=>(OwnR.ownB h g hg).1⟩
   show SlR (fun b=>z≤b) 5 (ODop fun b=>z≤b) _ _ [x[i]]
   refine SlR.sub (SlR.made (l:=[x[i]]) (t:=TOp) [row5 x[i] (.slice a8 n8 c8) (.slice a12 n12 c12) (.slice a16 n16 c16)] (by simp) rfl (by simp [maxLen]) fun j r y hr hy=>?_) (fun b _ e=>by omega) (by decide) fun _ _ h=>h
   match j with
   | 0=>cases hr;cases hy;exact ⟨_,_,_,rfl,up (fun _ _ _ _ h=>h) h8,up (fun _ _ _ _ h=>h) h12,up (fun _ _ _ _ h=>h) h16⟩
   | j+1=>simp at hr
  ·intro W5 hm
   obtain ⟨zz,p1,p2,p3⟩:=qm hm bm
   rw [faK_i];refine sld1_i (ld _ rfl) ?_
   rw [faK_i];refine sld1_i (ld _ rfl) ?_
   intro t5 h5
   rw [faK_i];refine sld1_i (ld _ rfl) ?_
   intro t8 h8 t9 h9
   rw [faK_i];refine sld1_i (ld _ rfl) ?_
   intro t12 h12 t13 h13
   rw [faK_i];refine sld1_i (ld _ rfl) ?_
   intro t16 h16
   obtain ⟨a8,n8,c8,rfl⟩:=sh h8
   obtain ⟨a12,n12,c12,rfl⟩:=sh h12
   obtain ⟨a16,n16,c16,rfl⟩:=sh h16
   refine ⟨(row5 x[i] (.slice a8 n8 c8) (.slice a12 n12 c12) (.slice a16 n16 c16)).toArray,by kernel_rfl,?_⟩
   intro t18 h18
   have gm:Grow W4.drew W5:=hm.mono fun y _ ⟨j,_,hj,e⟩=>hj e.1
   have g05:Grow W W5:=(g5.trans gd).trans gm
   have oz:OwnR w.heap.size 56 5 (ODop fun b=>w.heap.size≤b∧b < W5.heap.size∧ov.ownBlock≠some b) W5 ov (x.take i):=OwnR.mod ho g05 (fun _ _ h=>h) fun r y _ hy=>ODop.mod hy g05 (fun _ _ _ h=>h) fun b hb hd=>⟨hd.1,by have:=g05.size;omega,hd.2⟩
   have sz:SlR (fun b=>z≤b) 5 (ODop fun b=>w.heap.size≤b∧b < W5.heap.size∧ov.ownBlock≠some b) W5 t18 [x[i]]:=SlR.mono h18 (fun _ _ h=>h) (fun _ _ _=>rfl) (by decide) fun r y hy=>ODop.mod hy (Mod.refl (fun _=>False) _) (fun _ _ _ h=>h) fun b hb hd=>⟨by omega,hb,fun e=>by have:=hov b e;omega⟩
   have hl:(x.take i).length=i:=by rw [List.length_take];omega
   obtain ⟨v',w',r1,r2,r3,r4⟩:=OwnR.append (ty:=23) elem_dop oz sz (fun _ _=>ODop.one) (by rw [hl];simp only [List.length_cons,List.length_nil];omega) (by omega) (by rw [hl];simp only [List.length_cons,List.length_nil,maxLen];omega) fun w' hg r y hy=>ODop.mod hy (Mod.of_grownBy hg) (fun b _ hd e=>hd.2.2 e) fun _ _ h=>h
   refine runK_i r1 ⟨(Mod.of_grownBy r3).mono fun y _ e=>⟨rfl,e⟩,?_⟩
   show ODops w.heap.size w' v' (x.take (i+1))
   rw [List.take_add_one,List.getElem?_eq_getElem hlt']
   exact OwnR.mod r2 (Mod.refl (fun _=>False) _) (fun _ _ h=>h) fun r y _ hy=>ODop.mod hy (Mod.refl (fun _=>False) _) (fun _ _ _ h=>h) fun b hb hd=>⟨hd.1,fun e=>by
    rcases r4 b e with h | h
    ·exact hd.2.2 h
    ·have:=hd.2.1;omega⟩
  ·intro W5 hm
   rw [faK_i];refine sld1_i (ld _ rfl) ?_
   rw [faK_i];refine sld1_i (ld _ rfl) ?_
   intro t5 h5
   rw [faK_i];refine sld1_i (ld _ rfl) ?_
   intro t8 h8 t9 h9
   rw [faK_i];refine sld1_i (ld _ rfl) ?_
   intro t12 h12 t13 h13
   rw [faK_i];refine sld1_i (ld _ rfl) ?_
   intro t16 h16
   obtain ⟨a8,n8,c8,rfl⟩:=sh h8
   obtain ⟨a12,n12,c12,rfl⟩:=sh h12
   obtain ⟨a16,n16,c16,rfl⟩:=sh h16
   exact ⟨(row5 x[i] (.slice a8 n8 c8) (.slice a12 n12 c12) (.slice a16 n16 c16)).toArray,by kernel_rfl,trivial⟩
  ·intro W5 hm
   rw [faK_i];refine sld1_i (ld _ rfl) ?_
   rw [faK_i];refine sld1_i (ld _ rfl) ?_
   intro t5 h5
   rw [faK_i];refine sld1_i (ld _ rfl) ?_
   intro t8 h8 t9 h9
   rw [faK_i];refine sld1_i (ld _ rfl) ?_
   intro t12 h12 t13 h13
   rw [faK_i];refine sld1_i (ld _ rfl) ?_
   intro t16 h16
   obtain ⟨a8,n8,c8,rfl⟩:=sh h8
   obtain ⟨a12,n12,c12,rfl⟩:=sh h12
   obtain ⟨a16,n16,c16,rfl⟩:=sh h16
   refine ⟨(row5 x[i] (.slice a8 n8 c8) (.slice a12 n12 c12) (.slice a16 n16 c16)).toArray,by kernel_rfl,?_⟩
   intro t18 _ t19 h19
   show addK .i64 (.int .i64 i) _ _
   rw [addK_i,loop_step (by omega)]
   refine ⟨⟨i+1,t19,hlt',rfl,h19,(gW.trans (g5.trans gd)).next hm fun b hb e=>by have:=hov b (am b e);omega⟩,by rw [iOf1,iOf1];omega⟩
 ·have:i=x.length:=by omega
  subst this
  rw [List.take_length] at ho
  exact ⟨ho,gW⟩
end Go.Proofs.YtgmpbihbdbmhoaaGreatDoor

namespace Go.Proofs.YtgmpbihbdbmhoaaGreatDoor
open Go Go.K

abbrev RApart (E:Nat→Prop) (ov:Value):World→List Value→Dop→Prop:=RDop fun b=>ov.ownBlock≠some b∧E b
theorem rgapF_m (a:List Dop × Int) (o:Dop):mDops (rgapF a o).1≤mDops a.1+mDop o∧(rgapF a o).1.length≤a.1.length+1:=by
 unfold rgapF
 split
 ·exact ⟨Nat.le_add_right _ _,by simp⟩
 ·cases hl:a.1.getLast? with
  | none=>simp only [mDops_app,mDops_one,List.length_append,List.length_singleton];omega
  | some q=>
   simp only
   split
   ·obtain ⟨ys,hys⟩:=List.getLast?_eq_some_iff.1 hl
    rw [hys]
    have e:∀ m:Dop,(ys++[q]).set ((ys++[q]).length - 1) m=ys++[m]:=fun m=>by
     rw [List.length_append,List.length_singleton,Nat.add_sub_cancel,List.set_append_right _ _ (Nat.le_refl _)];simp
    rw [e]
    simp only [mDops_app,mDops_one,List.length_append,List.length_singleton,mDop]
    omega
   ·simp only [mDops_app,mDops_one,List.length_append,List.length_singleton];omega
theorem apart_push {E:Nat→Prop} {B:Nat} {w0 w':World} {ov ov':Value} {l':List Dop} (h:OwnR B 56 5 (RDop fun b=>b < w0.heap.size∧ov.ownBlock≠some b∧E b) w' ov' l') (hs:∀ g,ov'.ownBlock=some g→ov.ownBlock=some g∨w0.heap.size≤g) :
  OwnR B 56 5 (RApart E ov') w' ov' l':=
 OwnR.mod h (Mod.refl (fun _=>False) _) (fun _ _ h=>h) fun r y _ hy=>RDop.mod hy (Mod.refl (fun _=>False) _) (fun _ _ _ h=>h) fun b hb hd=>⟨fun e=>by
  rcases hs b e with h | h
  ·exact hd.2.1 h
  ·have:=hd.1;omega,hd.2.2⟩

theorem rgap_len (l:List Dop):mDops (l.foldl rgapF ([],0)).1≤mDops l∧(l.foldl rgapF ([],0)).1.length≤l.length:=by
 induction l using rev_ind with
 | h0=>exact ⟨Nat.le_refl _,Nat.le_refl _⟩
 | h1 x o ih=>
  rw [List.foldl_append,List.foldl_cons,List.foldl_nil,mDops_app,mDops_one,List.length_append,List.length_singleton]
  have:=rgapF_m (x.foldl rgapF ([],0)) o
  omega
theorem rgap_ok {S D:Nat→Prop} {xv:Value} {x:List Dop} {w:World} (h:RDops S D w xv x) (hb:mDops x≤1099511627776) :
  callK Tryz.prog 63 [xv] (fun v' w'=>OwnR w.heap.size 56 5 (RApart (fun b=>D b∨w.heap.size≤b) v') w' v' (rgap x)∧Grow w w') w:=by
 apply S63_ok
 unfold S63
 obtain ⟨pa,ca,rfl,hmx⟩:=h.shape
 have hxl:=mDops_len x
 refine LoopK_i (fun vs W=>∃ (i:Nat) (ov:Value),i≤x.length∧vs=[ov,.int .i64 ((x.take i).foldl rgapF ([],0)).2,.int .i64 i]∧OwnR w.heap.size 56 5 (RApart (fun b=>D b∨w.heap.size≤b) ov) W ov ((x.take i).foldl rgapF ([],0)).1∧Grow w W) (fun vs _=>x.length - iOf vs 2) ⟨0,_,Nat.zero_le _,rfl,OwnR.nil,Mod.refl _ _⟩ ?_
 rintro vs W ⟨i,ov,hi,rfl,ho,gW⟩ _
 rw [lenK_i]
 show ltK .i64 (.int .i64 i) _ _
 rw [ltK_i]
 have hgl:=rgap_len (x.take i)
 have htk:(x.take i).length=i:=by rw [List.length_take];omega
 rw [htk] at hgl
 refine condK_p (fun hlt=>?_) fun hge=>?_
 ·have hlt':i < x.length:=by omega
  have est:(x.take (i+1)).foldl rgapF ([],0)=rgapF ((x.take i).foldl rgapF ([],0)) x[i]:=by
   rw [List.take_add_one,List.getElem?_eq_getElem hlt',Option.toList_some,List.foldl_append];rfl
  have hmi:mDops (x.take i)+mDop x[i]≤mDops x:=by
   have e:x=x.take i++x[i] :: x.drop (i+1):=by rw [←List.drop_eq_getElem_cons hlt',List.take_append_drop]
   have e2:mDops x=mDops (x.take i)+mDops (x[i] :: x.drop (i+1)):=by
    conv=>lhs;rw [e]
    exact mDops_app _ _
   rw [e2];simp only [mDops,List.map_cons,List.sum_cons];omega
  generalize hst:(x.take i).foldl rgapF ([],0)=st at *
  obtain ⟨l,gone⟩:=st
  simp only at ho hgl ⊢
  refine JoinK_i (fun vs W2=>∃ ov' g',vs=[ov',.int .i64 g']∧(rgapF (l,gone) x[i]).2=g'∧OwnR w.heap.size 56 5 (RApart (fun b=>D b∨w.heap.size≤b) ov') W2 ov' (rgapF (l,gone) x[i]).1∧Grow w W2) ?_ ?_
  ·rintro _ W2 ⟨ov',g',rfl,rfl,ho',g2⟩ _
   show addK .i64 (.int .i64 i) _ _
   rw [addK_i,loop_step (by omega)]
   refine ⟨⟨i+1,ov',hlt',by rw [est];rfl,by rw [est];exact ho',g2⟩,by rw [iOf2,iOf2];omega⟩
  ·obtain ⟨p,r,rfl,_,hr,hc0,hx⟩:=h.get hlt'
   have hc:∀ j u,r[j]?=some u→W.cell? (p.add (i * 5+j))=some u:=fun j u hu=>gW.cell (hc0 j u hu) fun h=>h
   refine ixK_n hlt' (ldnK_i hr (fun j u hu=>by rw [Addr.add_add];exact hc j u hu) ?_)
   refine newst_n hr rfl (RDop.one hx) fun b6 W1 hb6 hz6 g6 hc6 _=>?_
   have hx1:=hx.mod (D':=fun b=>D b∧b < w.heap.size) (gW.trans g6) (fun _ _ _ h=>h) fun _ hb h=>⟨h,hb⟩
   have zw:=gW.size
   have gW1:=gW.trans g6
   have ho1:OwnR w.heap.size 56 5 (RApart (fun b=>D b∨w.heap.size≤b) ov) W1 ov l:=OwnR.mod ho g6 (fun _ _ h=>h) fun r y _ hy=>hy.mod g6 (fun _ _ _ h=>h) fun _ _ h=>h
   obtain ⟨rv,sv,pv,rfl,q1,q2,q3⟩:=hx1
   simp only [faK_i]
   refine ld1K_i (hc6 0 _ rfl) ?_
   rw [eqK_i]
   refine condK_p (fun hk3=>?_) fun hk3=>?_
   ·refine ld1K_i (hc6 1 _ rfl) ?_
    show addK .i64 (.int .i64 gone) _ _
    rw [addK_i]
    refine ⟨ov,_,rfl,?_,?_,gW1⟩
    ·unfold rgapF;rw [if_pos hk3]
    ·unfold rgapF;rw [if_pos hk3];exact ho1
   ·obtain ⟨oa,oc,rfl,hoc,hom,hop,hon⟩:=ho1.shape
    simp only [maxLen] at hom
    show lenK (.slice oa l.length oc) _
    rw [lenK_i,subK_i,wrap64 (by omega) (by omega)]
    have nk:rgapF (l,gone) x[i]=(match l.getLast? with
      | some q=>if q.set=x[i].set then (l.set (l.length - 1) ⟨q.kind,q.n,q.runes++x[i].runes,q.set,q.patch⟩,gone) else (l++[x[i]],gone)
      | none=>(l++[x[i]],gone)):=by unfold rgapF;rw [if_neg hk3];rfl
    have l6:∀ {W':World},Grow W1 W'→∀ j u,[Value.int .u8 x[i].kind,.int .i64 x[i].n,rv,sv,pv][j]?=some u→W'.cell? ((⟨b6,0,none⟩:Addr).add j)=some u:=fun g j u hu=>g.cell (hc6 j u hu) fun h=>h
    refine JoinK_i (fun vs W2=>vs=[.bool (lastSet l x[i].set)]∧Grow W1 W2) ?_ ?_
    ·rintro _ W2 ⟨rfl,g2⟩ _
     rw [nth_z,List.headD_cons]
     have z2:=g2.size
     have sh:∃ a1 c1 a2 c2 a3 c3 n1 n2 n3,rv=.slice a1 n1 c1∧sv=.slice a2 n2 c2∧pv=.slice a3 n3 c3:=by
      obtain ⟨a1,c1,e1,_⟩:=q1.shape
      obtain ⟨a2,c2,e2,_⟩:=q2.shape
      obtain ⟨a3,c3,e3,_⟩:=q3.shape
      exact ⟨a1,c1,a2,c2,a3,c3,_,_,_,e1,e2,e3⟩
     cases hls:lastSet l x[i].set with
     | false=>
      rw [condK_b,if_neg (by simp)]
      refine ldnK_i hr (l6 g2) ?_
      have oz:OwnR w.heap.size 56 5 (RDop fun b=>b < W2.heap.size∧(Value.slice oa l.length oc).ownBlock≠some b∧(D b∨w.heap.size≤b)) W2 (.slice oa l.length oc) l:=OwnR.mod ho1 g2 (fun _ _ h=>h) fun r y _ hy=>RDop.mod hy g2 (fun _ _ _ h=>h) fun b hb hd=>⟨by omega,hd⟩
      have hxk:RDop (fun b=>b < W2.heap.size∧(Value.slice oa l.length oc).ownBlock≠some b∧(D b∨w.heap.size≤b)) W2 [.int .u8 x[i].kind,.int .i64 x[i].n,rv,sv,pv] x[i]:=RDop.mod (D:=fun b=>D b∧b < w.heap.size) ⟨_,_,_,rfl,q1,q2,q3⟩ g2 (fun _ _ _ h=>h) fun b hb hd=>⟨by have:=hd.2;omega,fun e=>by have:=(OwnR.ownB ho1 b e).1;have:=hd.2;omega,.inl hd.1⟩
      refine push_g elem_dop oz (by omega) (cs:=[.int .u8 x[i].kind,.int .i64 x[i].n,rv,sv,pv]) (x:=x[i]) (by obtain ⟨a1,c1,a2,c2,a3,c3,n1,n2,n3,rfl,rfl,rfl⟩:=sh;kernel_rfl) rfl hxk (fun _ _ _=>RDop.one) (fun w1 w2 r z hz hm hy=>RDop.mod hy hm (fun b _ hd e=>?_) fun _ _ h=>h) (by omega) (by simp only [maxLen];omega) fun v' w' o' m' hw'=>⟨v',gone,rfl,?_,?_,(gW1.trans g2).next m' fun b hb e=>by have:=(OwnR.ownB ho1 b e).1;omega⟩
      ·rcases e with e | e
       ·exact hd.2.1 e
       ·have:=hd.1;omega
      ·rw [nk]
       unfold lastSet at hls
       cases hg:l.getLast? with
       | none=>rfl
       | some q=>rw [hg] at hls;simp only [decide_eq_false_iff_not] at hls;simp only [if_neg hls]
      ·have e1:(rgapF (l,gone) x[i]).1=l++[x[i]]:=by
        rw [nk]
        unfold lastSet at hls
        cases hg:l.getLast? with
        | none=>rfl
        | some q=>rw [hg] at hls;simp only [decide_eq_false_iff_not] at hls;simp only [if_neg hls]
       rw [e1]
       exact apart_push o' hw'
     | true=>
      rw [condK_b,if_pos rfl]
      have hip:0 < l.length:=by
       cases hn:l with
       | nil=>rw [lastSet,hn] at hls;cases hls
       | cons a l=>simp
      have hl1:l.length - 1 < l.length:=by omega
      have hset:l[l.length - 1].set=x[i].set:=by
       rw [lastSet,getLast_get hip] at hls
       simpa using hls
      have er:rgapF (l,gone) x[i]=(l.set (l.length - 1) ⟨l[l.length - 1].kind,l[l.length - 1].n,l[l.length - 1].runes++x[i].runes,l[l.length - 1].set,l[l.length - 1].patch⟩,gone):=by
       rw [nk,getLast_get hip];exact if_pos hset
      have hrl:(l[l.length - 1].runes.length+x[i].runes.length) * 4≤140737488355328:=by
       have h1:=mDops_mem (List.getElem_mem hl1)
       simp only [mDop,mSet_eq,mPat_eq] at h1 hmi
       omega
      rw [er]
      have hoa:∃ g,oa=some ⟨g,0,none⟩:=by
       cases oa with
       | none=>have:=hon rfl;rw [this] at hip;simp at hip
       | some p=>obtain ⟨g,rfl,_⟩:=hop p rfl;exact ⟨g,rfl⟩
      obtain ⟨g,rfl⟩:=hoa
      have hgo:(Value.slice (some ⟨g,0,none⟩) l.length oc).ownBlock=some g:=rfl
      obtain ⟨hgw,hg1⟩:=OwnR.ownB ho1 g hgo
      rw [show ((l.length:Int) - 1)=((l.length - 1:Nat):Int) by omega]
      have gd:Grow W1 W2.drew:=g2.trans (Mod.drew _ _)
      have zd:W2.drew.heap.size=W2.heap.size:=rfl
      have od:OwnR w.heap.size 56 5 (RDop fun b=>b < W2.heap.size∧b≠g∧(D b∨w.heap.size≤b)) W2.drew (.slice (some ⟨g,0,none⟩) l.length oc) l:=OwnR.mod ho1 gd (fun _ _ h=>h) fun r y _ hy=>RDop.mod hy gd (fun _ _ _ h=>h) fun b hb hd=>⟨by omega,fun e=>hd.1 (by rw [hgo,e]),hd.2⟩
      have q1d:RRun (fun b=>D b∧b < w.heap.size) W2.drew rv x[i].runes:=q1.grow gd (by decide) fun _ _ h=>h
      have l6d:=l6 gd
      generalize W2.drew=Wd at gd zd od q1d l6d ⊢
      have hb6l:b6 < W2.heap.size:=by omega
      refine drawC_i (fun k y=>((k=2∨k=8∨k=11)∧W2.heap.size≤y)∨(k=14∧y=g)) ?_
      refine rowK_empty ⟨Mod.alloc _ _ _,?_⟩
      have om:OwnR Wd.heap.size 21 1 RRune (Wd.alloc (.cells #[] 21)) (.slice (some ⟨Wd.heap.size,0,none⟩) 0 0) ([]:List Int):=OwnR.made (Nat.le_refl _)
      have ga:Grow Wd (Wd.alloc (.cells #[] 21)):=Mod.alloc _ _ _
      have hza:(Wd.alloc (.cells #[] 21)).heap.size=Wd.heap.size+1:=by simp
      generalize Wd.alloc (.cells #[] 21)=Wa at om ga hza ⊢
      obtain ⟨r,hr2,hcl,hy,hlv⟩:=OwnR.cellsOf od hl1
      obtain ⟨rv2,sv2,pv2,rfl,y1,y2,y3⟩:=hy
      refine ixK_n hl1 ?_
      rw [faK_i,Addr.add_add]
      refine sld1_i ⟨by rw [addr0];exact hcl 2 _ rfl,fun j hj e=>?_⟩ ?_
      ·rw [addr0] at e
       rcases e with ⟨_,e⟩ | ⟨rfl,_⟩
       ·have e:W2.heap.size≤g:=e
        omega
       ·exact absurd hj (by decide)
      obtain ⟨v8,W8,r1,r2,r3,r4⟩:=OwnR.append (ty:=52) elem_rune om (y1.grow ga (by decide) fun _ _ h=>h) (fun _ _=>RRune.one) (by simp only [List.length_nil];omega) (by omega) (by simp only [List.length_nil,maxLen];omega) fun _ _ _ _ h=>h
      have m8:Mod (fun y=>W2.heap.size≤y) Wa W8:=(Mod.of_grownBy r3).mono fun y _ e=>by simp only [Value.ownBlock,Option.some.injEq] at e;omega
      refine runK_i r1 ⟨m8.mono fun y _ e=>.inl ⟨.inr (.inl rfl),e⟩,?_⟩
      refine sld1_i ⟨l6d 2 _ rfl,fun j hj e=>?_⟩ ?_
      ·rw [addr0] at e
       rcases e with ⟨_,e⟩ | ⟨rfl,_⟩
       ·have e:W2.heap.size≤b6:=e
        omega
       ·exact absurd hj (by decide)
      have z8:=m8.size
      obtain ⟨v9,W9,s1,s2,s3,s4⟩:=OwnR.append (ty:=52) elem_rune r2 ((q1d.grow ga (by decide) fun _ _ h=>h).mod m8 (fun b _ hb e=>by have:=hb.2;omega) (by decide) fun _ _ h=>h) (fun _ _=>RRune.one) (by simpa using hrl) (by omega) (by simp only [List.nil_append,maxLen];omega) fun _ _ _ _ h=>h
      have o8:∀ y,v8.ownBlock=some y→W2.heap.size≤y:=fun y hy=>by
       rcases r4 y hy with e | e
       ·simp only [Value.ownBlock,Option.some.injEq] at e;omega
       ·omega
      have m9:Mod (fun y=>W2.heap.size≤y) W8 W9:=(Mod.of_grownBy s3).mono fun y _ e=>o8 y e
      refine runK_i s1 ⟨m9.mono fun y _ e=>.inl ⟨.inr (.inr rfl),e⟩,?_⟩
      have o9:∀ y,v9.ownBlock=some y→W2.heap.size≤y:=fun y hy=>by
       rcases s4 y hy with e | e
       ·exact o8 y e
       ·omega
      have mall:Mod (fun y=>W2.heap.size≤y) Wd W9:=(ga.mono fun _ _ h=>h.elim).trans (m8.trans m9)
      have o9r:OwnR w.heap.size 56 5 (RDop fun b=>b < W2.heap.size∧b≠g∧(D b∨w.heap.size≤b)) W9 (.slice (some ⟨g,0,none⟩) l.length oc) l:=OwnR.mod od mall (fun y hy e=>absurd (show W2.heap.size≤y from e) (by have hy':g=y:=(by simpa [Value.ownBlock] using hy);omega)) fun r y _ hy=>RDop.mod hy mall (fun b _ hd e=>by have:=hd.1;omega) fun _ _ h=>h
      refine ixK_n hl1 ?_
      rw [faK_i,Addr.add_add,addr0]
      have hv9:=OwnR.one s2
      have live:=(hlv 2 (by decide)).mod mall fun e=>by
       have e:W2.heap.size≤g:=e
       omega
      refine live.st hv9.1 hv9.2 ⟨Mod.setCell _ _ _ (.inr ⟨rfl,rfl⟩),?_⟩
      have mS:=setA W9 g ((l.length - 1) * 5+2) v9
      have z9:=mall.size
      refine ⟨_,_,rfl,rfl,?_,?_⟩
      ·have hst2:=(OwnR.store (R':=RApart (fun b=>D b∨w.heap.size≤b) (.slice (some ⟨g,0,none⟩) l.length oc)) (u:=v9) (x':=⟨l[l.length - 1].kind,l[l.length - 1].n,l[l.length - 1].runes++x[i].runes,l[l.length - 1].set,l[l.length - 1].patch⟩) o9r hl1 (show 2 < 5 by decide) hv9.1 (fun r y _ hy=>by
        rw [addr0]
        exact RDop.mod hy mS (fun b _ hd e=>hd.2.1 e) fun b _ hd=>⟨fun e=>hd.2.1 (by cases e;rfl),hd.2.2⟩) fun r hy=>by
        rw [addr0]
        obtain ⟨rv3,sv3,pv3,rfl,t1,t2,t3⟩:=RDop.mod (D':=fun b=>(Value.slice (some ⟨g,0,none⟩) l.length oc).ownBlock≠some b∧(D b∨w.heap.size≤b)) hy mS (fun b _ hd e=>hd.2.1 e) fun b _ hd=>⟨fun e=>hd.2.1 (by cases e;rfl),hd.2.2⟩
        refine ⟨v9,sv3,pv3,rfl,?_,t2,t3⟩
        exact SlR.sub (SlR.mod (OwnR.sl s2) mS (fun b _ hb e=>by have:=o9 b hb.2;omega) (by decide) fun _ _ h=>h) (fun b _ hb=>⟨fun e=>absurd (o9 b hb.2) (by have e':g=b:=(by simpa [Value.ownBlock] using e);omega),.inr (by have:=o9 b hb.2;omega)⟩) (by decide) fun _ _ h=>by simpa using h).2.2.1
       rw [addr0] at hst2
       exact hst2
      ·exact ((gW1.trans gd).next mall fun b hb e=>by omega).next mS fun b hb e=>by omega
    ·refine drawK_i (fun W'=>Grow W1 W') (Mod.drew _ _) ?_
     rw [geK_i]
     refine condK_p (fun hge=>?_) fun hge=>?_
     ·have hip:0 < l.length:=by omega
      have hl1:l.length - 1 < l.length:=by omega
      rw [show ((l.length:Int) - 1)=((l.length - 1:Nat):Int) by omega]
      obtain ⟨p2,r2,rfl,_,hr2,hc2,rv2,sv2,pv2,rfl,y1,y2,y3⟩:=(OwnR.sl ho1).get hl1
      refine ixK_n hl1 ?_
      rw [faK_i,Addr.add_add]
      refine qld1K_i (fun W' g'=>g'.cell (hc2 3 _ rfl) fun h=>h) ?_
      refine qld1K_i (fun W' g'=>l6 g' 3 _ rfl) ?_
      refine ⟨.bool (decide (l[l.length - 1].set=x[i].set)),fun W' g'=>?_,?_⟩
      ·refine callK_mono (rsame_set (y2.grow g' (by decide) fun _ _ h=>h) (q2.grow g' (by decide) fun _ _ h=>h)) ?_
       rintro _ W'' ⟨rfl,g''⟩
       exact ⟨rfl,g'.trans g''⟩
      ·intro W' g'
       exact ⟨by rw [lastSet,getLast_get hip],g'⟩
     ·intro W' g'
      have:l=[]:=List.eq_nil_of_length_eq_zero (by omega)
      exact ⟨by rw [lastSet,this];rfl,g'⟩
 ·have:i=x.length:=by omega
  subst this
  rw [List.take_length] at ho hgl ⊢
  show gtK .i64 (.int .i64 _) _ _
  generalize hst:x.foldl rgapF ([],0)=st at *
  obtain ⟨l,gone⟩:=st
  simp only at ho hgl ⊢
  have er:rgap x=gapL l gone:=by unfold rgap;rw [hst]
  rw [er,gtK_i]
  refine condK_p (fun hg=>?_) fun hg=>?_
  ·rw [gapL,if_pos hg]
   refine ⟨#[.int .u8 3,.int .i64 gone,.slice none 0 0,.slice none 0 0,.slice none 0 0],by kernel_rfl,?_⟩
   have zw:=gW.size
   have oz:OwnR w.heap.size 56 5 (RDop fun b=>b < W.heap.size∧ov.ownBlock≠some b∧(D b∨w.heap.size≤b)) W ov l:=OwnR.mod ho (Mod.refl (fun _=>False) _) (fun _ _ h=>h) fun r y _ hy=>RDop.mod hy (Mod.refl (fun _=>False) _) (fun _ _ _ h=>h) fun b hb hd=>⟨hb,hd⟩
   refine push_g elem_dop oz zw (cs:=row5 ⟨3,gone,[],[],[]⟩ (.slice none 0 0) (.slice none 0 0) (.slice none 0 0)) (x:=⟨3,gone,[],[],[]⟩) (by kernel_rfl) rfl ⟨_,_,_,rfl,SlR.nil,SlR.nil,SlR.nil⟩ (fun _ _ _=>RDop.one) (fun w1 w2 r z hz hm hy=>RDop.mod hy hm (fun b _ hd e=>?_) fun _ _ h=>h) (by omega) (by simp only [maxLen];omega) fun v' w' o' m' hw'=>⟨apart_push o' hw',gW.next m' fun b hb e=>by have:=(OwnR.ownB ho b e).1;omega⟩
   rcases e with e | e
   ·exact hd.2.1 e
   ·have:=hd.1;omega
  ·rw [gapL,if_neg hg]
   exact ⟨ho,gW⟩
end Go.Proofs.YtgmpbihbdbmhoaaGreatDoor

namespace Go.K
open Go
theorem slice_lh {α:Type} {P:Program} {t e k:Nat} {i:TypeInfo} {R:World→List Value→α→Prop} {S:Nat→Prop} {w:World} {a:Option Addr} {n c:Nat} {l:List α} {j q:Nat} {K:Cont} (ht:P.underlying t=some (.slice e)) (hi:P.info? e=some i) (hk:i.size=k)
  (h:SlR S k R w (.slice a n c) l) (hjq:j≤q) (hq:q≤l.length) (hK:∀ v',SlR S k R w v' ((l.take q).drop j)→K v' w):runK P (Instr.sliceAt t (.slice a n c) (some (.int .i64 j)) (some (.int .i64 q)) none) K w:=by
 obtain ⟨a',c',e1,h1,h2,h3⟩:=h
 cases e1
 have hel:P.elem t=e:=by simp [Program.elem,ht]
 refine ⟨sliced a j q c k,w,?_,hK _ ?_⟩
 ·rw [run_sliceAt_slice _ _ _ _ _ _ (by rw [hel];exact ht),run_slice_lh _ _ _ _ _ (by rw [hel];exact ht) _ _ _ _ (by omega) (by omega) (by omega),hel]
  simp [sizeOf,typeInfo,hi,hk]
 ·unfold sliced
  have hl:((l.take q).drop j).length=q - j:=by simp;omega
  refine ⟨_,_,by rw [hl],by rw [hl];omega,by omega,fun m x hx=>?_⟩
  rw [List.getElem?_drop,List.getElem?_take] at hx
  split at hx
  ·obtain ⟨p,r,rfl,hS,hr,hc,hR⟩:=h3 _ x hx
   rw [if_neg (by omega)]
   refine ⟨p.add (j * k),r,rfl,by rw [add_block];exact hS,hr,fun y u hu=>?_,hR⟩
   rw [Addr.add_add,←Nat.add_assoc,←Nat.add_mul]
   exact hc y u hu
  ·cases hx
end Go.K

namespace Go.Proofs.YtgmpbihbdbmhoaaGreatDoor
open Go Go.K

theorem rput_m (d:List Dop) (o:Dop):mDops (rput d o)≤mDops d+mDop o∧(rput d o).length≤d.length+1:=by
 unfold rput
 cases hl:d.getLast? with
 | none=>simp only [mDops_app,mDops_one,List.length_append,List.length_singleton];omega
 | some q=>
  simp only
  split
  ·obtain ⟨ys,hys⟩:=List.getLast?_eq_some_iff.1 hl
   rw [hys]
   have e:∀ m:Dop,(ys++[q]).set ((ys++[q]).length - 1) m=ys++[m]:=fun m=>by
    rw [List.length_append,List.length_singleton,Nat.add_sub_cancel,List.set_append_right _ _ (Nat.le_refl _)];simp
   rw [e]
   simp only [mDops_app,mDops_one,List.length_append,List.length_singleton,mDop]
   omega
  ·simp only [mDops_app,mDops_one,List.length_append,List.length_singleton];omega
theorem gapL_ml (l:List Dop) (g:Int):mDops (gapL l g)≤mDops l+1∧(gapL l g).length≤l.length+1:=by
 unfold gapL
 split
 ·have e:mDop ⟨3,g,[],[],[]⟩=1:=by simp [mDop,mSet,mPat]
  simp only [mDops_app,mDops_one,e,List.length_append,List.length_singleton];omega
 ·omega
theorem rgap_m (l:List Dop):mDops (rgap l)≤mDops l+1∧(rgap l).length≤l.length+1:=by
 have h1:=rgap_len l
 have h2:=gapL_ml (l.foldl rgapF ([],0)).1 (l.foldl rgapF ([],0)).2
 unfold rgap
 omega
theorem rof_m (l:List Dop):mDops (l.foldl rofF ([],[])).1+mDops (l.foldl rofF ([],[])).2≤2 * mDops l∧(l.foldl rofF ([],[])).1.length+(l.foldl rofF ([],[])).2.length≤2 * l.length:=by
 induction l using rev_ind with
 | h0=>exact ⟨Nat.le_refl _,Nat.le_refl _⟩
 | h1 x o ih=>
  have h0:1≤mDop o:=by simp [mDop];omega
  rw [List.foldl_append,List.foldl_cons,List.foldl_nil,mDops_app,mDops_one,List.length_append,List.length_singleton]
  generalize x.foldl rofF ([],[])=st at ih ⊢
  unfold rofF
  split
  ·have h1:=rput_m (st.1++rgap st.2) o
   have h2:=rgap_m st.2
   rw [mDops_app,List.length_append] at h1
   have h3:mDops ([]:List Dop)=0:=rfl
   simp only [h3,List.length_nil]
   omega
  ·simp only [mDops_app,mDops_one,List.length_append,List.length_singleton];omega

theorem rof_ok {S D:Nat→Prop} {xv:Value} {x:List Dop} {w:World} (h:RDops S D w xv x) (hb:mDops x≤274877906944) :
  callK Tryz.prog 25 [xv] (fun v' w'=>ODops w.heap.size w' v' (rof x)∧Grow w w') w:=by
 apply S25_ok
 unfold S25
 obtain ⟨pa,ca,rfl,hmx⟩:=h.shape
 simp only [maxLen] at hmx
 have hxl:=mDops_len x
 have hrm:=rof_m x
 let E:Nat→Prop:=fun b=>D b∨w.heap.size≤b
 refine JoinK_i (fun vs W=>∃ ov,vs=[ov]∧OwnR w.heap.size 56 5 (RApart E ov) W ov ((x.foldl rofF ([],[])).1++rgap (x.foldl rofF ([],[])).2)∧Grow w W) ?_ ?_
 ·rintro _ W ⟨ov,rfl,ho,gW⟩ _
  rw [nth_z,List.headD_cons]
  have hm:mDops ((x.foldl rofF ([],[])).1++rgap (x.foldl rofF ([],[])).2)≤1099511627776:=by
   have:=rgap_m (x.foldl rofF ([],[])).2
   rw [mDops_app];omega
  have hrof:rof x=trimL ((x.foldl rofF ([],[])).1++rgap (x.foldl rofF ([],[])).2):=rfl
  rw [hrof]
  generalize (x.foldl rofF ([],[])).1++rgap (x.foldl rofF ([],[])).2=l at ho hm ⊢
  have hll:=mDops_len l
  obtain ⟨oa,oc,rfl,hoc,hom,_,_⟩:=ho.shape
  simp only [maxLen] at hom
  have hs:=OwnR.sl ho
  rw [lenK_i,subK_i,wrap64 (by omega) (by omega)]
  have hmt:mDops (trimL l)≤mDops l:=by
   unfold trimL
   cases hl:l.getLast? with
   | none=>exact Nat.le_refl _
   | some o=>
    simp only
    split
    ·obtain ⟨ys,rfl⟩:=List.getLast?_eq_some_iff.1 hl
     rw [List.dropLast_concat,mDops_app];omega
    ·exact Nat.le_refl _
  refine JoinK_i (fun vs W'=>∃ tv,vs=[tv]∧W'=W∧RDops (fun _=>True) (fun _=>True) W tv (trimL l)) ?_ ?_
  ·rintro _ _ ⟨tv,rfl,rfl,ht⟩ _
   rename World=>W
   refine callK_mono (rcopy_dops ht (by omega)) ?_
   rintro v' W' ⟨o',g'⟩
   refine ⟨(OwnR.mod o' (Mod.refl (fun _=>False) _) (fun _ _ h=>h) fun r y _ hy=>ODop.mod hy (Mod.refl (fun _=>False) _) (fun _ _ _ h=>h) fun b hb hd=>⟨Nat.le_trans gW.size hd.1,hd.2⟩).base fun g hg=>Nat.le_trans gW.size (OwnR.ownB o' g hg).1,gW.trans g'⟩
  ·have hA:RDops (fun _=>True) (fun _=>True) W (.slice oa l.length oc) l:=SlR.mono hs (fun _ _ _=>trivial) (fun _ _ _=>rfl) (by decide) fun r y hy=>RDop.mod hy (Mod.refl (fun _=>False) _) (fun _ _ _ h=>h) fun _ _ _=>trivial
   have stay:trimL l=l→∃ tv,[Value.slice oa l.length oc]=[tv]∧W=W∧RDops (fun _=>True) (fun _=>True) W tv (trimL l):=fun e=>⟨_,rfl,rfl,by rw [e];exact hA⟩
   rw [geK_i]
   refine condK_p (fun hge=>?_) fun hge=>stay ?_
   ·have hip:0 < l.length:=by omega
    have hl1:l.length - 1 < l.length:=by omega
    have tr:trimL l=if l[l.length - 1].kind=1∧l[l.length - 1].patch=[] then l.dropLast else l:=by unfold trimL;rw [getLast_get hip]
    rw [show ((l.length:Int) - 1)=((l.length - 1:Nat):Int) by omega]
    obtain ⟨p,r,rfl,_,hr,hc,rv,sv,pv,rfl,y1,y2,y3⟩:=hA.get hl1
    refine ixK_n hl1 ?_
    rw [faK_i,Addr.add_add]
    refine ld1K_i (hc 0 _ rfl) ?_
    rw [eqK_i]
    refine condK_p (fun hk=>?_) fun hk=>stay (by rw [tr,if_neg fun h=>hk h.1])
    refine ixK_n hl1 ?_
    rw [faK_i,Addr.add_add]
    refine ld1K_i (hc 4 _ rfl) ?_
    obtain ⟨pa2,pc2,rfl,_⟩:=y3.shape
    rw [lenK_i,eqK_i]
    refine condK_p (fun hp=>?_) fun hp=>stay (by rw [tr,if_neg fun h=>hp (len0.2 h.2)])
    refine slice_hi (t:=23) (e:=56) (k:=5) (i:=Tryz.t56) (by kernel_rfl) (by kernel_rfl) (by kernel_rfl) hA (Nat.le_of_lt hl1) fun v' hv=>⟨v',rfl,rfl,?_⟩
    rw [tr,if_pos ⟨hk,len0.1 hp⟩,List.dropLast_eq_take]
    exact hv
   ·have:l=[]:=List.eq_nil_of_length_eq_zero (by omega)
    rw [this];rfl
 ·refine LoopK_i (fun vs W=>∃ (i f:Nat) (ov:Value),i≤x.length∧f≤i∧vs=[ov,.int .i64 f,.int .i64 i]∧OwnR w.heap.size 56 5 (RApart E ov) W ov ((x.take i).foldl rofF ([],[])).1∧((x.take i).foldl rofF ([],[])).2=(x.take i).drop f∧Grow w W) (fun vs _=>x.length - iOf vs 2) ⟨0,0,_,Nat.zero_le _,Nat.le_refl _,rfl,OwnR.nil,rfl,Mod.refl _ _⟩ ?_
  rintro vs W ⟨i,f,ov,hi,hf,rfl,ho,hgp,gW⟩ _
  rw [lenK_i]
  show leK .i64 (.int .i64 i) _ _
  rw [leK_i]
  refine condK_p (fun _=>?_) fun hn=>(hn (by omega)).elim
  have hri:=rof_m (x.take i)
  have htk:(x.take i).length=i:=by rw [List.length_take];omega
  rw [htk] at hri
  have htm:mDops (x.take i)≤mDops x:=by
   have e2:mDops x=mDops (x.take i)+mDops (x.drop i):=by
    conv=>lhs;rw [←List.take_append_drop i x]
    exact mDops_app _ _
   omega
  generalize hst:(x.take i).foldl rofF ([],[])=st at *
  obtain ⟨d,gp⟩:=st
  simp only at ho hgp hri
  refine JoinK_i (fun vs W2=>i < x.length∧∃ ov' f',vs=[ov',.int .i64 ((f':Nat):Int)]∧f'≤i+1∧OwnR w.heap.size 56 5 (RApart E ov') W2 ov' ((x.take (i+1)).foldl rofF ([],[])).1∧((x.take (i+1)).foldl rofF ([],[])).2=(x.take (i+1)).drop f'∧Grow w W2) ?_ ?_
  ·rintro _ W2 ⟨hlt,ov',f',rfl,hf',ho',hg',g2⟩ _
   show addK .i64 (.int .i64 i) _ _
   rw [addK_i,loop_step (by omega)]
   exact ⟨⟨i+1,f',ov',hlt,hf',rfl,ho',hg',g2⟩,by rw [iOf2,iOf2];omega⟩
  ·refine JoinK_i (fun _ W2=>W2=W∧∀ hlt:i < x.length,x[i].kind=1) ?_ ?_
   ·rintro _ _ ⟨rfl,hk1⟩ _
    rename World=>W
    refine slice_lh (t:=23) (e:=56) (k:=5) (i:=Tryz.t56) (by kernel_rfl) (by kernel_rfl) (by kernel_rfl) (RDops.grow (RDops.old h) gW) hf hi fun v' hv=>?_
    rw [←hgp] at hv
    refine callK_mono (rgap_ok hv (by omega)) ?_
    rintro gv W3 ⟨og,g3⟩
    have zw:=gW.size
    have z3:=g3.size
    have hgm:=rgap_m gp
    have oz:OwnR w.heap.size 56 5 (RDop fun b=>b < W3.heap.size∧ov.ownBlock≠some b∧E b) W3 ov d:=OwnR.mod ho g3 (fun _ _ h=>h) fun r y _ hy=>RDop.mod hy g3 (fun _ _ _ h=>h) fun b hb hd=>⟨by omega,hd⟩
    have hg3:SlR (fun _=>True) 5 (RDop fun b=>b < W3.heap.size∧ov.ownBlock≠some b∧E b) W3 gv (rgap gp):=SlR.mono (OwnR.sl og) (fun _ _ _=>trivial) (fun _ _ _=>rfl) (by decide) fun r y hy=>RDop.mod hy (Mod.refl (fun _=>False) _) (fun _ _ _ h=>h) fun b hb hd=>⟨hb,fun e=>by
     have:=OwnR.ownB ho b e
     rcases hd.2 with h | h
     ·have:=h.2;omega
     ·omega,by
     rcases hd.2 with h | h
     ·exact .inl h.1
     ·exact .inr (by omega)⟩
    obtain ⟨t32,W4,r1,r2,r3,r4⟩:=OwnR.append (ty:=23) elem_dop oz hg3 (fun _ _=>RDop.one) (by omega) (by omega) (by simp only [maxLen];omega) fun w' hg r y hy=>RDop.mod hy (Mod.of_grownBy hg) (fun b _ hd e=>hd.2.1 e) fun _ _ h=>h
    refine runK_i r1 ?_
    have o4:=apart_push r2 r4
    have g4:Grow w W4:=(gW.trans g3).next (Mod.of_grownBy r3) fun b hb e=>by have:=(OwnR.ownB ho b e).1;omega
    show addK .i64 (.int .i64 i) _ _
    rw [addK_i,loop_step (by omega),lenK_i]
    show eqK .i64 (.int .i64 i) _ _
    rw [eqK_i]
    refine condK_p (fun he=>?_) fun he=>?_
    ·have:i=x.length:=by omega
     subst this
     rw [List.take_length] at hst
     rw [hst]
     exact ⟨t32,rfl,o4,g4⟩
    ·have hlt':i < x.length:=by omega
     have hk:=hk1 hlt'
     have est:(x.take (i+1)).foldl rofF ([],[])=(rput (d++rgap gp) x[i],[]):=by
      rw [List.take_add_one,List.getElem?_eq_getElem hlt',Option.toList_some,List.foldl_append,hst]
      show rofF (d,gp) x[i]=_
      unfold rofF;rw [if_pos hk]
     have hml:mDops (d++rgap gp)≤1099511627776:=by rw [mDops_app];omega
     have hdrop:(x.take (i+1)).drop (i+1)=[]:=List.drop_eq_nil_of_le (by rw [List.length_take];omega)
     generalize d++rgap gp=l at o4 est hml
     have hll:=mDops_len l
     obtain ⟨oa,oc,rfl,hoc,hom,hop,hon⟩:=o4.shape
     simp only [maxLen] at hom
     obtain ⟨p,r,rfl,_,hr,hc,hx⟩:=(RDops.grow (RDops.old h) g4).get hlt'
     have hx0:=hx
     obtain ⟨rv,sv,pv,rfl,y1,y2,y3⟩:=hx
     rw [lenK_i,subK_i,wrap64 (by omega) (by omega)]
     refine JoinK_i (fun vs W5=>vs=[.bool (match l.getLast? with | some q=>decide (q.kind=1∧q.patch=x[i].patch) | none=>false)]∧Grow W4 W5) ?_ ?_
     ·rintro _ W5 ⟨rfl,g5⟩ _
      rw [nth_z,List.headD_cons]
      have z5:=g5.size
      have z4:=g4.size
      cases hls:(match l.getLast? with | some q=>decide (q.kind=1∧q.patch=x[i].patch) | none=>false) with
      | false=>
       rw [condK_b,if_neg (by simp)]
       refine ixK_n hlt' (ldnK_i hr (fun j u hu=>by rw [Addr.add_add];exact g5.cell (hc j u hu) fun h=>h) ?_)
       have oz5:OwnR w.heap.size 56 5 (RDop fun b=>b < W5.heap.size∧(Value.slice oa l.length oc).ownBlock≠some b∧E b) W5 (.slice oa l.length oc) l:=OwnR.mod o4 g5 (fun _ _ h=>h) fun r y _ hy=>RDop.mod hy g5 (fun _ _ _ h=>h) fun b hb hd=>⟨by omega,hd⟩
       have hxk:RDop (fun b=>b < W5.heap.size∧(Value.slice oa l.length oc).ownBlock≠some b∧E b) W5 [.int .u8 x[i].kind,.int .i64 x[i].n,rv,sv,pv] x[i]:=RDop.mod hx0 g5 (fun _ _ _ h=>h) fun b hb hd=>⟨by have:=hd.2;omega,fun e=>by have:=(OwnR.ownB o4 b e).1;have:=hd.2;omega,.inl hd.1⟩
       have sh:∃ a1 c1 a2 c2 a3 c3 n1 n2 n3,rv=.slice a1 n1 c1∧sv=.slice a2 n2 c2∧pv=.slice a3 n3 c3:=by
        obtain ⟨a1,c1,e1,_⟩:=y1.shape
        obtain ⟨a2,c2,e2,_⟩:=y2.shape
        obtain ⟨a3,c3,e3,_⟩:=y3.shape
        exact ⟨a1,c1,a2,c2,a3,c3,_,_,_,e1,e2,e3⟩
       refine push_g elem_dop oz5 (by omega) (cs:=[.int .u8 x[i].kind,.int .i64 x[i].n,rv,sv,pv]) (x:=x[i]) (by obtain ⟨a1,c1,a2,c2,a3,c3,n1,n2,n3,rfl,rfl,rfl⟩:=sh;kernel_rfl) rfl hxk (fun _ _ _=>RDop.one) (fun w1 w2 r z hz hm hy=>RDop.mod hy hm (fun b _ hd e=>?_) fun _ _ h=>h) (by omega) (by simp only [maxLen];omega) fun v' w' o' m' hw'=>⟨hlt',v',i+1,rfl,Nat.le_refl _,?_,by rw [est,hdrop],(g4.trans g5).next m' fun b hb e=>by have:=(OwnR.ownB o4 b e).1;omega⟩
       ·rcases e with e | e
        ·exact hd.2.1 e
        ·have:=hd.1;omega
       ·rw [est]
        have e1:rput l x[i]=l++[x[i]]:=by
         unfold rput
         cases hg:l.getLast? with
         | none=>rfl
         | some q=>rw [hg] at hls;simp only [decide_eq_false_iff_not] at hls;simp only [if_neg hls]
        rw [e1]
        exact apart_push o' hw'
      | true=>
       rw [condK_b,if_pos rfl]
       have hip:0 < l.length:=by
        cases hn:l with
        | nil=>rw [hn] at hls;cases hls
        | cons a l=>simp
       have hl1:l.length - 1 < l.length:=by omega
       rw [getLast_get hip] at hls
       have hq:l[l.length - 1].kind=1∧l[l.length - 1].patch=x[i].patch:=by simpa using hls
       have er:rput l x[i]=l.set (l.length - 1) ⟨l[l.length - 1].kind,IntKind.i64.wrap (l[l.length - 1].n+x[i].n),l[l.length - 1].runes,l[l.length - 1].set,l[l.length - 1].patch⟩:=by
        unfold rput;rw [getLast_get hip];exact if_pos hq
       have hoa:∃ g,oa=some ⟨g,0,none⟩:=by
        cases oa with
        | none=>have:=hon rfl;rw [this] at hip;simp at hip
        | some p=>obtain ⟨g,rfl,_⟩:=hop p rfl;exact ⟨g,rfl⟩
       obtain ⟨g,rfl⟩:=hoa
       obtain ⟨hgw,hg1⟩:=OwnR.ownB o4 g rfl
       rw [show ((l.length:Int) - 1)=((l.length - 1:Nat):Int) by omega]
       have gd:Grow W4 W5.drew:=g5.trans (Mod.drew _ _)
       have od:OwnR w.heap.size 56 5 (RDop fun b=>b≠g∧E b) W5.drew (.slice (some ⟨g,0,none⟩) l.length oc) l:=OwnR.mod o4 gd (fun _ _ h=>h) fun r y _ hy=>RDop.mod hy gd (fun _ _ _ h=>h) fun b hb hd=>⟨fun e=>hd.1 (by rw [e];rfl),hd.2⟩
       refine drawC_i (fun k y=>k=15∧y=g) ?_
       obtain ⟨r3,hr3,hcl,hy3,hlv⟩:=OwnR.cellsOf od hl1
       obtain ⟨rv3,sv3,pv3,rfl,_,_,_⟩:=hy3
       refine ixK_n hl1 ?_
       rw [faK_i,Addr.add_add]
       refine sld1_i ⟨by rw [addr0];exact hcl 1 _ rfl,fun j hj e=>by obtain ⟨rfl,_⟩:=e;exact absurd hj (by decide)⟩ ?_
       refine ixK_n hlt' ?_
       rw [faK_i,Addr.add_add]
       refine sld1_i ⟨gd.cell (hc 1 _ rfl) fun h=>h,fun j hj e=>by obtain ⟨rfl,_⟩:=e;exact absurd hj (by decide)⟩ ?_
       rw [addK_i]
       refine ixK_n hl1 ?_
       rw [faK_i,Addr.add_add,addr0]
       refine (hlv 1 (by decide)).st rfl rfl ⟨Mod.setCell _ _ _ ⟨rfl,rfl⟩,?_⟩
       have mS:=setA W5.drew g ((l.length - 1) * 5+1) (.int .i64 (IntKind.i64.wrap (l[l.length - 1].n+x[i].n)))
       refine ⟨hlt',_,i+1,rfl,Nat.le_refl _,?_,by rw [est,hdrop],(g4.trans gd).next mS fun b hb e=>by omega⟩
       rw [est,er]
       have hst2:=(OwnR.store (R':=RApart E (.slice (some ⟨g,0,none⟩) l.length oc)) (u:=.int .i64 (IntKind.i64.wrap (l[l.length - 1].n+x[i].n))) (x':=⟨l[l.length - 1].kind,IntKind.i64.wrap (l[l.length - 1].n+x[i].n),l[l.length - 1].runes,l[l.length - 1].set,l[l.length - 1].patch⟩) od hl1 (show 1 < 5 by decide) rfl (fun r y _ hy=>by
         rw [addr0]
         exact RDop.mod hy mS (fun b _ hd e=>hd.1 e) fun b _ hd=>⟨fun e=>hd.1 (by cases e;rfl),hd.2⟩) fun r hy=>by
         rw [addr0]
         obtain ⟨rv4,sv4,pv4,rfl,t1,t2,t3⟩:=RDop.mod (D':=fun b=>(Value.slice (some ⟨g,0,none⟩) l.length oc).ownBlock≠some b∧E b) hy mS (fun b _ hd e=>hd.1 e) fun b _ hd=>⟨fun e=>hd.1 (by cases e;rfl),hd.2⟩
         exact ⟨rv4,sv4,pv4,rfl,t1,t2,t3⟩).2.2.1
       rw [addr0] at hst2
       exact hst2
     ·refine drawK_i (fun W'=>Grow W4 W') (Mod.drew _ _) ?_
      rw [geK_i]
      refine condK_p (fun hge=>?_) fun hge=>?_
      ·have hip:0 < l.length:=by omega
       have hl1:l.length - 1 < l.length:=by omega
       rw [show ((l.length:Int) - 1)=((l.length - 1:Nat):Int) by omega,getLast_get hip]
       obtain ⟨p2,r2,rfl,_,hr2,hc2,rv2,sv2,pv2,rfl,z1,z2,z3⟩:=(OwnR.sl o4).get hl1
       refine ixK_n hl1 ?_
       rw [faK_i,Addr.add_add]
       refine qld1K_i (fun W' g'=>g'.cell (hc2 0 _ rfl) fun h=>h) ?_
       rw [eqK_i]
       refine condK_p (fun hk1=>?_) fun hk1 W' g'=>⟨by simp [hk1],g'⟩
       refine ixK_n hl1 ?_
       rw [faK_i,Addr.add_add]
       refine qld1K_i (fun W' g'=>g'.cell (hc2 4 _ rfl) fun h=>h) ?_
       refine ixK_n hlt' ?_
       rw [faK_i,Addr.add_add]
       refine qld1K_i (fun W' g'=>g'.cell (hc 4 _ rfl) fun h=>h) ?_
       refine ⟨.bool (decide (l[l.length - 1].patch=x[i].patch)),fun W' g'=>?_,fun W' g'=>⟨?_,g'⟩⟩
       ·refine callK_mono (rsame_pat (z3.grow g' (by decide) fun _ _ h=>h) (y3.grow g' (by decide) fun _ _ h=>h)) ?_
        rintro _ W'' ⟨rfl,g''⟩
        exact ⟨rfl,g'.trans g''⟩
       ·simp only [hk1,true_and]
      ·intro W' g'
       have:l=[]:=List.eq_nil_of_length_eq_zero (by omega)
       exact ⟨by rw [this];rfl,g'⟩
   ·rw [lenK_i]
    show ltK .i64 (.int .i64 i) _ _
    rw [ltK_i]
    refine condK_p (fun hlt=>?_) fun hge=>⟨rfl,fun h=>by omega⟩
    have hlt':i < x.length:=by omega
    obtain ⟨p,r,rfl,_,hr,hc,rv,sv,pv,rfl,y1,y2,y3⟩:=(RDops.grow h gW).get hlt'
    refine ixK_n hlt' ?_
    rw [faK_i,Addr.add_add]
    refine ld1K_i (hc 0 _ rfl) ?_
    rw [neK_i]
    refine condK_neg (fun hk=>⟨rfl,fun _=>hk⟩) fun hk=>?_
    have est:(x.take (i+1)).foldl rofF ([],[])=rofF (d,gp) x[i]:=by
     rw [List.take_add_one,List.getElem?_eq_getElem hlt',Option.toList_some,List.foldl_append,hst];rfl
    have e2:rofF (d,gp) x[i]=(d,gp++[x[i]]):=by unfold rofF;rw [if_neg hk]
    refine ⟨hlt',ov,f,rfl,by omega,by rw [est,e2];exact ho,?_,gW⟩
    rw [est,e2]
    show gp++[x[i]]=_
    rw [hgp,List.take_add_one,List.getElem?_eq_getElem hlt',Option.toList_some,List.drop_append_of_le_length (by omega)]
theorem ris_ok {S D:Nat→Prop} {xv:Value} {x:List Dop} {w:World} (h:RDops S D w xv x) (hb:mDops x≤274877906944) :
  callK Tryz.prog 38 [xv] (fun v' w'=>v'=.bool (decide (rof x=x))∧Grow w w') w:=by
 apply S38_ok
 unfold S38
 refine callK_mono (rof_ok h hb) ?_
 rintro v1 w1 ⟨o1,g1⟩
 exact callK_mono (rsame_dops (ODops.sl o1) (RDops.grow h g1)) fun _ _ h=>⟨h.1,g1.trans h.2⟩
end Go.Proofs.YtgmpbihbdbmhoaaGreatDoor

namespace Go.Proofs.YtgmpbihbdbmhoaaGreatDoor
open Go Go.K

theorem run1 {w w':World} {q:Int} {g:Nat} (hc:∀ j v,[Value.int .i32 q][j]?=some v→w'.cell? ((⟨g,0,none⟩:Addr).add j)=some v):RRun (fun _=>True) w' (.slice (some ⟨g,0,none⟩) 1 1) [q]:=by
 refine ⟨_,_,rfl,Nat.le_refl _,by simp [maxLen],fun i x hx=>⟨_,[.int .i32 x],rfl,trivial,rfl,fun j u hu=>?_,rfl⟩⟩
 have hi:i=0:=by have:=(List.getElem?_eq_some_iff.1 hx).1;simp at this;exact this
 subst hi
 simp at hx;subst hx
 rw [Nat.zero_mul,Nat.zero_add];exact hc j u hu
end Go.Proofs.YtgmpbihbdbmhoaaGreatDoor

namespace Go.Proofs.YtgmpbihbdbmhoaaGreatDoor
open Go Go.K

theorem normB_mm (x:List Dop):mDops (normB x)≤2 * mDops x+1:=by
 have h1:=runS_m x
 have h2:=gapL_m (runS x).ins (runS x).gone
 have h3:=mDops_sub (l:=(runS x).done++gapL (runS x).ins (runS x).gone)
 rw [mDops_app] at h3
 unfold normB opsS
 omega
end Go.Proofs.YtgmpbihbdbmhoaaGreatDoor

namespace Go.Proofs.YtgmpbihbdbmhoaaGreatDoor
open Go Go.K
theorem add_block (p:Addr) (n:Nat):(p.add n).block=p.block:=by unfold Addr.add;split <;> rfl
theorem box1_i {t:TypeId} {x:Value} {K:Cont} {w:World} (hx:x.cells=#[x]) (h:∀ b w1,b=w.heap.size→w1.heap.size=w.heap.size+1→Grow w w1→w1.cell? ⟨b,0,none⟩=some x→Live w1 ⟨b,0,none⟩→K (.pointer (some ⟨b,0,none⟩)) w1):box1K t x K w:=by
 refine ⟨hx,?_⟩
 obtain ⟨vs',e,h2⟩:=boxn_i (t:=t) (vs:=[x]) (K:=K) (w:=w) fun b w1 h1 h2 h3 h4 h5=>h b w1 h1 h2 h3 (by have:=h4 0 x rfl;rwa [addr0] at this) (by have:=h5 0 (by simp);rwa [addr0] at this)
 have:vs'=[x]:=by
  have e':=Value.agg.inj e
  simpa using (congrArg Array.toList e').symm
 subst this
 exact h2
section
variable {G G':Nat→Prop} {W W':World} {c:Nat} {l:List Int}
theorem wlist_attr {S:Nat→Prop} {fv xv:Value} {x:List Attr} (h:WrI G W c l) (hx:SlR S 5 RAttr W xv x) (hR:∀ W' r a,Mod G W W'→RAttr W r a→RAttr W' r a) (hS:∀ z,S z→¬ G z) (hl:l.length+20≤1099511627776)
  (hf:∀ i (hi:i < x.length) W' r l',WrI G W' c l'→Mod G W W'→RAttr W' r x[i]→l'.length≤l.length+10+(x.flatMap encAt).length→∀ K:Cont,(∀ v w',WrI G w' c (l'++encAt x[i])∧Mod G W' w'→K v w')→callyK Tryz.prog okf fv [.agg r.toArray] K W') :
  callK Tryz.prog 104 [.pointer (some ⟨c,0,none⟩),xv,fv] (fun _ w'=>WrI G w' c (l++encM encAt x)∧Mod G W w') W:=by
 apply S104_ok
 unfold S104
 obtain ⟨a,cc,rfl,hm⟩:=hx.shape
 simp only [maxLen] at hm
 rw [lenK_i]
 refine conv_64 (by omega) ?_
 refine callK_mono (wuint_ok h hl (by omega)) ?_
 rintro _ w2 ⟨h2,m2⟩
 rw [lenK_i]
 have hul:(uv x.length).length≤10:=(uvB_len 9 x.length).2
 have hfl:∀ i,((x.take i).flatMap encAt).length≤(x.flatMap encAt).length:=fun i=>by
  have e:x.flatMap encAt=(x.take i).flatMap encAt++(x.drop i).flatMap encAt:=by rw [←List.flatMap_append,List.take_append_drop]
  rw [e,List.length_append];omega
 refine LoopK_i (fun vs W1=>∃ i:Nat,i≤x.length∧vs=[.int .i64 i]∧WrI G W1 c (l++(uv x.length++(x.take i).flatMap encAt))∧Mod G W W1) (fun vs _=>x.length - iOf vs 0) ⟨0,Nat.zero_le _,rfl,by simpa using h2,m2⟩ ?_
 rintro vs W1 ⟨i,hi,rfl,h1,m1⟩ _
 simp only [nth_z,List.headD_cons]
 rw [ltK_i]
 refine condK_p (fun hlt=>?_) fun hge=>?_
 ·have hlt':i < x.length:=by omega
  obtain ⟨p,r,rfl,hSp,hr,hc,hRr⟩:=hx.get hlt'
  refine ixK_n hlt' (ldnK_i hr (fun j u hu=>by rw [Addr.add_add];exact m1.cell (hc j u hu) (by rw [add_block];exact hS _ hSp)) ?_)
  refine newst_n hr rfl (RAttr.one (w:=W) hRr) fun b w3 hb hz g3 hc3 _=>?_
  refine ldnK_i hr hc3 ?_
  have m3:Mod G W w3:=m1.trans (g3.mono fun _ _ e=>e.elim)
  refine hf i hlt' w3 r _ (h1.grow g3) m3 (hR _ _ _ m3 hRr) (by have:=hfl i;simp only [List.length_append];omega) _ ?_
  rintro _ w4 ⟨h4,m4⟩
  rw [addK_i,loop_step (by omega)]
  refine ⟨⟨i+1,hlt',rfl,?_,m3.trans m4⟩,by rw [iOf0,iOf0];omega⟩
  have e:l++(uv x.length++(x.take (i+1)).flatMap encAt)=l++(uv x.length++(x.take i).flatMap encAt)++encAt x[i]:=by
   rw [List.take_add_one,List.getElem?_eq_getElem hlt',List.flatMap_append]
   simp
  rw [e];exact h4
 ·have:i=x.length:=by omega
  subst this
  rw [List.take_length] at h1
  exact ⟨h1,m1⟩
theorem wlist_chg {S:Nat→Prop} {fv xv:Value} {x:List Chg} (h:WrI G W c l) (hx:SlR S 6 RChg W xv x) (hR:∀ W' r a,Mod G W W'→RChg W r a→RChg W' r a) (hS:∀ z,S z→¬ G z) (hl:l.length+20≤1099511627776)
  (hf:∀ i (hi:i < x.length) W' r l',WrI G W' c l'→Mod G W W'→RChg W' r x[i]→l'.length≤l.length+10+(x.flatMap encCh).length→∀ K:Cont,(∀ v w',WrI G w' c (l'++encCh x[i])∧Mod G W' w'→K v w')→callyK Tryz.prog okf fv [.agg r.toArray] K W') :
  callK Tryz.prog 99 [.pointer (some ⟨c,0,none⟩),xv,fv] (fun _ w'=>WrI G w' c (l++encM encCh x)∧Mod G W w') W:=by
 apply S99_ok
 unfold S99
 obtain ⟨a,cc,rfl,hm⟩:=hx.shape
 simp only [maxLen] at hm
 rw [lenK_i]
 refine conv_64 (by omega) ?_
 refine callK_mono (wuint_ok h hl (by omega)) ?_
 rintro _ w2 ⟨h2,m2⟩
 rw [lenK_i]
 have hul:(uv x.length).length≤10:=(uvB_len 9 x.length).2
 have hfl:∀ i,((x.take i).flatMap encCh).length≤(x.flatMap encCh).length:=fun i=>by
  have e:x.flatMap encCh=(x.take i).flatMap encCh++(x.drop i).flatMap encCh:=by rw [←List.flatMap_append,List.take_append_drop]
  rw [e,List.length_append];omega
 refine LoopK_i (fun vs W1=>∃ i:Nat,i≤x.length∧vs=[.int .i64 i]∧WrI G W1 c (l++(uv x.length++(x.take i).flatMap encCh))∧Mod G W W1) (fun vs _=>x.length - iOf vs 0) ⟨0,Nat.zero_le _,rfl,by simpa using h2,m2⟩ ?_
 rintro vs W1 ⟨i,hi,rfl,h1,m1⟩ _
 simp only [nth_z,List.headD_cons]
 rw [ltK_i]
 refine condK_p (fun hlt=>?_) fun hge=>?_
 ·have hlt':i < x.length:=by omega
  obtain ⟨p,r,rfl,hSp,hr,hc,hRr⟩:=hx.get hlt'
  refine ixK_n hlt' (ldnK_i hr (fun j u hu=>by rw [Addr.add_add];exact m1.cell (hc j u hu) (by rw [add_block];exact hS _ hSp)) ?_)
  refine newst_n hr rfl (RChg.one (w:=W) hRr) fun b w3 hb hz g3 hc3 _=>?_
  refine ldnK_i hr hc3 ?_
  have m3:Mod G W w3:=m1.trans (g3.mono fun _ _ e=>e.elim)
  refine hf i hlt' w3 r _ (h1.grow g3) m3 (hR _ _ _ m3 hRr) (by have:=hfl i;simp only [List.length_append];omega) _ ?_
  rintro _ w4 ⟨h4,m4⟩
  rw [addK_i,loop_step (by omega)]
  refine ⟨⟨i+1,hlt',rfl,?_,m3.trans m4⟩,by rw [iOf0,iOf0];omega⟩
  have e:l++(uv x.length++(x.take (i+1)).flatMap encCh)=l++(uv x.length++(x.take i).flatMap encCh)++encCh x[i]:=by
   rw [List.take_add_one,List.getElem?_eq_getElem hlt',List.flatMap_append]
   simp
  rw [e];exact h4
 ·have:i=x.length:=by omega
  subst this
  rw [List.take_length] at h1
  exact ⟨h1,m1⟩
theorem wlist_op {S D:Nat→Prop} {fv xv:Value} {x:List Dop} (h:WrI G W c l) (hx:SlR S 5 (RDop D) W xv x) (hR:∀ W' r a,Mod G W W'→(RDop D) W r a→(RDop D) W' r a) (hS:∀ z,S z→¬ G z) (hl:l.length+20≤1099511627776)
  (hf:∀ i (hi:i < x.length) W' r l',WrI G W' c l'→Mod G W W'→(RDop D) W' r x[i]→l'.length≤l.length+10+(x.flatMap encOp).length→∀ K:Cont,(∀ v w',WrI G w' c (l'++encOp x[i])∧Mod G W' w'→K v w')→callyK Tryz.prog okf fv [.agg r.toArray] K W') :
  callK Tryz.prog 20 [.pointer (some ⟨c,0,none⟩),xv,fv] (fun _ w'=>WrI G w' c (l++encM encOp x)∧Mod G W w') W:=by
 apply S20_ok
 unfold S20
 obtain ⟨a,cc,rfl,hm⟩:=hx.shape
 simp only [maxLen] at hm
 rw [lenK_i]
 refine conv_64 (by omega) ?_
 refine callK_mono (wuint_ok h hl (by omega)) ?_
 rintro _ w2 ⟨h2,m2⟩
 rw [lenK_i]
 have hul:(uv x.length).length≤10:=(uvB_len 9 x.length).2
 have hfl:∀ i,((x.take i).flatMap encOp).length≤(x.flatMap encOp).length:=fun i=>by
  have e:x.flatMap encOp=(x.take i).flatMap encOp++(x.drop i).flatMap encOp:=by rw [←List.flatMap_append,List.take_append_drop]
  rw [e,List.length_append];omega
 refine LoopK_i (fun vs W1=>∃ i:Nat,i≤x.length∧vs=[.int .i64 i]∧WrI G W1 c (l++(uv x.length++(x.take i).flatMap encOp))∧Mod G W W1) (fun vs _=>x.length - iOf vs 0) ⟨0,Nat.zero_le _,rfl,by simpa using h2,m2⟩ ?_
 rintro vs W1 ⟨i,hi,rfl,h1,m1⟩ _
 simp only [nth_z,List.headD_cons]
 rw [ltK_i]
 refine condK_p (fun hlt=>?_) fun hge=>?_
 ·have hlt':i < x.length:=by omega
  obtain ⟨p,r,rfl,hSp,hr,hc,hRr⟩:=hx.get hlt'
  refine ixK_n hlt' (ldnK_i hr (fun j u hu=>by rw [Addr.add_add];exact m1.cell (hc j u hu) (by rw [add_block];exact hS _ hSp)) ?_)
  refine newst_n hr rfl (RDop.one hRr) fun b w3 hb hz g3 hc3 _=>?_
  refine ldnK_i hr hc3 ?_
  have m3:Mod G W w3:=m1.trans (g3.mono fun _ _ e=>e.elim)
  refine hf i hlt' w3 r _ (h1.grow g3) m3 (hR _ _ _ m3 hRr) (by have:=hfl i;simp only [List.length_append];omega) _ ?_
  rintro _ w4 ⟨h4,m4⟩
  rw [addK_i,loop_step (by omega)]
  refine ⟨⟨i+1,hlt',rfl,?_,m3.trans m4⟩,by rw [iOf0,iOf0];omega⟩
  have e:l++(uv x.length++(x.take (i+1)).flatMap encOp)=l++(uv x.length++(x.take i).flatMap encOp)++encOp x[i]:=by
   rw [List.take_add_one,List.getElem?_eq_getElem hlt',List.flatMap_append]
   simp
  rw [e];exact h4
 ·have:i=x.length:=by omega
  subst this
  rw [List.take_length] at h1
  exact ⟨h1,m1⟩
theorem flat_sum {α:Type} {f:α→List Int} {m:α→Nat} {k:Nat} (h:∀ a,(f a).length≤k * m a):∀ l:List α,(l.flatMap f).length≤k * (l.map m).sum:=by
 intro l
 induction l with
 | nil=>simp
 | cons a l ih=>have:=h a;simp only [List.flatMap_cons,List.length_append,List.map_cons,List.sum_cons,Nat.mul_add];omega
theorem encAt_len (a:Attr):(encAt a).length≤60 * mAttr a:=by
 have h1:(uv a.key.toNat).length≤10:=(uvB_len 9 _).2
 have:=encV_len a.val
 unfold encAt mAttr
 rw [List.length_append];omega
theorem encCh_len (a:Chg):(encCh a).length≤60 * mChg a:=by
 have h1:∀ n,(uv n).length≤10:=fun n=>(uvB_len 9 n).2
 have h2:=h1 a.key.toNat
 have h3:=h1 0
 have:=encV_len a.val
 unfold encCh mChg
 rw [List.length_append]
 split <;> omega
theorem encOp_len (o:Dop):(encOp o).length≤60 * mDop o:=by
 have h1:∀ n,(uv n).length≤10:=fun n=>(uvB_len 9 n).2
 have a:=h1 o.kind.toNat
 have b:=h1 o.n.toNat
 have d:=h1 o.patch.length
 have e:=h1 (textR o.runes).length
 have e':=h1 o.set.length
 have f:=textR_len o.runes
 have g:=flat_sum encCh_len o.patch
 have g':=flat_sum encAt_len o.set
 unfold encOp encM encX mDop mSet mPat
 rw [List.length_append]
 split
 ·simp only [List.length_append];omega
 ·split
  ·simp only [List.length_append];omega
  ·split
   ·omega
   ·simp;omega
theorem encL_len (x:List Dop):(encL x).length≤10+60 * mDops x:=by
 have h1:(uv x.length).length≤10:=(uvB_len 9 _).2
 have:=flat_sum encOp_len x
 unfold encL encM mDops
 rw [List.length_append];omega
theorem wset_ok {S:Nat→Prop} {xv:Value} {x:List Attr} (h:WrI G W c l) (hx:RSet S W xv x) (hS:∀ z,S z→¬ G z) (ha:∀ a ∈ x,RepA a) (hl:l.length+61 * mSet x+300≤1099511627776) :
  callK Tryz.prog 54 [.pointer (some ⟨c,0,none⟩),xv] (fun _ w'=>WrI G w' c (l++encM encAt x)∧Mod G W w') W:=by
 apply S54_ok
 unfold S54
 refine box1_i rfl fun b w1 hb hz g hc _=>?_
 refine ld1K_i hc ?_
 have h1:=h.narrow g
 have nb:¬ (G b∧¬ (W.heap.size≤b∧b < w1.heap.size)):=fun e=>e.2 ⟨by omega,by omega⟩
 have hfs:=flat_sum encAt_len x
 have hm:(x.map mAttr).sum=mSet x:=rfl
 rw [hm] at hfs
 refine callK_mono (wlist_attr h1 (hx.grow g (by decide) fun _ _ h=>h) (fun _ _ _ _ h=>h) (fun z hz e=>hS z hz e.1) (by omega) fun i hi W' r l' hw m hr hl' K hK=>?_) ?_
 ·have hr':r=x[i].cells:=hr
  subst hr'
  have hma:=mSet_mem (List.getElem_mem hi)
  exact callyK_g (bs:=[]) (cs:=[_]) (by kernel_rfl) (callK_mono (wattr_ok hw (m.cell hc nb) nb (ha _ (List.getElem_mem hi)) (by unfold mAttr;omega)) hK)
 ·rintro _ w2 ⟨h2,m2⟩
  exact ⟨h2.widen fun z hz=>hz.1,(g.mono fun _ _ e=>e.elim).trans (m2.mono fun z _ e=>e.1)⟩
theorem wpatch_ok {S:Nat→Prop} {xv:Value} {x:List Chg} (h:WrI G W c l) (hx:RPat S W xv x) (hS:∀ z,S z→¬ G z) (ha:∀ a ∈ x,RepC a) (hl:l.length+61 * mPat x+300≤1099511627776) :
  callK Tryz.prog 51 [.pointer (some ⟨c,0,none⟩),xv] (fun _ w'=>WrI G w' c (l++encM encCh x)∧Mod G W w') W:=by
 apply S51_ok
 unfold S51
 refine box1_i rfl fun b w1 hb hz g hc _=>?_
 refine ld1K_i hc ?_
 have h1:=h.narrow g
 have nb:¬ (G b∧¬ (W.heap.size≤b∧b < w1.heap.size)):=fun e=>e.2 ⟨by omega,by omega⟩
 have hfs:=flat_sum encCh_len x
 have hm:(x.map mChg).sum=mPat x:=rfl
 rw [hm] at hfs
 refine callK_mono (wlist_chg h1 (hx.grow g (by decide) fun _ _ h=>h) (fun _ _ _ _ h=>h) (fun z hz e=>hS z hz e.1) (by omega) fun i hi W' r l' hw m hr hl' K hK=>?_) ?_
 ·have hr':r=x[i].cells:=hr
  subst hr'
  have hma:=mPat_mem (List.getElem_mem hi)
  exact callyK_g (bs:=[]) (cs:=[_]) (by kernel_rfl) (callK_mono (wchg_ok hw (m.cell hc nb) nb (ha _ (List.getElem_mem hi)) (by unfold mChg;omega)) hK)
 ·rintro _ w2 ⟨h2,m2⟩
  exact ⟨h2.widen fun z hz=>hz.1,(g.mono fun _ _ e=>e.elim).trans (m2.mono fun z _ e=>e.1)⟩
theorem wop_ok {D:Nat→Prop} {r:List Value} {o:Dop} (h:WrI G W c l) (hr:RDop D W r o) (hD:∀ z,D z→¬ G z) (ho:RepO o) (hl:l.length+61 * mDop o+400≤1099511627776) :
  callK Tryz.prog 22 [.pointer (some ⟨c,0,none⟩),.agg r.toArray] (fun _ w'=>WrI G w' c (l++encOp o)∧Mod G W w') W:=by
 apply S22_ok
 unfold S22
 obtain ⟨rv,sv,pv,rfl,r1,r2,r3⟩:=hr
 have hk:=RepO.kind ho
 refine boxn_i fun b w1 hb hz g hc _=>?_
 have h1:=h.narrow g
 have nb:¬ (G b∧¬ (W.heap.size≤b∧b < w1.heap.size)):=fun e=>e.2 ⟨by omega,by omega⟩
 have fin:∀ w' X,WrI (fun z=>G z∧¬ (W.heap.size≤z∧z < w1.heap.size)) w' c (l++X)→Mod (fun z=>G z∧¬ (W.heap.size≤z∧z < w1.heap.size)) w1 w'→X=encOp o→WrI G w' c (l++encOp o)∧Mod G W w':=fun w' X hX hm e=>by
  subst e
  exact ⟨hX.widen fun z hz=>hz.1,(g.mono fun _ _ e=>e.elim).trans (hm.mono fun z _ e=>e.1)⟩
 have hD1:∀ z,D z→¬ (G z∧¬ (W.heap.size≤z∧z < w1.heap.size)):=fun z hz e=>hD z hz e.1
 obtain ⟨k,hkk⟩:∃ k:Nat,o.kind=k:=⟨o.kind.toNat,by omega⟩
 have c0:=hc 0 _ rfl
 have c1:=hc 1 _ rfl
 have c2:=hc 2 _ rfl
 have c3:=hc 3 _ rfl
 have c4:=hc 4 _ rfl
 rw [hkk] at c0
 rw [faK_i]
 refine ld1K_i c0 ?_
 refine conv8_64 (by omega) ?_
 have eV:encOp o=uv k++encU o:=by rw [encOp_eq,hkk];rfl
 have hul:(uv k).length≤10:=(uvB_len 9 k).2
 simp only [mDop] at hl
 refine callK_mono (wuint_ok h1 (by omega) (by omega)) ?_
 rintro _ w2 ⟨h2,m2⟩
 have ll:(l++uv k).length=l.length+(uv k).length:=List.length_append
 rw [faK_i]
 refine ld1K_i (m2.cell c0 nb) ?_
 rw [eqK_i]
 refine condK_p (fun e=>?_) fun n1=>?_
 ·rcases ho with ⟨_,hn,_,_,hp⟩ | ⟨e',_⟩ | ⟨e',_⟩
  rotate_left
  ·omega
  ·omega
  have en:o.n=((o.n.toNat:Nat):Int):=by omega
  rw [faK_i]
  refine ld1K_i (m2.cell c1 nb) ?_
  rw [en]
  refine conv_64 (by omega) ?_
  have hul2:(uv o.n.toNat).length≤10:=(uvB_len 9 _).2
  refine callK_mono (wuint_ok h2 (by omega) (by omega)) ?_
  rintro _ w3 ⟨h3,m3⟩
  have m23:=m2.trans m3
  rw [faK_i]
  refine ld1K_i (m23.cell c4 nb) ?_
  refine callK_mono (wpatch_ok h3 (SlR.mono r3 (fun _ _ h=>h) (fun z hz hd=>((g.mono fun _ _ e=>e.elim).trans m23).same z hz (hD1 z hd)) (by decide) fun _ _ h=>h) hD1 hp.2 (by simp only [List.length_append];omega)) ?_
  rintro _ w4 ⟨h4,m4⟩
  refine fin w4 (uv k++(uv o.n.toNat++encM encCh o.patch)) (by simpa only [List.append_assoc] using h4) (m23.trans m4) ?_
  rw [eV];unfold encU;rw [if_pos (by omega)]
 rw [eqK_i]
 refine condK_p (fun e=>?_) fun n2=>?_
 ·rcases ho with ⟨e',_⟩ | ⟨_,_,hM,ht,hs,_⟩ | ⟨e',_⟩
  ·omega
  rotate_left
  ·omega
  rw [faK_i]
  refine ld1K_i (m2.cell c2 nb) ?_
  refine callK_mono (rbytes_ok (SlR.mono r1 (fun _ _ h=>h) (fun z hz hd=>((g.mono fun _ _ e=>e.elim).trans m2).same z hz (hD1 z hd)) (by decide) fun _ _ h=>h) hM (by omega)) ?_
  rintro _ w3 ⟨g3,bv,rfl,ob⟩
  refine extK_i (vs:=[_,_]) rfl (extK_i (vs:=[_,_]) rfl ?_)
  have h3:=h2.narrow g3
  have hb3:RBytes (fun z=>w2.heap.size≤z∧z < w3.heap.size) w3 bv (textR o.runes):=SlR.sub (OwnR.sl ob) (fun z hz h=>⟨h.1,hz⟩) (by decide) fun _ _ h=>h
  have htl:=textR_len o.runes
  refine callK_mono (wbytes_ok h3 hb3 (fun z hz e=>e.2 hz) (by omega)) ?_
  rintro _ w4 ⟨h4,m4⟩
  have m24:=m2.trans ((g3.mono fun _ _ e=>e.elim).trans (m4.mono fun z _ e=>e.1))
  rw [faK_i]
  refine ld1K_i (m24.cell c3 nb) ?_
  have hxl:(encX (textR o.runes)).length≤10+o.runes.length * 4:=by
   have:(uv (textR o.runes).length).length≤10:=(uvB_len 9 _).2
   unfold encX;rw [List.length_append];omega
  have h4':=h4.widen (G:=fun z=>G z∧¬ (W.heap.size≤z∧z < w1.heap.size)) fun z hz=>hz.1
  refine callK_mono (wset_ok h4' (SlR.mono r2 (fun _ _ h=>h) (fun z hz hd=>((g.mono fun _ _ e=>e.elim).trans m24).same z hz (hD1 z hd)) (by decide) fun _ _ h=>h) hD1 hs.2 (by simp only [List.length_append];omega)) ?_
  rintro _ w5 ⟨h5,m5⟩
  refine fin w5 (uv k++(encX (textR o.runes)++encM encAt o.set)) (by simpa only [List.append_assoc] using h5) (m24.trans m5) ?_
  rw [eV];unfold encU;rw [if_neg (by omega),if_pos (by omega)]
 rw [eqK_i]
 refine condK_p (fun e=>?_) fun n3=>by omega
 rcases ho with ⟨e',_⟩ | ⟨e',_⟩ | ⟨_,hn,_⟩
 ·omega
 ·omega
 have en:o.n=((o.n.toNat:Nat):Int):=by omega
 rw [faK_i]
 refine ld1K_i (m2.cell c1 nb) ?_
 rw [en]
 refine conv_64 (by omega) ?_
 refine callK_mono (wuint_ok h2 (by omega) (by omega)) ?_
 rintro _ w3 ⟨h3,m3⟩
 refine fin w3 (uv k++uv o.n.toNat) (by simpa only [List.append_assoc] using h3) (m2.trans m3) ?_
 rw [eV];unfold encU;rw [if_neg (by omega),if_neg (by omega),if_pos (by omega)]
end
end Go.Proofs.YtgmpbihbdbmhoaaGreatDoor

namespace Go.Proofs.YtgmpbihbdbmhoaaGreatDoor
open Go Go.K

theorem or_add {n m i:Nat} (h:n < 2 ^ i):n ||| (m * 2 ^ i)=n+m * 2 ^ i:=by
 rw [Nat.or_comm,←Nat.shiftLeft_eq,←Nat.shiftLeft_add_eq_or_of_lt h];omega
theorem run_ob64 {t:TypeId} {xo yo:Operand} {a b:Nat} (w:World) (ha:a < 18446744073709551616) (hb:b < 18446744073709551616):(binS .or t xo yo (.int .u64 a) (.int .u64 b)).run Tryz.prog w=.ok (.int .u64 ((a ||| b:Nat):Int)) w∧(binS .and t xo yo (.int .u64 a) (.int .u64 b)).run Tryz.prog w=.ok (.int .u64 ((a &&& b:Nat):Int)) w:=by
 have e64:∀ x:Nat,x < 18446744073709551616→(BitVec.ofInt 64 (x:Int)).toNat=x:=fun x hx=>by
  rw [BitVec.ofInt_natCast,BitVec.toNat_ofNat];exact Nat.mod_eq_of_lt (by omega)
 constructor
 ·rw [(run_bits w).1]
  show Result.ok (Value.int .u64 (IntKind.u64.wrap ((BitVec.ofInt 64 (a:Int) ||| BitVec.ofInt 64 (b:Int)).toNat:Int))) w=_
  have:=Nat.or_lt_two_pow (n:=64) ha hb
  rw [BitVec.toNat_or,e64 a ha,e64 b hb,wrapu64 ⟨by omega,by omega⟩]
 ·rw [(run_bits w).2]
  show Result.ok (Value.int .u64 (IntKind.u64.wrap ((BitVec.ofInt 64 (a:Int) &&& BitVec.ofInt 64 (b:Int)).toNat:Int))) w=_
  have:=Nat.and_le_left (n:=a) (m:=b)
  rw [BitVec.toNat_and,e64 a ha,e64 b hb,wrapu64 ⟨by omega,by omega⟩]
theorem conv8_u64 {x:Int} {K:Cont} {w:World} (h0:0≤x) (h1:x < 256) (h:K (.int .u64 x) w):runK Tryz.prog (convert 5 57 (.int .u8 x)) K w:=by
 refine runK_i (run_conv (k:=.u64) w (by kernel_rfl) (by kernel_rfl)) ?_
 rw [wrapu64 ⟨by omega,by omega⟩];exact h
theorem pow7 (i:Nat):(2:Nat) ^ (7 * i)=128 ^ i:=by rw [Nat.pow_mul]
theorem dig_i {n x i:Nat} {t t':TypeId} {xo yo xo' yo':Operand} {K:Cont} {w:World} (hi:i≤9) (hn:n < 128 ^ i) (hx:x < 128) (h9:i=9→x≤1) (h:K (.int .u64 ((n+128 ^ i * x:Nat):Int)) w) :
  runK Tryz.prog (binS .shl t xo yo (.int .u64 x) (.int .i64 ((7 * i:Nat):Int))) (fun t49 w7=>runK Tryz.prog (binS .or t' xo' yo' (.int .u64 n) t49) K w7) w:=by
 refine runK_i (run_shl (n:=7 * i) w (by show 7 * i≤64;omega)) ?_
 have hp:128 ^ i * x < 18446744073709551616:=by
  have e8:(128:Nat) ^ 9=9223372036854775808:=by decide
  by_cases h9':i=9
  ·subst h9';rw [e8];have:=h9 rfl;omega
  ·have hle:128 ^ i≤128 ^ 8:=Nat.pow_le_pow_right (by decide) (by omega)
   have e7:(128:Nat) ^ 8=72057594037927936:=by decide
   have:=Nat.mul_le_mul hle (show x≤127 by omega)
   omega
 have e:(x:Int) * 2 ^ (7 * i)=((x * 2 ^ (7 * i):Nat):Int):=by push_cast;rfl
 rw [e,pow7,Nat.mul_comm,wrapu64 ⟨by omega,by omega⟩]
 have hn':n < 18446744073709551616:=by
  have hle:128 ^ i≤128 ^ 9:=Nat.pow_le_pow_right (by decide) hi
  have e8:(128:Nat) ^ 9=9223372036854775808:=by decide
  omega
 refine runK_i (run_ob64 w hn' hp).1 ?_
 have e2:=or_add (n:=n) (m:=x) (i:=7 * i) (by rw [pow7];exact hn)
 rw [pow7,Nat.mul_comm] at e2
 rw [e2];exact h
set_option maxRecDepth 4000 in
theorem ruint_ok {S:Nat→Prop} {v:Value} {b:List Int} {p:Nat} {w:World} (h:RBytes S w v b) (hb:∀ x ∈ b,0≤x∧x < 256) (hp:p≤b.length) (hl:b.length≤1099511627776) :
  callK Tryz.prog 115 [v,.int .i64 p] (fun v' w'=>w'=w∧((∃ (n:Nat) (t:List Int),v'=.tuple #[.int .u64 n,.int .i64 ((b.length - t.length:Nat):Int),.int .i64 0]∧uvR 9 true (b.drop p)=some (n,t))∨(v'=.tuple #[.int .u64 0,.int .i64 0,.int .i64 3]∧uvR 9 true (b.drop p)=none))) w:=by
 apply S115_ok
 unfold S115
 obtain ⟨a,c,rfl,hm⟩:=h.shape
 refine JoinK_i (fun vs W=>W=w∧vs=[.int .u64 0]) ?_ ?_
 rotate_left
 ·rw [ltK_i]
  refine condK_p (fun e=>by omega) fun _=>?_
  rw [lenK_i,gtK_i]
  refine condK_p (fun e=>by omega) fun _=>⟨rfl,rfl⟩
 rintro _ _ ⟨rfl,rfl⟩ _
 rename World=>w
 refine slice_lo (e:=5) (k:=1) (i:=Tryz.t5) (by kernel_rfl) (by kernel_rfl) rfl h hp fun v2 h2=>?_
 obtain ⟨a2,c2,rfl,hm2⟩:=h2.shape
 have hdl:(b.drop p).length=b.length - p:=List.length_drop
 have hbd:∀ x ∈ b.drop p,0≤x∧x < 256:=fun x hx=>hb x (List.mem_of_mem_drop hx)
 generalize hL:b.drop p=L at h2 hdl hbd
 rw [lenK_i,nth_z,List.headD_cons]
 refine LoopK_i (fun vs W=>∃ i n:Nat,i≤L.length∧i≤9∧vs=[.int .u64 n,.int .i64 i]∧W=w∧n < 128 ^ i∧uvR 9 true L=(uvR (9 - i) (decide (i=0)) (L.drop i)).map fun r=>(n+128 ^ i * r.1,r.2)) (fun vs _=>L.length - iOf vs 1) ⟨0,0,Nat.zero_le _,by omega,rfl,rfl,by decide,by
  simp only [Nat.sub_zero,List.drop_zero,decide_true,Nat.pow_zero,Nat.one_mul,Nat.zero_add]
  cases uvR 9 true L <;> rfl⟩ ?_
 rintro vs W ⟨i,n,hi,hi9,rfl,rfl,hn,he⟩ _
 rename World=>w
 simp only [nth_s,nth_z,List.headD_cons,List.tail_cons]
 rw [ltK_i]
 refine condK_p (fun hlt=>?_) fun hge=>?_
 rotate_left
 ·refine ⟨by trivial,.inr ⟨by trivial,?_⟩⟩
  rw [he,List.drop_eq_nil_of_le (by omega)]
  unfold uvR;rfl
 have hlt':i < L.length:=by omega
 obtain ⟨q,r,rfl,_,_,hc,rfl⟩:=h2.get hlt'
 refine ixK_n hlt' ?_
 refine ld1K_i (by have:=hc 0 _ rfl;exact this) ?_
 have hx:=hbd _ (List.getElem_mem hlt')
 rw [List.drop_eq_getElem_cons hlt'] at he
 generalize L[i]=x at he hx
 have none':((9 - i=0∧1 < x)∨(decide (i=0)=false∧x=0))→uvR 9 true L=none:=fun e=>by
  rw [he];unfold uvR;rw [if_pos e];rfl
 refine JoinK_i (fun vs W=>W=w∧∃ B:Bool,vs=[.bool B]∧(B=true↔((9 - i=0∧1 < x)∨(decide (i=0)=false∧x=0)))) ?_ ?_
 rotate_left
 ·have p2:∀ {A:Value→Prop},(¬ (9 - i=0∧1 < x))→(∀ B:Bool,(B=true↔((9 - i=0∧1 < x)∨(decide (i=0)=false∧x=0)))→A (.bool B))→gtK .i64 (.int .i64 (i:Int)) (.int .i64 0) fun t35=>condK t35 (eqK .u8 (.int .u8 x) (.int .u8 0) fun t38=>A t38) (A (.bool false)):=by
   intro A hno hA
   rw [gtK_i]
   refine condK_p (fun e=>?_) fun e=>hA _ ?_
   ·rw [eqK_i]
    refine hA _ ?_
    rw [decide_eq_true_eq]
    exact ⟨fun e'=>.inr ⟨decide_eq_false (by omega),e'⟩,fun e'=>by rcases e' with e' | e';exact (hno e').elim;exact e'.2⟩
   ·refine ⟨fun e'=>(by cases e'),fun e'=>?_⟩
    rcases e' with e' | e'
    ·exact (hno e').elim
    ·have:=of_decide_eq_false e'.1;omega
  rw [eqK_i]
  refine condK_p (fun e9=>?_) fun e9=>p2 (fun e=>by omega) fun B hB=>⟨rfl,B,rfl,hB⟩
  rw [gtK_i]
  refine condK_p (fun ex=>⟨rfl,true,rfl,⟨fun _=>.inl ⟨by omega,ex⟩,fun _=>rfl⟩⟩) fun ex=>p2 (fun e=>ex e.2) fun B hB=>⟨rfl,B,rfl,hB⟩
 rintro _ _ ⟨rfl,B,rfl,hB⟩ _
 rename World=>w
 simp only [nth_z,List.headD_cons]
 refine condK_bb (fun e=>⟨by trivial,.inr ⟨by trivial,none' (hB.1 e)⟩⟩) fun e=>?_
 have hno:¬ ((9 - i=0∧1 < x)∨(decide (i=0)=false∧x=0)):=fun e'=>by rw [hB.2 e'] at e;cases e
 have hx9:i=9→x≤1:=fun e'=>Int.not_lt.1 fun e''=>hno (.inl ⟨by omega,e''⟩)
 have m7:IntKind.i64.wrap (7 * (i:Int))=((7 * i:Nat):Int):=by rw [wrap64 (by omega) (by omega)];push_cast;rfl
 rw [ltK_i]
 refine condK_p (fun hs=>?_) fun hs=>?_
 ·refine conv8_u64 hx.1 hx.2 ?_
  rw [mulK_i,m7]
  obtain ⟨k,rfl⟩:∃ k:Nat,x=k:=⟨x.toNat,by omega⟩
  refine dig_i hi9 hn (by omega) (fun e'=>by have:=hx9 e';omega) ?_
  rw [addK_i,addK_i,wrap64 (x:=(p:Int)+i) (by omega) (by omega),wrap64 (by omega) (by omega)]
  refine ⟨by trivial,.inl ⟨n+128 ^ i * k,L.drop (i+1),?_,?_⟩⟩
  ·rw [List.length_drop,hdl,show ((p:Int)+i+1)=((b.length - (b.length - p - (i+1)):Nat):Int) by omega]
  ·rw [he];unfold uvR;rw [if_neg hno,if_pos (by omega)];simp
 ·obtain ⟨k,rfl⟩:∃ k:Nat,x=k:=⟨x.toNat,by omega⟩
  refine runK_i (run_bit8 (a:=k) (b:=127) w (by omega) (by omega)).2 ?_
  have e127:k &&& 127=k - 128:=by
   have:k &&& 127=k % 128:=Nat.and_two_pow_sub_one_eq_mod k 7
   rw [this];omega
  rw [e127]
  refine conv8_u64 (by omega) (by omega) ?_
  rw [mulK_i,m7]
  have hi8:i < 9:=by
   rcases Nat.lt_or_ge i 9 with h | h
   ·exact h
   ·have:=hx9 (by omega);omega
  refine dig_i hi9 hn (by omega) (fun e'=>by omega) ?_
  rw [addK_i,loop_step (by omega)]
  refine ⟨⟨i+1,n+128 ^ i * (k - 128),hlt',by omega,rfl,by trivial,?_,?_⟩,by rw [iOf1,iOf1];omega⟩
  ·have:128 ^ i * (k - 128)≤128 ^ i * 127:=Nat.mul_le_mul_left _ (by omega)
   rw [Nat.pow_succ];omega
  ·rw [he]
   obtain ⟨f,hf⟩:∃ f,9 - i=f+1:=⟨8 - i,by omega⟩
   have hf2:9 - (i+1)=f:=by omega
   rw [hf,hf2]
   have hno':¬ ((f+1=0∧1 < (k:Int))∨(decide (i=0)=false∧(k:Int)=0)):=by rw [←hf];exact hno
   conv=>lhs;unfold uvR
   rw [if_neg hno',if_neg (by omega)]
   simp only [Nat.add_one_ne_zero,decide_false]
   cases uvR f false (L.drop (i+1)) with
   | none=>rfl
   | some r=>
    simp only [Option.map_some,Option.some.injEq,Prod.mk.injEq,and_true]
    rw [Nat.pow_succ,Nat.mul_add,show ((k:Int) - 128).toNat=k - 128 by omega,Nat.mul_assoc]
    omega
theorem zag_ok {n:Nat} {w:World} (hn:n < 18446744073709551616):callK Tryz.prog 156 [.int .u64 n] (fun v' w'=>v'=.int .i64 (unzig n)∧w'=w) w:=by
 apply S156_ok
 unfold S156
 refine runK_i (run_shr (n:=1) w (by decide)) ?_
 have e1:((n:Int)).fdiv (2 ^ 1)=((n / 2:Nat):Int):=by
  rw [Int.fdiv_eq_ediv_of_nonneg _ (by decide)];show (n:Int) / 2=_;omega
 rw [e1]
 refine runK_i (run_conv (k:=.i64) w (by kernel_rfl) (by kernel_rfl)) ?_
 rw [wrap64 (by omega) (by omega)]
 refine runK_i (run_ob64 (a:=n) (b:=1) w hn (by omega)).2 ?_
 rw [Nat.and_one_is_mod]
 refine runK_i (run_conv (k:=.i64) w (by kernel_rfl) (by kernel_rfl)) ?_
 rw [wrap64 (by omega) (by omega)]
 have eneg:∀ x:Int,(Op.unary .neg (.int .i64 x)).run Tryz.prog w=.ok (.int .i64 (IntKind.i64.wrap (-x))) w:=fun x=>by simp [Op.unary,Op.intArith]
 refine runK_i (eneg _) ?_
 rw [wrap64 (by omega) (by omega)]
 have exor:∀ (t:TypeId) (xo yo:Operand) (a b:Int),(binS .xor t xo yo (.int .i64 a) (.int .i64 b)).run Tryz.prog w=.ok (.int .i64 (IntKind.i64.wrap (BitVec.ofInt 64 a ^^^ BitVec.ofInt 64 b).toNat)) w:=fun t xo yo a b=>by
  simp [binS,eqGuard,binOp,Op.intBits]
  rfl
 refine runK_i (exor _ _ _ _ _) ⟨?_,rfl⟩
 congr 1
 unfold unzig
 by_cases h0:n % 2=0
 ·rw [if_pos h0,h0]
  have:BitVec.ofInt 64 (-((0:Nat):Int))=0#64:=by decide
  rw [this,BitVec.xor_zero,BitVec.ofInt_natCast,BitVec.toNat_ofNat,Nat.mod_eq_of_lt (by omega),wrap64 (by omega) (by omega)]
 ·rw [if_neg h0,show n % 2=1 by omega]
  have:=Lib.i64_not (n / 2) (by omega)
  rw [BitVec.xor_comm]
  exact this
theorem rint_ok {S:Nat→Prop} {v:Value} {b:List Int} {p:Nat} {w:World} (h:RBytes S w v b) (hb:∀ x ∈ b,0≤x∧x < 256) (hp:p≤b.length) (hl:b.length≤1099511627776) :
  callK Tryz.prog 144 [v,.int .i64 p] (fun v' w'=>w'=w∧((∃ (n:Nat) (t:List Int),v'=.tuple #[.int .i64 (unzig n),.int .i64 ((b.length - t.length:Nat):Int),.int .i64 0]∧uvR 9 true (b.drop p)=some (n,t))∨((∃ x y,v'=.tuple #[x,y,.int .i64 3])∧uvR 9 true (b.drop p)=none))) w:=by
 apply S144_ok
 unfold S144
 refine callK_mono (ruint_ok h hb hp hl) ?_
 rintro _ _ ⟨rfl,⟨n,t,rfl,he⟩ | ⟨rfl,he⟩⟩
 ·rename World=>w
  have hn:=(read_uv (fun x hx=>hb x (List.mem_of_mem_drop hx)) he).2
  refine extK_i (vs:=[_,_,_]) rfl (extK_i (vs:=[_,_,_]) rfl (extK_i (vs:=[_,_,_]) rfl ?_))
  refine callK_mono (zag_ok hn) ?_
  rintro _ _ ⟨rfl,rfl⟩
  exact ⟨rfl,.inl ⟨n,t,rfl,he⟩⟩
 ·rename World=>w
  refine extK_i (vs:=[_,_,_]) rfl (extK_i (vs:=[_,_,_]) rfl (extK_i (vs:=[_,_,_]) rfl ?_))
  refine callK_mono (zag_ok (n:=0) (by omega)) ?_
  rintro _ _ ⟨rfl,rfl⟩
  exact ⟨rfl,.inr ⟨⟨_,_,rfl⟩,he⟩⟩
end Go.Proofs.YtgmpbihbdbmhoaaGreatDoor

namespace Go.Proofs.YtgmpbihbdbmhoaaGreatDoor
open Go Go.K

theorem drop_suf {b u t:List Int} {p:Nat} (hp:p≤b.length) (e:b.drop p=u++t):b.length - t.length=p+u.length∧p+u.length≤b.length∧b.drop (p+u.length)=t:=by
 have hl:=congrArg List.length e
 rw [List.length_drop,List.length_append] at hl
 refine ⟨by omega,by omega,?_⟩
 rw [←List.drop_drop,e,List.drop_left]
section
variable {α:Type} {f:α→List Int} {R:α→Prop} {b:List Int} {p q:Nat} {bad:Bool} {a:α}
theorem RdP.no (hp:p≤b.length) (h:∀ c t,R c→b.drop p≠f c++t):RdP f R b p bad a p true:=
 ⟨Nat.le_refl _,hp,fun _=>rfl,fun e=>(by cases e),fun _ c t hc ht=>(h c t hc ht).elim⟩
theorem RdP.ok (hp:p≤q) (hq:q≤b.length) (hR:R a) (e:b.drop p=f a++b.drop q):RdP f R b p bad a q bad:=
 ⟨hp,hq,fun h=>h,fun _=>⟨hR,e⟩,fun h _ _ _ _=>h⟩
end
theorem rbat_ok {S:Nat→Prop} {v:Value} {b:List Int} {p:Nat} {w:World} (h:RBytes S w v b) (hb:∀ x ∈ b,0≤x∧x < 256) (hp:p≤b.length) (hl:b.length≤1099511627776) :
  callK Tryz.prog 119 [v,.int .i64 p,.int .i64 b.length] (fun v' w'=>Grow w w'∧((∃ (x:List Int) (q:Nat) (xv:Value),v'=.tuple #[xv,.int .i64 q,.int .i64 0]∧OBytes w.heap.size w' xv x∧p≤q∧q≤b.length∧b.drop p=encX x++b.drop q)∨
   ((∃ x y,v'=.tuple #[x,y,.int .i64 3])∧∀ x t,x.length < 9223372036854775808→b.drop p≠encX x++t))) w:=by
 apply S119_ok
 unfold S119
 obtain ⟨a,c,rfl,hm⟩:=h.shape
 refine callK_mono (ruint_ok h hb hp hl) ?_
 have hbd:∀ x ∈ b.drop p,0≤x∧x < 256:=fun x hx=>hb x (List.mem_of_mem_drop hx)
 rintro _ _ ⟨rfl,⟨n,t,rfl,he⟩ | ⟨rfl,he⟩⟩
 rotate_left
 ·rename World=>w
  refine extK_i (vs:=[_,_,_]) rfl (extK_i (vs:=[_,_,_]) rfl (extK_i (vs:=[_,_,_]) rfl ?_))
  have bad:∀ x t,x.length < 9223372036854775808→b.drop p≠encX x++t:=fun x t hx e=>by
   unfold encX at e
   rw [List.append_assoc] at e
   rw [e,uv_read _ (by omega)] at he
   cases he
  refine JoinK_i (fun _ _=>False) (fun _ _ h=>h.elim) ?_
  rw [neK_i]
  exact condK_neg (fun e=>by cases e) fun _=>⟨Mod.refl _ _,.inr ⟨⟨_,_,rfl⟩,bad⟩⟩
 rename World=>w
 refine extK_i (vs:=[_,_,_]) rfl (extK_i (vs:=[_,_,_]) rfl (extK_i (vs:=[_,_,_]) rfl ?_))
 obtain ⟨hd,hn⟩:=read_uv hbd he
 obtain ⟨s1,s2,s3⟩:=drop_suf hp hd
 rw [s1]
 generalize hq:p+(uv n).length=q0 at *
 have ht:t.length=b.length - q0:=by rw [←s3,List.length_drop]
 have bad:b.length - q0 < n→∀ x t,x.length < 9223372036854775808→b.drop p≠encX x++t:=fun hlt x t' hx e=>by
  unfold encX at e
  rw [List.append_assoc,hd] at e
  obtain ⟨e1,e2⟩:=uv_pre hn (by omega) e
  have:=congrArg List.length e2
  rw [List.length_append] at this
  omega
 refine JoinK_i (fun vs W=>W=w∧vs=[.int .i64 (q0:Nat)]∧n≤b.length - q0) ?_ ?_
 ·rintro _ _ ⟨rfl,rfl,hle⟩ _
  rename World=>w
  simp only [nth_z,List.headD_cons]
  refine runK_i (run_conv (k:=.i64) w (by kernel_rfl) (by kernel_rfl)) ?_
  rw [wrap64 (by omega) (by omega),addK_i,wrap64 (by omega) (by omega)]
  have e:(q0:Int)+(n:Int)=((q0+n:Nat):Int):=by push_cast;rfl
  rw [e]
  refine slice_lh (e:=5) (k:=1) (i:=Tryz.t5) (by kernel_rfl) (by kernel_rfl) rfl h (by omega) (by omega) fun v2 h2=>?_
  have hl2:((b.take (q0+n)).drop q0).length=n:=by rw [List.length_drop,List.length_take];omega
  refine callK_mono (clone_bytes h2 (by omega)) ?_
  rintro xv w2 ⟨o2,g2⟩
  refine ⟨g2,.inl ⟨_,q0+n,xv,rfl,o2,by omega,by omega,?_⟩⟩
  unfold encX
  rw [hl2,hd,List.append_assoc,←s3,List.drop_take]
  congr 1
  have e3:b.drop (q0+n)=(b.drop q0).drop n:=by rw [List.drop_drop]
  rw [e3,show q0+n - q0=n by omega,List.take_append_drop]
 ·rw [neK_i]
  refine condK_neg (fun _=>?_) fun e=>(e rfl).elim
  rw [ltK_i]
  refine condK_p (fun e=>by omega) fun _=>?_
  refine conv_64 (by omega) ?_
  rw [gtK_i]
  refine condK_p (fun e=>⟨Mod.refl _ _,.inr ⟨⟨_,_,rfl⟩,bad (by omega)⟩⟩) fun e=>?_
  rw [lenK_i,subK_i,wrap64 (by omega) (by omega),show ((b.length:Int) - (q0:Nat))=((b.length - q0:Nat):Int) by omega]
  refine conv_64 (by omega) ?_
  rw [gtK_i]
  exact condK_p (fun e=>⟨Mod.refl _ _,.inr ⟨⟨_,_,rfl⟩,bad (by omega)⟩⟩) fun e=>⟨rfl,rfl,by omega⟩
structure RdS (S:Nat→Prop) (W:World) (c:Nat) (bv:Value) (b:List Int) (p:Nat) (bad:Bool):Prop where
 c0:W.cell? ⟨c,0,none⟩=some bv
 c1:W.cell? ⟨c,1,none⟩=some (.int .i64 p)
 c2:W.cell? ⟨c,2,none⟩=some (.bool bad)
 l1:Live W ⟨c,1,none⟩
 l2:Live W ⟨c,2,none⟩
 row:RBytes S W bv b
 sep:∀ z,S z→z < c
 len:p≤b.length
section
variable {S:Nat→Prop} {W W':World} {c:Nat} {bv:Value} {b:List Int} {p q:Nat} {bad:Bool}
theorem RdS.lt (h:RdS S W c bv b p bad):c < W.heap.size:=World.block_lt_of_cell? W _ h.c0
theorem RdS.mod {M:Nat→Prop} (h:RdS S W c bv b p bad) (m:Mod M W W') (hc:∀ z,z≤c→¬ M z):RdS S W' c bv b p bad:=
 ⟨m.cell h.c0 (hc c (Nat.le_refl _)),m.cell h.c1 (hc c (Nat.le_refl _)),m.cell h.c2 (hc c (Nat.le_refl _)),h.l1.mod m (hc c (Nat.le_refl _)),h.l2.mod m (hc c (Nat.le_refl _)),h.row.mod m (fun z _ hz=>hc z (Nat.le_of_lt (h.sep z hz))) (by decide) fun _ _ h=>h,h.sep,h.len⟩
theorem RdS.grow (h:RdS S W c bv b p bad) (g:Grow W W'):RdS S W' c bv b p bad:=h.mod g fun _ _ h=>h
theorem ne_off {c i j:Nat} (h:i≠j):(⟨c,i,none⟩:Addr)≠⟨c,j,none⟩:=by intro e;simp only [Addr.mk.injEq] at e;omega
theorem RdS.bads {K:World→Prop} (h:RdS S W c bv b p bad) (hK:∀ W',RdS S W' c bv b p true→Mod (fun z=>z=c) W W'→K W') :
  nilckK (.pointer (some ⟨c,0,none⟩)) fun t=>faK 2 t fun q=>st1K q (.bool true) K W:=by
 refine nilckK_s ?_
 rw [faK_i,addr0]
 have m:Mod (fun z=>z=c) W (W.setCell ⟨c,2,none⟩ (.bool true)):=Mod.setCell _ _ _ rfl
 refine h.l2.st rfl rfl (hK _ ⟨?_,?_,World.cell?_setCell_same _ _ _ h.c2,h.l1.set _ _,h.l2.set _ _,h.row.mod m (fun z _ hz e=>by have:=h.sep z hz;omega) (by decide) fun _ _ h=>h,h.sep,h.len⟩ m)
 ·rw [World.cell?_setCell_other _ _ _ _ (ne_off (by decide))];exact h.c0
 ·rw [World.cell?_setCell_other _ _ _ _ (ne_off (by decide))];exact h.c1
theorem RdS.move {K:World→Prop} (h:RdS S W c bv b p bad) (hq:q≤b.length) (hK:∀ W',RdS S W' c bv b q bad→Mod (fun z=>z=c) W W'→K W') :
  nilckK (.pointer (some ⟨c,0,none⟩)) fun t=>faK 1 t fun u=>st1K u (.int .i64 q) K W:=by
 refine nilckK_s ?_
 rw [faK_i,addr0]
 have m:Mod (fun z=>z=c) W (W.setCell ⟨c,1,none⟩ (.int .i64 q)):=Mod.setCell _ _ _ rfl
 refine h.l1.st rfl rfl (hK _ ⟨?_,World.cell?_setCell_same _ _ _ h.c1,?_,h.l1.set _ _,h.l2.set _ _,h.row.mod m (fun z _ hz e=>by have:=h.sep z hz;omega) (by decide) fun _ _ h=>h,h.sep,hq⟩ m)
 ·rw [World.cell?_setCell_other _ _ _ _ (ne_off (by decide))];exact h.c0
 ·rw [World.cell?_setCell_other _ _ _ _ (ne_off (by decide))];exact h.c2
variable (hb:∀ x ∈ b,0≤x∧x < 256) (hl:b.length≤1099511627776)
include hb hl
theorem upto_ok {most:Nat} (h:RdS S W c bv b p bad) (hm:most < 18446744073709551616) :
  callK Tryz.prog 64 [.pointer (some ⟨c,0,none⟩),.int .u64 most] (fun v w'=>∃ (n q:Nat) (bad1:Bool),v=.int .u64 n∧n≤most∧RdS S w' c bv b q bad1∧Mod (fun z=>z=c) W w'∧RdP uv (fun n=>n≤most) b p bad n q bad1) W:=by
 apply S64_ok
 unfold S64
 have gd:Grow W W.drew:=Mod.drew _ _
 have hd:=h.grow gd
 refine drawC_i (fun _ _=>False) ?_
 refine nilckK_s ?_
 rw [faK_i,addr0]
 refine sld1_i ⟨hd.c0,fun _ _ h=>h⟩ ?_
 refine nilckK_s ?_
 rw [faK_i,addr0]
 refine sld1_i ⟨hd.c1,fun _ _ h=>h⟩ ?_
 refine callK_mono (ruint_ok hd.row hb h.len hl) ?_
 have hbd:∀ x ∈ b.drop p,0≤x∧x < 256:=fun x hx=>hb x (List.mem_of_mem_drop hx)
 have fail:(∀ n t,n≤most→b.drop p≠uv n++t)→∀ W',RdS S W' c bv b p true→Mod (fun z=>z=c) W.drew W'→∃ (n q:Nat) (bad1:Bool),(Value.int .u64 0)=.int .u64 n∧n≤most∧RdS S W' c bv b q bad1∧Mod (fun z=>z=c) W W'∧RdP uv (fun n=>n≤most) b p bad n q bad1:=fun hno W' h' m'=>
  ⟨0,p,true,rfl,Nat.zero_le _,h',(gd.mono fun _ _ e=>e.elim).trans m',RdP.no h.len hno⟩
 rintro _ _ ⟨rfl,⟨n,t,rfl,he⟩ | ⟨rfl,he⟩⟩
 ·refine ⟨Mod.refl _ _,?_⟩
  refine extK_i (vs:=[_,_,_]) rfl (extK_i (vs:=[_,_,_]) rfl (extK_i (vs:=[_,_,_]) rfl ?_))
  obtain ⟨hdr,hn⟩:=read_uv hbd he
  obtain ⟨s1,s2,s3⟩:=drop_suf h.len hdr
  rw [s1]
  refine JoinK_i (fun _ W'=>W'=W.drew∧n≤most) ?_ ?_
  ·rintro _ _ ⟨rfl,hle⟩ _
   refine hd.move s2 fun W' h' m'=>⟨n,_,bad,rfl,hle,h',(gd.mono fun _ _ e=>e.elim).trans m',RdP.ok (by omega) s2 hle (by rw [s3];exact hdr)⟩
  ·rw [neK_i]
   refine condK_neg (fun _=>?_) fun e=>(e rfl).elim
   rw [gtK_i]
   refine condK_p (fun e=>hd.bads (fail fun n' t' hn' e'=>?_)) fun e=>⟨rfl,by omega⟩
   rw [hdr] at e'
   have:=(uv_pre hn (by omega) e').1
   omega
 ·refine ⟨Mod.refl _ _,?_⟩
  refine extK_i (vs:=[_,_,_]) rfl (extK_i (vs:=[_,_,_]) rfl (extK_i (vs:=[_,_,_]) rfl ?_))
  refine JoinK_i (fun _ _=>False) (fun _ _ h=>h.elim) ?_
  rw [neK_i]
  refine condK_neg (fun e=>by cases e) fun _=>hd.bads (fail fun n' t' hn' e'=>?_)
  rw [e',uv_read _ (by omega)] at he
  cases he
theorem rbs_ok (h:RdS S W c bv b p bad) :
  callK Tryz.prog 69 [.pointer (some ⟨c,0,none⟩)] (fun v w'=>∃ (x:List Int) (q:Nat) (bad1:Bool),RBytes (fun z=>W.heap.size≤z) w' v x∧(∀ z ∈ x,0≤z∧z < 256)∧x.length≤b.length∧RdS S w' c bv b q bad1∧Mod (fun z=>z=c) W w'∧RdP encX (fun x=>x.length < 9223372036854775808) b p bad x q bad1) W:=by
 apply S69_ok
 unfold S69
 have gd:Grow W W.drew:=Mod.drew _ _
 have hd:=h.grow gd
 obtain ⟨a,n,ebv,_⟩:=h.row.shape
 refine drawC_i (fun _ _=>False) ?_
 refine nilckK_s ?_
 rw [faK_i,addr0]
 refine sld1_i ⟨hd.c0,fun _ _ h=>h⟩ ?_
 refine nilckK_s ?_
 rw [faK_i,addr0]
 refine sld1_i ⟨hd.c1,fun _ _ h=>h⟩ ?_
 refine nilckK_s ?_
 rw [faK_i,addr0]
 refine sld1_i ⟨hd.c0,fun _ _ h=>h⟩ ?_
 have hlen:∀ {k:Value→Prop},k (.int .i64 b.length)→lenK bv k:=fun {k} hk=>by subst ebv;rw [lenK_i];exact hk
 refine hlen ?_
 refine callK_mono (rbat_ok hd.row hb h.len hl) ?_
 have hbd:∀ x ∈ b.drop p,0≤x∧x < 256:=fun x hx=>hb x (List.mem_of_mem_drop hx)
 rintro _ w1 ⟨g1,⟨x,q,xv,rfl,o1,hpq,hq,he⟩ | ⟨⟨x,y,rfl⟩,he⟩⟩
 ·refine ⟨g1.mono fun _ _ e=>e.elim,?_⟩
  refine extK_i (vs:=[_,_,_]) rfl (extK_i (vs:=[_,_,_]) rfl (extK_i (vs:=[_,_,_]) rfl ?_))
  rw [neK_i]
  refine condK_neg (fun _=>?_) fun e=>(e rfl).elim
  have hxl:=congrArg List.length he
  unfold encX at hxl
  rw [List.length_append,List.length_append,List.length_drop,List.length_drop] at hxl
  have hlt:=h.lt
  refine (hd.grow g1).move hq fun W' h' m'=>⟨x,q,bad,?_,fun z hz=>hbd z ?_,by omega,h',((gd.trans g1).mono fun _ _ e=>e.elim).trans m',RdP.ok hpq hq (show x.length < _ by omega) he⟩
  ·refine (SlR.sub (OwnR.sl o1) (fun z _ hz=>hz.1) (by decide) fun _ _ h=>h).mod m' (fun z _ hz e=>?_) (by decide) fun _ _ h=>h
   subst e
   have:W.drew.heap.size=W.heap.size:=rfl
   omega
  ·rw [he];unfold encX
   exact List.mem_append_left _ (List.mem_append_right _ hz)
 ·refine ⟨g1.mono fun _ _ e=>e.elim,?_⟩
  refine extK_i (vs:=[_,_,_]) rfl (extK_i (vs:=[_,_,_]) rfl (extK_i (vs:=[_,_,_]) rfl ?_))
  rw [neK_i]
  refine condK_neg (fun e=>by cases e) fun _=>(hd.grow g1).bads fun W' h' m'=>⟨[],p,true,SlR.nil,by simp,by simp,h',((gd.trans g1).mono fun _ _ e=>e.elim).trans m',RdP.no h.len fun x t hx e=>he x t hx e⟩
end
end Go.Proofs.YtgmpbihbdbmhoaaGreatDoor

namespace Go.Proofs.YtgmpbihbdbmhoaaGreatDoor
open Go Go.K

structure BoxN (W:World) (g:Nat) (vs:List Value):Prop where
 cells:∀ j u,vs[j]?=some u→W.cell? ⟨g,j,none⟩=some u
 live:∀ j,j < vs.length→Live W ⟨g,j,none⟩
section
variable {W W':World} {g:Nat} {vs:List Value}
theorem BoxN.mod {M:Nat→Prop} (h:BoxN W g vs) (m:Mod M W W') (hg:¬ M g):BoxN W' g vs:=⟨fun j u hu=>m.cell (h.cells j u hu) hg,fun j hj=>(h.live j hj).mod m hg⟩
theorem BoxN.st {j:Nat} {u:Value} {K:World→Prop} (h:BoxN W g vs) (hj:j < vs.length) (h1:u.oneCell'=true) (h2:u.cells=#[u]) (hK:∀ W',BoxN W' g (vs.set j u)→Mod (fun z=>z=g) W W'→K W') :
  faK j (.pointer (some ⟨g,0,none⟩)) fun q=>st1K q u K W:=by
 rw [faK_i,addr0]
 refine (h.live j hj).st h1 h2 (hK _ ⟨fun i y hy=>?_,fun i hi=>(h.live i (by simpa using hi)).set _ _⟩ (Mod.setCell _ _ _ rfl))
 rw [List.getElem?_set] at hy
 split at hy
 ·rename_i e
  subst e
  first | (rw [if_pos hj] at hy;cases hy) | cases hy
  exact World.cell?_setCell_same _ _ _ (h.cells j _ (List.getElem?_eq_getElem hj))
 ·rename_i e
  rw [World.cell?_setCell_other _ _ _ _ (by intro e';simp only [Addr.mk.injEq] at e';omega)]
  exact h.cells i y hy
theorem BoxN.ld {n:Nat} {K:Cont} (h:BoxN W g vs) (hn:vs.length=n) (hK:K (.agg vs.toArray) W):ldnK n (.pointer (some ⟨g,0,none⟩)) K W:=
 ldnK_i hn (fun j u hu=>by rw [addr0];exact h.cells j u hu) hK
theorem BoxN.stn {n:Nat} {us:List Value} {K:World→Prop} (h:BoxN W g vs) (hn:vs.length=n) (hu:us.length=n) (h1:∀ v ∈ us,v.oneCell'=true) (hK:∀ W',BoxN W' g us→Mod (fun z=>z=g) W W'→K W') :
  stnK n (.pointer (some ⟨g,0,none⟩)) (.agg us.toArray) K W:=
 stn_over hu h1 (fun j hj=>by rw [addr0];exact h.live j (by omega)) fun W' m hc hl=>hK W' ⟨fun j u hj=>by have:=hc j u hj;rwa [addr0] at this,fun j hj=>hl _ (h.live j (by omega))⟩ m
theorem BoxN.new {t:TypeId} {K:Cont} (hK:∀ g W',g=W.heap.size→W'.heap.size=W.heap.size+1→Grow W W'→BoxN W' g vs→K (.pointer (some ⟨g,0,none⟩)) W'):newK t vs K W:=by
 obtain ⟨us,e,h2⟩:=boxn_i (t:=t) (vs:=vs) (K:=K) (w:=W) fun b w1 h1 h2 h3 h4 h5=>hK b w1 h1 h2 h3 ⟨fun j u hu=>by have:=h4 j u hu;rwa [addr0] at this,fun j hj=>by have:=h5 j hj;rwa [addr0] at this⟩
 have:us=vs:=by
  have e':=Value.agg.inj e
  simpa using (congrArg Array.toList e').symm
 subst this
 exact h2
end
theorem conv_u8n {n:Nat} {K:Cont} {w:World} (hn:n≤255) (h:K (.int .u8 n) w):runK Tryz.prog (convert 57 5 (.int .u64 n)) K w:=by
 refine conv64_8 ?_
 rw [show ((n:Int) % 256)=n by omega];exact h
theorem conv_i64 {n:Nat} {K:Cont} {w:World} (hn:n < 9223372036854775808) (h:K (.int .i64 n) w):runK Tryz.prog (convert 57 3 (.int .u64 n)) K w:=by
 refine runK_i (run_conv (k:=.i64) w (by kernel_rfl) (by kernel_rfl)) ?_
 rw [wrap64 (by omega) (by omega)];exact h
section
variable {S:Nat→Prop} {W W':World} {c:Nat} {bv:Value} {b:List Int} {p q:Nat} {bad:Bool}
variable (hb:∀ x ∈ b,0≤x∧x < 256) (hl:b.length≤1099511627776)
include hb hl
theorem rlen_ok (h:RdS S W c bv b p bad) :
  callK Tryz.prog 65 [.pointer (some ⟨c,0,none⟩)] (fun v w'=>∃ (n q:Nat) (bad1:Bool),v=.int .i64 n∧n≤536870912∧RdS S w' c bv b q bad1∧Mod (fun z=>z=c) W w'∧RdP uv (fun n=>n≤536870912) b p bad n q bad1) W:=by
 apply S65_ok
 unfold S65
 refine callK_mono (upto_ok hb hl (most:=536870912) h (by decide)) ?_
 rintro _ w1 ⟨n,q,bad1,rfl,hn,h1,m1,r1⟩
 exact conv_i64 (by omega) ⟨n,q,bad1,rfl,hn,h1,m1,r1⟩
theorem rkey_ok (h:RdS S W c bv b p bad) :
  callK Tryz.prog 116 [.pointer (some ⟨c,0,none⟩)] (fun v w'=>∃ (n q:Nat) (bad1:Bool),v=.int .i64 n∧n≤9223372036854775807∧RdS S w' c bv b q bad1∧Mod (fun z=>z=c) W w'∧RdP uv (fun n=>n≤9223372036854775807) b p bad n q bad1) W:=by
 apply S116_ok
 unfold S116
 refine callK_mono (upto_ok hb hl (most:=9223372036854775807) h (by decide)) ?_
 rintro _ w1 ⟨n,q,bad1,rfl,hn,h1,m1,r1⟩
 exact conv_i64 (by omega) ⟨n,q,bad1,rfl,hn,h1,m1,r1⟩
theorem rdval_ok {k:Nat} (h:RdS S W c bv b p bad) (hk:k≤255) :
  callK Tryz.prog 117 [.pointer (some ⟨c,0,none⟩),.int .u8 k] (fun v w'=>∃ (x:AVal) (q:Nat) (bad1:Bool),v=.agg x.cells.toArray∧RdS S w' c bv b q bad1∧Mod (fun z=>z=c) W w'∧RdV k b p bad x q bad1) W:=by
 apply S117_ok
 unfold S117
 have hlt:=h.lt
 refine BoxN.new fun g w1 hg hz g1 b1=>?_
 refine b1.st (by decide) rfl rfl fun w2 b2 m2=>?_
 have h2:=(h.grow g1).mod m2 fun z hz e=>by omega
 have m02:Mod (fun z=>z=c) W w2:=(g1.mono fun _ _ e=>e.elim).next m2 fun z hz e=>by omega
 replace b2:BoxN w2 g (⟨k,0,0,⟨#[]⟩⟩:AVal).cells:=b2
 -- how each way ends
 refine JoinK_i (fun _ W3=>∃ (x:AVal) (q:Nat) (bad1:Bool),BoxN W3 g x.cells∧RdS S W3 c bv b q bad1∧Mod (fun z=>z=c) W W3∧RdV k b p bad x q bad1) ?_ ?_
 ·rintro _ W3 ⟨x,q,bad1,b3,h3,m3,r3⟩ _
  refine b3.ld (n:=4) rfl ?_
  refine b3.stn (n:=4) (us:=x.cells) rfl rfl (AVal.one x) fun W4 b4 m4=>?_
  refine b4.ld (n:=4) rfl ⟨x,q,bad1,rfl,h3.mod m4 fun z hz e=>by omega,m3.next m4 fun z hz e=>by omega,r3⟩
 ·refine JoinK_i (fun _ W3=>W3=w2∧(k=1∨k=2)) ?_ ?_
  ·rintro _ _ ⟨rfl,hk12⟩ _
   rename World=>w2
   have gd:Grow w2 w2.drew:=Mod.drew _ _
   have hd:=h2.grow gd
   have bd:=b2.mod gd fun h=>h
   refine drawC_i (fun _ _=>False) ?_
   refine nilckK_s ?_
   rw [faK_i,addr0]
   refine sld1_i ⟨hd.c0,fun _ _ h=>h⟩ ?_
   refine nilckK_s ?_
   rw [faK_i,addr0]
   refine sld1_i ⟨hd.c1,fun _ _ h=>h⟩ ?_
   refine callK_mono (rint_ok hd.row hb h.len hl) ?_
   have hbd:∀ x ∈ b.drop p,0≤x∧x < 256:=fun x hx=>hb x (List.mem_of_mem_drop hx)
   have m0d:Mod (fun z=>z=c) W w2.drew:=m02.trans (gd.mono fun _ _ e=>e.elim)
   rintro _ _ ⟨rfl,⟨n,t,rfl,he⟩ | ⟨⟨x,y,rfl⟩,he⟩⟩
   ·refine ⟨Mod.refl _ _,?_⟩
    refine extK_i (vs:=[_,_,_]) rfl (extK_i (vs:=[_,_,_]) rfl (extK_i (vs:=[_,_,_]) rfl ?_))
    rw [neK_i]
    refine condK_neg (fun _=>?_) fun e=>(e rfl).elim
    obtain ⟨hdr,hn⟩:=read_uv hbd he
    obtain ⟨s1,s2,s3⟩:=drop_suf h.len hdr
    rw [s1]
    refine bd.st (by simp [AVal.cells]) rfl rfl fun w3 b3 m3=>?_
    have h3:=hd.mod m3 fun z hz e=>by omega
    refine h3.move s2 fun w4 h4 m4=>⟨⟨k,unzig n,0,⟨#[]⟩⟩,_,bad,b3.mod m4 (by omega),h4,(m0d.next m3 fun z hz e=>by omega).trans m4,RdV.int hk12 hn (RdP.ok (by omega) s2 hn (by rw [s3];exact hdr))⟩
   ·refine ⟨Mod.refl _ _,?_⟩
    refine extK_i (vs:=[_,_,_]) rfl (extK_i (vs:=[_,_,_]) rfl (extK_i (vs:=[_,_,_]) rfl ?_))
    rw [neK_i]
    refine condK_neg (fun e=>by cases e) fun _=>hd.bads fun w3 h3 m3=>?_
    have b3:=bd.mod m3 (by omega)
    refine b3.ld (n:=4) rfl ?_
    refine b3.stn (n:=4) (us:=(⟨k,0,0,⟨#[]⟩⟩:AVal).cells) rfl rfl (AVal.one _) fun W4 b4 m4=>?_
    refine b4.ld (n:=4) rfl ⟨⟨k,0,0,⟨#[]⟩⟩,p,true,rfl,h3.mod m4 fun z hz e=>by omega,(m0d.trans m3).next m4 fun z hz e=>by omega,?_⟩
    have r0:RdP uv (fun n=>n < 18446744073709551616) b p bad 0 p true:=RdP.no h.len fun n' t' hn' e'=>by
     rw [e',uv_read _ hn'] at he
     cases he
    exact ⟨r0.le,r0.len,r0.stays,fun e=>(by cases e),(RdV.int hk12 (by omega) r0).full⟩
  ·rw [eqK_i]
   refine condK_p (fun e=>⟨rfl,.inl (by omega)⟩) fun n1=>?_
   rw [eqK_i]
   refine condK_p (fun e=>⟨rfl,.inr (by omega)⟩) fun n2=>?_
   rw [eqK_i]
   refine condK_p (fun e=>?_) fun n3=>?_
   ·refine callK_mono (upto_ok hb hl (most:=18446744073709551615) h2 (by decide)) ?_
    rintro _ w3 ⟨n,q,bad1,rfl,hn,h3,m3,r3⟩
    refine (b2.mod m3 (by omega)).st (by simp [AVal.cells]) rfl rfl fun w4 b4 m4=>?_
    have ek:k=3:=by omega
    subst ek
    exact ⟨⟨3,0,n,⟨#[]⟩⟩,q,bad1,b4,h3.mod m4 fun z hz e=>by omega,(m02.trans m3).next m4 fun z hz e=>by omega,RdV.float r3⟩
   ·rw [eqK_i]
    refine condK_p (fun e=>?_) fun n4=>?_
    ·refine callK_mono (rbs_ok hb hl h2) ?_
     rintro v w3 ⟨x,q,bad1,rx,hx,hxl,h3,m3,r3⟩
     refine runK_i (run_str rx hx) ?_
     refine (b2.mod m3 (by omega)).st (by simp [AVal.cells]) rfl rfl fun w4 b4 m4=>?_
     have ek:k=4:=by omega
     subst ek
     exact ⟨⟨4,0,0,strOf x⟩,q,bad1,b4,h3.mod m4 fun z hz e=>by omega,(m02.trans m3).next m4 fun z hz e=>by omega,RdV.text (bytesL_strOf hx) r3⟩
    ·refine h2.bads fun w3 h3 m3=>?_
     exact ⟨_,p,true,b2.mod m3 (by omega),h3,m02.trans m3,RdV.bads h.len (by omega)⟩
end
end Go.Proofs.YtgmpbihbdbmhoaaGreatDoor

namespace Go.Proofs.YtgmpbihbdbmhoaaGreatDoor
open Go Go.K
theorem Tabs.mod2 {M:Nat→Prop} {w w':World} (h:Tabs w) (g:Mod M w w') (hM:∀ b,b < 2→¬ M b):Tabs w':=
 ⟨Nat.lt_of_lt_of_le h.size g.size,fun j h1 h2=>g.cell (h.first j h1 h2) (hM 0 (by decide)),fun j hj=>⟨g.cell (h.acc j hj).1 (hM 1 (by decide)),g.cell (h.acc j hj).2 (hM 1 (by decide))⟩⟩
section
variable {S:Nat→Prop} {W W':World} {c:Nat} {bv:Value} {b:List Int} {p q:Nat} {bad:Bool}
variable (hb:∀ x ∈ b,0≤x∧x < 256) (hl:b.length≤1099511620000)
include hb hl
theorem rdattr_ok (h:RdS S W c bv b p bad) :
  callK Tryz.prog 71 [.pointer (some ⟨c,0,none⟩)] (fun v w'=>∃ (a:Attr) (q:Nat) (bad1:Bool),v=.agg a.cells.toArray∧RdS S w' c bv b q bad1∧Mod (fun z=>z=c) W w'∧RdP encAt RepA b p bad a q bad1) W:=by
 apply S71_ok
 unfold S71
 have hl:b.length≤1099511627776:=by omega
 have hclt:=h.lt
 refine BoxN.new fun g w1 hg hz g1 b1=>?_
 refine callK_mono (rkey_ok hb hl (h.grow g1)) ?_
 rintro _ w2 ⟨key,q2,bad2,rfl,hk,h2,m2,r2⟩
 refine callK_mono (upto_ok hb hl (most:=255) h2 (by decide)) ?_
 rintro _ w3 ⟨k,q3,bad3,rfl,hk3,h3,m3,r3⟩
 refine conv_u8n hk3 ?_
 refine callK_mono (rdval_ok hb hl h3 hk3) ?_
 rintro _ w4 ⟨v,q4,bad4,rfl,h4,m4,r4⟩
 refine ⟨(⟨key,v⟩:Attr).cells.toArray,by kernel_rfl,?_⟩
 have m24:=(m2.trans m3).trans m4
 refine (b1.mod m24 (by omega)).stn (n:=5) (us:=(⟨key,v⟩:Attr).cells) rfl rfl (RAttr.one (w:=w1) rfl) fun w5 b5 m5=>?_
 exact b5.ld (n:=5) rfl ⟨⟨key,v⟩,q4,bad4,rfl,h4.mod m5 fun z hz e=>by omega,((g1.mono fun _ _ e=>e.elim).trans m24).next m5 fun z hz e=>by omega,RdP.attr r2 (RdP.value r3 r4)⟩
theorem rdchg_ok (h:RdS S W c bv b p bad) :
  callK Tryz.prog 67 [.pointer (some ⟨c,0,none⟩)] (fun v w'=>∃ (a:Chg) (q:Nat) (bad1:Bool),v=.agg a.cells.toArray∧RdS S w' c bv b q bad1∧Mod (fun z=>z=c) W w'∧RdP encCh RepC b p bad a q bad1) W:=by
 apply S67_ok
 unfold S67
 have hl:b.length≤1099511627776:=by omega
 have hclt:=h.lt
 refine BoxN.new fun g w1 hg hz g1 b1=>?_
 refine callK_mono (rkey_ok hb hl (h.grow g1)) ?_
 rintro _ w2 ⟨key,q2,bad2,rfl,hk,h2,m2,r2⟩
 refine callK_mono (upto_ok hb hl (most:=255) h2 (by decide)) ?_
 rintro _ w3 ⟨k,q3,bad3,rfl,hk3,h3,m3,r3⟩
 refine conv_u8n hk3 ?_
 rw [eqK_i]
 refine condK_p (fun e=>?_) fun e=>?_
 ·refine ⟨(⟨key,true,AVal.zero⟩:Chg).cells.toArray,by kernel_rfl,?_⟩
  have m23:=m2.trans m3
  have ek:k=0:=by omega
  subst ek
  refine (b1.mod m23 (by omega)).stn (n:=6) (us:=(⟨key,true,AVal.zero⟩:Chg).cells) rfl rfl (RChg.one (w:=w1) rfl) fun w5 b5 m5=>?_
  exact b5.ld (n:=6) rfl ⟨⟨key,true,AVal.zero⟩,q3,bad3,rfl,h3.mod m5 fun z hz e=>by omega,((g1.mono fun _ _ e=>e.elim).trans m23).next m5 fun z hz e=>by omega,RdP.change r2 (RdP.tail (c:=(true,AVal.zero)) r3 (RdP.gone h3.len))⟩
 ·refine callK_mono (rdval_ok hb hl h3 hk3) ?_
  rintro _ w4 ⟨v,q4,bad4,rfl,h4,m4,r4⟩
  refine ⟨(⟨key,false,v⟩:Chg).cells.toArray,by kernel_rfl,?_⟩
  have m24:=(m2.trans m3).trans m4
  refine (b1.mod m24 (by omega)).stn (n:=6) (us:=(⟨key,false,v⟩:Chg).cells) rfl rfl (RChg.one (w:=w1) rfl) fun w5 b5 m5=>?_
  exact b5.ld (n:=6) rfl ⟨⟨key,false,v⟩,q4,bad4,rfl,h4.mod m5 fun z hz e=>by omega,((g1.mono fun _ _ e=>e.elim).trans m24).next m5 fun z hz e=>by omega,RdP.change r2 (RdP.tail (c:=(false,v)) r3 (RdV.kept (by omega) r4))⟩
theorem rdsev_attr (h:RdS S W c bv b p bad) {fv:Value} (hf:∀ W' p' (K:Cont),RdS S W' c bv b p' false→Mod (fun z=>z=c) W W'→(∀ v (a:Attr) q bad1 W'',v=.agg a.cells.toArray→RdS S W'' c bv b q bad1→Mod (fun z=>z=c) W' W''→RdP encAt RepA b p' false a q bad1→K v W'')→callyK Tryz.prog okf fv [] K W') :
  callK Tryz.prog 70 [.pointer (some ⟨c,0,none⟩),fv] (fun v w'=>∃ (l:List Attr) (q:Nat) (bad1:Bool),OwnR W.heap.size 61 5 RAttr w' v l∧l.length≤b.length+1∧RdS S w' c bv b q bad1∧Mod (fun z=>z=c) W w'∧RdP (encM encAt) (RepM RepA) b p bad l q bad1) W:=by
 apply S70_ok
 unfold S70
 have hclt:=h.lt
 have hl':b.length≤1099511627776:=by omega
 obtain ⟨a,n,ebv,_⟩:=h.row.shape
 refine nilckK_s ?_
 rw [faK_i,addr0]
 refine ld1K_i h.c0 ?_
 have hlen:∀ {k:Value→Prop},k (.int .i64 b.length)→lenK bv k:=fun {k} hk=>by subst ebv;rw [lenK_i];exact hk
 refine hlen (conv_64 (by omega) ?_)
 refine callK_mono (upto_ok hb hl' (most:=b.length) h (by omega)) ?_
 rintro _ w1 ⟨n0,p1,badn,rfl,hn0,h1,m1,rn⟩
 refine LoopK_i (fun vs W1=>∃ (l:List Attr) (q:Nat) (bad1:Bool) (m:Nat) (ov:Value),vs=[ov,.int .u64 m]∧RdL encAt RepA b p1 badn n0 l q bad1∧l.length+m=n0∧RdS S W1 c bv b q bad1∧OwnR W.heap.size 61 5 RAttr W1 ov l∧Mod (fun z=>z=c) W W1∧l.length≤b.length+1) (fun vs _=>iOf vs 1)
  ⟨[],p1,badn,n0,.slice none 0 0,rfl,RdL.nil h1.len,by simp,h1,OwnR.nil,m1,by simp⟩ ?_
 rintro vs W1 ⟨l,q,bad1,m,ov,rfl,hL,hlm,hR,ho,hM,hb1⟩ _
 simp only [nth_s,nth_z,List.headD_cons,List.tail_cons]
 have s1:=hM.size
 refine JoinK_i (fun _ W'=>W'=W1∧0 < m∧bad1=false) ?_ ?_
 rotate_left
 ·have out:(bad1=false→l.length=n0)→∃ (l:List Attr) (q:Nat) (bad1:Bool),OwnR W.heap.size 61 5 RAttr W1 ov l∧l.length≤b.length+1∧RdS S W1 c bv b q bad1∧Mod (fun z=>z=c) W W1∧RdP (encM encAt) (RepM RepA) b p bad l q bad1:=fun e=>
   ⟨l,q,bad1,ho,hb1,hR,hM,RdL.done encAt_pos (by omega) rn hL e (Nat.le_refl _) (by omega)⟩
  rw [gtK_i]
  refine condK_p (fun hm=>?_) fun hm=>out fun _=>by omega
  refine nilckK_s ?_
  rw [faK_i,addr0]
  refine ld1K_i hR.c2 ?_
  rw [notK_i]
  refine condK_bb (fun e=>⟨rfl,by omega,by simpa using e⟩) fun e=>out fun e'=>?_
  rw [e'] at e
  cases e
 rintro _ _ ⟨rfl,hm,rfl⟩ _
 rename World=>W1
 have hll:l.length≤b.length:=by
  have h1:=congrArg List.length (hL.sound rfl).2
  have h2:=flat_len_le encAt_pos l
  rw [List.length_append,List.length_drop] at h1
  omega
 refine hf W1 q _ hR hM ?_
 rintro v a q2 bad2 W2 hv hR2 hM2 hP
 subst hv
 have s2:=hM2.size
 have nc:∀ g,ov.ownBlock=some g→W.heap.size≤g∧g < W1.heap.size:=fun g hg=>OwnR.ownB ho g hg
 have ho2:OwnR W.heap.size 61 5 RAttr W2 ov l:=OwnR.mod ho hM2 (fun g hg e=>by have:=(nc g hg).1;omega) fun _ _ _ h=>h
 refine push_g (cs:=a.cells) (x:=a) elem_attr ho2 (by omega) (by kernel_rfl) rfl rfl (fun _ _ _=>RAttr.one) (fun _ _ _ _ _ _ h=>h) (by omega) (by simp only [maxLen];omega) fun v3 W3 o3 m3 own3=>?_
 have hR3:=hR2.mod m3 fun z hz e=>by have:=(nc z e).1;omega
 have hM3:Mod (fun z=>z=c) W W3:=(hM.trans hM2).next m3 fun z hz e=>by have:=(nc z e).1;omega
 rw [subK_i,wrapu64 ⟨by omega,by omega⟩,show ((m:Int) - 1)=((m - 1:Nat):Int) by omega]
 exact ⟨⟨l++[a],q2,bad2,m - 1,v3,rfl,hL.snoc pf_attr (by omega) hP,by rw [List.length_append,List.length_singleton];omega,hR3,o3,hM3,by rw [List.length_append,List.length_singleton];omega⟩,by rw [iOf1,iOf1];omega⟩
theorem rdsev_chg (h:RdS S W c bv b p bad) {fv:Value} (hf:∀ W' p' (K:Cont),RdS S W' c bv b p' false→Mod (fun z=>z=c) W W'→(∀ v (a:Chg) q bad1 W'',v=.agg a.cells.toArray→RdS S W'' c bv b q bad1→Mod (fun z=>z=c) W' W''→RdP encCh RepC b p' false a q bad1→K v W'')→callyK Tryz.prog okf fv [] K W') :
  callK Tryz.prog 66 [.pointer (some ⟨c,0,none⟩),fv] (fun v w'=>∃ (l:List Chg) (q:Nat) (bad1:Bool),OwnR W.heap.size 63 6 RChg w' v l∧l.length≤b.length+1∧RdS S w' c bv b q bad1∧Mod (fun z=>z=c) W w'∧RdP (encM encCh) (RepM RepC) b p bad l q bad1) W:=by
 apply S66_ok
 unfold S66
 have hclt:=h.lt
 have hl':b.length≤1099511627776:=by omega
 obtain ⟨a,n,ebv,_⟩:=h.row.shape
 refine nilckK_s ?_
 rw [faK_i,addr0]
 refine ld1K_i h.c0 ?_
 have hlen:∀ {k:Value→Prop},k (.int .i64 b.length)→lenK bv k:=fun {k} hk=>by subst ebv;rw [lenK_i];exact hk
 refine hlen (conv_64 (by omega) ?_)
 refine callK_mono (upto_ok hb hl' (most:=b.length) h (by omega)) ?_
 rintro _ w1 ⟨n0,p1,badn,rfl,hn0,h1,m1,rn⟩
 refine LoopK_i (fun vs W1=>∃ (l:List Chg) (q:Nat) (bad1:Bool) (m:Nat) (ov:Value),vs=[ov,.int .u64 m]∧RdL encCh RepC b p1 badn n0 l q bad1∧l.length+m=n0∧RdS S W1 c bv b q bad1∧OwnR W.heap.size 63 6 RChg W1 ov l∧Mod (fun z=>z=c) W W1∧l.length≤b.length+1) (fun vs _=>iOf vs 1)
  ⟨[],p1,badn,n0,.slice none 0 0,rfl,RdL.nil h1.len,by simp,h1,OwnR.nil,m1,by simp⟩ ?_
 rintro vs W1 ⟨l,q,bad1,m,ov,rfl,hL,hlm,hR,ho,hM,hb1⟩ _
 simp only [nth_s,nth_z,List.headD_cons,List.tail_cons]
 have s1:=hM.size
 refine JoinK_i (fun _ W'=>W'=W1∧0 < m∧bad1=false) ?_ ?_
 rotate_left
 ·have out:(bad1=false→l.length=n0)→∃ (l:List Chg) (q:Nat) (bad1:Bool),OwnR W.heap.size 63 6 RChg W1 ov l∧l.length≤b.length+1∧RdS S W1 c bv b q bad1∧Mod (fun z=>z=c) W W1∧RdP (encM encCh) (RepM RepC) b p bad l q bad1:=fun e=>
   ⟨l,q,bad1,ho,hb1,hR,hM,RdL.done encCh_pos (by omega) rn hL e (Nat.le_refl _) (by omega)⟩
  rw [gtK_i]
  refine condK_p (fun hm=>?_) fun hm=>out fun _=>by omega
  refine nilckK_s ?_
  rw [faK_i,addr0]
  refine ld1K_i hR.c2 ?_
  rw [notK_i]
  refine condK_bb (fun e=>⟨rfl,by omega,by simpa using e⟩) fun e=>out fun e'=>?_
  rw [e'] at e
  cases e
 rintro _ _ ⟨rfl,hm,rfl⟩ _
 rename World=>W1
 have hll:l.length≤b.length:=by
  have h1:=congrArg List.length (hL.sound rfl).2
  have h2:=flat_len_le encCh_pos l
  rw [List.length_append,List.length_drop] at h1
  omega
 refine hf W1 q _ hR hM ?_
 rintro v a q2 bad2 W2 hv hR2 hM2 hP
 subst hv
 have s2:=hM2.size
 have nc:∀ g,ov.ownBlock=some g→W.heap.size≤g∧g < W1.heap.size:=fun g hg=>OwnR.ownB ho g hg
 have ho2:OwnR W.heap.size 63 6 RChg W2 ov l:=OwnR.mod ho hM2 (fun g hg e=>by have:=(nc g hg).1;omega) fun _ _ _ h=>h
 refine push_g (cs:=a.cells) (x:=a) elem_chg ho2 (by omega) (by kernel_rfl) rfl rfl (fun _ _ _=>RChg.one) (fun _ _ _ _ _ _ h=>h) (by omega) (by simp only [maxLen];omega) fun v3 W3 o3 m3 own3=>?_
 have hR3:=hR2.mod m3 fun z hz e=>by have:=(nc z e).1;omega
 have hM3:Mod (fun z=>z=c) W W3:=(hM.trans hM2).next m3 fun z hz e=>by have:=(nc z e).1;omega
 rw [subK_i,wrapu64 ⟨by omega,by omega⟩,show ((m:Int) - 1)=((m - 1:Nat):Int) by omega]
 exact ⟨⟨l++[a],q2,bad2,m - 1,v3,rfl,hL.snoc pf_chg (by omega) hP,by rw [List.length_append,List.length_singleton];omega,hR3,o3,hM3,by rw [List.length_append,List.length_singleton];omega⟩,by rw [iOf1,iOf1];omega⟩
theorem rdsev_op (h:RdS S W c bv b p bad) {fv:Value} (hf:∀ W' p' (K:Cont),RdS S W' c bv b p' false→Mod (fun z=>z=c) W W'→(∀ v (r:List Value) (o:Dop) q bad1 W'',v=.agg r.toArray∧RDop (fun z=>W'.heap.size≤z) W'' r o→RdS S W'' c bv b q bad1→Mod (fun z=>z=c) W' W''→RdP encOp RepO b p' false o q bad1→K v W'')→callyK Tryz.prog okf fv [] K W') :
  callK Tryz.prog 29 [.pointer (some ⟨c,0,none⟩),fv] (fun v w'=>∃ (l:List Dop) (q:Nat) (bad1:Bool),OwnR W.heap.size 56 5 (RApart (fun z=>W.heap.size≤z) v) w' v l∧l.length≤b.length+1∧RdS S w' c bv b q bad1∧Mod (fun z=>z=c) W w'∧RdP (encM encOp) (RepM RepO) b p bad l q bad1) W:=by
 apply S29_ok
 unfold S29
 have hclt:=h.lt
 have hl':b.length≤1099511627776:=by omega
 obtain ⟨a,n,ebv,_⟩:=h.row.shape
 refine nilckK_s ?_
 rw [faK_i,addr0]
 refine ld1K_i h.c0 ?_
 have hlen:∀ {k:Value→Prop},k (.int .i64 b.length)→lenK bv k:=fun {k} hk=>by subst ebv;rw [lenK_i];exact hk
 refine hlen (conv_64 (by omega) ?_)
 refine callK_mono (upto_ok hb hl' (most:=b.length) h (by omega)) ?_
 rintro _ w1 ⟨n0,p1,badn,rfl,hn0,h1,m1,rn⟩
 refine LoopK_i (fun vs W1=>∃ (l:List Dop) (q:Nat) (bad1:Bool) (m:Nat) (ov:Value),vs=[ov,.int .u64 m]∧RdL encOp RepO b p1 badn n0 l q bad1∧l.length+m=n0∧RdS S W1 c bv b q bad1∧OwnR W.heap.size 56 5 (RApart (fun z=>W.heap.size≤z) ov) W1 ov l∧Mod (fun z=>z=c) W W1∧l.length≤b.length+1) (fun vs _=>iOf vs 1)
  ⟨[],p1,badn,n0,.slice none 0 0,rfl,RdL.nil h1.len,by simp,h1,OwnR.nil,m1,by simp⟩ ?_
 rintro vs W1 ⟨l,q,bad1,m,ov,rfl,hL,hlm,hR,ho,hM,hb1⟩ _
 simp only [nth_s,nth_z,List.headD_cons,List.tail_cons]
 have s1:=hM.size
 refine JoinK_i (fun _ W'=>W'=W1∧0 < m∧bad1=false) ?_ ?_
 rotate_left
 ·have out:(bad1=false→l.length=n0)→∃ (l:List Dop) (q:Nat) (bad1:Bool),OwnR W.heap.size 56 5 (RApart (fun z=>W.heap.size≤z) ov) W1 ov l∧l.length≤b.length+1∧RdS S W1 c bv b q bad1∧Mod (fun z=>z=c) W W1∧RdP (encM encOp) (RepM RepO) b p bad l q bad1:=fun e=>
   ⟨l,q,bad1,ho,hb1,hR,hM,RdL.done encOp_pos (by omega) rn hL e (Nat.le_refl _) (by omega)⟩
  rw [gtK_i]
  refine condK_p (fun hm=>?_) fun hm=>out fun _=>by omega
  refine nilckK_s ?_
  rw [faK_i,addr0]
  refine ld1K_i hR.c2 ?_
  rw [notK_i]
  refine condK_bb (fun e=>⟨rfl,by omega,by simpa using e⟩) fun e=>out fun e'=>?_
  rw [e'] at e
  cases e
 rintro _ _ ⟨rfl,hm,rfl⟩ _
 rename World=>W1
 have hll:l.length≤b.length:=by
  have h1:=congrArg List.length (hL.sound rfl).2
  have h2:=flat_len_le encOp_pos l
  rw [List.length_append,List.length_drop] at h1
  omega
 refine hf W1 q _ hR hM ?_
 rintro v r o q2 bad2 W2 hv hR2 hM2 hP
 obtain ⟨rfl,hv⟩:=hv
 have sh:=hv
 obtain ⟨rv,sv,pv,rfl,r1,r2,r3⟩:=sh
 obtain ⟨a1,c1,rfl,_⟩:=r1.shape
 obtain ⟨a2,c2,rfl,_⟩:=r2.shape
 obtain ⟨a3,c3,rfl,_⟩:=r3.shape
 have s2:=hM2.size
 have nc:∀ g,ov.ownBlock=some g→W.heap.size≤g∧g < W1.heap.size:=fun g hg=>OwnR.ownB ho g hg
 have ho2:OwnR W.heap.size 56 5 (RDop fun z=>z < W2.heap.size∧ov.ownBlock≠some z∧W.heap.size≤z) W2 ov l:=OwnR.mod ho hM2 (fun g hg e=>by have:=(nc g hg).1;omega) fun r y _ hy=>RDop.mod hy hM2 (fun z _ hd e=>by have:=hd.2;omega) fun z hz hd=>⟨by omega,hd⟩
 have hv2:=RDop.mod hv (Mod.refl (fun _=>False) _) (D':=fun z=>z < W2.heap.size∧ov.ownBlock≠some z∧W.heap.size≤z) (fun _ _ _ h=>h) fun z hz hd=>⟨hz,fun e=>by have:=(nc z e).2;omega,by omega⟩
 refine push_g (cs:=[.int .u8 o.kind,.int .i64 o.n,_,_,_]) (x:=o) elem_dop ho2 (by omega) (by kernel_rfl) rfl hv2 (fun _ _ _=>RDop.one) (fun w1 w2 r y hz m hy=>RDop.mod hy m (fun z _ hd e=>by
   rcases e with e | e
   ·exact hd.2.1 e
   ·have:=hd.1;omega) fun _ _ h=>h) (by omega) (by simp only [maxLen];omega) fun v3 W3 o3 m3 own3=>?_
 have hR3:=hR2.mod m3 fun z hz e=>by have:=(nc z e).1;omega
 have hM3:Mod (fun z=>z=c) W W3:=(hM.trans hM2).next m3 fun z hz e=>by have:=(nc z e).1;omega
 rw [subK_i,wrapu64 ⟨by omega,by omega⟩,show ((m:Int) - 1)=((m - 1:Nat):Int) by omega]
 exact ⟨⟨l++[o],q2,bad2,m - 1,v3,rfl,hL.snoc (pf_op (by decide)) (by omega) hP,by rw [List.length_append,List.length_singleton];omega,hR3,apart_push o3 own3,hM3,by rw [List.length_append,List.length_singleton];omega⟩,by rw [iOf1,iOf1];omega⟩
theorem rdop_ok (h:RdS S W c bv b p bad) (hT:Tabs W) (hc3:2≤c) :
  callK Tryz.prog 30 [.pointer (some ⟨c,0,none⟩)] (fun v w'=>∃ (r:List Value) (o:Dop) (q:Nat) (bad1:Bool),(v=.agg r.toArray∧RDop (fun z=>W.heap.size≤z) w' r o)∧RdS S w' c bv b q bad1∧Mod (fun z=>z=c) W w'∧RdP encOp RepO b p bad o q bad1) W:=by
 apply S30_ok
 unfold S30
 have hl':b.length≤1099511627776:=by omega
 have hclt:=h.lt
 refine BoxN.new fun g w1 hg hz g1 b1=>?_
 refine callK_mono (upto_ok hb hl' (most:=255) (h.grow g1) (by decide)) ?_
 rintro _ w2 ⟨k,q2,bad2,rfl,hk,h2,m2,r2⟩
 refine conv_u8n hk ?_
 refine ⟨(row5 ⟨k,0,[],[],[]⟩ (.slice none 0 0) (.slice none 0 0) (.slice none 0 0)).toArray,by kernel_rfl,?_⟩
 have s1:=g1.size
 have s2:=m2.size
 refine newst_n (n:=5) (vs:=row5 ⟨k,0,[],[],[]⟩ (.slice none 0 0) (.slice none 0 0) (.slice none 0 0)) rfl rfl (by simp [row5,Value.oneCell']) fun g3 w3 hg3 hz3 gr3 hcc3 hl3=>?_
 have b3:BoxN w3 g3 (row5 ⟨k,0,[],[],[]⟩ (.slice none 0 0) (.slice none 0 0) (.slice none 0 0)):=⟨fun j u hu=>by have:=hcc3 j u hu;rwa [addr0] at this,fun j hj=>by have:=hl3 j hj;rwa [addr0] at this⟩
 have h3:=h2.grow gr3
 have bx:=(b1.mod m2 (by omega)).mod gr3 fun h=>h
 have m03:Mod (fun z=>z=c) W w3:=((g1.mono fun _ _ e=>e.elim).trans m2).trans (gr3.mono fun _ _ e=>e.elim)
 have s3:=gr3.size
 refine JoinK_i (fun _ W3=>∃ (rv sv pv:Value) (o:Dop) (q:Nat) (bad1:Bool),BoxN W3 g3 [.int .u8 o.kind,.int .i64 o.n,rv,sv,pv]∧BoxN W3 g [.int .u8 0,.int .i64 0,.slice none 0 0,.slice none 0 0,.slice none 0 0]∧(RRun (fun z=>W.heap.size≤z∧z≠g∧z≠g3) W3 rv o.runes∧RSet (fun z=>W.heap.size≤z∧z≠g∧z≠g3) W3 sv o.set∧RPat (fun z=>W.heap.size≤z∧z≠g∧z≠g3) W3 pv o.patch)∧RdS S W3 c bv b q bad1∧Mod (fun z=>z=c) W W3∧RdO 536870912 k b q2 bad2 o q bad1) ?_ ?_
 ·rintro _ W3 ⟨rv,sv,pv,o,q,bad1,b4,bx4,⟨d1,d2,d3⟩,h4,m4,r4⟩ _
  have hD:RDop (fun z=>W.heap.size≤z∧z≠g∧z≠g3) W3 [.int .u8 o.kind,.int .i64 o.n,rv,sv,pv] o:=⟨rv,sv,pv,rfl,d1,d2,d3⟩
  refine b4.ld (n:=5) rfl ?_
  refine bx4.stn (n:=5) (us:=[.int .u8 o.kind,.int .i64 o.n,rv,sv,pv]) rfl rfl hD.one fun W5 b5 m5=>?_
  refine b5.ld (n:=5) rfl ⟨_,o,q,bad1,⟨rfl,hD.mod m5 (fun z _ hz e=>hz.2.1 e) fun z _ hz=>hz.1⟩,h4.mod m5 fun z hz e=>by omega,m4.next m5 fun z hz e=>by omega,RdP.op r2 r4⟩
 ·have c0:w3.cell? ⟨g3,0,none⟩=some (.int .u8 k):=b3.cells 0 _ rfl
  rw [faK_i,addr0]
  refine ld1K_i c0 ?_
  rw [eqK_i]
  refine condK_p (fun e=>?_) fun n1=>?_
  ·have ek:k=1:=by omega
   subst ek
   refine callK_mono (rlen_ok hb hl' h3) ?_
   rintro _ w4 ⟨n,q4,bad4,rfl,hn,h4,m4,r4⟩
   refine (b3.mod m4 (by omega)).st (by simp [row5]) rfl rfl fun w5 b5 m5=>?_
   have h5:=h4.mod m5 fun z hz e=>by omega
   have m05:Mod (fun z=>z=c) W w5:=(m03.trans m4).next m5 fun z hz e=>by omega
   have s5:=(m4.size)
   have s5':=m5.size
   refine callK_mono (rdsev_chg hb hl h5 fun W' p' K hR' _ hK=>callyK_g (bs:=[_]) (cs:=[]) (by kernel_rfl) (callK_mono (rdchg_ok hb hl hR') fun v w' ⟨a,q,bad1,e1,e2,e3,e4⟩=>hK v a q bad1 w' e1 e2 e3 e4)) ?_
   rintro pv w6 ⟨l,q6,bad6,o6,hll,h6,m6,r6⟩
   have one:=OwnR.one o6
   refine ((b5.mod m6 (by omega))).st (by simp [row5]) one.1 one.2 fun w7 b7 m7=>?_
   have bx7:=(((bx.mod m4 (by omega)).mod m5 (by omega)).mod m6 (by omega)).mod m7 (by omega)
   refine ⟨.slice none 0 0,.slice none 0 0,pv,⟨1,n,[],[],l⟩,q6,bad6,b7,bx7,⟨SlR.nil,SlR.nil,?_⟩,h6.mod m7 fun z hz e=>by omega,(m05.trans m6).next m7 fun z hz e=>by omega,RdO.retain (by decide) r4 r6⟩
   exact (SlR.sub (OwnR.sl o6) (S':=fun z=>W.heap.size≤z∧z≠g∧z≠g3) (fun z _ hz=>⟨by have:=hz.1;omega,by have:=hz.1;omega,by have:=hz.1;omega⟩) (by decide) fun _ _ h=>h).mod m7 (fun z _ hz e=>hz.2.2 e) (by decide) fun _ _ h=>h
  rw [eqK_i]
  refine condK_p (fun e=>?_) fun n2=>?_
  ·have ek:k=2:=by omega
   subst ek
   refine callK_mono (rbs_ok hb hl' h3) ?_
   rintro xv w4 ⟨x,q4,bad4,rx,hx,hxl,h4,m4,r4⟩
   have hT4:Tabs w4:=(((hT.grow g1).mod2 m2 fun z hz e=>by omega).grow gr3).mod2 m4 fun z hz e=>by omega
   refine callK_mono (runes_ok rx hx hT4 (by omega)) ?_
   rintro v5 w5 ⟨g5,hm⟩
   have s4:=m4.size
   have s5:=g5.size
   have hread:∃ (sl:Value) (rl:List Int) (e:Int),v5=.tuple #[sl,.int .i64 e]∧OwnR w4.heap.size 21 1 RRune w5 sl rl∧((e=0∧RdP encT RepT b q2 bad2 rl q4 bad4)∨(e≠0∧RdP encT RepT b q2 bad2 rl q4 true)):=by
    cases hr:readB x with
    | some rl=>
     rw [hr] at hm
     obtain ⟨sl,e1,osl⟩:=hm
     exact ⟨sl,rl,0,e1,osl,.inl ⟨rfl,RdP.text hx r4 hr⟩⟩
    | none=>
     rw [hr] at hm
     exact ⟨_,[],3,hm,OwnR.nil,.inr ⟨by decide,RdP.text_bad r4 hr⟩⟩
   obtain ⟨sl,rl,e5,rfl,osl,hcase⟩:=hread
   refine extK_i (vs:=[_,_]) rfl (extK_i (vs:=[_,_]) rfl ?_)
   have h5:=h4.grow g5
   refine JoinK_i (fun _ W'=>∃ badx:Bool,RdS S W' c bv b q4 badx∧Mod (fun z=>z=c) w5 W'∧RdP encT RepT b q2 bad2 rl q4 badx) ?_ ?_
   rotate_left
   ·rw [neK_i]
    rcases hcase with ⟨rfl,r5⟩ | ⟨hne,r5⟩
    ·exact condK_neg (fun _=>⟨bad4,h5,Mod.refl _ _,r5⟩) fun e=>(e rfl).elim
    ·exact condK_neg (fun e=>(hne e).elim) fun _=>h5.bads fun w6 h6 m6=>⟨true,h6,m6,r5⟩
   rintro _ w6 ⟨badx,h6,m6,r6⟩ _
   have s6:=m6.size
   refine callK_mono (rdsev_attr hb hl h6 fun W' p' K hR' _ hK=>callyK_g (bs:=[_]) (cs:=[]) (by kernel_rfl) (callK_mono (rdattr_ok hb hl hR') fun v w' ⟨a,q,bad1,e1,e2,e3,e4⟩=>hK v a q bad1 w' e1 e2 e3 e4)) ?_
   rintro sv w7 ⟨l,q7,bad7,o7,hll,h7,m7,r7⟩
   have s7:=m7.size
   have one1:=OwnR.one osl
   have one2:=OwnR.one o7
   have b7:=(((b3.mod m4 (by omega)).mod g5 fun h=>h).mod m6 (by omega)).mod m7 (by omega)
   have bx7:=(((bx.mod m4 (by omega)).mod g5 fun h=>h).mod m6 (by omega)).mod m7 (by omega)
   have osl7:=(OwnR.mod (R':=RRune) osl (m6.trans m7) (fun z hz e=>by have:=(OwnR.ownB osl z hz).1;omega) fun _ _ _ h=>h)
   have m07:Mod (fun z=>z=c) W w7:=((m03.trans m4).trans (g5.mono fun _ _ e=>e.elim)).trans (m6.trans m7)
   refine b7.st (by simp [row5]) one1.1 one1.2 fun w8 b8 m8=>?_
   refine b8.st (by simp [row5]) one2.1 one2.2 fun w9 b9 m9=>?_
   have m79:=m8.trans m9
   refine ⟨sl,sv,.slice none 0 0,⟨2,0,rl,l,[]⟩,q7,bad7,b9,bx7.mod m79 (by omega),⟨?_,?_,SlR.nil⟩,h7.mod m79 fun z hz e=>by omega,m07.next m79 fun z hz e=>by omega,RdO.insert r6 r7⟩
   ·exact (SlR.sub (OwnR.sl osl7) (S':=fun z=>W.heap.size≤z∧z≠g∧z≠g3) (fun z _ hz=>⟨by have:=hz.1;omega,by have:=hz.1;omega,by have:=hz.1;omega⟩) (by decide) fun _ _ h=>h).mod m79 (fun z _ hz e=>hz.2.2 e) (by decide) fun _ _ h=>h
   ·exact (SlR.sub (OwnR.sl o7) (S':=fun z=>W.heap.size≤z∧z≠g∧z≠g3) (fun z _ hz=>⟨by have:=hz.1;omega,by have:=hz.1;omega,by have:=hz.1;omega⟩) (by decide) fun _ _ h=>h).mod m79 (fun z _ hz e=>hz.2.2 e) (by decide) fun _ _ h=>h
  rw [eqK_i]
  refine condK_p (fun e=>?_) fun n3=>?_
  ·have ek:k=3:=by omega
   subst ek
   refine callK_mono (rlen_ok hb hl' h3) ?_
   rintro _ w4 ⟨n,q4,bad4,rfl,hn,h4,m4,r4⟩
   refine (b3.mod m4 (by omega)).st (by simp [row5]) rfl rfl fun w5 b5 m5=>?_
   refine ⟨.slice none 0 0,.slice none 0 0,.slice none 0 0,⟨3,n,[],[],[]⟩,q4,bad4,b5,(bx.mod m4 (by omega)).mod m5 (by omega),⟨SlR.nil,SlR.nil,SlR.nil⟩,h4.mod m5 fun z hz e=>by omega,(m03.trans m4).next m5 fun z hz e=>by omega,RdO.delete r4⟩
  ·refine h3.bads fun w4 h4 m4=>?_
   exact ⟨.slice none 0 0,.slice none 0 0,.slice none 0 0,⟨k,0,[],[],[]⟩,q2,true,b3.mod m4 (by omega),bx.mod m4 (by omega),⟨SlR.nil,SlR.nil,SlR.nil⟩,h4,m03.trans m4,RdO.bads h2.len (by omega)⟩
end
end Go.Proofs.YtgmpbihbdbmhoaaGreatDoor

namespace Go.Proofs.YtgmpbihbdbmhoaaGreatDoor
open Go Go.K

theorem encode_ok {E S D:Nat→Prop} {sv xv:Value} {ks:List DKey} {x:List Dop} {w:World} (hS:SchR E w sv ks) (h:RDops S D w xv x) (hT:Tabs w) (hB:∀ o ∈ x,InB o) (hK:∀ k ∈ ks,0≤k.id) (hb:mDops x≤1048576) :
  callK Tryz.prog 9 [sv,xv] (fun v' w'=>Grow w w'∧∃ bv,v'=.tuple #[bv,.int .i64 (mayOps ks x)]∧(mayOps ks x=0→OBytes w.heap.size w' bv (encL (normB x)))∧(mayOps ks x≠0→bv=.slice none 0 0)) w:=by
 apply S9_ok
 unfold S9
 refine callK_mono (maypo_ok hS h hT fun o ho=>(hB o ho).o) ?_
 rintro _ w1 ⟨rfl,g1⟩
 rw [neK_i]
 refine condK_neg (fun e=>?_) fun e=>?_
 rotate_left
 ·exact ⟨g1,.slice none 0 0,rfl,fun e'=>(e e').elim,fun _=>rfl⟩
 refine ⟨#[.slice none 0 0],by kernel_rfl,?_⟩
 refine boxn_i (vs:=[.slice none 0 0]) fun c w2 hc hz g2 hcell hlive=>?_
 refine callK_mono (of_dops ((h.grow g1).grow g2) (by omega)) ?_
 rintro xv3 w3 ⟨ho3,g3⟩
 have hx3:=ho3.reads
 have hlen:=mDops_len x
 obtain ⟨_,_,hRep,_,_⟩:=norm_may hK e hB (by omega)
 have hmm:=normB_mm x
 have c3:w3.cell? ⟨c,0,none⟩=some (.slice none 0 0):=g3.cell (by have:=hcell 0 _ rfl;rwa [addr0] at this) fun h=>h
 have l3:Live w3 ⟨c,0,none⟩:=Live.mod (by have:=hlive 0 (by simp);rwa [addr0] at this) g3 fun h=>h
 have hw:WrI (fun z=>z=c∨w3.heap.size≤z) w3 c []:=⟨⟨_,c3,OwnR.nil,fun g hg=>(nomatch hg)⟩,l3,.inl rfl,fun z hz=>.inr hz⟩
 have sep:∀ z,(w2.heap.size≤z∧z < w3.heap.size)→¬ (z=c∨w3.heap.size≤z):=fun z hz e=>by omega
 have hel:=encL_len (normB x)
 refine callK_mono (wlist_op hw hx3 (fun W' r a m hr=>hr.mod m (fun z _ hz=>sep z hz) fun _ _ h=>h) sep (by simp) fun i hi W' r l' hw' m hr hl' K hK'=>?_) ?_
 ·have hmo:=mDops_mem (List.getElem_mem hi)
  have hfl:((normB x).flatMap encOp).length≤60 * mDops (normB x):=flat_sum encOp_len _
  rw [List.length_nil] at hl'
  exact callyK_g (bs:=[_]) (cs:=[]) (by kernel_rfl) (callK_mono (wop_ok hw' hr sep (hRep.2 _ (List.getElem_mem hi)) (by omega)) hK')
 ·rintro _ w4 ⟨h4,m4⟩
  obtain ⟨bv,hb4,ob4,own4⟩:=h4.ex
  refine nilckK_s ?_
  rw [faK_i,addr0]
  refine ld1K_i hb4 ?_
  have g13:=(g1.trans g2).trans g3
  have s1:=g1.size
  have s3:=(g1.trans g2).size
  have s4:=g3.size
  rw [List.nil_append] at ob4
  refine ⟨g13.next m4 fun z hz e=>by omega,bv,by rw [e],fun _=>ob4.base fun g hg=>?_,fun hn=>(hn e).elim⟩
  rcases (own4 g hg).1 with e' | e' <;> omega
end Go.Proofs.YtgmpbihbdbmhoaaGreatDoor

namespace Go.Proofs.YtgmpbihbdbmhoaaGreatDoor
open Go Go.K

theorem encV_size (v:AVal):(if v.kind=4 then v.s.size else 0)≤(encV v).length:=by
 unfold encV
 rw [List.length_append]
 split
 ·rename_i h;simp only [h,show ¬ ((4:Int)=1∨(4:Int)=2) by decide,show ¬ (4:Int)=3 by decide,if_false,if_true,List.length_append,bytesL_len];omega
 ·omega
theorem RepV.size {v:AVal} (h:RepV v):v.s.size≤(encV v).length:=by
 have:=encV_size v
 rcases h with ⟨_,_,_,h⟩ | ⟨_,_,_,h⟩ | ⟨h,_⟩
 ·rw [h];exact Nat.zero_le _
 ·rw [h];exact Nat.zero_le _
 ·rw [if_pos h] at this;exact this
theorem sum_flat {α:Type} {f:α→List Int} {m:α→Nat} {R:α→Prop} (h:∀ a,R a→m a≤(f a).length):∀ l:List α,(∀ a ∈ l,R a)→(l.map m).sum≤(l.flatMap f).length:=by
 intro l
 induction l with
 | nil=>simp
 | cons a l ih=>
  intro hl
  have h1:=h a (hl a (by simp))
  have h2:=ih fun x hx=>hl x (by simp [hx])
  simp only [List.flatMap_cons,List.length_append,List.map_cons,List.sum_cons];omega
theorem RepA.size {a:Attr} (h:RepA a):mAttr a≤(encAt a).length:=by
 have h1:=uv_pos a.key.toNat
 have h2:=h.2.size
 unfold encAt mAttr;rw [List.length_append];omega
theorem RepC.size {a:Chg} (h:RepC a):mChg a≤(encCh a).length:=by
 have h1:=uv_pos a.key.toNat
 unfold encCh mChg;rw [List.length_append]
 rcases h.2 with ⟨hg,hz⟩ | ⟨hg,hv⟩
 ·rw [hz]
  have:AVal.zero.s.size=0:=rfl
  omega
 ·have:=hv.size
  rw [hg]
  simp only [Bool.false_eq_true,if_false];omega
theorem runes_len (l:List Int):l.length≤(textR l).length:=flat_len_le (fun r=>(oneB_len r).1) l
theorem RepO.size {m:Int} {o:Dop} (h:RepOm m o):mDop o≤(encOp o).length:=by
 have h1:=uv_pos o.kind.toNat
 unfold mDop
 have hs:=sum_flat (m:=mAttr) (fun a (h:RepA a)=>h.size) o.set
 have hp:=sum_flat (m:=mChg) (fun a (h:RepC a)=>h.size) o.patch
 have e1:(o.set.map mAttr).sum=mSet o.set:=rfl
 have e2:(o.patch.map mChg).sum=mPat o.patch:=rfl
 have hr:=runes_len o.runes
 unfold encOp
 rw [List.length_append]
 rcases h with ⟨h1,h2,h3,h4,h5⟩ | ⟨h1,h2,h3,h4,h5,h6⟩ | ⟨h1,h2,h3,h4,h5⟩
 ·have:=hp h5.2
  rw [if_pos h1,h3,h4]
  unfold encM
  simp only [List.length_append,List.length_nil,mSet,List.map_nil,List.sum_nil] at *;omega
 ·have:=hs h5.2
  rw [if_neg (by omega),if_pos h1,h6]
  unfold encM encX
  simp only [List.length_append,List.length_nil,mPat,List.map_nil,List.sum_nil] at *;omega
 ·rw [h3,h4,h5]
  simp only [List.length_nil,mSet,mPat,List.map_nil,List.sum_nil];omega
theorem encL_size {m:Int} {x:List Dop} (h:RepM (RepOm m) x):mDops x≤(encL x).length:=by
 have h1:=sum_flat (m:=mDop) (fun a (h:RepOm m a)=>RepO.size h) x h.2
 have e1:(x.map mDop).sum=mDops x:=rfl
 unfold encL encM
 rw [List.length_append];omega
theorem RepV.inv {v:AVal} (h:RepV v):InVB v:=by
 unfold InVB
 rcases h with ⟨_,h,hf,_⟩ | ⟨_,hn,h,_⟩ | ⟨_,hn,hf,_⟩
 ·exact ⟨h,by rw [hf];omega,by rw [hf];omega⟩
 ·exact ⟨⟨by omega,by omega⟩,h⟩
 ·exact ⟨⟨by omega,by omega⟩,by rw [hf];omega,by rw [hf];omega⟩
theorem RepO.inb {o:Dop} (h:RepO o):InB o:=by
 have k63:∀ k,Key63 k→k≤9223372036854775807:=fun k hk=>by unfold Key63 at hk;omega
 have hz:InVB AVal.zero:=⟨⟨by decide,by decide⟩,by decide,by decide⟩
 rcases h with ⟨h1,h2,h3,h4,h5⟩ | ⟨h1,h2,h3,h4,h5,h6⟩ | ⟨h1,h2,h3,h4,h5⟩
 ·refine ⟨by rw [h4];simp,fun c hc=>?_⟩
  have:=h5.2 c hc
  refine ⟨k63 _ this.1,?_⟩
  rcases this.2 with ⟨_,e⟩ | ⟨_,e⟩
  ·rw [e];exact hz
  ·exact e.inv
 ·refine ⟨fun a ha=>?_,by rw [h6];simp⟩
  have:=h5.2 a ha
  exact ⟨k63 _ this.1,this.2.inv⟩
 ·exact ⟨by rw [h4];simp,by rw [h5];simp⟩
theorem decode_ok {E S:Nat→Prop} {sv bv:Value} {ks:List DKey} {b:List Int} {w:World} (hS:SchR E w sv ks) (h:RBytes S w bv b) (hb:∀ x ∈ b,0≤x∧x < 256) (hT:Tabs w) (hl:b.length≤1048576) :
  callK Tryz.prog 12 [sv,bv] (fun v' w'=>Grow w w'∧∃ xv,v'=.tuple #[xv,.int .i64 (decB ks b).2]∧RDops (fun z=>w.heap.size≤z) (fun z=>w.heap.size≤z) w' xv (decB ks b).1) w:=by
 apply S12_ok
 unfold S12
 have hsh:=h.shape
 obtain ⟨a,n,ebv,_⟩:=hsh
 refine ⟨#[bv,.int .i64 0,.bool false],by subst ebv;kernel_rfl,?_⟩
 refine boxn_i (vs:=[bv,.int .i64 0,.bool false]) fun c w1 hc hz g1 hcell hlive=>?_
 have k1:∀ j u,[bv,.int .i64 0,.bool false][j]?=some u→w1.cell? ⟨c,j,none⟩=some u:=fun j u hu=>by have:=hcell j u hu;rwa [addr0] at this
 have k2:∀ j,j < 3→Live w1 ⟨c,j,none⟩:=fun j hj=>by have:=hlive j (by simpa using hj);rwa [addr0] at this
 have hr:RdS (fun z=>z < w.heap.size) w1 c bv b 0 false:=
  ⟨k1 0 _ rfl,k1 1 _ rfl,k1 2 _ rfl,k2 1 (by decide),k2 2 (by decide),h.mono (fun z hz _=>hz) (fun z hz _=>g1.same z hz fun h=>h) (by decide) fun _ _ h=>h,fun z hz=>by omega,Nat.zero_le _⟩
 have hT1:=hT.grow g1
 have hc2:2≤c:=by
  have h1:=hT.size
  have e:1=1:=rfl
  omega
 have hl':b.length≤1099511620000:=by omega
 refine callK_mono (rdsev_op hb hl' hr fun W' p' K hR' hm' hK=>callyK_g (bs:=[_]) (cs:=[]) (by kernel_rfl) (callK_mono (rdop_ok hb hl' hR' (hT1.mod2 hm' fun z hz e=>by omega) hc2) fun v w' ⟨r,o,q,bad1,e1,e2,e3,e4⟩=>hK v r o q bad1 w' e1 e2 e3 e4)) ?_
 rintro xv w2 ⟨x,q,bad,o2,hxl,h2,m2,r2⟩
 have s1:=g1.size
 have s2:=m2.size
 have g02:Grow w w2:=g1.next m2 fun z hz e=>by omega
 have hx2:RDops (fun z=>w.heap.size≤z) (fun z=>w.heap.size≤z) w2 xv x:=SlR.sub (OwnR.sl o2) (fun z _ hz=>by have:=hz.1;omega) (by decide) fun r y hy=>RDop.mod hy (Mod.refl (fun _=>False) _) (fun _ _ _ h=>h) fun z _ hz=>by have:=hz.2;omega
 have nil3:∀ {w3:World},Grow w w3→decB ks b=([],3)→Grow w w3∧∃ yv,(.tuple #[.slice none 0 0,.int .i64 3]:Value)=.tuple #[yv,.int .i64 (decB ks b).2]∧RDops (fun z=>w.heap.size≤z) (fun z=>w.heap.size≤z) w3 yv (decB ks b).1:=fun g e=>⟨g,_,by rw [e],by rw [e];exact SlR.nil⟩
 refine JoinK_i (fun _ W=>W=w2∧bad=false∧q=b.length) ?_ ?_
 ·rintro _ _ ⟨rfl,rfl,rfl⟩ _
  rename World=>w2
  obtain ⟨hrep,hd⟩:=r2.sound rfl
  rw [List.drop_zero,List.drop_length,List.append_nil] at hd
  have he:encL x=b:=hd.symm
  have hm:=encL_size hrep
  rw [he] at hm
  refine callK_mono (maypo_ok (hS.grow g02) hx2 (hT.grow g02) fun o ho=>(RepO.inb (hrep.2 o ho)).o) ?_
  rintro _ w3 ⟨rfl,g3⟩
  rw [eqK_i]
  refine condK_p (fun e=>?_) fun n3=>?_
  ·rw [e]
   refine nil3 (g02.trans g3) (decB_none fun y hy hey=>.inl ?_)
   rw [encL_inj hy hrep (hey.trans he.symm)];exact e
  refine callK_mono (is_dops (hx2.grow g3) (by omega)) ?_
  rintro _ w4 ⟨rfl,g4⟩
  have hln:=mDops_len x
  have hrof:=may_rof n3 (by omega)
  rw [notK_i]
  refine condK_bb (fun e=>?_) fun e=>?_
  ·refine nil3 ((g02.trans g3).trans g4) (decB_none fun y hy hey=>.inr ?_)
   rw [encL_inj hy hrep (hey.trans he.symm),←hrof]
   simpa using e
  have hfix:rof x=x:=by rw [←hrof];simpa using e
  have hdec:=decB_enc hrep n3 hfix
  rw [he] at hdec
  rw [neK_i]
  refine condK_neg (fun e0=>?_) fun e0=>?_
  ·rw [if_pos e0] at hdec
   rw [hdec]
   exact ⟨(g02.trans g3).trans g4,xv,rfl,(hx2.grow g3).grow g4⟩
  ·rw [if_neg e0] at hdec
   rw [hdec]
   exact ⟨(g02.trans g3).trans g4,_,rfl,SlR.nil⟩
 ·have no:¬ (bad=false∧q=b.length)→decB ks b=([],3):=fun hn=>decB_none fun y hy hey=>by
   have e0:b.drop 0=encM encOp y++[]:=by rw [List.drop_zero,List.append_nil];exact hey.symm
   have hb0:=r2.full rfl y [] hy e0
   obtain ⟨hrep,hd⟩:=r2.sound hb0
   rw [e0] at hd
   have:=(pf_ops y x [] _ hy hrep hd).2
   have hq:=congrArg List.length this
   rw [List.length_drop,List.length_nil] at hq
   have:=h2.len
   exact (hn ⟨hb0,by omega⟩).elim
  refine nilckK_s ?_
  rw [faK_i,addr0]
  refine ld1K_i h2.c2 ?_
  refine condK_bb (fun e=>nil3 g02 (no fun h=>by rw [h.1] at e;cases e)) fun e=>?_
  refine nilckK_s ?_
  rw [faK_i,addr0]
  refine ld1K_i h2.c1 ?_
  have hlen:∀ {k:Value→Prop},k (.int .i64 b.length)→lenK bv k:=fun {k} hk=>by subst ebv;rw [lenK_i];exact hk
  refine hlen ?_
  rw [neK_i]
  exact condK_neg (fun e'=>⟨rfl,e,by omega⟩) fun e'=>nil3 g02 (no fun h=>e' (by rw [h.2]))
end Go.Proofs.YtgmpbihbdbmhoaaGreatDoor
