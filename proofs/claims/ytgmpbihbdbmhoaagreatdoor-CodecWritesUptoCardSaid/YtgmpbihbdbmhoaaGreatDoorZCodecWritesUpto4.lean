/- Contract: whether bytes are UTF-8 (utf8.Valid): as the document reads. Conditions: the two tables lie in memory as they are laid. Plain laws: the map from the sets' texts to ids. Conditions: the numbers of the sets lie in their types. Contract: the runes of bytes (runes.Read): as the document reads. Conditions: the size; the two tables lie in memory as they are laid. By a program of ours: of each function below the predicate that its code comes to, and that it is sound. No conditions. Contracts: numbers and bytes in groups of seven bits (wire). Conditions: the sizes. By a program of ours: of each function below the predicate that its code comes to, and that it is sound. No conditions. Contracts: a delta in memory of its own. Conditions: the sizes. Contracts: slices.Grow of nothing, slices.Concat of two rows of ops. Conditions: the sizes. The maker of normal forms in memory; contracts: New, gap, Delete. Conditions: the sizes. Contract: the maker is told an insert. Conditions: the sizes; what is told lies apart from the maker. Contract: the maker is told a retain. Conditions: the sizes; what is told lies apart from the maker. Contracts: what a maker has made; a delta's normal form; whether it is normal. Conditions: the sizes. Contracts of the document's side: whether two deltas are the same. No conditions. Adding onto an empty row that has no room: the row itself stays. No conditions but the sizes. Contracts: the changes of block keys, or of inline ones; a cell with a patch on it. Conditions: the sizes. -/
import Derived.Test.YtgmpbihbdbmhoaaGreatDoorZCodecWritesUpto3
import Derived.Laws.BytesArg
import Derived.Laws.IdiomStrings
import Derived.MapKept
import Derived.Lib.Zigzag
import Derived.Lib.AppendZeros
namespace Go.Proofs.YtgmpbihbdbmhoaaGreatDoor
open Go Go.K

def firstT (x:Int):Int:=if x < 194 then 241 else if x < 224 then 2 else if x=224 then 19 else if x=237 then 35 else if x < 240 then 3 else if x=240 then 52 else if x < 244 then 4 else if x=244 then 68 else 241
def accLo (j:Nat):Int:=if j=1 then 160 else if j=3 then 144 else if j < 5 then 128 else 0
def accHi (j:Nat):Int:=if j=2 then 159 else if j=4 then 143 else if j < 5 then 191 else 0
structure Tabs (w:World):Prop where
 size:1 < w.heap.size
 first:∀ j:Nat,128≤j→j < 256→w.cell? ⟨0,j,none⟩=some (.int .u8 (firstT j))
 acc:∀ j:Nat,j < 16→w.cell? ⟨1,j * 2,none⟩=some (.int .u8 (accLo j))∧w.cell? ⟨1,j * 2+1,none⟩=some (.int .u8 (accHi j))
theorem Tabs.grow {w w':World} (h:Tabs w) (g:Grow w w'):Tabs w':=
 ⟨Nat.lt_of_lt_of_le h.size g.size,fun j h1 h2=>g.cell (h.first j h1 h2) fun h=>h,fun j hj=>⟨g.cell (h.acc j hj).1 fun h=>h,g.cell (h.acc j hj).2 fun h=>h⟩⟩
theorem tab_ok {x:Int} (h0:128≤x) (h1:x < 256):∃ (f:Int) (z j:Nat),firstT x=f∧0≤f∧f < 256∧(f.toNat &&& 7)=z∧f / 16=j∧j < 16∧(z=hdSize x∨hdSize x=0∧z=1)∧(hdSize x≠0→accLo j=hdLo x∧accHi j=hdHi x):=by
 unfold firstT hdSize hdLo hdHi
 by_cases a1:x < 194
 ·exact ⟨241,1,15,by rw [if_pos a1],by decide,by decide,by decide,by decide,by decide,by rw [if_pos a1];exact .inr ⟨rfl,rfl⟩,by rw [if_pos a1];exact fun h=>absurd rfl h⟩
 rw [if_neg a1,if_neg a1]
 by_cases a2:x < 224
 ·rw [if_pos a2,if_pos a2]
  exact ⟨2,2,0,rfl,by decide,by decide,by decide,by decide,by decide,.inl rfl,fun _=>⟨by rw [if_neg (by omega),if_neg (by omega)];rfl,by rw [if_neg (by omega),if_neg (by omega)];rfl⟩⟩
 rw [if_neg a2,if_neg a2]
 by_cases a3:x=224
 ·subst a3
  exact ⟨19,3,1,rfl,by decide,by decide,by decide,by decide,by decide,.inl rfl,fun _=>⟨rfl,rfl⟩⟩
 rw [if_neg a3,if_neg a3]
 by_cases a4:x=237
 ·subst a4
  exact ⟨35,3,2,rfl,by decide,by decide,by decide,by decide,by decide,.inl rfl,fun _=>⟨rfl,rfl⟩⟩
 rw [if_neg a4,if_neg a4]
 by_cases a5:x < 240
 ·rw [if_pos a5,if_pos a5]
  exact ⟨3,3,0,rfl,by decide,by decide,by decide,by decide,by decide,.inl rfl,fun _=>⟨by rw [if_neg (by omega)];rfl,by rw [if_neg (by omega)];rfl⟩⟩
 rw [if_neg a5,if_neg a5]
 by_cases a6:x=240
 ·subst a6
  exact ⟨52,4,3,rfl,by decide,by decide,by decide,by decide,by decide,.inl rfl,fun _=>⟨rfl,rfl⟩⟩
 rw [if_neg a6,if_neg a6]
 by_cases a7:x < 244
 ·rw [if_pos a7,if_pos (by omega)]
  exact ⟨4,4,0,rfl,by decide,by decide,by decide,by decide,by decide,.inl rfl,fun _=>⟨rfl,by rw [if_neg (by omega)];rfl⟩⟩
 rw [if_neg a7]
 by_cases a8:x=244
 ·subst a8
  exact ⟨68,4,4,rfl,by decide,by decide,by decide,by decide,by decide,.inl rfl,fun _=>⟨rfl,rfl⟩⟩
 rw [if_neg a8,if_neg (by omega)]
 exact ⟨241,1,15,rfl,by decide,by decide,by decide,by decide,by decide,.inr ⟨rfl,rfl⟩,fun h=>absurd rfl h⟩
theorem hdSize_v (x:Int):hdSize x=0∨hdSize x=2∨hdSize x=3∨hdSize x=4:=by
 unfold hdSize
 (repeat' split) <;> simp
theorem run_and8 {t:TypeId} {xo yo:Operand} {a:Int} {z:Nat} (w:World) (h0:0≤a) (h1:a < 256) (hz:(a.toNat &&& 7)=z):(binS .and t xo yo (.int .u8 a) (.int .u8 7)).run Tryz.prog w=.ok (.int .u8 z) w:=by
 rw [(run_bits w).2]
 have e:((BitVec.ofInt IntKind.u8.bits a &&& BitVec.ofInt IntKind.u8.bits 7).toNat:Int)=((a.toNat &&& 7:Nat):Int):=by
  show ((BitVec.ofInt 8 a &&& BitVec.ofInt 8 7).toNat:Int)=_
  rw [BitVec.toNat_and,BitVec.toNat_ofInt,BitVec.toNat_ofInt]
  have e:((2 ^ 8:Nat):Int)=256:=by decide
  rw [e,Int.emod_eq_of_lt h0 h1]
  rfl
 have hz8:z≤7:=hz ▸ Nat.and_le_right
 rw [e,hz]
 congr 2
 have e1:(2:Int) ^ IntKind.u8.bits=256:=by decide
 simp only [IntKind.wrap,e1,IntKind.signed,Bool.false_and]
 rw [if_neg (by decide)]
 omega
def slLen (v:Value):Nat:=match v with | .slice _ n _=>n | _=>0
theorem skip_ok {l:List Int} {k:Nat} (hl:ByteL l) (hk:k≤l.length) (h:∀ j,j < k→l.getD j 0 < 128):(readB l).isSome=(readB (l.drop k)).isSome:=by
 refine readB_skip hk fun j x hj hx=>?_
 have:=h j hj
 rw [List.getD_eq_getElem?_getD,hx] at this
 exact ⟨(hl x (List.mem_iff_getElem?.2 ⟨j,hx⟩)).1,this⟩
theorem getD_drop (l:List Int) (k j:Nat):(l.drop k).getD j 0=l.getD (k+j) 0:=by
 rw [List.getD_eq_getElem?_getD,List.getD_eq_getElem?_getD,List.getElem?_drop]
theorem and_or_zero {a b c:Nat} (h:((a ||| b) &&& c)=0):(a &&& c)=0∧(b &&& c)=0:=by
 rw [Nat.and_or_distrib_right] at h
 exact Nat.or_eq_zero_iff.1 h
theorem hi_zero {n:Nat} (h:((n &&& (9259542123273814144:Int).toNat:Nat):Int)=0):(n &&& 9259542123273814144)=0:=Int.ofNat_inj.1 h
set_option maxRecDepth 10000 in
theorem valid_ok {S:Nat→Prop} {v:Value} {b:List Int} {w:World} (h:RBytes S w v b) (hb:ByteL b) (hT:Tabs w) :
  callK Tryz.prog 118 [v] (fun v' w'=>v'=.bool (readB b).isSome∧Grow w w') w:=by
 apply S118_ok
 unfold S118
 have hu:Tryz.prog.underlying 31=some (.slice 5):=by kernel_rfl
 have hi:Tryz.prog.info? 5=some Tryz.t5:=by kernel_rfl
 have hs:Tryz.t5.size=1:=by kernel_rfl
 obtain ⟨a,c,rfl,hm⟩:=h.shape
 obtain ⟨_,_,e0,hc0,_,_⟩:=id h
 cases e0
 rw [lenK_i,lenK_i]
 obtain ⟨a',hr0,ha'⟩:=slice_all_run (a:=a) (n:=b.length) (c:=c) hu hi hs hc0 w
 refine runK_i hr0 ?_
 have h':RBytes S w (.slice a' b.length b.length) b:=by
  obtain ⟨_,_,e0,h1,h2,h3⟩:=h
  cases e0
  refine ⟨_,_,rfl,Nat.le_refl _,hm,fun i x hx=>?_⟩
  obtain ⟨p,r,rfl,q⟩:=h3 i x hx
  have:=(List.getElem?_eq_some_iff.1 hx).1
  exact ⟨p,r,ha' (by omega),q⟩
 refine LoopK_i (fun vs W=>∃ l v1,vs=[v1]∧RBytes S W v1 l∧ByteL l∧(readB b).isSome=(readB l).isSome∧Grow w W) (fun vs _=>slLen (nth vs 0)) ⟨b,_,rfl,h',hb,rfl,Mod.refl _ _⟩ ?_
 rintro vs W ⟨l,v1,rfl,hl,hB,hrd,gW⟩ _
 rw [nth_z,List.headD_cons]
 obtain ⟨p1,c1,rfl,hm1⟩:=hl.shape
 simp only [maxLen] at hm1
 rw [lenK_i,gtK_i]
 refine condK_p (fun hpos=>?_) fun hneg=>?_
 rotate_left
 ·have:l=[]:=List.eq_nil_of_length_eq_zero (by omega)
  subst this
  exact ⟨by rw [hrd,readB_nil];rfl,gW⟩
 -- the round ends with a rest that is shorter
 have again:∀ {W':World} {v':Value} {l':List Int},RBytes S W' v' l'→ByteL l'→(readB l).isSome=(readB l').isSome→l'.length < l.length→Grow w W'→
   ((∃ l v1,[v']=[v1]∧RBytes S W' v1 l∧ByteL l∧(readB b).isSome=(readB l).isSome∧Grow w W')∧slLen (nth [v'] 0) < slLen (nth [Value.slice p1 l.length c1] 0)):=by
  intro W' v' l' h1 h2 h3 h4 h5
  obtain ⟨q,d,rfl,_⟩:=h1.shape
  exact ⟨⟨l',_,rfl,h1,h2,hrd.trans h3,h5⟩,h4⟩
 have sl:∀ {W':World} {q:Option Addr} {n d j:Nat} {l':List Int} {K:Cont},RBytes S W' (.slice q n d) l'→j≤l'.length→(∀ v',RBytes S W' v' (l'.drop j)→K v' W')→runK Tryz.prog (Instr.sliceAt 31 (.slice q n d) (some (.int .i64 j)) none none) K W':=
  fun h1 h2 h3=>slice_lo (e:=5) (i:=Tryz.t5) hu hi hs h1 h2 h3
 have ge:∀ {W1 W2:World} {v':Value} {l':List Int},RBytes S W1 v' l'→Grow W1 W2→RBytes S W2 v' l':=fun h1 g=>h1.grow g (by decide) fun _ _ h=>h
 -- a word's call,in a region
 have wq:∀ {W1:World} {v':Value} {l':List Int} {K:Value→Prop},RBytes S W1 v' l'→ByteL l'→8≤l'.length→K (.int .u64 (wordN l'))→qcallK Tryz.prog (fun W2=>Grow W1 W2) 145 [v'] K:=by
  intro W1 v' l' K h1 h2 h3 h4
  refine ⟨_,fun w2 g=>callK_mono (word_ok (ge h1 g) h2 h3) ?_,h4⟩
  rintro _ w3 ⟨rfl,g3⟩
  exact ⟨rfl,g.trans g3⟩
 obtain ⟨x,t,rfl⟩:∃ x t,l=x :: t:=by cases l with | nil=>simp at hpos | cons x t=>exact ⟨x,t,rfl⟩
 have hx:=hB x List.mem_cons_self
 have hBt:ByteL t:=fun y hy=>hB y (List.mem_cons_of_mem _ hy)
 obtain ⟨p,r,rfl,_,hr,hc,rfl⟩:=hl.get (i:=0) (by simp)
 have cx:W.cell? (p.add (0 * 1+0))=some (.int .u8 x):=hc 0 _ rfl
 refine ixK_n (j:=0) (by simp) (ld1K_i cx ?_)
 show ltK .u8 (.int .u8 x) _ _
 rw [ltK_i]
 refine condK_p (fun hlo=>?_) fun hhi=>?_
 ·-- ASCII
  have hrt:(readB (x :: t)).isSome=(readB t).isSome:=by
   have:=skip_ok (l:=x :: t) (k:=1) hB (by simp) fun j hj=>by
    have:j=0:=by omega
    subst this;exact hlo
   simpa using this
  refine sl hl (j:=1) (by simp) fun v2 hv2=>?_
  rw [List.drop_succ_cons,List.drop_zero] at hv2
  obtain ⟨q2,d2,rfl,_⟩:=hv2.shape
  refine JoinK_i (fun vs W2=>Grow W W2∧∃ q:Bool,vs=[.bool q]∧(q=true→8≤t.length∧∀ j,j < 8→t.getD j 0 < 128)) ?_ ?_
  ·rintro vs W2 ⟨g2,q,rfl,hq⟩ _
   rw [nth_z,List.headD_cons]
   cases q with
   | false=>exact condK_f (again (ge hv2 g2) hBt hrt (by simp) (gW.trans g2))
   | true=>
    obtain ⟨h8,hq8⟩:=hq rfl
    refine condK_t (sl (ge hv2 g2) (j:=8) h8 fun v3 hv3=>?_)
    have hB3:ByteL (t.drop 8):=ByteL.drop hBt 8
    have hr3:(readB (x :: t)).isSome=(readB (t.drop 8)).isSome:=hrt.trans (skip_ok hBt h8 hq8)
    have hl3:(t.drop 8).length < (x :: t).length:=by simp;omega
    generalize t.drop 8=l3 at hv3 hB3 hr3 hl3
    obtain ⟨q3,d3,rfl,_⟩:=hv3.shape
    refine JoinK_i (fun vs W3=>Grow W W3∧Grow W2 W3∧∃ q:Bool,vs=[.bool q]∧(q=true→16≤l3.length∧∀ j,j < 16→l3.getD j 0 < 128)) ?_ ?_
    ·rintro vs W3 ⟨g3,g23,q,rfl,hq⟩ _
     rw [nth_z,List.headD_cons]
     cases q with
     | false=>exact condK_f (again (ge hv3 g23) hB3 hr3 hl3 (gW.trans g3))
     | true=>
      obtain ⟨h16,hq16⟩:=hq rfl
      refine condK_t (sl (ge hv3 g23) (j:=16) h16 fun v4 hv4=>?_)
      refine LoopK_i (fun vs W4=>∃ l4 v5,vs=[v5]∧RBytes S W4 v5 l4∧ByteL l4∧(readB (x :: t)).isSome=(readB l4).isSome∧l4.length < (x :: t).length∧Grow W W4) (fun vs _=>slLen (nth vs 0))
       ⟨_,_,rfl,hv4,ByteL.drop hB3 16,hr3.trans (skip_ok hB3 h16 hq16),by simp only [List.length_drop];omega,g3⟩ ?_
      rintro vs W4 ⟨l4,v5,rfl,hv5,hB4,hr4,hl4,g4⟩ _
      rw [nth_z,List.headD_cons]
      obtain ⟨q5,d5,rfl,_⟩:=hv5.shape
      refine drawK_i (fun W'=>Grow W4 W') (Mod.drew _ _) ?_
      rw [lenK_i,gtK_i]
      refine condK_p (fun h32=>?_) fun _=>fun W' g'=>again (ge hv5 g') hB4 hr4 hl4 (gW.trans (g4.trans g'))
      have h32':32 < l4.length:=by omega
      have run:=fun (j:Nat) (hj:j≤l4.length) (w':World)=>slice_lo_run (a:=q5) (n:=l4.length) (c:=d5) hu hi hs hj w'
      have sls:=fun (j:Nat) (hj:j≤l4.length)=>slice_lo_sl hv5 hj
      refine wq hv5 hB4 (by omega) ?_
      refine ⟨_,fun w' _=>run 8 (by omega) w',?_⟩
      refine wq (sls 8 (by omega)) (ByteL.drop hB4 8) (by simp only [List.length_drop];omega) ?_
      have u0:=wordN_U hB4
      have u1:=wordN_U (ByteL.drop hB4 8)
      have u2:=wordN_U (ByteL.drop hB4 16)
      have u3:=wordN_U (ByteL.drop hB4 24)
      refine ⟨_,fun w' _=>run_or64 w' u0 u1,?_⟩
      refine ⟨_,fun w' _=>run 16 (by omega) w',?_⟩
      refine wq (sls 16 (by omega)) (ByteL.drop hB4 16) (by simp only [List.length_drop];omega) ?_
      refine ⟨_,fun w' _=>run 24 (by omega) w',?_⟩
      refine wq (sls 24 (by omega)) (ByteL.drop hB4 24) (by simp only [List.length_drop];omega) ?_
      refine ⟨_,fun w' _=>run_or64 w' u2 u3,?_⟩
      refine ⟨_,fun w' _=>run_or64 w' (orN_U u0 u1) (orN_U u2 u3),?_⟩
      refine ⟨_,fun w' _=>run_and64 w' (orN_U (orN_U u0 u1) (orN_U u2 u3)) (by unfold U64;decide),?_⟩
      show eqK .u64 (.int .u64 _) _ _
      rw [eqK_i]
      intro W' g'
      refine condK_p (fun hz=>?_) fun _=>again (ge hv5 g') hB4 hr4 hl4 (gW.trans (g4.trans g'))
      have hz':((orN (orN (wordN l4) (wordN (l4.drop 8))) (orN (wordN (l4.drop 16)) (wordN (l4.drop 24)))).toNat &&& 9259542123273814144:Nat)=0:=hi_zero hz
      simp only [orN,Int.toNat_natCast] at hz'
      obtain ⟨z1,z2⟩:=and_or_zero hz'
      obtain ⟨z3,z4⟩:=and_or_zero z1
      obtain ⟨z5,z6⟩:=and_or_zero z2
      have a32:∀ j,j < 32→l4.getD j 0 < 128:=by
       intro j hj
       rcases (show j < 8∨8≤j∧j < 16∨16≤j∧j < 24∨24≤j by omega) with h | h | h | h
       ·exact word_ascii hB4 z3 h
       ·have:=word_ascii (ByteL.drop hB4 8) z4 (j:=j - 8) (by omega)
        rw [getD_drop,show 8+(j - 8)=j by omega] at this;exact this
       ·have:=word_ascii (ByteL.drop hB4 16) z5 (j:=j - 16) (by omega)
        rw [getD_drop,show 16+(j - 16)=j by omega] at this;exact this
       ·have:=word_ascii (ByteL.drop hB4 24) z6 (j:=j - 24) (by omega)
        rw [getD_drop,show 24+(j - 24)=j by omega] at this;exact this
      refine sl (ge hv5 g') (j:=32) (by omega) fun v6 hv6=>?_
      obtain ⟨q6,d6,rfl,_⟩:=hv6.shape
      refine ⟨⟨_,_,rfl,hv6,ByteL.drop hB4 32,hr4.trans (skip_ok hB4 (by omega) a32),by simp only [List.length_drop];omega,g4.trans g'⟩,?_⟩
      show (l4.drop 32).length < l4.length
      rw [List.length_drop];omega
    ·refine drawK_i (fun W'=>Grow W2 W') (Mod.drew _ _) ?_
     rw [lenK_i,gtK_i]
     refine condK_p (fun h16=>?_) fun _=>fun W' g'=>⟨g2.trans g',g',false,rfl,fun h=>(nomatch h)⟩
     have h16':16 < l3.length:=by omega
     refine wq hv3 hB3 (by omega) ?_
     refine ⟨_,fun w' _=>slice_lo_run (a:=q3) (n:=l3.length) (c:=d3) hu hi hs (j:=8) (by omega) w',?_⟩
     refine wq (slice_lo_sl hv3 (by omega)) (ByteL.drop hB3 8) (by simp only [List.length_drop];omega) ?_
     have u0:=wordN_U hB3
     have u1:=wordN_U (ByteL.drop hB3 8)
     refine ⟨_,fun w' _=>run_or64 w' u0 u1,?_⟩
     refine ⟨_,fun w' _=>run_and64 w' (orN_U u0 u1) (by unfold U64;decide),?_⟩
     show eqK .u64 (.int .u64 _) _ _
     rw [eqK_i]
     intro W' g'
     refine ⟨g2.trans g',g',_,rfl,fun hz=>?_⟩
     rw [decide_eq_true_eq] at hz
     have hz':((orN (wordN l3) (wordN (l3.drop 8))).toNat &&& 9259542123273814144:Nat)=0:=hi_zero hz
     simp only [orN,Int.toNat_natCast] at hz'
     obtain ⟨z1,z2⟩:=and_or_zero hz'
     refine ⟨by omega,fun j hj=>?_⟩
     rcases (show j < 8∨8≤j by omega) with h | h
     ·exact word_ascii hB3 z1 h
     ·have:=word_ascii (ByteL.drop hB3 8) z2 (j:=j - 8) (by omega)
      rw [getD_drop,show 8+(j - 8)=j by omega] at this;exact this
  ·rw [lenK_i,gtK_i]
   refine condK_p (fun h8=>?_) fun _=>⟨Mod.refl _ _,false,rfl,fun h=>(nomatch h)⟩
   have h8':8 < t.length:=by omega
   refine callK_mono (word_ok hv2 hBt (by omega)) ?_
   rintro _ W2 ⟨rfl,g2⟩
   refine runK_i (run_and64 W2 (wordN_U hBt) (by unfold U64;decide)) ?_
   rw [eqK_i]
   refine ⟨g2,_,rfl,fun hz=>?_⟩
   rw [decide_eq_true_eq] at hz
   exact ⟨by omega,fun j hj=>word_ascii hBt (hi_zero hz) hj⟩
 ·-- the first byte of several
  have bad:nextB (x :: t)=(0,0)→∀ {W'},Grow w W'→Value.bool false=.bool (readB b).isSome∧Grow w W':=fun e W' g=>⟨by rw [hrd,readB_step (by simp),e];rfl,g⟩
  have good:∀ {n:Nat} {r:Int},nextB (x :: t)=(r,n)→0 < n→(readB (x :: t)).isSome=(readB ((x :: t).drop n)).isSome:=by
   intro n r e hn
   rw [readB_step (by simp),e]
   show (decide (n≠0) && _)=_
   rw [decide_eq_true (show n≠0 by omega),Bool.true_and]
  obtain ⟨f,z,j,hf,hf0,hf1,hz,hj,hj16,hzs,hacc⟩:=tab_ok (x:=x) (by omega) hx.2
  have hTW:=hT.grow gW
  have cf:W.cell? (Addr.add ⟨0,0,none⟩ (x.toNat * 1))=some (.int .u8 f):=by
   rw [addr0,Nat.mul_one,←hf]
   have:=hTW.first x.toNat (by omega) (by omega)
   rwa [show ((x.toNat:Nat):Int)=x by omega] at this
  refine runK_i (run_indexAt_arr (n:=256) (e:=5) (i:=Tryz.t5) (s:=1) (by kernel_rfl) (by kernel_rfl) (by kernel_rfl) hx.1 (by omega)) (ld1K_i cf ?_)
  refine runK_i (run_and8 W hf0 hf1 hz) ?_
  refine runK_i (run_conv (k:=.i64) W (by kernel_rfl) (by kernel_rfl)) ?_
  have hz7:z≤7:=hz ▸ Nat.and_le_right
  rw [wrap64 (by omega) (by omega)]
  refine runK_i (run_shr (n:=4) W (by decide)) ?_
  have ej:f.fdiv (2 ^ 4)=(j:Int):=by
   rw [Int.fdiv_eq_ediv_of_nonneg _ (by decide),←hj];rfl
  rw [ej]
  refine runK_i (run_indexAt_arr (n:=16) (e:=179) (i:=Tryz.t179) (s:=2) (by kernel_rfl) (by kernel_rfl) (by kernel_rfl) (by omega) (by omega)) ?_
  rw [Int.toNat_natCast,addr0]
  obtain ⟨ca,cb⟩:=hTW.acc j hj16
  refine ldnK_i (vs:=[.int .u8 (accLo j),.int .u8 (accHi j)]) rfl (fun q u hu=>?_) ?_
  ·rcases q with _ | _ | q
   ·cases hu;exact ca
   ·cases hu;exact cb
   ·simp at hu
  refine newst_n (vs:=[.int .u8 (accLo j),.int .u8 (accHi j)]) rfl rfl (fun u hu=>by simp at hu;rcases hu with rfl | rfl <;> rfl) fun b6 W2 hb6 hz6 g6 hc6 _=>?_
  have c6a:=hc6 0 _ rfl
  have c6b:=hc6 1 _ rfl
  have gW2:=gW.trans g6
  have hl2:=ge hl g6
  have lenpos:0 < (x :: t).length:=by simp
  -- the second byte's test,the third's
  rw [eqK_i]
  refine condK_p (fun h2=>?_) fun h2=>?_
  ·have hz2:z=2:=by omega
   have hsz:hdSize x=2:=by omega
   obtain ⟨elo,ehi⟩:=hacc (by omega)
   refine JoinK_i (fun _ W3=>Grow W2 W3∧2≤(x :: t).length∧(readB (x :: t)).isSome=(readB ((x :: t).drop 2)).isSome) ?_ ?_
   ·rintro vs W3 ⟨g3,hle,hrr⟩ _
    refine sl (ge hl2 g3) (j:=2) hle fun v3 hv3=>?_
    exact again hv3 (ByteL.drop hB 2) hrr (by rw [List.length_drop];omega) (gW2.trans g3)
   refine drawK_i (fun W'=>Grow W2 W') (Mod.drew _ _) ?_
   rw [lenK_i,ltK_i]
   refine condK_p (fun hsh=>fun W' g'=>bad (next_short hx.2 (by rw [hsz];omega)) (gW2.trans g')) fun hlg=>?_
   obtain ⟨y1,t1,rfl⟩:∃ y t',t=y :: t':=by cases t with | nil=>simp at hlg | cons y t'=>exact ⟨y,t',rfl⟩
   have hy1:=hBt y1 List.mem_cons_self
   have hn:=next_2 (t:=t1) hsz hy1.1 hy1.2
   obtain ⟨_,r1,e1,_,hr1,hc1,rfl⟩:=hl2.get (i:=1) (by simp)
   cases e1
   have cy1:=hc1 0 _ rfl
   refine ixK_n (j:=1) (by simp) (qld1K_i (fun w' g=>g.cell cy1 fun h=>h) ?_)
   rw [faK_i]
   refine qld1K_i (fun w' g=>g.cell c6a fun h=>h) ?_
   show ltK .u8 (.int .u8 y1) _ _
   rw [ltK_i]
   refine condK_p (fun hb1=>fun W' g'=>bad (by rw [hn,if_neg (by omega)]) (gW2.trans g')) fun hb1=>?_
   rw [faK_i]
   refine qld1K_i (fun w' g=>g.cell c6b fun h=>h) ?_
   refine ixK_n (j:=1) (by simp) (qld1K_i (fun w' g=>g.cell cy1 fun h=>h) ?_)
   show ltK .u8 _ (.int .u8 y1) _
   rw [ltK_i]
   intro W' g'
   refine condK_p (fun hb2=>bad (by rw [hn,if_neg (by omega)]) (gW2.trans g')) fun hb2=>?_
   exact ⟨g',by simp,good (by rw [hn,if_pos (by omega)]) (by decide)⟩
  rw [eqK_i]
  refine condK_p (fun h3=>?_) fun h3=>?_
  ·have hz3:z=3:=by omega
   have hsz:hdSize x=3:=by omega
   obtain ⟨elo,ehi⟩:=hacc (by omega)
   refine JoinK_i (fun _ W3=>Grow W2 W3∧3≤(x :: t).length∧(readB (x :: t)).isSome=(readB ((x :: t).drop 3)).isSome) ?_ ?_
   ·rintro vs W3 ⟨g3,hle,hrr⟩ _
    refine sl (ge hl2 g3) (j:=3) hle fun v3 hv3=>?_
    exact again hv3 (ByteL.drop hB 3) hrr (by rw [List.length_drop];omega) (gW2.trans g3)
   refine drawK_i (fun W'=>Grow W2 W') (Mod.drew _ _) ?_
   rw [lenK_i,ltK_i]
   refine condK_p (fun hsh=>fun W' g'=>bad (next_short hx.2 (by rw [hsz];omega)) (gW2.trans g')) fun hlg=>?_
   obtain ⟨y1,y2,t1,rfl⟩:∃ y y2 t',t=y :: y2 :: t':=by
    rcases t with _ | ⟨y,_ | ⟨y2,t'⟩⟩
    ·simp at hlg
    ·simp at hlg
    ·exact ⟨y,y2,t',rfl⟩
   have hy1:=hBt y1 List.mem_cons_self
   have hy2:=hBt y2 (List.mem_cons_of_mem _ List.mem_cons_self)
   have hn:=next_3 (t:=t1) hsz hy1.1 hy1.2 hy2.1 hy2.2
   obtain ⟨_,r1,e1,_,hr1,hc1,rfl⟩:=hl2.get (i:=1) (by simp)
   cases e1
   have cy1:=hc1 0 _ rfl
   obtain ⟨_,r2,e2,_,hr2,hc2,rfl⟩:=hl2.get (i:=2) (by simp)
   cases e2
   have cy2:=hc2 0 _ rfl
   refine ixK_n (j:=1) (by simp) (qld1K_i (fun w' g=>g.cell cy1 fun h=>h) ?_)
   rw [faK_i]
   refine qld1K_i (fun w' g=>g.cell c6a fun h=>h) ?_
   show ltK .u8 (.int .u8 y1) _ _
   rw [ltK_i]
   refine condK_p (fun hb1=>fun W' g'=>bad (by rw [hn,if_neg (by omega)]) (gW2.trans g')) fun hb1=>?_
   rw [faK_i]
   refine qld1K_i (fun w' g=>g.cell c6b fun h=>h) ?_
   refine ixK_n (j:=1) (by simp) (qld1K_i (fun w' g=>g.cell cy1 fun h=>h) ?_)
   show ltK .u8 _ (.int .u8 y1) _
   rw [ltK_i]
   refine condK_p (fun hb2=>fun W' g'=>bad (by rw [hn,if_neg (by omega)]) (gW2.trans g')) fun hb2=>?_
   refine ixK_n (j:=2) (by simp) (qld1K_i (fun w' g=>g.cell cy2 fun h=>h) ?_)
   show ltK .u8 (.int .u8 y2) _ _
   rw [ltK_i]
   refine condK_p (fun hb3=>fun W' g'=>bad (by rw [hn,if_neg (by omega)]) (gW2.trans g')) fun hb3=>?_
   refine ixK_n (j:=2) (by simp) (qld1K_i (fun w' g=>g.cell cy2 fun h=>h) ?_)
   show ltK .u8 _ (.int .u8 y2) _
   rw [ltK_i]
   intro W' g'
   refine condK_p (fun hb4=>bad (by rw [hn,if_neg (by omega)]) (gW2.trans g')) fun hb4=>?_
   exact ⟨g',by simp,good (by rw [hn,if_pos (by omega)]) (by decide)⟩
  rw [eqK_i]
  refine condK_p (fun h4=>?_) fun h4=>?_
  ·have hz4:z=4:=by omega
   have hsz:hdSize x=4:=by omega
   obtain ⟨elo,ehi⟩:=hacc (by omega)
   refine JoinK_i (fun _ W3=>Grow W2 W3∧4≤(x :: t).length∧(readB (x :: t)).isSome=(readB ((x :: t).drop 4)).isSome) ?_ ?_
   ·rintro vs W3 ⟨g3,hle,hrr⟩ _
    refine sl (ge hl2 g3) (j:=4) hle fun v3 hv3=>?_
    exact again hv3 (ByteL.drop hB 4) hrr (by rw [List.length_drop];omega) (gW2.trans g3)
   refine drawK_i (fun W'=>Grow W2 W') (Mod.drew _ _) ?_
   rw [lenK_i,ltK_i]
   refine condK_p (fun hsh=>fun W' g'=>bad (next_short hx.2 (by rw [hsz];omega)) (gW2.trans g')) fun hlg=>?_
   obtain ⟨y1,y2,y3,t1,rfl⟩:∃ y y2 y3 t',t=y :: y2 :: y3 :: t':=by
    rcases t with _ | ⟨y,_ | ⟨y2,_ | ⟨y3,t'⟩⟩⟩
    ·simp at hlg
    ·simp at hlg
    ·simp at hlg
    ·exact ⟨y,y2,y3,t',rfl⟩
   have hy1:=hBt y1 List.mem_cons_self
   have hy2:=hBt y2 (List.mem_cons_of_mem _ List.mem_cons_self)
   have hy3:=hBt y3 (List.mem_cons_of_mem _ (List.mem_cons_of_mem _ List.mem_cons_self))
   have hn:=next_4 (t:=t1) hsz hy1.1 hy1.2 hy2.1 hy2.2 hy3.1 hy3.2
   obtain ⟨_,r1,e1,_,hr1,hc1,rfl⟩:=hl2.get (i:=1) (by simp)
   cases e1
   have cy1:=hc1 0 _ rfl
   obtain ⟨_,r2,e2,_,hr2,hc2,rfl⟩:=hl2.get (i:=2) (by simp)
   cases e2
   have cy2:=hc2 0 _ rfl
   obtain ⟨_,r3,e3,_,hr3,hc3,rfl⟩:=hl2.get (i:=3) (by simp)
   cases e3
   have cy3:=hc3 0 _ rfl
   refine ixK_n (j:=1) (by simp) (qld1K_i (fun w' g=>g.cell cy1 fun h=>h) ?_)
   rw [faK_i]
   refine qld1K_i (fun w' g=>g.cell c6a fun h=>h) ?_
   show ltK .u8 (.int .u8 y1) _ _
   rw [ltK_i]
   refine condK_p (fun hb1=>fun W' g'=>bad (by rw [hn,if_neg (by omega)]) (gW2.trans g')) fun hb1=>?_
   rw [faK_i]
   refine qld1K_i (fun w' g=>g.cell c6b fun h=>h) ?_
   refine ixK_n (j:=1) (by simp) (qld1K_i (fun w' g=>g.cell cy1 fun h=>h) ?_)
   show ltK .u8 _ (.int .u8 y1) _
   rw [ltK_i]
   refine condK_p (fun hb2=>fun W' g'=>bad (by rw [hn,if_neg (by omega)]) (gW2.trans g')) fun hb2=>?_
   refine ixK_n (j:=2) (by simp) (qld1K_i (fun w' g=>g.cell cy2 fun h=>h) ?_)
   show ltK .u8 (.int .u8 y2) _ _
   rw [ltK_i]
   refine condK_p (fun hb3=>fun W' g'=>bad (by rw [hn,if_neg (by omega)]) (gW2.trans g')) fun hb3=>?_
   refine ixK_n (j:=2) (by simp) (qld1K_i (fun w' g=>g.cell cy2 fun h=>h) ?_)
   show ltK .u8 _ (.int .u8 y2) _
   rw [ltK_i]
   refine condK_p (fun hb4=>fun W' g'=>bad (by rw [hn,if_neg (by omega)]) (gW2.trans g')) fun hb4=>?_
   refine ixK_n (j:=3) (by simp) (qld1K_i (fun w' g=>g.cell cy3 fun h=>h) ?_)
   show ltK .u8 (.int .u8 y3) _ _
   rw [ltK_i]
   refine condK_p (fun hb5=>fun W' g'=>bad (by rw [hn,if_neg (by omega)]) (gW2.trans g')) fun hb5=>?_
   refine ixK_n (j:=3) (by simp) (qld1K_i (fun w' g=>g.cell cy3 fun h=>h) ?_)
   show ltK .u8 _ (.int .u8 y3) _
   rw [ltK_i]
   intro W' g'
   refine condK_p (fun hb6=>bad (by rw [hn,if_neg (by omega)]) (gW2.trans g')) fun hb6=>?_
   exact ⟨g',by simp,good (by rw [hn,if_pos (by omega)]) (by decide)⟩
  ·exact bad (next_bad hB (by omega) (by have:=hdSize_v x;omega)) gW2
end Go.Proofs.YtgmpbihbdbmhoaaGreatDoor

namespace Go.Proofs.YtgmpbihbdbmhoaaGreatDoor
open Go Go.K

def strOf (l:List Int):ByteArray:=⟨(l.map fun x=>UInt8.ofNat x.toNat).toArray⟩
theorem bytesL_strOf {l:List Int} (h:∀ x ∈ l,0≤x∧x < 256):bytesL (strOf l)=l:=by
 unfold bytesL strOf
 simp only [List.map_map]
 conv=>rhs;rw [←List.map_id l]
 refine List.map_congr_left fun x hx=>?_
 have:=h x hx
 simp only [Function.comp,UInt8.toNat_ofNat',id]
 omega
end Go.Proofs.YtgmpbihbdbmhoaaGreatDoor

namespace Go.K
open Go
def posAt (w:World) (r:Nat):Nat:=match w.heap[r]? with | some (.stringIter _ p)=>p | _=>0
theorem run_next_str {P:Program} {w:World} {r:Nat} {s:ByteArray} {pos:Nat} {ty:TypeId} (h:w.heap[r]?=some (.stringIter s pos)) (hp:pos < s.size) :
  (Instr.next (.pointer (some ⟨r,0,none⟩)) true ty).run P w=.ok (.tuple #[.bool true,.int .i64 pos,.int .i32 (Utf8.decode s pos).1]) { w with heap:=w.heap.setIfInBounds r (.stringIter s (pos+(Utf8.decode s pos).2)) }:=by
 simp only [Instr.next,getObj,setObj,Sem.run_bind,Sem.run,h,Result.andThen,hp,if_true]
 simp [goInt]
theorem run_next_over {P:Program} {w:World} {r:Nat} {s:ByteArray} {pos:Nat} {ty:TypeId} (h:w.heap[r]?=some (.stringIter s pos)) (hp:¬ pos < s.size) :
  (Instr.next (.pointer (some ⟨r,0,none⟩)) true ty).run P w=.ok (.tuple #[.bool false]) w:=by
 simp only [Instr.next,getObj,Sem.run_bind,Sem.run,h,Result.andThen,hp,if_false]
 rfl
theorem Mod.setObj (w:World) (r:Nat) (o o':Obj) (h:w.heap[r]?=some o):Mod (fun b=>b=r) w { w with heap:=w.heap.setIfInBounds r o' }:=
 ⟨rfl,rfl,rfl,by simp,fun x _ hx=>(MapKept.heap_set h).2 x hx⟩
end Go.K
namespace Go.Proofs.YtgmpbihbdbmhoaaGreatDoor
open Go Go.K

theorem run_str {S:Nat→Prop} {v:Value} {b:List Int} {w:World} (h:RBytes S w v b) (hb:ByteL b):(convert 31 9 v).run Tryz.prog w=.ok (.string (strOf b)) w:=by
 obtain ⟨a,c,rfl,hm⟩:=h.shape
 cases a with
 | none=>
  have:b=[]:=by
   cases b with
   | nil=>rfl
   | cons x b=>obtain ⟨p,r,e,_⟩:=h.get (i:=0) (by simp);cases e
  subst this
  exact run_convert_bytes_nil w 31 5 (by kernel_rfl) (by kernel_rfl) _ _ _ (by kernel_rfl)
 | some p=>
  have hl:(b.map fun x=>UInt8.ofNat x.toNat).length=b.length:=by simp
  have:=run_convert_bytes_back (P:=Tryz.prog) w 31 9 5 p c (b.map fun x=>UInt8.ofNat x.toNat) (by kernel_rfl) (by kernel_rfl) (by kernel_rfl) (fun j hj=>by
   rw [hl] at hj
   obtain ⟨_,r,e,_,hr,hc,rfl⟩:=h.get hj
   cases e
   have:=hc 0 _ rfl
   rw [Nat.mul_one,Nat.add_zero] at this
   rw [this]
   have hbj:=hb b[j] (List.getElem_mem hj)
   simp only [List.getElem_map,UInt8.toNat_ofNat']
   congr 2
   omega)
  rw [hl] at this
  exact this
theorem decode_next {s:ByteArray} {pos:Nat} {r:Int} {n:Nat} (hp:pos < s.size) (h:nextB ((bytesL s).drop pos)=(r,n)) (hn:n≠0):((Utf8.decode s pos).1:Int)=r∧(Utf8.decode s pos).2=n:=by
 have hat:∀ k c,((bytesL s).drop pos)[k]?=some c→pos+k < s.size∧(((s.get! (pos+k)).toNat:Nat):Int)=c:=by
  intro k c hc
  rw [List.getElem?_drop] at hc
  have hlt:pos+k < s.size:=by
   have:=(List.getElem?_eq_some_iff.1 hc).1
   rwa [bytesL_len] at this
  refine ⟨hlt,?_⟩
  have hg:s.get! (pos+k)=s[pos+k]'hlt:=by
   simp [ByteArray.get!,getElem!_pos,hlt]
   rfl
  rw [hg]
  simp only [bytesL,List.getElem?_map] at hc
  have hlt':pos+k < s.data.toList.length:=by simpa using hlt
  rw [List.getElem?_eq_getElem hlt'] at hc
  have:=Option.some.inj hc
  exact this
 have hB:ByteL ((bytesL s).drop pos):=fun x hx=>by
  have:=List.mem_of_mem_drop hx
  simp only [bytesL,List.mem_map] at this
  obtain ⟨b,_,rfl⟩:=this
  have:=b.toNat_lt
  omega
 have hne:((bytesL s).drop pos).length≠0:=by rw [List.length_drop,bytesL_len];omega
 generalize (bytesL s).drop pos=l at h hat hB hne
 obtain ⟨b0,t,rfl⟩:∃ x t,l=x :: t:=by cases l with | nil=>simp at hne | cons x t=>exact ⟨x,t,rfl⟩
 obtain ⟨_,e0⟩:=hat 0 b0 rfl
 have h0:=hB b0 List.mem_cons_self
 generalize hm0:(s.get! (pos+0)).toNat=m0 at e0
 by_cases ha:b0 < 128
 ·rw [next_ascii h0.1 ha] at h
  cases h
  simp only [Utf8.decode,hm0]
  rw [if_pos (by omega)]
  exact ⟨e0,rfl⟩
 rcases hdSize_v b0 with hz | hz | hz | hz
 ·rw [next_bad hB (by omega) hz] at h
  cases h;exact absurd rfl hn
 ·cases t with
  | nil=>rw [next_short h0.2 (by rw [hz];simp)] at h;cases h;exact absurd rfl hn
  | cons c1 t=>
   have h1:=hB c1 (by simp)
   obtain ⟨l1,e1⟩:=hat 1 c1 rfl
   generalize hm1:(s.get! (pos+1)).toNat=m1 at e1
   rw [next_2 hz h1.1 h1.2] at h
   split at h
   ·rename_i hc
    cases h
    have hb0:194≤b0∧b0 < 224:=by
     unfold hdSize at hz
     (repeat' split at hz) <;> omega
    have hlo:128≤hdLo b0:=by
     unfold hdLo
     split
     ·decide
     ·split <;> decide
    have hhi:hdHi b0≤191:=by
     unfold hdHi
     split
     ·decide
     ·split <;> decide
    have q1:(m0 / 32 == 6 && (decide (pos+1 < s.size) && m1 / 64 == 2))=true:=by
     simp only [Bool.and_eq_true,beq_iff_eq,decide_eq_true_eq]
     exact ⟨by omega,l1,by omega⟩
    simp only [Utf8.decode,hm0,hm1]
    rw [if_neg (by omega),if_pos q1,if_pos (by omega)]
    exact ⟨by omega,rfl⟩
   ·cases h;exact absurd rfl hn
 ·rcases t with _ | ⟨c1,_ | ⟨c2,t⟩⟩
  ·rw [next_short h0.2 (by rw [hz];simp)] at h;cases h;exact absurd rfl hn
  ·rw [next_short h0.2 (by rw [hz];simp)] at h;cases h;exact absurd rfl hn
  ·have h1:=hB c1 (by simp)
   have h2:=hB c2 (by simp)
   obtain ⟨l1,e1⟩:=hat 1 c1 rfl
   obtain ⟨l2,e2⟩:=hat 2 c2 rfl
   generalize hm1:(s.get! (pos+1)).toNat=m1 at e1
   generalize hm2:(s.get! (pos+2)).toNat=m2 at e2
   rw [next_3 hz h1.1 h1.2 h2.1 h2.2] at h
   split at h
   ·rename_i hc
    cases h
    have hb0:224≤b0∧b0 < 240:=by
     unfold hdSize at hz
     (repeat' split at hz) <;> omega
    have hlo:(if b0=224 then (160:Int) else 128)≤c1:=by
     refine Int.le_trans ?_ hc.1.1
     unfold hdLo
     split
     ·decide
     ·split <;> decide
    have hhi:c1≤(if b0=237 then (159:Int) else 191):=by
     refine Int.le_trans hc.1.2 ?_
     unfold hdHi
     split
     ·decide
     ·split <;> decide
    have hlo2:128≤c1:=by split at hlo <;> omega
    have hhi2:c1≤191:=by split at hhi <;> omega
    have q1:¬ (m0 / 32 == 6 && (decide (pos+1 < s.size) && m1 / 64 == 2))=true:=by
     simp only [Bool.and_eq_true,beq_iff_eq,decide_eq_true_eq]
     rintro ⟨x,_⟩;omega
    have q2:(m0 / 16 == 14 && (decide (pos+1 < s.size) && m1 / 64 == 2) && (decide (pos+2 < s.size) && m2 / 64 == 2))=true:=by
     simp only [Bool.and_eq_true,beq_iff_eq,decide_eq_true_eq]
     exact ⟨⟨by omega,l1,by omega⟩,l2,by omega⟩
    have q3:(decide (m0 % 16 * 4096+m1 % 64 * 64+m2 % 64 ≥ 2048) && Utf8.valid ((m0 % 16 * 4096+m1 % 64 * 64+m2 % 64:Nat):Int))=true:=by
     simp only [Utf8.valid,Bool.and_eq_true,Bool.or_eq_true,decide_eq_true_eq]
     refine ⟨by split at hlo <;> omega,?_⟩
     split at hhi
     ·left;omega
     ·by_cases hb:b0 < 237
      ·left;omega
      ·right;omega
    simp only [Utf8.decode,hm0,hm1,hm2]
    rw [if_neg (by omega),if_neg q1,if_pos q2,if_pos q3]
    exact ⟨by omega,rfl⟩
   ·cases h;exact absurd rfl hn
 ·rcases t with _ | ⟨c1,_ | ⟨c2,_ | ⟨c3,t⟩⟩⟩
  ·rw [next_short h0.2 (by rw [hz];simp)] at h;cases h;exact absurd rfl hn
  ·rw [next_short h0.2 (by rw [hz];simp)] at h;cases h;exact absurd rfl hn
  ·rw [next_short h0.2 (by rw [hz];simp)] at h;cases h;exact absurd rfl hn
  ·have h1:=hB c1 (by simp)
   have h2:=hB c2 (by simp)
   have h3:=hB c3 (by simp)
   obtain ⟨l1,e1⟩:=hat 1 c1 rfl
   obtain ⟨l2,e2⟩:=hat 2 c2 rfl
   obtain ⟨l3,e3⟩:=hat 3 c3 rfl
   generalize hm1:(s.get! (pos+1)).toNat=m1 at e1
   generalize hm2:(s.get! (pos+2)).toNat=m2 at e2
   generalize hm3:(s.get! (pos+3)).toNat=m3 at e3
   rw [next_4 hz h1.1 h1.2 h2.1 h2.2 h3.1 h3.2] at h
   split at h
   ·rename_i hc
    cases h
    have hb0:240≤b0∧b0 < 245:=by
     unfold hdSize at hz
     (repeat' split at hz) <;> omega
    have hlo:(if b0=240 then (144:Int) else 128)≤c1:=by
     refine Int.le_trans ?_ hc.1.1
     unfold hdLo
     rw [if_neg (show ¬ b0=224 by omega)]
     exact Int.le_refl _
    have hhi:c1≤(if b0=244 then (143:Int) else 191):=by
     refine Int.le_trans hc.1.2 ?_
     unfold hdHi
     rw [if_neg (show ¬ b0=237 by omega)]
     exact Int.le_refl _
    have hlo2:128≤c1:=by split at hlo <;> omega
    have hhi2:c1≤191:=by split at hhi <;> omega
    have q1:¬ (m0 / 32 == 6 && (decide (pos+1 < s.size) && m1 / 64 == 2))=true:=by
     simp only [Bool.and_eq_true,beq_iff_eq,decide_eq_true_eq]
     rintro ⟨x,_⟩;omega
    have q2:¬ (m0 / 16 == 14 && (decide (pos+1 < s.size) && m1 / 64 == 2) && (decide (pos+2 < s.size) && m2 / 64 == 2))=true:=by
     simp only [Bool.and_eq_true,beq_iff_eq,decide_eq_true_eq]
     rintro ⟨⟨x,_⟩,_⟩;omega
    have q3:(m0 / 8 == 30 && (decide (pos+1 < s.size) && m1 / 64 == 2) && (decide (pos+2 < s.size) && m2 / 64 == 2) && (decide (pos+3 < s.size) && m3 / 64 == 2))=true:=by
     simp only [Bool.and_eq_true,beq_iff_eq,decide_eq_true_eq]
     exact ⟨⟨⟨by omega,l1,by omega⟩,l2,by omega⟩,l3,by omega⟩
    have q4:(decide (m0 % 8 * 262144+m1 % 64 * 4096+m2 % 64 * 64+m3 % 64 ≥ 65536) && Utf8.valid ((m0 % 8 * 262144+m1 % 64 * 4096+m2 % 64 * 64+m3 % 64:Nat):Int))=true:=by
     simp only [Utf8.valid,Bool.and_eq_true,Bool.or_eq_true,decide_eq_true_eq]
     refine ⟨by split at hlo <;> omega,?_⟩
     right
     split at hhi <;> omega
    simp only [Utf8.decode,hm0,hm1,hm2,hm3]
    rw [if_neg (by omega),if_neg q1,if_neg q2,if_pos q3,if_pos q4]
    exact ⟨by omega,rfl⟩
   ·cases h;exact absurd rfl hn
theorem runes_ok {S:Nat→Prop} {v:Value} {b:List Int} {w:World} (h:RBytes S w v b) (hb:ByteL b) (hT:Tabs w) (hl:b.length * 4≤140737488355328) :
  callK Tryz.prog 68 [v] (fun v' w'=>Grow w w'∧match readB b with
   | some l=>∃ sl,v'=.tuple #[sl,.int .i64 0]∧OwnR w.heap.size 21 1 RRune w' sl l
   | none=>v'=.tuple #[.slice none 0 0,.int .i64 3]) w:=by
 apply S68_ok
 unfold S68
 refine callK_mono (valid_ok h hb hT) ?_
 rintro _ w1 ⟨rfl,g1⟩
 rw [notK_i]
 cases hr:readB b with
 | none=>exact condK_t ⟨g1,rfl⟩
 | some rs=>
  refine condK_f (runK_i (run_str (h.grow g1 (by decide) fun _ _ h=>h) hb) ?_)
  have hs:bytesL (strOf b)=b:=bytesL_strOf hb
  have hsz:(strOf b).size=b.length:=by rw [←bytesL_len,hs]
  generalize strOf b=s at hs hsz
  refine runK_i (run_range_string w1 9 s (by kernel_rfl)) ?_
  have hit:=World.iter_heap w1 s 0
  have g2:Grow w1 (w1.iter s 0):=Mod.alloc _ _ _
  have hr1:=g1.size
  generalize w1.iter s 0=w2 at hit g2
  generalize hrb:w1.heap.size=r at hit
  have hrw:w.heap.size≤r:=by omega
  refine LoopK_i (fun vs W=>∃ (pos:Nat) (lv:Value) (acc:List Int),pos≤b.length∧acc.length≤pos∧vs=[lv]∧W.heap[r]?=some (.stringIter s pos)∧OwnR w.heap.size 21 1 RRune W lv acc∧lv.ownBlock≠some r∧Grow w W∧readB b=(readB (b.drop pos)).map (acc++·)) (fun _ W=>b.length - posAt W r)
   ⟨0,_,[],Nat.zero_le _,Nat.le_refl _,rfl,hit,OwnR.nil,(fun h=>nomatch h),g1.trans g2,by simp⟩ ?_
  rintro vs W ⟨pos,lv,acc,hpos,hacc,rfl,hi,ho,hrn,gW,hrd⟩ _
  have hposAt:posAt W r=pos:=by simp [posAt,hi]
  by_cases hlt:pos < s.size
  ·have hlt':pos < b.length:=by omega
   have hne:b.drop pos≠[]:=by intro e;have:=congrArg List.length e;simp at this;omega
   have hnl:=nextB_len (b.drop pos)
   rw [List.length_drop] at hnl
   rw [readB_cons hne] at hrd
   have hnx:∃ q n,nextB (b.drop pos)=(q,n):=⟨_,_,rfl⟩
   obtain ⟨q,n,hq⟩:=hnx
   rw [hq] at hrd hnl
   simp only at hrd hnl
   have hn:n≠0:=by
    intro e
    rw [if_pos e,hr] at hrd
    cases hrd
   rw [if_neg hn] at hrd
   obtain ⟨d1,d2⟩:=decode_next (s:=s) hlt (by rw [hs];exact hq) hn
   refine runK_i (run_next_str hi hlt) ?_
   rw [d1,d2]
   refine extK_i (vs:=[_,_,_]) (by rfl) (condK_t (extK_i (vs:=[_,_,_]) (by rfl) ?_))
   have m3:=Mod.setObj W r _ (.stringIter s (pos+n)) hi
   have hi3:=(MapKept.heap_set (o':=.stringIter s (pos+n)) hi).1
   have hi3':({ W with heap:=W.heap.setIfInBounds r (.stringIter s (pos+n)) }:World).heap[r]?=some (.stringIter s (pos+n)):=hi3
   generalize ({ W with heap:=W.heap.setIfInBounds r (.stringIter s (pos+n)) }:World)=W3 at m3 hi3'
   have ho3:OwnR w.heap.size 21 1 RRune W3 lv acc:=OwnR.mod ho m3 (fun g hg e=>hrn (e ▸ hg)) fun _ _ _ h=>h
   have gW3:Grow w W3:=gW.next m3 fun x hx e=>by omega
   show rowK _ _ _ _ [(0,.int .i32 q)] _ _
   refine push_g elem_rune ho3 gW3.size (cs:=[.int .i32 q]) (x:=q) (by kernel_rfl) rfl rfl (fun _ _ _=>RRune.one) (fun _ _ _ _ _ _ h=>h) (by omega) (by simp only [maxLen];omega) fun v' w' h1 h2 h3=>?_
   have hrlt:r < W3.heap.size:=(Array.getElem?_eq_some_iff.1 hi3').1
   have hi4:w'.heap[r]?=some (.stringIter s (pos+n)):=(h2.same r hrlt hrn).trans hi3'
   refine ⟨⟨pos+n,v',acc++[q],by omega,by simp;omega,rfl,hi4,h1,fun e=>?_,gW3.next h2 fun x hx e=>?_,?_⟩,?_⟩
   ·rcases h3 r e with e | e
    ·exact hrn e
    ·omega
   ·have:=(OwnR.ownB ho3 x e).1
    omega
   ·rw [hrd,List.drop_drop]
    cases readB (b.drop (pos+n)) <;> simp
   ·rw [hposAt]
    have:posAt w' r=pos+n:=by simp [posAt,hi4]
    rw [this]
    omega
  ·refine runK_i (run_next_over hi hlt) ?_
   refine extK_i (vs:=[_]) (by rfl) (condK_f ?_)
   have:pos=b.length:=by omega
   subst this
   rw [List.drop_length,readB_nil,hr] at hrd
   simp only [Option.map_some,Option.some.injEq,List.append_nil] at hrd
   subst hrd
   exact ⟨gW,lv,rfl,ho⟩
end Go.Proofs.YtgmpbihbdbmhoaaGreatDoor

namespace Go.Proofs.YtgmpbihbdbmhoaaGreatDoor
open Go Go.K
def S89 (v0 v1:Value) (K:Cont) (w:World):Prop:=
 lenK v1 fun t9=>
 gtK .i64 t9 (.int .i64 64) fun t10=>
 condK t10
 (K (.int .i64 3) w)
 (lenK v1 fun t12=>
 LoopK [(.int .i64 0),(.int .i64 0)] (fun vs again w1=>∀ _h:Env,
 ltK .i64 (nth vs 1) t12 fun t14=>
 condK t14
 (ixK 5 v1 (nth vs 1) fun t16=>
 ldnK 5 t16 (fun t17 w2=>
 newK 61 [(.int .i64 0),(.int .u8 0),(.int .i64 0),(.int .u64 0),(.string (ByteArray.mk #[]))] (fun t7 w3=>
 stnK 5 t7 t17 (fun w4=>
 JoinK (fun vs_1 w5=>∀ _h_1:Env,
 condK (nth vs_1 0)
 (K (.int .i64 3) w5)
 (faK 0 t7 fun t40=>
 ld1K t40 (fun t41 w6=>
 faK 1 t7 fun t42=>
 ldnK 4 t42 (fun t43 w7=>
 callK Tryz.prog 131 [v0,t41,t43] (fun t44 w8=>
 notK t44 fun t45=>
 condK t45
 (addK .i64 (nth vs 1) (.int .i64 1) fun t46=>
 again [(.int .i64 4),t46] w8)
 (addK .i64 (nth vs 1) (.int .i64 1) fun t46_1=>
 again [(nth vs 0),t46_1] w8)) w7) w6) w5)) (fun J=>
 DrawC [16] [[],[0],[0,1],[0,1,2],[0,1,2],[0,1,2,4],[0,1,2,3,4,5],[0,1,2,3,4,5,6],[0,1,2,3,4,5,6,7],[0,1,2],[0,1,2,9],[0,1,2,3,4,5,6,7,8,9,10],[0,1,2,3,4,5,6,7,8,9,10,11],[0,1,2,3,4,5,6,7,8,9,10,11,12],[0,1,2,3,4,5,6,7,8,9,10,11,12,13],[0,1,2,3,4,5,6,7,8,9,10,11,12,13,14],[0,1,2,3,4,5,6,7,8,9,10,11,12,13,14,15],[0,1,2,3,4,5,6,7,8,9,10,11,12,13,14,15,16],[0,1,2,3,4,5,6,7,8,9,10,11,12,13,14,15,16,17],[0,1,2,3,4,5,6,7,8,9,10,11,12,13,14,15,16,17,18]] w4.drew (fun M St=>
 gtK .i64 (nth vs 1) (.int .i64 0) fun t20=>
 condK t20
 (subK .i64 (nth vs 1) (.int .i64 1) fun t24=>
 ixK 5 v1 t24 fun t25=>
 faK 0 t25 fun t26=>
 sld1 (St 8) t26 fun t27=>
 faK 0 t7 fun t28=>
 sld1 (St 10) t28 fun t29=>
 geK .i64 t27 t29 fun t30=>
 condK t30
 (J [(.bool true)] w4.drew)
 (faK 1 t7 fun t33=>
 sldn (St 15) 4 t33 fun t34=>
 callK Tryz.prog 130 [t34] (fun t35 w9=>
 Mod (M 16) w4.drew w9∧
 notK t35 fun t36=>
 J [t36] w9) w4.drew))
 (faK 1 t7 fun t33_1=>
 sldn (St 15) 4 t33_1 fun t34_1=>
 callK Tryz.prog 130 [t34_1] (fun t35_1 w10=>
 Mod (M 16) w4.drew w10∧
 notK t35_1 fun t36_1=>
 J [t36_1] w10) w4.drew)))) w3) w2) w1)
 (K (nth vs 0) w1)) w)
theorem S89_eq (v0 v1:Value) (K:Cont) (w:World):S89 v0 v1 K w=D Tryz.prog okf 48 (bodyOf Tryz.f89) (.node [] [] .nil (.node [] [] (.node [] [] .nil (.node [] [] (.node [] [] .nil .nil) .nil)) (.node [] [] .nil (.node [] [] (.node [] [] .nil (.node [5,13] [(4,7),(13,46)] (.node [] [] .nil (.node [] [] (.node [] [] .nil .nil) (.node [] [] (.node [] [] .nil (.cut [18] [(18,37)] (.dc [16] [[],[0],[0,1],[0,1,2],[0,1,2],[0,1,2,4],[0,1,2,3,4,5],[0,1,2,3,4,5,6],[0,1,2,3,4,5,6,7],[0,1,2],[0,1,2,9],[0,1,2,3,4,5,6,7,8,9,10],[0,1,2,3,4,5,6,7,8,9,10,11],[0,1,2,3,4,5,6,7,8,9,10,11,12],[0,1,2,3,4,5,6,7,8,9,10,11,12,13],[0,1,2,3,4,5,6,7,8,9,10,11,12,13,14],[0,1,2,3,4,5,6,7,8,9,10,11,12,13,14,15],[0,1,2,3,4,5,6,7,8,9,10,11,12,13,14,15,16],[0,1,2,3,4,5,6,7,8,9,10,11,12,13,14,15,16,17],[0,1,2,3,4,5,6,7,8,9,10,11,12,13,14,15,16,17,18]] []) (.node [] [] (.node [] [] .nil .nil) (.node [] [] .nil (.node [] [] .nil .nil))))) .nil))) .nil)) (.node [] [] .nil .nil))))) (retK Tryz.prog [.tmp 4] K) (nth [v0,v1]) w:=by kernel_rfl
theorem S89_ok {v0 v1:Value} {K:Cont} {w:World} (h:S89 v0 v1 K w):callK Tryz.prog 89 [v0,v1] K w:=
 callK_of (P:=Tryz.prog) (ok:=okf) (n:=48) (fn:=Tryz.f89) (c:=bodyOf Tryz.f89) (rs:=[.tmp 4]) (an:=(.node [] [] .nil (.node [] [] (.node [] [] .nil (.node [] [] (.node [] [] .nil .nil) .nil)) (.node [] [] .nil (.node [] [] (.node [] [] .nil (.node [5,13] [(4,7),(13,46)] (.node [] [] .nil (.node [] [] (.node [] [] .nil .nil) (.node [] [] (.node [] [] .nil (.cut [18] [(18,37)] (.dc [16] [[],[0],[0,1],[0,1,2],[0,1,2],[0,1,2,4],[0,1,2,3,4,5],[0,1,2,3,4,5,6],[0,1,2,3,4,5,6,7],[0,1,2],[0,1,2,9],[0,1,2,3,4,5,6,7,8,9,10],[0,1,2,3,4,5,6,7,8,9,10,11],[0,1,2,3,4,5,6,7,8,9,10,11,12],[0,1,2,3,4,5,6,7,8,9,10,11,12,13],[0,1,2,3,4,5,6,7,8,9,10,11,12,13,14],[0,1,2,3,4,5,6,7,8,9,10,11,12,13,14,15],[0,1,2,3,4,5,6,7,8,9,10,11,12,13,14,15,16],[0,1,2,3,4,5,6,7,8,9,10,11,12,13,14,15,16,17],[0,1,2,3,4,5,6,7,8,9,10,11,12,13,14,15,16,17,18]] []) (.node [] [] (.node [] [] .nil .nil) (.node [] [] .nil (.node [] [] .nil .nil))))) .nil))) .nil)) (.node [] [] .nil .nil)))))) good mixed Tryz.func89 (by kernel_rfl) (by kernel_rfl) (by kernel_rfl) (by kernel_rfl) (Eq.mp (S89_eq v0 v1 K w) h)

def S154 (v0 v1:Value) (K:Cont) (w:World):Prop:=
 callK Tryz.prog 146 [v0] (fun t6 w1=>
 LoopK [t6,v1] (fun vs again w2=>∀ _h:Env,
 gtK .u64 (nth vs 1) (.int .u64 127) fun t8=>
 condK t8
 (runK Tryz.prog (convert 57 5 (nth vs 1)) (fun t13 w3=>
 runK Tryz.prog (binS .or 5 (.tmp 13) (.const (.int .u8 128)) t13 (.int .u8 128)) (fun t14 w4=>
 rowK 5 1 1 [(.int .u8 0)] [(0,t14)] (fun t15 w5=>
 runK Tryz.prog (Builtin.append_ #[31,31] 31 [(nth vs 0),t15].toArray) (fun t16 w6=>
 runK Tryz.prog (binS .shr 57 (.tmp 9) (.const (.int .u64 7)) (nth vs 1) (.int .u64 7)) (fun t10 w7=>
 again [t16,t10] w7) w6) w5) w4) w3) w2)
 (runK Tryz.prog (convert 57 5 (nth vs 1)) (fun t19 w8=>
 rowK 5 1 1 [(.int .u8 0)] [(0,t19)] (fun t20 w9=>
 runK Tryz.prog (Builtin.append_ #[31,31] 31 [(nth vs 0),t20].toArray) (fun t21 w10=>
 K t21 w10) w9) w8) w2)) w1) w
theorem S154_eq (v0 v1:Value) (K:Cont) (w:World):S154 v0 v1 K w=D Tryz.prog okf 22 (bodyOf Tryz.f154) (.node [] [] .nil (.node [] [] .nil (.node [] [] (.node [0,1] [(0,1),(7,16)] (.node [] [] (.node [] [] .nil (.node [] [] .nil .nil)) (.node [] [] .nil .nil)) .nil) (.node [] [] .nil .nil)))) (retK Tryz.prog [.tmp 4] K) (nth [v0,v1]) w:=by kernel_rfl
theorem S154_ok {v0 v1:Value} {K:Cont} {w:World} (h:S154 v0 v1 K w):callK Tryz.prog 154 [v0,v1] K w:=
 callK_of (P:=Tryz.prog) (ok:=okf) (n:=22) (fn:=Tryz.f154) (c:=bodyOf Tryz.f154) (rs:=[.tmp 4]) (an:=(.node [] [] .nil (.node [] [] .nil (.node [] [] (.node [0,1] [(0,1),(7,16)] (.node [] [] (.node [] [] .nil (.node [] [] .nil .nil)) (.node [] [] .nil .nil)) .nil) (.node [] [] .nil .nil))))) good mixed Tryz.func154 (by kernel_rfl) (by kernel_rfl) (by kernel_rfl) (by kernel_rfl) (Eq.mp (S154_eq v0 v1 K w) h)

def S139 (v0 v1:Value) (K:Cont) (w:World):Prop:=
 callK Tryz.prog 155 [v1] (fun t7 w1=>
 callK Tryz.prog 154 [v0,t7] (fun t8 w2=>
 K t8 w2) w1) w
theorem S139_eq (v0 v1:Value) (K:Cont) (w:World):S139 v0 v1 K w=D Tryz.prog okf 9 (bodyOf Tryz.f139) (.node [] [] .nil (.node [] [] .nil .nil)) (retK Tryz.prog [.tmp 4] K) (nth [v0,v1]) w:=by kernel_rfl
theorem S139_ok {v0 v1:Value} {K:Cont} {w:World} (h:S139 v0 v1 K w):callK Tryz.prog 139 [v0,v1] K w:=
 callK_of (P:=Tryz.prog) (ok:=okf) (n:=9) (fn:=Tryz.f139) (c:=bodyOf Tryz.f139) (rs:=[.tmp 4]) (an:=(.node [] [] .nil (.node [] [] .nil .nil))) good mixed Tryz.func139 (by kernel_rfl) (by kernel_rfl) (by kernel_rfl) (by kernel_rfl) (Eq.mp (S139_eq v0 v1 K w) h)

def S155 (v0:Value) (K:Cont) (w:World):Prop:=
 runK Tryz.prog (convert 2 57 v0) (fun t4 w1=>
 runK Tryz.prog (binS .shl 57 (.tmp 4) (.const (.int .u64 1)) t4 (.int .u64 1)) (fun t5 w2=>
 runK Tryz.prog (binS .shr 2 (.tmp 6) (.const (.int .u64 63)) v0 (.int .u64 63)) (fun t7 w3=>
 runK Tryz.prog (convert 2 57 t7) (fun t8 w4=>
 runK Tryz.prog (binS .xor 57 (.tmp 5) (.tmp 8) t5 t8) (fun t9 w5=>
 K t9 w5) w4) w3) w2) w1) w
theorem S155_eq (v0:Value) (K:Cont) (w:World):S155 v0 K w=D Tryz.prog okf 10 (bodyOf Tryz.f155) (.node [] [] .nil (.node [] [] .nil .nil)) (retK Tryz.prog [.tmp 2] K) (nth [v0]) w:=by kernel_rfl
theorem S155_ok {v0:Value} {K:Cont} {w:World} (h:S155 v0 K w):callK Tryz.prog 155 [v0] K w:=
 callK_of (P:=Tryz.prog) (ok:=okf) (n:=10) (fn:=Tryz.f155) (c:=bodyOf Tryz.f155) (rs:=[.tmp 2]) (an:=(.node [] [] .nil (.node [] [] .nil .nil))) good mixed Tryz.func155 (by kernel_rfl) (by kernel_rfl) (by kernel_rfl) (by kernel_rfl) (Eq.mp (S155_eq v0 K w) h)

def S146 (v0:Value) (K:Cont) (w:World):Prop:=
 snilK v0 fun b4=>
 condK (.bool b4)
 (K (.slice none 0 0) w)
 (rowK 5 1 0 [] [] (fun t5 w1=>
 runK Tryz.prog (Builtin.append_ #[31,31] 31 [t5,v0].toArray) (fun t7 w2=>
 K t7 w2) w1) w)
theorem S146_eq (v0:Value) (K:Cont) (w:World):S146 v0 K w=D Tryz.prog okf 8 (bodyOf Tryz.f146) (.node [] [] .nil (.node [] [] (.node [] [] .nil (.node [] [] (.node [] [] .nil .nil) .nil)) (.node [] [] .nil .nil))) (retK Tryz.prog [.tmp 2] K) (nth [v0]) w:=by kernel_rfl
theorem S146_ok {v0:Value} {K:Cont} {w:World} (h:S146 v0 K w):callK Tryz.prog 146 [v0] K w:=
 callK_of (P:=Tryz.prog) (ok:=okf) (n:=8) (fn:=Tryz.f146) (c:=bodyOf Tryz.f146) (rs:=[.tmp 2]) (an:=(.node [] [] .nil (.node [] [] (.node [] [] .nil (.node [] [] (.node [] [] .nil .nil) .nil)) (.node [] [] .nil .nil)))) good mixed Tryz.func146 (by kernel_rfl) (by kernel_rfl) (by kernel_rfl) (by kernel_rfl) (Eq.mp (S146_eq v0 K w) h)

end Go.Proofs.YtgmpbihbdbmhoaaGreatDoor

namespace Go.Proofs.YtgmpbihbdbmhoaaGreatDoor
open Go Go.K

theorem elem_byte:ElemOK Tryz.prog 31 5 1 1:=⟨Tryz.t5,.int .u8 0,by kernel_rfl,by kernel_rfl,by kernel_rfl,by kernel_rfl,by kernel_rfl,by rfl,by decide⟩
theorem RByte.one {w:World} {r:List Value} {x:Int} (h:RByte w r x):∀ u ∈ r,u.oneCell'=true:=by
 subst h;intro u hu;simp at hu;subst hu;rfl
abbrev OBytes (B:Nat) (w:World) (v:Value) (l:List Int):Prop:=OwnR B 5 1 RByte w v l
theorem wrapu8 {x:Int} (h0:0≤x) (h1:x < 256):IntKind.u8.wrap x=x:=by
 have e1:(2:Int) ^ IntKind.u8.bits=256:=by decide
 simp only [IntKind.wrap,e1,IntKind.signed,Bool.false_and]
 rw [if_neg (by decide)]
 omega
theorem wrapu8_mod {x:Int}:IntKind.u8.wrap x=x % 256:=by
 have e1:(2:Int) ^ IntKind.u8.bits=256:=by decide
 simp only [IntKind.wrap,e1,IntKind.signed,Bool.false_and]
 rw [if_neg (by decide)]
theorem or128:∀ a:Nat,a < 256→(a ||| 128)=a % 128+128:=by decide +kernel
theorem run_or8 {t:TypeId} {xo yo:Operand} {a:Int} (w:World) (h0:0≤a) (h1:a < 256):(binS .or t xo yo (.int .u8 a) (.int .u8 128)).run Tryz.prog w=.ok (.int .u8 (a % 128+128)) w:=by
 rw [(run_bits w).1]
 have e:((BitVec.ofInt IntKind.u8.bits a ||| BitVec.ofInt IntKind.u8.bits 128).toNat:Int)=((a.toNat ||| 128:Nat):Int):=by
  show ((BitVec.ofInt 8 a ||| BitVec.ofInt 8 128).toNat:Int)=_
  rw [BitVec.toNat_or,BitVec.toNat_ofInt,BitVec.toNat_ofInt]
  have e:((2 ^ 8:Nat):Int)=256:=by decide
  rw [e,Int.emod_eq_of_lt h0 h1]
  rfl
 rw [e,or128 _ (by omega),wrapu8 (by omega) (by omega)]
 congr 2
 omega
theorem clone_bytes {S:Nat→Prop} {v:Value} {l:List Int} {w:World} (h:RBytes S w v l) (hl:l.length≤1099511627776) :
  callK Tryz.prog 146 [v] (fun v' w'=>OBytes w.heap.size w' v' l∧Grow w w') w:=by
 apply S146_ok
 unfold S146
 obtain ⟨a,c,rfl,hm⟩:=h.shape
 rw [snilK_i]
 cases a with
 | none=>
  have:l=[]:=by
   cases l with
   | nil=>rfl
   | cons x l=>obtain ⟨p,r,e,_⟩:=h.get (i:=0) (by simp);cases e
  subst this
  exact condK_t ⟨OwnR.nil,Mod.refl _ _⟩
 | some p=>
  refine condK_f ?_
  refine rowK_empty ?_
  have hg:Grow w (w.alloc (.cells #[] 5)):=Mod.alloc _ _ _
  have ho:OBytes w.heap.size (w.alloc (.cells #[] 5)) (.slice (some ⟨w.heap.size,0,none⟩) 0 0) []:=OwnR.made (Nat.le_refl _)
  obtain ⟨v',w',h1,h2,h3,h4⟩:=OwnR.append (ty:=31) elem_byte ho (h.grow hg (by decide) fun _ _ h=>h) (fun _ _=>RByte.one) (by simp;omega) (by simp) (by simpa using hm) (fun _ _ _ _ h=>h)
  refine runK_i h1 ⟨?_,hg.next (Mod.of_grownBy h3) ?_⟩
  ·refine h2.base fun g hg'=>?_
   rcases h4 g hg' with h | h
   ·cases h;exact Nat.le_refl _
   ·simp only [World.size_alloc] at h;omega
  ·intro b hb e;simp only [Value.ownBlock,Option.some.injEq] at e;omega
theorem conv64_8 {n:Int} {K:Cont} {w:World} (h:K (.int .u8 (n % 256)) w):runK Tryz.prog (convert 57 5 (.int .u64 n)) K w:=by
 refine runK_i (run_conv (k:=.u8) w (by kernel_rfl) (by kernel_rfl)) ?_
 rw [wrapu8_mod];exact h
theorem auint_ok {S:Nat→Prop} {v:Value} {l:List Int} {n:Nat} {w:World} (h:RBytes S w v l) (hl:l.length+20≤1099511627776) (hn:n < 18446744073709551616) :
  callK Tryz.prog 154 [v,.int .u64 n] (fun v' w'=>OBytes w.heap.size w' v' (l++uv n)∧Grow w w') w:=by
 apply S154_ok
 unfold S154
 refine callK_mono (clone_bytes h (by omega)) ?_
 rintro v1 w1 ⟨o1,g1⟩
 have e128:(128:Nat) ^ (9+1)=1180591620717411303424:=by decide
 refine LoopK_i (fun vs W=>∃ (f m:Nat) (pre:List Int) (lv:Value),vs=[lv,.int .u64 m]∧uv n=pre++uvB f m∧m < 128 ^ (f+1)∧m < 18446744073709551616∧pre.length+f=9∧OBytes w.heap.size W lv (l++pre)∧Grow w W) (fun vs _=>iOf vs 1)
  ⟨9,n,[],v1,rfl,rfl,by omega,hn,rfl,by rw [List.append_nil];exact o1,g1⟩ ?_
 rintro vs W ⟨f,m,pre,lv,rfl,hu,hm,hm2,hf,ho,g⟩ _
 simp only [nth_s,nth_z,List.headD_cons,List.tail_cons]
 rw [gtK_i]
 refine condK_p (fun hgt=>?_) fun hle=>?_
 ·cases f with
  | zero=>simp at hm;omega
  | succ f=>
   have hstep:uvB (f+1) m=((m % 128+128:Nat):Int) :: uvB f (m / 128):=by
    simp only [uvB];rw [if_neg (by omega)]
   refine conv64_8 (runK_i (run_or8 W (by omega) (by omega)) ?_)
   have e8:((m:Int) % 256 % 128+128)=((m % 128+128:Nat):Int):=by omega
   rw [e8]
   refine push_n (w0:=w) elem_byte ho g (cs:=[.int .u8 ((m % 128+128:Nat):Int)]) (x:=((m % 128+128:Nat):Int)) (by kernel_rfl) rfl rfl (fun _ _ _=>RByte.one) (fun _ _ _ _ _ _ h=>h) (by simp only [List.length_append];omega) (by simp only [List.length_append,maxLen];omega) fun v' w' o' g'=>?_
   refine runK_i (run_shr (n:=7) w' (by decide)) ?_
   have e7:((m:Int)).fdiv (2 ^ 7)=((m / 128:Nat):Int):=by
    rw [Int.fdiv_eq_ediv_of_nonneg _ (by decide)];show (m:Int) / 128=_;omega
   rw [e7]
   refine ⟨⟨f,m / 128,pre++[((m % 128+128:Nat):Int)],v',rfl,by rw [hu,hstep];simp,?_,by omega,by simp;omega,by rw [←List.append_assoc];exact o',g'⟩,?_⟩
   ·rw [Nat.pow_succ] at hm
    exact Nat.div_lt_of_lt_mul (by omega)
   ·show (((m / 128:Nat):Int)).toNat < ((m:Nat):Int).toNat
    omega
 ·have hend:uvB f m=[(m:Int)]:=by
   cases f with
   | zero=>rfl
   | succ f=>simp only [uvB];rw [if_pos (by omega)]
  refine conv64_8 ?_
  rw [show ((m:Int) % 256)=m by omega]
  refine push_n (w0:=w) elem_byte ho g (cs:=[.int .u8 (m:Int)]) (x:=(m:Int)) (by kernel_rfl) rfl rfl (fun _ _ _=>RByte.one) (fun _ _ _ _ _ _ h=>h) (by simp only [List.length_append];omega) (by simp only [List.length_append,maxLen];omega) fun v' w' o' g'=>?_
  refine ⟨?_,g'⟩
  rw [hu,hend,←List.append_assoc];exact o'
theorem run_xor64 {t:TypeId} {xo yo:Operand} {a b:Int} (w:World) (ha:U64 a) (hb:U64 b):(binS .xor t xo yo (.int .u64 a) (.int .u64 b)).run Tryz.prog w=.ok (.int .u64 ((a.toNat ^^^ b.toNat:Nat):Int)) w:=by
 have e0:(binS .xor t xo yo (.int .u64 a) (.int .u64 b)).run Tryz.prog w=.ok (.int .u64 (IntKind.u64.wrap (BitVec.ofInt IntKind.u64.bits a ^^^ BitVec.ofInt IntKind.u64.bits b).toNat)) w:=by
  simp [binS,eqGuard,binOp,Op.intBits]
 rw [e0]
 have e:((BitVec.ofInt IntKind.u64.bits a ^^^ BitVec.ofInt IntKind.u64.bits b).toNat:Int)=((a.toNat ^^^ b.toNat:Nat):Int):=by
  show ((BitVec.ofInt 64 a ^^^ BitVec.ofInt 64 b).toNat:Int)=_
  unfold U64 at ha hb
  rw [BitVec.toNat_xor,BitVec.toNat_ofInt,BitVec.toNat_ofInt]
  have e:((2 ^ 64:Nat):Int)=18446744073709551616:=by decide
  rw [e,Int.emod_eq_of_lt ha.1 ha.2,Int.emod_eq_of_lt hb.1 hb.2]
 have hlt:a.toNat ^^^ b.toNat < 2 ^ 64:=Nat.xor_lt_two_pow (by unfold U64 at ha;omega) (by unfold U64 at hb;omega)
 rw [e,wrapu64 ⟨by omega,by omega⟩]
theorem wrapu64_mod {x:Int}:IntKind.u64.wrap x=x % 18446744073709551616:=by
 have e1:(2:Int) ^ IntKind.u64.bits=18446744073709551616:=by decide
 simp only [IntKind.wrap,e1,IntKind.signed,Bool.false_and]
 rw [if_neg (by decide)]
theorem zig_ok {n:Int} {w:World} (h0:-9223372036854775808≤n) (h1:n≤9223372036854775807) :
  callK Tryz.prog 155 [.int .i64 n] (fun v' w'=>v'=.int .u64 (zigN n:Nat)∧w'=w) w:=by
 apply S155_ok
 unfold S155
 refine runK_i (run_conv (k:=.u64) w (by kernel_rfl) (by kernel_rfl)) ?_
 refine runK_i (run_shl (n:=1) w (by decide)) ?_
 refine runK_i (run_shr (n:=63) w (by decide)) ?_
 refine runK_i (run_conv (k:=.u64) w (by kernel_rfl) (by kernel_rfl)) ?_
 have ua:U64 (IntKind.u64.wrap (IntKind.u64.wrap n * 2 ^ 1)):=by
  rw [wrapu64_mod];exact ⟨by omega,by omega⟩
 have ub:U64 (IntKind.u64.wrap (n.fdiv (2 ^ 63))):=by
  rw [wrapu64_mod];exact ⟨by omega,by omega⟩
 refine runK_i (run_xor64 w ua ub) ⟨?_,rfl⟩
 congr 1
 rw [wrapu64_mod,wrapu64_mod,wrapu64_mod,Int.fdiv_eq_ediv_of_nonneg _ (by decide)]
 have e63:((2:Int) ^ 63)=9223372036854775808:=by decide
 have e1:((2:Int) ^ 1)=2:=by decide
 rw [e63,e1]
 by_cases hn:0≤n
 ·have q:n / 9223372036854775808=0:=by omega
  rw [q]
  simp only [Int.zero_emod,Int.toNat_zero,Nat.xor_zero]
  unfold zigN
  rw [if_pos hn]
  omega
 ·have q:n / 9223372036854775808=-1:=by omega
  rw [q]
  have r:((-1:Int) % 18446744073709551616).toNat=2 ^ 64 - 1:=by decide
  rw [r,Nat.xor_comm,Lib.xor_ones64 _ (by omega)]
  unfold zigN
  rw [if_neg hn]
  omega
theorem aint_ok {S:Nat→Prop} {v:Value} {l:List Int} {n:Int} {w:World} (h:RBytes S w v l) (hl:l.length+20≤1099511627776) (h0:-9223372036854775808≤n) (h1:n≤9223372036854775807) :
  callK Tryz.prog 139 [v,.int .i64 n] (fun v' w'=>OBytes w.heap.size w' v' (l++uv (zigN n))∧Grow w w') w:=by
 apply S139_ok
 unfold S139
 refine callK_mono (zig_ok h0 h1) ?_
 rintro _ _ ⟨rfl,rfl⟩
 exact callK_mono (auint_ok h hl (zigN_lt h0 h1)) fun _ _ h=>h
end Go.Proofs.YtgmpbihbdbmhoaaGreatDoor

namespace Go.Proofs.YtgmpbihbdbmhoaaGreatDoor
open Go Go.K
def S19 (v0 v1:Value) (K:Cont) (w:World):Prop:=
 lenK v1 fun t10=>
 LoopK [(.int .i64 0),(.int .i64 0)] (fun vs again w1=>∀ _h:Env,
 ltK .i64 (nth vs 1) t10 fun t12=>
 condK t12
 (ixK 5 v1 (nth vs 1) fun t13=>
 ldnK 5 t13 (fun t14 w2=>
 newK 56 [(.int .u8 0),(.int .i64 0),(.slice none 0 0),(.slice none 0 0),(.slice none 0 0)] (fun t7 w3=>
 stnK 5 t7 t14 (fun w4=>
 ldnK 5 t7 (fun t16 w5=>
 callK Tryz.prog 42 [v0,t16] (fun t17 w6=>
 eqK .i64 t17 (.int .i64 3) fun t20=>
 condK t20
 (K t17 w6)
 (neK .i64 t17 (.int .i64 0) fun t24=>
 condK t24
 (addK .i64 (nth vs 1) (.int .i64 1) fun t26=>
 again [t17,t26] w6)
 (addK .i64 (nth vs 1) (.int .i64 1) fun t26_1=>
 again [(nth vs 0),t26_1] w6))) w5) w4) w3) w2) w1)
 (callK Tryz.prog 43 [v1] (fun t28 w7=>
 gtK .i64 t28 (.int .i64 536870912) fun t29=>
 condK t29
 (K (.int .i64 3) w7)
 (callK Tryz.prog 44 [v1] (fun t32 w8=>
 gtK .i64 t32 (.int .i64 536870912) fun t33=>
 condK t33
 (K (.int .i64 3) w8)
 (K (nth vs 0) w8)) w7)) w1)) w
theorem S19_eq (v0 v1:Value) (K:Cont) (w:World):S19 v0 v1 K w=D Tryz.prog okf 36 (bodyOf Tryz.f19) (.node [] [] .nil (.node [] [] .nil (.node [] [] (.node [] [] .nil (.node [5,11] [(4,5),(7,8),(11,26)] (.node [] [] .nil (.node [] [] (.node [] [] .nil .nil) (.node [] [] (.node [] [] .nil (.node [] [] .nil (.node [] [] .nil (.node [] [] (.node [] [] .nil .nil) (.node [] [] .nil (.node [] [] .nil .nil)))))) .nil))) .nil)) (.node [] [] (.node [] [] .nil (.node [] [] (.node [] [] .nil .nil) .nil)) (.node [] [] .nil .nil))))) (retK Tryz.prog [.tmp 4] K) (nth [v0,v1]) w:=by kernel_rfl
theorem S19_ok {v0 v1:Value} {K:Cont} {w:World} (h:S19 v0 v1 K w):callK Tryz.prog 19 [v0,v1] K w:=
 callK_of (P:=Tryz.prog) (ok:=okf) (n:=36) (fn:=Tryz.f19) (c:=bodyOf Tryz.f19) (rs:=[.tmp 4]) (an:=(.node [] [] .nil (.node [] [] .nil (.node [] [] (.node [] [] .nil (.node [5,11] [(4,5),(7,8),(11,26)] (.node [] [] .nil (.node [] [] (.node [] [] .nil .nil) (.node [] [] (.node [] [] .nil (.node [] [] .nil (.node [] [] .nil (.node [] [] (.node [] [] .nil .nil) (.node [] [] .nil (.node [] [] .nil .nil)))))) .nil))) .nil)) (.node [] [] (.node [] [] .nil (.node [] [] (.node [] [] .nil .nil) .nil)) (.node [] [] .nil .nil)))))) good mixed Tryz.func19 (by kernel_rfl) (by kernel_rfl) (by kernel_rfl) (by kernel_rfl) (Eq.mp (S19_eq v0 v1 K w) h)

def S42 (v0 v1:Value) (K:Cont) (w:World):Prop:=
 boxnK 56 v1 (fun t3 w1=>
 JoinK (fun _vs w2=>∀ _h:Env,
 faK 3 t3 fun t20=>
 ld1K t20 (fun t21 w3=>
 callK Tryz.prog 89 [v0,t21] (fun t22 w4=>
 neK .i64 t22 (.int .i64 0) fun t24=>
 condK t24
 (K t22 w4)
 (faK 4 t3 fun t27=>
 ld1K t27 (fun t28 w5=>
 callK Tryz.prog 90 [v0,t28] (fun t29 w6=>
 K t29 w6) w5) w4)) w3) w2) (fun J=>
 ldnK 5 t3 (fun t6 w7=>
 callK Tryz.prog 87 [t6] (fun t7 w8=>
 notK t7 fun t8=>
 condK t8
 (K (.int .i64 3) w8)
 (ldnK 5 t3 (fun t10 w9=>
 callK Tryz.prog 88 [t10] (fun t11 w10=>
 ltK .i64 t11 (.int .i64 1) fun t12=>
 condK t12
 (K (.int .i64 3) w10)
 (ldnK 5 t3 (fun t15 w11=>
 callK Tryz.prog 88 [t15] (fun t16 w12=>
 gtK .i64 t16 (.int .i64 536870912) fun t17=>
 condK t17
 (K (.int .i64 3) w12)
 (J [] w12)) w11) w10)) w9) w8)) w7) w1)) w
theorem S42_eq (v0 v1:Value) (K:Cont) (w:World):S42 v0 v1 K w=D Tryz.prog okf 30 (bodyOf Tryz.f42) (.node [] [] .nil (.cut [] [(4,4),(6,18)] (.node [] [] .nil (.node [] [] (.node [] [] .nil .nil) .nil)) (.node [] [] (.node [] [] .nil (.node [] [] .nil (.node [] [] (.node [] [] .nil .nil) .nil))) (.node [] [] .nil .nil)))) (retK Tryz.prog [.tmp 4] K) (nth [v0,v1]) w:=by kernel_rfl
theorem S42_ok {v0 v1:Value} {K:Cont} {w:World} (h:S42 v0 v1 K w):callK Tryz.prog 42 [v0,v1] K w:=
 callK_of (P:=Tryz.prog) (ok:=okf) (n:=30) (fn:=Tryz.f42) (c:=bodyOf Tryz.f42) (rs:=[.tmp 4]) (an:=(.node [] [] .nil (.cut [] [(4,4),(6,18)] (.node [] [] .nil (.node [] [] (.node [] [] .nil .nil) .nil)) (.node [] [] (.node [] [] .nil (.node [] [] .nil (.node [] [] (.node [] [] .nil .nil) .nil))) (.node [] [] .nil .nil))))) good mixed Tryz.func42 (by kernel_rfl) (by kernel_rfl) (by kernel_rfl) (by kernel_rfl) (Eq.mp (S42_eq v0 v1 K w) h)

def S87 (v0:Value) (K:Cont) (w:World):Prop:=
 boxnK 56 v0 (fun t1 w1=>
 JoinK (fun vs w2=>∀ _h:Env,
 faK 0 t1 fun t14=>
 ld1K t14 (fun t15 w3=>
 eqK .u8 t15 (.int .u8 1) fun t17=>
 condK t17
 (notK (nth vs 0) fun t19=>
 K t19 w3)
 (eqK .u8 t15 (.int .u8 3) fun t21=>
 condK t21
 (notK (nth vs 0) fun t23=>
 condK t23
 (faK 4 t1 fun t25=>
 ld1K t25 (fun t26 w4=>
 lenK t26 fun t27=>
 eqK .i64 t27 (.int .i64 0) fun t28=>
 K t28 w4) w3)
 (K (.bool false) w3))
 (eqK .u8 t15 (.int .u8 2) fun t31=>
 condK t31
 (faK 1 t1 fun t32=>
 ld1K t32 (fun t33 w5=>
 eqK .i64 t33 (.int .i64 0) fun t34=>
 condK t34
 (faK 4 t1 fun t36=>
 ld1K t36 (fun t37 w6=>
 lenK t37 fun t38=>
 eqK .i64 t38 (.int .i64 0) fun t39=>
 condK t39
 (faK 2 t1 fun t42=>
 ld1K t42 (fun t43 w7=>
 callK Tryz.prog 128 [t43,(.func (.func 129) #[] #[])] (fun t44 w8=>
 notK t44 fun t45=>
 K t45 w8) w7) w6)
 (K (.bool false) w6)) w5)
 (K (.bool false) w5)) w3)
 (K (.bool false) w3)))) w2) (fun J=>
 faK 2 t1 fun t4=>
 ld1K t4 (fun t5 w9=>
 lenK t5 fun t6=>
 gtK .i64 t6 (.int .i64 0) fun t7=>
 condK t7
 (J [(.bool true)] w9)
 (faK 3 t1 fun t9=>
 ld1K t9 (fun t10 w10=>
 lenK t10 fun t11=>
 gtK .i64 t11 (.int .i64 0) fun t12=>
 J [t12] w10) w9)) w1)) w
theorem S87_eq (v0:Value) (K:Cont) (w:World):S87 v0 K w=D Tryz.prog okf 47 (bodyOf Tryz.f87) (.node [] [] .nil (.cut [3] [(3,13)] .nil (.node [] [] (.node [] [] .nil (.node [] [] .nil (.node [] [] (.node [] [] .nil .nil) (.node [] [] .nil (.node [] [] (.node [] [] .nil .nil) (.node [] [] .nil (.node [] [] (.node [] [] .nil .nil) .nil))))))) (.node [] [] .nil .nil)))) (retK Tryz.prog [.tmp 2] K) (nth [v0]) w:=by kernel_rfl
theorem S87_ok {v0:Value} {K:Cont} {w:World} (h:S87 v0 K w):callK Tryz.prog 87 [v0] K w:=
 callK_of (P:=Tryz.prog) (ok:=okf) (n:=47) (fn:=Tryz.f87) (c:=bodyOf Tryz.f87) (rs:=[.tmp 2]) (an:=(.node [] [] .nil (.cut [3] [(3,13)] .nil (.node [] [] (.node [] [] .nil (.node [] [] .nil (.node [] [] (.node [] [] .nil .nil) (.node [] [] .nil (.node [] [] (.node [] [] .nil .nil) (.node [] [] .nil (.node [] [] (.node [] [] .nil .nil) .nil))))))) (.node [] [] .nil .nil))))) good mixed Tryz.func87 (by kernel_rfl) (by kernel_rfl) (by kernel_rfl) (by kernel_rfl) (Eq.mp (S87_eq v0 K w) h)

def S129 (v0:Value) (K:Cont) (w:World):Prop:=
 callK Tryz.prog 102 [v0] (fun t4 w1=>
 notK t4 fun t5=>
 K t5 w1) w
theorem S129_eq (v0:Value) (K:Cont) (w:World):S129 v0 K w=D Tryz.prog okf 6 (bodyOf Tryz.f129) (.node [] [] .nil (.node [] [] .nil .nil)) (retK Tryz.prog [.tmp 2] K) (nth [v0]) w:=by kernel_rfl
theorem S129_ok {v0:Value} {K:Cont} {w:World} (h:S129 v0 K w):callK Tryz.prog 129 [v0] K w:=
 callK_of (P:=Tryz.prog) (ok:=okf) (n:=6) (fn:=Tryz.f129) (c:=bodyOf Tryz.f129) (rs:=[.tmp 2]) (an:=(.node [] [] .nil (.node [] [] .nil .nil))) good mixed Tryz.func129 (by kernel_rfl) (by kernel_rfl) (by kernel_rfl) (by kernel_rfl) (Eq.mp (S129_eq v0 K w) h)

def S88 (v0:Value) (K:Cont) (w:World):Prop:=
 boxnK 56 v0 (fun t1 w1=>
 faK 0 t1 fun t3=>
 ld1K t3 (fun t4 w2=>
 eqK .u8 t4 (.int .u8 2) fun t5=>
 condK t5
 (faK 2 t1 fun t6=>
 ld1K t6 (fun t7 w3=>
 lenK t7 fun t8=>
 K t8 w3) w2)
 (faK 1 t1 fun t9=>
 ld1K t9 (fun t10 w4=>
 K t10 w4) w2)) w1) w
theorem S88_eq (v0:Value) (K:Cont) (w:World):S88 v0 K w=D Tryz.prog okf 11 (bodyOf Tryz.f88) (.node [] [] .nil (.node [] [] (.node [] [] .nil (.node [] [] (.node [] [] .nil .nil) .nil)) (.node [] [] .nil .nil))) (retK Tryz.prog [.tmp 2] K) (nth [v0]) w:=by kernel_rfl
theorem S88_ok {v0:Value} {K:Cont} {w:World} (h:S88 v0 K w):callK Tryz.prog 88 [v0] K w:=
 callK_of (P:=Tryz.prog) (ok:=okf) (n:=11) (fn:=Tryz.f88) (c:=bodyOf Tryz.f88) (rs:=[.tmp 2]) (an:=(.node [] [] .nil (.node [] [] (.node [] [] .nil (.node [] [] (.node [] [] .nil .nil) .nil)) (.node [] [] .nil .nil)))) good mixed Tryz.func88 (by kernel_rfl) (by kernel_rfl) (by kernel_rfl) (by kernel_rfl) (Eq.mp (S88_eq v0 K w) h)

def S43 (v0:Value) (K:Cont) (w:World):Prop:=
 lenK v0 fun t7=>
 LoopK [(.int .i64 0),(.int .i64 0)] (fun vs again w1=>∀ _h:Env,
 ltK .i64 (nth vs 1) t7 fun t9=>
 condK t9
 (ixK 5 v0 (nth vs 1) fun t10=>
 ldnK 5 t10 (fun t11 w2=>
 newK 56 [(.int .u8 0),(.int .i64 0),(.slice none 0 0),(.slice none 0 0),(.slice none 0 0)] (fun t5 w3=>
 stnK 5 t5 t11 (fun w4=>
 faK 0 t5 fun t12=>
 ld1K t12 (fun t13 w5=>
 neK .u8 t13 (.int .u8 2) fun t14=>
 condK t14
 (faK 1 t5 fun t16=>
 ld1K t16 (fun t17 w6=>
 addK .i64 (nth vs 0) t17 fun t18=>
 addK .i64 (nth vs 1) (.int .i64 1) fun t19=>
 again [t18,t19] w6) w5)
 (addK .i64 (nth vs 1) (.int .i64 1) fun t19_1=>
 again [(nth vs 0),t19_1] w5)) w4) w3) w2) w1)
 (K (nth vs 0) w1)) w
theorem S43_eq (v0:Value) (K:Cont) (w:World):S43 v0 K w=D Tryz.prog okf 21 (bodyOf Tryz.f43) (.node [] [] .nil (.node [] [] .nil (.node [] [] (.node [] [] .nil (.node [3,8] [(3,3),(5,5),(8,19)] (.node [] [] .nil (.node [] [] (.node [] [] .nil .nil) (.node [] [] (.node [] [] .nil (.node [] [] .nil (.node [] [] .nil .nil))) .nil))) .nil)) (.node [] [] .nil .nil)))) (retK Tryz.prog [.tmp 2] K) (nth [v0]) w:=by kernel_rfl
theorem S43_ok {v0:Value} {K:Cont} {w:World} (h:S43 v0 K w):callK Tryz.prog 43 [v0] K w:=
 callK_of (P:=Tryz.prog) (ok:=okf) (n:=21) (fn:=Tryz.f43) (c:=bodyOf Tryz.f43) (rs:=[.tmp 2]) (an:=(.node [] [] .nil (.node [] [] .nil (.node [] [] (.node [] [] .nil (.node [3,8] [(3,3),(5,5),(8,19)] (.node [] [] .nil (.node [] [] (.node [] [] .nil .nil) (.node [] [] (.node [] [] .nil (.node [] [] .nil (.node [] [] .nil .nil))) .nil))) .nil)) (.node [] [] .nil .nil))))) good mixed Tryz.func43 (by kernel_rfl) (by kernel_rfl) (by kernel_rfl) (by kernel_rfl) (Eq.mp (S43_eq v0 K w) h)

def S44 (v0:Value) (K:Cont) (w:World):Prop:=
 lenK v0 fun t7=>
 LoopK [(.int .i64 0),(.int .i64 0)] (fun vs again w1=>∀ _h:Env,
 ltK .i64 (nth vs 1) t7 fun t9=>
 condK t9
 (ixK 5 v0 (nth vs 1) fun t10=>
 ldnK 5 t10 (fun t11 w2=>
 newK 56 [(.int .u8 0),(.int .i64 0),(.slice none 0 0),(.slice none 0 0),(.slice none 0 0)] (fun t5 w3=>
 stnK 5 t5 t11 (fun w4=>
 faK 0 t5 fun t12=>
 ld1K t12 (fun t13 w5=>
 neK .u8 t13 (.int .u8 3) fun t14=>
 condK t14
 (ldnK 5 t5 (fun t16 w6=>
 callK Tryz.prog 88 [t16] (fun t17 w7=>
 addK .i64 (nth vs 0) t17 fun t18=>
 addK .i64 (nth vs 1) (.int .i64 1) fun t19=>
 again [t18,t19] w7) w6) w5)
 (addK .i64 (nth vs 1) (.int .i64 1) fun t19_1=>
 again [(nth vs 0),t19_1] w5)) w4) w3) w2) w1)
 (K (nth vs 0) w1)) w
theorem S44_eq (v0:Value) (K:Cont) (w:World):S44 v0 K w=D Tryz.prog okf 21 (bodyOf Tryz.f44) (.node [] [] .nil (.node [] [] .nil (.node [] [] (.node [] [] .nil (.node [3,8] [(3,3),(5,5),(8,19)] (.node [] [] .nil (.node [] [] (.node [] [] .nil .nil) (.node [] [] (.node [] [] .nil (.node [] [] .nil (.node [] [] .nil .nil))) .nil))) .nil)) (.node [] [] .nil .nil)))) (retK Tryz.prog [.tmp 2] K) (nth [v0]) w:=by kernel_rfl
theorem S44_ok {v0:Value} {K:Cont} {w:World} (h:S44 v0 K w):callK Tryz.prog 44 [v0] K w:=
 callK_of (P:=Tryz.prog) (ok:=okf) (n:=21) (fn:=Tryz.f44) (c:=bodyOf Tryz.f44) (rs:=[.tmp 2]) (an:=(.node [] [] .nil (.node [] [] .nil (.node [] [] (.node [] [] .nil (.node [3,8] [(3,3),(5,5),(8,19)] (.node [] [] .nil (.node [] [] (.node [] [] .nil .nil) (.node [] [] (.node [] [] .nil (.node [] [] .nil (.node [] [] .nil .nil))) .nil))) .nil)) (.node [] [] .nil .nil))))) good mixed Tryz.func44 (by kernel_rfl) (by kernel_rfl) (by kernel_rfl) (by kernel_rfl) (Eq.mp (S44_eq v0 K w) h)

def S102 (v0:Value) (K:Cont) (w:World):Prop:=
 callK Tryz.prog 140 [v0] (fun t4 w1=>
 K t4 w1) w
theorem S102_eq (v0:Value) (K:Cont) (w:World):S102 v0 K w=D Tryz.prog okf 5 (bodyOf Tryz.f102) (.node [] [] .nil (.node [] [] .nil .nil)) (retK Tryz.prog [.tmp 2] K) (nth [v0]) w:=by kernel_rfl
theorem S102_ok {v0:Value} {K:Cont} {w:World} (h:S102 v0 K w):callK Tryz.prog 102 [v0] K w:=
 callK_of (P:=Tryz.prog) (ok:=okf) (n:=5) (fn:=Tryz.f102) (c:=bodyOf Tryz.f102) (rs:=[.tmp 2]) (an:=(.node [] [] .nil (.node [] [] .nil .nil))) good mixed Tryz.func102 (by kernel_rfl) (by kernel_rfl) (by kernel_rfl) (by kernel_rfl) (Eq.mp (S102_eq v0 K w) h)

def S140 (v0:Value) (K:Cont) (w:World):Prop:=
 leK .i32 (.int .i32 0) v0 fun t5=>
 condK t5
 (ltK .i32 v0 (.int .i32 55296) fun t8=>
 condK t8
 (K (.bool true) w)
 (ltK .i32 (.int .i32 57343) v0 fun t12=>
 condK t12
 (leK .i32 v0 (.int .i32 1114111) fun t15=>
 condK t15
 (K (.bool true) w)
 (K (.bool false) w))
 (K (.bool false) w)))
 (ltK .i32 (.int .i32 57343) v0 fun t12_1=>
 condK t12_1
 (leK .i32 v0 (.int .i32 1114111) fun t15_1=>
 condK t15_1
 (K (.bool true) w)
 (K (.bool false) w))
 (K (.bool false) w))
theorem S140_eq (v0:Value) (K:Cont) (w:World):S140 v0 K w=D Tryz.prog okf 17 (bodyOf Tryz.f140) (.node [] [] .nil (.node [] [] (.node [] [] .nil (.node [] [] (.node [] [] .nil .nil) (.node [] [] .nil (.node [] [] (.node [] [] .nil .nil) .nil)))) (.node [] [] .nil .nil))) (retK Tryz.prog [.tmp 2] K) (nth [v0]) w:=by kernel_rfl
theorem S140_ok {v0:Value} {K:Cont} {w:World} (h:S140 v0 K w):callK Tryz.prog 140 [v0] K w:=
 callK_of (P:=Tryz.prog) (ok:=okf) (n:=17) (fn:=Tryz.f140) (c:=bodyOf Tryz.f140) (rs:=[.tmp 2]) (an:=(.node [] [] .nil (.node [] [] (.node [] [] .nil (.node [] [] (.node [] [] .nil .nil) (.node [] [] .nil (.node [] [] (.node [] [] .nil .nil) .nil)))) (.node [] [] .nil .nil)))) good mixed Tryz.func140 (by kernel_rfl) (by kernel_rfl) (by kernel_rfl) (by kernel_rfl) (Eq.mp (S140_eq v0 K w) h)

def S128 (v0 v1:Value) (K:Cont) (w:World):Prop:=
 callK Tryz.prog 148 [v0,v1] (fun t7 w1=>
 geK .i64 t7 (.int .i64 0) fun t8=>
 K t8 w1) w
theorem S128_eq (v0 v1:Value) (K:Cont) (w:World):S128 v0 v1 K w=D Tryz.prog okf 9 (bodyOf Tryz.f128) (.node [] [] .nil (.node [] [] .nil .nil)) (retK Tryz.prog [.tmp 4] K) (nth [v0,v1]) w:=by kernel_rfl
theorem S128_ok {v0 v1:Value} {K:Cont} {w:World} (h:S128 v0 v1 K w):callK Tryz.prog 128 [v0,v1] K w:=
 callK_of (P:=Tryz.prog) (ok:=okf) (n:=9) (fn:=Tryz.f128) (c:=bodyOf Tryz.f128) (rs:=[.tmp 4]) (an:=(.node [] [] .nil (.node [] [] .nil .nil))) good mixed Tryz.func128 (by kernel_rfl) (by kernel_rfl) (by kernel_rfl) (by kernel_rfl) (Eq.mp (S128_eq v0 v1 K w) h)

def S148 (v0 v1:Value) (K:Cont) (w:World):Prop:=
 lenK v0 fun t7=>
 LoopK [(.int .i64 0)] (fun vs again w1=>∀ _h:Env,
 ltK .i64 (nth vs 0) t7 fun t9=>
 condK t9
 (ixK 1 v0 (nth vs 0) fun t14=>
 ld1K t14 (fun t15 w2=>
 callyK Tryz.prog okf v1 [t15] (fun t16 w3=>
 condK t16
 (K (nth vs 0) w3)
 (addK .i64 (nth vs 0) (.int .i64 1) fun t18=>
 again [t18] w3)) w2) w1)
 (K (.int .i64 (-1)) w1)) w
theorem S148_eq (v0 v1:Value) (K:Cont) (w:World):S148 v0 v1 K w=D Tryz.prog okf 19 (bodyOf Tryz.f148) (.node [] [] .nil (.node [] [] (.node [] [] .nil (.node [8] [(4,5),(8,18)] (.node [] [] .nil (.node [] [] (.node [] [] .nil .nil) (.node [] [] (.node [] [] .nil (.node [] [] .nil (.node [] [] (.node [] [] .nil .nil) .nil))) .nil))) .nil)) (.node [] [] .nil .nil))) (retK Tryz.prog [.tmp 4] K) (nth [v0,v1]) w:=by kernel_rfl
theorem S148_ok {v0 v1:Value} {K:Cont} {w:World} (h:S148 v0 v1 K w):callK Tryz.prog 148 [v0,v1] K w:=
 callK_of (P:=Tryz.prog) (ok:=okf) (n:=19) (fn:=Tryz.f148) (c:=bodyOf Tryz.f148) (rs:=[.tmp 4]) (an:=(.node [] [] .nil (.node [] [] (.node [] [] .nil (.node [8] [(4,5),(8,18)] (.node [] [] .nil (.node [] [] (.node [] [] .nil .nil) (.node [] [] (.node [] [] .nil (.node [] [] .nil (.node [] [] (.node [] [] .nil .nil) .nil))) .nil))) .nil)) (.node [] [] .nil .nil)))) good mixed Tryz.func148 (by kernel_rfl) (by kernel_rfl) (by kernel_rfl) (by kernel_rfl) (Eq.mp (S148_eq v0 v1 K w) h)

def S90 (v0 v1:Value) (K:Cont) (w:World):Prop:=
 lenK v1 fun t11=>
 gtK .i64 t11 (.int .i64 64) fun t12=>
 condK t12
 (K (.int .i64 3) w)
 (lenK v1 fun t14=>
 LoopK [(.int .i64 0),(.int .i64 0)] (fun vs again w1=>∀ _h:Env,
 ltK .i64 (nth vs 1) t14 fun t16=>
 condK t16
 (JoinK (fun vs_1 w2=>∀ _h_1:Env,
 addK .i64 (nth vs 1) (.int .i64 1) fun t75=>
 again [(nth vs_1 0),t75] w2) (fun J=>
 ixK 6 v1 (nth vs 1) fun t18=>
 ldnK 6 t18 (fun t19 w3=>
 newK 63 [(.int .i64 0),(.bool false),(.int .u8 0),(.int .i64 0),(.int .u64 0),(.string (ByteArray.mk #[]))] (fun t7 w4=>
 stnK 6 t7 t19 (fun w5=>
 faK 0 t7 fun t22=>
 ld1K t22 (fun t23 w6=>
 callK Tryz.prog 132 [v0,t23] (fun t24 w7=>
 extK 0 t24 fun t25=>
 extK 1 t24 fun t26=>
 newK 43 [(.int .i64 0),(.bool false),(.int .u8 0),(.bool false),(.bool false),(.int .i64 0)] (fun t8 w8=>
 stnK 6 t8 t25 (fun w9=>
 JoinK (fun vs_2 w10=>∀ _h_2:Env,
 condK (nth vs_2 0)
 (K (.int .i64 3) w10)
 (notK t26 fun t60=>
 condK t60
 (J [(.int .i64 4)] w10)
 (faK 1 t7 fun t62=>
 ld1K t62 (fun t63 w11=>
 notK t63 fun t64=>
 condK t64
 (faK 0 t7 fun t67=>
 ld1K t67 (fun t68 w12=>
 faK 2 t7 fun t69=>
 ldnK 4 t69 (fun t70 w13=>
 callK Tryz.prog 131 [v0,t68,t70] (fun t71 w14=>
 notK t71 fun t72=>
 condK t72
 (J [(.int .i64 4)] w14)
 (J [(nth vs 0)] w14)) w13) w12) w11)
 (J [(nth vs 0)] w11)) w10))) (fun J_1=>
 JoinK (fun vs_3 w15=>∀ _h_3:Env,
 condK (nth vs_3 0)
 (J_1 [(nth vs_3 0)] w15)
 (faK 1 t7 fun t41=>
 ld1K t41 (fun t42 w16=>
 condK t42
 (faK 2 t7 fun t44=>
 ldnK 4 t44 (fun t45 w17=>
 buildK [(0,1),(1,1),(2,1),(3,1)] [(.int .u8 0),(.int .i64 0),(.int .u64 0),(.string (ByteArray.mk #[]))] [] fun t46=>
 runK Tryz.prog (binS .neq 59 (.tmp 45) (.tmp 46) t45 t46) (fun t47 w18=>
 condK t47
 (J_1 [t47] w18)
 (faK 1 t7 fun t49=>
 ld1K t49 (fun t50 w19=>
 notK t50 fun t51=>
 condK t51
 (faK 2 t7 fun t53=>
 ldnK 4 t53 (fun t54 w20=>
 callK Tryz.prog 130 [t54] (fun t55 w21=>
 notK t55 fun t56=>
 J_1 [t56] w21) w20) w19)
 (J_1 [(.bool false)] w19)) w18)) w17) w16)
 (faK 1 t7 fun t49_1=>
 ld1K t49_1 (fun t50_1 w22=>
 notK t50_1 fun t51_1=>
 condK t51_1
 (faK 2 t7 fun t53_1=>
 ldnK 4 t53_1 (fun t54_1 w23=>
 callK Tryz.prog 130 [t54_1] (fun t55_1 w24=>
 notK t55_1 fun t56_1=>
 J_1 [t56_1] w24) w23) w22)
 (J_1 [(.bool false)] w22)) w16)) w15)) (fun J_2=>
 DrawK w9 (fun C=>
 gtK .i64 (nth vs 1) (.int .i64 0) fun t29=>
 condK t29
 (subK .i64 (nth vs 1) (.int .i64 1) fun t33=>
 ixK 6 v1 t33 fun t34=>
 faK 0 t34 fun t35=>
 qld1K C t35 fun t36=>
 faK 0 t7 fun t37=>
 qld1K C t37 fun t38=>
 geK .i64 t36 t38 fun t39=>
 ∀ w25:World,C w25→
 J_2 [t39] w25)
 (∀ w26:World,C w26→
 J_2 [(.bool false)] w26))))) w8) w7) w6) w5) w4) w3) w1))
 (K (nth vs 0) w1)) w)
theorem S90_eq (v0 v1:Value) (K:Cont) (w:World):S90 v0 v1 K w=D Tryz.prog okf 77 (bodyOf Tryz.f90) (.node [] [] .nil (.node [] [] (.node [] [] .nil (.node [] [] (.node [] [] .nil .nil) .nil)) (.node [] [] .nil (.node [] [] (.node [] [] .nil (.node [5,15] [(4,9),(15,75)] (.node [] [] .nil (.node [] [] (.node [] [] .nil .nil) (.cut [5] [(4,9),(17,74)] (.node [] [] .nil (.node [] [] .nil (.cut [27] [(27,57)] (.cut [27] [(27,40)] .draw (.node [] [] .nil (.node [] [] .nil (.node [] [] .nil .nil)))) (.node [] [] (.node [] [] .nil .nil) (.node [] [] .nil (.node [] [] .nil .nil)))))) .nil))) .nil)) (.node [] [] .nil .nil))))) (retK Tryz.prog [.tmp 4] K) (nth [v0,v1]) w:=by kernel_rfl
theorem S90_ok {v0 v1:Value} {K:Cont} {w:World} (h:S90 v0 v1 K w):callK Tryz.prog 90 [v0,v1] K w:=
 callK_of (P:=Tryz.prog) (ok:=okf) (n:=77) (fn:=Tryz.f90) (c:=bodyOf Tryz.f90) (rs:=[.tmp 4]) (an:=(.node [] [] .nil (.node [] [] (.node [] [] .nil (.node [] [] (.node [] [] .nil .nil) .nil)) (.node [] [] .nil (.node [] [] (.node [] [] .nil (.node [5,15] [(4,9),(15,75)] (.node [] [] .nil (.node [] [] (.node [] [] .nil .nil) (.cut [5] [(4,9),(17,74)] (.node [] [] .nil (.node [] [] .nil (.cut [27] [(27,57)] (.cut [27] [(27,40)] .draw (.node [] [] .nil (.node [] [] .nil (.node [] [] .nil .nil)))) (.node [] [] (.node [] [] .nil .nil) (.node [] [] .nil (.node [] [] .nil .nil)))))) .nil))) .nil)) (.node [] [] .nil .nil)))))) good mixed Tryz.func90 (by kernel_rfl) (by kernel_rfl) (by kernel_rfl) (by kernel_rfl) (Eq.mp (S90_eq v0 v1 K w) h)

end Go.Proofs.YtgmpbihbdbmhoaaGreatDoor

namespace Go.K
open Go
theorem OwnR.conv {α:Type} {B e k:Nat} {R0 R:World→List Value→α→Prop} {w:World} {g n c:Nat} {l:List α} (h:OwnR B e k R0 w (.slice (some ⟨g,0,none⟩) n c) l)
  (hR:∀ i (hi:i < l.length) (r:List Value),r.length=k→(∀ u ∈ r,u.oneCell'=true)→(∀ q u,r[q]?=some u→w.cell? ⟨g,i * k+q,none⟩=some u)→R w r l[i]):OwnR B e k R w (.slice (some ⟨g,0,none⟩) n c) l:=by
 obtain ⟨rows,h1,h2,h3,h4⟩:=h
 have hrl:∀ r ∈ rows,r.length=k:=fun r hr=>(h3 r hr).1
 have hn:n=l.length:=by
  rcases h1.2 with ⟨h',_⟩ | ⟨g',cap',cur,h',_⟩
  ·simp at h'
  ·simp only [Value.slice.injEq] at h';exact h'.2.1
 subst hn
 refine ⟨rows,h1,h2,h3,fun i r x hr hx=>?_⟩
 have hi:i < l.length:=(List.getElem?_eq_some_iff.1 hx).1
 have hx':x=l[i]:=by rw [List.getElem?_eq_getElem hi] at hx;exact (Option.some.inj hx).symm
 subst hx'
 have hm:=List.mem_of_getElem? hr
 refine hR i hi r (hrl r hm) (h3 r hm).2 fun q u hu=>?_
 have hq:q < k:=by rw [←hrl r hm];exact (List.getElem?_eq_some_iff.1 hu).1
 have hlt:i * k+q < l.length * k:=by
  have:(i+1) * k≤l.length * k:=Nat.mul_le_mul_right _ hi
  rw [Nat.add_mul] at this;omega
 have:=h1.cellAt _ hlt
 rw [flat_get rows i q r hrl hr hq] at this
 rw [←hu];exact this
theorem OwnR.any {α:Type} {B e k:Nat} {R0:World→List Value→α→Prop} {w:World} {v:Value} {l:List α} (h:OwnR B e k R0 w v l):OwnR B e k (fun _ _ _=>True) w v l:=by
 obtain ⟨rows,h1,h2,h3,_⟩:=h
 exact ⟨rows,h1,h2,h3,fun _ _ _ _ _=>trivial⟩
theorem OwnR.setAny {α:Type} {B e k:Nat} {w:World} {g n c:Nat} {l:List α} (h:OwnR B e k (fun _ _ _=>True) w (.slice (some ⟨g,0,none⟩) n c) l) {i j:Nat} (hi:i < l.length) (hj:j < k) {u:Value} (hu:u.oneCell'=true) :
  OwnR B e k (fun _ _ _=>True) (w.setCell ⟨g,i * k+j,none⟩ u) (.slice (some ⟨g,0,none⟩) n c) l:=by
 have hs:=(OwnR.store (R':=fun _ _ _=>True) (x':=l[i]) h hi hj hu (fun _ _ _ _=>trivial) fun _ _=>trivial).2.2.1
 have e:l.set i l[i]=l:=List.set_getElem_self hi
 rw [e] at hs
 have hadd:(⟨g,0,none⟩:Addr).add (i * k+j)=⟨g,i * k+j,none⟩:=by unfold Addr.add;split <;> simp_all
 rw [hadd] at hs
 exact hs
theorem setA (W:World) (g o:Nat) (u:Value):Mod (fun b=>b=g) W (W.setCell ⟨g,o,none⟩ u):=Mod.setCell _ _ _ rfl
theorem OwnR.cellsOf {α:Type} {B e k:Nat} {R:World→List Value→α→Prop} {w:World} {g n c:Nat} {l:List α} (h:OwnR B e k R w (.slice (some ⟨g,0,none⟩) n c) l) {i:Nat} (hi:i < l.length) :
  ∃ r,r.length=k∧(∀ q u,r[q]?=some u→w.cell? ⟨g,i * k+q,none⟩=some u)∧R w r l[i]∧∀ q,q < k→Live w ⟨g,i * k+q,none⟩:=by
 obtain ⟨p,r,e1,_,hr,hc,hR⟩:=(OwnR.sl h).get hi
 cases e1
 have hadd:∀ q,(⟨g,0,none⟩:Addr).add (i * k+q)=⟨g,i * k+q,none⟩:=fun q=>by unfold Addr.add;split <;> simp_all
 refine ⟨r,hr,fun q u hu=>by rw [←hadd];exact hc q u hu,hR,fun q hq=>?_⟩
 obtain ⟨g',e2,_,hl⟩:=OwnR.live h hi hq
 cases e2
 rw [hadd] at hl;exact hl
end Go.K
namespace Go.Proofs.YtgmpbihbdbmhoaaGreatDoor
open Go Go.K

def OpAt (W:World) (g j:Nat) (o:Dop) (rv sv pv:Value):Prop:=∀ q u,[Value.int .u8 o.kind,.int .i64 o.n,rv,sv,pv][q]?=some u→W.cell? ⟨g,j * 5+q,none⟩=some u
theorem OpAt.cong {W W':World} {g j:Nat} {o:Dop} {rv sv pv:Value} (h:OpAt W g j o rv sv pv) (hW:∀ q,q < 5→W'.cell? ⟨g,j * 5+q,none⟩=W.cell? ⟨g,j * 5+q,none⟩):OpAt W' g j o rv sv pv:=by
 intro q u hu
 have:=(List.getElem?_eq_some_iff.1 hu).1
 simp only [List.length_cons,List.length_nil] at this
 rw [hW q (by omega)];exact h q u hu
theorem copy_dops {S D:Nat→Prop} {v:Value} {x:List Dop} {w:World} (h:RDops S D w v x) (hb:mDops x≤1099511627776) :
  callK Tryz.prog 98 [v] (fun v' w'=>ODops w.heap.size w' v' x∧Grow w w') w:=by
 apply S98_ok
 unfold S98
 have hxl:=mDops_len x
 refine callK_mono (clone_dops h (by omega)) ?_
 rintro v1 w1 ⟨o1,g1⟩
 obtain ⟨a1,c1,rfl,hc1,hcm,hp,hn⟩:=OwnR.shape o1
 simp only [maxLen] at hcm
 rw [lenK_i]
 cases a1 with
 | none=>
  have:=hn rfl
  subst this
  refine LoopK_i (fun vs w2=>vs=[.int .i64 0]∧w2=w1) (fun _ _=>0) ⟨rfl,rfl⟩ ?_
  rintro vs _ ⟨rfl,rfl⟩ _
  rename World=>w1
  rw [nth_z,List.headD_cons,ltK_i]
  exact condK_p (fun h=>by simp at h) fun _=>⟨OwnR.mod o1 (Mod.refl (fun _=>False) _) (fun _ _ h=>h) fun r y hy=>by simp at hy,g1⟩
 | some p1=>
  obtain ⟨g,rfl,hg1,hg2,_⟩:=hp _ rfl
  have hsz:∀ o ∈ x,o.runes.length * 4≤140737488355328∧o.set.length * 48≤140737488355328∧o.patch.length * 56≤140737488355328:=by
   intro o ho
   have:=mDops_mem ho
   simp only [mDop,mSet_eq,mPat_eq] at this
   omega
  -- what the row has,i ops done
  let F:Nat→Prop:=fun b=>w.heap.size≤b∧b≠g
  let D0:Nat→Prop:=fun b=>D b∧b < w.heap.size
  let Inv:Nat→World→Prop:=fun i W=>OwnR w.heap.size 56 5 (fun _ _ _=>True) W (.slice (some ⟨g,0,none⟩) x.length c1) x∧Mod (fun b=>b=g) w1 W∧
   ∀ j (hj:j < x.length),∃ rv sv pv,OpAt W g j x[j] rv sv pv∧(j < i→ODop F W [.int .u8 x[j].kind,.int .i64 x[j].n,rv,sv,pv] x[j])∧(i≤j→RDop D0 W [.int .u8 x[j].kind,.int .i64 x[j].n,rv,sv,pv] x[j])
  have inv0:Inv 0 w1:=by
   refine ⟨o1.any,Mod.refl _ _,fun j hj=>?_⟩
   obtain ⟨r,hr,hcl,ho,_⟩:=OwnR.cellsOf o1 hj
   obtain ⟨rv,sv,pv,rfl,q1,q2,q3⟩:=ho
   exact ⟨rv,sv,pv,hcl,fun h=>by omega,fun _=>⟨rv,sv,pv,rfl,q1,q2,q3⟩⟩
  have hz1:=g1.size
  refine LoopK_i (fun vs W=>∃ i:Nat,i≤x.length∧vs=[.int .i64 i]∧Inv i W) (fun vs _=>x.length - iOf vs 0) ⟨0,Nat.zero_le _,rfl,inv0⟩ ?_
  rintro vs w2 ⟨i,hi,rfl,hinv⟩ _
  rw [nth_z,List.headD_cons,ltK_i]
  refine condK_p (fun hlt=>?_) fun hge=>?_
  ·have hlt':i < x.length:=by omega
   obtain ⟨oA,mA,rows⟩:=hinv
   have hz2:=mA.size
   obtain ⟨rv,sv,pv,hat,_,hrd⟩:=rows i hlt'
   obtain ⟨_,_,_,e,q1,q2,q3⟩:=hrd (Nat.le_refl _)
   simp only [List.cons.injEq,and_true,true_and] at e
   obtain ⟨rfl,rfl,rfl⟩:=e
   have hmem:x[i] ∈ x:=by simp
   obtain ⟨z1,z2,z3⟩:=hsz _ hmem
   have gd:Grow w2 w2.drew:=Mod.drew _ _
   refine drawC_i (fun k b=>(k=26∨k=29∨k=32)∧b=g) ?_
   -- the loads are of cells that the stores turn,which wait for them
   have ld:∀ q u,[Value.int .u8 x[i].kind,.int .i64 x[i].n,rv,sv,pv][q]?=some u→w2.drew.cell? ((⟨g,0,none⟩:Addr).add (i * 5+q))=some u:=fun q u hu=>by rw [addr0];exact hat q u hu
   have lv:∀ q,q < 5→Live w2 ⟨g,i * 5+q,none⟩:=by
    obtain ⟨_,_,_,_,hl⟩:=OwnR.cellsOf oA hlt'
    exact hl
   refine ixK_n hlt' ?_
   rw [faK_i,Addr.add_add]
   refine sld1_i ⟨ld 2 _ rfl,fun j hj h=>by rcases h with ⟨rfl | rfl | rfl,_⟩ <;> exact absurd hj (by decide)⟩ ?_
   refine callK_mono (clone_run (q1.grow gd (by decide) fun _ _ h=>h) z1) ?_
   rintro t1 w3 ⟨n1,g3⟩
   refine ⟨Grow.mod g3,?_⟩
   have g23:=gd.trans g3
   refine ixK_n hlt' ?_
   rw [faK_i,Addr.add_add]
   refine sld1_i ⟨ld 3 _ rfl,fun j hj h=>by rcases h with ⟨rfl | rfl | rfl,_⟩ <;> exact absurd hj (by decide)⟩ ?_
   refine callK_mono (copy_set (q2.grow g23 (by decide) fun _ _ h=>h) z2) ?_
   rintro t2 w4 ⟨n2,g4⟩
   refine ⟨Grow.mod g4,?_⟩
   have g24:=g23.trans g4
   refine ixK_n hlt' ?_
   rw [faK_i,Addr.add_add]
   refine sld1_i ⟨ld 4 _ rfl,fun j hj h=>by rcases h with ⟨rfl | rfl | rfl,_⟩ <;> exact absurd hj (by decide)⟩ ?_
   refine callK_mono (copy_pat (q3.grow g24 (by decide) fun _ _ h=>h) z3) ?_
   rintro t3 w5 ⟨n3,g5⟩
   refine ⟨Grow.mod g5,?_⟩
   have g25:=g24.trans g5
   have hz5:=g25.size
   have zd:w2.drew.heap.size=w2.heap.size:=rfl
   have hz3:=g3.size
   have hz4:=g4.size
   have lv5:∀ q,q < 5→Live w5 ⟨g,i * 5+q,none⟩:=fun q hq=>(lv q hq).mod g25 fun h=>h
   have n1':OwnR 0 21 1 RRune w5 t1 x[i].runes:=OwnR.base (OwnR.mod n1 (g4.trans g5) (fun _ _ h=>h) fun _ _ _ h=>h) fun _ _=>Nat.zero_le _
   have n2':OSet 0 w5 t2 x[i].set:=OwnR.base (OwnR.mod n2 g5 (fun _ _ h=>h) fun _ _ _ h=>h) fun _ _=>Nat.zero_le _
   have n3':OwnR 0 63 6 RChg w5 t3 x[i].patch:=OwnR.base n3 fun _ _=>Nat.zero_le _
   have b1:∀ b,t1.ownBlock=some b→F b:=fun b hb=>by have:=(OwnR.ownB n1 b hb).1;exact ⟨by omega,by omega⟩
   have b2:∀ b,t2.ownBlock=some b→F b:=fun b hb=>by have:=(OwnR.ownB n2 b hb).1;exact ⟨by omega,by omega⟩
   have b3:∀ b,t3.ownBlock=some b→F b:=fun b hb=>by have:=(OwnR.ownB n3 b hb).1;exact ⟨by omega,by omega⟩
   have oA5:OwnR w.heap.size 56 5 (fun _ _ _=>True) w5 (.slice (some ⟨g,0,none⟩) x.length c1) x:=OwnR.mod oA g25 (fun _ _ h=>h) fun _ _ _ _=>trivial
   have ht1:=OwnR.one n1'
   have ht2:=OwnR.one n2'
   have ht3:=OwnR.one n3'
   refine ixK_n hlt' ?_
   rw [faK_i,Addr.add_add,addr0]
   refine (lv5 2 (by decide)).st ht1.1 ht1.2 ⟨Mod.setCell _ _ _ ⟨.inl rfl,rfl⟩,?_⟩
   refine ixK_n hlt' ?_
   rw [faK_i,Addr.add_add,addr0]
   refine ((lv5 3 (by decide)).set _ _).st ht2.1 ht2.2 ⟨Mod.setCell _ _ _ ⟨.inr (.inl rfl),rfl⟩,?_⟩
   refine ixK_n hlt' ?_
   rw [faK_i,Addr.add_add,addr0]
   refine (((lv5 4 (by decide)).set _ _).set _ _).st ht3.1 ht3.2 ⟨Mod.setCell _ _ _ ⟨.inr (.inr rfl),rfl⟩,?_⟩
   rw [addK_i,loop_step (by omega)]
   refine ⟨⟨i+1,hlt',rfl,?_⟩,by rw [iOf0,iOf0];omega⟩
   have oA6:=OwnR.setAny (OwnR.setAny (OwnR.setAny oA5 hlt' (show 2 < 5 by decide) ht1.1) hlt' (show 3 < 5 by decide) ht2.1) hlt' (show 4 < 5 by decide) ht3.1
   have m56:Mod (fun b=>b=g) w5 (((w5.setCell ⟨g,i * 5+2,none⟩ t1).setCell ⟨g,i * 5+3,none⟩ t2).setCell ⟨g,i * 5+4,none⟩ t3):=((setA _ _ _ _).trans (setA _ _ _ _)).trans (setA _ _ _ _)
   have oth:∀ j q,q < 5→(j≠i∨q < 2)→(((w5.setCell ⟨g,i * 5+2,none⟩ t1).setCell ⟨g,i * 5+3,none⟩ t2).setCell ⟨g,i * 5+4,none⟩ t3).cell? ⟨g,j * 5+q,none⟩=w5.cell? ⟨g,j * 5+q,none⟩:=by
    intro j q hq hj
    have ne:∀ q',q' < 5→2≤q'→(⟨g,i * 5+q',none⟩:Addr)≠⟨g,j * 5+q,none⟩:=by
     intro q' h1 h2 e
     simp only [Addr.mk.injEq,and_true,true_and] at e
     omega
    rw [World.cell?_setCell_other _ _ _ _ (ne 4 (by omega) (by omega)),World.cell?_setCell_other _ _ _ _ (ne 3 (by omega) (by omega)),World.cell?_setCell_other _ _ _ _ (ne 2 (by omega) (by omega))]
   have same:∀ j q u,w2.cell? ⟨g,j * 5+q,none⟩=some u→w5.cell? ⟨g,j * 5+q,none⟩=some u:=fun j q u hu=>g25.cell hu fun h=>h
   generalize hW:(((w5.setCell ⟨g,i * 5+2,none⟩ t1).setCell ⟨g,i * 5+3,none⟩ t2).setCell ⟨g,i * 5+4,none⟩ t3)=W at oA6 m56 oth ⊢
   refine ⟨oA6,mA.trans ((Grow.mod g25).trans m56),fun j hj=>?_⟩
   by_cases hji:j=i
   ·subst hji
    refine ⟨t1,t2,t3,fun q u hu=>?_,fun _=>⟨t1,t2,t3,rfl,own_mod ⟨n1',b1⟩ m56 (fun b _ hb e=>hb.2 e) (fun _ _ h=>h) fun _ _ h=>h,own_mod ⟨n2',b2⟩ m56 (fun b _ hb e=>hb.2 e) (fun _ _ h=>h) fun _ _ h=>h,own_mod ⟨n3',b3⟩ m56 (fun b _ hb e=>hb.2 e) (fun _ _ h=>h) fun _ _ h=>h⟩,fun h=>by omega⟩
    have hq:=(List.getElem?_eq_some_iff.1 hu).1
    simp only [List.length_cons,List.length_nil] at hq
    have ne:∀ q q',q≠q'→(⟨g,j * 5+q',none⟩:Addr)≠⟨g,j * 5+q,none⟩:=by
     intro q q' h e
     simp only [Addr.mk.injEq,and_true,true_and] at e
     omega
    have some5:∀ q,q < 5→∃ u,w5.cell? ⟨g,j * 5+q,none⟩=some u:=fun q hq=>Option.isSome_iff_exists.1 (lv5 q hq).1
    rw [←hW]
    match q,hq,hu with
    | 0,_,hu=>rw [hW,oth j 0 (by omega) (.inr (by omega))];exact same _ _ _ (hat 0 u hu)
    | 1,_,hu=>rw [hW,oth j 1 (by omega) (.inr (by omega))];exact same _ _ _ (hat 1 u hu)
    | 2,_,hu=>
     simp only [List.getElem?_cons_succ,List.getElem?_cons_zero,Option.some.injEq] at hu;subst hu
     obtain ⟨u',hu'⟩:=some5 2 (by omega)
     rw [World.cell?_setCell_other _ _ _ _ (ne 2 4 (by decide)),World.cell?_setCell_other _ _ _ _ (ne 2 3 (by decide))]
     exact World.cell?_setCell_same _ _ _ hu'
    | 3,_,hu=>
     simp only [List.getElem?_cons_succ,List.getElem?_cons_zero,Option.some.injEq] at hu;subst hu
     obtain ⟨u',hu'⟩:=some5 3 (by omega)
     rw [World.cell?_setCell_other _ _ _ _ (ne 3 4 (by decide))]
     exact World.cell?_setCell_same _ _ _ ((World.cell?_setCell_other _ _ _ _ (ne 3 2 (by decide))).trans hu')
    | 4,_,hu=>
     simp only [List.getElem?_cons_succ,List.getElem?_cons_zero,Option.some.injEq] at hu;subst hu
     obtain ⟨u',hu'⟩:=some5 4 (by omega)
     exact World.cell?_setCell_same _ _ _ ((World.cell?_setCell_other _ _ _ _ (ne 4 3 (by decide))).trans ((World.cell?_setCell_other _ _ _ _ (ne 4 2 (by decide))).trans hu'))
   ·obtain ⟨rv',sv',pv',hat',hod',hrd'⟩:=rows j hj
    refine ⟨rv',sv',pv',OpAt.cong (W:=w5) (fun q u hu=>same _ _ _ (hat' q u hu)) fun q hq=>oth j q hq (.inl hji),fun h=>?_,fun h=>?_⟩
    ·exact (ODop.mod (hod' (by omega)) (D':=F) g25 (fun _ _ _ h=>h) fun _ _ h=>h).mod m56 (fun b _ hb e=>hb.2 e) fun _ _ h=>h
    ·exact (RDop.mod (hrd' (by omega)) (D':=D0) g25 (fun _ _ _ h=>h) fun _ _ h=>h).mod m56 (fun b _ hb e=>by have:=hb.2;omega) fun _ _ h=>h
  ·have:i=x.length:=by omega
   subst this
   obtain ⟨oA,mA,rows⟩:=hinv
   refine ⟨OwnR.conv oA fun j hj r hr hone hcl=>?_,g1.next mA fun b hb e=>by omega⟩
   obtain ⟨rv,sv,pv,hat,hod,_⟩:=rows j hj
   have e:r=[.int .u8 x[j].kind,.int .i64 x[j].n,rv,sv,pv]:=by
    refine List.ext_getElem? fun q=>?_
    by_cases hq:q < 5
    ·have h1:r[q]?=some r[q]:=List.getElem?_eq_getElem (by omega)
     have h2:([Value.int .u8 x[j].kind,.int .i64 x[j].n,rv,sv,pv])[q]?=some ([Value.int .u8 x[j].kind,.int .i64 x[j].n,rv,sv,pv])[q]:=List.getElem?_eq_getElem (by simpa using hq)
     have h3:=hcl q _ h1
     rw [hat q _ h2] at h3
     rw [h1,h2,h3]
    ·rw [List.getElem?_eq_none (by omega),List.getElem?_eq_none (by simp;omega)]
   subst e
   exact (hod hj).mod (Mod.refl (fun _=>False) _) (fun _ _ _ h=>h) fun b _ hb=>⟨hb.1,fun e=>hb.2 (by simpa [Value.ownBlock] using e.symm)⟩
end Go.Proofs.YtgmpbihbdbmhoaaGreatDoor

namespace Go.K
open Go
theorem cap_run {P:Program} {t ty e:TypeId} {a:Option Addr} {n c:Nat} {w:World} (ht:P.underlying t=some (.slice e)):(Builtin.cap_ #[t] ty #[.slice a n c]).run P w=.ok (.int .i64 c) w:=by
 simp [Builtin.cap_,run_underlying ht,goInt]
theorem sliceHi_run {P:Program} {t e k:Nat} {i:TypeInfo} {a:Option Addr} {n c h:Nat} {w:World} (ht:P.underlying t=some (.slice e)) (hi:P.info? e=some i) (hk:i.size=k) (hh:h≤c) :
  (Instr.sliceAt t (.slice a n c) none (some (.int .i64 h)) none).run P w=.ok (.slice (if c=0 then a else a.map (·.add (0 * k))) h c) w:=by
 have hel:P.elem t=e:=by simp [Program.elem,ht]
 rw [run_sliceAt_slice _ _ _ _ _ _ (by rw [hel];exact ht),run_slice_h _ _ _ _ _ (by rw [hel];exact ht) _ _ (by omega) (by omega),hel]
 simp [sizeOf,typeInfo,hi,hk,sliced]
end Go.K
namespace Go.Proofs.YtgmpbihbdbmhoaaGreatDoor
open Go Go.K

theorem grow_nil {n:Nat} {w:World} (hn:n * 88≤140737488355328) (R:World→List Value→Dop→Prop) :
  callK Tryz.prog 138 [.slice none 0 0,.int .i64 n] (fun v' w'=>OwnR w.heap.size 56 5 R w' v' []∧Grow w w') w:=by
 apply S138_ok
 unfold S138
 refine JoinK_i (fun vs w1=>w1=w) ?_ ?_
 ·rintro vs _ rfl _
  rename World=>w
  refine runK_i (cap_run (e:=56) (by kernel_rfl)) ?_
  rw [lenK_i,subK_i,subK_i,gtK_i]
  have e0:IntKind.i64.wrap ((n:Int) - IntKind.i64.wrap (((0:Nat):Int) - ((0:Nat):Int)))=n:=by rw [wrap64 (x:=((0:Nat):Int) - ((0:Nat):Int)) (by omega) (by omega),wrap64 (by omega) (by omega)];omega
  rw [e0]
  refine condK_p (fun hp=>?_) fun _=>⟨OwnR.nil,Mod.refl _ _⟩
  refine runK_i (cap_run (e:=56) (by kernel_rfl)) ?_
  refine runK_i (sliceHi_run (e:=56) (i:=Tryz.t56) (k:=5) (h:=0) (by kernel_rfl) (by kernel_rfl) (by kernel_rfl) (Nat.le_refl _)) ?_
  simp only [if_true]
  obtain ⟨i,z,h1,h2,h3,h4,h5,h6,h7⟩:=elem_dop
  have hbz:i.bytes=88:=h5
  refine runK_i (Go.Lib.run_append_nil_zeros (P:=Tryz.prog) w 23 3 23 56 i z .i64 .i64 h1 (by kernel_rfl) h2 h3 n (by omega) (by omega) (by omega) (by rw [hbz];omega)) ?_
  have hge:=grownCap_ge w n 0 56
  have hml:=grownCap_le_maxLen w n 0 56 (by simp only [maxLen];omega)
  have hg:Grow w (w.drew.alloc (.cells (Builtin.zeroCells z.cells n++Builtin.zeroCells z.cells (grownCap w n 0 56 - n)) 56)):=(Mod.drew _ _).trans (Mod.alloc _ _ _)
  have hh:=heap_alloc_new w.drew (.cells (Builtin.zeroCells z.cells n++Builtin.zeroCells z.cells (grownCap w n 0 56 - n)) 56)
  generalize w.drew.alloc (.cells (Builtin.zeroCells z.cells n++Builtin.zeroCells z.cells (grownCap w n 0 56 - n)) 56)=w2 at hg hh ⊢
  rw [lenK_i]
  refine runK_i (sliceHi_run (e:=56) (i:=Tryz.t56) (k:=5) (h:=0) (by kernel_rfl) (by kernel_rfl) (by kernel_rfl) (Nat.zero_le _)) ⟨?_,hg⟩
  rw [if_neg (by omega)]
  simp only [Option.map_some,addr0,Nat.zero_mul]
  refine ⟨[],⟨rfl,.inr ⟨_,_,_,rfl,Nat.le_refl _,hh,Nat.zero_le _,hml,?_,by simp⟩⟩,rfl,by simp,by simp⟩
  simp only [Array.size_append,size_zeroCells,h6,←Nat.add_mul]
  rw [Nat.add_sub_cancel' hge]
 ·rw [ltK_i]
  exact condK_p (fun h=>by omega) fun _=>rfl
theorem concat_dops {S1 D1 S2 D2:Nat→Prop} {va vb:Value} {l m:List Dop} {p:Addr} {w:World} (ha:RDops S1 D1 w va l) (hb:RDops S2 D2 w vb m) (h0:w.cell? p=some va) (h1:w.cell? (p.add 1)=some vb) (hl:(l.length+m.length) * 88≤140737488355328) :
  callK Tryz.prog 97 [.slice (some p) 2 2] (fun v' w'=>OwnR w.heap.size 56 5 (RDop fun b=>(D1 b∨D2 b)∧b < w.heap.size) w' v' (l++m)∧Grow w w') w:=by
 apply S97_ok
 unfold S97
 obtain ⟨a1,c1,rfl,m1⟩:=ha.shape
 obtain ⟨a2,c2,rfl,m2⟩:=hb.shape
 rw [lenK_i]
 have n0:((2:Nat):Int)=2:=rfl
 refine LoopK_i (fun vs w1=>∃ k:Nat,k≤2∧vs=[.int .i64 (if k=0 then (0:Nat) else if k=1 then l.length else l.length+m.length:Nat),.int .i64 k]∧w1=w) (fun vs _=>2 - iOf vs 1) ⟨0,by omega,rfl,rfl⟩ ?_
 rintro vs _ ⟨k,hk,rfl,rfl⟩ _
 rename World=>w
 simp only [nth_s,nth_z,List.headD_cons,List.tail_cons]
 rw [ltK_i]
 refine condK_p (fun hlt=>?_) fun hge=>?_
 ·have hk2:k=0∨k=1:=by omega
  rcases hk2 with rfl | rfl
  ·refine ixK_n (by decide) ?_
   have e:(p.add (0 * 1))=p.add 0:=rfl
   rw [e,Addr.add_zero']
   refine ld1K_i h0 ?_
   rw [lenK_i,addK_i,wrap64 (by simp <;> omega) (by simp <;> omega),ltK_i]
   refine condK_p (fun h=>by simp at h <;> omega) fun _=>?_
   rw [addK_i,loop_step (by omega)]
   exact ⟨⟨1,by omega,by simp,rfl⟩,by rw [iOf1,iOf1];omega⟩
  ·refine ixK_n (by decide) ?_
   refine ld1K_i (show w.cell? (p.add (1 * 1))=_ from h1) ?_
   rw [lenK_i,addK_i,wrap64 (by simp <;> omega) (by simp <;> omega),ltK_i]
   refine condK_p (fun h=>by simp at h <;> omega) fun _=>?_
   rw [addK_i,loop_step (by omega)]
   exact ⟨⟨2,by omega,by simp,rfl⟩,by rw [iOf1,iOf1];omega⟩
 ·have hk2:k=2:=by omega
  subst hk2
  simp only [show ¬ (2:Nat)=0 by decide,show ¬ (2:Nat)=1 by decide,if_false]
  refine callK_mono (grow_nil hl (RDop fun b=>(D1 b∨D2 b)∧b < w.heap.size)) ?_
  rintro v1 w1 ⟨o1,g1⟩
  rw [lenK_i]
  let R:=RDop fun b=>(D1 b∨D2 b)∧b < w.heap.size
  have hz1:=g1.size
  have ha1:SlR (fun _=>True) 5 R w1 (.slice a1 l.length c1) l:=SlR.mono ha.old (fun _ _ _=>trivial) (fun b hb _=>g1.same b hb fun h=>h) (by decide) fun r x hx=>hx.mod g1 (fun _ _ _ h=>h) fun b _ h=>⟨.inl h.1,h.2⟩
  have hb1:SlR (fun _=>True) 5 R w1 (.slice a2 m.length c2) m:=SlR.mono hb.old (fun _ _ _=>trivial) (fun b hb _=>g1.same b hb fun h=>h) (by decide) fun r x hx=>hx.mod g1 (fun _ _ _ h=>h) fun b _ h=>⟨.inr h.1,h.2⟩
  have pst:∀ {W W':World} {M:Nat→Prop},Mod M W W'→(∀ b,M b→w.heap.size≤b)→∀ r y,R W r y→R W' r y:=fun hm hM r y hy=>hy.mod hm (fun b _ hd hb=>by have:=hM b hb;omega) fun _ _ h=>h
  refine LoopK_i (fun vs w2=>∃ (k:Nat) (out:Value) (acc:List Dop),k≤2∧vs=[out,.int .i64 k]∧acc=(if k=0 then [] else if k=1 then l else l++m)∧OwnR w.heap.size 56 5 R w2 out acc∧Grow w w2) (fun vs _=>2 - iOf vs 1) ⟨0,v1,[],by omega,rfl,rfl,o1,g1⟩ ?_
  rintro vs w2 ⟨k,out,acc,hk,rfl,hacc,ho,g2⟩ _
  simp only [nth_s,nth_z,List.headD_cons,List.tail_cons]
  rw [ltK_i]
  have one:∀ {W:World} (j:Nat) (y z:List Dop) (x o:Value),SlR (fun _=>True) 5 R w x y→OwnR w.heap.size 56 5 R W o z→Grow w W→(z.length+y.length) * 88≤140737488355328→
    runK Tryz.prog (Builtin.append_ #[23,23] 23 [o,x].toArray) (fun v' w'=>OwnR w.heap.size 56 5 R w' v' (z++y)∧Grow w w') W:=by
   intro W j y z x o hx hz hW hb
   have hx':SlR (fun _=>True) 5 R W x y:=by
    refine SlR.mono (hx.old (by decide)) (fun _ _ _=>trivial) (fun b hb h=>hW.same b hb fun h=>h) (by decide) fun r q hq=>pst hW (fun _ h=>h.elim) r q hq
   obtain ⟨v',w',r1,r2,r3,r4⟩:=OwnR.append (ty:=23) elem_dop hz hx' (fun _ _=>RDop.one) hb hW.size (by simp only [maxLen];omega) fun w' hg r q hq=>pst (Mod.of_grownBy hg) (fun b e=>(OwnR.ownB hz b e).1) r q hq
   exact runK_i r1 ⟨r2,hW.next (Mod.of_grownBy r3) fun b hb e=>by have:=(OwnR.ownB hz b e).1;omega⟩
  have ha0:SlR (fun _=>True) 5 R w (.slice a1 l.length c1) l:=SlR.sub ha.old (fun _ _ _=>trivial) (by decide) fun r x hx=>hx.mod (Mod.refl (fun _=>False) _) (fun _ _ _ h=>h) fun b _ h=>⟨.inl h.1,h.2⟩
  have hb0:SlR (fun _=>True) 5 R w (.slice a2 m.length c2) m:=SlR.sub hb.old (fun _ _ _=>trivial) (by decide) fun r x hx=>hx.mod (Mod.refl (fun _=>False) _) (fun _ _ _ h=>h) fun b _ h=>⟨.inr h.1,h.2⟩
  refine condK_p (fun hlt=>?_) fun hge=>?_
  ·have hk2:k=0∨k=1:=by omega
   rcases hk2 with rfl | rfl
   ·refine ixK_n (by decide) ?_
    have e:(p.add (0 * 1))=p.add 0:=rfl
    rw [e,Addr.add_zero']
    refine ld1K_i (g2.cell h0 fun h=>h) ?_
    simp only [if_true] at hacc
    subst hacc
    obtain ⟨v',w',r1,r2,r3⟩:=one 0 l [] _ out ha0 ho g2 (by simp;omega)
    refine runK_i r1 ?_
    rw [addK_i,loop_step (by omega)]
    exact ⟨⟨1,v',_,by omega,rfl,by simp,r2,r3⟩,by rw [iOf1,iOf1];omega⟩
   ·refine ixK_n (by decide) ?_
    refine ld1K_i (g2.cell (show w.cell? (p.add (1 * 1))=_ from h1) fun h=>h) ?_
    simp only [show ¬ (1:Nat)=0 by decide,if_true,if_false] at hacc
    subst hacc
    obtain ⟨v',w',r1,r2,r3⟩:=one 0 m acc _ out hb0 ho g2 hl
    refine runK_i r1 ?_
    rw [addK_i,loop_step (by omega)]
    exact ⟨⟨2,v',_,by omega,rfl,by simp,r2,r3⟩,by rw [iOf1,iOf1];omega⟩
  ·have hk2:k=2:=by omega
   subst hk2
   simp only [show ¬ (2:Nat)=0 by decide,show ¬ (2:Nat)=1 by decide,if_false] at hacc
   subst hacc
   exact ⟨ho,g2⟩
end Go.Proofs.YtgmpbihbdbmhoaaGreatDoor

namespace Go.Proofs.YtgmpbihbdbmhoaaGreatDoor
open Go Go.K

abbrev TOp:Nat:=56
abbrev row5 (o:Dop) (rv sv pv:Value):List Value:=[.int .u8 o.kind,.int .i64 o.n,rv,sv,pv]
def InsRows (C:Nat→Prop) (h:Nat) (W:World) (g:Nat) (ins:List Dop):Prop:=0 < ins.length∧∀ j (hj:j < ins.length),∃ rv sv pv,OpAt W g j ins[j] rv sv pv∧RDop (fun x=>C x∨x=h) W (row5 ins[j] rv sv pv) ins[j]∧
 (j+1=ins.length→OwnR 0 21 1 RRune W rv ins[j].runes∧rv.ownBlock=some h∧RSet C W sv ins[j].set∧RPat C W pv ins[j].patch)∧(j+1 < ins.length→RDop C W (row5 ins[j] rv sv pv) ins[j])
structure MkR (F:Nat→Prop) (W:World) (b:Nat) (s:MkS) (dv iv:Value) (C:Nat→Prop) (hot:Option Nat):Prop where
 c0:W.cell? ⟨b,0,none⟩=some dv
 c1:W.cell? ⟨b,1,none⟩=some iv
 c2:W.cell? ⟨b,2,none⟩=some (.int .i64 s.gone)
 lv:∀ q,q < 3→Live W ⟨b,q,none⟩
 fb:F b
 nb:¬ C b
 cf:∀ x,C x→F x∧x < W.heap.size
 done:OwnR 0 TOp 5 (RDop C) W dv s.done
 dF:∀ g,dv.ownBlock=some g→F g∧¬ C g∧g≠b
 ins:(s.ins=[]∧iv=.slice none 0 0∧hot=none)∨∃ g c h,iv=.slice (some ⟨g,0,none⟩) s.ins.length c∧hot=some h∧OwnR 0 TOp 5 (fun _ _ _=>True) W iv s.ins∧F g∧¬ C g∧g≠b∧dv.ownBlock≠some g∧
  F h∧¬ C h∧h≠b∧h≠g∧dv.ownBlock≠some h∧h < W.heap.size∧InsRows C h W g s.ins
def MkI (F:Nat→Prop) (W:World) (b:Nat) (s:MkS):Prop:=∃ dv iv C hot,MkR F W b s dv iv C hot
theorem OpAt.mod {W W':World} {M:Nat→Prop} {g j:Nat} {o:Dop} {rv sv pv:Value} (h:OpAt W g j o rv sv pv) (hm:Mod M W W') (hg:¬ M g):OpAt W' g j o rv sv pv:=fun q u hu=>hm.cell (h q u hu) hg
theorem InsRows.mod {C M:Nat→Prop} {h:Nat} {W W':World} {g:Nat} {ins:List Dop} (hi:InsRows C h W g ins) (hm:Mod M W W') (hg:¬ M g) (hh:¬ M h) (hC:∀ x,C x→¬ M x):InsRows C h W' g ins:=by
 refine ⟨hi.1,fun j hj=>?_⟩
 obtain ⟨rv,sv,pv,q1,q2,q3,q4⟩:=hi.2 j hj
 refine ⟨rv,sv,pv,q1.mod hm hg,q2.mod hm (fun b _ hb=>by rcases hb with hb | rfl;exact hC b hb;exact hh) fun _ _ h=>h,fun e=>?_,fun e=>(q4 e).mod hm (fun b _ hb=>hC b hb) fun _ _ h=>h⟩
 obtain ⟨p1,p2,p3,p4⟩:=q3 e
 exact ⟨OwnR.mod p1 hm (fun g hg=>by rw [p2] at hg;cases hg;exact hh) fun _ _ _ h=>h,p2,p3.mono (fun _ _ h=>h) (fun b hb hc=>hm.same b hb (hC b hc)) (by decide) fun _ _ h=>h,p4.mono (fun _ _ h=>h) (fun b hb hc=>hm.same b hb (hC b hc)) (by decide) fun _ _ h=>h⟩
theorem RDop.cmod {C M:Nat→Prop} {W W':World} {r:List Value} {o:Dop} (h:RDop C W r o) (hm:Mod M W W') (hC:∀ x,C x→¬ M x):RDop C W' r o:=h.mod hm (fun b _ hb=>hC b hb) fun _ _ h=>h
theorem MkR.mod {F M C:Nat→Prop} {W W':World} {b:Nat} {s:MkS} {dv iv:Value} {hot:Option Nat} (h:MkR F W b s dv iv C hot) (hm:Mod M W W') (hF:∀ x,F x→¬ M x):MkR F W' b s dv iv C hot:=by
 have hb:=hF b h.fb
 have hC:∀ x,C x→¬ M x:=fun x hx=>hF x (h.cf x hx).1
 refine ⟨hm.cell h.c0 hb,hm.cell h.c1 hb,hm.cell h.c2 hb,fun q hq=>(h.lv q hq).mod hm hb,h.fb,h.nb,fun x hx=>⟨(h.cf x hx).1,Nat.lt_of_lt_of_le (h.cf x hx).2 hm.size⟩,OwnR.mod h.done hm (fun g hg=>hF g (h.dF g hg).1) fun r x _ hx=>hx.cmod hm hC,h.dF,?_⟩
 rcases h.ins with h0 | ⟨g,c,hh,e1,e2,e3,e4,e5,e6,e7,e8,e9,e10,e11,e12,e13,e14⟩
 ·exact .inl h0
 ·exact .inr ⟨g,c,hh,e1,e2,OwnR.mod e3 hm (fun g' hg'=>by rw [e1] at hg';simp only [Value.ownBlock,Option.some.injEq] at hg';subst hg';exact hF _ e4) fun _ _ _ _=>trivial,e4,e5,e6,e7,e8,e9,e10,e11,e12,Nat.lt_of_lt_of_le e13 hm.size,e14.mod hm (hF g e4) (hF hh e8) hC⟩
theorem MkR.grow {F C:Nat→Prop} {W W':World} {b:Nat} {s:MkS} {dv iv:Value} {hot:Option Nat} (h:MkR F W b s dv iv C hot) (hm:Grow W W'):MkR F W' b s dv iv C hot:=h.mod hm fun _ _ h=>h
theorem MkI.mod {F M:Nat→Prop} {W W':World} {b:Nat} {s:MkS} (h:MkI F W b s) (hm:Mod M W W') (hF:∀ x,F x→¬ M x):MkI F W' b s:=by
 obtain ⟨dv,iv,C,hot,h⟩:=h
 exact ⟨dv,iv,C,hot,h.mod hm hF⟩
theorem MkI.sub {F F':Nat→Prop} {W:World} {b:Nat} {s:MkS} (h:MkI F W b s) (hF:∀ x,F x→F' x):MkI F' W b s:=by
 obtain ⟨dv,iv,C,hot,h⟩:=h
 refine ⟨dv,iv,C,hot,h.c0,h.c1,h.c2,h.lv,hF _ h.fb,h.nb,fun x hx=>⟨hF _ (h.cf x hx).1,(h.cf x hx).2⟩,h.done,fun g hg=>⟨hF _ (h.dF g hg).1,(h.dF g hg).2⟩,?_⟩
 rcases h.ins with h0 | ⟨g,c,hh,e1,e2,e3,e4,e5,e6,e7,e8,e9⟩
 ·exact .inl h0
 ·exact .inr ⟨g,c,hh,e1,e2,e3,hF _ e4,e5,e6,e7,hF _ e8,e9⟩
theorem new_ok {w:World}:callK Tryz.prog 46 [] (fun v w'=>Grow w w'∧∃ b,w.heap.size≤b∧b < w'.heap.size∧v=.pointer (some ⟨b,0,none⟩)∧MkI (fun x=>x=b) w' b MkS.z) w:=by
 apply S46_ok
 unfold S46
 refine ⟨#[.slice none 0 0,.slice none 0 0,.int .i64 0],by kernel_rfl,?_⟩
 refine boxn_i (vs:=[.slice none 0 0,.slice none 0 0,.int .i64 0]) fun b w1 hb hz g hc hl=>?_
 have a0:∀ j,(⟨b,0,none⟩:Addr).add j=⟨b,j,none⟩:=fun j=>addr0 b j
 refine ⟨g,b,by omega,by omega,rfl,_,_,fun _=>False,none,by rw [←a0];exact hc 0 _ rfl,by rw [←a0];exact hc 1 _ rfl,by rw [←a0];exact hc 2 _ rfl,fun q hq=>by rw [←a0];exact hl q hq,rfl,fun h=>h,fun _ h=>h.elim,OwnR.nil,fun g hg=>(nomatch hg),.inl ⟨rfl,rfl,rfl⟩⟩
theorem delete_ok {F:Nat→Prop} {w:World} {b:Nat} {s:MkS} {n:Int} (h:MkI F w b s):callK Tryz.prog 49 [.pointer (some ⟨b,0,none⟩),.int .i64 n] (fun _ w'=>MkI F w' b (delS s n)∧Mod F w w') w:=by
 apply S49_ok
 unfold S49
 obtain ⟨dv,iv,C,hot,h⟩:=h
 rw [pnilK_i]
 simp only [Option.isNone_some,Bool.not_false]
 rw [condK_b,if_pos rfl,nilckK_i,faK_i,addr0]
 refine ld1K_i h.c2 ?_
 rw [maxK_i,addK_i,nilckK_i,faK_i,addr0]
 have e:(if (0:Int) > n then (0:Int) else n)=maxI n 0:=rfl
 rw [e]
 refine (h.lv 2 (by decide)).st rfl rfl ?_
 have hm:=setA w b 2 (.int .i64 (IntKind.i64.wrap (s.gone+maxI n 0)))
 have ne:∀ q,q < 2→(⟨b,2,none⟩:Addr)≠⟨b,q,none⟩:=fun q hq e=>by simp only [Addr.mk.injEq] at e;omega
 obtain ⟨u,hu⟩:=Option.isSome_iff_exists.1 (h.lv 2 (by decide)).1
 have nC:∀ x,C x→¬ x=b:=fun x hx e=>h.nb (e ▸ hx)
 refine ⟨⟨dv,iv,C,hot,(World.cell?_setCell_other _ _ _ _ (ne 0 (by decide))).trans h.c0,(World.cell?_setCell_other _ _ _ _ (ne 1 (by decide))).trans h.c1,World.cell?_setCell_same _ _ _ hu,fun q hq=>(h.lv q hq).set _ _,h.fb,h.nb,fun x hx=>⟨(h.cf x hx).1,Nat.lt_of_lt_of_le (h.cf x hx).2 hm.size⟩,OwnR.mod h.done hm (fun g hg=>(h.dF g hg).2.2) fun r x _ hx=>hx.cmod hm nC,h.dF,?_⟩,hm.mono fun x _ e=>by rw [e];exact h.fb⟩
 rcases h.ins with h0 | ⟨g,c,hh,e1,e2,e3,e4,e5,e6,e7,e8,e9,e10,e11,e12,e13,e14⟩
 ·exact .inl h0
 ·exact .inr ⟨g,c,hh,e1,e2,OwnR.mod e3 hm (fun g' hg'=>by rw [e1] at hg';simp only [Value.ownBlock,Option.some.injEq] at hg';subst hg';exact e6) fun _ _ _ _=>trivial,e4,e5,e6,e7,e8,e9,e10,e11,e12,Nat.lt_of_lt_of_le e13 hm.size,e14.mod hm e6 e10 nC⟩
theorem MkR.insRd {F C:Nat→Prop} {W:World} {b:Nat} {s:MkS} {dv iv:Value} {hot:Option Nat} (h:MkR F W b s dv iv C hot):RDops (fun _=>True) (fun x=>(C x∨hot=some x)∧x < W.heap.size) W iv s.ins:=by
 rcases h.ins with ⟨e1,e2,_⟩ | ⟨g,c,hh,e1,e2,e3,e4,e5,e6,e7,e8,e9,e10,e11,e12,e13,e14⟩
 ·rw [e1,e2];exact SlR.nil
 ·subst e1;subst e2
  have o:=OwnR.conv (R:=RDop fun x=>(C x∨some hh=some x)∧x < W.heap.size) e3 fun j hj r hr hone hcl=>?_
  ·exact SlR.sub (OwnR.sl o) (fun _ _ _=>trivial) (by decide) fun _ _ h=>h
  ·obtain ⟨rv,sv,pv,q1,q2,_,_⟩:=e14.2 j hj
   have e:r=row5 s.ins[j] rv sv pv:=by
    refine List.ext_getElem? fun q=>?_
    by_cases hq:q < 5
    ·have h1:r[q]?=some r[q]:=List.getElem?_eq_getElem (by omega)
     have h2:(row5 s.ins[j] rv sv pv)[q]?=some (row5 s.ins[j] rv sv pv)[q]:=List.getElem?_eq_getElem (by simpa using hq)
     have h3:=hcl q _ h1
     rw [q1 q _ h2] at h3
     rw [h1,h2,h3]
    ·rw [List.getElem?_eq_none (by omega),List.getElem?_eq_none (by simp;omega)]
   subst e
   exact q2.mod (Mod.refl (fun _=>False) _) (fun _ _ _ h=>h) fun x hx hc=>by
    refine ⟨?_,hx⟩
    rcases hc with hc | hc
    ·exact .inl hc
    ·exact .inr (by rw [hc])
theorem gap_ok {F C:Nat→Prop} {w:World} {b:Nat} {s:MkS} {dv iv:Value} {hot:Option Nat} (h:MkR F w b s dv iv C hot) (hl:(s.ins.length+1) * 88≤140737488355328) :
  callK Tryz.prog 91 [.pointer (some ⟨b,0,none⟩)] (fun v' w'=>OwnR w.heap.size TOp 5 (RDop fun x=>(C x∨hot=some x)∧x < w.heap.size) w' v' (gapL s.ins s.gone)∧Grow w w') w:=by
 apply S91_ok
 unfold S91
 rw [nilckK_i,faK_i,addr0]
 refine ld1K_i h.c1 ?_
 refine callK_mono (clone_dops h.insRd (by omega)) ?_
 rintro v1 w1 ⟨o1,g1⟩
 have o1':OwnR w.heap.size TOp 5 (RDop fun x=>(C x∨hot=some x)∧x < w.heap.size) w1 v1 s.ins:=OwnR.mod o1 (Mod.refl (fun _=>False) _) (fun _ _ h=>h) fun r x _ hx=>hx.mod (Mod.refl (fun _=>False) _) (fun _ _ _ h=>h) fun _ _ h=>h.1
 rw [nilckK_i,faK_i,addr0]
 refine ld1K_i (g1.cell h.c2 fun h=>h) ?_
 rw [gtK_i]
 refine condK_p (fun hg=>?_) fun hg=>⟨by rw [gapL,if_neg hg];exact o1',g1⟩
 rw [nilckK_i,faK_i,addr0]
 refine ld1K_i (g1.cell h.c2 fun h=>h) ?_
 refine ⟨#[.int .u8 3,.int .i64 s.gone,.slice none 0 0,.slice none 0 0,.slice none 0 0],by kernel_rfl,?_⟩
 refine push_n (w0:=w) elem_dop o1' g1 (cs:=row5 ⟨3,s.gone,[],[],[]⟩ (.slice none 0 0) (.slice none 0 0) (.slice none 0 0)) (x:=⟨3,s.gone,[],[],[]⟩) (by kernel_rfl) rfl ⟨_,_,_,rfl,SlR.nil,SlR.nil,SlR.nil⟩ (fun _ _ _=>RDop.one) ?_ hl (by simp only [maxLen];omega) fun v' w' h1 h2=>⟨by rw [gapL,if_pos hg];exact h1,h2⟩
 intro W1 W2 r y hz hm hy
 refine hy.mod hm (fun x _ hx e=>?_) fun _ _ h=>h
 rcases e with e | e
 ·have:=(OwnR.ownB o1 x e).1;omega
 ·have:=g1.size;omega
end Go.Proofs.YtgmpbihbdbmhoaaGreatDoor

namespace Go.K
open Go
theorem OwnR.len {α β:Type} {B e k:Nat} {R:World→List Value→α→Prop} {w:World} {v:Value} {l:List α} (h:OwnR B e k R w v l) (l':List β) (hl:l'.length=l.length):OwnR B e k (fun _ _ (_:β)=>True) w v l':=by
 obtain ⟨rows,h1,h2,h3,_⟩:=h
 exact ⟨rows,by rw [hl];exact h1,by rw [hl];exact h2,h3,fun _ _ _ _ _=>trivial⟩
end Go.K
namespace Go.Proofs.YtgmpbihbdbmhoaaGreatDoor
open Go Go.K

def lastSet (ins:List Dop) (set:List Attr):Bool:=match ins.getLast? with | some o=>decide (o.set=set) | none=>false
theorem getLast_get {l:List Dop} (h:0 < l.length):l.getLast?=some l[l.length - 1]:=by
 rw [List.getLast?_eq_getElem?];simp [show l.length - 1 < l.length by omega]
theorem insert_ok {F S:Nat→Prop} {w:World} {b:Nat} {s:MkS} {lv sv:Value} {rs:List Int} {set:List Attr} (h:MkI F w b s) (h1:RRun S w lv rs) (h2:RSet S w sv set) (hS:∀ x,S x→¬ F x)
  (hb1:(s.ins.length+1) * 88≤140737488355328) (hb2:∀ o ∈ s.ins,(o.runes.length+rs.length) * 4≤140737488355328) (hb3:rs.length * 4≤140737488355328) (hb4:set.length * 48≤140737488355328) :
  callK Tryz.prog 48 [.pointer (some ⟨b,0,none⟩),lv,sv] (fun _ w'=>MkI (fun x=>F x∨w.heap.size≤x) w' b (insS s rs set)∧Mod F w w') w:=by
 apply S48_ok
 unfold S48
 have hI:=h
 obtain ⟨dv,iv,C,hot,h⟩:=h
 obtain ⟨pl,cl,rfl,ml⟩:=h1.shape
 have shI:∃ ga gc,iv=.slice ga s.ins.length gc:=by
  rcases h.ins with ⟨e1,e2,_⟩ | ⟨g,c,hh,e1,_⟩
  ·exact ⟨none,0,by rw [e1,e2];rfl⟩
  ·exact ⟨_,c,e1⟩
 obtain ⟨ga,gc,rfl⟩:=shI
 refine JoinK_i (fun vs w1=>w1=w∧rs≠[]) ?_ ?_
 rotate_left
 ·rw [pnilK_i]
  simp only [Option.isNone_some]
  rw [condK_b,if_neg (by simp),lenK_i,eqK_i]
  refine condK_p (fun e=>?_) fun e=>⟨trivial,fun h=>e (len0.2 h)⟩
  have:=len0.1 e
  subst this
  exact ⟨by rw [insS,if_pos rfl];exact hI.sub fun x hx=>.inl hx,Mod.refl _ _⟩
 rintro vs _ ⟨rfl,hne⟩ _
 rename World=>w
 have hpos:0 < rs.length:=List.length_pos_iff.2 hne
 rw [nilckK_i,faK_i,addr0]
 refine ld1K_i h.c1 ?_
 rw [lenK_i,subK_i]
 have hwl:s.ins.length * 88≤140737488355328:=by omega
 rw [wrap64 (by omega) (by omega)]
 have key:insS s rs set=⟨s.done,addI s.ins rs set,s.gone⟩:=by rw [insS,if_neg hne]
 rw [key]
 refine JoinK_i (fun vs w1=>vs=[.bool (lastSet s.ins set)]∧Grow w w1) ?_ ?_
 rotate_left
 ·rw [geK_i]
  refine condK_p (fun hge=>?_) fun hge=>?_
  ·have hip:0 < s.ins.length:=by omega
   rw [nilckK_i,faK_i,addr0]
   refine ld1K_i h.c1 ?_
   have hlt:s.ins.length - 1 < s.ins.length:=by omega
   rw [show ((s.ins.length:Int) - 1)=((s.ins.length - 1:Nat):Int) by omega]
   obtain ⟨p,r,rfl,_,hr,hc,rv,sv',pv,rfl,q1,q2,q3⟩:=h.insRd.get hlt
   refine ixK_n hlt ?_
   rw [faK_i,Addr.add_add]
   refine ld1K_i (hc 3 _ rfl) ?_
   refine callK_mono (same_set q2 h2) ?_
   rintro v1 w1 ⟨rfl,g1⟩
   exact ⟨by rw [lastSet,getLast_get hip],g1⟩
  ·have:s.ins=[]:=List.eq_nil_of_length_eq_zero (by omega)
   exact ⟨by rw [lastSet,this];rfl,Mod.refl _ _⟩
 rintro vs w3 ⟨rfl,g3⟩ _
 rw [nth_z,List.headD_cons]
 have gd:Grow w w3.drew:=g3.trans (Mod.drew _ _)
 have h':=h.grow gd
 have zd:=gd.size
 have h1':RRun (fun x=>S x∧x < w.heap.size) w3.drew (.slice pl rs.length cl) rs:=(h1.old (by decide)).grow gd (by decide) fun _ _ h=>h
 have h2':RSet (fun x=>S x∧x < w.heap.size) w3.drew sv set:=(h2.old (by decide)).grow gd (by decide) fun _ _ h=>h
 generalize w3.drew=w4 at gd h' zd h1' h2' ⊢
 cases hls:lastSet s.ins set with
 | true=>
  rw [condK_b,if_pos rfl]
  have hip:0 < s.ins.length:=by
   cases hn:s.ins with
   | nil=>rw [lastSet,hn] at hls;cases hls
   | cons a l=>simp
  have hlt:s.ins.length - 1 < s.ins.length:=by omega
  rcases h'.ins with ⟨e1,_⟩ | ⟨g,c,hh,e1,e2,e3,e4,e5,e6,e7,e8,e9,e10,e11,e12,e13,e14⟩
  ·rw [e1] at hip;simp at hip
  simp only [Value.slice.injEq,true_and] at e1
  obtain ⟨rfl,rfl⟩:=e1
  obtain ⟨rv,sv',pv,at1,_,ho,_⟩:=e14.2 _ hlt
  obtain ⟨o1,o2,o3,o4⟩:=ho (by omega)
  have hset:s.ins[s.ins.length - 1].set=set:=by
   rw [lastSet,getLast_get hip] at hls
   simpa using hls
  rw [show ((s.ins.length:Int) - 1)=((s.ins.length - 1:Nat):Int) by omega]
  refine drawC_i (fun k x=>(k=14∧x=hh)∨(k=17∧x=g)) ?_
  rw [nilckK_i,faK_i,addr0]
  refine sld1_i ⟨h'.c1,fun j _ e=>by rcases e with ⟨_,e⟩ | ⟨_,e⟩;exact e10 e.symm;exact e6 e.symm⟩ ?_
  rw [nilckK_i,faK_i,addr0]
  refine sld1_i ⟨h'.c1,fun j _ e=>by rcases e with ⟨_,e⟩ | ⟨_,e⟩;exact e10 e.symm;exact e6 e.symm⟩ ?_
  refine ixK_n hlt ?_
  rw [faK_i,Addr.add_add,addr0]
  refine sld1_i ⟨at1 2 _ rfl,fun j hj e=>by rcases e with ⟨rfl,e⟩ | ⟨rfl,e⟩;exact e11 e.symm;exact absurd hj (by decide)⟩ ?_
  have hb2':=hb2 s.ins[s.ins.length - 1] (by simp)
  obtain ⟨v',w5,r1,r2,r3,r4⟩:=OwnR.append (ty:=52) elem_rune o1 h1' (fun _ _=>RRune.one) hb2' (Nat.zero_le _) (by simp only [maxLen];omega) fun _ _ _ _ h=>h
  refine runK_i r1 ⟨(Mod.of_grownBy r3).mono fun x _ e=>by rw [o2] at e;cases e;exact .inl ⟨rfl,rfl⟩,?_⟩
  have m45:Mod (fun x=>x=hh) w4 w5:=(Mod.of_grownBy r3).mono fun x _ e=>by rw [o2] at e;cases e;rfl
  have hv1:=OwnR.one r2
  have shv:∃ h2,v'.ownBlock=some h2∧h2 < w5.heap.size:=by
   obtain ⟨a,c',rfl,_,_,hp,hn⟩:=OwnR.shape r2
   cases a with
   | none=>have:=hn rfl;simp at this;exact (hne this.2).elim
   | some p=>obtain ⟨g',rfl,q1,q2,q3⟩:=hp p rfl;exact ⟨g',q3,q2⟩
  obtain ⟨h2n,hv2,hv3⟩:=shv
  have hv4:=r4 h2n hv2
  have zz:=m45.size
  have hgs:g < w4.heap.size:=by
   have:=OwnR.ownB e3 g rfl;exact this.2
  have hdv:∀ x,dv.ownBlock=some x→x < w4.heap.size:=fun x hx=>(OwnR.ownB h'.done x hx).2
  have live5:Live w5 ⟨g,(s.ins.length - 1) * 5+2,none⟩:=by
   obtain ⟨_,_,_,_,hl⟩:=OwnR.cellsOf e3 hlt
   exact (hl 2 (by decide)).mod m45 fun e=>e11 e.symm
  refine ixK_n hlt ?_
  rw [faK_i,Addr.add_add,addr0]
  refine live5.st hv1.1 hv1.2 ⟨Mod.setCell _ _ _ (.inr ⟨rfl,rfl⟩),?_⟩
  have m56:=setA w5 g ((s.ins.length - 1) * 5+2) v'
  have hnew:∀ x,h2n=x→x=hh∨w4.heap.size≤x:=by
   rintro x rfl
   rcases hv4 with e | e
   ·rw [o2] at e;cases e;exact .inl rfl
   ·exact .inr e
  -- the new block's place
  have nC:¬ C h2n:=fun hx=>by rcases hnew _ rfl with e | e;exact e9 (e ▸ hx);have:=(h'.cf _ hx).2;omega
  have nb2:h2n≠b:=fun e=>by
   have hbl:b < w4.heap.size:=World.block_lt_of_cell? w4 ⟨b,0,none⟩ h'.c0
   rcases hnew _ rfl with e' | e'
   ·exact e10 (e'.symm.trans e)
   ·omega
  have ng2:h2n≠g:=fun e=>by
   rcases hnew _ rfl with e' | e'
   ·exact e11 (e'.symm.trans e)
   ·omega
  have nd2:dv.ownBlock≠some h2n:=fun e=>by
   have:=hdv _ e
   rcases hnew _ rfl with e' | e'
   ·rw [e'] at e;exact e12 e
   ·omega
  have mm:Mod (fun x=>x=hh∨x=g) w4 (w5.setCell ⟨g,(s.ins.length - 1) * 5+2,none⟩ v'):=(m45.mono fun _ _ e=>.inl e).trans (m56.mono fun _ _ e=>.inr e)
  have hbne:¬ (b=hh∨b=g):=by rintro (e | e);exact e10 e.symm;exact e6 e.symm
  have hCne:∀ x,C x→¬ (x=hh∨x=g):=by rintro x hx (rfl | rfl);exact e9 hx;exact e5 hx
  have r2':OwnR 0 21 1 RRune (w5.setCell ⟨g,(s.ins.length - 1) * 5+2,none⟩ v') v' (s.ins[s.ins.length - 1].runes++rs):=OwnR.mod r2 m56 (fun x hx e=>by rw [hv2] at hx;cases hx;exact ng2 e) fun _ _ _ h=>h
  have eadd:addI s.ins rs set=s.ins.set (s.ins.length - 1) ⟨s.ins[s.ins.length - 1].kind,s.ins[s.ins.length - 1].n,s.ins[s.ins.length - 1].runes++rs,s.ins[s.ins.length - 1].set,s.ins[s.ins.length - 1].patch⟩:=by
   unfold addI
   rw [getLast_get hip]
   simp only [hset,if_true]
  have oA:=OwnR.setAny (OwnR.mod e3 m45 (fun x hx e=>by simp only [Value.ownBlock,Option.some.injEq] at hx;exact e11 (e.symm.trans hx.symm)) fun _ _ _ _=>trivial) hlt (show 2 < 5 by decide) hv1.1
  refine ⟨⟨dv,_,C,some h2n,mm.cell h'.c0 hbne,mm.cell h'.c1 hbne,mm.cell h'.c2 hbne,fun q hq=>(h'.lv q hq).mod mm hbne,.inl h'.fb,h'.nb,fun x hx=>⟨.inl (h'.cf x hx).1,Nat.lt_of_lt_of_le (h'.cf x hx).2 mm.size⟩,
   OwnR.mod h'.done mm (fun x hx e=>by rcases e with rfl | rfl;exact e12 hx;exact e7 hx) fun r x _ hx=>hx.cmod mm hCne,fun x hx=>⟨.inl (h'.dF x hx).1,(h'.dF x hx).2⟩,.inr ⟨g,gc,h2n,?_,rfl,?_,.inl e4,e5,e6,e7,?_,nC,nb2,ng2,nd2,?_,?_⟩⟩,?_⟩
  ·rw [eadd,List.length_set]
  ·exact OwnR.len oA _ (by rw [eadd,List.length_set])
  ·rcases hnew _ rfl with e | e
   ·exact .inl (e ▸ e8)
   ·exact .inr (by omega)
  ·rw [World.size_setCell];exact hv3
  ·rw [eadd]
   refine ⟨by rw [List.length_set];exact hip,fun j hj=>?_⟩
   rw [List.length_set] at hj
   obtain ⟨rv',sv2,pv2,a1,a2,a3,a4⟩:=e14.2 j hj
   by_cases hjl:j=s.ins.length - 1
   ·subst hjl
    have hrow:OpAt w5 g (s.ins.length - 1) s.ins[s.ins.length - 1] rv sv' pv:=at1.mod m45 fun e=>e11 e.symm
    refine ⟨v',sv',pv,fun q u hu=>?_,?_,fun _=>?_,fun e=>by rw [List.length_set] at e;omega⟩
    ·rw [List.getElem_set_self] at hu
     have hq:=(List.getElem?_eq_some_iff.1 hu).1
     simp only [List.length_cons,List.length_nil] at hq
     by_cases h2q:q=2
     ·subst h2q
      simp only [List.getElem?_cons_succ,List.getElem?_cons_zero,Option.some.injEq] at hu;subst hu
      obtain ⟨u',hu'⟩:=Option.isSome_iff_exists.1 live5.1
      exact World.cell?_setCell_same _ _ _ hu'
     ·rw [World.cell?_setCell_other _ _ _ _ (by intro e;simp only [Addr.mk.injEq] at e;omega)]
      refine hrow q u ?_
      rw [←hu]
      match q,hq,h2q with
      | 0,_,_=>rfl
      | 1,_,_=>rfl
      | 3,_,_=>rfl
      | 4,_,_=>rfl
    ·rw [List.getElem_set_self]
     refine ⟨v',sv',pv,rfl,?_,?_,?_⟩
     ·exact own_rd (by decide) ⟨r2',fun x hx=>.inr (by rw [hv2] at hx;exact (Option.some.inj hx).symm)⟩
     ·exact o3.mono (fun _ _ hx=>.inl hx) (fun x hb hx=>mm.same x hb (hCne x hx)) (by decide) fun _ _ h=>h
     ·exact o4.mono (fun _ _ hx=>.inl hx) (fun x hb hx=>mm.same x hb (hCne x hx)) (by decide) fun _ _ h=>h
    ·rw [List.getElem_set_self]
     exact ⟨r2',hv2,o3.mono (fun _ _ hx=>hx) (fun x hb hx=>mm.same x hb (hCne x hx)) (by decide) fun _ _ h=>h,o4.mono (fun _ _ hx=>hx) (fun x hb hx=>mm.same x hb (hCne x hx)) (by decide) fun _ _ h=>h⟩
   ·have hjc:=(a4 (by omega)).cmod mm hCne
    refine ⟨rv',sv2,pv2,fun q u hu=>?_,?_,fun e=>by rw [List.length_set] at e;omega,fun _=>?_⟩
    ·rw [List.getElem_set_ne (by omega)] at hu
     have hq:=(List.getElem?_eq_some_iff.1 hu).1
     simp only [List.length_cons,List.length_nil] at hq
     rw [World.cell?_setCell_other _ _ _ _ (by intro e;simp only [Addr.mk.injEq] at e;omega)]
     exact m45.cell (a1 q u hu) fun e=>e11 e.symm
    ·rw [List.getElem_set_ne (by omega)]
     exact hjc.mod (Mod.refl (fun _=>False) _) (fun _ _ _ h=>h) fun _ _ hx=>.inl hx
    ·rw [List.getElem_set_ne (by omega)];exact hjc
  ·refine (Grow.mod gd).trans (mm.mono fun x _ e=>?_)
   rcases e with rfl | rfl
   ·exact e8
   ·exact e4
 | false=>
  rw [condK_b,if_neg (by simp)]
  have eadd:addI s.ins rs set=s.ins++[⟨2,0,rs,set,[]⟩]:=by
   unfold addI
   unfold lastSet at hls
   cases hl:s.ins.getLast? with
   | none=>rfl
   | some o=>rw [hl] at hls;simp only [decide_eq_false_iff_not] at hls;simp only;rw [if_neg hls]
  have hbl:b < w4.heap.size:=World.block_lt_of_cell? w4 ⟨b,0,none⟩ h'.c0
  have hivb:(Value.slice ga s.ins.length gc).ownBlock≠some b∧(∀ g,(Value.slice ga s.ins.length gc).ownBlock=some g→F g∧¬ C g∧g≠b∧dv.ownBlock≠some g∧hot≠some g∧g < w4.heap.size):=by
   rcases h'.ins with ⟨e1,e2,_⟩ | ⟨g,c,hh,e1,e2,e3,e4,e5,e6,e7,e8,e9,e10,e11,_⟩
   ·simp only [Value.slice.injEq] at e2
    obtain ⟨rfl,_⟩:=e2
    exact ⟨fun h=>(nomatch h),fun g h=>(nomatch h)⟩
   ·simp only [Value.slice.injEq,true_and] at e1
    obtain ⟨rfl,rfl⟩:=e1
    refine ⟨fun e=>by simp only [Value.ownBlock,Option.some.injEq] at e;exact e6 e,fun g' e=>?_⟩
    simp only [Value.ownBlock,Option.some.injEq] at e;subst e
    exact ⟨e4,e5,e6,e7,fun e=>by rw [e2] at e;cases e;exact e11 rfl,(OwnR.ownB e3 _ rfl).2⟩
  obtain ⟨hivb,hiv⟩:=hivb
  have hhot:∀ x,hot=some x→F x∧¬ C x∧x≠b∧dv.ownBlock≠some x∧x < w4.heap.size:=by
   intro x hx
   rcases h'.ins with ⟨_,_,e⟩ | ⟨g,c,hh,e1,e2,e3,e4,e5,e6,e7,e8,e9,e10,e11,e12,e13,_⟩
   ·rw [e] at hx;cases hx
   ·rw [e2] at hx;cases hx;exact ⟨e8,e9,e10,e12,e13⟩
  refine drawC_i (fun k x=>(k=11∧(Value.slice ga s.ins.length gc).ownBlock=some x)∨(k=14∧x=b)) ?_
  rw [nilckK_i,faK_i,addr0]
  refine sld1_i ⟨h'.c1,fun j hj e=>by rcases e with ⟨_,e⟩ | ⟨rfl,_⟩;exact hivb e;exact absurd hj (by decide)⟩ ?_
  refine callK_mono (clone_run h1' hb3) ?_
  rintro t1 w5 ⟨n1,g5⟩
  refine ⟨Grow.mod g5,?_⟩
  refine callK_mono (copy_set (h2'.grow g5 (by decide) fun _ _ h=>h) hb4) ?_
  rintro t2 w6 ⟨n2,g6⟩
  refine ⟨Grow.mod g6,?_⟩
  have g46:=g5.trans g6
  have z5:=g5.size
  have z6:=g6.size
  have h6:=h'.grow g46
  have n1':OwnR w4.heap.size 21 1 RRune w6 t1 rs:=OwnR.mod n1 g6 (fun _ _ h=>h) fun _ _ _ h=>h
  obtain ⟨sa1,sc1,hsv1,_,_,hp1,hn1⟩:=OwnR.shape n1'
  obtain ⟨sa2,sc2,hsv2,_⟩:=OwnR.shape n2
  refine ⟨#[.int .u8 2,.int .i64 0,t1,t2,.slice none 0 0],by subst hsv1;subst hsv2;kernel_rfl,?_⟩
  have hn:∃ h2n,t1.ownBlock=some h2n∧w4.heap.size≤h2n∧h2n < w6.heap.size:=by
   cases sa1 with
   | none=>exact (hne (hn1 rfl)).elim
   | some p=>obtain ⟨g',_,q1,q2,q3⟩:=hp1 p rfl;exact ⟨g',q3,q1,q2⟩
  obtain ⟨h2n,hv2,hv3,hv4⟩:=hn
  -- rows: the old ones are only read from here on
  let C2:Nat→Prop:=fun x=>(C x∨hot=some x)∧x < w4.heap.size
  let C':Nat→Prop:=fun x=>C2 x∨t2.ownBlock=some x
  let R:World→List Value→Dop × Bool→Prop:=fun W r x=>match x.2 with
   | false=>RDop C2 W r x.1
   | true=>r=row5 x.1 t1 t2 (.slice none 0 0)∧OwnR 0 21 1 RRune W t1 x.1.runes∧RSet (fun x=>t2.ownBlock=some x) W t2 x.1.set∧x.1.patch=[]
  have hone:∀ W r y,R W r y→∀ u ∈ r,u.oneCell'=true:=by
   rintro W r ⟨o,t⟩ hy
   cases t with
   | false=>exact RDop.one hy
   | true=>
    obtain ⟨rfl,_⟩:=hy
    intro u hu
    simp only [List.mem_cons,List.not_mem_nil,or_false] at hu
    rcases hu with rfl | rfl | rfl | rfl | rfl
    ·rfl
    ·rfl
    ·rw [hsv1];rfl
    ·rw [hsv2];rfl
    ·rfl
  have o6:OwnR 0 TOp 5 R w6 (.slice ga s.ins.length gc) (s.ins.map fun o=>(o,false)):=by
   rcases h6.ins with ⟨e1,e2,_⟩ | ⟨g,c,hh,e1,e2,e3,e4,e5,e6,e7,e8,e9,e10,e11,e12,e13,e14⟩
   ·rw [e1] at e2 ⊢;rw [e2];exact OwnR.nil
   ·simp only [Value.slice.injEq,true_and] at e1
    obtain ⟨rfl,rfl⟩:=e1
    refine OwnR.conv (OwnR.len e3 (s.ins.map fun o=>(o,false)) (by simp)) fun j hj r hr hone hcl=>?_
    have hj':j < s.ins.length:=by simpa using hj
    obtain ⟨rv,sv0,pv,q1,q2,_,_⟩:=e14.2 j hj'
    have e:r=row5 s.ins[j] rv sv0 pv:=by
     refine List.ext_getElem? fun q=>?_
     by_cases hq:q < 5
     ·have h1:r[q]?=some r[q]:=List.getElem?_eq_getElem (by omega)
      have h2:(row5 s.ins[j] rv sv0 pv)[q]?=some (row5 s.ins[j] rv sv0 pv)[q]:=List.getElem?_eq_getElem (by simpa using hq)
      have h3:=hcl q _ h1
      rw [q1 q _ h2] at h3
      rw [h1,h2,h3]
     ·rw [List.getElem?_eq_none (by omega),List.getElem?_eq_none (by simp;omega)]
    subst e
    rw [List.getElem_map]
    refine q2.mod (Mod.refl (fun _=>False) _) (fun _ _ _ h=>h) fun x hx hc=>?_
    rcases hc with hc | hc
    ·exact ⟨.inl hc,(h'.cf x hc).2⟩
    ·subst hc;exact ⟨.inr e2,(hhot _ e2).2.2.2.2⟩
  have pst:∀ W1 W2 r y,w6.heap.size≤W1.heap.size→Mod (fun x=>(Value.slice ga s.ins.length gc).ownBlock=some x∨w6.heap.size≤x) W1 W2→R W1 r y→R W2 r y:=by
   rintro W1 W2 r ⟨o,t⟩ hz hm hy
   cases t with
   | false=>
    refine RDop.mod hy hm (fun x _ hx e=>?_) fun _ _ h=>h
    rcases e with e | e
    ·obtain ⟨_,q2,_,_,q5,_⟩:=hiv x e
     rcases hx.1 with hc | hc
     ·exact q2 hc
     ·exact q5 hc
    ·have:=hx.2;omega
   | true=>
    obtain ⟨q1,q2,q3,q4⟩:=hy
    refine ⟨q1,OwnR.mod q2 hm (fun x hx e=>?_) fun _ _ _ h=>h,q3.mono (fun _ _ h=>h) (fun x hb hx=>hm.same x hb fun e=>?_) (by decide) fun _ _ h=>h,q4⟩
    ·rw [hv2] at hx;cases hx
     rcases e with e | e
     ·have:=(hiv _ e).2.2.2.2.2;omega
     ·omega
    ·have h1:=OwnR.ownB n2 x hx
     rcases e with e | e
     ·have:=(hiv _ e).2.2.2.2.2;omega
     ·omega
  refine push_g2 elem_dop o6 (Nat.zero_le _) (cs:=row5 ⟨2,0,rs,set,[]⟩ t1 t2 (.slice none 0 0)) (x:=((⟨2,0,rs,set,[]⟩:Dop),true)) (by subst hsv1;subst hsv2;kernel_rfl) rfl ⟨rfl,OwnR.base n1' fun _ _=>Nat.zero_le _,SlR.sub (OwnR.sl n2) (fun x _ hx=>hx.2) (by decide) fun _ _ h=>h,rfl⟩ hone pst (by simpa using hb1) (by simp only [List.length_map,maxLen];omega) (fun _ g=>Grow.mod g) fun w6' v' w7 o7 m6' m7 f7=>?_
  refine ⟨m6'.mono fun x _ e=>.inl ⟨rfl,e⟩,?_⟩
  have z7:=m7.size
  have hv7:=OwnR.one o7
  obtain ⟨va,vc,rfl,_,_,hvp,hvn⟩:=OwnR.shape o7
  cases va with
  | none=>have:=hvn rfl;simp at this
  | some vp=>
  obtain ⟨g7,rfl,_,hg7,hown7⟩:=hvp _ rfl
  have ln7:(s.ins.map (fun o=>(o,false))++[((⟨2,0,rs,set,[]⟩:Dop),true)]).length=(addI s.ins rs set).length:=by rw [eadd];simp
  have hg7':=f7 g7 rfl
  have bne:¬ (Value.slice ga s.ins.length gc).ownBlock=some b:=hivb
  have Cne:∀ x,C x→¬ (Value.slice ga s.ins.length gc).ownBlock=some x:=fun x hx e=>(hiv x e).2.1 hx
  have h47:MkR F w7 b s dv (.slice ga s.ins.length gc) C hot→True:=fun _=>trivial
  have l7:∀ q,q < 3→Live w7 ⟨b,q,none⟩:=fun q hq=>(h6.lv q hq).mod m7 bne
  rw [nilckK_i,faK_i,addr0]
  refine (l7 1 (by decide)).st hv7.1 hv7.2 ⟨Mod.setCell _ _ _ (.inr ⟨rfl,rfl⟩),?_⟩
  have m78:=setA w7 b 1 (Value.slice (some ⟨g7,0,none⟩) (s.ins.map (fun o=>(o,false))++[((⟨2,0,rs,set,[]⟩:Dop),true)]).length vc)
  have oth:∀ q,q≠1→(⟨b,1,none⟩:Addr)≠⟨b,q,none⟩:=fun q hq e=>by simp only [Addr.mk.injEq] at e;omega
  obtain ⟨u1,hu1⟩:=Option.isSome_iff_exists.1 (l7 1 (by decide)).1
  have c8:∀ q u,q≠1→w6.cell? ⟨b,q,none⟩=some u→(w7.setCell ⟨b,1,none⟩ (Value.slice (some ⟨g7,0,none⟩) (s.ins.map (fun o=>(o,false))++[((⟨2,0,rs,set,[]⟩:Dop),true)]).length vc)).cell? ⟨b,q,none⟩=some u:=fun q u hq hu=>(World.cell?_setCell_other _ _ _ _ (oth q hq)).trans (m7.cell hu bne)
  have c81:=World.cell?_setCell_same w7 ⟨b,1,none⟩ (Value.slice (some ⟨g7,0,none⟩) (s.ins.map (fun o=>(o,false))++[((⟨2,0,rs,set,[]⟩:Dop),true)]).length vc) hu1
  have lv8:∀ q,q < 3→Live (w7.setCell ⟨b,1,none⟩ (Value.slice (some ⟨g7,0,none⟩) (s.ins.map (fun o=>(o,false))++[((⟨2,0,rs,set,[]⟩:Dop),true)]).length vc)) ⟨b,q,none⟩:=fun q hq=>(l7 q hq).set _ _
  -- the blocks that the new rows do not lie in
  have hdv:∀ x,dv.ownBlock=some x→x < w4.heap.size:=fun x hx=>(OwnR.ownB h'.done x hx).2
  have g7b:g7≠b:=fun e=>by rcases hg7' with h | h;exact bne (e ▸ h);omega
  have g7C:¬ C' g7:=by
   rintro (⟨hx | hx,hlt⟩ | hx)
   ·rcases hg7' with h | h
    ·exact (hiv _ h).2.1 hx
    ·omega
   ·rcases hg7' with h | h
    ·exact (hiv _ h).2.2.2.2.1 hx
    ·omega
   ·have:=OwnR.ownB n2 _ hx
    rcases hg7' with h | h
    ·have:=(hiv _ h).2.2.2.2.2;omega
    ·omega
  have g7d:dv.ownBlock≠some g7:=fun e=>by
   rcases hg7' with h | h
   ·exact (hiv _ h).2.2.2.1 e
   ·have:=hdv _ e;omega
  have C'b:∀ x,C' x→¬ x=b:=by
   rintro x (⟨hx | hx,hlt⟩ | hx) e
   ·exact h'.nb (e ▸ hx)
   ·exact (hhot x hx).2.2.1 e
   ·have:=OwnR.ownB n2 _ hx;omega
  have h2C:¬ C' h2n:=by
   rintro (⟨_,hlt⟩ | hx)
   ·omega
   ·have:=OwnR.ownB n2 _ hx;have:=(OwnR.ownB (OwnR.mod n1 (Mod.refl (fun _=>False) _) (fun _ _ h=>h) fun _ _ _ h=>h) _ hv2).2;omega
  have Cd:∀ x,C x→C' x:=fun x hx=>.inl ⟨.inl hx,(h'.cf x hx).2⟩
  have o8:OwnR 0 TOp 5 R (w7.setCell ⟨b,1,none⟩ (Value.slice (some ⟨g7,0,none⟩) (s.ins.map (fun o=>(o,false))++[((⟨2,0,rs,set,[]⟩:Dop),true)]).length vc)) (Value.slice (some ⟨g7,0,none⟩) (s.ins.map (fun o=>(o,false))++[((⟨2,0,rs,set,[]⟩:Dop),true)]).length vc) (s.ins.map (fun o=>(o,false))++[((⟨2,0,rs,set,[]⟩:Dop),true)]):=by
   refine OwnR.mod o7 m78 (fun x hx e=>?_) fun r y _ hy=>?_
   ·simp only [Value.ownBlock,Option.some.injEq] at hx;subst hx;exact g7b e
   ·obtain ⟨o,t⟩:=y
    cases t with
    | false=>exact RDop.mod hy m78 (fun x _ hx e=>C'b x (.inl hx) e) fun _ _ h=>h
    | true=>
     obtain ⟨q1,q2,q3,q4⟩:=hy
     refine ⟨q1,OwnR.mod q2 m78 (fun x hx e=>?_) fun _ _ _ h=>h,q3.mono (fun _ _ h=>h) (fun x hb hx=>m78.same x hb fun e=>C'b x (.inr hx) e) (by decide) fun _ _ h=>h,q4⟩
     rw [hv2] at hx;cases hx;omega
  generalize hW:w7.setCell ⟨b,1,none⟩ (Value.slice (some ⟨g7,0,none⟩) (s.ins.map (fun o=>(o,false))++[((⟨2,0,rs,set,[]⟩:Dop),true)]).length vc)=W at m78 c8 c81 lv8 o8 ⊢
  have z8:=m78.size
  have m68:Mod (fun x=>(Value.slice ga s.ins.length gc).ownBlock=some x∨x=b) w6 W:=(m7.mono fun _ _ e=>.inl e).trans (m78.mono fun _ _ e=>.inr e)
  have Cm:∀ x,C x→¬ ((Value.slice ga s.ins.length gc).ownBlock=some x∨x=b):=by
   rintro x hx (e | e)
   ·exact Cne x hx e
   ·exact h'.nb (e ▸ hx)
  refine ⟨⟨dv,_,C',some h2n,c8 0 _ (by decide) h6.c0,c81,c8 2 _ (by decide) h6.c2,lv8,.inl h'.fb,fun hx=>C'b b hx rfl,?_,?_,fun x hx=>⟨.inl (h'.dF x hx).1,?_,(h'.dF x hx).2.2⟩,.inr ⟨g7,vc,h2n,?_,rfl,?_,?_,g7C,g7b,g7d,.inr (by omega),h2C,by omega,?_,?_,by omega,?_⟩⟩,?_⟩
  ·rintro x (⟨hx | hx,hlt⟩ | hx)
   ·exact ⟨.inl (h'.cf x hx).1,by omega⟩
   ·exact ⟨.inl (hhot x hx).1,by omega⟩
   ·have:=OwnR.ownB n2 _ hx;exact ⟨.inr (by omega),by omega⟩
  ·refine OwnR.mod h6.done m68 (fun x hx e=>?_) fun r x _ hx=>(hx.cmod m68 Cm).mod (Mod.refl (fun _=>False) _) (fun _ _ _ h=>h) fun y _ hy=>Cd y hy
   rcases e with e | e
   ·exact (hiv _ e).2.2.2.1 hx
   ·exact (h'.dF x hx).2.2 e
  ·rintro (⟨hc | hc,hlt⟩ | hc)
   ·exact (h'.dF x hx).2.1 hc
   ·exact (hhot x hc).2.2.2.1 hx
   ·have:=OwnR.ownB n2 _ hc;have:=hdv x hx;omega
  ·rw [ln7]
  ·exact OwnR.len o8 _ ln7.symm
  ·rcases hg7' with h | h
   ·exact .inl (hiv _ h).1
   ·exact .inr (by omega)
  ·intro e
   rcases hg7' with h | h
   ·have:=(hiv _ h).2.2.2.2.2;omega
   ·omega
  ·intro e;have:=hdv _ e;omega
  ·rw [eadd]
   refine ⟨by simp,fun j hj=>?_⟩
   have hjL:j < (s.ins.map (fun o=>(o,false))++[((⟨2,0,rs,set,[]⟩:Dop),true)]).length:=by simpa using hj
   obtain ⟨r,hr,hcl,hR,_⟩:=OwnR.cellsOf o8 hjL
   by_cases hjl:j < s.ins.length
   ·have e1:(s.ins.map (fun o=>(o,false))++[((⟨2,0,rs,set,[]⟩:Dop),true)])[j]=(s.ins[j],false):=by
     rw [List.getElem_append_left (by simpa using hjl)];simp
    have e2:(s.ins++[(⟨2,0,rs,set,[]⟩:Dop)])[j]=s.ins[j]:=by rw [List.getElem_append_left hjl]
    rw [e1] at hR
    have hR':RDop C2 W r s.ins[j]:=hR
    obtain ⟨rv,sv0,pv,rfl,p1,p2,p3⟩:=hR'
    rw [e2]
    have rd:RDop C' W (row5 s.ins[j] rv sv0 pv) s.ins[j]:=RDop.mod (D:=C2) ⟨rv,sv0,pv,rfl,p1,p2,p3⟩ (Mod.refl (fun _=>False) _) (fun _ _ _ h=>h) fun x _ hx=>.inl hx
    refine ⟨rv,sv0,pv,hcl,rd.mod (Mod.refl (fun _=>False) _) (fun _ _ _ h=>h) fun x _ hx=>.inl hx,fun e=>?_,fun _=>rd⟩
    simp at e;omega
   ·have hje:j=s.ins.length:=by simp at hj;omega
    subst hje
    have e1:(s.ins.map (fun o=>(o,false))++[((⟨2,0,rs,set,[]⟩:Dop),true)])[s.ins.length]=((⟨2,0,rs,set,[]⟩:Dop),true):=by
     rw [List.getElem_append_right (by simp)];simp
    have e2:(s.ins++[(⟨2,0,rs,set,[]⟩:Dop)])[s.ins.length]=(⟨2,0,rs,set,[]⟩:Dop):=by rw [List.getElem_append_right (by simp)];simp
    rw [e1] at hR
    obtain ⟨rfl,q2,q3,q4⟩:=hR
    rw [e2]
    refine ⟨t1,t2,.slice none 0 0,hcl,⟨t1,t2,.slice none 0 0,rfl,?_,?_,SlR.nil⟩,fun _=>⟨q2,hv2,?_,SlR.nil⟩,fun e=>by simp at e⟩
    ·exact own_rd (by decide) ⟨q2,fun x hx=>.inr (by rw [hv2] at hx;exact (Option.some.inj hx).symm)⟩
    ·exact SlR.sub q3 (fun x _ hx=>.inl (.inr hx)) (by decide) fun _ _ h=>h
    ·exact SlR.sub q3 (fun x _ hx=>.inr hx) (by decide) fun _ _ h=>h
  ·refine ((Grow.mod gd).trans (Grow.mod g46)).trans (m68.mono fun x _ e=>?_)
   rcases e with e | e
   ·exact (hiv _ e).1
   ·rw [e];exact h'.fb
end Go.Proofs.YtgmpbihbdbmhoaaGreatDoor

namespace Go.Proofs.YtgmpbihbdbmhoaaGreatDoor
open Go Go.K

theorem set3 (W:World) (b:Nat) (u0 u1 u2:Value) (l:∀ q,q < 3→Live W ⟨b,q,none⟩):∀ W',W'=((W.setCell ⟨b,0,none⟩ u0).setCell ⟨b,1,none⟩ u1).setCell ⟨b,2,none⟩ u2→Mod (fun x=>x=b) W W'∧W'.cell? ⟨b,0,none⟩=some u0∧W'.cell? ⟨b,1,none⟩=some u1∧W'.cell? ⟨b,2,none⟩=some u2∧(∀ q,q < 3→Live W' ⟨b,q,none⟩):=by
 rintro W' rfl
 have ne:∀ q q',q≠q'→(⟨b,q,none⟩:Addr)≠⟨b,q',none⟩:=fun q q' hq e=>by simp only [Addr.mk.injEq] at e;omega
 have m1:=setA W b 0 u0
 have m2:=setA (W.setCell ⟨b,0,none⟩ u0) b 1 u1
 have m3:=setA ((W.setCell ⟨b,0,none⟩ u0).setCell ⟨b,1,none⟩ u1) b 2 u2
 refine ⟨(m1.trans m2).trans m3,?_,?_,?_,fun q hq=>(((l q hq).set _ _).set _ _).set _ _⟩
 ·obtain ⟨u,hu⟩:=Option.isSome_iff_exists.1 (l 0 (by decide)).1
  rw [World.cell?_setCell_other _ _ _ _ (ne 2 0 (by decide)),World.cell?_setCell_other _ _ _ _ (ne 1 0 (by decide))]
  exact World.cell?_setCell_same _ _ _ hu
 ·obtain ⟨u,hu⟩:=Option.isSome_iff_exists.1 ((l 1 (by decide)).set ⟨b,0,none⟩ u0).1
  rw [World.cell?_setCell_other _ _ _ _ (ne 2 1 (by decide))]
  exact World.cell?_setCell_same _ _ _ hu
 ·obtain ⟨u,hu⟩:=Option.isSome_iff_exists.1 (((l 2 (by decide)).set ⟨b,0,none⟩ u0).set ⟨b,1,none⟩ u1).1
  exact World.cell?_setCell_same _ _ _ hu
def lastPat (d:List Dop) (p:List Chg):Bool:=match d.getLast? with | some o=>decide (o.kind=1∧o.patch=p) | none=>false
theorem retain_ok {F S:Nat→Prop} {w:World} {b:Nat} {s:MkS} {n:Int} {pv:Value} {p:List Chg} (h:MkI F w b s) (h1:RPat S w pv p) (hS:∀ x,S x→¬ F x)
  (hb1:s.done.length+s.ins.length+2≤1099511627776) (hb2:p.length * 56≤140737488355328) :
  callK Tryz.prog 47 [.pointer (some ⟨b,0,none⟩),.int .i64 n,pv] (fun _ w'=>MkI (fun x=>F x∨w.heap.size≤x) w' b (retS s n p)∧Mod F w w') w:=by
 apply S47_ok
 unfold S47
 have hI:=h
 have hb3:(s.ins.length+1) * 88≤140737488355328:=by omega
 obtain ⟨dv,iv,C,hot,h⟩:=h
 refine JoinK_i (fun vs w1=>w1=w∧¬ n < 1) ?_ ?_
 rotate_left
 ·rw [pnilK_i]
  simp only [Option.isNone_some]
  rw [condK_b,if_neg (by simp),ltK_i]
  refine condK_p (fun e=>?_) fun e=>⟨trivial,e⟩
  exact ⟨by rw [retS,if_pos e];exact hI.sub fun x hx=>.inl hx,Mod.refl _ _⟩
 rintro vs _ ⟨rfl,hn⟩ _
 rename World=>w
 have key:retS s n p=⟨putS (s.done++gapL s.ins s.gone) n p,[],0⟩:=by rw [retS,if_neg hn]
 rw [key]
 have gl:(gapL s.ins s.gone).length≤s.ins.length+1:=by unfold gapL;split <;> simp
 have gd:Grow w w.drew:=Mod.drew _ _
 have h':=h.grow gd
 have zd:w.drew.heap.size=w.heap.size:=rfl
 have h1':RPat (fun x=>S x∧x < w.heap.size) w.drew pv p:=(h1.old (by decide)).grow gd (by decide) fun _ _ h=>h
 have hbl:b < w.drew.heap.size:=World.block_lt_of_cell? w.drew ⟨b,0,none⟩ h'.c0
 have hdv:∀ x,dv.ownBlock=some x→x < w.drew.heap.size:=fun x hx=>(OwnR.ownB h'.done x hx).2
 have hhot:∀ x,hot=some x→F x∧¬ C x∧x≠b∧dv.ownBlock≠some x∧x < w.drew.heap.size:=by
  intro x hx
  rcases h'.ins with ⟨_,_,e⟩ | ⟨g,c,hh,e1,e2,e3,e4,e5,e6,e7,e8,e9,e10,e11,e12,e13,_⟩
  ·rw [e] at hx;cases hx
  ·rw [e2] at hx;cases hx;exact ⟨e8,e9,e10,e12,e13⟩
 rw [←zd]
 generalize w.drew=w4 at gd h' zd h1' hbl hdv hhot ⊢
 have dvb:dv.ownBlock≠some b:=fun e=>(h'.dF b e).2.2 rfl
 let C1:Nat→Prop:=fun x=>(C x∨hot=some x)∧x < w4.heap.size
 have C1b:¬ C1 b:=by
  rintro ⟨hx | hx,_⟩
  ·exact h'.nb hx
  ·exact (hhot b hx).2.2.1 rfl
 have C1d:∀ x,dv.ownBlock=some x→¬ C1 x:=by
  rintro x hx ⟨hc | hc,_⟩
  ·exact (h'.dF x hx).2.1 hc
  ·exact (hhot x hc).2.2.2.1 hx
 have C1F:∀ x,C1 x→F x:=by
  rintro x ⟨hc | hc,_⟩
  ·exact (h'.cf x hc).1
  ·exact (hhot x hc).1
 refine drawC_i (fun k x=>(k=7∧dv.ownBlock=some x)∨(k=10∧x=b)) ?_
 rw [nilckK_i,faK_i,addr0]
 refine sld1_i ⟨h'.c0,fun j hj e=>by rcases e with ⟨_,e⟩ | ⟨rfl,_⟩;exact dvb e;exact absurd hj (by decide)⟩ ?_
 refine callK_mono (gap_ok h' hb3) ?_
 rintro v5 w5 ⟨o5,g5⟩
 refine ⟨Grow.mod g5,?_⟩
 have h5:=h'.grow g5
 have z5:=g5.size
 have d5:OwnR 0 TOp 5 (RDop C1) w5 dv s.done:=OwnR.mod h5.done (Mod.refl (fun _=>False) _) (fun _ _ h=>h) fun r x _ hx=>hx.mod (Mod.refl (fun _=>False) _) (fun _ _ _ h=>h) fun y _ hy=>⟨.inl hy,(h'.cf y hy).2⟩
 obtain ⟨v6,w6,r1,o6,r3,r4⟩:=OwnR.append (ty:=23) elem_dop d5 (OwnR.sl o5) (fun _ _=>RDop.one) (by omega) (Nat.zero_le _) (by simp only [maxLen];omega) fun w' hg r y hy=>hy.mod (Mod.of_grownBy hg) (fun x _ hx e=>C1d x e hx) fun _ _ h=>h
 have m56:Mod (fun x=>dv.ownBlock=some x) w5 w6:=Mod.of_grownBy r3
 refine runK_i r1 ⟨m56.mono fun x _ e=>.inl ⟨rfl,e⟩,?_⟩
 have z6:=m56.size
 have hv6:=OwnR.one o6
 have l6:∀ q,q < 3→Live w6 ⟨b,q,none⟩:=fun q hq=>(h5.lv q hq).mod m56 dvb
 have own6:∀ x,v6.ownBlock=some x→dv.ownBlock=some x∨w4.heap.size≤x:=fun x hx=>by rcases r4 x hx with h | h;exact .inl h;exact .inr (by omega)
 rw [nilckK_i,faK_i,addr0]
 refine (l6 0 (by decide)).st hv6.1 hv6.2 ⟨Mod.setCell _ _ _ (.inr ⟨rfl,rfl⟩),?_⟩
 rw [nilckK_i,faK_i,addr0]
 refine ((l6 1 (by decide)).set _ _).st rfl rfl ?_
 rw [nilckK_i,faK_i,addr0]
 refine (((l6 2 (by decide)).set _ _).set _ _).st rfl rfl ?_
 generalize hW7:((w6.setCell ⟨b,0,none⟩ v6).setCell ⟨b,1,none⟩ (.slice none 0 0)).setCell ⟨b,2,none⟩ (.int .i64 0)=w7
 obtain ⟨m67,cell0,cell1,cell2,l7⟩:=set3 w6 b v6 (.slice none 0 0) (.int .i64 0) l6 w7 hW7.symm
 clear hW7
 have z7:=m67.size
 let F1:Nat→Prop:=fun x=>F x∨w4.heap.size≤x
 have v6b:v6.ownBlock≠some b:=fun e=>by rcases own6 b e with h | h;exact dvb h;omega
 have d7:OwnR 0 TOp 5 (RDop C1) w7 v6 (s.done++gapL s.ins s.gone):=OwnR.mod o6 m67 (fun x hx e=>v6b (e ▸ hx)) fun r x _ hx=>hx.cmod m67 fun y hy e=>C1b (e ▸ hy)
 have K7:MkR F1 w7 b ⟨s.done++gapL s.ins s.gone,[],0⟩ v6 (.slice none 0 0) C1 none:=by
  refine ⟨cell0,cell1,cell2,l7,.inl h'.fb,C1b,fun x hx=>⟨.inl (C1F x hx),by have:=hx.2;omega⟩,d7,fun x hx=>⟨?_,?_,fun e=>v6b (e ▸ hx)⟩,.inl ⟨rfl,rfl,rfl⟩⟩
  ·rcases own6 x hx with h | h
   ·exact .inl (h'.dF x h).1
   ·exact .inr h
  ·intro hc
   rcases own6 x hx with h | h
   ·exact C1d x h hc
   ·have:=hc.2;omega
 have m47:Mod F w4 w7:=((Grow.mod g5).trans (m56.mono fun x _ e=>(h'.dF x e).1)).trans (m67.mono fun x _ e=>by rw [e];exact h'.fb)
 have m07:Mod F w w7:=(Grow.mod gd).trans m47
 have p7:RPat (fun x=>S x∧x < w.heap.size) w7 pv p:=h1'.mono (fun _ _ h=>h) (fun x hb hx=>m47.same x hb (hS x hx.1)) (by decide) fun _ _ h=>h
 have dlen:(s.done++gapL s.ins s.gone).length≤s.done.length+s.ins.length+1:=by simp;omega
 generalize hD:s.done++gapL s.ins s.gone=D at K7 d7 dlen ⊢
 clear o6 r1 r3 r4 own6 cell0 cell1 cell2 l6 m56 m67 o5 h5 d5
 obtain ⟨va,vc,rfl,_,_,hvp,hvn⟩:=OwnR.shape d7
 rw [nilckK_i,faK_i,addr0]
 refine ld1K_i K7.c0 ?_
 rw [lenK_i,subK_i,wrap64 (by omega) (by omega)]
 refine JoinK_i (fun vs w8=>vs=[.bool (lastPat D p)]∧Grow w7 w8) ?_ ?_
 rotate_left
 ·rw [geK_i]
  refine condK_p (fun hge=>?_) fun hge=>?_
  ·have hip:0 < D.length:=by omega
   have hlt:D.length - 1 < D.length:=by omega
   rw [show ((D.length:Int) - 1)=((D.length - 1:Nat):Int) by omega]
   rw [nilckK_i,faK_i,addr0]
   refine ld1K_i K7.c0 ?_
   obtain ⟨q,r,rfl,_,hr,hc,rv,sv',pv',rfl,q1,q2,q3⟩:=(OwnR.sl d7).get hlt
   refine ixK_n hlt ?_
   rw [faK_i,Addr.add_add]
   refine ld1K_i (hc 0 _ rfl) ?_
   rw [eqK_i]
   refine condK_p (fun hk=>?_) fun hk=>⟨by rw [lastPat,getLast_get hip];simp [hk],Mod.refl _ _⟩
   rw [nilckK_i,faK_i,addr0]
   refine ld1K_i K7.c0 ?_
   refine ixK_n hlt ?_
   rw [faK_i,Addr.add_add]
   refine ld1K_i (hc 4 _ rfl) ?_
   refine callK_mono (same_pat q3 p7) ?_
   rintro v1 w8 ⟨rfl,g8⟩
   exact ⟨by rw [lastPat,getLast_get hip];simp [hk],g8⟩
  ·have:D=[]:=List.eq_nil_of_length_eq_zero (by omega)
   exact ⟨by rw [lastPat,this];rfl,Mod.refl _ _⟩
 rintro vs w8 ⟨rfl,g8⟩ _
 rw [nth_z,List.headD_cons]
 have K8:=K7.grow g8
 have z8:=g8.size
 have d8:OwnR 0 TOp 5 (RDop C1) w8 (.slice va D.length vc) D:=K8.done
 have p8:RPat (fun x=>S x∧x < w.heap.size) w8 pv p:=p7.grow g8 (by decide) fun _ _ h=>h
 have m08:Mod F w w8:=m07.trans (Grow.mod g8)
 have vb:(Value.slice va D.length vc).ownBlock≠some b:=fun e=>(K8.dF b e).2.2 rfl
 cases hls:lastPat D p with
 | true=>
  rw [condK_b,if_pos rfl]
  have hip:0 < D.length:=by
   cases hn:D with
   | nil=>rw [lastPat,hn] at hls;cases hls
   | cons a l=>simp
  have hlt:D.length - 1 < D.length:=by omega
  rw [lastPat,getLast_get hip] at hls
  simp only [decide_eq_true_eq] at hls
  rw [show ((D.length:Int) - 1)=((D.length - 1:Nat):Int) by omega]
  cases va with
  | none=>rw [hvn rfl] at hip;simp at hip
  | some vp=>
  obtain ⟨g7,rfl,_,hg7,_⟩:=hvp _ rfl
  rw [nilckK_i,faK_i,addr0]
  refine ld1K_i K8.c0 ?_
  obtain ⟨q,r,e,_,hr,hc,rv,sv',pv',rfl,q1,q2,q3⟩:=(OwnR.sl d8).get hlt
  cases e
  refine ixK_n hlt ?_
  rw [faK_i,Addr.add_add]
  refine ld1K_i (hc 1 _ rfl) ?_
  rw [addK_i]
  refine ixK_n hlt ?_
  rw [faK_i,Addr.add_add]
  obtain ⟨g7F,g7C,g7b⟩:=K8.dF g7 rfl
  obtain ⟨⟨u,hu⟩,hf,ho,hm⟩:=OwnR.store (R':=RDop C1) (u:=.int .i64 (IntKind.i64.wrap (D[D.length - 1].n+n))) (x':=⟨D[D.length - 1].kind,IntKind.i64.wrap (D[D.length - 1].n+n),D[D.length - 1].runes,D[D.length - 1].set,D[D.length - 1].patch⟩) d8 hlt (show 1 < 5 by decide) rfl
   (fun r y _ hy=>hy.mod (Mod.setCell (M:=fun x=>x=g7) _ _ _ (by rw [addr0])) (fun x _ hx e=>g7C (e ▸ hx)) fun _ _ h=>h)
   (fun r hy=>by
    obtain ⟨rv,sv',pv',rfl,p1,p2,p3⟩:=hy.mod (D':=C1) (Mod.setCell (M:=fun x=>x=g7) w8 ((⟨g7,0,none⟩:Addr).add ((D.length - 1) * 5+1)) (.int .i64 (IntKind.i64.wrap (D[D.length - 1].n+n))) (by rw [addr0])) (fun x _ hx e=>g7C (e ▸ hx)) fun _ _ h=>h
    exact ⟨rv,sv',pv',rfl,p1,p2,p3⟩)
  refine st1K_i rfl rfl hu hf ?_
  have eput:putS D n p=D.set (D.length - 1) ⟨D[D.length - 1].kind,IntKind.i64.wrap (D[D.length - 1].n+n),D[D.length - 1].runes,D[D.length - 1].set,D[D.length - 1].patch⟩:=by
   unfold putS
   rw [getLast_get hip]
   simp only [hls,and_self,if_true]
  have hm':Mod (fun x=>x=g7) w8 (w8.setCell ((⟨g7,0,none⟩:Addr).add ((D.length - 1) * 5+1)) (.int .i64 (IntKind.i64.wrap (D[D.length - 1].n+n)))):=hm
  refine ⟨⟨_,_,C1,none,hm'.cell K8.c0 (fun e=>g7b e.symm),hm'.cell K8.c1 (fun e=>g7b e.symm),hm'.cell K8.c2 (fun e=>g7b e.symm),fun q hq=>(K8.lv q hq).mod hm' (fun e=>g7b e.symm),K8.fb,K8.nb,fun x hx=>⟨(K8.cf x hx).1,Nat.lt_of_lt_of_le (K8.cf x hx).2 hm'.size⟩,by rw [eput];exact ho,K8.dF,.inl ⟨rfl,rfl,rfl⟩⟩,?_⟩
  refine m08.next hm' fun x hx e=>?_
  subst e
  rcases g7F with h | h
  ·exact h
  ·omega
 | false=>
  rw [condK_b,if_neg (by simp)]
  have gd8:Grow w8 w8.drew:=Mod.drew _ _
  have K9:=K8.grow gd8
  have zd8:w8.drew.heap.size=w8.heap.size:=rfl
  have p9:RPat (fun x=>S x∧x < w.heap.size) w8.drew pv p:=p8.grow gd8 (by decide) fun _ _ h=>h
  have m09:Mod F w w8.drew:=m08.trans (Grow.mod gd8)
  generalize w8.drew=w9 at gd8 K9 zd8 p9 m09 ⊢
  refine drawC_i (fun k x=>(k=10∧(Value.slice va D.length vc).ownBlock=some x)∨(k=13∧x=b)) ?_
  rw [nilckK_i,faK_i,addr0]
  refine sld1_i ⟨K9.c0,fun j hj e=>by rcases e with ⟨_,e⟩ | ⟨rfl,_⟩;exact vb e;exact absurd hj (by decide)⟩ ?_
  refine callK_mono (copy_pat p9 hb2) ?_
  rintro t1 w10 ⟨n1,g10⟩
  refine ⟨Grow.mod g10,?_⟩
  have K10:=K9.grow g10
  have z10:=g10.size
  obtain ⟨sa1,sc1,hsv1,_⟩:=OwnR.shape n1
  refine ⟨#[.int .u8 1,.int .i64 n,.slice none 0 0,.slice none 0 0,t1],by subst hsv1;kernel_rfl,?_⟩
  let C2:Nat→Prop:=fun x=>C1 x∨t1.ownBlock=some x
  have n1b:∀ x,t1.ownBlock=some x→w9.heap.size≤x∧x < w10.heap.size:=fun x hx=>OwnR.ownB n1 x hx
  have hvl:∀ x,(Value.slice va D.length vc).ownBlock=some x→x < w8.heap.size:=fun x hx=>(OwnR.ownB d8 x hx).2
  have C2v:∀ x,(Value.slice va D.length vc).ownBlock=some x→¬ C2 x:=by
   rintro x hx (hc | hc)
   ·exact (K8.dF x hx).2.1 hc
   ·have:=n1b x hc;have:=hvl x hx;omega
  have C2b:¬ C2 b:=by
   rintro (hc | hc)
   ·exact C1b hc
   ·have:=n1b b hc;omega
  have d10:OwnR 0 TOp 5 (RDop C2) w10 (.slice va D.length vc) D:=OwnR.mod K10.done (Mod.refl (fun _=>False) _) (fun _ _ h=>h) fun r x _ hx=>hx.mod (Mod.refl (fun _=>False) _) (fun _ _ _ h=>h) fun y _ hy=>.inl hy
  have eput:putS D n p=D++[⟨1,n,[],[],p⟩]:=by
   unfold putS
   unfold lastPat at hls
   cases hl:D.getLast? with
   | none=>rfl
   | some o=>rw [hl] at hls;simp only [decide_eq_false_iff_not] at hls;simp only;rw [if_neg hls]
  refine push_g2 elem_dop d10 (Nat.zero_le _) (cs:=row5 ⟨1,n,[],[],p⟩ (.slice none 0 0) (.slice none 0 0) t1) (x:=⟨1,n,[],[],p⟩) (by subst hsv1;kernel_rfl) rfl ⟨_,_,_,rfl,SlR.nil,SlR.nil,SlR.sub (OwnR.sl n1) (fun x _ hx=>.inr hx.2) (by decide) fun _ _ h=>h⟩ (fun _ _ _=>RDop.one) ?_ (by omega) (by simp only [maxLen];omega) (fun _ g=>Grow.mod g) fun w10' v' w11 o11 m10' m11 f11=>?_
  ·intro W1 W2 r y hz hm hy
   refine hy.mod hm (fun x _ hx e=>?_) fun _ _ h=>h
   rcases e with e | e
   ·exact C2v x e hx
   ·rcases hx with hc | hc
    ·have:=hc.2;omega
    ·have:=n1b x hc;omega
  refine ⟨m10'.mono fun x _ e=>.inl ⟨rfl,e⟩,?_⟩
  have z11:=m11.size
  have hv11:=OwnR.one o11
  rw [nilckK_i,faK_i,addr0]
  have l11:∀ q,q < 3→Live w11 ⟨b,q,none⟩:=fun q hq=>(K10.lv q hq).mod m11 vb
  refine (l11 0 (by decide)).st hv11.1 hv11.2 ⟨Mod.setCell _ _ _ (.inr ⟨rfl,rfl⟩),?_⟩
  have m12:=setA w11 b 0 v'
  have ne:∀ q,q≠0→(⟨b,0,none⟩:Addr)≠⟨b,q,none⟩:=fun q hq e=>by simp only [Addr.mk.injEq] at e;omega
  obtain ⟨u,hu⟩:=Option.isSome_iff_exists.1 (l11 0 (by decide)).1
  have v'b:v'.ownBlock≠some b:=fun e=>by rcases f11 b e with h | h;exact vb h;omega
  have lv12:∀ q,q < 3→Live (w11.setCell ⟨b,0,none⟩ v') ⟨b,q,none⟩:=fun q hq=>(l11 q hq).set _ _
  have c12:=World.cell?_setCell_same w11 ⟨b,0,none⟩ v' hu
  have co:∀ q u,q≠0→w10.cell? ⟨b,q,none⟩=some u→(w11.setCell ⟨b,0,none⟩ v').cell? ⟨b,q,none⟩=some u:=fun q u hq hu=>(World.cell?_setCell_other _ _ _ _ (ne q hq)).trans (m11.cell hu vb)
  generalize w11.setCell ⟨b,0,none⟩ v'=W at m12 lv12 c12 co ⊢
  have z12:=m12.size
  refine ⟨⟨v',_,C2,none,c12,co 1 _ (by decide) K10.c1,co 2 _ (by decide) K10.c2,lv12,.inl h'.fb,C2b,fun x hx=>?_,?_,fun x hx=>?_,.inl ⟨rfl,rfl,rfl⟩⟩,?_⟩
  ·rcases hx with hc | hc
   ·exact ⟨.inl (C1F x hc),by have:=hc.2;omega⟩
   ·have:=n1b x hc;exact ⟨.inr (by omega),by omega⟩
  ·rw [eput]
   exact OwnR.mod o11 m12 (fun x hx e=>v'b (e ▸ hx)) fun r x _ hx=>hx.cmod m12 fun y hy e=>C2b (e ▸ hy)
  ·rcases f11 x hx with h | h
   ·exact ⟨(K8.dF x h).1,C2v x h,(K8.dF x h).2.2⟩
   ·refine ⟨.inr (by omega),?_,fun e=>v'b (e ▸ hx)⟩
    rintro (hc | hc)
    ·have:=hc.2;omega
    ·have:=n1b x hc;omega
  ·refine ((m09.trans (Grow.mod g10)).next m11 fun x hx e=>?_).next m12 fun x _ e=>by rw [e];exact h'.fb
   rcases (K8.dF x e).1 with h | h
   ·exact h
   ·omega
end Go.Proofs.YtgmpbihbdbmhoaaGreatDoor

namespace Go.Proofs.YtgmpbihbdbmhoaaGreatDoor
open Go Go.K

theorem mDops_app (l m:List Dop):mDops (l++m)=mDops l+mDops m:=by simp [mDops]
theorem mDops_one (o:Dop):mDops [o]=mDop o:=by simp [mDops]
theorem gapL_m (ins:List Dop) (g:Int):mDops (gapL ins g)≤mDops ins+1:=by
 unfold gapL;split
 ·rw [mDops_app,mDops_one];simp [mDop,mSet,mPat]
 ·omega
theorem putS_m (d:List Dop) (n:Int) (p:List Chg):mDops (putS d n p)≤mDops d+1+mPat p:=by
 rcases snoc_cases d with rfl | ⟨i,b,rfl⟩
 ·simp [putS,mDops,mDop,mSet]
 ·unfold putS
  rw [List.getLast?_append,List.getLast?_singleton,Option.some_or]
  simp only
  split
  ·rw [set_last]
   simp only [mDops_app,mDops_one,mDop];omega
  ·simp only [mDops_app,mDops_one,mDop,mSet,List.length_nil,List.map_nil,List.sum_nil];omega
theorem addI_m (d:List Dop) (rs:List Int) (set:List Attr):mDops (addI d rs set)≤mDops d+1+rs.length+mSet set:=by
 rcases snoc_cases d with rfl | ⟨i,b,rfl⟩
 ·simp [addI,mDops,mDop,mPat]
 ·unfold addI
  rw [List.getLast?_append,List.getLast?_singleton,Option.some_or]
  simp only
  split
  ·rw [set_last]
   simp only [mDops_app,mDops_one,mDop,List.length_append];omega
  ·simp only [mDops_app,mDops_one,mDop,mPat,List.map_nil,List.sum_nil];omega
theorem stepS_m (s:MkS) (o:Dop):mDops (stepS s o).done+mDops (stepS s o).ins≤mDops s.done+mDops s.ins+2 * mDop o:=by
 have h0:1≤mDop o:=by simp [mDop];omega
 unfold stepS
 split
 ·unfold retS
  split
  ·omega
  ·have h1:=putS_m (s.done++gapL s.ins s.gone) o.n o.patch
   have h2:=gapL_m s.ins s.gone
   rw [mDops_app] at h1
   simp only [mDop] at h0 ⊢
   simp only [mDops,List.map_nil,List.sum_nil] at h1 h2 ⊢
   omega
 ·split
  ·unfold insS
   split
   ·omega
   ·have h1:=addI_m s.ins o.runes o.set
    simp only [mDop] at h0 ⊢
    omega
  ·simp only [delS];omega
theorem runS_m (x:List Dop):mDops (runS x).done+mDops (runS x).ins≤2 * mDops x:=by
 induction x using rev_ind with
 | h0=>exact Nat.zero_le _
 | h1 x o ih=>
  have e:runS (x++[o])=stepS (runS x) o:=by simp [runS]
  rw [e,mDops_app,mDops_one]
  have:=stepS_m (runS x) o
  omega
theorem mDops_sub {l:List Dop}:mDops (trimL l)≤mDops l:=by
 unfold trimL
 split
 ·split
  ·rw [List.dropLast_eq_take];exact mDops_le _ _
  ·exact Nat.le_refl _
 ·exact Nat.le_refl _
theorem ops_ok {F:Nat→Prop} {w:World} {b:Nat} {s:MkS} (h:MkI F w b s) (hb:mDops s.done+mDops s.ins≤274877906944) :
  callK Tryz.prog 50 [.pointer (some ⟨b,0,none⟩)] (fun v' w'=>ODops w.heap.size w' v' (opsS s)∧Grow w w') w:=by
 apply S50_ok
 unfold S50
 obtain ⟨dv,iv,C,hot,h⟩:=h
 have hdl:=mDops_len s.done
 have hil:=mDops_len s.ins
 have hgm:=gapL_m s.ins s.gone
 have hgl:=mDops_len (gapL s.ins s.gone)
 rw [pnilK_i]
 simp only [Option.isNone_some]
 rw [condK_b,if_neg (by simp)]
 have gd:Grow w w.drew:=Mod.drew _ _
 have h':=h.grow gd
 have zd:w.drew.heap.size=w.heap.size:=rfl
 rw [←zd]
 have fin:∀ {W':World},Grow w.drew W'→Grow w W':=fun g=>gd.trans g
 generalize w.drew=w1 at gd h' zd fin ⊢
 refine drawC_i (fun _ _=>False) ?_
 rw [nilckK_i,faK_i,addr0]
 refine sld1_i ⟨h'.c0,fun j hj e=>e⟩ ?_
 refine callK_mono (gap_ok h' (by omega)) ?_
 rintro v2 w2 ⟨o2,g2⟩
 refine ⟨g2,?_⟩
 obtain ⟨a1,c1,hv1,hm1,_⟩:=OwnR.shape h'.done
 obtain ⟨a2,c2,hv2,hm2,_⟩:=OwnR.shape o2
 refine rowK_i (cs:=[dv,v2]) (by subst hv1;subst hv2;kernel_rfl) ?_
 have g3:Grow w2 (w2.alloc (.cells [dv,v2].toArray 23)):=Mod.alloc _ _ _
 have hc3:∀ j v,[dv,v2][j]?=some v→(w2.alloc (.cells [dv,v2].toArray 23)).cell? ((⟨w2.heap.size,0,none⟩:Addr).add j)=some v:=fun j v hv=>cell_box hv
 generalize w2.alloc (.cells [dv,v2].toArray 23)=w3 at g3 hc3 ⊢
 refine ⟨g3,?_⟩
 have g13:=g2.trans g3
 have z3:=g13.size
 have rd:RDops (fun _=>True) (fun x=>C x) w3 dv s.done:=SlR.sub (OwnR.sl (h'.grow g13).done) (fun _ _ _=>trivial) (by decide) fun _ _ h=>h
 have rg:RDops (fun _=>True) (fun x=>(C x∨hot=some x)∧x < w1.heap.size) w3 v2 (gapL s.ins s.gone):=by
  have:=OwnR.mod (R':=RDop fun x=>(C x∨hot=some x)∧x < w1.heap.size) o2 g3 (fun _ _ h=>h) fun r y _ hy=>hy.mod g3 (fun _ _ _ h=>h) fun _ _ h=>h
  exact SlR.sub (OwnR.sl this) (fun _ _ _=>trivial) (by decide) fun _ _ h=>h
 refine callK_mono (concat_dops rd rg (by rw [←addr0 w2.heap.size 0];exact hc3 0 _ rfl) (hc3 1 _ rfl) (by omega)) ?_
 rintro v4 w4 ⟨o4,g4⟩
 refine ⟨g4,?_⟩
 have g14:=g13.trans g4
 have z14:=g14.size
 have hlm:mDops (s.done++gapL s.ins s.gone)≤549755813888:=by rw [mDops_app];omega
 have hop:opsS s=trimL (s.done++gapL s.ins s.gone):=rfl
 rw [hop]
 generalize s.done++gapL s.ins s.gone=L at o4 hlm ⊢
 have hLl:=mDops_len L
 have r4:=OwnR.sl o4
 obtain ⟨va,vc,rfl,_,_,_⟩:=OwnR.shape o4
 refine JoinK_i (fun vs w5=>∃ v,vs=[v]∧Grow w1 w5∧RDops (fun _=>True) (fun _=>True) w5 v (trimL L)) ?_ ?_
 ·rintro vs w5 ⟨v,rfl,g5,h5⟩ _
  rw [nth_z,List.headD_cons]
  refine callK_mono (copy_dops h5 (by have:=mDops_sub (l:=L);omega)) ?_
  rintro v6 w6 ⟨o6,g6⟩
  have:=g5.size
  refine ⟨?_,fin (g5.trans g6)⟩
  refine OwnR.mod (OwnR.base o6 fun g hg=>by have:=(OwnR.ownB o6 g hg).1;omega) (Mod.refl (fun _=>False) _) (fun _ _ h=>h) fun r x _ hx=>hx.mod (Mod.refl (fun _=>False) _) (fun _ _ _ h=>h) fun y _ hy=>⟨by omega,hy.2⟩
 ·have rT:RDops (fun _=>True) (fun _=>True) w4 (.slice va L.length vc) L:=SlR.sub r4 (fun _ _ _=>trivial) (by decide) fun r x hx=>hx.mod (Mod.refl (fun _=>False) _) (fun _ _ _ h=>h) fun _ _ _=>trivial
  rw [lenK_i,subK_i,wrap64 (by omega) (by omega),geK_i]
  refine condK_p (fun hge=>?_) fun hge=>?_
  ·have hip:0 < L.length:=by omega
   have hlt:L.length - 1 < L.length:=by omega
   rw [show ((L.length:Int) - 1)=((L.length - 1:Nat):Int) by omega]
   obtain ⟨q,r,rfl,_,hr,hc,rv,sv',pv',rfl,q1,q2,q3⟩:=rT.get hlt
   refine ixK_n hlt ?_
   rw [faK_i,Addr.add_add]
   refine ld1K_i (hc 0 _ rfl) ?_
   rw [eqK_i]
   refine condK_p (fun hk=>?_) fun hk=>⟨_,rfl,g14,by rw [trimL,getLast_get hip];simp only;rw [if_neg (fun h=>hk h.1)];exact rT⟩
   refine ixK_n hlt ?_
   rw [faK_i,Addr.add_add]
   refine ld1K_i (hc 4 _ rfl) ?_
   obtain ⟨pa,pc,rfl,_⟩:=q3.shape
   rw [lenK_i,eqK_i]
   refine condK_p (fun hp=>?_) fun hp=>⟨_,rfl,g14,by rw [trimL,getLast_get hip];simp only;rw [if_neg (fun h=>hp (len0.2 h.2))];exact rT⟩
   refine slice_hi (e:=56) (i:=Tryz.t56) (by kernel_rfl) (by kernel_rfl) (by kernel_rfl) rT (Nat.sub_le _ _) fun v' hv'=>?_
   refine ⟨v',rfl,g14,?_⟩
   rw [trimL,getLast_get hip]
   simp only
   rw [if_pos ⟨hk,len0.1 hp⟩,List.dropLast_eq_take]
   exact hv'
  ·have:L=[]:=List.eq_nil_of_length_eq_zero (by omega)
   subst this
   exact ⟨_,rfl,g14,rT⟩
theorem of_dops {S D:Nat→Prop} {v:Value} {x:List Dop} {w:World} (h:RDops S D w v x) (hb:mDops x≤68719476736) :
  callK Tryz.prog 21 [v] (fun v' w'=>ODops w.heap.size w' v' (normB x)∧Grow w w') w:=by
 apply S21_ok
 unfold S21
 have hxl:=mDops_len x
 refine callK_mono new_ok ?_
 rintro v1 w1 ⟨g1,b,hb1,hb2,rfl,hI1⟩
 have ho:=h.old
 obtain ⟨a,c,rfl,hm⟩:=h.shape
 rw [lenK_i]
 refine LoopK_i (fun vs w2=>∃ k:Nat,k≤x.length∧vs=[.int .i64 k]∧Grow w w2∧MkI (fun y=>w.heap.size≤y) w2 b (runS (x.take k))) (fun vs _=>x.length - iOf vs 0) ⟨0,Nat.zero_le _,rfl,g1,hI1.sub fun y hy=>by rw [hy];exact hb1⟩ ?_
 rintro vs w2 ⟨k,hk,rfl,g2,hI⟩ _
 rw [nth_z,List.headD_cons,ltK_i]
 have hmk:=runS_m (x.take k)
 have hmk2:=mDops_le x k
 refine condK_p (fun hlt=>?_) fun hge=>?_
 ·have hlt':k < x.length:=by omega
  have hmem:x[k] ∈ x:=by simp
  have hmo:=mDops_mem hmem
  obtain ⟨p,r,rfl,_,hr,hc,hop⟩:=(RDops.grow ho g2).get hlt'
  refine ixK_n hlt' (ldnK_i hr (fun j u hu=>by rw [Addr.add_add];exact hc j u hu) ?_)
  refine newst_n (vs:=r) hr rfl hop.one fun bb w3 hbb hz3 g3 hc3 _=>?_
  have g23:=g2.trans g3
  have hI3:MkI (fun y=>w.heap.size≤y) w3 b (runS (x.take k)):=hI.mod g3 fun _ _ h=>h
  obtain ⟨rv,sv,pv,rfl,q1,q2,q3⟩:=hop.mod (D':=fun b=>D b∧b < w.heap.size) g3 (fun _ _ _ h=>h) fun _ _ h=>h
  have estep:runS (x.take (k+1))=stepS (runS (x.take k)) x[k]:=by
   rw [List.take_add_one,List.getElem?_eq_getElem hlt'];simp only [runS,Option.toList,List.foldl_append,List.foldl_cons,List.foldl_nil]
  have next:∀ w4,MkI (fun y=>w.heap.size≤y) w4 b (runS (x.take (k+1)))→Mod (fun y=>w.heap.size≤y) w3 w4→(∃ k':Nat,k'≤x.length∧[Value.int .i64 ((k+1:Nat):Int)]=[.int .i64 k']∧Grow w w4∧MkI (fun y=>w.heap.size≤y) w4 b (runS (x.take k')))∧x.length - iOf [Value.int .i64 ((k+1:Nat):Int)] 0 < x.length - iOf [Value.int .i64 k] 0:=
   fun w4 h4 m4=>⟨⟨k+1,hlt',rfl,g23.next m4 fun y hy e=>by omega,h4⟩,by rw [iOf0,iOf0];omega⟩
  have wsz:=g23.size
  have hdl:=mDops_len (runS (x.take k)).done
  have hil:=mDops_len (runS (x.take k)).ins
  simp only [mDop] at hmo
  have hps:x[k].patch.length≤mPat x[k].patch:=by rw [mPat_eq];omega
  have hss:x[k].set.length≤mSet x[k].set:=by rw [mSet_eq];omega
  simp only [faK_i]
  refine ld1K_i (hc3 0 _ rfl) ?_
  rw [eqK_i]
  refine condK_p (fun k1=>?_) fun k1=>?_
  ·refine ld1K_i (hc3 1 _ rfl) (ld1K_i (hc3 4 _ rfl) ?_)
   refine callK_mono (retain_ok hI3 q3 (fun y hy hf=>by have:=hy.2;omega) (by omega) (by omega)) ?_
   rintro v4 w4 ⟨h4,m4⟩
   rw [addK_i,loop_step (by omega)]
   refine next w4 ?_ m4
   rw [estep,stepS,if_pos k1]
   exact h4.sub fun y hy=>by rcases hy with hy | hy;exact hy;omega
  ·rw [eqK_i]
   refine condK_p (fun k2=>?_) fun k2=>?_
   ·refine ld1K_i (hc3 2 _ rfl) (ld1K_i (hc3 3 _ rfl) ?_)
    refine callK_mono (insert_ok hI3 q1 q2 (fun y hy hf=>by have:=hy.2;omega) (by omega) (fun o ho=>by have:=mDops_mem ho;simp only [mDop] at this;omega) (by omega) (by omega)) ?_
    rintro v4 w4 ⟨h4,m4⟩
    rw [addK_i,loop_step (by omega)]
    refine next w4 ?_ m4
    rw [estep,stepS,if_neg k1,if_pos k2]
    exact h4.sub fun y hy=>by rcases hy with hy | hy;exact hy;omega
   ·refine ld1K_i (hc3 1 _ rfl) ?_
    refine callK_mono (delete_ok hI3) ?_
    rintro v4 w4 ⟨h4,m4⟩
    rw [addK_i,loop_step (by omega)]
    refine next w4 ?_ m4
    rw [estep,stepS,if_neg k1,if_neg k2]
    exact h4
 ·have:k=x.length:=by omega
  subst this
  rw [List.take_length] at hI hmk
  refine callK_mono (ops_ok hI (by omega)) ?_
  rintro v3 w3 ⟨o3,g3⟩
  have:=g2.size
  refine ⟨?_,g2.trans g3⟩
  exact OwnR.mod (OwnR.base o3 fun g hg=>by have:=(OwnR.ownB o3 g hg).1;omega) (Mod.refl (fun _=>False) _) (fun _ _ h=>h) fun r x _ hx=>hx.mod (Mod.refl (fun _=>False) _) (fun _ _ _ h=>h) fun y _ hy=>⟨by omega,hy.2⟩
theorem is_dops {S D:Nat→Prop} {v:Value} {x:List Dop} {w:World} (h:RDops S D w v x) (hb:mDops x≤68719476736) :
  callK Tryz.prog 31 [v] (fun v' w'=>v'=.bool (decide (normB x=x))∧Grow w w') w:=by
 apply S31_ok
 unfold S31
 refine callK_mono (of_dops h hb) ?_
 rintro v1 w1 ⟨o1,g1⟩
 refine callK_mono (same_dops (ODops.reads o1) (RDops.grow h g1)) ?_
 rintro v2 w2 ⟨rfl,g2⟩
 exact ⟨rfl,g1.trans g2⟩
end Go.Proofs.YtgmpbihbdbmhoaaGreatDoor

namespace Go.Proofs.YtgmpbihbdbmhoaaGreatDoor
open Go Go.K

theorem rsame_dops {S S' D D':Nat→Prop} {a b:Value} {x y:List Dop} {w:World} (ha:RDops S D w a x) (hb:RDops S' D' w b y) :
  callK Tryz.prog 11 [a,b] (fun v w'=>v=.bool (decide (x=y))∧Grow w w') w:=by
 apply S11_ok
 unfold S11
 obtain ⟨pa,ca,rfl,hla⟩:=ha.shape
 obtain ⟨pb,cb,rfl,hlb⟩:=hb.shape
 simp only [maxLen] at hla
 have no:∀ w',Grow w w'→x≠y→Value.bool false=.bool (decide (x=y))∧Grow w w':=fun w' g hn=>⟨by rw [decide_eq_false hn],g⟩
 rw [lenK_i,lenK_i,neK_i]
 refine condK_neg (fun hlen=>?_) fun hne=>no _ (Mod.refl _ _) fun e=>hne (by rw [e])
 have hlen':x.length=y.length:=by omega
 refine LoopK_i (fun vs w1=>∃ i:Nat,i≤x.length∧vs=[.int .i64 i]∧Grow w w1∧x.take i=y.take i) (fun vs _=>x.length - iOf vs 0) ⟨0,Nat.zero_le _,rfl,Mod.refl _ _,rfl⟩ ?_
 rintro vs w1 ⟨i,hi,rfl,g1,ht⟩ _
 rw [lenK_i,nth_z,List.headD_cons,ltK_i]
 refine condK_p (fun hlt=>?_) fun hge=>?_
 ·have hlt':i < x.length:=by omega
  have hlt2:i < y.length:=by omega
  have no2:∀ w',Grow w w'→x[i]≠y[i]→Value.bool false=.bool (decide (x=y))∧Grow w w':=fun w' g hn=>no w' g (by rintro rfl;exact hn rfl)
  refine JoinK_i (fun _ w2=>Grow w w2∧x[i]=y[i]) ?_ ?_
  ·rintro _ w2 ⟨g2,he⟩ _
   rw [addK_i,loop_step (by omega)]
   refine ⟨⟨i+1,hlt',rfl,g2,?_⟩,by rw [iOf0,iOf0];omega⟩
   rw [List.take_add_one,List.take_add_one,ht,List.getElem?_eq_getElem hlt',List.getElem?_eq_getElem hlt2,he]
  ·obtain ⟨p,r,rfl,_,hr,hc,hx⟩:=(RDops.grow ha g1).get hlt'
   obtain ⟨p',r',rfl,_,hr',hc',hy⟩:=(RDops.grow hb g1).get hlt2
   refine JoinK_i (fun vs w3=>∃ b6 b7,vs=[.pointer (some ⟨b6,0,none⟩),.pointer (some ⟨b7,0,none⟩)]∧Grow w1 w3∧(∀ j u,r[j]?=some u→w3.cell? ((⟨b6,0,none⟩:Addr).add j)=some u)∧(∀ j u,r'[j]?=some u→w3.cell? ((⟨b7,0,none⟩:Addr).add j)=some u)) ?_ ?_
   ·rintro _ w3 ⟨b6,b7,rfl,g3,c6,c7⟩ _
    have hx3:=hx.mod (D':=D) g3 (fun _ _ _ h=>h) fun _ _ h=>h
    have hy3:=hy.mod (D':=D') g3 (fun _ _ _ h=>h) fun _ _ h=>h
    obtain ⟨rv,sv,pv,rfl,x1,x2,x3⟩:=hx3
    obtain ⟨rv',sv',pv',rfl,y1,y2,y3⟩:=hy3
    have g13:=g1.trans g3
    show faK 0 (.pointer (some ⟨b6,0,none⟩)) _
    simp only [nth_z,nth_s,List.headD_cons,List.tail_cons,faK_i]
    refine ld1K_i (c6 0 _ rfl) (ld1K_i (c7 0 _ rfl) ?_)
    rw [neK_i]
    refine condK_neg (fun e1=>?_) fun hne=>no2 _ g13 fun e=>hne (by rw [e])
    refine ld1K_i (c6 1 _ rfl) (ld1K_i (c7 1 _ rfl) ?_)
    rw [neK_i]
    refine condK_neg (fun e2=>?_) fun hne=>no2 _ g13 fun e=>hne (by rw [e])
    refine ld1K_i (c6 2 _ rfl) (ld1K_i (c7 2 _ rfl) ?_)
    refine callK_mono (rsame_run x1 y1) ?_
    rintro _ w4 ⟨rfl,g4⟩
    rw [notK_i]
    refine condK_neg (fun e3=>?_) fun hne=>no2 _ (g13.trans g4) fun e=>hne (by rw [e])
    refine ld1K_i (g4.cell (c6 3 _ rfl) fun h=>h) (ld1K_i (g4.cell (c7 3 _ rfl) fun h=>h) ?_)
    refine callK_mono (rsame_set (x2.grow g4 (by decide) fun _ _ h=>h) (y2.grow g4 (by decide) fun _ _ h=>h)) ?_
    rintro _ w5 ⟨rfl,g5⟩
    rw [notK_i]
    have g45:=g4.trans g5
    refine condK_neg (fun e4=>?_) fun hne=>no2 _ (g13.trans g45) fun e=>hne (by rw [e])
    refine ld1K_i (g45.cell (c6 4 _ rfl) fun h=>h) (ld1K_i (g45.cell (c7 4 _ rfl) fun h=>h) ?_)
    refine callK_mono (rsame_pat (x3.grow g45 (by decide) fun _ _ h=>h) (y3.grow g45 (by decide) fun _ _ h=>h)) ?_
    rintro _ w6 ⟨rfl,g6⟩
    rw [notK_i]
    refine condK_neg (fun e5=>⟨(g13.trans g45).trans g6,?_⟩) fun hne=>no2 _ ((g13.trans g45).trans g6) fun e=>hne (by rw [e])
    have eta:∀ o:Dop,o=⟨o.kind,o.n,o.runes,o.set,o.patch⟩:=fun _=>rfl
    rw [eta x[i],eta y[i],e1,e2,e3,e4,e5]
   ·refine drawC_i (fun k y=>(k=10∨k=11)∧w1.heap.size≤y) ?_
    have gd:Grow w1 w1.drew:=Mod.drew _ _
    have one:=RDop.one hx
    have one':=RDop.one hy
    have zd:=gd.size
    refine ixK_n hlt' (sldn_i hr (fun j u hu=>⟨by rw [Addr.add_add];exact gd.cell (hc j u hu) fun h=>h,fun k hk e=>?_⟩) ?_)
    ·rcases e with ⟨rfl | rfl,_⟩ <;> exact absurd hk (by decide)
    refine ixK_n hlt2 (sldn_i hr' (fun j u hu=>⟨by rw [Addr.add_add];exact gd.cell (hc' j u hu) fun h=>h,fun k hk e=>?_⟩) ?_)
    ·have:=World.block_lt_of_cell? w1 _ (hc' j u hu)
     rw [add_block] at this
     rw [add_block,add_block] at e
     omega
    refine ⟨?_,?_⟩
    ·refine newz_i fun b6 w17 hb6 hz6 g6 _ hl6=>⟨g6.mono fun _ _ h=>h.elim,?_⟩
     refine newz_i fun b7 w18 hb7 hz7 g7 _ hl7=>⟨g7.mono fun _ _ h=>h.elim,?_⟩
     refine stn_over hr one (fun j hj=>(hl6 j hj).mod g7 fun h=>h) fun w19 m19 hc6 _=>⟨m19.mono fun y _ e=>⟨.inl rfl,by omega⟩,?_⟩
     refine stn_over hr' one' (fun j hj=>(hl7 j hj).mod m19 fun e=>absurd (show b7=b6 by rw [addr0] at e;exact e) (by omega)) fun w20 m20 hc7 _=>⟨m20.mono fun y _ e=>⟨.inr rfl,by omega⟩,b6,b7,rfl,?_,fun j u hu=>m20.cell (hc6 j u hu) fun e=>absurd (show b6=b7 by rw [addr0] at e;exact e) (by omega),hc7⟩
     exact (((gd.trans g6).trans g7).next m19 fun x hx e=>by omega).next m20 fun x hx e=>by omega
    ·refine newz_i fun b7 w17 hb7 hz7 g7 _ hl7=>⟨g7.mono fun _ _ h=>h.elim,?_⟩
     refine newz_i fun b6 w18 hb6 hz6 g6 _ hl6=>⟨g6.mono fun _ _ h=>h.elim,?_⟩
     refine stn_over hr one hl6 fun w19 m19 hc6 _=>⟨m19.mono fun y _ e=>⟨.inl rfl,by omega⟩,?_⟩
     refine stn_over hr' one' (fun j hj=>((hl7 j hj).mod g6 fun h=>h).mod m19 fun e=>absurd (show b7=b6 by rw [addr0] at e;exact e) (by omega)) fun w20 m20 hc7 _=>⟨m20.mono fun y _ e=>⟨.inr rfl,by omega⟩,b6,b7,rfl,?_,fun j u hu=>m20.cell (hc6 j u hu) fun e=>absurd (show b6=b7 by rw [addr0] at e;exact e) (by omega),hc7⟩
     exact (((gd.trans g7).trans g6).next m19 fun x hx e=>by omega).next m20 fun x hx e=>by omega
 ·have:i=x.length:=by omega
  subst this
  rw [List.take_length,hlen',List.take_length] at ht
  exact ⟨by rw [decide_eq_true ht],g1⟩
end Go.Proofs.YtgmpbihbdbmhoaaGreatDoor

namespace Go.K
open Go
theorem SlR.rows {α:Type} {S:Nat→Prop} {k:Nat} {R:World→List Value→α→Prop} {w:World} {a:Option Addr} {c n:Nat} {m:List α} (hx:SlR S k R w (.slice a n c) m) (hone:∀ r y,R w r y→∀ u ∈ r,u.oneCell'=true) :
  ∃ rows':List (List Value),rows'.length=m.length∧(∀ (i:Nat) (r:List Value),rows'[i]?=some r→r.length=k∧(∀ u ∈ r,u.oneCell'=true)∧(∃ p,a=some p∧∀ j u,r[j]?=some u→w.cell? (p.add (i * k+j))=some u)∧∃ y,m[i]?=some y∧R w r y):=by
 obtain ⟨a',c',e,_,_,hel⟩:=hx
 cases e
 have gen:∀ q,q≤m.length→∃ rows':List (List Value),rows'.length=q∧(∀ (i:Nat) (r:List Value),rows'[i]?=some r→r.length=k∧(∀ u ∈ r,u.oneCell'=true)∧(∃ p,a=some p∧∀ j u,r[j]?=some u→w.cell? (p.add (i * k+j))=some u)∧∃ y,m[i]?=some y∧R w r y):=by
  intro q
  induction q with
  | zero=>exact fun _=>⟨[],rfl,fun i r h=>by simp at h⟩
  | succ q ih=>
   intro hq
   obtain ⟨rs,e1,e2⟩:=ih (by omega)
   obtain ⟨p,r,f1,f2,f3,f4,f5⟩:=hel q m[q] (by simp [show q < m.length by omega])
   refine ⟨rs++[r],by simp [e1],fun i r' hr'=>?_⟩
   by_cases hi:i < q
   ·rw [List.getElem?_append_left (by omega)] at hr';exact e2 i r' hr'
   ·have:i=q:=by have:=(List.getElem?_eq_some_iff.1 hr').1;simp [e1] at this;omega
    subst this
    rw [List.getElem?_append_right (by omega)] at hr'
    simp [e1] at hr'
    subst hr'
    exact ⟨f3,hone _ _ f5,⟨p,f1,f4⟩,m[i],by simp [show i < m.length by omega],f5⟩
 exact gen m.length (Nat.le_refl _)
theorem append_new {α:Type} {P:Program} {t ty e k bytes b:Nat} {R:World→List Value→α→Prop} {S:Nat→Prop} {w:World} {x:Value} {m:List α} (hE:ElemOK P t e k bytes) (hb:w.heap[b]?=some (.cells #[] e (0,0))) (hx:SlR S k R w x m)
  (hone:∀ w r y,R w r y→∀ u ∈ r,u.oneCell'=true) (h63:m.length * bytes≤140737488355328) (hR:∀ w',w.grownBy w' (some b)→∀ r y,R w r y→R w' r y) :
  ∃ v' w',(Builtin.append_ #[t,t] ty [.slice (some ⟨b,0,none⟩) 0 0,x].toArray).run P w=.ok v' w'∧OwnR b e k R w' v' m∧Grow w w'∧∀ g,v'.ownBlock=some g→g=b∨w.heap.size≤g:=by
 obtain ⟨a,c,rfl,hm⟩:=hx.shape
 have hlt:b < w.heap.size:=(Array.getElem?_eq_some_iff.1 hb).1
 have ho:OwnR b e k R w (.slice (some ⟨b,0,none⟩) 0 0) ([]:List α):=⟨[],⟨by simp,.inr ⟨b,0,#[],rfl,Nat.le_refl _,hb,Nat.le_refl _,by simp [maxLen],by simp,by simp⟩⟩,rfl,by simp,by simp⟩
 obtain ⟨v',w',hrun,r2,r3,r4⟩:=OwnR.append (ty:=ty) hE ho hx (fun _ _=>hone _ _ _) (by simpa using h63) (by omega) (by simpa using hm) (fun w' hg r y hy=>hR w' hg r y hy)
 refine ⟨v',w',hrun,by simpa using r2,?_,fun g hg=>?_⟩
 ·obtain ⟨i,z,ht,hi,hz,hs,hbt,hzs,hk⟩:=hE
  obtain ⟨rows',g1,g2⟩:=SlR.rows hx (fun _ _=>hone _ _ _)
  have hlen:∀ r ∈ rows',r.length=k:=fun r hr=>by obtain ⟨j,hj⟩:=List.mem_iff_getElem?.1 hr;exact (g2 j r hj).1
  simp only [maxLen] at hm
  by_cases hm0:m.length=0
  ·have h0:(Builtin.append_ #[t,t] ty [.slice (some ⟨b,0,none⟩) 0 0,.slice a m.length c].toArray).run P w=.ok (.slice (some ⟨b,0,none⟩) 0 0) w:=by
    rw [hm0]
    cases a <;> simp [Builtin.append_,run_underlying ht,sizeOf,typeInfo,hi,Builtin.lenOf,Builtin.firstCells,storeCells,loadCells,loadCellsFrom]
   rw [h0] at hrun
   cases hrun
   exact Mod.refl _ _
  ·obtain ⟨p,r,f1,_⟩:=hx.get (i:=0) (by omega)
   subst f1
   have hr:=run_append_grow (P:=P) w t ty e i z ht hi hz ⟨b,0,none⟩ 0 0 [] (by simp) (by simp) p m.length c rows'.flatten (by rw [flat_len rows' hlen,g1,hs]) (fun q u hu=>by
    obtain ⟨r,hr,hru⟩:=flat_of_get hk rows' hlen q u hu
    obtain ⟨_,_,⟨p',hp',hc'⟩,_⟩:=g2 _ r hr
    cases hp'
    have:=hc' _ u hru
    rwa [Nat.div_add_mod'] at this) (by omega) (by omega) (growslice_fits (by omega) (by rw [hbt];simpa using h63))
   have hr':(Builtin.append_ #[t,t] ty [.slice (some ⟨b,0,none⟩) 0 0,.slice (some p) m.length c].toArray).run P w=_:=hr
   rw [hr'] at hrun
   cases hrun
   exact (Mod.drew _ _).trans (Mod.alloc _ _ _)
 ·rcases r4 g hg with h | h
  ·exact .inl (by simpa [Value.ownBlock] using h.symm)
  ·exact .inr h
end Go.K

namespace Go.K
open Go
theorem addr_at (g o x:Nat):(⟨g,o,none⟩:Addr).add x=⟨g,o+x,none⟩:=by unfold Addr.add;split <;> simp_all
theorem setL_at {g off:Nat}:∀ (vs:List Value) (q:Nat) (W:World),(∀ j,q≤j→j < q+vs.length→Live W ⟨g,off+j,none⟩)→
  Mod (fun x=>x=g) W (setL W ⟨g,off,none⟩ q vs)∧(∀ j u,vs[j]?=some u→(setL W ⟨g,off,none⟩ q vs).cell? ⟨g,off+q+j,none⟩=some u)∧(∀ j,(j < off+q∨off+q+vs.length≤j)→(setL W ⟨g,off,none⟩ q vs).cell? ⟨g,j,none⟩=W.cell? ⟨g,j,none⟩)∧(∀ a,Live W a→Live (setL W ⟨g,off,none⟩ q vs) a):=by
 intro vs
 induction vs with
 | nil=>intro q W _;exact ⟨Mod.refl _ _,fun j u hu=>by simp at hu,fun _ _=>rfl,fun _ h=>h⟩
 | cons x vs ih=>
  intro q W hl
  simp only [setL]
  rw [addr_at]
  have hl0:=hl q (Nat.le_refl _) (by simp)
  obtain ⟨i1,i2,i3,i4⟩:=ih (q+1) (W.setCell ⟨g,off+q,none⟩ x) fun j h1 h2=>(hl j (by omega) (by simp;omega)).set _ _
  refine ⟨(Mod.setCell (M:=fun x=>x=g) W ⟨g,off+q,none⟩ x rfl).trans i1,fun j u hu=>?_,fun j hj=>?_,fun a ha=>i4 a (ha.set _ _)⟩
  ·cases j with
   | zero=>
    simp at hu;subst hu
    obtain ⟨u',hu'⟩:=Option.isSome_iff_exists.1 hl0.1
    rw [i3 _ (.inl (by omega))]
    exact World.cell?_setCell_same _ _ _ hu'
   | succ j=>
    have:=i2 j u (by simpa using hu)
    rw [show off+q+(j+1)=off+(q+1)+j by omega];exact this
  ·simp only [List.length_cons] at hj
   rw [i3 j (by omega),World.cell?_setCell_other _ _ _ _ (by intro e;simp only [Addr.mk.injEq] at e;omega)]
section
variable {α:Type} {k:Nat} {cs:α→List Value} {W W':World} {g:Nat} {L:List α}
end
end Go.K
namespace Go.Proofs.YtgmpbihbdbmhoaaGreatDoor
open Go Go.K

end Go.Proofs.YtgmpbihbdbmhoaaGreatDoor
