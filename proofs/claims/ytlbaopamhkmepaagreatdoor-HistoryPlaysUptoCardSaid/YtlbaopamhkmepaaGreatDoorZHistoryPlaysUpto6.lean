/- Contracts: the document's sets without a key, with an attribute, with a patch; its cell. Conditions: the sizes. Contract of the document's copying of a delta. Condition: how much there is. Contract of the document's gap: inserts with one set made one, then one delete. Condition: how much there is. A slice from a place up to a place; of a row of one's own, cut short. No conditions. Contract: a delta cut in ones. Conditions: the sizes. Contract of the document's normal form, and of whether a delta is one. Condition: how much there is. Contracts of composing: the reader that cuts a delta as it is needed. Conditions: the sizes. By a program of ours: of each function below the predicate that its code comes to, and that it is sound. No conditions. The history in memory: its stores; contracts of New, keep. Conditions: the sizes. Contracts of the history: ready, New, keep, Push outside a bracket, Depths, Open, Begin. Conditions: the sizes. Contracts of the history: Push outside a bracket, Depths, Open, Begin, Undo, Redo. Conditions: the sizes. -/
import Derived.Test.YtlbaopamhkmepaaGreatDoorZHistoryPlaysUpto5
namespace Go.Proofs.YtlbaopamhkmepaaGreatDoor
open Go Go.K

theorem rwithout_ok {S:Nat→Prop} {sv:Value} {s:List Attr} {k:Int} {w:World} (hs:RSet S w sv s) (hb:s.length≤1000000) :
  callK Tryz.prog 187 [sv,.int .i64 k] (fun v' w'=>OSet w.heap.size w' v' (without s k)∧Grow w w') w:=by
 apply S187_ok
 unfold S187
 obtain ⟨sa,sc,rfl,_⟩:=hs.shape
 refine LoopK_i (fun vs W=>∃ (i:Nat) (ov:Value),i≤s.length∧vs=[ov,.int .i64 i]∧OSet w.heap.size W ov (without (s.take i) k)∧Grow w W) (fun vs _=>s.length - iOf vs 1) ⟨0,_,by omega,rfl,OwnR.nil,Mod.refl _ _⟩ ?_
 rintro vs W ⟨i,ov,hi,rfl,ho,g⟩ _
 simp only [nth_s,nth_z,List.headD_cons,List.tail_cons]
 rw [lenK_i,ltK_i]
 refine condK_p (fun hlt=>?_) fun hge=>?_
 ·have hlt':i < s.length:=by omega
  have hsz:(without (s.take i) k).length≤s.length:=Nat.le_trans (List.length_filter_le _ _) (List.length_take_le' _ _)
  have es:without (s.take (i+1)) k=without (s.take i) k++if s[i].key=k then [] else [s[i]]:=by
   rw [List.take_add_one,List.getElem?_eq_getElem hlt',without,List.filter_append]
   congr 1
   rw [Option.toList,List.filter_cons,List.filter_nil]
   by_cases e:s[i].key=k <;> simp [e]
  obtain ⟨a,r,rfl,_,hr,hc,rfl⟩:=(hs.grow g (by decide) fun _ _ h=>h).get hlt'
  refine ixK_n hlt' ?_
  rw [faK_i,Addr.add_add]
  refine ld1K_i (hc 0 _ rfl) ?_
  rw [neK_i]
  refine condK_neg (fun he=>?_) fun hne=>?_
  ·rw [if_pos he,List.append_nil] at es
   rw [addK_i,loop_step (by omega)]
   exact ⟨⟨i+1,ov,hlt',rfl,by rw [es];exact ho,g⟩,by rw [iOf1,iOf1];omega⟩
  ·rw [if_neg hne] at es
   refine ixK_n hlt' (ldnK_i hr (fun j u hu=>by rw [Addr.add_add];exact hc j u hu) ?_)
   refine push_n (w0:=w) elem_attr ho g (cs:=s[i].cells) (x:=s[i]) (by kernel_rfl) rfl rfl (fun _ _ _=>RAttr.one) (fun _ _ _ _ _ _ h=>h) (by omega) (by simp only [maxLen];omega) fun v' w' o' g'=>?_
   rw [addK_i,loop_step (by omega)]
   exact ⟨⟨i+1,v',hlt',rfl,by rw [es];exact o',g'⟩,by rw [iOf1,iOf1];omega⟩
 ·obtain rfl:i=s.length:=by omega
  rw [List.take_length] at ho
  exact ⟨ho,g⟩
theorem withF_len (c:Attr):∀ (b:List Attr) (o:List Attr) (f:Bool),(b.foldl (withF c) (o,f)).1.length≤o.length+2 * b.length:=by
 intro b
 induction b with
 | nil=>intro o f;simp
 | cons x b ih=>
  intro o f
  rw [List.foldl_cons]
  have:=ih (withF c (o,f) x).1 (withF c (o,f) x).2
  have h:(withF c (o,f) x).1.length≤o.length+2:=by
   simp only [withF]
   split <;> simp
  simp only [List.length_cons]
  exact Nat.le_trans this (by omega)
theorem foldW_succ {p:List Attr} {c:Attr} {i:Nat} (h:i < p.length):(p.take (i+1)).foldl (withF c) ([],false)=withF c ((p.take i).foldl (withF c) ([],false)) p[i]:=by
 rw [List.take_add_one,List.getElem?_eq_getElem h]
 simp only [Option.toList,List.foldl_append,List.foldl_cons,List.foldl_nil]
theorem without_len (s:List Attr) (k:Int):(without s k).length≤s.length:=List.length_filter_le _ _
set_option maxRecDepth 20000 in
theorem rwith_ok {S:Nat→Prop} {sv:Value} {s:List Attr} {c:Attr} {w:World} (hs:RSet S w sv s) (hb:s.length≤1000000) :
  callK Tryz.prog 188 [sv,.agg c.cells.toArray] (fun v' w'=>OSet w.heap.size w' v' (withA s c)∧Grow w w') w:=by
 apply S188_ok
 unfold S188
 refine boxn_i (vs:=c.cells) fun b w0 hb1 hz1 g1 hc1 _=>?_
 rw [faK_i]
 refine ld1K_i (hc1 0 _ rfl) ?_
 refine callK_mono (rwithout_ok (hs.grow g1 (by decide) fun _ _ h=>h) hb) ?_
 rintro tv w1 ⟨ot,gt⟩
 have g01:=g1.trans gt
 have hc2:∀ j u,c.cells[j]?=some u→w1.cell? ((⟨b,0,none⟩:Addr).add j)=some u:=fun j u hu=>gt.cell (hc1 j u hu) fun h=>h
 have htl:(without s c.key).length≤1000000:=Nat.le_trans (without_len _ _) hb
 have hp1:RSet (fun z=>z < w1.heap.size) w1 tv (without s c.key):=SlR.sub (OwnR.sl ot) (fun z hz _=>hz) (by decide) fun _ _ h=>h
 have eW:withA s c=endA c ((without s c.key).foldl (withF c) ([],false)):=rfl
 rw [eW]
 generalize without s c.key=p at htl hp1 ⊢
 obtain ⟨pa,pc,rfl,_⟩:=hp1.shape
 have fin:∀ {W:World} {ov:Value} {o:List Attr},OSet w1.heap.size W ov o→Grow w1 W→OSet w.heap.size W ov o∧Grow w W:=fun ho g=>⟨OwnR.base ho fun z hz=>by have:=(OwnR.ownB ho z hz).1;have:=g01.size;omega,g01.trans g⟩
 refine LoopK_i (fun vs W=>∃ (i:Nat) (ov:Value) (a:List Attr × Bool),i≤p.length∧vs=[ov,.bool a.2,.int .i64 i]∧a=(p.take i).foldl (withF c) ([],false)∧OSet w1.heap.size W ov a.1∧Grow w1 W) (fun vs _=>p.length - iOf vs 2) ⟨0,_,([],false),by omega,rfl,rfl,OwnR.nil,Mod.refl _ _⟩ ?_
 rintro vs W ⟨i,ov,⟨o,f⟩,hi,rfl,ha,ho,g⟩ _
 simp only at ho
 have hlen:o.length≤2 * p.length:=by
  have:=withF_len c (p.take i) [] false
  rw [←ha] at this
  have h2:=List.length_take_le i p
  simp only [List.length_nil] at this
  omega
 simp only [nth_s,nth_z,List.headD_cons,List.tail_cons]
 rw [lenK_i,ltK_i]
 refine condK_p (fun hlt=>?_) fun hge=>?_
 ·have hlt':i < p.length:=by omega
  obtain ⟨q,r,rfl,hq1,hr,hc,rfl⟩:=(hp1.grow g (by decide) fun _ _ h=>h).get hlt'
  have hs:=foldW_succ (c:=c) hlt'
  rw [←ha] at hs
  simp only [withF] at hs
  refine JoinK_i (fun vs W'=>∃ (ov':Value) (o':List Attr),vs=[ov',.bool (f || decide (c.key < p[i].key))]∧o'=(if f=false∧c.key < p[i].key then o++[c] else o)∧OSet w1.heap.size W' ov' o'∧Grow w1 W'∧(∀ j u,p[i].cells[j]?=some u→W'.cell? (q.add (i * 5+j))=some u)) ?_ ?_
  ·rintro _ W' ⟨ov',o',rfl,ho',hO,gW,hcq⟩ _
   simp only [nth_s,nth_z,List.headD_cons,List.tail_cons]
   have hlen':o'.length≤2 * p.length+1:=by
    rw [ho']
    split
    ·simp only [List.length_append,List.length_cons,List.length_nil];omega
    ·omega
   rw [←ho'] at hs
   refine ixK_n hlt' (ldnK_i (vs:=p[i].cells) rfl (fun j u hu=>by rw [Addr.add_add];exact hcq j u hu) ?_)
   refine push_n (w0:=w1) elem_attr hO gW (cs:=p[i].cells) (x:=p[i]) (by kernel_rfl) rfl rfl (fun _ _ _=>RAttr.one) (fun _ _ _ _ _ _ h=>h) (by omega) (by simp only [maxLen];omega) fun v' w' o'' g'=>?_
   rw [addK_i,loop_step (by omega)]
   refine ⟨⟨i+1,v',(o'++[p[i]],f || decide (c.key < p[i].key)),hlt',rfl,by rw [hs],o'',g'⟩,?_⟩
   show p.length - ((i+1:Nat):Int).toNat < p.length - (i:Int).toNat
   omega
  ·refine drawK_i (fun w2=>Grow W w2) (Mod.drew _ _) ?_
   rw [notK_i]
   cases f with
   | true=>
    refine condK_f fun w2 g2=>⟨ov,o,by simp,by simp,OwnR.mod ho g2 (fun _ _ h=>h) fun _ _ _ h=>h,g.trans g2,fun j u hu=>g2.cell (hc j u hu) fun h=>h⟩
   | false=>
    refine condK_t ?_
    refine ixK_n hlt' ?_
    rw [faK_i,Addr.add_add]
    refine qld1K_i (fun w2 h2=>h2.cell (hc 0 _ rfl) fun h=>h) ?_
    rw [faK_i]
    refine qld1K_i (fun w2 h2=>h2.cell (g.cell (hc2 0 _ rfl) fun h=>h) fun h=>h) ?_
    rw [gtK_i]
    intro w2 g2
    have hO2:OSet w1.heap.size w2 ov o:=OwnR.mod ho g2 (fun _ _ h=>h) fun _ _ _ h=>h
    refine condK_p (fun hge=>?_) fun hlt2=>?_
    ·refine ldnK_i (vs:=c.cells) rfl (fun j u hu=>(g.trans g2).cell (hc2 j u hu) fun h=>h) ?_
     refine push_g elem_attr hO2 (g.trans g2).size (cs:=c.cells) (x:=c) (by kernel_rfl) rfl rfl (fun _ _ _=>RAttr.one) (fun _ _ _ _ _ _ h=>h) (by omega) (by simp only [maxLen];omega) fun v' w' o'' m' hv'=>?_
     refine ⟨v',_,by simp;omega,by rw [if_pos ⟨rfl,by omega⟩],o'',(g.trans g2).next m' fun z hz e=>by have:=(OwnR.ownB hO2 z e).1;omega,fun j u hu=>?_⟩
     refine m'.cell (g2.cell (hc j u hu) fun h=>h) fun e=>?_
     have:=(OwnR.ownB hO2 _ e).1
     rw [add_block] at this
     omega
    ·exact ⟨ov,o,by simp;omega,by rw [if_neg (by rintro ⟨_,h⟩;omega)],hO2,g.trans g2,fun j u hu=>g2.cell (hc j u hu) fun h=>h⟩
 ·obtain rfl:i=p.length:=by omega
  rw [List.take_length] at ha
  rw [←ha]
  rw [notK_i]
  cases f with
  | true=>exact condK_f (fin ho g)
  | false=>
   refine condK_t ?_
   refine ldnK_i (vs:=c.cells) rfl (fun j u hu=>g.cell (hc2 j u hu) fun h=>h) ?_
   refine push_n (w0:=w1) elem_attr ho g (cs:=c.cells) (x:=c) (by kernel_rfl) rfl rfl (fun _ _ _=>RAttr.one) (fun _ _ _ _ _ _ h=>h) (by omega) (by simp only [maxLen];omega) fun v' w' o'' g'=>?_
   exact fin o'' g'
theorem appP_len:∀ (s:List Attr) (p:List Chg),(appP s p).length≤s.length+p.length:=by
 intro s p
 induction p generalizing s with
 | nil=>simp [appP]
 | cons c p ih=>
  have h3:(lowA c s).length+(highA c s).length≤s.length:=by
   induction s with
   | nil=>simp [lowA,highA]
   | cons a s ihs=>
    simp only [lowA,highA]
    split
    ·simp only [List.length_cons];omega
    ·split <;> simp
  have:=ih (highA c s)
  have hm:(midA c).length≤1:=by unfold midA;split <;> simp
  simp only [appP,List.length_append,List.length_cons]
  omega
set_option maxRecDepth 20000 in
theorem rapp_ok {S S':Nat→Prop} {sv pv:Value} {s:List Attr} {p:List Chg} {w:World} (hs:RSet S w sv s) (hp:RPat S' w pv p) (hb:s.length+p.length≤1000000) (rs:RisS s) (rp:RisP p) :
  callK Tryz.prog 150 [sv,pv] (fun v' w'=>OSet w.heap.size w' v' (appP s p)∧Grow w w') w:=by
 apply S150_ok
 unfold S150
 obtain ⟨pa,pc,rfl,_⟩:=hp.shape
 refine append_fresh elem_attr hs (by decide) (fun _ _ _=>RAttr.one) (fun _ _ _ _ h=>h) (by omega) (by simp only [maxLen];omega) fun v1 w1 o1 g1=>?_
 refine LoopK_i (fun vs W=>∃ (k:Nat) (ov:Value),k≤p.length∧vs=[ov,.int .i64 k]∧OSet w.heap.size W ov (rappP s (p.take k))∧Grow w W) (fun vs _=>p.length - iOf vs 1) ⟨0,v1,by omega,rfl,o1,g1⟩ ?_
 rintro vs W ⟨k,ov,hk,rfl,ho,g⟩ _
 simp only [nth_s,nth_z,List.headD_cons,List.tail_cons]
 rw [lenK_i,ltK_i]
 refine condK_p (fun hlt=>?_) fun hge=>?_
 ·have hlt':k < p.length:=by omega
  obtain ⟨a,r,rfl,_,hr,hc,rfl⟩:=(hp.grow g (by decide) fun _ _ h=>h).get hlt'
  have hrl:(rappP s (p.take k)).length≤s.length+p.length:=by
   rw [rapp_eq rs (rp.sublist (List.take_sublist _ _))]
   have:=appP_len s (p.take k)
   have:=List.length_take_le k p
   omega
  have e:rappP s (p.take (k+1))=putA (rappP s (p.take k)) p[k]:=by
   rw [List.take_add_one,List.getElem?_eq_getElem hlt']
   simp only [rappP,Option.toList,List.foldl_append,List.foldl_cons,List.foldl_nil]
  have nx:∀ {W':World} {v':Value},OSet W.heap.size W' v' (putA (rappP s (p.take k)) p[k])→OSet w.heap.size W' v' (rappP s (p.take (k+1))):=fun o=>by
   rw [e];exact OwnR.base o fun z hz=>by have:=(OwnR.ownB o z hz).1;have:=g.size;omega
  refine ixK_n hlt' ?_
  rw [faK_i,Addr.add_add]
  refine ld1K_i (hc 1 _ rfl) ?_
  unfold putA at nx
  cases hg:p[k].gone with
  | true=>
   rw [hg,if_pos rfl] at nx
   refine condK_t ?_
   refine ixK_n hlt' ?_
   rw [faK_i,Addr.add_add]
   refine ld1K_i (hc 0 _ rfl) ?_
   refine callK_mono (rwithout_ok (OwnR.sl ho) (by omega)) ?_
   rintro v' w' ⟨o',g'⟩
   rw [addK_i,loop_step (by omega)]
   exact ⟨⟨k+1,v',hlt',rfl,nx o',g.trans g'⟩,by rw [iOf1,iOf1];omega⟩
  | false=>
   rw [hg,if_neg (by decide)] at nx
   refine condK_f ?_
   have gd:Grow W W.drew:=Mod.drew _ _
   refine drawC_i (fun _ _=>False) ?_
   refine ixK_n hlt' ?_
   rw [faK_i,Addr.add_add]
   refine sld1_i ⟨gd.cell (hc 0 _ rfl) fun h=>h,fun _ _ h=>h⟩ ?_
   refine ixK_n hlt' ?_
   rw [faK_i,Addr.add_add]
   refine sldn_i (vs:=p[k].val.cells) rfl (fun j u hu=>⟨gd.cell (by rw [Addr.add_add,Nat.add_assoc];exact hc (2+j) u (by rw [Nat.add_comm];exact hu)) fun h=>h,fun _ _ h=>h⟩) ?_
   refine ⟨(⟨p[k].key,p[k].val⟩:Attr).cells.toArray,by kernel_rfl,?_⟩
   refine callK_mono (rwith_ok (c:=⟨p[k].key,p[k].val⟩) (OwnR.sl (OwnR.mod ho gd (fun _ _ h=>h) fun _ _ _ h=>h)) (by omega)) ?_
   rintro v' w' ⟨o',g'⟩
   refine ⟨g',?_⟩
   rw [addK_i,loop_step (by omega)]
   exact ⟨⟨k+1,v',hlt',rfl,nx o',(g.trans gd).trans g'⟩,by rw [iOf1,iOf1];omega⟩
 ·obtain rfl:k=p.length:=by omega
  rw [List.take_length,rapp_eq rs rp] at ho
  exact ⟨ho,g⟩
theorem rcell_ok {S0 S S':Nat→Prop} {kv cv pv:Value} {keys:List DKey} {r:Int} {s:List Attr} {p:List Chg} {w:World} (hS:RKeys S0 w kv keys) (hs:RSet S w cv s) (hp:RPat S' w pv p) (hl:s.length+p.length≤1000000) (rs:RisS s) (rp:RisP p) :
  callK Tryz.prog 92 [kv,.agg #[.int .i32 r,cv],pv] (fun v' w'=>∃ cv',v'=.agg #[.int .i32 r,cv']∧OSet w.heap.size w' cv' (cellP keys s p r)∧Grow w w') w:=by
 apply S92_ok
 unfold S92
 refine boxn_i (vs:=[.int .i32 r,cv]) fun b4 w1 hb4 hz1 g1 hc1 _=>?_
 refine newz_i fun b6 w2 hb6 hz2 g2 hc2 hl2=>?_
 have gd:Grow w2 w2.drew:=Mod.drew _ _
 have zd:w2.drew.heap.size=w2.heap.size:=rfl
 have g0:=(g1.trans g2).trans gd
 have c4:∀ j u,([.int .i32 r,cv]:List Value)[j]?=some u→w2.drew.cell? ((⟨b4,0,none⟩:Addr).add j)=some u:=fun j u hu=>gd.cell (g2.cell (hc1 j u hu) fun h=>h) fun h=>h
 have ne:b4≠b6:=by omega
 refine drawC_i (fun k y=>k=12∧y=b6) ?_
 rw [faK_i]
 refine sld1_i ⟨c4 0 _ rfl,fun j _ e=>by rw [add_block] at e;exact ne e.2⟩ ?_
 rw [faK_i]
 refine sld1_i ⟨c4 1 _ rfl,fun j _ e=>by rw [add_block] at e;exact ne e.2⟩ ?_
 rw [faK_i]
 refine sld1_i ⟨c4 0 _ rfl,fun j _ e=>by rw [add_block] at e;exact ne e.2⟩ ?_
 rw [eqK_i]
 refine callK_mono (rpart_ok (hS.grow g0 (by decide) fun _ _ h=>h) (hp.grow g0 (by decide) fun _ _ h=>h) (by omega)) ?_
 rintro v3 w3 ⟨h3,g3⟩
 refine ⟨g3.mono fun _ _ e=>e.elim,?_⟩
 have hpl:(partP keys (decide (r=10)) p).length≤p.length:=List.length_filter_le _ _
 refine callK_mono (rapp_ok (hs.grow (g0.trans g3) (by decide) fun _ _ h=>h) (OwnR.sl h3) (by omega) rs (rp.filter _)) ?_
 rintro v4 w4 ⟨o4,g4⟩
 refine ⟨g4.mono fun _ _ e=>e.elim,?_⟩
 have o1:=OwnR.one o4
 obtain ⟨a4,k4,e4,_⟩:=OwnR.shape o4
 refine ⟨#[.int .i32 r,v4],by subst e4;kernel_rfl,?_⟩
 have z3:=g3.size
 have z4:=g4.size
 refine stn_over (vs:=[.int .i32 r,v4]) rfl (fun u hu=>by simp at hu;rcases hu with rfl | rfl;rfl;exact o1.1) (fun j hj=>(((hl2 j hj).mod gd fun h=>h).mod g3 fun h=>h).mod g4 fun h=>h) fun w5 m5 hc5 _=>?_
 refine ⟨m5.mono fun x _ e=>⟨rfl,e⟩,?_⟩
 refine ldnK_i (vs:=[.int .i32 r,v4]) rfl hc5 ⟨v4,rfl,?_,?_⟩
 ·have:OSet w.heap.size w4 v4 (cellP keys s p r):=o4.base fun g hg=>by have:=(OwnR.ownB o4 g hg).1;have:=(g0.trans g3).size;omega
  refine OwnR.mod this m5 (fun g hg e=>?_) fun _ _ _ h=>h
  have:=(OwnR.ownB o4 g hg).1
  omega
 ·exact ((g0.trans g3).trans g4).next m5 fun x hx e=>by omega
end Go.Proofs.YtlbaopamhkmepaaGreatDoor

namespace Go.Proofs.YtlbaopamhkmepaaGreatDoor
open Go Go.K

theorem rcopy_dops {S D:Nat→Prop} {v:Value} {x:List Dop} {w:World} (h:RDops S D w v x) (hb:mDops x≤1099511627776) :
  callK Tryz.prog 24 [v] (fun v' w'=>ODops w.heap.size w' v' x∧Grow w w') w:=by
 apply S24_ok
 unfold S24
 have hxl:=mDops_len x
 obtain ⟨a,c,rfl,hmx⟩:=h.shape
 have hsz:∀ o ∈ x,o.runes.length * 4≤140737488355328∧o.set.length * 48≤140737488355328∧o.patch.length * 56≤140737488355328:=by
  intro o ho
  have:=mDops_mem ho
  simp only [mDop,mSet_eq,mPat_eq] at this
  omega
 refine LoopK_i (fun vs W=>∃ (i:Nat) (ov:Value),i≤x.length∧vs=[ov,.int .i64 i]∧ODops w.heap.size W ov (x.take i)∧Grow w W) (fun vs _=>x.length - iOf vs 1) ⟨0,_,Nat.zero_le _,rfl,OwnR.nil,Mod.refl _ _⟩ ?_
 rintro vs W ⟨i,ov,hi,rfl,ho,gW⟩ _
 rw [lenK_i]
 show ltK .i64 (.int .i64 i) _ _
 rw [ltK_i]
 refine condK_p (fun hlt=>?_) fun hge=>?_
 ·have hlt':i < x.length:=by omega
  obtain ⟨p,r,rfl,_,hr,hc0,hx⟩:=h.get hlt'
  have hc:∀ j u,r[j]?=some u→W.cell? (p.add (i * 5+j))=some u:=fun j u hu=>gW.cell (hc0 j u hu) fun h=>h
  refine ixK_n hlt' (ldnK_i hr (fun j u hu=>by rw [Addr.add_add];exact hc j u hu) ?_)
  refine newst_n hr rfl (RDop.one hx) fun b5 W4 hb5 hz5 g5 hc5 _=>?_
  have hx4:=hx.mod (D':=fun b=>b < w.heap.size) (gW.trans g5) (fun _ _ _ h=>h) fun _ hb _=>hb
  have gd:Grow W4 W4.drew:=Mod.drew _ _
  have hzd:W4.drew.heap.size=W4.heap.size:=rfl
  obtain ⟨rv,sv,pv,rfl,q1,q2,q3⟩:=hx4
  have hov:∀ y,ov.ownBlock=some y→y < W.heap.size∧w.heap.size≤y:=fun y hy=>⟨(OwnR.ownB ho y hy).2,(OwnR.ownB ho y hy).1⟩
  obtain ⟨z1,z2,z3⟩:=hsz x[i] (by simp)
  generalize hz:W4.heap.size=z at *
  have zW:W.heap.size < z:=by omega
  have zw:w.heap.size≤W.heap.size:=gW.size
  let M:Nat→Nat→Prop:=fun k y=>k=19∧ov.ownBlock=some y
  let E:Nat→Value→World→Prop:=fun e t W'=>∃ b,t=.slice (some ⟨b,0,none⟩) 0 0∧z≤b∧W'.heap[b]?=some (.cells #[] e (0,0))
  let A:Nat→Value→World→Prop:=fun k t W'=>match k with
   | 5=>E 21 t W' | 9=>E 109 t W' | 13=>E 111 t W'
   | 8=>OwnR z 21 1 RRune W' t x[i].runes
   | 12=>OwnR z 109 5 RAttr W' t x[i].set
   | 16=>OwnR z 111 6 RChg W' t x[i].patch
   | 18=>SlR (fun b=>z≤b) 5 (ODop fun b=>z≤b) W' t [x[i]]
   | 19=>ODops w.heap.size W' t (x.take (i+1))
   | _=>True
  have low:∀ k y,M k y→y < z:=fun k y hy=>by have:=hov y hy.2;omega
  have Est:∀ {e t W1 W2},E e t W1→Mod (fun y=>y < z) W1 W2→E e t W2:=fun ⟨b,e1,e2,e3⟩ hm=>⟨b,e1,e2,(hm.same b (Array.getElem?_eq_some_iff.1 e3).1 (by omega)).trans e3⟩
  have stab:Stab [5,8,9,12,13,16,18,19] A M W4.drew:=by
   intro j hj k hk hjk t W1 W2 _ hA hm
   have hm':Mod (fun y=>y < z) W1 W2:=hm.mono fun y _ e=>low k y e
   have own:∀ {β:Type} {e q:Nat} {R:World→List Value→β→Prop} {l:List β},(∀ r y,R W1 r y→R W2 r y)→OwnR z e q R W1 t l→OwnR z e q R W2 t l:=fun hR h=>OwnR.mod h hm' (fun g hg e=>by have:=(OwnR.ownB h g hg).1;omega) fun r y _ hy=>hR r y hy
   simp only [List.mem_cons,List.not_mem_nil,or_false] at hj
   rcases hj with rfl | rfl | rfl | rfl | rfl | rfl | rfl | rfl
   ·exact Est hA hm'
   ·exact own (fun _ _ h=>h) hA
   ·exact Est hA hm'
   ·exact own (fun _ _ h=>h) hA
   ·exact Est hA hm'
   ·exact own (fun _ _ h=>h) hA
   ·exact SlR.mod hA hm' (fun b _ hb e=>by omega) (by decide) fun r y hy=>ODop.mod hy hm' (fun b _ hb e=>by omega) fun _ _ h=>h
   ·have hg:Grow W1 W2:=hm.mono fun y _ e=>hjk e.1.symm
    exact ODops.grow hA hg fun _ _ _ h=>h
  refine ⟨A,M,stab,?_⟩
  have ld:∀ {q:Nat} {u:Value} (l:List Nat),[Value.int .u8 x[i].kind,.int .i64 x[i].n,rv,sv,pv][q]?=some u→W4.drew.cell? ((⟨b5,0,none⟩:Addr).add q)=some u∧∀ j ∈ l,¬ M j ((⟨b5,0,none⟩:Addr).add q).block:=fun l hu=>
   ⟨gd.cell (hc5 _ _ hu) fun h=>h,fun j _ e=>by
    have e2:ov.ownBlock=some b5:=by have:=e.2;rwa [add_block] at this
    have:=hov _ e2;omega⟩
  have qm:∀ {MM:Nat→Prop} {W':World},Mod MM W4.drew W'→(∀ y,MM y→ov.ownBlock=some y)→z≤W'.heap.size∧RRun (fun b=>b < w.heap.size) W' rv x[i].runes∧RSet (fun b=>b < w.heap.size) W' sv x[i].set∧RPat (fun b=>b < w.heap.size) W' pv x[i].patch:=by
   intro MM W' hm hMM
   have hno:∀ b,b < w.heap.size→¬ MM b:=fun b hb e=>by have:=hov b (hMM b e);omega
   have zz:z≤W'.heap.size:=by have:=hm.size;omega
   exact ⟨zz,(q1.grow gd (by decide) fun _ _ h=>h).mod hm (fun b _ hb=>hno b hb) (by decide) fun _ _ h=>h,(q2.grow gd (by decide) fun _ _ h=>h).mod hm (fun b _ hb=>hno b hb) (by decide) fun _ _ h=>h,(q3.grow gd (by decide) fun _ _ h=>h).mod hm (fun b _ hb=>hno b hb) (by decide) fun _ _ h=>h⟩
  have row0:∀ {e k:Nat} {W':World},z≤W'.heap.size→∀ j,A j=E e→rowK e k 0 [] [] (fun t W''=>Mod (M j) W' W''∧A j t W'') W':=fun {e k W'} hz j hj=>rowK_empty ⟨Mod.alloc _ _ _,by rw [hj];exact ⟨_,rfl,hz,(MapKept.heap_alloc W' _).1⟩⟩
  have own1:∀ {β:Type} {t e q bytes:Nat} {R:World→List Value→β→Prop} {l:List β} {S':Nat→Prop} {W':World} {t0 v:Value} (j:Nat),ElemOK Tryz.prog t e q bytes→E e t0 W'→SlR S' q R W' v l→(∀ w r y,R w r y→∀ u ∈ r,u.oneCell'=true)→l.length * bytes≤140737488355328→(∀ (w1 w2:World) r y,R w1 r y→R w2 r y)→z≤W'.heap.size→
    A j=(fun v' w'=>OwnR z e q R w' v' l)→runK Tryz.prog (Builtin.append_ #[t,t] t [t0,v].toArray) (fun v' w'=>Mod (M j) W' w'∧A j v' w') W':=by
   intro β t e q bytes R l S' W' t0 v j hE ⟨b,e1,e2,e3⟩ hv hone hlen hR hzz hA
   subst e1
   obtain ⟨v',w',r1,r2,r3,r4⟩:=append_new (ty:=t) hE e3 hv hone hlen fun w' _ r y hy=>hR _ _ r y hy
   refine runK_i r1 ⟨r3.mono fun _ _ h=>h.elim,?_⟩
   rw [hA]
   exact r2.base fun g hg=>by rcases r4 g hg with h | h <;> omega
  have bm:∀ {k:Nat} {l:List Nat} y,ButM l M k y→ov.ownBlock=some y:=fun y ⟨_,_,_,e⟩=>e.2
  have am:∀ {l:List Nat} y,AllM l M y→ov.ownBlock=some y:=fun y ⟨_,_,e⟩=>e.2
  have sh:∀ {e k:Nat} {β:Type} {R:World→List Value→β→Prop} {W':World} {v:Value} {l:List β},OwnR z e k R W' v l→∃ a n c,v=.slice a n c:=fun h=>by obtain ⟨a,c,rfl,_⟩:=h.shape;exact ⟨_,_,_,rfl⟩
  refine ⟨?_,?_,?_,?_,?_,?_,?_,?_,?_,?_⟩
  ·intro W5 hm
   obtain ⟨zz,_⟩:=qm hm bm
   rw [faK_i];refine sld1_i (ld _ rfl) ?_
   rw [faK_i];refine sld1_i (ld _ rfl) ?_
   rw [faK_i];refine sld1_i (ld _ rfl) ?_
   rw [faK_i];refine sld1_i (ld _ rfl) ?_
   rw [faK_i];refine sld1_i (ld _ rfl) ?_
   exact row0 zz 5 rfl
  ·intro W5 hm
   obtain ⟨zz,p1,p2,p3⟩:=qm hm bm
   rw [faK_i];refine sld1_i (ld _ rfl) ?_
   rw [faK_i];refine sld1_i (ld _ rfl) ?_
   intro t5 h5
   rw [faK_i];refine sld1_i (ld _ rfl) ?_
   rw [faK_i];refine sld1_i (ld _ rfl) ?_
   rw [faK_i];refine sld1_i (ld _ rfl) ?_
   exact own1 8 elem_rune h5 p1 (fun _ _ _=>RRune.one) z1 (fun _ _ _ _ h=>h) zz rfl
  ·intro W5 hm
   obtain ⟨zz,_⟩:=qm hm bm
   rw [faK_i];refine sld1_i (ld _ rfl) ?_
   rw [faK_i];refine sld1_i (ld _ rfl) ?_
   rw [faK_i];refine sld1_i (ld _ rfl) ?_
   rw [faK_i];refine sld1_i (ld _ rfl) ?_
   rw [faK_i];refine sld1_i (ld _ rfl) ?_
   exact row0 zz 9 rfl
  ·intro W5 hm
   obtain ⟨zz,p1,p2,p3⟩:=qm hm bm
   rw [faK_i];refine sld1_i (ld _ rfl) ?_
   rw [faK_i];refine sld1_i (ld _ rfl) ?_
   intro t5 h5
   rw [faK_i];refine sld1_i (ld _ rfl) ?_
   intro t8 h8 t9 h9
   rw [faK_i];refine sld1_i (ld _ rfl) ?_
   rw [faK_i];refine sld1_i (ld _ rfl) ?_
   exact own1 12 elem_attr h9 p2 (fun _ _ _=>RAttr.one) z2 (fun _ _ _ _ h=>h) zz rfl
  ·intro W5 hm
   obtain ⟨zz,_⟩:=qm hm bm
   rw [faK_i];refine sld1_i (ld _ rfl) ?_
   rw [faK_i];refine sld1_i (ld _ rfl) ?_
   rw [faK_i];refine sld1_i (ld _ rfl) ?_
   rw [faK_i];refine sld1_i (ld _ rfl) ?_
   rw [faK_i];refine sld1_i (ld _ rfl) ?_
   exact row0 zz 13 rfl
  ·intro W5 hm
   obtain ⟨zz,p1,p2,p3⟩:=qm hm bm
   rw [faK_i];refine sld1_i (ld _ rfl) ?_
   rw [faK_i];refine sld1_i (ld _ rfl) ?_
   intro t5 h5
   rw [faK_i];refine sld1_i (ld _ rfl) ?_
   intro t8 h8 t9 h9
   rw [faK_i];refine sld1_i (ld _ rfl) ?_
   intro t12 h12 t13 h13
   rw [faK_i];refine sld1_i (ld _ rfl) ?_
   exact own1 16 elem_chg h13 p3 (fun _ _ _=>RChg.one) z3 (fun _ _ _ _ h=>h) zz rfl
  ·intro W5 hm
   obtain ⟨zz,p1,p2,p3⟩:=qm hm bm
   rw [faK_i];refine sld1_i (ld _ rfl) ?_
   rw [faK_i];refine sld1_i (ld _ rfl) ?_
   intro t5 h5
   rw [faK_i];refine sld1_i (ld _ rfl) ?_
   intro t8 h8 t9 h9
   rw [faK_i];refine sld1_i (ld _ rfl) ?_
   intro t12 h12 t13 h13
   rw [faK_i];refine sld1_i (ld _ rfl) ?_
   intro t16 h16
   obtain ⟨a8,n8,c8,rfl⟩:=sh h8
   obtain ⟨a12,n12,c12,rfl⟩:=sh h12
   obtain ⟨a16,n16,c16,rfl⟩:=sh h16
   refine ⟨(row5 x[i] (.slice a8 n8 c8) (.slice a12 n12 c12) (.slice a16 n16 c16)).toArray,by kernel_rfl,?_⟩
   refine rowK_i (cs:=([row5 x[i] (.slice a8 n8 c8) (.slice a12 n12 c12) (.slice a16 n16 c16)]:List (List Value)).flatten) (by kernel_rfl) ⟨Mod.alloc _ _ _,?_⟩
   have ga:Grow W5 (W5.alloc (.cells ([row5 x[i] (.slice a8 n8 c8) (.slice a12 n12 c12) (.slice a16 n16 c16)]:List (List Value)).flatten.toArray TOp)):=Mod.alloc _ _ _
   have up:∀ {e k:Nat} {β:Type} {R:World→List Value→β→Prop} {v:Value} {l:List β},(∀ (w1 w2:World) r y,R w1 r y→R w2 r y)→OwnR z e k R W5 v l→OwnR 0 e k R (W5.alloc (.cells ([row5 x[i] (.slice a8 n8 c8) (.slice a12 n12 c12) (.slice a16 n16 c16)]:List (List Value)).flatten.toArray TOp)) v l∧∀ g,v.ownBlock=some g→z≤g:=fun hR h=>
    ⟨(OwnR.mod h ga (fun _ _ h=>h) fun r y _ hy=>hR _ _ r y hy).base fun _ _=>Nat.zero_le _,fun g hg=>(OwnR.ownB h g hg).1⟩
   show SlR (fun b=>z≤b) 5 (ODop fun b=>z≤b) _ _ [x[i]]
   refine SlR.sub (SlR.made (l:=[x[i]]) (t:=TOp) [row5 x[i] (.slice a8 n8 c8) (.slice a12 n12 c12) (.slice a16 n16 c16)] (by simp) rfl (by simp [maxLen]) fun j r y hr hy=>?_) (fun b _ e=>by omega) (by decide) fun _ _ h=>h
   match j with
   | 0=>cases hr;cases hy;exact ⟨_,_,_,rfl,up (fun _ _ _ _ h=>h) h8,up (fun _ _ _ _ h=>h) h12,up (fun _ _ _ _ h=>h) h16⟩
   | j+1=>simp at hr
  ·intro W5 hm
   obtain ⟨zz,p1,p2,p3⟩:=qm hm bm
   rw [faK_i];refine sld1_i (ld _ rfl) ?_
   rw [faK_i];refine sld1_i (ld _ rfl) ?_
   intro t5 h5
   rw [faK_i];refine sld1_i (ld _ rfl) ?_
   intro t8 h8 t9 h9
   rw [faK_i];refine sld1_i (ld _ rfl) ?_
   intro t12 h12 t13 h13
   rw [faK_i];refine sld1_i (ld _ rfl) ?_
   intro t16 h16
   obtain ⟨a8,n8,c8,rfl⟩:=sh h8
   obtain ⟨a12,n12,c12,rfl⟩:=sh h12
   obtain ⟨a16,n16,c16,rfl⟩:=sh h16
   refine ⟨(row5 x[i] (.slice a8 n8 c8) (.slice a12 n12 c12) (.slice a16 n16 c16)).toArray,by kernel_rfl,?_⟩
   intro t18 h18
   have gm:Grow W4.drew W5:=hm.mono fun y _ ⟨j,_,hj,e⟩=>hj e.1
   have g05:Grow W W5:=(g5.trans gd).trans gm
   have oz:OwnR w.heap.size 39 5 (ODop fun b=>w.heap.size≤b∧b < W5.heap.size∧ov.ownBlock≠some b) W5 ov (x.take i):=OwnR.mod ho g05 (fun _ _ h=>h) fun r y _ hy=>ODop.mod hy g05 (fun _ _ _ h=>h) fun b hb hd=>⟨hd.1,by have:=g05.size;omega,hd.2⟩
   have sz:SlR (fun b=>z≤b) 5 (ODop fun b=>w.heap.size≤b∧b < W5.heap.size∧ov.ownBlock≠some b) W5 t18 [x[i]]:=SlR.mono h18 (fun _ _ h=>h) (fun _ _ _=>rfl) (by decide) fun r y hy=>ODop.mod hy (Mod.refl (fun _=>False) _) (fun _ _ _ h=>h) fun b hb hd=>⟨by omega,hb,fun e=>by have:=hov b e;omega⟩
   have hl:(x.take i).length=i:=by rw [List.length_take];omega
   obtain ⟨v',w',r1,r2,r3,r4⟩:=OwnR.append (ty:=31) elem_dop oz sz (fun _ _=>ODop.one) (by rw [hl];simp only [List.length_cons,List.length_nil];omega) (by omega) (by rw [hl];simp only [List.length_cons,List.length_nil,maxLen];omega) fun w' hg r y hy=>ODop.mod hy (Mod.of_grownBy hg) (fun b _ hd e=>hd.2.2 e) fun _ _ h=>h
   refine runK_i r1 ⟨(Mod.of_grownBy r3).mono fun y _ e=>⟨rfl,e⟩,?_⟩
   show ODops w.heap.size w' v' (x.take (i+1))
   rw [List.take_add_one,List.getElem?_eq_getElem hlt']
   exact OwnR.mod r2 (Mod.refl (fun _=>False) _) (fun _ _ h=>h) fun r y _ hy=>ODop.mod hy (Mod.refl (fun _=>False) _) (fun _ _ _ h=>h) fun b hb hd=>⟨hd.1,fun e=>by
    rcases r4 b e with h | h
    ·exact hd.2.2 h
    ·have:=hd.2.1;omega⟩
  ·intro W5 hm
   rw [faK_i];refine sld1_i (ld _ rfl) ?_
   rw [faK_i];refine sld1_i (ld _ rfl) ?_
   intro t5 h5
   rw [faK_i];refine sld1_i (ld _ rfl) ?_
   intro t8 h8 t9 h9
   rw [faK_i];refine sld1_i (ld _ rfl) ?_
   intro t12 h12 t13 h13
   rw [faK_i];refine sld1_i (ld _ rfl) ?_
   intro t16 h16
   obtain ⟨a8,n8,c8,rfl⟩:=sh h8
   obtain ⟨a12,n12,c12,rfl⟩:=sh h12
   obtain ⟨a16,n16,c16,rfl⟩:=sh h16
   exact ⟨(row5 x[i] (.slice a8 n8 c8) (.slice a12 n12 c12) (.slice a16 n16 c16)).toArray,by kernel_rfl,trivial⟩
  ·intro W5 hm
   rw [faK_i];refine sld1_i (ld _ rfl) ?_
   rw [faK_i];refine sld1_i (ld _ rfl) ?_
   intro t5 h5
   rw [faK_i];refine sld1_i (ld _ rfl) ?_
   intro t8 h8 t9 h9
   rw [faK_i];refine sld1_i (ld _ rfl) ?_
   intro t12 h12 t13 h13
   rw [faK_i];refine sld1_i (ld _ rfl) ?_
   intro t16 h16
   obtain ⟨a8,n8,c8,rfl⟩:=sh h8
   obtain ⟨a12,n12,c12,rfl⟩:=sh h12
   obtain ⟨a16,n16,c16,rfl⟩:=sh h16
   refine ⟨(row5 x[i] (.slice a8 n8 c8) (.slice a12 n12 c12) (.slice a16 n16 c16)).toArray,by kernel_rfl,?_⟩
   intro t18 _ t19 h19
   show addK .i64 (.int .i64 i) _ _
   rw [addK_i,loop_step (by omega)]
   refine ⟨⟨i+1,t19,hlt',rfl,h19,(gW.trans (g5.trans gd)).next hm fun b hb e=>by have:=hov b (am b e);omega⟩,by rw [iOf1,iOf1];omega⟩
 ·have:i=x.length:=by omega
  subst this
  rw [List.take_length] at ho
  exact ⟨ho,gW⟩
end Go.Proofs.YtlbaopamhkmepaaGreatDoor

namespace Go.Proofs.YtlbaopamhkmepaaGreatDoor
open Go Go.K

abbrev RApart (E:Nat→Prop) (ov:Value):World→List Value→Dop→Prop:=RDop fun b=>ov.ownBlock≠some b∧E b
theorem rgapF_m (a:List Dop × Int) (o:Dop):mDops (rgapF a o).1≤mDops a.1+mDop o∧(rgapF a o).1.length≤a.1.length+1:=by
 unfold rgapF
 split
 ·exact ⟨Nat.le_add_right _ _,by simp⟩
 ·cases hl:a.1.getLast? with
  | none=>simp only [mDops_app,mDops_one,List.length_append,List.length_singleton];omega
  | some q=>
   simp only
   split
   ·obtain ⟨ys,hys⟩:=List.getLast?_eq_some_iff.1 hl
    rw [hys]
    have e:∀ m:Dop,(ys++[q]).set ((ys++[q]).length - 1) m=ys++[m]:=fun m=>by
     rw [List.length_append,List.length_singleton,Nat.add_sub_cancel,List.set_append_right _ _ (Nat.le_refl _)];simp
    rw [e]
    simp only [mDops_app,mDops_one,List.length_append,List.length_singleton,mDop]
    omega
   ·simp only [mDops_app,mDops_one,List.length_append,List.length_singleton];omega
theorem apart_push {E:Nat→Prop} {B:Nat} {w0 w':World} {ov ov':Value} {l':List Dop} (h:OwnR B 39 5 (RDop fun b=>b < w0.heap.size∧ov.ownBlock≠some b∧E b) w' ov' l') (hs:∀ g,ov'.ownBlock=some g→ov.ownBlock=some g∨w0.heap.size≤g) :
  OwnR B 39 5 (RApart E ov') w' ov' l':=
 OwnR.mod h (Mod.refl (fun _=>False) _) (fun _ _ h=>h) fun r y _ hy=>RDop.mod hy (Mod.refl (fun _=>False) _) (fun _ _ _ h=>h) fun b hb hd=>⟨fun e=>by
  rcases hs b e with h | h
  ·exact hd.2.1 h
  ·have:=hd.1;omega,hd.2.2⟩

theorem rgap_len (l:List Dop):mDops (l.foldl rgapF ([],0)).1≤mDops l∧(l.foldl rgapF ([],0)).1.length≤l.length:=by
 induction l using rev_ind with
 | h0=>exact ⟨Nat.le_refl _,Nat.le_refl _⟩
 | h1 x o ih=>
  rw [List.foldl_append,List.foldl_cons,List.foldl_nil,mDops_app,mDops_one,List.length_append,List.length_singleton]
  have:=rgapF_m (x.foldl rgapF ([],0)) o
  omega
theorem rgap_ok {S D:Nat→Prop} {xv:Value} {x:List Dop} {w:World} (h:RDops S D w xv x) (hb:mDops x≤1099511627776) :
  callK Tryz.prog 109 [xv] (fun v' w'=>OwnR w.heap.size 39 5 (RApart (fun b=>D b∨w.heap.size≤b) v') w' v' (rgap x)∧Grow w w') w:=by
 apply S109_ok
 unfold S109
 obtain ⟨pa,ca,rfl,hmx⟩:=h.shape
 have hxl:=mDops_len x
 refine LoopK_i (fun vs W=>∃ (i:Nat) (ov:Value),i≤x.length∧vs=[ov,.int .i64 ((x.take i).foldl rgapF ([],0)).2,.int .i64 i]∧OwnR w.heap.size 39 5 (RApart (fun b=>D b∨w.heap.size≤b) ov) W ov ((x.take i).foldl rgapF ([],0)).1∧Grow w W) (fun vs _=>x.length - iOf vs 2) ⟨0,_,Nat.zero_le _,rfl,OwnR.nil,Mod.refl _ _⟩ ?_
 rintro vs W ⟨i,ov,hi,rfl,ho,gW⟩ _
 rw [lenK_i]
 show ltK .i64 (.int .i64 i) _ _
 rw [ltK_i]
 have hgl:=rgap_len (x.take i)
 have htk:(x.take i).length=i:=by rw [List.length_take];omega
 rw [htk] at hgl
 refine condK_p (fun hlt=>?_) fun hge=>?_
 ·have hlt':i < x.length:=by omega
  have est:(x.take (i+1)).foldl rgapF ([],0)=rgapF ((x.take i).foldl rgapF ([],0)) x[i]:=by
   rw [List.take_add_one,List.getElem?_eq_getElem hlt',Option.toList_some,List.foldl_append];rfl
  have hmi:mDops (x.take i)+mDop x[i]≤mDops x:=by
   have e:x=x.take i++x[i] :: x.drop (i+1):=by rw [←List.drop_eq_getElem_cons hlt',List.take_append_drop]
   have e2:mDops x=mDops (x.take i)+mDops (x[i] :: x.drop (i+1)):=by
    conv=>lhs;rw [e]
    exact mDops_app _ _
   rw [e2];simp only [mDops,List.map_cons,List.sum_cons];omega
  generalize hst:(x.take i).foldl rgapF ([],0)=st at *
  obtain ⟨l,gone⟩:=st
  simp only at ho hgl ⊢
  refine JoinK_i (fun vs W2=>∃ ov' g',vs=[ov',.int .i64 g']∧(rgapF (l,gone) x[i]).2=g'∧OwnR w.heap.size 39 5 (RApart (fun b=>D b∨w.heap.size≤b) ov') W2 ov' (rgapF (l,gone) x[i]).1∧Grow w W2) ?_ ?_
  ·rintro _ W2 ⟨ov',g',rfl,rfl,ho',g2⟩ _
   show addK .i64 (.int .i64 i) _ _
   rw [addK_i,loop_step (by omega)]
   refine ⟨⟨i+1,ov',hlt',by rw [est];rfl,by rw [est];exact ho',g2⟩,by rw [iOf2,iOf2];omega⟩
  ·obtain ⟨p,r,rfl,_,hr,hc0,hx⟩:=h.get hlt'
   have hc:∀ j u,r[j]?=some u→W.cell? (p.add (i * 5+j))=some u:=fun j u hu=>gW.cell (hc0 j u hu) fun h=>h
   refine ixK_n hlt' (ldnK_i hr (fun j u hu=>by rw [Addr.add_add];exact hc j u hu) ?_)
   refine newst_n hr rfl (RDop.one hx) fun b6 W1 hb6 hz6 g6 hc6 _=>?_
   have hx1:=hx.mod (D':=fun b=>D b∧b < w.heap.size) (gW.trans g6) (fun _ _ _ h=>h) fun _ hb h=>⟨h,hb⟩
   have zw:=gW.size
   have gW1:=gW.trans g6
   have ho1:OwnR w.heap.size 39 5 (RApart (fun b=>D b∨w.heap.size≤b) ov) W1 ov l:=OwnR.mod ho g6 (fun _ _ h=>h) fun r y _ hy=>hy.mod g6 (fun _ _ _ h=>h) fun _ _ h=>h
   obtain ⟨rv,sv,pv,rfl,q1,q2,q3⟩:=hx1
   simp only [faK_i]
   refine ld1K_i (hc6 0 _ rfl) ?_
   rw [eqK_i]
   refine condK_p (fun hk3=>?_) fun hk3=>?_
   ·refine ld1K_i (hc6 1 _ rfl) ?_
    show addK .i64 (.int .i64 gone) _ _
    rw [addK_i]
    refine ⟨ov,_,rfl,?_,?_,gW1⟩
    ·unfold rgapF;rw [if_pos hk3]
    ·unfold rgapF;rw [if_pos hk3];exact ho1
   ·obtain ⟨oa,oc,rfl,hoc,hom,hop,hon⟩:=ho1.shape
    simp only [maxLen] at hom
    show lenK (.slice oa l.length oc) _
    rw [lenK_i,subK_i,wrap64 (by omega) (by omega)]
    have nk:rgapF (l,gone) x[i]=(match l.getLast? with
      | some q=>if q.set=x[i].set then (l.set (l.length - 1) ⟨q.kind,q.n,q.runes++x[i].runes,q.set,q.patch⟩,gone) else (l++[x[i]],gone)
      | none=>(l++[x[i]],gone)):=by unfold rgapF;rw [if_neg hk3];rfl
    have l6:∀ {W':World},Grow W1 W'→∀ j u,[Value.int .u8 x[i].kind,.int .i64 x[i].n,rv,sv,pv][j]?=some u→W'.cell? ((⟨b6,0,none⟩:Addr).add j)=some u:=fun g j u hu=>g.cell (hc6 j u hu) fun h=>h
    refine JoinK_i (fun vs W2=>vs=[.bool (lastSet l x[i].set)]∧Grow W1 W2) ?_ ?_
    ·rintro _ W2 ⟨rfl,g2⟩ _
     rw [nth_z,List.headD_cons]
     have z2:=g2.size
     have sh:∃ a1 c1 a2 c2 a3 c3 n1 n2 n3,rv=.slice a1 n1 c1∧sv=.slice a2 n2 c2∧pv=.slice a3 n3 c3:=by
      obtain ⟨a1,c1,e1,_⟩:=q1.shape
      obtain ⟨a2,c2,e2,_⟩:=q2.shape
      obtain ⟨a3,c3,e3,_⟩:=q3.shape
      exact ⟨a1,c1,a2,c2,a3,c3,_,_,_,e1,e2,e3⟩
     cases hls:lastSet l x[i].set with
     | false=>
      rw [condK_b,if_neg (by simp)]
      refine ldnK_i hr (l6 g2) ?_
      have oz:OwnR w.heap.size 39 5 (RDop fun b=>b < W2.heap.size∧(Value.slice oa l.length oc).ownBlock≠some b∧(D b∨w.heap.size≤b)) W2 (.slice oa l.length oc) l:=OwnR.mod ho1 g2 (fun _ _ h=>h) fun r y _ hy=>RDop.mod hy g2 (fun _ _ _ h=>h) fun b hb hd=>⟨by omega,hd⟩
      have hxk:RDop (fun b=>b < W2.heap.size∧(Value.slice oa l.length oc).ownBlock≠some b∧(D b∨w.heap.size≤b)) W2 [.int .u8 x[i].kind,.int .i64 x[i].n,rv,sv,pv] x[i]:=RDop.mod (D:=fun b=>D b∧b < w.heap.size) ⟨_,_,_,rfl,q1,q2,q3⟩ g2 (fun _ _ _ h=>h) fun b hb hd=>⟨by have:=hd.2;omega,fun e=>by have:=(OwnR.ownB ho1 b e).1;have:=hd.2;omega,.inl hd.1⟩
      refine push_g elem_dop oz (by omega) (cs:=[.int .u8 x[i].kind,.int .i64 x[i].n,rv,sv,pv]) (x:=x[i]) (by obtain ⟨a1,c1,a2,c2,a3,c3,n1,n2,n3,rfl,rfl,rfl⟩:=sh;kernel_rfl) rfl hxk (fun _ _ _=>RDop.one) (fun w1 w2 r z hz hm hy=>RDop.mod hy hm (fun b _ hd e=>?_) fun _ _ h=>h) (by omega) (by simp only [maxLen];omega) fun v' w' o' m' hw'=>⟨v',gone,rfl,?_,?_,(gW1.trans g2).next m' fun b hb e=>by have:=(OwnR.ownB ho1 b e).1;omega⟩
      ·rcases e with e | e
       ·exact hd.2.1 e
       ·have:=hd.1;omega
      ·rw [nk]
       unfold lastSet at hls
       cases hg:l.getLast? with
       | none=>rfl
       | some q=>rw [hg] at hls;simp only [decide_eq_false_iff_not] at hls;simp only [if_neg hls]
      ·have e1:(rgapF (l,gone) x[i]).1=l++[x[i]]:=by
        rw [nk]
        unfold lastSet at hls
        cases hg:l.getLast? with
        | none=>rfl
        | some q=>rw [hg] at hls;simp only [decide_eq_false_iff_not] at hls;simp only [if_neg hls]
       rw [e1]
       exact apart_push o' hw'
     | true=>
      rw [condK_b,if_pos rfl]
      have hip:0 < l.length:=by
       cases hn:l with
       | nil=>rw [lastSet,hn] at hls;cases hls
       | cons a l=>simp
      have hl1:l.length - 1 < l.length:=by omega
      have hset:l[l.length - 1].set=x[i].set:=by
       rw [lastSet,getLast_get hip] at hls
       simpa using hls
      have er:rgapF (l,gone) x[i]=(l.set (l.length - 1) ⟨l[l.length - 1].kind,l[l.length - 1].n,l[l.length - 1].runes++x[i].runes,l[l.length - 1].set,l[l.length - 1].patch⟩,gone):=by
       rw [nk,getLast_get hip];exact if_pos hset
      have hrl:(l[l.length - 1].runes.length+x[i].runes.length) * 4≤140737488355328:=by
       have h1:=mDops_mem (List.getElem_mem hl1)
       simp only [mDop,mSet_eq,mPat_eq] at h1 hmi
       omega
      rw [er]
      have hoa:∃ g,oa=some ⟨g,0,none⟩:=by
       cases oa with
       | none=>have:=hon rfl;rw [this] at hip;simp at hip
       | some p=>obtain ⟨g,rfl,_⟩:=hop p rfl;exact ⟨g,rfl⟩
      obtain ⟨g,rfl⟩:=hoa
      have hgo:(Value.slice (some ⟨g,0,none⟩) l.length oc).ownBlock=some g:=rfl
      obtain ⟨hgw,hg1⟩:=OwnR.ownB ho1 g hgo
      rw [show ((l.length:Int) - 1)=((l.length - 1:Nat):Int) by omega]
      have gd:Grow W1 W2.drew:=g2.trans (Mod.drew _ _)
      have zd:W2.drew.heap.size=W2.heap.size:=rfl
      have od:OwnR w.heap.size 39 5 (RDop fun b=>b < W2.heap.size∧b≠g∧(D b∨w.heap.size≤b)) W2.drew (.slice (some ⟨g,0,none⟩) l.length oc) l:=OwnR.mod ho1 gd (fun _ _ h=>h) fun r y _ hy=>RDop.mod hy gd (fun _ _ _ h=>h) fun b hb hd=>⟨by omega,fun e=>hd.1 (by rw [hgo,e]),hd.2⟩
      have q1d:RRun (fun b=>D b∧b < w.heap.size) W2.drew rv x[i].runes:=q1.grow gd (by decide) fun _ _ h=>h
      have l6d:=l6 gd
      generalize W2.drew=Wd at gd zd od q1d l6d ⊢
      have hb6l:b6 < W2.heap.size:=by omega
      refine drawC_i (fun k y=>((k=2∨k=8∨k=11)∧W2.heap.size≤y)∨(k=14∧y=g)) ?_
      refine rowK_empty ⟨Mod.alloc _ _ _,?_⟩
      have om:OwnR Wd.heap.size 21 1 RRune (Wd.alloc (.cells #[] 21)) (.slice (some ⟨Wd.heap.size,0,none⟩) 0 0) ([]:List Int):=OwnR.made (Nat.le_refl _)
      have ga:Grow Wd (Wd.alloc (.cells #[] 21)):=Mod.alloc _ _ _
      have hza:(Wd.alloc (.cells #[] 21)).heap.size=Wd.heap.size+1:=by simp
      generalize Wd.alloc (.cells #[] 21)=Wa at om ga hza ⊢
      obtain ⟨r,hr2,hcl,hy,hlv⟩:=OwnR.cellsOf od hl1
      obtain ⟨rv2,sv2,pv2,rfl,y1,y2,y3⟩:=hy
      refine ixK_n hl1 ?_
      rw [faK_i,Addr.add_add]
      refine sld1_i ⟨by rw [addr0];exact hcl 2 _ rfl,fun j hj e=>?_⟩ ?_
      ·rw [addr0] at e
       rcases e with ⟨_,e⟩ | ⟨rfl,_⟩
       ·have e:W2.heap.size≤g:=e
        omega
       ·exact absurd hj (by decide)
      obtain ⟨v8,W8,r1,r2,r3,r4⟩:=OwnR.append (ty:=35) elem_rune om (y1.grow ga (by decide) fun _ _ h=>h) (fun _ _=>RRune.one) (by simp only [List.length_nil];omega) (by omega) (by simp only [List.length_nil,maxLen];omega) fun _ _ _ _ h=>h
      have m8:Mod (fun y=>W2.heap.size≤y) Wa W8:=(Mod.of_grownBy r3).mono fun y _ e=>by simp only [Value.ownBlock,Option.some.injEq] at e;omega
      refine runK_i r1 ⟨m8.mono fun y _ e=>.inl ⟨.inr (.inl rfl),e⟩,?_⟩
      refine sld1_i ⟨l6d 2 _ rfl,fun j hj e=>?_⟩ ?_
      ·rw [addr0] at e
       rcases e with ⟨_,e⟩ | ⟨rfl,_⟩
       ·have e:W2.heap.size≤b6:=e
        omega
       ·exact absurd hj (by decide)
      have z8:=m8.size
      obtain ⟨v9,W9,s1,s2,s3,s4⟩:=OwnR.append (ty:=35) elem_rune r2 ((q1d.grow ga (by decide) fun _ _ h=>h).mod m8 (fun b _ hb e=>by have:=hb.2;omega) (by decide) fun _ _ h=>h) (fun _ _=>RRune.one) (by simpa using hrl) (by omega) (by simp only [List.nil_append,maxLen];omega) fun _ _ _ _ h=>h
      have o8:∀ y,v8.ownBlock=some y→W2.heap.size≤y:=fun y hy=>by
       rcases r4 y hy with e | e
       ·simp only [Value.ownBlock,Option.some.injEq] at e;omega
       ·omega
      have m9:Mod (fun y=>W2.heap.size≤y) W8 W9:=(Mod.of_grownBy s3).mono fun y _ e=>o8 y e
      refine runK_i s1 ⟨m9.mono fun y _ e=>.inl ⟨.inr (.inr rfl),e⟩,?_⟩
      have o9:∀ y,v9.ownBlock=some y→W2.heap.size≤y:=fun y hy=>by
       rcases s4 y hy with e | e
       ·exact o8 y e
       ·omega
      have mall:Mod (fun y=>W2.heap.size≤y) Wd W9:=(ga.mono fun _ _ h=>h.elim).trans (m8.trans m9)
      have o9r:OwnR w.heap.size 39 5 (RDop fun b=>b < W2.heap.size∧b≠g∧(D b∨w.heap.size≤b)) W9 (.slice (some ⟨g,0,none⟩) l.length oc) l:=OwnR.mod od mall (fun y hy e=>absurd (show W2.heap.size≤y from e) (by have hy':g=y:=(by simpa [Value.ownBlock] using hy);omega)) fun r y _ hy=>RDop.mod hy mall (fun b _ hd e=>by have:=hd.1;omega) fun _ _ h=>h
      refine ixK_n hl1 ?_
      rw [faK_i,Addr.add_add,addr0]
      have hv9:=OwnR.one s2
      have live:=(hlv 2 (by decide)).mod mall fun e=>by
       have e:W2.heap.size≤g:=e
       omega
      refine live.st hv9.1 hv9.2 ⟨Mod.setCell _ _ _ (.inr ⟨rfl,rfl⟩),?_⟩
      have mS:=setA W9 g ((l.length - 1) * 5+2) v9
      have z9:=mall.size
      refine ⟨_,_,rfl,rfl,?_,?_⟩
      ·have hst2:=(OwnR.store (R':=RApart (fun b=>D b∨w.heap.size≤b) (.slice (some ⟨g,0,none⟩) l.length oc)) (u:=v9) (x':=⟨l[l.length - 1].kind,l[l.length - 1].n,l[l.length - 1].runes++x[i].runes,l[l.length - 1].set,l[l.length - 1].patch⟩) o9r hl1 (show 2 < 5 by decide) hv9.1 (fun r y _ hy=>by
        rw [addr0]
        exact RDop.mod hy mS (fun b _ hd e=>hd.2.1 e) fun b _ hd=>⟨fun e=>hd.2.1 (by cases e;rfl),hd.2.2⟩) fun r hy=>by
        rw [addr0]
        obtain ⟨rv3,sv3,pv3,rfl,t1,t2,t3⟩:=RDop.mod (D':=fun b=>(Value.slice (some ⟨g,0,none⟩) l.length oc).ownBlock≠some b∧(D b∨w.heap.size≤b)) hy mS (fun b _ hd e=>hd.2.1 e) fun b _ hd=>⟨fun e=>hd.2.1 (by cases e;rfl),hd.2.2⟩
        refine ⟨v9,sv3,pv3,rfl,?_,t2,t3⟩
        exact SlR.sub (SlR.mod (OwnR.sl s2) mS (fun b _ hb e=>by have:=o9 b hb.2;omega) (by decide) fun _ _ h=>h) (fun b _ hb=>⟨fun e=>absurd (o9 b hb.2) (by have e':g=b:=(by simpa [Value.ownBlock] using e);omega),.inr (by have:=o9 b hb.2;omega)⟩) (by decide) fun _ _ h=>by simpa using h).2.2.1
       rw [addr0] at hst2
       exact hst2
      ·exact ((gW1.trans gd).next mall fun b hb e=>by omega).next mS fun b hb e=>by omega
    ·refine drawK_i (fun W'=>Grow W1 W') (Mod.drew _ _) ?_
     rw [geK_i]
     refine condK_p (fun hge=>?_) fun hge=>?_
     ·have hip:0 < l.length:=by omega
      have hl1:l.length - 1 < l.length:=by omega
      rw [show ((l.length:Int) - 1)=((l.length - 1:Nat):Int) by omega]
      obtain ⟨p2,r2,rfl,_,hr2,hc2,rv2,sv2,pv2,rfl,y1,y2,y3⟩:=(OwnR.sl ho1).get hl1
      refine ixK_n hl1 ?_
      rw [faK_i,Addr.add_add]
      refine qld1K_i (fun W' g'=>g'.cell (hc2 3 _ rfl) fun h=>h) ?_
      refine qld1K_i (fun W' g'=>l6 g' 3 _ rfl) ?_
      refine ⟨.bool (decide (l[l.length - 1].set=x[i].set)),fun W' g'=>?_,?_⟩
      ·refine callK_mono (rsame_set (y2.grow g' (by decide) fun _ _ h=>h) (q2.grow g' (by decide) fun _ _ h=>h)) ?_
       rintro _ W'' ⟨rfl,g''⟩
       exact ⟨rfl,g'.trans g''⟩
      ·intro W' g'
       exact ⟨by rw [lastSet,getLast_get hip],g'⟩
     ·intro W' g'
      have:l=[]:=List.eq_nil_of_length_eq_zero (by omega)
      exact ⟨by rw [lastSet,this];rfl,g'⟩
 ·have:i=x.length:=by omega
  subst this
  rw [List.take_length] at ho hgl ⊢
  show gtK .i64 (.int .i64 _) _ _
  generalize hst:x.foldl rgapF ([],0)=st at *
  obtain ⟨l,gone⟩:=st
  simp only at ho hgl ⊢
  have er:rgap x=gapL l gone:=by unfold rgap;rw [hst]
  rw [er,gtK_i]
  refine condK_p (fun hg=>?_) fun hg=>?_
  ·rw [gapL,if_pos hg]
   refine ⟨#[.int .u8 3,.int .i64 gone,.slice none 0 0,.slice none 0 0,.slice none 0 0],by kernel_rfl,?_⟩
   have zw:=gW.size
   have oz:OwnR w.heap.size 39 5 (RDop fun b=>b < W.heap.size∧ov.ownBlock≠some b∧(D b∨w.heap.size≤b)) W ov l:=OwnR.mod ho (Mod.refl (fun _=>False) _) (fun _ _ h=>h) fun r y _ hy=>RDop.mod hy (Mod.refl (fun _=>False) _) (fun _ _ _ h=>h) fun b hb hd=>⟨hb,hd⟩
   refine push_g elem_dop oz zw (cs:=row5 ⟨3,gone,[],[],[]⟩ (.slice none 0 0) (.slice none 0 0) (.slice none 0 0)) (x:=⟨3,gone,[],[],[]⟩) (by kernel_rfl) rfl ⟨_,_,_,rfl,SlR.nil,SlR.nil,SlR.nil⟩ (fun _ _ _=>RDop.one) (fun w1 w2 r z hz hm hy=>RDop.mod hy hm (fun b _ hd e=>?_) fun _ _ h=>h) (by omega) (by simp only [maxLen];omega) fun v' w' o' m' hw'=>⟨apart_push o' hw',gW.next m' fun b hb e=>by have:=(OwnR.ownB ho b e).1;omega⟩
   rcases e with e | e
   ·exact hd.2.1 e
   ·have:=hd.1;omega
  ·rw [gapL,if_neg hg]
   exact ⟨ho,gW⟩
end Go.Proofs.YtlbaopamhkmepaaGreatDoor

namespace Go.K
open Go
theorem slice_lh {α:Type} {P:Program} {t e k:Nat} {i:TypeInfo} {R:World→List Value→α→Prop} {S:Nat→Prop} {w:World} {a:Option Addr} {n c:Nat} {l:List α} {j q:Nat} {K:Cont} (ht:P.underlying t=some (.slice e)) (hi:P.info? e=some i) (hk:i.size=k)
  (h:SlR S k R w (.slice a n c) l) (hjq:j≤q) (hq:q≤l.length) (hK:∀ v',SlR S k R w v' ((l.take q).drop j)→K v' w):runK P (Instr.sliceAt t (.slice a n c) (some (.int .i64 j)) (some (.int .i64 q)) none) K w:=by
 obtain ⟨a',c',e1,h1,h2,h3⟩:=h
 cases e1
 have hel:P.elem t=e:=by simp [Program.elem,ht]
 refine ⟨sliced a j q c k,w,?_,hK _ ?_⟩
 ·rw [run_sliceAt_slice _ _ _ _ _ _ (by rw [hel];exact ht),run_slice_lh _ _ _ _ _ (by rw [hel];exact ht) _ _ _ _ (by omega) (by omega) (by omega),hel]
  simp [sizeOf,typeInfo,hi,hk]
 ·unfold sliced
  have hl:((l.take q).drop j).length=q - j:=by simp;omega
  refine ⟨_,_,by rw [hl],by rw [hl];omega,by omega,fun m x hx=>?_⟩
  rw [List.getElem?_drop,List.getElem?_take] at hx
  split at hx
  ·obtain ⟨p,r,rfl,hS,hr,hc,hR⟩:=h3 _ x hx
   rw [if_neg (by omega)]
   refine ⟨p.add (j * k),r,rfl,by rw [add_block];exact hS,hr,fun y u hu=>?_,hR⟩
   rw [Addr.add_add,←Nat.add_assoc,←Nat.add_mul]
   exact hc y u hu
  ·cases hx
end Go.K

namespace Go.Proofs.YtlbaopamhkmepaaGreatDoor
open Go Go.K

def oneAt (o:Dop) (k:Nat):Dop:=if o.kind=2 then ⟨2,0,(o.runes.take (k+1)).drop k,o.set,o.patch⟩ else ⟨o.kind,1,[],o.set,o.patch⟩
theorem ones_take {o:Dop} {k:Nat} (h:k < lenN o):(ones o).take (k+1)=(ones o).take k++[oneAt o k]:=by
 have hl:k < (ones o).length:=by rw [ones_len];exact h
 rw [List.take_add_one,List.getElem?_eq_getElem hl,Option.toList]
 congr 2
 unfold ones oneAt
 obtain ⟨q,n,rs,s,p⟩:=o
 by_cases e:q=2
 ·subst e
  simp only [lenN,if_true] at h
  simp only [if_true,List.getElem_map]
  rw [List.take_add_one,List.getElem?_eq_getElem h,Option.toList,List.drop_append,List.drop_eq_nil_of_le (by rw [List.length_take];omega)]
  simp only [List.length_take,Nat.min_eq_left (Nat.le_of_lt h),Nat.sub_self,List.drop_zero,List.nil_append]
 ·simp [e]
theorem onesL_take {x:List Dop} {i:Nat} (h:i < x.length):onesL (x.take (i+1))=onesL (x.take i)++ones x[i]:=by
 rw [List.take_add_one,List.getElem?_eq_getElem h]
 simp only [onesL,Option.toList,List.flatMap_append,List.flatMap_cons,List.flatMap_nil,List.append_nil]
theorem total_take (x:List Dop) (i:Nat):total (x.take i)≤total x:=by
 induction x generalizing i with
 | nil=>simp
 | cons o x ih=>
  cases i with
  | zero=>simp [total]
  | succ i=>
   have:=ih i
   simp only [total,List.take_succ_cons,List.map_cons,List.sum_cons] at *
   omega
set_option maxRecDepth 20000 in
theorem rones_ok {S D:Nat→Prop} {v:Value} {x:List Dop} {w:World} (h:RDops S D w v x) (hb:total x≤1000000) :
  callK Tryz.prog 90 [v] (fun v' w'=>OwnR w.heap.size 39 5 (RDop fun b=>D b∧b < w.heap.size) w' v' (onesL x)∧Grow w w') w:=by
 apply S90_ok
 unfold S90
 have ho:=RDops.old h
 obtain ⟨a,c,rfl,hml⟩:=h.shape
 simp only [maxLen] at hml
 have hRR:∀ {W:World} {ov:Value},w.heap.size≤W.heap.size→(∀ b,ov.ownBlock=some b→w.heap.size≤b)→∀ w1 w2 r y,W.heap.size≤w1.heap.size→Mod (fun b=>ov.ownBlock=some b∨W.heap.size≤b) w1 w2→RDop (fun b=>D b∧b < w.heap.size) w1 r y→RDop (fun b=>D b∧b < w.heap.size) w2 r y:=fun hw hov w1 w2 r y _ hm hx=>hx.mod hm (fun b _ hd e=>by rcases e with e | e;(have:=hov b e;have:=hd.2;omega);(have:=hd.2;omega)) fun _ _ h=>h
 refine LoopK_i (fun vs W=>∃ (i:Nat) (ov:Value),i≤x.length∧vs=[ov,.int .i64 i]∧OwnR w.heap.size 39 5 (RDop fun b=>D b∧b < w.heap.size) W ov (onesL (x.take i))∧Grow w W) (fun vs _=>x.length - iOf vs 1) ⟨0,_,by omega,rfl,OwnR.nil,Mod.refl _ _⟩ ?_
 rintro vs W ⟨i,ov0,hi,rfl,hO,g⟩ _
 simp only [nth_s,nth_z,List.headD_cons,List.tail_cons]
 rw [lenK_i,ltK_i]
 refine condK_p (fun hlt=>?_) fun hge=>?_
 rotate_left
 ·obtain rfl:i=x.length:=by omega
  rw [List.take_length] at hO
  exact ⟨hO,g⟩
 have hlt':i < x.length:=by omega
 have hix:=total_mem (List.getElem_mem hlt')
 obtain ⟨p,r,rfl,_,hr,hc,hop⟩:=(RDops.grow ho g).get hlt'
 refine ixK_n hlt' (ldnK_i hr (fun j u hu=>by rw [Addr.add_add];exact hc j u hu) ?_)
 refine newst_n hr rfl hop.one fun b5 w4 hb5 hz5 g4 hc5 _=>?_
 have g04:=g.trans g4
 have hB:∀ b,ov0.ownBlock=some b→w.heap.size≤b:=fun b e=>(OwnR.ownB hO b e).1
 have h5:ov0.ownBlock≠some b5:=fun e=>by have:=(OwnR.ownB hO b5 e).2;omega
 have hO4:OwnR w.heap.size 39 5 (RDop fun b=>D b∧b < w.heap.size) w4 ov0 (onesL (x.take i)):=OwnR.mod hO g4 (fun _ _ h=>h) fun r y _ hx=>hx.mod g4 (fun _ _ _ h=>h) fun _ _ h=>h
 have hop4:RDop (fun b=>D b∧b < w.heap.size) w4 r x[i]:=hop.mod g4 (fun _ _ _ h=>h) fun _ _ h=>h
 have htk:=total_take x i
 have htl:(onesL (x.take i)).length=total (x.take i):=onesL_len _
 have htk1:=total_take x (i+1)
 have et:total (x.take (i+1))=total (x.take i)+lenN x[i]:=by
  rw [←onesL_len,onesL_take hlt',List.length_append,ones_len,onesL_len]
 refine LoopK_i (fun vs W1=>∃ (k:Nat) (ov:Value),k≤lenN x[i]∧vs=[ov,.int .i64 k]∧OwnR w.heap.size 39 5 (RDop fun b=>D b∧b < w.heap.size) W1 ov (onesL (x.take i)++(ones x[i]).take k)∧RowIn ov0 w4 W1 ov) (fun vs _=>lenN x[i] - iOf vs 1) ⟨0,ov0,by omega,rfl,by simpa using hO4,RowIn.start⟩ ?_
 clear hO hO4
 rintro vs W1 ⟨k,ov,hk,rfl,hO,hin⟩ _
 have g01:=hin.g g04 hB
 have hop1:RDop (fun b=>D b∧b < w.heap.size) W1 r x[i]:=hop4.mod hin.1 (fun b _ hd e=>by have:=hB b e;have:=hd.2;omega) fun _ _ h=>h
 have c5:∀ j u,r[j]?=some u→W1.cell? ((⟨b5,0,none⟩:Addr).add j)=some u:=fun j u hu=>hin.1.cell (hc5 j u hu) (by rw [add_block];exact h5)
 simp only [nth_s,nth_z,List.headD_cons,List.tail_cons]
 refine ldnK_i hr c5 ?_
 refine callK_mono (len_ok hop1) ?_
 rintro _ W2 ⟨rfl,g2⟩
 have hO2:OwnR w.heap.size 39 5 (RDop fun b=>D b∧b < w.heap.size) W2 ov (onesL (x.take i)++(ones x[i]).take k):=OwnR.mod hO g2 (fun _ _ h=>h) fun r y _ hx=>hx.mod g2 (fun _ _ _ h=>h) fun _ _ h=>h
 rw [ltK_i]
 have hlo:((k:Int) < lenO x[i])↔k < lenN x[i]:=by
  unfold lenO lenN
  split <;> omega
 refine condK_p (fun hkl=>?_) fun hkg=>?_
 rotate_left
 ·have:k=lenN x[i]:=by have:=mt hlo.2 hkg;omega
  subst this
  rw [←ones_len,List.take_length,←onesL_take hlt'] at hO2
  rw [addK_i,loop_step (by omega)]
  exact ⟨⟨i+1,ov,hlt',rfl,hO2,g01.trans g2⟩,by rw [iOf1,iOf1];omega⟩
 have hkl':=hlo.1 hkl
 obtain ⟨rv,sv,pv,rfl,q1,q2,q3⟩:=hop1.mod (D':=fun b=>D b∧b < w.heap.size) g2 (fun _ _ _ h=>h) fun _ _ h=>h
 have c52:∀ j u,([.int .u8 x[i].kind,.int .i64 x[i].n,rv,sv,pv]:List Value)[j]?=some u→W2.cell? ((⟨b5,0,none⟩:Addr).add j)=some u:=fun j u hu=>g2.cell (c5 j u hu) fun h=>h
 obtain ⟨ra,rc,rfl,_⟩:=q1.shape
 obtain ⟨sa,sc,rfl,_⟩:=q2.shape
 obtain ⟨pa,pc,rfl,_⟩:=q3.shape
 rw [faK_i]
 refine ld1K_i (c52 0 _ rfl) ?_
 rw [faK_i]
 refine ld1K_i (c52 3 _ rfl) ?_
 rw [faK_i]
 refine ld1K_i (c52 4 _ rfl) ?_
 refine ⟨#[.int .u8 x[i].kind,.int .i64 0,.slice none 0 0,.slice sa x[i].set.length sc,.slice pa x[i].patch.length pc],by kernel_rfl,?_⟩
 refine newst_n (vs:=[.int .u8 x[i].kind,.int .i64 0,.slice none 0 0,.slice sa x[i].set.length sc,.slice pa x[i].patch.length pc]) rfl rfl (fun u hu=>by simp at hu;rcases hu with rfl | rfl | rfl | rfl | rfl <;> rfl) fun b7 w7 hb7 hz7 g7 hc7 hl7=>?_
 have z2:=g2.size
 have hwW:w.heap.size≤W1.heap.size:=g01.size
 have hin7:=(hin.grow g2).grow g7
 have hO7:OwnR w.heap.size 39 5 (RDop fun b=>D b∧b < w.heap.size) w7 ov (onesL (x.take i)++(ones x[i]).take k):=OwnR.mod hO2 g7 (fun _ _ h=>h) fun r y _ hx=>hx.mod g7 (fun _ _ _ h=>h) fun _ _ h=>h
 have c57:∀ j u,([.int .u8 x[i].kind,.int .i64 x[i].n,.slice ra x[i].runes.length rc,.slice sa x[i].set.length sc,.slice pa x[i].patch.length pc]:List Value)[j]?=some u→w7.cell? ((⟨b5,0,none⟩:Addr).add j)=some u:=fun j u hu=>g7.cell (c52 j u hu) fun h=>h
 have hcz:∀ j v,([.int .u8 x[i].kind,.int .i64 0,.slice none 0 0,.slice sa x[i].set.length sc,.slice pa x[i].patch.length pc]:List Value)[j]?=some v→w7.cell? ⟨b7,j,none⟩=some v:=fun j v hv=>by have:=hc7 j v hv;rwa [addr0] at this
 have hlz:∀ j,j < 5→Live w7 ⟨b7,j,none⟩:=fun j hj=>by have:=hl7 j hj;rwa [addr0] at this
 refine JoinK_i (fun _ W8=>∃ r',RDop (fun b=>D b∧b < w.heap.size) W8 r' (oneAt x[i] k)∧(∀ j v,r'[j]?=some v→W8.cell? ((⟨b7,0,none⟩:Addr).add j)=some v)∧Mod (fun y=>y=b7) w7 W8) ?_ ?_
 ·rintro _ W8 ⟨r',hr',hcr,m8⟩ _
  have hr5:r'.length=5:=by obtain ⟨_,_,_,rfl,_⟩:=hr';rfl
  have b7n:∀ b,ov.ownBlock=some b→b≠b7:=fun b e=>by have:=(OwnR.ownB hO2 b e).2;omega
  have hO8:OwnR w.heap.size 39 5 (RDop fun b=>D b∧b < w.heap.size) W8 ov (onesL (x.take i)++(ones x[i]).take k):=OwnR.mod hO7 m8 (fun b hb e=>b7n b hb e) fun r y _ hx=>hx.mod m8 (fun b _ hd e=>by have:=hd.2;omega) fun _ _ h=>h
  have hin8:RowIn ov0 w4 W8 ov:=⟨hin7.1.next m8 fun b hb e=>by have:=hin.1.size;omega,hin7.2⟩
  have z8:=m8.size
  have z7:=g7.size
  refine ldnK_i hr5 hcr ?_
  have hll:(onesL (x.take i)++(ones x[i]).take k).length+1≤1000000:=by
   rw [List.length_append,htl,List.length_take,ones_len];omega
  have hfill:Instr.fill (fun i=>some (i * 5,5)) ((Array.range (1 * 5)).map (([.int .u8 0,.int .i64 0,.slice none 0 0,.slice none 0 0,.slice none 0 0]:List Value).toArray[· % ([.int .u8 0,.int .i64 0,.slice none 0 0,.slice none 0 0,.slice none 0 0]:List Value).toArray.size]!)) [(0,.agg r'.toArray)]=some r'.toArray:=by
   obtain ⟨rv',sv',pv',rfl,_⟩:=id hr'
   kernel_rfl
  refine push_g elem_dop hO8 (by omega) hfill hr5 hr' (fun _ _ _=>RDop.one) (hRR (by omega) fun b e=>(OwnR.ownB hO8 b e).1) (by omega) (by simp only [maxLen];omega) fun v' w' o' m' hv'=>?_
  rw [addK_i,loop_step (by omega)]
  refine ⟨⟨k+1,v',hkl',rfl,?_,hin8.push m' hv'⟩,by rw [iOf1,iOf1];omega⟩
  rw [ones_take hkl',←List.append_assoc]
  exact o'
 rw [faK_i]
 refine ld1K_i (c57 0 _ rfl) ?_
 rw [eqK_i]
 have q17:=q1.grow g7 (by decide) fun _ _ h=>h
 have q27:=q2.grow g7 (by decide) fun _ _ h=>h
 have q37:=q3.grow g7 (by decide) fun _ _ h=>h
 have nb:∀ y,(D y∧y < w.heap.size)→¬ y=b7:=fun y hy e=>by have:=hy.2;omega
 refine condK_p (fun k2=>?_) fun k2=>?_
 ·have hlr:lenN x[i]=x[i].runes.length:=by simp [lenN,k2]
  rw [faK_i]
  refine ld1K_i (c57 2 _ rfl) ?_
  rw [addK_i,wrap64 (by omega) (by omega),show (k:Int)+1=((k+1:Nat):Int) by omega]
  refine slice_lh (j:=k) (q:=k+1) (e:=21) (k:=1) (i:=Tryz.t21) (by kernel_rfl) (by kernel_rfl) (by kernel_rfl) q17 (by omega) (by omega) fun v' hv'=>?_
  have hv1:v'.oneCell'=true∧v'.cells=#[v']:=by obtain ⟨a',c',rfl,_⟩:=hv'.shape;exact ⟨rfl,rfl⟩
  rw [faK_i,addr0]
  refine box_store (q:=2) hcz (fun j hj=>hlz j hj) (by simp) hv1.1 hv1.2 fun W8 m8 hc8 _=>?_
  refine ⟨_,?_,fun j v hv=>by rw [addr0];exact hc8 j v hv,m8⟩
  rw [oneAt,if_pos k2]
  refine ⟨v',_,_,by simp [k2],hv'.mono (fun _ _ h=>h) (fun y hy hd=>m8.same y hy (nb y hd)) (by decide) fun _ _ h=>h,q27.mono (fun _ _ h=>h) (fun y hy hd=>m8.same y hy (nb y hd)) (by decide) fun _ _ h=>h,q37.mono (fun _ _ h=>h) (fun y hy hd=>m8.same y hy (nb y hd)) (by decide) fun _ _ h=>h⟩
 ·rw [faK_i,addr0]
  refine box_store (q:=1) hcz (fun j hj=>hlz j hj) (by simp) rfl rfl fun W8 m8 hc8 _=>?_
  refine ⟨_,?_,fun j v hv=>by rw [addr0];exact hc8 j v hv,m8⟩
  rw [oneAt,if_neg k2]
  refine ⟨_,_,_,rfl,SlR.nil,q27.mono (fun _ _ h=>h) (fun y hy hd=>m8.same y hy (nb y hd)) (by decide) fun _ _ h=>h,q37.mono (fun _ _ h=>h) (fun y hy hd=>m8.same y hy (nb y hd)) (by decide) fun _ _ h=>h⟩
end Go.Proofs.YtlbaopamhkmepaaGreatDoor

namespace Go.Proofs.YtlbaopamhkmepaaGreatDoor
open Go Go.K

theorem rput_m (d:List Dop) (o:Dop):mDops (rput d o)≤mDops d+mDop o∧(rput d o).length≤d.length+1:=by
 unfold rput
 cases hl:d.getLast? with
 | none=>simp only [mDops_app,mDops_one,List.length_append,List.length_singleton];omega
 | some q=>
  simp only
  split
  ·obtain ⟨ys,hys⟩:=List.getLast?_eq_some_iff.1 hl
   rw [hys]
   have e:∀ m:Dop,(ys++[q]).set ((ys++[q]).length - 1) m=ys++[m]:=fun m=>by
    rw [List.length_append,List.length_singleton,Nat.add_sub_cancel,List.set_append_right _ _ (Nat.le_refl _)];simp
   rw [e]
   simp only [mDops_app,mDops_one,List.length_append,List.length_singleton,mDop]
   omega
  ·simp only [mDops_app,mDops_one,List.length_append,List.length_singleton];omega
theorem gapL_ml (l:List Dop) (g:Int):mDops (gapL l g)≤mDops l+1∧(gapL l g).length≤l.length+1:=by
 unfold gapL
 split
 ·have e:mDop ⟨3,g,[],[],[]⟩=1:=by simp [mDop,mSet,mPat]
  simp only [mDops_app,mDops_one,e,List.length_append,List.length_singleton];omega
 ·omega
theorem rgap_m (l:List Dop):mDops (rgap l)≤mDops l+1∧(rgap l).length≤l.length+1:=by
 have h1:=rgap_len l
 have h2:=gapL_ml (l.foldl rgapF ([],0)).1 (l.foldl rgapF ([],0)).2
 unfold rgap
 omega
theorem rof_m (l:List Dop):mDops (l.foldl rofF ([],[])).1+mDops (l.foldl rofF ([],[])).2≤2 * mDops l∧(l.foldl rofF ([],[])).1.length+(l.foldl rofF ([],[])).2.length≤2 * l.length:=by
 induction l using rev_ind with
 | h0=>exact ⟨Nat.le_refl _,Nat.le_refl _⟩
 | h1 x o ih=>
  have h0:1≤mDop o:=by simp [mDop];omega
  rw [List.foldl_append,List.foldl_cons,List.foldl_nil,mDops_app,mDops_one,List.length_append,List.length_singleton]
  generalize x.foldl rofF ([],[])=st at ih ⊢
  unfold rofF
  split
  ·have h1:=rput_m (st.1++rgap st.2) o
   have h2:=rgap_m st.2
   rw [mDops_app,List.length_append] at h1
   have h3:mDops ([]:List Dop)=0:=rfl
   simp only [h3,List.length_nil]
   omega
  ·simp only [mDops_app,mDops_one,List.length_append,List.length_singleton];omega

theorem rof_ok {S D:Nat→Prop} {xv:Value} {x:List Dop} {w:World} (h:RDops S D w xv x) (hb:mDops x≤274877906944) :
  callK Tryz.prog 64 [xv] (fun v' w'=>ODops w.heap.size w' v' (rof x)∧Grow w w') w:=by
 apply S64_ok
 unfold S64
 obtain ⟨pa,ca,rfl,hmx⟩:=h.shape
 simp only [maxLen] at hmx
 have hxl:=mDops_len x
 have hrm:=rof_m x
 let E:Nat→Prop:=fun b=>D b∨w.heap.size≤b
 refine JoinK_i (fun vs W=>∃ ov,vs=[ov]∧OwnR w.heap.size 39 5 (RApart E ov) W ov ((x.foldl rofF ([],[])).1++rgap (x.foldl rofF ([],[])).2)∧Grow w W) ?_ ?_
 ·rintro _ W ⟨ov,rfl,ho,gW⟩ _
  rw [nth_z,List.headD_cons]
  have hm:mDops ((x.foldl rofF ([],[])).1++rgap (x.foldl rofF ([],[])).2)≤1099511627776:=by
   have:=rgap_m (x.foldl rofF ([],[])).2
   rw [mDops_app];omega
  have hrof:rof x=trimL ((x.foldl rofF ([],[])).1++rgap (x.foldl rofF ([],[])).2):=rfl
  rw [hrof]
  generalize (x.foldl rofF ([],[])).1++rgap (x.foldl rofF ([],[])).2=l at ho hm ⊢
  have hll:=mDops_len l
  obtain ⟨oa,oc,rfl,hoc,hom,_,_⟩:=ho.shape
  simp only [maxLen] at hom
  have hs:=OwnR.sl ho
  rw [lenK_i,subK_i,wrap64 (by omega) (by omega)]
  have hmt:mDops (trimL l)≤mDops l:=by
   unfold trimL
   cases hl:l.getLast? with
   | none=>exact Nat.le_refl _
   | some o=>
    simp only
    split
    ·obtain ⟨ys,rfl⟩:=List.getLast?_eq_some_iff.1 hl
     rw [List.dropLast_concat,mDops_app];omega
    ·exact Nat.le_refl _
  refine JoinK_i (fun vs W'=>∃ tv,vs=[tv]∧W'=W∧RDops (fun _=>True) (fun _=>True) W tv (trimL l)) ?_ ?_
  ·rintro _ _ ⟨tv,rfl,rfl,ht⟩ _
   rename World=>W
   refine callK_mono (rcopy_dops ht (by omega)) ?_
   rintro v' W' ⟨o',g'⟩
   refine ⟨(OwnR.mod o' (Mod.refl (fun _=>False) _) (fun _ _ h=>h) fun r y _ hy=>ODop.mod hy (Mod.refl (fun _=>False) _) (fun _ _ _ h=>h) fun b hb hd=>⟨Nat.le_trans gW.size hd.1,hd.2⟩).base fun g hg=>Nat.le_trans gW.size (OwnR.ownB o' g hg).1,gW.trans g'⟩
  ·have hA:RDops (fun _=>True) (fun _=>True) W (.slice oa l.length oc) l:=SlR.mono hs (fun _ _ _=>trivial) (fun _ _ _=>rfl) (by decide) fun r y hy=>RDop.mod hy (Mod.refl (fun _=>False) _) (fun _ _ _ h=>h) fun _ _ _=>trivial
   have stay:trimL l=l→∃ tv,[Value.slice oa l.length oc]=[tv]∧W=W∧RDops (fun _=>True) (fun _=>True) W tv (trimL l):=fun e=>⟨_,rfl,rfl,by rw [e];exact hA⟩
   rw [geK_i]
   refine condK_p (fun hge=>?_) fun hge=>stay ?_
   ·have hip:0 < l.length:=by omega
    have hl1:l.length - 1 < l.length:=by omega
    have tr:trimL l=if l[l.length - 1].kind=1∧l[l.length - 1].patch=[] then l.dropLast else l:=by unfold trimL;rw [getLast_get hip]
    rw [show ((l.length:Int) - 1)=((l.length - 1:Nat):Int) by omega]
    obtain ⟨p,r,rfl,_,hr,hc,rv,sv,pv,rfl,y1,y2,y3⟩:=hA.get hl1
    refine ixK_n hl1 ?_
    rw [faK_i,Addr.add_add]
    refine ld1K_i (hc 0 _ rfl) ?_
    rw [eqK_i]
    refine condK_p (fun hk=>?_) fun hk=>stay (by rw [tr,if_neg fun h=>hk h.1])
    refine ixK_n hl1 ?_
    rw [faK_i,Addr.add_add]
    refine ld1K_i (hc 4 _ rfl) ?_
    obtain ⟨pa2,pc2,rfl,_⟩:=y3.shape
    rw [lenK_i,eqK_i]
    refine condK_p (fun hp=>?_) fun hp=>stay (by rw [tr,if_neg fun h=>hp (len0.2 h.2)])
    refine slice_hi (t:=31) (e:=39) (k:=5) (i:=Tryz.t39) (by kernel_rfl) (by kernel_rfl) (by kernel_rfl) hA (Nat.le_of_lt hl1) fun v' hv=>⟨v',rfl,rfl,?_⟩
    rw [tr,if_pos ⟨hk,len0.1 hp⟩,List.dropLast_eq_take]
    exact hv
   ·have:l=[]:=List.eq_nil_of_length_eq_zero (by omega)
    rw [this];rfl
 ·refine LoopK_i (fun vs W=>∃ (i f:Nat) (ov:Value),i≤x.length∧f≤i∧vs=[ov,.int .i64 f,.int .i64 i]∧OwnR w.heap.size 39 5 (RApart E ov) W ov ((x.take i).foldl rofF ([],[])).1∧((x.take i).foldl rofF ([],[])).2=(x.take i).drop f∧Grow w W) (fun vs _=>x.length - iOf vs 2) ⟨0,0,_,Nat.zero_le _,Nat.le_refl _,rfl,OwnR.nil,rfl,Mod.refl _ _⟩ ?_
  rintro vs W ⟨i,f,ov,hi,hf,rfl,ho,hgp,gW⟩ _
  rw [lenK_i]
  show leK .i64 (.int .i64 i) _ _
  rw [leK_i]
  refine condK_p (fun _=>?_) fun hn=>(hn (by omega)).elim
  have hri:=rof_m (x.take i)
  have htk:(x.take i).length=i:=by rw [List.length_take];omega
  rw [htk] at hri
  have htm:mDops (x.take i)≤mDops x:=by
   have e2:mDops x=mDops (x.take i)+mDops (x.drop i):=by
    conv=>lhs;rw [←List.take_append_drop i x]
    exact mDops_app _ _
   omega
  generalize hst:(x.take i).foldl rofF ([],[])=st at *
  obtain ⟨d,gp⟩:=st
  simp only at ho hgp hri
  refine JoinK_i (fun vs W2=>i < x.length∧∃ ov' f',vs=[ov',.int .i64 ((f':Nat):Int)]∧f'≤i+1∧OwnR w.heap.size 39 5 (RApart E ov') W2 ov' ((x.take (i+1)).foldl rofF ([],[])).1∧((x.take (i+1)).foldl rofF ([],[])).2=(x.take (i+1)).drop f'∧Grow w W2) ?_ ?_
  ·rintro _ W2 ⟨hlt,ov',f',rfl,hf',ho',hg',g2⟩ _
   show addK .i64 (.int .i64 i) _ _
   rw [addK_i,loop_step (by omega)]
   exact ⟨⟨i+1,f',ov',hlt,hf',rfl,ho',hg',g2⟩,by rw [iOf2,iOf2];omega⟩
  ·refine JoinK_i (fun _ W2=>W2=W∧∀ hlt:i < x.length,x[i].kind=1) ?_ ?_
   ·rintro _ _ ⟨rfl,hk1⟩ _
    rename World=>W
    refine slice_lh (t:=31) (e:=39) (k:=5) (i:=Tryz.t39) (by kernel_rfl) (by kernel_rfl) (by kernel_rfl) (RDops.grow (RDops.old h) gW) hf hi fun v' hv=>?_
    rw [←hgp] at hv
    refine callK_mono (rgap_ok hv (by omega)) ?_
    rintro gv W3 ⟨og,g3⟩
    have zw:=gW.size
    have z3:=g3.size
    have hgm:=rgap_m gp
    have oz:OwnR w.heap.size 39 5 (RDop fun b=>b < W3.heap.size∧ov.ownBlock≠some b∧E b) W3 ov d:=OwnR.mod ho g3 (fun _ _ h=>h) fun r y _ hy=>RDop.mod hy g3 (fun _ _ _ h=>h) fun b hb hd=>⟨by omega,hd⟩
    have hg3:SlR (fun _=>True) 5 (RDop fun b=>b < W3.heap.size∧ov.ownBlock≠some b∧E b) W3 gv (rgap gp):=SlR.mono (OwnR.sl og) (fun _ _ _=>trivial) (fun _ _ _=>rfl) (by decide) fun r y hy=>RDop.mod hy (Mod.refl (fun _=>False) _) (fun _ _ _ h=>h) fun b hb hd=>⟨hb,fun e=>by
     have:=OwnR.ownB ho b e
     rcases hd.2 with h | h
     ·have:=h.2;omega
     ·omega,by
     rcases hd.2 with h | h
     ·exact .inl h.1
     ·exact .inr (by omega)⟩
    obtain ⟨t32,W4,r1,r2,r3,r4⟩:=OwnR.append (ty:=31) elem_dop oz hg3 (fun _ _=>RDop.one) (by omega) (by omega) (by simp only [maxLen];omega) fun w' hg r y hy=>RDop.mod hy (Mod.of_grownBy hg) (fun b _ hd e=>hd.2.1 e) fun _ _ h=>h
    refine runK_i r1 ?_
    have o4:=apart_push r2 r4
    have g4:Grow w W4:=(gW.trans g3).next (Mod.of_grownBy r3) fun b hb e=>by have:=(OwnR.ownB ho b e).1;omega
    show addK .i64 (.int .i64 i) _ _
    rw [addK_i,loop_step (by omega),lenK_i]
    show eqK .i64 (.int .i64 i) _ _
    rw [eqK_i]
    refine condK_p (fun he=>?_) fun he=>?_
    ·have:i=x.length:=by omega
     subst this
     rw [List.take_length] at hst
     rw [hst]
     exact ⟨t32,rfl,o4,g4⟩
    ·have hlt':i < x.length:=by omega
     have hk:=hk1 hlt'
     have est:(x.take (i+1)).foldl rofF ([],[])=(rput (d++rgap gp) x[i],[]):=by
      rw [List.take_add_one,List.getElem?_eq_getElem hlt',Option.toList_some,List.foldl_append,hst]
      show rofF (d,gp) x[i]=_
      unfold rofF;rw [if_pos hk]
     have hml:mDops (d++rgap gp)≤1099511627776:=by rw [mDops_app];omega
     have hdrop:(x.take (i+1)).drop (i+1)=[]:=List.drop_eq_nil_of_le (by rw [List.length_take];omega)
     generalize d++rgap gp=l at o4 est hml
     have hll:=mDops_len l
     obtain ⟨oa,oc,rfl,hoc,hom,hop,hon⟩:=o4.shape
     simp only [maxLen] at hom
     obtain ⟨p,r,rfl,_,hr,hc,hx⟩:=(RDops.grow (RDops.old h) g4).get hlt'
     have hx0:=hx
     obtain ⟨rv,sv,pv,rfl,y1,y2,y3⟩:=hx
     rw [lenK_i,subK_i,wrap64 (by omega) (by omega)]
     refine JoinK_i (fun vs W5=>vs=[.bool (match l.getLast? with | some q=>decide (q.kind=1∧q.patch=x[i].patch) | none=>false)]∧Grow W4 W5) ?_ ?_
     ·rintro _ W5 ⟨rfl,g5⟩ _
      rw [nth_z,List.headD_cons]
      have z5:=g5.size
      have z4:=g4.size
      cases hls:(match l.getLast? with | some q=>decide (q.kind=1∧q.patch=x[i].patch) | none=>false) with
      | false=>
       rw [condK_b,if_neg (by simp)]
       refine ixK_n hlt' (ldnK_i hr (fun j u hu=>by rw [Addr.add_add];exact g5.cell (hc j u hu) fun h=>h) ?_)
       have oz5:OwnR w.heap.size 39 5 (RDop fun b=>b < W5.heap.size∧(Value.slice oa l.length oc).ownBlock≠some b∧E b) W5 (.slice oa l.length oc) l:=OwnR.mod o4 g5 (fun _ _ h=>h) fun r y _ hy=>RDop.mod hy g5 (fun _ _ _ h=>h) fun b hb hd=>⟨by omega,hd⟩
       have hxk:RDop (fun b=>b < W5.heap.size∧(Value.slice oa l.length oc).ownBlock≠some b∧E b) W5 [.int .u8 x[i].kind,.int .i64 x[i].n,rv,sv,pv] x[i]:=RDop.mod hx0 g5 (fun _ _ _ h=>h) fun b hb hd=>⟨by have:=hd.2;omega,fun e=>by have:=(OwnR.ownB o4 b e).1;have:=hd.2;omega,.inl hd.1⟩
       have sh:∃ a1 c1 a2 c2 a3 c3 n1 n2 n3,rv=.slice a1 n1 c1∧sv=.slice a2 n2 c2∧pv=.slice a3 n3 c3:=by
        obtain ⟨a1,c1,e1,_⟩:=y1.shape
        obtain ⟨a2,c2,e2,_⟩:=y2.shape
        obtain ⟨a3,c3,e3,_⟩:=y3.shape
        exact ⟨a1,c1,a2,c2,a3,c3,_,_,_,e1,e2,e3⟩
       refine push_g elem_dop oz5 (by omega) (cs:=[.int .u8 x[i].kind,.int .i64 x[i].n,rv,sv,pv]) (x:=x[i]) (by obtain ⟨a1,c1,a2,c2,a3,c3,n1,n2,n3,rfl,rfl,rfl⟩:=sh;kernel_rfl) rfl hxk (fun _ _ _=>RDop.one) (fun w1 w2 r z hz hm hy=>RDop.mod hy hm (fun b _ hd e=>?_) fun _ _ h=>h) (by omega) (by simp only [maxLen];omega) fun v' w' o' m' hw'=>⟨hlt',v',i+1,rfl,Nat.le_refl _,?_,by rw [est,hdrop],(g4.trans g5).next m' fun b hb e=>by have:=(OwnR.ownB o4 b e).1;omega⟩
       ·rcases e with e | e
        ·exact hd.2.1 e
        ·have:=hd.1;omega
       ·rw [est]
        have e1:rput l x[i]=l++[x[i]]:=by
         unfold rput
         cases hg:l.getLast? with
         | none=>rfl
         | some q=>rw [hg] at hls;simp only [decide_eq_false_iff_not] at hls;simp only [if_neg hls]
        rw [e1]
        exact apart_push o' hw'
      | true=>
       rw [condK_b,if_pos rfl]
       have hip:0 < l.length:=by
        cases hn:l with
        | nil=>rw [hn] at hls;cases hls
        | cons a l=>simp
       have hl1:l.length - 1 < l.length:=by omega
       rw [getLast_get hip] at hls
       have hq:l[l.length - 1].kind=1∧l[l.length - 1].patch=x[i].patch:=by simpa using hls
       have er:rput l x[i]=l.set (l.length - 1) ⟨l[l.length - 1].kind,IntKind.i64.wrap (l[l.length - 1].n+x[i].n),l[l.length - 1].runes,l[l.length - 1].set,l[l.length - 1].patch⟩:=by
        unfold rput;rw [getLast_get hip];exact if_pos hq
       have hoa:∃ g,oa=some ⟨g,0,none⟩:=by
        cases oa with
        | none=>have:=hon rfl;rw [this] at hip;simp at hip
        | some p=>obtain ⟨g,rfl,_⟩:=hop p rfl;exact ⟨g,rfl⟩
       obtain ⟨g,rfl⟩:=hoa
       obtain ⟨hgw,hg1⟩:=OwnR.ownB o4 g rfl
       rw [show ((l.length:Int) - 1)=((l.length - 1:Nat):Int) by omega]
       have gd:Grow W4 W5.drew:=g5.trans (Mod.drew _ _)
       have od:OwnR w.heap.size 39 5 (RDop fun b=>b≠g∧E b) W5.drew (.slice (some ⟨g,0,none⟩) l.length oc) l:=OwnR.mod o4 gd (fun _ _ h=>h) fun r y _ hy=>RDop.mod hy gd (fun _ _ _ h=>h) fun b hb hd=>⟨fun e=>hd.1 (by rw [e];rfl),hd.2⟩
       refine drawC_i (fun k y=>k=15∧y=g) ?_
       obtain ⟨r3,hr3,hcl,hy3,hlv⟩:=OwnR.cellsOf od hl1
       obtain ⟨rv3,sv3,pv3,rfl,_,_,_⟩:=hy3
       refine ixK_n hl1 ?_
       rw [faK_i,Addr.add_add]
       refine sld1_i ⟨by rw [addr0];exact hcl 1 _ rfl,fun j hj e=>by obtain ⟨rfl,_⟩:=e;exact absurd hj (by decide)⟩ ?_
       refine ixK_n hlt' ?_
       rw [faK_i,Addr.add_add]
       refine sld1_i ⟨gd.cell (hc 1 _ rfl) fun h=>h,fun j hj e=>by obtain ⟨rfl,_⟩:=e;exact absurd hj (by decide)⟩ ?_
       rw [addK_i]
       refine ixK_n hl1 ?_
       rw [faK_i,Addr.add_add,addr0]
       refine (hlv 1 (by decide)).st rfl rfl ⟨Mod.setCell _ _ _ ⟨rfl,rfl⟩,?_⟩
       have mS:=setA W5.drew g ((l.length - 1) * 5+1) (.int .i64 (IntKind.i64.wrap (l[l.length - 1].n+x[i].n)))
       refine ⟨hlt',_,i+1,rfl,Nat.le_refl _,?_,by rw [est,hdrop],(g4.trans gd).next mS fun b hb e=>by omega⟩
       rw [est,er]
       have hst2:=(OwnR.store (R':=RApart E (.slice (some ⟨g,0,none⟩) l.length oc)) (u:=.int .i64 (IntKind.i64.wrap (l[l.length - 1].n+x[i].n))) (x':=⟨l[l.length - 1].kind,IntKind.i64.wrap (l[l.length - 1].n+x[i].n),l[l.length - 1].runes,l[l.length - 1].set,l[l.length - 1].patch⟩) od hl1 (show 1 < 5 by decide) rfl (fun r y _ hy=>by
         rw [addr0]
         exact RDop.mod hy mS (fun b _ hd e=>hd.1 e) fun b _ hd=>⟨fun e=>hd.1 (by cases e;rfl),hd.2⟩) fun r hy=>by
         rw [addr0]
         obtain ⟨rv4,sv4,pv4,rfl,t1,t2,t3⟩:=RDop.mod (D':=fun b=>(Value.slice (some ⟨g,0,none⟩) l.length oc).ownBlock≠some b∧E b) hy mS (fun b _ hd e=>hd.1 e) fun b _ hd=>⟨fun e=>hd.1 (by cases e;rfl),hd.2⟩
         exact ⟨rv4,sv4,pv4,rfl,t1,t2,t3⟩).2.2.1
       rw [addr0] at hst2
       exact hst2
     ·refine drawK_i (fun W'=>Grow W4 W') (Mod.drew _ _) ?_
      rw [geK_i]
      refine condK_p (fun hge=>?_) fun hge=>?_
      ·have hip:0 < l.length:=by omega
       have hl1:l.length - 1 < l.length:=by omega
       rw [show ((l.length:Int) - 1)=((l.length - 1:Nat):Int) by omega,getLast_get hip]
       obtain ⟨p2,r2,rfl,_,hr2,hc2,rv2,sv2,pv2,rfl,z1,z2,z3⟩:=(OwnR.sl o4).get hl1
       refine ixK_n hl1 ?_
       rw [faK_i,Addr.add_add]
       refine qld1K_i (fun W' g'=>g'.cell (hc2 0 _ rfl) fun h=>h) ?_
       rw [eqK_i]
       refine condK_p (fun hk1=>?_) fun hk1 W' g'=>⟨by simp [hk1],g'⟩
       refine ixK_n hl1 ?_
       rw [faK_i,Addr.add_add]
       refine qld1K_i (fun W' g'=>g'.cell (hc2 4 _ rfl) fun h=>h) ?_
       refine ixK_n hlt' ?_
       rw [faK_i,Addr.add_add]
       refine qld1K_i (fun W' g'=>g'.cell (hc 4 _ rfl) fun h=>h) ?_
       refine ⟨.bool (decide (l[l.length - 1].patch=x[i].patch)),fun W' g'=>?_,fun W' g'=>⟨?_,g'⟩⟩
       ·refine callK_mono (rsame_pat (z3.grow g' (by decide) fun _ _ h=>h) (y3.grow g' (by decide) fun _ _ h=>h)) ?_
        rintro _ W'' ⟨rfl,g''⟩
        exact ⟨rfl,g'.trans g''⟩
       ·simp only [hk1,true_and]
      ·intro W' g'
       have:l=[]:=List.eq_nil_of_length_eq_zero (by omega)
       exact ⟨by rw [this];rfl,g'⟩
   ·rw [lenK_i]
    show ltK .i64 (.int .i64 i) _ _
    rw [ltK_i]
    refine condK_p (fun hlt=>?_) fun hge=>⟨rfl,fun h=>by omega⟩
    have hlt':i < x.length:=by omega
    obtain ⟨p,r,rfl,_,hr,hc,rv,sv,pv,rfl,y1,y2,y3⟩:=(RDops.grow h gW).get hlt'
    refine ixK_n hlt' ?_
    rw [faK_i,Addr.add_add]
    refine ld1K_i (hc 0 _ rfl) ?_
    rw [neK_i]
    refine condK_neg (fun hk=>⟨rfl,fun _=>hk⟩) fun hk=>?_
    have est:(x.take (i+1)).foldl rofF ([],[])=rofF (d,gp) x[i]:=by
     rw [List.take_add_one,List.getElem?_eq_getElem hlt',Option.toList_some,List.foldl_append,hst];rfl
    have e2:rofF (d,gp) x[i]=(d,gp++[x[i]]):=by unfold rofF;rw [if_neg hk]
    refine ⟨hlt',ov,f,rfl,by omega,by rw [est,e2];exact ho,?_,gW⟩
    rw [est,e2]
    show gp++[x[i]]=_
    rw [hgp,List.take_add_one,List.getElem?_eq_getElem hlt',Option.toList_some,List.drop_append_of_le_length (by omega)]
end Go.Proofs.YtlbaopamhkmepaaGreatDoor

namespace Go.Proofs.YtlbaopamhkmepaaGreatDoor
open Go Go.K

theorem opk_n {o:Dop} (h:Opk o) (hk:o.kind≠2):o.n=(lenN o:Nat)∧1≤o.n:=by
 have:=h.pos
 simp only [lenN,hk,if_false] at this ⊢
 omega
theorem restO_0 (o:Dop):restO 0 o=o:=by
 obtain ⟨k,n,rs,s,p⟩:=o
 unfold restO
 split
 ·rename_i e;simp only at e;subst e;simp
 ·simp
theorem restO_restO (a c:Nat) (o:Dop):restO c (restO a o)=restO (a+c) o:=by
 obtain ⟨k,n,rs,s,p⟩:=o
 by_cases e:k=2
 ·subst e;simp [restO,List.drop_drop]
 ·simp [restO,e];omega
def remO (x:List Dop) (d:Nat):List Dop:=match x with
 | []=>[]
 | o :: r=>restO d o :: r
structure RdR (S D:Nat→Prop) (W:World) (b:Nat) (sv:Value) (x:List Dop) (d:Nat):Prop where
 c0:W.cell? ⟨b,0,none⟩=some sv
 c1:W.cell? ⟨b,1,none⟩=some (.int .i64 d)
 live:∀ j,j < 2→Live W ⟨b,j,none⟩
 rd:RDops S D W sv x
 lt:∀ y,S y∨D y→y < b
 opk:∀ o ∈ x,Opk o
def RdI (S D:Nat→Prop) (W:World) (b:Nat) (u:List Dop):Prop:=∃ sv x d,RdR S D W b sv x d∧(∀ o r,x=o :: r→d < lenN o)∧u=remO x d
def kindH:List Dop→Int
 | []=>1
 | o :: _=>o.kind
def longH:List Dop→Nat
 | []=>536870912
 | o :: _=>lenN o
theorem longH_nil:longH []=536870912:=rfl
theorem longH_cons {o:Dop} {x:List Dop}:longH (o :: x)=lenN o:=rfl
def rank (W:World) (b:Nat):Nat:=match W.cell? ⟨b,0,none⟩,W.cell? ⟨b,1,none⟩ with
 | some (.slice _ n _),some (.int _ d)=>n * 2147483648 - d.toNat
 | _,_=>0
section
variable {S D M:Nat→Prop} {W W':World} {b d:Nat} {sv:Value} {x u:List Dop}
theorem RdR.rank (h:RdR S D W b sv x d):rank W b=x.length * 2147483648 - d:=by
 obtain ⟨a,c,rfl,_⟩:=h.rd.shape
 unfold rank
 rw [h.c0,h.c1]
 simp
theorem RdI.rank_mod (h:RdI S D W b u) (m:Mod M W W') (hb:¬ M b):rank W' b=rank W b:=by
 obtain ⟨sv,x,d,h1,_⟩:=h
 unfold rank
 rw [m.cell h1.c0 hb,m.cell h1.c1 hb,h1.c0,h1.c1]
theorem RdR.mod (h:RdR S D W b sv x d) (m:Mod M W W') (hb:¬ M b) (hS:∀ y,S y→¬ M y) (hD:∀ y,D y→¬ M y):RdR S D W' b sv x d:=
 ⟨m.cell h.c0 hb,m.cell h.c1 hb,fun j hj=>(h.live j hj).mod m hb,RDops.mod h.rd m (fun y _ hy=>hS y hy) fun y _ hy=>hD y hy,h.lt,h.opk⟩
theorem RdR.grow (h:RdR S D W b sv x d) (g:Grow W W'):RdR S D W' b sv x d:=h.mod g (fun h=>h) (fun _ _ h=>h) fun _ _ h=>h
theorem RdI.mod (h:RdI S D W b u) (m:Mod M W W') (hb:¬ M b) (hS:∀ y,S y→¬ M y) (hD:∀ y,D y→¬ M y):RdI S D W' b u:=by
 obtain ⟨sv,x,d,h1,h2,h3⟩:=h
 exact ⟨sv,x,d,h1.mod m hb hS hD,h2,h3⟩
theorem RdI.opk (h:RdI S D W b u):∀ o ∈ u,Opk o:=by
 obtain ⟨sv,x,d,h1,h2,rfl⟩:=h
 cases x with
 | nil=>intro o ho;simp [remO] at ho
 | cons o r=>
  intro q hq
  rcases List.mem_cons.1 hq with rfl | hq
  ·have ho:=h1.opk o (by simp)
   have hd:=h2 o r rfl
   have:=restO_len (n:=d) (o:=o) (by omega)
   exact ⟨by rw [restO_kind];exact ho.k,by omega,by have:=ho.le;omega⟩
  ·exact h1.opk q (by simp [hq])
theorem rover_ok (h:RdI S D W b u):callK Tryz.prog 142 [.pointer (some ⟨b,0,none⟩)] (fun v' w'=>v'=.bool (decide (u=[]))∧w'=W) W:=by
 apply S142_ok
 unfold S142
 obtain ⟨sv,x,d,h1,h2,rfl⟩:=h
 obtain ⟨a,c,rfl,_⟩:=h1.rd.shape
 refine nilckK_s ?_
 rw [faK_i,addr0]
 refine ld1K_i h1.c0 ?_
 rw [lenK_i,eqK_i]
 refine ⟨?_,rfl⟩
 congr 1
 rw [decide_eq_decide]
 cases x with
 | nil=>simp [remO]
 | cons o r=>simp [remO];omega
theorem rkind_ok (h:RdI S D W b u):callK Tryz.prog 143 [.pointer (some ⟨b,0,none⟩)] (fun v' w'=>v'=.int .u8 (kindH u)∧w'=W) W:=by
 apply S143_ok
 unfold S143
 refine callK_mono (rover_ok h) ?_
 rintro _ _ ⟨rfl,rfl⟩
 rename World=>W
 obtain ⟨sv,x,d,h1,h2,rfl⟩:=h
 cases x with
 | nil=>
  rw [decide_eq_true (show remO [] d=[] from rfl)]
  exact condK_t ⟨rfl,rfl⟩
 | cons o r=>
  rw [decide_eq_false (show ¬ remO (o :: r) d=[] by simp [remO])]
  refine condK_f (nilckK_s ?_)
  rw [faK_i,addr0]
  refine ld1K_i h1.c0 ?_
  obtain ⟨a,c,rfl,_⟩:=h1.rd.shape
  obtain ⟨p,q,rfl,_,hq,hc,rv,sv,pv,rfl,_⟩:=h1.rd.get (i:=0) (by simp)
  refine ixK_n (j:=0) (by simp) ?_
  rw [faK_i,Addr.add_add]
  refine ld1K_i (hc 0 _ rfl) ⟨?_,rfl⟩
  simp [remO,restO_kind,kindH]
theorem rleft_ok {o:Dop} {r:List Dop} (h:RdR S D W b sv (o :: r) d) (hd:d≤lenN o):callK Tryz.prog 184 [.pointer (some ⟨b,0,none⟩)] (fun v' w'=>v'=.int .i64 (lenN o - d:Nat)∧Grow W w') W:=by
 apply S184_ok
 unfold S184
 have ho:=h.opk o (by simp)
 have hle:=ho.le
 obtain ⟨a,c,rfl,_⟩:=h.rd.shape
 obtain ⟨p,q,rfl,_,hq,hc,rv,sv',pv,rfl,hrv,_⟩:=h.rd.get (i:=0) (by simp)
 obtain ⟨ra,rc,rfl,_⟩:=hrv.shape
 have hc':∀ j u,([.int .u8 o.kind,.int .i64 o.n,.slice ra o.runes.length rc,sv',pv]:List Value)[j]?=some u→W.cell? ((p.add (0 * 5)).add j)=some u:=fun j u hu=>by rw [Addr.add_add];exact hc j u hu
 refine nilckK_s ?_
 rw [faK_i,addr0]
 refine ld1K_i h.c0 ?_
 refine ixK_n (j:=0) (by simp) ?_
 rw [faK_i]
 refine ld1K_i (hc' 0 _ rfl) ?_
 rw [eqK_i]
 refine condK_p (fun k2=>?_) fun k2=>?_
 ·refine drawK_i (fun w=>Grow W w) (Mod.drew _ _) ?_
  refine nilckK_s ?_
  rw [faK_i,addr0]
  refine qld1K_i (fun w hw=>hw.cell h.c0 fun h=>h) ?_
  refine ixK_n (j:=0) (by simp) ?_
  rw [faK_i]
  refine qld1K_i (fun w hw=>hw.cell (hc' 2 _ rfl) fun h=>h) ?_
  rw [lenK_i]
  refine nilckK_s ?_
  rw [faK_i,addr0]
  refine qld1K_i (fun w hw=>hw.cell h.c1 fun h=>h) ?_
  have hl:lenN o=o.runes.length:=by simp [lenN,k2]
  rw [subK_i,wrap64 (by omega) (by omega)]
  intro w3 g3
  exact ⟨by rw [hl];congr 1;omega,g3⟩
 ·refine drawK_i (fun w=>Grow W w) (Mod.drew _ _) ?_
  refine nilckK_s ?_
  rw [faK_i,addr0]
  refine qld1K_i (fun w hw=>hw.cell h.c0 fun h=>h) ?_
  refine ixK_n (j:=0) (by simp) ?_
  rw [faK_i]
  refine qld1K_i (fun w hw=>hw.cell (hc' 1 _ rfl) fun h=>h) ?_
  refine nilckK_s ?_
  rw [faK_i,addr0]
  refine qld1K_i (fun w hw=>hw.cell h.c1 fun h=>h) ?_
  have hl:=opk_n ho k2
  rw [subK_i,wrap64 (by omega) (by omega)]
  intro w3 g3
  exact ⟨by congr 1;omega,g3⟩
theorem rlong_ok (h:RdI S D W b u):callK Tryz.prog 146 [.pointer (some ⟨b,0,none⟩)] (fun v' w'=>v'=.int .i64 (longH u:Nat)∧Grow W w') W:=by
 apply S146_ok
 unfold S146
 refine callK_mono (rover_ok h) ?_
 rintro _ _ ⟨rfl,rfl⟩
 rename World=>W
 obtain ⟨sv,x,d,h1,h2,rfl⟩:=h
 cases x with
 | nil=>
  rw [decide_eq_true (show remO [] d=[] from rfl)]
  exact condK_t ⟨rfl,Mod.refl _ _⟩
 | cons o r=>
  rw [decide_eq_false (show ¬ remO (o :: r) d=[] by simp [remO])]
  refine condK_f ?_
  have hd:=h2 o r rfl
  refine callK_mono (rleft_ok h1 (by omega)) ?_
  rintro _ w' ⟨rfl,g⟩
  refine ⟨?_,g⟩
  simp only [remO,longH,restO_len (show d≤lenN o by omega)]
theorem headO_rest (k:Nat) (o:Dop):headO k (restO d o)=if o.kind=2 then ⟨2,o.n,(o.runes.take (d+k)).drop d,o.set,o.patch⟩ else ⟨o.kind,k,o.runes,o.set,o.patch⟩:=by
 obtain ⟨q,n,rs,s,p⟩:=o
 by_cases e:q=2
 ·subst e
  simp only [headO,restO,if_true]
  rw [List.drop_take];simp
 ·simp [headO,restO,e]
set_option maxRecDepth 20000 in
theorem rtake_ok (h:RdI S D W b u) {n:Nat} (hn1:1≤n) (hn2:n≤536870912):callK Tryz.prog 145 [.pointer (some ⟨b,0,none⟩),.int .i64 n] (fun v' w'=>∃ r o u',v'=.agg r.toArray∧RDop D w' r o∧RdI S D w' b u'∧Mod (fun y=>y=b) W w'∧
  ((u=[]∧o=⟨1,n,[],[],[]⟩∧u'=[]∧rank w' b=rank W b)∨∃ o1 u1,u=o1 :: u1∧o=headO (min n (lenN o1)) o1∧u'=behind (min n (lenN o1)) u∧rank w' b < rank W b)) W:=by
 apply S145_ok
 unfold S145
 refine newz_i fun b4 w1 hb4 hz1 g1 hc1 hl1=>?_
 have hI:=h.mod g1 (fun h=>h) (fun _ _ h=>h) fun _ _ h=>h
 refine callK_mono (rover_ok hI) ?_
 rintro _ _ ⟨rfl,rfl⟩
 rename World=>w1
 have hbW:b < W.heap.size:=by obtain ⟨sv,x,d,h1,_⟩:=h;exact World.block_lt_of_cell? W _ h1.c0
 obtain ⟨sv,x,d,h1,h2,rfl⟩:=hI
 cases x with
 | nil=>
  rw [decide_eq_true (show remO [] d=[] from rfl)]
  refine condK_t ⟨#[.int .u8 1,.int .i64 n,.slice none 0 0,.slice none 0 0,.slice none 0 0],by kernel_rfl,?_⟩
  refine stn_over (vs:=[.int .u8 1,.int .i64 n,.slice none 0 0,.slice none 0 0,.slice none 0 0]) rfl (fun u hu=>by simp at hu;rcases hu with rfl | rfl | rfl <;> rfl) (fun j hj=>hl1 j hj) fun w3 m3 hc3 _=>?_
  refine ldnK_i (vs:=[.int .u8 1,.int .i64 n,.slice none 0 0,.slice none 0 0,.slice none 0 0]) rfl hc3 ?_
  have m13:Mod (fun y=>y=b) W w3:=(g1.mono fun _ _ e=>e.elim).next m3 fun y hy e=>by omega
  refine ⟨_,⟨1,n,[],[],[]⟩,[],rfl,⟨_,_,_,rfl,SlR.nil,SlR.nil,SlR.nil⟩,?_,m13,.inl ⟨rfl,rfl,rfl,h.rank_mod ((g1.mono fun _ _ e=>e.elim).next m3 fun y hy e=>e:Mod (fun y=>y=b4) W w3) (by omega)⟩⟩
  refine ⟨sv,[],d,?_,h2,rfl⟩
  refine ⟨m3.cell h1.c0 (by intro e;simp only at e;omega),m3.cell h1.c1 (by intro e;simp only at e;omega),fun j hj=>(h1.live j hj).mod m3 (by intro e;simp only at e;omega),?_,h1.lt,h1.opk⟩
  have hs:=h1.rd.shape
  obtain ⟨a,c,rfl,hm⟩:=hs
  obtain ⟨a',c',e,q1,q2,q3⟩:=h1.rd
  exact ⟨a',c',e,q1,q2,fun i y hy=>by simp at hy⟩
 | cons o r=>
  rw [decide_eq_false (show ¬ remO (o :: r) d=[] by simp [remO])]
  refine condK_f (nilckK_s ?_)
  have hd:=h2 o r rfl
  have ho:=h1.opk o (by simp)
  have hle:=ho.le
  rw [faK_i,addr0]
  refine ld1K_i h1.c0 ?_
  obtain ⟨a,c,rfl,_⟩:=h1.rd.shape
  obtain ⟨p,q,rfl,hSp,hq,hc,hop⟩:=h1.rd.get (i:=0) (by simp)
  refine ixK_n (j:=0) (by simp) ?_
  refine ldnK_i hq (fun j u hu=>by rw [Addr.add_add];exact hc j u hu) ?_
  refine newst_n hq rfl hop.one fun b5 w7 hb5 hz7 g7 hc7 hl7=>?_
  have hbw:b < w1.heap.size:=Nat.lt_of_lt_of_le hbW g1.size
  have h7:=h1.grow g7
  refine callK_mono (rleft_ok h7 (by omega)) ?_
  rintro _ w8 ⟨rfl,g8⟩
  have h8:=h7.grow g8
  have z7:=g7.size
  have z8:=g8.size
  have hop8:RDop D w8 q o:=hop.mod (g7.trans g8) (fun _ _ _ h=>h) fun _ _ h=>h
  have hc8:∀ j v,q[j]?=some v→w8.cell? ⟨b5,j,none⟩=some v:=fun j v hv=>by have:=g8.cell (hc7 j v hv) fun h=>h;rwa [addr0] at this
  have hl8:∀ j,j < q.length→Live w8 ⟨b5,j,none⟩:=fun j hj=>by have:=(hl7 j hj).mod g8 fun h=>h;rwa [addr0] at this
  rw [minK_i]
  obtain ⟨k,hk⟩:∃ k:Nat,k=min n (lenN o - d):=⟨_,rfl⟩
  have ek:(if ((lenN o - d:Nat):Int) < (n:Int) then ((lenN o - d:Nat):Int) else (n:Int))=(k:Int):=by split <;> omega
  rw [ek]
  refine JoinK_i (fun _ W4=>∃ r',RDop D W4 r' (headO k (restO d o))∧(∀ j v,r'[j]?=some v→W4.cell? ((⟨b5,0,none⟩:Addr).add j)=some v)∧Mod (fun y=>y=b5) w8 W4) ?_ ?_
  ·rintro _ W4 ⟨r',hr',hcr,m4⟩ _
   have z4:=m4.size
   have l4:∀ j,j < 5→Live W4 ((⟨b4,0,none⟩:Addr).add j):=fun j hj=>((((hl1 j hj).mod g7 fun h=>h).mod g8 fun h=>h).mod m4 (by rw [add_block];show ¬ b4=b5;omega))
   have hr1:=hr'.one
   have hr5:r'.length=5:=by obtain ⟨_,_,_,rfl,_⟩:=hr';rfl
   have e1:W4.cell? ⟨b,0,none⟩=some (.slice (some p) (o :: r).length c):=m4.cell h8.c0 (by show ¬ b=b5;omega)
   have e2:W4.cell? ⟨b,1,none⟩=some (.int .i64 d):=m4.cell h8.c1 (by show ¬ b=b5;omega)
   have e3:∀ j,j < 2→Live W4 ⟨b,j,none⟩:=fun j hj=>(h8.live j hj).mod m4 (by show ¬ b=b5;omega)
   have hrd4:RDops S D W4 (.slice (some p) (o :: r).length c) (o :: r):=RDops.mod h8.rd m4 (fun y _ hy e=>by have:=h1.lt y (.inl hy);omega) fun y _ hy e=>by have:=h1.lt y (.inr hy);omega
   have g18:Grow W w8:=(g1.trans g7).trans g8
   have hrW:rank W b=(o :: r).length * 2147483648 - d:=by rw [←h1.rank,h.rank_mod g1 fun h=>h]
   have fin:∀ W6,Mod (fun y=>y=b) W4 W6→RdI S D W6 b (behind k (remO (o :: r) d))→rank W6 b < rank W b→ldnK 5 (.pointer (some ⟨b5,0,none⟩)) (fun t61 w18=>stnK 5 (.pointer (some ⟨b4,0,none⟩)) t61 (fun w19=>ldnK 5 (.pointer (some ⟨b4,0,none⟩)) (fun r0 w20=>
     ∃ r' o' u',r0=.agg r'.toArray∧RDop D w20 r' o'∧RdI S D w20 b u'∧Mod (fun y=>y=b) W w20∧
      ((remO (o :: r) d=[]∧o'=⟨1,n,[],[],[]⟩∧u'=[]∧rank w20 b=rank W b)∨∃ o1 u1,remO (o :: r) d=o1 :: u1∧o'=headO (min n (lenN o1)) o1∧u'=behind (min n (lenN o1)) (remO (o :: r) d)∧rank w20 b < rank W b)) w19) w18) W6:=by
    intro W6 m6 hI6 hrk
    have z6:=m6.size
    refine ldnK_i hr5 (fun j v hv=>m6.cell (hcr j v hv) (by rw [add_block];show ¬ b5=b;omega)) ?_
    refine stn_over hr5 hr1 (fun j hj=>(l4 j hj).mod m6 (by rw [add_block];show ¬ b4=b;omega)) fun W7 m7 hc7 _=>?_
    refine ldnK_i hr5 hc7 ?_
    have mW:Mod (fun y=>y=b) W W7:=(((g18.mono fun _ _ e=>e.elim:Mod (fun y=>y=b) W w8).next m4 fun y hy e=>by omega).trans m6).next m7 fun y hy e=>by omega
    have hr6:RDop D W7 r' (headO k (restO d o)):=(hr'.mod m6 (fun y _ hy e=>by have:=h1.lt y (.inr hy);omega) fun _ _ h=>h).mod m7 (fun y _ hy e=>by have:=h1.lt y (.inr hy);omega) fun _ _ h=>h
    have hI7:=hI6.mod m7 (by show ¬ b=b4;omega) (fun y hy e=>by have:=h1.lt y (.inl hy);omega) fun y hy e=>by have:=h1.lt y (.inr hy);omega
    refine ⟨r',_,_,rfl,hr6,hI7,mW,.inr ⟨restO d o,r,rfl,?_,?_,?_⟩⟩
    ·rw [restO_len (by omega),←hk]
    ·rw [restO_len (by omega),←hk]
    ·rw [hI6.rank_mod m7 (by show ¬ b=b4;omega)];exact hrk
   refine nilckK_s ?_
   rw [faK_i,addr0]
   refine ld1K_i e2 ?_
   rw [addK_i,wrap64 (by omega) (by omega),show (d:Int)+(k:Int)=((d+k:Nat):Int) by omega]
   refine nilckK_s ?_
   rw [faK_i,addr0]
   refine box_store (b:=b) (vs:=[.slice (some p) (o :: r).length c,.int .i64 d]) (q:=1) (fun j v hv=>by
    rcases (show j=0∨j=1 by have:=(List.getElem?_eq_some_iff.1 hv).1;simp at this;omega) with rfl | rfl
    ·cases hv;exact e1
    ·cases hv;exact e2) (fun j hj=>e3 j (by simpa using hj)) (by simp) rfl rfl fun W5 m5 hc5 hl5=>?_
   have hrd5:RDops S D W5 (.slice (some p) (o :: r).length c) (o :: r):=RDops.mod hrd4 m5 (fun y _ hy e=>by have:=h1.lt y (.inl hy);omega) fun y _ hy e=>by have:=h1.lt y (.inr hy);omega
   have h5:RdR S D W5 b (.slice (some p) (o :: r).length c) (o :: r) (d+k):=⟨hc5 0 _ rfl,hc5 1 _ rfl,fun j hj=>hl5 j (by simpa using hj),hrd5,h1.lt,h1.opk⟩
   refine callK_mono (rleft_ok h5 (by omega)) ?_
   rintro _ W6 ⟨rfl,g6⟩
   have h6:=h5.grow g6
   have hl6:∀ j,j < 2→Live W6 ⟨b,j,none⟩:=h6.live
   rw [eqK_i]
   have m46:Mod (fun y=>y=b) W4 W6:=m5.next g6 fun _ _ e=>e.elim
   refine condK_p (fun hz=>?_) fun hnz=>?_
   ·refine nilckK_s ?_
    rw [faK_i,addr0]
    refine ld1K_i h6.c0 ?_
    refine slice_lo (j:=1) (e:=39) (k:=5) (i:=Tryz.t39) (by kernel_rfl) (by kernel_rfl) (by kernel_rfl) h6.rd (by simp) fun v' hv'=>?_
    have hv1:v'.oneCell'=true∧v'.cells=#[v']:=by obtain ⟨a',c',rfl,_⟩:=hv'.shape;exact ⟨rfl,rfl⟩
    refine nilckK_s ?_
    rw [faK_i,addr0]
    refine box_store (b:=b) (vs:=[.slice (some p) (o :: r).length c,.int .i64 ((d+k:Nat):Int)]) (q:=0) (fun j v hv=>by
     rcases (show j=0∨j=1 by have:=(List.getElem?_eq_some_iff.1 hv).1;simp at this;omega) with rfl | rfl
     ·cases hv;exact h6.c0
     ·cases hv;exact h6.c1) (fun j hj=>hl6 j (by simpa using hj)) (by simp) hv1.1 hv1.2 fun W7 m7 hc7 hl7=>?_
    refine nilckK_s ?_
    rw [faK_i,addr0]
    refine box_store (b:=b) (vs:=[v',.int .i64 ((d+k:Nat):Int)]) (q:=1) (fun j v hv=>hc7 j v hv) (fun j hj=>hl7 j hj) (by simp) rfl rfl fun W8 m8 hc8' hl8'=>?_
    have hI8:RdR S D W8 b v' r 0:=⟨hc8' 0 _ rfl,hc8' 1 _ rfl,fun j hj=>hl8' j (by simpa using hj),RDops.mod hv' (m7.trans m8) (fun y _ hy e=>by have:=h1.lt y (.inl hy);omega) fun y _ hy e=>by have:=h1.lt y (.inr hy);omega,h1.lt,fun u hu=>h1.opk u (by simp [hu])⟩
    refine fin W8 ((m46.trans m7).trans m8) ⟨v',r,0,⟨hc8' 0 _ rfl,hc8' 1 _ rfl,fun j hj=>hl8' j (by simpa using hj),?_,h1.lt,fun u hu=>h1.opk u (by simp [hu])⟩,fun o' r' e=>by have:=(h1.opk o' (by rw [e];simp)).pos;omega,?_⟩ (by rw [hI8.rank,hrW];simp only [List.length_cons];omega)
    ·exact RDops.mod hv' (m7.trans m8) (fun y _ hy e=>by have:=h1.lt y (.inl hy);omega) fun y _ hy e=>by have:=h1.lt y (.inr hy);omega
    ·simp only [remO,behind]
     rw [restO_len (by omega),if_neg (by omega)]
     cases r with
     | nil=>rfl
     | cons o' r'=>simp only [restO_0]
   ·refine fin W6 m46 ⟨_,_,d+k,h6,fun o' r' e=>by cases e;omega,?_⟩ (by rw [h6.rank,hrW];simp only [List.length_cons];omega)
    simp only [remO,behind]
    rw [restO_len (by omega),if_pos (by omega),restO_restO]
  ·obtain ⟨rv,sv',pv,rfl,q1,q2,q3⟩:=hop8
   obtain ⟨ra,rc,rfl,hrm⟩:=q1.shape
   rw [faK_i,addr0]
   refine ld1K_i (hc8 0 _ rfl) ?_
   rw [eqK_i]
   refine condK_p (fun k2=>?_) fun k2=>?_
   ·have hlo:lenN o=o.runes.length:=by simp [lenN,k2]
    have gd:Grow w8 w8.drew:=Mod.drew _ _
    have h8d:=h8.grow gd
    refine drawC_i (fun q y=>q=14∧y=b5) ?_
    rw [faK_i,addr0]
    refine sld1_i ⟨gd.cell (hc8 2 _ rfl) fun h=>h,fun j hj e=>absurd hj (by rw [e.1];decide)⟩ ?_
    refine nilckK_s ?_
    rw [faK_i,addr0]
    refine sld1_i ⟨h8d.c1,fun j hj e=>absurd hj (by rw [e.1];decide)⟩ ?_
    refine nilckK_s ?_
    rw [faK_i,addr0]
    refine sld1_i ⟨h8d.c1,fun j hj e=>absurd hj (by rw [e.1];decide)⟩ ?_
    rw [addK_i,wrap64 (by omega) (by omega),show (d:Int)+(k:Int)=((d+k:Nat):Int) by omega]
    refine slice_lh (j:=d) (q:=d+k) (e:=21) (k:=1) (i:=Tryz.t21) (by kernel_rfl) (by kernel_rfl) (by kernel_rfl) (q1.grow gd (by decide) fun _ _ h=>h) (by omega) (by omega) fun v' hv'=>?_
    have hv1:v'.oneCell'=true∧v'.cells=#[v']:=by obtain ⟨a',c',rfl,_⟩:=hv'.shape;exact ⟨rfl,rfl⟩
    refine ⟨Mod.refl _ _,?_⟩
    rw [faK_i,addr0]
    refine box_store (q:=2) (fun j v hv=>gd.cell (hc8 j v hv) fun h=>h) (fun j hj=>(hl8 j hj).mod gd fun h=>h) (by simp) hv1.1 hv1.2 fun W4 m4 hc4 _=>?_
    refine ⟨m4.mono fun y _ e=>⟨rfl,e⟩,?_⟩
    have hD:∀ y,y < w8.drew.heap.size→D y→¬ y=b5:=fun y _ hy e=>by have:=h1.lt y (.inr hy);omega
    refine ⟨_,?_,fun j v hv=>by rw [addr0];exact hc4 j v hv,(gd.mono fun _ _ e=>e.elim:Mod (fun y=>y=b5) w8 w8.drew).trans m4⟩
    rw [headO_rest,if_pos k2]
    refine ⟨v',sv',pv,?_,hv'.mono (fun _ _ h=>h) (fun y hy hd=>m4.same y hy (hD y hy hd)) (by decide) fun _ _ h=>h,(q2.grow gd (by decide) fun _ _ h=>h).mono (fun _ _ h=>h) (fun y hy hd=>m4.same y hy (hD y hy hd)) (by decide) fun _ _ h=>h,(q3.grow gd (by decide) fun _ _ h=>h).mono (fun _ _ h=>h) (fun y hy hd=>m4.same y hy (hD y hy hd)) (by decide) fun _ _ h=>h⟩
    simp [k2]
   ·rw [faK_i,addr0]
    refine box_store (q:=1) (fun j v hv=>hc8 j v hv) (fun j hj=>hl8 j hj) (by simp) rfl rfl fun W4 m4 hc4 _=>?_
    have hD:∀ y,y < w8.heap.size→D y→¬ y=b5:=fun y _ hy e=>by have:=h1.lt y (.inr hy);omega
    refine ⟨_,?_,fun j v hv=>by rw [addr0];exact hc4 j v hv,m4⟩
    rw [headO_rest,if_neg k2]
    refine ⟨_,sv',pv,rfl,q1.mono (fun _ _ h=>h) (fun y hy hd=>m4.same y hy (hD y hy hd)) (by decide) fun _ _ h=>h,q2.mono (fun _ _ h=>h) (fun y hy hd=>m4.same y hy (hD y hy hd)) (by decide) fun _ _ h=>h,q3.mono (fun _ _ h=>h) (fun y hy hd=>m4.same y hy (hD y hy hd)) (by decide) fun _ _ h=>h⟩
end
end Go.Proofs.YtlbaopamhkmepaaGreatDoor

namespace Go.Proofs.YtlbaopamhkmepaaGreatDoor
open Go Go.K
def S15 (v0 v1:Value) (K:Cont) (w:World):Prop:=
 JoinK (fun _vs w1=>∀ _h:Env,
 buildK [(0,1),(1,1),(2,1),(3,1),(4,1),(5,1),(6,1)] [(.pointer none),(.int .i64 0),(.bool false),(.slice none 0 0),(.slice none 0 0),(.bool false),(.slice none 0 0)] [(0,v0),(1,v1),(2,(.bool true))] fun t14=>
 boxnK 67 t14 (fun t15 w2=>
 K (.tuple #[t15,(.int .i64 0)]) w2) w1) (fun J=>
 ltK .i64 v1 (.int .i64 0) fun t7=>
 condK t7
 (K (.tuple #[(.pointer none),(.int .i64 2)]) w)
 (gtK .i64 v1 (.int .i64 65536) fun t10=>
 condK t10
 (K (.tuple #[(.pointer none),(.int .i64 2)]) w)
 (J [] w)))
theorem S15_eq (v0 v1:Value) (K:Cont) (w:World):S15 v0 v1 K w=D Tryz.prog okf 16 (bodyOf Tryz.f15) (.node [] [] .nil (.cut [] [(4,11)] (.node [] [] .nil (.node [] [] (.node [] [] .nil .nil) .nil)) (.node [] [] .nil .nil))) (retK Tryz.prog [.tmp 4,.tmp 5] K) (nth [v0,v1]) w:=by kernel_rfl
theorem S15_ok {v0 v1:Value} {K:Cont} {w:World} (h:S15 v0 v1 K w):callK Tryz.prog 15 [v0,v1] K w:=
 callK_of (P:=Tryz.prog) (ok:=okf) (n:=16) (fn:=Tryz.f15) (c:=bodyOf Tryz.f15) (rs:=[.tmp 4,.tmp 5]) (an:=(.node [] [] .nil (.cut [] [(4,11)] (.node [] [] .nil (.node [] [] (.node [] [] .nil .nil) .nil)) (.node [] [] .nil .nil)))) good mixed Tryz.func15 (by kernel_rfl) (by kernel_rfl) (by kernel_rfl) (by kernel_rfl) (Eq.mp (S15_eq v0 v1 K w) h)

def S48 (v0:Value) (K:Cont) (w:World):Prop:=
 pnilK v0 fun b4=>
 condK (.bool (!b4))
 (nilckK v0 fun t7=>
 faK 2 t7 fun t8=>
 ld1K t8 (fun t9 w1=>
 K t9 w1) w)
 (K (.bool false) w)
theorem S48_eq (v0:Value) (K:Cont) (w:World):S48 v0 K w=D Tryz.prog okf 11 (bodyOf Tryz.f48) (.node [] [] .nil (.node [] [] .nil .nil)) (retK Tryz.prog [.tmp 2] K) (nth [v0]) w:=by kernel_rfl
theorem S48_ok {v0:Value} {K:Cont} {w:World} (h:S48 v0 K w):callK Tryz.prog 48 [v0] K w:=
 callK_of (P:=Tryz.prog) (ok:=okf) (n:=11) (fn:=Tryz.f48) (c:=bodyOf Tryz.f48) (rs:=[.tmp 2]) (an:=(.node [] [] .nil (.node [] [] .nil .nil))) good mixed Tryz.func48 (by kernel_rfl) (by kernel_rfl) (by kernel_rfl) (by kernel_rfl) (Eq.mp (S48_eq v0 K w) h)

def S51 (v0 v1:Value) (K:Cont) (w:World):Prop:=
 boxnK 95 v1 (fun t3 w1=>
 DrawC [6,7,10] [[],[],[1],[1,2],[1,2,3],[],[5],[1,2,3,4,5,6],[0,1,2,3,4,5,6,7],[0,1,2,3,4,5,6,7,8],[0,1,2,3,4,5,6,7,8,9]] w1.drew (fun M St=>
 nilckK v0 fun t7=>
 faK 3 t7 fun t8=>
 sld1 (St 4) t8 fun t9=>
 sldn (St 5) 2 t3 fun t10=>
 rowK 95 2 1 [(.slice none 0 0),(.slice none 0 0)] [(0,t10)] (fun t11 w2=>
 Mod (M 6) w1.drew w2∧
 runK Tryz.prog (Builtin.append_ #[65,65] 65 [t9,t11].toArray) (fun t12 w3=>
 Mod (M 7) w2 w3∧
 nilckK v0 fun t13=>
 faK 3 t13 fun t14=>
 st1K t14 t12 (fun w4=>
 Mod (M 10) w3 w4∧
 DrawK w4 (fun C=>
 nilckK v0 fun t16=>
 faK 3 t16 fun t17=>
 qld1K C t17 fun t18=>
 lenK t18 fun t19=>
 nilckK v0 fun t21=>
 faK 1 t21 fun t22=>
 qld1K C t22 fun t23=>
 subK .i64 t19 t23 fun t24=>
 ∀ w5:World,C w5→
 gtK .i64 t24 (.int .i64 0) fun t26=>
 condK t26
 (nilckK v0 fun t28=>
 faK 3 t28 fun t29=>
 ld1K t29 (fun t30 w6=>
 runK Tryz.prog (Instr.sliceAt 65 t30 none (some t24) none) (fun t32 w7=>
 runK Tryz.prog (Builtin.clear_ #[65] 0 [t32].toArray) (fun _u w8=>
 DrawC [16,19] [[],[],[1],[1,2],[1,2,3],[],[],[6],[6,7],[6,7,8],[6,7,8,9],[],[11],[11,12],[11,12,13],[11,12,13,14],[1,2,3,4,5,6,7,8,9,10,11,12,13,14,15],[0,1,2,3,4,5,6,7,8,9,10,11,12,13,14,15,16],[0,1,2,3,4,5,6,7,8,9,10,11,12,13,14,15,16,17],[0,1,2,3,4,5,6,7,8,9,10,11,12,13,14,15,16,17,18]] w8.drew (fun M_1 St_1=>
 nilckK v0 fun t35=>
 faK 3 t35 fun t36=>
 sld1 (St_1 4) t36 fun t37=>
 nilckK v0 fun t40=>
 faK 3 t40 fun t41=>
 sld1 (St_1 9) t41 fun t42=>
 lenK t42 fun t43=>
 nilckK v0 fun t45=>
 faK 3 t45 fun t46=>
 sld1 (St_1 14) t46 fun t47=>
 lenK t47 fun t48=>
 runK Tryz.prog (Instr.sliceAt 65 t37 (some t24) (some t43) (some t48)) (fun t49 w9=>
 Mod (M_1 16) w8.drew w9∧
 nilckK v0 fun t50=>
 faK 3 t50 fun t51=>
 st1K t51 t49 (fun w10=>
 Mod (M_1 19) w9 w10∧
 K (.tuple #[]) w10) w9) w8.drew)) w7) w6) w5)
 (K (.tuple #[]) w5))) w3) w2) w1.drew)) w
theorem S51_eq (v0 v1:Value) (K:Cont) (w:World):S51 v0 v1 K w=D Tryz.prog okf 52 (bodyOf Tryz.f51) (.node [] [] .nil (.node [] [] (.dc [6,7,10] [[],[],[1],[1,2],[1,2,3],[],[5],[1,2,3,4,5,6],[0,1,2,3,4,5,6,7],[0,1,2,3,4,5,6,7,8],[0,1,2,3,4,5,6,7,8,9]] [[6,7]]) (.node [] [] .draw (.node [] [] .nil (.node [] [] (.node [] [] .nil (.dc [16,19] [[],[],[1],[1,2],[1,2,3],[],[],[6],[6,7],[6,7,8],[6,7,8,9],[],[11],[11,12],[11,12,13],[11,12,13,14],[1,2,3,4,5,6,7,8,9,10,11,12,13,14,15],[0,1,2,3,4,5,6,7,8,9,10,11,12,13,14,15,16],[0,1,2,3,4,5,6,7,8,9,10,11,12,13,14,15,16,17],[0,1,2,3,4,5,6,7,8,9,10,11,12,13,14,15,16,17,18]] [[16]])) .nil))))) (retK Tryz.prog [] K) (nth [v0,v1]) w:=by kernel_rfl
theorem S51_ok {v0 v1:Value} {K:Cont} {w:World} (h:S51 v0 v1 K w):callK Tryz.prog 51 [v0,v1] K w:=
 callK_of (P:=Tryz.prog) (ok:=okf) (n:=52) (fn:=Tryz.f51) (c:=bodyOf Tryz.f51) (rs:=[]) (an:=(.node [] [] .nil (.node [] [] (.dc [6,7,10] [[],[],[1],[1,2],[1,2,3],[],[5],[1,2,3,4,5,6],[0,1,2,3,4,5,6,7],[0,1,2,3,4,5,6,7,8],[0,1,2,3,4,5,6,7,8,9]] [[6,7]]) (.node [] [] .draw (.node [] [] .nil (.node [] [] (.node [] [] .nil (.dc [16,19] [[],[],[1],[1,2],[1,2,3],[],[],[6],[6,7],[6,7,8],[6,7,8,9],[],[11],[11,12],[11,12,13],[11,12,13,14],[1,2,3,4,5,6,7,8,9,10,11,12,13,14,15],[0,1,2,3,4,5,6,7,8,9,10,11,12,13,14,15,16],[0,1,2,3,4,5,6,7,8,9,10,11,12,13,14,15,16,17],[0,1,2,3,4,5,6,7,8,9,10,11,12,13,14,15,16,17,18]] [[16]])) .nil)))))) good mixed Tryz.func51 (by kernel_rfl) (by kernel_rfl) (by kernel_rfl) (by kernel_rfl) (Eq.mp (S51_eq v0 v1 K w) h)

def S50 (v0 v1:Value) (K:Cont) (w:World):Prop:=
 boxnK 95 v1 (fun t3 w1=>
 newK 95 [(.slice none 0 0),(.slice none 0 0)] (fun t4 w2=>
 nilckK v0 fun t10=>
 faK 6 t10 fun t11=>
 ld1K t11 (fun t12 w3=>
 lenK t12 fun t13=>
 eqK .i64 t13 (.int .i64 0) fun t14=>
 condK t14
 (ldnK 2 t3 (fun t15 w4=>
 stnK 2 t4 t15 (fun w5=>
 ldnK 2 t4 (fun r0 w6=>
 K (.tuple #[r0,(.int .i64 0)]) w6) w5) w4) w3)
 (DrawC [13] [[],[0],[0,1],[0,1,2],[],[4],[4,5],[4,5,6],[4,5,6,7],[4,5,6,7,8],[4,5,6,7,8,9],[],[11],[0,1,2,3,4,5,6,7,8,9,10,11,12],[0,1,2,3,4,5,6,7,8,9,10,11,12,13],[0,1,2,3,4,5,6,7,8,9,10,11,12,13,14],[0,1,2,3,4,5,6,7,8,9,10,11,12,13,14],[0,1,2,3,4,5,6,7,8,9,10,11,12,13,14,15],[0,1,2,3,4,5,6,7,8,9,10,11,12,13,14,15,16,17]] w3.drew (fun M St=>
 nilckK v0 fun t18=>
 faK 0 t18 fun t19=>
 sld1 (St 3) t19 fun t20=>
 nilckK v0 fun t22=>
 faK 6 t22 fun t23=>
 sld1 (St 7) t23 fun t24=>
 ixK 2 t24 (.int .i64 0) fun t25=>
 faK 0 t25 fun t26=>
 sld1 (St 10) t26 fun t27=>
 faK 0 t3 fun t28=>
 sld1 (St 12) t28 fun t29=>
 callK Tryz.prog 87 [t20,t27,t29] (fun t30 w7=>
 Mod (M 13) w3.drew w7∧
 extK 0 t30 fun t31=>
 extK 1 t30 fun t32=>
 neK .i64 t32 (.int .i64 0) fun t34=>
 condK t34
 (buildK [(0,1),(1,1)] [(.slice none 0 0),(.slice none 0 0)] [] fun t35=>
 stnK 2 t4 t35 (fun w8=>
 ldnK 2 t4 (fun r0_1 w9=>
 K (.tuple #[r0_1,t32]) w9) w8) w7)
 (DrawC [13] [[],[0],[0,1],[0,1,2],[],[4],[],[6],[6,7],[6,7,8],[6,7,8,9],[6,7,8,9,10],[6,7,8,9,10,11],[0,1,2,3,4,5,6,7,8,9,10,11,12],[0,1,2,3,4,5,6,7,8,9,10,11,12,13],[0,1,2,3,4,5,6,7,8,9,10,11,12,13,14],[0,1,2,3,4,5,6,7,8,9,10,11,12,13,14],[0,1,2,3,4,5,6,7,8,9,10,11,12,13,14,15],[0,1,2,3,4,5,6,7,8,9,10,11,12,13,14,15,16,17]] w7.drew (fun M_1 St_1=>
 nilckK v0 fun t39=>
 faK 0 t39 fun t40=>
 sld1 (St_1 3) t40 fun t41=>
 faK 1 t3 fun t42=>
 sld1 (St_1 5) t42 fun t43=>
 nilckK v0 fun t45=>
 faK 6 t45 fun t46=>
 sld1 (St_1 9) t46 fun t47=>
 ixK 2 t47 (.int .i64 0) fun t48=>
 faK 1 t48 fun t49=>
 sld1 (St_1 12) t49 fun t50=>
 callK Tryz.prog 87 [t41,t43,t50] (fun t51 w10=>
 Mod (M_1 13) w7.drew w10∧
 extK 0 t51 fun t52=>
 extK 1 t51 fun t53=>
 buildK [(0,1),(1,1)] [(.slice none 0 0),(.slice none 0 0)] [(0,t31),(1,t52)] fun t56=>
 stnK 2 t4 t56 (fun w11=>
 ldnK 2 t4 (fun r0_2 w12=>
 K (.tuple #[r0_2,t53]) w12) w11) w10) w7.drew))) w3.drew))) w2) w1) w
theorem S50_eq (v0 v1:Value) (K:Cont) (w:World):S50 v0 v1 K w=D Tryz.prog okf 58 (bodyOf Tryz.f50) (.node [] [] .nil (.node [] [] (.node [] [] .nil (.node [] [] (.node [] [] .nil .nil) .nil)) (.node [] [] (.dc [13] [[],[0],[0,1],[0,1,2],[],[4],[4,5],[4,5,6],[4,5,6,7],[4,5,6,7,8],[4,5,6,7,8,9],[],[11],[0,1,2,3,4,5,6,7,8,9,10,11,12],[0,1,2,3,4,5,6,7,8,9,10,11,12,13],[0,1,2,3,4,5,6,7,8,9,10,11,12,13,14],[0,1,2,3,4,5,6,7,8,9,10,11,12,13,14],[0,1,2,3,4,5,6,7,8,9,10,11,12,13,14,15],[0,1,2,3,4,5,6,7,8,9,10,11,12,13,14,15,16,17]] []) (.node [] [] (.node [] [] .nil (.node [] [] (.node [] [] .nil .nil) .nil)) (.node [] [] (.dc [13] [[],[0],[0,1],[0,1,2],[],[4],[],[6],[6,7],[6,7,8],[6,7,8,9],[6,7,8,9,10],[6,7,8,9,10,11],[0,1,2,3,4,5,6,7,8,9,10,11,12],[0,1,2,3,4,5,6,7,8,9,10,11,12,13],[0,1,2,3,4,5,6,7,8,9,10,11,12,13,14],[0,1,2,3,4,5,6,7,8,9,10,11,12,13,14],[0,1,2,3,4,5,6,7,8,9,10,11,12,13,14,15],[0,1,2,3,4,5,6,7,8,9,10,11,12,13,14,15,16,17]] []) (.node [] [] .nil .nil)))))) (retK Tryz.prog [.cell 4 95,.tmp 5] K) (nth [v0,v1]) w:=by kernel_rfl
theorem S50_ok {v0 v1:Value} {K:Cont} {w:World} (h:S50 v0 v1 K w):callK Tryz.prog 50 [v0,v1] K w:=
 callK_of (P:=Tryz.prog) (ok:=okf) (n:=58) (fn:=Tryz.f50) (c:=bodyOf Tryz.f50) (rs:=[.cell 4 95,.tmp 5]) (an:=(.node [] [] .nil (.node [] [] (.node [] [] .nil (.node [] [] (.node [] [] .nil .nil) .nil)) (.node [] [] (.dc [13] [[],[0],[0,1],[0,1,2],[],[4],[4,5],[4,5,6],[4,5,6,7],[4,5,6,7,8],[4,5,6,7,8,9],[],[11],[0,1,2,3,4,5,6,7,8,9,10,11,12],[0,1,2,3,4,5,6,7,8,9,10,11,12,13],[0,1,2,3,4,5,6,7,8,9,10,11,12,13,14],[0,1,2,3,4,5,6,7,8,9,10,11,12,13,14],[0,1,2,3,4,5,6,7,8,9,10,11,12,13,14,15],[0,1,2,3,4,5,6,7,8,9,10,11,12,13,14,15,16,17]] []) (.node [] [] (.node [] [] .nil (.node [] [] (.node [] [] .nil .nil) .nil)) (.node [] [] (.dc [13] [[],[0],[0,1],[0,1,2],[],[4],[],[6],[6,7],[6,7,8],[6,7,8,9],[6,7,8,9,10],[6,7,8,9,10,11],[0,1,2,3,4,5,6,7,8,9,10,11,12],[0,1,2,3,4,5,6,7,8,9,10,11,12,13],[0,1,2,3,4,5,6,7,8,9,10,11,12,13,14],[0,1,2,3,4,5,6,7,8,9,10,11,12,13,14],[0,1,2,3,4,5,6,7,8,9,10,11,12,13,14,15],[0,1,2,3,4,5,6,7,8,9,10,11,12,13,14,15,16,17]] []) (.node [] [] .nil .nil))))))) good mixed Tryz.func50 (by kernel_rfl) (by kernel_rfl) (by kernel_rfl) (by kernel_rfl) (Eq.mp (S50_eq v0 v1 K w) h)

def S18 (v0 v1 v2:Value) (K:Cont) (w:World):Prop:=
 callK Tryz.prog 48 [v0] (fun t11 w1=>
 notK t11 fun t12=>
 condK t12
 (K (.int .i64 1) w1)
 (callK Tryz.prog 49 [v1] (fun t14 w2=>
 callK Tryz.prog 49 [v2] (fun t16 w3=>
 buildK [(0,1),(1,1)] [(.slice none 0 0),(.slice none 0 0)] [(0,t14),(1,t16)] fun t17=>
 newK 95 [(.slice none 0 0),(.slice none 0 0)] (fun t7 w4=>
 stnK 2 t7 t17 (fun w5=>
 JoinK (fun _vs w6=>∀ _h:Env,
 nilckK v0 fun t40=>
 faK 4 t40 fun t41=>
 st1K t41 (.slice none 0 0) (fun w7=>
 K (.int .i64 0) w7) w6) (fun J=>
 nilckK v0 fun t19=>
 faK 5 t19 fun t20=>
 ld1K t20 (fun t21 w8=>
 condK t21
 (ldnK 2 t7 (fun t24 w9=>
 callK Tryz.prog 50 [v0,t24] (fun t25 w10=>
 extK 0 t25 fun t26=>
 extK 1 t25 fun t27=>
 newK 95 [(.slice none 0 0),(.slice none 0 0)] (fun t8 w11=>
 stnK 2 t8 t26 (fun w12=>
 neK .i64 t27 (.int .i64 0) fun t29=>
 condK t29
 (K t27 w12)
 (ldnK 2 t8 (fun t32 w13=>
 rowK 95 2 1 [(.slice none 0 0),(.slice none 0 0)] [(0,t32)] (fun t33 w14=>
 nilckK v0 fun t34=>
 faK 6 t34 fun t35=>
 st1K t35 t33 (fun w15=>
 J [] w15) w14) w13) w12)) w11) w10) w9) w8)
 (ldnK 2 t7 (fun t37 w16=>
 callK Tryz.prog 51 [v0,t37] (fun _t38 w17=>
 J [] w17) w16) w8)) w5)) w4) w3) w2) w1)) w
theorem S18_eq (v0 v1 v2:Value) (K:Cont) (w:World):S18 v0 v1 v2 K w=D Tryz.prog okf 42 (bodyOf Tryz.f18) (.node [] [] .nil (.node [] [] (.node [] [] .nil (.node [] [] (.node [] [] .nil .nil) .nil)) (.node [] [] .nil (.cut [] [(6,6),(8,9),(18,38)] (.node [] [] .nil (.node [] [] (.node [] [] .nil (.node [] [] (.node [] [] .nil (.node [] [] (.node [] [] .nil .nil) .nil)) .nil)) .nil)) (.node [] [] .nil (.node [] [] .nil .nil)))))) (retK Tryz.prog [.tmp 6] K) (nth [v0,v1,v2]) w:=by kernel_rfl
theorem S18_ok {v0 v1 v2:Value} {K:Cont} {w:World} (h:S18 v0 v1 v2 K w):callK Tryz.prog 18 [v0,v1,v2] K w:=
 callK_of (P:=Tryz.prog) (ok:=okf) (n:=42) (fn:=Tryz.f18) (c:=bodyOf Tryz.f18) (rs:=[.tmp 6]) (an:=(.node [] [] .nil (.node [] [] (.node [] [] .nil (.node [] [] (.node [] [] .nil .nil) .nil)) (.node [] [] .nil (.cut [] [(6,6),(8,9),(18,38)] (.node [] [] .nil (.node [] [] (.node [] [] .nil (.node [] [] (.node [] [] .nil (.node [] [] (.node [] [] .nil .nil) .nil)) .nil)) .nil)) (.node [] [] .nil (.node [] [] .nil .nil))))))) good mixed Tryz.func18 (by kernel_rfl) (by kernel_rfl) (by kernel_rfl) (by kernel_rfl) (Eq.mp (S18_eq v0 v1 v2 K w) h)

def S27 (v0:Value) (K:Cont) (w:World):Prop:=
 callK Tryz.prog 48 [v0] (fun t5 w1=>
 notK t5 fun t6=>
 condK t6
 (K (.int .i64 1) w1)
 (nilckK v0 fun t9=>
 faK 5 t9 fun t10=>
 ld1K t10 (fun t11 w2=>
 condK t11
 (K (.int .i64 9) w2)
 (nilckK v0 fun t14=>
 faK 5 t14 fun t15=>
 st1K t15 (.bool true) (fun w3=>
 nilckK v0 fun t16=>
 faK 6 t16 fun t17=>
 st1K t17 (.slice none 0 0) (fun w4=>
 K (.int .i64 0) w4) w3) w2)) w1)) w
theorem S27_eq (v0:Value) (K:Cont) (w:World):S27 v0 K w=D Tryz.prog okf 18 (bodyOf Tryz.f27) (.node [] [] .nil (.node [] [] (.node [] [] .nil (.node [] [] (.node [] [] .nil .nil) (.node [] [] .nil (.node [] [] (.node [] [] .nil .nil) .nil)))) (.node [] [] .nil (.node [] [] .nil .nil)))) (retK Tryz.prog [.tmp 2] K) (nth [v0]) w:=by kernel_rfl
theorem S27_ok {v0:Value} {K:Cont} {w:World} (h:S27 v0 K w):callK Tryz.prog 27 [v0] K w:=
 callK_of (P:=Tryz.prog) (ok:=okf) (n:=18) (fn:=Tryz.f27) (c:=bodyOf Tryz.f27) (rs:=[.tmp 2]) (an:=(.node [] [] .nil (.node [] [] (.node [] [] .nil (.node [] [] (.node [] [] .nil .nil) (.node [] [] .nil (.node [] [] (.node [] [] .nil .nil) .nil)))) (.node [] [] .nil (.node [] [] .nil .nil))))) good mixed Tryz.func27 (by kernel_rfl) (by kernel_rfl) (by kernel_rfl) (by kernel_rfl) (Eq.mp (S27_eq v0 K w) h)

def S29 (v0:Value) (K:Cont) (w:World):Prop:=
 callK Tryz.prog 48 [v0] (fun t7 w1=>
 notK t7 fun t8=>
 condK t8
 (K (.int .i64 1) w1)
 (nilckK v0 fun t11=>
 faK 5 t11 fun t12=>
 ld1K t12 (fun t13 w2=>
 notK t13 fun t14=>
 condK t14
 (K (.int .i64 9) w2)
 (nilckK v0 fun t16=>
 faK 6 t16 fun t17=>
 ld1K t17 (fun t18 w3=>
 lenK t18 fun t19=>
 LoopK [(.int .i64 0)] (fun vs again w4=>∀ _h:Env,
 ltK .i64 (nth vs 0) t19 fun t21=>
 condK t21
 (ixK 2 t18 (nth vs 0) fun t22=>
 ldnK 2 t22 (fun t23 w5=>
 newK 95 [(.slice none 0 0),(.slice none 0 0)] (fun t4 w6=>
 stnK 2 t4 t23 (fun w7=>
 ldnK 2 t4 (fun t25 w8=>
 callK Tryz.prog 51 [v0,t25] (fun _t26 w9=>
 addK .i64 (nth vs 0) (.int .i64 1) fun t27=>
 again [t27] w9) w8) w7) w6) w5) w4)
 (nilckK v0 fun t30=>
 faK 5 t30 fun t31=>
 st1K t31 (.bool false) (fun w10=>
 nilckK v0 fun t32=>
 faK 6 t32 fun t33=>
 st1K t33 (.slice none 0 0) (fun w11=>
 K (.int .i64 0) w11) w10) w4)) w3) w2)) w1)) w
theorem S29_eq (v0:Value) (K:Cont) (w:World):S29 v0 K w=D Tryz.prog okf 34 (bodyOf Tryz.f29) (.node [] [] .nil (.node [] [] (.node [] [] .nil (.node [] [] (.node [] [] .nil .nil) (.node [] [] .nil (.node [] [] (.node [] [] .nil .nil) .nil)))) (.node [] [] (.node [] [] .nil (.node [20] [(4,4),(20,27)] (.node [] [] .nil (.node [] [] (.node [] [] .nil .nil) (.node [] [] (.node [] [] .nil .nil) .nil))) .nil)) (.node [] [] .nil (.node [] [] .nil .nil))))) (retK Tryz.prog [.tmp 2] K) (nth [v0]) w:=by kernel_rfl
theorem S29_ok {v0:Value} {K:Cont} {w:World} (h:S29 v0 K w):callK Tryz.prog 29 [v0] K w:=
 callK_of (P:=Tryz.prog) (ok:=okf) (n:=34) (fn:=Tryz.f29) (c:=bodyOf Tryz.f29) (rs:=[.tmp 2]) (an:=(.node [] [] .nil (.node [] [] (.node [] [] .nil (.node [] [] (.node [] [] .nil .nil) (.node [] [] .nil (.node [] [] (.node [] [] .nil .nil) .nil)))) (.node [] [] (.node [] [] .nil (.node [20] [(4,4),(20,27)] (.node [] [] .nil (.node [] [] (.node [] [] .nil .nil) (.node [] [] (.node [] [] .nil .nil) .nil))) .nil)) (.node [] [] .nil (.node [] [] .nil .nil)))))) good mixed Tryz.func29 (by kernel_rfl) (by kernel_rfl) (by kernel_rfl) (by kernel_rfl) (Eq.mp (S29_eq v0 K w) h)

def S52 (v0 v1 v2:Value) (K:Cont) (w:World):Prop:=
 newK 95 [(.slice none 0 0),(.slice none 0 0)] (fun t6 w1=>
 nilckK v1 fun t11=>
 ld1K t11 (fun t12 w2=>
 lenK t12 fun t13=>
 subK .i64 t13 (.int .i64 1) fun t14=>
 nilckK v0 fun t17=>
 faK 5 t17 fun t18=>
 ld1K t18 (fun t19 w3=>
 condK t19
 (buildK [(0,1),(1,1)] [(.slice none 0 0),(.slice none 0 0)] [] fun t20=>
 stnK 2 t6 t20 (fun w4=>
 ldnK 2 t6 (fun r0 w5=>
 K (.tuple #[r0,(.int .i64 9)]) w5) w4) w3)
 (ltK .i64 t14 (.int .i64 0) fun t23=>
 condK t23
 (buildK [(0,1),(1,1)] [(.slice none 0 0),(.slice none 0 0)] [] fun t24=>
 stnK 2 t6 t24 (fun w6=>
 ldnK 2 t6 (fun r0_1 w7=>
 K (.tuple #[r0_1,(.int .i64 10)]) w7) w6) w3)
 (nilckK v1 fun t26=>
 ld1K t26 (fun t27 w8=>
 ixK 2 t27 t14 fun t29=>
 ldnK 2 t29 (fun t30 w9=>
 newK 95 [(.slice none 0 0),(.slice none 0 0)] (fun t9 w10=>
 stnK 2 t9 t30 (fun w11=>
 nilckK v1 fun t33=>
 ld1K t33 (fun t34 w12=>
 runK Tryz.prog (Instr.sliceAt 65 t34 none (some t14) none) (fun t36 w13=>
 callK Tryz.prog 88 [t36] (fun t37 w14=>
 nilckK v1 fun t38=>
 st1K t38 t37 (fun w15=>
 DrawC [5,6,8] [[],[],[1],[1,2],[],[4],[1,2,3,4,5],[0,1,2,3,4,5,6],[0,1,2,3,4,5,6,7]] w15.drew (fun M St=>
 nilckK v2 fun t41=>
 sld1 (St 3) t41 fun t42=>
 sldn (St 4) 2 t9 fun t43=>
 rowK 95 2 1 [(.slice none 0 0),(.slice none 0 0)] [(0,t43)] (fun t44 w16=>
 Mod (M 5) w15.drew w16∧
 runK Tryz.prog (Builtin.append_ #[65,65] 65 [t42,t44].toArray) (fun t45 w17=>
 Mod (M 6) w16 w17∧
 nilckK v2 fun t46=>
 st1K t46 t45 (fun w18=>
 Mod (M 8) w17 w18∧
 ldnK 2 t9 (fun t47 w19=>
 stnK 2 t6 t47 (fun w20=>
 ldnK 2 t6 (fun r0_2 w21=>
 K (.tuple #[r0_2,(.int .i64 0)]) w21) w20) w19) w18) w17) w16) w15.drew)) w14) w13) w12) w11) w10) w9) w8) w3))) w2) w1) w
theorem S52_eq (v0 v1 v2:Value) (K:Cont) (w:World):S52 v0 v1 v2 K w=D Tryz.prog okf 48 (bodyOf Tryz.f52) (.node [] [] .nil (.node [] [] .nil (.node [] [] (.node [] [] .nil (.node [] [] (.node [] [] .nil .nil) (.node [] [] .nil (.node [] [] (.node [] [] .nil .nil) .nil)))) (.node [] [] .nil (.node [] [] .nil (.node [] [] (.dc [5,6,8] [[],[],[1],[1,2],[],[4],[1,2,3,4,5],[0,1,2,3,4,5,6],[0,1,2,3,4,5,6,7]] [[5,6]]) (.node [] [] .nil .nil))))))) (retK Tryz.prog [.cell 6 95,.tmp 7] K) (nth [v0,v1,v2]) w:=by kernel_rfl
theorem S52_ok {v0 v1 v2:Value} {K:Cont} {w:World} (h:S52 v0 v1 v2 K w):callK Tryz.prog 52 [v0,v1,v2] K w:=
 callK_of (P:=Tryz.prog) (ok:=okf) (n:=48) (fn:=Tryz.f52) (c:=bodyOf Tryz.f52) (rs:=[.cell 6 95,.tmp 7]) (an:=(.node [] [] .nil (.node [] [] .nil (.node [] [] (.node [] [] .nil (.node [] [] (.node [] [] .nil .nil) (.node [] [] .nil (.node [] [] (.node [] [] .nil .nil) .nil)))) (.node [] [] .nil (.node [] [] .nil (.node [] [] (.dc [5,6,8] [[],[],[1],[1,2],[],[4],[1,2,3,4,5],[0,1,2,3,4,5,6],[0,1,2,3,4,5,6,7]] [[5,6]]) (.node [] [] .nil .nil)))))))) good mixed Tryz.func52 (by kernel_rfl) (by kernel_rfl) (by kernel_rfl) (by kernel_rfl) (Eq.mp (S52_eq v0 v1 v2 K w) h)

def S19 (v0:Value) (K:Cont) (w:World):Prop:=
 callK Tryz.prog 48 [v0] (fun t7 w1=>
 notK t7 fun t8=>
 condK t8
 (K (.tuple #[(.slice none 0 0),(.int .i64 1)]) w1)
 (JoinK (fun vs w2=>∀ _h:Env,
 faK 1 (nth vs 0) fun t20=>
 ld1K t20 (fun t21 w3=>
 callK Tryz.prog 49 [t21] (fun t22 w4=>
 K (.tuple #[t22,(nth vs 1)]) w4) w3) w2) (fun J=>
 DrawC [7,11,12] [[],[],[1],[1,2],[],[4],[4,5],[0,1,2,3,4,5,6],[0,1,2,3,4,5,6,7],[0,1,2,3,4,5,6,7,8],[0,1,2,3,4,5,6,7,8],[],[0,1,2,3,4,5,6,7,8,9,11],[0,1,2,3,4,5,6,7,8,9,10,11,12]] w1.drew (fun M _St=>
 nilckK v0 fun t12=>
 faK 3 t12 fun t13=>
 nilckK v0 fun t15=>
 faK 4 t15 fun t16=>
 (callK Tryz.prog 52 [v0,t13,t16] (fun t17 w5=>
 Mod (M 7) w1.drew w5∧
 extK 0 t17 fun t18=>
 extK 1 t17 fun t19=>
 newK 95 [(.slice none 0 0),(.slice none 0 0)] (fun t4 w6=>
 Mod (M 11) w5 w6∧
 stnK 2 t4 t18 (fun w7=>
 Mod (M 12) w6 w7∧
 J [t4,t19] w7) w6) w5) w1.drew)∧
 (newK 95 [(.slice none 0 0),(.slice none 0 0)] (fun t4_1 w8=>
 Mod (M 11) w1.drew w8∧
 callK Tryz.prog 52 [v0,t13,t16] (fun t17_1 w9=>
 Mod (M 7) w8 w9∧
 extK 0 t17_1 fun t18_1=>
 extK 1 t17_1 fun t19_1=>
 stnK 2 t4_1 t18_1 (fun w10=>
 Mod (M 12) w9 w10∧
 J [t4_1,t19_1] w10) w9) w8) w1.drew))))) w
theorem S19_eq (v0:Value) (K:Cont) (w:World):S19 v0 K w=D Tryz.prog okf 24 (bodyOf Tryz.f19) (.node [] [] .nil (.node [] [] (.node [] [] .nil (.node [] [] (.node [] [] .nil .nil) .nil)) (.cut [4,5] [(4,5),(9,19)] (.dt [7,11,12] [[],[],[1],[1,2],[],[4],[4,5],[0,1,2,3,4,5,6],[0,1,2,3,4,5,6,7],[0,1,2,3,4,5,6,7,8],[0,1,2,3,4,5,6,7,8],[],[0,1,2,3,4,5,6,7,8,9,11],[0,1,2,3,4,5,6,7,8,9,10,11,12]] [[7]] (.op 0 (.op 1 (.op 2 (.op 3 (.op 4 (.op 5 (.op 6 (.br (.op 7 (.op 8 (.op 9 (.op 10 (.op 11 (.op 12 (.op 13 .nil))))))) (.op 11 (.op 7 (.op 8 (.op 9 (.op 10 (.op 12 (.op 13 .nil)))))))))))))))) (.node [] [] .nil .nil)))) (retK Tryz.prog [.tmp 2,.tmp 3] K) (nth [v0]) w:=by kernel_rfl
theorem S19_ok {v0:Value} {K:Cont} {w:World} (h:S19 v0 K w):callK Tryz.prog 19 [v0] K w:=
 callK_of (P:=Tryz.prog) (ok:=okf) (n:=24) (fn:=Tryz.f19) (c:=bodyOf Tryz.f19) (rs:=[.tmp 2,.tmp 3]) (an:=(.node [] [] .nil (.node [] [] (.node [] [] .nil (.node [] [] (.node [] [] .nil .nil) .nil)) (.cut [4,5] [(4,5),(9,19)] (.dt [7,11,12] [[],[],[1],[1,2],[],[4],[4,5],[0,1,2,3,4,5,6],[0,1,2,3,4,5,6,7],[0,1,2,3,4,5,6,7,8],[0,1,2,3,4,5,6,7,8],[],[0,1,2,3,4,5,6,7,8,9,11],[0,1,2,3,4,5,6,7,8,9,10,11,12]] [[7]] (.op 0 (.op 1 (.op 2 (.op 3 (.op 4 (.op 5 (.op 6 (.br (.op 7 (.op 8 (.op 9 (.op 10 (.op 11 (.op 12 (.op 13 .nil))))))) (.op 11 (.op 7 (.op 8 (.op 9 (.op 10 (.op 12 (.op 13 .nil)))))))))))))))) (.node [] [] .nil .nil))))) good mixed Tryz.func19 (by kernel_rfl) (by kernel_rfl) (by kernel_rfl) (by kernel_rfl) (Eq.mp (S19_eq v0 K w) h)

def S21 (v0:Value) (K:Cont) (w:World):Prop:=
 callK Tryz.prog 48 [v0] (fun t7 w1=>
 notK t7 fun t8=>
 condK t8
 (K (.tuple #[(.slice none 0 0),(.int .i64 1)]) w1)
 (JoinK (fun vs w2=>∀ _h:Env,
 faK 0 (nth vs 0) fun t20=>
 ld1K t20 (fun t21 w3=>
 callK Tryz.prog 49 [t21] (fun t22 w4=>
 K (.tuple #[t22,(nth vs 1)]) w4) w3) w2) (fun J=>
 DrawC [7,11,12] [[],[],[1],[1,2],[],[4],[4,5],[0,1,2,3,4,5,6],[0,1,2,3,4,5,6,7],[0,1,2,3,4,5,6,7,8],[0,1,2,3,4,5,6,7,8],[],[0,1,2,3,4,5,6,7,8,9,11],[0,1,2,3,4,5,6,7,8,9,10,11,12]] w1.drew (fun M _St=>
 nilckK v0 fun t12=>
 faK 4 t12 fun t13=>
 nilckK v0 fun t15=>
 faK 3 t15 fun t16=>
 (callK Tryz.prog 52 [v0,t13,t16] (fun t17 w5=>
 Mod (M 7) w1.drew w5∧
 extK 0 t17 fun t18=>
 extK 1 t17 fun t19=>
 newK 95 [(.slice none 0 0),(.slice none 0 0)] (fun t4 w6=>
 Mod (M 11) w5 w6∧
 stnK 2 t4 t18 (fun w7=>
 Mod (M 12) w6 w7∧
 J [t4,t19] w7) w6) w5) w1.drew)∧
 (newK 95 [(.slice none 0 0),(.slice none 0 0)] (fun t4_1 w8=>
 Mod (M 11) w1.drew w8∧
 callK Tryz.prog 52 [v0,t13,t16] (fun t17_1 w9=>
 Mod (M 7) w8 w9∧
 extK 0 t17_1 fun t18_1=>
 extK 1 t17_1 fun t19_1=>
 stnK 2 t4_1 t18_1 (fun w10=>
 Mod (M 12) w9 w10∧
 J [t4_1,t19_1] w10) w9) w8) w1.drew))))) w
theorem S21_eq (v0:Value) (K:Cont) (w:World):S21 v0 K w=D Tryz.prog okf 24 (bodyOf Tryz.f21) (.node [] [] .nil (.node [] [] (.node [] [] .nil (.node [] [] (.node [] [] .nil .nil) .nil)) (.cut [4,5] [(4,5),(9,19)] (.dt [7,11,12] [[],[],[1],[1,2],[],[4],[4,5],[0,1,2,3,4,5,6],[0,1,2,3,4,5,6,7],[0,1,2,3,4,5,6,7,8],[0,1,2,3,4,5,6,7,8],[],[0,1,2,3,4,5,6,7,8,9,11],[0,1,2,3,4,5,6,7,8,9,10,11,12]] [[7]] (.op 0 (.op 1 (.op 2 (.op 3 (.op 4 (.op 5 (.op 6 (.br (.op 7 (.op 8 (.op 9 (.op 10 (.op 11 (.op 12 (.op 13 .nil))))))) (.op 11 (.op 7 (.op 8 (.op 9 (.op 10 (.op 12 (.op 13 .nil)))))))))))))))) (.node [] [] .nil .nil)))) (retK Tryz.prog [.tmp 2,.tmp 3] K) (nth [v0]) w:=by kernel_rfl
theorem S21_ok {v0:Value} {K:Cont} {w:World} (h:S21 v0 K w):callK Tryz.prog 21 [v0] K w:=
 callK_of (P:=Tryz.prog) (ok:=okf) (n:=24) (fn:=Tryz.f21) (c:=bodyOf Tryz.f21) (rs:=[.tmp 2,.tmp 3]) (an:=(.node [] [] .nil (.node [] [] (.node [] [] .nil (.node [] [] (.node [] [] .nil .nil) .nil)) (.cut [4,5] [(4,5),(9,19)] (.dt [7,11,12] [[],[],[1],[1,2],[],[4],[4,5],[0,1,2,3,4,5,6],[0,1,2,3,4,5,6,7],[0,1,2,3,4,5,6,7,8],[0,1,2,3,4,5,6,7,8],[],[0,1,2,3,4,5,6,7,8,9,11],[0,1,2,3,4,5,6,7,8,9,10,11,12]] [[7]] (.op 0 (.op 1 (.op 2 (.op 3 (.op 4 (.op 5 (.op 6 (.br (.op 7 (.op 8 (.op 9 (.op 10 (.op 11 (.op 12 (.op 13 .nil))))))) (.op 11 (.op 7 (.op 8 (.op 9 (.op 10 (.op 12 (.op 13 .nil)))))))))))))))) (.node [] [] .nil .nil))))) good mixed Tryz.func21 (by kernel_rfl) (by kernel_rfl) (by kernel_rfl) (by kernel_rfl) (Eq.mp (S21_eq v0 K w) h)

def S33 (v0:Value) (K:Cont) (w:World):Prop:=
 callK Tryz.prog 48 [v0] (fun t4 w1=>
 condK t4
 (nilckK v0 fun t7=>
 faK 5 t7 fun t8=>
 ld1K t8 (fun t9 w2=>
 K t9 w2) w1)
 (K (.bool false) w1)) w
theorem S33_eq (v0:Value) (K:Cont) (w:World):S33 v0 K w=D Tryz.prog okf 11 (bodyOf Tryz.f33) (.node [] [] .nil (.node [] [] .nil .nil)) (retK Tryz.prog [.tmp 2] K) (nth [v0]) w:=by kernel_rfl
theorem S33_ok {v0:Value} {K:Cont} {w:World} (h:S33 v0 K w):callK Tryz.prog 33 [v0] K w:=
 callK_of (P:=Tryz.prog) (ok:=okf) (n:=11) (fn:=Tryz.f33) (c:=bodyOf Tryz.f33) (rs:=[.tmp 2]) (an:=(.node [] [] .nil (.node [] [] .nil .nil))) good mixed Tryz.func33 (by kernel_rfl) (by kernel_rfl) (by kernel_rfl) (by kernel_rfl) (Eq.mp (S33_eq v0 K w) h)

def S20 (v0:Value) (K:Cont) (w:World):Prop:=
 callK Tryz.prog 48 [v0] (fun t5 w1=>
 notK t5 fun t6=>
 condK t6
 (K (.tuple #[(.int .i64 0),(.int .i64 0)]) w1)
 (DrawK w1 (fun C=>
 nilckK v0 fun t8=>
 faK 3 t8 fun t9=>
 qld1K C t9 fun t10=>
 lenK t10 fun t11=>
 nilckK v0 fun t13=>
 faK 4 t13 fun t14=>
 qld1K C t14 fun t15=>
 lenK t15 fun t16=>
 ∀ w2:World,C w2→
 K (.tuple #[t11,t16]) w2))) w
theorem S20_eq (v0:Value) (K:Cont) (w:World):S20 v0 K w=D Tryz.prog okf 17 (bodyOf Tryz.f20) (.node [] [] .nil (.node [] [] (.node [] [] .nil (.node [] [] (.node [] [] .nil .nil) .nil)) (.node [] [] .draw .nil))) (retK Tryz.prog [.tmp 2,.tmp 3] K) (nth [v0]) w:=by kernel_rfl
theorem S20_ok {v0:Value} {K:Cont} {w:World} (h:S20 v0 K w):callK Tryz.prog 20 [v0] K w:=
 callK_of (P:=Tryz.prog) (ok:=okf) (n:=17) (fn:=Tryz.f20) (c:=bodyOf Tryz.f20) (rs:=[.tmp 2,.tmp 3]) (an:=(.node [] [] .nil (.node [] [] (.node [] [] .nil (.node [] [] (.node [] [] .nil .nil) .nil)) (.node [] [] .draw .nil)))) good mixed Tryz.func20 (by kernel_rfl) (by kernel_rfl) (by kernel_rfl) (by kernel_rfl) (Eq.mp (S20_eq v0 K w) h)

def S88 (v0:Value) (K:Cont) (w:World):Prop:=
 snilK v0 fun b4=>
 condK (.bool b4)
 (K (.slice none 0 0) w)
 (rowK 95 2 0 [] [] (fun t5 w1=>
 runK Tryz.prog (Builtin.append_ #[65,65] 65 [t5,v0].toArray) (fun t7 w2=>
 K t7 w2) w1) w)
theorem S88_eq (v0:Value) (K:Cont) (w:World):S88 v0 K w=D Tryz.prog okf 8 (bodyOf Tryz.f88) (.node [] [] .nil (.node [] [] (.node [] [] .nil (.node [] [] (.node [] [] .nil .nil) .nil)) (.node [] [] .nil .nil))) (retK Tryz.prog [.tmp 2] K) (nth [v0]) w:=by kernel_rfl
theorem S88_ok {v0:Value} {K:Cont} {w:World} (h:S88 v0 K w):callK Tryz.prog 88 [v0] K w:=
 callK_of (P:=Tryz.prog) (ok:=okf) (n:=8) (fn:=Tryz.f88) (c:=bodyOf Tryz.f88) (rs:=[.tmp 2]) (an:=(.node [] [] .nil (.node [] [] (.node [] [] .nil (.node [] [] (.node [] [] .nil .nil) .nil)) (.node [] [] .nil .nil)))) good mixed Tryz.func88 (by kernel_rfl) (by kernel_rfl) (by kernel_rfl) (by kernel_rfl) (Eq.mp (S88_eq v0 K w) h)

def S17 (v0:Value) (K:Cont) (w:World):Prop:=
 rowK 21 1 1 [(.int .i32 0)] [(0,v0)] (fun t5 w1=>
 buildK [(0,1),(1,1),(2,1),(3,1),(4,1)] [(.int .u8 0),(.int .i64 0),(.slice none 0 0),(.slice none 0 0),(.slice none 0 0)] [(0,(.int .u8 2)),(2,t5)] fun t6=>
 rowK 39 5 1 [(.int .u8 0),(.int .i64 0),(.slice none 0 0),(.slice none 0 0),(.slice none 0 0)] [(0,t6)] (fun t7 w2=>
 buildK [(0,1),(1,1),(2,1),(3,1),(4,1)] [(.int .u8 0),(.int .i64 0),(.slice none 0 0),(.slice none 0 0),(.slice none 0 0)] [(0,(.int .u8 3)),(1,(.int .i64 1))] fun t8=>
 rowK 39 5 1 [(.int .u8 0),(.int .i64 0),(.slice none 0 0),(.slice none 0 0),(.slice none 0 0)] [(0,t8)] (fun t9 w3=>
 K (.tuple #[t7,t9]) w3) w2) w1) w
theorem S17_eq (v0:Value) (K:Cont) (w:World):S17 v0 K w=D Tryz.prog okf 10 (bodyOf Tryz.f17) (.node [] [] .nil (.node [] [] .nil .nil)) (retK Tryz.prog [.tmp 2,.tmp 3] K) (nth [v0]) w:=by kernel_rfl
theorem S17_ok {v0:Value} {K:Cont} {w:World} (h:S17 v0 K w):callK Tryz.prog 17 [v0] K w:=
 callK_of (P:=Tryz.prog) (ok:=okf) (n:=10) (fn:=Tryz.f17) (c:=bodyOf Tryz.f17) (rs:=[.tmp 2,.tmp 3]) (an:=(.node [] [] .nil (.node [] [] .nil .nil))) good mixed Tryz.func17 (by kernel_rfl) (by kernel_rfl) (by kernel_rfl) (by kernel_rfl) (Eq.mp (S17_eq v0 K w) h)

def S16 (K:Cont) (w:World):Prop:=
 callK Tryz.prog 14 [(.slice none 0 0)] (fun t22 w1=>
 extK 0 t22 fun t23=>
 extK 1 t22 fun t24=>
 callK Tryz.prog 15 [t23,(.int .i64 2)] (fun t27 w2=>
 extK 0 t27 fun t28=>
 extK 1 t27 fun t29=>
 JoinK (fun _vs w3=>∀ _h:Env,
 runK Tryz.prog (Instr.build 93 [(0,(.int .i32 97)),(1,(.int .i32 98)),(2,(.int .i32 99))].toArray) (fun t40 w4=>
 LoopK [(.int .i64 0)] (fun vs_1 again w5=>∀ _h_1:Env,
 ltK .i64 (nth vs_1 0) (.int .i64 3) fun t42=>
 condK t42
 (runK Tryz.prog (Instr.index 93 t40 (nth vs_1 0)) (fun t43 w6=>
 callK Tryz.prog 17 [t43] (fun t46 w7=>
 extK 0 t46 fun t47=>
 extK 1 t46 fun t48=>
 callK Tryz.prog 18 [t28,t47,t48] (fun t52 w8=>
 neK .i64 t52 (.int .i64 0) fun t53=>
 condK t53
 (K (.bool false) w8)
 (addK .i64 (nth vs_1 0) (.int .i64 1) fun t54=>
 again [t54] w8)) w7) w6) w5)
 (callK Tryz.prog 19 [t28] (fun t57 w9=>
 extK 0 t57 fun t58=>
 extK 1 t57 fun t59=>
 callK Tryz.prog 19 [t28] (fun t62 w10=>
 extK 0 t62 fun _t63=>
 extK 1 t62 fun t64=>
 callK Tryz.prog 19 [t28] (fun t67 w11=>
 extK 0 t67 fun _t68=>
 extK 1 t67 fun t69=>
 callK Tryz.prog 21 [t28] (fun t72 w12=>
 extK 0 t72 fun t73=>
 extK 1 t72 fun t74=>
 callK Tryz.prog 17 [(.int .i32 98)] (fun t76 w13=>
 extK 0 t76 fun t77=>
 extK 1 t76 fun t78=>
 callK Tryz.prog 20 [t28] (fun t81 w14=>
 extK 0 t81 fun t82=>
 extK 1 t81 fun t83=>
 eqK .i64 t59 (.int .i64 0) fun t85=>
 condK t85
 (eqK .i64 t64 (.int .i64 0) fun t88=>
 condK t88
 (eqK .i64 t69 (.int .i64 10) fun t92=>
 condK t92
 (eqK .i64 t74 (.int .i64 0) fun t96=>
 condK t96
 (callK Tryz.prog 22 [t58,t78] (fun t101 w15=>
 condK t101
 (callK Tryz.prog 22 [t73,t77] (fun t106 w16=>
 condK t106
 (eqK .i64 t82 (.int .i64 1) fun t110=>
 condK t110
 (eqK .i64 t83 (.int .i64 1) fun t114=>
 condK t114
 (callK Tryz.prog 18 [t28,t77,t78] (fun t120 w17=>
 eqK .i64 t120 (.int .i64 0) fun t121=>
 condK t121
 (callK Tryz.prog 27 [t28] (fun t125 w18=>
 eqK .i64 t125 (.int .i64 0) fun t126=>
 condK t126
 (callK Tryz.prog 27 [t28] (fun t130 w19=>
 eqK .i64 t130 (.int .i64 9) fun t131=>
 condK t131
 (callK Tryz.prog 33 [t28] (fun t135 w20=>
 K t135 w20) w19)
 (K (.bool false) w19)) w18)
 (K (.bool false) w18)) w17)
 (K (.bool false) w17)) w16)
 (K (.bool false) w16))
 (K (.bool false) w16))
 (K (.bool false) w16)) w15)
 (K (.bool false) w15)) w14)
 (K (.bool false) w14))
 (K (.bool false) w14))
 (K (.bool false) w14))
 (K (.bool false) w14)) w13) w12) w11) w10) w9) w5)) w4) w3) (fun J=>
 neK .i64 t24 (.int .i64 0) fun t31=>
 condK t31
 (K (.bool false) w2)
 (neK .i64 t29 (.int .i64 0) fun t34=>
 condK t34
 (K (.bool false) w2)
 (pnilK t28 fun b38=>
 condK (.bool b38)
 (K (.bool false) w2)
 (J [] w2))))) w1) w
theorem S16_eq (K:Cont) (w:World):S16  K w=D Tryz.prog okf 137 (bodyOf Tryz.f16) (.node [] [] .nil (.node [] [] .nil (.node [] [] .nil (.cut [] [(0,0),(30,39)] (.node [] [] .nil (.node [] [] (.node [] [] .nil .nil) .nil)) (.node [] [] (.node [] [] .nil (.node [41] [(0,0),(6,8),(41,54)] (.node [] [] .nil (.node [] [] (.node [] [] .nil .nil) (.node [] [] (.node [] [] .nil (.node [] [] .nil (.node [] [] .nil (.node [] [] (.node [] [] .nil .nil) .nil)))) .nil))) .nil)) (.node [] [] .nil (.node [] [] .nil (.node [] [] .nil (.node [] [] .nil (.node [] [] .nil (.node [] [] .nil (.node [] [] .nil .nil)))))))))))) (retK Tryz.prog [.tmp 0] K) (nth []) w:=by kernel_rfl
theorem S16_ok {K:Cont} {w:World} (h:S16  K w):callK Tryz.prog 16 [] K w:=
 callK_of (P:=Tryz.prog) (ok:=okf) (n:=137) (fn:=Tryz.f16) (c:=bodyOf Tryz.f16) (rs:=[.tmp 0]) (an:=(.node [] [] .nil (.node [] [] .nil (.node [] [] .nil (.cut [] [(0,0),(30,39)] (.node [] [] .nil (.node [] [] (.node [] [] .nil .nil) .nil)) (.node [] [] (.node [] [] .nil (.node [41] [(0,0),(6,8),(41,54)] (.node [] [] .nil (.node [] [] (.node [] [] .nil .nil) (.node [] [] (.node [] [] .nil (.node [] [] .nil (.node [] [] .nil (.node [] [] (.node [] [] .nil .nil) .nil)))) .nil))) .nil)) (.node [] [] .nil (.node [] [] .nil (.node [] [] .nil (.node [] [] .nil (.node [] [] .nil (.node [] [] .nil (.node [] [] .nil .nil))))))))))))) good mixed Tryz.func16 (by kernel_rfl) (by kernel_rfl) (by kernel_rfl) (by kernel_rfl) (Eq.mp (S16_eq  K w) h)

def S3 (v0 v1:Value) (K:Cont) (w:World):Prop:=
 callK Tryz.prog 14 [(.slice none 0 0)] (fun t31 w1=>
 extK 0 t31 fun t32=>
 extK 1 t31 fun t33=>
 callK Tryz.prog 15 [t32,v0] (fun t37 w2=>
 extK 0 t37 fun t38=>
 extK 1 t37 fun t39=>
 JoinK (fun _vs w3=>∀ _h:Env,
 lenK v1 fun t57=>
 LoopK [(.int .i64 0)] (fun vs_1 again w4=>∀ _h_1:Env,
 ltK .i64 (nth vs_1 0) t57 fun t59=>
 condK t59
 (ixK 1 v1 (nth vs_1 0) fun t60=>
 ld1K t60 (fun t61 w5=>
 runK Tryz.prog (convert 3 34 t61) (fun t64 w6=>
 runK Tryz.prog (binS .rem 34 (.tmp 64) (.const (.int .u64 26)) t64 (.int .u64 26)) (fun t65 w7=>
 addK .u64 (.int .u64 97) t65 fun t66=>
 runK Tryz.prog (convert 34 21 t66) (fun t67 w8=>
 callK Tryz.prog 17 [t67] (fun t68 w9=>
 extK 0 t68 fun t69=>
 extK 1 t68 fun t70=>
 runK Tryz.prog (convert 3 34 t61) (fun t73 w10=>
 runK Tryz.prog (binS .rem 34 (.tmp 73) (.const (.int .u64 9)) t73 (.int .u64 9)) (fun t74 w11=>
 runK Tryz.prog (convert 34 3 t74) (fun t75 w12=>
 addK .i64 (.int .i64 1) t75 fun t76=>
 ixK 5 t70 (.int .i64 0) fun t77=>
 faK 1 t77 fun t78=>
 st1K t78 t76 (fun w13=>
 callK Tryz.prog 18 [t38,t69,t70] (fun t82 w14=>
 neK .i64 t82 (.int .i64 0) fun t83=>
 condK t83
 (K (.bool false) w14)
 (addK .i64 (nth vs_1 0) (.int .i64 1) fun t84=>
 again [t84] w14)) w13) w12) w11) w10) w9) w8) w7) w6) w5) w4)
 (lenK v1 fun t87=>
 minK .i64 v0 t87 fun t88=>
 LoopK [(.int .i64 0)] (fun vs_2 again_1 w15=>∀ _h_2:Env,
 ltK .i64 (nth vs_2 0) (.int .i64 2) fun t90=>
 condK t90
 (LoopK [(.int .i64 0)] (fun vs_3 again_2 w16=>∀ _h_3:Env,
 ltK .i64 (nth vs_3 0) t88 fun t94=>
 condK t94
 (lenK v1 fun t98=>
 subK .i64 t98 (.int .i64 1) fun t99=>
 subK .i64 t99 (nth vs_3 0) fun t101=>
 ixK 1 v1 t101 fun t102=>
 ld1K t102 (fun t103 w17=>
 callK Tryz.prog 19 [t38] (fun t106 w18=>
 extK 0 t106 fun t107=>
 extK 1 t106 fun t108=>
 JoinK (fun _vs_4 w19=>∀ _h_4:Env,
 callK Tryz.prog 20 [t38] (fun t130 w20=>
 extK 0 t130 fun t131=>
 extK 1 t130 fun t132=>
 subK .i64 t88 (.int .i64 1) fun t135=>
 subK .i64 t135 (nth vs_3 0) fun t137=>
 neK .i64 t131 t137 fun t138=>
 condK t138
 (K (.bool false) w20)
 (addK .i64 (nth vs_3 0) (.int .i64 1) fun t142=>
 neK .i64 t132 t142 fun t143=>
 condK t143
 (K (.bool false) w20)
 (addK .i64 (nth vs_3 0) (.int .i64 1) fun t145_1=>
 again_2 [t145_1] w20))) w19) (fun J_1=>
 neK .i64 t108 (.int .i64 0) fun t110=>
 condK t110
 (K (.bool false) w18)
 (lenK t107 fun t113=>
 neK .i64 t113 (.int .i64 1) fun t114=>
 condK t114
 (K (.bool false) w18)
 (ixK 5 t107 (.int .i64 0) fun t118=>
 faK 1 t118 fun t119=>
 ld1K t119 (fun t120 w21=>
 runK Tryz.prog (convert 3 34 t103) (fun t122 w22=>
 runK Tryz.prog (binS .rem 34 (.tmp 122) (.const (.int .u64 9)) t122 (.int .u64 9)) (fun t123 w23=>
 runK Tryz.prog (convert 34 3 t123) (fun t124 w24=>
 addK .i64 (.int .i64 1) t124 fun t125=>
 neK .i64 t120 t125 fun t126=>
 condK t126
 (K (.bool false) w24)
 (J_1 [] w24)) w23) w22) w21) w18)))) w17) w16)
 (callK Tryz.prog 19 [t38] (fun t148 w25=>
 extK 0 t148 fun _t149=>
 extK 1 t148 fun t150=>
 neK .i64 t150 (.int .i64 10) fun t152=>
 condK t152
 (K (.bool false) w25)
 (LoopK [(.int .i64 0)] (fun vs_5 again_3 w26=>∀ _h_5:Env,
 ltK .i64 (nth vs_5 0) t88 fun t155=>
 condK t155
 (lenK v1 fun t160=>
 subK .i64 t160 t88 fun t162=>
 addK .i64 t162 (nth vs_5 0) fun t164=>
 ixK 1 v1 t164 fun t165=>
 ld1K t165 (fun t166 w27=>
 runK Tryz.prog (convert 3 34 t166) (fun t167 w28=>
 runK Tryz.prog (binS .rem 34 (.tmp 167) (.const (.int .u64 26)) t167 (.int .u64 26)) (fun t168 w29=>
 addK .u64 (.int .u64 97) t168 fun t169=>
 runK Tryz.prog (convert 34 21 t169) (fun t170 w30=>
 callK Tryz.prog 17 [t170] (fun t171 w31=>
 extK 0 t171 fun t172=>
 extK 1 t171 fun _t173=>
 callK Tryz.prog 21 [t38] (fun t176 w32=>
 extK 0 t176 fun t177=>
 extK 1 t176 fun t178=>
 neK .i64 t178 (.int .i64 0) fun t180=>
 condK t180
 (K (.bool false) w32)
 (callK Tryz.prog 22 [t177,t172] (fun t184 w33=>
 notK t184 fun t185=>
 condK t185
 (K (.bool false) w33)
 (addK .i64 (nth vs_5 0) (.int .i64 1) fun t187_1=>
 again_3 [t187_1] w33)) w32)) w31) w30) w29) w28) w27) w26)
 (callK Tryz.prog 21 [t38] (fun t190 w34=>
 extK 0 t190 fun _t191=>
 extK 1 t190 fun t192=>
 neK .i64 t192 (.int .i64 10) fun t194=>
 condK t194
 (K (.bool false) w34)
 (gtK .i64 (nth vs_2 0) (.int .i64 1) fun t197=>
 condK t197
 (K (.bool false) w34)
 (addK .i64 (nth vs_2 0) (.int .i64 1) fun t199_1=>
 again_1 [t199_1] w34))) w26)) w25)) w16)) w15)
 (callK Tryz.prog 16 [] (fun t200 w35=>
 K t200 w35) w15)) w4)) w3) (fun J=>
 neK .i64 t33 (.int .i64 0) fun t41=>
 condK t41
 (callK Tryz.prog 16 [] (fun t55 w36=>
 K t55 w36) w2)
 (neK .i64 t39 (.int .i64 0) fun t44=>
 condK t44
 (callK Tryz.prog 16 [] (fun t55_1 w37=>
 K t55_1 w37) w2)
 (pnilK t38 fun b48=>
 condK (.bool b48)
 (callK Tryz.prog 16 [] (fun t55_2 w38=>
 K t55_2 w38) w2)
 (lenK v1 fun t52=>
 gtK .i64 t52 (.int .i64 40) fun t53=>
 condK t53
 (callK Tryz.prog 16 [] (fun t55_3 w39=>
 K t55_3 w39) w2)
 (J [] w2)))))) w1) w
end Go.Proofs.YtlbaopamhkmepaaGreatDoor

namespace Go.Proofs.YtlbaopamhkmepaaGreatDoor
open Go Go.K
structure Grp where
 d:List Dop
 u:List Dop
structure Hist where
 max:Nat
 us:List Grp
 rs:List Grp
 op:Bool
 own:List Grp
def keepL (mx:Nat) (us:List Grp) (g:Grp):List Grp:=if us.length < mx then us++[g] else (us++[g]).drop 1
theorem keepL_len {mx:Nat} {us:List Grp} {g:Grp} (h:us.length≤mx):(keepL mx us g).length≤mx∧(keepL mx us g).length=min (us.length+1) mx:=by
 unfold keepL
 split
 ·simp;omega
 ·simp;omega

abbrev TGrp:Nat:=95
theorem RDops.to {S S' D D' M:Nat→Prop} {w w':World} {v:Value} {l:List Dop} (h:RDops S D w v l) (hm:Mod M w w') (hS:∀ b,b < w.heap.size→S b→¬ M b) (hD:∀ b,b < w.heap.size→D b→¬ M b) (hS':∀ b,b < w.heap.size→S b→S' b) (hD':∀ b,b < w.heap.size→D b→D' b):RDops S' D' w' v l:=
 SlR.mono h hS' (fun b hb hs=>hm.same b hb (hS b hb hs)) (by decide) fun _ _ hx=>hx.mod hm hD hD'
def RGrp (C:Nat→Prop):World→List Value→Grp→Prop:=fun w r g=>∃ dv uv,r=[dv,uv]∧RDops C C w dv g.d∧RDops C C w uv g.u
theorem RGrp.one {C:Nat→Prop} {w:World} {r:List Value} {g:Grp} (h:RGrp C w r g):∀ u ∈ r,u.oneCell'=true:=by
 obtain ⟨dv,uv,rfl,h1,h2⟩:=h
 obtain ⟨a,c,rfl,_⟩:=h1.shape
 obtain ⟨a',c',rfl,_⟩:=h2.shape
 intro u hu
 simp at hu
 rcases hu with rfl | rfl <;> rfl
theorem RGrp.to {C C' M:Nat→Prop} {w w':World} {r:List Value} {g:Grp} (h:RGrp C w r g) (hm:Mod M w w') (hC:∀ b,b < w.heap.size→C b→¬ M b) (hC':∀ b,b < w.heap.size→C b→C' b):RGrp C' w' r g:=by
 obtain ⟨dv,uv,e,h1,h2⟩:=h
 exact ⟨dv,uv,e,h1.to hm hC hC hC' hC',h2.to hm hC hC hC' hC'⟩
theorem RGrp.mod {C M:Nat→Prop} {w w':World} {r:List Value} {g:Grp} (h:RGrp C w r g) (hm:Mod M w w') (hC:∀ b,b < w.heap.size→C b→¬ M b):RGrp C w' r g:=h.to hm hC fun _ _ h=>h
theorem elem_grp:ElemOK Tryz.prog 65 TGrp 2 48:=⟨Tryz.t95,.agg #[.slice none 0 0,.slice none 0 0],by kernel_rfl,by kernel_rfl,by kernel_rfl,by kernel_rfl,by kernel_rfl,by rfl,by decide⟩
abbrev histL (sv:Value) (mx:Nat) (uv rv:Value) (op:Bool) (ov:Value):List Value:=[sv,.int .i64 mx,.bool true,uv,rv,.bool op,ov]
structure HistR (F C:Nat→Prop) (W:World) (b:Nat) (sv:Value) (ks:List DKey) (uv rv ov:Value) (mx:Nat) (us rs:List Grp) (op:Bool) (own:List Grp):Prop where
 cells:∀ j v,(histL sv mx uv rv op ov)[j]?=some v→W.cell? ⟨b,j,none⟩=some v
 live:∀ j,j < 7→Live W ⟨b,j,none⟩
 sch:SchR C W sv ks
 und:StkR TGrp 2 (RGrp C) W uv us
 red:StkR TGrp 2 (RGrp C) W rv rs
 own:SlR C 2 (RGrp C) W ov own
 fb:F b∧¬ C b
 uF:∀ g,uv.ownBlock=some g→F g∧¬ C g∧g≠b
 rF:∀ g,rv.ownBlock=some g→F g∧¬ C g∧g≠b∧uv.ownBlock≠some g
 cf:∀ x,C x→F x∧x < W.heap.size
section
variable {F C M:Nat→Prop} {W W':World} {b:Nat} {sv:Value} {ks:List DKey} {uv rv ov:Value} {mx:Nat} {us rs own:List Grp} {op:Bool}
theorem HistR.lt (h:HistR F C W b sv ks uv rv ov mx us rs op own):b < W.heap.size:=World.block_lt_of_cell? W _ (h.cells 5 _ rfl)
theorem HistR.mod (h:HistR F C W b sv ks uv rv ov mx us rs op own) (hm:Mod M W W') (hM:∀ x,F x→¬ M x):HistR F C W' b sv ks uv rv ov mx us rs op own:=
 have hC:∀ x,x < W.heap.size→C x→¬ M x:=fun x _ hx=>hM x (h.cf x hx).1
 ⟨fun j v hv=>hm.cell (h.cells j v hv) (hM b h.fb.1),fun j hj=>(h.live j hj).mod hm (hM b h.fb.1),h.sch.mod hm hC,h.und.mod (by decide) hm (fun g hg=>hM g (h.uF g hg).1) fun r x hx=>hx.mod hm hC,h.red.mod (by decide) hm (fun g hg=>hM g (h.rF g hg).1) fun r x hx=>hx.mod hm hC,h.own.mod hm hC (by decide) fun r x hx=>hx.mod hm hC,
  h.fb,h.uF,h.rF,fun x hx=>⟨(h.cf x hx).1,Nat.lt_of_lt_of_le (h.cf x hx).2 hm.size⟩⟩
theorem HistR.grow (h:HistR F C W b sv ks uv rv ov mx us rs op own) (g:Grow W W'):HistR F C W' b sv ks uv rv ov mx us rs op own:=h.mod g fun _ _ h=>h
theorem HistR.more {F' C':Nat→Prop} (h:HistR F C W b sv ks uv rv ov mx us rs op own) (hF:∀ x,F x→F' x) (hC:∀ x,C x→C' x) (hn:∀ x,C' x→F' x∧x < W.heap.size∧(C x∨¬ F x)):HistR F' C' W b sv ks uv rv ov mx us rs op own:=by
 have m0:Mod (fun _=>False) W W:=Mod.refl _ _
 have no:∀ g,F g→¬ C g→¬ C' g:=fun g hf hc hc'=>by
  rcases (hn g hc').2.2 with h | h
  ·exact hc h
  ·exact h hf
 exact ⟨h.cells,h.live,h.sch.sub fun x _ hx=>hC x hx,h.und.mod (by decide) m0 (fun _ _ h=>h) fun r x hx=>hx.to m0 (fun _ _ _ h=>h) fun x _ hx=>hC x hx,h.red.mod (by decide) m0 (fun _ _ h=>h) fun r x hx=>hx.to m0 (fun _ _ _ h=>h) fun x _ hx=>hC x hx,h.own.sub (fun x _ hx=>hC x hx) (by decide) fun r x hx=>hx.to m0 (fun _ _ _ h=>h) fun x _ hx=>hC x hx,
  ⟨hF _ h.fb.1,no b h.fb.1 h.fb.2⟩,fun g hg=>⟨hF _ (h.uF g hg).1,no g (h.uF g hg).1 (h.uF g hg).2.1,(h.uF g hg).2.2⟩,fun g hg=>⟨hF _ (h.rF g hg).1,no g (h.rF g hg).1 (h.rF g hg).2.1,(h.rF g hg).2.2⟩,fun x hx=>⟨(hn x hx).1,(hn x hx).2.1⟩⟩
theorem HistR.setOp {op':Bool} {K:World→Prop} (h:HistR F C W b sv ks uv rv ov mx us rs op own)
  (hK:∀ W',HistR F C W' b sv ks uv rv ov mx us rs op' own→Mod (fun x=>x=b) W W'→K W'):st1K (.pointer (some ⟨b,5,none⟩)) (.bool op') K W:=by
 refine box_store h.cells (fun j hj=>h.live j hj) (q:=5) (show 5 < 7 by decide) rfl rfl fun W' hm hc hl=>?_
 have hC:∀ x,x < W.heap.size→C x→¬ x=b:=fun x _ hx e=>h.fb.2 (e ▸ hx)
 exact hK W' ⟨hc,fun j hj=>hl j hj,h.sch.mod hm hC,h.und.mod (by decide) hm (fun g hg=>(h.uF g hg).2.2) fun r x hx=>hx.mod hm hC,h.red.mod (by decide) hm (fun g hg=>(h.rF g hg).2.2.1) fun r x hx=>hx.mod hm hC,h.own.mod hm hC (by decide) fun r x hx=>hx.mod hm hC,
  h.fb,h.uF,h.rF,fun x hx=>⟨(h.cf x hx).1,Nat.lt_of_lt_of_le (h.cf x hx).2 hm.size⟩⟩ hm
theorem HistR.setOwn {ov':Value} {own':List Grp} {K:World→Prop} (h:HistR F C W b sv ks uv rv ov mx us rs op own) (ho:SlR C 2 (RGrp C) W ov' own')
  (hK:∀ W',HistR F C W' b sv ks uv rv ov' mx us rs op own'→Mod (fun x=>x=b) W W'→K W'):st1K (.pointer (some ⟨b,6,none⟩)) ov' K W:=by
 refine box_store h.cells (fun j hj=>h.live j hj) (q:=6) (show 6 < 7 by decide) (by obtain ⟨a,c,rfl,_⟩:=ho.shape;rfl) (by obtain ⟨a,c,rfl,_⟩:=ho.shape;rfl) fun W' hm hc hl=>?_
 have hC:∀ x,x < W.heap.size→C x→¬ x=b:=fun x _ hx e=>h.fb.2 (e ▸ hx)
 exact hK W' ⟨hc,fun j hj=>hl j hj,h.sch.mod hm hC,h.und.mod (by decide) hm (fun g hg=>(h.uF g hg).2.2) fun r x hx=>hx.mod hm hC,h.red.mod (by decide) hm (fun g hg=>(h.rF g hg).2.2.1) fun r x hx=>hx.mod hm hC,ho.mod hm hC (by decide) fun r x hx=>hx.mod hm hC,
  h.fb,h.uF,h.rF,fun x hx=>⟨(h.cf x hx).1,Nat.lt_of_lt_of_le (h.cf x hx).2 hm.size⟩⟩ hm
theorem HistR.setU {F':Nat→Prop} {uv':Value} {us':List Grp} {K:World→Prop} (h:HistR F C W b sv ks uv rv ov mx us rs op own) (hm:Mod M W W') (hMo:∀ x,M x→uv.ownBlock=some x) (hF:∀ x,F x→F' x)
  (ho:StkR TGrp 2 (RGrp C) W' uv' us') (hn:∀ g,uv'.ownBlock=some g→uv.ownBlock=some g∨W.heap.size≤g∧F' g)
  (hK:∀ W'',HistR F' C W'' b sv ks uv' rv ov mx us' rs op own→Mod (fun x=>x=b) W' W''→K W''):st1K (.pointer (some ⟨b,3,none⟩)) uv' K W':=by
 have hbM:¬ M b:=fun e=>(h.uF b (hMo b e)).2.2 rfl
 have hCM:∀ x,x < W.heap.size→C x→¬ M x:=fun x _ hx e=>(h.uF x (hMo x e)).2.1 hx
 refine box_store (vs:=histL sv mx uv rv op ov) (fun j v hv=>hm.cell (h.cells j v hv) hbM) (fun j hj=>(h.live j hj).mod hm hbM) (q:=3) (show 3 < 7 by decide) ho.one.1 ho.one.2 fun W'' hm' hc hl=>?_
 have hC':∀ x,x < W'.heap.size→C x→¬ x=b:=fun x _ hx e=>h.fb.2 (e ▸ hx)
 have hbs:=h.lt
 have ou:=h.und.ownB
 have or:=h.red.ownB
 have nb:∀ g,uv'.ownBlock=some g→F' g∧¬ C g∧g≠b:=fun g hg=>by
  rcases hn g hg with e | ⟨e,e'⟩
  ·have:=h.uF g e;exact ⟨hF _ this.1,this.2.1,this.2.2⟩
  ·exact ⟨e',fun hc=>by have:=(h.cf g hc).2;omega,fun e2=>by omega⟩
 exact hK W'' ⟨hc,fun j hj=>hl j hj,(h.sch.mod hm hCM).mod hm' hC',ho.mod (by decide) hm' (fun g hg=>(nb g hg).2.2) fun r x hx=>hx.mod hm' hC',(h.red.mod (R':=RGrp C) (by decide) hm (fun g hg e=>(h.rF g hg).2.2.2 (hMo g e)) fun r x hx=>hx.mod hm hCM).mod (by decide) hm' (fun g hg=>(h.rF g hg).2.2.1) fun r x hx=>hx.mod hm' hC',(h.own.mod hm hCM (by decide) fun r x hx=>hx.mod hm hCM).mod hm' hC' (by decide) fun r x hx=>hx.mod hm' hC',
  ⟨hF _ h.fb.1,h.fb.2⟩,nb,fun g hg=>⟨hF _ (h.rF g hg).1,(h.rF g hg).2.1,(h.rF g hg).2.2.1,fun e=>by
   rcases hn g e with e1 | ⟨e1,_⟩
   ·exact (h.rF g hg).2.2.2 e1
   ·have:=or g hg;omega⟩,
  fun x hx=>⟨hF _ (h.cf x hx).1,Nat.lt_of_lt_of_le (h.cf x hx).2 (Nat.le_trans hm.size hm'.size)⟩⟩ hm'
theorem HistR.setR {F':Nat→Prop} {rv':Value} {rs':List Grp} {K:World→Prop} (h:HistR F C W b sv ks uv rv ov mx us rs op own) (hm:Mod M W W') (hMo:∀ x,M x→rv.ownBlock=some x) (hF:∀ x,F x→F' x)
  (ho:StkR TGrp 2 (RGrp C) W' rv' rs') (hn:∀ g,rv'.ownBlock=some g→rv.ownBlock=some g∨W.heap.size≤g∧F' g)
  (hK:∀ W'',HistR F' C W'' b sv ks uv rv' ov mx us rs' op own→Mod (fun x=>x=b) W' W''→K W''):st1K (.pointer (some ⟨b,4,none⟩)) rv' K W':=by
 have hbM:¬ M b:=fun e=>(h.rF b (hMo b e)).2.2.1 rfl
 have hCM:∀ x,x < W.heap.size→C x→¬ M x:=fun x _ hx e=>(h.rF x (hMo x e)).2.1 hx
 refine box_store (vs:=histL sv mx uv rv op ov) (fun j v hv=>hm.cell (h.cells j v hv) hbM) (fun j hj=>(h.live j hj).mod hm hbM) (q:=4) (show 4 < 7 by decide) ho.one.1 ho.one.2 fun W'' hm' hc hl=>?_
 have hC':∀ x,x < W'.heap.size→C x→¬ x=b:=fun x _ hx e=>h.fb.2 (e ▸ hx)
 have hbs:=h.lt
 have ou:=h.und.ownB
 have or:=h.red.ownB
 have nb:∀ g,rv'.ownBlock=some g→F' g∧¬ C g∧g≠b:=fun g hg=>by
  rcases hn g hg with e | ⟨e,e'⟩
  ·have:=h.rF g e;exact ⟨hF _ this.1,this.2.1,this.2.2.1⟩
  ·exact ⟨e',fun hc=>by have:=(h.cf g hc).2;omega,fun e2=>by omega⟩
 exact hK W'' ⟨hc,fun j hj=>hl j hj,(h.sch.mod hm hCM).mod hm' hC',(h.und.mod (R':=RGrp C) (by decide) hm (fun g hg e=>(h.rF g (hMo g e)).2.2.2 hg) fun r x hx=>hx.mod hm hCM).mod (by decide) hm' (fun g hg=>(h.uF g hg).2.2) fun r x hx=>hx.mod hm' hC',ho.mod (by decide) hm' (fun g hg=>(nb g hg).2.2) fun r x hx=>hx.mod hm' hC',(h.own.mod hm hCM (by decide) fun r x hx=>hx.mod hm hCM).mod hm' hC' (by decide) fun r x hx=>hx.mod hm' hC',
  ⟨hF _ h.fb.1,h.fb.2⟩,fun g hg=>⟨hF _ (h.uF g hg).1,(h.uF g hg).2⟩,fun g hg=>⟨(nb g hg).1,(nb g hg).2.1,(nb g hg).2.2,fun e=>by
   rcases hn g hg with e1 | ⟨e1,_⟩
   ·exact (h.rF g e1).2.2.2 e
   ·have:=ou g e;omega⟩,
  fun x hx=>⟨hF _ (h.cf x hx).1,Nat.lt_of_lt_of_le (h.cf x hx).2 (Nat.le_trans hm.size hm'.size)⟩⟩ hm'
theorem clear_first {g c:Nat} {l:List Grp} (h:OwnR 0 TGrp 2 (RGrp C) W (.slice (some ⟨g,0,none⟩) l.length c) l) (h0:0 < l.length) (hgC:¬ C g) :
  ∃ W',(Builtin.clear_ #[65] 0 [.slice (some ⟨g,0,none⟩) 1 c].toArray).run Tryz.prog W=.ok (.tuple #[]) W'∧Mod (fun x=>x=g) W W'∧StkR TGrp 2 (RGrp C) W' (sliced (some ⟨g,0,none⟩) 1 l.length l.length 2) (l.drop 1):=by
 obtain ⟨a,r,e1,_,hr,hc,_⟩:=h.sl.get h0
 cases e1
 have hz:(Builtin.zeroCells (Value.agg #[.slice none 0 0,.slice none 0 0]).cells 1).toList=[.slice none 0 0,.slice none 0 0]:=by kernel_rfl
 have hlv:∀ j,j < 2→Live W ((⟨g,0,none⟩:Addr).add j):=fun j hj=>by
  obtain ⟨g',e,_,hl⟩:=OwnR.live h (i:=0) (j:=j) h0 hj
  cases e
  rwa [Nat.zero_mul,Nat.zero_add] at hl
 have hrun:=setL_run (P:=Tryz.prog) (⟨g,0,none⟩:Addr) [.slice none 0 0,.slice none 0 0] 0 W (fun u hu=>by simp at hu;rcases hu with rfl | rfl <;> rfl) (fun j _ hj=>hlv j (by simpa using hj))
 obtain ⟨m1,_,_,_⟩:=setL_over (b:=g) [.slice none 0 0,.slice none 0 0] 0 W (fun j _ hj=>hlv j (by simpa using hj))
 have hgW:g < W.heap.size:=(OwnR.ownB h g rfl).2
 refine ⟨_,?_,m1,.inr ?_⟩
 ·have hu:Tryz.prog.underlying 65=some (.slice TGrp):=by kernel_rfl
  have hi:Tryz.prog.info? TGrp=some Tryz.t95:=by kernel_rfl
  have hv:(zeroValue TGrp).run Tryz.prog W=.ok (.agg #[.slice none 0 0,.slice none 0 0]) W:=by
   simp [zeroValue,typeInfo,hi,show Tryz.t95.zero=some (.agg #[.slice none 0 0,.slice none 0 0]) from rfl]
  simp [Builtin.clear_,run_underlying hu,hv,hz,hrun]
 ·have hsl:=h.sl
  by_cases h1:l.length=1
  ·refine ⟨⟨g,0,none⟩,?_,Nat.lt_of_lt_of_le hgW m1.size,?_⟩
   ·simp [sliced,h1]
   ·have:l.drop 1=[]:=List.eq_nil_of_length_eq_zero (by simp [h1])
    rw [this]
    simp only [sliced,h1,if_true,Nat.sub_self]
    exact ⟨_,0,rfl,Nat.le_refl _,by simp [maxLen],fun i x hx=>by simp at hx⟩
  ·have e:sliced (some (⟨g,0,none⟩:Addr)) 1 l.length l.length 2=.slice (some ⟨g,2,none⟩) (l.drop 1).length (l.drop 1).length:=by
    simp only [sliced,if_neg h1,Option.map_some,List.length_drop]
    rw [Nat.one_mul,addr0]
   obtain ⟨_,_,esl,_,hlm,hel⟩:=hsl
   cases esl
   refine ⟨⟨g,2,none⟩,e,Nat.lt_of_lt_of_le hgW m1.size,?_⟩
   rw [e]
   refine ⟨_,_,rfl,Nat.le_refl _,by simp only [List.length_drop];simp only [maxLen] at hlm ⊢;have:=OwnR.shape h;obtain ⟨_,_,e',h2,h3,_⟩:=this;simp only [maxLen] at h3;omega,fun i x hx=>?_⟩
   rw [List.getElem?_drop] at hx
   obtain ⟨q,r',e2,_,hr',hc',hR'⟩:=hel (1+i) x hx
   cases e2
   refine ⟨_,r',rfl,rfl,hr',fun j u hu=>?_,hR'.mod m1 fun y _ hy e=>hgC (e ▸ hy)⟩
   have hj:j < 2:=by rw [←hr'];exact (List.getElem?_eq_some_iff.1 hu).1
   have:=hc' j u hu
   rw [addr0] at this
   have ea:(⟨g,2,none⟩:Addr).add (i * 2+j)=⟨g,2+(i * 2+j),none⟩:=by unfold Addr.add;split <;> simp_all
   rw [ea,show 2+(i * 2+j)=(1+i) * 2+j by omega]
   simp only [setL,addr0]
   rw [World.cell?_setCell_other _ _ _ _ (by intro h;have:=congrArg Addr.off h;simp only at this;omega),World.cell?_setCell_other _ _ _ _ (by intro h;have:=congrArg Addr.off h;simp only at this;omega)]
   exact this
end
end Go.Proofs.YtlbaopamhkmepaaGreatDoor

namespace Go.K
open Go
theorem slice_lhm_run {P:Program} {t e k:Nat} {i:TypeInfo} {a:Option Addr} {n c l h m:Nat} (ht:P.underlying t=some (.slice e)) (hi:P.info? e=some i) (hk:i.size=k) (h1:l≤h) (h2:h≤m) (h3:m≤c) (w:World) :
  (Instr.sliceAt t (.slice a n c) (some (.int .i64 l)) (some (.int .i64 h)) (some (.int .i64 m))).run P w=.ok (sliced a l h m k) w:=by
 have hel:P.elem t=e:=by simp [Program.elem,ht]
 rw [run_sliceAt_slice _ _ _ _ _ _ (by rw [hel];exact ht),run_slice_lhm _ _ _ _ _ (by rw [hel];exact ht) _ _ _ _ _ _ (by omega) (by omega) (by omega) (by omega),hel]
 simp [sizeOf,typeInfo,hi,hk]
theorem slice_h_run {P:Program} {t e k:Nat} {i:TypeInfo} {a:Option Addr} {n c j:Nat} (ht:P.underlying t=some (.slice e)) (hi:P.info? e=some i) (hk:i.size=k) (hj:j≤c) (w:World):(Instr.sliceAt t (.slice a n c) none (some (.int .i64 j)) none).run P w=.ok (sliced a 0 j c k) w:=by
 have hel:P.elem t=e:=by simp [Program.elem,ht]
 rw [run_sliceAt_slice _ _ _ _ _ _ (by rw [hel];exact ht),run_slice_h _ _ _ _ _ (by rw [hel];exact ht) _ _ (by omega) (by omega),hel]
 simp [sizeOf,typeInfo,hi,hk]
end Go.K
namespace Go.Proofs.YtlbaopamhkmepaaGreatDoor
open Go Go.K

def HistI (F:Nat→Prop) (W:World) (b:Nat) (ks:List DKey) (h:Hist):Prop:=∃ C sv uv rv ov,HistR F C W b sv ks uv rv ov h.max h.us h.rs h.op h.own
def HAfter (F:Nat→Prop) (w w':World) (b:Nat) (ks:List DKey) (h:Hist):Prop:=∃ F',(∀ x,F' x→F x∨w.heap.size≤x∧x < w'.heap.size)∧HistI F' w' b ks h∧Mod F w w'
section
variable {F C M:Nat→Prop} {W W':World} {b:Nat} {sv:Value} {ks:List DKey} {uv rv ov:Value} {mx:Nat} {us rs own:List Grp} {op:Bool} {h:Hist}
theorem HistI.mod (hh:HistI F W b ks h) (hm:Mod M W W') (hM:∀ x,F x→¬ M x):HistI F W' b ks h:=by
 obtain ⟨C,sv,uv,rv,ov,hh⟩:=hh
 exact ⟨C,sv,uv,rv,ov,hh.mod hm hM⟩
theorem HistI.grow (hh:HistI F W b ks h) (g:Grow W W'):HistI F W' b ks h:=hh.mod g fun _ _ h=>h
theorem hready_ok (h:HistI F W b ks h):callK Tryz.prog 48 [.pointer (some ⟨b,0,none⟩)] (fun v' w'=>v'=.bool true∧w'=W) W:=by
 obtain ⟨C,sv,uv,rv,ov,h⟩:=h
 apply S48_ok
 unfold S48
 refine pnilK_s (condK_t (nilckK_s ?_))
 rw [faK_i,addr0]
 exact ld1K_i (h.cells 2 _ rfl) ⟨rfl,rfl⟩
theorem hnew_ok {mx:Nat} (hS:SchR C W sv ks) (hmx:mx≤65536) :
  callK Tryz.prog 15 [sv,.int .i64 mx] (fun v' w'=>Grow W w'∧∃ b,W.heap.size≤b∧v'=.tuple #[.pointer (some ⟨b,0,none⟩),.int .i64 0]∧HistI (fun x=>(C x∧x < W.heap.size)∨W.heap.size≤x∧x < w'.heap.size) w' b ks ⟨mx,[],[],false,[]⟩) W:=by
 apply S15_ok
 unfold S15
 refine JoinK_i (fun _ W'=>W'=W) ?_ ?_
 rotate_left
 ·rw [ltK_i]
  refine condK_p (fun e=>by omega) fun _=>?_
  rw [gtK_i]
  exact condK_p (fun e=>by omega) fun _=>rfl
 rintro _ _ rfl _
 rename World=>W
 obtain ⟨bs,_,_,_,rfl,_⟩:=id hS
 refine ⟨(histL (.pointer (some ⟨bs,0,none⟩)) mx (.slice none 0 0) (.slice none 0 0) false (.slice none 0 0)).toArray,by kernel_rfl,?_⟩
 refine boxn_i (vs:=histL (.pointer (some ⟨bs,0,none⟩)) mx (.slice none 0 0) (.slice none 0 0) false (.slice none 0 0)) fun b w1 hb hz g hc hl=>?_
 refine ⟨g,b,by omega,rfl,fun x=>C x∧x < W.heap.size,.pointer (some ⟨bs,0,none⟩),.slice none 0 0,.slice none 0 0,.slice none 0 0,?_⟩
 refine ⟨fun j v hv=>by have:=hc j v hv;rwa [addr0] at this,fun j hj=>by have:=hl j hj;rwa [addr0] at this,(hS.sub fun x hx hC=>⟨hC,hx⟩).grow g,.inl OwnR.nil,.inl OwnR.nil,SlR.nil,⟨.inr ⟨by omega,by omega⟩,fun hx=>by omega⟩,fun g hg=>(nomatch hg),fun g hg=>(nomatch hg),fun x hx=>⟨.inl hx,by omega⟩⟩
theorem keep_ok {dv uu:Value} {g:Grp} (h:HistR F C W b sv ks uv rv ov mx us rs op own) (hl:us.length≤mx) (hmx:mx≤65536) (hg:RGrp C W [dv,uu] g) :
  callK Tryz.prog 51 [.pointer (some ⟨b,0,none⟩),.agg #[dv,uu]] (fun _ w'=>∃ F' uv',(∀ x,F' x→F x∨W.heap.size≤x∧x < w'.heap.size)∧HistR F' C w' b sv ks uv' rv ov mx (keepL mx us g) rs op own∧Mod F W w') W:=by
 apply S51_ok
 unfold S51
 refine boxn_i (vs:=[dv,uu]) fun b3 w1 hb3 hz1 g1 hc1 _=>?_
 have gd:Grow w1 w1.drew:=Mod.drew _ _
 have hR1:=h.grow (g1.trans gd)
 have hzd:w1.drew.heap.size=w1.heap.size:=rfl
 have hou:=h.und.ownB
 have hlt:=h.lt
 refine drawC_i (fun k y=>(k=7∧uv.ownBlock=some y)∨(k=10∧y=b)) ?_
 refine nilckK_s ?_
 rw [faK_i,addr0]
 refine sld1_i ⟨hR1.cells 3 _ rfl,fun j hj e=>by
  rcases e with ⟨rfl,e⟩ | ⟨rfl,_⟩
  ·exact (h.uF b e).2.2 rfl
  ·exact absurd hj (by decide)⟩ ?_
 refine sldn_i (vs:=[dv,uu]) rfl (fun q v hv=>⟨gd.cell (hc1 q v hv) fun h=>h,fun j hj e=>by
  rcases e with ⟨rfl,e⟩ | ⟨rfl,e⟩
  ·rw [add_block] at e;have:=hou b3 e;omega
  ·rw [add_block] at e;have e':b3=b:=e;omega⟩) ?_
 have hg1:RGrp C w1.drew [dv,uu] g:=hg.mod (g1.trans gd) fun _ _ _ h=>h
 refine StkR.push elem_grp hR1.und (cs:=[dv,uu]) (x:=g) (by kernel_rfl) rfl hg1 (fun _ _ _=>RGrp.one) (fun w2 w3 r y hs hm hr=>hr.mod hm fun x hx hC e=>?_) (by omega) (by simp only [maxLen];omega) (fun w2 g=>g.mono fun _ _ h=>h.elim) fun w2 uv' w3 ho m23 m3 hn=>⟨m23.mono fun x _ e=>.inl ⟨rfl,e⟩,?_⟩
 ·rcases e with e | e
  ·exact (h.uF x e).2.1 hC
  ·have:=(h.cf x hC).2;omega
 refine nilckK_s ?_
 rw [faK_i,addr0]
 have z3:=m3.size
 have hlt3:=OwnR.ownB ho
 refine hR1.setU (F':=fun x=>F x∨W.heap.size≤x∧x < w3.heap.size) m3 (fun _ h=>h) (fun _ h=>.inl h) (.inl ho) (fun g hg=>by
  rcases hn g hg with e | e
  ·exact .inl e
  ·exact .inr ⟨e,.inr ⟨by omega,(hlt3 g hg).2⟩⟩) fun w4 hR4 m4=>⟨m4.mono fun x _ e=>.inr ⟨rfl,e⟩,?_⟩
 have z4:=m4.size
 have mW4:Mod F W w4:=(((g1.trans gd).mono fun _ _ h=>h.elim).trans (m3.mono fun x _ e=>(h.uF x e).1)).trans (m4.mono fun x _ e=>by rw [e];exact h.fb.1)
 obtain ⟨a,c,e,hcap,hcm,hp,hnone⟩:=ho.shape
 have hlen:(us++[g]).length=us.length+1:=by simp
 refine drawK_i (fun W'=>Grow w4 W') (Mod.drew _ _) ?_
 refine nilckK_s ?_
 rw [faK_i,addr0]
 refine qld1K_i (fun w2 g=>g.cell (hR4.cells 3 _ rfl) fun h=>h) ?_
 rw [e,lenK_i]
 refine nilckK_s ?_
 rw [faK_i,addr0]
 refine qld1K_i (fun w2 g=>g.cell (hR4.cells 1 _ rfl) fun h=>h) ?_
 rw [subK_i,hlen,wrap64 (by omega) (by omega)]
 intro w5 g5
 have hR5:=hR4.grow g5
 have mW5:Mod F W w5:=mW4.next g5 fun _ _ h=>h.elim
 rw [gtK_i]
 refine condK_p (fun hpos=>?_) fun hnp=>?_
 rotate_left
 ·refine ⟨fun x=>F x∨W.heap.size≤x∧x < w3.heap.size,uv',fun x hx=>?_,?_,mW5⟩
  ·have:=g5.size
   rcases hx with hx | hx
   ·exact .inl hx
   ·exact .inr ⟨hx.1,by omega⟩
  ·have ek:keepL mx us g=us++[g]:=by unfold keepL;rw [if_pos (by omega)]
   rw [ek];exact hR5
 have hmu:us.length=mx:=by omega
 have e1:((us.length+1:Nat):Int) - (mx:Int)=1:=by omega
 rw [e1]
 cases a with
 | none=>have:=hnone rfl;simp at this
 | some p=>
  obtain ⟨g0,rfl,_,hg0,hob⟩:=hp p rfl
  have hok4:OwnR 0 TGrp 2 (RGrp C) w4 uv' (us++[g]):=OwnR.mod ho m4 (fun y hy e=>(hR4.uF y hy).2.2 e) fun r x _ hx=>hx.mod m4 fun y _ hy e=>h.fb.2 (e ▸ hy)
  have hok:OwnR 0 TGrp 2 (RGrp C) w5 uv' (us++[g]):=OwnR.mod hok4 g5 (fun _ _ h=>h) fun r x _ hx=>hx.mod g5 fun _ _ _ h=>h
  rw [e] at hok
  have hg0b:g0≠b:=(hR4.uF g0 hob).2.2
  refine nilckK_s ?_
  rw [faK_i,addr0]
  refine ld1K_i (hR5.cells 3 _ rfl) ?_
  rw [e]
  refine runK_i (slice_hi_run (e:=TGrp) (k:=2) (i:=Tryz.t95) (j:=1) (by kernel_rfl) (by kernel_rfl) (by kernel_rfl) (by omega) w5) ?_
  obtain ⟨w8,hclr,m8,hst⟩:=clear_first hok (by omega) (hR4.uF g0 hob).2.1
  refine runK_i hclr ?_
  have gd8:Grow w8 w8.drew:=Mod.drew _ _
  have hb8:w8.drew.cell? ⟨b,3,none⟩=some uv':=gd8.cell (m8.cell (hR5.cells 3 _ rfl) fun e=>hg0b e.symm) fun h=>h
  refine drawC_i (fun k y=>k=19∧y=b) ?_
  refine nilckK_s ?_
  rw [faK_i,addr0]
  refine sld1_i ⟨hb8,fun j hj e=>by obtain ⟨rfl,_⟩:=e;exact absurd hj (by decide)⟩ ?_
  refine nilckK_s ?_
  rw [faK_i,addr0]
  refine sld1_i ⟨hb8,fun j hj e=>by obtain ⟨rfl,_⟩:=e;exact absurd hj (by decide)⟩ ?_
  rw [e,lenK_i]
  refine nilckK_s ?_
  rw [faK_i,addr0]
  refine sld1_i ⟨e ▸ hb8,fun j hj e=>by obtain ⟨rfl,_⟩:=e;exact absurd hj (by decide)⟩ ?_
  rw [lenK_i]
  refine runK_i (slice_lhm_run (e:=TGrp) (k:=2) (i:=Tryz.t95) (l:=1) (by kernel_rfl) (by kernel_rfl) (by kernel_rfl) (by omega) (Nat.le_refl _) hcap w8.drew) ⟨Mod.refl _ _,?_⟩
  refine nilckK_s ?_
  rw [faK_i,addr0]
  have hst':StkR TGrp 2 (RGrp C) w8.drew (sliced (some ⟨g0,0,none⟩) 1 (us++[g]).length (us++[g]).length 2) ((us++[g]).drop 1):=hst.mod (by decide) gd8 (fun _ _ h=>h) fun r x hx=>hx.mod gd8 fun _ _ _ h=>h
  have hown:∀ y,(sliced (some (⟨g0,0,none⟩:Addr)) 1 (us++[g]).length (us++[g]).length 2).ownBlock=some y→y=g0:=by
   intro y hy
   unfold sliced at hy
   split at hy
   ·exact (Option.some.inj hy).symm
   ·simp only [Option.map_some,Value.ownBlock,add_block,Option.some.injEq] at hy
    exact hy.symm
  have m58:Mod (fun x=>x=g0) w5 w8.drew:=m8.next gd8 fun _ _ h=>h.elim
  have z5:=g5.size
  have z8:=m58.size
  refine hR5.setU (F':=fun x=>F x∨W.heap.size≤x∧x < w3.heap.size) m58 (fun x e=>by rw [e];exact hob) (fun _ h=>h) hst' (fun y hy=>.inl (by rw [hown y hy];exact hob)) fun w9 hR9 m9=>⟨m9.mono fun x _ e=>⟨rfl,e⟩,?_⟩
  have z9:=m9.size
  have ek:keepL mx us g=(us++[g]).drop 1:=by unfold keepL;rw [if_neg (by omega)]
  rw [ek]
  refine ⟨fun x=>F x∨W.heap.size≤x∧x < w3.heap.size,_,fun x hx=>?_,hR9,(mW5.next m58 fun x hx e=>?_).trans (m9.mono fun x _ e=>by rw [e];exact h.fb.1)⟩
  ·rcases hx with hx | hx
   ·exact .inl hx
   ·exact .inr ⟨hx.1,by omega⟩
  ·rcases (hR4.uF g0 hob).1 with hf | hf
   ·rw [e];exact hf
   ·omega
end
end Go.Proofs.YtlbaopamhkmepaaGreatDoor

namespace Go.K
open Go
theorem SlR.takeN {α:Type} {S:Nat→Prop} {k:Nat} {R:World→List Value→α→Prop} {w:World} {a:Option Addr} {n c:Nat} {l:List α} (h:SlR S k R w (.slice a n c) l) {j:Nat} (hj:j≤l.length):SlR S k R w (.slice a j c) (l.take j):=by
 obtain ⟨_,_,e,h1,h2,h3⟩:=h
 cases e
 refine ⟨_,_,by rw [List.length_take,Nat.min_eq_left hj],by rw [List.length_take];omega,h2,fun i x hx=>?_⟩
 rw [List.getElem?_take] at hx
 split at hx
 ·exact h3 i x hx
 ·cases hx
theorem sliced_zero {p:Addr} {j c s:Nat}:sliced (some p) 0 j c s=.slice (some p) j c:=by
 have e:p.add 0=p:=Addr.add_zero' p
 unfold sliced
 simp [e]
theorem concat_of_pos {α:Type} {l:List α} (h:0 < l.length):∃ l' g,l=l'++[g]:=by
 rcases List.eq_nil_or_concat l with rfl | ⟨l',g,e⟩
 ·simp at h
 ·exact ⟨l',g,by rw [e,List.concat_eq_append]⟩
end Go.K
namespace Go.Proofs.YtlbaopamhkmepaaGreatDoor
open Go Go.K
section
variable {F C M:Nat→Prop} {W W':World} {b:Nat} {sv:Value} {ks:List DKey} {uv rv ov:Value} {mx:Nat} {us rs own:List Grp} {op:Bool} {h:Hist}
theorem depths_ok (hh:HistI F W b ks h):callK Tryz.prog 20 [.pointer (some ⟨b,0,none⟩)] (fun v' w'=>v'=.tuple #[.int .i64 h.us.length,.int .i64 h.rs.length]∧Grow W w') W:=by
 apply S20_ok
 unfold S20
 refine callK_mono (hready_ok hh) ?_
 rintro _ _ ⟨rfl,rfl⟩
 rename World=>W
 obtain ⟨C,sv,uv,rv,ov,hR⟩:=hh
 rw [notK_i]
 refine condK_f (drawK_i (fun W'=>Grow W W') (Mod.drew _ _) (nilckK_s ?_))
 rw [faK_i,addr0]
 refine qld1K_i (fun w2 g=>g.cell (hR.cells 3 _ rfl) fun h=>h) ?_
 obtain ⟨a,c,e,_⟩:=hR.und.shape (by decide)
 obtain ⟨a',c',e',_⟩:=hR.red.shape (by decide)
 rw [e,lenK_i]
 refine nilckK_s ?_
 rw [faK_i,addr0]
 refine qld1K_i (fun w2 g=>g.cell (hR.cells 4 _ rfl) fun h=>h) ?_
 rw [e',lenK_i]
 exact fun W' g=>⟨rfl,g⟩
theorem open_ok (hh:HistI F W b ks h):callK Tryz.prog 33 [.pointer (some ⟨b,0,none⟩)] (fun v' w'=>v'=.bool h.op∧w'=W) W:=by
 apply S33_ok
 unfold S33
 refine callK_mono (hready_ok hh) ?_
 rintro _ _ ⟨rfl,rfl⟩
 rename World=>W
 obtain ⟨C,sv,uv,rv,ov,hR⟩:=hh
 refine condK_t (nilckK_s ?_)
 rw [faK_i,addr0]
 exact ld1K_i (hR.cells 5 _ rfl) ⟨rfl,rfl⟩
theorem begin_ok (hh:HistI F W b ks h):callK Tryz.prog 27 [.pointer (some ⟨b,0,none⟩)] (fun v' w'=>(h.op=true∧v'=.int .i64 9∧w'=W)∨(h.op=false∧v'=.int .i64 0∧HAfter F W w' b ks { h with op:=true,own:=[] })) W:=by
 apply S27_ok
 unfold S27
 refine callK_mono (hready_ok hh) ?_
 rintro _ _ ⟨rfl,rfl⟩
 rename World=>W
 obtain ⟨C,sv,uv,rv,ov,hR⟩:=hh
 rw [notK_i]
 refine condK_f (nilckK_s ?_)
 rw [faK_i,addr0]
 refine ld1K_i (hR.cells 5 _ rfl) ?_
 cases ho:h.op with
 | true=>exact condK_t (.inl ⟨rfl,rfl,rfl⟩)
 | false=>
  refine condK_f (nilckK_s ?_)
  rw [faK_i,addr0]
  refine hR.setOp fun W1 hR1 m1=>nilckK_s ?_
  rw [faK_i,addr0]
  refine hR1.setOwn SlR.nil fun W2 hR2 m2=>.inr ⟨rfl,rfl,F,fun _ h=>.inl h,⟨C,sv,uv,rv,_,hR2⟩,(m1.trans m2).mono fun x _ e=>by rw [e];exact hR.fb.1⟩
theorem push_ok {S D S' D':Nat→Prop} {dv uu:Value} {x y:List Dop} (hh:HistI F W b ks h) (hop:h.op=false) (hl:h.us.length≤h.max) (hmx:h.max≤65536) (hd:RDops S D W dv x) (hu:RDops S' D' W uu y) (bx:mDops x≤1099511627776) (by':mDops y≤1099511627776) (hF:∀ z,F z→z < W.heap.size) :
  callK Tryz.prog 18 [.pointer (some ⟨b,0,none⟩),dv,uu] (fun v' w'=>v'=.int .i64 0∧HAfter F W w' b ks { h with us:=keepL h.max h.us ⟨x,y⟩,rs:=[] }) W:=by
 apply S18_ok
 unfold S18
 refine callK_mono (hready_ok hh) ?_
 rintro _ _ ⟨rfl,rfl⟩
 rename World=>W
 obtain ⟨C,sv,uv,rv,ov,hR⟩:=hh
 rw [notK_i]
 refine condK_f ?_
 refine callK_mono (copy_dops hd bx) ?_
 rintro cv w2 ⟨o2,g2⟩
 refine callK_mono (copy_dops (hu.grow g2) by') ?_
 rintro cu w3 ⟨o3,g3⟩
 have g23:=g2.trans g3
 obtain ⟨ca,cc,ecv,_⟩:=(ODops.sl o2).shape
 obtain ⟨ca',cc',ecu,_⟩:=(ODops.sl o3).shape
 refine ⟨#[cv,cu],by rw [ecv,ecu];kernel_rfl,?_⟩
 refine newst_n (vs:=[cv,cu]) rfl rfl (fun u hu=>by simp at hu;rcases hu with rfl | rfl;rw [ecv];rfl;rw [ecu];rfl) fun b7 w4 hb7 hz7 g4 hc4 _=>?_
 have z2:=g2.size
 have z3:=g3.size
 have r2:RDops (fun z=>W.heap.size≤z∧z < w4.heap.size) (fun z=>W.heap.size≤z∧z < w4.heap.size) w4 cv x:=(ODops.reads o2).to (g3.trans g4) (fun _ _ _ h=>h) (fun _ _ _ h=>h) (fun z _ hz=>⟨hz.1,by omega⟩) fun z _ hz=>⟨hz.1,by omega⟩
 have r3:RDops (fun z=>W.heap.size≤z∧z < w4.heap.size) (fun z=>W.heap.size≤z∧z < w4.heap.size) w4 cu y:=(ODops.reads o3).to g4 (fun _ _ _ h=>h) (fun _ _ _ h=>h) (fun z _ hz=>⟨by omega,by omega⟩) fun z _ hz=>⟨by omega,by omega⟩
 have hR4:=(hR.grow (g23.trans g4)).more (F':=fun z=>F z∨W.heap.size≤z∧z < w4.heap.size) (C':=fun z=>C z∨W.heap.size≤z∧z < w4.heap.size) (fun _ h=>.inl h) (fun _ h=>.inl h) (fun z hz=>by
  rcases hz with hz | hz
  ·have:=hR.cf z hz;exact ⟨.inl this.1,by omega,.inl hz⟩
  ·exact ⟨.inr hz,hz.2,.inr fun hf=>by have:=hF z hf;omega⟩)
 have hg:RGrp (fun z=>C z∨W.heap.size≤z∧z < w4.heap.size) w4 [cv,cu] ⟨x,y⟩:=⟨cv,cu,rfl,r2.to (Mod.refl (fun _=>False) _) (fun _ _ _ h=>h) (fun _ _ _ h=>h) (fun _ _ h=>.inr h) fun _ _ h=>.inr h,r3.to (Mod.refl (fun _=>False) _) (fun _ _ _ h=>h) (fun _ _ _ h=>h) (fun _ _ h=>.inr h) fun _ _ h=>.inr h⟩
 have g04:=g23.trans g4
 refine JoinK_i (fun _ w6=>∃ F' uv',(∀ z,F' z→F z∨W.heap.size≤z∧z < w6.heap.size)∧HistR F' (fun z=>C z∨W.heap.size≤z∧z < w4.heap.size) w6 b sv ks uv' rv ov h.max (keepL h.max h.us ⟨x,y⟩) h.rs h.op h.own∧Mod F W w6) ?_ ?_
 ·rintro _ w6 ⟨F',uv',hF',hR6,m6⟩ _
  refine nilckK_s ?_
  rw [faK_i,addr0]
  refine hR6.setR (F':=F') (M:=fun _=>False) (Mod.refl _ _) (fun _ h=>h.elim) (fun _ h=>h) (.inl OwnR.nil) (fun g hg=>nomatch hg) fun w7 hR7 m7=>⟨rfl,F',fun z hz=>?_,⟨_,sv,uv',_,ov,hR7⟩,m6.trans (m7.mono fun z _ e=>by rw [e];exact hR.fb.1)⟩
  have:=m7.size
  rcases hF' z hz with h | h
  ·exact .inl h
  ·exact .inr ⟨h.1,by omega⟩
 refine nilckK_s ?_
 rw [faK_i,addr0]
 refine ld1K_i (hR4.cells 5 _ rfl) ?_
 rw [hop]
 refine condK_f ?_
 refine ldnK_i (vs:=[cv,cu]) rfl hc4 ?_
 rw [←hop]
 refine callK_mono (keep_ok hR4 hl hmx hg) ?_
 rintro _ w6 ⟨F',uv',hF',hR6,m6⟩
 have z4:=g04.size
 have z6:=m6.size
 refine ⟨F',uv',fun z hz=>?_,hR6,(g04.mono fun _ _ h=>h.elim:Mod F W w4).next m6 fun z hz e=>?_⟩
 ·rcases hF' z hz with (h | h) | h
  ·exact .inl h
  ·exact .inr ⟨h.1,by omega⟩
  ·exact .inr ⟨by omega,h.2⟩
 ·rcases e with e | e
  ·exact e
  ·omega
theorem clone_grp {S:Nat→Prop} {v:Value} {l:List Grp} (h:SlR S 2 (RGrp C) W v l) (hC:∀ x,C x→x < W.heap.size) (hl:l.length≤1099511627) :
  callK Tryz.prog 88 [v] (fun v' w'=>OwnR W.heap.size TGrp 2 (RGrp C) w' v' l∧Grow W w') W:=by
 apply S88_ok
 unfold S88
 obtain ⟨a,c,rfl,hm⟩:=h.shape
 cases a with
 | none=>
  have:l=[]:=by
   cases l with
   | nil=>rfl
   | cons x l=>obtain ⟨p,r,e,_⟩:=h.get (i:=0) (by simp);cases e
  subst this
  simp only [KS]
  exact ⟨OwnR.nil,Mod.refl _ _⟩
 | some p=>
  simp only [KS]
  refine rowK_empty ?_
  have hg:Grow W (W.alloc (.cells #[] TGrp)):=Mod.alloc _ _ _
  have hbx:(W.alloc (.cells #[] TGrp)).heap[W.heap.size]?=some (.cells #[] TGrp (0,0)):=by show (W.heap.push _)[W.heap.size]?=_;simp
  obtain ⟨v',w',h1,h2,h3,_⟩:=append_new (ty:=65) elem_grp hbx (h.grow hg (by decide) fun r x hx=>hx.mod hg fun _ _ _ h=>h) (fun _ _ _=>RGrp.one) (by omega) (fun w2 hg2 r y hr=>hr.mod (Mod.of_grownBy hg2) fun x hx hC' e=>by have:=hC x hC';simp only [Option.some.injEq] at e;omega)
  exact runK_i h1 ⟨h2,hg.trans h3⟩
theorem moveU_ok (h:HistR F C W b sv ks uv rv ov mx us rs false own) (hl1:us.length≤65536) (hl2:rs.length≤65536) (hF:∀ x,F x→x < W.heap.size) :
  callK Tryz.prog 52 [.pointer (some ⟨b,0,none⟩),.pointer (some ⟨b,3,none⟩),.pointer (some ⟨b,4,none⟩)] (fun v' w'=>(us=[]∧v'=.tuple #[.agg #[.slice none 0 0,.slice none 0 0],.int .i64 10]∧Grow W w')∨
   ∃ l g r F' uv' rv',us=l++[g]∧v'=.tuple #[.agg (List.toArray r),.int .i64 0]∧r.length=2∧RGrp C w' r g∧(∀ x,F' x→F x∨W.heap.size≤x∧x < w'.heap.size)∧HistR F' C w' b sv ks uv' rv' ov mx l (rs++[g]) false own∧Mod F W w') W:=by
 apply S52_ok
 unfold S52
 have hlt:=h.lt
 have hoA:=h.und.ownB
 have hoB:=h.red.ownB
 refine newz_i fun b6 w1 hb6 hz1 g1 _ hl6=>?_
 have hR1:=h.grow g1
 obtain ⟨a,c,e,hcap,hcm,hel⟩:=h.und.sl (by decide)
 have hsl:=hR1.und.sl (by decide)
 rw [e] at hsl
 refine nilckK_s ?_
 refine ld1K_i (hR1.cells 3 _ rfl) ?_
 rw [e,lenK_i,subK_i,wrap64 (by omega) (by omega)]
 refine nilckK_s ?_
 rw [faK_i,addr0]
 refine ld1K_i (hR1.cells 5 _ rfl) ?_
 refine condK_f ?_
 rw [ltK_i]
 refine condK_p (fun hneg=>?_) fun hpos=>?_
 ·refine ⟨#[.slice none 0 0,.slice none 0 0],by kernel_rfl,?_⟩
  refine stn_over (vs:=[.slice none 0 0,.slice none 0 0]) rfl (fun u hu=>by simp at hu;subst hu;rfl) (fun j hj=>hl6 j hj) fun W'' m hc _=>?_
  exact ldnK_i rfl hc (.inl ⟨List.eq_nil_of_length_eq_zero (by omega),rfl,g1.next m fun x hx e=>by omega⟩)
 obtain ⟨l,g,hlg⟩:=concat_of_pos (l:=us) (by omega)
 have hlen:us.length=l.length+1:=by rw [hlg];simp
 have en:((us.length:Int) - 1)=((l.length:Nat):Int):=by omega
 rw [en]
 refine nilckK_s ?_
 refine ld1K_i (hR1.cells 3 _ rfl) ?_
 rw [e]
 have hi:l.length < us.length:=by omega
 obtain ⟨p,r,rfl,_,hr,hc,hre⟩:=hsl.get hi
 have hge:us[l.length]=g:=by
  have:us[l.length]?=some g:=by rw [hlg];simp
  rw [List.getElem?_eq_getElem hi] at this
  exact Option.some.inj this
 rw [hge] at hre
 refine ixK_n hi (ldnK_i hr (fun j u hu=>by rw [Addr.add_add];exact hc j u hu) ?_)
 refine newst_n (vs:=r) hr rfl hre.one fun b9 w3 hb9 hz9 g3 hc9 _=>?_
 have g13:=g1.trans g3
 have hR3:=hR1.grow g3
 refine nilckK_s ?_
 refine ld1K_i (hR3.cells 3 _ rfl) ?_
 rw [e]
 refine runK_i (slice_h_run (e:=TGrp) (k:=2) (i:=Tryz.t95) (j:=l.length) (by kernel_rfl) (by kernel_rfl) (by kernel_rfl) (by omega) w3) ?_
 rw [sliced_zero]
 have hsl3:=hR3.und.sl (by decide)
 rw [e] at hsl3
 have htk:=hsl3.takeN (j:=l.length) (by omega)
 have etk:us.take l.length=l:=by rw [hlg];simp
 rw [etk] at htk
 refine callK_mono (clone_grp htk (fun x hx=>(hR3.cf x hx).2) (by omega)) ?_
 rintro cl w4 ⟨ho4,g4⟩
 have g34:=g3.trans g4
 have g14:=g13.trans g4
 have hR4:=hR3.grow g4
 have ho4':=OwnR.ownB ho4
 refine nilckK_s ?_
 have z1:=g1.size
 have z3:=g3.size
 have z4:=g4.size
 refine hR3.setU (F':=fun x=>F x∨w3.heap.size≤x∧x < w4.heap.size) (M:=fun _=>False) g4 (fun _ h=>h.elim) (fun _ h=>.inl h) (.inl (ho4.base fun _ _=>Nat.zero_le _)) (fun y hy=>.inr ⟨(ho4' y hy).1,.inr ⟨(ho4' y hy).1,(ho4' y hy).2⟩⟩) fun w5 hR5 m5=>?_
 have z5:=m5.size
 have gd:Grow w5 w5.drew:=Mod.drew _ _
 have zd:w5.drew.heap.size=w5.heap.size:=rfl
 have hR5d:=hR5.grow gd
 obtain ⟨dv,uu,rfl,hd,hu⟩:=hre
 have hre:RGrp C w1 [dv,uu] g:=⟨dv,uu,rfl,hd,hu⟩
 have m35:Mod (fun y=>y=b) w3 w5.drew:=((g4.mono fun _ _ h=>h.elim).trans m5).next gd fun _ _ h=>h.elim
 have hb9c:∀ j v,([dv,uu]:List Value)[j]?=some v→w5.drew.cell? ((⟨b9,0,none⟩:Addr).add j)=some v:=fun j v hv=>m35.cell (hc9 j v hv) (by rw [add_block];exact fun e=>by have e':b9=b:=e;omega)
 refine drawC_i (fun k y=>(k=6∧rv.ownBlock=some y)∨(k=8∧y=b)) ?_
 refine nilckK_s ?_
 refine sld1_i ⟨hR5d.cells 4 _ rfl,fun j hj e=>by
  rcases e with ⟨rfl,e⟩ | ⟨rfl,_⟩
  ·exact (h.rF b e).2.2.1 rfl
  ·exact absurd hj (by decide)⟩ ?_
 refine sldn_i (vs:=[dv,uu]) rfl (fun q v hv=>⟨hb9c q v hv,fun j hj e=>by
  rcases e with ⟨rfl,e⟩ | ⟨rfl,e⟩
  ·rw [add_block] at e;have:=hoB b9 e;omega
  ·rw [add_block] at e;have e':b9=b:=e;omega⟩) ?_
 have hCb:∀ x,C x→¬ x=b:=fun x hx e=>h.fb.2 (e ▸ hx)
 have hg5:RGrp C w5.drew [dv,uu] g:=(hre.mod g3 fun _ _ _ h=>h).mod m35 fun x _ hx=>hCb x hx
 refine StkR.push elem_grp hR5d.red (cs:=[dv,uu]) (x:=g) (by kernel_rfl) rfl hg5 (fun _ _ _=>RGrp.one) (fun w2 w3 r y hs hm hr=>hr.mod hm fun x hx hC e=>?_) (by omega) (by simp only [maxLen];omega) (fun w2 g=>g.mono fun _ _ h=>h.elim) fun w7 bv' w8 ho m78 m8 hn=>⟨m78.mono fun x _ e=>.inl ⟨rfl,e⟩,?_⟩
 ·rcases e with e | e
  ·exact (h.rF x e).2.1 hC
  ·have:=(h.cf x hC).2;omega
 refine nilckK_s ?_
 have z8:=m8.size
 have hlt8:=OwnR.ownB ho
 refine hR5d.setR (F':=fun x=>F x∨w3.heap.size≤x∧x < w8.heap.size) m8 (fun _ h=>h) (fun x h=>by rcases h with h | h;exact .inl h;exact .inr ⟨h.1,by omega⟩) (.inl ho) (fun y hy=>by
  rcases hn y hy with e | e
  ·exact .inl e
  ·exact .inr ⟨e,.inr ⟨by omega,(hlt8 y hy).2⟩⟩) fun w9 hR9 m9=>⟨m9.mono fun x _ e=>.inr ⟨rfl,e⟩,?_⟩
 have z9:=m9.size
 have m59:Mod (fun y=>rv.ownBlock=some y∨y=b) w5.drew w9:=(m8.mono fun _ _ h=>.inl h).trans (m9.mono fun _ _ h=>.inr h)
 have hb9d:∀ j v,([dv,uu]:List Value)[j]?=some v→w9.cell? ((⟨b9,0,none⟩:Addr).add j)=some v:=fun j v hv=>m59.cell (hb9c j v hv) (by
  rw [add_block]
  rintro (e | e)
  ·have:=hoB b9 e;omega
  ·have e':b9=b:=e;omega)
 refine ldnK_i (vs:=[dv,uu]) rfl hb9d ?_
 have hg9:RGrp C w9 [dv,uu] g:=hg5.mod m59 fun x _ hx e=>by
  rcases e with e | e
  ·exact (h.rF x e).2.1 hx
  ·exact hCb x hx e
 refine stn_over (vs:=[dv,uu]) rfl hg9.one (fun j hj=>((((hl6 j hj).mod g3 fun h=>h).mod m35 fun e=>by rw [add_block] at e;have e':b6=b:=e;omega).mod m59 fun e=>by
  rw [add_block] at e
  rcases e with e | e
  ·have:=hoB b6 e;omega
  ·have e':b6=b:=e;omega)) fun w10 m10 hc10 _=>?_
 have z10:=m10.size
 refine ldnK_i rfl hc10 (.inr ⟨l,g,[dv,uu],fun x=>F x∨w3.heap.size≤x∧x < w8.heap.size,_,_,hlg,rfl,rfl,hg9.mod m10 fun x _ hx e=>by have:=(h.cf x hx).2;omega,fun x hx=>?_,hR9.mod m10 fun x hx e=>?_,?_⟩)
 ·rcases hx with hx | hx
  ·exact .inl hx
  ·exact .inr ⟨by omega,by omega⟩
 ·rcases hx with hx | hx
  ·have:=hF x hx;omega
  ·omega
 ·refine (((g13.mono fun _ _ h=>h.elim:Mod F W w3).next m35 fun x hx e=>by rw [e];exact h.fb.1).next m59 fun x hx e=>?_).next m10 fun x hx e=>by omega
  rcases e with e | e
  ·exact (h.rF x e).1
  ·rw [e];exact h.fb.1
theorem moveR_ok (h:HistR F C W b sv ks uv rv ov mx us rs false own) (hl1:us.length≤65536) (hl2:rs.length≤65536) (hF:∀ x,F x→x < W.heap.size) :
  callK Tryz.prog 52 [.pointer (some ⟨b,0,none⟩),.pointer (some ⟨b,4,none⟩),.pointer (some ⟨b,3,none⟩)] (fun v' w'=>(rs=[]∧v'=.tuple #[.agg #[.slice none 0 0,.slice none 0 0],.int .i64 10]∧Grow W w')∨
   ∃ l g r F' uv' rv',rs=l++[g]∧v'=.tuple #[.agg (List.toArray r),.int .i64 0]∧r.length=2∧RGrp C w' r g∧(∀ x,F' x→F x∨W.heap.size≤x∧x < w'.heap.size)∧HistR F' C w' b sv ks uv' rv' ov mx (us++[g]) l false own∧Mod F W w') W:=by
 apply S52_ok
 unfold S52
 have hlt:=h.lt
 have hoA:=h.red.ownB
 have hoB:=h.und.ownB
 refine newz_i fun b6 w1 hb6 hz1 g1 _ hl6=>?_
 have hR1:=h.grow g1
 obtain ⟨a,c,e,hcap,hcm,hel⟩:=h.red.sl (by decide)
 have hsl:=hR1.red.sl (by decide)
 rw [e] at hsl
 refine nilckK_s ?_
 refine ld1K_i (hR1.cells 4 _ rfl) ?_
 rw [e,lenK_i,subK_i,wrap64 (by omega) (by omega)]
 refine nilckK_s ?_
 rw [faK_i,addr0]
 refine ld1K_i (hR1.cells 5 _ rfl) ?_
 refine condK_f ?_
 rw [ltK_i]
 refine condK_p (fun hneg=>?_) fun hpos=>?_
 ·refine ⟨#[.slice none 0 0,.slice none 0 0],by kernel_rfl,?_⟩
  refine stn_over (vs:=[.slice none 0 0,.slice none 0 0]) rfl (fun u hu=>by simp at hu;subst hu;rfl) (fun j hj=>hl6 j hj) fun W'' m hc _=>?_
  exact ldnK_i rfl hc (.inl ⟨List.eq_nil_of_length_eq_zero (by omega),rfl,g1.next m fun x hx e=>by omega⟩)
 obtain ⟨l,g,hlg⟩:=concat_of_pos (l:=rs) (by omega)
 have hlen:rs.length=l.length+1:=by rw [hlg];simp
 have en:((rs.length:Int) - 1)=((l.length:Nat):Int):=by omega
 rw [en]
 refine nilckK_s ?_
 refine ld1K_i (hR1.cells 4 _ rfl) ?_
 rw [e]
 have hi:l.length < rs.length:=by omega
 obtain ⟨p,r,rfl,_,hr,hc,hre⟩:=hsl.get hi
 have hge:rs[l.length]=g:=by
  have:rs[l.length]?=some g:=by rw [hlg];simp
  rw [List.getElem?_eq_getElem hi] at this
  exact Option.some.inj this
 rw [hge] at hre
 refine ixK_n hi (ldnK_i hr (fun j u hu=>by rw [Addr.add_add];exact hc j u hu) ?_)
 refine newst_n (vs:=r) hr rfl hre.one fun b9 w3 hb9 hz9 g3 hc9 _=>?_
 have g13:=g1.trans g3
 have hR3:=hR1.grow g3
 refine nilckK_s ?_
 refine ld1K_i (hR3.cells 4 _ rfl) ?_
 rw [e]
 refine runK_i (slice_h_run (e:=TGrp) (k:=2) (i:=Tryz.t95) (j:=l.length) (by kernel_rfl) (by kernel_rfl) (by kernel_rfl) (by omega) w3) ?_
 rw [sliced_zero]
 have hsl3:=hR3.red.sl (by decide)
 rw [e] at hsl3
 have htk:=hsl3.takeN (j:=l.length) (by omega)
 have etk:rs.take l.length=l:=by rw [hlg];simp
 rw [etk] at htk
 refine callK_mono (clone_grp htk (fun x hx=>(hR3.cf x hx).2) (by omega)) ?_
 rintro cl w4 ⟨ho4,g4⟩
 have g34:=g3.trans g4
 have g14:=g13.trans g4
 have hR4:=hR3.grow g4
 have ho4':=OwnR.ownB ho4
 refine nilckK_s ?_
 have z1:=g1.size
 have z3:=g3.size
 have z4:=g4.size
 refine hR3.setR (F':=fun x=>F x∨w3.heap.size≤x∧x < w4.heap.size) (M:=fun _=>False) g4 (fun _ h=>h.elim) (fun _ h=>.inl h) (.inl (ho4.base fun _ _=>Nat.zero_le _)) (fun y hy=>.inr ⟨(ho4' y hy).1,.inr ⟨(ho4' y hy).1,(ho4' y hy).2⟩⟩) fun w5 hR5 m5=>?_
 have z5:=m5.size
 have gd:Grow w5 w5.drew:=Mod.drew _ _
 have zd:w5.drew.heap.size=w5.heap.size:=rfl
 have hR5d:=hR5.grow gd
 obtain ⟨dv,uu,rfl,hd,hu⟩:=hre
 have hre:RGrp C w1 [dv,uu] g:=⟨dv,uu,rfl,hd,hu⟩
 have m35:Mod (fun y=>y=b) w3 w5.drew:=((g4.mono fun _ _ h=>h.elim).trans m5).next gd fun _ _ h=>h.elim
 have hb9c:∀ j v,([dv,uu]:List Value)[j]?=some v→w5.drew.cell? ((⟨b9,0,none⟩:Addr).add j)=some v:=fun j v hv=>m35.cell (hc9 j v hv) (by rw [add_block];exact fun e=>by have e':b9=b:=e;omega)
 refine drawC_i (fun k y=>(k=6∧uv.ownBlock=some y)∨(k=8∧y=b)) ?_
 refine nilckK_s ?_
 refine sld1_i ⟨hR5d.cells 3 _ rfl,fun j hj e=>by
  rcases e with ⟨rfl,e⟩ | ⟨rfl,_⟩
  ·exact (h.uF b e).2.2 rfl
  ·exact absurd hj (by decide)⟩ ?_
 refine sldn_i (vs:=[dv,uu]) rfl (fun q v hv=>⟨hb9c q v hv,fun j hj e=>by
  rcases e with ⟨rfl,e⟩ | ⟨rfl,e⟩
  ·rw [add_block] at e;have:=hoB b9 e;omega
  ·rw [add_block] at e;have e':b9=b:=e;omega⟩) ?_
 have hCb:∀ x,C x→¬ x=b:=fun x hx e=>h.fb.2 (e ▸ hx)
 have hg5:RGrp C w5.drew [dv,uu] g:=(hre.mod g3 fun _ _ _ h=>h).mod m35 fun x _ hx=>hCb x hx
 refine StkR.push elem_grp hR5d.und (cs:=[dv,uu]) (x:=g) (by kernel_rfl) rfl hg5 (fun _ _ _=>RGrp.one) (fun w2 w3 r y hs hm hr=>hr.mod hm fun x hx hC e=>?_) (by omega) (by simp only [maxLen];omega) (fun w2 g=>g.mono fun _ _ h=>h.elim) fun w7 bv' w8 ho m78 m8 hn=>⟨m78.mono fun x _ e=>.inl ⟨rfl,e⟩,?_⟩
 ·rcases e with e | e
  ·exact (h.uF x e).2.1 hC
  ·have:=(h.cf x hC).2;omega
 refine nilckK_s ?_
 have z8:=m8.size
 have hlt8:=OwnR.ownB ho
 refine hR5d.setU (F':=fun x=>F x∨w3.heap.size≤x∧x < w8.heap.size) m8 (fun _ h=>h) (fun x h=>by rcases h with h | h;exact .inl h;exact .inr ⟨h.1,by omega⟩) (.inl ho) (fun y hy=>by
  rcases hn y hy with e | e
  ·exact .inl e
  ·exact .inr ⟨e,.inr ⟨by omega,(hlt8 y hy).2⟩⟩) fun w9 hR9 m9=>⟨m9.mono fun x _ e=>.inr ⟨rfl,e⟩,?_⟩
 have z9:=m9.size
 have m59:Mod (fun y=>uv.ownBlock=some y∨y=b) w5.drew w9:=(m8.mono fun _ _ h=>.inl h).trans (m9.mono fun _ _ h=>.inr h)
 have hb9d:∀ j v,([dv,uu]:List Value)[j]?=some v→w9.cell? ((⟨b9,0,none⟩:Addr).add j)=some v:=fun j v hv=>m59.cell (hb9c j v hv) (by
  rw [add_block]
  rintro (e | e)
  ·have:=hoB b9 e;omega
  ·have e':b9=b:=e;omega)
 refine ldnK_i (vs:=[dv,uu]) rfl hb9d ?_
 have hg9:RGrp C w9 [dv,uu] g:=hg5.mod m59 fun x _ hx e=>by
  rcases e with e | e
  ·exact (h.uF x e).2.1 hx
  ·exact hCb x hx e
 refine stn_over (vs:=[dv,uu]) rfl hg9.one (fun j hj=>((((hl6 j hj).mod g3 fun h=>h).mod m35 fun e=>by rw [add_block] at e;have e':b6=b:=e;omega).mod m59 fun e=>by
  rw [add_block] at e
  rcases e with e | e
  ·have:=hoB b6 e;omega
  ·have e':b6=b:=e;omega)) fun w10 m10 hc10 _=>?_
 have z10:=m10.size
 refine ldnK_i rfl hc10 (.inr ⟨l,g,[dv,uu],fun x=>F x∨w3.heap.size≤x∧x < w8.heap.size,_,_,hlg,rfl,rfl,hg9.mod m10 fun x _ hx e=>by have:=(h.cf x hx).2;omega,fun x hx=>?_,hR9.mod m10 fun x hx e=>?_,?_⟩)
 ·rcases hx with hx | hx
  ·exact .inl hx
  ·exact .inr ⟨by omega,by omega⟩
 ·rcases hx with hx | hx
  ·have:=hF x hx;omega
  ·omega
 ·refine (((g13.mono fun _ _ h=>h.elim:Mod F W w3).next m35 fun x hx e=>by rw [e];exact h.fb.1).next m59 fun x hx e=>?_).next m10 fun x hx e=>by omega
  rcases e with e | e
  ·exact (h.uF x e).1
  ·rw [e];exact h.fb.1
end
end Go.Proofs.YtlbaopamhkmepaaGreatDoor
