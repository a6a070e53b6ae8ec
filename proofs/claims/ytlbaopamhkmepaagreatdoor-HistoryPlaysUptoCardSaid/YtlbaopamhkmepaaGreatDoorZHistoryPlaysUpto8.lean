/- HistoryPlays: for every input of bulk at most 1048576 the law returns true, and each argument reads behind the call as it read before; the two tables tied. Condition: the bulk. -/
import Derived.Test.YtlbaopamhkmepaaGreatDoorZHistoryPlaysUpto7
import Derived.Test.YtlbaopamhkmepaaGreatDoorTie
import Derived.Test.YtlbaopamhkmepaaGreatDoorCards
import Derived.WalkKit
import Derived.OpenShut
import Derived.ShutString
import Derived.ChangeOld
import Derived.ChangeVars
import Derived.JoinedOf
import Derived.JoinedCond
import Derived.Deep.DeepHandedRow
import Derived.SevenTiedAt
namespace Go.Proofs.YtlbaopamhkmepaaGreatDoor
open Go Go.K

def SumLen (x:List Dop) (q:Nat):Int:=((x.take q).map lenO).sum
theorem SumLen_succ {x:List Dop} {q:Nat} (h:q < x.length):SumLen x (q+1)=SumLen x q+lenO x[q]:=by
 unfold SumLen
 rw [List.take_add_one,List.getElem?_eq_getElem h,List.map_append,List.sum_append]
 simp
theorem small_ok {S D:Nat→Prop} {v:Value} {x:List Dop} {most:Nat} {w:World} (h:RDops S D w v x) (hm:most≤1000000) :
  callK Tryz.prog 89 [v,.int .i64 most] (fun v' w'=>Grow w w'∧(v'=.bool false∨(v'=.bool true∧(∀ o ∈ x,0≤lenO o)∧(x.map lenO).sum≤most))) w:=by
 apply S89_ok
 unfold S89
 obtain ⟨a,c,rfl,hml⟩:=h.shape
 simp only [maxLen] at hml
 refine LoopK_i (fun vs W=>∃ (q:Nat) (n:Nat),q≤x.length∧vs=[.int .i64 n,.int .i64 q]∧Grow w W∧SumLen x q=n∧n≤most∧∀ o ∈ x.take q,0≤lenO o) (fun vs _=>x.length - iOf vs 1) ⟨0,0,by omega,rfl,Mod.refl _ _,rfl,by omega,by simp⟩ ?_
 rintro vs W ⟨q,n,hq,rfl,g,hs,hn,hall⟩ _
 simp only [nth_s,nth_z,List.headD_cons,List.tail_cons]
 rw [lenK_i,ltK_i]
 refine condK_p (fun hlt=>?_) fun hge=>?_
 ·have hlt':q < x.length:=by omega
  obtain ⟨p,r,rfl,_,hr,hc,hop⟩:=(RDops.grow h g).get hlt'
  refine ixK_n hlt' (ldnK_i hr (fun j u hu=>by rw [Addr.add_add];exact hc j u hu) ?_)
  refine callK_mono (len_ok hop) ?_
  rintro _ w3 ⟨rfl,g3⟩
  refine JoinK_i (fun _ W'=>W'=w3∧0≤lenO x[q]∧lenO x[q]≤most) ?_ ?_
  ·rintro _ _ ⟨rfl,h0,h1⟩ _
   rename World=>w3
   rw [addK_i,wrap64 (by omega) (by omega),gtK_i]
   refine condK_p (fun _=>⟨g.trans g3,.inl trivial⟩) fun hle=>?_
   rw [addK_i,loop_step (by omega)]
   refine ⟨⟨q+1,(n+lenO x[q]).toNat,hlt',?_,g.trans g3,?_,by omega,fun o ho=>?_⟩,by rw [iOf1,iOf1];omega⟩
   ·congr 2;omega
   ·rw [SumLen_succ hlt',hs];omega
   ·rw [List.take_add_one,List.getElem?_eq_getElem hlt'] at ho
    rcases List.mem_append.1 ho with ho | ho
    ·exact hall o ho
    ·simp at ho;subst ho;exact h0
  ·rw [ltK_i]
   refine condK_p (fun _=>⟨g.trans g3,.inl trivial⟩) fun h0=>?_
   rw [gtK_i]
   exact condK_p (fun _=>⟨g.trans g3,.inl trivial⟩) fun h1=>⟨rfl,by omega,by omega⟩
 ·have:q=x.length:=by omega
  subst this
  rw [List.take_length] at hall
  refine ⟨g,.inr ⟨trivial,hall,?_⟩⟩
  unfold SumLen at hs
  rw [List.take_length] at hs
  omega
def FitX (keys:List DKey) (x:List Dop):Prop:=mayOps keys x=0∧total x≤200∧mDops x≤60
theorem sum_total {x:List Dop} (h:∀ o ∈ x,0≤lenO o):(x.map lenO).sum=(total x:Int):=by
 induction x with
 | nil=>rfl
 | cons o x ih=>
  have h1:=ih fun o ho=>h o (by simp [ho])
  have h2:=h o (by simp)
  simp only [List.map_cons,List.sum_cons,total] at h1 ⊢
  rw [h1]
  have:lenO o=(lenN o:Int):=by
   unfold lenO at h2 ⊢
   unfold lenN
   by_cases k:o.kind=2
   ·rw [if_pos k,if_pos k]
   ·rw [if_neg k] at h2 ⊢
    rw [if_neg k];omega
  rw [this];omega
theorem fit_ok {S S' D:Nat→Prop} {kv v:Value} {keys:List DKey} {x:List Dop} {w:World} (hk:RKeys S w kv keys) (h:RDops S' D w v x) (hb:mDops x≤1099511627776) :
  callK Tryz.prog 56 [kv,v] (fun v' w'=>Grow w w'∧(v'=.bool false∨(v'=.bool true∧FitX keys x))) w:=by
 apply S56_ok
 unfold S56
 refine callK_mono (size_ok h hb) ?_
 rintro _ w1 ⟨rfl,g1⟩
 rw [leK_i]
 refine condK_p (fun h60=>?_) fun _=>⟨g1,.inl rfl⟩
 refine callK_mono (mayops_ok (hk.grow g1 (by decide) fun _ _ h=>h) (RDops.grow h g1) hb) ?_
 rintro _ w2 ⟨rfl,g2⟩
 rw [eqK_i]
 refine condK_p (fun h0=>?_) fun _=>⟨g1.trans g2,.inl rfl⟩
 refine callK_mono (small_ok (most:=200) (RDops.grow h (g1.trans g2)) (by omega)) ?_
 rintro _ w3 ⟨g3,rfl | ⟨rfl,hn,hs⟩⟩
 ·exact ⟨(g1.trans g2).trans g3,.inl rfl⟩
 ·refine ⟨(g1.trans g2).trans g3,.inr ⟨rfl,h0,?_,by omega⟩⟩
  rw [sum_total hn] at hs
  omega
def TameH (keys:List DKey) (l:List HOp):Prop:=l.length≤80∧∀ x ∈ l,x.kind=1→FitX keys x.d∧FitX keys x.u
theorem tameh_ok {S S':Nat→Prop} {kv v:Value} {keys:List DKey} {l:List HOp} {w:World} (hk:RKeys S w kv keys) (h:SlR S' 3 (RHOp S') w v l) (hb:∀ x ∈ l,mDops x.d+mDops x.u≤1099511627776) :
  callK Tryz.prog 23 [kv,v] (fun v' w'=>Grow w w'∧(v'=.bool false∨(v'=.bool true∧TameH keys l))) w:=by
 apply S23_ok
 unfold S23
 obtain ⟨a,c,rfl,hml⟩:=h.shape
 simp only [maxLen] at hml
 rw [lenK_i,gtK_i]
 refine condK_p (fun _=>⟨Mod.refl _ _,.inl rfl⟩) fun h80=>?_
 rw [lenK_i]
 refine LoopK_i (fun vs W=>∃ (i:Nat),i≤l.length∧vs=[.int .i64 i]∧Grow w W∧∀ x ∈ l.take i,x.kind=1→FitX keys x.d∧FitX keys x.u) (fun vs _=>l.length - iOf vs 0) ⟨0,by omega,rfl,Mod.refl _ _,by simp⟩ ?_
 rintro vs W ⟨i,hi,rfl,g,hall⟩ _
 simp only [nth_s,nth_z,List.headD_cons,List.tail_cons]
 rw [ltK_i]
 refine condK_p (fun hlt=>?_) fun hge=>?_
 ·have hlt':i < l.length:=by omega
  have hmem:=List.getElem_mem hlt'
  have hbx:=hb _ hmem
  obtain ⟨p,r,rfl,_,hr,hc,hop⟩:=(h.grow g (by decide) fun _ _ hx=>hx.mod g fun _ _ _ h=>h).get hlt'
  obtain ⟨dv,uv,rfl,h1,h2⟩:=hop
  have stp:∀ {W':World},Grow w W'→(l[i].kind=1→FitX keys l[i].d∧FitX keys l[i].u)→(∃ (i':Nat),i'≤l.length∧[Value.int .i64 ((i+1:Nat):Int)]=[.int .i64 (i':Int)]∧Grow w W'∧∀ x ∈ l.take i',x.kind=1→FitX keys x.d∧FitX keys x.u)∧l.length - iOf [.int .i64 ((i+1:Nat):Int)] 0 < l.length - iOf [.int .i64 (i:Int)] 0:=by
   intro W' g' hx
   refine ⟨⟨i+1,hlt',rfl,g',fun x hxm=>?_⟩,by rw [iOf0,iOf0];omega⟩
   rw [List.take_add_one,List.getElem?_eq_getElem hlt'] at hxm
   rcases List.mem_append.1 hxm with hxm | hxm
   ·exact hall x hxm
   ·simp at hxm;subst hxm;exact hx
  refine ixK_n hlt' ?_
  rw [faK_i,Addr.add_add]
  refine ld1K_i (hc 0 _ rfl) ?_
  rw [eqK_i]
  refine condK_p (fun k1=>?_) fun k1=>?_
  ·refine ixK_n hlt' ?_
   rw [faK_i,Addr.add_add]
   refine ld1K_i (hc 1 _ rfl) ?_
   refine callK_mono (fit_ok (hk.grow g (by decide) fun _ _ h=>h) h1 (by omega)) ?_
   rintro _ w3 ⟨g3,rfl | ⟨rfl,f1⟩⟩
   ·rw [notK_i];exact condK_t ⟨g.trans g3,.inl trivial⟩
   ·rw [notK_i]
    refine condK_f ?_
    refine ixK_n hlt' ?_
    rw [faK_i,Addr.add_add]
    refine ld1K_i (g3.cell (hc 2 _ rfl) fun h=>h) ?_
    refine callK_mono (fit_ok (hk.grow (g.trans g3) (by decide) fun _ _ h=>h) (RDops.grow h2 g3) (by omega)) ?_
    rintro _ w4 ⟨g4,rfl | ⟨rfl,f2⟩⟩
    ·rw [notK_i];exact condK_t ⟨(g.trans g3).trans g4,.inl trivial⟩
    ·rw [notK_i]
     refine condK_f ?_
     rw [addK_i,loop_step (by omega)]
     exact stp ((g.trans g3).trans g4) fun _=>⟨f1,f2⟩
  ·rw [addK_i,loop_step (by omega)]
   exact stp g fun e=>(k1 e).elim
 ·have:i=l.length:=by omega
  subst this
  rw [List.take_length] at hall
  exact ⟨g,.inr ⟨trivial,by omega,hall⟩⟩
theorem setK_congr {keys ks:List DKey} (h:∀ id,findK keys id=findK ks id) {l:List Attr} (hs:SetK keys l):SetK ks l:=
 ⟨hs.1,hs.2.1,fun a ha=>⟨(hs.2.2 a ha).1,by obtain ⟨k,hk,h2⟩:=(hs.2.2 a ha).2;exact ⟨k,by rw [←h];exact hk,h2⟩⟩⟩
theorem patK_congr {keys ks:List DKey} (h:∀ id,findK keys id=findK ks id) {l:List Chg} (hs:PatK keys l):PatK ks l:=
 ⟨hs.1,hs.2.1,fun a ha=>⟨(hs.2.2 a ha).1,fun hg=>⟨((hs.2.2 a ha).2.1 hg).1,by obtain ⟨k,hk,h2⟩:=((hs.2.2 a ha).2.1 hg).2;exact ⟨k,by rw [←h];exact hk,h2⟩⟩,by rw [←h];exact (hs.2.2 a ha).2.2⟩⟩
theorem goodK_congr {keys ks:List DKey} (h:∀ id,findK keys id=findK ks id) {o:Dop} (ho:GoodK keys o):GoodK ks o:=by
 rcases ho with ⟨k1,k2,k3,k4,k5⟩ | ⟨k1,k2,k3,k4,k5⟩ | ⟨k1,k2,k3,k4,k5,k6⟩
 ·exact .inl ⟨k1,k2,k3,k4,patK_congr h k5⟩
 ·exact .inr (.inl ⟨k1,k2,k3,k4,k5⟩)
 ·exact .inr (.inr ⟨k1,k2,k3,k4,k5,setK_congr h k6⟩)
theorem fit_good {keys ks:List DKey} (h:∀ id,findK keys id=findK ks id) {x y:List Dop} (hx:FitX keys x) (hy:FitX keys y) (ix:∀ o ∈ x,InO o) (iy:∀ o ∈ y,InO o):GoodG ks 200 ⟨x,y⟩:=
 ⟨fun o ho=>⟨goodK_congr h (may_good hx.1 o ho).1,ix o ho⟩,fun o ho=>⟨goodK_congr h (may_good hy.1 o ho).1,iy o ho⟩,hx.2.1,hy.2.1⟩
theorem GoodG.more {ks:List DKey} {T T':Nat} {g:Grp} (h:GoodG ks T g) (hT:T≤T'):GoodG ks T' g:=⟨h.1,h.2.1,Nat.le_trans h.2.2.1 hT,Nat.le_trans h.2.2.2 hT⟩
structure HGood (ks:List DKey) (p:Nat) (h:Hist):Prop where
 mx:h.max≤65536
 us:h.us.length+h.rs.length≤h.max
 tot:h.us.length+h.rs.length+h.own.length≤p
 own:h.own.length≤1
 shut:h.op=false→h.own=[]
 emp:h.own≠[]→h.rs=[]
 gu:∀ g ∈ h.us,GoodG ks 16384 g
 gr:∀ g ∈ h.rs,GoodG ks 16384 g
 go:∀ g ∈ h.own,GoodG ks (200 * p) g
theorem keepL_mem {mx:Nat} {us:List Grp} {g a:Grp} (ha:a ∈ keepL mx us g):a ∈ us∨a=g:=by
 have:a ∈ us++[g]:=by
  unfold keepL at ha
  split at ha
  ·exact ha
  ·exact List.mem_of_mem_drop ha
 simpa using this
section
variable {ks:List DKey} {p:Nat} {h:Hist}
theorem HGood.push (hh:HGood ks p h) (hop:h.op=false) {g:Grp} (hg:GoodG ks 200 g):HGood ks (p+1) { h with us:=keepL h.max h.us g,rs:=[] }:=by
 have hu:=hh.us
 have hk:=keepL_len (g:=g) (show h.us.length≤h.max by omega)
 have ho:=hh.shut hop
 have ht:=hh.tot
 refine ⟨hh.mx,by simp only [List.length_nil];omega,by simp only [List.length_nil];omega,hh.own,hh.shut,fun _=>rfl,fun a ha=>?_,by simp,fun a ha=>(hh.go a ha).more (by omega)⟩
 rcases keepL_mem ha with ha | rfl
 ·exact hh.gu a ha
 ·exact hg.more (by omega)
theorem HGood.push2 (h64:ks.length≤64) (hh:HGood ks p h) (hop:h.op=true) {g:Grp} (hg:GoodG ks 200 g) (hp:p≤1000):HGood ks (p+1) { h with own:=[withL ks h.own g],rs:=[] }:=by
 have hu:=hh.us
 have ht:=hh.tot
 refine ⟨hh.mx,by simp only [List.length_nil];omega,by simp only [List.length_nil,List.length_cons];omega,by simp,fun e=>(by simp only at e;rw [hop] at e;cases e),fun _=>rfl,hh.gu,by simp,fun a ha=>?_⟩
 simp at ha;subst ha
 exact (hg.with h64 hh.go (by omega)).more (by omega)
theorem HGood.begin (hh:HGood ks p h):HGood ks p { h with op:=true,own:=[] }:=
 ⟨hh.mx,hh.us,(by have:=hh.tot;simp only [List.length_nil];omega),(by simp),fun e=>(by cases e),fun e=>(by simp at e),hh.gu,hh.gr,(by simp)⟩
theorem HGood.end (hh:HGood ks p h) (hp:p≤80):HGood ks p { h with us:=endL h.max h.us h.own,op:=false,own:=[] }:=by
 have ht:=hh.tot
 have hu:=hh.us
 have he:=hh.emp
 have hgo:=hh.go
 unfold endL
 cases ho:h.own with
 | nil=>
  rw [ho] at ht
  exact ⟨hh.mx,hh.us,by simpa using ht,by simp,fun _=>rfl,fun e=>(e rfl).elim,hh.gu,hh.gr,by simp⟩
 | cons g r=>
  rw [ho] at ht he hgo
  have hr:=he (by simp)
  rw [hr] at ht hu
  simp only [List.length_cons,List.length_nil] at ht hu
  have hk:=keepL_len (g:=g) (show h.us.length≤h.max by omega)
  refine ⟨hh.mx,by simp only [hr,List.length_nil];omega,by simp only [hr,List.length_nil];omega,by simp,fun _=>rfl,fun e=>(e rfl).elim,fun a ha=>?_,hh.gr,by simp⟩
  rcases keepL_mem ha with ha | rfl
  ·exact hh.gu a ha
  ·exact (hgo _ (by simp)).more (by omega)
theorem HGood.undo (hh:HGood ks p h) (hop:h.op=false) {l:List Grp} {g:Grp} (e:h.us=l++[g]):HGood ks p { h with us:=l,rs:=h.rs++[g] }:=by
 have ht:=hh.tot
 have hu:=hh.us
 have hs:=hh.shut hop
 rw [e] at ht hu
 simp only [List.length_append,List.length_cons,List.length_nil] at ht hu
 refine ⟨hh.mx,by simp only [List.length_append,List.length_cons,List.length_nil];omega,by simp only [List.length_append,List.length_cons,List.length_nil];omega,hh.own,hh.shut,fun e=>(e hs).elim,fun a ha=>hh.gu a (by rw [e];simp [ha]),fun a ha=>?_,hh.go⟩
 rcases List.mem_append.1 ha with ha | ha
 ·exact hh.gr a ha
 ·simp at ha;subst ha;exact hh.gu _ (by rw [e];simp)
theorem HGood.redo (hh:HGood ks p h) (hop:h.op=false) {l:List Grp} {g:Grp} (e:h.rs=l++[g]):HGood ks p { h with us:=h.us++[g],rs:=l }:=by
 have ht:=hh.tot
 have hu:=hh.us
 have hs:=hh.shut hop
 rw [e] at ht hu
 simp only [List.length_append,List.length_cons,List.length_nil] at ht hu
 refine ⟨hh.mx,by simp only [List.length_append,List.length_cons,List.length_nil];omega,by simp only [List.length_append,List.length_cons,List.length_nil];omega,hh.own,hh.shut,fun e=>(e hs).elim,fun a ha=>?_,fun a ha=>hh.gr a (by rw [e];simp [ha]),hh.go⟩
 rcases List.mem_append.1 ha with ha | ha
 ·exact hh.gu a ha
 ·simp at ha;subst ha;exact hh.gr _ (by rw [e];simp)
theorem HGood.small (hh:HGood ks p h):(∀ g ∈ h.us,mDops g.u≤1099511627776)∧∀ g ∈ h.rs,mDops g.d≤1099511627776:=
 ⟨fun g hg=>((hh.gu g hg).m (by omega)).2,fun g hg=>((hh.gr g hg).m (by omega)).1⟩
end
end Go.Proofs.YtlbaopamhkmepaaGreatDoor

namespace Go.Proofs.YtlbaopamhkmepaaGreatDoor
open Go Go.K

abbrev TGr:Nat:=54
theorem elem_gr:ElemOK Tryz.prog 52 TGr 2 48:=⟨Tryz.t54,.agg #[.slice none 0 0,.slice none 0 0],by kernel_rfl,by kernel_rfl,by kernel_rfl,by kernel_rfl,by kernel_rfl,by rfl,by decide⟩
theorem RGrp.shp {C:Nat→Prop} {w:World} {r:List Value} {g:Grp} (h:RGrp C w r g):∃ a1 n1 c1 a2 n2 c2,r=[.slice a1 n1 c1,.slice a2 n2 c2]:=by
 obtain ⟨dv,uv,rfl,h1,h2⟩:=h
 obtain ⟨a,c,rfl,_⟩:=h1.shape
 obtain ⟨a',c',rfl,_⟩:=h2.shape
 exact ⟨_,_,_,_,_,_,rfl⟩
theorem tree_ok {C:Nat→Prop} {Wd:World} {xv:Value} {xs:List Grp} {r:List Value} {g:Grp} {M:Nat→Nat→Prop} {KX:Value→World→Prop} (hx:SlR C 2 (RGrp C) Wd xv xs) (hg:RGrp C Wd r g) (hC:∀ z,C z→z < Wd.heap.size) (hl:xs.length≤100000) (h6:∀ z,Wd.heap.size≤z→M 9 z)
  (hK:∀ v' W',OwnR Wd.heap.size TGr 2 (RGrp C) W' v' (xs++[g])→Grow Wd W'→KX v' W') :
  (rowK TGr 2 0 [] [] (fun t5 w10=>Mod (M 1) Wd w10∧
   (runK Tryz.prog (Builtin.append_ #[52,52] 52 [t5,xv].toArray) (fun t10 w11=>Mod (M 6) w10 w11∧
    rowK TGr 2 1 [(.slice none 0 0),(.slice none 0 0)] [(0,.agg r.toArray)] (fun t12 w12=>Mod (M 8) w11 w12∧
    runK Tryz.prog (Builtin.append_ #[52,52] 52 [t10,t12].toArray) (fun t13 w13=>Mod (M 9) w12 w13∧KX t13 w13) w12) w11) w10)∧
   (rowK TGr 2 1 [(.slice none 0 0),(.slice none 0 0)] [(0,.agg r.toArray)] (fun t12_1 w15=>Mod (M 8) w10 w15∧
    runK Tryz.prog (Builtin.append_ #[52,52] 52 [t5,xv].toArray) (fun t10_1 w16=>Mod (M 6) w15 w16∧
    runK Tryz.prog (Builtin.append_ #[52,52] 52 [t10_1,t12_1].toArray) (fun t13_1 w17=>Mod (M 9) w16 w17∧KX t13_1 w17) w16) w15) w10)) Wd)∧
  (rowK TGr 2 1 [(.slice none 0 0),(.slice none 0 0)] [(0,.agg r.toArray)] (fun t12_2 w19=>Mod (M 8) Wd w19∧
   rowK TGr 2 0 [] [] (fun t5_1 w20=>Mod (M 1) w19 w20∧
   runK Tryz.prog (Builtin.append_ #[52,52] 52 [t5_1,xv].toArray) (fun t10_2 w21=>Mod (M 6) w20 w21∧
   runK Tryz.prog (Builtin.append_ #[52,52] 52 [t10_2,t12_2].toArray) (fun t13_2 w22=>Mod (M 9) w21 w22∧KX t13_2 w22) w21) w20) w19) Wd):=by
 have hgm:∀ {W W':World} {r:List Value} {g:Grp},Wd.heap.size≤W.heap.size→(m:Mod (fun z=>Wd.heap.size≤z) W W')→RGrp C W r g→RGrp C W' r g:=fun _ m h=>h.mod m fun z _ hz e=>by have:=hC z hz;omega
 have hr2:r.length=2:=by obtain ⟨_,_,_,_,_,_,rfl⟩:=hg.shp;rfl
 -- the second append
 have fin:∀ {Wx:World} {v10 v12:Value},Grow Wd Wx→OwnR Wd.heap.size TGr 2 (RGrp C) Wx v10 xs→SlR (fun _=>True) 2 (RGrp C) Wx v12 [g]→
   runK Tryz.prog (Builtin.append_ #[52,52] 52 [v10,v12].toArray) (fun t13 w13=>Mod (M 9) Wx w13∧KX t13 w13) Wx:=by
  intro Wx v10 v12 gx o10 s12
  obtain ⟨v',w',h1,h2,h3,h4⟩:=OwnR.append (ty:=52) elem_gr o10 s12 (fun _ _=>RGrp.one) (by simp only [List.length_cons,List.length_nil];omega) gx.size (by simp only [maxLen,List.length_cons,List.length_nil];omega) fun w' hg' r y hy=>hgm gx.size ((Mod.of_grownBy hg').mono fun z _ e=>(OwnR.ownB o10 z e).1) hy
  have m:=Mod.of_grownBy h3
  exact runK_i h1 ⟨m.mono fun z _ e=>h6 z (OwnR.ownB o10 z e).1,hK v' w' h2 (gx.next m fun z hz e=>by have:=(OwnR.ownB o10 z e).1;omega)⟩
 -- a new empty row
 have row0:∀ {W:World},Grow Wd W→∀ {K:Cont},(∀ (b:Nat) (W':World),Wd.heap.size≤b→W'.heap[b]?=some (.cells #[] TGr (0,0))→Grow W W'→K (.slice (some ⟨b,0,none⟩) 0 0) W')→rowK TGr 2 0 [] [] K W:=fun gw K hk=>
  rowK_empty (hk _ _ gw.size (by show (Array.push _ _)[_]?=_;simp) (Mod.alloc _ _ _))
 have hx1:∀ {W:World},Grow Wd W→SlR C 2 (RGrp C) W xv xs:=fun gw=>hx.grow gw (by decide) fun _ _ h=>h.mod gw fun _ _ _ h=>h
 have app0:∀ {W:World} {b:Nat},Grow Wd W→Wd.heap.size≤b→W.heap[b]?=some (.cells #[] TGr (0,0))→∀ {K:Cont},(∀ v' W',OwnR Wd.heap.size TGr 2 (RGrp C) W' v' xs→Grow W W'→K v' W')→
   runK Tryz.prog (Builtin.append_ #[52,52] 52 [.slice (some ⟨b,0,none⟩) 0 0,xv].toArray) K W:=by
  intro W b gw hbs hb K hk
  obtain ⟨v',w',h1,h2,h3,h4⟩:=append_new (ty:=52) elem_gr hb (hx1 gw) (fun _ _ _=>RGrp.one) (by omega) (fun w2 hg2 r y hr=>hgm gw.size ((Mod.of_grownBy hg2).mono fun z _ e=>by simp only [Option.some.injEq] at e;omega) hr)
  exact runK_i h1 (hk v' w' (OwnR.base h2 fun z hz=>by have:=(OwnR.ownB h2 z hz).1;omega) h3)
 have rowE:∀ {W:World},Grow Wd W→∀ {K:Cont},(∀ v W',SlR (fun _=>True) 2 (RGrp C) W' v [g]→Grow W W'→(∀ (b:Nat) o,W.heap[b]?=some o→W'.heap[b]?=some o)→K v W')→rowK TGr 2 1 [(.slice none 0 0),(.slice none 0 0)] [(0,.agg r.toArray)] K W:=by
  intro W gw K hk
  refine rowK_i (cs:=r) (by obtain ⟨_,_,_,_,_,_,rfl⟩:=hg.shp;kernel_rfl) ?_
  have ga:Grow W (W.alloc (.cells r.toArray TGr)):=Mod.alloc _ _ _
  have hgW:=(hg.mod gw fun _ _ _ h=>h).mod ga fun _ _ _ h=>h
  refine hk _ _ ?_ ga fun b o hb=>?_
  ·exact SlR.sub (OwnR.sl (OwnR.row1 (B:=0) (e:=TGr) (k:=2) (R:=RGrp C) (x:=g) (Nat.zero_le _) hr2 hg.one hgW)) (fun _ _ _=>trivial) (by decide) fun _ _ h=>h
  ·have hlt:b < W.heap.size:=(Array.getElem?_eq_some_iff.1 hb).1
   show (W.heap.push _)[b]?=_
   rw [Array.getElem?_push_lt hlt]
   exact (Array.getElem?_eq_getElem hlt).symm.trans hb
 have own1:∀ {W W':World} {v:Value},Grow Wd W→Grow W W'→OwnR Wd.heap.size TGr 2 (RGrp C) W v xs→OwnR Wd.heap.size TGr 2 (RGrp C) W' v xs:=fun _ gg o=>OwnR.mod o gg (fun _ _ h=>h) fun r y _ hy=>hy.mod gg fun _ _ _ h=>h
 have sl1:∀ {W W':World} {v:Value},Grow W W'→SlR (fun _=>True) 2 (RGrp C) W v [g]→SlR (fun _=>True) 2 (RGrp C) W' v [g]:=fun gg s=>s.grow gg (by decide) fun _ _ h=>h.mod gg fun _ _ _ h=>h
 have g0:Grow Wd Wd:=Mod.refl _ _
 refine ⟨row0 g0 fun b w10 hb h10 g10=>⟨g10.mono fun _ _ e=>e.elim,?_,?_⟩,?_⟩
 ·refine app0 g10 hb h10 fun t10 w11 o11 g11=>⟨g11.mono fun _ _ e=>e.elim,?_⟩
  refine rowE (g10.trans g11) fun t12 w12 s12 g12 _=>⟨g12.mono fun _ _ e=>e.elim,?_⟩
  exact fin ((g10.trans g11).trans g12) (own1 (g10.trans g11) g12 o11) s12
 ·refine rowE g10 fun t12 w15 s15 g15 hh=>⟨g15.mono fun _ _ e=>e.elim,?_⟩
  refine app0 (g10.trans g15) hb (hh _ _ h10) fun t10 w16 o16 g16=>⟨g16.mono fun _ _ e=>e.elim,?_⟩
  exact fin ((g10.trans g15).trans g16) o16 (sl1 g16 s15)
 ·refine rowE g0 fun t12 w19 s19 g19 _=>⟨g19.mono fun _ _ e=>e.elim,?_⟩
  refine row0 g19 fun b w20 hb h20 g20=>⟨g20.mono fun _ _ e=>e.elim,?_⟩
  refine app0 (g19.trans g20) hb h20 fun t10 w21 o21 g21=>⟨g21.mono fun _ _ e=>e.elim,?_⟩
  exact fin ((g19.trans g20).trans g21) o21 (sl1 (g20.trans g21) s19)
structure RHist where
 max:Nat
 us:List Grp
 rs:List Grp
 op:Bool
 has:Bool
 own:Grp
abbrev rhL (kv:Value) (mx:Nat) (uv rv:Value) (op has:Bool) (od ou:Value):List Value:=[kv,.int .i64 mx,uv,rv,.bool op,.bool has,od,ou]
structure RHR (C:Nat→Prop) (W:World) (c:Nat) (kv uv rv od ou:Value) (h:RHist):Prop where
 cells:∀ j v,(rhL kv h.max uv rv h.op h.has od ou)[j]?=some v→W.cell? ⟨c,j,none⟩=some v
 live:∀ j,j < 8→Live W ⟨c,j,none⟩
 und:SlR C 2 (RGrp C) W uv h.us
 red:SlR C 2 (RGrp C) W rv h.rs
 own:RGrp C W [od,ou] h.own
 nc:∀ x,C x→x≠c∧x < W.heap.size
def RHI (C:Nat→Prop) (W:World) (c:Nat) (kv:Value) (h:RHist):Prop:=∃ uv rv od ou,RHR C W c kv uv rv od ou h
section
variable {C C' M:Nat→Prop} {W W':World} {c:Nat} {kv uv rv od ou:Value} {h:RHist}
theorem RHR.mod (hh:RHR C W c kv uv rv od ou h) (m:Mod M W W') (hc:¬ M c) (hC:∀ x,C x→¬ M x):RHR C W' c kv uv rv od ou h:=
 ⟨fun j v hv=>m.cell (hh.cells j v hv) hc,fun j hj=>(hh.live j hj).mod m hc,hh.und.mod m (fun x _ hx=>hC x hx) (by decide) fun r g hg=>hg.mod m fun x _ hx=>hC x hx,hh.red.mod m (fun x _ hx=>hC x hx) (by decide) fun r g hg=>hg.mod m fun x _ hx=>hC x hx,hh.own.mod m fun x _ hx=>hC x hx,fun x hx=>⟨(hh.nc x hx).1,Nat.lt_of_lt_of_le (hh.nc x hx).2 m.size⟩⟩
theorem RHI.mod (hh:RHI C W c kv h) (m:Mod M W W') (hc:¬ M c) (hC:∀ x,C x→¬ M x):RHI C W' c kv h:=by
 obtain ⟨uv,rv,od,ou,hr⟩:=hh
 exact ⟨uv,rv,od,ou,hr.mod m hc hC⟩
theorem RHI.grow (hh:RHI C W c kv h) (g:Grow W W'):RHI C W' c kv h:=hh.mod g (fun h=>h) fun _ _ h=>h
theorem RHR.more (hh:RHR C W c kv uv rv od ou h) (hC:∀ x,C x→C' x) (hn:∀ x,C' x→x≠c∧x < W.heap.size):RHR C' W c kv uv rv od ou h:=by
 have m0:Mod (fun _=>False) W W:=Mod.refl _ _
 have tg:∀ r g,RGrp C W r g→RGrp C' W r g:=fun r g hg=>hg.to m0 (fun _ _ _ h=>h) fun x _ hx=>hC x hx
 exact ⟨hh.cells,hh.live,hh.und.sub (fun x _ hx=>hC x hx) (by decide) tg,hh.red.sub (fun x _ hx=>hC x hx) (by decide) tg,tg _ _ hh.own,hn⟩
theorem RHR.set {q:Nat} {x kv' uv' rv' od' ou':Value} {h':RHist} {K:World→Prop} (hh:RHR C W c kv uv rv od ou h) (hq:q < 8) (h1:x.oneCell'=true) (h2:x.cells=#[x]) (e:(rhL kv h.max uv rv h.op h.has od ou).set q x=rhL kv h'.max uv' rv' h'.op h'.has od' ou')
  (hu:SlR C 2 (RGrp C) W uv' h'.us) (hr:SlR C 2 (RGrp C) W rv' h'.rs) (ho:RGrp C W [od',ou'] h'.own) (hK:∀ W',RHR C W' c kv uv' rv' od' ou' h'→Mod (fun z=>z=c) W W'→K W'):st1K (.pointer (some ⟨c,q,none⟩)) x K W:=by
 refine box_store hh.cells (fun j hj=>hh.live j hj) (q:=q) hq h1 h2 fun W' m hc hl=>hK W' ?_ m
 have nC:∀ z,z < W.heap.size→C z→¬ z=c:=fun z _ hz e=>(hh.nc z hz).1 e
 rw [e] at hc hl
 exact ⟨hc,fun j hj=>hl j hj,hu.mod m nC (by decide) fun r g hg=>hg.mod m nC,hr.mod m nC (by decide) fun r g hg=>hg.mod m nC,ho.mod m nC,fun z hz=>⟨(hh.nc z hz).1,Nat.lt_of_lt_of_le (hh.nc z hz).2 m.size⟩⟩
end
end Go.Proofs.YtlbaopamhkmepaaGreatDoor

namespace Go.Proofs.YtlbaopamhkmepaaGreatDoor
open Go Go.K

def cellLen (c:Nat) (W:World):Nat:=match W.cell? ⟨c,2,none⟩ with
 | some (.slice _ n _)=>n
 | _=>0
def DAfter (C:Nat→Prop) (W W':World) (c:Nat) (kv:Value) (h':RHist):Prop:=∃ C',(∀ x,C' x→C x∨W.heap.size≤x)∧(∀ x,C x→C' x)∧RHI C' W' c kv h'∧Mod (fun z=>z=c) W W'
section
variable {C C' M:Nat→Prop} {W W' W0:World} {c:Nat} {kv uv rv od ou:Value} {h:RHist} {g:Grp}
theorem RHR.lt (hh:RHR C W c kv uv rv od ou h):c < W.heap.size:=World.block_lt_of_cell? W _ (hh.cells 1 _ rfl)
theorem RHR.grow (hh:RHR C W c kv uv rv od ou h) (g:Grow W W'):RHR C W' c kv uv rv od ou h:=hh.mod g (fun h=>h) fun _ _ h=>h
theorem RHR.len (hh:RHR C W c kv uv rv od ou h):cellLen c W=h.us.length:=by
 obtain ⟨a,cc,e,_⟩:=hh.und.shape
 have h2:W.cell? ⟨c,2,none⟩=some uv:=hh.cells 2 _ rfl
 unfold cellLen
 rw [h2,e]
theorem RHR.ext (hh:RHR C W c kv uv rv od ou h) (g:Grow W W'):RHR (fun z=>C z∨(W.heap.size≤z∧z < W'.heap.size)) W' c kv uv rv od ou h:=
 (hh.grow g).more (fun x hx=>.inl hx) fun x hx=>by
  have:=hh.lt
  have:=g.size
  rcases hx with e | e
  ·have:=hh.nc x e;exact ⟨this.1,by omega⟩
  ·exact ⟨by omega,e.2⟩
theorem own_new {v:Value} {l:List Grp} (ho:OwnR W0.heap.size TGr 2 (RGrp C) W v l):SlR (fun z=>C z∨(W0.heap.size≤z∧z < W.heap.size)) 2 (RGrp fun z=>C z∨(W0.heap.size≤z∧z < W.heap.size)) W v l:=
 SlR.sub (OwnR.sl ho) (fun z hz h=>.inr ⟨h.1,hz⟩) (by decide) fun r y hy=>hy.to (Mod.refl (fun _=>False) _) (fun _ _ _ h=>h) fun x _ hx=>.inl hx
theorem RHR.setU {uv':Value} {us':List Grp} {K:World→Prop} (hh:RHR C W0 c kv uv rv od ou h) (g:Grow W0 W) (ho:OwnR W0.heap.size TGr 2 (RGrp C) W uv' us')
  (hK:∀ W',RHR (fun z=>C z∨(W0.heap.size≤z∧z < W.heap.size)) W' c kv uv' rv od ou { h with us:=us' }→Mod (fun z=>z=c) W W'→K W'):st1K (.pointer (some ⟨c,2,none⟩)) uv' K W:=by
 have hx:=hh.ext g
 have one:=OwnR.one ho
 exact hx.set (kv':=kv) (q:=2) (h':={ h with us:=us' }) (by decide) one.1 one.2 rfl (own_new ho) hx.red hx.own hK
theorem RHR.setR {rv':Value} {rs':List Grp} {K:World→Prop} (hh:RHR C W0 c kv uv rv od ou h) (g:Grow W0 W) (ho:OwnR W0.heap.size TGr 2 (RGrp C) W rv' rs')
  (hK:∀ W',RHR (fun z=>C z∨(W0.heap.size≤z∧z < W.heap.size)) W' c kv uv rv' od ou { h with rs:=rs' }→Mod (fun z=>z=c) W W'→K W'):st1K (.pointer (some ⟨c,3,none⟩)) rv' K W:=by
 have hx:=hh.ext g
 have one:=OwnR.one ho
 exact hx.set (kv':=kv) (q:=3) (h':={ h with rs:=rs' }) (by decide) one.1 one.2 rfl hx.und (own_new ho) hx.own hK
theorem RHR.setOwn {x y:Value} {g:Grp} {K:World→Prop} (hh:RHR C W c kv uv rv od ou h) (hg:RGrp C W [x,y] g)
  (hK:∀ W',RHR C W' c kv uv rv x y { h with own:=g }→Mod (fun z=>z=c) W W'→K W'):stnK 2 (.pointer (some ⟨c,6,none⟩)) (.agg #[x,y]) K W:=by
 have lv:∀ j,j < 2→Live W ⟨c,6+j,none⟩:=fun j hj=>hh.live _ (by omega)
 obtain ⟨q1,q2,q3,q4⟩:=setL_at (g:=c) (off:=6) [x,y] 0 W fun j _ hj=>lv j (by simp at hj;omega)
 have nC:∀ z,z < W.heap.size→C z→¬ z=c:=fun z _ hz e=>(hh.nc z hz).1 e
 refine ⟨⟨c,6,none⟩,[x,y],rfl,rfl,rfl,hg.one,fun j hj=>by rw [addr_at];exact lv j hj,hK _ ⟨fun j v hv=>?_,fun j hj=>q4 _ (hh.live j hj),hh.und.mod q1 nC (by decide) fun r g hg=>hg.mod q1 nC,hh.red.mod q1 nC (by decide) fun r g hg=>hg.mod q1 nC,hg.mod q1 nC,fun z hz=>⟨(hh.nc z hz).1,Nat.lt_of_lt_of_le (hh.nc z hz).2 q1.size⟩⟩ q1⟩
 match j,hv with
 | 0,hv=>rw [q3 0 (by simp)];exact hh.cells 0 v hv
 | 1,hv=>rw [q3 1 (by simp)];exact hh.cells 1 v hv
 | 2,hv=>rw [q3 2 (by simp)];exact hh.cells 2 v hv
 | 3,hv=>rw [q3 3 (by simp)];exact hh.cells 3 v hv
 | 4,hv=>rw [q3 4 (by simp)];exact hh.cells 4 v hv
 | 5,hv=>rw [q3 5 (by simp)];exact hh.cells 5 v hv
 | 6,hv=>exact q2 0 v hv
 | 7,hv=>exact q2 1 v hv
 | j+8,hv=>simp at hv
theorem DAfter.trans {W1 W2:World} {h1 h2:RHist} (a:∃ C1,(∀ x,C1 x→C x∨W.heap.size≤x)∧(∀ x,C x→C1 x)∧DAfter C1 W1 W2 c kv h2) (m:Mod (fun z=>z=c) W W1):DAfter C W W2 c kv h2:=by
 obtain ⟨C1,e1,e2,C2,e3,e4,e5,m2⟩:=a
 refine ⟨C2,fun x hx=>?_,fun x hx=>e4 x (e2 x hx),e5,m.trans m2⟩
 have:=m.size
 rcases e3 x hx with e | e
 ·exact e1 x e
 ·exact .inr (by omega)
set_option maxRecDepth 20000 in
theorem dkeep_ok {dv uu:Value} (hh:RHR C W c kv uv rv od ou h) (hg:RGrp C W [dv,uu] g) (hl:h.us.length≤h.max) (hm:h.max≤65536) :
  callK Tryz.prog 57 [.pointer (some ⟨c,0,none⟩),.agg #[dv,uu]] (fun _ w'=>DAfter C W w' c kv { h with us:=keepL h.max h.us g }) W:=by
 apply S57_ok
 unfold S57
 refine boxn_i (vs:=[dv,uu]) fun b w1 hb hz1 g1 hc1 _=>?_
 have gd:Grow w1 w1.drew:=Mod.drew _ _
 have hh1:=hh.grow (g1.trans gd)
 have zd:w1.drew.heap.size=w1.heap.size:=rfl
 refine JoinK_i (fun _ w2=>DAfter C W w2 c kv { h with us:=h.us++[g] }) ?_ ?_
 ·rintro _ w2 hd2 _
  refine LoopK_i (fun _ w3=>∃ q:Nat,q≤1∧(q=1→h.us.length=h.max)∧DAfter C W w3 c kv { h with us:=(h.us++[g]).drop q }) (fun _ w=>cellLen c w) ⟨0,by omega,fun e=>by omega,hd2⟩ ?_
  clear hd2
  rintro _ w3 ⟨q,hq,hq1,C3,hC3,hC3',⟨uv3,rv3,od3,ou3,hr3⟩,m3⟩ _
  have gd3:Grow w3 w3.drew:=Mod.drew _ _
  have hr4:=hr3.grow gd3
  obtain ⟨ua,uc,rfl,hml⟩:=hr3.und.shape
  refine drawK_i (fun W=>W=w3.drew) rfl ?_
  refine nilckK_s ?_
  rw [faK_i,addr0]
  refine qld1K_i (fun _ e=>by subst e;exact hr4.cells 2 _ rfl) ?_
  rw [lenK_i]
  refine nilckK_s ?_
  rw [faK_i,addr0]
  refine qld1K_i (fun _ e=>by subst e;exact hr4.cells 1 _ rfl) ?_
  rw [gtK_i]
  rintro _ rfl
  have hlen:((h.us++[g]).drop q).length=h.us.length+1 - q:=by simp
  dsimp only at hr4 hr3 ⊢
  rw [hlen] at hml ⊢
  refine condK_p (fun hgt=>?_) fun hle=>?_
  ·obtain rfl:q=0:=by
    rcases Nat.lt_or_ge q 1 with e | e
    ·omega
    ·have e1:q=1:=by omega
     have:=hq1 e1
     omega
   have hmx:h.us.length=h.max:=by omega
   refine rowK_empty ?_
   have ga:Grow w3.drew (w3.drew.alloc (.cells #[] TGr)):=Mod.alloc _ _ _
   have hr5:=hr4.grow ga
   refine nilckK_s ?_
   rw [faK_i,addr0]
   refine ld1K_i (hr5.cells 2 _ rfl) ?_
   refine slice_lo (j:=1) (e:=TGr) (k:=2) (i:=Tryz.t54) (by kernel_rfl) (by kernel_rfl) (by kernel_rfl) hr5.und (by simp) fun v' hv'=>?_
   obtain ⟨v6,w6,h1,h2,h3,h4⟩:=append_new (ty:=52) (b:=w3.drew.heap.size) elem_gr (by show (Array.push _ _)[_]?=_;exact Array.getElem?_push_size) hv' (fun _ _ _=>RGrp.one) (by simp;omega) (fun w2 hg2 r y hr=>hr.mod (Mod.of_grownBy hg2) fun x hx hC' e=>by have:=(hr4.nc x hC').2;simp only [Option.some.injEq] at e;omega)
   refine runK_i h1 (nilckK_s ?_)
   rw [faK_i,addr0]
   refine hr4.setU (ga.trans h3) h2 fun W' hr' m'=>?_
   have mm:Mod (fun z=>z=c) w3 W':=((gd3.trans (ga.trans h3)).mono fun _ _ e=>e.elim).trans m'
   refine ⟨⟨1,by omega,fun _=>hmx,DAfter.trans (h1:=h) ⟨C3,hC3,hC3',_,fun x hx=>?_,fun x hx=>.inl hx,⟨_,_,_,_,hr'⟩,mm⟩ m3⟩,?_⟩
   ·rcases hx with e | e
    ·exact .inl e
    ·exact .inr e.1
   ·rw [hr'.len,hr3.len];simp
  ·have e:keepL h.max h.us g=(h.us++[g]).drop q:=by
    unfold keepL
    rcases Nat.lt_or_ge q 1 with e | e
    ·obtain rfl:q=0:=by omega
     rw [if_pos (by omega),List.drop_zero]
    ·obtain rfl:q=1:=by omega
     rw [if_neg (by have:=hq1 rfl;omega)]
   rw [e]
   exact DAfter.trans (h1:=h) ⟨C3,hC3,hC3',C3,fun x hx=>.inl hx,fun x hx=>hx,⟨_,_,_,_,hr4⟩,gd3.mono fun _ _ e=>e.elim⟩ m3
 ·refine drawC_i (fun k y=>(k=12∧y=c)∨(k=9∧w1.heap.size≤y)) ?_
  refine nilckK_s ?_
  rw [faK_i,addr0]
  refine sld1_i ⟨hh1.cells 2 _ rfl,fun j hj e=>by rcases e with ⟨rfl,_⟩ | ⟨rfl,_⟩ <;> exact absurd hj (by decide)⟩ ?_
  refine sldn_i (vs:=[dv,uu]) rfl (fun j u hu=>⟨gd.cell (hc1 j u hu) fun h=>h,fun j hj e=>by rcases e with ⟨rfl,_⟩ | ⟨rfl,_⟩ <;> exact absurd hj (by decide)⟩) ?_
  refine tree_ok (r:=[dv,uu]) (M:=fun k y=>(k=12∧y=c)∨(k=9∧w1.heap.size≤y)) hh1.und (hg.mod (g1.trans gd) fun _ _ _ h=>h) (fun z hz=>(hh1.nc z hz).2) (by omega) (fun z hz=>.inr ⟨rfl,hz⟩) ?_
  intro v' W' ho hgr
  refine nilckK_s ?_
  rw [faK_i,addr0]
  refine hh1.setU hgr ho fun W2 hr2 m2=>⟨m2.mono fun x _ e=>.inl ⟨rfl,e⟩,_,fun x hx=>?_,fun x hx=>.inl hx,⟨_,_,_,_,hr2⟩,(((g1.trans gd).trans hgr).mono fun _ _ e=>e.elim).trans m2⟩
  rcases hx with e | e
  ·exact .inl e
  ·exact .inr (by omega)
def pushD (keys:List DKey) (h:RHist) (g:Grp):RHist:=
 if h.op then { h with rs:=[],has:=true,own:=if h.has then ⟨cmpD keys h.own.d g.d,cmpD keys g.u h.own.u⟩ else g }
 else { h with rs:=[],us:=keepL h.max h.us g }
set_option maxRecDepth 20000 in
theorem dpush_ok {S0:Nat→Prop} {keys:List DKey} {T T':Nat} {dv uu:Value} (hh:RHR C W c kv uv rv od ou h) (hk:RKeys S0 W kv keys) (hS:∀ z,S0 z→z≠c) (h64:keys.length≤64) (hg:RGrp C W [dv,uu] g) (hl:h.us.length≤h.max) (hm:h.max≤65536)
  (gg:GoodG keys T g) (go:h.op=true→h.has=true→GoodG keys T' h.own) (hb:T+T'≤100000) :
  callK Tryz.prog 26 [.pointer (some ⟨c,0,none⟩),dv,uu] (fun _ w'=>DAfter C W w' c kv (pushD keys h g)) W:=by
 apply S26_ok
 unfold S26
 obtain ⟨a1,n1,c1,a2,n2,c2,e⟩:=hg.shp
 obtain ⟨rfl,rfl⟩:dv=.slice a1 n1 c1∧uu=.slice a2 n2 c2:=by simpa using e
 clear e
 refine nilckK_s ?_
 rw [faK_i,addr0]
 refine hh.set (kv':=kv) (q:=3) (h':={ h with rs:=[] }) (by decide) rfl rfl rfl hh.und SlR.nil hh.own fun w1 hr1 m1=>nilckK_s ?_
 have nC:∀ z,z < W.heap.size→C z→¬ z=c:=fun z _ hz e=>(hh.nc z hz).1 e
 have hg1:=hg.mod m1 nC
 have hk1:RKeys S0 w1 kv keys:=hk.mod m1 (fun z _ hz e=>hS z hz e) (by decide) fun _ _ h=>h
 rw [faK_i,addr0]
 refine ld1K_i (hr1.cells 4 _ rfl) ?_
 rw [notK_i]
 unfold pushD
 cases hop:h.op with
 | false=>
  refine condK_t ⟨#[.slice a1 n1 c1,.slice a2 n2 c2],by kernel_rfl,?_⟩
  refine callK_mono (dkeep_ok hr1 hg1 hl hm) ?_
  rintro _ w3 hd
  exact DAfter.trans (h1:=h) ⟨C,fun x hx=>.inl hx,fun x hx=>hx,by simpa [hop] using hd⟩ m1
 | true=>
  refine condK_f (nilckK_s ?_)
  rw [faK_i,addr0]
  refine ld1K_i (hr1.cells 5 _ rfl) ?_
  cases hhas:h.has with
  | false=>
   refine condK_f ⟨#[.slice a1 n1 c1,.slice a2 n2 c2],by kernel_rfl,nilckK_s ?_⟩
   rw [faK_i,addr0]
   refine hr1.setOwn hg1 fun w2 hr2 m2=>nilckK_s ?_
   rw [faK_i,addr0]
   refine hr2.set (kv':=kv) (q:=5) (h':={ h with rs:=[],has:=true,own:=g }) (by decide) rfl rfl (by simp) hr2.und hr2.red hr2.own fun w3 hr3 m3=>?_
   exact ⟨C,fun x hx=>.inl hx,fun x hx=>hx,⟨_,_,_,_,by simpa [hop] using hr3⟩,(m1.trans m2).trans m3⟩
  | true=>
   have ga:=go hop hhas
   obtain ⟨od',ou',e0,hod,hou⟩:=id hr1.own
   obtain ⟨rfl,rfl⟩:od=od'∧ou=ou':=by simpa using e0
   clear e0
   obtain ⟨dv',uu',e0,hgd,hgu⟩:=id hg1
   obtain ⟨rfl,rfl⟩:.slice a1 n1 c1=dv'∧.slice a2 n2 c2=uu':=by simpa using e0
   clear e0
   dsimp only at hod hou
   have gd:Grow w1 w1.drew:=Mod.drew _ _
   have hr2:=hr1.grow gd
   have q1:=gg.2.2.1
   have q2:=gg.2.2.2
   have q3:=ga.2.2.1
   have q4:=ga.2.2.2
   refine condK_t ?_
   refine drawC_i (fun k y=>k=26∧y=c) ?_
   refine nilckK_s ?_
   rw [faK_i,addr0]
   refine sld1_i ⟨hr2.cells 0 _ rfl,fun j hj e=>by obtain ⟨rfl,_⟩:=e;exact absurd hj (by decide)⟩ ?_
   refine nilckK_s ?_
   rw [faK_i,addr0,faK_i,addr_at]
   refine sld1_i ⟨hr2.cells 6 _ rfl,fun j hj e=>by obtain ⟨rfl,_⟩:=e;exact absurd hj (by decide)⟩ ?_
   refine callK_mono (rcompose_ok h64 (hk1.grow gd (by decide) fun _ _ h=>h) (RDops.grow hod gd) (RDops.grow hgd gd) (fun o ho=>(ga.1 o ho).1) (fun o ho=>(gg.1 o ho).1) (by omega)) ?_
   rintro vd w5 ⟨ovd,g5⟩
   refine ⟨g5.mono fun _ _ h=>h.elim,nilckK_s ?_⟩
   rw [faK_i,addr0]
   refine sld1_i ⟨hr2.cells 0 _ rfl,fun j hj e=>by obtain ⟨rfl,_⟩:=e;exact absurd hj (by decide)⟩ ?_
   refine nilckK_s ?_
   rw [faK_i,addr0,faK_i,addr_at]
   refine sld1_i ⟨hr2.cells 7 _ rfl,fun j hj e=>by obtain ⟨rfl,_⟩:=e;exact absurd hj (by decide)⟩ ?_
   have gd5:=gd.trans g5
   refine callK_mono (rcompose_ok h64 (hk1.grow gd5 (by decide) fun _ _ h=>h) (RDops.grow hgu gd5) (RDops.grow hou gd5) (fun o ho=>(gg.2.1 o ho).1) (fun o ho=>(ga.2.1 o ho).1) (by omega)) ?_
   rintro vu w6 ⟨ovu,g6⟩
   refine ⟨g6.mono fun _ _ h=>h.elim,?_⟩
   obtain ⟨da,dc,ed,_⟩:=(ODops.sl ovd).shape
   obtain ⟨ua,uc,eu,_⟩:=(ODops.sl ovu).shape
   refine ⟨#[vd,vu],by rw [ed,eu];kernel_rfl,nilckK_s ?_⟩
   rw [faK_i,addr0]
   have gd6:=gd5.trans g6
   have hr6:=hr1.ext gd6
   have z5:=g5.size
   have z6:=g6.size
   have zd:w1.drew.heap.size=w1.heap.size:=rfl
   refine hr6.setOwn (g:=⟨cmpD keys h.own.d g.d,cmpD keys g.u h.own.u⟩) ⟨vd,vu,rfl,?_,?_⟩ fun w7 hr7 m7=>⟨m7.mono fun x _ e=>⟨rfl,e⟩,nilckK_s ?_⟩
   ·exact (ODops.reads ovd).to g6 (fun _ _ _ h=>h) (fun _ _ _ h=>h) (fun x _ hx=>.inr ⟨by have:=hx.1;omega,by have:=hx.2;omega⟩) fun x _ hx=>.inr ⟨by have:=hx.1;omega,by have:=hx.2;omega⟩
   ·exact (ODops.reads ovu).to (Mod.refl (fun _=>False) _) (fun _ _ _ h=>h) (fun _ _ _ h=>h) (fun x _ hx=>.inr ⟨by have:=hx.1;omega,by have:=hx.2;omega⟩) fun x _ hx=>.inr ⟨by have:=hx.1;omega,by have:=hx.2;omega⟩
   rw [faK_i,addr0]
   refine hr7.set (kv':=kv) (q:=5) (h':={ h with rs:=[],has:=true,own:=⟨cmpD keys h.own.d g.d,cmpD keys g.u h.own.u⟩ }) (by decide) rfl rfl (by simp) hr7.und hr7.red hr7.own fun w8 hr8 m8=>?_
   refine ⟨fun z=>C z∨(w1.heap.size≤z∧z < w6.heap.size),fun x hx=>?_,fun x hx=>.inl hx,⟨_,_,_,_,by simpa [hop,hhas] using hr8⟩,(((m1.next gd6 fun _ _ e=>e.elim)).trans m7).trans m8⟩
   have:=m1.size
   rcases hx with e | e
   ·exact .inl e
   ·exact .inr (by omega)
theorem dbegin_ok (hh:RHR C W c kv uv rv od ou h) :
  callK Tryz.prog 28 [.pointer (some ⟨c,0,none⟩)] (fun v' w'=>(h.op=true∧v'=.int .i64 9∧w'=W)∨(h.op=false∧v'=.int .i64 0∧DAfter C W w' c kv { h with op:=true,has:=false })) W:=by
 apply S28_ok
 unfold S28
 refine nilckK_s ?_
 rw [faK_i,addr0]
 refine ld1K_i (hh.cells 4 _ rfl) ?_
 cases hop:h.op with
 | true=>exact condK_t (.inl ⟨rfl,rfl,rfl⟩)
 | false=>
  refine condK_f (nilckK_s ?_)
  rw [faK_i,addr0]
  refine hh.set (kv':=kv) (q:=4) (h':={ h with op:=true }) (by decide) rfl rfl rfl hh.und hh.red hh.own fun w1 hr1 m1=>nilckK_s ?_
  rw [faK_i,addr0]
  refine hr1.set (kv':=kv) (q:=5) (h':={ h with op:=true,has:=false }) (by decide) rfl rfl rfl hr1.und hr1.red hr1.own fun w2 hr2 m2=>?_
  exact .inr ⟨rfl,rfl,C,fun x hx=>.inl hx,fun x hx=>hx,⟨_,_,_,_,hr2⟩,m1.trans m2⟩
theorem dend_ok (hh:RHR C W c kv uv rv od ou h) (hl:h.us.length≤h.max) (hm:h.max≤65536) :
  callK Tryz.prog 30 [.pointer (some ⟨c,0,none⟩)] (fun v' w'=>(h.op=false∧v'=.int .i64 9∧w'=W)∨(h.op=true∧v'=.int .i64 0∧DAfter C W w' c kv { h with us:=if h.has then keepL h.max h.us h.own else h.us,op:=false,has:=false })) W:=by
 apply S30_ok
 unfold S30
 refine nilckK_s ?_
 rw [faK_i,addr0]
 refine ld1K_i (hh.cells 4 _ rfl) ?_
 rw [notK_i]
 cases hop:h.op with
 | false=>exact condK_t (.inl ⟨rfl,rfl,rfl⟩)
 | true=>
  refine condK_f ?_
  refine JoinK_i (fun _ w2=>DAfter C W w2 c kv { h with us:=if h.has then keepL h.max h.us h.own else h.us }) ?_ ?_
  ·rintro _ w2 ⟨C2,hC2,hC2',⟨uv2,rv2,od2,ou2,hr2⟩,m2⟩ _
   refine nilckK_s ?_
   rw [faK_i,addr0]
   refine hr2.set (kv':=kv) (q:=4) (h':={ h with us:=if h.has then keepL h.max h.us h.own else h.us,op:=false }) (by decide) rfl rfl rfl hr2.und hr2.red hr2.own fun w3 hr3 m3=>nilckK_s ?_
   rw [faK_i,addr0]
   refine hr3.set (kv':=kv) (q:=5) (h':={ h with us:=if h.has then keepL h.max h.us h.own else h.us,op:=false,has:=false }) (by decide) rfl rfl rfl hr3.und hr3.red hr3.own fun w4 hr4 m4=>?_
   exact .inr ⟨rfl,rfl,C2,hC2,hC2',⟨_,_,_,_,hr4⟩,(m2.trans m3).trans m4⟩
  ·refine nilckK_s ?_
   rw [faK_i,addr0]
   refine ld1K_i (hh.cells 5 _ rfl) ?_
   cases hhas:h.has with
   | false=>exact condK_f ⟨C,fun x hx=>.inl hx,fun x hx=>hx,⟨uv,rv,od,ou,by show RHR C W c kv uv rv od ou { h with has:=false };rw [←hhas];exact hh⟩,Mod.refl _ _⟩
   | true=>
    refine condK_t (nilckK_s ?_)
    rw [faK_i,addr0]
    refine ldnK_i (vs:=[od,ou]) rfl (fun j u hu=>?_) ?_
    ·rw [addr_at]
     match j,hu with
     | 0,hu=>exact hh.cells 6 u hu
     | 1,hu=>exact hh.cells 7 u hu
     | j+2,hu=>simp at hu
    refine callK_mono (dkeep_ok hh hh.own hl hm) ?_
    rintro _ w3 hd
    simpa [hhas] using hd
end
end Go.Proofs.YtlbaopamhkmepaaGreatDoor

namespace Go.Proofs.YtlbaopamhkmepaaGreatDoor
open Go Go.K
section
variable {C C' M:Nat→Prop} {W W' W0:World} {c:Nat} {kv uv rv od ou:Value} {h:RHist} {g:Grp}

set_option maxRecDepth 20000 in
theorem dback_ok (hh:RHR C W c kv uv rv od ou h) (hl1:h.us.length≤100000) (hl2:h.rs.length≤100000) :
  callK Tryz.prog 31 [.pointer (some ⟨c,0,none⟩)] (fun v' w'=>(h.op=true∧v'=.tuple #[.slice none 0 0,.int .i64 9]∧w'=W)∨(h.op=false∧h.us=[]∧v'=.tuple #[.slice none 0 0,.int .i64 10]∧w'=W)∨
   (h.op=false∧∃ l g zv,h.us=l++[g]∧v'=.tuple #[zv,.int .i64 0]∧DAfter C W w' c kv { h with us:=l,rs:=h.rs++[g] }∧RDops C C w' zv g.u)) W:=by
 apply S31_ok
 unfold S31
 refine nilckK_s ?_
 rw [faK_i,addr0]
 refine ld1K_i (hh.cells 4 _ rfl) ?_
 cases hop:h.op with
 | true=>exact condK_t (.inl ⟨rfl,rfl,rfl⟩)
 | false=>
  refine condK_f (nilckK_s ?_)
  rw [faK_i,addr0]
  obtain ⟨ua,uc,rfl,hml⟩:=hh.und.shape
  refine ld1K_i (hh.cells 2 _ rfl) ?_
  rw [lenK_i,eqK_i]
  refine condK_p (fun h0=>.inr (.inl ⟨rfl,List.eq_nil_of_length_eq_zero (by omega),rfl,rfl⟩)) fun h0=>?_
  obtain ⟨l,g,hlg⟩:∃ l g,h.us=l++[g]:=⟨h.us.dropLast,h.us.getLast (fun e=>h0 (by rw [e];rfl)),(List.dropLast_concat_getLast _).symm⟩
  have hlen:h.us.length=l.length+1:=by rw [hlg];simp
  have nC:∀ z,z < W.heap.size→C z→¬ z=c:=fun z _ hz e=>(hh.nc z hz).1 e
  refine nilckK_s ?_
  rw [faK_i,addr0]
  refine ld1K_i (hh.cells 2 _ rfl) ?_
  have hn:((h.us.length:Nat):Int) - 1=((l.length:Nat):Int):=by omega
  rw [subK_i,hn,wrap64 (by simp only [maxLen] at hml;omega) (by simp only [maxLen] at hml;omega)]
  have hlt:l.length < h.us.length:=by omega
  obtain ⟨p,r,rfl,_,hr2,hcr,hgr⟩:=hh.und.get hlt
  have hgl:h.us[l.length]=g:=by simp [hlg]
  rw [hgl] at hgr
  refine ixK_n hlt (ldnK_i hr2 (fun j u hu=>by rw [Addr.add_add];exact hcr j u hu) ?_)
  refine newst_n hr2 rfl hgr.one fun b w6 hb hz6 g6 hc6 _=>?_
  refine rowK_empty ?_
  have ga:Grow w6 (w6.alloc (.cells #[] TGr)):=Mod.alloc _ _ _
  have g07:=g6.trans ga
  have hh7:=hh.grow g07
  have hh6:=hh.grow g6
  refine nilckK_s ?_
  rw [faK_i,addr0]
  refine ld1K_i (hh7.cells 2 _ rfl) ?_
  rw [subK_i,hn,wrap64 (by simp only [maxLen] at hml;omega) (by simp only [maxLen] at hml;omega)]
  refine slice_hi (j:=l.length) (e:=TGr) (k:=2) (i:=Tryz.t54) (by kernel_rfl) (by kernel_rfl) (by kernel_rfl) hh7.und (by omega) fun v' hv'=>?_
  have htake:h.us.take l.length=l:=by rw [hlg];simp
  rw [htake] at hv'
  obtain ⟨v8,w8,h1,h2,h3,h4⟩:=append_new (ty:=52) (b:=w6.heap.size) elem_gr (by show (Array.push _ _)[_]?=_;exact Array.getElem?_push_size) hv' (fun _ _ _=>RGrp.one) (by omega) (fun w2 hg2 r y hr=>hr.mod (Mod.of_grownBy hg2) fun x hx hC' e=>by have:=(hh6.nc x hC').2;simp only [Option.some.injEq] at e;omega)
  refine runK_i h1 (nilckK_s ?_)
  rw [faK_i,addr0]
  refine hh6.setU (ga.trans h3) h2 fun w9 hr9 m9=>?_
  have z6:=g6.size
  have z8:=(ga.trans h3).size
  have z9:=m9.size
  have m09:Mod (fun z=>z=c) W w9:=(((g6.trans (ga.trans h3)).mono fun _ _ e=>e.elim).trans m9)
  have hltc:=hh.lt
  have hcb:b≠c:=by omega
  have hc9:∀ j v,r[j]?=some v→w9.cell? ((⟨b,0,none⟩:Addr).add j)=some v:=fun j v hv=>m9.cell ((ga.trans h3).cell (hc6 j v hv) fun h=>h) (by rw [add_block];exact hcb)
  have hg9:=hgr.mod m09 nC
  have gd:Grow w9 w9.drew:=Mod.drew _ _
  have zd:w9.drew.heap.size=w9.heap.size:=rfl
  refine JoinK_i (fun _ w2=>DAfter C W w2 c kv { h with us:=l,rs:=h.rs++[g] }∧(∀ j v,r[j]?=some v→w2.cell? ((⟨b,0,none⟩:Addr).add j)=some v)∧RGrp C w2 r g) ?_ ?_
  ·rintro _ w12 ⟨hd,hc,dv,uu,rfl,q1,q2⟩ _
   rw [faK_i]
   refine ld1K_i (hc 1 _ rfl) ?_
   exact .inr (.inr ⟨rfl,l,g,_,hlg,rfl,by rw [←hop];exact hd,q2⟩)
  ·have hr10:=hr9.grow gd
   refine drawC_i (fun k y=>(k=12∧y=c)∨(k=9∧w9.heap.size≤y)) ?_
   refine nilckK_s ?_
   rw [faK_i,addr0]
   refine sld1_i ⟨hr10.cells 3 _ rfl,fun j hj e=>by rcases e with ⟨rfl,_⟩ | ⟨rfl,_⟩ <;> exact absurd hj (by decide)⟩ ?_
   refine sldn_i (vs:=r) hr2 (fun j u hu=>⟨gd.cell (hc9 j u hu) fun h=>h,fun j hj e=>by rcases e with ⟨rfl,_⟩ | ⟨rfl,_⟩ <;> exact absurd hj (by decide)⟩) ?_
   refine tree_ok (r:=r) (M:=fun k y=>(k=12∧y=c)∨(k=9∧w9.heap.size≤y)) hr10.red (hg9.to gd (fun _ _ _ h=>h) fun x _ hx=>.inl hx) (fun z hz=>(hr10.nc z hz).2) hl2 (fun z hz=>.inr ⟨rfl,hz⟩) ?_
   intro v' W' ho hgro
   refine nilckK_s ?_
   rw [faK_i,addr0]
   refine hr10.setR hgro ho fun W2 hr2 m2=>⟨m2.mono fun x _ e=>.inl ⟨rfl,e⟩,⟨_,fun x hx=>?_,fun x hx=>.inl (.inl hx),⟨_,_,_,_,hr2⟩,(m09.next (gd.trans hgro) fun _ _ e=>e.elim).trans m2⟩,fun j v hv=>m2.cell ((gd.trans hgro).cell (hc9 j v hv) fun h=>h) (by rw [add_block];exact hcb),(hg9.mod (gd.trans hgro) fun _ _ _ h=>h).mod m2 fun z _ hz e=>(hh.nc z hz).1 e⟩
   rcases hx with (e | e) | e
   ·exact .inl e
   ·exact .inr (by omega)
   ·exact .inr (by omega)

set_option maxRecDepth 20000 in
theorem dagain_ok (hh:RHR C W c kv uv rv od ou h) (hl1:h.us.length≤100000) (hl2:h.rs.length≤100000) :
  callK Tryz.prog 32 [.pointer (some ⟨c,0,none⟩)] (fun v' w'=>(h.op=true∧v'=.tuple #[.slice none 0 0,.int .i64 9]∧w'=W)∨(h.op=false∧h.rs=[]∧v'=.tuple #[.slice none 0 0,.int .i64 10]∧w'=W)∨
   (h.op=false∧∃ l g zv,h.rs=l++[g]∧v'=.tuple #[zv,.int .i64 0]∧DAfter C W w' c kv { h with rs:=l,us:=h.us++[g] }∧RDops C C w' zv g.d)) W:=by
 apply S32_ok
 unfold S32
 refine nilckK_s ?_
 rw [faK_i,addr0]
 refine ld1K_i (hh.cells 4 _ rfl) ?_
 cases hop:h.op with
 | true=>exact condK_t (.inl ⟨rfl,rfl,rfl⟩)
 | false=>
  refine condK_f (nilckK_s ?_)
  rw [faK_i,addr0]
  obtain ⟨ua,uc,rfl,hml⟩:=hh.red.shape
  refine ld1K_i (hh.cells 3 _ rfl) ?_
  rw [lenK_i,eqK_i]
  refine condK_p (fun h0=>.inr (.inl ⟨rfl,List.eq_nil_of_length_eq_zero (by omega),rfl,rfl⟩)) fun h0=>?_
  obtain ⟨l,g,hlg⟩:∃ l g,h.rs=l++[g]:=⟨h.rs.dropLast,h.rs.getLast (fun e=>h0 (by rw [e];rfl)),(List.dropLast_concat_getLast _).symm⟩
  have hlen:h.rs.length=l.length+1:=by rw [hlg];simp
  have nC:∀ z,z < W.heap.size→C z→¬ z=c:=fun z _ hz e=>(hh.nc z hz).1 e
  refine nilckK_s ?_
  rw [faK_i,addr0]
  refine ld1K_i (hh.cells 3 _ rfl) ?_
  have hn:((h.rs.length:Nat):Int) - 1=((l.length:Nat):Int):=by omega
  rw [subK_i,hn,wrap64 (by simp only [maxLen] at hml;omega) (by simp only [maxLen] at hml;omega)]
  have hlt:l.length < h.rs.length:=by omega
  obtain ⟨p,r,rfl,_,hr2,hcr,hgr⟩:=hh.red.get hlt
  have hgl:h.rs[l.length]=g:=by simp [hlg]
  rw [hgl] at hgr
  refine ixK_n hlt (ldnK_i hr2 (fun j u hu=>by rw [Addr.add_add];exact hcr j u hu) ?_)
  refine newst_n hr2 rfl hgr.one fun b w6 hb hz6 g6 hc6 _=>?_
  refine rowK_empty ?_
  have ga:Grow w6 (w6.alloc (.cells #[] TGr)):=Mod.alloc _ _ _
  have g07:=g6.trans ga
  have hh7:=hh.grow g07
  have hh6:=hh.grow g6
  refine nilckK_s ?_
  rw [faK_i,addr0]
  refine ld1K_i (hh7.cells 3 _ rfl) ?_
  rw [subK_i,hn,wrap64 (by simp only [maxLen] at hml;omega) (by simp only [maxLen] at hml;omega)]
  refine slice_hi (j:=l.length) (e:=TGr) (k:=2) (i:=Tryz.t54) (by kernel_rfl) (by kernel_rfl) (by kernel_rfl) hh7.red (by omega) fun v' hv'=>?_
  have htake:h.rs.take l.length=l:=by rw [hlg];simp
  rw [htake] at hv'
  obtain ⟨v8,w8,h1,h2,h3,h4⟩:=append_new (ty:=52) (b:=w6.heap.size) elem_gr (by show (Array.push _ _)[_]?=_;exact Array.getElem?_push_size) hv' (fun _ _ _=>RGrp.one) (by omega) (fun w2 hg2 r y hr=>hr.mod (Mod.of_grownBy hg2) fun x hx hC' e=>by have:=(hh6.nc x hC').2;simp only [Option.some.injEq] at e;omega)
  refine runK_i h1 (nilckK_s ?_)
  rw [faK_i,addr0]
  refine hh6.setR (ga.trans h3) h2 fun w9 hr9 m9=>?_
  have z6:=g6.size
  have z8:=(ga.trans h3).size
  have z9:=m9.size
  have m09:Mod (fun z=>z=c) W w9:=(((g6.trans (ga.trans h3)).mono fun _ _ e=>e.elim).trans m9)
  have hltc:=hh.lt
  have hcb:b≠c:=by omega
  have hc9:∀ j v,r[j]?=some v→w9.cell? ((⟨b,0,none⟩:Addr).add j)=some v:=fun j v hv=>m9.cell ((ga.trans h3).cell (hc6 j v hv) fun h=>h) (by rw [add_block];exact hcb)
  have hg9:=hgr.mod m09 nC
  have gd:Grow w9 w9.drew:=Mod.drew _ _
  have zd:w9.drew.heap.size=w9.heap.size:=rfl
  refine JoinK_i (fun _ w2=>DAfter C W w2 c kv { h with rs:=l,us:=h.us++[g] }∧(∀ j v,r[j]?=some v→w2.cell? ((⟨b,0,none⟩:Addr).add j)=some v)∧RGrp C w2 r g) ?_ ?_
  ·rintro _ w12 ⟨hd,hc,dv,uu,rfl,q1,q2⟩ _
   rw [faK_i]
   refine ld1K_i (hc 0 _ rfl) ?_
   exact .inr (.inr ⟨rfl,l,g,_,hlg,rfl,by rw [←hop];exact hd,q1⟩)
  ·have hr10:=hr9.grow gd
   refine drawC_i (fun k y=>(k=12∧y=c)∨(k=9∧w9.heap.size≤y)) ?_
   refine nilckK_s ?_
   rw [faK_i,addr0]
   refine sld1_i ⟨hr10.cells 2 _ rfl,fun j hj e=>by rcases e with ⟨rfl,_⟩ | ⟨rfl,_⟩ <;> exact absurd hj (by decide)⟩ ?_
   refine sldn_i (vs:=r) hr2 (fun j u hu=>⟨gd.cell (hc9 j u hu) fun h=>h,fun j hj e=>by rcases e with ⟨rfl,_⟩ | ⟨rfl,_⟩ <;> exact absurd hj (by decide)⟩) ?_
   refine tree_ok (r:=r) (M:=fun k y=>(k=12∧y=c)∨(k=9∧w9.heap.size≤y)) hr10.und (hg9.to gd (fun _ _ _ h=>h) fun x _ hx=>.inl hx) (fun z hz=>(hr10.nc z hz).2) hl1 (fun z hz=>.inr ⟨rfl,hz⟩) ?_
   intro v' W' ho hgro
   refine nilckK_s ?_
   rw [faK_i,addr0]
   refine hr10.setU hgro ho fun W2 hr2 m2=>⟨m2.mono fun x _ e=>.inl ⟨rfl,e⟩,⟨_,fun x hx=>?_,fun x hx=>.inl (.inl hx),⟨_,_,_,_,hr2⟩,(m09.next (gd.trans hgro) fun _ _ e=>e.elim).trans m2⟩,fun j v hv=>m2.cell ((gd.trans hgro).cell (hc9 j v hv) fun h=>h) (by rw [add_block];exact hcb),(hg9.mod (gd.trans hgro) fun _ _ _ h=>h).mod m2 fun z _ hz e=>(hh.nc z hz).1 e⟩
   rcases hx with (e | e) | e
   ·exact .inl e
   ·exact .inr (by omega)
   ·exact .inr (by omega)
end
end Go.Proofs.YtlbaopamhkmepaaGreatDoor

namespace Go.K
open Go
def Ty (W:World) (g ty:Nat):Prop:=∃ cur,W.heap[g]?=some (.cells cur ty (0,0))
theorem Ty.set {W:World} {g ty:Nat} (h:Ty W g ty) (A:Addr) (u:Value):Ty (W.setCell A u) g ty:=by
 obtain ⟨cur,h⟩:=h
 by_cases e:A.block=g
 ·subst e
  refine ⟨if A.spot.isSome then cur else cur.setIfInBounds A.off u,?_⟩
  unfold World.setCell
  simp [Array.getElem?_modify,h]
 ·exact ⟨cur,by rw [RowKit.Below.heap_setCell W A u g (Ne.symm e)];exact h⟩
theorem Ty.mod {M:Nat→Prop} {W W':World} {g ty:Nat} (h:Ty W g ty) (hm:Mod M W W') (hn:¬ M g):Ty W' g ty:=by
 obtain ⟨cur,h⟩:=h
 exact ⟨cur,(hm.same g (Array.getElem?_eq_some_iff.1 h).1 hn).trans h⟩
theorem Ty.uniq {W:World} {g ty ty':Nat} (h:Ty W g ty) (h':Ty W g ty'):ty=ty':=by
 obtain ⟨c,h⟩:=h
 obtain ⟨c',h'⟩:=h'
 rw [h] at h'
 cases h';rfl
theorem Ty.live {W:World} {g ty o:Nat} {v:Value} (h:Ty W g ty) (hc:W.cell? ⟨g,o,none⟩=some v):Live W ⟨g,o,none⟩:=by
 obtain ⟨c,h⟩:=h
 exact ⟨by rw [hc];rfl,by simp [World.frozen?,h]⟩
def WL (B E gB ty sz:Nat) (q:IntKind) (W:World) (v:Value) (n:Nat):Prop:=
 ∃ a c,v=.slice a n c∧∀ k,k < n→∃ g',a=some ⟨g',0,none⟩∧g'≠gB∧B≤g'∧g' < E∧Ty W g' ty∧∃ x,W.cell? ⟨g',k * sz,none⟩=some (.int q x)
theorem WL.set {B E gB ty sz ty' g o n:Nat} {q:IntKind} {W:World} {v u:Value} (h:WL B E gB ty sz q W v n) (hg:Ty W g ty') (hu:ty'=ty→∃ x,u=.int q x):WL B E gB ty sz q (W.setCell ⟨g,o,none⟩ u) v n:=by
 obtain ⟨a,c,rfl,h⟩:=h
 refine ⟨a,c,rfl,fun k hk=>?_⟩
 obtain ⟨g',h1,h2,h3,h4,h5,x,h6⟩:=h k hk
 refine ⟨g',h1,h2,h3,h4,h5.set _ _,?_⟩
 by_cases e:(⟨g,o,none⟩:Addr)=⟨g',k * sz,none⟩
 ·simp only [Addr.mk.injEq,and_true] at e
  obtain ⟨rfl,rfl⟩:=e
  obtain ⟨y,rfl⟩:=hu (hg.uniq h5)
  exact ⟨y,World.cell?_setCell_same _ _ _ h6⟩
 ·exact ⟨x,by rw [World.cell?_setCell_other _ _ _ _ e];exact h6⟩
theorem WL.mod {B E gB ty sz n:Nat} {q:IntKind} {M:Nat→Prop} {W W':World} {v:Value} (h:WL B E gB ty sz q W v n) (hm:Mod M W W') (hM:∀ b,B≤b→b < E→¬ M b):WL B E gB ty sz q W' v n:=by
 obtain ⟨a,c,rfl,h⟩:=h
 refine ⟨a,c,rfl,fun k hk=>?_⟩
 obtain ⟨g',h1,h2,h3,h4,h5,x,h6⟩:=h k hk
 exact ⟨g',h1,h2,h3,h4,h5.mod hm (hM g' h3 h4),x,hm.cell h6 (hM g' h3 h4)⟩
theorem OwnR.wl {α:Type} {B B' gB e k:Nat} {q:IntKind} {R:World→List Value→α→Prop} {w:World} {v:Value} {l:List α} (h:OwnR B e k R w v l) (hk:0 < k) (hR:∀ r x,R w r x→∃ y,r[0]?=some (.int q y))
  (hg:∀ g,v.ownBlock=some g→g≠gB∧B'≤g):WL B' w.heap.size gB e k q w v l.length:=by
 obtain ⟨rows,h1,h2,h3,h4⟩:=id h
 rcases h1.2 with ⟨rfl,hn⟩ | ⟨g,cap,cur,rfl,hb,hh,hn,hm,_⟩
 ·exact ⟨none,0,by rw [hn],fun k hk=>by omega⟩
 ·obtain ⟨e1,e2⟩:=hg g rfl
  refine ⟨_,cap,rfl,fun i hi=>⟨g,rfl,e1,e2,(Array.getElem?_eq_some_iff.1 hh).1,⟨cur,hh⟩,?_⟩⟩
  obtain ⟨r,hr,hc,hx,_⟩:=OwnR.cellsOf h hi
  obtain ⟨y,hy⟩:=hR r _ hx
  exact ⟨y,hc 0 _ hy⟩
end Go.K
namespace Go.Proofs.YtlbaopamhkmepaaGreatDoor
open Go Go.K

structure WOp (B E gB:Nat) (W:World) (o:Dop) (rv sv pv:Value):Prop where
 r:WL B E gB 21 1 .i32 W rv o.runes.length
 s:WL B E gB 109 5 .i64 W sv o.set.length
 p:WL B E gB 111 6 .i64 W pv o.patch.length
theorem ODop.wop {B gB:Nat} {D:Nat→Prop} {w:World} {r:List Value} {o:Dop} (h:ODop D w r o) (hD:∀ b,D b→b≠gB∧B≤b):∃ rv sv pv,r=[.int .u8 o.kind,.int .i64 o.n,rv,sv,pv]∧WOp B w.heap.size gB w o rv sv pv:=by
 obtain ⟨rv,sv,pv,rfl,⟨h1,d1⟩,⟨h2,d2⟩,⟨h3,d3⟩⟩:=h
 exact ⟨rv,sv,pv,rfl,OwnR.wl h1 (by decide) (fun r x e=>⟨x,by rw [e];rfl⟩) fun g hg=>hD g (d1 g hg),OwnR.wl h2 (by decide) (fun r x e=>⟨x.key,by rw [e];rfl⟩) fun g hg=>hD g (d2 g hg),OwnR.wl h3 (by decide) (fun r x e=>⟨x.key,by rw [e];rfl⟩) fun g hg=>hD g (d3 g hg)⟩
structure WOps (B E gB:Nat) (W:World) (l:List Dop) (rs ss ps:Nat→Value):Prop where
 lo:B≤gB
 hi:gB < E
 ty:Ty W gB 39
 n:∀ i,i < l.length→∃ x,W.cell? ⟨gB,i * 5+1,none⟩=some (.int .i64 x)
 cr:∀ i,i < l.length→W.cell? ⟨gB,i * 5+2,none⟩=some (rs i)
 cs:∀ i,i < l.length→W.cell? ⟨gB,i * 5+3,none⟩=some (ss i)
 cp:∀ i,i < l.length→W.cell? ⟨gB,i * 5+4,none⟩=some (ps i)
 op:∀ i (hi:i < l.length),WOp B E gB W l[i] (rs i) (ss i) (ps i)
theorem WOp.set {B E gB ty' g o:Nat} {W:World} {op:Dop} {rv sv pv u:Value} (h:WOp B E gB W op rv sv pv) (hg:Ty W g ty') (h1:ty'=21→∃ x,u=.int .i32 x) (h2:ty'=109→∃ x,u=.int .i64 x) (h3:ty'=111→∃ x,u=.int .i64 x) :
  WOp B E gB (W.setCell ⟨g,o,none⟩ u) op rv sv pv:=⟨h.r.set hg h1,h.s.set hg h2,h.p.set hg h3⟩
theorem WOps.mod {B E gB:Nat} {M:Nat→Prop} {W W':World} {l:List Dop} {rs ss ps:Nat→Value} (h:WOps B E gB W l rs ss ps) (hm:Mod M W W') (hM:∀ b,B≤b→b < E→¬ M b):WOps B E gB W' l rs ss ps where
 lo:=h.lo
 hi:=h.hi
 ty:=h.ty.mod hm (hM gB h.lo h.hi)
 n i hi:=by obtain ⟨x,hx⟩:=h.n i hi;exact ⟨x,hm.cell hx (hM gB h.lo h.hi)⟩
 cr i hi:=hm.cell (h.cr i hi) (hM gB h.lo h.hi)
 cs i hi:=hm.cell (h.cs i hi) (hM gB h.lo h.hi)
 cp i hi:=hm.cell (h.cp i hi) (hM gB h.lo h.hi)
 op i hi:=⟨(h.op i hi).r.mod hm hM,(h.op i hi).s.mod hm hM,(h.op i hi).p.mod hm hM⟩
theorem WOps.setL {B E gB ty' g o:Nat} {W:World} {l:List Dop} {rs ss ps:Nat→Value} {u:Value} (h:WOps B E gB W l rs ss ps) (hne:g≠gB) (hg:Ty W g ty') (h1:ty'=21→∃ x,u=.int .i32 x) (h2:ty'=109→∃ x,u=.int .i64 x) (h3:ty'=111→∃ x,u=.int .i64 x) :
  WOps B E gB (W.setCell ⟨g,o,none⟩ u) l rs ss ps:=by
 have k:∀ {j:Nat} {v:Value},W.cell? ⟨gB,j,none⟩=some v→(W.setCell ⟨g,o,none⟩ u).cell? ⟨gB,j,none⟩=some v:=fun hv=>by rw [World.cell?_setCell_other _ _ _ _ (fun e=>hne (by simp only [Addr.mk.injEq] at e;exact e.1))];exact hv
 exact ⟨h.lo,h.hi,h.ty.set _ _,fun i hi=>by obtain ⟨x,hx⟩:=h.n i hi;exact ⟨x,k hx⟩,fun i hi=>k (h.cr i hi),fun i hi=>k (h.cs i hi),fun i hi=>k (h.cp i hi),fun i hi=>(h.op i hi).set hg h1 h2 h3⟩
theorem WOps.setN {B E gB i:Nat} {W:World} {l:List Dop} {rs ss ps:Nat→Value} (h:WOps B E gB W l rs ss ps) (x:Int):WOps B E gB (W.setCell ⟨gB,i * 5+1,none⟩ (.int .i64 x)) l rs ss ps:=by
 have k:∀ {j q:Nat} {v:Value},q < 5→q≠1→W.cell? ⟨gB,j * 5+q,none⟩=some v→(W.setCell ⟨gB,i * 5+1,none⟩ (.int .i64 x)).cell? ⟨gB,j * 5+q,none⟩=some v:=fun h5 hq hv=>by rw [World.cell?_setCell_other _ _ _ _ (fun e=>by simp only [Addr.mk.injEq] at e;omega)];exact hv
 refine ⟨h.lo,h.hi,h.ty.set _ _,fun j hj=>?_,fun i hi=>k (by decide) (by decide) (h.cr i hi),fun i hi=>k (by decide) (by decide) (h.cs i hi),fun i hi=>k (by decide) (by decide) (h.cp i hi),fun i hi=>(h.op i hi).set h.ty (fun e=>absurd e (by decide)) (fun e=>absurd e (by decide)) fun e=>absurd e (by decide)⟩
 obtain ⟨y,hy⟩:=h.n j hj
 by_cases e:j=i
 ·subst e;exact ⟨x,World.cell?_setCell_same _ _ _ hy⟩
 ·exact ⟨y,by rw [World.cell?_setCell_other _ _ _ _ (fun e=>by simp only [Addr.mk.injEq] at e;omega)];exact hy⟩
theorem ODops.wr {B:Nat} {W:World} {m:Value} {l:List Dop} (h:ODops B W m l):∃ a c,m=.slice a l.length c∧(0 < l.length→∃ gB rs ss ps,a=some ⟨gB,0,none⟩∧WOps B W.heap.size gB W l rs ss ps):=by
 obtain ⟨a,c,rfl,_⟩:=OwnR.shape h
 refine ⟨a,c,rfl,fun h0=>?_⟩
 obtain ⟨rows,h1,_⟩:=id h
 rcases h1.2 with ⟨_,hn⟩ | ⟨gB,cap,cur,e,hb,hh,hn,hm,_⟩
 ·omega
 ·cases e
  have one:∀ i (hi:i < l.length),∃ rv sv pv,(∀ j u,[Value.int .u8 l[i].kind,.int .i64 l[i].n,rv,sv,pv][j]?=some u→W.cell? ⟨gB,i * 5+j,none⟩=some u)∧WOp B W.heap.size gB W l[i] rv sv pv:=by
   intro i hi
   obtain ⟨r,hr,hc,hx,_⟩:=OwnR.cellsOf h hi
   obtain ⟨rv,sv,pv,rfl,hw⟩:=hx.wop (B:=B) (gB:=gB) fun b hb=>⟨fun e=>hb.2 (by rw [e];rfl),hb.1⟩
   exact ⟨rv,sv,pv,hc,hw⟩
  let rs:Nat→Value:=fun i=>if hi:i < l.length then (one i hi).choose else .slice none 0 0
  let ss:Nat→Value:=fun i=>if hi:i < l.length then (one i hi).choose_spec.choose else .slice none 0 0
  let ps:Nat→Value:=fun i=>if hi:i < l.length then (one i hi).choose_spec.choose_spec.choose else .slice none 0 0
  have spec:∀ i (hi:i < l.length),(∀ j u,[Value.int .u8 l[i].kind,.int .i64 l[i].n,rs i,ss i,ps i][j]?=some u→W.cell? ⟨gB,i * 5+j,none⟩=some u)∧WOp B W.heap.size gB W l[i] (rs i) (ss i) (ps i):=by
   intro i hi
   simp only [rs,ss,ps,hi,dif_pos]
   exact (one i hi).choose_spec.choose_spec.choose_spec
  exact ⟨gB,rs,ss,ps,rfl,hb,(Array.getElem?_eq_some_iff.1 hh).1,⟨cur,hh⟩,fun i hi=>⟨_,(spec i hi).1 1 _ rfl⟩,fun i hi=>(spec i hi).1 2 _ rfl,fun i hi=>(spec i hi).1 3 _ rfl,fun i hi=>(spec i hi).1 4 _ rfl,fun i hi=>(spec i hi).2⟩
end Go.Proofs.YtlbaopamhkmepaaGreatDoor
namespace Go.K
open Go
theorem inc_loop0 {sz off n i m c gB:Nat} {q:IntKind} {v:Value} {W:World} {Rest:World→Prop} (J:World→Prop) (hJ:J W) (hi:i < m) (hn:(n:Int)≤9223372036854775806) (hsh:∃ a cc,v=.slice a n cc) (hc:∀ W,J W→W.cell? ⟨gB,i * 5+off,none⟩=some v)
  (hv:∀ W,J W→∀ k,k < n→∃ g cc x,v=.slice (some ⟨g,0,none⟩) n cc∧W.cell? ⟨g,k * sz,none⟩=some (.int q x)∧Live W ⟨g,k * sz,none⟩∧∀ y,J (W.setCell ⟨g,k * sz,none⟩ (.int q y))) (hR:∀ W,J W→Rest W) :
  LoopK [.int .i64 0] (fun vs again w13=>∀ _:Env,ltK .i64 (nth vs 0) (.int .i64 n) fun t57=>condK t57 (ixK 5 (.slice (some ⟨gB,0,none⟩) m c) (.int .i64 i) fun t61=>faK off t61 fun t62=>ld1K t62 (fun t63 w14=>ixK sz t63 (nth vs 0) fun t65=>ld1K t65 (fun t66 w15=>addK q t66 (.int q 1) fun t67=>ixK sz t63 (nth vs 0) fun t68=>st1K t68 t67 (fun w16=>addK .i64 (nth vs 0) (.int .i64 1) fun t69=>again [t69] w16) w15) w14) w13) (Rest w13)) W:=by
 refine LoopK_i (fun vs w1=>∃ k:Nat,k≤n∧vs=[.int .i64 k]∧J w1) (fun vs _=>n - iOf vs 0) ⟨0,Nat.zero_le _,rfl,hJ⟩ ?_
 rintro vs w1 ⟨k,hk,rfl,hj⟩ _
 rw [nth_z,List.headD_cons,ltK_i]
 refine condK_p (fun hlt=>?_) fun _=>hR w1 hj
 have hlt':k < n:=by omega
 refine ixK_n hi ?_
 rw [faK_i,Addr.add_add,addr0]
 refine ld1K_i (hc w1 hj) ?_
 obtain ⟨g,cc,x,rfl,h1,h2,h3⟩:=hv w1 hj k hlt'
 refine ixK_n hlt' ?_
 rw [addr0]
 refine ld1K_i h1 ?_
 rw [addK_i]
 refine ixK_n hlt' ?_
 rw [addr0]
 refine h2.st rfl rfl ?_
 rw [addK_i,loop_step (by omega)]
 exact ⟨⟨k+1,hlt',rfl,h3 _⟩,by rw [iOf0,iOf0];omega⟩
end Go.K
namespace Go.Proofs.YtlbaopamhkmepaaGreatDoor
open Go Go.K
def WJ (B E gB:Nat) (W0:World) (l:List Dop) (rs ss ps:Nat→Value) (W:World):Prop:=WOps B E gB W l rs ss ps∧Mod (fun b=>B≤b∧b < E) W0 W
theorem WJ.lr {B E gB:Nat} {W0 W:World} {l:List Dop} {rs ss ps:Nat→Value} (h:WJ B E gB W0 l rs ss ps W) {i k:Nat} (hi:i < l.length) (hk:k < l[i].runes.length) :
  ∃ g cc x,rs i=.slice (some ⟨g,0,none⟩) l[i].runes.length cc∧W.cell? ⟨g,k * 1,none⟩=some (.int .i32 x)∧Live W ⟨g,k * 1,none⟩∧∀ y,WJ B E gB W0 l rs ss ps (W.setCell ⟨g,k * 1,none⟩ (.int .i32 y)):=by
 obtain ⟨a,c,e,hh⟩:=(h.1.op i hi).r
 obtain ⟨g,rfl,h2,h3,h4,h5,x,h6⟩:=hh k hk
 exact ⟨g,c,x,e,h6,h5.live h6,fun y=>⟨h.1.setL h2 h5 (fun _=>⟨y,rfl⟩) (fun e=>absurd e (by decide)) (fun e=>absurd e (by decide)),h.2.trans (Mod.setCell _ _ _ ⟨h3,h4⟩)⟩⟩
end Go.Proofs.YtlbaopamhkmepaaGreatDoor

namespace Go.Proofs.YtlbaopamhkmepaaGreatDoor
open Go Go.K

def SpoilR (B E:Nat) (W:World) (v:Value) (x:List Dop):Prop:=∃ a c,v=.slice a x.length c∧(0 < x.length→∃ gB rs ss ps,a=some ⟨gB,0,none⟩∧WOps B E gB W x rs ss ps)
theorem SpoilR.new {B:Nat} {v:Value} {x:List Dop} {W:World} (h:ODops B W v x):SpoilR B W.heap.size W v x:=ODops.wr h
theorem SpoilR.mod {B E:Nat} {M:Nat→Prop} {W W':World} {v:Value} {x:List Dop} (h:SpoilR B E W v x) (hm:Mod M W W') (hM:∀ b,B≤b→b < E→¬ M b):SpoilR B E W' v x:=by
 obtain ⟨a,c,e,hw⟩:=h
 refine ⟨a,c,e,fun h0=>?_⟩
 obtain ⟨gB,rs,ss,ps,e',hW⟩:=hw h0
 exact ⟨gB,rs,ss,ps,e',hW.mod hm hM⟩
theorem spoil_ok {B E:Nat} {v:Value} {x:List Dop} {W:World} (h:SpoilR B E W v x) (hb:mDops x≤1099511627776) :
  callK Tryz.prog 25 [v] (fun _ w'=>Mod (fun z=>B≤z∧z < E) W w') W:=by
 apply S25_ok
 unfold S25
 have hxl:=mDops_len x
 obtain ⟨a,c,rfl,hw⟩:=h
 rw [lenK_i]
 by_cases h0:x.length=0
 ·rw [h0]
  refine LoopK_i (fun vs W1=>vs=[.int .i64 0]∧W1=W) (fun _ _=>0) ⟨rfl,rfl⟩ ?_
  rintro vs w1 ⟨rfl,rfl⟩ _
  rw [nth_z,List.headD_cons,ltK_i]
  exact condK_p (fun e=>by omega) fun _=>Mod.refl _ _
 obtain ⟨gB,rs,ss,ps,rfl,hW⟩:=hw (by omega)
 refine LoopK_i (fun vs W1=>∃ i:Nat,i≤x.length∧vs=[.int .i64 i]∧WJ B E gB W x rs ss ps W1) (fun vs _=>x.length - iOf vs 0) ⟨0,Nat.zero_le _,rfl,hW,Mod.refl _ _⟩ ?_
 rintro vs w1 ⟨i,hi,rfl,hJ⟩ _
 simp only [nth_s,nth_z,List.headD_cons,List.tail_cons]
 rw [ltK_i]
 refine condK_p (fun hlt=>?_) fun _=>hJ.2
 have hlt':i < x.length:=by omega
 refine ixK_n hlt' ?_
 rw [faK_i,Addr.add_add,addr0]
 obtain ⟨n0,hn0⟩:=hJ.1.n i hlt'
 refine ld1K_i hn0 ?_
 rw [addK_i]
 refine ixK_n hlt' ?_
 rw [faK_i,Addr.add_add,addr0]
 refine (hJ.1.ty.live hn0).st rfl rfl ?_
 have hJ1:WJ B E gB W x rs ss ps (w1.setCell ⟨gB,i * 5+1,none⟩ (.int .i64 (IntKind.i64.wrap (n0+1)))):=⟨hJ.1.setN _,hJ.2.trans (Mod.setCell _ _ _ ⟨hJ.1.lo,hJ.1.hi⟩)⟩
 refine ixK_n hlt' ?_
 rw [faK_i,Addr.add_add,addr0]
 refine ld1K_i (hJ1.1.cr i hlt') ?_
 obtain ⟨ra,rc,e1,_⟩:=(hJ1.1.op i hlt').r
 have hr63:(x[i].runes.length:Int)≤9223372036854775806:=by
  have:=mDops_mem (List.getElem_mem hlt')
  simp only [mDop] at this
  omega
 rw [e1,lenK_i]
 refine inc_loop0 (J:=WJ B E gB W x rs ss ps) hJ1 hlt' hr63 ⟨_,_,e1⟩ (fun W' h=>h.1.cr i hlt') (fun W' h k hk=>h.lr hlt' hk) fun w2 hJ2=>?_
 rw [addK_i,loop_step (by omega)]
 exact ⟨⟨i+1,hlt',rfl,hJ2⟩,by rw [iOf0,iOf0];omega⟩
section
variable {F C:Nat→Prop} {W:World} {b:Nat} {ks:List DKey} {h:Hist}
theorem undo_none {e:Int} (hh:HistI F W b ks h) (hm:∀ W1,Grow W W1→callK Tryz.prog 52 [.pointer (some ⟨b,0,none⟩),.pointer (some ⟨b,3,none⟩),.pointer (some ⟨b,4,none⟩)] (fun v' w'=>v'=.tuple #[.agg #[.slice none 0 0,.slice none 0 0],.int .i64 e]∧Grow W1 w') W1) :
  callK Tryz.prog 19 [.pointer (some ⟨b,0,none⟩)] (fun v' w'=>∃ cv n,v'=.tuple #[cv,.int .i64 e]∧W.heap.size≤n∧ODops n w' cv []∧Grow W w') W:=by
 apply S19_ok
 unfold S19
 refine callK_mono (hready_ok hh) ?_
 rintro _ _ ⟨rfl,rfl⟩
 rename World=>W
 rw [notK_i]
 refine condK_f ?_
 refine JoinK_i (fun vs w2=>∃ b4,vs=[.pointer (some ⟨b4,0,none⟩),.int .i64 e]∧(∀ j v,([.slice none 0 0,.slice none 0 0]:List Value)[j]?=some v→w2.cell? ((⟨b4,0,none⟩:Addr).add j)=some v)∧Grow W w2) ?_ ?_
 ·rintro _ w2 ⟨b4,rfl,hc,g2⟩ _
  simp only [nth_s,nth_z,List.headD_cons,List.tail_cons]
  rw [faK_i]
  refine ld1K_i (hc 1 _ rfl) ?_
  refine callK_mono (copy_dops (S:=fun _=>False) (D:=fun _=>False) (x:=[]) SlR.nil (by simp [mDops])) ?_
  rintro cv w3 ⟨o3,g3⟩
  exact ⟨cv,_,rfl,g2.size,o3,g2.trans g3⟩
 have gd:Grow W W.drew:=Mod.drew _ _
 have zd:W.drew.heap.size=W.heap.size:=rfl
 refine drawC_i (fun k y=>k=12∧W.heap.size≤y) ?_
 refine nilckK_s ?_
 rw [faK_i,addr0]
 refine nilckK_s ?_
 rw [faK_i,addr0]
 refine ⟨?_,?_⟩
 ·refine callK_mono (hm _ gd) ?_
  rintro _ w5 ⟨rfl,g5⟩
  refine ⟨g5.mono fun _ _ h=>h.elim,?_⟩
  refine extK_i (vs:=[_,_]) (by rfl) (extK_i (vs:=[_,_]) (by rfl) ?_)
  refine newz_i fun b4 w6 hb4 hz6 g6 _ hl6=>⟨g6.mono fun _ _ h=>h.elim,?_⟩
  have z5:=g5.size
  refine stn_over (vs:=[.slice none 0 0,.slice none 0 0]) rfl (fun u hu=>by simp at hu;subst hu;rfl) (fun j hj=>hl6 j hj) fun w7 m7 hc7 _=>⟨m7.mono fun x _ e=>⟨rfl,by omega⟩,b4,rfl,hc7,((gd.trans g5).trans g6).next m7 fun x hx e=>by omega⟩
 ·refine newz_i fun b4 w8 hb4 hz8 g8 _ hl8=>⟨g8.mono fun _ _ h=>h.elim,?_⟩
  have z8:=g8.size
  refine callK_mono (hm _ (gd.trans g8)) ?_
  rintro _ w9 ⟨rfl,g9⟩
  refine ⟨g9.mono fun _ _ h=>h.elim,?_⟩
  refine extK_i (vs:=[_,_]) (by rfl) (extK_i (vs:=[_,_]) (by rfl) ?_)
  refine stn_over (vs:=[.slice none 0 0,.slice none 0 0]) rfl (fun u hu=>by simp at hu;subst hu;rfl) (fun j hj=>(hl8 j hj).mod g9 fun h=>h) fun w7 m7 hc7 _=>⟨m7.mono fun x _ e=>⟨rfl,by omega⟩,b4,rfl,hc7,((gd.trans g8).trans g9).next m7 fun x hx e=>by omega⟩
theorem HL.undoP {w0 W:World} {F:Nat→Prop} {p:Nat} (hl:HL w0 F W b ks h) (hh:HGood ks p h):callK Tryz.prog 19 [.pointer (some ⟨b,0,none⟩)] (fun v' w'=>∃ cv n x e,v'=.tuple #[cv,.int .i64 e]∧W.heap.size≤n∧ODops n w' cv x∧(∃ F' h',HL w0 F' w' b ks h'∧(∀ z,F' z→(F z∨W.heap.size≤z)∧z < n)∧HGood ks p h'∧h'.max=h.max∧Mod F W w'∧
  ((h.op=true∧e=9∧x=[]∧h'=h)∨(h.op=false∧h.us=[]∧e=10∧x=[]∧h'=h)∨(h.op=false∧e=0∧∃ l g,h.us=l++[g]∧x=g.u∧h'={ h with us:=l,rs:=h.rs++[g] })))) W:=by
 have hu:=hh.us
 have hm:=hh.mx
 have err:∀ {e:Int},(∀ W1,Grow W W1→callK Tryz.prog 52 [.pointer (some ⟨b,0,none⟩),.pointer (some ⟨b,3,none⟩),.pointer (some ⟨b,4,none⟩)] (fun v' w'=>v'=.tuple #[.agg #[.slice none 0 0,.slice none 0 0],.int .i64 e]∧Grow W1 w') W1)→
   ((h.op=true∧e=9)∨(h.op=false∧h.us=[]∧e=10))→callK Tryz.prog 19 [.pointer (some ⟨b,0,none⟩)] (fun v' w'=>∃ cv n x e,v'=.tuple #[cv,.int .i64 e]∧W.heap.size≤n∧ODops n w' cv x∧(∃ F' h',HL w0 F' w' b ks h'∧(∀ z,F' z→(F z∨W.heap.size≤z)∧z < n)∧HGood ks p h'∧h'.max=h.max∧Mod F W w'∧
  ((h.op=true∧e=9∧x=[]∧h'=h)∨(h.op=false∧h.us=[]∧e=10∧x=[]∧h'=h)∨(h.op=false∧e=0∧∃ l g,h.us=l++[g]∧x=g.u∧h'={ h with us:=l,rs:=h.rs++[g] })))) W:=by
  intro e hmv hc
  refine callK_mono (undo_none hl.his hmv) ?_
  rintro _ w' ⟨cv,n,rfl,hn,ho,g⟩
  have hn':ODops W.heap.size w' cv []:=OwnR.base (OwnR.mod ho (Mod.refl (fun _=>False) _) (fun _ _ h=>h) fun r x hx=>by cases hx) fun z hz=>by have:=(OwnR.ownB ho z hz).1;omega
  refine ⟨cv,W.heap.size,[],e,rfl,Nat.le_refl _,hn',F,h,hl.grow g,fun z hz=>⟨.inl hz,(hl.hF z hz).2⟩,hh,rfl,g.mono fun _ _ h=>h.elim,?_⟩
  rcases hc with ⟨h1,rfl⟩ | ⟨h1,h2,rfl⟩
  ·exact .inl ⟨h1,rfl,rfl,rfl⟩
  ·exact .inr (.inl ⟨h1,h2,rfl,rfl,rfl⟩)
 obtain ⟨C,sv,uv,rv,ov,hR⟩:=id hl.his
 rcases Bool.eq_false_or_eq_true h.op with hop | hop
 ·rw [hop] at hR
  obtain ⟨ua,un,uc,rfl⟩:=stk_slice hR.und
  exact err (fun W1 g=>move_open (q:=3) (hR.grow g) (g.cell (hR.cells 3 _ rfl) fun h=>h)) (.inl ⟨hop,rfl⟩)
 ·rw [hop] at hR
  by_cases hn:h.us=[]
  ·refine err (fun W1 g=>callK_mono (moveU_ok (hR.grow g) (by omega) (by omega) fun x hx=>by have:=(hl.hF x hx).2;have:=g.size;omega) ?_) (.inr ⟨hop,hn,rfl⟩)
   rintro _ w' (⟨_,hv,g⟩ | ⟨l,g,r,F',uv',rv',hlg,_⟩)
   ·exact ⟨hv,g⟩
   ·rw [hn] at hlg;simp at hlg
  ·refine callK_mono (hl.undo hop (by omega) (by omega) hh.small.1) ?_
   rintro _ w' (⟨h0,_⟩ | ⟨l,g,cv,n,F',e,rfl,hnn,ho,hl',hF',mm⟩)
   ·exact (hn h0).elim
   ·exact ⟨cv,n,_,0,rfl,hnn,ho,F',_,hl',hF',hh.undo hop e,rfl,mm,.inr (.inr ⟨hop,rfl,l,g,e,rfl,rfl⟩)⟩

theorem redo_none {e:Int} (hh:HistI F W b ks h) (hm:∀ W1,Grow W W1→callK Tryz.prog 52 [.pointer (some ⟨b,0,none⟩),.pointer (some ⟨b,4,none⟩),.pointer (some ⟨b,3,none⟩)] (fun v' w'=>v'=.tuple #[.agg #[.slice none 0 0,.slice none 0 0],.int .i64 e]∧Grow W1 w') W1) :
  callK Tryz.prog 21 [.pointer (some ⟨b,0,none⟩)] (fun v' w'=>∃ cv n,v'=.tuple #[cv,.int .i64 e]∧W.heap.size≤n∧ODops n w' cv []∧Grow W w') W:=by
 apply S21_ok
 unfold S21
 refine callK_mono (hready_ok hh) ?_
 rintro _ _ ⟨rfl,rfl⟩
 rename World=>W
 rw [notK_i]
 refine condK_f ?_
 refine JoinK_i (fun vs w2=>∃ b4,vs=[.pointer (some ⟨b4,0,none⟩),.int .i64 e]∧(∀ j v,([.slice none 0 0,.slice none 0 0]:List Value)[j]?=some v→w2.cell? ((⟨b4,0,none⟩:Addr).add j)=some v)∧Grow W w2) ?_ ?_
 ·rintro _ w2 ⟨b4,rfl,hc,g2⟩ _
  simp only [nth_s,nth_z,List.headD_cons,List.tail_cons]
  rw [faK_i]
  refine ld1K_i (hc 0 _ rfl) ?_
  refine callK_mono (copy_dops (S:=fun _=>False) (D:=fun _=>False) (x:=[]) SlR.nil (by simp [mDops])) ?_
  rintro cv w3 ⟨o3,g3⟩
  exact ⟨cv,_,rfl,g2.size,o3,g2.trans g3⟩
 have gd:Grow W W.drew:=Mod.drew _ _
 have zd:W.drew.heap.size=W.heap.size:=rfl
 refine drawC_i (fun k y=>k=12∧W.heap.size≤y) ?_
 refine nilckK_s ?_
 rw [faK_i,addr0]
 refine nilckK_s ?_
 rw [faK_i,addr0]
 refine ⟨?_,?_⟩
 ·refine callK_mono (hm _ gd) ?_
  rintro _ w5 ⟨rfl,g5⟩
  refine ⟨g5.mono fun _ _ h=>h.elim,?_⟩
  refine extK_i (vs:=[_,_]) (by rfl) (extK_i (vs:=[_,_]) (by rfl) ?_)
  refine newz_i fun b4 w6 hb4 hz6 g6 _ hl6=>⟨g6.mono fun _ _ h=>h.elim,?_⟩
  have z5:=g5.size
  refine stn_over (vs:=[.slice none 0 0,.slice none 0 0]) rfl (fun u hu=>by simp at hu;subst hu;rfl) (fun j hj=>hl6 j hj) fun w7 m7 hc7 _=>⟨m7.mono fun x _ e=>⟨rfl,by omega⟩,b4,rfl,hc7,((gd.trans g5).trans g6).next m7 fun x hx e=>by omega⟩
 ·refine newz_i fun b4 w8 hb4 hz8 g8 _ hl8=>⟨g8.mono fun _ _ h=>h.elim,?_⟩
  have z8:=g8.size
  refine callK_mono (hm _ (gd.trans g8)) ?_
  rintro _ w9 ⟨rfl,g9⟩
  refine ⟨g9.mono fun _ _ h=>h.elim,?_⟩
  refine extK_i (vs:=[_,_]) (by rfl) (extK_i (vs:=[_,_]) (by rfl) ?_)
  refine stn_over (vs:=[.slice none 0 0,.slice none 0 0]) rfl (fun u hu=>by simp at hu;subst hu;rfl) (fun j hj=>(hl8 j hj).mod g9 fun h=>h) fun w7 m7 hc7 _=>⟨m7.mono fun x _ e=>⟨rfl,by omega⟩,b4,rfl,hc7,((gd.trans g8).trans g9).next m7 fun x hx e=>by omega⟩
theorem HL.redoP {w0 W:World} {F:Nat→Prop} {p:Nat} (hl:HL w0 F W b ks h) (hh:HGood ks p h):callK Tryz.prog 21 [.pointer (some ⟨b,0,none⟩)] (fun v' w'=>∃ cv n x e,v'=.tuple #[cv,.int .i64 e]∧W.heap.size≤n∧ODops n w' cv x∧(∃ F' h',HL w0 F' w' b ks h'∧(∀ z,F' z→(F z∨W.heap.size≤z)∧z < n)∧HGood ks p h'∧h'.max=h.max∧Mod F W w'∧
  ((h.op=true∧e=9∧x=[]∧h'=h)∨(h.op=false∧h.rs=[]∧e=10∧x=[]∧h'=h)∨(h.op=false∧e=0∧∃ l g,h.rs=l++[g]∧x=g.d∧h'={ h with rs:=l,us:=h.us++[g] })))) W:=by
 have hu:=hh.us
 have hm:=hh.mx
 have err:∀ {e:Int},(∀ W1,Grow W W1→callK Tryz.prog 52 [.pointer (some ⟨b,0,none⟩),.pointer (some ⟨b,4,none⟩),.pointer (some ⟨b,3,none⟩)] (fun v' w'=>v'=.tuple #[.agg #[.slice none 0 0,.slice none 0 0],.int .i64 e]∧Grow W1 w') W1)→
   ((h.op=true∧e=9)∨(h.op=false∧h.rs=[]∧e=10))→callK Tryz.prog 21 [.pointer (some ⟨b,0,none⟩)] (fun v' w'=>∃ cv n x e,v'=.tuple #[cv,.int .i64 e]∧W.heap.size≤n∧ODops n w' cv x∧(∃ F' h',HL w0 F' w' b ks h'∧(∀ z,F' z→(F z∨W.heap.size≤z)∧z < n)∧HGood ks p h'∧h'.max=h.max∧Mod F W w'∧
  ((h.op=true∧e=9∧x=[]∧h'=h)∨(h.op=false∧h.rs=[]∧e=10∧x=[]∧h'=h)∨(h.op=false∧e=0∧∃ l g,h.rs=l++[g]∧x=g.d∧h'={ h with rs:=l,us:=h.us++[g] })))) W:=by
  intro e hmv hc
  refine callK_mono (redo_none hl.his hmv) ?_
  rintro _ w' ⟨cv,n,rfl,hn,ho,g⟩
  have hn':ODops W.heap.size w' cv []:=OwnR.base (OwnR.mod ho (Mod.refl (fun _=>False) _) (fun _ _ h=>h) fun r x hx=>by cases hx) fun z hz=>by have:=(OwnR.ownB ho z hz).1;omega
  refine ⟨cv,W.heap.size,[],e,rfl,Nat.le_refl _,hn',F,h,hl.grow g,fun z hz=>⟨.inl hz,(hl.hF z hz).2⟩,hh,rfl,g.mono fun _ _ h=>h.elim,?_⟩
  rcases hc with ⟨h1,rfl⟩ | ⟨h1,h2,rfl⟩
  ·exact .inl ⟨h1,rfl,rfl,rfl⟩
  ·exact .inr (.inl ⟨h1,h2,rfl,rfl,rfl⟩)
 obtain ⟨C,sv,uv,rv,ov,hR⟩:=id hl.his
 rcases Bool.eq_false_or_eq_true h.op with hop | hop
 ·rw [hop] at hR
  obtain ⟨ua,un,uc,rfl⟩:=stk_slice hR.red
  exact err (fun W1 g=>move_open (q:=4) (hR.grow g) (g.cell (hR.cells 4 _ rfl) fun h=>h)) (.inl ⟨hop,rfl⟩)
 ·rw [hop] at hR
  by_cases hn:h.rs=[]
  ·refine err (fun W1 g=>callK_mono (moveR_ok (hR.grow g) (by omega) (by omega) fun x hx=>by have:=(hl.hF x hx).2;have:=g.size;omega) ?_) (.inr ⟨hop,hn,rfl⟩)
   rintro _ w' (⟨_,hv,g⟩ | ⟨l,g,r,F',uv',rv',hlg,_⟩)
   ·exact ⟨hv,g⟩
   ·rw [hn] at hlg;simp at hlg
  ·refine callK_mono (hl.redo hop (by omega) (by omega) hh.small.2) ?_
   rintro _ w' (⟨h0,_⟩ | ⟨l,g,cv,n,F',e,rfl,hnn,ho,hl',hF',mm⟩)
   ·exact (hn h0).elim
   ·exact ⟨cv,n,_,0,rfl,hnn,ho,F',_,hl',hF',hh.redo hop e,rfl,mm,.inr (.inr ⟨hop,rfl,l,g,e,rfl,rfl⟩)⟩
end
end Go.Proofs.YtlbaopamhkmepaaGreatDoor

namespace Go.Proofs.YtlbaopamhkmepaaGreatDoor
open Go Go.K

theorem oneP_congr {keys ks:List DKey} (h:∀ id,findK keys id=findK ks id):oneP keys=oneP ks:=by
 have hp:∀ b p,partP keys b p=partP ks b p:=fun b p=>by unfold partP;simp only [h]
 funext u c
 unfold oneP cellP
 simp only [hp]
theorem cmpD_congr {keys ks:List DKey} (h:∀ id,findK keys id=findK ks id) (x y:List Dop):cmpD keys x y=cmpD ks x y:=by
 unfold cmpD
 rw [oneP_congr h]
theorem goodG_congr {keys ks:List DKey} {T:Nat} {g:Grp} (h:∀ id,findK keys id=findK ks id) (hg:GoodG keys T g):GoodG ks T g:=
 ⟨fun o ho=>⟨goodK_congr h (hg.1 o ho).1,(hg.1 o ho).2⟩,fun o ho=>⟨goodK_congr h (hg.2.1 o ho).1,(hg.2.1 o ho).2⟩,hg.2.2⟩
theorem HGood.up {ks:List DKey} {p q:Nat} {h:Hist} (hh:HGood ks p h) (hpq:p≤q):HGood ks q h:=
 ⟨hh.mx,hh.us,Nat.le_trans hh.tot hpq,hh.own,hh.shut,hh.emp,hh.gu,hh.gr,fun g hg=>(hh.go g hg).more (by omega)⟩
theorem callyK_b {P:Program} {ok:Nat→Bool} {g:Nat} {r:Value} {K:Cont} {w:World} (hok:ok g=true) (h:callK P g [r] K w):callyK P ok (.func (.func g) #[r] #[]) [] K w:=.inl ⟨g,[r],[],rfl,hok,by simpa using h⟩
structure Lnk (h:Hist) (d:RHist):Prop where
 mx:d.max=h.max
 us:d.us=h.us
 rs:d.rs=h.rs
 op:d.op=h.op
 own:h.op=true→h.own=if d.has then [d.own] else []
section
variable {keys ks:List DKey} {h:Hist} {d:RHist}
theorem Lnk.push (l:Lnk h d) (hop:h.op=false) (g:Grp):Lnk { h with us:=keepL h.max h.us g,rs:=[] } (pushD keys d g):=by
 have e:d.op=false:=l.op.trans hop
 unfold pushD
 rw [e]
 exact ⟨l.mx,by show keepL d.max d.us g=keepL h.max h.us g;rw [l.mx,l.us],rfl,hop.symm,l.own⟩
theorem Lnk.push2 (hk:∀ id,findK keys id=findK ks id) (l:Lnk h d) (hop:h.op=true) (g:Grp):Lnk { h with own:=[withL ks h.own g],rs:=[] } (pushD keys d g):=by
 have e:d.op=true:=l.op.trans hop
 unfold pushD
 rw [e]
 refine ⟨l.mx,l.us,rfl,hop.symm,fun _=>?_⟩
 show [withL ks h.own g]=[if d.has=true then ⟨cmpD keys d.own.d g.d,cmpD keys g.u d.own.u⟩ else g]
 rw [l.own hop]
 cases d.has with
 | false=>rfl
 | true=>rw [if_pos rfl,if_pos rfl,cmpD_congr hk,cmpD_congr hk];rfl
theorem Lnk.begin (l:Lnk h d):Lnk { h with op:=true,own:=[] } { d with op:=true,has:=false }:=⟨l.mx,l.us,l.rs,rfl,fun _=>rfl⟩
theorem Lnk.end (l:Lnk h d) (hop:h.op=true):Lnk { h with us:=endL h.max h.us h.own,op:=false,own:=[] } { d with us:=if d.has then keepL d.max d.us d.own else d.us,op:=false,has:=false }:=by
 refine ⟨l.mx,?_,l.rs,rfl,fun e=>by cases e⟩
 show (if d.has=true then keepL d.max d.us d.own else d.us)=endL h.max h.us h.own
 rw [l.own hop,l.mx,l.us]
 cases d.has <;> rfl
end
def PL (w0:World) (keys ks:List DKey) (mx b c:Nat) (kv:Value) (op:Bool) (us rs:Nat) (i:Nat) (W:World):Prop:=
 ∃ F C h d,HL w0 F W b ks h∧HGood ks i h∧h.max=mx∧RHI C W c kv d∧Lnk h d∧(∀ z,C z→w0.heap.size≤z∧¬ F z)∧¬ F c∧w0.heap.size≤c∧h.op=op∧h.us.length=us∧h.rs.length=rs
abbrev PLs (w0:World) (keys ks:List DKey) (mx b c:Nat) (kv:Value) (i:Nat) (W:World):Prop:=∃ op us rs,PL w0 keys ks mx b c kv op us rs i W
section
variable {w0 W W':World} {keys ks:List DKey} {mx b c i:Nat} {kv:Value} {op:Bool} {us rs:Nat}
theorem PL.of {F C:Nat→Prop} {h:Hist} {d:RHist} (h1:HL w0 F W b ks h) (h2:HGood ks i h) (h3:h.max=mx) (h4:RHI C W c kv d) (h5:Lnk h d) (h6:∀ z,C z→w0.heap.size≤z∧¬ F z) (h7:¬ F c) (h8:w0.heap.size≤c):PLs w0 keys ks mx b c kv i W:=
 ⟨_,_,_,F,C,h,d,h1,h2,h3,h4,h5,h6,h7,h8,rfl,rfl,rfl⟩
theorem PL.grow (hp:PL w0 keys ks mx b c kv op us rs i W) (g:Grow W W'):PL w0 keys ks mx b c kv op us rs i W':=by
 obtain ⟨F,C,h,d,h1,h2,h3,h4,h5,h6,h7,h8,h9⟩:=hp
 exact ⟨F,C,h,d,h1.grow g,h2,h3,h4.grow g,h5,h6,h7,h8,h9⟩
theorem PL.up {j:Nat} (hp:PL w0 keys ks mx b c kv op us rs i W) (hij:i≤j):PL w0 keys ks mx b c kv op us rs j W:=by
 obtain ⟨F,C,h,d,h1,h2,h3,h4,h5,h6,h7,h8,h9⟩:=hp
 exact ⟨F,C,h,d,h1,h2.up hij,h3,h4,h5,h6,h7,h8,h9⟩
theorem PL.g (hp:PL w0 keys ks mx b c kv op us rs i W):Grow w0 W:=by
 obtain ⟨F,C,h,d,h1,_⟩:=hp
 exact h1.g
theorem HL.mod {F M:Nat→Prop} {h:Hist} (hh:HL w0 F W b ks h) (m:Mod M W W') (hF:∀ x,F x→¬ M x) (h0:∀ x,x < w0.heap.size→¬ M x):HL w0 F W' b ks h:=
 ⟨HistI.mod hh.his m hF,fun x hx=>⟨(hh.hF x hx).1,Nat.lt_of_lt_of_le (hh.hF x hx).2 m.size⟩,hh.g.next m fun x hx e=>h0 x hx e⟩
theorem PL.close {F C:Nat→Prop} {h:Hist} {d:RHist} (h1:HL w0 F W b ks h) (h2:HGood ks i h) (h3:h.max=mx) (h6:∀ z,C z→w0.heap.size≤z∧¬ F z) (h7:¬ F c) (h8:w0.heap.size≤c) (hd:DAfter C W W' c kv d) (l:Lnk h d):PLs w0 keys ks mx b c kv i W':=by
 obtain ⟨C',hC',_,hr,mc⟩:=hd
 have z0:=h1.g.size
 refine PL.of (h1.mod mc (fun x hx e=>h7 (e ▸ hx)) fun x hx e=>by omega) h2 h3 hr l (fun z hz=>?_) h7 h8
 rcases hC' z hz with e | e
 ·exact h6 z e
 ·exact ⟨by omega,fun e'=>by have:=(h1.hF z e').2;omega⟩
theorem PL.nf {F F' C:Nat→Prop} {d:RHist} (h4:RHI C W c kv d) (h6:∀ z,C z→w0.heap.size≤z∧¬ F z) (h7:¬ F c) (hF':∀ z,F' z→F z∨W.heap.size≤z):(∀ z,C z→w0.heap.size≤z∧¬ F' z)∧¬ F' c:=by
 obtain ⟨_,_,_,_,hr⟩:=h4
 refine ⟨fun z hz=>⟨(h6 z hz).1,fun e=>?_⟩,fun e=>?_⟩
 ·rcases hF' z e with e | e
  ·exact (h6 z hz).2 e
  ·have:=(hr.nc z hz).2;omega
 ·rcases hF' c e with e | e
  ·exact h7 e
  ·have:=hr.lt;omega
theorem PL.begin (hp:PL w0 keys ks mx b c kv op us rs i W) :
  callK Tryz.prog 27 [.pointer (some ⟨b,0,none⟩)] (fun v w1=>callK Tryz.prog 28 [.pointer (some ⟨c,0,none⟩)] (fun v' w2=>∃ e:Int,v=.int .i64 e∧v'=.int .i64 e∧PLs w0 keys ks mx b c kv i w2) w1) W:=by
 obtain ⟨F,C,h,d,h1,h2,h3,h4,h5,h6,h7,h8,_⟩:=hp
 refine callK_mono (begin_ok h1.his) ?_
 rintro v w1 (⟨hop,rfl,rfl⟩ | ⟨hop,rfl,ha⟩)
 ·obtain ⟨uv,rv,od,ou,hr⟩:=id h4
  refine callK_mono (dbegin_ok hr) ?_
  rintro v' w2 (⟨_,rfl,rfl⟩ | ⟨hd,_⟩)
  ·exact ⟨9,rfl,rfl,PL.of h1 h2 h3 h4 h5 h6 h7 h8⟩
  ·rw [h5.op,hop] at hd;cases hd
 ·obtain ⟨F',h1',hF',mF⟩:=h1.after ha
  obtain ⟨n6,n7⟩:=PL.nf h4 h6 h7 hF'
  obtain ⟨uv,rv,od,ou,hr⟩:=h4.mod mF h7 fun x hx=>(h6 x hx).2
  refine callK_mono (dbegin_ok hr) ?_
  rintro v' w2 (⟨hd,_⟩ | ⟨_,rfl,hd⟩)
  ·rw [h5.op,hop] at hd;cases hd
  ·exact ⟨0,rfl,rfl,PL.close h1' h2.begin h3 n6 n7 h8 hd h5.begin⟩
theorem PL.end (hp:PL w0 keys ks mx b c kv op us rs i W) (hi:i≤80) :
  callK Tryz.prog 29 [.pointer (some ⟨b,0,none⟩)] (fun v w1=>callK Tryz.prog 30 [.pointer (some ⟨c,0,none⟩)] (fun v' w2=>∃ e:Int,v=.int .i64 e∧v'=.int .i64 e∧PLs w0 keys ks mx b c kv i w2) w1) W:=by
 obtain ⟨F,C,h,d,h1,h2,h3,h4,h5,h6,h7,h8,_⟩:=hp
 have hu:=h2.us
 have hm:=h2.mx
 have du:d.us.length≤d.max:=by rw [h5.us,h5.mx];omega
 have dm:d.max≤65536:=by rw [h5.mx];exact hm
 refine callK_mono (end_ok h1.his h2.own (by omega) hm) ?_
 rintro v w1 (⟨hop,rfl,rfl⟩ | ⟨hop,rfl,ha⟩)
 ·obtain ⟨uv,rv,od,ou,hr⟩:=id h4
  refine callK_mono (dend_ok hr du dm) ?_
  rintro v' w2 (⟨_,rfl,rfl⟩ | ⟨hd,_⟩)
  ·exact ⟨9,rfl,rfl,PL.of h1 h2 h3 h4 h5 h6 h7 h8⟩
  ·rw [h5.op,hop] at hd;cases hd
 ·obtain ⟨F',h1',hF',mF⟩:=h1.after ha
  obtain ⟨n6,n7⟩:=PL.nf h4 h6 h7 hF'
  obtain ⟨uv,rv,od,ou,hr⟩:=h4.mod mF h7 fun x hx=>(h6 x hx).2
  refine callK_mono (dend_ok hr du dm) ?_
  rintro v' w2 (⟨hd,_⟩ | ⟨_,rfl,hd⟩)
  ·rw [h5.op,hop] at hd;cases hd
  ·exact ⟨0,rfl,rfl,PL.close h1' (h2.end hi) h3 n6 n7 h8 hd (h5.end hop)⟩
theorem PL.undo (hp:PL w0 keys ks mx b c kv op us rs i W) :
  callK Tryz.prog 19 [.pointer (some ⟨b,0,none⟩)] (fun v w1=>∃ (e:Int) (cv:Value),v=.tuple #[cv,.int .i64 e]∧callK Tryz.prog 31 [.pointer (some ⟨c,0,none⟩)] (fun v' w2=>∃ (zv:Value) (x:List Dop) (n m:Nat) (S S':Nat→Prop),v'=.tuple #[zv,.int .i64 e]∧RDops S S w2 cv x∧RDops S' S' w2 zv x∧SpoilR n m w2 cv x∧mDops x≤1099511627776∧∀ W3 W4,Grow w2 W3→Mod (fun z=>n≤z∧z < m) W3 W4→PLs w0 keys ks mx b c kv i W4) w1) W:=by
 obtain ⟨F,C,h,d,h1,h2,h3,h4,h5,h6,h7,h8,_⟩:=hp
 have hu:=h2.us
 have hm:=h2.mx
 have dl1:d.us.length≤100000:=by rw [h5.us];omega
 have dl2:d.rs.length≤100000:=by rw [h5.rs];omega
 refine callK_mono (h1.undoP h2) ?_
 rintro v w1 ⟨cv,n,x,e,rfl,hn,ho,F',h',h1',hF',h2',h3',mF,hc⟩
 obtain ⟨n6,n7⟩:=PL.nf h4 h6 h7 fun z hz=>(hF' z hz).1
 have h4':=h4.mod mF h7 fun x hx=>(h6 x hx).2
 obtain ⟨uv,rv,od,ou,hr⟩:=id h4'
 obtain ⟨_,_,_,_,hr0⟩:=id h4
 have hx:mDops x≤1099511627776:=by
  rcases hc with ⟨_,_,rfl,_⟩ | ⟨_,_,_,rfl,_⟩ | ⟨_,_,l,g,hl,rfl,_⟩
  ·simp [mDops]
  ·simp [mDops]
  ·exact h2.small.1 g (by rw [hl];simp)
 have hcl:=hr0.lt
 have zF:=mF.size
 have z0:=h1.g.size
 -- the state behind it all,and what the told may touch
 have fin:∀ {w2:World} {C2:Nat→Prop} {d':RHist},Mod (fun z=>z=c) w1 w2→RHI C2 w2 c kv d'→Lnk h' d'→(∀ z,C2 z→C z∨w1.heap.size≤z)→∀ W3 W4,Grow w2 W3→Mod (fun z=>n≤z∧z < w1.heap.size) W3 W4→PLs w0 keys ks mx b c kv i W4:=by
  intro w2 C2 d' mc hr2 hl2 hC2 W3 W4 g3 m4
  have hH2:=(h1'.mod mc (fun x hx e=>n7 (e ▸ hx)) fun x hx e=>by omega).grow g3
  refine PL.of (hH2.mod m4 (fun x hx e=>by have:=(hF' x hx).2;omega) fun x hx e=>by omega) h2' (h3'.trans h3) ((hr2.grow g3).mod m4 (fun e=>by omega) fun x hx e=>?_) hl2 (fun z hz=>?_) n7 h8
  ·rcases hC2 x hx with e' | e'
   ·have:=(hr0.nc x e').2;omega
   ·omega
  ·rcases hC2 z hz with e | e
   ·exact n6 z e
   ·exact ⟨by omega,fun e'=>by have:=(h1'.hF z e').2;omega⟩
 have m0:Mod (fun z=>z=c) w1 w1:=Mod.refl _ _
 have away:∀ {w2:World},Mod (fun z=>z=c) w1 w2→∀ z,n≤z→z < w1.heap.size→¬ z=c:=fun _ z h1 _ e=>by omega
 have rd:∀ {w2:World},Mod (fun z=>z=c) w1 w2→RDops (fun z=>n≤z∧z < w1.heap.size) (fun z=>n≤z∧z < w1.heap.size) w2 cv x:=fun mc=>RDops.mod (ODops.reads ho) mc (fun z _ hz e=>by omega) fun z _ hz e=>by omega
 refine ⟨e,cv,rfl,?_⟩
 refine callK_mono (dback_ok hr dl1 dl2) ?_
 rintro v' w2 (⟨hd,rfl,rfl⟩ | ⟨hd,hd2,rfl,rfl⟩ | ⟨hd,l,g,zv,hlg,rfl,⟨C2,hC2,_,hr2,mc⟩,hz⟩)
 ·rcases hc with ⟨_,rfl,rfl,rfl⟩ | ⟨e1,_⟩ | ⟨e1,_⟩
  ·exact ⟨_,[],n,w2.heap.size,_,fun _=>False,rfl,rd m0,SlR.nil,SpoilR.new ho,hx,fin m0 h4' h5 fun _ h=>.inl h⟩
  ·rw [h5.op,e1] at hd;cases hd
  ·rw [h5.op,e1] at hd;cases hd
 ·rcases hc with ⟨e1,_⟩ | ⟨_,_,rfl,rfl,rfl⟩ | ⟨_,_,l,g,e2,_⟩
  ·rw [h5.op,e1] at hd;cases hd
  ·exact ⟨_,[],n,w2.heap.size,_,fun _=>False,rfl,rd m0,SlR.nil,SpoilR.new ho,hx,fin m0 h4' h5 fun _ h=>.inl h⟩
  ·rw [h5.us,e2] at hd2;simp at hd2
 ·rcases hc with ⟨e1,_⟩ | ⟨_,e2,_⟩ | ⟨e1,rfl,l',g',e2,rfl,rfl⟩
  ·rw [h5.op,e1] at hd;cases hd
  ·rw [h5.us,e2] at hlg;simp at hlg
  ·rw [h5.us,e2] at hlg
   obtain ⟨rfl,rfl⟩:=concat_inj hlg
   exact ⟨zv,_,n,w1.heap.size,_,_,rfl,rd mc,hz,(SpoilR.new ho).mod mc fun z h1 h2 e=>by omega,hx,fin mc hr2 ⟨h5.mx,rfl,by show d.rs++_=h.rs++_;rw [h5.rs],h5.op,h5.own⟩ hC2⟩
theorem PL.redo (hp:PL w0 keys ks mx b c kv op us rs i W) :
  callK Tryz.prog 21 [.pointer (some ⟨b,0,none⟩)] (fun v w1=>∃ (e:Int) (cv:Value),v=.tuple #[cv,.int .i64 e]∧callK Tryz.prog 32 [.pointer (some ⟨c,0,none⟩)] (fun v' w2=>∃ (zv:Value) (x:List Dop) (n m:Nat) (S S':Nat→Prop),v'=.tuple #[zv,.int .i64 e]∧RDops S S w2 cv x∧RDops S' S' w2 zv x∧SpoilR n m w2 cv x∧mDops x≤1099511627776∧∀ W3 W4,Grow w2 W3→Mod (fun z=>n≤z∧z < m) W3 W4→PLs w0 keys ks mx b c kv i W4) w1) W:=by
 obtain ⟨F,C,h,d,h1,h2,h3,h4,h5,h6,h7,h8,_⟩:=hp
 have hu:=h2.us
 have hm:=h2.mx
 have dl1:d.us.length≤100000:=by rw [h5.us];omega
 have dl2:d.rs.length≤100000:=by rw [h5.rs];omega
 refine callK_mono (h1.redoP h2) ?_
 rintro v w1 ⟨cv,n,x,e,rfl,hn,ho,F',h',h1',hF',h2',h3',mF,hc⟩
 obtain ⟨n6,n7⟩:=PL.nf h4 h6 h7 fun z hz=>(hF' z hz).1
 have h4':=h4.mod mF h7 fun x hx=>(h6 x hx).2
 obtain ⟨uv,rv,od,ou,hr⟩:=id h4'
 obtain ⟨_,_,_,_,hr0⟩:=id h4
 have hx:mDops x≤1099511627776:=by
  rcases hc with ⟨_,_,rfl,_⟩ | ⟨_,_,_,rfl,_⟩ | ⟨_,_,l,g,hl,rfl,_⟩
  ·simp [mDops]
  ·simp [mDops]
  ·exact h2.small.2 g (by rw [hl];simp)
 have hcl:=hr0.lt
 have zF:=mF.size
 have z0:=h1.g.size
 -- the state behind it all,and what the told may touch
 have fin:∀ {w2:World} {C2:Nat→Prop} {d':RHist},Mod (fun z=>z=c) w1 w2→RHI C2 w2 c kv d'→Lnk h' d'→(∀ z,C2 z→C z∨w1.heap.size≤z)→∀ W3 W4,Grow w2 W3→Mod (fun z=>n≤z∧z < w1.heap.size) W3 W4→PLs w0 keys ks mx b c kv i W4:=by
  intro w2 C2 d' mc hr2 hl2 hC2 W3 W4 g3 m4
  have hH2:=(h1'.mod mc (fun x hx e=>n7 (e ▸ hx)) fun x hx e=>by omega).grow g3
  refine PL.of (hH2.mod m4 (fun x hx e=>by have:=(hF' x hx).2;omega) fun x hx e=>by omega) h2' (h3'.trans h3) ((hr2.grow g3).mod m4 (fun e=>by omega) fun x hx e=>?_) hl2 (fun z hz=>?_) n7 h8
  ·rcases hC2 x hx with e' | e'
   ·have:=(hr0.nc x e').2;omega
   ·omega
  ·rcases hC2 z hz with e | e
   ·exact n6 z e
   ·exact ⟨by omega,fun e'=>by have:=(h1'.hF z e').2;omega⟩
 have m0:Mod (fun z=>z=c) w1 w1:=Mod.refl _ _
 have away:∀ {w2:World},Mod (fun z=>z=c) w1 w2→∀ z,n≤z→z < w1.heap.size→¬ z=c:=fun _ z h1 _ e=>by omega
 have rd:∀ {w2:World},Mod (fun z=>z=c) w1 w2→RDops (fun z=>n≤z∧z < w1.heap.size) (fun z=>n≤z∧z < w1.heap.size) w2 cv x:=fun mc=>RDops.mod (ODops.reads ho) mc (fun z _ hz e=>by omega) fun z _ hz e=>by omega
 refine ⟨e,cv,rfl,?_⟩
 refine callK_mono (dagain_ok hr dl1 dl2) ?_
 rintro v' w2 (⟨hd,rfl,rfl⟩ | ⟨hd,hd2,rfl,rfl⟩ | ⟨hd,l,g,zv,hlg,rfl,⟨C2,hC2,_,hr2,mc⟩,hz⟩)
 ·rcases hc with ⟨_,rfl,rfl,rfl⟩ | ⟨e1,_⟩ | ⟨e1,_⟩
  ·exact ⟨_,[],n,w2.heap.size,_,fun _=>False,rfl,rd m0,SlR.nil,SpoilR.new ho,hx,fin m0 h4' h5 fun _ h=>.inl h⟩
  ·rw [h5.op,e1] at hd;cases hd
  ·rw [h5.op,e1] at hd;cases hd
 ·rcases hc with ⟨e1,_⟩ | ⟨_,_,rfl,rfl,rfl⟩ | ⟨_,_,l,g,e2,_⟩
  ·rw [h5.op,e1] at hd;cases hd
  ·exact ⟨_,[],n,w2.heap.size,_,fun _=>False,rfl,rd m0,SlR.nil,SpoilR.new ho,hx,fin m0 h4' h5 fun _ h=>.inl h⟩
  ·rw [h5.rs,e2] at hd2;simp at hd2
 ·rcases hc with ⟨e1,_⟩ | ⟨_,e2,_⟩ | ⟨e1,rfl,l',g',e2,rfl,rfl⟩
  ·rw [h5.op,e1] at hd;cases hd
  ·rw [h5.rs,e2] at hlg;simp at hlg
  ·rw [h5.rs,e2] at hlg
   obtain ⟨rfl,rfl⟩:=concat_inj hlg
   exact ⟨zv,_,n,w1.heap.size,_,_,rfl,rd mc,hz,(SpoilR.new ho).mod mc fun z h1 h2 e=>by omega,hx,fin mc hr2 ⟨h5.mx,by show d.us++_=h.us++_;rw [h5.us],rfl,h5.op,h5.own⟩ hC2⟩
end
end Go.Proofs.YtlbaopamhkmepaaGreatDoor

namespace Go.Proofs.YtlbaopamhkmepaaGreatDoor
open Go Go.K
section
variable {w0 W W1:World} {keys ks:List DKey} {mx b c i:Nat} {kv:Value} {op:Bool} {us rs:Nat}
theorem PL.push {S0 S D S' D':Nat→Prop} {dv uu:Value} {x y:List Dop} (hp:PL w0 keys ks mx b c kv op us rs i W) (hi:i≤79) (hT:Tabs w0) (hk:RKeys S0 w0 kv keys) (h64:keys.length≤64) (hlen:ks.length=keys.length) (hfk:∀ id,findK keys id=findK ks id)
  (g1:Grow W W1) (hd:RDops S D W1 dv x) (hu:RDops S' D' W1 uu y) (f1:FitX keys x) (f2:FitX keys y) (ix:∀ o ∈ x,InO o) (iy:∀ o ∈ y,InO o) :
  callK Tryz.prog 18 [.pointer (some ⟨b,0,none⟩),dv,uu] (fun v w1=>v=.int .i64 0∧Mod (fun z=>w0.heap.size≤z∧z < W.heap.size) W1 w1∧∀ W2 W3 dv' uu',Mod (fun z=>W.heap.size≤z∧z < W1.heap.size) w1 W2→Grow W2 W3→RGrp (fun z=>W2.heap.size≤z∧z < W3.heap.size) W3 [dv',uu'] ⟨x,y⟩→
   callK Tryz.prog 26 [.pointer (some ⟨c,0,none⟩),dv',uu'] (fun _ w4=>Mod (fun z=>z=c) W3 w4∧PLs w0 keys ks mx b c kv (i+1) w4) W3) W1:=by
 obtain ⟨F,C,h,d,h1,h2,h3,h4,h5,h6,h7,h8,_⟩:=hp
 have hus:=h2.us
 have hm:=h2.mx
 have hH:=h1.grow g1
 have gg:=fit_good hfk f1 f2 ix iy
 have gk:GoodG keys 200 ⟨x,y⟩:=fit_good (fun _=>rfl) f1 f2 ix iy
 have bb:=gg.m (by omega)
 have z01:=h1.g.size
 have zg:=g1.size
 have hk0:=hk.old (by decide)
 have rest:∀ {F':Nat→Prop} {h':Hist} {w1:World},HL w0 F' w1 b ks h'→(∀ z,F' z→F z∨W1.heap.size≤z)→Mod F W1 w1→HGood ks (i+1) h'→h'.max=h.max→Lnk h' (pushD keys d ⟨x,y⟩)→
   Mod (fun z=>w0.heap.size≤z∧z < W.heap.size) W1 w1∧∀ W2 W3 dv' uu',Mod (fun z=>W.heap.size≤z∧z < W1.heap.size) w1 W2→Grow W2 W3→RGrp (fun z=>W2.heap.size≤z∧z < W3.heap.size) W3 [dv',uu'] ⟨x,y⟩→
   callK Tryz.prog 26 [.pointer (some ⟨c,0,none⟩),dv',uu'] (fun _ w4=>Mod (fun z=>z=c) W3 w4∧PLs w0 keys ks mx b c kv (i+1) w4) W3:=by
  intro F' h' w1 h1' hF' mF h2' h3' hl
  have hFW:∀ z,F' z→z < W.heap.size∨W1.heap.size≤z:=fun z hz=>by
   rcases hF' z hz with e | e
   ·exact .inl (h1.hF z e).2
   ·exact .inr e
  refine ⟨mF.mono fun z _ hz=>h1.hF z hz,fun W2 W3 dv' uu' m2 g3 hg=>?_⟩
  have z1:=mF.size
  have z2:=m2.size
  have z3:=g3.size
  obtain ⟨uv0,rv0,od0,ou0,hr0⟩:=id h4
  have hH2:=(h1'.mod m2 (fun z hz e=>by have:=hFW z hz;omega) fun z hz e=>by omega).grow g3
  have hlt:=hr0.lt
  have h4':=((h4.grow g1).mod mF h7 fun z hz=>(h6 z hz).2).mod m2 (fun e=>by omega) fun z hz e=>by have:=(hr0.nc z hz).2;omega
  obtain ⟨uv,rv,od,ou,hr⟩:=h4'
  have hr2:=hr.ext g3
  have hkW:RKeys (fun z=>S0 z∧z < w0.heap.size) W3 kv keys:=hk0.mod hH2.g (fun _ _ _ h=>h) (by decide) fun _ _ h=>h
  have dop:d.op=h.op:=h5.op
  refine callK_mono (dpush_ok (g:=⟨x,y⟩) (T:=200) (T':=200 * i) hr2 hkW (fun z hz e=>by have:=hz.2;omega) h64 (hg.to (Mod.refl (fun _=>False) _) (fun _ _ _ h=>h) fun z _ hz=>.inr hz) (by rw [h5.us,h5.mx];omega) (by rw [h5.mx];omega) gk (fun ho hh=>?_) (by omega)) ?_
  ·have e:=h5.own (dop ▸ ho)
   rw [hh,if_pos rfl] at e
   exact goodG_congr (fun id=>(hfk id).symm) (h2.go d.own (by rw [e];simp))
  ·rintro _ w4 hd4
   refine ⟨by obtain ⟨_,_,_,_,m⟩:=hd4;exact m,PL.close hH2 h2' (h3'.trans h3) (fun z hz=>?_) ?_ h8 hd4 hl⟩
   ·rcases hz with e | e
    ·refine ⟨(h6 z e).1,fun e'=>?_⟩
     rcases hF' z e' with e' | e'
     ·exact (h6 z e).2 e'
     ·have:=(hr0.nc z e).2;omega
    ·exact ⟨by omega,fun e'=>by have:=(h1'.hF z e').2;omega⟩
   ·intro e'
    rcases hF' c e' with e' | e'
    ·exact h7 e'
    ·omega
 rcases Bool.eq_false_or_eq_true h.op with hop | hop
 ·refine callK_mono (hH.push2 hop h2.own (by omega) hT hd hu gg h2.go (by omega)) ?_
  rintro _ w1 ⟨rfl,F',h1',hF',mF⟩
  exact ⟨rfl,rest h1' hF' mF (h2.push2 (by omega) hop gg (by omega)) rfl (h5.push2 hfk hop _)⟩
 ·refine callK_mono (hH.push hop (by omega) hm hd hu bb.1 bb.2) ?_
  rintro _ w1 ⟨rfl,F',h1',hF',mF⟩
  exact ⟨rfl,rest h1' hF' mF (h2.push hop gg) rfl (h5.push hop _)⟩
end
end Go.Proofs.YtlbaopamhkmepaaGreatDoor

namespace Go.Proofs.YtlbaopamhkmepaaGreatDoor
open Go Go.K
section
variable {w0 W:World} {keys ks:List DKey} {mx b c i:Nat} {kv:Value} {op:Bool} {us rs:Nat}
theorem PL.depths (hp:PL w0 keys ks mx b c kv op us rs i W):callK Tryz.prog 20 [.pointer (some ⟨b,0,none⟩)] (fun v' w'=>v'=.tuple #[.int .i64 us,.int .i64 rs]∧Grow W w') W:=by
 obtain ⟨F,C,h,d,h1,h2,h3,h4,h5,h6,h7,h8,rfl,rfl,rfl⟩:=hp
 exact depths_ok h1.his
theorem PL.opened (hp:PL w0 keys ks mx b c kv op us rs i W):callK Tryz.prog 33 [.pointer (some ⟨b,0,none⟩)] (fun v' w'=>v'=.bool op∧w'=W) W:=by
 obtain ⟨F,C,h,d,h1,h2,h3,h4,h5,h6,h7,h8,rfl,rfl,rfl⟩:=hp
 exact open_ok h1.his
theorem PL.cells (hp:PL w0 keys ks mx b c kv op us rs i W):(∃ a n,W.cell? ⟨c,2,none⟩=some (.slice a us n))∧(∃ a n,W.cell? ⟨c,3,none⟩=some (.slice a rs n))∧W.cell? ⟨c,4,none⟩=some (.bool op):=by
 obtain ⟨F,C,h,d,h1,h2,h3,⟨uv,rv,od,ou,hr⟩,h5,h6,h7,h8,rfl,rfl,rfl⟩:=hp
 obtain ⟨a,n,rfl,_⟩:=hr.und.shape
 obtain ⟨a',n',rfl,_⟩:=hr.red.shape
 have e2:=hr.cells 2 _ rfl
 have e3:=hr.cells 3 _ rfl
 have e4:=hr.cells 4 _ rfl
 rw [h5.us] at e2
 rw [h5.rs] at e3
 rw [h5.op] at e4
 exact ⟨⟨_,_,e2⟩,⟨_,_,e3⟩,e4⟩
end
set_option maxRecDepth 20000 in
theorem HistoryPlays_ok {S S':Nat→Prop} {max:Int} {kv lv:Value} {keys:List DKey} {l:List HOp} {w:World} (hT:Tabs w) (hk:RKeys S w kv keys) (hl:SlR S' 3 (RHOp S') w lv l) (hI:∀ x ∈ l,((∀ o ∈ x.d,InO o)∧∀ o ∈ x.u,InO o)∧mDops x.d+mDops x.u≤1099511627776) :
  callK Tryz.prog 5 [kv,.int .i64 max,lv] (fun v w'=>v=.bool true∧Grow w w') w:=by
 apply S5_ok
 unfold S5
 have kn:∀ {w1:World},Grow w w1→callK Tryz.prog 16 [] (fun v w'=>v=.bool true∧Grow w w') w1:=fun g=>callK_mono known27_ok fun _ _ h=>⟨h.1,g.trans h.2⟩
 obtain ⟨la,lc,rfl,_⟩:=hl.shape
 obtain ⟨ka,kc,rfl,_⟩:=hk.shape
 have rl:∀ {W:World},Grow w W→SlR S' 3 (RHOp S') W (.slice la l.length lc) l:=fun g=>hl.grow g (by decide) fun _ _ hx=>hx.mod g fun _ _ _ h=>h
 refine callK_mono (new_key_ok hk) ?_
 rintro _ w1 ⟨g1,⟨hM,sv,ks,rfl,hpm,hps,hS⟩ | ⟨_,rfl⟩⟩
 rotate_left
 ·-- no schema
  refine extK_i (vs:=[_,_]) (by rfl) (extK_i (vs:=[_,_]) (by rfl) ?_)
  refine JoinK_i (fun _ _=>False) (fun _ _ h=>h.elim) ?_
  rw [neK_i]
  exact condK_neg (fun e=>absurd e (by decide)) fun _=>kn g1
 refine extK_i (vs:=[_,_]) (by rfl) (extK_i (vs:=[_,_]) (by rfl) ?_)
 have hmk:=mayk_iff.1 hM
 have h64k:keys.length≤64:=hmk.1
 have h64:ks.length≤64:=by rw [hpm.length_eq];exact h64k
 have hfk:∀ id,findK keys id=findK ks id:=fun id=>(findK_perm hpm (strict_dist hps) id).symm
 refine JoinK_i (fun _ W=>Grow w1 W∧TameH keys l) ?_ ?_
 rotate_left
 ·rw [neK_i]
  refine condK_neg (fun _=>?_) fun e=>(e rfl).elim
  refine callK_mono (tameh_ok (hk.grow g1 (by decide) fun _ _ h=>h) (rl g1) fun x hx=>(hI x hx).2) ?_
  rintro _ w3 ⟨g3,rfl | ⟨rfl,ht⟩⟩
  ·rw [notK_i];exact condK_t (kn (g1.trans g3))
  ·rw [notK_i];exact condK_f ⟨g3,ht⟩
 rintro _ w2 ⟨g2,ht⟩ _
 have h80:=ht.1
 have hS2:=hS.grow g2
 have g02:=g1.trans g2
 by_cases hmx:max < 0∨65536 < max
 ·refine callK_mono (hnew_bad hmx) ?_
  rintro _ _ ⟨rfl,rfl⟩
  rename World=>w2
  refine extK_i (vs:=[_,_]) (by rfl) (extK_i (vs:=[_,_]) (by rfl) ?_)
  refine JoinK_i (fun _ _=>False) (fun _ _ h=>h.elim) ?_
  have e2:∀ {K:World→Prop},callK Tryz.prog 16 [] (fun v w'=>v=.bool true∧Grow w w') w2→(pnilK (.pointer none) fun bb=>condK (.bool bb) (eqK .i64 (.int .i64 2) (.int .i64 2) fun t55=>condK t55 (callK Tryz.prog 16 [] (fun v w'=>v=.bool true∧Grow w w') w2) (K w2)) (K w2)):=by
   intro K h
   rw [pnilK_i]
   refine condK_t ?_
   rw [eqK_i]
   exact condK_p (fun _=>h) fun e=>(e rfl).elim
  rw [ltK_i]
  refine condK_p (fun _=>e2 (K:=fun W=>Value.bool false=.bool true∧Grow w W) (kn g02)) fun h0=>?_
  rw [gtK_i]
  refine condK_p (fun _=>e2 (K:=fun W=>Value.bool false=.bool true∧Grow w W) (kn g02)) fun h1=>by omega
 obtain ⟨mx,rfl⟩:∃ m:Nat,max=m:=⟨max.toNat,by omega⟩
 refine callK_mono (HL.new (mx:=mx) hS2 (fun x _ hx=>hx) g02 (by omega)) ?_
 rintro _ w3 ⟨b,F,rfl,hH⟩
 refine extK_i (vs:=[_,_]) (by rfl) (extK_i (vs:=[_,_]) (by rfl) ?_)
 refine JoinK_i (fun _ W=>W=w3) ?_ ?_
 rotate_left
 ·rw [ltK_i]
  refine condK_p (fun e=>by omega) fun _=>?_
  rw [gtK_i]
  exact condK_p (fun e=>by omega) fun _=>rfl
 rintro _ _ rfl _
 rename World=>w3
 refine JoinK_i (fun _ W=>W=w3) ?_ ?_
 rotate_left
 ·refine pnilK_s (condK_f ?_)
  rw [neK_i]
  exact condK_neg (fun _=>rfl) fun e=>(e rfl).elim
 rintro _ _ rfl _
 rename World=>w3
 refine ⟨#[.slice ka keys.length kc,.int .i64 mx,.slice none 0 0,.slice none 0 0,.bool false,.bool false,.slice none 0 0,.slice none 0 0],by kernel_rfl,?_⟩
 refine boxn_i (vs:=[.slice ka keys.length kc,.int .i64 mx,.slice none 0 0,.slice none 0 0,.bool false,.bool false,.slice none 0 0,.slice none 0 0]) fun c w6 hc6 hz6 g6 hcc hcl=>?_
 have hkv:∀ j v,(rhL (.slice ka keys.length kc) mx (.slice none 0 0) (.slice none 0 0) false false (.slice none 0 0) (.slice none 0 0))[j]?=some v→w6.cell? ⟨c,j,none⟩=some v:=fun j v hv=>by rw [←addr0];exact hcc j v hv
 have z03:=hH.g.size
 have hp6:PLs w keys ks mx b c (.slice ka keys.length kc) 0 w6:=
  PL.of (C:=fun _=>False) (d:=⟨mx,[],[],false,false,⟨[],[]⟩⟩) (hH.grow g6) ⟨by show mx≤65536;omega,by simp,by simp,by simp,fun _=>rfl,fun e=>(e rfl).elim,by simp,by simp,by simp⟩ rfl
   ⟨_,_,_,_,⟨hkv,fun j hj=>by rw [←addr0];exact hcl j hj,SlR.nil,SlR.nil,⟨_,_,rfl,SlR.nil,SlR.nil⟩,fun _ h=>h.elim⟩⟩ ⟨rfl,rfl,rfl,rfl,fun e=>by cases e⟩ (fun _ h=>h.elim) (fun e=>by have:=(hH.hF c e).2;omega) (by omega)
 rw [lenK_i]
 refine LoopK_i (fun vs W=>∃ (p i:Nat),p≤i∧i≤l.length∧vs=[.int .i64 p,.int .i64 i]∧PLs w keys ks mx b c (.slice ka keys.length kc) i W) (fun vs _=>l.length - iOf vs 1)
  ⟨0,0,by omega,by omega,rfl,hp6⟩ ?_
 clear hH hp6 hkv hcc hcl
 rintro vs W ⟨p,i,hpi,hi,rfl,op,us,rs,hp⟩ _
 simp only [nth_s,nth_z,List.headD_cons,List.tail_cons]
 rw [ltK_i]
 refine condK_p (fun hlt=>?_) fun hge=>kn hp.g
 have hlt':i < l.length:=by omega
 have hmem:=List.getElem_mem hlt'
 have ht1:=ht.2 _ hmem
 have hi1:=hI _ hmem
 -- the round's end
 refine JoinK_i (fun vs W'=>∃ (p':Nat),p'≤i+1∧vs=[.int .i64 p']∧PLs w keys ks mx b c (.slice ka keys.length kc) (i+1) W') ?_ ?_
 ·rintro _ W' ⟨p',hp',rfl,hq⟩ _
  simp only [nth_s,nth_z,List.headD_cons,List.tail_cons]
  rw [addK_i,loop_step (by omega)]
  exact ⟨⟨p',i+1,hp',hlt',rfl,hq⟩,by rw [iOf1,iOf1];omega⟩
 obtain ⟨q,r,rfl,_,hr,hc0,hop⟩:=hl.get hlt'
 have hc:∀ j u,r[j]?=some u→W.cell? (q.add (i * 3+j))=some u:=fun j u hu=>hp.g.cell (hc0 j u hu) fun h=>h
 refine ixK_n hlt' (ldnK_i hr (fun j u hu=>by rw [Addr.add_add];exact hc j u hu) ?_)
 refine newst_n hr rfl hop.one fun b14 w8 hb14 hz8 g8 hc8 _=>?_
 obtain ⟨dv,uv,rfl,r1,r2⟩:=hop
 have hp8:=hp.grow g8
 have g08:=hp.g.trans g8
 have r1':=RDops.grow r1 g08
 have r2':=RDops.grow r2 g08
 -- the look at both
 refine JoinK_i (fun vs W'=>∃ (p':Nat),p'≤i+1∧vs=[.int .i64 p']∧PLs w keys ks mx b c (.slice ka keys.length kc) (i+1) W') ?_ ?_
 ·rintro _ W' ⟨p',hp',rfl,op',us',rs',hq⟩ _
  simp only [nth_s,nth_z,List.headD_cons,List.tail_cons]
  refine callK_mono hq.depths ?_
  rintro _ w13 ⟨rfl,g13⟩
  refine extK_i (vs:=[_,_]) (by rfl) (extK_i (vs:=[_,_]) (by rfl) ?_)
  have hq2:=hq.grow (g13.trans (Mod.drew _ _))
  obtain ⟨⟨a2,n2,e2⟩,⟨a3,n3,e3⟩,e4⟩:=hq2.cells
  refine drawC_i (fun _ _=>False) ?_
  refine nilckK_s ?_
  rw [faK_i,addr0]
  refine sld1_i ⟨e2,fun _ _ h=>h⟩ ?_
  rw [lenK_i,neK_i]
  refine condK_neg (fun _=>?_) fun e=>(e rfl).elim
  refine nilckK_s ?_
  rw [faK_i,addr0]
  refine sld1_i ⟨e3,fun _ _ h=>h⟩ ?_
  rw [lenK_i,neK_i]
  refine condK_neg (fun _=>?_) fun e=>(e rfl).elim
  refine callK_mono hq2.opened ?_
  rintro _ w14 ⟨rfl,rfl⟩
  refine ⟨Mod.refl _ _,nilckK_s ?_⟩
  rw [faK_i,addr0]
  refine sld1_i ⟨e4,fun _ _ h=>h⟩ ?_
  rw [bneK_i]
  have e:(!(op' == op'))=false:=by cases op' <;> rfl
  rw [e]
  exact condK_f ⟨p',hp',rfl,_,_,_,hq2⟩
 rw [faK_i]
 refine ld1K_i (hc8 0 _ rfl) ?_
 rw [eqK_i]
 refine condK_p (fun k1=>?_) fun k1=>?_
 ·obtain ⟨f1,f2⟩:=ht1 k1
  refine JoinK_i (fun vs W'=>vs=[.int .i64 ((p+1:Nat):Int)]∧W'=w8) ?_ ?_
  ·rintro _ _ ⟨rfl,rfl⟩ _
   rename World=>w8
   simp only [nth_s,nth_z,List.headD_cons,List.tail_cons]
   have gd:Grow w8 w8.drew:=Mod.drew _ _
   have zd:w8.drew.heap.size=w8.heap.size:=rfl
   refine drawC_i (fun _ _=>False) ?_
   rw [faK_i]
   refine sld1_i ⟨gd.cell (hc8 1 _ rfl) fun h=>h,fun _ _ h=>h⟩ ?_
   refine callK_mono (rcopy_dops (RDops.grow r1' gd) (by omega)) ?_
   rintro dc w17 ⟨o17,g17⟩
   refine ⟨g17,?_⟩
   rw [faK_i]
   refine sld1_i ⟨gd.cell (hc8 2 _ rfl) fun h=>h,fun _ _ h=>h⟩ ?_
   refine callK_mono (rcopy_dops (RDops.grow r2' (gd.trans g17)) (by omega)) ?_
   rintro uc w18 ⟨o18,g18⟩
   refine ⟨g18,?_⟩
   have z17:=g17.size
   have z18:=g18.size
   have s17:=(SpoilR.new o17).mod g18 fun _ _ _ h=>h
   have s18:=SpoilR.new o18
   refine callK_mono (hp.push (by omega) hT hk h64k hpm.length_eq hfk (((g8.trans gd).trans g17).trans g18) (RDops.grow (ODops.reads o17) g18) (ODops.reads o18) f1 f2 hi1.1.1 hi1.1.2) ?_
   rintro _ w19 ⟨rfl,m19,hrest⟩
   have z19:=m19.size
   rw [neK_i]
   refine condK_neg (fun _=>?_) fun e=>(e rfl).elim
   refine callK_mono (spoil_ok (s17.mod m19 fun z h1 h2 e=>by omega) (by omega)) ?_
   rintro _ w20 m20
   refine callK_mono (spoil_ok ((s18.mod m19 fun z h1 h2 e=>by omega).mod m20 fun z h1 h2 e=>by omega) (by omega)) ?_
   rintro _ w21 m21
   have z20:=m20.size
   have z21:=m21.size
   have m1921:Mod (fun z=>w8.heap.size≤z∧z < w18.heap.size) w19 w21:=(m20.mono fun z _ e=>⟨by omega,by omega⟩).trans (m21.mono fun z _ e=>⟨by omega,by omega⟩)
   have gd21:Grow w21 w21.drew:=Mod.drew _ _
   have zd21:w21.drew.heap.size=w21.heap.size:=rfl
   have z08:=g08.size
   have z0W:=hp.g.size
   have g018:=((g08.trans gd).trans g17).trans g18
   have g021:Grow w w21.drew:=((g018.next m19 fun z hz e=>by omega).next m1921 fun z hz e=>by omega).trans gd21
   have hc21:∀ j v,([.int .i64 l[i].kind,dv,uv]:List Value)[j]?=some v→w21.drew.cell? ((⟨b14,0,none⟩:Addr).add j)=some v:=fun j v hv=>gd21.cell (m1921.cell (m19.cell (((gd.trans g17).trans g18).cell (hc8 j v hv) fun h=>h) (by rw [add_block];intro e;have e2:=e.2;have e3:b14 < W.heap.size:=e2;omega)) (by rw [add_block];intro e;have e2:w8.heap.size≤b14:=e.1;omega)) fun h=>h
   refine drawC_i (fun k y=>k=7∧y=c) ?_
   rw [faK_i]
   refine sld1_i ⟨hc21 1 _ rfl,fun j hj e=>by obtain ⟨rfl,_⟩:=e;exact absurd hj (by decide)⟩ ?_
   refine callK_mono (rcopy_dops (RDops.grow r1 g021) (by omega)) ?_
   rintro dc2 w22 ⟨o22,g22⟩
   refine ⟨g22.mono fun _ _ h=>h.elim,?_⟩
   rw [faK_i]
   refine sld1_i ⟨hc21 2 _ rfl,fun j hj e=>by obtain ⟨rfl,_⟩:=e;exact absurd hj (by decide)⟩ ?_
   refine callK_mono (rcopy_dops (RDops.grow r2 (g021.trans g22)) (by omega)) ?_
   rintro uc2 w23 ⟨o23,g23⟩
   refine ⟨g23.mono fun _ _ h=>h.elim,?_⟩
   have z22:=g22.size
   have z23:=g23.size
   refine callK_mono (hrest w21 w23 dc2 uc2 (m1921.mono fun z _ e=>⟨by omega,e.2⟩) (gd21.trans (g22.trans g23)) ⟨_,_,rfl,?_,?_⟩) ?_
   ·exact (ODops.reads o22).to g23 (fun _ _ _ h=>h) (fun _ _ _ h=>h) (fun z _ hz=>⟨by have:=hz.1;omega,by have:=hz.2;omega⟩) fun z _ hz=>⟨by have:=hz.1;omega,by have:=hz.2;omega⟩
   ·exact (ODops.reads o23).to (Mod.refl (fun _=>False) _) (fun _ _ _ h=>h) (fun _ _ _ h=>h) (fun z _ hz=>⟨by have:=hz.1;omega,by have:=hz.2;omega⟩) fun z _ hz=>⟨by have:=hz.1;omega,by have:=hz.2;omega⟩
   rintro _ w24 ⟨m24,hq⟩
   exact ⟨m24.mono fun z _ e=>⟨rfl,e⟩,p+1,by omega,rfl,hq⟩
  ·obtain ⟨_,_,e4⟩:=hp8.cells
   rw [addK_i,loop_step (by omega)]
   refine nilckK_s ?_
   rw [faK_i,addr0]
   refine ld1K_i e4 ?_
   cases op with
   | false=>exact condK_f ⟨rfl,rfl⟩
   | true=>
    refine condK_t ?_
    rw [gtK_i]
    exact condK_p (fun _=>⟨p+1,by omega,rfl,_,_,_,hp8.up (by omega)⟩) fun _=>⟨rfl,rfl⟩
 rw [eqK_i]
 refine condK_p (fun k2=>?_) fun k2=>?_
 ·refine callK_mono hp8.begin ?_
  intro v26 w26 hb
  refine callK_mono hb ?_
  rintro v27 w27 ⟨e,rfl,rfl,op',us',rs',hq⟩
  rw [neK_i]
  exact condK_neg (fun _=>⟨0,by omega,rfl,_,_,_,hq.up (by omega)⟩) fun e=>(e rfl).elim
 rw [eqK_i]
 refine condK_p (fun k3=>?_) fun k3=>?_
 ·refine callK_mono (hp8.end (by omega)) ?_
  intro v28 w28 hb
  refine callK_mono hb ?_
  rintro v29 w29 ⟨e,rfl,rfl,op',us',rs',hq⟩
  rw [neK_i]
  exact condK_neg (fun _=>⟨p,by omega,rfl,_,_,_,hq.up (by omega)⟩) fun e=>(e rfl).elim
 refine JoinK_i (fun vs W'=>W'=w8∧∃ q:Bool,vs=[.bool q]) ?_ ?_
 rotate_left
 ·rw [eqK_i]
  refine condK_p (fun k4=>⟨rfl,_,rfl⟩) fun k4=>?_
  rw [eqK_i]
  exact ⟨rfl,_,rfl⟩
 rintro _ _ ⟨rfl,q,rfl⟩ _
 rename World=>w8
 simp only [nth_s,nth_z,List.headD_cons,List.tail_cons]
 cases q with
 | false=>exact condK_f ⟨p,by omega,rfl,_,_,_,hp8.up (by omega)⟩
 | true=>
  refine condK_t ?_
  refine JoinK_i (fun vs W'=>W'=w8∧(vs=[.func (.func 21) #[.pointer (some ⟨b,0,none⟩)] #[],.func (.func 32) #[.pointer (some ⟨c,0,none⟩)] #[]]∨vs=[.func (.func 19) #[.pointer (some ⟨b,0,none⟩)] #[],.func (.func 31) #[.pointer (some ⟨c,0,none⟩)] #[]])) ?_ ?_
  rotate_left
  ·rw [faK_i]
   refine ld1K_i (hc8 0 _ rfl) ?_
   rw [eqK_i]
   exact condK_p (fun _=>⟨rfl,.inl rfl⟩) fun _=>⟨rfl,.inr rfl⟩
  rintro _ _ ⟨rfl,hv⟩ _
  rename World=>w8
  rcases hv with rfl | rfl
  ·simp only [nth_s,nth_z,List.headD_cons,List.tail_cons]
   refine callyK_b (by kernel_rfl) (callK_mono hp8.redo ?_)
   rintro _ w32 ⟨e,cv,rfl,hb⟩
   refine extK_i (vs:=[_,_]) (by rfl) (extK_i (vs:=[_,_]) (by rfl) ?_)
   refine callyK_b (by kernel_rfl) (callK_mono hb ?_)
   rintro _ w33 ⟨zv,x,n,m,S1,S2,rfl,q1,q2,q3,q4,q5⟩
   refine extK_i (vs:=[_,_]) (by rfl) (extK_i (vs:=[_,_]) (by rfl) ?_)
   rw [neK_i]
   refine condK_neg (fun _=>?_) fun e=>(e rfl).elim
   refine callK_mono (rsame_dops q1 q2) ?_
   rintro _ w35 ⟨rfl,g35⟩
   rw [notK_i,decide_eq_true rfl]
   refine condK_f (callK_mono (spoil_ok (q3.mod g35 fun _ _ _ h=>h) q4) ?_)
   rintro _ w36 m36
   obtain ⟨op',us',rs',hq⟩:=q5 _ _ g35 m36
   exact ⟨p,by omega,rfl,_,_,_,hq.up (by omega)⟩
  ·simp only [nth_s,nth_z,List.headD_cons,List.tail_cons]
   refine callyK_b (by kernel_rfl) (callK_mono hp8.undo ?_)
   rintro _ w32 ⟨e,cv,rfl,hb⟩
   refine extK_i (vs:=[_,_]) (by rfl) (extK_i (vs:=[_,_]) (by rfl) ?_)
   refine callyK_b (by kernel_rfl) (callK_mono hb ?_)
   rintro _ w33 ⟨zv,x,n,m,S1,S2,rfl,q1,q2,q3,q4,q5⟩
   refine extK_i (vs:=[_,_]) (by rfl) (extK_i (vs:=[_,_]) (by rfl) ?_)
   rw [neK_i]
   refine condK_neg (fun _=>?_) fun e=>(e rfl).elim
   refine callK_mono (rsame_dops q1 q2) ?_
   rintro _ w35 ⟨rfl,g35⟩
   rw [notK_i,decide_eq_true rfl]
   refine condK_f (callK_mono (spoil_ok (q3.mod g35 fun _ _ _ h=>h) q4) ?_)
   rintro _ w36 m36
   obtain ⟨op',us',rs',hq⟩:=q5 _ _ g35 m36
   exact ⟨p,by omega,rfl,_,_,_,hq.up (by omega)⟩
end Go.Proofs.YtlbaopamhkmepaaGreatDoor

namespace Go.Proofs.YtlbaopamhkmepaaGreatDoor
open Go Go.K
open Go.ChangeShapes Go.Joins
variable {H:Type} {enc:TypeId × Value→H} {w:World} {base:Nat} {spare:Nat→Bool} {held:Bool}
theorem keys_of_trod {n:Nat} {cs:List Value} {y:DataW H × List MemPlace} (h:DataW.trod enc Tryz.prog w base spare held n 48 cs=some y):∃ v l,cs=[v]∧RKeys (fun _=>True) w v l:=by
 obtain ⟨v,l,e,h1,_⟩:=keys_of_trodU h
 exact ⟨v,l,e,h1⟩
end Go.Proofs.YtlbaopamhkmepaaGreatDoor

namespace Go.Proofs.YtlbaopamhkmepaaGreatDoor
open Go Go.K
open Go.ChangeShapes Go.WideShapes Go.ChangeAt Go.RowKit
set_option linter.unusedVariables false

theorem ownK:ownKnob Tryz.prog.godebug=none:=by kernel_rfl
theorem laidOut:laidOutB Tryz.prog=true:=by kernel_rfl

set_option maxRecDepth 100000 in
theorem HistoryPlays_lifted (os:Os) (started:os.Started) (H:Type) (enc:TypeId × Value→H) (F0:Stop.Interp) :
  ReturnsInHanded {} Tryz.checked os 5 .any ((Rows.OpenSpec.upto Rows.historyPlaysSpec).preRow enc Tryz.prog Tryz.f5 [] false Rows.historyPlaysUptoRow.laid) (((Rows.OpenSpec.upto Rows.historyPlaysSpec).at F0).post enc Tryz.prog Tryz.f5 false true false false):=by
 refine returnsInHanded_of_row (C:=Tryz.checked) (s:=(Rows.OpenSpec.upto Rows.historyPlaysSpec)) ownK started (by kernel_rfl) Tryz.func5
  (witness_row_at (enc:=enc) (C:=Tryz.checked) (s:=(Rows.OpenSpec.upto Rows.historyPlaysSpec)) false (laidWorld os) #[.slice none 0 0,.int .i64 0,.slice none 0 0] rfl (by kernel_rfl) (by kernel_rfl) (by kernel_rfl)
   ⟨⟨(OpenSpec.pre_some (k:=Rows.uptoSmall) rfl [] false _ _).2 ⟨_,_,_,DataW.Whole_of_whole (fuel:=8) (x:=([.nil,.lit (.int .i64 0),.nil],[],[])) (by kernel_rfl),by kernel_rfl,by kernel_rfl⟩,laidWorld_met os _⟩,sizedMet_of_sizedB (fuel:=8) (by kernel_rfl)⟩) ?_
 intro W base args ds gs before hval0 hW _ hk0 _ hL _ _
 have hW':=hW
 obtain ⟨p,q,hA0,hV,rfl,hfz,hnd⟩:=hW
 have hA:DataW.TrodAll enc Tryz.prog W 0 (fun _=>true) true Tryz.f5.params.toList args.toList ds p:=hA0
 have hval:∀ (j:Nat) t v,Tryz.f5.params[j]?=some t→args[j]?=some v→Value.okWide Tryz.prog W .any base t v:=hval0
 rw [Tryz.params5] at hA hval
 have htab:Tabs W:=tabs_of_laid hL
 obtain ⟨v0,vs0,d0,ds0,p0,q0,hargs,rfl,rfl,h0,r0⟩:=trodAll_cons hA
 obtain ⟨v1,vs1,d1,ds1,p1,q1,rfl,rfl,rfl,h1,r1⟩:=trodAll_cons r0
 obtain ⟨v2,vs2,d2,ds2,p2,q2,rfl,rfl,rfl,h2,r2⟩:=trodAll_cons r1
 obtain ⟨rfl,rfl,rfl⟩:=trodAll_nil r2
 obtain rfl:args=#[v0,v1,v2]:=by cases args;simp_all
 obtain ⟨rfl,rfl⟩:=trodVars_none hV
 have hk:=of_decide_eq_true (hk0 _ rfl)
 simp only [List.append_nil,Rows.uptoBulkAll] at hk
 have lt0:∀ x ∈ p0,x.block < W.heap.size:=by obtain ⟨m,hm⟩:=h0;exact DataW.trod_lt m _ _ _ hm
 obtain ⟨fuel0,hf0⟩:=id h0
 obtain ⟨u0,l0,e0,s0⟩:=keys_of_trod hf0
 try dsimp only at s0
 obtain ⟨a0,n0,c0,rfl⟩:=okWide_slice Tryz.underlying48 (hval 0 48 v0 rfl rfl)
 simp only [Value.cells,List.cons.injEq,and_true] at e0
 subst e0
 obtain ⟨x1,rfl,rfl,rfl,w1⟩:=open_int Tryz.underlying3 (hval 1 3 v1 rfl rfl) h1
 have lt2:∀ x ∈ p2,x.block < W.heap.size:=by obtain ⟨m,hm⟩:=h2;exact DataW.trod_lt m _ _ _ hm
 obtain ⟨fuel2,hf2⟩:=id h2
 obtain ⟨u2,l2,e2,s2⟩:=hops_of_trodF hf2
 try dsimp only at s2
 obtain ⟨a2,n2,c2,rfl⟩:=okWide_slice Tryz.underlying49 (hval 2 49 v2 rfl rfl)
 simp only [Value.cells,List.cons.injEq,and_true] at e2
 subst e2
 clear hA0 hval0
 refine (HistoryPlays_ok htab s0 s2.1 fun x hx=>⟨(s2.2 x hx).1,by have:=(s2.2 x hx).2;omega⟩).mono fun e W' ⟨v,he,hv,hg⟩=>?_
 subst he;subst hv
 have bel:Below W.heap.size W W':=Mod.below hg (Nat.le_refl _) fun _ h=>h.elim
 exact ⟨_,rfl,_,_,_,[],_,[],hW',trodAll_mk1 (shut_bool Tryz.underlying4 _),(trodAll_cons_mk (Below.trod laidOut (by kernel_rfl) (of_decide_eq_true (by kernel_rfl)) h0 bel lt0) (trodAll_cons_mk (shut_int Tryz.underlying3 w1) (trodAll_cons_mk (Below.trod laidOut (by kernel_rfl) (of_decide_eq_true (by kernel_rfl)) h2 bel lt2) trodAll_mk0))),rfl,bel.frame _,fun h=>by cases h⟩
theorem HistoryPlays_said:Rows.HistoryPlaysUptoSaid:=
 OpenClaim.holds_of_cond 5 Tryz.f5 rfl rfl rfl rfl rfl rfl rfl ⟨rfl,rfl,rfl,rfl,rfl⟩ rfl rfl rfl rfl rfl (by kernel_rfl) Tryz.func5 (by kernel_rfl)
  (of_decide_eq_true (by kernel_rfl)) (by unfold Func.isWrapper;first | (rw [if_pos (by decide +kernel)];kernel_rfl) | (rw [if_neg (by decide +kernel)];exact ⟨rfl,rfl⟩))
  (fun os started H enc _ F0=>HistoryPlays_lifted os started H enc F0)
theorem HistoryPlaysUpto_proved:Rows.HistoryPlaysUptoCardSaid:=
 Claim7.holds_tied_plain_at .later [] [.data,.pinned] true Rows.historyPlaysUptoCard.stood.harness false
  HistoryPlays_said (fun _ h=>by cases h) (by kernel_rfl) (fun _ h=>by cases h) historyPlaysUpto_row_tie rfl ⟨rfl,rfl⟩ (by kernel_rfl) rfl
  (fun f fn hf hfn=>by
   obtain rfl : f = 5 := Option.some.inj ((show Tryz.prog.funcNamed "rubric/rubriclaw27.HistoryPlays" = some 5 by kernel_rfl).symm.trans hf) |>.symm
   obtain rfl:fn=Tryz.f5:=(Option.some.inj (Tryz.func5.symm.trans hfn)).symm
   exact ⟨by kernel_rfl,fun j t ht=>by
    rw [Tryz.params5] at ht
    have hm:t ∈ [48,3,49]:=by simpa using Array.mem_of_getElem? ht
    have hall:([48,3,49].all fun u=>!Tryz.prog.wantsStandIn u)=true:=by kernel_rfl
    exact (show Tryz.prog.wantsStandIn t=false by simpa using List.all_eq_true.1 hall t hm)⟩)
  (by kernel_rfl)
#print axioms HistoryPlaysUpto_proved
end Go.Proofs.YtlbaopamhkmepaaGreatDoor
