/- parts of the proof, written short by a program of ours -/
import Derived.Test.YtmdhibffnkhcnaaGreatDoorZTextNormalUpto10
set_option linter.unusedSimpArgs false
set_option linter.unusedVariables false
namespace Go.Proofs.YtmdhibffnkhcnaaGreatDoor
open Go Proofs.Tryz
variable {i j B:Nat}{w W w' W' w0:World}{F S C M D':Nat->Prop}{v fr sv:Value}{most:Int}{α:Type}{ks:List DKey}{K:Cont}{σ:SKs}{d:List Cel}
section
structure NI (ks:List DKey) (d:List Cel):Prop where
 set:∀c∈d,ET ks c.set
 last:(Ax d).getLast?=some 10
theorem GP.up{k:TxK}{a:TxA}{N N':Nat}(h:GP k w0 F W a σ most d N)(j:N<=N'):GP k w0 F W a σ most d N':=by
 obtain⟨z,l2,t,f,h1,o,B,E,I,J,Q⟩:=h;obtain⟨own,G,l1,O,i⟩:=o;exact⟨z,l2,t,f,h1,⟨own,G,l1,O,i.box,i.Hn.up j,i.EX.up j,i.para.up j,i.Qo,i.JS,i.cb,i.cr,i.cs,i.cp,i.ct,i.cS,i.lo,i.hl,i.g⟩,B,E,I,J,by omega⟩
theorem GP.grow{k:TxK}{a:TxA}{N:Nat}(h:GP k w0 F W a σ most d N)(g:Grow W W'):GP k w0 F W' a σ most d N:=by
 obtain⟨z,l2,t,f,h1,i,j⟩:=h;exact⟨z,l2,t,f,h1,i.grow g,j⟩
theorem GP.mod{k:TxK}{a:TxA}{N:Nat}(h:GP k w0 F W a σ most d N)(hm:Mod M W W')(i:∀x,M x->¬F x/\¬σ.S x/\w0.heap.size<=x):GP k w0 F W' a σ most d N:=by
 obtain⟨z,l2,t,f,h1,j,o⟩:=h;exact⟨z,l2,t,f,h1,j.mod hm i,o⟩
theorem GP.hl{k:TxK}{a:TxA}{N:Nat}(h:GP k w0 F W a σ most d N):∀x,F x->w0.heap.size<=x/\x<W.heap.size/\¬σ.S x:=by
 obtain⟨z,l2,t,f,h1,i,j⟩:=h;exact i.hl
theorem GP.box{k:TxK}{a:TxA}{N:Nat}(h:GP k w0 F W a σ most d N):Bx W a.b (Ur σ.sv most a.r a.s a.p a.t)/\F a.b:=by
 obtain⟨z,l2,t,f,h1,i,j⟩:=h;exact i.box
theorem GP.JS{k:TxK}{a:TxA}{N:Nat}(h:GP k w0 F W a σ most d N):De σ.S W σ.sv σ.ks/\∀x,σ.S x->x<W.heap.size:=by
 obtain⟨z,l2,t,f,h1,i,j⟩:=h;exact i.JS
theorem GP.g{k:TxK}{a:TxA}{N:Nat}(h:GP k w0 F W a σ most d N):Grow w0 W:=by
 obtain⟨z,l2,t,f,h1,i,j⟩:=h;exact i.g
theorem GP.Hn{a:TxA}{N:Nat}(h:GP .f w0 F W a σ most d N):∃l1 Fr bt,Bf l1=Ax d/\Dj A6.toAvT Fr GV W a.r bt l1 N:=by
 obtain⟨z,l2,t,f,h1,i,B⟩:=h;obtain⟨l1,Fr,bt,j,o,_⟩:=i.SS;exact⟨l1,Fr,bt,j,o⟩
theorem K4.next{k:TxK}{F i:Nat->Prop}{W j W':World}{a:TxA}{N:Nat}(o:∀x,i x->F x\/W.heap.size<=x)(hm:Mod F W j)(h:K4 k w0 i j W' a σ most d N):K4 k w0 F W W' a σ most d N:=by
 obtain⟨E,h1,I,J⟩:=h;have z:=hm.size;refine⟨E,fun x B=>?_,I,hm.next J fun x B e=>?_⟩
 .rcases h1 x B with e|e
  .exact o x e
  .exact .inr (by omega)
 .rcases o x e with e|e
  .exact e
  .omega
theorem K4.step{k:TxK}{W i W':World}{a:TxA}{N:Nat}(g:Grow W i)(h:K4 k w0 F i W' a σ most d N):K4 k w0 F W W' a σ most d N:=K4.next (fun _ h=>.inl h) (g.mono fun _ _ h=>h.elim) h
theorem K4.up{k:TxK}{a:TxA}{N N':Nat}(h:K4 k w0 F W W' a σ most d N)(i:N<=N'):K4 k w0 F W W' a σ most d N':=by
 obtain⟨F',h1,j,o⟩:=h;exact⟨F',h1,j.up i,o⟩
def HT(ks:List DKey)(p:List Chg)(c:Cel):Cel:=if c.r=10 then⟨10,Bz c.set (Gf ks true p)⟩ else c
theorem Ly(ks:List DKey)(p:List Chg)(c:Cel):(HT ks p c).r=c.r:=by unfold HT;split<;>simp_all
def I7(ks:List DKey)(p:List Chg)(d:List Cel)(i j m:Nat):List Cel:=d.mapIdx fun k c=>if i<=k/\k<m then Dv ks p c else if i<=k/\k<j then HT ks p c else c
theorem FK(ks:List DKey)(p:List Chg)(d:List Cel)(i j m k:Nat):(I7 ks p d i j m)[k]?=d[k]?.map fun c=>if i<=k/\k<m then Dv ks p c else if i<=k/\k<j then HT ks p c else c:=by
 rw[I7,List.getElem?_mapIdx]
theorem Pt(ks:List DKey)(p:List Chg)(d:List Cel)(i j m:Nat):(I7 ks p d i j m).length=d.length:=List.length_mapIdx
theorem Nj(ks:List DKey)(p:List Chg)(d:List Cel)(o:i<=j)(B:j<=d.length):I7 ks p d i j i=ND d i j (HT ks p):=by
 refine lW fun k=>?_;rw[FK,OT d _ o B];by_cases h:i<=k/\k<j
 .rw[Io h];simp only[h,km,show ¬k<i by omega,and_false,kZ,and_self]
 .rw[C3 h];simp only[h,kZ,show ¬(i<=k/\k<i) by omega,Option.map_id_fun'];rfl
theorem Np(ks:List DKey)(p:List Chg)(d:List Cel)(o:i<=j)(B:j<=d.length):I7 ks p d i j j=ND d i j (Dv ks p):=by
 refine lW fun k=>?_;rw[FK,OT d _ o B];by_cases h:i<=k/\k<j
 .rw[Io h];simp only[h,km,and_self]
 .rw[C3 h];simp only[h,kZ,Option.map_id_fun'];rfl
theorem YC(ks:List DKey)(p:List Chg)(d:List Cel)(i j m:Nat):Ax (I7 ks p d i j m)=Ax d:=by
 refine lW fun k=>?_;rw[Ax,Ax,kr,kr,FK,Option.map_map];congr 1
 funext c
 show Cel.r (ite _ _ _)=c.r;split
 .rfl
 .split
  .exact Ly ks p c
  .rfl
theorem UD{p:List Chg}{i j m q:Nat}(Q:i<=m)(S:m<=j)(X:j<=d.length)(T:m<=q)(U:(Ax d)[q]?=some 10)(E:∀k,m<=k->k<q->(Ax d)[k]?≠some 10) :
  ND (I7 ks p d i j m) m (min q j) (fun c=>⟨c.r,Bz c.set (Gf ks false p)⟩)=I7 ks p d i j (min (q+1) j):=by
 have hr:∀k,(Ax d)[k]?=d[k]?.map Cel.r:=fun k=>kr;refine lW fun k=>?_;rw[OT _ _ (by omega) (by rw[Pt];omega),FK,FK];cases V:d[k]? with
 |none=>simp
 |some c=>
  simp only[mF];have o:=hr k;rw[V,mF] at o;by_cases h1:m<=k/\k<min q j
  .have B:c.r≠10:=fun e=>E k h1.1 (by omega) (by rw[o,e]);rw[Io h1,C3 (by omega),Io (by omega),Io (by omega)];congr 1
   simp only[HT,C3 B,Dv,P8,kX B]
  .rw[C3 h1];by_cases J:i<=k/\k<m
   .rw[Io J,Io (by omega)]
   .rw[C3 J];by_cases O:i<=k/\k<min (q+1) j
    .have I:k=q:=by omega
     subst I;have he:c.r=10:=by rw[U] at o;exact(kK o).symm
     rw[Io (by omega),Io O];simp only[HT,Dv,P8,he,km,decide_true]
    .rw[C3 O]
section
variable {w0:World}{F:Nat->Prop}{W:World}{a:TxA}{σ:SKs}{most:Int}{N:Nat}{d:List Cel}
theorem XX{p:List Chg}(h:GP .f w0 F W a σ most d N)(hT:E2 w0)(hG:NI σ.ks d)(ba:σ.ks.length<=64)(o:i<=j)(X:j<=d.length)(hp:FY S W v p)(bb:∀x,S x->¬F x)(al:JE σ.ks p)
 (hz:d.length<=10000000)(hN:N+22*d.length+50<=1000000000) :
  AB prog 43 [.pointer (some ⟨a.b,0,none⟩),.int .i64 (i:Int),.int .i64 (j:Int),v] (fun v' w'=>v'=.tuple #[]/\K4 .f w0 F W w' a σ most (ND d i j (Dv σ.ks p)) (N+22*d.length+50)) W:=by
 have Y:(Ax d).length=d.length:=Es _;have bc:=al.1.2.1;have ee:=h.hl;apply eH;refine AT (fun _ W1=>K4 .f w0 F W W1 a σ most (I7 σ.ks p d i j i) (N+d.length+4)) ?_ ?_
 .rintro _ W1 ⟨F1,f1,h1,M1⟩ _;have bd:FY (fun x=>S x/\x<W.heap.size) W1 v p:=BB.mod (hp.GQ (by decide)) M1 (fun x _ B e=>bb x B.1 e) (by decide) fun _ _ h=>h;refine AI ?_;refine Bt (h1.box.1.cells 0 _ rfl) ?_;refine AA (QF (b:=false) h1.JS.1 bd (by omega)) ?_;rintro iv W2 ⟨bk,Z⟩;have h2:=h1.grow Z;have z1:=M1.size;have z2:=Z.size;have a1:=h1.hl;have a6:=bk.GQ (by decide);obtain⟨va,vc,bl,_⟩:=a6.shape;have O:Ae iv=Ae (.slice va (Gf σ.ks false p).length vc):=by rw[bl]
  have M2:Mod F W W2:=M1.next Z fun _ _ e=>e.elim;have a7:=al.part false;have bn:∀x,F1 x->F x\/W.heap.size<=x:=f1;refine Ab (fun vs W'=>∃m F',i<=m/\m<=d.length/\vs=[.int .i64 (m:Int)]/\(∀x,F' x->F1 x\/W2.heap.size<=x)/\GP .f w0 F' W' a σ most (I7 σ.ks p d i j (min m j)) (N+d.length+4+21*(min m j-i))/\Mod F1 W2 W'/\(m<=j\/True)) (fun vs _=>d.length+1-Ds vs 0)
   ⟨i,F1,Lc _,by omega,rfl,fun _ h=>.inl h,by rw[kY o,oB];exact h2,Mod.refl _ _,.inr trivial⟩ ?_
  rintro vs W3 ⟨m,F3,bs,ef,rfl,f3,Q,M3,_⟩ _;simp only[B0,Of];have z3:=M3.size;have fin:min m j=j\/Gf σ.ks false p=[]->K4 .f w0 F W W3 a σ most (ND d i j (Dv σ.ks p)) (N+22*d.length+50):=fun e=>by
   have ed:I7 σ.ks p d i j (min m j)=ND d i j (Dv σ.ks p):=by
    rcases e with e|e
    .rw[e,Np _ _ _ o X]
    .rw[<-Np _ _ _ o X];refine lW fun k=>?_;rw[FK,FK];congr 1
     funext c
     have bx:HT σ.ks p c=Dv σ.ks p c:=by
      unfold HT Dv P8;by_cases hc:c.r=10
      .rw[Io hc,hc];rfl
      .rw[C3 hc,kX hc,e];rfl
     rw[bx];by_cases q1:i<=k/\k<j
     .rw[Io q1,Io q1];split<;>rfl
     .rw[C3 q1,C3 q1,C3 (by omega)]
   rw[ed] at Q;exact K4.next bn M2 ((K4.up ⟨F3,f3,Q,M3⟩ (by omega)))
  refine AT (fun _ W'=>W'=W3/\m<j) ?_ ?_;rotate_left
  .rw[O,AP,BR];refine AF (fun c4=>?_) fun c6=>?_
   .rw[Ap];refine AF (fun ay=>⟨rfl,by omega⟩) fun c7=>⟨trivial,fin (.inl (by omega))⟩
   .exact⟨trivial,fin (.inr (QC (by omega)))⟩
  rintro _ _ ⟨rfl,eh⟩ _;rename World=>W3
  have b0:min m j=m:=by omega
  rw[b0] at Q;generalize hD:I7 σ.ks p d i j m=D at Q;have ej:D.length=d.length:=by rw[<-hD,Pt]
  have an:Ax D=Ax d:=by rw[<-hD,YC]
  have gd:Grow W3 W3.drew:=Mod.drew _ _;have av:=Q.grow gd;obtain⟨l1,Fr,bt,I,hO⟩:=av.Hn;have c8:(Bf l1).length=d.length:=by rw[I,an,Y]
  obtain⟨q,n1,n2,n3,n4,n5,n6,n7⟩:=Z0 (rs:=Ax d) (p:=m) (by omega) hG.last;refine Ai (fun _ _=>False) ?_;refine AI ?_;rw[AG,AH];refine AY ⟨av.box.1.cells 2 _ rfl,fun j X e=>e⟩ ?_;refine AA (HN av.box.1 hO (i:=m) (by omega) (by omega)) ?_;rintro _ W4 ⟨rfl,g4⟩;refine⟨g4.mono fun _ _ h=>h.elim,?_⟩;have e9:=Dn (Ax d);rw[I,an,AR,wrap64 (by omega) (by omega),show((Bc ((Ax d).take m):Int)+1)=((Bc ((Ax d).take m)+1:Nat):Int) by omega];refine AA (Kz (hO.grow g4) (k:=Bc ((Ax d).take m)+1) (by omega)) ?_;rintro _ W5 ⟨rfl,g5⟩;refine⟨g5.mono fun _ _ h=>h.elim,?_⟩;have b3:ML (Bf l1) (Bc ((Ax d).take m)+1)=.tuple #[.int .i64 ((q+1:Nat):Int),.int .i64 0]:=by
   rw[I,an];unfold ML;rw[C3 (by omega),C3 (by omega),oT,n1]
  rw[b3];refine BV ?_;have c9:(if(j:Int)<((q+1:Nat):Int)-1 then(j:Int) else((q+1:Nat):Int)-1)=((min q j:Nat):Int):=by split<;>omega
  rw[Av,wrap64 (by omega) (by omega),HY,c9,Ap];have J:=(gd.trans g4).trans g5;have ek:=J.size;have step:=UD (ks:=σ.ks) (p:=p) bs (by omega) X n2 n4 n5;have ea:=Q.hl;have ca:min (q+1) j=(if q<j then q+1 else j):=by split<;>omega
  refine AF (fun ay=>?_) fun c7=>?_
  .have cc:FY (fun x=>W1.heap.size<=x/\x < W2.heap.size) W5 iv (Gf σ.ks false p):=BB.grow (BB.mod a6 M3 (fun x _ B e=>by have:=(a1 x e).2.1;omega) (by decide) fun _ _ h=>h) J (by decide) fun _ _ h=>h;refine AA (Rs (i:=m) (j:=min q j) (Q.grow J) hT (by omega) (by omega) cc (fun x B e=>by
     rcases f3 x e with e|e
     .have:=(a1 x e).2.1;omega
     .omega) a7.1.2.1 (fun c hc=>?_) (by omega) (by omega)) ?_
   .obtain⟨k,hk⟩:=lY.1 hc;have cd:=(Bp.1 hk).1;rw[K8,Mp] at cd;rw[lL,lQ,Io (by omega),<-hD,FK] at hk;cases T:d[m+k]? with
    |none=>rw[T] at hk;simp at hk
    |some c0=>
     rw[T,mF,C3 (by omega),Io (by omega)] at hk;have b4:c0.r≠10:=fun e=>n5 (m+k) (by omega) (by omega) (by rw[Ax,kr,T,mF,e]);have ch:c=c0:=by have:=kK hk;rw[<-this,HT,C3 b4]
     subst ch;have hs:=(hG.set c (kx T)).app ba a7;exact⟨b4,FM.2 hs.1,hs.2⟩
   rintro _ W6 ⟨rfl,F6,f6,h6,M6⟩;have e6:D.take m++((D.take (min q j)).drop m).map (fun c=>(⟨c.r,Bz c.set (Gf σ.ks false p)⟩:Cel))++D.drop (min q j)=I7 σ.ks p d i j (min (q+1) j):=by rw[<-hD];exact step
   rw[e6] at h6;refine⟨⟨q+1,F6,by omega,by omega,rfl,fun x B=>?_,h6.up (by omega),?_,.inr trivial⟩,by rw[DG,DG];omega⟩
   .rcases f6 x B with e|e
    .exact f3 x e
    .exact .inr (by omega)
   .refine(M3.next J fun _ _ e=>e.elim).next M6 fun x B e=>?_;rcases f3 x e with e|e
    .exact e
    .omega
  .have cn:q=m:=by omega
   have e6:D=I7 σ.ks p d i j (min (q+1) j):=by
    rw[<-step,cn,kY (by omega),hD];refine(Xb _ _ (Lc _) fun c hc=>?_).symm;simp at hc
   rw[e6] at Q;refine⟨⟨q+1,F3,by omega,by omega,rfl,f3,(Q.grow J).up (by omega),M3.next J fun _ _ e=>e.elim,.inr trivial⟩,by rw[DG,DG];omega⟩
 .refine AI ?_;refine Bt (h.box.1.cells 0 _ rfl) ?_;refine AA (QF (b:=true) h.JS.1 hp (by omega)) ?_;rintro bv W1 ⟨b5,g1⟩;have h1:=h.grow g1;have cv:=al.part true;obtain⟨va,vc,cx,_⟩:=b5.shape;have O:Ae bv=Ae (.slice va (Gf σ.ks true p).length vc):=by rw[cx]
  rw[O,AP,BR];refine AF (fun c4=>?_) fun c6=>?_;rotate_left
  .have e0:Gf σ.ks true p=[]:=QC (by omega);have ed:I7 σ.ks p d i j i=d:=by
    rw[Nj _ _ _ o X];refine Xb d _ o fun c hc=>?_;unfold HT;rw[e0];split
    .rename_i b6;rw[<-b6];rfl
    .rfl
   rw[ed];exact⟨F,fun _ h=>.inl h,h1.up (by omega),g1.mono fun _ _ h=>h.elim⟩
  have gd:Grow W1 W1.drew:=Mod.drew _ _;have U:=h1.grow gd;obtain⟨l1,Fr,bt,I,hO⟩:=U.Hn;have c8:(Bf l1).length=d.length:=by rw[I,Y]
  refine Ai (fun q y=>q=11/\F y) ?_;refine AI ?_;rw [AG,AH];refine AY ⟨U.box.1.cells 4 _ rfl,fun j X e=>by obtain ⟨rfl,_⟩:=e;exact absurd X (by decide)⟩ ?_;refine AA (HN U.box.1 hO (i:=i) (by omega) (by omega)) ?_;rintro _ W2 ⟨rfl,Z⟩;refine ⟨Z.mono fun _ _ h=>h.elim,?_⟩;have h2:=U.grow Z;refine AA (HN h2.box.1 (hO.grow Z) (i:=j) (by omega) (by omega)) ?_;rintro _ W3 ⟨rfl,g3⟩;refine ⟨g3.mono fun _ _ h=>h.elim,?_⟩;have b7:=(gd.trans Z).trans g3;have Q:=h2.grow g3;obtain ⟨z,l2,t,f,dk,hM,dv,hu,hh,ax,bc⟩:=Q;obtain ⟨Fp,Cp,bp,dT,e3,put⟩:=hM.WN;rw [I];have e4:Bc ((Ax d).take i)<=Bc ((Ax d).take j):=mJ _ (by
   rw [<-kY o,<-lz];exact mg _ _)
  have e5:Bc ((Ax d).take j)<=Bc (Ax d):=mJ _ (mg _ _);have en:=Dn (Ax d);have b8:∀x∈CL d,x.length<=64:=fun x B=>by
   obtain⟨c,hc,rfl⟩:=kQ.1 B;exact(hG.set c (ko.1 hc).1).len
  have e7:=BB.grow b5 b7 (by decide) fun _ _ h=>h;have ec:=cv.1.2.1;refine AA (Xi dT (by omega) e4 (by rw [EI];exact e5) (by rw [EI];omega) (fun x B=>by have:=b8 x B;omega) e7 (fun x B=>by have:=b8 x B;omega)) ?_;rintro _ W4 ⟨rfl,eo,ep,_,_,k3,k4,k5,m4⟩;rw [EI] at k5;obtain ⟨F4,f4,b9,M4⟩:=put m4 (fun x B=>by
   rcases B with B|B
   .exact(k3 x B).imp .inl fun h=>h
   .exact (k4 x B).imp .inr fun h=>h) k5 (by omega)
  refine⟨m4.mono fun x _ B=>⟨rfl,e3 x (.inl B)⟩,?_⟩;have a8:=XQ d o (HT σ.ks p) (g':=fun x=>Bz x (Gf σ.ks true p)) (Ly σ.ks p) (fun c hc=>by unfold HT;rw[Io hc]);rw[<-a8] at b9;have ak:=VZ d (HT σ.ks p) o (Ly σ.ks p);rw[Nj _ _ _ o X];refine K4.step (g1.trans b7) ⟨F4,f4,⟨z.take i++((z.take j).drop i).map (fun q=>(HT σ.ks p q.1,q.2))++z.drop j,l2,t,f,?_,?_,dv,?_,hh.congr fun x=>?_,fun q V=>?_,by omega⟩,M4⟩
  .clear a8 ak;subst dk;unfold ND;simp only[S7,mH,lK,lP,Function.comp_def]
  .rw[ak];obtain⟨own,G,l4,e1,E⟩:=b9;have hn:Bc (Ax d)<=d.length:=by omega
   exact⟨own,G,l4,e1,E.box,E.Hn.up (by omega),E.EX.up (by omega),E.para.up (by omega),E.Qo,E.JS,E.cb,E.cr,E.cs,E.cp,E.ct,E.cS,E.lo,E.hl,E.g⟩
  .have e1:(z.take i++((z.take j).drop i).map (fun q:Cel×Int=>(HT σ.ks p q.1,q.2))++z.drop j).map Prod.snd=z.map Prod.snd:=by
    have h1:=(S9 i (z.take j)).symm;rw[lz,kY o] at h1;conv=>rhs;rw[<-S9 j z,h1]
    simp only[S7,mH];rfl
   rw[e1,hu]
  .have e1:(z.take i++((z.take j).drop i).map (fun q:Cel×Int=>(HT σ.ks p q.1,q.2))++z.drop j).map Prod.snd=z.map Prod.snd:=by
    have h1:=(S9 i (z.take j)).symm;rw[lz,kY o] at h1;conv=>rhs;rw[<-S9 j z,h1]
    simp only[S7,mH];rfl
   rw[e1]
  .rcases DN.1 V with V|V
   .rcases DN.1 V with V|V
    .exact ax q (kO V)
    .obtain⟨q0,e8,rfl⟩:=kQ.1 V;obtain⟨o1,o2⟩:=ax q0 (kO (kP e8));refine⟨fun e=>o1 (by rw[<-Ly σ.ks p];exact e),fun e=>?_⟩;have e':q0.1.r≠10:=by rw[<-Ly σ.ks p];exact e
     show f q0.2=(HT σ.ks p q0.1).set;rw[o2 e',HT,C3 e']
   .exact ax q (kP V)
end
theorem Tl{r:Int}:AB prog 249 [.int .i32 r] (fun v' w'=>v'=.bool (decide (EK r))/\w'=w) w:=by
 apply Y4;have key:∀{b:Bool},(b=true↔EK r)->Value.bool b=.bool (decide (EK r))/\w=w:=fun h=>⟨by congr 1;rw[mi,h,S6],rfl⟩;unfold EK at key ⊢;rw[IJ];refine AF (fun h0=>?_) fun h0=>?_
 .rw[Ap];refine AF (fun h1=>key (by simp;omega)) fun h1=>?_;rw[Ap];refine AF (fun i=>?_) fun i=>key (by simp;omega);rw[IJ];exact AF (fun j=>key (by simp;omega)) fun j=>key (by simp;omega)
 .rw[Ap];refine AF (fun i=>?_) fun i=>key (by simp;omega);rw[IJ];exact AF (fun j=>key (by simp;omega)) fun j=>key (by simp;omega)
theorem Wh{r:Int}:AB prog 194 [.int .i32 r] (fun v' w'=>v'=.bool (decide (EK r))/\w'=w) w:=by
 apply aT;exact Tl
theorem Tx{l:List Int}(h:KR S w v l) :
  AB prog 224 [v,.func (.func 280) #[] #[]] (fun v' w'=>v'=.bool (!decide (∀r∈l,EK r))/\w'=w) w:=by
 apply Sr;refine AA (K:=fun v' w'=>w'=w/\((v'=.int .i64 (-1)/\∀r∈l,EK r)\/∃i:Nat,v'=.int .i64 i/\¬∀r∈l,EK r)) ?_ ?_
 .apply SR;obtain⟨a,c,rfl,hm⟩:=h.shape;simp only[maxLen] at hm;rw[AP];refine Ab (fun vs W=>∃i:Nat,i<=l.length/\vs=[.int .i64 i]/\W=w/\∀c∈l.take i,EK c) (fun vs _=>l.length-Ds vs 0) ⟨0,Nn _,rfl,rfl,by simp⟩ ?_;rintro vs _ ⟨i,hi,rfl,rfl,j⟩ _;rename World=>w
  rw[B0,Of,Ap];refine AF (fun E=>?_) fun I=>?_
  .have o:i<l.length:=by omega
   obtain⟨q,r,rfl,_,hr,hc,rfl⟩:=h.get o;refine AU o (AK (by have:=hc 0 _ rfl;exact this) ?_);refine Hx (by kernel_rfl) ?_;apply ZM;refine AA Wh ?_;rintro _ _ ⟨rfl,rfl⟩;rename World=>w
   rw[Ar];by_cases B:EK l[i]
   .rw[kj B];refine AV ?_;rw[AR,AO (by omega)];refine⟨⟨i+1,o,rfl,rfl,fun c hc=>?_⟩,by rw[DG,DG];omega⟩;rw[No,By o] at hc;rcases DN.1 hc with hc|hc
    .exact j c hc
    .simp at hc;subst hc;exact B
   .rw[kX B];exact As ⟨rfl,.inr ⟨i,rfl,fun j=>B (j _ (gC o))⟩⟩
  .have:i=l.length:=by omega
   subst this;exact⟨rfl,.inl ⟨rfl,fun c hc=>j c (by rw[Nr];exact hc)⟩⟩
 .rintro _ _ ⟨rfl,⟨rfl,j⟩|⟨i,rfl,J⟩⟩
  .rw[DX];exact⟨by rw[kj j];rfl,rfl⟩
  .rw[DX];exact⟨by rw[kX J,kj (by omega:(i:Int) ≥ 0)];rfl,rfl⟩
def Kt(o:Dop):Prop:=(o.kind=1/\o.Ak=[]/\o.set=[])\/(o.kind=3/\o.Ak=[]/\o.set=[]/\o.patch=[])\/(o.kind=2/\o.n=0/\o.patch=[]/\∀r∈o.Ak,EK r)
instance (o:Dop):Decidable (Kt o):=by unfold Kt;infer_instance
theorem Ia(o:Dop):Ff o↔Kt o/\1<=L1 o/\L1 o<=536870912:=by
 unfold Ff Kt L1;constructor
 .rintro(⟨h1,i,j,E,B⟩|⟨h1,i,j,E,B,I⟩|⟨h1,i,j,E,B,I⟩)
  .exact⟨.inl ⟨h1,i,j⟩,by rw[h1,C3 (by decide)];exact E,by rw[h1,C3 (by decide)];exact B⟩
  .exact⟨.inr (.inl ⟨h1,i,j,E⟩),by rw[h1,C3 (by decide)];exact B,by rw[h1,C3 (by decide)];exact I⟩
  .exact⟨.inr (.inr ⟨h1,j,E,i⟩),by rw[Io h1];omega,by rw[Io h1];omega⟩
 .rintro⟨⟨h1,i,j⟩|⟨h1,i,j,E⟩|⟨h1,i,j,E⟩,B,I⟩
  .rw[h1,C3 (by decide)] at B I;exact .inl ⟨h1,i,j,B,I⟩
  .rw[h1,C3 (by decide)] at B I;exact .inr (.inl ⟨h1,i,j,E,B,I⟩)
  .rw[Io h1] at B I;exact .inr (.inr ⟨h1,E,i,j,by omega,by omega⟩)
theorem Uo{D:Nat->Prop}{r:List Value}{o:Dop}(h:Ca D w r o) :
  AB prog 239 [.agg r.toArray] (fun v w'=>v=.bool (decide (Kt o))/\Grow w w') w:=by
 apply ZP;have Q:=h.one;obtain⟨X,sv,Y,rfl,h1,S,T⟩:=h;refine Dq fun b j _ Z g hc _=>?_;have E:=h1.grow g (by decide) fun _ _ h=>h;obtain⟨a1,c1,rfl,m1⟩:=h1.shape;obtain⟨a2,c2,rfl,m2⟩:=S.shape;obtain⟨a3,c3,rfl,m3⟩:=T.shape;have key:∀{x:Bool},(x=true↔Kt o)->Value.bool x=.bool (decide (Kt o))/\Grow w j:=fun h=>⟨by congr 1;rw[mi,h,S6],g⟩;unfold Kt at key ⊢;refine AT (fun vs w2=>w2=j/\vs=[.bool (decide (¬(o.Ak=[]/\o.set=[])))]) ?_ ?_;rotate_left
 .rw[AG];refine AK (hc 2 _ rfl) ?_;rw[AP,BR];refine AF (fun e=>?_) fun e=>?_
  .refine⟨rfl,?_⟩;rw[kj];rintro⟨U,_⟩;rw[U] at e;simp at e
  .have V:o.Ak=[]:=QC (by omega);rw[AG];refine AK (hc 3 _ rfl) ?_;rw[AP,BR];refine⟨rfl,?_⟩;congr 2
   rw[o0];constructor
   .rintro B ⟨_,I⟩;rw[I] at B;simp at B
   .intro B;have:o.set≠[]:=fun I=>B ⟨V,I⟩;have:=lT.2 this;omega
 rintro _ _ ⟨rfl,rfl⟩ _;rename World=>j
 rw[B0,Of,AG];refine AK (hc 0 _ rfl) ?_;rw[Al];refine AF (fun k1=>?_) fun k1=>?_
 .rw[Ar];refine key ?_;simp only[k1,decide_not,qI,S6];constructor
  .exact fun h=>.inl ⟨trivial,h⟩
  .rintro(h|h|h)
   .exact h.2
   .omega
   .omega
 rw[Al];refine AF (fun J=>?_) fun J=>?_
 .rw[Ar];by_cases i:o.Ak=[]/\o.set=[]
  .rw[show(!decide ¬(o.Ak=[]/\o.set=[]))=true by simp[i]];refine As ?_;rw[AG];refine AK (hc 4 _ rfl) ?_;rw[AP,Al];refine key ?_;rw[S6,Rt];constructor
   .exact fun h=>.inr (.inl ⟨J,i.1,i.2,h⟩)
   .rintro(h|h|h)
    .omega
    .exact h.2.2.2
    .omega
  .rw[show(!decide ¬(o.Ak=[]/\o.set=[]))=false by simp[i]];refine AV (key ?_);simp only[mM,qh];rintro(h|h|h)
   .omega
   .exact i ⟨h.2.1,h.2.2.1⟩
   .omega
 rw [Al];refine AF (fun k2=>?_) fun k2=>key (by simp only [mM,qh];rintro (h | h | h) <;> omega);rw [AG];refine AK (hc 1 _ rfl) ?_;rw [Al];refine AF (fun O=>?_) fun O=>key (by simp only [mM,qh];rintro (h | h | h) <;> omega);rw [AG];refine AK (hc 4 _ rfl) ?_;rw [AP,Al];refine AF (fun hp=>?_) fun hp=>key (by
  simp only[mM,qh];rintro(h|h|h)
  .omega
  .omega
  .exact hp (Rt.2 h.2.2.1))
 rw[Rt] at hp;rw[AG];refine AK (hc 2 _ rfl) ?_;refine AA (Tx E) ?_;rintro _ _ ⟨rfl,rfl⟩;rename World=>j
 rw[Ar,qI];refine key ?_;rw[S6];constructor
 .exact fun h=>.inr (.inr ⟨k2,O,hp,h⟩)
 .rintro(h|h|h)
  .omega
  .omega
  .exact h.2.2.2
theorem Lw{D:Nat->Prop}{r:List Value}{o:Dop}(h:Ca D w r o) :
  AB prog 155 [.agg r.toArray] (fun v w'=>v=.int .i64 (L1 o)/\Grow w w') w:=by
 apply Yp;obtain⟨i,sv,j,rfl,h1,B,E⟩:=h;obtain⟨I,c1,rfl,J⟩:=h1.shape;refine Dq fun b O _ Q g hc _=>?_;rw[AG];refine AK (hc 0 _ rfl) ?_;rw[Al];refine AF (fun k1=>?_) fun k1=>?_
 .rw[AG];refine AK (hc 2 _ rfl) ?_;rw[AP];exact⟨by rw[L1,Io k1],g⟩
 .rw[AG];refine AK (hc 1 _ rfl) ?_;exact⟨by rw[L1,C3 k1],g⟩
theorem KV{S D:Nat->Prop}{x:List Dop}(h:BE S D w v x) :
  AB prog 81 [v] (fun v' w'=>v'=.int .i64 (Cj Bn x)/\Grow w w') w:=by
 apply fD;obtain⟨a,c,rfl,hm⟩:=h.shape;simp only[maxLen] at hm;rw[AP];refine Ab (fun vs I=>∃k:Nat,k<=x.length/\vs=[.int .i64 (Cj Bn (x.take k)),.int .i64 k]/\Grow w I) (fun vs _=>x.length-Ds vs 1) ⟨0,Nn _,rfl,Mod.refl _ _⟩ ?_;rintro vs I ⟨k,hk,rfl,g⟩ _;simp only[GJ];refine H6 (fun O=>?_) fun Q=>?_
 .have i:k<x.length:=by omega
  obtain⟨p,r,rfl,T,hr,hc,o⟩:=(BE.grow h g).get i;refine AU i (Aj hr (fun j u hu=>by rw[Addr.add_add];exact hc j u hu) ?_);refine BS hr rfl o.one fun b w2 hb U J B _=>?_;obtain⟨V,sv,X,rfl,h1,Y,Z⟩:=o;rw[AG];refine AK (B 0 _ rfl) ?_;rw[Bm];refine AW (fun e=>?_) fun e=>?_
  .rw[AR,AO (by omega)];refine⟨⟨k+1,i,?_,g.trans J⟩,by rw[BL,BL];omega⟩;rw[Fq i,Bn,Io e,qk];have:IntKind.i64.wrap (Cj Bn (x.take k))=Cj Bn (x.take k):=by
    by_cases h0:k=0
    .subst h0;simp[Cj];rfl
    .obtain⟨E,rfl⟩:∃E,k=E+1:=⟨k-1,by omega⟩;rw[Fq (by omega)];have:=LP (Cj Bn (x.take E)+Bn x[E]);rw[wrap64 (by omega) (by omega)]
   rw[this]
  .rw[AG];refine AK (B 1 _ rfl) ?_;rw[AR,AR,AO (by omega)];refine⟨⟨k+1,i,?_,g.trans J⟩,by rw[BL,BL];omega⟩;rw[Fq i,Bn,C3 e]
 .have:k=x.length:=by omega
  subst this;rw[Nr];exact⟨rfl,g⟩
theorem Nv{S D:Nat->Prop}{x:List Dop}(h:BE S D w v x) :
  AB prog 84 [v] (fun v' w'=>v'=.int .i64 (Cj CA x)/\Grow w w') w:=by
 apply fp;obtain⟨a,c,rfl,hm⟩:=h.shape;simp only[maxLen] at hm;rw[AP];refine Ab (fun vs O=>∃k:Nat,k<=x.length/\vs=[.int .i64 (Cj CA (x.take k)),.int .i64 k]/\Grow w O) (fun vs _=>x.length-Ds vs 1) ⟨0,Nn _,rfl,Mod.refl _ _⟩ ?_;rintro vs O ⟨k,hk,rfl,g⟩ _;simp only[GJ];refine H6 (fun Q=>?_) fun T=>?_
 .have i:k<x.length:=by omega
  obtain⟨p,r,rfl,V,hr,hc,o⟩:=(BE.grow h g).get i;refine AU i (Aj hr (fun j u hu=>by rw[Addr.add_add];exact hc j u hu) ?_);refine BS hr rfl o.one fun b w2 hb X J B _=>?_;have E:=o.mod (D':=D) J (fun _ _ _ h=>h) fun _ _ h=>h;obtain⟨Y,sv,Z,rfl,h1,h2,h3⟩:=id o;rw[AG];refine AK (B 0 _ rfl) ?_;rw[Bm];refine AW (fun e=>?_) fun e=>?_
  .rw[AR,AO (by omega)];refine⟨⟨k+1,i,?_,g.trans J⟩,by rw[BL,BL];omega⟩;rw[Fq i,CA,Io e,qk];have:IntKind.i64.wrap (Cj CA (x.take k))=Cj CA (x.take k):=by
    by_cases h0:k=0
    .subst h0;simp[Cj];rfl
    .obtain⟨I,rfl⟩:∃I,k=I+1:=⟨k-1,by omega⟩;rw[Fq (by omega)];have:=LP (Cj CA (x.take I)+CA x[I]);rw[wrap64 (by omega) (by omega)]
   rw[this]
  .refine Aj hr B ?_;refine AA (Lw E) ?_;rintro _ w3 ⟨rfl,U⟩;rw[AR,AR,AO (by omega)];refine⟨⟨k+1,i,?_,(g.trans J).trans U⟩,by rw[BL,BL];omega⟩;rw[Fq i,CA,C3 e]
 .have:k=x.length:=by omega
  subst this;rw[Nr];exact⟨rfl,g⟩
theorem Oq{p q:Prop}[Decidable p][Decidable q]{a b:α}(h:p↔q):(if p then a else b)=if q then a else b:=by
 by_cases hp:p
 .rw[Io hp,Io (h.1 hp)]
 .rw[C3 hp,C3 fun i=>hp (h.2 i)]
def Q6(c:Chg):Prop:=(c.gone=true/\c.val≠BK.zero)\/(c.gone=false/\¬DV c.val)
def bI(ks:List DKey)(c:Chg):Prop:=Bj ks c.key=none\/(c.gone=false/\¬Hh ks c.key c.val)
set_option maxRecDepth 20000 in
open Classical in
theorem V3{D S:Nat->Prop}{p:List Chg}(hS:De D w sv ks)(h:FY S w v p)(hT:E2 w)(hI:∀c∈p,0<=c.val.f) :
  AB prog 240 [sv,v] (fun v' w'=>v'=.int .i64 (Dd ks p)/\Grow w w') w:=by
 apply Zh;obtain⟨a,c,rfl,hm⟩:=h.shape;simp only[maxLen] at hm;have bad:∀w',Grow w w'->LY p->Value.int .i64 3=.int .i64 (Dd ks p)/\Grow w w':=fun w' g hb=>⟨by rw[Dd,Io hb],g⟩;rw[AP,BR];refine AF (fun h6=>bad _ (Mod.refl _ _) (.inr (.inl (by omega)))) fun h6=>?_;rw[AP];refine Ab (fun vs W=>∃i:Nat,i<=p.length/\vs=[.int .i64 (if HM ks (p.take i) then 4 else 0),.int .i64 i]/\Grow w W/\(∀a∈p.take i,¬Q6 a)/\Mx Chg.key p i) (fun vs _=>p.length-Ds vs 1)
  ⟨0,Nn _,by rw[C3 (by rintro⟨a,ha,_⟩;simp at ha)];rfl,Mod.refl _ _,by simp,fun j hj=>by omega⟩ ?_
 rintro vs W ⟨i,hi,rfl,g,hv,a6⟩ _;simp only[GJ];refine H6 (fun ay=>?_) fun a7=>?_;rotate_left
 .have:i=p.length:=by omega
  subst this;rw[Nr] at hv ⊢;refine⟨?_,g⟩;have I:¬LY p:=by
   rintro(Q|Q|⟨c,hc,Q⟩)
   .exact Q a6
   .omega
   .exact hv c hc Q
  unfold Dd;rw[C3 I]
 have o:i<p.length:=by omega
 have T:=gC o;have ak:=hI p[i] T;have e1:p.take (i+1)=p.take i++[p[i]]:=by rw[No,By o];rfl
 have U:HM ks (p.take (i+1))↔HM ks (p.take i)\/bI ks p[i]:=by
  unfold HM bI;rw[e1];constructor
  .rintro⟨a,ha,Q⟩;rcases DN.1 ha with ha|ha
   .exact .inl ⟨a,ha,Q⟩
   .simp at ha;subst ha;exact .inr Q
  .rintro(⟨a,ha,Q⟩|Q)
   .exact⟨a,i7 _ ha,Q⟩
   .exact⟨p[i],kB _ (P9.2 rfl),Q⟩
 refine AT (fun vs W2=>Grow w W2/\vs=[.int .i64 (if HM ks (p.take (i+1)) then 4 else 0)]/\¬Q6 p[i]/\Mx Chg.key p (i+1)) ?_ ?_
 .rintro vs W2 ⟨g2,rfl,I,hr⟩ _;simp only[GJ];rw[AR,AO (by omega)];refine⟨⟨i+1,o,rfl,g2,fun a ha=>?_,hr⟩,by rw[BL,BL];omega⟩;rw[e1] at ha;rcases DN.1 ha with ha|ha
  .exact hv a ha
  .simp at ha;subst ha;exact I
 obtain⟨q,r,rfl,_,hr,hc,rfl⟩:=(h.grow g (by decide) fun _ _ h=>h).get o;refine AU o (Aj hr (fun j u hu=>by rw[Addr.add_add];exact hc j u hu) ?_);refine BS (vs:=p[i].cells) rfl rfl (Ep.one (w:=w) (x:=p[i]) rfl) fun b7 W1 b0 b3 g7 al _=>?_;rw[AG];refine AK (al 0 _ rfl) ?_;refine AA (Jw (hS.grow (g.trans g7)) p[i].key) ?_;rintro _ W2 ⟨rfl,g2⟩;refine BV ?_;refine BS (vs:=((Bj ks p[i].key).getD DKey.zero).cells) rfl rfl (G0.one (w:=W2) (x:=(Bj ks p[i].key).getD DKey.zero) rfl) fun b8 W3 b4 b5 g3 _ _=>?_;have E:=((g.trans g7).trans g2).trans g3;have V:∀j u,p[i].cells[j]?=some u->W3.cell? ((⟨b7,0,none⟩:Addr).add j)=some u:=fun j u hu=>(g2.trans g3).cell (al j u hu) fun h=>h;have X:p[i].cells[1]?=some (.bool p[i].gone):=rfl;have a8:∀j u,p[i].val.cells[j]?=some u->p[i].cells[2+j]?=some u:=fun j u hu=>by rw[pR];exact hu
 refine AT (fun vs W4=>Grow W3 W4/\((vs=[.bool true]/\LY p)\/(vs=[.bool false]/\¬Q6 p[i]/\Mx Chg.key p (i+1)))) ?_ ?_
 .rintro vs W4 ⟨B,⟨rfl,hb⟩|⟨rfl,I,J⟩⟩ _
  .exact As (bad _ (E.trans B) hb)
  refine AV ?_;rw[Ar];cases hk:Bj ks p[i].key with
  |none=>
   refine As ⟨E.trans B,?_,I,J⟩;rw[Io (U.2 (.inr (.inl hk)))]
  |some k=>
   refine AV ?_;rw[AG];refine AK (B.cell (V 1 _ X) fun h=>h) ?_;rw[Ar];cases Y:p[i].gone with
   |true=>
    refine AV ⟨E.trans B,?_,I,J⟩;congr 2
    refine Oq ?_;rw[U];constructor
    .exact .inl
    .rintro(h|h|h)
     .exact h
     .rw[hk] at h;cases h
     .rw[Y] at h;cases h.1
   |false=>
    refine As ?_;rw[AG];refine AK (B.cell (V 0 _ rfl) fun h=>h) ?_;rw[AG];refine Aj (vs:=p[i].val.cells) rfl (fun j u hu=>B.cell (by rw[Addr.add_add];exact V (2+j) u (a8 j u hu)) fun h=>h) ?_;refine AA (PT (hS.grow (E.trans B)) (hT.grow (E.trans B)) ak) ?_;rintro _ W5 ⟨rfl,g5⟩;rw[Ar];by_cases O:Hh ks p[i].key p[i].val
    .rw[kj O];refine AV ⟨(E.trans B).trans g5,?_,I,J⟩;congr 2
     refine Oq ?_;rw[U];constructor
     .exact .inl
     .rintro(h|h|h)
      .exact h
      .rw[hk] at h;cases h
      .exact(h.2 O).elim
    .rw[kX O];refine As ⟨(E.trans B).trans g5,?_,I,J⟩;rw[Io (U.2 (.inr (.inr ⟨Y,O⟩)))]
 refine AT (fun vs W4=>Grow W3 W4/\((vs=[.bool true]/\LY p)\/(vs=[.bool false]/\Mx Chg.key p (i+1)))) ?_ ?_
 .rintro vs W4 ⟨B,⟨rfl,hb⟩|⟨rfl,J⟩⟩ _
  .exact As ⟨B,.inl ⟨rfl,hb⟩⟩
  refine AV ?_;rw[AG];refine AK (B.cell (V 1 _ X) fun h=>h) ?_;cases Y:p[i].gone with
  |true=>
   refine As ?_;rw[AG];refine Aj (vs:=p[i].val.cells) rfl (fun j u hu=>B.cell (by rw[Addr.add_add];exact V (2+j) u (a8 j u hu)) fun h=>h) ?_;refine⟨BK.zero.cells.toArray,by kernel_rfl,?_⟩;refine Ag (RE _ _ p[i].val BK.zero W4) ?_;by_cases hz:p[i].val=BK.zero
   .rw[kj hz];refine AV ?_;rw[AG];refine AK (B.cell (V 1 _ X) fun h=>h) ?_;rw[Ar,Y];refine AV ⟨B,.inr ⟨rfl,?_,J⟩⟩;rintro(h|h)
    .exact h.2 hz
    .rw[Y] at h;cases h.1
   .rw[kX hz];exact As ⟨B,.inl ⟨rfl,.inr (.inr ⟨p[i],T,.inl ⟨Y,hz⟩⟩)⟩⟩
  |false=>
   refine AV ?_;rw[AG];refine AK (B.cell (V 1 _ X) fun h=>h) ?_;rw[Ar,Y];refine As ?_;rw[AG];refine Aj (vs:=p[i].val.cells) rfl (fun j u hu=>B.cell (by rw[Addr.add_add];exact V (2+j) u (a8 j u hu)) fun h=>h) ?_;refine AA (ON (hT.grow (E.trans B)) ak) ?_;rintro _ W5 ⟨rfl,g5⟩;rw[Ar];refine⟨B.trans g5,?_⟩;by_cases Z:DV p[i].val
   .refine .inr ⟨by rw[kj Z];rfl,?_,J⟩;rintro(h|h)
    .rw[Y] at h;cases h.1
    .exact h.2 Z
   .exact .inl ⟨by rw[kX Z];rfl,.inr (.inr ⟨p[i],T,.inr ⟨Y,Z⟩⟩)⟩
 refine Ce (fun W=>Grow W3 W) (Mod.drew _ _) ?_;rw[BR];refine AF (fun av=>?_) fun av W4 B=>⟨B,.inr ⟨rfl,fun j hj=>by omega⟩⟩;rw[Av,wrap64 (by omega) (by omega),show((i:Int)-1)=((i-1:Nat):Int) by omega];have a1:i-1<p.length:=by omega
 obtain⟨_,r2,e2,_,b6,ax,rfl⟩:=(h.grow E (by decide) fun _ _ h=>h).get a1;cases e2;refine AU a1 ?_;rw[AG,Addr.add_add];refine Au (fun W hW=>hW.cell (ax 0 _ rfl) fun h=>h) ?_;rw[AG];refine Au (fun W hW=>hW.cell (V 0 _ rfl) fun h=>h) ?_;rw[DX];intro W4 B;by_cases a7:p[i-1].key ≥ p[i].key
 .rw[kj a7];refine⟨B,.inl ⟨rfl,.inl fun an=>?_⟩⟩;have:=an i (by omega) o _ _ (By a1) (By o);omega
 .rw[kX a7];refine⟨B,.inr ⟨rfl,fun j h1 h2 a b ha hb=>?_⟩⟩;by_cases e:j=i
  .subst e;rw[By a1] at ha;rw[By o] at hb;cases ha;cases hb;omega
  .exact a6 j h1 (by omega) a b ha hb
def iS(o:Dop):Prop:=(∀a∈o.set,0<=a.val.f)/\∀c∈o.patch,0<=c.val.f
open Classical in
noncomputable def Ij(ks:List DKey)(o:Dop):Int:=if ¬Ff o then 3 else if Bl ks o.set≠0 then Bl ks o.set else Dd ks o.patch
open Classical in
theorem Zo{E D:Nat->Prop}{r:List Value}{o:Dop}(U:De E w sv ks)(h:Ca D w r o)(V:E2 w)(X:iS o) :
  AB prog 153 [sv,.agg r.toArray] (fun v w'=>v=.int .i64 (Ij ks o)/\Grow w w') w:=by
 apply Yx;refine Dq fun b Y _ O g hc _=>?_;have I:r.length=5:=by obtain⟨_,_,_,rfl,_⟩:=h;rfl
 have h1:=h.mod (D':=D) g (fun _ _ _ h=>h) fun _ _ h=>h;refine AT (fun vs w2=>Grow Y w2/\Ff o) ?_ ?_
 .rintro vs w2 ⟨i,J⟩ _;obtain⟨rv,uv,pv,rfl,q1,Z,q3⟩:=h1.mod (D':=D) i (fun _ _ _ h=>h) fun _ _ h=>h;rw[AG];refine AK (i.cell (hc 3 _ rfl) fun h=>h) ?_;refine AA (Sk (U.grow (g.trans i)) Z (V.grow (g.trans i)) X.1) ?_;rintro _ w3 ⟨rfl,B⟩;rw[Bm];have e0:Ij ks o=if Bl ks o.set≠0 then Bl ks o.set else Dd ks o.patch:=by rw[Ij,C3 (pt J)]
  refine AW (fun O=>?_) fun O=>⟨by rw[e0,Io O],(g.trans i).trans B⟩;rw[AG];refine AK ((i.trans B).cell (hc 4 _ rfl) fun h=>h) ?_;refine AA (V3 (U.grow ((g.trans i).trans B)) (q3.grow B (by decide) fun _ _ h=>h) (V.grow ((g.trans i).trans B)) X.2) ?_;rintro _ w4 ⟨rfl,Q⟩;exact⟨by rw[e0,C3 (pt O)],((g.trans i).trans B).trans Q⟩
 have S:∀w',Grow Y w'->¬Ff o->Value.int .i64 3=.int .i64 (Ij ks o)/\Grow w w':=fun w' g' hn=>⟨by rw[Ij,Io hn],g.trans g'⟩;refine Aj I hc ?_;refine AA (Uo h1) ?_;rintro _ w2 ⟨rfl,i⟩;rw[Ar];refine AW (fun hp=>?_) fun hp=>S _ i fun J=>hp ((Ia o).1 J).1;refine Aj I (fun j u hu=>i.cell (hc j u hu) fun h=>h) ?_;refine AA (Lw (h1.mod (D':=D) i (fun _ _ _ h=>h) fun _ _ h=>h)) ?_;rintro _ w3 ⟨rfl,B⟩;rw[Ap];refine AF (fun hl=>S _ (i.trans B) fun J=>by have:=((Ia o).1 J).2.1;omega) fun hl=>?_;refine Aj I (fun j u hu=>(i.trans B).cell (hc j u hu) fun h=>h) ?_;refine AA (Lw (h1.mod (D':=D) (i.trans B) (fun _ _ _ h=>h) fun _ _ h=>h)) ?_;rintro _ w4 ⟨rfl,Q⟩;rw[BR];refine AF (fun T=>S _ ((i.trans B).trans Q) fun J=>by have:=((Ia o).1 J).2.2;omega) fun T=>⟨(i.trans B).trans Q,(Ia o).2 ⟨hp,by omega,by omega⟩⟩
theorem Me(ks:List DKey):Bl ks []=0:=FM.2 IK
theorem Rk(ks:List DKey):Dd ks []=0:=G3.2 IM
theorem Vm(ks:List DKey)(l:List Attr):Bl ks l=0\/Bl ks l=3\/Bl ks l=4:=by
 unfold Bl;split
 .exact .inr (.inl rfl)
 .split
  .exact .inr (.inr rfl)
  .exact .inl rfl
theorem XO(ks:List DKey)(l:List Chg):Dd ks l=0\/Dd ks l=3\/Dd ks l=4:=by
 unfold Dd;split
 .exact .inr (.inl rfl)
 .split
  .exact .inr (.inr rfl)
  .exact .inl rfl
theorem Xj(ks:List DKey)(o:Dop):(Ij ks o=3↔¬Ff o\/Bl ks o.set=3\/Dd ks o.patch=3)/\(Ij ks o=0\/Ij ks o=3\/Ij ks o=4)/\(Ij ks o≠3->(Ij ks o=0↔Bl ks o.set=0/\Dd ks o.patch=0)):=by
 have v1:=Vm ks o.set;have v2:=XO ks o.patch;by_cases i:Ff o
 .have B:Bl ks o.set=0\/Dd ks o.patch=0:=by
   rcases i with⟨_,_,h,_⟩|⟨_,_,h,_⟩|⟨_,_,_,h,_⟩
   .left;rw[h];exact Me ks
   .left;rw[h];exact Me ks
   .right;rw[h];exact Rk ks
  unfold Ij;rw[C3 (pt i)];by_cases j:Bl ks o.set=0
  .rw[C3 (pt j)];exact⟨⟨fun h=>.inr (.inr h),fun h=>by rcases h with h|h|h;exact(h i).elim;omega;exact h⟩,v2,fun _=>⟨fun h=>⟨j,h⟩,fun h=>h.2⟩⟩
  .rw[Io j];refine⟨⟨fun h=>.inr (.inl h),fun h=>by rcases h with h|h|h;exact(h i).elim;exact h;omega⟩,v1,fun _=>⟨fun h=>⟨h,by omega⟩,fun h=>h.1⟩⟩
 .unfold Ij;rw[Io i];exact⟨⟨fun _=>.inl i,fun _=>rfl⟩,.inr (.inl rfl),fun h=>(h rfl).elim⟩
open Classical in
theorem Vv{E S D:Nat->Prop}{x:List Dop}(hS:De E w sv ks)(h:BE S D w v x)(hT:E2 w)(hI:∀o∈x,iS o) :
  AB prog 80 [sv,v] (fun v' w'=>v'=.int .i64 (Ct ks x)/\Grow w w') w:=by
 apply fQ;have I:=h;obtain⟨a,c,rfl,hm⟩:=h.shape;simp only[maxLen] at hm;have bad:∀w',Grow w w'->Qq ks x->Value.int .i64 3=.int .i64 (Ct ks x)/\Grow w w':=fun w' g hb=>⟨by rw[Ct,Io hb],g⟩;rw[AP];refine Ab (fun vs w1=>∃k:Nat,k<=x.length/\vs=[.int .i64 (if IA ks (x.take k) then 4 else 0),.int .i64 k]/\Grow w w1/\∀o∈x.take k,Ij ks o≠3) (fun vs _=>x.length-Ds vs 1)
  ⟨0,Nn _,by rw[C3 (by rintro⟨a,ha,_⟩;simp at ha)];rfl,Mod.refl _ _,by simp⟩ ?_
 rintro vs w1 ⟨k,hk,rfl,g,J⟩ _;simp only[GJ];refine H6 (fun a7=>?_) fun a8=>?_
 .have i:k<x.length:=by omega
  have T:=gC i;obtain⟨p,r,rfl,_,hr,hc,X⟩:=(BE.grow h g).get i;refine AU i (Aj hr (fun j u hu=>by rw[Addr.add_add];exact hc j u hu) ?_);refine BS hr rfl X.one fun b w2 hb hz Q a1 _=>?_;refine Aj hr a1 ?_;refine AA (Zo (hS.grow (g.trans Q)) (X.mod (D':=D) Q (fun _ _ _ h=>h) fun _ _ h=>h) (hT.grow (g.trans Q)) (hI _ T)) ?_;rintro _ w3 ⟨rfl,g3⟩;have U:=(g.trans Q).trans g3;obtain⟨m1,m2,m3⟩:=Xj ks x[k];rw[Al];refine AF (fun V=>?_) fun V=>?_
  .rw[V];exact bad _ U (.inl ⟨_,T,m1.1 V⟩)
  have e1:x.take (k+1)=x.take k++[x[k]]:=by rw[No,By i];rfl
  have O:∀o∈x.take (k+1),Ij ks o≠3:=fun o I=>by
   rw[e1] at I;rcases DN.1 I with I|I
   .exact J o I
   .simp at I;subst I;exact V
  have Y:IA ks (x.take (k+1))↔IA ks (x.take k)\/Ij ks x[k]≠0:=by
   unfold IA;rw[e1];constructor
   .rintro⟨a,ha,B⟩;rcases DN.1 ha with ha|ha
    .exact .inl ⟨a,ha,B⟩
    .simp at ha;subst ha;exact .inr fun h0=>by have:=(m3 V).1 h0;rcases B with B|B;exact B this.1;exact B this.2
   .rintro(⟨a,ha,B⟩|B)
    .exact⟨a,i7 _ ha,B⟩
    .refine⟨x[k],kB _ (P9.2 rfl),?_⟩;by_cases hz:Bl ks x[k].set=0
     .exact .inr fun h0=>B ((m3 V).2 ⟨hz,h0⟩)
     .exact .inl hz
  rw[Bm];refine AW (fun h0=>?_) fun h0=>?_
  .rw[AR,AO (by omega)];refine⟨⟨k+1,i,?_,U,O⟩,by rw[BL,BL];omega⟩;congr 2
   refine Oq ?_;rw[Y];exact⟨.inl,fun Z=>by rcases Z with Z|Z;exact Z;exact(Z h0).elim⟩
  .rw[AR,AO (by omega)];refine⟨⟨k+1,i,?_,U,O⟩,by rw[BL,BL];omega⟩;rw[Io (Y.2 (.inr h0))];congr 2
   omega
 .have:k=x.length:=by omega
  subst this;rw[Nr] at J ⊢;refine AA (KV (BE.grow I g)) ?_;rintro _ w2 ⟨rfl,Q⟩;rw[BR];refine AF (fun h1=>bad _ (g.trans Q) (.inr (.inl h1))) fun h1=>?_;refine AA (Nv (BE.grow I (g.trans Q))) ?_;rintro _ w3 ⟨rfl,g3⟩;rw[BR];refine AF (fun h2=>bad _ ((g.trans Q).trans g3) (.inr (.inr h2))) fun h2=>?_;refine⟨?_,(g.trans Q).trans g3⟩;have a6:¬Qq ks x:=by
   rintro(⟨o,I,B⟩|B|B)
   .exact J o I ((Xj ks o).1.2 B)
   .exact h1 B
   .exact h2 B
  unfold Ct;rw[C3 a6]
theorem O6{l:List Int}(h:KR S w v l):AB prog 154 [v] (fun v' w'=>v'=.int .i64 (Bc l:Int)/\w'=w) w:=by
 apply X4;obtain⟨a,c,rfl,hm⟩:=h.shape;simp only[maxLen] at hm;rw[AP];refine Ab (fun vs w'=>∃i:Nat,i<=l.length/\vs=[.int .i64 (Bc (l.take i):Int),.int .i64 i]/\w'=w) (fun vs _=>l.length-Ds vs 1) ⟨0,Nn _,rfl,rfl⟩ ?_;rintro vs _ ⟨i,hi,rfl,rfl⟩ _;rename World=>w
 simp only[GJ];refine H6 (fun B=>?_) fun E=>?_
 .have j:i<l.length:=by omega
  obtain⟨p,r,rfl,_,hr,hc,rfl⟩:=h.get j;refine AU j (AK (hc 0 _ rfl) ?_);rw[Al];have e:Bc (l.take (i+1))=Bc (l.take i)+if l[i]=10 then 1 else 0:=by
   have:l.take (i+1)=l.take i++[l[i]]:=by rw[No];simp[j]
   rw[this,FD];by_cases o:l[i]=(10:Int)<;>simp[Bc,o]
  have hb:=Dn (l.take i);rw[Mp] at hb;refine AF (fun o=>?_) fun o=>?_
  .rw[AR,AR,AO (by omega),AO (by omega)];refine⟨⟨i+1,j,?_,rfl⟩,by rw[BL,BL];omega⟩;rw[e,Io o]
  .rw[AR,AO (by omega)];refine⟨⟨i+1,j,?_,rfl⟩,by rw[BL,BL];omega⟩;rw[e,C3 o];rfl
 .obtain rfl:i=l.length:=by omega
  rw[Nr];exact⟨rfl,trivial⟩
theorem CO.iU{o:Dop}(h:CO ks o):Bn o=(CD o:Int)-o.Ak.length/\CA o=(CD o:Int)-(if o.kind=3 then o.n else 0)/\0<=Bn o/\Bn o<=CD o/\0<=CA o/\CA o<=CD o:=by
 unfold Bn CA CD L1;rcases h with⟨h1,i,j,B,E⟩|⟨h1,i,j,B,E⟩|⟨h1,i,j,B,E,I⟩
 .rw[h1,i];simp;omega
 .rw[h1,i];simp;omega
 .rw[h1];simp
def Db(n:Int):Int->List Dop->Prop
 |_,[]=>True
 |p,o::x=>if o.kind=2 then p≠n/\Db n p x else if o.kind=3 then p+o.n≠n/\Db n (p+o.n) x else Db n (p+o.n) x
def ES(ks:List DKey)(o:Dop):Prop:=o.kind=2->o.set≠[]->(0<(Cw ks true o.set).length\/0<Bc o.Ak)->(Cw ks true o.set).length=o.set.length/\Bc o.Ak=o.Ak.length
open Classical in
noncomputable def Ej(ks:List DKey)(x:List Dop)(n most:Int):Int:=if Ct ks x≠0 then Ct ks x else if n<1\/most<n\/n<Cj Bn x then 5 else if ¬Db n 0 x then 6 else if ¬(∀o∈x,ES ks o) then 7 else if most<n-Cj Bn x+Cj CA x then 8 else 0
open Classical in
theorem YK{S D:Nat->Prop}{x:List Dop}{n:Int}(h:BE S D w v x)(Y:∀o∈x,CO ks o/\CD o<=536870912)(hl:x.length<=1048576) :
  AB prog 82 [v,.int .i64 n] (fun v' w'=>v'=.bool (decide (Db n 0 x))/\Grow w w') w:=by
 apply da;obtain⟨a,c,rfl,hm⟩:=h.shape;rw[AP];refine Ab (fun vs w'=>∃(i p:Nat),i<=x.length/\vs=[.int .i64 (p:Int),.int .i64 i]/\p<=i*536870912/\Grow w w'/\(Db n 0 x↔Db n p (x.drop i))) (fun vs _=>x.length-Ds vs 1) ⟨0,0,Nn _,rfl,Nn _,Mod.refl _ _,nj⟩ ?_;rintro vs w1 ⟨i,p,hi,rfl,hp,g,B⟩ _;simp only[GJ];refine H6 (fun Z=>?_) fun a1=>?_;rotate_left
 .obtain rfl:i=x.length:=by omega
  rw[mU] at B;exact⟨by rw[kj (B.2 trivial)],g⟩
 have E:i<x.length:=by omega
 obtain⟨q,r,rfl,hS,hr,hc,T⟩:=(BE.grow h g).get E;refine AU E (Aj hr (fun j u hu=>by rw[Addr.add_add];exact hc j u hu) ?_);refine BS hr rfl T.one fun b w2 hb hz g2 J _=>?_;obtain⟨rv,sv,pv,rfl,h1,h2,h3⟩:=id T;rw[lA E,Db] at B;obtain⟨V,U⟩:=Y x[i] (gC E);have I:=g.trans g2;have X:x[i].kind≠2->0<=x[i].n/\x[i].n<=536870912:=fun hk=>by
  rcases V with⟨h1,_,_,h4,_⟩|⟨h1,_,_,_,h4⟩|⟨h1,_⟩
  .rw[CD,C3 hk] at U;omega
  .rw[CD,C3 hk] at U;omega
  .exact absurd h1 hk
 refine AT (fun _ w'=>x[i].kind≠2/\w'=w2/\(Db n 0 x↔Db n ((p:Int)+x[i].n) (x.drop (i+1)))) ?_ ?_
 .rintro _ _ ⟨hk,rfl,O⟩ _;obtain⟨n1,n2⟩:=X hk;rw[AG];refine AK (J 1 _ rfl) ?_;rw[AR,wrap64 (by omega) (by omega),AR,AO (by omega)];refine⟨⟨i+1,p+x[i].n.toNat,E,?_,by omega,I,?_⟩,by rw[BL,BL];omega⟩
  .rw[show(p:Int)+x[i].n=((p+x[i].n.toNat:Nat):Int) by omega]
  .rw[O,show(p:Int)+x[i].n=((p+x[i].n.toNat:Nat):Int) by omega]
 .rw[AG];refine AK (J 0 _ rfl) ?_;rw[Al];refine AF (fun hk=>?_) fun hk=>?_
  .rw[Io hk] at B;rw[Al];refine AF (fun e=>⟨by rw[kX fun h=>(B.1 h).1 e],I⟩) fun e=>?_;rw[AR,AO (by omega)];refine⟨⟨i+1,p,E,rfl,?_,I,B.trans ⟨fun h=>h.2,fun h=>⟨e,h⟩⟩⟩,by rw[BL,BL];omega⟩;exact k8 hp (lF _ (qZ i))
  .rw[C3 hk] at B;obtain⟨n1,n2⟩:=X hk;rw[Al];refine AF (fun Q=>?_) fun Q=>?_
   .rw[Io Q] at B;rw[AG];refine AK (J 1 _ rfl) ?_;rw[AR,wrap64 (by omega) (by omega),Al];refine AF (fun e=>⟨by rw[kX fun h=>(B.1 h).1 e],I⟩) fun e=>?_;exact⟨hk,rfl,B.trans ⟨fun h=>h.2,fun h=>⟨e,h⟩⟩⟩
   .rw[C3 Q] at B;exact⟨hk,rfl,B⟩
open Classical in
theorem Za{E S D:Nat->Prop}{x:List Dop}(hS:De E w sv ks)(h:BE S D w v x)(hb:∀o∈x,o.set.length<=64) :
  AB prog 83 [sv,v] (fun v' w'=>v'=.bool (decide (∀o∈x,ES ks o))/\Grow w w') w:=by
 apply dH;obtain⟨a,c,rfl,hm⟩:=h.shape;simp only[maxLen] at hm;rw[AP];refine Ab (fun vs w'=>∃(i:Nat),i<=x.length/\vs=[.int .i64 i]/\Grow w w'/\∀o∈x.take i,ES ks o) (fun vs _=>x.length-Ds vs 0) ⟨0,Nn _,rfl,Mod.refl _ _,fun o J=>by simp at J⟩ ?_;rintro vs w1 ⟨i,hi,rfl,g,U⟩ _;simp only[GJ];refine H6 (fun b8=>?_) fun b9=>?_;rotate_left
 .obtain rfl:i=x.length:=by omega
  rw[Nr] at U;exact⟨by rw[kj U],g⟩
 have B:i<x.length:=by omega
 refine AT (fun _ w'=>ES ks x[i]/\Grow w1 w') ?_ ?_
 .rintro _ w' ⟨hp,g'⟩ _;rw[AR,AO (by omega)];refine⟨⟨i+1,B,rfl,g.trans g',fun o J=>?_⟩,by rw[DG,DG];omega⟩;rw[No,By B] at J;rcases DN.1 J with J|J
  .exact U o J
  .simp at J;subst J;exact hp
 obtain⟨q,r,rfl,bb,hr,hc,a1⟩:=(BE.grow h g).get B;refine AU B (Aj hr (fun j u hu=>by rw[Addr.add_add];exact hc j u hu) ?_);refine BS hr rfl a1.one fun b w2 bd hz Z I _=>?_;obtain⟨rv,al,pv,rfl,h1,h2,h3⟩:=id a1;have bk:=hb x[i] (gC B);obtain⟨ra,rc,an,av⟩:=h1.shape;obtain⟨sa,sc,a6,_⟩:=h2.shape;simp only[maxLen] at av;refine AT (fun _ w'=>w'=w2/\x[i].kind=2/\x[i].set≠[]) ?_ ?_;rotate_left
 .rw[AG];refine AK (I 0 _ rfl) ?_;rw[Bm];refine AW (fun hk=>?_) fun hk=>⟨fun h=>absurd h hk,Z⟩;rw[AG];refine AK (I 3 _ rfl) ?_;rw[a6,AP,Al];refine AF (fun e=>⟨fun _ V=>absurd (QC (by omega)) V,Z⟩) fun e=>⟨rfl,hk,fun h=>e (by rw[h];rfl)⟩
 rintro _ _ ⟨rfl,hk,V⟩ _;rename World=>w2
 have X:Grow w2 w2.drew:=Mod.drew _ _;refine Ai (fun _ _=>False) ?_;rw[AG];refine AY ⟨X.cell (I 3 _ rfl) fun h=>h,fun j hj e=>e⟩ ?_;refine AA (Lq (b:=true) (((hS.grow g).grow Z).grow X) ((h2.grow Z (by decide) fun _ _ h=>h).grow X (by decide) fun _ _ h=>h) (by omega)) ?_;rintro bv w3 ⟨ax,g3⟩;obtain⟨ba,bc,rfl,_⟩:=ax.shape;refine⟨g3.mono fun _ _ h=>h.elim,?_⟩;rw[AP,AG];refine AY ⟨X.cell (I 2 _ rfl) fun h=>h,fun j hj e=>e⟩ ?_;refine AA (O6 (((h1.grow Z (by decide) fun _ _ h=>h).grow X (by decide) fun _ _ h=>h).grow g3 (by decide) fun _ _ h=>h)) ?_;rintro _ _ ⟨rfl,rfl⟩;rename World=>w3
 refine⟨Mod.refl _ _,?_⟩;have Y:=(Z.trans X).trans g3;have O:=g.trans Y;have a7:∀(j:Nat) (v:Value),[Value.int .u8 x[i].kind,.int .i64 x[i].n,rv,al,pv][j]?=some v->w3.cell? ((⟨b,0,none⟩:Addr).add j)=some v:=fun j v hv=>g3.cell (X.cell (I j v hv) fun h=>h) fun h=>h;have bl:(Cw ks true x[i].set).length<=x[i].set.length:=ni _ _;have bn:=Dn x[i].Ak;have bad:(0<(Cw ks true x[i].set).length\/0<Bc x[i].Ak)->((Cw ks true x[i].set).length<x[i].set.length\/Bc x[i].Ak<x[i].Ak.length)->¬∀o∈x,ES ks o:=fun h1 h2 a8=>by
  have:=a8 x[i] (gC B) hk V h1;omega
 have Q:(0<(Cw ks true x[i].set).length\/0<Bc x[i].Ak)->
   AM 3 (.pointer (some ⟨b,0,none⟩)) (fun ay=>AL ay (fun b0 w9=>Ae b0 fun b3=>Bb .i64 (.int .i64 ((Cw ks true x[i].set).length:Int)) b3 fun b4=>AD b4 (Value.bool false=.bool (decide (∀ o ∈ x,ES ks o))/\Grow w w9)
    (AM 2 (.pointer (some ⟨b,0,none⟩)) fun t46=>AL t46 (fun b5 ak=>Ae b5 fun b6=>Bb .i64 (.int .i64 (Bc x[i].Ak:Int)) b6 fun b7=>AD b7 (Value.bool false=.bool (decide (∀ o ∈ x,ES ks o))/\Grow w ak) (ES ks x[i]/\Grow w1 ak)) w9)) w3):=fun T=>by
  rw[AG];refine AK (a7 3 _ rfl) ?_;rw[a6,AP,Ap];refine AF (fun e=>⟨by rw[kX (bad T (.inl (by omega)))],O⟩) fun e1=>?_;rw[AG];refine AK (a7 2 _ rfl) ?_;rw[an,AP,Ap];refine AF (fun e=>⟨by rw[kX (bad T (.inr (by omega)))],O⟩) fun e2=>⟨fun _ _ _=>⟨by omega,by omega⟩,Y⟩
 rw[BR];refine AF (fun e=>Q (.inl (by omega))) fun e1=>?_;rw[BR];refine AF (fun e=>Q (.inr (by omega))) fun e2=>⟨fun _ _ h=>by omega,Y⟩
theorem ao{E S D:Nat->Prop}{x:List Dop}{n:Nat}(Z:De E w sv ks)(h:BE S D w v x)(hT:E2 w)(hI:∀o∈x,iS o)(hl:x.length<=1048576)(hn:n<=1099511627776) :
  AB prog 42 [sv,v,.int .i64 (n:Int),.int .i64 most] (fun v' w'=>v'=.int .i64 (Ej ks x n most)/\Grow w w') w:=by
 classical
 apply cX;refine AA (Vv Z h hT hI) ?_;rintro _ w1 ⟨rfl,V⟩;unfold Ej;rw [Bm];refine AW (fun hm=>?_) fun hm=>⟨by rw [Io hm],V⟩;rw [C3 (by simpa using hm)];have B:=Jr hm;obtain ⟨_,t1,t2⟩:=Ex (f:=Bn) (m:=536870912) (by decide) x (fun o i=>by
  obtain ⟨_,_,h1,T,_⟩:=(B o i).1.iU;have:=(B o i).2;exact ⟨h1,by omega⟩) (by omega)
 obtain ⟨_,u1,u2⟩:=Ex (f:=CA) (m:=536870912) (by decide) x (fun o i=>by
  obtain ⟨_,_,_,_,h1,T⟩:=(B o i).1.iU;have:=(B o i).2;exact ⟨h1,by omega⟩) (by omega)
 have h1:=BE.grow h V;refine AT (fun vs w'=>vs=[.bool (decide ((n:Int)<1\/most<n\/(n:Int)<Cj Bn x))]/\Grow w1 w') ?_ ?_;rotate_left
 .rw[Ap];refine AF (fun e=>⟨by rw[kj (.inl e)],Mod.refl _ _⟩) fun e1=>?_;rw[BR];refine AF (fun e=>⟨by rw[kj (.inr (.inl e))],Mod.refl _ _⟩) fun e2=>?_;refine AA (KV h1) ?_;rintro _ w2 ⟨rfl,U⟩;rw[BR];refine⟨?_,U⟩;congr 2
  exact o0.2 ⟨fun h=>.inr (.inr h),fun h=>by rcases h with h|h|h;exact absurd h e1;exact absurd h e2;exact h⟩
 rintro _ w2 ⟨rfl,U⟩ _;rw[B0,Of];have J:=V.trans U;have T:=BE.grow h1 U;refine AF (fun e=>⟨by rw[Io e],J⟩) fun e=>?_;rw[C3 e];refine AA (YK (n:=n) T B hl) ?_;rintro _ w3 ⟨rfl,g3⟩;rw[Ar];have j:=J.trans g3;refine AW (fun X=>?_) fun X=>⟨by rw[Io X],j⟩;rw[C3 (fun h=>h X)];have I:=BE.grow T g3;refine AA (Za (Z.grow j) I fun o i=>?_) ?_
 .rcases(B o i).1 with⟨_,_,I,_⟩|⟨_,_,I,_⟩|⟨_,_,_,_,_,h6⟩
  .rw[I];simp
  .rw[I];simp
  .exact h6.2.1
 rintro _ w4 ⟨rfl,g4⟩;rw[Ar];have O:=j.trans g4;refine AW (fun Y=>?_) fun Y=>⟨by rw[Io Y],O⟩;rw[C3 (fun h=>h Y)];have h4:=BE.grow I g4;refine AA (KV h4) ?_;rintro _ w5 ⟨rfl,g5⟩;rw[Av,wrap64 (by omega) (by omega)];refine AA (Nv (BE.grow h4 g5)) ?_;rintro _ w6 ⟨rfl,g6⟩;rw[AR,wrap64 (by omega) (by omega),BR];have Q:=(O.trans g5).trans g6;refine AF (fun e=>⟨by rw[Io e],Q⟩) fun e=>⟨by rw[C3 e],Q⟩
def Uz(r:Int):List Int:=
 if r<128 then[r] else if r<2048 then[192+r/64,128+r%64] else if r<65536 then[224+r/4096,128+r/64%64,128+r%64]
 else[240+r/262144,128+r/4096%64,128+r/64%64,128+r%64]
def PV(l:List Int):List Int:=l.flatMap Uz
theorem XE(r:Int):1<=(Uz r).length/\(Uz r).length<=4:=by
 unfold Uz;split
 .simp
 split
 .simp
 split<;>simp
def iZ(v:BK):List Int:=uv v.kind.toNat++(if v.kind=1\/v.kind=2 then uv (Hd v.n) else if v.kind=3 then uv v.f.toNat else if v.kind=4 then uv v.s.size++Bu v.s else[])
def cV(v:BK):Prop:=((v.kind=1\/v.kind=2)/\(-9223372036854775808<=v.n/\v.n<=9223372036854775807)/\v.f=0/\v.s=⟨#[]⟩)\/(v.kind=3/\v.n=0/\(0<=v.f/\v.f<18446744073709551616)/\v.s=⟨#[]⟩)\/(v.kind=4/\v.n=0/\v.f=0/\v.s.size<9223372036854775808)
def bU(k:Int):Prop:=0<=k/\k<9223372036854775808
def iD(a:Attr):Prop:=bU a.key/\cV a.val
def gx(c:Chg):Prop:=bU c.key/\((c.gone=true/\c.val=BK.zero)\/(c.gone=false/\cV c.val))
def VE{α:Type}(R:α->Prop)(l:List α):Prop:=l.length<9223372036854775808/\∀x∈l,R x
def hU(m:Int)(o:Dop):Prop:=(o.kind=1/\(0<=o.n/\o.n<=m)/\o.Ak=[]/\o.set=[]/\VE gx o.patch)\/(o.kind=2/\o.n=0/\(∀r∈o.Ak,EK r)/\(PV o.Ak).length<9223372036854775808/\VE iD o.set/\o.patch=[])\/(o.kind=3/\(0<=o.n/\o.n<=m)/\o.Ak=[]/\o.set=[]/\o.patch=[])
abbrev gJ:Dop->Prop:=hU 536870912
section
variable {b:List Int}{p q r s:Nat}{bad jI jJ jH:Bool}
def hC(c:Bool×BK):List Int:=if c.1 then uv 0 else iZ c.2
variable {m:Nat}
end
def Il(v:BK):Prop:=(-9223372036854775808<=v.n/\v.n<=9223372036854775807)/\(0<=v.f/\v.f<18446744073709551616)
def Ml(o:Dop):Prop:=(∀a∈o.set,a.key<=9223372036854775807/\Il a.val)/\∀c∈o.patch,c.key<=9223372036854775807/\Il c.val
theorem Ml.o{o:Dop}(h:Ml o):iS o:=⟨fun a ha=>(h.1 a ha).2.2.1,fun c hc=>(h.2 c hc).2.2.1⟩
variable {ks:List DKey}
abbrev jE(ks:List DKey)(l:List Attr):Prop:=Ik ks l/\∀a∈l,a.key<=9223372036854775807/\Il a.val
abbrev jG(ks:List DKey)(p:List Chg):Prop:=K6 ks p/\∀c∈p,c.key<=9223372036854775807/\Il c.val
abbrev H8(ks:List DKey)(o:Dop):Prop:=Good (jE ks) (jG ks) o
theorem H8.k{o:Dop}(h:H8 ks o):CO ks o:=by
 rcases h with⟨h1,i,j,B,E⟩|h|⟨h1,i,j,B,E,I⟩
 .exact .inl ⟨h1,i,j,B,E.1⟩
 .exact .inr (.inl h)
 .exact .inr (.inr ⟨h1,i,j,B,E,I.1⟩)
theorem H8.b{o:Dop}(h:H8 ks o):Ml o:=by
 rcases h with⟨h1,E,i,j,B⟩|⟨h1,E,i,j,B⟩|⟨h1,E,i,j,B,I⟩
 .exact⟨by rw[i];simp,B.2⟩
 .exact⟨by rw[i];simp,by rw[j];simp⟩
 .exact⟨I.2,by rw[j];simp⟩
theorem CO.b{o:Dop}(h:CO ks o)(hb:Ml o):H8 ks o:=by
 rcases h with⟨h1,i,j,B,E⟩|h|⟨h1,i,j,B,E,I⟩
 .exact .inl ⟨h1,i,j,B,E,hb.2⟩
 .exact .inr (.inl h)
 .exact .inr (.inr ⟨h1,i,j,B,E,I,hb.1⟩)
theorem DV.rep{v:BK}(h:DV v)(hi:Il v):cV v:=by
 rcases h with⟨h1,i,j⟩|⟨h1,i⟩|⟨h1,i,_⟩|⟨h1,i,j,_⟩
 .exact .inl ⟨.inl h1,hi.1,by rw[i],by rw[i];rfl⟩
 .exact .inl ⟨.inr h1,hi.1,by rw[i],by rw[i];rfl⟩
 .exact .inr (.inl ⟨h1,by rw[i],hi.2,by rw[i];rfl⟩)
 .exact .inr (.inr ⟨h1,by rw[i],by rw[i],by omega⟩)
theorem P1(hk:∀k∈ks,0<=k.id){id:Int}(h:Bj ks id≠none):0<=id:=by
 obtain⟨k,h1,i⟩:=kQ.1 (PA h);rw[<-i];exact hk k h1
theorem Ik.rep(hk:∀k∈ks,0<=k.id){l:List Attr}(h:jE ks l):VE iD l:=
 ⟨by have:=h.1.2.1;omega,fun a ha=>by
  obtain ⟨h1,k,i,_⟩:=h.1.2.2 a ha;have j:=h.2 a ha;exact ⟨⟨P1 hk (by rw [i];simp),by omega⟩,h1.rep j.2⟩⟩
theorem K6.rep(hk:∀k∈ks,0<=k.id){l:List Chg}(h:jG ks l):VE gx l:=
 ⟨by have:=h.1.2.1;omega,fun c hc=>by
  obtain⟨h1,j,o⟩:=h.1.2.2 c hc;have B:=h.2 c hc;refine⟨⟨P1 hk o,by omega⟩,?_⟩;cases i:c.gone
  .exact .inr ⟨rfl,(j i).1.rep B.2⟩
  .exact .inl ⟨rfl,h1 i⟩⟩
theorem Qz:∀l:List Int,(PV l).length<=l.length*4:=by
 intro l;induction l with
 |nil=>simp[PV]
 |cons r l i=>
  have:=(XE r).2;have e:PV (r::l)=Uz r++PV l:=rfl;rw[e,Bq,Vn];omega
theorem H8.rep(hk:∀k∈ks,0<=k.id){o:Dop}(h:H8 ks o)(hl:CD o<=536870912):gJ o:=by
 unfold CD at hl;rcases h with⟨h1,i,j,B,E⟩|⟨h1,i,j,B,E⟩|⟨h1,i,j,B,E,I⟩
 .rw[C3 (by omega)] at hl;exact .inl ⟨h1,by omega,i,j,K6.rep hk E⟩
 .rw[C3 (by omega)] at hl;exact .inr (.inr ⟨h1,by omega,i,j,B⟩)
 .rw[Io h1] at hl;exact .inr (.inl ⟨h1,j,i,by have:=Qz o.Ak;omega,Ik.rep hk I,B⟩)
theorem CO.bM{o:Dop}(h:CO ks o)(hl:CD o<=536870912):FN o:=by
 unfold CD at hl;rcases h with⟨h1,B,i,j,E⟩|⟨h1,B,i,j,E⟩|⟨h1,B,i,j,E,I⟩
 .rw[C3 (by omega)] at hl;exact .inl ⟨h1,B,i,j,by omega⟩
 .rw[C3 (by omega)] at hl;exact .inr (.inl ⟨h1,B,i,j,E,by omega⟩)
 .exact .inr (.inr ⟨h1,i,j,E⟩)
theorem CO.tm{o:Dop}(h:CO ks o):Bn o=(CD o:Int)-o.Ak.length/\CA o=(CD o:Int)-(if o.kind=3 then o.n else 0)/\0<=Bn o/\Bn o<=CD o/\0<=CA o/\CA o<=CD o:=by
 unfold Bn CA CD L1;rcases h with⟨h1,i,j,B,E⟩|⟨h1,i,j,B,E⟩|⟨h1,i,j,B,E,I⟩
 .rw[h1,i];simp;omega
 .rw[h1,i];simp;omega
 .rw[h1];simp
theorem gH{x:List Dop}(h:∀o∈x,CO ks o/\CD o<=536870912)(hl:x.length<=1048576):Cj Bn x=(total x:Int)-Br x/\Cj CA x=(total x:Int)-Ch x:=by
 have j:=(Ex (f:=Bn) (m:=536870912) (by decide) x (fun o i=>by have:=(h o i).1.tm;have:=(h o i).2;omega) (by omega)).1;have B:=(Ex (f:=CA) (m:=536870912) (by decide) x (fun o i=>by have:=(h o i).1.tm;have:=(h o i).2;omega) (by omega)).1;rw[j,B];clear j B hl;induction x with
 |nil=>simp[total,Br,Ch]
 |cons o x E=>
  obtain⟨I,J⟩:=E fun o i=>h o (by simp[i]);have:=(h o (by simp)).1.tm;simp only[kL,lX,total,Br,Ch] at I J ⊢
  push_cast
  omega
theorem Tq{x:List Dop}(h:∀o∈x,CO ks o/\CD o<=536870912)(ht:Cj Bn x<=536870912)(hm:Cj CA x<=536870912):Ct ks x=0:=by
 have B:∀o∈x,Ff o/\Ik ks o.set/\K6 ks o.patch:=fun o j=>CO.form (h o j).1 (h o j).2;unfold Ct;rw[C3,C3]
 .rintro⟨o,j,i|i⟩
  .exact i (FM.2 (B o j).2.1)
  .exact i (G3.2 (B o j).2.2)
 .rintro(⟨o,j,i|i|i⟩|i|i)
  .exact i (B o j).1
  .rw[FM.2 (B o j).2.1] at i;cases i
  .rw[G3.2 (B o j).2.2] at i;cases i
  .omega
  .omega
theorem WT{x:List Dop}(h:Ct ks x=0):Cj Bn x<=536870912/\Cj CA x<=536870912:=by
 unfold Ct at h;split at h
 .cases h
 .rename_i h1;exact⟨ke fun i=>h1 (.inr (.inl (by omega))),ke fun i=>h1 (.inr (.inr (by omega)))⟩
theorem Ns{x:List Dop}(h:∀o∈x,CO ks o):((Br x:Int)+Ch x<=total x)/\0<=Ch x:=by
 induction x with
 |nil=>simp[total,Br,Ch]
 |cons o x J=>
  have:=J fun o j=>h o (by simp[j]);have j:=h o (by simp);simp only[kL,lX,total,Br,Ch,CD] at this ⊢
  push_cast
  rcases j with⟨h1,i,B,E,I⟩|⟨h1,i,B,E,I⟩|⟨h1,i,B,E,I,O⟩
  .rw[h1,i];simp;omega
  .rw[h1,i];simp;omega
  .rw[h1];simp;omega
theorem one_le{x:List Dop}(h:∀o∈x,CO ks o){z:Dop}(E:z∈x):(z.kind≠2->(CD z:Int)+Br x<=total x)/\(z.kind=2->(CD z:Int)+Ch x<=total x):=by
 induction x with
 |nil=>simp at E
 |cons o x Q=>
  have O:∀o∈x,CO ks o:=fun o j=>h o (by simp[j]);have hr:=Ns O;have j:=h o (by simp);have B:=j.tm;have i:(o.Ak.length:Int)<=CD o/\(if o.kind=3 then o.n else 0)<=CD o/\0<=(if o.kind=3 then o.n else 0)/\(o.kind≠2->o.Ak.length=0)/\(o.kind=2->(if o.kind=3 then o.n else 0)=0):=by
   have:=B.2.2.1;have:=B.2.2.2.2.1;refine⟨by omega,by omega,?_,fun e=>?_,fun e=>by rw[e];rfl⟩
   .split
    .rcases j with⟨h1,_⟩|⟨_,_,_,_,S⟩|⟨h1,_⟩<;>omega
    .omega
   .rcases j with⟨_,I,_⟩|⟨_,I,_⟩|⟨h1,_⟩
    .rw[I];rfl
    .rw[I];rfl
    .exact(e h1).elim
  simp only[kL,lX,total,Br,Ch] at hr ⊢
  push_cast
  rcases I3.1 E with rfl|E
  .refine⟨fun e=>?_,fun e=>?_⟩
   .have:=i.2.2.2.1 e;omega
   .have:=i.2.2.2.2 e;omega
  .have J:=Q O E;simp only[total,Br,Ch] at J;refine⟨fun e=>?_,fun e=>?_⟩
   .have:=J.1 e;omega
   .have:=J.2 e;omega
theorem XW(hk:∀k∈ks,0<=k.id){x:List Dop}(h:Ct ks x=0)(hb:∀o∈x,Ml o)(hl:x.length<=1048576) :
  Ct ks (CG x)=0/\(∀z∈CG x,H8 ks z/\CD z<=536870912)/\VE gJ (CG x)/\CG (CG x)=CG x/\(CG x).length<=x.length:=by
 have B:=Jr h;obtain⟨V,X⟩:=gH B hl;obtain⟨Y,Z⟩:=WT h;have Q:=Ns fun o j=>(B o j).1;have O:∀o∈x,FN o:=fun o j=>(B o j).1.bM (B o j).2;obtain⟨I,n2⟩:=UE x (fun o j=>(B o j).1.b (hb o j)) (by omega);obtain⟨s1,s2,S⟩:=Ri x O (by omega);have J:∀z∈CG x,CD z<=536870912:=by
  intro z i;have hr:=one_le (fun o j=>H8.k (I o j)) i;rw[s1,s2] at hr;by_cases e:z.kind=2
  .have:=hr.2 e;omega
  .have:=hr.1 e;omega
 have E:∀z∈CG x,CO ks z/\CD z<=536870912:=fun z i=>⟨H8.k (I z i),J z i⟩;obtain⟨T,U⟩:=gH E (by omega);rw[s1] at T;rw[s2] at U;exact⟨Tq E (by omega) (by omega),fun z i=>⟨I z i,J z i⟩,⟨by omega,fun z i=>H8.rep hk (I z i) (J z i)⟩,Rg x O (by omega),S⟩
end
section
def FW(ks:List DKey):List Cel->List Dop->List Cel
 |d,[]=>d
 |d,o::x=>if o.kind=1 then(d.take o.n.toNat).map (Dv ks o.patch)++FW ks (d.drop o.n.toNat) x else if o.kind=2 then o.Ak.map (fun r=>(⟨r,o.set⟩:Cel))++FW ks d x else FW ks (d.drop o.n.toNat) x
def OE(ks:List DKey):List Cel->List Dop->List Cel
 |d,[]=>d
 |d,o::x=>if o.kind=1 then(d.take o.n.toNat).map (Dv ks o.patch)++OE ks (d.drop o.n.toNat) x else if o.kind=2 then OE ks d x else OE ks (d.drop o.n.toNat) x
def Co:List Dop->Nat
 |[]=>0
 |o::x=>(if o.kind=2 then 0 else o.n.toNat)+Co x
def EJ:List Dop->Nat
 |[]=>0
 |o::x=>(if o.kind=3 then 0 else if o.kind=2 then o.Ak.length else o.n.toNat)+EJ x
theorem Pj{x:List Dop}(j:∀o∈x,CO ks o/\CD o<=536870912)(hl:x.length<=1048576):Cj Bn x=Co x/\Cj CA x=EJ x:=by
 have b1:∀o∈x,0<=Bn o/\Bn o<=536870912:=fun o i=>by
  obtain⟨h1,B⟩:=j o i;obtain⟨_,_,a,b,_⟩:=h1.iU;exact⟨a,by omega⟩
 have b2:∀o∈x,0<=CA o/\CA o<=536870912:=fun o i=>by
  obtain⟨h1,B⟩:=j o i;obtain⟨_,_,_,_,a,b⟩:=h1.iU;exact⟨a,by omega⟩
 rw[(Ex (m:=536870912) (by decide) x b1 (by omega)).1,(Ex (m:=536870912) (by decide) x b2 (by omega)).1];clear hl b1 b2;induction x with
 |nil=>exact⟨rfl,rfl⟩
 |cons o x E=>
  obtain⟨I,J⟩:=E fun o i=>j o (by simp[i]);obtain⟨h1,_⟩:=j o (by simp);rw[kL,lX,I,kL,lX,J,Co,EJ,Bn,CA,L1];rcases h1 with⟨k,_,_,O,_⟩|⟨k,_,_,_,O⟩|⟨k,_⟩
  .simp only[k,show ¬(1:Int)=2 by decide,show ¬(1:Int)=3 by decide,kZ];omega
  .simp only[k,show ¬(3:Int)=2 by decide,kZ,km];omega
  .simp only[k,show ¬(2:Int)=3 by decide,kZ,km];omega
structure aH (ks:List DKey) (x:List Dop) (n:Nat) (most:Int):Prop where
 may:Ct ks x=0
 Fc:∀o∈x,CO ks o/\CD o<=536870912
 pos:1<=n/\(n:Int)<=most
 Tg:Co x<=n
 fin:Db n 0 x
 pl:∀o∈x,ES ks o
 most:(n:Int)-Co x+EJ x<=most
theorem Fv{x:List Dop}{n:Nat}(hl:x.length<=1048576):Ej ks x n most=0↔aH ks x n most:=by
 classical
 unfold Ej;constructor
 .intro h;split at h
  .rename_i hm;exact absurd h hm
  rename_i hm;have i:Ct ks x=0:=by simpa using hm
  have I:=Jr i;obtain⟨j,o⟩:=Pj I hl;split at h
  .cases h
  rename_i B;split at h
  .cases h
  rename_i E;split at h
  .cases h
  rename_i J;split at h
  .cases h
  rename_i O;rw[j] at B O;rw[o] at O;exact⟨i,I,⟨by omega,by omega⟩,by omega,Classical.not_not.1 E,Classical.not_not.1 J,by omega⟩
 .rintro⟨h1,Q,S,T,B,E,J⟩;obtain⟨j,o⟩:=Pj Q hl;rw[C3 (by simp[h1]),C3 (by rw[j];omega),C3 (fun h=>h B),C3 (fun h=>h E),C3 (by rw[j,o];omega)]
theorem Mk.of(B:∀k∈ks,EZ k){k:Int}{v:BK}(h1:Bj ks k≠none)(j:DV v\/v=BK.zero)(o:Il v):Mk ⟨k,v⟩:=by
 have hk:=PA h1;obtain⟨y,E,e⟩:=kQ.1 hk;have i:=B y E;have k1:=i.1;have k2:=i.2.1;rw[e] at k1 k2;refine⟨⟨?_,?_⟩,?_,o.1,o.2,?_⟩
 .show _<=k;omega
 .show k<=_;omega
 .show 0<=v.kind/\v.kind<256;rcases j with(⟨h,_⟩|⟨h,_⟩|⟨h,_⟩|⟨h,_⟩)|h
  .rw[h];decide
  .rw[h];decide
  .rw[h];decide
  .rw[h];decide
  .rw[h];decide
 .show v.s.size<_;rcases j with(⟨_,h,_⟩|⟨_,h⟩|⟨_,h,_⟩|⟨_,_,h,_⟩)|h
  .rw[h];simp[Fo,ByteArray.size]
  .rw[h];simp[Fo,ByteArray.size]
  .rw[h];simp[Fo,ByteArray.size]
  .omega
  .rw[h];simp[BK.zero,Fo,ByteArray.size]
theorem ET.of(i:∀k∈ks,EZ k){s:List Attr}(h:Ik ks s)(j:∀a∈s,Il a.val):ET ks s:=by
 refine⟨h,fun a ha=>?_⟩;obtain⟨h1,k,o,_⟩:=h.2.2 a ha;exact Mk.of i (by rw[o];simp) (.inl h1) (j a ha)
theorem JE.of(j:∀k∈ks,EZ k){p:List Chg}(h:K6 ks p)(o:∀c∈p,Il c.val):JE ks p:=by
 refine⟨h,fun c hc=>?_⟩;obtain⟨h1,B,E⟩:=h.2.2 c hc;refine Mk.of j E ?_ (o c hc);cases i:c.gone with
 |true=>exact .inr (h1 i)
 |false=>exact .inl (B i).1
theorem jS(B:∀k∈ks,EZ k){o:Dop}(h:CO ks o)(E:(∀a∈o.set,Il a.val)/\∀c∈o.patch,Il c.val):ET ks o.set/\JE ks o.patch:=by
 rcases h with⟨_,_,i,_,I⟩|⟨_,_,i,j,_⟩|⟨_,_,_,j,_,J⟩
 .exact⟨by rw[i];exact ET.nil,JE.of B I E.2⟩
 .exact⟨by rw[i];exact ET.nil,by rw[j];exact JE.nil⟩
 .exact⟨ET.of B J E.1,by rw[j];exact JE.nil⟩
theorem Pn{o:Dop}(hk:o.kind=2)(Q:Ik ks o.set)(hp:ES ks o):o.Ak.map (cellOf ks o.set)=o.Ak.map fun r=>(⟨r,o.set⟩:Cel):=by
 by_cases E:o.set=[]
 .rw[E];rfl
 refine mj fun r hr=>?_;unfold cellOf;have j:∀a∈o.set,∃k,Bj ks a.key=some k:=fun a ha=>by
  obtain⟨_,k,h,_⟩:=Q.2.2 a ha;exact⟨k,h⟩
 by_cases I:0<(Cw ks true o.set).length\/0<Bc o.Ak
 .obtain⟨S,T⟩:=hp hk E I;have O:Cw ks true o.set=o.set:=mn.2 (List.length_filter_eq_length_iff.1 S);have U:∀r∈o.Ak,r=10:=fun r hr=>by
   have:=(List.count_eq_length.1 T) r hr;exact this.symm
  rw[U r hr,kj rfl,O]
 .have h1:(Cw ks true o.set).length=0:=by omega
  have V:Bc o.Ak=0:=by omega
  have J:r≠10:=fun e=>List.count_eq_zero.1 V (e▸hr);have O:Cw ks false o.set=o.set:=mn.2 fun a ha=>by
   obtain⟨k,hk⟩:=j a ha;have B:=oj.1 (QC h1) a ha;unfold NQ at B ⊢;rw[hk] at B ⊢;have i:¬decide (k.block=true)=true:=B;show decide (k.block=false)=true;cases hb:k.block with
   |true=>rw[hb] at i;exact absurd rfl i
   |false=>rfl
  rw[kX J,O]
theorem WX{n:Nat}:∀{x:List Dop} {d:List Cel},(∀o∈x,CO ks o)->Co x<=d.length->d.length<=n->Db n ((n:Int)-d.length) x->(Ax d).getLast?=some 10->(Ax (OE ks d x)).getLast?=some 10:=by
 intro x;induction x with
 |nil=>intro d _ _ _ _ h;exact h
 |cons o x I=>
  intro d T ht U j hl;have J:=T o (by simp);have B:∀o∈x,CO ks o:=fun o V=>T o (by simp[V]);rw[Co] at ht;rw[Db] at j;rw[OE];have i:∀m:Nat,m<d.length->(Ax (d.drop m)).getLast?=some 10:=fun m hm=>by
   rw[Ax,lP,nZ,C3 (by rw[Es];omega)];exact hl
  rcases J with⟨k,_,_,X,_⟩|⟨k,_,_,_,X⟩|⟨k,_⟩
  .rw[Io k];rw[C3 (by omega)] at ht;rw[C3 (by omega),C3 (by omega)] at j;by_cases hm:o.n.toNat<d.length
   .have:=I B (d:=d.drop o.n.toNat) (by rw[K8];omega) (by rw[K8];omega) (by rw[K8,show(n:Int)-((d.length-o.n.toNat:Nat):Int)=(n:Int)-d.length+o.n by omega];exact j) (i _ hm);rw[Ax,S7,S5];rw[Ax] at this;rw[this];rfl
   .have O:x=[]:=by
     cases x with
     |nil=>rfl
     |cons o' x=>
      exfalso;have E:=B o' (by simp);rw[Co] at ht;rw[Db] at j;rcases E with⟨Q,_,_,S,_⟩|⟨Q,_,_,_,S⟩|⟨Q,_⟩
      .rw[C3 (by omega)] at ht;omega
      .rw[C3 (by omega)] at ht;omega
      .rw[Io Q] at j;exact j.1 (by omega)
    subst O;rw[OE,lq (by omega),kG,lN (by omega),Ax,mH];exact hl
  .rw[C3 (by omega),C3 (by omega)];rw[C3 (by omega)] at ht;rw[C3 (by omega),Io k] at j;have hm:o.n.toNat<d.length:=by omega
   exact I B (by rw[K8];omega) (by rw[K8];omega) (by rw[K8,show(n:Int)-((d.length-o.n.toNat:Nat):Int)=(n:Int)-d.length+o.n by omega];exact j.2) (i _ hm)
  .rw[C3 (by omega),Io k];rw[Io k] at ht j;exact I B (by omega) U j.2 hl
theorem Zz:∀{x:List Dop} {d:List Cel},(OE ks d x).length<=d.length:=by
 intro x;induction x with
 |nil=>intro d;exact Lc _
 |cons o x i=>
  intro d;rw[OE];split
  .rw[Bq,Es,Mp];have:=i (d:=d.drop o.n.toNat);rw[K8] at this;omega
  .split
   .exact i
   .have:=i (d:=d.drop o.n.toNat);rw[K8] at this;omega
theorem ZT:∀{x:List Dop} {d:List Cel},(∀o∈x,CO ks o)->Co x<=d.length->(FW ks d x).length+Co x=d.length+EJ x:=by
 intro x;induction x with
 |nil=>intro d _ _;rfl
 |cons o x j=>
  intro d B ht;have i:∀o∈x,CO ks o:=fun o E=>B o (by simp[E]);rw[Co] at ht ⊢;rw[FW,EJ];rcases B o (by simp) with⟨k,_,_,I,_⟩|⟨k,_,_,_,I⟩|⟨k,_⟩
  .simp only[k,show ¬(1:Int)=2 by decide,show ¬(1:Int)=3 by decide,km,kZ] at ht ⊢;rw[Bq,Es,Mp];have:=j i (d:=d.drop o.n.toNat) (by rw[K8];omega);rw[K8] at this;omega
  .simp only[k,show ¬(3:Int)=2 by decide,show ¬(3:Int)=1 by decide,km,kZ] at ht ⊢;have:=j i (d:=d.drop o.n.toNat) (by rw[K8];omega);rw[K8] at this;omega
  .simp only[k,show ¬(2:Int)=3 by decide,show ¬(2:Int)=1 by decide,km,kZ] at ht ⊢;rw[Bq,Es];have:=j i (d:=d) (by omega);omega
theorem NI.ND(o:ks.length<=64){p:List Chg}(h:NI ks d)(hp:JE ks p)(B:i<=j):NI ks (ND d i j (Dv ks p)):=by
 refine⟨fun c hc=>?_,by rw[VZ d (Dv ks p) B fun _=>rfl];exact h.last⟩;unfold Go.Proofs.YtmdhibffnkhcnaaGreatDoor.ND at hc;rcases DN.1 hc with hc|hc
 .rcases DN.1 hc with hc|hc
  .exact h.set c (kO hc)
  .obtain⟨c0,E,rfl⟩:=kQ.1 hc;exact(h.set c0 (kO (kP E))).app o (hp.part _)
 .exact h.set c (kP hc)
theorem Oe{a b:List Cel}(hb:b≠[]):(Ax (a++b)).getLast?=(Ax b).getLast?:=by
 rw[Ax,S7,S5];cases h:(b.map Cel.r).getLast? with
 |none=>rw[mS,nL] at h;exact absurd h hb
 |some x=>rfl
theorem bf{b:List Cel}(h:(Ax b).getLast?=some 10):b≠[]:=fun e=>by rw[e] at h;cases h
def Nz(B:Nat)(x:List Dop):Nat:=2*x.length*(22*B+50)
section
variable {w0:World}{F:Nat->Prop}{W:World}{a:TxA}{σ:SKs}{most:Int}{N:Nat}{d:List Cel}
theorem Hc{S D:Nat->Prop}{x:List Dop}(h:GP .f w0 F W a σ most d N)(hT:E2 w0)(hG:NI σ.ks d)(bc:σ.ks.length<=64)(hK:∀k∈σ.ks,EZ k)(hx:BE S D W v x)(av:∀y,S y\/D y->¬F y)(hI:∀o∈x,Ml o)
 (hl:x.length<=1048576)(e6:d.length<=B)(hB:aH σ.ks x d.length most->d.length+EJ x<=B)(e7:B<=1000000)(hN:N+Nz B x<=1000000000) :
  AB prog 12 [.pointer (some ⟨a.b,0,none⟩),v] (fun v' w'=>v'=.int .i64 (Ej σ.ks x d.length most)/\K4 .f w0 F W w' a σ most (if Ej σ.ks x d.length most=0 then FW σ.ks d x else d) (N+Nz B x)/\(Ej σ.ks x d.length most=0->NI σ.ks (FW σ.ks d x))) W:=by
 apply fN;unfold S12;refine AA (FH h.box.1) ?_;rintro _ _ ⟨rfl,rfl⟩;rename World=>W
 rw[Ar];refine AV ?_;have gd:Grow W W.drew:=Mod.drew _ _;have hd:=h.grow gd;refine Ai (fun _ _=>False) ?_;refine AI ?_;rw[AG,AH];refine AY ⟨hd.box.1.cells 0 _ rfl,fun j hj e=>e⟩ ?_;obtain⟨l1,Fr,bt,c6,hO⟩:=hd.Hn;refine AA (VM hd.box.1 hO) ?_;rintro _ W1 ⟨rfl,g1⟩;have c7:(Bf l1).length=d.length:=by rw[c6,Ax,Es]
 rw[c7];refine⟨g1.mono fun _ _ h=>h.elim,?_⟩;refine AI ?_;rw[AG,AH];refine AY ⟨hd.box.1.cells 1 _ rfl,fun j hj e=>e⟩ ?_;have h1:=hd.grow g1;have bd:=gd.trans g1;have c8:BE (fun y=>S y/\y<W.heap.size) (fun y=>D y/\y<W.heap.size) W v x:=BB.sub hx (fun y Y hs=>⟨hs,Y⟩) (by decide) fun r o ho=>ho.mod (Mod.refl (fun _=>False) _) (fun _ _ _ h=>h) fun y Y hd=>⟨hd,Y⟩;have bk:=BE.grow c8 bd;refine AA (ao h1.JS.1 bk (hT.grow h1.g) (fun o ho=>(hI o ho).o) hl (by omega)) ?_;rintro _ W2 ⟨rfl,g2⟩;refine⟨g2.mono fun _ _ h=>h.elim,?_⟩;have b7:=bd.trans g2;have h2:=h1.grow g2;have b8:=BE.grow bk g2;rw[Bm];refine AW (fun e0=>?_) fun e0=>⟨rfl,by rw[C3 e0];exact K4.up ⟨F,fun _ h=>.inl h,h2,b7.mono fun _ _ h=>h.elim⟩ (by omega),fun e=>absurd e e0⟩;rw[Io e0,e0];have hF:=(Fv hl).1 e0;have hB:=hB hF;have b3:∀o∈x,CO σ.ks o:=fun o ho=>(hF.Fc o ho).1;have bl:∀o∈x,ET σ.ks o.set/\JE σ.ks o.patch:=fun o ho=>jS hK (b3 o ho) ⟨fun a ha=>((hI o ho).1 a ha).2,fun c hc=>((hI o ho).2 c hc).2⟩;obtain⟨va,vc,rfl,hm⟩:=b8.shape;simp only[maxLen] at hm;rw[AP];have e8:=b7.size;have b5:∀{F':Nat->Prop} {W':World},(∀y,F' y->F y\/W2.heap.size<=y)->∀y,(S y/\y<W.heap.size)\/(D y/\y<W.heap.size)->¬F' y:=fun c9 y Y e=>by
  rcases c9 y e with e|e
  .exact av y (Y.imp qf qf) e
  .rcases Y with Y|Y
   .have:=Y.2;omega
   .have:=Y.2;omega
 let G:Nat:=22*B+50
 have ca:Nz B x=2*x.length*G:=rfl;have b6:∀i,i<=x.length->i*G<=x.length*G:=fun i hi=>lF _ hi;have V:∀i,(i+1)*G=i*G+G:=fun i=>by rw[ku,qX]
 have cc:2*x.length*G=x.length*G+x.length*G:=by rw[Nat.mul_assoc,Nat.two_mul]
 refine Ab (fun vs W'=>∃ (i:Nat) (E I:List Cel) (F':Nat->Prop),i<=x.length/\vs=[.int .i64 (E.length:Int),.int .i64 i]/\(∀ y,F' y->F y\/W2.heap.size<=y)/\GP .f w0 F' W' a σ most (E++I) (N+i * G)/\Mod F W2 W'/\NI σ.ks (E++I)/\
   E++OE σ.ks I (x.drop i)=OE σ.ks d x/\Co (x.drop i)<=I.length/\I.length<=d.length/\Db d.length ((d.length:Int) - I.length) (x.drop i)/\E.length+I.length<=d.length) (fun vs _=>x.length - Ds vs 1)
  ⟨0,[],d,F,Nn _,rfl,fun _ h=>.inl h,h2.up (by omega),Mod.refl _ _,hG,rfl,hF.Tg,Lc _,by rw[Int.sub_self];exact hF.fin,by simp⟩ ?_
 rintro vs W3 ⟨i,E,I,F3,hi,rfl,f3,h3,M3,Q,O,Z,ax,T,U⟩ _;simp only[GJ];rw[Ap];have z3:=M3.size;have b4:BE (fun y=>S y/\y<W.heap.size) (fun y=>D y/\y<W.heap.size) W3 (.slice va x.length vc) x:=BE.mod b8 M3 (fun y _ Y e=>av y (.inl Y.1) e) (fun y _ Y e=>av y (.inr Y.1) e);refine AF (fun cd=>?_) fun ch=>?_
 .have J:i<x.length:=by omega
  have b9:=b6 (i+1) J;rw[V] at b9;obtain⟨q,r,rfl,hS,hr,hc,a6⟩:=b4.get J;refine AU J (Aj hr (fun j u hu=>by rw[Addr.add_add];exact hc j u hu) ?_);refine BS hr rfl a6.one fun b W4 hb cn g4 X _=>?_;obtain⟨rv,sv,pv,rfl,o1,o2,o3⟩:=id a6;have h4:=h3.grow g4;have z4:=g4.size;rw[lA J] at O Z T;rw[Co] at Z;rw[Db] at T;rw[OE] at O;have a8:=gC J;have ak:=b5 (W':=W4) f3;have al:=h3.hl;have an:Mod F W2 W4:=M3.next g4 fun _ _ e=>e.elim;have ba:∀{W5:World},Mod F3 W4 W5->∀(j:Nat) (u:Value),[Value.int .u8 x[i].kind,.int .i64 x[i].n,rv,sv,pv][j]?=some u->W5.cell? ((⟨b,0,none⟩:Addr).add j)=some u:=fun hm j u hu=>hm.cell (X j u hu) fun e=>by rw[BO] at e;have:=(al _ e).2.1;simp only at this;omega
  have liftM:∀{W5:World},Mod F3 W4 W5->Mod F W2 W5:=fun hm=>an.next hm fun y Y e=>by
   rcases f3 y e with e|e
   .exact e
   .omega
  rw[AG];refine AK (X 0 _ rfl) ?_;rw[Al];rcases b3 x[i] a8 with⟨k,e1,e2,n1,e4⟩|⟨k,e1,e2,e3,n1⟩|⟨k,e1,e2,e3,e4,e5⟩
  .refine AF (fun _=>?_) fun e=>absurd k e;rw[C3 (by omega)] at Z;rw[C3 (by omega),C3 (by omega)] at T;rw[Io k] at O;have en:x[i].n=(x[i].n.toNat:Int):=by omega
   generalize hn:x[i].n.toNat=n at *;rw[AG];refine AK (X 1 _ rfl) ?_;rw[en,AR,wrap64 (by omega) (by omega),show((E.length:Int)+(n:Int))=((E.length+n:Nat):Int) by omega,AG];refine AK (X 4 _ rfl) ?_;have bn:=(bl x[i] a8).2;refine AA (XX (i:=E.length) (j:=E.length+n) h4 hT Q bc (by omega) (by rw[Bq];omega) (o3.grow g4 (by decide) fun _ _ h=>h) (fun y Y=>ak y (.inr Y)) bn (by rw[Bq];omega) (by rw[Bq];show N+i*G+22*_+50<=_;have:G=22*B+50:=rfl;omega)) ?_;rintro _ W5 ⟨rfl,F5,f5,h5,M5⟩;rw[AG];refine AK (ba M5 1 _ rfl) ?_;rw[en,AR,wrap64 (by omega) (by omega),show((E.length:Int)+(n:Int))=((E.length+n:Nat):Int) by omega,AR,AO (by omega)];have ay:ND (E++I) E.length (E.length+n) (Dv σ.ks x[i].patch)=(E++(I.take n).map (Dv σ.ks x[i].patch))++I.drop n:=by
    unfold ND;rw[nd rfl,mo,lN (by omega),show E.length+n-E.length=n by omega,oH rfl,nR,lq (by omega),show E.length+n-E.length=n by omega,kS]
   have bp:=Q.ND bc bn (i:=E.length) (j:=E.length+n) (by omega);rw[ay] at h5 bp;have ll:(E++(I.take n).map (Dv σ.ks x[i].patch)).length=E.length+n:=by rw[Bq,Es,Mp];omega
   refine⟨⟨i+1,E++(I.take n).map (Dv σ.ks x[i].patch),I.drop n,F5,J,by rw[ll],fun y Y=>?_,h5.up ?_,liftM M5,bp,by rw[PF];exact O,by rw[K8];omega,by rw[K8];omega,?_,by rw[ll,K8];omega⟩,by rw[BL,BL];omega⟩
   .rcases f5 y Y with e|e
    .exact f3 y e
    .exact .inr (by omega)
   .rw[V,Bq];show _<=N+(i*G+(22*B+50));omega
   .rw[K8,show(d.length:Int)-((I.length-n:Nat):Int)=(d.length:Int)-I.length+x[i].n by omega];exact T
  .refine AF (fun e=>by omega) fun _=>?_;rw[Al];refine AF (fun _=>?_) fun e=>absurd k e;rw[C3 (by omega)] at Z;rw[C3 (by omega),Io k] at T;rw[C3 (by omega),C3 (by omega)] at O;have en:x[i].n=(x[i].n.toNat:Int):=by omega
   generalize hn:x[i].n.toNat=n at *;have a7:n<I.length:=by omega
   rw[AG];refine AK (X 1 _ rfl) ?_;rw[en,AR,wrap64 (by omega) (by omega),show((E.length:Int)+(n:Int))=((E.length+n:Nat):Int) by omega];refine AA (XS (i:=E.length) (j:=E.length+n) h4 (by omega) (by rw[Bq];omega) (by rw[Bq];omega) (by have:G=22*B+50:=rfl;omega)) ?_;rintro _ W5 ⟨rfl,F5,f5,h5,M5⟩;rw[AR,AO (by omega)];have ay:(E++I).take E.length++(E++I).drop (E.length+n)=E++I.drop n:=by
    rw[nd rfl,nR,lq (by omega),show E.length+n-E.length=n by omega,kS]
   rw[ay] at h5;have bb:I≠[]:=fun e=>by rw[e] at a7;simp at a7
   have J8:I.drop n≠[]:=fun e=>by have:=kM List.length e;rw[K8] at this;simp at this;omega
   have bs:=Q.last;rw[Oe bb] at bs;refine⟨⟨i+1,E,I.drop n,F5,J,rfl,fun y Y=>?_,h5.up ?_,liftM M5,⟨fun c hc=>Q.set c ?_,?_⟩,O,by rw[K8];omega,by rw[K8];omega,?_,by rw[K8];omega⟩,by rw[BL,BL];omega⟩
   .rcases f5 y Y with e|e
    .exact f3 y e
    .exact .inr (by omega)
   .rw[V];show _<=N+(i*G+(22*B+50));omega
   .rcases DN.1 hc with hc|hc
    .exact i7 _ hc
    .exact kB _ (kP hc)
   .rw[Oe J8,Ax,lP,nZ,C3 (by rw[Es];omega)];exact bs
   .rw[K8,show(d.length:Int)-((I.length-n:Nat):Int)=(d.length:Int)-I.length+x[i].n by omega];exact T.2
  .refine AF (fun e=>by omega) fun _=>?_;rw[Al];refine AF (fun e=>by omega) fun _=>?_;rw[Io k] at Z T;rw[C3 (by omega),Io k] at O;rw[AR,AO (by omega)];exact⟨⟨i+1,E,I,F3,J,rfl,f3,h4.up (by rw[V];omega),an,Q,O,by omega,ax,T.2,U⟩,by rw[BL,BL];omega⟩
 obtain rfl:i=x.length:=by omega
 rw[mU,OE] at O;rw[O] at h3 Q;clear O Z ax T U;have cv:∀y:List Dop,∀o∈y,o.kind=2->o.Ak.length<=EJ y:=by
  intro y;induction y with
  |nil=>intro o ho;cases ho
  |cons o' y ih=>
   intro o ho hk;rw[EJ];rcases I3.1 ho with rfl|ho
   .rw[C3 (by omega),Io hk];omega
   .have:=ih o ho hk;omega
 rw [AP];refine Ab (fun vs W'=>∃ (i:Nat) (E I:List Cel) (F':Nat->Prop),i<=x.length/\vs=[.int .i64 (E.length:Int),.int .i64 i]/\(∀ y,F' y->F y\/W2.heap.size<=y)/\GP .f w0 F' W' a σ most (E++OE σ.ks I (x.drop i)) (N+x.length * G+i * G)/\Mod F W2 W'/\NI σ.ks (E++OE σ.ks I (x.drop i))/\
   E++FW σ.ks I (x.drop i)=FW σ.ks d x/\Co (x.drop i)<=I.length/\I.length<=d.length/\Db d.length ((d.length:Int) - I.length) (x.drop i)/\(I≠[]->(Ax I).getLast?=some 10)/\E.length+I.length+EJ (x.drop i)<=d.length+EJ x+Co (x.drop i)) (fun vs _=>x.length - Ds vs 1)
  ⟨0,[],d,F3,Nn _,rfl,f3,h3.up (by omega),M3,Q,rfl,hF.Tg,Lc _,by rw[Int.sub_self];exact hF.fin,fun _=>hG.last,by simp⟩ ?_
 clear b4 Q h3 f3 M3 z3;rintro vs W3 ⟨i,E,I,F3,hi,rfl,f3,h3,M3,Q,O,Z,ax,T,a1,U⟩ _;simp only[GJ];rw[Ap];have z3:=M3.size;have b4:BE (fun y=>S y/\y<W.heap.size) (fun y=>D y/\y<W.heap.size) W3 (.slice va x.length vc) x:=BE.mod b8 M3 (fun y _ Y e=>av y (.inl Y.1) e) (fun y _ Y e=>av y (.inr Y.1) e);refine AF (fun cd=>?_) fun ch=>?_;rotate_left
 .obtain rfl:i=x.length:=by omega
  rw[mU] at h3 O Q;rw[OE] at h3 Q;rw[FW] at O;rw[O] at h3 Q;refine⟨trivial,K4.next (fun _ h=>.inl h) (b7.mono fun _ _ h=>h.elim) (K4.up ⟨F3,f3,h3,M3⟩ (by rw[ca,cc];omega)),fun _=>Q⟩
 have J:i<x.length:=by omega
 have b9:=b6 (i+1) J;rw[V] at b9;obtain⟨q,r,rfl,hS,hr,hc,a6⟩:=b4.get J;refine AU J (Aj hr (fun j u hu=>by rw[Addr.add_add];exact hc j u hu) ?_);refine BS hr rfl a6.one fun b W4 hb cn g4 X _=>?_;obtain⟨rv,sv,pv,rfl,o1,o2,o3⟩:=id a6;have h4:=h3.grow g4;have z4:=g4.size;rw[lA J] at O Z T h4 Q U;rw[Co] at Z U;rw[EJ] at U;rw[Db] at T;rw[OE] at h4 Q;rw[FW] at O;have a8:=gC J;have ak:=b5 (W':=W4) f3;have al:=h3.hl;have an:Mod F W2 W4:=M3.next g4 fun _ _ e=>e.elim;rcases b3 x[i] a8 with⟨k,e1,e2,n1,e4⟩|⟨k,e1,e2,e3,n1⟩|⟨k,e1,e2,e3,e4,e5⟩
 .simp only[k,show ¬(1:Int)=2 by decide,show ¬(1:Int)=3 by decide,km,kZ] at Z U T h4 Q O;have en:x[i].n=(x[i].n.toNat:Int):=by omega
  generalize hn:x[i].n.toNat=n at *;have ll:(E++(I.take n).map (Dv σ.ks x[i].patch)).length=E.length+n:=by rw[Bq,Es,Mp];omega
  refine AT (fun vs W'=>vs=[.int .i64 ((E.length+n:Nat):Int)]/\W'=W4) ?_ ?_
  .rintro _ _ ⟨rfl,rfl⟩ _;rw[AG];refine AK (X 0 _ rfl) ?_;rw[Al];refine AF (fun e=>by omega) fun _=>?_;rw[Of,AR,AO (by omega)];refine⟨⟨i+1,E++(I.take n).map (Dv σ.ks x[i].patch),I.drop n,F3,J,by rw[ll],f3,by rw[PF];exact h4.up (by rw[V];omega),an,by rw[PF];exact Q,by rw[PF];exact O,by rw[K8];omega,by rw[K8];omega,?_,fun bx=>?_,by rw[ll,K8];omega⟩,by rw[BL,BL];omega⟩
   .rw[K8,show(d.length:Int)-((I.length-n:Nat):Int)=(d.length:Int)-I.length+x[i].n by omega];exact T
   .have a7:n<I.length:=Nat.lt_of_not_le fun e=>bx (lq e);rw[Ax,lP,nZ,C3 (by rw[Es];omega)];exact a1 fun e=>by rw[e] at a7;simp at a7
  .rw[AG];refine AK (X 0 _ rfl) ?_;rw[Al];refine AF (fun _=>?_) fun e=>absurd k e;rw[AG];refine AK (X 1 _ rfl) ?_;rw[en,AR,wrap64 (by omega) (by omega)];exact⟨by rw[show((E.length:Int)+(n:Int))=((E.length+n:Nat):Int) by omega],rfl⟩
 .simp only[k,show ¬(3:Int)=2 by decide,show ¬(3:Int)=1 by decide,km,kZ] at Z U T h4 Q O;have en:x[i].n=(x[i].n.toNat:Int):=by omega
  generalize hn:x[i].n.toNat=n at *;have a7:n<I.length:=by omega
  refine AT (fun vs W'=>vs=[.int .i64 (E.length:Int)]/\W'=W4) ?_ ?_
  .rintro _ _ ⟨rfl,rfl⟩ _;rw[AG];refine AK (X 0 _ rfl) ?_;rw[Al];refine AF (fun e=>by omega) fun _=>?_;rw[Of,AR,AO (by omega)];refine⟨⟨i+1,E,I.drop n,F3,J,rfl,f3,h4.up (by rw[V];omega),an,Q,O,by rw[K8];omega,by rw[K8];omega,?_,fun bx=>?_,by rw[K8];omega⟩,by rw[BL,BL];omega⟩
   .rw[K8,show(d.length:Int)-((I.length-n:Nat):Int)=(d.length:Int)-I.length+x[i].n by omega];exact T.2
   .rw[Ax,lP,nZ,C3 (by rw[Es];omega)];exact a1 fun e=>by rw[e] at a7;simp at a7
  .rw[AG];refine AK (X 0 _ rfl) ?_;rw[Al];exact AF (fun e=>by omega) fun _=>⟨rfl,rfl⟩
 .simp only[k,show ¬(2:Int)=3 by decide,show ¬(2:Int)=1 by decide,km,kZ] at Z U T h4 Q O;obtain⟨sG,_⟩:=bl x[i] a8;have cx:=Pn k sG.1 (hF.pl x[i] a8);have dT:=cv x x[i] a8 k;have bb:I≠[]:=fun e=>T.1 (by rw[e];simp);have b0:=WX (ks:=σ.ks) (n:=d.length) (x:=x.drop (i+1)) (d:=I) (fun o ho=>b3 o (kP ho)) (by omega) ax T.2 (a1 bb);have e9:=Zz (ks:=σ.ks) (x:=x.drop (i+1)) (d:=I);obtain⟨ra,rc,dk,dv⟩:=o1.shape;simp only[maxLen] at dv;refine AT (fun vs W'=>vs=[.int .i64 (E.length:Int)]/\W'=W4) ?_ ?_
  .rintro _ _ ⟨rfl,rfl⟩ _;rename World=>W4
   rw[AG];refine AK (X 0 _ rfl) ?_;rw[Al];refine AF (fun _=>?_) fun e=>absurd k e;rw[AG];refine AK (X 2 _ rfl) ?_;rw[AG];refine AK (X 3 _ rfl) ?_;rw[Of];refine AA (Pa (at':=E.length) (S:=fun y=>D y/\y<W.heap.size) h4 hT (by rw[Bq];omega) (o1.grow g4 (by decide) fun _ _ h=>h) (o2.grow g4 (by decide) fun _ _ h=>h) (fun y Y=>ak y (.inr Y)) e1 (FM.2 (sG.part false).1) sG.2 sG.len (by rw[Bq];omega) (by have:G=22*B+50:=rfl;omega)) ?_;rintro _ W5 ⟨rfl,F5,f5,h5,M5⟩;rw[AG];refine AK (M5.cell (X 2 _ rfl) fun e=>by rw[BO] at e;have:=(al _ e).2.1;simp only at this;omega) ?_;rw[dk,AP,AR,wrap64 (by omega) (by omega),show((E.length:Int)+(x[i].Ak.length:Int))=((E.length+x[i].Ak.length:Nat):Int) by omega,AR,AO (by omega)];have c4:(E++OE σ.ks I (x.drop (i+1))).take E.length++x[i].Ak.map (cellOf σ.ks x[i].set)++(E++OE σ.ks I (x.drop (i+1))).drop E.length=(E++x[i].Ak.map fun r=>(⟨r,x[i].set⟩:Cel))++OE σ.ks I (x.drop (i+1)):=by
    rw[nd rfl,oH rfl,cx]
   rw[c4] at h5;have ll:(E++x[i].Ak.map fun r=>(⟨r,x[i].set⟩:Cel)).length=E.length+x[i].Ak.length:=by rw[Bq,Es]
   refine⟨⟨i+1,E++x[i].Ak.map fun r=>(⟨r,x[i].set⟩:Cel),I,F5,J,by rw[ll],fun y Y=>?_,h5.up ?_,?_,⟨fun c hc=>?_,?_⟩,by rw[PF];exact O,by omega,ax,T.2,a1,by rw[ll];omega⟩,by rw[BL,BL];omega⟩
   .rcases f5 y Y with e|e
    .exact f3 y e
    .exact .inr (by omega)
   .rw[V];show _<=N+x.length*G+(i*G+(22*B+50));omega
   .refine an.next M5 fun y Y e=>?_;rcases f3 y e with e|e
    .exact e
    .omega
   .rcases DN.1 hc with hc|hc
    .rcases DN.1 hc with hc|hc
     .exact Q.set c (i7 _ hc)
     .obtain⟨r,_,rfl⟩:=kQ.1 hc;exact sG
    .exact Q.set c (kB _ hc)
   .rw[Oe (bf b0)];exact b0
  .rw[AG];refine AK (X 0 _ rfl) ?_;rw[Al];exact AF (fun e=>by omega) fun _=>⟨rfl,rfl⟩
end
variable {v0 v1 v2 v3 v4 v5 v6 v7 v8 v9:Value}{K:Cont}{w:World}
theorem fG(h: AB prog 41 [v0] (fun c6 w1=>
 CE c6 fun t22=>
 AD t22
 (K (.tuple #[(.slice none 0 0),(.int .i64 1)]) w1)
 (AJ v0 fun t25=>
 AM 2 t25 fun c7=>
 AL c7 (fun c8 w2=>
 AB prog 47 [c8,v1,v2] (fun av w3=>
 AQ 0 av fun c9=>
 AQ 1 av fun ax=>
 EB .i64 ax (.int .i64 0) fun ca=>
 AD ca
 (K (.tuple #[(.slice none 0 0),ax]) w3)
 (AJ v0 fun cc=>
 AM 3 cc fun t39=>
 AL t39 (fun cd w4=>
 AB prog 48 [cd,v1,v2] (fun ay w5=>
 AQ 0 ay fun b0=>
 AQ 1 ay fun _t45=>
 Ay [6,9,10] [[],[0],[0,1],[0,1,2],[],[],[4,5],[],[],[4,5,6,7,8],[0,1,2,3,4,5,6,7,8,9],[0,1,2,3,4,5,6,7,8,9,10],[0,1,2,3,4,5,6,7,8,9,10,11],[0,1,2,3,4,5,6,7,8,9,10,11],[0,1,2,3,4,5,6,7,8,9,10,11,12],[0,1,2,3,4,5,6,7,8,9,10,11,12,13,14]] w5.drew (fun M St=>
 AJ v0 fun ch=>
 AM 4 ch fun cn=>
 BF (St 3) cn fun t50=>
 AB prog 50 [v0,v1] (fun t53 w6=>
 Mod (M 6) w5.drew w6/\
 AB prog 50 [v0,v2] (fun cv w7=>
 Mod (M 9) w6 w7/\
 AB prog 49 [t50,t53,cv] (fun b3 w8=>
 Mod (M 10) w7 w8/\
 AQ 0 b3 fun cx=>
 AQ 1 b3 fun _t59=>
 Ae b0 fun dk=>
 Aq [cx,(.slice none 0 0),(.int .i64 0)] (fun vs T w9=>∀_:Env,
 Bb .i64 (nth vs 2) dk fun dv=>
 AD dv
 (BQ 2 b0 (nth vs 2) fun dT=>
 Af 2 dT (fun e1 e2=>
 Am 108 [(.int .i64 0),(.int .i64 0)] (fun U e3=>
 Ac 2 U e1 (fun V=>
 Ay [6] [[],[0],[0,1],[0,1,2],[],[4],[0,1,2,3,4,5],[0,1,2,3,4,5,6],[0,1,2,3,4,5,6,7],[0,1,2,3,4,5,6,7],[0,1,2,3,4,5,6,7,8],[0,1,2,3,4,5,6,7,8,9,10]] V.drew (fun e4 S=>
 AJ v0 fun e5=>
 AM 5 e5 fun e6=>
 BF (S 3) e6 fun t70=>
 AM 1 U fun e7=>
 BF (S 5) e7 fun e8=>
 AB prog 51 [t70,e8] (fun b4 b5=>
 Mod (e4 6) V.drew b5/\
 AQ 0 b4 fun b6=>
 AQ 1 b4 fun _t75=>
 AM 0 U fun t76=>
 AL t76 (fun t77 e9=>
 Aq [(nth vs 0),(nth vs 1),(.int .i64 0)] (fun i E j=>∀_:Env,
 Bb .i64 (nth i 2) t77 fun ea=>
 AD ea
 (Ao (fun I ec=>∀_:Env,
 Ao (fun b7 ed=>∀_:Env,
 Af 2 (nth I 0) (fun ee ef=>
 Bg 45 2 1 [(.int .i32 0),(.slice none 0 0)] [(0,ee)] (fun eh ej=>
 runK prog (Builtin.append_ #[40,40] 40 [(nth i 1),eh].toArray) (fun b8 ek=>
 AX .i64 (nth i 2) (.int .i64 1) fun b9=>
 E [(nth b7 0),b8,b9] ek) ej) ef) ed) (fun X=>
 AM 0 (nth I 0) fun en=>
 AL en (fun eo o=>
 DJ .i32 eo (.int .i32 10) fun ep=>
 AD ep
 (Ay [4,6] [[],[0],[0,1],[],[3],[0,1,2],[0,1,2,5],[0,1,2,3,4,5,6]] o.drew (fun Q ba=>
 BQ 1 (nth i 0) (.int .i64 0) fun er=>
 BF (ba 2) er fun bb=>
 AM 1 (nth I 0) fun bc=>
 (runK prog (Instr.sliceAt 50 (nth i 0) (some (.int .i64 1)) none none) (fun et Y=>
 Mod (Q 4) o.drew Y/\
 BC bc bb (fun bd=>
 Mod (Q 6) Y bd/\
 X [et] bd) Y) o.drew)/\
 (BC bc bb (fun Z=>
 Mod (Q 6) o.drew Z/\
 runK prog (Instr.sliceAt 50 (nth i 0) (some (.int .i64 1)) none none) (fun a1 bk=>
 Mod (Q 4) Z bk/\
 X [a1] bk) Z) o.drew)))
 (X [(nth i 0)] o)) ec)) (fun J=>
 Ay [6,8,9] [[],[],[1],[0,1,2],[0,1,2,3],[],[5],[0,1,2,3,4,5,6],[],[0,1,2,3,4,5,6,7,8]] j.drew (fun B bl=>
 Ae (nth i 1) fun eu=>
 BQ 1 c9 eu fun ew=>
 BF (bl 4) ew fun bn=>
 (AB prog 52 [b6] (fun eA a6=>
 Mod (B 6) j.drew a6/\
 Ah [(0,1),(1,1)] [(.int .i32 0),(.slice none 0 0)] [(0,bn),(1,eA)] fun eB=>
 Am 45 [(.int .i32 0),(.slice none 0 0)] (fun bp a7=>
 Mod (B 8) a6 a7/\
 Ac 2 bp eB (fun bs=>
 Mod (B 9) a7 bs/\
 J [bp] bs) a7) a6) j.drew)/\
 (Am 45 [(.int .i32 0),(.slice none 0 0)] (fun O a8=>
 Mod (B 8) j.drew a8/\
 AB prog 52 [b6] (fun ak al=>
 Mod (B 6) a8 al/\
 Ah [(0,1),(1,1)] [(.int .i32 0),(.slice none 0 0)] [(0,bn),(1,ak)] fun an=>
 Ac 2 O an (fun bx=>
 Mod (B 9) al bx/\
 J [O] bx) al) a8) j.drew))))
 (AX .i64 (nth vs 2) (.int .i64 1) fun c4=>
 T [(nth i 0),(nth i 1),c4] j)) e9) b5) V.drew)) e3) e2) w9)
 (K (.tuple #[(nth vs 1),(.int .i64 0)]) w9)) w8) w7) w6) w5.drew)) w4) w3)) w2) w1)) w):AB prog 15 [v0,v1,v2] K w:=cO (aN (aO (aN (aO aE .nil)) (aN (aO (aN (aO aE .nil)) (aN (aO (.dc [6,9,10] [[],[0],[0,1],[0,1,2],[],[],[4,5],[],[],[4,5,6,7,8],(aR 10),(aR 11),(aR 12),(aR 12),(aR 13),(aR 15)] []) (aN (aO (aN (.node [12,14,62] [(12,12),(14,14),(16,19),(62,102)] (aN (aO aE (aO (aN (aO (.dc [6] [[],[0],[0,1],[0,1,2],[],[4],(aR 6),(aR 7),(aR 8),(aR 8),(aR 9),(aR 11)] []) (aN (.node [12,14,78] [(12,12),(14,14),(19,19),(78,101)] (aN (aO aE (aO (.cut [19] [(19,19),(80,87)] (.dt [6,8,9] [[],[],[1],[0,1,2],(aR 4),[],[5],(aR 7),[],(aR 9)] [[6]] (.op 0 (.op 1 (.op 2 (.op 3 (.op 4 (.op 5 (.br (.op 6 (.op 7 (.op 8 (.op 9 .nil)))) (.op 8 (.op 6 (.op 7 (.op 9 .nil)))))))))))) (.cut [12] [(12,12),(88,96)] (aN (aO (.dt [4,6] [[],[0],[0,1],[],[3],[0,1,2],[0,1,2,5],(aR 7)] [] (.op 0 (.op 1 (.op 2 (.op 3 (.op 5 (.br (.op 4 (.op 6 (.op 7 .nil))) (.op 6 (.op 4 (.op 7 .nil)))))))))) .nil)) .nil)) .nil))) .nil)))) .nil))) .nil)) aE)))))))) func15 h (by kernel_rfl)
end
def JL(A B:Nat)(W:World)(ov:Value)(l:List Cel):Prop:=∃D:Nat->Prop,AE B 45 2 (M0 D) W ov l/\∀x,D x->A<=x/\x<W.heap.size/\ov.ownBlock≠some x
theorem JL.nil{A B:Nat}:JL A B W (.slice none 0 0) []:=⟨fun _=>False,AE.nil,fun _ h=>h.elim⟩
theorem JL.grow{A B:Nat}{l:List Cel}(h:JL A B W v l)(g:Grow W W'):JL A B W' v l:=by
 obtain⟨D,h1,j⟩:=h;have:=g.size;exact⟨D,AE.mod h1 g (fun _ _ h=>h) fun r x _ i=>i.mod g (fun _ _ _ h=>h) fun _ _ h=>h,fun x i=>⟨(j x i).1,by have:=(j x i).2.1;omega,(j x i).2.2⟩⟩
theorem JL.rd{A B:Nat}{l:List Cel}(h:JL A B W v l)(j:A<=B):Jk (fun x=>A<=x/\x<W.heap.size) (fun x=>A<=x/\x<W.heap.size) W v l:=by
 obtain⟨D,h1,o⟩:=h;exact BB.sub (AE.sl h1) (fun x i h=>⟨by have:=h.1;omega,i⟩) (by decide) fun r x i=>i.mod (Mod.refl (fun _=>False) _) (fun _ _ _ h=>h) fun b hb h=>⟨(o b h).1,hb⟩
theorem Tb{A B:Nat}{l:List Cel}{c:Cel}(h:JL A B W fr l)(S:B<=W.heap.size)(O:Cf D' W sv c.set)(E:∀x,D' x->A<=x/\x<W.heap.size/\fr.ownBlock≠some x)(hl:l.length<=1099511627776)
 (T:∀i W',JL A B W' i (l++[c])->Mod (fun b=>fr.ownBlock=some b) W W'->(∀g,i.ownBlock=some g->fr.ownBlock=some g\/W.heap.size<=g)->K i W') :
  Bg 45 2 1 [(.int .i32 0),(.slice none 0 0)] [(0,.agg #[.int .i32 c.r,sv])] (fun s Q=>runK prog (Builtin.append_ #[40,40] 40 [fr,s].toArray) K Q) W:=by
 obtain⟨D,h1,U⟩:=h;obtain⟨sa,sc,I,_⟩:=O.shape;have hb:∀x,(D x\/D' x)->A<=x/\x<W.heap.size/\fr.ownBlock≠some x:=fun x j=>j.elim (U x) (E x);have J:AE B 45 2 (M0 fun x=>D x\/D' x) W fr l:=AE.mod h1 (Mod.refl (fun _=>False) _) (fun _ _ h=>h) fun r x _ j=>j.mod (Mod.refl (fun _=>False) _) (fun _ _ _ h=>h) fun _ _ h=>.inl h;have V:sv.cells=#[sv]:=by rw[I];rfl
 refine Dr WW J S (cs:=[.int .i32 c.r,sv]) (x:=c) (DW (v:=.agg #[.int .i32 c.r,sv]) rfl (by decide) rfl rfl) rfl ⟨sv,rfl,O.sub (fun _ _ h=>.inr h) (by decide) fun _ _ h=>h⟩ (fun _ _ _ h=>h.one) (fun Q w2 r y hz hm X=>X.mod hm (fun b _ j e=>?_) fun _ _ h=>h) (by omega) (by simp only[maxLen];omega) fun i W' o m n=>?_
 .obtain⟨_,Y,t3⟩:=hb b j;rcases e with e|e
  .exact t3 e
  .omega
 .refine T i W' ⟨_,o,fun x j=>?_⟩ m n;obtain⟨Z,Y,t3⟩:=hb x j;have zm:=m.size;refine⟨Z,by omega,fun e=>?_⟩;rcases n x e with e|e
  .exact t3 e
  .omega
theorem Dj.dw{g:AvT α}{b bt N:Nat}{l:List α}(h:Dj g F C W b bt l N):l.length<=N:=by
 obtain⟨A,T,h1,i,j,rfl,o⟩:=h.EH;have B:=Ey (A:=A) rfl i j;have E:=Tr.SE T;omega
theorem Ts(c:Cel)(d:List Cel):CL (c::d)=(if c.r=10 then[c.set] else[])++CL d:=by by_cases h:c.r=10<;>simp[CL,h]
section
variable {w0:World}{F:Nat->Prop}{W:World}{a:TxA}{σ:SKs}{most:Int}{N:Nat}{d:List Cel}
theorem Rb(h:GP .f w0 F W a σ most d N)(bn:i<=j)(hj:j<=d.length)(hG:∀c∈d,ET σ.ks c.set)(hz:d.length<=10000000)(hN:N<=1000000000) :
  AB prog 15 [.pointer (some ⟨a.b,0,none⟩),.int .i64 (i:Int),.int .i64 (j:Int)] (fun v' w'=>∃cv,v'=.tuple #[cv,.int .i64 0]/\JL W.heap.size W.heap.size w' cv ((d.take j).drop i)/\Grow W w') W:=by
 have h0:=h;obtain⟨z,l2,t,f,eB,hM,eC,hu,hh,hA,jm⟩:=h;have eI:z.length=d.length:=by rw[<-eB,Es]
 have ch:(Ax d).length=d.length:=Es _;have eL:=kM List.length hu;rw[Es,eI] at eL;apply fG;refine AA (FH hM.box.1) ?_;rintro _ _ ⟨rfl,rfl⟩;rename World=>W
 rw[Ar];refine AV ?_;refine AI ?_;refine Bt (hM.box.1.cells 2 _ rfl) ?_;obtain⟨l1,Fr,br,e2,bx,_,_⟩:=hM.SS;have jo:(Bf l1).length=d.length:=by rw[e2,ch]
 have jc:=bx.dw;refine AA (Ui (i:=i) (j:=j) bx (by omega) bn (by omega) (by omega) (by omega)) ?_;rintro _ W1 ⟨lv,rfl,oL,g1⟩;rw[e2] at oL;refine BV ?_;refine Qn ?_;have e3:=hM.grow g1;refine AI ?_;refine Bt (e3.box.1.cells 3 _ rfl) ?_;obtain⟨Fs,bs,hB,_,_⟩:=e3.Q9;have jd:Ef l2=d.length:=by rw[Dy,eL]
 have jq:=Spn.Fi eC;refine AA (J9 (i:=i) (j:=j) hB (by omega) bn (by omega) (by omega) (by omega)) ?_;rintro _ W2 ⟨rv,rfl,oR,g2⟩;refine BV ?_;have eN:=Spn.HI eC i j;have eR:(Spn.kd.over l2 i j).flatMap Spn.u=((z.map Prod.snd).take j).drop i:=by rw[Spn.EE.over,hu]
 have a7:((Spn.kd.over l2 i j).flatMap Spn.u).length=j-i:=by rw[eR,K8,Mp,Es,eI];omega
 have e4:=Spn.Fi eN;rw [a7] at e4;generalize Spn.kd.over l2 i j=row at *;have hD:=e3.grow g2;have gd:Grow W2 W2.drew:=Mod.drew _ _;have ay:=hD.grow gd;refine Ai (fun _ _=>False) ?_;refine AI ?_;rw [AG,AH];refine AY ⟨ay.box.1.cells 4 _ rfl,fun j hj e=>e⟩ ?_;have eX:=(g1.trans g2).trans gd;refine AA (HN ay.box.1 (bx.grow eX) (i:=i) (by omega) (by omega)) ?_;rintro _ W3 ⟨rfl,g3⟩;refine ⟨g3.mono fun _ _ h=>h.elim,?_⟩;have fa:=ay.grow g3;refine AA (HN fa.box.1 ((bx.grow eX).grow g3) (i:=j) (by omega) (by omega)) ?_;rintro _ W4 ⟨rfl,g4⟩;refine ⟨g4.mono fun _ _ h=>h.elim,?_⟩;have fs:=fa.grow g4;rw [e2];obtain ⟨Fp,Cp,bp,hE,_,_⟩:=fs.WN;have hF:Bc ((Ax d).take i)<=Bc ((Ax d).take j):=mJ _ (by
  rw [<-kY bn,<-lz];exact mg _ _)
 have hI:Bc ((Ax d).take j)<=Bc (Ax d):=mJ _ (mg _ _);have jr:=Dn (Ax d);refine AA (SN hE (by omega) hF (by rw [EI];exact hI) (by rw [EI];omega) (fun x E=>by
  obtain ⟨c,hc,rfl⟩:=kQ.1 E;have:=(hG c (ko.1 hc).1).len;omega)) ?_
 rintro _ S ⟨pv,Wp,rfl,gA,gB,oP⟩;have e5:=gA.trans gB;refine⟨e5.mono fun _ _ h=>h.elim,?_⟩;refine BV ?_;have fv:=(gd.trans g3).trans g4;have b0:=fv.trans e5;have hK:=(g1.trans g2).trans b0;have hL:=fs.grow e5;have z1:=g1.size;have z2:=g2.size;have js:=fv.size;have zA:=gA.size;have zB:=gB.size;have ga:((CL d).take (Bc ((Ax d).take j))).drop (Bc ((Ax d).take i))=CL ((d.take j).drop i):=by
  rw[(DZ (d.take j) i).2,(DZ d j).1,show Ax (d.take j)=(Ax d).take j from lK,lz,kY bn]
 rw[ga] at oP;have hP:BB (fun x=>W.heap.size<=x/\x<S.heap.size) 1 (Cx fun x=>W.heap.size<=x/\x<S.heap.size) S pv (CL ((d.take j).drop i)):=
  BB.sub (AE.sl oP) (fun x E h=>⟨by have:=h.1;omega,E⟩) (by decide) fun r x E=>BG.rsub E fun y hy h=>⟨by have:=h.1;omega,hy⟩
 have hQ:BB (fun x=>W.heap.size<=x/\x<S.heap.size) 1 Bo S lv (((Ax d).take j).drop i):=BB.grow (BB.sub (AE.sl oL) (fun x E h=>⟨h.1,by have:=g2.size;have:=b0.size;omega⟩) (by decide) fun _ _ h=>h) (g2.trans b0) (by decide) fun _ _ h=>h;have gb:BB (fun x=>W.heap.size<=x/\x<S.heap.size) 2 Dx S rv row:=BB.grow (BB.sub (AE.sl oR) (fun x E h=>⟨by have:=h.1;omega,by have:=b0.size;omega⟩) (by decide) fun _ _ h=>h) b0 (by decide) fun _ _ h=>h;clear oP oL oR
 let B:Nat->Nat:=fun m=>((row.take m).flatMap Spn.u).length
 have b3:∀(m:Nat) (hm:m<row.length) (q:Nat),q<row[m].n->∃c,d[i+(B m+q)]?=some c/\(c.r≠10->f row[m].id=c.set)/\i+(B m+q)<j/\0<Spn.rn row[m].id none (z.map Prod.snd):=by
  intro m hm q hq;have e1:(row.flatMap Spn.u)[B m+q]?=some row[m].id:=by
   have:row=row.take m++(row[m]::row.drop (m+1)):=by rw[<-lA hm,S9]
   conv=>lhs;rw[this]
   rw[lU,kH (by show B m<=_;omega),show B m+q-((row.take m).flatMap Spn.u).length=q by show B m+q-B m=q;omega,kp,Q0 (by rw[Spn.u,lD];exact hq),Spn.u,mb,Io hq]
  have e6:=(Bp.1 e1).1;rw[eR,lL,lQ,Io (by rw[a7] at e6;omega),kr] at e1;rw[a7] at e6;cases c4:z[i+(B m+q)]? with
  |none=>rw[c4] at e1;cases e1
  |some p=>
   rw[c4,mF,i6] at e1;have hp:=kx c4;refine⟨p.1,by rw[<-eB,kr,c4];rfl,fun hS=>?_,by omega,?_⟩
   .rw[<-e1];exact(hA p hp).2 hS
   .rw[<-e1];exact Spn.I8 (kQ.2 ⟨p,hp,rfl⟩) (by simp)
 have b4:∀m (hm:m<row.length),B (m+1)=B m+row[m].n:=fun m hm=>by
  show((row.take (m+1)).flatMap Spn.u).length=_;rw[No,By hm,lU,Bq];simp[Spn.u,B]
 have e7:B row.length=j-i:=by show((row.take row.length).flatMap Spn.u).length=_;rw[Nr,a7]
 let GS:Nat->Value->Value->World->Prop:=fun e pv ov W'=>Grow S W'/\JL W.heap.size S.heap.size W' ov ((d.take (i+e)).drop i)/\BB (fun x=>W.heap.size<=x/\x<S.heap.size) 1 (Cx fun x=>W.heap.size<=x/\x<S.heap.size) W' pv (CL ((d.take j).drop (i+e)))
 obtain⟨qa,qc,gf,_⟩:=gb.shape;have gg:Ae rv=Ae (.slice qa row.length qc):=by rw[gf]
 rw[gg,AP];refine Ab (fun vs W'=>∃(m:Nat) (pv ov:Value),m<=row.length/\vs=[pv,ov,.int .i64 m]/\GS (B m) pv ov W') (fun vs _=>row.length-Ds vs 2) ⟨0,pv,_,Nn _,rfl,Mod.refl _ _,by show JL _ _ _ _ ((d.take (i+0)).drop i);rw[kg,List.drop_take_self];exact JL.nil,hP⟩ ?_;rintro vs W6 ⟨m,hT,gl,hm,rfl,g6,o6,p6⟩ _;simp only[GJ];refine H6 (fun e6=>?_) fun jt=>?_;rotate_left
 .obtain rfl:m=row.length:=by omega
  rw[e7,show i+(j-i)=j by omega] at o6;obtain⟨D,q1,q2⟩:=o6;exact⟨gl,rfl,⟨D,q1.base fun g hg=>by have:=(AE.BA q1 g hg).1;omega,q2⟩,hK.trans g6⟩
 have Z:m<row.length:=by omega
 have hV:=gb.grow g6 (by decide) fun _ _ h=>h;subst gf;obtain⟨p,r,rfl,_,hr,hc,rfl⟩:=hV.get Z;refine AU Z (Aj (vs:=row[m].cells) rfl (fun j u hu=>by rw[Addr.add_add];exact hc j u hu) ?_);refine Bx.new (vs:=row[m].cells) rfl rfl (Spn.one _) fun ju W7 je g7 hW=>?_;have gm:Grow W7 W7.drew:=Mod.drew _ _;have e8:=g7.trans gm;have hX:=g6.trans e8;have gw:=hL.grow hX;have cx:=hW.grow gm;have e9:=Spn.Ib eN row[m] (gC Z);obtain⟨_,_,_,_,a8⟩:=b3 m Z 0 e9;refine Ai (fun _ _=>False) ?_;refine AI ?_;rw[AG,AH];refine AY ⟨gw.box.1.cells 5 _ rfl,fun j hj e=>e⟩ ?_;rw[AG,AH];refine AY ⟨cx.cells 1 _ rfl,fun j hj e=>e⟩ ?_;obtain⟨Ft,gW,_,_⟩:=gw.Qo;obtain⟨d1,d2⟩:=hh.idle (.inl a8);obtain⟨cn,dk⟩:=hh.ask a8;refine AA (OZ gW (by omega) (by omega) (by omega)) ?_;rintro v8 W8 ⟨g8,h3⟩;rw[dk] at h3;obtain⟨jv,rfl,o8⟩:=h3;simp only at o8;refine⟨g8.mono fun _ _ h=>h.elim,?_⟩;refine BV ?_;have jf:(f row[m].id).length<=64:=by
  obtain⟨C,pl,fr,bm,hR⟩:=gW;exact Ou hR.core dk
 refine Bt ((cx.grow g8).cells 0 _ rfl) ?_;have c6:=e8.trans g8;have hY:=(AE.sl o8).GQ (by decide);have jw:=e8.size;have z8:=g8.size;have jx:j<=10000000:=by omega
 have jg:B m+row[m].n<=j-i:=by
  have:=b4 m Z;have h2:B (m+1)<=B row.length:=by
   show((row.take (m+1)).flatMap Spn.u).length<=((row.take row.length).flatMap Spn.u).length;rw[Nr];conv=>rhs;rw[<-S9 (m+1) row,lU,Bq]
   omega
  omega
 refine Ab (fun vs W'=>∃(q:Nat) (pv ov:Value),q<=row[m].n/\vs=[pv,ov,.int .i64 q]/\GS (B m+q) pv ov W'/\Mod (fun x=>x<W6.heap.size) W8 W'/\∀g,ov.ownBlock=some g->g<W6.heap.size\/W8.heap.size<=g) (fun vs _=>row[m].n-Ds vs 2) ⟨0,hT,gl,Nn _,rfl,⟨g6.trans c6,o6.grow c6,BB.grow p6 c6 (by decide) fun r x E=>BG.BZ E c6 fun _ _ _ h=>h⟩,Mod.refl _ _,fun g hg=>by obtain⟨D6,o,_⟩:=o6;exact .inl (AE.BA o g hg).2⟩ ?_;rintro vs W9 ⟨q,ea,c7,hq,rfl,⟨c8,o9,p9⟩,ec,b5⟩ _;simp only[GJ];refine H6 (fun jh=>?_) fun ji=>?_;rotate_left
 .obtain rfl:q=row[m].n:=by omega
  rw[AR,AO (by omega)];refine⟨⟨m+1,ea,c7,Z,rfl,?_⟩,by rw[Tn,Tn];omega⟩;rw[b4 m Z];exact⟨c8,o9,p9⟩
 have h4:q<row[m].n:=by omega
 obtain⟨c,ax,ih,jy,_⟩:=b3 m Z q h4;generalize he:B m+q=e at *;have il:=(Bp.1 ax).1;have jj:c∈d:=kx ax;have ir:(((Ax d).take j).drop i)[e]?=some c.r:=by rw[lL,lQ,Io (by omega),Ax,kr,ax];rfl
 have ed:(((Ax d).take j).drop i).length=j-i:=by rw[K8,Mp,ch];omega
 have ee:(d.take j).drop (i+e)=c::(d.take j).drop (i+(e+1)):=by
  rw[lA (by rw[Mp];omega),nG];rw[By il] at ax;rw[kK ax];rfl
 have ef:(d.take (i+(e+1))).drop i=(d.take (i+e)).drop i++[c]:=by
  rw[show i+(e+1)=i+e+1 by omega,No,ax,nR,show i-(d.take (i+e)).length=0 by rw[Mp];omega];rfl
 rw[ee,Ts] at p9;have jz:=c8.size;have dv:((d.take (i+e)).drop i).length=e:=by rw[K8,Mp];omega
 obtain⟨D9,eh,iv⟩:=o9;obtain⟨oa,oc,j0,_⟩:=AE.shape eh;have ak:=AE.BA eh;have j1:JL W.heap.size S.heap.size W9 c7 ((d.take (i+e)).drop i):=⟨D9,eh,iv⟩;have h5:=hQ.grow c8 (by decide) fun _ _ h=>h;obtain⟨la,lc,h6,_⟩:=h5.shape;rw[ed] at h6;have ej:(q:Int)+1<=9223372036854775807:=by omega
 refine AT (fun vs W'=>∃b J D',vs=[.pointer (some ⟨b,0,none⟩)]/\Bx W' b [.int .i32 c.r,J]/\W9.heap.size<=b/\Grow W9 W'/\Cf D' W' J (f row[m].id)/\(∀x,D' x->W9.heap.size<=x/\x<W'.heap.size)) ?_ ?_;rotate_left
 .have b6:Grow W9 W9.drew:=Mod.drew _ _;have jW:=b6.size;have h7:=(hY.mod ec (fun x _ E e'=>by have:=E.1.1;omega) (by decide) fun _ _ h=>h).grow b6 (by decide) fun _ _ h=>h;have j2:Ae c7=Ae (.slice oa e oc):=by rw[j0,dv]
  refine Ai (fun n y=>n=9/\W9.heap.size<=y) ?_;rw[j2,AP];subst h6;obtain⟨pl,rl,rfl,h8,_,j3,h9⟩:=h5.get (i:=e) (by rw[ed];omega);have ek:rl=[.int .i32 c.r]:=by
   have h':rl=_:=h9;rw[h'];congr 2
   have:=By (l:=((Ax d).take j).drop i) (i:=e) (by rw[ed];omega);rw[ir] at this;exact(kK this).symm
  subst ek;refine AU (by omega) ?_;refine AY ⟨b6.cell (by have:=j3 0 _ rfl;exact this) fun h=>h,fun n hn e'=>by have h1:=e'.2;have h2:=h8.2;rw[BO] at h1;omega⟩ ?_;constructor
  .refine AA (Fz h7 (by omega)) ?_;rintro J a1 ⟨a6,Q⟩;refine⟨Q.mono fun _ _ h=>h.elim,?_⟩;obtain⟨ca,cc,b7,_⟩:=AE.shape a6;refine⟨#[.int .i32 c.r,J],by rw[b7];kernel_rfl,?_⟩;refine Bx.zero fun b X hb Y T=>⟨Y.mono fun _ _ h=>h.elim,?_⟩;have hd:=Q.size;have c9:=Y.size;refine T.over (us:=[.int .i32 c.r,J]) rfl rfl (fun u hu=>by simp only[I3,kV,mI] at hu;rcases hu with rfl|rfl;rfl;rw[b7];rfl) fun b8 en O=>⟨O.mono fun x _ e'=>⟨rfl,by omega⟩,?_⟩;have eo:AE W9.drew.heap.size 79 5 DD X J (f row[m].id):=AE.mod (R':=DD) a6 Y (fun _ _ h=>h) fun _ _ _ h=>h;have b9:=AE.BA a6;have ba:AE W9.drew.heap.size 79 5 DD b8 J (f row[m].id):=AE.mod (R':=DD) eo O (fun x E e'=>by have:=b9 x E;omega) fun _ _ _ h=>h;have hf:=O.size;exact⟨b,J,_,rfl,en,by omega,((b6.trans Q).trans Y).next O fun x E e'=>by omega,AE.sl ba,fun x E=>by have:=b9 x E.2;omega⟩
  .refine Bx.zero fun b X hb Y T=>⟨Y.mono fun _ _ h=>h.elim,?_⟩;refine AA (Fz (h7.grow Y (by decide) fun _ _ h=>h) (by omega)) ?_;rintro J a1 ⟨a6,Q⟩;refine⟨Q.mono fun _ _ h=>h.elim,?_⟩;obtain⟨ca,cc,b7,_⟩:=AE.shape a6;refine⟨#[.int .i32 c.r,J],by rw[b7];kernel_rfl,?_⟩;have hd:=Q.size;have c9:=Y.size;have jk:=T.lt (Ty _);refine(T.grow Q).over (us:=[.int .i32 c.r,J]) rfl rfl (fun u hu=>by simp only[I3,kV,mI] at hu;rcases hu with rfl|rfl;rfl;rw[b7];rfl) fun b8 en O=>⟨O.mono fun x _ e'=>⟨rfl,by omega⟩,?_⟩;have b9:=AE.BA a6;have ba:AE X.heap.size 79 5 DD b8 J (f row[m].id):=AE.mod (R':=DD) a6 O (fun x E e'=>by have:=b9 x E;omega) fun _ _ _ h=>h;have hf:=O.size;exact⟨b,J,_,rfl,en,by omega,((b6.trans Y).trans Q).next O fun x E e'=>by omega,AE.sl ba,fun x E=>by have:=b9 x E.2;omega⟩
 rintro _ a1 ⟨b,J,D',rfl,ep,hb,Q,er,j4⟩ _;rw [Of];have hd:=Q.size;have cd:BB (fun x=>W.heap.size<=x/\x < S.heap.size) 1 (Cx fun x=>W.heap.size<=x/\x < S.heap.size) a1 ea ((if c.r=10 then [c.set] else [])++CL ((d.take j).drop (i+(e+1)))):=BB.grow p9 Q (by decide) fun r x E=>BG.BZ E Q fun _ _ _ h=>h;refine AT (fun vs W'=>∃ U bb et,vs=[U]/\Bx W' b [.int .i32 c.r,bb]/\Mod (fun x=>x=b) a1 W'/\Cf et W' bb c.set/\(∀ x,et x->W.heap.size<=x/\x < W'.heap.size/\(x < S.heap.size\/W9.heap.size<=x))/\
   BB (fun x=>W.heap.size<=x/\x < S.heap.size) 1 (Cx fun x=>W.heap.size<=x/\x < S.heap.size) W' U (CL ((d.take j).drop (i+(e+1))))) ?_ ?_
 .rintro _ X ⟨U,bb,et,rfl,T,I,eu,ho,bc⟩ _;rw[Of];have c9:=I.size;have bd:Grow W9 X:=Q.next I fun x E e'=>by omega
  have eo:JL W.heap.size S.heap.size X c7 ((d.take (i+e)).drop i):=j1.grow bd;refine T.FZ rfl ?_;refine Tb eo (by omega) eu (fun x E=>?_) (by rw[dv];omega) fun j5 b8 ba O j6=>?_
  .have:=ho x E;refine⟨this.1,this.2.1,fun e'=>?_⟩;have:=ak x e';omega
  rw[AR,AO ej];have hs:Grow S b8:=(c8.trans bd).next O fun x E e'=>by have:=ak x e';omega
  have jX:=ec.size;have hf:=O.size;refine⟨⟨q+1,U,j5,h4,rfl,?_,?_⟩,by rw[Tn,Tn];omega⟩
  .rw[show B m+(q+1)=e+1 by omega];refine⟨?_,by rw[ef];exact ba,BB.mod bc O (fun x _ E e'=>by have:=ak x e';omega) (by decide) fun r x E=>BG.BZ E O fun y _ hy e'=>by have:=ak y e';omega⟩;exact hs
  .refine⟨(ec.next bd fun _ _ h=>h.elim).next O fun x E e'=>?_,fun g hg=>?_⟩
   .rcases b5 x e' with h|h
    .exact h
    .omega
   .rcases j6 g hg with h|h
    .exact b5 g h
    .exact .inr (by omega)
 .refine Bt (ep.cells 0 _ rfl) ?_;rw[Al];refine AF (fun ew=>?_) fun ew=>?_;rotate_left
  .have al:c.r≠10:=ew;rw[C3 al,kS] at cd;rw[<-ih al];exact⟨ea,J,D',rfl,ep,Mod.refl _ _,er,fun x E=>by have:=j4 x E;exact⟨by omega,this.2,.inr this.1⟩,cd⟩
  have al:c.r=10:=ew;rw[Io al] at cd;have V:Grow a1 a1.drew:=Mod.drew _ _;have jl:=V.size;have an:=BB.grow cd V (by decide) fun r x E=>BG.BZ E V fun _ _ _ h=>h;obtain⟨pa,pc,j7,_⟩:=an.shape;subst j7;obtain⟨pp,rr,rfl,j8,_,j9,eA,rfl,ja⟩:=an.get (i:=0) (by simp);have bk:Cf (fun x=>W.heap.size<=x/\x<S.heap.size) a1.drew eA c.set:=ja;have dT:=ep.grow V;obtain⟨jY,jZ,av,_⟩:=bk.shape;refine Ai (fun n y=>n=6/\y=b) ?_;refine AU (by simp) ?_;refine AY ⟨by have:=j9 0 _ rfl;exact this,fun n hn e'=>by have h1:=e'.2;have h2:=j8.2;rw[BO] at h1;omega⟩ ?_;rw[AG,AH];have jb:([c.set]++CL ((d.take j).drop (i+(e+1)))).length=(CL ((d.take j).drop (i+(e+1)))).length+1:=by simp
  constructor
  .refine Hq (e:=43) (k:=1) (i:=Tryz.t43) (j:=1) (by kernel_rfl) (by kernel_rfl) (by kernel_rfl) an (by simp) fun U bc=>⟨Mod.refl _ _,?_⟩;have bl:BB (fun x=>W.heap.size<=x/\x<S.heap.size) 1 (Cx fun x=>W.heap.size<=x/\x<S.heap.size) a1.drew U (CL ((d.take j).drop (i+(e+1)))):=bc;refine dT.st (q:=1) (show 1<2 by decide) (by rw[av];rfl) (by rw[av];rfl) fun X T I=>⟨I.mono fun x _ e'=>⟨rfl,e'⟩,?_⟩;have c9:=I.size;refine⟨U,eA,_,rfl,T,(V.mono fun _ _ h=>h.elim).trans I,bk.mod I (fun x _ E e'=>by have:=E.2;omega) (by decide) (fun _ _ h=>h),fun x E=>⟨E.1,by have:=E.2;omega,.inl E.2⟩,BB.mod bl I (fun x _ E e'=>by have:=E.2;omega) (by decide) fun r x E=>BG.BZ E I fun y _ hy e'=>by have:=hy.2;omega⟩
  .refine dT.st (q:=1) (show 1<2 by decide) (by rw[av];rfl) (by rw[av];rfl) fun X T I=>⟨I.mono fun x _ e'=>⟨rfl,e'⟩,?_⟩;have c9:=I.size;have hv:=BB.mod an I (fun x _ E e'=>by have:=E.2;omega) (by decide) fun r x E=>BG.BZ E I fun y _ hy e'=>by have:=hy.2;omega
   refine Hq (e:=43) (k:=1) (i:=Tryz.t43) (j:=1) (by kernel_rfl) (by kernel_rfl) (by kernel_rfl) hv (by simp) fun U bc=>⟨Mod.refl _ _,?_⟩;have bl:BB (fun x=>W.heap.size<=x/\x<S.heap.size) 1 (Cx fun x=>W.heap.size<=x/\x<S.heap.size) X U (CL ((d.take j).drop (i+(e+1)))):=bc;refine⟨U,eA,_,rfl,T,(V.mono fun _ _ h=>h.elim).trans I,bk.mod I (fun x _ E e'=>by have:=E.2;omega) (by decide) (fun _ _ h=>h),fun x E=>⟨E.1,by have:=E.2;omega,.inl E.2⟩,bl⟩
end
def Iq:List Cel->List (List Attr)
 |[]=>[]
 |c::d=>if c.r=10\/c.set=[]\/c.set∈Iq d then Iq d else c.set::Iq d
theorem UX{s:List Attr}:s∈Iq d↔s≠[]/\∃c∈d,c.r≠10/\c.set=s:=by
 induction d with
 |nil=>simp[Iq]
 |cons c d B=>
  rw[Iq];split
  .rename_i h;rw[B];constructor
   .rintro⟨h1,o,i,j⟩;exact⟨h1,o,fX _ i,j⟩
   .rintro⟨h1,o,i,j,rfl⟩;rcases I3.1 i with rfl|i
    .rcases h with h|h|h
     .exact absurd h j
     .exact absurd h h1
     .exact B.1 h
    .exact⟨h1,o,i,j,rfl⟩
  .rename_i h;rw[I3,B];constructor
   .rintro(rfl|⟨h1,o,i,j⟩)
    .exact⟨fun e=>h (.inr (.inl e)),c,kf,fun e=>h (.inl e),rfl⟩
    .exact⟨h1,o,fX _ i,j⟩
   .rintro⟨h1,o,i,j,rfl⟩;rcases I3.1 i with rfl|i
    .exact .inl rfl
    .exact .inr ⟨h1,o,i,j,rfl⟩
theorem PH(d:List Cel):(Iq d).Nodup:=by
 induction d with
 |nil=>exact mq
 |cons c d i=>
  rw[Iq];split
  .exact i
  .rename_i h;exact pI.2 ⟨fun e=>h (.inr (.inr e)),i⟩
section
variable {w0:World}{F:Nat->Prop}{W:World}{a:TxA}{σ:SKs}{most:Int}{N:Nat}{d:List Cel}
theorem Vz(h:GP .f w0 F W a σ most d N):AB prog 17 [.pointer (some ⟨a.b,0,none⟩)] (fun v' w'=>v'=.int .i64 (d.length:Int)/\Grow W w') W:=by
 obtain⟨l1,Fr,bt,i,o⟩:=h.Hn;have j:(Bf l1).length=d.length:=by rw[i,Ax,Es]
 have:=VM h.box.1 o;rwa [j] at this
theorem RX(h:GP .f w0 F W a σ most d N):AB prog 13 [.pointer (some ⟨a.b,0,none⟩)] (fun v' w'=>v'=.int .i64 (Bc (Ax d):Int)/\Grow W w') W:=by
 obtain⟨l1,Fr,bt,i,j⟩:=h.Hn;have:=V5 h.box.1 j;rwa [i] at this
theorem UJ{k:Nat}(h:GP .f w0 F W a σ most d N)(B:d.length<=10000000):AB prog 14 [.pointer (some ⟨a.b,0,none⟩),.int .i64 (k:Int)] (fun v' w'=>v'=ML (Ax d) k/\Grow W w') W:=by
 obtain⟨l1,Fr,bt,i,j⟩:=h.Hn;have o:(Bf l1).length=d.length:=by rw[i,Ax,Es]
 have:=P2 (k:=k) h.box.1 j (by omega);rwa [i] at this
theorem KN(h:GP .f w0 F W a σ most d N)(V:N<=1000000000):AB prog 27 [.pointer (some ⟨a.b,0,none⟩)] (fun v' w'=>v'=.int .i64 (((Iq d).length+1:Nat):Int)/\Grow W w') W:=by
 obtain⟨z,l2,t,f,j,I,S,hu,Q,i,T⟩:=h;apply fA;refine AA (FH I.box.1) ?_;rintro _ _ ⟨rfl,rfl⟩;rename World=>W
 rw[Ar];refine AV ?_;refine AI ?_;refine Bt (I.box.1.cells 5 _ rfl) ?_;obtain⟨X,o,_,_⟩:=I.Qo;refine AA (ZB o (by omega)) ?_;rintro _ Y ⟨rfl,U⟩;refine⟨?_,U⟩;have hl:=Q.len o.inv GY.ne (PH d) fun s=>by
  rw[UX];constructor
  .rintro⟨h1,c,hc,J,B⟩;rw[<-j] at hc;obtain⟨p,hp,rfl⟩:=kQ.1 hc;exact⟨h1,p.2,Spn.I8 (kQ.2 ⟨p,hp,rfl⟩) (by simp),by rw[(i p hp).2 J,B]⟩
  .rintro⟨h1,id,J,B⟩;obtain⟨p,hp,e⟩:=kQ.1 (Spn.Vb J);have E:p.1.r≠10:=fun O=>by
    have:=(i p hp).1 O;rw[<-e,this,Q.1] at B;exact h1 B.symm
   exact⟨h1,p.1,by rw[<-j];exact kQ.2 ⟨p,hp,rfl⟩,E,by rw[<-(i p hp).2 E,e,B]⟩
 rw[hl];congr 1
 omega
end
def Em(f:Int->List Attr)(l:List Spn):List Gu:=l.map fun s=>⟨(s.n:Int),f s.id⟩
theorem Ys{t:Tab (List Attr)}{f:Int->List Attr}{G:List Attr->Prop}{h:Int->Nat}(B:t.Holds [] f h)(hi:t.Inv G):∀{l:List Spn} {p:Option Int},Spn.Hj p l->(∀s∈l,0<h s.id)->FG (Em f l)/\pl (Em f l)=(l.flatMap Spn.u).map f:=by
 intro l;induction l with
 |nil=>intro p _ _;exact⟨trivial,rfl⟩
 |cons s l E=>
  intro p hp j;obtain⟨h1,I⟩:=E hp.2.2 fun i J=>j i (by simp[J]);refine⟨⟨by show(0:Int)<(s.n:Int);have:=hp.1;omega,fun c hc=>?_,h1⟩,?_⟩
  .cases l with
   |nil=>cases hc
   |cons i l=>
    have o:(⟨(i.n:Int),f i.id⟩:Gu)=c:=by simpa[Em] using hc
    subst o;intro e;have:=(B.inj hi (j s (by simp)) (j i (by simp))).2 e;exact hp.2.2.2.1 (by rw[this])
  .show pl (⟨(s.n:Int),f s.id⟩::Em f l)=_;rw[Gl,I,kp,S7];congr 1
   show List.replicate (s.n:Int).toNat (f s.id)=(List.replicate s.n s.id).map f;rw[List.map_replicate,lI]
def ib(A B c m:Nat)(i:Nat->Prop)(W:World)(out:Value)(l:List Gu):Prop:=
 Bx W c [out]/\(∀g,out.ownBlock=some g->g≠c/\g≠m/\g≠m+1/\¬i g)/\∃D:Nat->Prop,AE B 53 2 (Mt D) W out l/\∀x,D x->A<=x/\x<W.heap.size/\out.ownBlock≠some x/\x≠c/\x≠m/\x≠m+1/\¬i x
section
variable {w0:World}{F:Nat->Prop}{W:World}{a:TxA}{σ:SKs}{most:Int}{N:Nat}{d:List Cel}
theorem UY(h:GP .f w0 F W a σ most d N)(hz:d.length<=10000000)(hN:N<=1000000000) :
  AB prog 18 [.pointer (some ⟨a.b,0,none⟩)] (fun v' w'=>SZ (fun x=>W.heap.size<=x/\x<w'.heap.size) (fun x=>W.heap.size<=x/\x<w'.heap.size) w' v' (gD d)/\Grow W w') W:=by
 obtain⟨z,l2,t,f,b6,hM,ak,hu,hh,bx,e1⟩:=h;have c4:z.length=d.length:=by rw[<-b6,Es]
 have b7:=kM List.length hu;rw[Es,c4] at b7;have dv:Ef l2=d.length:=by rw[Dy,b7]
 have e2:=Spn.Fi ak;have Q:=Spn.Ib ak;have c6:=hM.hl;have a6:∀s∈l2,0<Spn.rn s.id none (z.map Prod.snd):=fun s hs=>by
  have:=Spn.KO hs (Q s hs);rw[hu] at this;exact Spn.I8 this (by simp)
 have al:Em f l2=gD d:=by
  obtain⟨Ft,an,_,_⟩:=hM.Qo;obtain⟨h1,O⟩:=Ys hh an.inv ak a6;have a7:d.length<=XF:=by show _<=4611686018427387904;omega
  refine uniq _ _ h1 (WA a7) ?_;rw[O,(fR a7).1,hu,<-b6,mH,mH];refine mj fun p hp=>?_;obtain⟨o1,o2⟩:=bx p hp;show f p.2=p.1.inl;unfold Cel.inl;split
  .rename_i e;rw[o1 e,hh.1]
  .rename_i e;exact o2 e
 rw[<-al];apply cT;refine GN rfl fun b1 W1 e3 g1 B1=>?_;refine Bx.zero fun c W2 hc g2 B2=>?_;refine AK ((B1.grow g2).cells 0 _ rfl) ?_;have c7:=g1.trans g2;have V:=hM.grow c7;refine AA (FH V.box.1) ?_;rintro _ _ ⟨rfl,rfl⟩;rename World=>W2
 rw[Ar];refine AV ?_;refine AK ((B1.grow g2).cells 0 _ rfl) ?_;refine AI ?_;refine Bt (V.box.1.cells 3 _ rfl) ?_;obtain⟨Fs,bs,c8,_,_⟩:=V.Q9;refine AA (ez c8 (by omega) (by omega) (by omega) Q) ?_;rintro _ o ⟨cb,Rd,rfl,g3,J8,b8⟩;have z1:=g1.size;have z2:=g2.size;have z3:=g3.size;have c9:=B1.lt (Ty _);have dT:=B2.lt (Ty _);have B3:=B2.grow g3;have ca:=(B1.grow g2).grow g3;have cc:=V.grow g3;refine⟨True,_,_,_,_,_,rfl,by kernel_rfl,b8,fun k _=>rfl,?_⟩;refine⟨fun k X W'=>∃out,ib o.heap.size o.heap.size c o.heap.size X W' out (Em f (l2.take k))/\Mod (fun x=>x=c) o W'/\k<=l2.length,fun _ _ _=>False,⟨_,⟨B3,(fun g E=>nomatch E),fun _=>False,AE.nil,fun _ h=>h.elim⟩,Mod.refl _ _,Nn _⟩,?_,fun x X cd W W' h=>h.elim,?_,?_,?_,fun x X W h=>h.elim⟩
 .rintro k X cd W' e4 ⟨out,⟨q1,S,D,U,Y⟩,m,hk⟩ hm B;have hn:∀x,x<o.heap.size->¬((¬True/\X x)\/x=o.heap.size\/x=o.heap.size+1):=fun x i=>by rintro(⟨h,_⟩|h|h);exact h trivial;all_goals omega
  have zm:=hm.size;refine⟨out,⟨q1.mod hm (hn c (by omega)),fun g E=>?_,D,AE.mod U hm (fun g E=>?_) fun r x _ i=>i.mod hm (fun b _ hb=>?_) fun _ _ h=>h,fun x i=>?_⟩,m.next hm fun x i=>?_,hk⟩
  .obtain⟨h1,O,I,Z⟩:=S g E;refine⟨h1,O,I,fun h=>?_⟩;rcases(B g h).1 with h|h
   .exact Z h
   .have:=(AE.BA U g E).2;omega
  .obtain⟨_,O,I,_⟩:=S g E;rintro(⟨h,_⟩|h|h)
   .exact h trivial
   .exact O h
   .exact I h
  .obtain⟨_,_,_,_,O,I,_⟩:=Y b hb;rintro(⟨h,_⟩|h|h)
   .exact h trivial
   .exact O h
   .exact I h
  .obtain⟨h1,O,I,Z,h5,h6,h7⟩:=Y x i;refine⟨h1,by omega,I,Z,h5,h6,fun h=>?_⟩;rcases(B x h).1 with h|h
   .exact h7 h
   .omega
  .intro e;exact absurd e (hn x i)
 .rintro k X W' ⟨out,q,m,hk⟩ b hb hr;exact m.same b hb fun e=>by
   subst e;have:=J8 b hr;omega
 .rintro k X W' hk ⟨out,⟨q1,S,D,U,Y⟩,m,e5⟩ b9 B;have av:(nth [Value.agg ((l2[k]?.getD ⟨0,0⟩).cells.toArray)] 0)=.agg l2[k].cells.toArray:=by
   show Value.agg _=_;rw[By hk];rfl
  rw[av];have ch:Em f (l2.take (k+1))=Em f (l2.take k)++[⟨(l2[k].n:Int),f l2[k].id⟩]:=by
   unfold Em;rw[No,By hk,S7];rfl
  refine Bx.new (vs:=l2[k].cells) rfl rfl (Spn.one _) fun b5 W5 e6 g5 B5=>?_;refine Lz g5 b9 B (fun _ _ h=>h.elim) fun W6 J=>?_;have z5:=g5.size;have e7:=J.size;have e8:=q1.lt (Ty _);have cv:=B5.lt (Ty _);have zm:=m.size;have C6:=(q1.grow g5).mod J (by omega);have ba:=B5.mod J (by omega);have gd:Grow W6 W6.drew:=Mod.drew _ _;have zd:=gd.size;have bb:Mod (fun x=>x=c\/x=o.heap.size+1) o W6:=((m.mono fun _ _ e=>.inl e).trans (g5.mono fun _ _ h=>h.elim)).trans (J.mono fun _ _ e=>.inr e);have bc:=((cc.mod bb fun x i=>⟨fun e=>by have:=c6 x e;omega,fun e=>by have:=hM.JS.2 x e;omega,by have:=hM.g.size;omega⟩).grow gd);have cx:Bx W6.drew b1 [.pointer (some ⟨a.b,0,none⟩)]:=(ca.mod bb (by omega)).grow gd;have o6:AE o.heap.size 53 2 (Mt D) W6 out (Em f (l2.take k)):=AE.mod (AE.mod U g5 (fun _ _ h=>h) fun r x _ i=>i.mod g5 (fun _ _ _ h=>h) fun _ _ h=>h) J (fun g E=>(S g E).2.2.1) fun r x _ i=>i.mod J (fun b _ hb=>(Y b hb).2.2.2.2.2.1) fun _ _ h=>h;refine Ai (fun _ _=>False) ?_;refine AY ⟨cx.cells 0 _ rfl,fun j hj e=>e⟩ ?_;refine AI ?_;rw[AG,AH];refine AY ⟨bc.box.1.cells 5 _ rfl,fun j hj e=>e⟩ ?_;rw[AG,AH];refine AY ⟨(ba.grow gd).cells 1 _ rfl,fun j hj e=>e⟩ ?_;obtain⟨Ft,an,_,_⟩:=bc.Qo;have a8:=a6 l2[k] (gC hk);obtain⟨d1,d2⟩:=hh.idle (.inl a8);obtain⟨cn,bd⟩:=hh.ask a8;refine AA (OZ an (by omega) (by omega) (by omega)) ?_;rintro v7 W7 ⟨g7,bk⟩;rw[bd] at bk;obtain⟨sv,rfl,a1⟩:=bk;simp only at a1;refine⟨g7.mono fun _ _ h=>h.elim,?_⟩;refine BV ?_;have z7:=g7.size;have ax:=AE.BA a1;have C7:=(C6.grow gd).grow g7;refine AK (C7.cells 0 _ rfl) ?_;refine Bt (((ba.grow gd).grow g7).cells 0 _ rfl) ?_;obtain⟨sa,sc,dk,_⟩:=AE.shape a1;refine⟨#[.int .i64 (l2[k].n:Int),sv],by rw[dk];kernel_rfl,?_⟩
  let D':Nat->Prop:=fun x=>D x\/sv.ownBlock=some x
  have ay:∀x,D' x->o.heap.size<=x/\x<W7.heap.size/\out.ownBlock≠some x/\x≠c/\x≠o.heap.size/\x≠o.heap.size+1/\¬X x:=fun x i=>by
   rcases i with i|i
   .obtain⟨h1,O,I,Z,h5,h6,h7⟩:=Y x i;exact⟨h1,by omega,I,Z,h5,h6,h7⟩
   .have:=ax x i;refine⟨by omega,this.2,fun e=>?_,by omega,by omega,by omega,fun e=>?_⟩
    .have:=(AE.BA U x e).2;omega
    .have:=(B x e).1;omega
  have b0:=gd.trans g7;have o7:AE o.heap.size 53 2 (Mt D') W7 out (Em f (l2.take k)):=AE.mod o6 b0 (fun _ _ h=>h) fun r x _ i=>i.mod b0 (fun _ _ _ h=>h) fun _ _ h=>.inl h;have bl:Cf D' W7 sv (f l2[k].id):=BB.sub (AE.sl a1) (fun x _ h=>.inr h.2) (by decide) fun _ _ h=>h;have e9:(Em f (l2.take k)).length<=l2.length:=by unfold Em;rw[Es,Mp];omega
  refine Dr Xu o7 (by omega) (cs:=[.int .i64 (l2[k].n:Int),sv]) (x:=(⟨(l2[k].n:Int),f l2[k].id⟩:Gu)) (DW (v:=.agg #[.int .i64 (l2[k].n:Int),sv]) rfl (by decide) rfl rfl) rfl ⟨sv,rfl,bl⟩ (fun _ _ _ h=>h.one) (fun w1 w2 r y hz hm hy=>hy.mod hm (fun b _ i e=>?_) fun _ _ h=>h) (by omega) (by simp only[maxLen];omega) fun bn W8 o8 m8 n8=>?_
  .obtain⟨_,O,I,_⟩:=ay b i;rcases e with e|e
   .exact I e
   .omega
  have z8:=m8.size;have C8:=C7.mod m8 fun e=>(S c e).1 rfl;obtain⟨b3,b4⟩:=o8.one;refine C8.st (q:=0) (show 0<1 by decide) b3 b4 fun W9 C9 m9=>?_;have z9:=m9.size;have bp:Mod (fun x=>x=c\/out.ownBlock=some x) W6 W9:=((b0.mono fun _ _ h=>h.elim).trans (m8.mono fun _ _ e=>.inr e)).trans (m9.mono fun _ _ e=>.inl e);refine⟨Pd bp (by omega) (fun b hb=>by have:=(B b hb).1;omega) (fun b _ e=>?_),bn,⟨C9,fun g E=>?_,D',?_,fun x i=>?_⟩,?_,by omega⟩
  .rcases e with rfl|e
   .exact⟨fun h=>by have:=(B b h).2;omega,by omega,by omega⟩
   .obtain⟨h1,O,I,Z⟩:=S b e;exact⟨Z,O,I⟩
  .rcases n8 g E with h|h
   .exact S g h
   .refine⟨by omega,by omega,by omega,fun hI=>by have:=(B g hI).1;omega⟩
  .rw [ch];exact AE.mod o8 m9 (fun g E e=>by
    rcases n8 g E with h|h
    .exact(S g h).1 e
    .omega) fun r x _ i=>i.mod m9 (fun b _ hb e=>(ay b hb).2.2.2.1 e) fun _ _ h=>h
  .obtain⟨h1,O,I,Z,h5,h6,h7⟩:=ay x i;refine⟨h1,by omega,fun e=>?_,Z,h5,h6,h7⟩;rcases n8 x e with h|h
   .exact I h
   .omega
  .refine((m.next g5 fun _ _ h=>h.elim).next J fun x i e=>by omega).next bp fun x i e=>?_;rcases e with e|e
   .exact e
   .have:=(AE.BA U x e).1;omega
 .rintro X W' ⟨out,⟨q1,S,D,U,Y⟩,m,hk⟩ _ b9 hd;refine AK (q1.cells 0 _ rfl) ?_;obtain⟨b3,b4⟩:=U.one;refine q1.st (q:=0) (show 0<1 by decide) b3 b4 fun W4 C4 m4=>?_;have z4:=m4.size;refine⟨?_,?_⟩
  .rw[m4.same _ (by omega) (by omega)];exact hd
  have T:Mod (fun b=>b=o.heap.size) W4 (W4.putObj o.heap.size (.deferred none)):=Mod.putObj _ _ _ rfl;have C5:=C4.mod T (by omega);have zp:=T.size;refine AK (C5.cells 0 _ rfl) ⟨?_,?_⟩
  .rw[Nr] at U;have o5:AE o.heap.size 53 2 (Mt D) (W4.putObj o.heap.size (.deferred none)) out (Em f l2):=AE.mod (AE.mod U m4 (fun g E=>(S g E).1) fun r x _ i=>i.mod m4 (fun b _ hb=>(Y b hb).2.2.2.1) fun _ _ h=>h) T (fun g E=>(S g E).2.1) fun r x _ i=>i.mod T (fun b _ hb=>(Y b hb).2.2.2.2.1) fun _ _ h=>h;exact BB.sub (AE.sl o5) (fun x i h=>⟨by have:=h.1;omega,i⟩) (by decide) fun r x i=>i.mod (Mod.refl (fun _=>False) _) (fun _ _ _ h=>h) fun b hb h=>⟨by have:=(Y b h).1;omega,hb⟩
  .exact((((g1.trans g2).trans g3).next m fun x i e=>by omega).next m4 fun x i e=>by omega).next T fun x i e=>by omega
end
theorem Mm{q:Int}{g:Nat}(hc:∀j v,[Value.int .i32 q][j]?=some v->w'.cell? ((⟨g,0,none⟩:Addr).add j)=some v):KR (fun _=>True) w' (.slice (some ⟨g,0,none⟩) 1 1) [q]:=by
 refine⟨_,_,rfl,Lc _,by simp[maxLen],fun i x o=>⟨_,[.int .i32 x],rfl,trivial,rfl,fun j u hu=>?_,rfl⟩⟩;have hi:i=0:=by have:=(Bp.1 o).1;simp at this;exact this
 subst hi;simp at o;subst o;rw[pP,lp];exact hc j u hu
def D8:DKey:=⟨1,false,1,false,false,0⟩
def Cs:List Attr:=[⟨1,⟨1,1,0,Fo⟩⟩]
def GH:List Dop:=[⟨2,0,[97,98],Cs,[]⟩]
def KI:List Dop:=[⟨1,1,[],[],[]⟩,⟨2,0,[10],[],[]⟩]
def Hf:List Dop:=[⟨3,4,[],[],[]⟩]
def HP:List Cel:=[⟨97,Cs⟩,⟨98,Cs⟩,⟨10,[]⟩]
def I9:List Cel:=[⟨97,Cs⟩,⟨10,[]⟩,⟨98,Cs⟩,⟨10,[]⟩]
theorem O7:EZ D8:=by unfold EZ;decide
theorem WE:Ik [D8] Cs:=by
 have i:DV (⟨1,1,0,Fo⟩:BK):=.inl ⟨rfl,rfl,.inr rfl⟩;refine⟨by simp[Cs],by simp[Cs],fun a ha=>?_⟩;simp only[Cs,P9] at ha;subst ha;exact⟨i,D8,rfl,i,rfl⟩
theorem bQ{r:Int}(h:r=97\/r=98\/r=10):EK r:=.inl (by omega)
theorem Ma:(∀o∈GH,CO [D8] o)/\(∀o∈KI,CO [D8] o)/\∀o∈Hf,CO [D8] o:=by
 refine⟨fun o i=>?_,fun o i=>?_,fun o i=>?_⟩
 .simp only[GH,P9] at i;subst i;refine .inr (.inr ⟨rfl,fun r hr=>bQ ?_,rfl,rfl,by simp,WE⟩);simp only[I3,kV,mI] at hr;rcases hr with rfl|rfl
  .exact .inl rfl
  .exact .inr (.inl rfl)
 .simp only[KI,I3,kV,mI] at i;rcases i with rfl|rfl
  .exact .inl ⟨rfl,rfl,rfl,by decide,IM⟩
  .refine .inr (.inr ⟨rfl,fun r hr=>bQ ?_,rfl,rfl,by simp,IK⟩);simp only[P9] at hr;exact .inr (.inr hr)
 .simp only[Hf,P9] at i;subst i;exact .inr (.inl ⟨rfl,rfl,rfl,rfl,by decide⟩)
theorem P6:total GH=2/\total KI=2/\total Hf=4:=⟨rfl,rfl,rfl⟩
theorem bD{x:List Dop}{n:Nat}(h:total x=n)(j:n<=4){o:Dop}(i:o∈x):CD o<=536870912:=by
 have:=Ng i;omega
theorem dZ:aH [D8] GH 1 100:=by
 have hm:Ct [D8] GH=0:=L9 Ma.1 (by rw[P6.1];omega);refine⟨hm,fun o i=>⟨Ma.1 o i,bD P6.1 (by omega) i⟩,by omega,by decide,?_,fun o i=>?_,by decide⟩
 .simp[Db,GH]
 .simp only[GH,P9] at i;subst i;intro _ _ h;exact absurd h (by decide +kernel)
theorem cW:aH [D8] KI 3 100:=by
 have hm:Ct [D8] KI=0:=L9 Ma.2.1 (by rw[P6.2.1];omega);refine⟨hm,fun o i=>⟨Ma.2.1 o i,bD P6.2.1 (by omega) i⟩,by omega,by decide,?_,fun o i=>?_,by decide⟩
 .simp[Db,KI]
 .simp only[KI,I3,kV,mI] at i;rcases i with rfl|rfl
  .intro h;exact absurd h (by decide)
  .intro _ h;exact absurd rfl h
theorem fq:Ej [D8] Hf 4 100=6:=by
 classical
 have hm:Ct [D8] Hf=0:=L9 Ma.2.2 (by rw[P6.2.2];omega);have ht:Cj Bn Hf=4:=by decide +kernel
 have i:¬Db 4 0 Hf:=by simp[Db,Hf]
 unfold Ej;rw[C3 (by simp[hm]),C3 (by rw[ht];omega),Io i]
theorem iN:FW [D8] [⟨10,[]⟩] GH=HP/\FW [D8] HP KI=I9:=⟨rfl,rfl⟩
theorem Sq:gD HP=[⟨2,Cs⟩,⟨1,[]⟩]/\Iq HP=[Cs]/\Bc (Ax I9)=2/\ML (Ax I9) 1=.tuple #[.int .i64 2,.int .i64 0]:=by
 refine⟨by decide +kernel,by decide +kernel,by decide +kernel,by kernel_rfl⟩
theorem U9:(∀o∈GH,Ml o)/\(∀o∈KI,Ml o)/\∀o∈Hf,Ml o:=by
 refine⟨fun o i=>?_,fun o i=>?_,fun o i=>?_⟩
 .simp only[GH,P9] at i;subst i;refine⟨fun a ha=>?_,fun c hc=>(nomatch hc)⟩;simp only[Cs,P9] at ha;subst ha;exact⟨by decide,⟨by decide,by decide⟩,by decide,by decide⟩
 .simp only[KI,I3,kV,mI] at i;rcases i with rfl|rfl
  .exact⟨fun a ha=>(nomatch ha),fun c hc=>(nomatch hc)⟩
  .exact⟨fun a ha=>(nomatch ha),fun c hc=>(nomatch hc)⟩
 .simp only[Hf,P9] at i;subst i;exact⟨fun a ha=>(nomatch ha),fun c hc=>(nomatch hc)⟩
theorem dx:NI [D8] [⟨10,[]⟩]:=⟨fun c hc=>by simp only[P9] at hc;subst hc;exact ET.nil,rfl⟩
theorem Td{k:DKey}(hk:EZ k)(B:Grow w0 w)(E:∀w' sv C,Grow w w'->De C w' sv [k]->(∀x,x<w'.heap.size->C x->w0.heap.size<=x)->K (.tuple #[sv,.int .i64 0]) w') :
  AB prog 8 [.slice (some ⟨w.heap.size,0,none⟩) 1 1] K (w.alloc (.cells k.cells.toArray 65)):=by
 have i:=Yv (w:=w) [k] (by simp);have o:Grow w (w.alloc (.cells k.cells.toArray 65)):=Mod.alloc _ _ _;have e:(([k].map DKey.cells).flatten:List Value)=k.cells:=by simp
 rw[e] at i;have S:=o.size;have z0:=B.size;refine AA (L5 i) ?_;rintro _ w2 ⟨I,hr⟩;have J:Fk [k]:=MT.2 ⟨by simp,fun x j=>by simp only[P9] at j;subst j;exact hk,by unfold NH;simp⟩;rcases hr with⟨_,sv,ks,rfl,hp,T,O⟩|⟨Q,_⟩
 .have:ks=[k]:=List.perm_singleton.1 hp;subst this;exact E _ _ _ (o.trans I) O fun x _ j=>by omega
 .exact absurd J Q
theorem Oj{D:Nat->Prop}{l:List Dop}(rows:List (List Value))(hl:rows.length=l.length)(j:l.length<=10)(h:∀(i:Nat) r o,rows[i]?=some r->l[i]?=some o->Ca D w r o) :
  BE (fun b=>b=w.heap.size) D (w.alloc (.cells rows.flatten.toArray 83)) (.slice (some ⟨w.heap.size,0,none⟩) l.length l.length) l:=by
 have g:Grow w (w.alloc (.cells rows.flatten.toArray 83)):=Mod.alloc _ _ _;refine BB.made (t:=83) rows (fun r hr=>?_) hl (by simp only[maxLen];omega) fun i r o hr B=>(h i r o hr B).mod g (fun _ _ _ h=>h) fun _ _ h=>h;obtain⟨i,hi,e⟩:=nx.1 hr;obtain⟨_,_,_,e',_⟩:=h i r l[i] (by rw[By hi,e]) (By (by omega));rw[e'];rfl
theorem Ru(hT:E2 w):AB prog 10 [] (fun v w'=>v=.bool true/\Grow w w') w:=by
 apply fC;refine⟨D8.cells.toArray,by kernel_rfl,?_⟩;refine GL (cs:=D8.cells) (by kernel_rfl) ?_;refine Td (w0:=w) O7 (Mod.refl _ _) fun w2 sv C g2 hS hC=>?_;refine BV ?_
 let σ:SKs:=⟨sv,[D8],fun x=>C x/\x<w2.heap.size⟩
 have b0:De σ.S w2 σ.sv σ.ks:=hS.sub fun x j h=>⟨h,j⟩;refine AA (PY (w0:=w) (σ:=σ) (most:=100) b0 (fun x j=>j.2) hT g2) ?_;rintro v3 I ⟨g3,h3⟩;have h3:=h3.resolve_right fun h=>by have:=h.1;omega
 obtain⟨_,_,a,F3,rfl,bx,b3⟩:=h3;refine BV ?_;have bb:=g2.trans g3;have al:σ.ks.length<=64:=by show[D8].length<=64;decide
 have T:∀k∈σ.ks,EZ k:=fun k hk=>by
  have b4:k∈[D8]:=hk;simp only[P9] at b4;subst b4;exact O7
 refine AT (fun _ W=>I=W) ?_ ?_;rotate_left
 .refine Qn ?_;refine Qn ?_;exact DS (AV rfl)
 rintro _ _ rfl _;refine⟨(⟨1,1,0,Fo⟩:BK).cells.toArray,by kernel_rfl,⟨(⟨1,⟨1,1,0,Fo⟩⟩:Attr).cells.toArray,by kernel_rfl,?_⟩⟩;refine GL (cs:=(⟨1,⟨1,1,0,Fo⟩⟩:Attr).cells) (by kernel_rfl) ?_;have z3:=g3.size;have E:=b3.hl;have o4:AE I.heap.size 79 5 DD (I.alloc (.cells (⟨1,⟨1,1,0,Fo⟩⟩:Attr).cells.toArray 79)) (.slice (some ⟨I.heap.size,0,none⟩) 1 1) Cs:=AE.OW (Lc _) rfl (fun u hu=>DD.one (w:=I) (x:=⟨1,⟨1,1,0,Fo⟩⟩) rfl u hu) rfl;have g4:Grow I (I.alloc (.cells (⟨1,⟨1,1,0,Fo⟩⟩:Attr).cells.toArray 79)):=Mod.alloc _ _ _;generalize I.alloc (.cells (⟨1,⟨1,1,0,Fo⟩⟩:Attr).cells.toArray 79)=w4 at o4 g4 ⊢;generalize Value.slice (some ⟨I.heap.size,0,none⟩) 1 1=bv at o4 ⊢;have b5:=AE.sl o4;have bd:=b3.grow g4;have z4:=g4.size;obtain⟨J,O,bk,_⟩:=b5.shape;have a6:Cf (fun x=>I.heap.size<=x/\x<w4.heap.size) w4 bv Cs:=BB.sub b5 (fun x j h=>⟨h.1,j⟩) (by decide) fun _ _ h=>h;refine AT (fun _ W=>∃F5,GP .f w F5 W a σ 100 HP 1000000/\Grow w W) ?_ ?_
 .rintro _ w5 ⟨F5,b6,g5⟩ _;have z5:=g5.size;have a7:=b6.hl;refine AT (fun _ W=>∃F6,GP .f w F6 W a σ 100 I9 2000000/\Grow w W) ?_ ?_
  .rintro _ w6 ⟨F6,an,U⟩ _;have a8:=an.hl;refine AA (UJ (k:=1) an (by decide)) ?_;rintro _ w7 ⟨rfl,V⟩;rw[Sq.2.2.2];refine BV ?_;rw[Al];refine AF (fun _=>?_) fun e=>(e rfl).elim;rw[Al];refine AF (fun _=>?_) fun e=>(e rfl).elim;refine⟨#[.int .u8 3,.int .i64 4,.slice none 0 0,.slice none 0 0,.slice none 0 0],by kernel_rfl,?_⟩;refine GL (cs:=([[Value.int .u8 3,.int .i64 4,.slice none 0 0,.slice none 0 0,.slice none 0 0]]:List (List Value)).flatten) (by kernel_rfl) ?_;have hR:=Oj (D:=fun _=>False) (w:=w7) (l:=Hf) [[.int .u8 3,.int .i64 4,.slice none 0 0,.slice none 0 0,.slice none 0 0]] rfl (by decide) fun i r o hr ho=>by
    match i with
    |0=>cases hr;cases ho;exact⟨_,_,_,rfl,BB.nil,BB.nil,BB.nil⟩
    |i+1=>simp at hr
   have g8:Grow w7 (w7.alloc (.cells ([[Value.int .u8 3,.int .i64 4,.slice none 0 0,.slice none 0 0,.slice none 0 0]]:List (List Value)).flatten.toArray 83)):=Mod.alloc _ _ _;generalize w7.alloc (.cells ([[Value.int .u8 3,.int .i64 4,.slice none 0 0,.slice none 0 0,.slice none 0 0]]:List (List Value)).flatten.toArray 83)=w8 at hR g8 ⊢;have z7:=V.size;have bl:=an.grow (V.trans g8);refine AA (Hc (B:=4) bl hT ⟨fun c hc=>?_,rfl⟩ al T hR (fun y Q e=>?_) U9.2.2 (by decide) (by decide) (fun _=>by decide) (by decide) (by decide)) ?_
   .simp only[I9,I3,kV,mI] at hc;have hb:ET [D8] Cs:=ET.of T WE fun a ha=>((U9.1 ⟨2,0,[97,98],Cs,[]⟩ (by simp[GH])).1 a ha).2;rcases hc with rfl|rfl|rfl|rfl
    .exact hb
    .exact ET.nil
    .exact hb
    .exact ET.nil
   .have:=a8 y e;rcases Q with Q|Q
    .omega
    .exact Q
   rintro _ w9 ⟨rfl,⟨F9,f9,_,M9⟩,_⟩;rw[show Ej σ.ks Hf (I9.length:Nat) 100=6 from fq,Al];refine⟨rfl,?_⟩;have gg:=U.trans (V.trans g8);exact gg.next M9 fun x j e=>by have:=(a8 x e).1;omega
  .refine⟨#[.int .u8 1,.int .i64 1,.slice none 0 0,.slice none 0 0,.slice none 0 0],by kernel_rfl,?_⟩;refine GL (cs:=[.int .i32 10]) (by kernel_rfl) ?_;have o6:AE w5.heap.size 21 1 Bo (w5.alloc (.cells [Value.int .i32 10].toArray 21)) (.slice (some ⟨w5.heap.size,0,none⟩) 1 1) [10]:=AE.OW (Lc _) rfl (fun u hu=>by simp at hu;subst hu;rfl) rfl;have U:Grow w5 (w5.alloc (.cells [Value.int .i32 10].toArray 21)):=Mod.alloc _ _ _;generalize w5.alloc (.cells [Value.int .i32 10].toArray 21)=w6 at o6 U ⊢;generalize Value.slice (some ⟨w5.heap.size,0,none⟩) 1 1=rv at o6 ⊢;have b7:=AE.sl o6;obtain⟨X,Y,rfl,_⟩:=b7.shape;have z6:=U.size;refine⟨#[.int .u8 2,.int .i64 0,.slice X 1 Y,.slice none 0 0,.slice none 0 0],by kernel_rfl,?_⟩;refine GL (cs:=([[Value.int .u8 1,.int .i64 1,.slice none 0 0,.slice none 0 0,.slice none 0 0],[.int .u8 2,.int .i64 0,.slice X 1 Y,.slice none 0 0,.slice none 0 0]]:List (List Value)).flatten) (by kernel_rfl) ?_;have hR:=Oj (D:=fun x=>w5.heap.size<=x) (w:=w6) (l:=KI) [[.int .u8 1,.int .i64 1,.slice none 0 0,.slice none 0 0,.slice none 0 0],[.int .u8 2,.int .i64 0,.slice X 1 Y,.slice none 0 0,.slice none 0 0]] rfl (by decide) fun i r o hr ho=>by
    match i with
    |0=>cases hr;cases ho;exact⟨_,_,_,rfl,BB.nil,BB.nil,BB.nil⟩
    |1=>cases hr;cases ho;exact⟨_,_,_,rfl,BB.sub b7 (fun x _ h=>h.1) (by decide) fun _ _ h=>h,BB.nil,BB.nil⟩
    |i+2=>simp at hr
   have V:Grow w6 (w6.alloc (.cells ([[Value.int .u8 1,.int .i64 1,.slice none 0 0,.slice none 0 0,.slice none 0 0],[.int .u8 2,.int .i64 0,.slice X 1 Y,.slice none 0 0,.slice none 0 0]]:List (List Value)).flatten.toArray 83)):=Mod.alloc _ _ _;generalize w6.alloc (.cells ([[Value.int .u8 1,.int .i64 1,.slice none 0 0,.slice none 0 0,.slice none 0 0],[.int .u8 2,.int .i64 0,.slice X 1 Y,.slice none 0 0,.slice none 0 0]]:List (List Value)).flatten.toArray 83)=w7 at hR V ⊢;have av:=b6.grow (U.trans V);refine AA (Hc (B:=5) av hT ⟨fun c hc=>?_,rfl⟩ al T hR (fun y Q e=>?_) U9.2.1 (by decide) (by decide) (fun _=>by decide) (by decide) (by decide)) ?_
   .simp only[HP,I3,kV,mI] at hc;have hb:ET [D8] Cs:=ET.of T WE fun a ha=>((U9.1 ⟨2,0,[97,98],Cs,[]⟩ (by simp[GH])).1 a ha).2;rcases hc with rfl|rfl|rfl
    .exact hb
    .exact hb
    .exact ET.nil
   .have:=a7 y e;rcases Q with Q|Q
    .omega
    .omega
   rintro _ w8 ⟨rfl,⟨F8,f8,h8,M8⟩,_⟩;have e0:Ej σ.ks KI (HP.length:Nat) 100=0:=(Fv (by decide)).2 cW;rw[e0,Io rfl,show FW σ.ks HP KI=I9 from iN.2] at h8;rw[e0,Bm];refine AW (fun _=>?_) fun e=>(e rfl).elim;refine AA (RX h8) ?_;rintro _ w9 ⟨rfl,g9⟩;rw[Sq.2.2.1,Bm];refine AW (fun _=>?_) fun e=>(e rfl).elim;refine⟨F8,(h8.grow g9).up (by decide),?_⟩;exact((g5.trans (U.trans V)).next M8 fun x j e=>by have:=(a7 x e).1;omega).trans g9
 .refine GL (cs:=[.int .i32 97,.int .i32 98]) (by kernel_rfl) ?_;have o6:KR (fun x=>x=w4.heap.size) (w4.alloc (.cells [Value.int .i32 97,.int .i32 98].toArray 21)) (.slice (some ⟨w4.heap.size,0,none⟩) 2 2) [97,98]:=by
   have:=BB.made (R:=Bo) (w:=w4) (l:=([97,98]:List Int)) (t:=21) [[.int .i32 97],[.int .i32 98]] (fun r hr=>by simp only[I3,kV,mI] at hr;rcases hr with rfl|rfl<;>rfl) rfl (by simp[maxLen]) fun i r x hr j=>by
    match i with
    |0=>cases hr;cases j;rfl
    |1=>cases hr;cases j;rfl
    |i+2=>simp at hr
   exact this
  have U:Grow w4 (w4.alloc (.cells [Value.int .i32 97,.int .i32 98].toArray 21)):=Mod.alloc _ _ _;generalize w4.alloc (.cells [Value.int .i32 97,.int .i32 98].toArray 21)=w6 at o6 U ⊢;generalize Value.slice (some ⟨w4.heap.size,0,none⟩) 2 2=rv at o6 ⊢;obtain⟨X,Y,rfl,_⟩:=o6.shape;have z6:=U.size;subst bk;refine⟨#[.int .u8 2,.int .i64 0,.slice X 2 Y,.slice J 1 O,.slice none 0 0],by kernel_rfl,?_⟩;refine GL (cs:=([[Value.int .u8 2,.int .i64 0,.slice X 2 Y,.slice J 1 O,.slice none 0 0]]:List (List Value)).flatten) (by kernel_rfl) ?_;have hR:=Oj (D:=fun x=>I.heap.size<=x) (w:=w6) (l:=GH) [[.int .u8 2,.int .i64 0,.slice X 2 Y,.slice J 1 O,.slice none 0 0]] rfl (by decide) fun i r o hr ho=>by
   match i with
   |0=>
    cases hr;cases ho;exact⟨_,_,_,rfl,BB.sub o6 (fun x _ h=>by omega) (by decide) fun _ _ h=>h,BB.sub (a6.grow U (by decide) fun _ _ h=>h) (fun x _ h=>h.1) (by decide) fun _ _ h=>h,BB.nil⟩
   |i+1=>simp at hr
  have V:Grow w6 (w6.alloc (.cells ([[Value.int .u8 2,.int .i64 0,.slice X 2 Y,.slice J 1 O,.slice none 0 0]]:List (List Value)).flatten.toArray 83)):=Mod.alloc _ _ _;generalize w6.alloc (.cells ([[Value.int .u8 2,.int .i64 0,.slice X 2 Y,.slice J 1 O,.slice none 0 0]]:List (List Value)).flatten.toArray 83)=w7 at hR V ⊢;have ax:=U.trans V;have z7:=V.size;have av:=bd.grow ax;refine AA (Hc (B:=3) av hT dx al T hR (fun y Q e=>?_) U9.1 (by decide) (by decide) (fun _=>by decide) (by decide) (by decide)) ?_
  .have:=E y e;rcases Q with Q|Q
   .omega
   .omega
  rintro _ w8 ⟨rfl,⟨F8,f8,h8,M8⟩,_⟩;have e0:Ej σ.ks GH (([⟨10,[]⟩]:List Cel).length:Nat) 100=0:=(Fv (by decide)).2 dZ;rw[e0,Io rfl,show FW σ.ks [⟨10,[]⟩] GH=HP from iN.1] at h8;rw[e0,Bm];refine AW (fun _=>?_) fun e=>(e rfl).elim;have z8:=M8.size;have bn:Cf (fun x=>I.heap.size<=x/\x<w4.heap.size) w8 (.slice J 1 O) Cs:=(a6.grow ax (by decide) fun _ _ h=>h).mod M8 (fun x _ j e=>by have:=(E x e).2.1;have:=j.1;omega) (by decide) fun _ _ h=>h;refine AA (UY h8 (by decide) (by decide)) ?_;rintro c4 w9 ⟨b8,g9⟩;rw[Sq.1] at b8;have bp:=bn.grow g9 (by decide) fun _ _ h=>h;refine⟨#[.int .i64 2,.slice J 1 O],by kernel_rfl,⟨#[.int .i64 1,.slice none 0 0],by kernel_rfl,?_⟩⟩;refine GL (cs:=([[Value.int .i64 2,.slice J 1 O],[.int .i64 1,.slice none 0 0]]:List (List Value)).flatten) (by kernel_rfl) ?_;have Z:Grow w9 (w9.alloc (.cells ([[Value.int .i64 2,.slice J 1 O],[.int .i64 1,.slice none 0 0]]:List (List Value)).flatten.toArray 53)):=Mod.alloc _ _ _;have ak:SZ (fun x=>x=w9.heap.size) (fun x=>I.heap.size<=x/\x<w4.heap.size) (w9.alloc (.cells ([[Value.int .i64 2,.slice J 1 O],[.int .i64 1,.slice none 0 0]]:List (List Value)).flatten.toArray 53)) (.slice (some ⟨w9.heap.size,0,none⟩) 2 2) [⟨2,Cs⟩,⟨1,[]⟩]:=by
   refine BB.made (l:=([⟨2,Cs⟩,⟨1,[]⟩]:List Gu)) (t:=53) [[.int .i64 2,.slice J 1 O],[.int .i64 1,.slice none 0 0]] (fun r hr=>by simp only[I3,kV,mI] at hr;rcases hr with rfl|rfl<;>rfl) rfl (by simp[maxLen]) fun i r x hr j=>?_;match i with
   |0=>cases hr;cases j;exact⟨_,rfl,bp.grow Z (by decide) fun _ _ h=>h⟩
   |1=>cases hr;cases j;exact⟨_,rfl,BB.nil⟩
   |i+2=>simp at hr
  generalize w9.alloc (.cells ([[Value.int .i64 2,.slice J 1 O],[.int .i64 1,.slice none 0 0]]:List (List Value)).flatten.toArray 53)=c6 at ak Z ⊢;have ay:=BB.grow b8 Z (by decide) fun r x j=>j.mod Z (fun _ _ _ h=>h) fun _ _ h=>h;refine AA (UU ay ak) ?_;rintro _ c7 ⟨rfl,bs⟩;rw[Ar];refine AW (fun _=>?_) fun e=>(e rfl).elim;have a1:=(g9.trans Z).trans bs;refine AA (KN (h8.grow a1) (by decide)) ?_;rintro _ c8 ⟨rfl,b9⟩;rw[Sq.2.1,Bm];refine AW (fun _=>?_) fun e=>(e rfl).elim;refine⟨F8,((h8.grow a1).grow b9).up (by decide),?_⟩;exact(((bb.trans g4).trans ax).next M8 fun x j e=>by have:=(E x e).1;omega).trans (a1.trans b9)
structure To where
 x:List Dop
 i:Int
 j:Int
def TX(S:Nat->Prop):World->List Value->To->Prop:=fun w r s=>∃o,r=[o,.int .i64 s.i,.int .i64 s.j]/\BE S S w o s.x
theorem TX.mod{S B M:Nat->Prop}{r:List Value}{s:To}(h:TX S w r s)(hm:Mod M w w')(j:∀b,b<w.heap.size->S b->¬M b)(i:∀b,b<w.heap.size->S b->B b):TX B w' r s:=by
 obtain⟨E,e,h1⟩:=h;have O:=BE.mod h1 hm j j;have z:=hm.size;refine⟨E,e,BB.mono h1 i (fun b hb I=>hm.same b hb (j b hb I)) (by decide) fun r o J=>J.mod hm j i⟩
abbrev Jt(S:Nat->Prop)(w:World)(v:Value)(l:List To):Prop:=BB S 3 (TX S) w v l
theorem Jt.GQ{l:List To}(h:Jt S w v l):Jt (fun b=>S b/\b<w.heap.size) w v l:=
 BB.mono h (fun b hb i=>⟨i,hb⟩) (fun _ _ _=>rfl) (by decide) fun r s i=>i.mod (Mod.refl (fun _=>False) _) (fun _ _ _ h=>h) fun b hb i=>⟨i,hb⟩
theorem Jt.mod{l:List To}(h:Jt S w v l)(hm:Mod M w w')(j:∀b,b<w.heap.size->S b->¬M b):Jt S w' v l:=
 BB.mono h (fun _ _ h=>h) (fun b hb i=>hm.same b hb (j b hb i)) (by decide) fun r s i=>i.mod hm j fun _ _ h=>h
def Ws(most:Int)(l:List To):Prop:=l.length<=30/\most<=2000/\∀s∈l,Aw s.x<=100
open Classical in
theorem Sy{E v:Value}{l:List To}(h:Jt S w v l)(hb:∀s∈l,Aw s.x<=1099511627776) :
  AB prog 9 [E,.int .i64 most,v] (fun v' w'=>v'=.bool (decide (Ws most l))/\Grow w w') w:=by
 apply iJ;obtain⟨a,c,rfl,hm⟩:=h.shape;simp only[maxLen] at hm;refine AT (fun _ w'=>w=w'/\l.length<=30/\most<=2000) ?_ ?_;rotate_left
 .rw[AP,BR];refine AF (fun e=>⟨by rw[kX fun h=>by have:=h.1;omega],Mod.refl _ _⟩) fun T=>?_;rw[BR];refine AF (fun e=>⟨by rw[kX fun h=>by have:=h.2.1;omega],Mod.refl _ _⟩) fun U=>⟨rfl,by omega,by omega⟩
 rintro _ _ ⟨rfl,h1,I⟩ _;rw[AP];refine Ab (fun vs w'=>∃(i:Nat),i<=l.length/\vs=[.int .i64 i]/\Grow w w'/\∀s∈l.take i,Aw s.x<=100) (fun vs _=>l.length-Ds vs 0) ⟨0,Nn _,rfl,Mod.refl _ _,fun s o=>by simp at o⟩ ?_;rintro vs V ⟨i,hi,rfl,g,ht⟩ _;simp only[B0,Of];refine H6 (fun J=>?_) fun O=>?_;rotate_left
 .obtain rfl:i=l.length:=by omega
  rw[Nr] at ht;exact⟨by rw[kj ⟨h1,I,ht⟩],g⟩
 have j:i<l.length:=by omega
 obtain⟨p,r,rfl,_,hr,hc,X,rfl,Q⟩:=h.get j;refine AU j ?_;rw[AG,Addr.add_add];refine AK (g.cell (hc 0 _ rfl) fun h=>h) ?_;refine AA (ZF (BE.grow Q g) (hb _ (gC j))) ?_;rintro _ w2 ⟨rfl,B⟩;rw[BR];refine AF (fun e=>⟨by rw[kX fun h=>by have:=h.2.2 _ (gC j);omega],g.trans B⟩) fun e=>?_;rw[AR,AO (by omega)];refine⟨⟨i+1,j,rfl,g.trans B,fun s o=>?_⟩,by rw[DG,DG];omega⟩;rw[No,By j] at o;rcases DN.1 o with o|o
 .exact ht s o
 .simp at o;subst o;omega
noncomputable def G9(ks:List DKey)(most:Int)(d:List Cel)(x:List Dop):List Cel:=if Ej ks x d.length most=0 then FW ks d x else d
structure DocM (ks:List DKey) (most:Int) (d:List Cel):Prop where
 g:NI ks d
 pos:1<=d.length
 le:(d.length:Int)<=most
theorem Wg(h:1<=most):DocM ks most [⟨10,[]⟩]:=⟨⟨fun c hc=>by simp only[P9] at hc;subst hc;exact ET.nil,rfl⟩,Lc _,h⟩
theorem XZ(o:Dop):1<=DR o:=by unfold DR;omega
theorem N3(x:List Dop):x.length<=Aw x:=by
 induction x with
 |nil=>exact Lc _
 |cons o x i=>
  have e:Aw (o::x)=DR o+Aw x:=by simp[Aw]
  have:=XZ o;rw[e,Vn];omega
abbrev Gj:Nat:=17610000
section
variable {w0:World}{F:Nat->Prop}{W:World}{a:TxA}{σ:SKs}{most:Int}{N:Nat}{d:List Cel}
theorem Tk{x:List Dop}(h:GP .f w0 F W a σ most d N)(Q:E2 w0)(j:DocM σ.ks most d)(E:σ.ks.length<=64)(T:∀k∈σ.ks,EZ k)(U:BE S S W v x)(I:∀y,S y->¬F y)(V:∀o∈x,Ml o)(hl:x.length<=1048576)(hm:most<=2000)(hN:N+Nz 4000 x<=1000000000) :
  AB prog 12 [.pointer (some ⟨a.b,0,none⟩),v] (fun v' w'=>v'=.int .i64 (Ej σ.ks x d.length most)/\K4 .f w0 F W w' a σ most (G9 σ.ks most d x) (N+Nz 4000 x)/\DocM σ.ks most (G9 σ.ks most d x)) W:=by
 have J:=j.le;refine AA (Hc (B:=4000) h Q j.g E T U (fun y X=>I y (X.elim id id)) V (by omega) (by omega) (fun i=>?_) (by omega) (by omega)) ?_
 .have:=i.most;have:=i.Tg;omega
 rintro _ w' ⟨rfl,h1,Y⟩;refine⟨rfl,h1,?_⟩;unfold G9;split
 .rename_i e;have i:=(Fv (by omega)).1 e;have:=ZT (ks:=σ.ks) (x:=x) (d:=d) (fun o Z=>(i.Fc o Z).1) i.Tg;have:=i.most;have O:=Y e;refine⟨O,?_,by omega⟩;have:FW σ.ks d x≠[]:=bf O.last;exact lT.2 this
 .exact j
theorem PJ{x:List Dop}(h:GP .f w0 F W a σ most d N)(B:E2 w0)(E:DocM σ.ks most d)(i:σ.ks.length<=64)(I:∀k∈σ.ks,EZ k)(J:BE S S W v x)(j:∀y,S y->¬F y)(O:∀o∈x,Ml o)(hl:x.length<=100)(hm:most<=2000)(U:N+Gj<=1000000000) :
  AB prog 12 [.pointer (some ⟨a.b,0,none⟩),v] (fun v' w'=>v'=.int .i64 (Ej σ.ks x d.length most)/\K4 .f w0 F W w' a σ most (G9 σ.ks most d x) (N+Gj)/\DocM σ.ks most (G9 σ.ks most d x)) W:=by
 have Q:Nz 4000 x<=Gj:=by
  show 2*x.length*(22*4000+50)<=17610000;omega
 refine AA (Tk h B E i I J j O (by omega) hm (by omega)) ?_;rintro _ w' ⟨rfl,h1,T⟩;exact⟨rfl,h1.up (by omega),T⟩
theorem RL(i:De C W sv ks)(j:E2 w0)(g:Grow w0 W) :
  AB prog 11 [sv,.int .i64 most] (fun v' w'=>Grow W w'/\((1<=most/\most<536870912/\∃a F,v'=.tuple #[.pointer (some ⟨a.b,0,none⟩),.int .i64 0]/\(∀x,F x->W.heap.size<=x)/\GP .f w0 F w' a ⟨sv,ks,fun x=>C x/\x<W.heap.size⟩ most [⟨10,[]⟩] 24)\/((most<1\/536870912<=most)/\v'=.tuple #[.pointer none,.int .i64 2]))) W:=
 PY (σ:=⟨sv,ks,fun x=>C x/\x<W.heap.size⟩) (i.sub fun _ o h=>⟨h,o⟩) (fun _ h=>h.2) j g
end
noncomputable def VY(ks:List DKey)(most:Int)(d:List Cel)(l:List To):List Cel:=l.foldl (fun d s=>G9 ks most d s.x) d
section
variable {w0:World}{F:Nat->Prop}{W:World}{a:TxA}{σ:SKs}{most:Int}{N:Nat}{d:List Cel}
end
end Go.Proofs.YtmdhibffnkhcnaaGreatDoor
