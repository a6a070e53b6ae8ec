/- parts of the proof, written short by a program of ours -/
import Derived.Test.YtbdjachmndlplaaGreatDoorZEngineNone8
set_option maxRecDepth 100000
set_option linter.unusedSimpArgs false
set_option linter.unusedVariables false
set_option linter.defProp false
namespace Go.Proofs.YtbdjachmndlplaaGreatDoor
open Go Proofs.Tryz
variable {B N:Nat}{w W W' w0:World}{F S C M:Nat->Prop}{v sv fr:Value}{most:Int}{cs args:List Value}{α:Type}{a:List Dop}{K:Cont}{ks:List DKey}{P:Program}{σ:SKs}{yo xo:Operand}
structure JW (ks:List DKey) (d:List Cel):Prop where
 set:∀c∈d,Et ks c.set
 last:(Al d).getLast?=some 10
def Gx.up{k:TxK}{a:TxA}{N N':Nat}{d:List Cel}(h:Gx k w0 F W a σ most d N)(j:N<=N'):Gx k w0 F W a σ most d N':=by
 obtain⟨z,l2,t,f,h1,m,o,q,B,I,O⟩:=h;obtain⟨own,G,l1,J,i⟩:=m;exact⟨z,l2,t,f,h1,⟨own,G,l1,J,i.box,i.Hw.up j,i.EX.up j,i.para.up j,i.Vv,i.HN,i.cb,i.cr,i.cs,i.cp,i.ct,i.cS,i.lo,i.hl,i.g⟩,o,q,B,I,by omega⟩
def Gx.grow{k:TxK}{a:TxA}{d:List Cel}(h:Gx k w0 F W a σ most d N)(g:Grow W W'):Gx k w0 F W' a σ most d N:=by
 obtain⟨z,l2,t,f,h1,i,j⟩:=h;exact⟨z,l2,t,f,h1,i.grow g,j⟩
def Gx.mod{k:TxK}{a:TxA}{d:List Cel}(h:Gx k w0 F W a σ most d N)(hm:Mod M W W')(i:∀x,M x->¬F x/\¬σ.S x/\w0.heap.size<=x):Gx k w0 F W' a σ most d N:=by
 obtain⟨z,l2,t,f,h1,j,m⟩:=h;exact⟨z,l2,t,f,h1,j.mod hm i,m⟩
def Gx.hl{k:TxK}{a:TxA}{d:List Cel}(h:Gx k w0 F W a σ most d N):∀x,F x->w0.heap.size<=x/\x<W.heap.size/\¬σ.S x:=by
 obtain⟨z,l2,t,f,h1,i,j⟩:=h;exact i.hl
def Gx.box{k:TxK}{a:TxA}{d:List Cel}(h:Gx k w0 F W a σ most d N):Bx W a.b (ZP σ.sv most a.r a.s a.p a.t)/\F a.b:=by
 obtain⟨z,l2,t,f,h1,i,j⟩:=h;exact i.box
def Gx.HN{k:TxK}{a:TxA}{d:List Cel}(h:Gx k w0 F W a σ most d N):CK σ.S W σ.sv σ.ks/\∀x,σ.S x->x<W.heap.size:=by
 obtain⟨z,l2,t,f,h1,i,j⟩:=h;exact i.HN
def Gx.g{k:TxK}{a:TxA}{d:List Cel}(h:Gx k w0 F W a σ most d N):Grow w0 W:=by
 obtain⟨z,l2,t,f,h1,i,j⟩:=h;exact i.g
def Gx.Hw{a:TxA}{d:List Cel}(h:Gx .f w0 F W a σ most d N):∃l1 Fr bt,BR l1=Al d/\Dk Ap.toAvT Fr Gl W a.r bt l1 N:=by
 obtain⟨z,l2,t,f,h1,i,o⟩:=h;obtain⟨l1,Fr,bt,j,m,_⟩:=i.Tm;exact⟨l1,Fr,bt,j,m⟩
def Lk.next{k:TxK}{F i:Nat->Prop}{W j W':World}{a:TxA}{d:List Cel}(hF:∀x,i x->F x\/W.heap.size<=x)(hm:Mod F W j)(h:Lk k w0 i j W' a σ most d N):Lk k w0 F W W' a σ most d N:=by
 obtain⟨o,h1,q,B⟩:=h;have z:=hm.size;refine⟨o,λx m=>?_,q,hm.next B λx m e=>?_⟩
 .rcases h1 x m with e|e
  .exact hF x e
  .exact .inr (by omega)
 .rcases hF x e with e|e
  .exact e
  .omega
def Lk.step{k:TxK}{W i W':World}{a:TxA}{d:List Cel}(g:Grow W i)(h:Lk k w0 F i W' a σ most d N):Lk k w0 F W W' a σ most d N:=Lk.next (λ_ h=>.inl h) (g.mono λ_ _ h=>h.elim) h
def Lk.up{k:TxK}{a:TxA}{N N':Nat}{d:List Cel}(h:Lk k w0 F W W' a σ most d N)(i:N<=N'):Lk k w0 F W W' a σ most d N':=by
 obtain⟨F',h1,j,m⟩:=h;exact⟨F',h1,j.up i,m⟩
def HZ(ks:List DKey)(p:List Chg)(c:Cel):Cel:=if c.r=10 then⟨10,BZ c.set (CP ks true p)⟩ else c
def MN(ks:List DKey)(p:List Chg)(c:Cel):(HZ ks p c).r=c.r:=by unfold HZ;split<;>simp_all
def JM(ks:List DKey)(p:List Chg)(d:List Cel)(i j m:Nat):List Cel:=d.mapIdx λk c=>if i<=k/\k<m then Ce ks p c else if i<=k/\k<j then HZ ks p c else c
def FP(ks:List DKey)(p:List Chg)(d:List Cel)(i j m k:Nat):(JM ks p d i j m)[k]?=d[k]?.map λc=>if i<=k/\k<m then Ce ks p c else if i<=k/\k<j then HZ ks p c else c:=by
 rw[JM,List.getElem?_mapIdx]
def Qb(ks:List DKey)(p:List Chg)(d:List Cel)(i j m:Nat):(JM ks p d i j m).length=d.length:=List.length_mapIdx
def OL(ks:List DKey)(p:List Chg)(d:List Cel){i j:Nat}(m:i<=j)(o:j<=d.length):JM ks p d i j i=Nl d i j (HZ ks p):=by
 refine mj λk=>?_;rw[FP,O2 d _ m o];by_cases h:i<=k/\k<j
 .rw[DN h];simp only[h,mF,show ¬k<i by omega,and_false,lW,and_self]
 .rw[Bp h];simp only[h,lW,show ¬(i<=k/\k<i) by omega,Option.map_id_fun'];rfl
def OR(ks:List DKey)(p:List Chg)(d:List Cel){i j:Nat}(m:i<=j)(o:j<=d.length):JM ks p d i j j=Nl d i j (Ce ks p):=by
 refine mj λk=>?_;rw[FP,O2 d _ m o];by_cases h:i<=k/\k<j
 .rw[DN h];simp only[h,mF,and_self]
 .rw[Bp h];simp only[h,lW,Option.map_id_fun'];rfl
def Zh(ks:List DKey)(p:List Chg)(d:List Cel)(i j m:Nat):Al (JM ks p d i j m)=Al d:=by
 refine mj λk=>?_;rw[Al,Al,ly,ly,FP,Option.map_map];congr 1
 funext c
 show Cel.r (ite _ _ _)=c.r;split
 .rfl
 .split
  .exact MN ks p c
  .rfl
def Vb{p:List Chg}{d:List Cel}{i j m q:Nat}(U:i<=m)(V:m<=j)(hj:j<=d.length)(X:m<=q)(Y:(Al d)[q]?=some 10)(I:∀k,m<=k->k<q->(Al d)[k]?≠some 10) :
  Nl (JM ks p d i j m) m (min q j) (λc=>⟨c.r,BZ c.set (CP ks false p)⟩)=JM ks p d i j (min (q+1) j):=by
 have hr:∀k,(Al d)[k]?=d[k]?.map Cel.r:=λk=>ly;refine mj λk=>?_;rw[O2 _ _ (by omega) (by rw[Qb];omega),FP,FP];cases Z:d[k]? with
 |none=>simp
 |some c=>
  simp only[mw];have o:=hr k;rw[Z,mw] at o;by_cases h1:m<=k/\k<min q j
  .have B:c.r≠10:=λe=>I k h1.1 (by omega) (by rw[o,e]);rw[DN h1,Bp (by omega),DN (by omega),DN (by omega)];congr 1
   simp only[HZ,Bp B,Ce,Mk,lh B]
  .rw[Bp h1];by_cases O:i<=k/\k<m
   .rw[DN O,DN (by omega)]
   .rw[Bp O];by_cases Q:i<=k/\k<min (q+1) j
    .have J:k=q:=by omega
     subst J;have he:c.r=10:=by rw[Y] at o;exact(lK o).symm
     rw[DN (by omega),DN Q];simp only[HZ,Ce,Mk,he,mF,decide_true]
    .rw[Bp Q]
section
variable {w0:World}{F:Nat->Prop}{W:World}{a:TxA}{σ:SKs}{most:Int}{N:Nat}{d:List Cel}
def Yx{i j:Nat}{p:List Chg}(h:Gx .f w0 F W a σ most d N)(hT:EA w0)(hG:JW σ.ks d)(bb:σ.ks.length<=64)(o:i<=j)(Z:j<=d.length)(hp:EV S W v p)(bc:∀x,S x->¬F x)(an:Hb σ.ks p)
 (hz:d.length<=10000000)(hN:N+22*d.length+50<=1000000000) :
  AB prog 116 [.pointer (some ⟨a.b,0,none⟩),zI (i:Int),zI (j:Int),v] (λv' w'=>v'=.tuple #[]/\Lk .f w0 F W w' a σ most (Nl d i j (Ce σ.ks p)) (N+22*d.length+50)) W:=by
 have a1:(Al d).length=d.length:=I3 _;have bd:=an.1.2.1;have ee:=h.hl;refine uS4 (dB 2581311005193293 [([],[(8,8),(14,34)]),([10],[(10,13),(42,74)]),([],[(42,49)])] [(dC [6,9,11] [0,1,3,7,0,0,48,0,0,496,0,2047] []),(dC [6,8] [0,1,3,7,0,0,48,112,255,511,1023,1023,2047,8191] [[6]])]) func116 (λ_ _ _ _ _ _=>⟨by conv=>lhs;reduce,by dsimp only[PI,AF],by kernel_rfl⟩) ?_;unfold uI;refine AR (λ_ W1=>Lk .f w0 F W W1 a σ most (JM σ.ks p d i j i) (N+d.length+4)) ?_ ?_
 .rintro _ W1 ⟨F1,f1,h1,M1⟩ _;have bk:EV (λx=>S x/\x<W.heap.size) W1 v p:=An.mod (hp.Gw (by decide)) M1 (λx _ B e=>bc x B.1 e) (by decide) λ_ _ h=>h;refine AG ?_;refine Az (h1.box.1.cells 0 _ rfl) ?_;refine AA (KG (b:=false) h1.HN.1 bk (by omega)) ?_;rintro iv W2 ⟨bl,g2⟩;have h2:=h1.grow g2;have z1:=M1.size;have z2:=g2.size;have a6:=h1.hl;have a7:=bl.Gw (by decide);obtain⟨va,vc,bs,_⟩:=a7.shape;have Q:Dr iv=Dr (.slice va (CP σ.ks false p).length vc):=by rw[bs]
  have M2:Mod F W W2:=M1.next g2 λ_ _ e=>e.elim;have a8:=an.part false;have bx:∀x,F1 x->F x\/W.heap.size<=x:=f1;refine AU (λvs W'=>∃m F',i<=m/\m<=d.length/\vs=[zI (m:Int)]/\(∀x,F' x->F1 x\/W2.heap.size<=x)/\Gx .f w0 F' W' a σ most (JM σ.ks p d i j (min m j)) (N+d.length+4+21*(min m j-i))/\Mod F1 W2 W'/\(m<=j\/True)) (λvs _=>d.length+1-Dh vs 0)
   ⟨i,F1,K8 _,by omega,rfl,λ_ h=>.inl h,by rw[lQ o,p5];exact h2,Mod.refl _ _,.inr trivial⟩ ?_
  rintro vs W3 ⟨m,F3,bZ,ef,rfl,f3,U,M3,_⟩ _;simp only[BQ,Nr];have z3:=M3.size;have fin:min m j=j\/CP σ.ks false p=[]->Lk .f w0 F W W3 a σ most (Nl d i j (Ce σ.ks p)) (N+22*d.length+50):=λe=>by
   have ed:JM σ.ks p d i j (min m j)=Nl d i j (Ce σ.ks p):=by
    rcases e with e|e
    .rw[e,OR _ _ _ o Z]
    .rw[<-OR _ _ _ o Z];refine mj λk=>?_;rw[FP,FP];congr 1
     funext c
     have c4:HZ σ.ks p c=Ce σ.ks p c:=by
      unfold HZ Ce Mk;by_cases hc:c.r=10
      .rw[DN hc,hc];rfl
      .rw[Bp hc,lh hc,e];rfl
     rw[c4];by_cases q1:i<=k/\k<j
     .rw[DN q1,DN q1];split<;>rfl
     .rw[Bp q1,Bp q1,Bp (by omega)]
   rw[ed] at U;exact Lk.next bx M2 ((Lk.up ⟨F3,f3,U,M3⟩ (by omega)))
  refine AR (λ_ W'=>W'=W3/\m<j) ?_ ?_;rotate_left
  .rw[Q,AO,BE];refine AD (λc6=>?_) λc7=>?_
   .rw[Ai];refine AD (λaZ=>⟨rfl,by omega⟩) λc8=>⟨trivial,fin (.inl (by omega))⟩
   .exact⟨trivial,fin (.inr (Of (by omega)))⟩
  rintro _ _ ⟨rfl,eh⟩ _;rename World=>W3
  have b0:min m j=m:=by omega
  rw[b0] at U;generalize hD:JM σ.ks p d i j m=D at U;have ej:D.length=d.length:=by rw[<-hD,Qb]
  have av:Al D=Al d:=by rw[<-hD,Zh]
  have gd:Grow W3 W3.drew:=Mod.drew _ _;have ax:=U.grow gd;obtain⟨l1,Fr,bt,J,hO⟩:=ax.Hw;have c9:(BR l1).length=d.length:=by rw[J,av,a1]
  obtain⟨q,n1,n2,n3,n4,n5,n6,n7⟩:=bW (rs:=Al d) (p:=m) (by omega) hG.last;refine AT (λ_ _=>False) ?_;refine AG ?_;rw[AH,AI];refine AP ⟨ax.box.1.cells 2 _ rfl,λj Z e=>e⟩ ?_;refine AA (HU ax.box.1 hO (i:=m) (by omega) (by omega)) ?_;rintro _ W4 ⟨rfl,g4⟩;refine⟨g4.mono λ_ _ h=>h.elim,?_⟩;have e9:=DL (Al d);rw[J,av,AM,wrap64 (by omega) (by omega),show((BJ ((Al d).take m):Int)+1)=((BJ ((Al d).take m)+1:Nat):Int) by omega];refine AA (LN (hO.grow g4) (k:=BJ ((Al d).take m)+1) (by omega)) ?_;rintro _ W5 ⟨rfl,g5⟩;refine⟨g5.mono λ_ _ h=>h.elim,?_⟩;have b1:La (BR l1) (BJ ((Al d).take m)+1)=.tuple #[zI ((q+1:Nat):Int),zI 0]:=by
   rw[J,av];unfold La;rw[Bp (by omega),Bp (by omega),ph,n1]
  rw[b1];refine BI ?_;have ca:(if(j:Int)<((q+1:Nat):Int)-1 then(j:Int) else((q+1:Nat):Int)-1)=((min q j:Nat):Int):=by split<;>omega
  rw[Am,wrap64 (by omega) (by omega),Hi,ca,Ai];have O:=(gd.trans g4).trans g5;have ek:=O.size;have step:=Vb (ks:=σ.ks) (p:=p) bZ (by omega) Z n2 n4 n5;have ea:=U.hl;have cc:min (q+1) j=(if q<j then q+1 else j):=by split<;>omega
  refine AD (λaZ=>?_) λc8=>?_
  .have cd:EV (λx=>W1.heap.size<=x/\x < W2.heap.size) W5 iv (CP σ.ks false p):=An.grow (An.mod a7 M3 (λx _ B e=>by have:=(a6 x e).2.1;omega) (by decide) λ_ _ h=>h) O (by decide) λ_ _ h=>h;refine AA (TF (i:=m) (j:=min q j) (U.grow O) hT (by omega) (by omega) cd (λx B e=>by
     rcases f3 x e with e|e
     .have:=(a6 x e).2.1;omega
     .omega) a8.1.2.1 (λc hc=>?_) (by omega) (by omega)) ?_
   .obtain⟨k,hk⟩:=lz.1 hc;have ch:=(Ad.1 hk).1;rw[Hy,Lc] at ch;rw[mM,mT,DN (by omega),<-hD,FP] at hk;cases V:d[m+k]? with
    |none=>rw[V] at hk;simp at hk
    |some c0=>
     rw[V,mw,Bp (by omega),DN (by omega)] at hk;have b2:c0.r≠10:=λe=>n5 (m+k) (by omega) (by omega) (by rw[Al,ly,V,mw,e]);have cu:c=c0:=by have:=lK hk;rw[<-this,HZ,Bp b2]
     subst cu;have hs:=(hG.set c (ln V)).app bb a8;exact⟨b2,EJ.2 hs.1,hs.2⟩
   rintro _ W6 ⟨rfl,F6,f6,h6,M6⟩;have e6:D.take m++((D.take (min q j)).drop m).map (λc=>(⟨c.r,BZ c.set (CP σ.ks false p)⟩:Cel))++D.drop (min q j)=JM σ.ks p d i j (min (q+1) j):=by rw[<-hD];exact step
   rw[e6] at h6;refine⟨⟨q+1,F6,by omega,by omega,rfl,λx B=>?_,h6.up (by omega),?_,.inr trivial⟩,by rw[Bw,Bw];omega⟩
   .rcases f6 x B with e|e
    .exact f3 x e
    .exact .inr (by omega)
   .refine(M3.next O λ_ _ e=>e.elim).next M6 λx B e=>?_;rcases f3 x e with e|e
    .exact e
    .omega
  .have cx:q=m:=by omega
   have e6:D=JM σ.ks p d i j (min (q+1) j):=by
    rw[<-step,cx,lQ (by omega),hD];refine(Y2 _ _ (K8 _) λc hc=>?_).symm;simp at hc
   rw[e6] at U;refine⟨⟨q+1,F3,by omega,by omega,rfl,f3,(U.grow O).up (by omega),M3.next O λ_ _ e=>e.elim,.inr trivial⟩,by rw[Bw,Bw];omega⟩
 .refine AG ?_;refine Az (h.box.1.cells 0 _ rfl) ?_;refine AA (KG (b:=true) h.HN.1 hp (by omega)) ?_;rintro bv W1 ⟨b6,g1⟩;have h1:=h.grow g1;have da:=an.part true;obtain⟨va,vc,dk,_⟩:=b6.shape;have Q:Dr bv=Dr (.slice va (CP σ.ks true p).length vc):=by rw[dk]
  rw[Q,AO,BE];refine AD (λc6=>?_) λc7=>?_;rotate_left
  .have e0:CP σ.ks true p=[]:=Of (by omega);have ed:JM σ.ks p d i j i=d:=by
    rw[OL _ _ _ o Z];refine Y2 d _ o λc hc=>?_;unfold HZ;rw[e0];split
    .rename_i b7;rw[<-b7];rfl
    .rfl
   rw[ed];exact⟨F,λ_ h=>.inl h,h1.up (by omega),g1.mono λ_ _ h=>h.elim⟩
  have gd:Grow W1 W1.drew:=Mod.drew _ _;have X:=h1.grow gd;obtain⟨l1,Fr,bt,J,hO⟩:=X.Hw;have c9:(BR l1).length=d.length:=by rw[J,a1]
  refine AT (λq y=>q=11/\F y) ?_;refine AG ?_;rw [AH,AI];refine AP ⟨X.box.1.cells 4 _ rfl,λj Z e=>by obtain ⟨rfl,_⟩:=e;exact absurd Z (by decide)⟩ ?_;refine AA (HU X.box.1 hO (i:=i) (by omega) (by omega)) ?_;rintro _ W2 ⟨rfl,g2⟩;refine ⟨g2.mono λ_ _ h=>h.elim,?_⟩;have h2:=X.grow g2;refine AA (HU h2.box.1 (hO.grow g2) (i:=j) (by omega) (by omega)) ?_;rintro _ W3 ⟨rfl,g3⟩;refine ⟨g3.mono λ_ _ h=>h.elim,?_⟩;have b8:=(gd.trans g2).trans g3;have U:=h2.grow g3;obtain ⟨z,l2,t,f,dr,hM,dA,hu,hh,ay,bd⟩:=U;obtain ⟨Fp,Cp,bp,dT,e3,put⟩:=hM.Tq;rw [J];have e4:BJ ((Al d).take i)<=BJ ((Al d).take j):=nV _ (by
   rw [<-lQ o,<-nB];exact oB _ _)
  have e5:BJ ((Al d).take j)<=BJ (Al d):=nV _ (oB _ _);have en:=DL (Al d);have b9:∀x∈Bb d,x.length<=64:=λx B=>by
   obtain⟨c,hc,rfl⟩:=lT.1 B;exact(hG.set c (mg.1 hc).1).len
  have e7:=An.grow b6 b8 (by decide) λ_ _ h=>h;have ec:=da.1.2.1;refine AA (Y9 dT (by omega) e4 (by rw [DU];exact e5) (by rw [DU];omega) (λx B=>by have:=b9 x B;omega) e7 (λx B=>by have:=b9 x B;omega)) ?_;rintro _ W4 ⟨rfl,eo,ep,_,_,k3,k4,k5,m4⟩;rw [DU] at k5;obtain ⟨F4,f4,ba,M4⟩:=put m4 (λx B=>by
   rcases B with B|B
   .exact(k3 x B).imp .inl λh=>h
   .exact (k4 x B).imp .inr λh=>h) k5 (by omega)
  refine⟨m4.mono λx _ B=>⟨rfl,e3 x (.inl B)⟩,?_⟩;have ak:=Yq d o (HZ σ.ks p) (g':=λx=>BZ x (CP σ.ks true p)) (MN σ.ks p) (λc hc=>by unfold HZ;rw[DN hc]);rw[<-ak] at ba;have al:=XJ d (HZ σ.ks p) o (MN σ.ks p);rw[OL _ _ _ o Z];refine Lk.step (g1.trans b8) ⟨F4,f4,⟨z.take i++((z.take j).drop i).map (λq=>(HZ σ.ks p q.1,q.2))++z.drop j,l2,t,f,?_,?_,dA,?_,hh.congr λx=>?_,λq Y=>?_,by omega⟩,M4⟩
  .clear ak al;subst dr;unfold Nl;simp only[kZ,nu,mO,mX,Function.comp_def]
  .rw[al];obtain⟨own,G,l4,e1,I⟩:=ba;have hn:BJ (Al d)<=d.length:=by omega
   exact⟨own,G,l4,e1,I.box,I.Hw.up (by omega),I.EX.up (by omega),I.para.up (by omega),I.Vv,I.HN,I.cb,I.cr,I.cs,I.cp,I.ct,I.cS,I.lo,I.hl,I.g⟩
  .have e1:(z.take i++((z.take j).drop i).map (λq:Cel×Int=>(HZ σ.ks p q.1,q.2))++z.drop j).map Prod.snd=z.map Prod.snd:=by
    have h1:=(TC i (z.take j)).symm;rw[nB,lQ o] at h1;conv=>rhs;rw[<-TC j z,h1]
    simp only[kZ,nu];rfl
   rw[e1,hu]
  .have e1:(z.take i++((z.take j).drop i).map (λq:Cel×Int=>(HZ σ.ks p q.1,q.2))++z.drop j).map Prod.snd=z.map Prod.snd:=by
    have h1:=(TC i (z.take j)).symm;rw[nB,lQ o] at h1;conv=>rhs;rw[<-TC j z,h1]
    simp only[kZ,nu];rfl
   rw[e1]
  .rcases By.1 Y with Y|Y
   .rcases By.1 Y with Y|Y
    .exact ay q (lJ Y)
    .obtain⟨q0,e8,rfl⟩:=lT.1 Y;obtain⟨o1,o2⟩:=ay q0 (lJ (ky e8));refine⟨λe=>o1 (by rw[<-MN σ.ks p];exact e),λe=>?_⟩;have e':q0.1.r≠10:=by rw[<-MN σ.ks p];exact e
     show f q0.2=(HZ σ.ks p q0.1).set;rw[o2 e',HZ,Bp e']
   .exact ay q (ky Y)
end
def Pf{l:List Int}(h:I6 S w v l):AB prog 287 [v] (λv' w'=>v'=zI (BJ l:Int)/\w'=w) w:=by
 refine uS1 (dB 35263026610889 [([3,8],[(3,3),(5,5),(8,16)])] []) func287 (λ_ _ _=>⟨by conv=>lhs;reduce,by dsimp only[PI,AF],by kernel_rfl⟩) ?_;unfold uI;obtain⟨a,c,rfl,hm⟩:=h.shape;simp only[maxLen] at hm;rw[AO];refine AU (λvs w'=>∃i:Nat,i<=l.length/\vs=[zI (BJ (l.take i):Int),zI i]/\w'=w) (λvs _=>l.length-Dh vs 1) ⟨0,Nn _,rfl,rfl⟩ ?_;rintro vs _ ⟨i,hi,rfl,rfl⟩ _;rename World=>w
 simp only[FC];refine G9 (λo=>?_) λq=>?_
 .have j:i<l.length:=by omega
  obtain⟨p,r,rfl,_,hr,hc,rfl⟩:=h.get j;refine AS j (AJ (hc 0 _ rfl) ?_);rw[Aa];have e:BJ (l.take (i+1))=BJ (l.take i)+if l[i]=10 then 1 else 0:=by
   have:l.take (i+1)=l.take i++[l[i]]:=by rw[S5];simp[j]
   rw[this,ER];by_cases m:l[i]=(10:Int)<;>simp[BJ,m]
  have hb:=DL (l.take i);rw[Lc] at hb;refine AD (λm=>?_) λm=>?_
  .rw[AM,AM,AK (by omega),AK (by omega)];refine⟨⟨i+1,j,?_,rfl⟩,by rw[Ar,Ar];omega⟩;rw[e,DN m]
  .rw[AM,AK (by omega)];refine⟨⟨i+1,j,?_,rfl⟩,by rw[Ar,Ar];omega⟩;rw[e,Bp m];rfl
 .obtain rfl:i=l.length:=by omega
  rw[S7];exact⟨rfl,trivial⟩
def BX.jE{o:Dop}(h:BX ks o):Bh o=(Bk o:Int)-o.Ab.length/\Bn o=(Bk o:Int)-(if o.kind=3 then o.n else 0)/\0<=Bh o/\Bh o<=Bk o/\0<=Bn o/\Bn o<=Bk o:=by
 unfold Bh Bn Bk MP;rcases h with⟨h1,i,j,m,q⟩|⟨h1,i,j,m,q⟩|⟨h1,i,j,m,q,B⟩
 .rw[h1,i];simp;omega
 .rw[h1,i];simp;omega
 .rw[h1];simp
def CN(n:Int):Int->List Dop->Prop
 |_,[]=>True
 |p,o::x=>if o.kind=2 then p≠n/\CN n p x else if o.kind=3 then p+o.n≠n/\CN n (p+o.n) x else CN n (p+o.n) x
def Dl(ks:List DKey)(o:Dop):Prop:=o.kind=2->o.set≠[]->(0<(CL ks true o.set).length\/0<BJ o.Ab)->(CL ks true o.set).length=o.set.length/\BJ o.Ab=o.Ab.length
open Classical in
noncomputable def Cj(ks:List DKey)(x:List Dop)(n most:Int):Int:=if DJ ks x≠0 then DJ ks x else if n<1\/most<n\/n<Cq Bh x then 5 else if ¬CN n 0 x then 6 else if ¬(∀o∈x,Dl ks o) then 7 else if most<n-Cq Bh x+Cq Bn x then 8 else 0
open Classical in
def Zp{S D:Nat->Prop}{x:List Dop}{n:Int}(h:Ak S D w v x)(Z:∀o∈x,BX ks o/\Bk o<=536870912)(hl:x.length<=1048576) :
  AB prog 184 [v,zI n] (λv' w'=>v'=.bool (decide (CN n 0 x))/\Grow w w') w:=by
 refine uS2 (dB 154790475851705806190155337 [([5,10],[(4,5),(7,7),(10,33)]),([],[(4,4),(14,28)])] []) func184 (λ_ _ _ _=>⟨by conv=>lhs;reduce,by dsimp only[PI,AF],by kernel_rfl⟩) ?_;unfold uI;obtain⟨a,c,rfl,hm⟩:=h.shape;rw[AO];refine AU (λvs w'=>∃(i p:Nat),i<=x.length/\vs=[zI (p:Int),zI i]/\p<=i*536870912/\Grow w w'/\(CN n 0 x↔CN n p (x.drop i))) (λvs _=>x.length-Dh vs 1) ⟨0,0,Nn _,rfl,Nn _,Mod.refl _ _,pJ⟩ ?_;rintro vs w1 ⟨i,p,hi,rfl,hp,g,m⟩ _;simp only[FC];refine G9 (λa1=>?_) λa6=>?_;rotate_left
 .obtain rfl:i=x.length:=by omega
  rw[nd] at m;exact⟨by rw[lq (m.2 trivial)],g⟩
 have B:i<x.length:=by omega
 obtain⟨q,r,rfl,hS,hr,hc,U⟩:=(Ak.grow h g).get B;refine AS B (AV hr (λj u hu=>by rw[Addr.add_add];exact hc j u hu) ?_);refine BH hr rfl U.one λb w2 hb hz g2 J _=>?_;obtain⟨rv,sv,pv,rfl,h1,h2,h3⟩:=id U;rw[mI B,CN] at m;obtain⟨X,V⟩:=Z x[i] (ku B);have I:=g.trans g2;have Y:x[i].kind≠2->0<=x[i].n/\x[i].n<=536870912:=λhk=>by
  rcases X with⟨h1,_,_,h4,_⟩|⟨h1,_,_,_,h4⟩|⟨h1,_⟩
  .rw[Bk,Bp hk] at V;omega
  .rw[Bk,Bp hk] at V;omega
  .exact absurd h1 hk
 refine AR (λ_ w'=>x[i].kind≠2/\w'=w2/\(CN n 0 x↔CN n ((p:Int)+x[i].n) (x.drop (i+1)))) ?_ ?_
 .rintro _ _ ⟨hk,rfl,O⟩ _;obtain⟨n1,n2⟩:=Y hk;rw[AH];refine AJ (J 1 _ rfl) ?_;rw[AM,wrap64 (by omega) (by omega),AM,AK (by omega)];refine⟨⟨i+1,p+x[i].n.toNat,B,?_,by omega,I,?_⟩,by rw[Ar,Ar];omega⟩
  .rw[show(p:Int)+x[i].n=((p+x[i].n.toNat:Nat):Int) by omega]
  .rw[O,show(p:Int)+x[i].n=((p+x[i].n.toNat:Nat):Int) by omega]
 .rw[AH];refine AJ (J 0 _ rfl) ?_;rw[Aa];refine AD (λhk=>?_) λhk=>?_
  .rw[DN hk] at m;rw[Aa];refine AD (λe=>⟨by rw[lh λh=>(m.1 h).1 e],I⟩) λe=>?_;rw[AM,AK (by omega)];refine⟨⟨i+1,p,B,rfl,?_,I,m.trans ⟨λh=>h.2,λh=>⟨e,h⟩⟩⟩,by rw[Ar,Ar];omega⟩;exact lx hp (mV _ (rk i))
  .rw[Bp hk] at m;obtain⟨n1,n2⟩:=Y hk;rw[Aa];refine AD (λQ=>?_) λQ=>?_
   .rw[DN Q] at m;rw[AH];refine AJ (J 1 _ rfl) ?_;rw[AM,wrap64 (by omega) (by omega),Aa];refine AD (λe=>⟨by rw[lh λh=>(m.1 h).1 e],I⟩) λe=>?_;exact⟨hk,rfl,m.trans ⟨λh=>h.2,λh=>⟨e,h⟩⟩⟩
   .rw[Bp Q] at m;exact⟨hk,rfl,m⟩
open Classical in
def bB{E S D:Nat->Prop}{x:List Dop}(hS:CK E w sv ks)(h:Ak S D w v x)(hb:∀o∈x,o.set.length<=64) :
  AB prog 185 [sv,v] (λv' w'=>v'=.bool (decide (∀o∈x,Dl ks o))/\Grow w w') w:=by
 refine uS2 (dB 73810035335592515673 [([11],[(4,4),(6,8),(11,52)]),([],[(4,4),(6,8),(13,51)]),([],[(15,23)])] [(dC [3,7] [0,0,2,7,15,0,32,111,255,511] [[3]])]) func185 (λ_ _ _ _=>⟨by conv=>lhs;reduce,by dsimp only[PI,AF],by kernel_rfl⟩) ?_;unfold uI;obtain⟨a,c,rfl,hm⟩:=h.shape;simp only[maxLen] at hm;rw[AO];refine AU (λvs w'=>∃(i:Nat),i<=x.length/\vs=[zI i]/\Grow w w'/\∀o∈x.take i,Dl ks o) (λvs _=>x.length-Dh vs 0) ⟨0,Nn _,rfl,Mod.refl _ _,λo I=>by simp at I⟩ ?_;rintro vs w1 ⟨i,hi,rfl,g,U⟩ _;simp only[FC];refine G9 (λb9=>?_) λbb=>?_;rotate_left
 .obtain rfl:i=x.length:=by omega
  rw[S7] at U;exact⟨by rw[lq U],g⟩
 have m:i<x.length:=by omega
 refine AR (λ_ w'=>Dl ks x[i]/\Grow w1 w') ?_ ?_
 .rintro _ w' ⟨hp,g'⟩ _;rw[AM,AK (by omega)];refine⟨⟨i+1,m,rfl,g.trans g',λo I=>?_⟩,by rw[Bw,Bw];omega⟩;rw[S5,Bq m] at I;rcases By.1 I with I|I
  .exact U o I
  .simp at I;subst I;exact hp
 obtain⟨q,r,rfl,bd,hr,hc,a1⟩:=(Ak.grow h g).get m;refine AS m (AV hr (λj u hu=>by rw[Addr.add_add];exact hc j u hu) ?_);refine BH hr rfl a1.one λb w2 bk hz Z B _=>?_;obtain⟨rv,an,pv,rfl,h1,h2,h3⟩:=id a1;have bl:=hb x[i] (ku m);obtain⟨ra,rc,av,ax⟩:=h1.shape;obtain⟨sa,sc,a6,_⟩:=h2.shape;simp only[maxLen] at ax;refine AR (λ_ w'=>w'=w2/\x[i].kind=2/\x[i].set≠[]) ?_ ?_;rotate_left
 .rw[AH];refine AJ (B 0 _ rfl) ?_;rw[BL];refine AW (λhk=>?_) λhk=>⟨λh=>absurd h hk,Z⟩;rw[AH];refine AJ (B 3 _ rfl) ?_;rw[a6,AO,Aa];refine AD (λe=>⟨λ_ V=>absurd (Of (by omega)) V,Z⟩) λe=>⟨rfl,hk,λh=>e (by rw[h];rfl)⟩
 rintro _ _ ⟨rfl,hk,V⟩ _;rename World=>w2
 have X:Grow w2 w2.drew:=Mod.drew _ _;refine AT (λ_ _=>False) ?_;rw[AH];refine AP ⟨X.cell (B 3 _ rfl) λh=>h,λj hj e=>e⟩ ?_;refine AA (Js (b:=true) (((hS.grow g).grow Z).grow X) ((h2.grow Z (by decide) λ_ _ h=>h).grow X (by decide) λ_ _ h=>h) (by omega)) ?_;rintro bv w3 ⟨ay,g3⟩;obtain⟨ba,bc,rfl,_⟩:=ay.shape;refine⟨g3.mono λ_ _ h=>h.elim,?_⟩;rw[AO,AH];refine AP ⟨X.cell (B 2 _ rfl) λh=>h,λj hj e=>e⟩ ?_;refine AA (Pf (((h1.grow Z (by decide) λ_ _ h=>h).grow X (by decide) λ_ _ h=>h).grow g3 (by decide) λ_ _ h=>h)) ?_;rintro _ _ ⟨rfl,rfl⟩;rename World=>w3
 refine⟨Mod.refl _ _,?_⟩;have Y:=(Z.trans X).trans g3;have J:=g.trans Y;have a7:∀(j:Nat) (v:Value),[Value.int .u8 x[i].kind,zI x[i].n,rv,an,pv][j]?=some v->w3.cell? ((⟨b,0,none⟩:Addr).add j)=some v:=λj v hv=>g3.cell (X.cell (B j v hv) λh=>h) λh=>h;have bp:(CL ks true x[i].set).length<=x[i].set.length:=nU _ _;have bs:=DL x[i].Ab;have a8:(0<(CL ks true x[i].set).length\/0<BJ x[i].Ab)->((CL ks true x[i].set).length<x[i].set.length\/BJ x[i].Ab<x[i].Ab.length)->¬∀o∈x,Dl ks o:=λh1 h2 ak=>by
  have:=ak x[i] (ku m) hk V h1;omega
 have O:(0<(CL ks true x[i].set).length\/0<BJ x[i].Ab)->
   BC 3 (.pointer (some ⟨b,0,none⟩)) (λaZ=>Ay aZ (λb0 w9=>Dr b0 λb1=>GI .i64 (zI ((CL ks true x[i].set).length:Int)) b1 λb2=>AZ b2 (Value.bool false=.bool (decide (∀ o ∈ x,Dl ks o))/\Grow w w9)
    (BC 2 (.pointer (some ⟨b,0,none⟩)) λt46=>Ay t46 (λb6 al=>Dr b6 λb7=>GI .i64 (zI (BJ x[i].Ab:Int)) b7 λb8=>AZ b8 (Value.bool false=.bool (decide (∀ o ∈ x,Dl ks o))/\Grow w al) (Dl ks x[i]/\Grow w1 al)) w9)) w3):=λQ=>by
  rw[AH];refine AJ (a7 3 _ rfl) ?_;rw[a6,AO,Ai];refine AD (λe=>⟨by rw[lh (a8 Q (.inl (by omega)))],J⟩) λe1=>?_;rw[AH];refine AJ (a7 2 _ rfl) ?_;rw[av,AO,Ai];refine AD (λe=>⟨by rw[lh (a8 Q (.inr (by omega)))],J⟩) λe2=>⟨λ_ _ _=>⟨by omega,by omega⟩,Y⟩
 rw[BE];refine AD (λe=>O (.inl (by omega))) λe1=>?_;rw[BE];refine AD (λe=>O (.inr (by omega))) λe2=>⟨λ_ _ h=>by omega,Y⟩
def Pc{E S D:Nat->Prop}{x:List Dop}{n:Nat}(Z:CK E w sv ks)(h:Ak S D w v x)(hT:EA w)(hI:∀o∈x,jA o)(hl:x.length<=1048576)(hn:n<=1099511627776) :
  AB prog 104 [sv,v,zI (n:Int),zI most] (λv' w'=>v'=zI (Cj ks x n most)/\Grow w w') w:=by
 classical
 refine uS4 (dB 38526225457065985352281 [([16],[(16,29)])] []) func104 (λ_ _ _ _ _ _=>⟨by conv=>lhs;reduce,by dsimp only [PI,AF],by kernel_rfl⟩) ?_;unfold uI;refine AA (QT Z h hT hI) ?_;rintro _ w1 ⟨rfl,V⟩;unfold Cj;rw [BL];refine AW (λhm=>?_) λhm=>⟨by rw [DN hm],V⟩;rw [Bp (by simpa using hm)];have q:=J7 hm;obtain ⟨_,t1,t2⟩:=Ez (f:=Bh) (m:=536870912) (by decide) x (λo i=>by
  obtain ⟨_,_,h1,Q,_⟩:=(q o i).1.jE;have:=(q o i).2;exact ⟨h1,by omega⟩) (by omega)
 obtain ⟨_,u1,u2⟩:=Ez (f:=Bn) (m:=536870912) (by decide) x (λo i=>by
  obtain ⟨_,_,_,_,h1,Q⟩:=(q o i).1.jE;have:=(q o i).2;exact ⟨h1,by omega⟩) (by omega)
 have h1:=Ak.grow h V;refine AR (λvs w'=>vs=[.bool (decide ((n:Int)<1\/most<n\/(n:Int)<Cq Bh x))]/\Grow w1 w') ?_ ?_;rotate_left
 .rw[Ai];refine AD (λe=>⟨by rw[lq (.inl e)],Mod.refl _ _⟩) λe1=>?_;rw[BE];refine AD (λe=>⟨by rw[lq (.inr (.inl e))],Mod.refl _ _⟩) λe2=>?_;refine AA (Km h1) ?_;rintro _ w2 ⟨rfl,U⟩;rw[BE];refine⟨?_,U⟩;congr 2
  exact qK.2 ⟨λh=>.inr (.inr h),λh=>by rcases h with h|h|h;exact absurd h e1;exact absurd h e2;exact h⟩
 rintro _ w2 ⟨rfl,U⟩ _;rw[BQ,Nr];have I:=V.trans U;have Q:=Ak.grow h1 U;refine AD (λe=>⟨by rw[DN e],I⟩) λe=>?_;rw[Bp e];refine AA (Zp (n:=n) Q q hl) ?_;rintro _ w3 ⟨rfl,g3⟩;rw[Ah];have j:=I.trans g3;refine AW (λX=>?_) λX=>⟨by rw[DN X],j⟩;rw[Bp (λh=>h X)];have B:=Ak.grow Q g3;refine AA (bB (Z.grow j) B λo i=>?_) ?_
 .rcases(q o i).1 with⟨_,_,B,_⟩|⟨_,_,B,_⟩|⟨_,_,_,_,_,h6⟩
  .rw[B];simp
  .rw[B];simp
  .exact h6.2.1
 rintro _ w4 ⟨rfl,g4⟩;rw[Ah];have J:=j.trans g4;refine AW (λY=>?_) λY=>⟨by rw[DN Y],J⟩;rw[Bp (λh=>h Y)];have h4:=Ak.grow B g4;refine AA (Km h4) ?_;rintro _ w5 ⟨rfl,g5⟩;rw[Am,wrap64 (by omega) (by omega)];refine AA (OW (Ak.grow h4 g5)) ?_;rintro _ w6 ⟨rfl,g6⟩;rw[AM,wrap64 (by omega) (by omega),BE];have O:=(J.trans g5).trans g6;refine AD (λe=>⟨by rw[DN e],O⟩) λe=>⟨by rw[Bp e],O⟩
def CT(ks:List DKey):List Cel->List Dop->List Cel
 |d,[]=>d
 |d,o::x=>if o.kind=1 then(d.take o.n.toNat).map (Ce ks o.patch)++CT ks (d.drop o.n.toNat) x else if o.kind=2 then o.Ab.map (λr=>(⟨r,o.set⟩:Cel))++CT ks d x else CT ks (d.drop o.n.toNat) x
def Oo(ks:List DKey):List Cel->List Dop->List Cel
 |d,[]=>d
 |d,o::x=>if o.kind=1 then(d.take o.n.toNat).map (Ce ks o.patch)++Oo ks (d.drop o.n.toNat) x else if o.kind=2 then Oo ks d x else Oo ks (d.drop o.n.toNat) x
def BN:List Dop->Nat
 |[]=>0
 |o::x=>(if o.kind=2 then 0 else o.n.toNat)+BN x
def CJ:List Dop->Nat
 |[]=>0
 |o::x=>(if o.kind=3 then 0 else if o.kind=2 then o.Ab.length else o.n.toNat)+CJ x
def ML{x:List Dop}(j:∀o∈x,BX ks o/\Bk o<=536870912)(hl:x.length<=1048576):Cq Bh x=BN x/\Cq Bn x=CJ x:=by
 have q:∀o∈x,0<=Bh o/\Bh o<=536870912:=λo i=>by
  obtain⟨h1,I⟩:=j o i;obtain⟨_,_,a,b,_⟩:=h1.jE;exact⟨a,by omega⟩
 have B:∀o∈x,0<=Bn o/\Bn o<=536870912:=λo i=>by
  obtain⟨h1,I⟩:=j o i;obtain⟨_,_,_,_,a,b⟩:=h1.jE;exact⟨a,by omega⟩
 rw[(Ez (m:=536870912) (by decide) x q (by omega)).1,(Ez (m:=536870912) (by decide) x B (by omega)).1];clear hl q B;induction x with
 |nil=>exact⟨rfl,rfl⟩
 |cons o x J=>
  obtain⟨O,Q⟩:=J λo i=>j o (by simp[i]);obtain⟨h1,_⟩:=j o (by simp);rw[lO,nf,O,lO,nf,Q,BN,CJ,Bh,Bn,MP];rcases h1 with⟨k,_,_,U,_⟩|⟨k,_,_,_,U⟩|⟨k,_⟩
  .simp only[k,show ¬(1:Int)=2 by decide,show ¬(1:Int)=3 by decide,lW];omega
  .simp only[k,show ¬(3:Int)=2 by decide,lW,mF];omega
  .simp only[k,show ¬(2:Int)=3 by decide,lW,mF];omega
structure Vo (ks:List DKey) (x:List Dop) (n:Nat) (most:Int):Prop where
 may:DJ ks x=0
 DV:∀o∈x,BX ks o/\Bk o<=536870912
 pos:1<=n/\(n:Int)<=most
 Lh:BN x<=n
 fin:CN n 0 x
 pl:∀o∈x,Dl ks o
 most:(n:Int)-BN x+CJ x<=most
def Dw{x:List Dop}{n:Nat}(hl:x.length<=1048576):Cj ks x n most=0↔Vo ks x n most:=by
 classical
 unfold Cj;constructor
 .intro h;split at h
  .rename_i hm;exact absurd h hm
  rename_i hm;have i:DJ ks x=0:=by simpa using hm
  have B:=J7 i;obtain⟨j,m⟩:=ML B hl;split at h
  .cases h
  rename_i o;split at h
  .cases h
  rename_i q;split at h
  .cases h
  rename_i I;split at h
  .cases h
  rename_i J;rw[j] at o J;rw[m] at J;exact⟨i,B,⟨by omega,by omega⟩,by omega,pL.1 q,pL.1 I,by omega⟩
 .rintro⟨h1,O,Q,U,o,q,I⟩;obtain⟨j,m⟩:=ML O hl;rw[Bp (by simp[h1]),Bp (by rw[j];omega),Bp (λh=>h o),Bp (λh=>h q),Bp (by rw[j,m];omega)]
def NR.of(o:∀k∈ks,D8 k){k:Int}{v:As}(h1:BK ks k≠none)(j:DT v\/v=As.zero)(m:Hg v):NR ⟨k,v⟩:=by
 have hk:=Pk h1;obtain⟨y,q,e⟩:=lT.1 hk;have i:=o y q;have k1:=i.1;have k2:=i.2.1;rw[e] at k1 k2;refine⟨⟨?_,?_⟩,?_,m.1,m.2,?_⟩
 .show _<=k;omega
 .show k<=_;omega
 .show 0<=v.kind/\v.kind<256;rcases j with(⟨h,_⟩|⟨h,_⟩|⟨h,_⟩|⟨h,_⟩)|h
  .rw[h];decide
  .rw[h];decide
  .rw[h];decide
  .rw[h];decide
  .rw[h];decide
 .show v.s.size<_;rcases j with(⟨_,h,_⟩|⟨_,h⟩|⟨_,h,_⟩|⟨_,_,h,_⟩)|h
  .rw[h];simp[GX,ByteArray.size]
  .rw[h];simp[GX,ByteArray.size]
  .rw[h];simp[GX,ByteArray.size]
  .omega
  .rw[h];simp[As.zero,GX,ByteArray.size]
def Et.of(i:∀k∈ks,D8 k){s:List Attr}(h:JP ks s)(j:∀a∈s,Hg a.val):Et ks s:=by
 refine⟨h,λa ha=>?_⟩;obtain⟨h1,k,m,_⟩:=h.2.2 a ha;exact NR.of i (by rw[m];simp) (.inl h1) (j a ha)
def Hb.of(j:∀k∈ks,D8 k){p:List Chg}(h:KL ks p)(m:∀c∈p,Hg c.val):Hb ks p:=by
 refine⟨h,λc hc=>?_⟩;obtain⟨h1,o,q⟩:=h.2.2 c hc;refine NR.of j q ?_ (m c hc);cases i:c.gone with
 |true=>exact .inr (h1 i)
 |false=>exact .inl (o i).1
def kD(m:∀k∈ks,D8 k){o:Dop}(h:BX ks o)(q:(∀a∈o.set,Hg a.val)/\∀c∈o.patch,Hg c.val):Et ks o.set/\Hb ks o.patch:=by
 rcases h with⟨_,_,i,_,B⟩|⟨_,_,i,j,_⟩|⟨_,_,_,j,_,I⟩
 .exact⟨by rw[i];exact Et.nil,Hb.of m B q.2⟩
 .exact⟨by rw[i];exact Et.nil,by rw[j];exact Hb.nil⟩
 .exact⟨Et.of m I q.1,by rw[j];exact Hb.nil⟩
def QU{o:Dop}(hk:o.kind=2)(O:JP ks o.set)(hp:Dl ks o):o.Ab.map (cellOf ks o.set)=o.Ab.map λr=>(⟨r,o.set⟩:Cel):=by
 by_cases q:o.set=[]
 .rw[q];rfl
 refine oh λr hr=>?_;unfold cellOf;have j:∀a∈o.set,∃k,BK ks a.key=some k:=λa ha=>by
  obtain⟨_,k,h,_⟩:=O.2.2 a ha;exact⟨k,h⟩
 by_cases B:0<(CL ks true o.set).length\/0<BJ o.Ab
 .obtain⟨Q,U⟩:=hp hk q B;have J:CL ks true o.set=o.set:=nQ.2 (List.length_filter_eq_length_iff.1 Q);have V:∀r∈o.Ab,r=10:=λr hr=>by
   have:=(List.count_eq_length.1 U) r hr;exact this.symm
  rw[V r hr,lq rfl,J]
 .have h1:(CL ks true o.set).length=0:=by omega
  have X:BJ o.Ab=0:=by omega
  have I:r≠10:=λe=>qo.1 X (e▸hr);have J:CL ks false o.set=o.set:=nQ.2 λa ha=>by
   obtain⟨k,hk⟩:=j a ha;have m:=oH.1 (Of h1) a ha;unfold IA at m ⊢;rw[hk] at m ⊢;have i:¬decide (k.block=true)=true:=m;show decide (k.block=false)=true;cases hb:k.block with
   |true=>rw[hb] at i;exact absurd rfl i
   |false=>rfl
  rw[lh I,J]
def X9{n:Nat}:∀{x:List Dop} {d:List Cel},(∀o∈x,BX ks o)->BN x<=d.length->d.length<=n->CN n ((n:Int)-d.length) x->(Al d).getLast?=some 10->(Al (Oo ks d x)).getLast?=some 10:=by
 intro x;induction x with
 |nil=>intro d _ _ _ _ h;exact h
 |cons o x I=>
  intro d V ht X j hl;have J:=V o (by simp);have q:∀o∈x,BX ks o:=λo Y=>V o (by simp[Y]);rw[BN] at ht;rw[CN] at j;rw[Oo];have i:∀m:Nat,m<d.length->(Al (d.drop m)).getLast?=some 10:=λm hm=>by
   rw[Al,mX,pB,Bp (by rw[I3];omega)];exact hl
  rcases J with⟨k,_,_,Z,_⟩|⟨k,_,_,_,Z⟩|⟨k,_⟩
  .rw[DN k];rw[Bp (by omega)] at ht;rw[Bp (by omega),Bp (by omega)] at j;by_cases hm:o.n.toNat<d.length
   .have:=I q (d:=d.drop o.n.toNat) (by rw[Hy];omega) (by rw[Hy];omega) (by rw[Hy,show(n:Int)-((d.length-o.n.toNat:Nat):Int)=(n:Int)-d.length+o.n by omega];exact j) (i _ hm);rw[Al,kZ,cq];rw[Al] at this;rw[this];rfl
   .have O:x=[]:=by
     cases x with
     |nil=>rfl
     |cons o' x=>
      exfalso;have B:=q o' (by simp);rw[BN] at ht;rw[CN] at j;rcases B with⟨Q,_,_,U,_⟩|⟨Q,_,_,_,U⟩|⟨Q,_⟩
      .rw[Bp (by omega)] at ht;omega
      .rw[Bp (by omega)] at ht;omega
      .rw[DN Q] at j;exact j.1 (by omega)
    subst O;rw[Oo,mn (by omega),lA,mU (by omega),Al,nu];exact hl
  .rw[Bp (by omega),Bp (by omega)];rw[Bp (by omega)] at ht;rw[Bp (by omega),DN k] at j;have hm:o.n.toNat<d.length:=by omega
   exact I q (by rw[Hy];omega) (by rw[Hy];omega) (by rw[Hy,show(n:Int)-((d.length-o.n.toNat:Nat):Int)=(n:Int)-d.length+o.n by omega];exact j.2) (i _ hm)
  .rw[Bp (by omega),DN k];rw[DN k] at ht j;exact I q (by omega) X j.2 hl
def bU:∀{x:List Dop} {d:List Cel},(Oo ks d x).length<=d.length:=by
 intro x;induction x with
 |nil=>intro d;exact K8 _
 |cons o x i=>
  intro d;rw[Oo];split
  .rw[BW,I3,Lc];have:=i (d:=d.drop o.n.toNat);rw[Hy] at this;omega
  .split
   .exact i
   .have:=i (d:=d.drop o.n.toNat);rw[Hy] at this;omega
def O7:∀{x:List Dop} {d:List Cel},(∀o∈x,BX ks o)->BN x<=d.length->(CT ks d x).length+BN x=d.length+CJ x:=by
 intro x;induction x with
 |nil=>intro d _ _;rfl
 |cons o x j=>
  intro d m ht;have i:∀o∈x,BX ks o:=λo q=>m o (by simp[q]);rw[BN] at ht ⊢;rw[CT,CJ];rcases m o (by simp) with⟨k,_,_,B,_⟩|⟨k,_,_,_,B⟩|⟨k,_⟩
  .simp only[k,show ¬(1:Int)=2 by decide,show ¬(1:Int)=3 by decide,mF,lW] at ht ⊢;rw[BW,I3,Lc];have:=j i (d:=d.drop o.n.toNat) (by rw[Hy];omega);rw[Hy] at this;omega
  .simp only[k,show ¬(3:Int)=2 by decide,show ¬(3:Int)=1 by decide,mF,lW] at ht ⊢;have:=j i (d:=d.drop o.n.toNat) (by rw[Hy];omega);rw[Hy] at this;omega
  .simp only[k,show ¬(2:Int)=3 by decide,show ¬(2:Int)=1 by decide,mF,lW] at ht ⊢;rw[BW,I3];have:=j i (d:=d) (by omega);omega
def JW.Nl(m:ks.length<=64){d:List Cel}{p:List Chg}(h:JW ks d)(hp:Hb ks p){i j:Nat}(o:i<=j):JW ks (Nl d i j (Ce ks p)):=by
 refine⟨λc hc=>?_,by rw[XJ d (Ce ks p) o λ_=>rfl];exact h.last⟩;unfold Go.Proofs.YtbdjachmndlplaaGreatDoor.Nl at hc;rcases By.1 hc with hc|hc
 .rcases By.1 hc with hc|hc
  .exact h.set c (lJ hc)
  .obtain⟨c0,q,rfl⟩:=lT.1 hc;exact(h.set c0 (lJ (ky q))).app m (hp.part _)
 .exact h.set c (ky hc)
def PA{a b:List Cel}(hb:b≠[]):(Al (a++b)).getLast?=(Al b).getLast?:=by
 rw[Al,kZ,cq];cases h:(b.map Cel.r).getLast? with
 |none=>rw[ns,oi] at h;exact absurd h hb
 |some x=>rfl
def dU{b:List Cel}(h:(Al b).getLast?=some 10):b≠[]:=λe=>by rw[e] at h;cases h
def EO(B:Nat)(x:List Dop):Nat:=2*x.length*(22*B+50)
section
variable {w0:World}{F:Nat->Prop}{W:World}{a:TxA}{σ:SKs}{most:Int}{N:Nat}{d:List Cel}
def Sw{S D:Nat->Prop}{x:List Dop}(h:Gx .f w0 F W a σ most d N)(hT:EA w0)(hG:JW σ.ks d)(bd:σ.ks.length<=64)(hK:∀k∈σ.ks,D8 k)(hx:Ak S D W v x)(ax:∀y,S y\/D y->¬F y)(hI:∀o∈x,NT o)
 (hl:x.length<=1048576)(e6:d.length<=B)(hB:Vo σ.ks x d.length most->d.length+CJ x<=B)(e7:B<=1000000)(hN:N+EO B x<=1000000000) :
  AB prog 57 [.pointer (some ⟨a.b,0,none⟩),v] (λv' w'=>v'=zI (Cj σ.ks x d.length most)/\Lk .f w0 F W w' a σ most (if Cj σ.ks x d.length most=0 then CT σ.ks d x else d) (N+EO B x)/\(Cj σ.ks x d.length most=0->JW σ.ks (CT σ.ks d x))) W:=by
 refine uS2 (dB 11446212486046464016327773550979781376611193945 [([6,31],[(6,6),(8,8),(31,61)]),([6,64],[(6,6),(10,10),(64,90)]),([6],[(6,6),(68,74)])] [(dC [6,11] [0,1,3,7,0,0,32,0,128,384,896,2047,4095] [])]) func57 (λ_ _ _ _=>⟨by conv=>lhs;reduce,by dsimp only[PI,AF],by kernel_rfl⟩) ?_;unfold uI;refine AA (FL h.box.1) ?_;rintro _ _ ⟨rfl,rfl⟩;rename World=>W
 rw[Ah];refine AL ?_;have gd:Grow W W.drew:=Mod.drew _ _;have hd:=h.grow gd;refine AT (λ_ _=>False) ?_;refine AG ?_;rw[AH,AI];refine AP ⟨hd.box.1.cells 0 _ rfl,λj hj e=>e⟩ ?_;obtain⟨l1,Fr,bt,c7,hO⟩:=hd.Hw;refine AA (Ws hd.box.1 hO) ?_;rintro _ W1 ⟨rfl,g1⟩;have c8:(BR l1).length=d.length:=by rw[c7,Al,I3]
 rw[c8];refine⟨g1.mono λ_ _ h=>h.elim,?_⟩;refine AG ?_;rw[AH,AI];refine AP ⟨hd.box.1.cells 1 _ rfl,λj hj e=>e⟩ ?_;have h1:=hd.grow g1;have bk:=gd.trans g1;have c9:Ak (λy=>S y/\y<W.heap.size) (λy=>D y/\y<W.heap.size) W v x:=An.sub hx (λy Z hs=>⟨hs,Z⟩) (by decide) λr o ho=>ho.mod (Mod.refl (λ_=>False) _) (λ_ _ _ h=>h) λy Z hd=>⟨hd,Z⟩;have bl:=Ak.grow c9 bk;refine AA (Pc h1.HN.1 bl (hT.grow h1.g) (λo ho=>(hI o ho).o) hl (by omega)) ?_;rintro _ W2 ⟨rfl,g2⟩;refine⟨g2.mono λ_ _ h=>h.elim,?_⟩;have b8:=bk.trans g2;have h2:=h1.grow g2;have b9:=Ak.grow bl g2;rw[BL];refine AW (λe0=>?_) λe0=>⟨rfl,by rw[Bp e0];exact Lk.up ⟨F,λ_ h=>.inl h,h2,b8.mono λ_ _ h=>h.elim⟩ (by omega),λe=>absurd e e0⟩;rw[DN e0,e0];have hF:=(Dw hl).1 e0;have hB:=hB hF;have b1:∀o∈x,BX σ.ks o:=λo ho=>(hF.DV o ho).1;have bp:∀o∈x,Et σ.ks o.set/\Hb σ.ks o.patch:=λo ho=>kD hK (b1 o ho) ⟨λa ha=>((hI o ho).1 a ha).2,λc hc=>((hI o ho).2 c hc).2⟩;obtain⟨va,vc,rfl,hm⟩:=b9.shape;simp only[maxLen] at hm;rw[AO];have e8:=b8.size;have b6:∀{F':Nat->Prop} {W':World},(∀y,F' y->F y\/W2.heap.size<=y)->∀y,(S y/\y<W.heap.size)\/(D y/\y<W.heap.size)->¬F' y:=λca y Z e=>by
  rcases ca y e with e|e
  .exact ax y (Z.imp qn qn) e
  .rcases Z with Z|Z
   .have:=Z.2;omega
   .have:=Z.2;omega
 let G:Nat:=22*B+50
 have cc:EO B x=2*x.length*G:=rfl;have b7:∀i,i<=x.length->i*G<=x.length*G:=λi hi=>mV _ hi;have X:∀i,(i+1)*G=i*G+G:=λi=>by rw[mC,Nat.one_mul]
 have cd:2*x.length*G=x.length*G+x.length*G:=by rw[Nat.mul_assoc,Nat.two_mul]
 refine AU (λvs W'=>∃ (i:Nat) (m I:List Cel) (F':Nat->Prop),i<=x.length/\vs=[zI (m.length:Int),zI i]/\(∀ y,F' y->F y\/W2.heap.size<=y)/\Gx .f w0 F' W' a σ most (m++I) (N+i * G)/\Mod F W2 W'/\JW σ.ks (m++I)/\
   m++Oo σ.ks I (x.drop i)=Oo σ.ks d x/\BN (x.drop i)<=I.length/\I.length<=d.length/\CN d.length ((d.length:Int) - I.length) (x.drop i)/\m.length+I.length<=d.length) (λvs _=>x.length - Dh vs 1)
  ⟨0,[],d,F,Nn _,rfl,λ_ h=>.inl h,h2.up (by omega),Mod.refl _ _,hG,rfl,hF.Lh,K8 _,by rw[qe];exact hF.fin,by simp⟩ ?_
 rintro vs W3 ⟨i,m,I,F3,hi,rfl,f3,h3,M3,Q,O,a1,ay,U,V⟩ _;simp only[FC];rw[Ai];have z3:=M3.size;have b2:Ak (λy=>S y/\y<W.heap.size) (λy=>D y/\y<W.heap.size) W3 (.slice va x.length vc) x:=Ak.mod b9 M3 (λy _ Z e=>ax y (.inl Z.1) e) (λy _ Z e=>ax y (.inr Z.1) e);refine AD (λch=>?_) λcu=>?_
 .have J:i<x.length:=by omega
  have ba:=b7 (i+1) J;rw[X] at ba;obtain⟨q,r,rfl,hS,hr,hc,a7⟩:=b2.get J;refine AS J (AV hr (λj u hu=>by rw[Addr.add_add];exact hc j u hu) ?_);refine BH hr rfl a7.one λb W4 hb cx g4 Y _=>?_;obtain⟨rv,sv,pv,rfl,o1,o2,o3⟩:=id a7;have h4:=h3.grow g4;have z4:=g4.size;rw[mI J] at O a1 U;rw[BN] at a1;rw[CN] at U;rw[Oo] at O;have ak:=ku J;have al:=b6 (W':=W4) f3;have an:=h3.hl;have av:Mod F W2 W4:=M3.next g4 λ_ _ e=>e.elim;have bb:∀{W5:World},Mod F3 W4 W5->∀(j:Nat) (u:Value),[Value.int .u8 x[i].kind,zI x[i].n,rv,sv,pv][j]?=some u->W5.cell? ((⟨b,0,none⟩:Addr).add j)=some u:=λhm j u hu=>hm.cell (Y j u hu) λe=>by rw[Ac] at e;have:=(an _ e).2.1;simp only at this;omega
  have liftM:∀{W5:World},Mod F3 W4 W5->Mod F W2 W5:=λhm=>av.next hm λy Z e=>by
   rcases f3 y e with e|e
   .exact e
   .omega
  rw[AH];refine AJ (Y 0 _ rfl) ?_;rw[Aa];rcases b1 x[i] ak with⟨k,e1,e2,n1,e4⟩|⟨k,e1,e2,e3,n1⟩|⟨k,e1,e2,e3,e4,e5⟩
  .refine AD (λ_=>?_) λe=>absurd k e;rw[Bp (by omega)] at a1;rw[Bp (by omega),Bp (by omega)] at U;rw[DN k] at O;have en:x[i].n=(x[i].n.toNat:Int):=by omega
   generalize hn:x[i].n.toNat=n at *;rw[AH];refine AJ (Y 1 _ rfl) ?_;rw[en,AM,wrap64 (by omega) (by omega),show((m.length:Int)+(n:Int))=((m.length+n:Nat):Int) by omega,AH];refine AJ (Y 4 _ rfl) ?_;have bs:=(bp x[i] ak).2;refine AA (Yx (i:=m.length) (j:=m.length+n) h4 hT Q bd (by omega) (by rw[BW];omega) (o3.grow g4 (by decide) λ_ _ h=>h) (λy Z=>al y (.inr Z)) bs (by rw[BW];omega) (by rw[BW];show N+i*G+22*_+50<=_;have:G=22*B+50:=rfl;omega)) ?_;rintro _ W5 ⟨rfl,F5,f5,h5,M5⟩;rw[AH];refine AJ (bb M5 1 _ rfl) ?_;rw[en,AM,wrap64 (by omega) (by omega),show((m.length:Int)+(n:Int))=((m.length+n:Nat):Int) by omega,AM,AK (by omega)];have aZ:Nl (m++I) m.length (m.length+n) (Ce σ.ks x[i].patch)=(m++(I.take n).map (Ce σ.ks x[i].patch))++I.drop n:=by
    unfold Nl;rw[pC rfl,oJ,mU (by omega),show m.length+n-m.length=n by omega,pE rfl,oK,mn (by omega),show m.length+n-m.length=n by omega,lg]
   have bx:=Q.Nl bd bs (i:=m.length) (j:=m.length+n) (by omega);rw[aZ] at h5 bx;have ll:(m++(I.take n).map (Ce σ.ks x[i].patch)).length=m.length+n:=by rw[BW,I3,Lc];omega
   refine⟨⟨i+1,m++(I.take n).map (Ce σ.ks x[i].patch),I.drop n,F5,J,by rw[ll],λy Z=>?_,h5.up ?_,liftM M5,bx,by rw[P9];exact O,by rw[Hy];omega,by rw[Hy];omega,?_,by rw[ll,Hy];omega⟩,by rw[Ar,Ar];omega⟩
   .rcases f5 y Z with e|e
    .exact f3 y e
    .exact .inr (by omega)
   .rw[X,BW];show _<=N+(i*G+(22*B+50));omega
   .rw[Hy,show(d.length:Int)-((I.length-n:Nat):Int)=(d.length:Int)-I.length+x[i].n by omega];exact U
  .refine AD (λe=>by omega) λ_=>?_;rw[Aa];refine AD (λ_=>?_) λe=>absurd k e;rw[Bp (by omega)] at a1;rw[Bp (by omega),DN k] at U;rw[Bp (by omega),Bp (by omega)] at O;have en:x[i].n=(x[i].n.toNat:Int):=by omega
   generalize hn:x[i].n.toNat=n at *;have a8:n<I.length:=by omega
   rw[AH];refine AJ (Y 1 _ rfl) ?_;rw[en,AM,wrap64 (by omega) (by omega),show((m.length:Int)+(n:Int))=((m.length+n:Nat):Int) by omega];refine AA (Ys (i:=m.length) (j:=m.length+n) h4 (by omega) (by rw[BW];omega) (by rw[BW];omega) (by have:G=22*B+50:=rfl;omega)) ?_;rintro _ W5 ⟨rfl,F5,f5,h5,M5⟩;rw[AM,AK (by omega)];have aZ:(m++I).take m.length++(m++I).drop (m.length+n)=m++I.drop n:=by
    rw[pC rfl,oK,mn (by omega),show m.length+n-m.length=n by omega,lg]
   rw[aZ] at h5;have bc:I≠[]:=λe=>by rw[e] at a8;simp at a8
   have JY:I.drop n≠[]:=λe=>by have:=lV List.length e;rw[Hy] at this;simp at this;omega
   have bZ:=Q.last;rw[PA bc] at bZ;refine⟨⟨i+1,m,I.drop n,F5,J,rfl,λy Z=>?_,h5.up ?_,liftM M5,⟨λc hc=>Q.set c ?_,?_⟩,O,by rw[Hy];omega,by rw[Hy];omega,?_,by rw[Hy];omega⟩,by rw[Ar,Ar];omega⟩
   .rcases f5 y Z with e|e
    .exact f3 y e
    .exact .inr (by omega)
   .rw[X];show _<=N+(i*G+(22*B+50));omega
   .rcases By.1 hc with hc|hc
    .exact lC _ hc
    .exact lE _ (ky hc)
   .rw[PA JY,Al,mX,pB,Bp (by rw[I3];omega)];exact bZ
   .rw[Hy,show(d.length:Int)-((I.length-n:Nat):Int)=(d.length:Int)-I.length+x[i].n by omega];exact U.2
  .refine AD (λe=>by omega) λ_=>?_;rw[Aa];refine AD (λe=>by omega) λ_=>?_;rw[DN k] at a1 U;rw[Bp (by omega),DN k] at O;rw[AM,AK (by omega)];exact⟨⟨i+1,m,I,F3,J,rfl,f3,h4.up (by rw[X];omega),av,Q,O,by omega,ay,U.2,V⟩,by rw[Ar,Ar];omega⟩
 obtain rfl:i=x.length:=by omega
 rw[nd,Oo] at O;rw[O] at h3 Q;clear O a1 ay U V;have da:∀y:List Dop,∀o∈y,o.kind=2->o.Ab.length<=CJ y:=by
  intro y;induction y with
  |nil=>intro o ho;cases ho
  |cons o' y ih=>
   intro o ho hk;rw[CJ];rcases Mp.1 ho with rfl|ho
   .rw[Bp (by omega),DN hk];omega
   .have:=ih o ho hk;omega
 rw [AO];refine AU (λvs W'=>∃ (i:Nat) (m I:List Cel) (F':Nat->Prop),i<=x.length/\vs=[zI (m.length:Int),zI i]/\(∀ y,F' y->F y\/W2.heap.size<=y)/\Gx .f w0 F' W' a σ most (m++Oo σ.ks I (x.drop i)) (N+x.length * G+i * G)/\Mod F W2 W'/\JW σ.ks (m++Oo σ.ks I (x.drop i))/\
   m++CT σ.ks I (x.drop i)=CT σ.ks d x/\BN (x.drop i)<=I.length/\I.length<=d.length/\CN d.length ((d.length:Int) - I.length) (x.drop i)/\(I≠[]->(Al I).getLast?=some 10)/\m.length+I.length+CJ (x.drop i)<=d.length+CJ x+BN (x.drop i)) (λvs _=>x.length - Dh vs 1)
  ⟨0,[],d,F3,Nn _,rfl,f3,h3.up (by omega),M3,Q,rfl,hF.Lh,K8 _,by rw[qe];exact hF.fin,λ_=>hG.last,by simp⟩ ?_
 clear b2 Q h3 f3 M3 z3;rintro vs W3 ⟨i,m,I,F3,hi,rfl,f3,h3,M3,Q,O,a1,ay,U,a6,V⟩ _;simp only[FC];rw[Ai];have z3:=M3.size;have b2:Ak (λy=>S y/\y<W.heap.size) (λy=>D y/\y<W.heap.size) W3 (.slice va x.length vc) x:=Ak.mod b9 M3 (λy _ Z e=>ax y (.inl Z.1) e) (λy _ Z e=>ax y (.inr Z.1) e);refine AD (λch=>?_) λcu=>?_;rotate_left
 .obtain rfl:i=x.length:=by omega
  rw[nd] at h3 O Q;rw[Oo] at h3 Q;rw[CT] at O;rw[O] at h3 Q;refine⟨trivial,Lk.next (λ_ h=>.inl h) (b8.mono λ_ _ h=>h.elim) (Lk.up ⟨F3,f3,h3,M3⟩ (by rw[cc,cd];omega)),λ_=>Q⟩
 have J:i<x.length:=by omega
 have ba:=b7 (i+1) J;rw[X] at ba;obtain⟨q,r,rfl,hS,hr,hc,a7⟩:=b2.get J;refine AS J (AV hr (λj u hu=>by rw[Addr.add_add];exact hc j u hu) ?_);refine BH hr rfl a7.one λb W4 hb cx g4 Y _=>?_;obtain⟨rv,sv,pv,rfl,o1,o2,o3⟩:=id a7;have h4:=h3.grow g4;have z4:=g4.size;rw[mI J] at O a1 U h4 Q V;rw[BN] at a1 V;rw[CJ] at V;rw[CN] at U;rw[Oo] at h4 Q;rw[CT] at O;have ak:=ku J;have al:=b6 (W':=W4) f3;have an:=h3.hl;have av:Mod F W2 W4:=M3.next g4 λ_ _ e=>e.elim;rcases b1 x[i] ak with⟨k,e1,e2,n1,e4⟩|⟨k,e1,e2,e3,n1⟩|⟨k,e1,e2,e3,e4,e5⟩
 .simp only[k,show ¬(1:Int)=2 by decide,show ¬(1:Int)=3 by decide,mF,lW] at a1 V U h4 Q O;have en:x[i].n=(x[i].n.toNat:Int):=by omega
  generalize hn:x[i].n.toNat=n at *;have ll:(m++(I.take n).map (Ce σ.ks x[i].patch)).length=m.length+n:=by rw[BW,I3,Lc];omega
  refine AR (λvs W'=>vs=[zI ((m.length+n:Nat):Int)]/\W'=W4) ?_ ?_
  .rintro _ _ ⟨rfl,rfl⟩ _;rw[AH];refine AJ (Y 0 _ rfl) ?_;rw[Aa];refine AD (λe=>by omega) λ_=>?_;rw[Nr,AM,AK (by omega)];refine⟨⟨i+1,m++(I.take n).map (Ce σ.ks x[i].patch),I.drop n,F3,J,by rw[ll],f3,by rw[P9];exact h4.up (by rw[X];omega),av,by rw[P9];exact Q,by rw[P9];exact O,by rw[Hy];omega,by rw[Hy];omega,?_,λc4=>?_,by rw[ll,Hy];omega⟩,by rw[Ar,Ar];omega⟩
   .rw[Hy,show(d.length:Int)-((I.length-n:Nat):Int)=(d.length:Int)-I.length+x[i].n by omega];exact U
   .have a8:n<I.length:=Nat.lt_of_not_le λe=>c4 (mn e);rw[Al,mX,pB,Bp (by rw[I3];omega)];exact a6 λe=>by rw[e] at a8;simp at a8
  .rw[AH];refine AJ (Y 0 _ rfl) ?_;rw[Aa];refine AD (λ_=>?_) λe=>absurd k e;rw[AH];refine AJ (Y 1 _ rfl) ?_;rw[en,AM,wrap64 (by omega) (by omega)];exact⟨by rw[show((m.length:Int)+(n:Int))=((m.length+n:Nat):Int) by omega],rfl⟩
 .simp only[k,show ¬(3:Int)=2 by decide,show ¬(3:Int)=1 by decide,mF,lW] at a1 V U h4 Q O;have en:x[i].n=(x[i].n.toNat:Int):=by omega
  generalize hn:x[i].n.toNat=n at *;have a8:n<I.length:=by omega
  refine AR (λvs W'=>vs=[zI (m.length:Int)]/\W'=W4) ?_ ?_
  .rintro _ _ ⟨rfl,rfl⟩ _;rw[AH];refine AJ (Y 0 _ rfl) ?_;rw[Aa];refine AD (λe=>by omega) λ_=>?_;rw[Nr,AM,AK (by omega)];refine⟨⟨i+1,m,I.drop n,F3,J,rfl,f3,h4.up (by rw[X];omega),av,Q,O,by rw[Hy];omega,by rw[Hy];omega,?_,λc4=>?_,by rw[Hy];omega⟩,by rw[Ar,Ar];omega⟩
   .rw[Hy,show(d.length:Int)-((I.length-n:Nat):Int)=(d.length:Int)-I.length+x[i].n by omega];exact U.2
   .rw[Al,mX,pB,Bp (by rw[I3];omega)];exact a6 λe=>by rw[e] at a8;simp at a8
  .rw[AH];refine AJ (Y 0 _ rfl) ?_;rw[Aa];exact AD (λe=>by omega) λ_=>⟨rfl,rfl⟩
 .simp only[k,show ¬(2:Int)=3 by decide,show ¬(2:Int)=1 by decide,mF,lW] at a1 V U h4 Q O;obtain⟨sG,_⟩:=bp x[i] ak;have dk:=QU k sG.1 (hF.pl x[i] ak);have dT:=da x x[i] ak k;have bc:I≠[]:=λe=>U.1 (by rw[e];simp);have b0:=X9 (ks:=σ.ks) (n:=d.length) (x:=x.drop (i+1)) (d:=I) (λo ho=>b1 o (ky ho)) (by omega) ay U.2 (a6 bc);have e9:=bU (ks:=σ.ks) (x:=x.drop (i+1)) (d:=I);obtain⟨ra,rc,dr,dA⟩:=o1.shape;simp only[maxLen] at dA;refine AR (λvs W'=>vs=[zI (m.length:Int)]/\W'=W4) ?_ ?_
  .rintro _ _ ⟨rfl,rfl⟩ _;rename World=>W4
   rw[AH];refine AJ (Y 0 _ rfl) ?_;rw[Aa];refine AD (λ_=>?_) λe=>absurd k e;rw[AH];refine AJ (Y 2 _ rfl) ?_;rw[AH];refine AJ (Y 3 _ rfl) ?_;rw[Nr];refine AA (QH (at':=m.length) (S:=λy=>D y/\y<W.heap.size) h4 hT (by rw[BW];omega) (o1.grow g4 (by decide) λ_ _ h=>h) (o2.grow g4 (by decide) λ_ _ h=>h) (λy Z=>al y (.inr Z)) e1 (EJ.2 (sG.part false).1) sG.2 sG.len (by rw[BW];omega) (by have:G=22*B+50:=rfl;omega)) ?_;rintro _ W5 ⟨rfl,F5,f5,h5,M5⟩;rw[AH];refine AJ (M5.cell (Y 2 _ rfl) λe=>by rw[Ac] at e;have:=(an _ e).2.1;simp only at this;omega) ?_;rw[dr,AO,AM,wrap64 (by omega) (by omega),show((m.length:Int)+(x[i].Ab.length:Int))=((m.length+x[i].Ab.length:Nat):Int) by omega,AM,AK (by omega)];have c6:(m++Oo σ.ks I (x.drop (i+1))).take m.length++x[i].Ab.map (cellOf σ.ks x[i].set)++(m++Oo σ.ks I (x.drop (i+1))).drop m.length=(m++x[i].Ab.map λr=>(⟨r,x[i].set⟩:Cel))++Oo σ.ks I (x.drop (i+1)):=by
    rw[pC rfl,pE rfl,dk]
   rw[c6] at h5;have ll:(m++x[i].Ab.map λr=>(⟨r,x[i].set⟩:Cel)).length=m.length+x[i].Ab.length:=by rw[BW,I3]
   refine⟨⟨i+1,m++x[i].Ab.map λr=>(⟨r,x[i].set⟩:Cel),I,F5,J,by rw[ll],λy Z=>?_,h5.up ?_,?_,⟨λc hc=>?_,?_⟩,by rw[P9];exact O,by omega,ay,U.2,a6,by rw[ll];omega⟩,by rw[Ar,Ar];omega⟩
   .rcases f5 y Z with e|e
    .exact f3 y e
    .exact .inr (by omega)
   .rw[X];show _<=N+x.length*G+(i*G+(22*B+50));omega
   .refine av.next M5 λy Z e=>?_;rcases f3 y e with e|e
    .exact e
    .omega
   .rcases By.1 hc with hc|hc
    .rcases By.1 hc with hc|hc
     .exact Q.set c (lC _ hc)
     .obtain⟨r,_,rfl⟩:=lT.1 hc;exact sG
    .exact Q.set c (lE _ hc)
   .rw[PA (dU b0)];exact b0
  .rw[AH];refine AJ (Y 0 _ rfl) ?_;rw[Aa];exact AD (λe=>by omega) λ_=>⟨rfl,rfl⟩
end
def Hm(A B:Nat)(W:World)(ov:Value)(l:List Cel):Prop:=∃D:Nat->Prop,AE B 66 2 (Jz D) W ov l/\∀x,D x->A<=x/\x<W.heap.size/\ov.ownBlock≠some x
def Hm.nil{A B:Nat}:Hm A B W (.slice none 0 0) []:=⟨λ_=>False,AE.nil,λ_ h=>h.elim⟩
def Hm.grow{A B:Nat}{l:List Cel}(h:Hm A B W v l)(g:Grow W W'):Hm A B W' v l:=by
 obtain⟨D,h1,j⟩:=h;have:=g.size;exact⟨D,AE.mod h1 g (λ_ _ h=>h) λr x _ i=>i.mod g (λ_ _ _ h=>h) λ_ _ h=>h,λx i=>⟨(j x i).1,by have:=(j x i).2.1;omega,(j x i).2.2⟩⟩
def Hm.rd{A B:Nat}{l:List Cel}(h:Hm A B W v l)(j:A<=B):Bi (λx=>A<=x/\x<W.heap.size) (λx=>A<=x/\x<W.heap.size) W v l:=by
 obtain⟨D,h1,m⟩:=h;exact An.sub (AE.sl h1) (λx i h=>⟨by have:=h.1;omega,i⟩) (by decide) λr x i=>i.mod (Mod.refl (λ_=>False) _) (λ_ _ _ h=>h) λb hb h=>⟨(m b h).1,hb⟩
def N7{A B:Nat}{l:List Cel}{c:Cel}{D':Nat->Prop}(h:Hm A B W fr l)(U:B<=W.heap.size)(O:Ba D' W sv c.set)(q:∀x,D' x->A<=x/\x<W.heap.size/\fr.ownBlock≠some x)(hl:l.length<=1099511627776)
 (V:∀i W',Hm A B W' i (l++[c])->Mod (λb=>fr.ownBlock=some b) W W'->(∀g,i.ownBlock=some g->fr.ownBlock=some g\/W.heap.size<=g)->K i W') :
  Dg 66 2 1 [(.int .i32 0),(.slice none 0 0)] [(0,.agg #[.int .i32 c.r,sv])] (λs Q=>runK prog (Builtin.append_ #[32,32] 32 [fr,s].toArray) K Q) W:=by
 obtain⟨D,h1,X⟩:=h;obtain⟨sa,sc,I,_⟩:=O.shape;have hb:∀x,(D x\/D' x)->A<=x/\x<W.heap.size/\fr.ownBlock≠some x:=λx j=>j.elim (X x) (q x);have J:AE B 66 2 (Jz λx=>D x\/D' x) W fr l:=AE.mod h1 (Mod.refl (λ_=>False) _) (λ_ _ h=>h) λr x _ j=>j.mod (Mod.refl (λ_=>False) _) (λ_ _ _ h=>h) λ_ _ h=>.inl h;have Y:sv.cells=#[sv]:=by rw[I];rfl
 refine Dp MX J U (cs:=[.int .i32 c.r,sv]) (x:=c) (DD (v:=.agg #[.int .i32 c.r,sv]) rfl (by decide) rfl rfl) rfl ⟨sv,rfl,O.sub (λ_ _ h=>.inr h) (by decide) λ_ _ h=>h⟩ (λ_ _ _ h=>h.one) (λQ w2 r y hz hm Z=>Z.mod hm (λb _ j e=>?_) λ_ _ h=>h) (by omega) (by simp only[maxLen];omega) λi W' o m n=>?_
 .obtain⟨_,t2,t3⟩:=hb b j;rcases e with e|e
  .exact t3 e
  .omega
 .refine V i W' ⟨_,o,λx j=>?_⟩ m n;obtain⟨t1,t2,t3⟩:=hb x j;have zm:=m.size;refine⟨t1,by omega,λe=>?_⟩;rcases n x e with e|e
  .exact t3 e
  .omega
def Dk.fK{g:AvT α}{b bt N:Nat}{l:List α}(h:Dk g F C W b bt l N):l.length<=N:=by
 obtain⟨A,T,h1,i,j,rfl,m⟩:=h.EI;have o:=E0 (A:=A) rfl i j;have q:=Tr.Ta T;omega
def VF(c:Cel)(d:List Cel):Bb (c::d)=(if c.r=10 then[c.set] else[])++Bb d:=by by_cases h:c.r=10<;>simp[Bb,h]
section
variable {w0:World}{F:Nat->Prop}{W:World}{a:TxA}{σ:SKs}{most:Int}{N:Nat}{d:List Cel}
def Mm{i j:Nat}(h:Gx .f w0 F W a σ most d N)(c6:i<=j)(hj:j<=d.length)(hG:∀c∈d,Et σ.ks c.set)(hz:d.length<=10000000)(hN:N<=1000000000) :
  AB prog 40 [.pointer (some ⟨a.b,0,none⟩),zI (i:Int),zI (j:Int)] (λv' w'=>∃cv,v'=.tuple #[cv,zI 0]/\Hm W.heap.size W.heap.size w' cv ((d.take j).drop i)/\Grow W w') W:=by
 have h0:=h;obtain⟨z,l2,t,f,eA,hM,eB,hu,hh,hf,kb⟩:=h;have eC:z.length=d.length:=by rw[<-eA,I3]
 have da:(Al d).length=d.length:=I3 _;have eI:=lV List.length hu;rw[I3,eC] at eI;refine uS3 (dB 681773876042505729314203750123432055897 [([12,14,62],[(12,12),(14,14),(16,19),(62,102)]),([12,14,78],[(12,12),(14,14),(19,19),(78,101)]),([19],[(19,19),(80,87)]),([12],[(12,12),(88,96)])] [(dC [6,9,10] [0,1,3,7,0,0,48,0,0,496,1023,2047,4095,4095,8191,32767] []),(dC [6] [0,1,3,7,0,16,63,127,255,255,511,2047] []),(dT [6,8,9] [0,0,2,7,15,0,32,127,0,511] [[6]] (.op 0 (.op 1 (.op 2 (.op 3 (.op 4 (.op 5 (.br (.op 6 (.op 7 (.op 8 (.op 9 .nil)))) (.op 8 (.op 6 (.op 7 (.op 9 .nil)))))))))))),(dT [4,6] [0,1,3,0,8,7,39,127] [] (.op 0 (.op 1 (.op 2 (.op 3 (.op 5 (.br (.op 4 (.op 6 (.op 7 .nil))) (.op 6 (.op 4 (.op 7 .nil))))))))))]) func40 (λ_ _ _ _ _=>⟨by conv=>lhs;reduce,by dsimp only[PI,AF],by kernel_rfl⟩) ?_;unfold uI;refine AA (FL hM.box.1) ?_;rintro _ _ ⟨rfl,rfl⟩;rename World=>W
 rw[Ah];refine AL ?_;refine AG ?_;refine Az (hM.box.1.cells 2 _ rfl) ?_;obtain⟨l1,Fr,br,e3,c7,_,_⟩:=hM.Tm;have kc:(BR l1).length=d.length:=by rw[e3,da]
 have j9:=c7.fK;refine AA (WB (i:=i) (j:=j) c7 (by omega) c6 (by omega) (by omega) (by omega)) ?_;rintro _ W1 ⟨lv,rfl,oL,g1⟩;rw[e3] at oL;refine BI ?_;refine Ko ?_;have e4:=hM.grow g1;refine AG ?_;refine Az (e4.box.1.cells 3 _ rfl) ?_;obtain⟨Fs,bs,ho,_,_⟩:=e4.XF;have k0:FG l2=d.length:=by rw[Ed,eI]
 have ke:=Spn.Gg eB;refine AA (Lo (i:=i) (j:=j) ho (by omega) c6 (by omega) (by omega) (by omega)) ?_;rintro _ W2 ⟨rv,rfl,oR,g2⟩;refine BI ?_;have eL:=Spn.HM eB i j;have eN:(Spn.kd.over l2 i j).flatMap Spn.u=((z.map Prod.snd).take j).drop i:=by rw[Spn.EE.over,hu]
 have al:((Spn.kd.over l2 i j).flatMap Spn.u).length=j-i:=by rw[eN,Hy,Lc,I3,eC];omega
 have e5:=Spn.Gg eL;rw [al] at e5;generalize Spn.kd.over l2 i j=row at *;have hs:=e4.grow g2;have gd:Grow W2 W2.drew:=Mod.drew _ _;have b1:=hs.grow gd;refine AT (λ_ _=>False) ?_;refine AG ?_;rw [AH,AI];refine AP ⟨b1.box.1.cells 4 _ rfl,λj hj e=>e⟩ ?_;have eR:=(g1.trans g2).trans gd;refine AA (HU b1.box.1 (c7.grow eR) (i:=i) (by omega) (by omega)) ?_;rintro _ W3 ⟨rfl,g3⟩;refine ⟨g3.mono λ_ _ h=>h.elim,?_⟩;have eX:=b1.grow g3;refine AA (HU eX.box.1 ((c7.grow eR).grow g3) (i:=j) (by omega) (by omega)) ?_;rintro _ W4 ⟨rfl,g4⟩;refine ⟨g4.mono λ_ _ h=>h.elim,?_⟩;have fa:=eX.grow g4;rw [e3];obtain ⟨Fp,Cp,bp,hv,_,_⟩:=fa.Tq;have hA:BJ ((Al d).take i)<=BJ ((Al d).take j):=nV _ (by
  rw [<-lQ c6,<-nB];exact oB _ _)
 have hB:BJ ((Al d).take j)<=BJ (Al d):=nV _ (oB _ _);have kf:=DL (Al d);refine AA (O3 hv (by omega) hA (by rw [DU];exact hB) (by rw [DU];omega) (λx I=>by
  obtain ⟨c,hc,rfl⟩:=lT.1 I;have:=(hG c (mg.1 hc).1).len;omega)) ?_
 rintro _ V ⟨pv,Wp,rfl,gA,gB,oP⟩;have e6:=gA.trans gB;refine⟨e6.mono λ_ _ h=>h.elim,?_⟩;refine BI ?_;have fo:=(gd.trans g3).trans g4;have b2:=fo.trans e6;have hD:=(g1.trans g2).trans b2;have hE:=fa.grow e6;have z1:=g1.size;have z2:=g2.size;have kg:=fo.size;have zA:=gA.size;have zB:=gB.size;have fs:((Bb d).take (BJ ((Al d).take j))).drop (BJ ((Al d).take i))=Bb ((d.take j).drop i):=by
  rw[(DZ (d.take j) i).2,(DZ d j).1,show Al (d.take j)=(Al d).take j from mO,nB,lQ c6]
 rw[fs] at oP;have hP:An (λx=>W.heap.size<=x/\x<V.heap.size) 1 (Ca λx=>W.heap.size<=x/\x<V.heap.size) V pv (Bb ((d.take j).drop i)):=
  An.sub (AE.sl oP) (λx I h=>⟨by have:=h.1;omega,I⟩) (by decide) λr x I=>Au.rsub I λy hy h=>⟨by have:=h.1;omega,hy⟩
 have hI:An (λx=>W.heap.size<=x/\x<V.heap.size) 1 Be V lv (((Al d).take j).drop i):=An.grow (An.sub (AE.sl oL) (λx I h=>⟨h.1,by have:=g2.size;have:=b2.size;omega⟩) (by decide) λ_ _ h=>h) (g2.trans b2) (by decide) λ_ _ h=>h;have fv:An (λx=>W.heap.size<=x/\x<V.heap.size) 2 Ei V rv row:=An.grow (An.sub (AE.sl oR) (λx I h=>⟨by have:=h.1;omega,by have:=b2.size;omega⟩) (by decide) λ_ _ h=>h) b2 (by decide) λ_ _ h=>h;clear oP oL oR
 let B:Nat->Nat:=λm=>((row.take m).flatMap Spn.u).length
 have b6:∀(m:Nat) (hm:m<row.length) (q:Nat),q<row[m].n->∃c,d[i+(B m+q)]?=some c/\(c.r≠10->f row[m].id=c.set)/\i+(B m+q)<j/\0<Spn.rn row[m].id none (z.map Prod.snd):=by
  intro m hm q hq;have e1:(row.flatMap Spn.u)[B m+q]?=some row[m].id:=by
   have:row=row.take m++(row[m]::row.drop (m+1)):=by rw[<-mI hm,TC]
   conv=>lhs;rw[this]
   rw[mf,lF (by show B m<=_;omega),show B m+q-((row.take m).flatMap Spn.u).length=q by show B m+q-B m=q;omega,mE,Q0 (by rw[Spn.u,me];exact hq),Spn.u,po,DN hq]
  have e7:=(Ad.1 e1).1;rw[eN,mM,mT,DN (by rw[al] at e7;omega),ly] at e1;rw[al] at e7;cases c8:z[i+(B m+q)]? with
  |none=>rw[c8] at e1;cases e1
  |some p=>
   rw[c8,mw,gM] at e1;have hp:=ln c8;refine⟨p.1,by rw[<-eA,ly,c8];rfl,λhK=>?_,by omega,?_⟩
   .rw[<-e1];exact(hf p hp).2 hK
   .rw[<-e1];exact Spn.MB (lT.2 ⟨p,hp,rfl⟩) (by simp)
 have b7:∀m (hm:m<row.length),B (m+1)=B m+row[m].n:=λm hm=>by
  show((row.take (m+1)).flatMap Spn.u).length=_;rw[S5,Bq hm,mf,BW];simp[Spn.u,B]
 have e8:B row.length=j-i:=by show((row.take row.length).flatMap Spn.u).length=_;rw[S7,al]
 let GS:Nat->Value->Value->World->Prop:=λe pv ov W'=>Grow V W'/\Hm W.heap.size V.heap.size W' ov ((d.take (i+e)).drop i)/\An (λx=>W.heap.size<=x/\x<V.heap.size) 1 (Ca λx=>W.heap.size<=x/\x<V.heap.size) W' pv (Bb ((d.take j).drop (i+e)))
 obtain⟨qa,qc,ga,_⟩:=fv.shape;have gb:Dr rv=Dr (.slice qa row.length qc):=by rw[ga]
 rw[gb,AO];refine AU (λvs W'=>∃(m:Nat) (pv ov:Value),m<=row.length/\vs=[pv,ov,zI m]/\GS (B m) pv ov W') (λvs _=>row.length-Dh vs 2) ⟨0,pv,_,Nn _,rfl,Mod.refl _ _,by show Hm _ _ _ _ ((d.take (i+0)).drop i);rw[lf,List.drop_take_self];exact Hm.nil,hP⟩ ?_;rintro vs W6 ⟨m,hL,gf,hm,rfl,g6,o6,p6⟩ _;simp only[FC];refine G9 (λe7=>?_) λkh=>?_;rotate_left
 .obtain rfl:m=row.length:=by omega
  rw[e8,show i+(j-i)=j by omega] at o6;obtain⟨D,q1,q2⟩:=o6;exact⟨gf,rfl,⟨D,q1.base λg hg=>by have:=(AE.Aj q1 g hg).1;omega,q2⟩,hD.trans g6⟩
 have a7:m<row.length:=by omega
 have hQ:=fv.grow g6 (by decide) λ_ _ h=>h;subst ga;obtain⟨p,r,rfl,_,hr,hc,rfl⟩:=hQ.get a7;refine AS a7 (AV (vs:=row[m].cells) rfl (λj u hu=>by rw[Addr.add_add];exact hc j u hu) ?_);refine Bx.new (vs:=row[m].cells) rfl rfl (Spn.one _) λki W7 k3 g7 hS=>?_;have gg:Grow W7 W7.drew:=Mod.drew _ _;have e9:=g7.trans gg;have hT:=g6.trans e9;have gl:=hE.grow hT;have dk:=hS.grow gg;have ea:=Spn.KA eL row[m] (ku a7);obtain⟨_,_,_,_,an⟩:=b6 m a7 0 ea;refine AT (λ_ _=>False) ?_;refine AG ?_;rw[AH,AI];refine AP ⟨gl.box.1.cells 5 _ rfl,λj hj e=>e⟩ ?_;rw[AH,AI];refine AP ⟨dk.cells 1 _ rfl,λj hj e=>e⟩ ?_;obtain⟨Ft,gm,_,_⟩:=gl.Vv;obtain⟨d1,d2⟩:=hh.idle (.inl an);obtain⟨cn,dr⟩:=hh.ask an;refine AA (To gm (by omega) (by omega) (by omega)) ?_;rintro v8 W8 ⟨g8,gr⟩;rw[dr] at gr;obtain⟨kj,rfl,o8⟩:=gr;simp only at o8;refine⟨g8.mono λ_ _ h=>h.elim,?_⟩;refine BI ?_;have k4:(f row[m].id).length<=64:=by
  obtain⟨C,pl,fr,bm,hR⟩:=gm;exact PO hR.core dr
 refine Az ((dk.grow g8).cells 0 _ rfl) ?_;have c9:=e9.trans g8;have hV:=(AE.sl o8).Gw (by decide);have kk:=e9.size;have z8:=g8.size;have kl:j<=10000000:=by omega
 have k5:B m+row[m].n<=j-i:=by
  have:=b7 m a7;have h2:B (m+1)<=B row.length:=by
   show((row.take (m+1)).flatMap Spn.u).length<=((row.take row.length).flatMap Spn.u).length;rw[S7];conv=>rhs;rw[<-TC (m+1) row,mf,BW]
   omega
  omega
 refine AU (λvs W'=>∃(q:Nat) (pv ov:Value),q<=row[m].n/\vs=[pv,ov,zI q]/\GS (B m+q) pv ov W'/\Mod (λx=>x<W6.heap.size) W8 W'/\∀g,ov.ownBlock=some g->g<W6.heap.size\/W8.heap.size<=g) (λvs _=>row[m].n-Dh vs 2) ⟨0,hL,gf,Nn _,rfl,⟨g6.trans c9,o6.grow c9,An.grow p6 c9 (by decide) λr x I=>Au.BO I c9 λ_ _ _ h=>h⟩,Mod.refl _ _,λg hg=>by obtain⟨D6,o,_⟩:=o6;exact .inl (AE.Aj o g hg).2⟩ ?_;rintro vs W9 ⟨q,ec,cd,hq,rfl,⟨ch,o9,p9⟩,ed,b8⟩ _;simp only[FC];refine G9 (λk6=>?_) λk7=>?_;rotate_left
 .obtain rfl:q=row[m].n:=by omega
  rw[AM,AK (by omega)];refine⟨⟨m+1,ec,cd,a7,rfl,?_⟩,by rw[aW,aW];omega⟩;rw[b7 m a7];exact⟨ch,o9,p9⟩
 have gv:q<row[m].n:=by omega
 obtain⟨c,b0,hW,km,_⟩:=b6 m a7 q gv;generalize he:B m+q=e at *;have hX:=(Ad.1 b0).1;have k8:c∈d:=ln b0;have hY:(((Al d).take j).drop i)[e]?=some c.r:=by rw[mM,mT,DN (by omega),Al,ly,b0];rfl
 have ee:(((Al d).take j).drop i).length=j-i:=by rw[Hy,Lc,da];omega
 have ef:(d.take j).drop (i+e)=c::(d.take j).drop (i+(e+1)):=by
  rw[mI (by rw[Lc];omega),ob];rw[Bq hX] at b0;rw[lK b0];rfl
 have eh:(d.take (i+(e+1))).drop i=(d.take (i+e)).drop i++[c]:=by
  rw[show i+(e+1)=i+e+1 by omega,S5,b0,oK,show i-(d.take (i+e)).length=0 by rw[Lc];omega];rfl
 rw[ef,VF] at p9;have kn:=ch.size;have dA:((d.take (i+e)).drop i).length=e:=by rw[Hy,Lc];omega
 obtain⟨D9,ej,ih⟩:=o9;obtain⟨oa,oc,il,_⟩:=AE.shape ej;have av:=AE.Aj ej;have ir:Hm W.heap.size V.heap.size W9 cd ((d.take (i+e)).drop i):=⟨D9,ej,ih⟩;have gw:=hI.grow ch (by decide) λ_ _ h=>h;obtain⟨la,lc,gW,_⟩:=gw.shape;rw[ee] at gW;have ek:(q:Int)+1<=9223372036854775807:=by omega
 refine AR (λvs W'=>∃b O D',vs=[.pointer (some ⟨b,0,none⟩)]/\Bx W' b [.int .i32 c.r,O]/\W9.heap.size<=b/\Grow W9 W'/\Ba D' W' O (f row[m].id)/\(∀x,D' x->W9.heap.size<=x/\x<W'.heap.size)) ?_ ?_;rotate_left
 .have b9:Grow W9 W9.drew:=Mod.drew _ _;have ko:=b9.size;have h3:=(hV.mod ed (λx _ I e'=>by have:=I.1.1;omega) (by decide) λ_ _ h=>h).grow b9 (by decide) λ_ _ h=>h;have iv:Dr cd=Dr (.slice oa e oc):=by rw[il,dA]
  refine AT (λn y=>n=9/\W9.heap.size<=y) ?_;rw[iv,AO];subst gW;obtain⟨pl,rl,rfl,h4,_,j0,h5⟩:=gw.get (i:=e) (by rw[ee];omega);have en:rl=[.int .i32 c.r]:=by
   have h':rl=_:=h5;rw[h'];congr 2
   have:=Bq (l:=((Al d).take j).drop i) (i:=e) (by rw[ee];omega);rw[hY] at this;exact(lK this).symm
  subst en;refine AS (by omega) ?_;refine AP ⟨b9.cell (by have:=j0 0 _ rfl;exact this) λh=>h,λn hn e'=>by have h1:=e'.2;have h2:=h4.2;rw[Ac] at h1;omega⟩ ?_;constructor
  .refine AA (Eh h3 (by omega)) ?_;rintro O a8 ⟨ak,U⟩;refine⟨U.mono λ_ _ h=>h.elim,?_⟩;obtain⟨ca,cc,ba,_⟩:=AE.shape ak;refine⟨#[.int .i32 c.r,O],by rw[ba];kernel_rfl,?_⟩;refine Bx.zero λb a1 hb a6 X=>⟨a6.mono λ_ _ h=>h.elim,?_⟩;have h6:=U.size;have cu:=a6.size;refine X.over (us:=[.int .i32 c.r,O]) rfl rfl (λu hu=>by simp only[Mp,l9,nw] at hu;rcases hu with rfl|rfl;rfl;rw[ba];rfl) λbb eo Q=>⟨Q.mono λx _ e'=>⟨rfl,by omega⟩,?_⟩;have ep:AE W9.drew.heap.size 83 5 CR a1 O (f row[m].id):=AE.mod (R':=CR) ak a6 (λ_ _ h=>h) λ_ _ _ h=>h;have bc:=AE.Aj ak;have bd:AE W9.drew.heap.size 83 5 CR bb O (f row[m].id):=AE.mod (R':=CR) ep Q (λx I e'=>by have:=bc x I;omega) λ_ _ _ h=>h;have h7:=Q.size;exact⟨b,O,_,rfl,eo,by omega,((b9.trans U).trans a6).next Q λx I e'=>by omega,AE.sl bd,λx I=>by have:=bc x I.2;omega⟩
  .refine Bx.zero λb a1 hb a6 X=>⟨a6.mono λ_ _ h=>h.elim,?_⟩;refine AA (Eh (h3.grow a6 (by decide) λ_ _ h=>h) (by omega)) ?_;rintro O a8 ⟨ak,U⟩;refine⟨U.mono λ_ _ h=>h.elim,?_⟩;obtain⟨ca,cc,ba,_⟩:=AE.shape ak;refine⟨#[.int .i32 c.r,O],by rw[ba];kernel_rfl,?_⟩;have h6:=U.size;have cu:=a6.size;have k9:=X.lt (QC _);refine(X.grow U).over (us:=[.int .i32 c.r,O]) rfl rfl (λu hu=>by simp only[Mp,l9,nw] at hu;rcases hu with rfl|rfl;rfl;rw[ba];rfl) λbb eo Q=>⟨Q.mono λx _ e'=>⟨rfl,by omega⟩,?_⟩;have bc:=AE.Aj ak;have bd:AE a1.heap.size 83 5 CR bb O (f row[m].id):=AE.mod (R':=CR) ak Q (λx I e'=>by have:=bc x I;omega) λ_ _ _ h=>h;have h7:=Q.size;exact⟨b,O,_,rfl,eo,by omega,((b9.trans a6).trans U).next Q λx I e'=>by omega,AE.sl bd,λx I=>by have:=bc x I.2;omega⟩
 rintro _ a8 ⟨b,O,D',rfl,er,hb,U,et,j1⟩ _;rw [Nr];have h6:=U.size;have cx:An (λx=>W.heap.size<=x/\x < V.heap.size) 1 (Ca λx=>W.heap.size<=x/\x < V.heap.size) a8 ec ((if c.r=10 then [c.set] else [])++Bb ((d.take j).drop (i+(e+1)))):=An.grow p9 U (by decide) λr x I=>Au.BO I U λ_ _ _ h=>h;refine AR (λvs W'=>∃ Y bk eu,vs=[Y]/\Bx W' b [.int .i32 c.r,bk]/\Mod (λx=>x=b) a8 W'/\Ba eu W' bk c.set/\(∀ x,eu x->W.heap.size<=x/\x < W'.heap.size/\(x < V.heap.size\/W9.heap.size<=x))/\
   An (λx=>W.heap.size<=x/\x < V.heap.size) 1 (Ca λx=>W.heap.size<=x/\x < V.heap.size) W' Y (Bb ((d.take j).drop (i+(e+1))))) ?_ ?_
 .rintro _ a1 ⟨Y,bk,eu,rfl,X,J,ew,h8,bl⟩ _;rw[Nr];have cu:=J.size;have bx:Grow W9 a1:=U.next J λx I e'=>by omega
  have ep:Hm W.heap.size V.heap.size a1 cd ((d.take (i+e)).drop i):=ir.grow bx;refine X.Eg rfl ?_;refine N7 ep (by omega) ew (λx I=>?_) (by rw[dA];omega) λj2 bb bd Q j3=>?_
  .have:=h8 x I;refine⟨this.1,this.2.1,λe'=>?_⟩;have:=av x e';omega
  rw[AM,AK ek];have h9:Grow V bb:=(ch.trans bx).next Q λx I e'=>by have:=av x e';omega
  have kp:=ed.size;have h7:=Q.size;refine⟨⟨q+1,Y,j2,gv,rfl,?_,?_⟩,by rw[aW,aW];omega⟩
  .rw[show B m+(q+1)=e+1 by omega];refine⟨?_,by rw[eh];exact bd,An.mod bl Q (λx _ I e'=>by have:=av x e';omega) (by decide) λr x I=>Au.BO I Q λy _ hy e'=>by have:=av y e';omega⟩;exact h9
  .refine⟨(ed.next bx λ_ _ h=>h.elim).next Q λx I e'=>?_,λg hg=>?_⟩
   .rcases b8 x e' with h|h
    .exact h
    .omega
   .rcases j3 g hg with h|h
    .exact b8 g h
    .exact .inr (by omega)
 .refine Az (er.cells 0 _ rfl) ?_;rw[Aa];refine AD (λey=>?_) λey=>?_;rotate_left
  .have ax:c.r≠10:=ey;rw[Bp ax,lg] at cx;rw[<-hW ax];exact⟨ec,O,D',rfl,er,Mod.refl _ _,et,λx I=>by have:=j1 x I;exact⟨by omega,this.2,.inr this.1⟩,cx⟩
  have ax:c.r=10:=ey;rw[DN ax] at cx;have Z:Grow a8 a8.drew:=Mod.drew _ _;have ka:=Z.size;have ay:=An.grow cx Z (by decide) λr x I=>Au.BO I Z λ_ _ _ h=>h;obtain⟨pa,pc,j4,_⟩:=ay.shape;subst j4;obtain⟨pp,rr,rfl,j5,_,j6,ez,rfl,j7⟩:=ay.get (i:=0) (by simp);have bZ:Ba (λx=>W.heap.size<=x/\x<V.heap.size) a8.drew ez c.set:=j7;have e2:=er.grow Z;obtain⟨kq,kr,aZ,_⟩:=bZ.shape;refine AT (λn y=>n=6/\y=b) ?_;refine AS (by simp) ?_;refine AP ⟨by have:=j6 0 _ rfl;exact this,λn hn e'=>by have h1:=e'.2;have h2:=j5.2;rw[Ac] at h1;omega⟩ ?_;rw[AH,AI];have j8:([c.set]++Bb ((d.take j).drop (i+(e+1)))).length=(Bb ((d.take j).drop (i+(e+1)))).length+1:=by simp
  constructor
  .refine Fm (e:=64) (k:=1) (i:=Tryz.t64) (j:=1) (by kernel_rfl) (by kernel_rfl) (by kernel_rfl) ay (by simp) λY bl=>⟨Mod.refl _ _,?_⟩;have c4:An (λx=>W.heap.size<=x/\x<V.heap.size) 1 (Ca λx=>W.heap.size<=x/\x<V.heap.size) a8.drew Y (Bb ((d.take j).drop (i+(e+1)))):=bl;refine e2.st (q:=1) (show 1<2 by decide) (by rw[aZ];rfl) (by rw[aZ];rfl) λa1 X J=>⟨J.mono λx _ e'=>⟨rfl,e'⟩,?_⟩;have cu:=J.size;refine⟨Y,ez,_,rfl,X,(Z.mono λ_ _ h=>h.elim).trans J,bZ.mod J (λx _ I e'=>by have:=I.2;omega) (by decide) (λ_ _ h=>h),λx I=>⟨I.1,by have:=I.2;omega,.inl I.2⟩,An.mod c4 J (λx _ I e'=>by have:=I.2;omega) (by decide) λr x I=>Au.BO I J λy _ hy e'=>by have:=hy.2;omega⟩
  .refine e2.st (q:=1) (show 1<2 by decide) (by rw[aZ];rfl) (by rw[aZ];rfl) λa1 X J=>⟨J.mono λx _ e'=>⟨rfl,e'⟩,?_⟩;have cu:=J.size;have hd:=An.mod ay J (λx _ I e'=>by have:=I.2;omega) (by decide) λr x I=>Au.BO I J λy _ hy e'=>by have:=hy.2;omega
   refine Fm (e:=64) (k:=1) (i:=Tryz.t64) (j:=1) (by kernel_rfl) (by kernel_rfl) (by kernel_rfl) hd (by simp) λY bl=>⟨Mod.refl _ _,?_⟩;have c4:An (λx=>W.heap.size<=x/\x<V.heap.size) 1 (Ca λx=>W.heap.size<=x/\x<V.heap.size) a1 Y (Bb ((d.take j).drop (i+(e+1)))):=bl;refine⟨Y,ez,_,rfl,X,(Z.mono λ_ _ h=>h.elim).trans J,bZ.mod J (λx _ I e'=>by have:=I.2;omega) (by decide) (λ_ _ h=>h),λx I=>⟨I.1,by have:=I.2;omega,.inl I.2⟩,c4⟩
end
section
variable {w0:World}{F:Nat->Prop}{W:World}{a:TxA}{σ:SKs}{most:Int}{N:Nat}{d:List Cel}
def LL{i:Nat}(h:Gx .f w0 F W a σ most d N)(hi:i<=d.length)(B:d.length<=10000000) :
  AB prog 26 [.pointer (some ⟨a.b,0,none⟩),zI (i:Int)] (λv' w'=>v'=.tuple #[zI (BJ ((Al d).take i):Int),zI 0]/\Grow W w') W:=by
 refine uS2 (dB 267353 [] []) func26 (λ_ _ _ _=>⟨by conv=>lhs;reduce,by dsimp only[PI,AF],by kernel_rfl⟩) ?_;unfold uI;refine AA (FL h.box.1) ?_;rintro _ _ ⟨rfl,rfl⟩;rename World=>W
 rw[Ah];refine AL ?_;refine AG ?_;refine Az (h.box.1.cells 2 _ rfl) ?_;obtain⟨l1,Fr,bt,j,m⟩:=h.Hw;have o:(BR l1).length=d.length:=by rw[j,Al,I3]
 refine AA (Kc (i:=i) m (by omega) (by omega)) ?_;rintro _ I ⟨rfl,q⟩;rw[j];exact Ae (vs:=[_,_]) (by rfl) (Ae (vs:=[_,_]) (by rfl) ⟨rfl,q⟩)
def HD(h:Gx .f w0 F W a σ most d N):AB prog 38 [.pointer (some ⟨a.b,0,none⟩)] (λv' w'=>v'=zI (d.length:Int)/\Grow W w') W:=by
 obtain⟨l1,Fr,bt,i,m⟩:=h.Hw;have j:(BR l1).length=d.length:=by rw[i,Al,I3]
 have:=Ws h.box.1 m;rwa [j] at this
def Vj{k:Nat}(h:Gx .f w0 F W a σ most d N)(o:d.length<=10000000):AB prog 27 [.pointer (some ⟨a.b,0,none⟩),zI (k:Int)] (λv' w'=>v'=La (Al d) k/\Grow W w') W:=by
 obtain⟨l1,Fr,bt,i,j⟩:=h.Hw;have m:(BR l1).length=d.length:=by rw[i,Al,I3]
 have:=Qm (k:=k) h.box.1 j (by omega);rwa [i] at this
def Rr(h:Gx .f w0 F W a σ most d N)(X:∀c∈d,Et σ.ks c.set)(hz:d.length<=10000000)(hN:N<=1000000000) :
  AB prog 42 [.pointer (some ⟨a.b,0,none⟩)] (λv' w'=>An (λx=>W.heap.size<=x/\x<w'.heap.size) 1 (Ca λx=>W.heap.size<=x/\x<w'.heap.size) w' v' (Bb d)/\Grow W w') W:=by
 obtain⟨z,l2,t,f,Y,O,Z,hu,hh,a1,a6⟩:=h;have Q:(Al d).length=d.length:=I3 _;refine uS1 (dB 32248921 [] [(dC [8,9] [0,1,3,7,0,16,48,112,240,511,1023,2047,2047,4095,16383] [])]) func42 (λ_ _ _=>⟨by conv=>lhs;reduce,by dsimp only[PI,AF],by kernel_rfl⟩) ?_;unfold uI;refine AA (FL O.box.1) ?_;rintro _ _ ⟨rfl,rfl⟩;rename World=>W
 rw [Ah];refine AL ?_;have I:Grow W W.drew:=Mod.drew _ _;have i:=O.grow I;refine AT (λ_ _=>False) ?_;refine AG ?_;rw [AH,AI];refine AP ⟨i.box.1.cells 4 _ rfl,λj hj e=>e⟩ ?_;refine AG ?_;rw [AH,AI];refine AP ⟨i.box.1.cells 4 _ rfl,λj hj e=>e⟩ ?_;obtain ⟨Fp,Cp,bp,o,_,_⟩:=i.Tq;refine AA (fQ o) ?_;rintro _ W1 ⟨rfl,B⟩;refine ⟨B.mono λ_ _ h=>h.elim,?_⟩;have a7:=DL (Al d);have a8:=DU d;refine AA (O3 (k:=0) (m:=(Bb d).length) (o.grow B) (by omega) (Nn _) (K8 _) (by omega) (λx q=>by
  obtain ⟨c,hc,rfl⟩:=lT.1 q;have:=(X c (mg.1 hc).1).len;omega)) ?_
 rintro _ W2 ⟨pv,Wp,rfl,J,U,V⟩;refine⟨(J.trans U).mono λ_ _ h=>h.elim,?_⟩;refine BI ?_;have z0:=I.size;have z1:=B.size;have zA:=J.size;rw[S7,mz] at V;exact⟨An.sub (AE.sl V) (λx q h=>⟨by have:=h.1;omega,q⟩) (by decide) λr x q=>Au.rsub q λy hy h=>⟨by have:=h.1;omega,hy⟩,(I.trans B).trans (J.trans U)⟩
def cM{i:Nat}(h:Gx .f w0 F W a σ most d N)(hi:i<d.length)(hG:∀c∈d,Et σ.ks c.set)(hz:d.length<=10000000)(hN:N<=1000000000) :
  AB prog 113 [.pointer (some ⟨a.b,0,none⟩),zI (i:Int)] (λv' w'=>∃r,v'=.tuple #[.agg r.toArray,zI 0]/\Jz (λx=>W.heap.size<=x/\x<w'.heap.size) w' r d[i]/\Grow W w') W:=by
 refine uS2 (dB 2296544954160217 [([],[(5,5),(12,20)])] []) func113 (λ_ _ _ _=>⟨by conv=>lhs;reduce,by dsimp only[PI,AF],by kernel_rfl⟩) ?_;unfold uI;refine Bx.zero λb X hb J B=>?_;have h1:=h.grow J;refine AA (FL h1.box.1) ?_;rintro _ _ ⟨rfl,rfl⟩;rename World=>X
 rw[Ah];refine AL ?_;refine AR (λ_ W'=>Grow X W') ?_ ?_;rotate_left
 .rw[Ai];refine AD (λe=>by omega) λ_=>?_;refine AA (HD h1) ?_;rintro _ Y ⟨rfl,o⟩;rw[Cu];exact AD (λe=>by omega) λ_=>o
 rintro _ Y o _;have h2:=h1.grow o;rw[AM,wrap64 (by omega) (by omega),show((i:Int)+1)=((i+1:Nat):Int) by omega];refine AA (Mm (i:=i) (j:=i+1) h2 (by omega) (by omega) hG hz hN) ?_;rintro _ Z ⟨cv,rfl,q,g3⟩;refine BI ?_;refine Ko ?_;have e1:(d.take (i+1)).drop i=[d[i]]:=by
  rw[S5,Bq hi,oK,mn (by rw[Lc];omega),show i-(d.take i).length=0 by rw[Lc];omega];rfl
 rw[e1] at q;have I:=q.rd (K8 _);obtain⟨ca,cc,O,_⟩:=I.shape;subst O;obtain⟨p,r,rfl,_,hr,hc,Q⟩:=I.get (i:=0) (by simp);have m:Jz (λx=>Y.heap.size<=x/\x<Z.heap.size) Z r d[i]:=Q;refine AS (by simp) ?_;refine AV hr (λj u hu=>by rw[Addr.add_add];exact hc j u hu) ?_;have B3:=(B.grow o).grow g3;have z1:=J.size;have z2:=o.size;have a1:=B.lt (QC _);refine B3.over hr rfl m.one λW4 B4 U=>?_;refine B4.Eg hr ?_;have z4:=U.size;refine⟨r,rfl,m.mod U (λx _ V e=>by have:=V.1;omega) λx V h=>⟨by have:=h.1;omega,by have:=h.2;omega⟩,?_⟩;exact((J.trans o).trans g3).next U λx V e=>by omega
end
noncomputable def Ds(ks:List DKey)(most:Int)(d:List Cel)(x:List Dop):List Cel:=if Cj ks x d.length most=0 then CT ks d x else d
structure DocM (ks:List DKey) (most:Int) (d:List Cel):Prop where
 g:JW ks d
 pos:1<=d.length
 le:(d.length:Int)<=most
section
variable {w0:World}{F:Nat->Prop}{W:World}{a:TxA}{σ:SKs}{most:Int}{N:Nat}{d:List Cel}
def OC{x:List Dop}(h:Gx .f w0 F W a σ most d N)(J:EA w0)(i:DocM σ.ks most d)(j:σ.ks.length<=64)(O:∀k∈σ.ks,D8 k)(Q:Ak S S W v x)(m:∀y,S y->¬F y)(U:∀o∈x,NT o)(hl:x.length<=1048576)(hm:most<=2000)(Z:N+EO 4000 x<=1000000000) :
  AB prog 57 [.pointer (some ⟨a.b,0,none⟩),v] (λv' w'=>v'=zI (Cj σ.ks x d.length most)/\Lk .f w0 F W w' a σ most (Ds σ.ks most d x) (N+EO 4000 x)/\DocM σ.ks most (Ds σ.ks most d x)) W:=by
 have q:=i.le;refine AA (Sw (B:=4000) h J i.g j O Q (λy V=>m y (V.elim id id)) U (by omega) (by omega) (λhF=>?_) (by omega) (by omega)) ?_
 .have:=hF.most;have:=hF.Lh;omega
 rintro _ w' ⟨rfl,h1,X⟩;refine⟨rfl,h1,?_⟩;unfold Ds;split
 .rename_i e;have hF:=(Dw (by omega)).1 e;have:=O7 (ks:=σ.ks) (x:=x) (d:=d) (λo Y=>(hF.DV o Y).1) hF.Lh;have:=hF.most;have I:=X e;refine⟨I,?_,by omega⟩;have:CT σ.ks d x≠[]:=dU I.last;exact mN.2 this
 .exact i
end
structure Ja (ks:List DKey) (n:Int) (x y:List Dop):Prop where
 CT:∀d z,CT ks d (x++z)=CT ks d (y++z)
 Lh:BN x=BN y
 iQ:CJ x=CJ y
 nn:(∀o∈x,0<=o.n)->∀o∈y,0<=o.n
 pl:(∀o∈x,Dl ks o)->∀o∈y,Dl ks o
 fin:∀p z,(∀o∈x,0<=o.n)->0<=p->p+BN (x++z)<=n->CN n p (x++z)->CN n p (y++z)
def Fq(x y:List Dop):BN (x++y)=BN x+BN y:=by
 induction x with
 |nil=>simp[BN]
 |cons o x i=>rw[Za,BN,BN,i];omega
def IC(x y:List Dop):CJ (x++y)=CJ x+CJ y:=by
 induction x with
 |nil=>simp[CJ]
 |cons o x i=>rw[Za,CJ,CJ,i];omega
section
variable {ks:List DKey}{n:Int}{x y w z:List Dop}
def Ja.refl(x:List Dop):Ja ks n x x:=⟨λ_ _=>rfl,rfl,rfl,λh=>h,λh=>h,λ_ _ _ _ _ h=>h⟩
def Ja.trans(h:Ja ks n x y)(h':Ja ks n y z):Ja ks n x z:=
 ⟨λd u=>(h.CT d u).trans (h'.CT d u),h.Lh.trans h'.Lh,h.iQ.trans h'.iQ,λe=>h'.nn (h.nn e),λe=>h'.pl (h.pl e),λp u e h0 hp i=>h'.fin p u (h.nn e) h0 (by rw[Fq] at hp ⊢;rw[<-h.Lh];exact hp) (h.fin p u e h0 hp i)⟩
def Ja.cons(o:Dop)(h:Ja ks n x y):Ja ks n (o::x) (o::y):=by
 refine⟨λd u=>?_,?_,?_,λe=>?_,λe=>?_,λp u e h0 hp i=>?_⟩
 .show Go.Proofs.YtbdjachmndlplaaGreatDoor.CT ks d (o::(x++u))=Go.Proofs.YtbdjachmndlplaaGreatDoor.CT ks d (o::(y++u));rw[Go.Proofs.YtbdjachmndlplaaGreatDoor.CT,Go.Proofs.YtbdjachmndlplaaGreatDoor.CT,h.CT,h.CT]
 .rw[BN,BN,h.Lh]
 .rw[CJ,CJ,h.iQ]
 .intro q j;rcases Mp.1 j with rfl|j
  .exact e _ (by simp)
  .exact h.nn (λr hr=>e r (by simp[hr])) q j
 .intro q j;rcases Mp.1 j with rfl|j
  .exact e _ (by simp)
  .exact h.pl (λr hr=>e r (by simp[hr])) q j
 .have e':∀q∈x,0<=q.n:=λq j=>e q (by simp[j]);have B:=e o (by simp);rw[Za,CN] at i ⊢;rw[Za,BN] at hp;by_cases k2:o.kind=2
  .rw[DN k2] at i hp ⊢;exact⟨i.1,h.fin p u e' h0 (by omega) i.2⟩
  .rw[Bp k2] at i hp ⊢;by_cases m:o.kind=3
   .rw[DN m] at i ⊢;exact⟨i.1,h.fin _ u e' (by omega) (by omega) i.2⟩
   .rw[Bp m] at i ⊢;exact h.fin _ u e' (by omega) (by omega) i
def Ja.pre(w:List Dop)(h:Ja ks n x y):Ja ks n (w++x) (w++y):=by
 induction w with
 |nil=>exact h
 |cons o w i=>exact i.cons o
def Ja.app(h:Ja ks n x y)(w:List Dop):Ja ks n (x++w) (y++w):=by
 refine⟨λd u=>?_,?_,?_,λe=>?_,λe=>?_,λp u e h0 hp j=>?_⟩
 .rw[P9,P9];exact h.CT d _
 .rw[Fq,Fq,h.Lh]
 .rw[IC,IC,h.iQ]
 .intro q i;rcases By.1 i with i|i
  .exact h.nn (λr hr=>e r (by simp[hr])) q i
  .exact e _ (by simp[i])
 .intro q i;rcases By.1 i with i|i
  .exact h.pl (λr hr=>e r (by simp[hr])) q i
  .exact e _ (by simp[i])
 .rw[P9] at hp j ⊢;exact h.fin p _ (λq i=>e q (by simp[i])) h0 hp j
def Z8{a b:Int}(ha:0<=a)(hb:0<=b)(p:List Chg)(r1 o:List Int)(j B:List Attr):Ja ks n [⟨1,a,r1,j,p⟩,⟨1,b,o,B,p⟩] [⟨1,a+b,r1,j,p⟩]:=by
 have e:(a+b).toNat=a.toNat+b.toNat:=by omega
 refine⟨λd u=>?_,?_,?_,λh q i=>?_,λh q i hk=>?_,λq u h h0 hp m=>?_⟩
 .simp only[Za,lg,Go.Proofs.YtbdjachmndlplaaGreatDoor.CT,mF,e];rw[<-P9,<-kZ,List.take_add,oo]
 .simp[BN,e]
 .simp[CJ,e]
 .simp only[S6] at i;subst i;show 0<=a+b;omega
 .simp only[S6] at i;subst i;exact absurd hk (show ¬(1:Int)=2 by decide)
 .simp only[Za,lg,CN,show ¬(1:Int)=2 by decide,show ¬(1:Int)=3 by decide,lW] at m ⊢;rw[<-Int.add_assoc];exact m
def aK{a b:Int}(ha:0<=a)(hb:0<=b)(r1 B:List Int)(j I:List Attr)(m J:List Chg):Ja ks n [⟨3,a,r1,j,m⟩,⟨3,b,B,I,J⟩] [⟨3,a+b,r1,j,m⟩]:=by
 have e:(a+b).toNat=a.toNat+b.toNat:=by omega
 refine⟨λd u=>?_,?_,?_,λh q i=>?_,λh q i hk=>?_,λq u h h0 hp o=>?_⟩
 .simp only[Za,lg,Go.Proofs.YtbdjachmndlplaaGreatDoor.CT,show ¬(3:Int)=1 by decide,show ¬(3:Int)=2 by decide,lW,e,oo]
 .simp[BN,e]
 .simp[CJ]
 .simp only[S6] at i;subst i;show 0<=a+b;omega
 .simp only[S6] at i;subst i;exact absurd hk (show ¬(3:Int)=2 by decide)
 .simp only[Za,lg,CN,show ¬(3:Int)=2 by decide,lW,mF] at o ⊢;rw[<-Int.add_assoc];exact o.2
def bz(r1 i:List Int)(s:List Attr)(o J:Int)(B O:List Chg):Ja ks n [⟨2,o,r1,s,B⟩,⟨2,J,i,s,O⟩] [⟨2,o,r1++i,s,B⟩]:=by
 refine⟨λd u=>?_,?_,?_,λh q m=>?_,λh q m hk I hb=>?_,λq u h h0 hp Q=>?_⟩
 .simp only[Za,lg,Go.Proofs.YtbdjachmndlplaaGreatDoor.CT,show ¬(2:Int)=1 by decide,lW,mF,kZ,P9]
 .simp[BN]
 .simp[CJ]
 .simp only[S6] at m;subst m;exact h ⟨2,o,r1,s,B⟩ (by simp)
 .simp only[S6] at m;subst m;have h1:=h ⟨2,o,r1,s,B⟩ (by simp) rfl I;have U:=h ⟨2,J,i,s,O⟩ (by simp) rfl I;simp only[ER,BW] at hb ⊢;have V:0<s.length:=mN.2 I;have X:0<(CL ks true s).length->(CL ks true s).length=s.length/\BJ r1=r1.length:=λe=>h1 (.inl e);have Y:0<(CL ks true s).length->(CL ks true s).length=s.length/\BJ i=i.length:=λe=>U (.inl e);have k1:0<BJ r1->(CL ks true s).length=s.length/\BJ r1=r1.length:=λe=>h1 (.inr e);have k2:0<BJ i->(CL ks true s).length=s.length/\BJ i=i.length:=λe=>U (.inr e);have j:0<(CL ks true s).length:=by
   rcases hb with e|e
   .exact e
   .by_cases Z:0<BJ r1
    .have:=(k1 Z).1;omega
    .have:=(k2 (by omega)).1;omega
  have a1:=X j;have a2:=Y j;exact⟨a1.1,by omega⟩
 .simp only[Za,lg,CN,mF] at Q ⊢;exact Q.2
def Yv{g:Int}(o:1<=g)(i:Dop)(hi:i.kind=2)(r:List Int)(s:List Attr)(q:List Chg):Ja ks n [⟨3,g,r,s,q⟩,i] [i,⟨3,g,r,s,q⟩]:=by
 refine⟨λd u=>?_,?_,?_,λh q j=>h q (by simp at j ⊢;exact j.symm),λh q j=>h q (by simp at j ⊢;exact j.symm),λp u h h0 hp m=>?_⟩
 .simp only[Za,lg,Go.Proofs.YtbdjachmndlplaaGreatDoor.CT,hi,show ¬(3:Int)=1 by decide,show ¬(3:Int)=2 by decide,show ¬(2:Int)=1 by decide,lW,mF]
 .simp[BN,hi]
 .simp[CJ,hi]
 .simp only[Za,lg,CN,BN,hi,show ¬(3:Int)=2 by decide,lW,mF] at m hp ⊢;exact⟨by omega,m.1,m.2.2⟩
def OP(i:List Dop)(b o:Dop):(i++[b]).set ((i++[b]).length-1) o=i++[o]:=by
 rw[BW,nT,ph,mJ _ _ (K8 _),p5];rfl
def MD(l:List Dop):l=[]\/∃i b,l=i++[b]:=by
 rcases lS l with h|⟨i,b,h⟩
 .exact .inl h
 .exact .inr ⟨i,b,by rw[h,mB]⟩
def Z6{c:List Dop}{m:Int}(p:List Chg)(hm:0<=m)(hc:∀o∈c,0<=o.n/\o.n+m<=4611686018427387904):Ja ks n (c++[⟨1,m,[],[],p⟩]) (FU c m p):=by
 unfold FU;rcases MD c with rfl|⟨i,b,rfl⟩
 .exact Ja.refl _
 .rw[cq];simp only[kY,lu];split
  .rename_i h;obtain⟨j,q⟩:=hc b (by simp);rw[OP,wrap64 (by omega) (by omega)];obtain⟨k,bn,br,B,I⟩:=b;obtain⟨rfl,rfl⟩:=h;have:=(Z8 (ks:=ks) (n:=n) j hm I br [] B []).pre i;rw[P9];exact this
  .exact Ja.refl _
def Tn(h:Ew a)(rs:List Int)(s:List Attr):Ja ks n (a++[⟨2,0,rs,s,[]⟩]) (Ff a rs s):=by
 unfold Ff;cases h with
 |nil=>exact Ja.refl _
 |snoc i r t h hr j=>
  rw[cq];simp only[kY,lu];split
  .rename_i e;rw[OP,P9,<-e];exact(bz r rs t 0 0 [] []).pre i
  .exact Ja.refl _
def Ew.zero(h:Ew a):∀o∈a,o.n=0:=by
 induction h with
 |nil=>simp
 |snoc i rs set h hr q m=>
  intro o j;rcases By.1 j with j|j
  .exact m o j
  .simp only[S6] at j;subst j;rfl
def Tw{g:Int}(h:Ew a)(j:0<=g):∀o∈A6 a g,0<=o.n:=by
 intro o i;unfold A6 at i;split at i
 .rcases By.1 i with i|i
  .have:=h.zero o i;omega
  .simp only[S6] at i;subst i;exact j
 .have:=h.zero o i;omega
def EP.kS{d:List Dop}(h:EP d):∀o∈d,0<=o.n:=by
 induction h with
 |nil=>simp
 |snoc d ins gone m p h hi j hb B hp q=>
  intro o i;simp only[By,S6] at i;rcases i with(i|i)|rfl
  .exact q o i
  .exact Tw hi j o i
  .show 0<=m;omega
def Zr{l:List Dop}(h:∀o∈l,0<=o.n){o:Dop}(i:o∈l):o.n<=Ev l:=by
 induction l with
 |nil=>simp at i
 |cons q l j=>
  have e:Ev (q::l)=q.n+Ev l:=by simp[Ev]
  have h1:=h q (by simp);have B:0<=Ev l:=by
   clear j i;have m:∀o∈l,0<=o.n:=λo i=>h o (by simp[i]);clear h e h1;induction l with
   |nil=>simp[Ev]
   |cons r l j=>
    have e:Ev (r::l)=r.n+Ev l:=by simp[Ev]
    have:=m r (by simp);have:=j λo i=>m o (by simp[i]);omega
  rcases Mp.1 i with rfl|i
  .omega
  .have:=j (λo i=>h o (by simp[i])) i;omega
def Xk{s:GJ}{t:Int}(h:Canon s t){o:Dop}(Q:FT o)(ht:t+o.n<=4611686018427387904):Ja ks n (s.done++A6 s.ins s.gone++[o]) ((Bu s o).done++A6 (Bu s o).ins (Bu s o).gone):=by
 obtain⟨done,ins,gone⟩:=s;obtain⟨h1,B,J,U⟩:=h;simp only at h1 B J U ⊢;obtain⟨k,m,rs,set,p⟩:=o;have i:∀l:List Dop,A6 l 0=l:=λl=>by unfold A6;rw[Bp (by decide)]
 have X:=h1.nn;rcases Q with⟨rfl,rfl,rfl,k1,k2⟩|⟨rfl,rfl,rfl,rfl,k1,k2⟩|⟨rfl,rfl,rfl,k1⟩
 .simp only at k1 k2 ht;have e:Bu ⟨done,ins,gone⟩ ⟨1,m,[],[],p⟩=⟨FU (done++A6 ins gone) m p,[],0⟩:=by
   unfold Bu KQ;rw[DN rfl,Bp (by simp only;omega)]
  rw[e];simp only[i,lA];have I:∀q∈done++A6 ins gone,0<=q.n:=λq j=>by
   rcases By.1 j with j|j
   .exact h1.kS q j
   .exact Tw B J q j
  refine Z6 p (by omega) λq j=>⟨I q j,?_⟩;have:=Zr I j;rw[Cr,HJ B J] at this;omega
 .simp only at k1 k2 ht;have e:Bu ⟨done,ins,gone⟩ ⟨3,m,[],[],[]⟩=⟨done,ins,gone+m⟩:=by
   unfold Bu RX;rw[Bp (show ¬(3:Int)=1 by decide),Bp (show ¬(3:Int)=2 by decide)];show GJ.mk done ins (IntKind.i64.wrap (gone+KM m 0))=_;rw[show KM m 0=m by unfold KM;split<;>omega,wrap64 (by omega) (by omega)]
  rw[e];simp only;have V:A6 ins (gone+m)=ins++[⟨3,gone+m,[],[],[]⟩]:=by unfold A6;rw[DN (by omega)]
  rw[V];by_cases O:0<gone
  .rw[show A6 ins gone=ins++[⟨3,gone,[],[],[]⟩] by unfold A6;rw[DN O],P9,P9];exact((aK J (by omega) [] [] [] [] [] []).pre ins).pre done
  .obtain rfl:gone=0:=by omega
   rw[i,Int.zero_add,P9];exact Ja.refl _
 .simp only at k1 ht;have e:Bu ⟨done,ins,gone⟩ ⟨2,0,rs,set,[]⟩=⟨done,Ff ins rs set,gone⟩:=by
   unfold Bu NM;rw[Bp (show ¬(2:Int)=1 by decide),DN rfl,Bp k1]
  rw[e];simp only;by_cases O:0<gone
  .rw[show A6 ins gone=ins++[⟨3,gone,[],[],[]⟩] by unfold A6;rw[DN O],show A6 (Ff ins rs set) gone=Ff ins rs set++[⟨3,gone,[],[],[]⟩] by unfold A6;rw[DN O],P9,P9];refine Ja.trans (((Yv (by omega) ⟨2,0,rs,set,[]⟩ rfl [] [] []).pre ins).pre done) ?_;have:=((Tn (ks:=ks) (n:=n) B rs set).app [⟨3,gone,[],[],[]⟩]).pre done;rw[P9] at this;exact this
  .obtain rfl:gone=0:=by omega
   rw[i,i,P9];exact(Tn B rs set).pre done
def Zm{x:List Dop}(h:∀o∈x,FT o)(hl:x.length<=1048576):∀k,k<=x.length->Ja ks n (x.take k) ((BG (x.take k)).done++A6 (BG (x.take k)).ins (BG (x.take k)).gone):=by
 intro k;induction k with
 |zero=>intro _;exact Ja.refl _
 |succ k I=>
  intro hk;have i:k<x.length:=by omega
  have m:∀q∈x.take k,FT q:=λq J=>h q (lJ J);have j:(x.take k).length=k:=by rw[Lc];omega
  have hc:=Ih (x.take k) m (by omega);have O:=Il (x.take k) m;have B:=h x[k] (ku i);have Q:=B.nn;have ex:x.take (k+1)=x.take k++[x[k]]:=by rw[S5,Bq i];rfl
  have e:BG (x.take (k+1))=Bu (BG (x.take k)) x[k]:=by rw[ex];unfold BG;rw[mY];rfl
  rw[e,ex];refine Ja.trans ((I (by omega)).app [x[k]]) (Xk hc B ?_);rw[j] at O;have:(k:Int)*536870912<=1048576*536870912:=qJ (by omega) (by decide);omega
def Ze{a b:List Dop}(h:∀d,CT ks d a=CT ks d b)(w:List Dop):∀d,CT ks d (w++a)=CT ks d (w++b):=by
 induction w with
 |nil=>exact h
 |cons o w i=>intro d;rw[Za,Za,CT,CT,i,i]
def V4(c:Cel):Ce ks [] c=c:=by
 obtain⟨r,s⟩:=c;unfold Ce Mk CP;simp only[List.filter_nil];cases s<;>rfl
def ZM:∀{w:List Dop} {p:Int},CN n p (w++a)->CN n p w:=by
 intro w;induction w with
 |nil=>intro p _;trivial
 |cons o w i=>
  intro p h;rw[Za,CN] at h;rw[CN];split
  .rename_i k;rw[DN k] at h;exact⟨h.1,i h.2⟩
  .rename_i k;rw[Bp k] at h;split
   .rename_i j;rw[DN j] at h;exact⟨h.1,i h.2⟩
   .rename_i j;rw[Bp j] at h;exact i h
def bL{x:List Dop}(h:∀o∈x,FT o)(hl:x.length<=1048576)(ht:(BN x:Int)<=n)(O:CN n 0 x)(hp:∀o∈x,Dl ks o) :
  (∀d,CT ks d (BV x)=CT ks d x)/\BN (BV x)<=BN x/\BN x+CJ (BV x)=BN (BV x)+CJ x/\CN n 0 (BV x)/\∀o∈BV x,Dl ks o:=by
 have E:=Zm (ks:=ks) (n:=n) h hl x.length (K8 _);rw[S7] at E;have j:∀o∈x,0<=o.n:=λo m=>(h o m).nn.1;have q:∀d,CT ks d ((BG x).done++A6 (BG x).ins (BG x).gone)=CT ks d x:=λd=>by have:=E.CT d [];rw[lA,lA] at this;exact this.symm
 have B:CN n 0 ((BG x).done++A6 (BG x).ins (BG x).gone):=by
  have:=E.fin 0 [] j (rj _) (by rw[lA];omega) (by rw[lA];exact O);rwa [lA] at this
 have J:=E.Lh;have Q:=E.iQ;have I:=E.pl hp;unfold BV QI;generalize (BG x).done++A6 (BG x).ins (BG x).gone=c at *;rcases MD c with rfl|⟨i,b,rfl⟩
 .show(∀d,CT ks d []=CT ks d x)/\BN []<=BN x/\BN x+CJ []=BN []+CJ x/\CN n 0 []/\∀o∈([]:List Dop),Dl ks o;exact⟨q,by omega,by omega,B,I⟩
 .unfold EH;rw[cq];simp only[kY,lu];split
  .rename_i hb;rw[mW];refine⟨λd=>?_,?_,?_,ZM B,λo m=>I o (by simp[m])⟩
   .rw[<-q d];have:=Ze (ks:=ks) (a:=[]) (b:=[b]) (λd=>?_) i d
    .rw[lA] at this;exact this
    .rw[CT,CT,DN hb.1,hb.2,CT,show Ce ks []=id from funext V4,List.map_id,TC]
   .rw[Fq] at J;omega
   .rw[Fq,BN,BN,Bp (by omega)] at J;rw[IC,CJ,CJ,Bp (by omega),Bp (by omega)] at Q;omega
  .exact⟨q,by omega,by omega,B,I⟩
end
def NG.lt{b:Nat}{s:GJ}(h:NG F W b s):NG (λx=>F x/\x<W.heap.size) W b s:=by
 obtain⟨dv,U,C,j,h⟩:=h;have hb:b<W.heap.size:=lU W _ h.c0;refine⟨dv,U,C,j,h.c0,h.c1,h.c2,h.lv,⟨h.fb,hb⟩,h.nb,λx m=>⟨⟨(h.cf x m).1,(h.cf x m).2⟩,(h.cf x m).2⟩,h.done,λg o=>⟨⟨(h.dF g o).1,(AE.Aj h.done g o).2⟩,(h.dF g o).2⟩,?_⟩;rcases h.ins with h0|⟨g,c,V,O,X,Q,Y,Z,e6,e7,e8,e9,q,B,I,i,J⟩
 .exact .inl h0
 .exact .inr ⟨g,c,V,O,X,Q,⟨Y,(AE.Aj Q g (by rw[O];rfl)).2⟩,Z,e6,e7,⟨e8,i⟩,e9,q,B,I,i,J⟩
def Jn(c:Cel):Dop:=⟨2,0,[c.r],c.set,[]⟩
def OH(x:List Dop)(o:Dop):BG (x++[o])=Bu (BG x) o:=by unfold BG;rw[mY];rfl
def X7{s:List Attr}{m:Nat}(h:∀a∈s,a.val.s.size<=m):IE s<=s.length*(m+1):=by
 induction s with
 |nil=>exact Nn _
 |cons a s i=>
  have e:IE (a::s)=LQ a+IE s:=by simp[IE]
  have h1:=h a (by simp);have j:=i λb hb=>h b (by simp[hb]);rw[e,gD,mC,LQ];omega
def Et.size{s:List Attr}(h:Et ks s):IE s<=4160:=by
 have h1:IE s<=s.length*65:=X7 λa ha=>by
  obtain⟨_,_,i⟩:=h.1;have h0:GX.size=0:=rfl;rcases(i a ha).1 with⟨_,e,_⟩|⟨_,e⟩|⟨_,e,_⟩|⟨_,_,e,_⟩
  .rw[e];show GX.size<=64;omega
  .rw[e];show GX.size<=64;omega
  .rw[e];show GX.size<=64;omega
  .exact e
 have:=h.len;omega
section
variable {w0:World}{F:Nat->Prop}{W:World}{a:TxA}{σ:SKs}{most:Int}{N:Nat}{d:List Cel}
end
def VT{d:List Cel}{x:List Dop}(hk:∀k∈ks,D8 k)(q:∀o∈x,NT o)(hl:x.length<=1048576)(h:Cj ks x d.length most=0) :
  Cj ks (BV x) d.length most=0/\CT ks d (BV x)=CT ks d x/\(∀o∈BV x,NT o)/\(BV x).length<=x.length:=by
 have hF:=(Dw (by omega)).1 h;have B:∀o∈x,FT o:=λo i=>(hF.DV o i).1.dD (hF.DV o i).2;obtain⟨m,I,_,_,J⟩:=Yw (λk j=>by have:=(hk k j).1;omega) hF.may q (by omega);obtain⟨O,Q,X,U,V⟩:=bL (ks:=ks) (n:=d.length) B (by omega) (by have:=hF.Lh;omega) hF.fin hF.pl;refine⟨(Dw (by omega)).2 ⟨m,J7 m,hF.pos,lx Q hF.Lh,U,V,?_⟩,O d,λo i=>(I o i).1.b,J⟩;have:=hF.most;omega
def Ie(s:List Attr)(k:Int):Option As:=(s.find? λa=>decide (a.key=k)).map (·.val)
def V0(p:List Chg)(k:Int):Option Chg:=p.find? λc=>decide (c.key=k)
def Dq{s:List Attr}{k:Int}(h:∀a∈s,a.key≠k):Ie s k=none:=by
 unfold Ie;rw[qm.2 λa ha=>by simpa using h a ha];rfl
def DF{a:Attr}{s:List Attr}{k:Int}:Ie (a::s) k=if a.key=k then some a.val else Ie s k:=by
 unfold Ie;rw[rM];by_cases h:a.key=k
 .simp[h]
 .simp[h]
def af:∀{s t:List Attr},Fw s->Fw t->(∀k,Ie s k=Ie t k)->s=t:=by
 intro s;induction s with
 |nil=>
  intro t _ _ h;cases t with
  |nil=>rfl
  |cons b t=>have:=h b.key;rw[DF,DN rfl] at this;cases this
 |cons a s O=>
  intro t Q ht h;obtain⟨ha,o⟩:=mb.1 Q;cases t with
  |nil=>have:=h a.key;rw[DF,DN rfl] at this;cases this
  |cons b t=>
   obtain⟨hb,q⟩:=mb.1 ht;have j:=h a.key;have m:=h b.key;rw[DF,DF,DN rfl] at j;rw[DF,DF,DN rfl] at m;have hk:b.key=a.key:=by
    by_cases e:b.key=a.key
    .exact e
    .rw[Bp e] at j;rw[Bp (λe'=>e e'.symm)] at m;have h1:∃x∈t,x.key=a.key:=by
      refine lN λB=>?_;rw[Dq λx i e'=>B ⟨x,i,e'⟩] at j;cases j
     have U:∃x∈s,x.key=b.key:=by
      refine lN λB=>?_;rw[Dq λx i e'=>B ⟨x,i,e'⟩] at m;cases m
     obtain⟨x,i,ex⟩:=h1;obtain⟨y,V,X⟩:=U;have:=hb x i;have:=ha y V;omega
   rw[DN hk] at j;have J:a.val=b.val:=lK j;have I:a=b:=by cases a;cases b;simp only at hk J;rw[hk,J]
   subst I;rw[O o q λk=>?_];have:=h k;rw[DF,DF] at this;by_cases e:a.key=k
   .subst e;rw[Dq λx i e'=>by have:=ha x i;omega,Dq λx i e'=>by have:=hb x i;omega]
   .rwa [Bp e,Bp e] at this
def Tu(a b:List Attr)(k:Int):Ie (a++b) k=(Ie a k).or (Ie b k):=by
 unfold Ie;rw[List.find?_append];cases List.find? (λx=>decide (x.key=k)) a<;>simp
def Z4{c:Chg}{k:Int}(hk:k<c.key):∀{s:List Attr},Fw s->Ie (Ju c s) k=Ie s k:=by
 intro s;induction s with
 |nil=>intro _;rfl
 |cons a s j=>
  intro h;obtain⟨ha,m⟩:=mb.1 h;rw[Ju];split
  .rw[DF,DF,j m]
  .rename_i h1;rw[Dq (s:=[]) (by simp),Dq λx i=>?_];rcases Mp.1 i with rfl|i
   .omega
   .have:=ha x i;omega
def XI{c:Chg}{k:Int}(hk:c.key<k):∀{s:List Attr},Ie (Ey c s) k=Ie s k:=by
 intro s;induction s with
 |nil=>rfl
 |cons a s i=>
  rw[Ey];split
  .rename_i h1;rw[i,DF,Bp (by omega)]
  .split
   .rename_i h1 j;rw[DF,Bp (by omega)]
   .rfl
def KV{c:Chg}{p:List Chg}{k:Int}:V0 (c::p) k=if c.key=k then some c else V0 p k:=by
 unfold V0;rw[rM];by_cases h:c.key=k<;>simp[h]
def NB{p:List Chg}{k:Int}(h:∀c∈p,c.key≠k):V0 p k=none:=by
 unfold V0;exact qm.2 λa ha=>by simpa using h a ha
def bY{c:Chg}{k:Int}:Ie (Mb c) k=if c.key=k then(if c.gone then none else some c.val) else none:=by
 unfold Mb;by_cases i:c.gone
 .rw[DN i];split<;>simp[Ie]
 .rw[Bp i,DF];show(if c.key=k then some c.val else Ie [] k)=_;split<;>simp[Ie,i]
def Ph:∀{p:List Chg} {s:List Attr},Fw s->Ld p->∀k,Ie (BZ s p) k=match V0 p k with|some c=>if c.gone then none else some c.val|none=>Ie s k:=by
 intro p;induction p with
 |nil=>intro s _ _ k;rfl
 |cons c p o=>
  intro s j hp k;obtain⟨hc,m⟩:=mb.1 hp;rw[BZ,Tu,Tu,o (ON j) m,KV,bY];rcases Int.lt_trichotomy k c.key with h|h|h
  .rw[Z4 h j,Bp (by omega),Bp (by omega),NB λx i=>by have:=hc x i;omega];simp only[ru];rw[Dq (s:=Ey c s) λx i=>by have:=MO j i;omega,ru]
  .subst h;rw[Dq (s:=Ju c s) λx i=>by have:=(HK i).2;omega,DN rfl,DN rfl,NB λx i=>by have:=hc x i;omega];simp only[Option.none_or];rw[Dq (s:=Ey c s) λx i=>by have:=MO j i;omega,ru]
  .rw[Dq (s:=Ju c s) λx i=>by have:=(HK i).2;omega,Bp (by omega),Bp (by omega),XI h];simp only[Option.none_or]
def GN(s:List Attr)(c:Chg):Option Chg:=match Ie s c.key with|some v=>if c.gone=true\/v≠c.val then some ⟨c.key,false,v⟩ else none|none=>if c.gone then none else some ⟨c.key,true,As.zero⟩
def Dc(s:List Attr)(p:List Chg):List Chg:=p.filterMap (GN s)
def G1{s:List Attr}{c i:Chg}(h:GN s c=some i):i.key=c.key:=by
 unfold GN at h;split at h<;>split at h<;>cases h<;>rfl
def L7{s:List Attr}{p:List Chg}(h:Ld p):Ld (Dc s p):=by
 unfold Dc;show(List.filterMap (GN s) p).Pairwise λa b=>a.key<b.key;rw[List.pairwise_filterMap];refine List.Pairwise.imp ?_ h;intro a b i j ha m hb;rw[G1 ha,G1 hb];exact i
def aq{s:List Attr}{k:Int}:∀{p:List Chg},Ld p->V0 (Dc s p) k=(V0 p k).bind (GN s):=by
 intro p;induction p with
 |nil=>intro _;rfl
 |cons c p j=>
  intro h;obtain⟨hc,hp⟩:=mb.1 h;have e:Dc s (c::p)=match GN s c with|some i=>i::Dc s p|none=>Dc s p:=by
   unfold Dc;rw[List.filterMap_cons];cases GN s c<;>rfl
  rw[e,KV];by_cases hk:c.key=k
  .rw[DN hk];show _=GN s c;cases hi:GN s c with
   |some i=>
    show V0 (i::Dc s p) k=some i;rw[KV,DN (by rw[G1 hi,hk])]
   |none=>
    show V0 (Dc s p) k=none;rw[j hp,NB λx m=>by have:=hc x m;omega];rfl
  .rw[Bp hk];cases hi:GN s c with
   |some i=>
    show V0 (i::Dc s p) k=_;rw[KV,Bp (by rw[G1 hi];exact hk),j hp]
   |none=>exact j hp
def ab{p:List Chg}{k:Int}{c:Chg}(h:V0 p k=some c):c.key=k:=by
 have:=qU h;simpa using this
def aj{s:List Attr}{p:List Chg}(j:Fw s)(hp:Ld p):BZ (BZ s p) (Dc s p)=s:=by
 refine af (Jo (Jo j hp) (L7 hp)) j λk=>?_;rw[Ph (Jo j hp) (L7 hp),aq hp,Ph j hp];cases hl:V0 p k with
 |none=>rfl
 |some c=>
  have hk:=ab hl;show(match GN s c with|some c=>if c.gone then none else some c.val|none=>if c.gone then none else some c.val)=Ie s k;unfold GN;rw[hk];cases o:Ie s k with
  |some v=>
   show(match (if c.gone=true\/v≠c.val then some (⟨k,false,v⟩:Chg) else none) with|some c=>if c.gone then none else some c.val|none=>if c.gone then none else some c.val)=some v;split
   .rename_i h;split at h
    .cases h;rfl
    .cases h
   .rename_i h;split at h
    .cases h
    .rename_i h';have h1:c.gone=false:=by cases i:c.gone with|false=>rfl|true=>exact(h' (.inl i)).elim
     have m:v=c.val:=lN λe=>h' (.inr e);rw[h1,m];rfl
  |none=>
   show(match (if c.gone=true then none else some (⟨k,true,As.zero⟩:Chg)) with|some c=>if c.gone then none else some c.val|none=>if c.gone then none else some c.val)=none;by_cases i:c.gone=true
   .rw[DN i];show(if c.gone=true then none else some c.val)=none;rw[DN i]
   .rw[Bp i];rfl
def Ou(ks:List DKey)(c:Cel):Prop:=EK c.r/\∀a∈c.set,IA ks (decide (c.r=10)) a=true
def JG(ks:List DKey)(p:List Chg)(c:Cel):Dop:=⟨1,1,[],[],Dc c.set (CP ks (decide (c.r=10)) p)⟩
def DG(ks:List DKey):List Cel->List Dop->List Dop
 |_,[]=>[]
 |d,o::x=>if o.kind=2 then⟨3,o.Ab.length,[],[],[]⟩::DG ks d x else(d.take o.n.toNat).map (if o.kind=3 then Jn else JG ks o.patch)++DG ks (d.drop o.n.toNat) x
section
variable {ks:List DKey}
def VE{b:Bool}{s:List Attr}{p:List Chg}:CP ks b (Dc s (CP ks b p))=Dc s (CP ks b p):=by
 have key:∀c∈Dc s (CP ks b p),∃i∈CP ks b p,c.key=i.key:=λc hc=>by
  unfold Dc at hc;obtain⟨i,h1,j⟩:=qg.1 hc;exact⟨i,h1,G1 j⟩
 generalize Dc s (CP ks b p)=q at *;unfold CP at key ⊢;refine nQ.2 λc hc=>?_;obtain⟨i,h',e⟩:=key c hc;rw[e];exact(mg.1 h').2
def Y1{p:List Chg}{c:Cel}(m:Fw c.set)(hp:Ld p):Ce ks (JG ks p c).patch (Ce ks p c)=c:=by
 obtain⟨r,s⟩:=c;show(⟨r,BZ (BZ s (CP ks (decide (r=10)) p)) (CP ks (decide (r=10)) (Dc s (CP ks (decide (r=10)) p)))⟩:Cel)=⟨r,s⟩;have i:Fw s:=m;have j:Ld (CP ks (decide (r=10)) p):=qP _ hp;rw[VE,aj i j]
def aw(l e:List Cel)(y:List Dop):CT ks e (l.map Jn++y)=l++CT ks e y:=by
 induction l with
 |nil=>rfl
 |cons c l i=>
  rw[lO,Za,CT,Bp (show ¬(Jn c).kind=1 from(by decide:¬(2:Int)=1)),DN (show(Jn c).kind=2 from rfl),i];rfl
def Zs{p:List Chg}(hp:Ld p)(l:List Cel)(hl:∀c∈l,Fw c.set)(e:List Cel)(y:List Dop):CT ks (l.map (Ce ks p)++e) (l.map (JG ks p)++y)=l++CT ks e y:=by
 induction l with
 |nil=>rfl
 |cons c l i=>
  rw[lO,lO,Za,Za,CT,DN (show(JG ks p c).kind=1 from rfl)];show[Ce ks (JG ks p c).patch (Ce ks p c)]++CT ks (l.map (Ce ks p)++e) (l.map (JG ks p)++y)=_;rw[Y1 (hl c (by simp)) hp,i λc hc=>hl c (by simp[hc])];rfl
def aL(l:List Cel):BN (l.map Jn)=0/\CJ (l.map Jn)=l.length:=by
 induction l with
 |nil=>exact⟨rfl,rfl⟩
 |cons c l i=>
  rw[lO,BN,CJ,i.1,i.2];exact⟨rfl,by show 1+l.length=l.length+1;omega⟩
def bV(p:List Chg)(l:List Cel):BN (l.map (JG ks p))=l.length/\CJ (l.map (JG ks p))=l.length:=by
 induction l with
 |nil=>exact⟨rfl,rfl⟩
 |cons c l i=>
  rw[lO,BN,CJ,i.1,i.2];exact⟨by show 1+l.length=l.length+1;omega,by show 1+l.length=l.length+1;omega⟩
def MV{o:Dop}{x:List Dop}{d:List Cel}(k:o.kind=1):BN (o::x)=o.n.toNat+BN x/\CJ (o::x)=o.n.toNat+CJ x/\DG ks d (o::x)=(d.take o.n.toNat).map (JG ks o.patch)++DG ks (d.drop o.n.toNat) x/\CT ks d (o::x)=(d.take o.n.toNat).map (Ce ks o.patch)++CT ks (d.drop o.n.toNat) x:=
 ⟨by rw[BN,Bp (by omega)],by rw[CJ,Bp (by omega),Bp (by omega)],by rw[DG,Bp (by omega),Bp (by omega)],by rw[CT,DN k]⟩
def MS{o:Dop}{x:List Dop}{d:List Cel}(k:o.kind=3):BN (o::x)=o.n.toNat+BN x/\CJ (o::x)=CJ x/\DG ks d (o::x)=(d.take o.n.toNat).map Jn++DG ks (d.drop o.n.toNat) x/\CT ks d (o::x)=CT ks (d.drop o.n.toNat) x:=
 ⟨by rw[BN,Bp (by omega)],by rw[CJ,DN k,mQ],by rw[DG,Bp (by omega),DN k],by rw[CT,Bp (by omega),Bp (by omega)]⟩
def ND{o:Dop}{x:List Dop}{d:List Cel}(k:o.kind=2):BN (o::x)=BN x/\CJ (o::x)=o.Ab.length+CJ x/\DG ks d (o::x)=⟨3,o.Ab.length,[],[],[]⟩::DG ks d x/\CT ks d (o::x)=o.Ab.map (λr=>(⟨r,o.set⟩:Cel))++CT ks d x:=
 ⟨by rw[BN,DN k,mQ],by rw[CJ,Bp (by omega),DN k],by rw[DG,DN k],by rw[CT,Bp (by omega),DN k]⟩
def gE:∀{x:List Dop} {d:List Cel},(∀o∈x,BX ks o)->BN x<=d.length->BN (DG ks d x)=CJ x/\CJ (DG ks d x)=BN x/\(DG ks d x).length<=x.length+BN x:=by
 intro x;induction x with
 |nil=>intro d _ _;exact⟨rfl,rfl,K8 _⟩
 |cons o x B=>
  intro d O ht;have j:∀o∈x,BX ks o:=λo Q=>O o (by simp[Q]);rcases O o (by simp) with⟨k,_,_,U,_⟩|⟨k,_,_,_,U⟩|⟨k,_⟩
  .obtain⟨i,m,q,_⟩:=MV (ks:=ks) (x:=x) (d:=d) k;rw[i] at ht;obtain⟨i1,i2,i3⟩:=B j (d:=d.drop o.n.toNat) (by rw[Hy];omega);obtain⟨I,J⟩:=bV (ks:=ks) o.patch (d.take o.n.toNat);rw[i,m,q,Fq,IC,I,J,i1,i2,BW,I3,Lc,gD];exact⟨by omega,by omega,by omega⟩
  .obtain⟨i,m,q,_⟩:=MS (ks:=ks) (x:=x) (d:=d) k;rw[i] at ht;obtain⟨i1,i2,i3⟩:=B j (d:=d.drop o.n.toNat) (by rw[Hy];omega);obtain⟨I,J⟩:=aL (d.take o.n.toNat);rw[i,m,q,Fq,IC,I,J,i1,i2,BW,I3,Lc,gD];exact⟨by omega,by omega,by omega⟩
  .obtain⟨i,m,q,_⟩:=ND (ks:=ks) (x:=x) (d:=d) k;rw[i] at ht;obtain⟨i1,i2,i3⟩:=B j ht;rw[i,m,q,gD,gD,BN,CJ,i1,i2];exact⟨rfl,mQ _,by omega⟩
def fH:∀{x:List Dop} {d:List Cel},(∀o∈x,BX ks o)->(∀c∈d,Fw c.set)->BN x<=d.length->CT ks (CT ks d x) (DG ks d x)=d:=by
 intro x;induction x with
 |nil=>intro d _ _ _;rfl
 |cons o x I=>
  intro d J B ht;have i:∀o∈x,BX ks o:=λo O=>J o (by simp[O]);rcases J o (by simp) with⟨k,_,_,Q,hp⟩|⟨k,_,_,_,Q⟩|⟨k,_⟩
  .obtain⟨j,_,m,q⟩:=MV (ks:=ks) (x:=x) (d:=d) k;rw[j] at ht;rw[q,m,Zs hp.1 _ λc hc=>B c (lJ hc),I i (λc hc=>B c (ky hc)) (by rw[Hy];omega),TC]
  .obtain⟨j,_,m,q⟩:=MS (ks:=ks) (x:=x) (d:=d) k;rw[j] at ht;rw[q,m,aw,I i (λc hc=>B c (ky hc)) (by rw[Hy];omega),TC]
  .obtain⟨j,_,m,q⟩:=ND (ks:=ks) (x:=x) (d:=d) k;rw[j] at ht;rw[q,m,CT,Bp (show ¬(3:Int)=1 by decide),Bp (show ¬(3:Int)=2 by decide)];show CT ks (List.drop ((o.Ab.length:Int).toNat) _) _=_;rw[mH,pE (I3 _),I i B ht]
def O1{n:Nat}:∀{x:List Dop} {d:List Cel},(∀o∈x,BX ks o)->BN x<=d.length->0<d.length->CN n ((n:Int)-d.length) x->0<(CT ks d x).length:=by
 intro x;induction x with
 |nil=>intro d _ _ h _;exact h
 |cons o x q=>
  intro d m ht Q i;have j:∀o∈x,BX ks o:=λo B=>m o (by simp[B]);rw[CN] at i;rcases m o (by simp) with⟨k,_,_,I,_⟩|⟨k,_,_,_,I⟩|⟨k,_,_,_,hr,_⟩
  .rw[(MV k).2.2.2,BW,I3,Lc];omega
  .obtain⟨J,_,_,O⟩:=MS (ks:=ks) (x:=x) (d:=d) k;rw[J] at ht;rw[Bp (by omega),DN k] at i;rw[O];refine q j (by rw[Hy];omega) (by rw[Hy];omega) ?_;rw[Hy,show(n:Int)-((d.length-o.n.toNat:Nat):Int)=(n:Int)-d.length+o.n by omega];exact i.2
  .rw[(ND k).2.2.2,BW,I3];have:=mN.2 hr;omega
def cJ{m:Int}{p:Int}(hp:p≠m)(l:List Cel)(h:CN m p a):CN m p (l.map Jn++a):=by
 induction l with
 |nil=>exact h
 |cons c l i=>rw[lO,Za,CN,DN (show(Jn c).kind=2 from rfl)];exact⟨hp,i⟩
def Zu{m:Int}{q:List Chg}(l:List Cel):∀{p:Int},CN m (p+l.length) a->CN m p (l.map (JG ks q)++a):=by
 induction l with
 |nil=>intro p h;rw[lX] at h;simpa using h
 |cons c l i=>
  intro p h;rw[lO,Za,CN,Bp (show ¬(JG ks q c).kind=2 from(by decide:¬(1:Int)=2)),Bp (show ¬(JG ks q c).kind=3 from(by decide:¬(1:Int)=3))];refine i ?_;show CN m (p+1+_) a;rw[gD] at h;rw[show p+1+(l.length:Int)=p+((l.length+1:Nat):Int) by omega];exact h
def Zv{n m:Nat}:∀{x:List Dop} {d:List Cel},(∀o∈x,BX ks o)->BN x<=d.length->CN n ((n:Int)-d.length) x->CN m ((m:Int)-(CT ks d x).length) (DG ks d x):=by
 intro x;induction x with
 |nil=>intro d _ _ _;trivial
 |cons o x U=>
  intro d V ht j;have i:∀o∈x,BX ks o:=λo X=>V o (by simp[X]);rw[CN] at j;rcases V o (by simp) with⟨k,_,_,Y,_⟩|⟨k,_,_,_,Y⟩|⟨k,_,_,_,hr,_⟩
  .obtain⟨q,_,B,I⟩:=MV (ks:=ks) (x:=x) (d:=d) k;rw[q] at ht;rw[Bp (by omega),Bp (by omega)] at j;have hi:=U i (d:=d.drop o.n.toNat) (by rw[Hy];omega) (by rw[Hy,show(n:Int)-((d.length-o.n.toNat:Nat):Int)=(n:Int)-d.length+o.n by omega];exact j);rw[I,B];refine Zu _ ?_;rw[BW,I3,Lc];rw[show(m:Int)-((min o.n.toNat d.length+(CT ks (d.drop o.n.toNat) x).length:Nat):Int)+((min o.n.toNat d.length:Nat):Int)=(m:Int)-(CT ks (d.drop o.n.toNat) x).length by omega];exact hi
  .obtain⟨q,_,B,I⟩:=MS (ks:=ks) (x:=x) (d:=d) k;rw[q] at ht;rw[Bp (by omega),DN k] at j;have J:CN n ((n:Int)-(d.drop o.n.toNat).length) x:=by rw[Hy,show(n:Int)-((d.length-o.n.toNat:Nat):Int)=(n:Int)-d.length+o.n by omega];exact j.2
   have O:BN x<=(d.drop o.n.toNat).length:=by rw[Hy];omega
   have hi:=U i (d:=d.drop o.n.toNat) O J;have Q:=O1 i O (by rw[Hy];omega) J;rw[I,B];exact cJ (by omega) _ hi
  .obtain⟨q,_,B,I⟩:=ND (ks:=ks) (x:=x) (d:=d) k;rw[q] at ht;rw[DN k] at j;have hi:=U i ht j.2;have Q:=O1 i ht (by omega) j.2;rw[I,B,CN,Bp (show ¬(3:Int)=2 by decide),DN rfl,BW,I3];show(m:Int)-((o.Ab.length+(CT ks d x).length:Nat):Int)+(o.Ab.length:Int)≠m/\CN m ((m:Int)-((o.Ab.length+(CT ks d x).length:Nat):Int)+(o.Ab.length:Int)) (DG ks d x);rw[show(m:Int)-((o.Ab.length+(CT ks d x).length:Nat):Int)+(o.Ab.length:Int)=(m:Int)-(CT ks d x).length by omega];exact⟨by omega,hi⟩
def bC{s:List Attr}{k:Int}{v:As}(h:Ie s k=some v):∃a∈s,a.key=k/\a.val=v:=by
 unfold Ie at h;obtain⟨a,h1,i⟩:=pA.1 h;exact⟨a,pV h1,by have:=qU h1;simpa using this,i⟩
def aQ{s:List Attr}{p:List Chg}(j:Et ks s)(hp:Hb ks p):KL ks (Dc s p)/\∀c∈Dc s p,c.key<=9223372036854775807/\Hg c.val:=by
 have key:∀c∈Dc s p,((c.gone=true->c.val=As.zero)/\(c.gone=false->DT c.val/\Gy ks c.key c.val)/\BK ks c.key≠none)/\c.key<=9223372036854775807/\Hg c.val:=by
  intro c hc;unfold Dc at hc;obtain⟨m,h1,i⟩:=qg.1 hc;have hk:=G1 i;have o:=(hp.1.2.2 m h1).2.2;have hb:=(hp.2 m h1).1.2;unfold GN at i;split at i
  .rename_i v I;obtain⟨a,ha,J,ev⟩:=bC I;split at i
   .cases i;have q:=j.1.2.2 a ha;have B:=j.2 a ha;rw[J,ev] at q;exact⟨⟨λe=>(nomatch e),λ_=>q,o⟩,hb,by rw[<-ev];exact⟨B.2.2.1,B.2.2.2.1⟩⟩
   .cases i
  .split at i
   .cases i
   .cases i;exact⟨⟨λ_=>rfl,λe=>(nomatch e),o⟩,hb,(by decide:(-9223372036854775808:Int)<=0/\(0:Int)<=9223372036854775807),(by decide:(0:Int)<=0/\(0:Int)<18446744073709551616)⟩
 exact⟨⟨L7 hp.1.1,lx (pW _ _) hp.1.2.1,λc hc=>(key c hc).1⟩,λc hc=>(key c hc).2⟩
def Yg{p:List Chg}(h:KL ks p):JJ p<=4160:=by
 have h1:∀l:List Chg,(∀c∈l,c.val.s.size<=64)->JJ l<=l.length*65:=λl=>by
  induction l with
  |nil=>intro _;exact Nn _
  |cons c l j=>
   intro hl;have e:JJ (c::l)=QF c+JJ l:=by simp[JJ]
   have m:=hl c (by simp);have o:=j λb hb=>hl b (by simp[hb]);rw[e,gD,mC,QF];omega
 have h0:GX.size=0:=rfl;have:=h1 p λc hc=>by
  obtain⟨a,b,_⟩:=h.2.2 c hc;cases i:c.gone with
  |true=>rw[a i];show GX.size<=64;omega
  |false=>
   rcases(b i).1 with⟨_,e,_⟩|⟨_,e⟩|⟨_,e,_⟩|⟨_,_,e,_⟩
   .rw[e];show GX.size<=64;omega
   .rw[e];show GX.size<=64;omega
   .rw[e];show GX.size<=64;omega
   .exact e
 have:=h.2.1;omega
def Wl{l:List Dop}(h:∀o∈l,Eu o<=4162):Aq l<=l.length*4162:=by
 induction l with
 |nil=>exact Nn _
 |cons o l i=>
  have e:Aq (o::l)=Eu o+Aq l:=by simp[Aq]
  have j:=h o (by simp);have m:=i λb hb=>h b (by simp[hb]);rw[e,gD,mC];omega
def QL{b:Bool}{a:Attr}(h:IA ks b a=true):IA ks (!b) a=false:=by
 unfold IA at h ⊢;split
 .rename_i k e;rw[e] at h;simp only[jD] at h;rw[h];cases b<;>rfl
 .rfl
def Up{c:Cel}(h:Ou ks c):Dl ks (Jn c):=by
 intro _ m j;have i:=h.2;by_cases e:c.r=10
 .rw[lq e] at i;show(CL ks true c.set).length=c.set.length/\BJ [c.r]=1;rw[e];exact⟨by unfold CL;rw[nQ.2 i],rfl⟩
 .rw[lh e] at i;exfalso;have o:CL ks true c.set=[]:=oH.2 λa ha=>by rw[show IA ks true a=false from QL (i a ha)];decide
  have q:BJ [c.r]=0:=qo.2 λhm=>e (S6.1 hm).symm;rcases j with h|h
  .have h':0<(CL ks true c.set).length:=h;rw[o] at h';exact absurd h' (by decide)
  .have h':0<BJ [c.r]:=h;rw[q] at h';exact absurd h' (by decide)
def bF:∀{x:List Dop} {d:List Cel},(∀o∈x,BX ks o/\Bk o<=536870912)->(∀o∈x,Hb ks o.patch)->(∀c∈d,Et ks c.set/\Ou ks c)->∀o∈DG ks d x,(BX ks o/\Bk o<=536870912)/\NT o/\Dl ks o/\Eu o<=4162:=by
 intro x;induction x with
 |nil=>intro d _ _ _ o B;cases B
 |cons o x O=>
  intro d V hp I;have j:∀o∈x,BX ks o/\Bk o<=536870912:=λo B=>V o (by simp[B]);have m:∀o∈x,Hb ks o.patch:=λo B=>hp o (by simp[B]);obtain⟨Q,J⟩:=V o (by simp);intro q i;rcases Q with⟨k,_,_,Y,_⟩|⟨k,_,_,_,Y⟩|⟨k,_,_,_,hr,_⟩
  .rw[(MV k).2.2.1] at i;rcases By.1 i with i|i
   .obtain⟨c,hc,rfl⟩:=lT.1 i;have U:=I c (lJ hc);obtain⟨X,Z⟩:=aQ U.1 ((hp o (by simp)).part (decide (c.r=10)));exact⟨⟨.inl ⟨rfl,rfl,rfl,rj 1,X⟩,by show(1:Nat)<=_;decide⟩,⟨λa ha=>(nomatch ha),Z⟩,λe=>absurd e (show ¬(1:Int)=2 by decide),by have:=Yg X;show 1+0+0+JJ (Dc c.set (CP ks (decide (c.r=10)) o.patch))<=_;omega⟩
   .exact O j m (λc hc=>I c (ky hc)) q i
  .rw[(MS k).2.2.1] at i;rcases By.1 i with i|i
   .obtain⟨c,hc,rfl⟩:=lT.1 i;obtain⟨c1,c2⟩:=I c (lJ hc);exact⟨⟨.inr (.inr ⟨rfl,λr hr=>by rw[S6.1 hr];exact c2.1,rfl,rfl,by simp[Jn],c1.1⟩),by show(1:Nat)<=_;decide⟩,⟨λa ha=>⟨(c1.2 a ha).1.2,(c1.2 a ha).2.2.1,(c1.2 a ha).2.2.2.1⟩,λc hc=>(nomatch hc)⟩,Up c2,by have:=c1.size;show 1+1+IE c.set+0<=_;omega⟩
   .exact O j m (λc hc=>I c (ky hc)) q i
  .rw[(ND k).2.2.1] at i;rcases Mp.1 i with rfl|i
   .have h1:=mN.2 hr;have h2:o.Ab.length<=536870912:=by rw[Bk,DN k] at J;exact J
    refine⟨⟨.inr (.inl ⟨rfl,rfl,rfl,rfl,by show(1:Int)<=(o.Ab.length:Int);omega⟩),?_⟩,⟨λa ha=>(nomatch ha),λc hc=>(nomatch hc)⟩,λe=>absurd e (show ¬(3:Int)=2 by decide),by show 1+0+0+0<=_;decide⟩;show((o.Ab.length:Int)).toNat<=_;omega
   .exact O j m I q i
def P1{d:List Cel}{x:List Dop}(J:∀k∈ks,D8 k)(O:∀o∈x,NT o)(hl:x.length<=1000)(Q:JW ks d)(Y:∀c∈d,Ou ks c)(hm:most<=2000)(h:Cj ks x d.length most=0) :
  Cj ks (BV (DG ks d x)) (CT ks d x).length most=0/\CT ks (CT ks d x) (BV (DG ks d x))=d/\(∀o∈BV (DG ks d x),NT o)/\(BV (DG ks d x)).length<=x.length+2000/\Aq (DG ks d x)<=100000000:=by
 have hF:=(Dw (by omega)).1 h;have q:∀o∈x,BX ks o:=λo j=>(hF.DV o j).1;have hp:∀o∈x,Hb ks o.patch:=λo j=>(kD J (q o j) ⟨λa ha=>((O o j).1 a ha).2,λc hc=>((O o j).2 c hc).2⟩).2;have i:=bF (d:=d) hF.DV hp λc hc=>⟨Q.set c hc,Y c hc⟩;obtain⟨t1,t2,t3⟩:=gE q hF.Lh;have U:=O7 q hF.Lh;have B:=hF.most;have V:=hF.pos;have X:=hF.Lh;have Z:=O1 (n:=d.length) q hF.Lh (by omega) (by rw[qe];exact hF.fin);have a1:(DG ks d x).length<=x.length+2000:=by omega
 obtain⟨s1,s2⟩:=ML (λo j=>(i o j).1) (by omega);have I:Cj ks (DG ks d x) (CT ks d x).length most=0:=by
  refine(Dw (by omega)).2 ⟨OG (λo j=>(i o j).1) (by rw[s1];omega) (by rw[s2];omega),λo j=>(i o j).1,⟨by omega,by omega⟩,by omega,?_,λo j=>(i o j).2.2.1,by omega⟩;have:=Zv (n:=d.length) (m:=(CT ks d x).length) q hF.Lh (by rw[qe];exact hF.fin);rwa [qe] at this
 obtain⟨n1,n2,n3,n4⟩:=VT J (λo j=>(i o j).2.1) (by omega) I;exact⟨n1,by rw[n2];exact fH q (λc hc=>(Q.set c hc).1.1) hF.Lh,n3,by omega,by have:=Wl λo j=>(i o j).2.2.2;omega⟩
end
def Zg{n:Nat}(i:n<9223372036854775808)(h:K (.int .u64 n) w):runK prog (convert 3 243 (zI n)) K w:=by
 refine AX (EG (k:=.u64) w (by kernel_rfl) (by kernel_rfl)) ?_;rw[Fi ⟨by omega,by omega⟩];exact h
def aG{n:Nat}(i:n<9223372036854775808)(h:K (zI n) w):runK prog (convert 243 3 (.int .u64 n)) K w:=by
 refine AX (EG (k:=.i64) w (by kernel_rfl) (by kernel_rfl)) ?_;rw[wrap64 (by omega) (by omega)];exact h
def gK{r:Nat}{t:TypeId}(h:K (.int .u64 ((r/2:Nat):Int)) w):runK prog (Di .shr t xo yo (.int .u64 r) (.int .u64 1)) K w:=by
 refine AX (Lg (n:=1) w (by decide)) ?_;rw[oO _ (by decide)];exact h
def Vh{a:Attr}{k:Int}:AB prog 308 [.agg a.cells.toArray,zI k] (λv' w'=>v'=zI (KO a.key k)/\Grow w w') w:=by
 refine uS2 (dB 9 [] []) func308 (λ_ _ _ _=>⟨by conv=>lhs;reduce,by dsimp only[PI,AF],by kernel_rfl⟩) ?_;unfold uI;refine Bx.box (vs:=a.cells) λb j hb i B=>?_;refine Az (B.cells 0 _ rfl) ?_;refine AA WO ?_;rintro _ _ ⟨rfl,rfl⟩;exact⟨rfl,i⟩
def YG{s:List Attr}{k:Int}(h:Ba S w v s)(hs:Fw s)(hl:s.length<=1000000) :
  AB prog 234 [v,zI k] (λv' w'=>Grow w w'/\∃(i:Nat) (b:Bool),v'=.tuple #[zI i,.bool b]/\((b=true/\∃hi:i<s.length,s[i].key=k)\/(b=false/\∀a∈s,a.key≠k))) w:=by
 refine uS2 (dB 9 [] []) func234 (λ_ _ _ _=>⟨by conv=>lhs;reduce,by dsimp only[PI,AF],by kernel_rfl⟩) ?_;unfold uI;refine AA (K:=λv' w'=>Grow w w'/\∃(i:Nat) (b:Bool),v'=.tuple #[zI i,.bool b]/\((b=true/\∃hi:i<s.length,s[i].key=k)\/(b=false/\∀a∈s,a.key≠k))) ?_ ?_;rotate_left
 .rintro _ w' ⟨g,i,b,rfl,h'⟩;exact Ae (vs:=[_,_]) (by rfl) (Ae (vs:=[_,_]) (by rfl) ⟨g,i,b,rfl,h'⟩)
 refine uS3 (dB 4407846880841 [([9,10],[(9,11),(15,34)])] []) func307 (λ_ _ _ _ _=>⟨by conv=>lhs;reduce,by dsimp only[PI,AF],by kernel_rfl⟩) ?_;unfold uI;obtain⟨a,c,rfl,_⟩:=h.shape;have B:∀i j (hi:i<s.length) (Q:j<s.length),i<j->s[i].key<s[j].key:=λi j hi Q J=>nE.1 hs i j hi Q J;have fn:∀{W:World} {i:Nat} {K:Cont} (hi:i<s.length),Grow w W->(∀W',Grow w W'->K (zI (KO s[i].key k)) W')->Ip 5 (.slice a s.length c) (zI (i:Int)) λt=>CX 5 t (λt' w5=>Cs prog CS (.func (.func 308) #[] #[]) [t',zI k] K w5) W:=λ{W i K} hi g hK=>by
  obtain⟨p,r,rfl,_,hr,hc,rfl⟩:=(h.grow g (by decide) λ_ _ h=>h).get hi;refine AS hi (AV hr (λj u hu=>by rw[Addr.add_add];exact hc j u hu) ?_);refine Ek (by kernel_rfl) ?_;refine AA Vh ?_;rintro _ W' ⟨rfl,g'⟩;exact hK W' (g.trans g')
 rw[AO];refine AU (λvs W=>∃(i j:Nat),i<=j/\j<=s.length/\vs=[zI i,zI j]/\Grow w W/\(∀m (hm:m<s.length),m<i->s[m].key<k)/\(∀m (hm:m<s.length),j<=m->k<=s[m].key)) (λvs _=>Dh vs 1-Dh vs 0) ⟨0,s.length,Nn _,K8 _,rfl,Mod.refl _ _,λm _ h=>absurd h (Nat.not_lt_zero _),λm h1 o=>by omega⟩ ?_;rintro vs W ⟨i,j,J,Q,rfl,g,lo,O⟩ _;simp only[FC];refine G9 (λU=>?_) λa1=>?_
 .rw[AM,wrap64 (by omega) (by omega),show((i:Int)+(j:Int))=((i+j:Nat):Int) by omega];refine Zg (by omega) (gK (aG (by omega) ?_));have V:i<=(i+j)/2:=by omega
  have a6:(i+j)/2<j:=by omega
  generalize (i+j)/2=m at *;have I:m<s.length:=by omega
  refine fn I g λW' g'=>?_;rw[Ai];unfold KO;refine AD (λe=>?_) λe=>?_
  .have hk:s[m].key<k:=by
    by_cases h1:s[m].key<k
    .exact h1
    .rw[Bp h1] at e;split at e<;>omega
   rw[AM,AK (by omega)];refine⟨⟨m+1,j,by omega,Q,rfl,g',λq X Y=>?_,O⟩,by rw[Ar,Bw,Ar,Bw];omega⟩;rcases qf q m with o|o
   .have:=B q m X I o;omega
   .obtain rfl:q=m:=by omega
    exact hk
  .have hk:k<=s[m].key:=by
    by_cases h1:s[m].key<k
    .rw[DN h1] at e;omega
    .omega
   refine⟨⟨i,m,V,by omega,rfl,g',lo,λq X Y=>?_⟩,by rw[Ar,Bw,Ar,Bw];omega⟩;rcases qf m q with o|o
   .have:=B m q I X o;omega
   .obtain rfl:q=m:=by omega
    exact hk
 .obtain rfl:i=j:=by omega
  rw[Ai];refine AD (λU=>?_) λZ=>⟨g,i,false,rfl,.inr ⟨rfl,λb hb=>?_⟩⟩
  .have VI:i<s.length:=by omega
   refine fn VI g λW' g'=>?_;rw[Aa];refine⟨g',i,_,rfl,?_⟩;have h1:=O i VI (K8 _);unfold KO;rw[Bp (by omega)];by_cases e:s[i].key=k
   .rw[Bp (by omega)];exact .inl ⟨rfl,VI,e⟩
   .rw[DN (by omega)];refine .inr ⟨rfl,λb hb=>?_⟩;obtain⟨m,hm,rfl⟩:=oe.1 hb;rcases qf m i with o|o
    .have:=lo m hm o;omega
    .rcases qf i m with h3|h3
     .have:=B i m VI hm h3;omega
     .obtain rfl:m=i:=by omega
      exact e
  .obtain⟨m,hm,rfl⟩:=oe.1 hb;have:=lo m hm (by omega);omega
def fN{s:List Attr}{k:Int}(h:Ba S w v s)(J:Fw s)(hl:s.length<=1000000) :
  AB prog 139 [v,zI k] (λv' w'=>Grow w w'/\v'=.tuple #[.agg ((Ie s k).getD As.zero).cells.toArray,.bool (Ie s k).isSome]) w:=by
 refine uS2 (dB 2138825 [] []) func139 (λ_ _ _ _=>⟨by conv=>lhs;reduce,by dsimp only[PI,AF],by kernel_rfl⟩) ?_;unfold uI;refine Bx.zero λb w1 hb O B=>?_;refine AA (YG (h.grow O (by decide) λ_ _ h=>h) J hl) ?_;rintro _ w2 ⟨Q,i,t,rfl,hr⟩;refine BI ?_;have U:=B.grow Q;have o:=O.trans Q;have fin:∀{W:World} {x:As} {K:Cont},Mod (λy=>y=b) w2 W->Bx W b x.cells->(∀W',Grow w W'->K (.agg x.cells.toArray) W')->CX 4 (.pointer (some ⟨b,0,none⟩)) K W:=λ{W x K} m q V=>q.Eg rfl (V W (o.next m λy hy e=>by omega));rw[Ah];rcases hr with⟨rfl,hi,hk⟩|⟨rfl,X⟩
 .refine AL ?_;have e:Ie s k=some s[i].val:=by
   unfold Ie;have:s.find? (λa=>decide (a.key=k))=some s[i]:=by
    rw[List.find?_eq_some_iff_getElem];refine⟨by simp[hk],i,hi,rfl,λj Y=>?_⟩;have:=nE.1 J j i (by omega) hi Y;simp only[oV,mR];omega
   rw[this];rfl
  rw[e];obtain⟨a,c,rfl,_⟩:=h.shape;obtain⟨p,r,rfl,_,hr,hc,rfl⟩:=(h.grow o (by decide) λ_ _ h=>h).get hi;refine AS hi ?_;rw[AH,Addr.add_add];refine AV (vs:=s[i].val.cells) rfl (λj u hu=>by rw[Addr.add_add,mo];exact hc (1+j) u (by rw[qC];exact hu)) ?_;refine U.over (us:=s[i].val.cells) rfl rfl (As.one _) λZ q I=>?_;exact fin I q λW' g'=>⟨g',rfl⟩
 .refine AQ ?_;rw[Dq X];refine⟨As.zero.cells.toArray,by rfl,?_⟩;refine U.over (us:=As.zero.cells) rfl rfl (As.one _) λZ q I=>?_;exact fin I q λW' g'=>⟨g',rfl⟩
def aA{s:List Attr}{p:List Chg}(h:Ba S w sv s)(hp:EV F w fr p)(hs:Fw s)(hl:s.length<=1000000)(an:p.length<=1000000) :
  AB prog 187 [sv,fr] (λv' w'=>AE w.heap.size 56 6 Ef w' v' (Dc s p)/\Grow w w') w:=by
 refine uS2 (dB 1153242915937239753 [([5,12],[(5,5),(7,9),(12,56)]),([5],[(5,5),(7,9),(14,55)]),([23],[(23,34)])] []) func187 (λ_ _ _ _=>⟨by conv=>lhs;reduce,by dsimp only[PI,AF],by kernel_rfl⟩) ?_;unfold uI;obtain⟨pa,pc,rfl,_⟩:=hp.shape;have a1:∀k,(Dc s (p.take k)).length<=k:=λk=>by
  unfold Dc;have h1:=pW (GN s) (p.take k);rw[Lc] at h1;omega
 rw[AO];refine AU (λvs W=>∃(k:Nat) (ov:Value),k<=p.length/\vs=[ov,zI k]/\AE w.heap.size 56 6 Ef W ov (Dc s (p.take k))/\Grow w W) (λvs _=>p.length-Dh vs 1) ⟨0,_,Nn _,rfl,AE.nil,Mod.refl _ _⟩ ?_;rintro vs W ⟨k,ov,hk,rfl,ho,g⟩ _;simp only[FC];refine G9 (λav=>?_) λax=>?_;rotate_left
 .obtain rfl:k=p.length:=by omega
  rw[S7] at ho;exact⟨ho,g⟩
 have J:k<p.length:=by omega
 have B:Dc s (p.take (k+1))=Dc s (p.take k)++(GN s p[k]).toList:=by
  unfold Dc;rw[S5,Bq J,List.filterMap_append];cases e:GN s p[k]<;>simp[e]
 refine AR (λvs W'=>∃m,vs=[m]/\AE w.heap.size 56 6 Ef W' m (Dc s (p.take (k+1)))/\Grow w W') ?_ ?_
 .rintro vs W' ⟨m,rfl,a6,g'⟩ _;simp only[BQ,Nr];rw[AM,AK (by omega)];exact⟨⟨k+1,m,J,rfl,a6,g'⟩,by rw[Ar,Ar];omega⟩
 obtain⟨q,r,rfl,_,hr,hc,rfl⟩:=(hp.grow g (by decide) λ_ _ h=>h).get J;refine AS J (AV hr (λj u hu=>by rw[Addr.add_add];exact hc j u hu) ?_);refine Bx.new (vs:=p[k].cells) rfl rfl (Ef.one (w:=W) (x:=p[k]) rfl) λb7 w4 ay g4 B7=>?_;refine Az (B7.cells 0 _ rfl) ?_;have V:=g.trans g4;refine AA (fN (h.grow V (by decide) λ_ _ h=>h) hs hl) ?_;rintro _ w5 ⟨g5,rfl⟩;refine BI ?_;refine Bx.new (vs:=((Ie s p[k].key).getD As.zero).cells) rfl rfl (As.one _) λb8 X aZ g6 B8=>?_;have U:=g5.trans g6;have Y:=V.trans U;have I:=B7.grow U;have Z:AE w.heap.size 56 6 Ef X ov (Dc s (p.take k)):=AE.mod ho (g4.trans U) (λ_ _ h=>h) λ_ _ _ h=>h;have b0:=a1 k;have push:∀{O:World} {K:Cont} {o:List (Nat×Value)} (c:Chg),Grow X O->Instr.fill (λi=>some (i*6,6)) ((Array.range (1*6)).map ([zI 0,.bool false,.int .u8 0,zI 0,.int .u64 0,.string (ByteArray.mk #[])].toArray[· % [zI 0,.bool false,.int .u8 0,zI 0,.int .u64 0,.string (ByteArray.mk #[])].toArray.size]!)) o=some c.cells.toArray->GN s p[k]=some c->
   (∀v' w',(∃m,[v']=[m]/\AE w.heap.size 56 6 Ef w' m (Dc s (p.take (k+1)))/\Grow w w')->K v' w')->
   Dg 56 6 1 [zI 0,.bool false,.int .u8 0,zI 0,.int .u64 0,.string (ByteArray.mk #[])] o (λa7 a8=>runK prog (Builtin.append_ #[24,24] 24 [ov,a7].toArray) K a8) O:=λ{O K o} c gw hf hc hK=>by
  have ak:AE w.heap.size 56 6 Ef O ov (Dc s (p.take k)):=AE.mod Z gw (λ_ _ h=>h) λ_ _ _ h=>h;refine Kh (w0:=w) QQ ak (Y.trans gw) (cs:=c.cells) (x:=c) hf rfl rfl (λ_ _ _=>Ef.one) (λ_ _ _ _ _ _ h=>h) (by omega) (by simp only[maxLen];omega) λv' w' o' g'=>hK v' w' ⟨v',rfl,?_,g'⟩;rw[B,hc];exact o'
 have same:GN s p[k]=none->∀{O:World},Grow X O->∃m,[ov]=[m]/\AE w.heap.size 56 6 Ef O m (Dc s (p.take (k+1)))/\Grow w O:=λhn {O} gw=>⟨ov,rfl,by rw[B,hn,Option.toList_none,lA];exact AE.mod Z gw (λ_ _ h=>h) λ_ _ _ h=>h,Y.trans gw⟩;refine AR (λvs W'=>∃t:Bool,vs=[.bool t]/\X=W'/\(t=true↔∃v,Ie s p[k].key=some v/\(p[k].gone=true\/v≠p[k].val))) ?_ ?_;rotate_left
 .cases Q:Ie s p[k].key with
  |none=>exact AL ⟨false,rfl,rfl,⟨λe=>(nomatch e),λ⟨_,e,_⟩=>(nomatch e)⟩⟩
  |some v=>
   rw[Q] at B8;refine AQ ?_;refine Az (I.cells 1 _ rfl) ?_;cases hg:p[k].gone with
   |true=>exact AQ ⟨true,rfl,rfl,⟨λ_=>⟨v,rfl,.inl rfl⟩,λ_=>rfl⟩⟩
   |false=>
    refine AL ?_;refine B8.Eg rfl ?_;rw [AH,AI];refine AV (vs:=p[k].val.cells) rfl (λj u hu=>by rw [FI];exact I.cells (2+j) u (by rw [qC];exact hu)) ?_;refine AX (ME _ _ v p[k].val X) ⟨_,rfl,rfl,?_⟩;rw [oV,mR];exact ⟨λe=>⟨v,rfl,.inr e⟩,λ⟨u,e1,e2⟩=>by
     cases e1;rcases e2 with e2|e2
     .cases e2
     .exact e2⟩
 rintro _ _ ⟨t,rfl,rfl,ht⟩ _;simp only[BQ,Nr];cases t with
 |true=>
  refine AQ ?_;obtain⟨v,Q,al⟩:=ht.1 rfl;rw[Q] at B8;refine Az (I.cells 0 _ rfl) ?_;refine B8.Eg rfl ?_;refine⟨(⟨p[k].key,false,v⟩:Chg).cells.toArray,by rfl,?_⟩;refine push ⟨p[k].key,false,v⟩ (Mod.refl _ _) (by kernel_rfl) ?_ λ_ _ h=>h;unfold GN;rw[Q];exact DN al
 |false=>
  refine AL ?_;rw[Ah];cases Q:Ie s p[k].key with
  |some v=>
   refine AL (same ?_ (Mod.refl _ _));unfold GN;rw[Q];exact Bp λe=>by have:=ht.2 ⟨v,Q,e⟩;cases this
  |none=>
   refine AQ ?_;refine Az (I.cells 1 _ rfl) ?_;rw[Ah];cases hg:p[k].gone with
   |true=>
    refine AL (same ?_ (Mod.refl _ _));unfold GN;rw[Q];exact DN hg
   |false=>
    refine AQ ?_;refine Az (I.cells 0 _ rfl) ?_;refine⟨(⟨p[k].key,true,As.zero⟩:Chg).cells.toArray,by rfl,?_⟩;refine push ⟨p[k].key,true,As.zero⟩ (Mod.refl _ _) (by kernel_rfl) ?_ λ_ _ h=>h;unfold GN;rw[Q];exact Bp (by rw[hg];decide)
def P5{ok:Nat->Bool}{g:Nat}(i:ok g=true)(h:AB P g (args++cs) K w):Cs P ok (.func (.func g) #[] cs.toArray) args K w:=.inl ⟨g,[],cs,rfl,i,by simpa using h⟩
section
variable {S D E:Nat->Prop}{v sv:Value}{d:List Cel}{ks:List DKey}{w:World}
def bM{B:Value}(h:Bi S D w v d)(I:∀W r c (K:Cont),c∈d->Grow w W->Jz D W r c->(∀W',Grow W W'->K (.bool false) W')->Cs prog CS B [.agg r.toArray] K W) :
  AB prog 352 [v,B] (λv' w'=>v'=.bool false/\Grow w w') w:=by
 refine uS2 (dB 9 [] []) func352 (λ_ _ _ _=>⟨by conv=>lhs;reduce,by dsimp only[PI,AF],by kernel_rfl⟩) ?_;unfold uI;refine AA (K:=λv' w'=>v'=zI (-1)/\Grow w w') ?_ ?_;rotate_left
 .rintro _ w' ⟨rfl,g⟩;rw[Cu];exact⟨rfl,g⟩
 refine uS2 (dB 35271513315417 [([8],[(4,5),(8,18)])] []) func395 (λ_ _ _ _=>⟨by conv=>lhs;reduce,by dsimp only[PI,AF],by kernel_rfl⟩) ?_;unfold uI;obtain⟨a,c,rfl,o⟩:=h.shape;simp only[maxLen] at o;rw[AO];refine AU (λvs W=>∃i:Nat,i<=d.length/\vs=[zI i]/\Grow w W) (λvs _=>d.length-Dh vs 0) ⟨0,Nn _,rfl,Mod.refl _ _⟩ ?_;rintro vs W ⟨i,hi,rfl,g⟩ _;rw[BQ,Nr,Ai];refine AD (λJ=>?_) λO=>⟨rfl,g⟩;have m:i<d.length:=by omega
 obtain⟨q,r,rfl,_,hr,hc,Q⟩:=(h.grow g).get m;refine AS m (AV hr (λj u hu=>by rw[Addr.add_add];exact hc j u hu) ?_);refine I W r d[i] _ (ku m) g Q λW' g'=>AL ?_;rw[AM,AK (by omega)];exact⟨⟨i+1,m,rfl,g.trans g'⟩,by rw[Bw,Bw];omega⟩
def Vw(hS:CK E w sv ks)(h:Bi S D w v d)(hT:EA w)(X:JW ks d)(hC:∀c∈d,Ou ks c)(hp:1<=d.length)(hl:d.length<=536870912) :
  AB prog 288 [sv,v] (λv' w'=>v'=zI 0/\Grow w w') w:=by
 refine uS2 (dB 4815778182133254032073 [([7],[(7,15)])] []) func288 (λ_ _ _ _=>⟨by conv=>lhs;reduce,by dsimp only[PI,AF],by kernel_rfl⟩) ?_;unfold uI;have a6:sv.cells=#[sv]:=by
  obtain⟨b,m,kv,l,rfl,_⟩:=hS;rfl
 have a7:v.cells=#[v]:=by
  obtain⟨a,c,rfl,_⟩:=h.shape;rfl
 refine Cg a6 λb2 w1 av g1 B2=>?_;refine Cg a7 λb3 w2 ax g2 Y=>?_;have o:=g1.trans g2;have O:=B2.grow g2;have any:∀{f:Nat} {W:World} {K:Cont},CS f=true->Grow w2 W->(∀W r c (K:Cont),c∈d->Grow w2 W->Jz D W r c->(∀W',Grow W W'->K (.bool false) W')->AB prog f [.agg r.toArray,.pointer (some ⟨b2,0,none⟩)] K W)->(∀W',Grow w2 W'->K (.bool false) W')->Cs prog CS (.func (.func 351) #[] #[.pointer (some ⟨b3,0,none⟩)]) [.func (.func f) #[] #[.pointer (some ⟨b2,0,none⟩)]] K W:=λ{f W K} a8 g hf Q=>by
  refine P5 (cs:=[.pointer (some ⟨b3,0,none⟩)]) (by kernel_rfl) ?_;refine uS2 (dB 9 [] []) func351 (λ_ _ _ _=>⟨by conv=>lhs;reduce,by dsimp only[PI,AF],by kernel_rfl⟩) ?_;unfold uI;refine AJ ((Y.grow g).cells 0 _ rfl) ?_;refine AA (bM (h.grow (o.trans g)) λW' r c K' hc g' hr ak=>?_) ?_
  .exact P5 (cs:=[.pointer (some ⟨b2,0,none⟩)]) a8 (hf W' r c K' hc (g.trans g') hr ak)
  .rintro _ W' ⟨rfl,g'⟩;exact Q W' (g.trans g')
 have U:∃i,∃hi:i<d.length,d.length=i+1/\d[i].r=10:=by
  have hL:=X.last;rw[Al,qu,I3,ly] at hL;refine⟨d.length-1,by omega,by omega,?_⟩;rw[Bq (by omega)] at hL;exact lK hL
 refine AR (λvs W=>vs=[.bool false]/\w2=W) ?_ ?_;rotate_left
 .refine AJ (Y.cells 0 _ rfl) ?_;obtain⟨a,c,rfl,_⟩:=h.shape;rw[AO,Ai];refine AD (λe=>by omega) λ_=>?_;refine AJ (Y.cells 0 _ rfl) ?_;rw[AO,BE,lh (by omega)];exact⟨rfl,rfl⟩
 rintro _ _ ⟨rfl,rfl⟩ _;rw[BQ,Nr];refine AL ?_;refine any (by kernel_rfl) (Mod.refl _ _) (λW r c K hc g hr Q=>?_) λw3 g3=>AL ?_
 .refine uS2 (dB 9 [] []) func353 (λ_ _ _ _=>⟨by conv=>lhs;reduce,by dsimp only[PI,AF],by kernel_rfl⟩) ?_;unfold uI;refine Bx.box (vs:=r) λb W1 hb j B=>?_;obtain⟨V,rfl,Z⟩:=hr.mod j (λ_ _ _ h=>h) λ_ _ h=>h;refine Az (B.cells 0 _ rfl) ?_;refine AA Qr ?_;rintro _ _ ⟨rfl,rfl⟩;rename World=>W1
  rw[Ah,lq (hC c hc).1];refine AL ?_;have J:=g.trans j;refine AJ ((O.grow J).cells 0 _ rfl) ?_;refine Az (B.cells 1 _ rfl) ?_;refine AA (Ln (hS.grow (o.trans J)) Z (hT.grow (o.trans J)) λa ha=>((X.set c hc).2 a ha).2.2.2.1.1) ?_;rintro _ W2 ⟨rfl,I⟩;rw[EJ.2 (X.set c hc).1,Aa];exact Q _ (j.trans I)
 refine any (by kernel_rfl) g3 (λW r c K hc g hr Q=>?_) λw4 g4=>AL ?_
 .refine uS2 (dB 9 [] []) func354 (λ_ _ _ _=>⟨by conv=>lhs;reduce,by dsimp only[PI,AF],by kernel_rfl⟩) ?_;unfold uI;refine Bx.box (vs:=r) λb W1 hb j B=>?_;obtain⟨V,rfl,Z⟩:=hr.mod j (λ_ _ _ h=>h) λ_ _ h=>h;have J:=g.trans j;refine AJ ((O.grow J).cells 0 _ rfl) ?_;refine Az (B.cells 1 _ rfl) ?_;refine AA (Ln (hS.grow (o.trans J)) Z (hT.grow (o.trans J)) λa ha=>((X.set c hc).2 a ha).2.2.2.1.1) ?_;rintro _ W2 ⟨rfl,I⟩;rw[EJ.2 (X.set c hc).1,BL];exact Q _ (j.trans I)
 refine AJ ((Y.grow g4).cells 0 _ rfl) ?_;refine AJ ((Y.grow g4).cells 0 _ rfl) ?_;obtain⟨i,hi,el,al⟩:=U;obtain⟨a,c,rfl,_⟩:=h.shape;rw[AO,Am,wrap64 (by omega) (by omega),show((d.length:Int)-1)=(i:Int) by omega];obtain⟨q,r,rfl,_,hr,hc,V,rfl,_⟩:=(h.grow (o.trans g4)).get hi;refine AS hi ?_;rw[AH,Addr.add_add];refine AJ (hc 0 _ rfl) ?_;rw[BL,al];refine AL ?_;refine any (by kernel_rfl) g4 (λW r c K hc g hr Q=>?_) λw5 g5=>AL ⟨rfl,o.trans g5⟩;refine uS2 (dB 9 [] []) func355 (λ_ _ _ _=>⟨by conv=>lhs;reduce,by dsimp only[PI,AF],by kernel_rfl⟩) ?_;unfold uI;refine Bx.box (vs:=r) λb W1 hb j B=>?_;obtain⟨V,rfl,Z⟩:=hr.mod j (λ_ _ _ h=>h) λ_ _ h=>h;have J:=g.trans j;refine AJ ((O.grow J).cells 0 _ rfl) ?_;refine Az (B.cells 1 _ rfl) ?_;refine Az (B.cells 0 _ rfl) ?_;rw[BL];have an:=(X.set c hc).len;refine AA (Js (hS.grow (o.trans J)) Z (by omega)) ?_;rintro pv W2 ⟨a1,I⟩;have e:CL ks (!decide (c.r=10)) c.set=[]:=oH.2 λa ha=>by rw[QL ((hC c hc).2 a ha)];decide
 rw[e] at a1;obtain⟨pa,pc,rfl,_⟩:=a1.shape;rw[AO,BE];exact Q _ (j.trans I)
end
end Go.Proofs.YtbdjachmndlplaaGreatDoor
