/- parts of the proof, written short by a program of ours -/
import Derived.Test.YtmdhibffnkhcnaaGreatDoorZTextInvertsUpto10
set_option linter.unusedSimpArgs false
set_option linter.unusedVariables false
set_option linter.defProp false
namespace Go.Proofs.YtmdhibffnkhcnaaGreatDoor
open Go Proofs.Tryz
variable {B N:Nat}{w W W' w0:World}{F S C D':Nat->Prop}{v fr sv:Value}{most:Int}{α:Type}{s:List Attr}{ks:List DKey}{rs:List Int}{K:Cont}{σ:SKs}
section
def jj{α β j:Type}(g:α->j):∀(A:List α) (B:List β),A.length=B.length->(A.zipWith (fun a b=>(g a,b)) B).map Prod.fst=A.map g/\(A.zipWith (fun a b=>(g a,b)) B).map Prod.snd=B/\∀q∈A.zipWith (fun a b=>(g a,b)) B,∃(k:Nat) (a:α) (b:β),A[k]?=some a/\B[k]?=some b/\q=(g a,b):=by
 intro A;induction A with
 |nil=>
  intro B h;have:B=[]:=QC h.symm;subst this;exact⟨rfl,rfl,fun q i=>nomatch i⟩
 |cons a A m=>
  intro B h;cases B with
  |nil=>simp at h
  |cons b B=>
   obtain⟨h1,o,I⟩:=m B (by simpa using h);refine⟨by simp only[pR,kN,h1],by simp only[pR,kN,o],fun q i=>?_⟩;rw[pR] at i;rcases K8.1 i with rfl|i
   .exact⟨0,a,b,rfl,rfl,rfl⟩
   .obtain⟨k,J,O,Q,T,U⟩:=I q i;exact⟨k+1,J,O,Q,T,U⟩
def Tz{P:Int->Int->Prop}:∀{row done:List Spn},done.length=row.length->(∀(q:Nat) (s i:Spn),row[q]?=some s->done[q]?=some i->i.n=s.n/\P s.id i.id)->
  (done.flatMap Spn.u).length=(row.flatMap Spn.u).length/\∀(k:Nat) (x y:Int),(row.flatMap Spn.u)[k]?=some x->(done.flatMap Spn.u)[k]?=some y->P x y:=by
 intro row;induction row with
 |nil=>
  intro done h _;have:done=[]:=QC h;subst this;exact⟨rfl,fun k x y h=>by simp at h⟩
 |cons s row o=>
  intro done h hr;cases done with
  |nil=>simp at h
  |cons i done=>
   obtain⟨B,I⟩:=hr 0 s i rfl rfl;obtain⟨h1,J⟩:=o (done:=done) (by simpa using h) fun q a b ha hb=>hr (q+1) a b ha hb;have l1:(Spn.u s).length=s.n:=by rw[Spn.u,lZ]
   have l2:(Spn.u i).length=s.n:=by rw[Spn.u,lZ,B]
   refine⟨by rw[lQ,lQ,Bp,Bp,h1,l1,l2],fun k x y j m=>?_⟩;rw[lQ] at j m;by_cases hk:k<s.n
   .rw[Q0 (by omega),Spn.u,nR,DN hk] at j;rw[Q0 (by omega),Spn.u,nR,DN (by omega)] at m;cases j;cases m;exact I
   .rw[kO (by omega),l1] at j;rw[kO (by omega),l2] at m;exact J _ x y j m
section
variable {k:TxK}{w0:World}{F:Nat->Prop}{W:World}{a:TxA}{σ:SKs}{most:Int}{N:Nat}{d:List Cel}
def Rw{i j:Nat}{p:List Chg}(h:Gq .f w0 F W a σ most d N)(hT:Ee w0)(a6:i<=j)(hj:j<=d.length)(hp:Ey S W v p)(ed:∀x,S x->¬F x)(gg:p.length<=64)
 (Q:∀c∈(d.take j).drop i,c.r≠10/\Bm σ.ks (Bs c.set p)=0/\∀x∈Bs c.set p,Mv x)(hz:d.length<=10000000)(hN:N+(j-i)+20<=1000000000) :
  AB prog 86 [.pointer (some ⟨a.b,0,none⟩),zI (i:Int),zI (j:Int),v] (fun v' w'=>v'=.tuple #[]/\KF .f w0 F W w' a σ most (d.take i++((d.take j).drop i).map (fun c=>(⟨c.r,Bs c.set p⟩:Cel))++d.drop j) (N+(j-i)+20)) W:=by
 obtain⟨z,l2,t,f,a7,hM,a8,hu,hh,bk,gl⟩:=h;have ak:z.length=d.length:=by rw[<-a7,Iq]
 have cc:=kZ List.length hu;rw[Iq,ak] at cc;apply eW;refine AI ?_;refine Bh (hM.box.1.cells 3 _ rfl) ?_;obtain⟨Fs,bt,hO,gm,_⟩:=hM.RE;have fo:Ei l2=d.length:=by rw[Du,cc]
 have gw:=Spn.FZ a8;refine AA (J7 (i:=i) (j:=j) hO (by omega) a6 (by omega) (by omega) (by omega)) ?_;rintro _ W1 ⟨rv,rfl,oR,g1⟩;refine BO ?_;have bl:=Spn.G8 a8 i j;have al:(Spn.kd.over l2 i j).flatMap Spn.u=((z.map Prod.snd).take j).drop i:=by rw[Spn.ED.over,hu]
 have ee:=Spn.FZ bl;rw[al,I3,Lc,Iq,ak] at ee;generalize Spn.kd.over l2 i j=row at *;clear hO;have cd:∀s∈row,0<Spn.rn s.id none (z.map Prod.snd)/\Bm σ.ks (Bs (f s.id) p)=0/\∀x∈Bs (f s.id) p,Mv x:=fun s T=>by
  have h1:=Spn.KO T (Spn.Ic bl s T);rw[al] at h1;have h2:s.id∈((z.take j).drop i).map Prod.snd:=by rw[mB,lu];exact h1
  obtain⟨q,B,e⟩:=kT.1 h2;have ef:q.1∈(d.take j).drop i:=by rw[<-a7,<-lu,<-mB];exact kT.2 ⟨q,B,rfl⟩
  obtain⟨c1,c2,c3⟩:=Q _ ef;have:=(bk q (i7 (iV B))).2 c1;rw[<-e,this];exact⟨Spn.JD (i7 (iV (e▸h1))) (by simp),c2,c3⟩
 have eh:=hM.hl;have z1:=g1.size;have I:=AE.Ax oR;have ej:Ey (fun x=>S x/\x<W.heap.size) W1 v p:=BB.grow (hp.GN (by decide)) g1 (by decide) fun _ _ h=>h;obtain⟨ra,rc,ek,_⟩:=AE.shape oR;have ch:Ac rv=Ac (.slice ra row.length rc):=by rw[ek]
 rw [ch,AP];refine AX (fun vs W'=>∃ (m:Nat) (done:List Spn) (t':Tab (List Attr)) (f':Int->List Attr) (F':Nat->Prop),m<=row.length/\vs=[zI m]/\done.length=m/\
   (∀x,F' x->F x\/W1.heap.size<=x)/\Hq .f w0 F' W' a σ most (Ar d) l2 (CK d) t' N/\Mod (fun x=>F x\/rv.ownBlock=some x) W1 W'/\
   AE W.heap.size 108 2 Dt W' rv (done++row.drop m)/\(∀(q:Nat) (s s':Spn),row[q]?=some s->done[q]?=some s'->s'.n=s.n/\f' s'.id=Bs (f s.id) p)/\
   t'.Holds [] f' (fun x=>Spn.rn x none (z.map Prod.snd)+Spn.Df done x)/\(∀ x,0 < Spn.rn x none (z.map Prod.snd)->f' x=f x)/\t'.places.length<=N+m) (fun vs _=>row.length - De vs 0)
  ⟨0,[],t,f,F,Nn _,rfl,rfl,fun _ h=>.inl h,hM.grow g1,Mod.refl _ _,by simpa using oR,fun q s s' _ h=>by simp at h,hh.congr fun x=>by simp[Spn.Df],fun _ _=>rfl,by omega⟩ ?_
 rintro vs W2 ⟨m,done,t2,f2,F2,hm,rfl,U,an,bn,M2,o2,X,Y,bp,fs⟩ _;simp only[Bl,Nr];rw[Am];have z2:=M2.size;have b0:=AE.Ax o2;have J:∀x,rv.ownBlock=some x->¬F2 x:=fun x o e=>by
  have h1:=I x o;rcases an x e with e|e
  .have:=eh x e;omega
  .omega
 have en:Ey (fun x=>S x/\x < W.heap.size) W2 v p:=BB.mod ej M2 (fun x _ o e=>by
  rcases e with e|e
  .exact ed x o.1 e
  .have:=I x e;omega) (by decide) fun _ _ h=>h
 have av:(done++row.drop m).length=row.length:=by rw[Bp,I3,U];omega
 obtain⟨qa,qc,cv,_⟩:=AE.shape o2;rw[av] at cv;refine AF (fun fv=>?_) fun gA=>?_
 .have V:m<row.length:=by omega
  have b1:(done++row.drop m)[m]'(by omega)=row[m]:=by
   rw[mU (by omega)];simp[U]
  obtain⟨i1,i2,i3⟩:=cd row[m] (WJ V);have gd:Grow W2 W2.drew:=Mod.drew _ _;have Z:=bn.grow gd;refine Af (fun _ _=>False) ?_;refine AI ?_;rw[AG,AH];refine AU ⟨Z.box.1.cells 5 _ rfl,fun j hj e=>e⟩ ?_;have eo:=AE.sl o2;subst cv;obtain⟨p0,r0,e0,a1,gB,bs,cx⟩:=eo.get (i:=m) (by omega);cases e0;have bx:r0=Spn.cells row[m]:=by rw[<-b1];exact cx
  subst bx;refine AT V ?_;rw[AG,Addr.add_add];refine AU ⟨by have:=gd.cell (bs 1 _ rfl) (fun h=>h);exact this,fun j hj e=>e⟩ ?_;obtain⟨Ft,da,gW,_⟩:=Z.Qs;have dk:0<Spn.rn row[m].id none (z.map Prod.snd)+Spn.Df done row[m].id:=by omega
  obtain⟨d1,d2⟩:=Y.idle (.inl dk);obtain⟨cn,b2⟩:=Y.ask dk;refine AA (Ob da (by omega) (by omega) (by omega)) ?_;rintro v3 W3 ⟨g3,dT⟩;rw[b2] at dT;obtain⟨h3,rfl,o3⟩:=dT;have b6:f2 row[m].id=f row[m].id:=bp _ i1;simp only[b6] at o3;refine⟨g3.mono fun _ _ h=>h.elim,?_⟩;refine BO ?_;have ga:(f row[m].id).length<=64:=by
   obtain⟨C,pl,fr,bm,hR⟩:=da;have:=Ov hR.core b2;simpa[b6] using this
  have ep:=Z.grow g3;have c4:Grow W3 W3.drew:=Mod.drew _ _;have b7:=ep.grow c4;have ax:=(gd.trans g3).trans c4;have h4:=ax.size;refine Af (fun q y=>(q=9/\F2 y)\/(q=15/\y=p0.block)) ?_;refine AI ?_;rw [AG,AH];refine AU ⟨b7.box.1.cells 5 _ rfl,fun j hj e=>by
   rcases e with⟨rfl,_⟩|⟨rfl,_⟩
   .exact absurd hj (by decide)
   .exact absurd hj (by decide)⟩ ?_
  refine AA (Ow ((AE.sl o3).grow c4 (by decide) fun _ _ h=>h) (BB.grow en ax (by decide) fun _ _ h=>h) (by omega)) ?_;rintro nv W4 ⟨o4,g4⟩;refine ⟨g4.mono fun _ _ h=>h.elim,?_⟩;have e4:=b7.grow g4;have z4:=g4.size;obtain ⟨h5,c6,b8,put⟩:=e4.Qs;have b9:=bn.hl;have er:t2.Small 1099511627:=(Y.small c6.inv GL.ne (H:=1000000000) (fun x=>by
   have h1:=Spn.Qc x none (z.map Prod.snd);rw [Iq] at h1;have h2:=Spn.MT done x;omega) (by omega)).le (by omega)
  refine AA (SF c6 er (AE.sl o4) (hT.grow e4.g) i3 (fun x o=>?_) (fun x o e=>?_)) ?_
  .have:=b9 x (b8 x o);have:=hT.size;exact⟨by omega,by omega⟩
  .have:=b9 x (b8 x e);have:=o.1;omega
  rintro _ W5 (⟨h0,_⟩|⟨_,id,t5,rfl,ba,hA⟩)
  .exact absurd i2 h0
  obtain⟨F5,f5,ay,M5⟩:=put hA;clear put;refine⟨M5.mono fun x _ o=>.inl ⟨rfl,o⟩,?_⟩;refine BO ?_;obtain⟨f',c7,e5,bb⟩:=Y.added c6.inv ba fun c8=>⟨c8,i3,i2⟩;have gb:=ba.pl;have e6:¬F2 p0.block:=J _ a1.2;have o5:=AE.mod (R':=Dt) (AE.mod (R':=Dt) o2 (ax.trans g4) (fun _ _ h=>h) fun _ _ _ h=>h) M5 (fun x o e=>J x o e) fun _ _ _ h=>h;refine AT V ?_;rw[AG,Addr.add_add];rw[<-av] at o5;refine N5 (k:=2) (i:=m) (j:=1) (x':=(⟨row[m].n,id⟩:Spn)) o5 (by omega) (by decide) rfl rfl (fun _ _ _ _ h=>h) (fun _ _ r hr=>?_) fun W6 o6 m6=>?_
  .have h':r=_:=hr;rw[h',b1];rfl
  refine⟨m6.mono fun x _ e=>.inr ⟨rfl,e⟩,?_⟩;rw[AQ,AO (by omega)];have z5:=M5.size;have gf:=ay.hl;have e7:¬F5 p0.block:=fun e=>by
   have:=b0 _ a1.2;rcases f5 _ e with e|e
   .exact e6 e
   .omega
  have c9:(done++row.drop m).set m (⟨row[m].n,id⟩:Spn)=(done++[⟨row[m].n,id⟩])++row.drop (m+1):=by
   rw[List.set_append,Bq (by omega),U,ot,lX V,qL,Of];rfl
  rw[c9,av] at o6;have et:¬σ.S p0.block:=fun e=>by
   have h1:=(hM.JO.2 _ e);have:=I _ a1.2;omega
  have eu:w0.heap.size<=p0.block:=by have:=hM.g.size;have:=I _ a1.2;omega
  refine⟨⟨m+1,done++[⟨row[m].n,id⟩],t5,f',F5,V,rfl,by simp[U],fun x o=>?_,ay.mod m6 fun x e=>by rw[e];exact⟨e7,et,eu⟩,?_,o6,fun q s s' T O=>?_,c7.congr fun x=>?_,fun x o=>?_,by omega⟩,by rw[CH,CH];omega⟩
  .rcases f5 x o with e|e
   .exact an x e
   .exact .inr (by omega)
  .refine((M2.next (ax.trans g4) fun _ _ e=>e.elim).next M5 fun x o e=>?_).next m6 fun x o e=>?_
   .rcases an x e with e|e
    .exact .inl e
    .omega
   .rw[e];exact .inr a1.2
  .by_cases B:q<done.length
   .rw[Q0 B] at O;obtain⟨e1,e2⟩:=X q s s' T O;refine⟨e1,?_⟩;rw[bb,e2];have:=Spn.Og (lS O);omega
   .rw[kO (by omega)] at O;have ew:q-done.length=0:=by
     have:=(Ad.1 O).1;simpa using this
    rw[ew] at O;cases O;have ey:q=m:=by omega
    subst ey;rw[By V] at T;cases T;exact⟨rfl,e5⟩
  .rw[Spn.Df,Spn.Df,pI,ou,List.countP_nil];by_cases e:x=id
   .rw[DN e,DN (by simp[e])];omega
   .rw[Bq e,Bq (by simp[nY e])];omega
  .rw[bb x (by omega),bp x o]
 .obtain rfl:m=row.length:=by omega
  rw[nD,kK] at o2 av;obtain⟨r1,r2⟩:=Tz (P:=fun x y=>f2 y=Bs (f x) p) U X;have e8:(row.flatMap Spn.u).length=j-i:=by rw[al,I3,Lc,Iq,ak];omega
  have ca:∀s∈done,0<s.n:=fun s T=>by
   obtain⟨q,B,e⟩:=nO.1 T;obtain⟨e1,_⟩:=X q row[q] s (By (by omega)) (by rw[By B,e]);rw[e1];exact Spn.Ic bl _ (WJ _)
  refine AA (Kp (f:=f2) (ex:=fun x=>Spn.Df done x) (row:=done) (i:=i) (j:=j) bn a8 (Y.congr fun x=>by rw[hu]) a6 (by omega) (AE.sl o2) (fun x o e=>J x o.2 e) (fun s T=>⟨ca s T,.inl (Spn.Og T)⟩) (by omega) (fun x=>by have:=Spn.MT done x;omega) (by omega) (by omega)) ?_;rintro _ W5 ⟨rfl,t5,⟨F5,f5,ay,M5⟩,c7,eA⟩;have e9:((Spn.kd.CB l2 i j done).flatMap Spn.u)=(z.map Prod.snd).take i++done.flatMap Spn.u++(z.map Prod.snd).drop j:=by rw[Spn.ED.CB l2 _ a6,hu]
  have eB:=kZ List.length e9;simp only[Bp,Lc,I3,Iq] at eB;have o5:AE W.heap.size 108 2 Dt W5 rv done:=AE.mod (R':=Dt) o2 M5 (fun x o e=>J x o e) fun _ _ _ h=>h;have eC:(row.length:Int)=(done.length:Int):=by rw[U]
  rw [AP,eC];refine Kl (P:=fun m t=>t.Holds [] f2 (fun x=>(Spn.rn x none ((Spn.kd.CB l2 i j done).flatMap Spn.u)+Spn.Df done x) - Spn.Df (done.take m) x)/\t.places.length=_) (fun hT T h0 h1=>KQ hT T h0 h1) (AE.sl o5) (fun x o e=>by
    rcases f5 x e with e|e
    .exact J x o.2 e
    .have:=b0 x o.2;omega) (by omega)
   (N0 (h:=fun x=>Spn.rn x none ((Spn.kd.CB l2 i j done).flatMap Spn.u)+Spn.Df done x) (M:=t2.places.length) (by omega) (fun x=>by omega) (fun x=>by have:=Spn.Qc x none ((Spn.kd.CB l2 i j done).flatMap Spn.u);have:=Spn.MT done x;omega) σ.ks) ay ⟨c7.congr fun x=>by simp[Spn.Df],eA⟩ ?_
  rintro W6 t6 ⟨F6,f6,h6,M6⟩ ⟨ea,h7⟩;rw[PF] at ea;have eI:Mod F W W2:=by
   refine(g1.mono fun _ _ h=>h.elim).next M2 fun x o e=>?_;rcases e with e|e
   .exact e
   .have:=I x e;omega
  have eL:=DK.next (W:=W) (F:=F) (fun x o=>(an x o).imp (fun h=>h) fun h=>by omega) eI (DK.next f5 M5 ⟨F6,f6,h6,M6⟩);obtain⟨F',w1,w2,w3⟩:=eL.up (N':=N+(j-i)+20) (by omega)
  let zm:=(z.take j).drop i
  have eN:zm.length=(done.flatMap Spn.u).length:=by
   show((z.take j).drop i).length=_;rw[I3,Lc,r1,e8,ak];omega
  obtain⟨y1,y2,y3⟩:=jj (fun q:Cel×Int=>(⟨q.1.r,Bs q.1.set p⟩:Cel)) zm (done.flatMap Spn.u) eN;have bc:zm.map Prod.fst=(d.take j).drop i:=by
   show((z.take j).drop i).map Prod.fst=_;rw[mB,lu,a7]
  have eR:zm.map (fun q:Cel×Int=>(⟨q.1.r,Bs q.1.set p⟩:Cel))=((d.take j).drop i).map (fun c=>(⟨c.r,Bs c.set p⟩:Cel)):=by
   rw[<-bc,mz];rfl
  have e3:(z.take i++zm.zipWith (fun q y=>((⟨q.1.r,Bs q.1.set p⟩:Cel),y)) (done.flatMap Spn.u)++z.drop j).map Prod.snd=(Spn.kd.CB l2 i j done).flatMap Spn.u:=by
   rw[e9,Ty,Ty,lu,mB,y2]
  have bd:d=d.take i++(d.take j).drop i++d.drop j:=by
   have h1:=(S6 i (d.take j)).symm;rw[mf,lA a6] at h1;rw[<-h1,S6]
  refine⟨trivial,F',w1,⟨z.take i++zm.zipWith (fun q y=>((⟨q.1.r,Bs q.1.set p⟩:Cel),y)) (done.flatMap Spn.u)++z.drop j,_,t6,f2,?_,?_,Spn.IF i j done a8,e3.symm,ea.congr fun x=>?_,fun q B=>?_,by omega⟩,w3⟩
  .rw[Ty,Ty,lu,mB,y1,eR,a7]
  .have e1:Ar (d.take i++((d.take j).drop i).map (fun c=>(⟨c.r,Bs c.set p⟩:Cel))++d.drop j)=Ar d:=by
    conv=>rhs;rw[bd]
    simp only[Ar,Ty,mz];rfl
   have e2:CK (d.take i++((d.take j).drop i).map (fun c=>(⟨c.r,Bs c.set p⟩:Cel))++d.drop j)=CK d:=by
    conv=>rhs;rw[bd]
    rw[Dk,Dk,Dk,Dk];have n1:CK ((d.take j).drop i)=[]:=by
     unfold CK;rw[oD,nZ];intro c hc;simpa using(Q c hc).1
    have n2:CK (((d.take j).drop i).map (fun c=>(⟨c.r,Bs c.set p⟩:Cel)))=[]:=by
     unfold CK;rw[oD,nZ];intro c hc;obtain⟨c',eX,rfl⟩:=kT.1 hc;simpa using(Q c' eX).1
    rw[n1,n2]
   rw[e1,e2];exact w2
  .rw[e3];omega
  .have GN:∀q∈z,(q.1.r=10->q.2=0)/\(q.1.r≠10->f2 q.2=q.1.set):=fun q B=>by
    obtain⟨o1,o2⟩:=bk q B;exact⟨o1,fun c8=>by rw[bp q.2 (Spn.JD (kT.2 ⟨q,B,rfl⟩) (by simp)),o2 c8]⟩
   rcases C3.1 B with B|B
   .rcases C3.1 B with B|B
    .exact GN q (i7 B)
    .obtain⟨kk,q0,y,ha,hb,rfl⟩:=y3 q B;have ec:q0∈zm:=lS ha;have bs:q0.1∈(d.take j).drop i:=by rw[<-bc];exact kT.2 ⟨q0,ec,rfl⟩
     obtain⟨c1,_⟩:=Q _ bs;have fa:q0∈z:=i7 (iV ec);refine⟨fun e=>absurd e c1,fun _=>?_⟩;have o:(row.flatMap Spn.u)[kk]?=some q0.2:=by
      rw[al,<-lu,<-mB,lP,ha];rfl
     have:=r2 kk q0.2 y o hb;rw[this,(bk q0 fa).2 c1]
   .exact GN q (iV B)
end
def EK(ks:List DKey)(s:List Attr):Prop:=Io ks s/\∀x∈s,Mv x
def HO(ks:List DKey)(p:List Chg):Prop:=J0 ks p/\∀c∈p,Mv ⟨c.key,c.val⟩
def EK.nil:EK ks []:=⟨IH,fun x i=>nomatch i⟩
def HO.nil:HO ks []:=⟨IJ,fun x i=>nomatch i⟩
def EK.len(h:EK ks s):s.length<=64:=h.1.2.1
def EK.part(h:EK ks s)(b:Bool):EK ks (CP ks b s):=
 ⟨⟨pk _ h.1.1,lV (nN _ _) h.1.2.1,fun x i=>h.1.2.2 x (lx.1 i).1⟩,fun x i=>h.2 x (lx.1 i).1⟩
def HO.part{p:List Chg}(h:HO ks p)(b:Bool):HO ks (CW ks b p):=
 ⟨⟨pk _ h.1.1,lV (nN _ _) h.1.2.1,fun x i=>h.1.2.2 x (lx.1 i).1⟩,fun x i=>h.2 x (lx.1 i).1⟩
def EK.app(i:ks.length<=64){p:List Chg}(h:EK ks s)(hp:HO ks p):EK ks (Bs s p):=by
 refine⟨XE i h.1 hp.1.1 fun c hc m=>(hp.1.2.2 c hc).2.1 m,fun x j=>?_⟩;rcases KC j with j|⟨c,hc,_,rfl⟩
 .exact h.2 x j
 .exact hp.2 c hc
def Cg(ks:List DKey)(p:List Chg)(c:Cel):Cel:=⟨c.r,MP ks c.set p c.r⟩
def NJ(d:List Cel)(i j:Nat)(g:Cel->Cel):List Cel:=d.take i++((d.take j).drop i).map g++d.drop j
def OV(d:List Cel){i j:Nat}(g:Cel->Cel)(m:i<=j)(q:j<=d.length)(k:Nat):(NJ d i j g)[k]?=if i<=k/\k<j then d[k]?.map g else d[k]?:=by
 unfold NJ;have l1:(d.take i).length=i:=by rw[Lc];omega
 have l2:(((d.take j).drop i).map g).length=j-i:=by rw[Iq,I3,Lc];omega
 by_cases h1:k<i
 .rw[Bq (by omega),Of,Q0 (by omega),mE,DN h1]
 .by_cases o:k<j
  .rw[DN ⟨by omega,o⟩,Q0 (by rw[Bp];omega),kO (by omega),l1,lP,ly,mE,DN (by omega),show i+(k-i)=k by omega]
  .rw[Bq (by omega),kO (by rw[Bp];omega),Bp,l1,l2,ly,show j+(k-(i+(j-i)))=k by omega]
def R9(d:List Cel){i j:Nat}(m:i<=j):d=d.take i++(d.take j).drop i++d.drop j:=by
 have h1:=(S6 i (d.take j)).symm;rw[mf,lA m] at h1;rw[<-h1,S6]
def Vg(d:List Cel){i j:Nat}(g:Cel->Cel)(m:i<=j)(o:∀c,(g c).r=c.r):Ar (NJ d i j g)=Ar d:=by
 conv=>rhs;rw[R9 d m]
 unfold NJ;simp only[Ar,Ty,mz];congr 2
 exact nX fun c _=>o c
def Xe(d:List Cel){i j:Nat}(g:Cel->Cel)(m:i<=j)(o:∀c∈(d.take j).drop i,g c=c):NJ d i j g=d:=by
 conv=>rhs;rw[R9 d m]
 unfold NJ;rw[nX (g:=id) (fun c hc=>o c hc),List.map_id]
def Ys{b:List Int}(h:(10:Int)∈b):∃q,HJ b 0=some q/\b[q]?=some 10/\∀k,k<q->b[k]?≠some 10:=by
 induction b with
 |nil=>cases h
 |cons r b i=>
  rw[Gv];by_cases e:r=10
  .rw[DN e];exact⟨0,rfl,by rw[e];rfl,fun k hk=>by omega⟩
  .rw[Bq e];obtain⟨q,h1,j,m⟩:=i ((K8.1 h).resolve_left fun h=>e h.symm);refine⟨q+1,by rw[h1];rfl,by simpa using j,fun k hk=>?_⟩;cases k with
   |zero=>simpa using e
   |succ k=>simpa using m k (by omega)
def ae{p:Nat}(hp:p<rs.length)(hl:rs.getLast?=some 10):∃q,HJ rs (BX (rs.take p))=some q/\p<=q/\q<rs.length/\rs[q]?=some 10/\(∀k,p<=k->k<q->rs[k]?≠some 10)/\BX (rs.take p)+1<=BX rs/\BX (rs.take (q+1))=BX (rs.take p)+1:=by
 have U:rs.drop p≠[]:=fun e=>by have:=kZ List.length e;rw[I3] at this;simp at this;omega
 have hm:(10:Int)∈rs.drop p:=by
  have:(rs.drop p).getLast?=some 10:=by
   rw[oV,Bq (by omega)];exact hl
  exact mj this
 obtain⟨q,h1,m,I⟩:=Ys hm;have lt:(rs.take p).length=p:=by rw[Lc];omega
 have e:=Lk (rs.take p) (rs.drop p) (BX (rs.take p));rw[S6,Bq (by omega),ot,h1,lt] at e;rw[ly] at m;have V:=(Ad.1 m).1;have X:BX rs=BX (rs.take p)+BX (rs.drop p):=by rw[<-FD,S6]
 have B:0<BX (rs.drop p):=List.count_pos_iff.2 hm;have i:∀k,p<=k->k<q+p->rs[k]?≠some 10:=fun k a b=>by
  have:=I (k-p) (by omega);rw[ly,show p+(k-p)=k by omega] at this;exact this
 refine⟨q+p,e,by omega,by omega,by rw[show q+p=p+q by omega];exact m,i,by omega,?_⟩;have J:rs.take (q+p+1)=rs.take p++((rs.take (q+p)).drop p++[10]):=by
  have o:=(S6 p (rs.take (q+p))).symm;rw[mf,lA (by omega)] at o;have O:rs[q+p]?=some 10:=by rw[show q+p=p+q by omega];exact m
  rw[No,O];generalize (rs.take (q+p)).drop p=M at o ⊢;rw[o];simp
 have Q:BX ((rs.take (q+p)).drop p)=0:=by
  refine qP.2 fun j=>?_;obtain⟨k,hk,e⟩:=nO.1 j;have T:k<q:=by rw[I3,Lc] at hk;omega
  refine i (p+k) (by omega) (by omega) ?_;rw[List.getElem_drop,ny] at e;rw[By (by omega),e]
 rw[J,FD,FD,Q];rfl
def Ur(d:List Cel)(g:Cel->Cel){g':List Attr->List Attr}(j:∀c,(g c).r=c.r)(h:∀c,c.r=10->(g c).set=g' c.set):CK (d.map g)=(CK d).map g':=by
 induction d with
 |nil=>rfl
 |cons c d m=>
  have e:∀(c:Cel) (d:List Cel),CK (c::d)=(if c.r=10 then[c.set] else[])++CK d:=fun c d=>by by_cases h:c.r=10<;>simp[CK,h]
  rw[kN,e,e,m,j,Ty];split
  .rename_i i;rw[h c i];rfl
  .rfl
def XS(d:List Cel){i j:Nat}(m:i<=j)(g:Cel->Cel){g':List Attr->List Attr}(o:∀c,(g c).r=c.r)(h:∀c,c.r=10->(g c).set=g' c.set) :
  CK (NJ d i j g)=(CK d).take (BX ((Ar d).take i))++(((CK d).take (BX ((Ar d).take j))).drop (BX ((Ar d).take i))).map g'++(CK d).drop (BX ((Ar d).take j)):=by
 unfold NJ;rw[Dk,Dk,(DX d i).1,(DX d j).2,Ur _ g o h,(DX (d.take j) i).2,(DX d j).1,show Ar (d.take j)=(Ar d).take j from lu,mf,lA m]
structure J3 (ks:List DKey) (d:List Cel):Prop where
 set:∀c∈d,EK ks c.set
 last:(Ar d).getLast?=some 10
def Gq.up{k:TxK}{a:TxA}{N N':Nat}{d:List Cel}(h:Gq k w0 F W a σ most d N)(j:N<=N'):Gq k w0 F W a σ most d N':=by
 obtain⟨z,l2,t,f,h1,m,o,q,B,I,O⟩:=h;obtain⟨own,G,l1,J,i⟩:=m;exact⟨z,l2,t,f,h1,⟨own,G,l1,J,i.box,i.Hi.up j,i.EX.up j,i.para.up j,i.Qs,i.JO,i.cb,i.cr,i.cs,i.cp,i.ct,i.cS,i.lo,i.hl,i.g⟩,o,q,B,I,by omega⟩
def Gq.grow{k:TxK}{a:TxA}{d:List Cel}(h:Gq k w0 F W a σ most d N)(g:Grow W W'):Gq k w0 F W' a σ most d N:=by
 obtain⟨z,l2,t,f,h1,i,j⟩:=h;exact⟨z,l2,t,f,h1,i.grow g,j⟩
def Gq.hl{k:TxK}{a:TxA}{d:List Cel}(h:Gq k w0 F W a σ most d N):∀x,F x->w0.heap.size<=x/\x<W.heap.size/\¬σ.S x:=by
 obtain⟨z,l2,t,f,h1,i,j⟩:=h;exact i.hl
def Gq.box{k:TxK}{a:TxA}{d:List Cel}(h:Gq k w0 F W a σ most d N):Bx W a.b (Uv σ.sv most a.r a.s a.p a.t)/\F a.b:=by
 obtain⟨z,l2,t,f,h1,i,j⟩:=h;exact i.box
def Gq.JO{k:TxK}{a:TxA}{d:List Cel}(h:Gq k w0 F W a σ most d N):Ci σ.S W σ.sv σ.ks/\∀x,σ.S x->x<W.heap.size:=by
 obtain⟨z,l2,t,f,h1,i,j⟩:=h;exact i.JO
def Gq.g{k:TxK}{a:TxA}{d:List Cel}(h:Gq k w0 F W a σ most d N):Grow w0 W:=by
 obtain⟨z,l2,t,f,h1,i,j⟩:=h;exact i.g
def Gq.Hi{a:TxA}{d:List Cel}(h:Gq .f w0 F W a σ most d N):∃l1 Fr bt,Bg l1=Ar d/\Di Az.toAvT Fr GJ W a.r bt l1 N:=by
 obtain⟨z,l2,t,f,h1,i,o⟩:=h;obtain⟨l1,Fr,bt,j,m,_⟩:=i.Sb;exact⟨l1,Fr,bt,j,m⟩
def KF.next{k:TxK}{F i:Nat->Prop}{W j W':World}{a:TxA}{d:List Cel}(m:∀x,i x->F x\/W.heap.size<=x)(hm:Mod F W j)(h:KF k w0 i j W' a σ most d N):KF k w0 F W W' a σ most d N:=by
 obtain⟨q,h1,B,I⟩:=h;have z:=hm.size;refine⟨q,fun x o=>?_,B,hm.next I fun x o e=>?_⟩
 .rcases h1 x o with e|e
  .exact m x e
  .exact .inr (by omega)
 .rcases m x e with e|e
  .exact e
  .omega
def KF.step{k:TxK}{W i W':World}{a:TxA}{d:List Cel}(g:Grow W i)(h:KF k w0 F i W' a σ most d N):KF k w0 F W W' a σ most d N:=KF.next (fun _ h=>.inl h) (g.mono fun _ _ h=>h.elim) h
def KF.up{k:TxK}{a:TxA}{N N':Nat}{d:List Cel}(h:KF k w0 F W W' a σ most d N)(i:N<=N'):KF k w0 F W W' a σ most d N':=by
 obtain⟨F',h1,j,m⟩:=h;exact⟨F',h1,j.up i,m⟩
def HM(ks:List DKey)(p:List Chg)(c:Cel):Cel:=if c.r=10 then⟨10,Bs c.set (CW ks true p)⟩ else c
def L3(ks:List DKey)(p:List Chg)(c:Cel):(HM ks p c).r=c.r:=by unfold HM;split<;>simp_all
def JA(ks:List DKey)(p:List Chg)(d:List Cel)(i j m:Nat):List Cel:=d.mapIdx fun k c=>if i<=k/\k<m then Cg ks p c else if i<=k/\k<j then HM ks p c else c
def FK(ks:List DKey)(p:List Chg)(d:List Cel)(i j m k:Nat):(JA ks p d i j m)[k]?=d[k]?.map fun c=>if i<=k/\k<m then Cg ks p c else if i<=k/\k<j then HM ks p c else c:=by
 rw[JA,List.getElem?_mapIdx]
def P1(ks:List DKey)(p:List Chg)(d:List Cel)(i j m:Nat):(JA ks p d i j m).length=d.length:=List.length_mapIdx
def Nt(ks:List DKey)(p:List Chg)(d:List Cel){i j:Nat}(m:i<=j)(o:j<=d.length):JA ks p d i j i=NJ d i j (HM ks p):=by
 refine mI fun k=>?_;rw[FK,OV d _ m o];by_cases h:i<=k/\k<j
 .rw[DN h];simp only[h,lT,show ¬k<i by omega,and_false,lE,and_self]
 .rw[Bq h];simp only[h,lE,show ¬(i<=k/\k<i) by omega,Option.map_id_fun'];rfl
def Nw(ks:List DKey)(p:List Chg)(d:List Cel){i j:Nat}(m:i<=j)(o:j<=d.length):JA ks p d i j j=NJ d i j (Cg ks p):=by
 refine mI fun k=>?_;rw[FK,OV d _ m o];by_cases h:i<=k/\k<j
 .rw[DN h];simp only[h,lT,and_self]
 .rw[Bq h];simp only[h,lE,Option.map_id_fun'];rfl
def YG(ks:List DKey)(p:List Chg)(d:List Cel)(i j m:Nat):Ar (JA ks p d i j m)=Ar d:=by
 refine mI fun k=>?_;rw[Ar,Ar,lP,lP,FK,Option.map_map];congr 1
 funext c
 show Cel.r (ite _ _ _)=c.r;split
 .rfl
 .split
  .exact L3 ks p c
  .rfl
def UH{p:List Chg}{d:List Cel}{i j m q:Nat}(T:i<=m)(U:m<=j)(Z:j<=d.length)(V:m<=q)(X:(Ar d)[q]?=some 10)(I:∀k,m<=k->k<q->(Ar d)[k]?≠some 10) :
  NJ (JA ks p d i j m) m (min q j) (fun c=>⟨c.r,Bs c.set (CW ks false p)⟩)=JA ks p d i j (min (q+1) j):=by
 have hr:∀k,(Ar d)[k]?=d[k]?.map Cel.r:=fun k=>lP;refine mI fun k=>?_;rw[OV _ _ (by omega) (by rw[P1];omega),FK,FK];cases Y:d[k]? with
 |none=>simp
 |some c=>
  simp only[mo];have o:=hr k;rw[Y,mo] at o;by_cases h1:m<=k/\k<min q j
  .have B:c.r≠10:=fun e=>I k h1.1 (by omega) (by rw[o,e]);rw[DN h1,Bq (by omega),DN (by omega),DN (by omega)];congr 1
   simp only[HM,Bq B,Cg,MP,kX B]
  .rw[Bq h1];by_cases O:i<=k/\k<m
   .rw[DN O,DN (by omega)]
   .rw[Bq O];by_cases Q:i<=k/\k<min (q+1) j
    .have J:k=q:=by omega
     subst J;have he:c.r=10:=by rw[X] at o;exact(kW o).symm
     rw[DN (by omega),DN Q];simp only[HM,Cg,MP,he,lT,decide_true]
    .rw[Bq Q]
section
variable {w0:World}{F:Nat->Prop}{W:World}{a:TxA}{σ:SKs}{most:Int}{N:Nat}{d:List Cel}
def XZ{i j:Nat}{p:List Chg}(h:Gq .f w0 F W a σ most d N)(hT:Ee w0)(hG:J3 σ.ks d)(bb:σ.ks.length<=64)(o:i<=j)(Y:j<=d.length)(hp:Ey S W v p)(bc:∀x,S x->¬F x)(al:HO σ.ks p)
 (hz:d.length<=10000000)(hN:N+22*d.length+50<=1000000000) :
  AB prog 43 [.pointer (some ⟨a.b,0,none⟩),zI (i:Int),zI (j:Int),v] (fun v' w'=>v'=.tuple #[]/\KF .f w0 F W w' a σ most (NJ d i j (Cg σ.ks p)) (N+22*d.length+50)) W:=by
 have Z:(Ar d).length=d.length:=Iq _;have bd:=al.1.2.1;have ef:=h.hl;apply fV;refine AV (fun _ W1=>KF .f w0 F W W1 a σ most (JA σ.ks p d i j i) (N+d.length+4)) ?_ ?_
 .rintro _ W1 ⟨F1,f1,h1,M1⟩ _;have bk:Ey (fun x=>S x/\x<W.heap.size) W1 v p:=BB.mod (hp.GN (by decide)) M1 (fun x _ B e=>bc x B.1 e) (by decide) fun _ _ h=>h;refine AI ?_;refine Bh (h1.box.1.cells 0 _ rfl) ?_;refine AA (Jv (b:=false) h1.JO.1 bk (by omega)) ?_;rintro iv W2 ⟨bl,g2⟩;have h2:=h1.grow g2;have z1:=M1.size;have z2:=g2.size;have a1:=h1.hl;have a6:=bl.GN (by decide);obtain⟨va,vc,bn,_⟩:=a6.shape;have Q:Ac iv=Ac (.slice va (CW σ.ks false p).length vc):=by rw[bn]
  have M2:Mod F W W2:=M1.next g2 fun _ _ e=>e.elim;have a7:=al.part false;have bs:∀x,F1 x->F x\/W.heap.size<=x:=f1;refine AX (fun vs W'=>∃m F',i<=m/\m<=d.length/\vs=[zI (m:Int)]/\(∀x,F' x->F1 x\/W2.heap.size<=x)/\Gq .f w0 F' W' a σ most (JA σ.ks p d i j (min m j)) (N+d.length+4+21*(min m j-i))/\Mod F1 W2 W'/\(m<=j\/True)) (fun vs _=>d.length+1-De vs 0)
   ⟨i,F1,Mp _,by omega,rfl,fun _ h=>.inl h,by rw[lA o,ot];exact h2,Mod.refl _ _,.inr trivial⟩ ?_
  rintro vs W3 ⟨m,F3,bx,eh,rfl,f3,T,M3,_⟩ _;simp only[Bl,Nr];have z3:=M3.size;have fin:min m j=j\/CW σ.ks false p=[]->KF .f w0 F W W3 a σ most (NJ d i j (Cg σ.ks p)) (N+22*d.length+50):=fun e=>by
   have ed:JA σ.ks p d i j (min m j)=NJ d i j (Cg σ.ks p):=by
    rcases e with e|e
    .rw[e,Nw _ _ _ o Y]
    .rw[<-Nw _ _ _ o Y];refine mI fun k=>?_;rw[FK,FK];congr 1
     funext c
     have c4:HM σ.ks p c=Cg σ.ks p c:=by
      unfold HM Cg MP;by_cases hc:c.r=10
      .rw[DN hc,hc];rfl
      .rw[Bq hc,kX hc,e];rfl
     rw[c4];by_cases q1:i<=k/\k<j
     .rw[DN q1,DN q1];split<;>rfl
     .rw[Bq q1,Bq q1,Bq (by omega)]
   rw[ed] at T;exact KF.next bs M2 ((KF.up ⟨F3,f3,T,M3⟩ (by omega)))
  refine AV (fun _ W'=>W'=W3/\m<j) ?_ ?_;rotate_left
  .rw[Q,AP,BL];refine AF (fun c6=>?_) fun c7=>?_
   .rw[Am];refine AF (fun ay=>⟨rfl,by omega⟩) fun c8=>⟨trivial,fin (.inl (by omega))⟩
   .exact⟨trivial,fin (.inr (QC (by omega)))⟩
  rintro _ _ ⟨rfl,ej⟩ _;rename World=>W3
  have b0:min m j=m:=by omega
  rw[b0] at T;generalize hD:JA σ.ks p d i j m=D at T;have ek:D.length=d.length:=by rw[<-hD,P1]
  have an:Ar D=Ar d:=by rw[<-hD,YG]
  have gd:Grow W3 W3.drew:=Mod.drew _ _;have av:=T.grow gd;obtain⟨l1,Fr,bt,J,hO⟩:=av.Hi;have c9:(Bg l1).length=d.length:=by rw[J,an,Z]
  obtain⟨q,n1,n2,n3,n4,n5,n6,n7⟩:=ae (rs:=Ar d) (p:=m) (by omega) hG.last;refine Af (fun _ _=>False) ?_;refine AI ?_;rw[AG,AH];refine AU ⟨av.box.1.cells 2 _ rfl,fun j Y e=>e⟩ ?_;refine AA (HE av.box.1 hO (i:=m) (by omega) (by omega)) ?_;rintro _ W4 ⟨rfl,g4⟩;refine⟨g4.mono fun _ _ h=>h.elim,?_⟩;have ea:=Dl (Ar d);rw[J,an,AQ,wrap64 (by omega) (by omega),show((BX ((Ar d).take m):Int)+1)=((BX ((Ar d).take m)+1:Nat):Int) by omega];refine AA (K6 (hO.grow g4) (k:=BX ((Ar d).take m)+1) (by omega)) ?_;rintro _ W5 ⟨rfl,g5⟩;refine⟨g5.mono fun _ _ h=>h.elim,?_⟩;have b1:MV (Bg l1) (BX ((Ar d).take m)+1)=.tuple #[zI ((q+1:Nat):Int),zI 0]:=by
   rw[J,an];unfold MV;rw[Bq (by omega),Bq (by omega),pH,n1]
  rw[b1];refine BO ?_;have ca:(if(j:Int)<((q+1:Nat):Int)-1 then(j:Int) else((q+1:Nat):Int)-1)=((min q j:Nat):Int):=by split<;>omega
  rw[Aq,wrap64 (by omega) (by omega),HU,ca,Am];have O:=(gd.trans g4).trans g5;have en:=O.size;have step:=UH (ks:=σ.ks) (p:=p) bx (by omega) Y n2 n4 n5;have ec:=T.hl;have cc:min (q+1) j=(if q<j then q+1 else j):=by split<;>omega
  refine AF (fun ay=>?_) fun c8=>?_
  .have cd:Ey (fun x=>W1.heap.size<=x/\x < W2.heap.size) W5 iv (CW σ.ks false p):=BB.grow (BB.mod a6 M3 (fun x _ B e=>by have:=(a1 x e).2.1;omega) (by decide) fun _ _ h=>h) O (by decide) fun _ _ h=>h;refine AA (Rw (i:=m) (j:=min q j) (T.grow O) hT (by omega) (by omega) cd (fun x B e=>by
     rcases f3 x e with e|e
     .have:=(a1 x e).2.1;omega
     .omega) a7.1.2.1 (fun c hc=>?_) (by omega) (by omega)) ?_
   .obtain⟨k,hk⟩:=mO.1 hc;have ch:=(Ad.1 hk).1;rw[I3,Lc] at ch;rw[ly,mE,DN (by omega),<-hD,FK] at hk;cases U:d[m+k]? with
    |none=>rw[U] at hk;simp at hk
    |some c0=>
     rw[U,mo,Bq (by omega),DN (by omega)] at hk;have b2:c0.r≠10:=fun e=>n5 (m+k) (by omega) (by omega) (by rw[Ar,lP,U,mo,e]);have cn:c=c0:=by have:=kW hk;rw[<-this,HM,Bq b2]
     subst cn;have hs:=(hG.set c (lS U)).app bb a7;exact⟨b2,EN.2 hs.1,hs.2⟩
   rintro _ W6 ⟨rfl,F6,f6,h6,M6⟩;have e6:D.take m++((D.take (min q j)).drop m).map (fun c=>(⟨c.r,Bs c.set (CW σ.ks false p)⟩:Cel))++D.drop (min q j)=JA σ.ks p d i j (min (q+1) j):=by rw[<-hD];exact step
   rw[e6] at h6;refine⟨⟨q+1,F6,by omega,by omega,rfl,fun x B=>?_,h6.up (by omega),?_,.inr trivial⟩,by rw[CH,CH];omega⟩
   .rcases f6 x B with e|e
    .exact f3 x e
    .exact .inr (by omega)
   .refine(M3.next O fun _ _ e=>e.elim).next M6 fun x B e=>?_;rcases f3 x e with e|e
    .exact e
    .omega
  .have cv:q=m:=by omega
   have e6:D=JA σ.ks p d i j (min (q+1) j):=by
    rw[<-step,cv,lA (by omega),hD];refine(Xe _ _ (Mp _) fun c hc=>?_).symm;simp at hc
   rw[e6] at T;refine⟨⟨q+1,F3,by omega,by omega,rfl,f3,(T.grow O).up (by omega),M3.next O fun _ _ e=>e.elim,.inr trivial⟩,by rw[CH,CH];omega⟩
 .refine AI ?_;refine Bh (h.box.1.cells 0 _ rfl) ?_;refine AA (Jv (b:=true) h.JO.1 hp (by omega)) ?_;rintro bv W1 ⟨b6,g1⟩;have h1:=h.grow g1;have cx:=al.part true;obtain⟨va,vc,da,_⟩:=b6.shape;have Q:Ac bv=Ac (.slice va (CW σ.ks true p).length vc):=by rw[da]
  rw[Q,AP,BL];refine AF (fun c6=>?_) fun c7=>?_;rotate_left
  .have e0:CW σ.ks true p=[]:=QC (by omega);have ed:JA σ.ks p d i j i=d:=by
    rw[Nt _ _ _ o Y];refine Xe d _ o fun c hc=>?_;unfold HM;rw[e0];split
    .rename_i b7;rw[<-b7];rfl
    .rfl
   rw[ed];exact⟨F,fun _ h=>.inl h,h1.up (by omega),g1.mono fun _ _ h=>h.elim⟩
  have gd:Grow W1 W1.drew:=Mod.drew _ _;have V:=h1.grow gd;obtain⟨l1,Fr,bt,J,hO⟩:=V.Hi;have c9:(Bg l1).length=d.length:=by rw[J,Z]
  refine Af (fun q y=>q=11/\F y) ?_;refine AI ?_;rw [AG,AH];refine AU ⟨V.box.1.cells 4 _ rfl,fun j Y e=>by obtain ⟨rfl,_⟩:=e;exact absurd Y (by decide)⟩ ?_;refine AA (HE V.box.1 hO (i:=i) (by omega) (by omega)) ?_;rintro _ W2 ⟨rfl,g2⟩;refine ⟨g2.mono fun _ _ h=>h.elim,?_⟩;have h2:=V.grow g2;refine AA (HE h2.box.1 (hO.grow g2) (i:=j) (by omega) (by omega)) ?_;rintro _ W3 ⟨rfl,g3⟩;refine ⟨g3.mono fun _ _ h=>h.elim,?_⟩;have b8:=(gd.trans g2).trans g3;have T:=h2.grow g3;obtain ⟨z,l2,t,f,dk,hM,dT,hu,hh,ax,bd⟩:=T;obtain ⟨Fp,Cp,bp,e3,e4,put⟩:=hM.WO;rw [J];have e5:BX ((Ar d).take i)<=BX ((Ar d).take j):=mr _ (by
   rw [<-lA o,<-mf];exact nU _ _)
  have e7:BX ((Ar d).take j)<=BX (Ar d):=mr _ (nU _ _);have eo:=Dl (Ar d);have b9:∀x∈CK d,x.length<=64:=fun x B=>by
   obtain⟨c,hc,rfl⟩:=kT.1 B;exact(hG.set c (lx.1 hc).1).len
  have e8:=BB.grow b6 b8 (by decide) fun _ _ h=>h;have ee:=cx.1.2.1;refine AA (Xl e3 (by omega) e5 (by rw [EM];exact e7) (by rw [EM];omega) (fun x B=>by have:=b9 x B;omega) e8 (fun x B=>by have:=b9 x B;omega)) ?_;rintro _ W4 ⟨rfl,ep,er,_,_,k3,k4,k5,m4⟩;rw [EM] at k5;obtain ⟨F4,f4,ba,M4⟩:=put m4 (fun x B=>by
   rcases B with B|B
   .exact(k3 x B).imp .inl fun h=>h
   .exact (k4 x B).imp .inr fun h=>h) k5 (by omega)
  refine⟨m4.mono fun x _ B=>⟨rfl,e4 x (.inl B)⟩,?_⟩;have a8:=XS d o (HM σ.ks p) (g':=fun x=>Bs x (CW σ.ks true p)) (L3 σ.ks p) (fun c hc=>by unfold HM;rw[DN hc]);rw[<-a8] at ba;have ak:=Vg d (HM σ.ks p) o (L3 σ.ks p);rw[Nt _ _ _ o Y];refine KF.step (g1.trans b8) ⟨F4,f4,⟨z.take i++((z.take j).drop i).map (fun q=>(HM σ.ks p q.1,q.2))++z.drop j,l2,t,f,?_,?_,dT,?_,hh.congr fun x=>?_,fun q X=>?_,by omega⟩,M4⟩
  .clear a8 ak;subst dk;unfold NJ;simp only[Ty,mz,lu,mB,Function.comp_def]
  .rw[ak];obtain⟨own,G,l4,e1,I⟩:=ba;have hn:BX (Ar d)<=d.length:=by omega
   exact⟨own,G,l4,e1,I.box,I.Hi.up (by omega),I.EX.up (by omega),I.para.up (by omega),I.Qs,I.JO,I.cb,I.cr,I.cs,I.cp,I.ct,I.cS,I.lo,I.hl,I.g⟩
  .have e1:(z.take i++((z.take j).drop i).map (fun q:Cel×Int=>(HM σ.ks p q.1,q.2))++z.drop j).map Prod.snd=z.map Prod.snd:=by
    have h1:=(S6 i (z.take j)).symm;rw[mf,lA o] at h1;conv=>rhs;rw[<-S6 j z,h1]
    simp only[Ty,mz];rfl
   rw[e1,hu]
  .have e1:(z.take i++((z.take j).drop i).map (fun q:Cel×Int=>(HM σ.ks p q.1,q.2))++z.drop j).map Prod.snd=z.map Prod.snd:=by
    have h1:=(S6 i (z.take j)).symm;rw[mf,lA o] at h1;conv=>rhs;rw[<-S6 j z,h1]
    simp only[Ty,mz];rfl
   rw[e1]
  .rcases C3.1 X with X|X
   .rcases C3.1 X with X|X
    .exact ax q (i7 X)
    .obtain⟨q0,e9,rfl⟩:=kT.1 X;obtain⟨o1,o2⟩:=ax q0 (i7 (iV e9));refine⟨fun e=>o1 (by rw[<-L3 σ.ks p];exact e),fun e=>?_⟩;have e':q0.1.r≠10:=by rw[<-L3 σ.ks p];exact e
     show f q0.2=(HM σ.ks p q0.1).set;rw[o2 e',HM,Bq e']
   .exact ax q (iV X)
end
def Tq{r:Int}:AB prog 249 [.int .i32 r] (fun v' w'=>v'=.bool (decide (Dz r))/\w'=w) w:=by
 apply ZK;have key:∀{b:Bool},(b=true↔Dz r)->Value.bool b=.bool (decide (Dz r))/\w=w:=fun h=>⟨by congr 1;rw[nW,h,TC],rfl⟩;unfold Dz at key ⊢;rw[IG];refine AF (fun h0=>?_) fun h0=>?_
 .rw[Am];refine AF (fun h1=>key (by simp;omega)) fun h1=>?_;rw[Am];refine AF (fun i=>?_) fun i=>key (by simp;omega);rw[IG];exact AF (fun j=>key (by simp;omega)) fun j=>key (by simp;omega)
 .rw[Am];refine AF (fun i=>?_) fun i=>key (by simp;omega);rw[IG];exact AF (fun j=>key (by simp;omega)) fun j=>key (by simp;omega)
def QI{r:Int}:AB prog 194 [.int .i32 r] (fun v' w'=>v'=.bool (decide (Dz r))/\w'=w) w:=by
 apply bP;exact Tq
def T0{l:List Int}(h:LI S w v l) :
  AB prog 224 [v,.func (.func 280) #[] #[]] (fun v' w'=>v'=.bool (!decide (∀r∈l,Dz r))/\w'=w) w:=by
 apply Sw;refine AA (K:=fun v' w'=>w'=w/\((v'=zI (-1)/\∀r∈l,Dz r)\/∃i:Nat,v'=zI i/\¬∀r∈l,Dz r)) ?_ ?_
 .apply Sa;obtain⟨a,c,rfl,hm⟩:=h.shape;simp only[maxLen] at hm;rw[AP];refine AX (fun vs W=>∃i:Nat,i<=l.length/\vs=[zI i]/\W=w/\∀c∈l.take i,Dz c) (fun vs _=>l.length-De vs 0) ⟨0,Nn _,rfl,rfl,by simp⟩ ?_;rintro vs _ ⟨i,hi,rfl,rfl,j⟩ _;rename World=>w
  rw[Bl,Nr,Am];refine AF (fun B=>?_) fun I=>?_
  .have m:i<l.length:=by omega
   obtain⟨q,r,rfl,_,hr,hc,rfl⟩:=h.get m;refine AT m (AL (by have:=hc 0 _ rfl;exact this) ?_);refine Gu (by kernel_rfl) ?_;apply Zk;refine AA QI ?_;rintro _ _ ⟨rfl,rfl⟩;rename World=>w
   rw[An];by_cases o:Dz l[i]
   .rw[lH o];refine AS ?_;rw[AQ,AO (by omega)];refine⟨⟨i+1,m,rfl,rfl,fun c hc=>?_⟩,by rw[CH,CH];omega⟩;rw[No,By m] at hc;rcases C3.1 hc with hc|hc
    .exact j c hc
    .simp at hc;subst hc;exact o
   .rw[kX o];exact Ak ⟨rfl,.inr ⟨i,rfl,fun j=>o (j _ (WJ m))⟩⟩
  .have:i=l.length:=by omega
   subst this;exact⟨rfl,.inl ⟨rfl,fun c hc=>j c (by rw[PF];exact hc)⟩⟩
 .rintro _ _ ⟨rfl,⟨rfl,j⟩|⟨i,rfl,J⟩⟩
  .rw[DW];exact⟨by rw[lH j];rfl,rfl⟩
  .rw[DW];exact⟨by rw[kX J,lH (by omega:(i:Int) ≥ 0)];rfl,rfl⟩
def Kw(o:Dop):Prop:=(o.kind=1/\o.Ag=[]/\o.set=[])\/(o.kind=3/\o.Ag=[]/\o.set=[]/\o.patch=[])\/(o.kind=2/\o.n=0/\o.patch=[]/\∀r∈o.Ag,Dz r)
instance (o:Dop):Decidable (Kw o):=by unfold Kw;infer_instance
def Ib(o:Dop):FV o↔Kw o/\1<=L5 o/\L5 o<=536870912:=by
 unfold FV Kw L5;constructor
 .rintro(⟨h1,i,j,q,m⟩|⟨h1,i,j,q,m,B⟩|⟨h1,i,j,q,m,B⟩)
  .exact⟨.inl ⟨h1,i,j⟩,by rw[h1,Bq (by decide)];exact q,by rw[h1,Bq (by decide)];exact m⟩
  .exact⟨.inr (.inl ⟨h1,i,j,q⟩),by rw[h1,Bq (by decide)];exact m,by rw[h1,Bq (by decide)];exact B⟩
  .exact⟨.inr (.inr ⟨h1,j,q,i⟩),by rw[DN h1];omega,by rw[DN h1];omega⟩
 .rintro⟨⟨h1,i,j⟩|⟨h1,i,j,q⟩|⟨h1,i,j,q⟩,m,B⟩
  .rw[h1,Bq (by decide)] at m B;exact .inl ⟨h1,i,j,m,B⟩
  .rw[h1,Bq (by decide)] at m B;exact .inr (.inl ⟨h1,i,j,q,m,B⟩)
  .rw[DN h1] at m B;exact .inr (.inr ⟨h1,q,i,j,by omega,by omega⟩)
def Us{D:Nat->Prop}{r:List Value}{o:Dop}(h:Cb D w r o) :
  AB prog 239 [.agg r.toArray] (fun v w'=>v=.bool (decide (Kw o))/\Grow w w') w:=by
 apply Zn;have O:=h.one;obtain⟨X,sv,Y,rfl,h1,Q,T⟩:=h;refine DZ fun b j _ Z g hc _=>?_;have q:=h1.grow g (by decide) fun _ _ h=>h;obtain⟨a1,c1,rfl,m1⟩:=h1.shape;obtain⟨a2,c2,rfl,m2⟩:=Q.shape;obtain⟨a3,c3,rfl,m3⟩:=T.shape;have key:∀{x:Bool},(x=true↔Kw o)->Value.bool x=.bool (decide (Kw o))/\Grow w j:=fun h=>⟨by congr 1;rw[nW,h,TC],g⟩;unfold Kw at key ⊢;refine AV (fun vs w2=>w2=j/\vs=[.bool (decide (¬(o.Ag=[]/\o.set=[])))]) ?_ ?_;rotate_left
 .rw[AG];refine AL (hc 2 _ rfl) ?_;rw[AP,BL];refine AF (fun e=>?_) fun e=>?_
  .refine⟨rfl,?_⟩;rw[lH];rintro⟨U,_⟩;rw[U] at e;simp at e
  .have V:o.Ag=[]:=QC (by omega);rw[AG];refine AL (hc 3 _ rfl) ?_;rw[AP,BL];refine⟨rfl,?_⟩;congr 2
   rw[pd];constructor
   .rintro m ⟨_,B⟩;rw[B] at m;simp at m
   .intro m;have:o.set≠[]:=fun B=>m ⟨V,B⟩;have:=lh.2 this;omega
 rintro _ _ ⟨rfl,rfl⟩ _;rename World=>j
 rw[Bl,Nr,AG];refine AL (hc 0 _ rfl) ?_;rw[Aj];refine AF (fun k1=>?_) fun k1=>?_
 .rw[An];refine key ?_;simp only[k1,decide_not,qs,TC];constructor
  .exact fun h=>.inl ⟨trivial,h⟩
  .rintro(h|h|h)
   .exact h.2
   .omega
   .omega
 rw[Aj];refine AF (fun I=>?_) fun I=>?_
 .rw[An];by_cases i:o.Ag=[]/\o.set=[]
  .rw[show(!decide ¬(o.Ag=[]/\o.set=[]))=true by simp[i]];refine Ak ?_;rw[AG];refine AL (hc 4 _ rfl) ?_;rw[AP,Aj];refine key ?_;rw[TC,Rx];constructor
   .exact fun h=>.inr (.inl ⟨I,i.1,i.2,h⟩)
   .rintro(h|h|h)
    .omega
    .exact h.2.2.2
    .omega
  .rw[show(!decide ¬(o.Ag=[]/\o.set=[]))=false by simp[i]];refine AS (key ?_);simp only[nA,rN];rintro(h|h|h)
   .omega
   .exact i ⟨h.2.1,h.2.2.1⟩
   .omega
 rw [Aj];refine AF (fun k2=>?_) fun k2=>key (by simp only [nA,rN];rintro (h | h | h) <;> omega);rw [AG];refine AL (hc 1 _ rfl) ?_;rw [Aj];refine AF (fun J=>?_) fun J=>key (by simp only [nA,rN];rintro (h | h | h) <;> omega);rw [AG];refine AL (hc 4 _ rfl) ?_;rw [AP,Aj];refine AF (fun hp=>?_) fun hp=>key (by
  simp only[nA,rN];rintro(h|h|h)
  .omega
  .omega
  .exact hp (Rx.2 h.2.2.1))
 rw[Rx] at hp;rw[AG];refine AL (hc 2 _ rfl) ?_;refine AA (T0 q) ?_;rintro _ _ ⟨rfl,rfl⟩;rename World=>j
 rw[An,qs];refine key ?_;rw[TC];constructor
 .exact fun h=>.inr (.inr ⟨k2,J,hp,h⟩)
 .rintro(h|h|h)
  .omega
  .omega
  .exact h.2.2.2
def L0{D:Nat->Prop}{r:List Value}{o:Dop}(h:Cb D w r o) :
  AB prog 155 [.agg r.toArray] (fun v w'=>v=zI (L5 o)/\Grow w w') w:=by
 apply Y1;obtain⟨i,sv,j,rfl,h1,m,q⟩:=h;obtain⟨B,c1,rfl,I⟩:=h1.shape;refine DZ fun b J _ O g hc _=>?_;rw[AG];refine AL (hc 0 _ rfl) ?_;rw[Aj];refine AF (fun k1=>?_) fun k1=>?_
 .rw[AG];refine AL (hc 2 _ rfl) ?_;rw[AP];exact⟨by rw[L5,DN k1],g⟩
 .rw[AG];refine AL (hc 1 _ rfl) ?_;exact⟨by rw[L5,Bq k1],g⟩
def KU{S D:Nat->Prop}{x:List Dop}(h:BE S D w v x) :
  AB prog 81 [v] (fun v' w'=>v'=zI (Cj Bt x)/\Grow w w') w:=by
 apply gG;obtain⟨a,c,rfl,hm⟩:=h.shape;simp only[maxLen] at hm;rw[AP];refine AX (fun vs B=>∃k:Nat,k<=x.length/\vs=[zI (Cj Bt (x.take k)),zI k]/\Grow w B) (fun vs _=>x.length-De vs 1) ⟨0,Nn _,rfl,Mod.refl _ _⟩ ?_;rintro vs B ⟨k,hk,rfl,g⟩ _;simp only[GC];refine Hj (fun J=>?_) fun O=>?_
 .have i:k<x.length:=by omega
  obtain⟨p,r,rfl,Q,hr,hc,m⟩:=(BE.grow h g).get i;refine AT i (Ah hr (fun j u hu=>by rw[Addr.add_add];exact hc j u hu) ?_);refine BQ hr rfl m.one fun b w2 hb T I o _=>?_;obtain⟨U,sv,V,rfl,h1,X,Y⟩:=m;rw[AG];refine AL (o 0 _ rfl) ?_;rw[Bk];refine AY (fun e=>?_) fun e=>?_
  .rw[AQ,AO (by omega)];refine⟨⟨k+1,i,?_,g.trans I⟩,by rw[BD,BD];omega⟩;rw[Fi i,Bt,DN e,rS];have:IntKind.i64.wrap (Cj Bt (x.take k))=Cj Bt (x.take k):=by
    by_cases h0:k=0
    .subst h0;simp[Cj];rfl
    .obtain⟨q,rfl⟩:∃q,k=q+1:=⟨k-1,by omega⟩;rw[Fi (by omega)];have:=La (Cj Bt (x.take q)+Bt x[q]);rw[wrap64 (by omega) (by omega)]
   rw[this]
  .rw[AG];refine AL (o 1 _ rfl) ?_;rw[AQ,AQ,AO (by omega)];refine⟨⟨k+1,i,?_,g.trans I⟩,by rw[BD,BD];omega⟩;rw[Fi i,Bt,Bq e]
 .have:k=x.length:=by omega
  subst this;rw[PF];exact⟨rfl,g⟩
def N1{S D:Nat->Prop}{x:List Dop}(h:BE S D w v x) :
  AB prog 84 [v] (fun v' w'=>v'=zI (Cj CD x)/\Grow w w') w:=by
 apply iD;obtain⟨a,c,rfl,hm⟩:=h.shape;simp only[maxLen] at hm;rw[AP];refine AX (fun vs J=>∃k:Nat,k<=x.length/\vs=[zI (Cj CD (x.take k)),zI k]/\Grow w J) (fun vs _=>x.length-De vs 1) ⟨0,Nn _,rfl,Mod.refl _ _⟩ ?_;rintro vs J ⟨k,hk,rfl,g⟩ _;simp only[GC];refine Hj (fun O=>?_) fun Q=>?_
 .have i:k<x.length:=by omega
  obtain⟨p,r,rfl,U,hr,hc,m⟩:=(BE.grow h g).get i;refine AT i (Ah hr (fun j u hu=>by rw[Addr.add_add];exact hc j u hu) ?_);refine BQ hr rfl m.one fun b w2 hb V I o _=>?_;have q:=m.mod (D':=D) I (fun _ _ _ h=>h) fun _ _ h=>h;obtain⟨X,sv,Y,rfl,h1,Z,h3⟩:=id m;rw[AG];refine AL (o 0 _ rfl) ?_;rw[Bk];refine AY (fun e=>?_) fun e=>?_
  .rw[AQ,AO (by omega)];refine⟨⟨k+1,i,?_,g.trans I⟩,by rw[BD,BD];omega⟩;rw[Fi i,CD,DN e,rS];have:IntKind.i64.wrap (Cj CD (x.take k))=Cj CD (x.take k):=by
    by_cases h0:k=0
    .subst h0;simp[Cj];rfl
    .obtain⟨B,rfl⟩:∃B,k=B+1:=⟨k-1,by omega⟩;rw[Fi (by omega)];have:=La (Cj CD (x.take B)+CD x[B]);rw[wrap64 (by omega) (by omega)]
   rw[this]
  .refine Ah hr o ?_;refine AA (L0 q) ?_;rintro _ w3 ⟨rfl,T⟩;rw[AQ,AQ,AO (by omega)];refine⟨⟨k+1,i,?_,(g.trans I).trans T⟩,by rw[BD,BD];omega⟩;rw[Fi i,CD,Bq e]
 .have:k=x.length:=by omega
  subst this;rw[PF];exact⟨rfl,g⟩
def Ot{p q:Prop}[Decidable p][Decidable q]{a b:α}(h:p↔q):(if p then a else b)=if q then a else b:=by
 by_cases hp:p
 .rw[DN hp,DN (h.1 hp)]
 .rw[Bq hp,Bq fun i=>hp (h.2 i)]
def RA(c:Chg):Prop:=(c.gone=true/\c.val≠A6.zero)\/(c.gone=false/\¬DH c.val)
def cI(ks:List DKey)(c:Chg):Prop:=Bf ks c.key=none\/(c.gone=false/\¬Gm ks c.key c.val)
set_option maxRecDepth 20000 in
open Classical in
def V3{D S:Nat->Prop}{p:List Chg}(hS:Ci D w sv ks)(h:Ey S w v p)(hT:Ee w)(hI:∀c∈p,0<=c.val.f) :
  AB prog 240 [sv,v] (fun v' w'=>v'=zI (Db ks p)/\Grow w w') w:=by
 apply aB;obtain⟨a,c,rfl,hm⟩:=h.shape;simp only[maxLen] at hm;have ak:∀w',Grow w w'->Lj p->zI 3=zI (Db ks p)/\Grow w w':=fun w' g hb=>⟨by rw[Db,DN hb],g⟩;rw[AP,BL];refine AF (fun h6=>ak _ (Mod.refl _ _) (.inr (.inl (by omega)))) fun h6=>?_;rw[AP];refine AX (fun vs W=>∃i:Nat,i<=p.length/\vs=[zI (if HC ks (p.take i) then 4 else 0),zI i]/\Grow w W/\(∀a∈p.take i,¬RA a)/\NC Chg.key p i) (fun vs _=>p.length-De vs 1)
  ⟨0,Nn _,by rw[Bq (by rintro⟨a,ha,_⟩;simp at ha)];rfl,Mod.refl _ _,by simp,fun j hj=>by omega⟩ ?_
 rintro vs W ⟨i,hi,rfl,g,hv,a6⟩ _;simp only[GC];refine Hj (fun b0=>?_) fun a7=>?_;rotate_left
 .have:i=p.length:=by omega
  subst this;rw[PF] at hv ⊢;refine⟨?_,g⟩;have I:¬Lj p:=by
   rintro(Q|Q|⟨c,hc,Q⟩)
   .exact Q a6
   .omega
   .exact hv c hc Q
  unfold Db;rw[Bq I]
 have m:i<p.length:=by omega
 have T:=WJ m;have al:=hI p[i] T;have e1:p.take (i+1)=p.take i++[p[i]]:=by rw[No,By m];rfl
 have U:HC ks (p.take (i+1))↔HC ks (p.take i)\/cI ks p[i]:=by
  unfold HC cI;rw[e1];constructor
  .rintro⟨a,ha,Q⟩;rcases C3.1 ha with ha|ha
   .exact .inl ⟨a,ha,Q⟩
   .simp at ha;subst ha;exact .inr Q
  .rintro(⟨a,ha,Q⟩|Q)
   .exact⟨a,jS _ ha,Q⟩
   .exact⟨p[i],kI _ (P9.2 rfl),Q⟩
 refine AV (fun vs W2=>Grow w W2/\vs=[zI (if HC ks (p.take (i+1)) then 4 else 0)]/\¬RA p[i]/\NC Chg.key p (i+1)) ?_ ?_
 .rintro vs W2 ⟨g2,rfl,I,hr⟩ _;simp only[GC];rw[AQ,AO (by omega)];refine⟨⟨i+1,m,rfl,g2,fun a ha=>?_,hr⟩,by rw[BD,BD];omega⟩;rw[e1] at ha;rcases C3.1 ha with ha|ha
  .exact hv a ha
  .simp at ha;subst ha;exact I
 obtain⟨q,r,rfl,_,hr,hc,rfl⟩:=(h.grow g (by decide) fun _ _ h=>h).get m;refine AT m (Ah hr (fun j u hu=>by rw[Addr.add_add];exact hc j u hu) ?_);refine BQ (vs:=p[i].cells) rfl rfl (Eh.one (w:=w) (x:=p[i]) rfl) fun b7 W1 b1 b2 g7 an _=>?_;rw[AG];refine AL (an 0 _ rfl) ?_;refine AA (Jr (hS.grow (g.trans g7)) p[i].key) ?_;rintro _ W2 ⟨rfl,g2⟩;refine BO ?_;refine BQ (vs:=((Bf ks p[i].key).getD DKey.zero).cells) rfl rfl (Gi.one (w:=W2) (x:=(Bf ks p[i].key).getD DKey.zero) rfl) fun b8 W3 b6 b9 g3 _ _=>?_;have B:=((g.trans g7).trans g2).trans g3;have V:∀j u,p[i].cells[j]?=some u->W3.cell? ((⟨b7,0,none⟩:Addr).add j)=some u:=fun j u hu=>(g2.trans g3).cell (an j u hu) fun h=>h;have X:p[i].cells[1]?=some (.bool p[i].gone):=rfl;have a8:∀j u,p[i].val.cells[j]?=some u->p[i].cells[2+j]?=some u:=fun j u hu=>by rw[pQ];exact hu
 refine AV (fun vs W4=>Grow W3 W4/\((vs=[.bool true]/\Lj p)\/(vs=[.bool false]/\¬RA p[i]/\NC Chg.key p (i+1)))) ?_ ?_
 .rintro vs W4 ⟨o,⟨rfl,hb⟩|⟨rfl,I,J⟩⟩ _
  .exact Ak (ak _ (B.trans o) hb)
  refine AS ?_;rw[An];cases hk:Bf ks p[i].key with
  |none=>
   refine Ak ⟨B.trans o,?_,I,J⟩;rw[DN (U.2 (.inr (.inl hk)))]
  |some k=>
   refine AS ?_;rw[AG];refine AL (o.cell (V 1 _ X) fun h=>h) ?_;rw[An];cases Y:p[i].gone with
   |true=>
    refine AS ⟨B.trans o,?_,I,J⟩;congr 2
    refine Ot ?_;rw[U];constructor
    .exact .inl
    .rintro(h|h|h)
     .exact h
     .rw[hk] at h;cases h
     .rw[Y] at h;cases h.1
   |false=>
    refine Ak ?_;rw[AG];refine AL (o.cell (V 0 _ rfl) fun h=>h) ?_;rw[AG];refine Ah (vs:=p[i].val.cells) rfl (fun j u hu=>o.cell (by rw[Addr.add_add];exact V (2+j) u (a8 j u hu)) fun h=>h) ?_;refine AA (PZ (hS.grow (B.trans o)) (hT.grow (B.trans o)) al) ?_;rintro _ W5 ⟨rfl,g5⟩;rw[An];by_cases O:Gm ks p[i].key p[i].val
    .rw[lH O];refine AS ⟨(B.trans o).trans g5,?_,I,J⟩;congr 2
     refine Ot ?_;rw[U];constructor
     .exact .inl
     .rintro(h|h|h)
      .exact h
      .rw[hk] at h;cases h
      .exact(h.2 O).elim
    .rw[kX O];refine Ak ⟨(B.trans o).trans g5,?_,I,J⟩;rw[DN (U.2 (.inr (.inr ⟨Y,O⟩)))]
 refine AV (fun vs W4=>Grow W3 W4/\((vs=[.bool true]/\Lj p)\/(vs=[.bool false]/\NC Chg.key p (i+1)))) ?_ ?_
 .rintro vs W4 ⟨o,⟨rfl,hb⟩|⟨rfl,J⟩⟩ _
  .exact Ak ⟨o,.inl ⟨rfl,hb⟩⟩
  refine AS ?_;rw[AG];refine AL (o.cell (V 1 _ X) fun h=>h) ?_;cases Y:p[i].gone with
  |true=>
   refine Ak ?_;rw[AG];refine Ah (vs:=p[i].val.cells) rfl (fun j u hu=>o.cell (by rw[Addr.add_add];exact V (2+j) u (a8 j u hu)) fun h=>h) ?_;refine⟨A6.zero.cells.toArray,by kernel_rfl,?_⟩;refine Ae (Lv _ _ p[i].val A6.zero W4) ?_;by_cases hz:p[i].val=A6.zero
   .rw[lH hz];refine AS ?_;rw[AG];refine AL (o.cell (V 1 _ X) fun h=>h) ?_;rw[An,Y];refine AS ⟨o,.inr ⟨rfl,?_,J⟩⟩;rintro(h|h)
    .exact h.2 hz
    .rw[Y] at h;cases h.1
   .rw[kX hz];exact Ak ⟨o,.inl ⟨rfl,.inr (.inr ⟨p[i],T,.inl ⟨Y,hz⟩⟩)⟩⟩
  |false=>
   refine AS ?_;rw[AG];refine AL (o.cell (V 1 _ X) fun h=>h) ?_;rw[An,Y];refine Ak ?_;rw[AG];refine Ah (vs:=p[i].val.cells) rfl (fun j u hu=>o.cell (by rw[Addr.add_add];exact V (2+j) u (a8 j u hu)) fun h=>h) ?_;refine AA (OO (hT.grow (B.trans o)) al) ?_;rintro _ W5 ⟨rfl,g5⟩;rw[An];refine⟨o.trans g5,?_⟩;by_cases Z:DH p[i].val
   .refine .inr ⟨by rw[lH Z];rfl,?_,J⟩;rintro(h|h)
    .rw[Y] at h;cases h.1
    .exact h.2 Z
   .exact .inl ⟨by rw[kX Z];rfl,.inr (.inr ⟨p[i],T,.inr ⟨Y,Z⟩⟩)⟩
 refine Cx (fun W=>Grow W3 W) (Mod.drew _ _) ?_;rw[BL];refine AF (fun ax=>?_) fun ax W4 o=>⟨o,.inr ⟨rfl,fun j hj=>by omega⟩⟩;rw[Aq,wrap64 (by omega) (by omega),show((i:Int)-1)=((i-1:Nat):Int) by omega];have a1:i-1<p.length:=by omega
 obtain⟨_,r2,e2,_,ba,ay,rfl⟩:=(h.grow B (by decide) fun _ _ h=>h).get a1;cases e2;refine AT a1 ?_;rw[AG,Addr.add_add];refine Ay (fun W hW=>hW.cell (ay 0 _ rfl) fun h=>h) ?_;rw[AG];refine Ay (fun W hW=>hW.cell (V 0 _ rfl) fun h=>h) ?_;rw[DW];intro W4 o;by_cases a7:p[i-1].key ≥ p[i].key
 .rw[lH a7];refine⟨o,.inl ⟨rfl,.inl fun av=>?_⟩⟩;have:=av i (by omega) m _ _ (By a1) (By m);omega
 .rw[kX a7];refine⟨o,.inr ⟨rfl,fun j h1 h2 a b ha hb=>?_⟩⟩;by_cases e:j=i
  .subst e;rw[By a1] at ha;rw[By m] at hb;cases ha;cases hb;omega
  .exact a6 j h1 (by omega) a b ha hb
def jR(o:Dop):Prop:=(∀a∈o.set,0<=a.val.f)/\∀c∈o.patch,0<=c.val.f
open Classical in
noncomputable def Im(ks:List DKey)(o:Dop):Int:=if ¬FV o then 3 else if Bm ks o.set≠0 then Bm ks o.set else Db ks o.patch
open Classical in
def aK{E D:Nat->Prop}{r:List Value}{o:Dop}(T:Ci E w sv ks)(h:Cb D w r o)(U:Ee w)(V:jR o) :
  AB prog 153 [sv,.agg r.toArray] (fun v w'=>v=zI (Im ks o)/\Grow w w') w:=by
 apply ZC;refine DZ fun b X _ I g hc _=>?_;have q:r.length=5:=by obtain⟨_,_,_,rfl,_⟩:=h;rfl
 have h1:=h.mod (D':=D) g (fun _ _ _ h=>h) fun _ _ h=>h;refine AV (fun vs w2=>Grow X w2/\FV o) ?_ ?_
 .rintro vs w2 ⟨i,B⟩ _;obtain⟨rv,uv,pv,rfl,q1,Y,Z⟩:=h1.mod (D':=D) i (fun _ _ _ h=>h) fun _ _ h=>h;rw[AG];refine AL (i.cell (hc 3 _ rfl) fun h=>h) ?_;refine AA (LV (T.grow (g.trans i)) Y (U.grow (g.trans i)) V.1) ?_;rintro _ w3 ⟨rfl,m⟩;rw[Bk];have e0:Im ks o=if Bm ks o.set≠0 then Bm ks o.set else Db ks o.patch:=by rw[Im,Bq (qb B)]
  refine AY (fun I=>?_) fun I=>⟨by rw[e0,DN I],(g.trans i).trans m⟩;rw[AG];refine AL ((i.trans m).cell (hc 4 _ rfl) fun h=>h) ?_;refine AA (V3 (T.grow ((g.trans i).trans m)) (Z.grow m (by decide) fun _ _ h=>h) (U.grow ((g.trans i).trans m)) V.2) ?_;rintro _ w4 ⟨rfl,J⟩;exact⟨by rw[e0,Bq (qb I)],((g.trans i).trans m).trans J⟩
 have O:∀w',Grow X w'->¬FV o->zI 3=zI (Im ks o)/\Grow w w':=fun w' g' hn=>⟨by rw[Im,DN hn],g.trans g'⟩;refine Ah q hc ?_;refine AA (Us h1) ?_;rintro _ w2 ⟨rfl,i⟩;rw[An];refine AY (fun hp=>?_) fun hp=>O _ i fun B=>hp ((Ib o).1 B).1;refine Ah q (fun j u hu=>i.cell (hc j u hu) fun h=>h) ?_;refine AA (L0 (h1.mod (D':=D) i (fun _ _ _ h=>h) fun _ _ h=>h)) ?_;rintro _ w3 ⟨rfl,m⟩;rw[Am];refine AF (fun hl=>O _ (i.trans m) fun B=>by have:=((Ib o).1 B).2.1;omega) fun hl=>?_;refine Ah q (fun j u hu=>(i.trans m).cell (hc j u hu) fun h=>h) ?_;refine AA (L0 (h1.mod (D':=D) (i.trans m) (fun _ _ _ h=>h) fun _ _ h=>h)) ?_;rintro _ w4 ⟨rfl,J⟩;rw[BL];refine AF (fun Q=>O _ ((i.trans m).trans J) fun B=>by have:=((Ib o).1 B).2.2;omega) fun Q=>⟨(i.trans m).trans J,(Ib o).2 ⟨hp,by omega,by omega⟩⟩
def Ms(ks:List DKey):Bm ks []=0:=EN.2 IH
def Rn(ks:List DKey):Db ks []=0:=Gn.2 IJ
def Vr(ks:List DKey)(l:List Attr):Bm ks l=0\/Bm ks l=3\/Bm ks l=4:=by
 unfold Bm;split
 .exact .inr (.inl rfl)
 .split
  .exact .inr (.inr rfl)
  .exact .inl rfl
def XQ(ks:List DKey)(l:List Chg):Db ks l=0\/Db ks l=3\/Db ks l=4:=by
 unfold Db;split
 .exact .inr (.inl rfl)
 .split
  .exact .inr (.inr rfl)
  .exact .inl rfl
def Xm(ks:List DKey)(o:Dop):(Im ks o=3↔¬FV o\/Bm ks o.set=3\/Db ks o.patch=3)/\(Im ks o=0\/Im ks o=3\/Im ks o=4)/\(Im ks o≠3->(Im ks o=0↔Bm ks o.set=0/\Db ks o.patch=0)):=by
 have v1:=Vr ks o.set;have v2:=XQ ks o.patch;by_cases i:FV o
 .have m:Bm ks o.set=0\/Db ks o.patch=0:=by
   rcases i with⟨_,_,h,_⟩|⟨_,_,h,_⟩|⟨_,_,_,h,_⟩
   .left;rw[h];exact Ms ks
   .left;rw[h];exact Ms ks
   .right;rw[h];exact Rn ks
  unfold Im;rw[Bq (qb i)];by_cases j:Bm ks o.set=0
  .rw[Bq (qb j)];exact⟨⟨fun h=>.inr (.inr h),fun h=>by rcases h with h|h|h;exact(h i).elim;omega;exact h⟩,v2,fun _=>⟨fun h=>⟨j,h⟩,fun h=>h.2⟩⟩
  .rw[DN j];refine⟨⟨fun h=>.inr (.inl h),fun h=>by rcases h with h|h|h;exact(h i).elim;exact h;omega⟩,v1,fun _=>⟨fun h=>⟨h,by omega⟩,fun h=>h.1⟩⟩
 .unfold Im;rw[DN i];exact⟨⟨fun _=>.inl i,fun _=>rfl⟩,.inr (.inl rfl),fun h=>(h rfl).elim⟩
open Classical in
def Pu{E S D:Nat->Prop}{x:List Dop}(hS:Ci E w sv ks)(h:BE S D w v x)(hT:Ee w)(hI:∀o∈x,jR o) :
  AB prog 80 [sv,v] (fun v' w'=>v'=zI (Cs ks x)/\Grow w w') w:=by
 apply gS;have q:=h;obtain⟨a,c,rfl,hm⟩:=h.shape;simp only[maxLen] at hm;have Q:∀w',Grow w w'->Qt ks x->zI 3=zI (Cs ks x)/\Grow w w':=fun w' g hb=>⟨by rw[Cs,DN hb],g⟩;rw[AP];refine AX (fun vs w1=>∃k:Nat,k<=x.length/\vs=[zI (if H8 ks (x.take k) then 4 else 0),zI k]/\Grow w w1/\∀o∈x.take k,Im ks o≠3) (fun vs _=>x.length-De vs 1)
  ⟨0,Nn _,by rw[Bq (by rintro⟨a,ha,_⟩;simp at ha)];rfl,Mod.refl _ _,by simp⟩ ?_
 rintro vs w1 ⟨k,hk,rfl,g,B⟩ _;simp only[GC];refine Hj (fun a7=>?_) fun a8=>?_
 .have i:k<x.length:=by omega
  have O:=WJ i;obtain⟨p,r,rfl,_,hr,hc,V⟩:=(BE.grow h g).get i;refine AT i (Ah hr (fun j u hu=>by rw[Addr.add_add];exact hc j u hu) ?_);refine BQ hr rfl V.one fun b w2 hb hz J a1 _=>?_;refine Ah hr a1 ?_;refine AA (aK (hS.grow (g.trans J)) (V.mod (D':=D) J (fun _ _ _ h=>h) fun _ _ h=>h) (hT.grow (g.trans J)) (hI _ O)) ?_;rintro _ w3 ⟨rfl,Z⟩;have T:=(g.trans J).trans Z;obtain⟨m1,m2,m3⟩:=Xm ks x[k];rw[Aj];refine AF (fun U=>?_) fun U=>?_
  .rw[U];exact Q _ T (.inl ⟨_,O,m1.1 U⟩)
  have e1:x.take (k+1)=x.take k++[x[k]]:=by rw[No,By i];rfl
  have I:∀o∈x.take (k+1),Im ks o≠3:=fun o q=>by
   rw[e1] at q;rcases C3.1 q with q|q
   .exact B o q
   .simp at q;subst q;exact U
  have X:H8 ks (x.take (k+1))↔H8 ks (x.take k)\/Im ks x[k]≠0:=by
   unfold H8;rw[e1];constructor
   .rintro⟨a,ha,m⟩;rcases C3.1 ha with ha|ha
    .exact .inl ⟨a,ha,m⟩
    .simp at ha;subst ha;exact .inr fun h0=>by have:=(m3 U).1 h0;rcases m with m|m;exact m this.1;exact m this.2
   .rintro(⟨a,ha,m⟩|m)
    .exact⟨a,jS _ ha,m⟩
    .refine⟨x[k],kI _ (P9.2 rfl),?_⟩;by_cases hz:Bm ks x[k].set=0
     .exact .inr fun h0=>m ((m3 U).2 ⟨hz,h0⟩)
     .exact .inl hz
  rw[Bk];refine AY (fun h0=>?_) fun h0=>?_
  .rw[AQ,AO (by omega)];refine⟨⟨k+1,i,?_,T,I⟩,by rw[BD,BD];omega⟩;congr 2
   refine Ot ?_;rw[X];exact⟨.inl,fun Y=>by rcases Y with Y|Y;exact Y;exact(Y h0).elim⟩
  .rw[AQ,AO (by omega)];refine⟨⟨k+1,i,?_,T,I⟩,by rw[BD,BD];omega⟩;rw[DN (X.2 (.inr h0))];congr 2
   omega
 .have:k=x.length:=by omega
  subst this;rw[PF] at B ⊢;refine AA (KU (BE.grow q g)) ?_;rintro _ w2 ⟨rfl,J⟩;rw[BL];refine AF (fun h1=>Q _ (g.trans J) (.inr (.inl h1))) fun h1=>?_;refine AA (N1 (BE.grow q (g.trans J))) ?_;rintro _ w3 ⟨rfl,Z⟩;rw[BL];refine AF (fun h2=>Q _ ((g.trans J).trans Z) (.inr (.inr h2))) fun h2=>?_;refine⟨?_,(g.trans J).trans Z⟩;have a6:¬Qt ks x:=by
   rintro(⟨o,q,m⟩|m|m)
   .exact B o q ((Xm ks o).1.2 m)
   .exact h1 m
   .exact h2 m
  unfold Cs;rw[Bq a6]
def O8{l:List Int}(h:LI S w v l):AB prog 154 [v] (fun v' w'=>v'=zI (BX l:Int)/\w'=w) w:=by
 apply X6;obtain⟨a,c,rfl,hm⟩:=h.shape;simp only[maxLen] at hm;rw[AP];refine AX (fun vs w'=>∃i:Nat,i<=l.length/\vs=[zI (BX (l.take i):Int),zI i]/\w'=w) (fun vs _=>l.length-De vs 1) ⟨0,Nn _,rfl,rfl⟩ ?_;rintro vs _ ⟨i,hi,rfl,rfl⟩ _;rename World=>w
 simp only[GC];refine Hj (fun o=>?_) fun q=>?_
 .have j:i<l.length:=by omega
  obtain⟨p,r,rfl,_,hr,hc,rfl⟩:=h.get j;refine AT j (AL (hc 0 _ rfl) ?_);rw[Aj];have e:BX (l.take (i+1))=BX (l.take i)+if l[i]=10 then 1 else 0:=by
   have:l.take (i+1)=l.take i++[l[i]]:=by rw[No];simp[j]
   rw[this,FD];by_cases m:l[i]=(10:Int)<;>simp[BX,m]
  have hb:=Dl (l.take i);rw[Lc] at hb;refine AF (fun m=>?_) fun m=>?_
  .rw[AQ,AQ,AO (by omega),AO (by omega)];refine⟨⟨i+1,j,?_,rfl⟩,by rw[BD,BD];omega⟩;rw[e,DN m]
  .rw[AQ,AO (by omega)];refine⟨⟨i+1,j,?_,rfl⟩,by rw[BD,BD];omega⟩;rw[e,Bq m];rfl
 .obtain rfl:i=l.length:=by omega
  rw[PF];exact⟨rfl,trivial⟩
def BY.jT{o:Dop}(h:BY ks o):Bt o=(Bv o:Int)-o.Ag.length/\CD o=(Bv o:Int)-(if o.kind=3 then o.n else 0)/\0<=Bt o/\Bt o<=Bv o/\0<=CD o/\CD o<=Bv o:=by
 unfold Bt CD Bv L5;rcases h with⟨h1,i,j,m,q⟩|⟨h1,i,j,m,q⟩|⟨h1,i,j,m,q,B⟩
 .rw[h1,i];simp;omega
 .rw[h1,i];simp;omega
 .rw[h1];simp
def CM(n:Int):Int->List Dop->Prop
 |_,[]=>True
 |p,o::x=>if o.kind=2 then p≠n/\CM n p x else if o.kind=3 then p+o.n≠n/\CM n (p+o.n) x else CM n (p+o.n) x
def DL(ks:List DKey)(o:Dop):Prop:=o.kind=2->o.set≠[]->(0<(CP ks true o.set).length\/0<BX o.Ag)->(CP ks true o.set).length=o.set.length/\BX o.Ag=o.Ag.length
open Classical in
noncomputable def EL(ks:List DKey)(x:List Dop)(n most:Int):Int:=if Cs ks x≠0 then Cs ks x else if n<1\/most<n\/n<Cj Bt x then 5 else if ¬CM n 0 x then 6 else if ¬(∀o∈x,DL ks o) then 7 else if most<n-Cj Bt x+Cj CD x then 8 else 0
open Classical in
def YP{S D:Nat->Prop}{x:List Dop}{n:Int}(h:BE S D w v x)(Y:∀o∈x,BY ks o/\Bv o<=536870912)(hl:x.length<=1048576) :
  AB prog 82 [v,zI n] (fun v' w'=>v'=.bool (decide (CM n 0 x))/\Grow w w') w:=by
 apply ez;obtain⟨a,c,rfl,hm⟩:=h.shape;rw[AP];refine AX (fun vs w'=>∃(i p:Nat),i<=x.length/\vs=[zI (p:Int),zI i]/\p<=i*536870912/\Grow w w'/\(CM n 0 x↔CM n p (x.drop i))) (fun vs _=>x.length-De vs 1) ⟨0,0,Nn _,rfl,Nn _,Mod.refl _ _,oe⟩ ?_;rintro vs w1 ⟨i,p,hi,rfl,hp,g,m⟩ _;simp only[GC];refine Hj (fun Z=>?_) fun a1=>?_;rotate_left
 .obtain rfl:i=x.length:=by omega
  rw[nD] at m;exact⟨by rw[lH (m.2 trivial)],g⟩
 have B:i<x.length:=by omega
 obtain⟨q,r,rfl,hS,hr,hc,T⟩:=(BE.grow h g).get B;refine AT B (Ah hr (fun j u hu=>by rw[Addr.add_add];exact hc j u hu) ?_);refine BQ hr rfl T.one fun b w2 hb hz g2 J _=>?_;obtain⟨rv,sv,pv,rfl,h1,h2,h3⟩:=id T;rw[lX B,CM] at m;obtain⟨V,U⟩:=Y x[i] (WJ B);have I:=g.trans g2;have X:x[i].kind≠2->0<=x[i].n/\x[i].n<=536870912:=fun hk=>by
  rcases V with⟨h1,_,_,h4,_⟩|⟨h1,_,_,_,h4⟩|⟨h1,_⟩
  .rw[Bv,Bq hk] at U;omega
  .rw[Bv,Bq hk] at U;omega
  .exact absurd h1 hk
 refine AV (fun _ w'=>x[i].kind≠2/\w'=w2/\(CM n 0 x↔CM n ((p:Int)+x[i].n) (x.drop (i+1)))) ?_ ?_
 .rintro _ _ ⟨hk,rfl,O⟩ _;obtain⟨n1,n2⟩:=X hk;rw[AG];refine AL (J 1 _ rfl) ?_;rw[AQ,wrap64 (by omega) (by omega),AQ,AO (by omega)];refine⟨⟨i+1,p+x[i].n.toNat,B,?_,by omega,I,?_⟩,by rw[BD,BD];omega⟩
  .rw[show(p:Int)+x[i].n=((p+x[i].n.toNat:Nat):Int) by omega]
  .rw[O,show(p:Int)+x[i].n=((p+x[i].n.toNat:Nat):Int) by omega]
 .rw[AG];refine AL (J 0 _ rfl) ?_;rw[Aj];refine AF (fun hk=>?_) fun hk=>?_
  .rw[DN hk] at m;rw[Aj];refine AF (fun e=>⟨by rw[kX fun h=>(m.1 h).1 e],I⟩) fun e=>?_;rw[AQ,AO (by omega)];refine⟨⟨i+1,p,B,rfl,?_,I,m.trans ⟨fun h=>h.2,fun h=>⟨e,h⟩⟩⟩,by rw[BD,BD];omega⟩;exact lV hp (lW _ (rH i))
  .rw[Bq hk] at m;obtain⟨n1,n2⟩:=X hk;rw[Aj];refine AF (fun Q=>?_) fun Q=>?_
   .rw[DN Q] at m;rw[AG];refine AL (J 1 _ rfl) ?_;rw[AQ,wrap64 (by omega) (by omega),Aj];refine AF (fun e=>⟨by rw[kX fun h=>(m.1 h).1 e],I⟩) fun e=>?_;exact⟨hk,rfl,m.trans ⟨fun h=>h.2,fun h=>⟨e,h⟩⟩⟩
   .rw[Bq Q] at m;exact⟨hk,rfl,m⟩
open Classical in
def Z2{E S D:Nat->Prop}{x:List Dop}(hS:Ci E w sv ks)(h:BE S D w v x)(hb:∀o∈x,o.set.length<=64) :
  AB prog 83 [sv,v] (fun v' w'=>v'=.bool (decide (∀o∈x,DL ks o))/\Grow w w') w:=by
 apply dz;obtain⟨a,c,rfl,hm⟩:=h.shape;simp only[maxLen] at hm;rw[AP];refine AX (fun vs w'=>∃(i:Nat),i<=x.length/\vs=[zI i]/\Grow w w'/\∀o∈x.take i,DL ks o) (fun vs _=>x.length-De vs 0) ⟨0,Nn _,rfl,Mod.refl _ _,fun o I=>by simp at I⟩ ?_;rintro vs w1 ⟨i,hi,rfl,g,T⟩ _;simp only[GC];refine Hj (fun b9=>?_) fun bb=>?_;rotate_left
 .obtain rfl:i=x.length:=by omega
  rw[PF] at T;exact⟨by rw[lH T],g⟩
 have m:i<x.length:=by omega
 refine AV (fun _ w'=>DL ks x[i]/\Grow w1 w') ?_ ?_
 .rintro _ w' ⟨hp,g'⟩ _;rw[AQ,AO (by omega)];refine⟨⟨i+1,m,rfl,g.trans g',fun o I=>?_⟩,by rw[CH,CH];omega⟩;rw[No,By m] at I;rcases C3.1 I with I|I
  .exact T o I
  .simp at I;subst I;exact hp
 obtain⟨q,r,rfl,bd,hr,hc,Z⟩:=(BE.grow h g).get m;refine AT m (Ah hr (fun j u hu=>by rw[Addr.add_add];exact hc j u hu) ?_);refine BQ hr rfl Z.one fun b w2 bk hz Y B _=>?_;obtain⟨rv,al,pv,rfl,h1,h2,h3⟩:=id Z;have bl:=hb x[i] (WJ m);obtain⟨ra,rc,an,av⟩:=h1.shape;obtain⟨sa,sc,a1,_⟩:=h2.shape;simp only[maxLen] at av;refine AV (fun _ w'=>w'=w2/\x[i].kind=2/\x[i].set≠[]) ?_ ?_;rotate_left
 .rw[AG];refine AL (B 0 _ rfl) ?_;rw[Bk];refine AY (fun hk=>?_) fun hk=>⟨fun h=>absurd h hk,Y⟩;rw[AG];refine AL (B 3 _ rfl) ?_;rw[a1,AP,Aj];refine AF (fun e=>⟨fun _ U=>absurd (QC (by omega)) U,Y⟩) fun e=>⟨rfl,hk,fun h=>e (by rw[h];rfl)⟩
 rintro _ _ ⟨rfl,hk,U⟩ _;rename World=>w2
 have V:Grow w2 w2.drew:=Mod.drew _ _;refine Af (fun _ _=>False) ?_;rw[AG];refine AU ⟨V.cell (B 3 _ rfl) fun h=>h,fun j hj e=>e⟩ ?_;refine AA (Ji (b:=true) (((hS.grow g).grow Y).grow V) ((h2.grow Y (by decide) fun _ _ h=>h).grow V (by decide) fun _ _ h=>h) (by omega)) ?_;rintro bv w3 ⟨ax,g3⟩;obtain⟨ba,bc,rfl,_⟩:=ax.shape;refine⟨g3.mono fun _ _ h=>h.elim,?_⟩;rw[AP,AG];refine AU ⟨V.cell (B 2 _ rfl) fun h=>h,fun j hj e=>e⟩ ?_;refine AA (O8 (((h1.grow Y (by decide) fun _ _ h=>h).grow V (by decide) fun _ _ h=>h).grow g3 (by decide) fun _ _ h=>h)) ?_;rintro _ _ ⟨rfl,rfl⟩;rename World=>w3
 refine⟨Mod.refl _ _,?_⟩;have X:=(Y.trans V).trans g3;have J:=g.trans X;have a6:∀(j:Nat) (v:Value),[Value.int .u8 x[i].kind,zI x[i].n,rv,al,pv][j]?=some v->w3.cell? ((⟨b,0,none⟩:Addr).add j)=some v:=fun j v hv=>g3.cell (V.cell (B j v hv) fun h=>h) fun h=>h;have bn:(CP ks true x[i].set).length<=x[i].set.length:=nN _ _;have bp:=Dl x[i].Ag;have a7:(0<(CP ks true x[i].set).length\/0<BX x[i].Ag)->((CP ks true x[i].set).length<x[i].set.length\/BX x[i].Ag<x[i].Ag.length)->¬∀o∈x,DL ks o:=fun h1 h2 a8=>by
  have:=a8 x[i] (WJ m) hk U h1;omega
 have O:(0<(CP ks true x[i].set).length\/0<BX x[i].Ag)->
   AM 3 (.pointer (some ⟨b,0,none⟩)) (fun ay=>AJ ay (fun b0 w9=>Ac b0 fun b1=>BU .i64 (zI ((CP ks true x[i].set).length:Int)) b1 fun b2=>AD b2 (Value.bool false=.bool (decide (∀ o ∈ x,DL ks o))/\Grow w w9)
    (AM 2 (.pointer (some ⟨b,0,none⟩)) fun t46=>AJ t46 (fun b6 ak=>Ac b6 fun b7=>BU .i64 (zI (BX x[i].Ag:Int)) b7 fun b8=>AD b8 (Value.bool false=.bool (decide (∀ o ∈ x,DL ks o))/\Grow w ak) (DL ks x[i]/\Grow w1 ak)) w9)) w3):=fun Q=>by
  rw[AG];refine AL (a6 3 _ rfl) ?_;rw[a1,AP,Am];refine AF (fun e=>⟨by rw[kX (a7 Q (.inl (by omega)))],J⟩) fun e1=>?_;rw[AG];refine AL (a6 2 _ rfl) ?_;rw[an,AP,Am];refine AF (fun e=>⟨by rw[kX (a7 Q (.inr (by omega)))],J⟩) fun e2=>⟨fun _ _ _=>⟨by omega,by omega⟩,X⟩
 rw[BL];refine AF (fun e=>O (.inl (by omega))) fun e1=>?_;rw[BL];refine AF (fun e=>O (.inr (by omega))) fun e2=>⟨fun _ _ h=>by omega,X⟩
def TB{E S D:Nat->Prop}{x:List Dop}{n:Nat}(Y:Ci E w sv ks)(h:BE S D w v x)(hT:Ee w)(hI:∀o∈x,jR o)(hl:x.length<=1048576)(hn:n<=1099511627776) :
  AB prog 42 [sv,v,zI (n:Int),zI most] (fun v' w'=>v'=zI (EL ks x n most)/\Grow w w') w:=by
 classical
 apply dY;refine AA (Pu Y h hT hI) ?_;rintro _ w1 ⟨rfl,U⟩;unfold EL;rw [Bk];refine AY (fun hm=>?_) fun hm=>⟨by rw [DN hm],U⟩;rw [Bq (by simpa using hm)];have q:=Jp hm;obtain ⟨_,t1,t2⟩:=Ev (f:=Bt) (m:=536870912) (by decide) x (fun o i=>by
  obtain ⟨_,_,h1,Q,_⟩:=(q o i).1.jT;have:=(q o i).2;exact ⟨h1,by omega⟩) (by omega)
 obtain ⟨_,u1,u2⟩:=Ev (f:=CD) (m:=536870912) (by decide) x (fun o i=>by
  obtain ⟨_,_,_,_,h1,Q⟩:=(q o i).1.jT;have:=(q o i).2;exact ⟨h1,by omega⟩) (by omega)
 have h1:=BE.grow h U;refine AV (fun vs w'=>vs=[.bool (decide ((n:Int)<1\/most<n\/(n:Int)<Cj Bt x))]/\Grow w1 w') ?_ ?_;rotate_left
 .rw[Am];refine AF (fun e=>⟨by rw[lH (.inl e)],Mod.refl _ _⟩) fun e1=>?_;rw[BL];refine AF (fun e=>⟨by rw[lH (.inr (.inl e))],Mod.refl _ _⟩) fun e2=>?_;refine AA (KU h1) ?_;rintro _ w2 ⟨rfl,T⟩;rw[BL];refine⟨?_,T⟩;congr 2
  exact pd.2 ⟨fun h=>.inr (.inr h),fun h=>by rcases h with h|h|h;exact absurd h e1;exact absurd h e2;exact h⟩
 rintro _ w2 ⟨rfl,T⟩ _;rw[Bl,Nr];have I:=U.trans T;have Q:=BE.grow h1 T;refine AF (fun e=>⟨by rw[DN e],I⟩) fun e=>?_;rw[Bq e];refine AA (YP (n:=n) Q q hl) ?_;rintro _ w3 ⟨rfl,Z⟩;rw[An];have j:=I.trans Z;refine AY (fun V=>?_) fun V=>⟨by rw[DN V],j⟩;rw[Bq (fun h=>h V)];have B:=BE.grow Q Z;refine AA (Z2 (Y.grow j) B fun o i=>?_) ?_
 .rcases(q o i).1 with⟨_,_,B,_⟩|⟨_,_,B,_⟩|⟨_,_,_,_,_,h6⟩
  .rw[B];simp
  .rw[B];simp
  .exact h6.2.1
 rintro _ w4 ⟨rfl,g4⟩;rw[An];have J:=j.trans g4;refine AY (fun X=>?_) fun X=>⟨by rw[DN X],J⟩;rw[Bq (fun h=>h X)];have h4:=BE.grow B g4;refine AA (KU h4) ?_;rintro _ w5 ⟨rfl,g5⟩;rw[Aq,wrap64 (by omega) (by omega)];refine AA (N1 (BE.grow h4 g5)) ?_;rintro _ w6 ⟨rfl,g6⟩;rw[AQ,wrap64 (by omega) (by omega),BL];have O:=(J.trans g5).trans g6;refine AF (fun e=>⟨by rw[DN e],O⟩) fun e=>⟨by rw[Bq e],O⟩
def U5(r:Int):List Int:=
 if r<128 then[r] else if r<2048 then[192+r/64,128+r%64] else if r<65536 then[224+r/4096,128+r/64%64,128+r%64]
 else[240+r/262144,128+r/4096%64,128+r/64%64,128+r%64]
def Pb(l:List Int):List Int:=l.flatMap U5
def XF(r:Int):1<=(U5 r).length/\(U5 r).length<=4:=by
 unfold U5;split
 .simp
 split
 .simp
 split<;>simp
def dW(v:A6):Prop:=((v.kind=1\/v.kind=2)/\(-9223372036854775808<=v.n/\v.n<=9223372036854775807)/\v.f=0/\v.s=⟨#[]⟩)\/(v.kind=3/\v.n=0/\(0<=v.f/\v.f<18446744073709551616)/\v.s=⟨#[]⟩)\/(v.kind=4/\v.n=0/\v.f=0/\v.s.size<9223372036854775808)
def cX(k:Int):Prop:=0<=k/\k<9223372036854775808
def jD(a:Attr):Prop:=cX a.key/\dW a.val
def iw(c:Chg):Prop:=cX c.key/\((c.gone=true/\c.val=A6.zero)\/(c.gone=false/\dW c.val))
def VI{α:Type}(R:α->Prop)(l:List α):Prop:=l.length<9223372036854775808/\∀x∈l,R x
def iz(m:Int)(o:Dop):Prop:=(o.kind=1/\(0<=o.n/\o.n<=m)/\o.Ag=[]/\o.set=[]/\VI iw o.patch)\/(o.kind=2/\o.n=0/\(∀r∈o.Ag,Dz r)/\(Pb o.Ag).length<9223372036854775808/\VI jD o.set/\o.patch=[])\/(o.kind=3/\(0<=o.n/\o.n<=m)/\o.Ag=[]/\o.set=[]/\o.patch=[])
abbrev iN:Dop->Prop:=iz 536870912
def Hk(v:A6):Prop:=(-9223372036854775808<=v.n/\v.n<=9223372036854775807)/\(0<=v.f/\v.f<18446744073709551616)
def LC(o:Dop):Prop:=(∀a∈o.set,a.key<=9223372036854775807/\Hk a.val)/\∀c∈o.patch,c.key<=9223372036854775807/\Hk c.val
def LC.o{o:Dop}(h:LC o):jR o:=⟨fun a ha=>(h.1 a ha).2.2.1,fun c hc=>(h.2 c hc).2.2.1⟩
variable {ks:List DKey}
abbrev jr(ks:List DKey)(l:List Attr):Prop:=Io ks l/\∀a∈l,a.key<=9223372036854775807/\Hk a.val
abbrev jt(ks:List DKey)(p:List Chg):Prop:=J0 ks p/\∀c∈p,c.key<=9223372036854775807/\Hk c.val
abbrev H6(ks:List DKey)(o:Dop):Prop:=Good (jr ks) (jt ks) o
def H6.k{o:Dop}(h:H6 ks o):BY ks o:=by
 rcases h with⟨h1,i,j,m,q⟩|h|⟨h1,i,j,m,q,B⟩
 .exact .inl ⟨h1,i,j,m,q.1⟩
 .exact .inr (.inl h)
 .exact .inr (.inr ⟨h1,i,j,m,q,B.1⟩)
def H6.b{o:Dop}(h:H6 ks o):LC o:=by
 rcases h with⟨h1,q,i,j,m⟩|⟨h1,q,i,j,m⟩|⟨h1,q,i,j,m,B⟩
 .exact⟨by rw[i];simp,m.2⟩
 .exact⟨by rw[i];simp,by rw[j];simp⟩
 .exact⟨B.2,by rw[j];simp⟩
def BY.b{o:Dop}(h:BY ks o)(hb:LC o):H6 ks o:=by
 rcases h with⟨h1,i,j,m,q⟩|h|⟨h1,i,j,m,q,B⟩
 .exact .inl ⟨h1,i,j,m,q,hb.2⟩
 .exact .inr (.inl h)
 .exact .inr (.inr ⟨h1,i,j,m,q,B,hb.1⟩)
def DH.rep{v:A6}(h:DH v)(hi:Hk v):dW v:=by
 rcases h with⟨h1,i,j⟩|⟨h1,i⟩|⟨h1,i,_⟩|⟨h1,i,j,_⟩
 .exact .inl ⟨.inl h1,hi.1,by rw[i],by rw[i];rfl⟩
 .exact .inl ⟨.inr h1,hi.1,by rw[i],by rw[i];rfl⟩
 .exact .inr (.inl ⟨h1,by rw[i],hi.2,by rw[i];rfl⟩)
 .exact .inr (.inr ⟨h1,by rw[i],by rw[i],by omega⟩)
def QA(hk:∀k∈ks,0<=k.id){id:Int}(h:Bf ks id≠none):0<=id:=by
 obtain⟨k,h1,i⟩:=kT.1 (PD h);rw[<-i];exact hk k h1
def Io.rep(hk:∀k∈ks,0<=k.id){l:List Attr}(h:jr ks l):VI jD l:=
 ⟨by have:=h.1.2.1;omega,fun a ha=>by
  obtain ⟨h1,k,i,_⟩:=h.1.2.2 a ha;have j:=h.2 a ha;exact ⟨⟨QA hk (by rw [i];simp),by omega⟩,h1.rep j.2⟩⟩
def J0.rep(hk:∀k∈ks,0<=k.id){l:List Chg}(h:jt ks l):VI iw l:=
 ⟨by have:=h.1.2.1;omega,fun c hc=>by
  obtain⟨h1,j,m⟩:=h.1.2.2 c hc;have o:=h.2 c hc;refine⟨⟨QA hk m,by omega⟩,?_⟩;cases i:c.gone
  .exact .inr ⟨rfl,(j i).1.rep o.2⟩
  .exact .inl ⟨rfl,h1 i⟩⟩
def Q5:∀l:List Int,(Pb l).length<=l.length*4:=by
 intro l;induction l with
 |nil=>simp[Pb]
 |cons r l i=>
  have:=(XF r).2;have e:Pb (r::l)=U5 r++Pb l:=rfl;rw[e,Bp,S5];omega
def H6.rep(hk:∀k∈ks,0<=k.id){o:Dop}(h:H6 ks o)(hl:Bv o<=536870912):iN o:=by
 unfold Bv at hl;rcases h with⟨h1,i,j,m,q⟩|⟨h1,i,j,m,q⟩|⟨h1,i,j,m,q,B⟩
 .rw[Bq (by omega)] at hl;exact .inl ⟨h1,by omega,i,j,J0.rep hk q⟩
 .rw[Bq (by omega)] at hl;exact .inr (.inr ⟨h1,by omega,i,j,m⟩)
 .rw[DN h1] at hl;exact .inr (.inl ⟨h1,j,i,by have:=Q5 o.Ag;omega,Io.rep hk B,m⟩)
def BY.cN{o:Dop}(h:BY ks o)(hl:Bv o<=536870912):FL o:=by
 unfold Bv at hl;rcases h with⟨h1,m,i,j,q⟩|⟨h1,m,i,j,q⟩|⟨h1,m,i,j,q,B⟩
 .rw[Bq (by omega)] at hl;exact .inl ⟨h1,m,i,j,by omega⟩
 .rw[Bq (by omega)] at hl;exact .inr (.inl ⟨h1,m,i,j,q,by omega⟩)
 .exact .inr (.inr ⟨h1,i,j,q⟩)
def BY.tm{o:Dop}(h:BY ks o):Bt o=(Bv o:Int)-o.Ag.length/\CD o=(Bv o:Int)-(if o.kind=3 then o.n else 0)/\0<=Bt o/\Bt o<=Bv o/\0<=CD o/\CD o<=Bv o:=by
 unfold Bt CD Bv L5;rcases h with⟨h1,i,j,m,q⟩|⟨h1,i,j,m,q⟩|⟨h1,i,j,m,q,B⟩
 .rw[h1,i];simp;omega
 .rw[h1,i];simp;omega
 .rw[h1];simp
def iM{x:List Dop}(h:∀o∈x,BY ks o/\Bv o<=536870912)(hl:x.length<=1048576):Cj Bt x=(total x:Int)-Bu x/\Cj CD x=(total x:Int)-Cf x:=by
 have j:=(Ev (f:=Bt) (m:=536870912) (by decide) x (fun o i=>by have:=(h o i).1.tm;have:=(h o i).2;omega) (by omega)).1;have q:=(Ev (f:=CD) (m:=536870912) (by decide) x (fun o i=>by have:=(h o i).1.tm;have:=(h o i).2;omega) (by omega)).1;rw[j,q];clear j q hl;induction x with
 |nil=>simp[total,Bu,Cf]
 |cons o x B=>
  obtain⟨I,J⟩:=B fun o i=>h o (by simp[i]);have:=(h o (by simp)).1.tm;simp only[kN,mM,total,Bu,Cf] at I J ⊢
  push_cast
  omega
def Nj{x:List Dop}(h:∀o∈x,BY ks o/\Bv o<=536870912)(ht:Cj Bt x<=536870912)(hm:Cj CD x<=536870912):Cs ks x=0:=by
 have m:∀o∈x,FV o/\Io ks o.set/\J0 ks o.patch:=fun o j=>BY.form (h o j).1 (h o j).2;unfold Cs;rw[Bq,Bq]
 .rintro⟨o,j,i|i⟩
  .exact i (EN.2 (m o j).2.1)
  .exact i (Gn.2 (m o j).2.2)
 .rintro(⟨o,j,i|i|i⟩|i|i)
  .exact i (m o j).1
  .rw[EN.2 (m o j).2.1] at i;cases i
  .rw[Gn.2 (m o j).2.2] at i;cases i
  .omega
  .omega
def WU{x:List Dop}(h:Cs ks x=0):Cj Bt x<=536870912/\Cj CD x<=536870912:=by
 unfold Cs at h;split at h
 .cases h
 .rename_i h1;exact⟨kS fun i=>h1 (.inr (.inl (by omega))),kS fun i=>h1 (.inr (.inr (by omega)))⟩
def Ny{x:List Dop}(h:∀o∈x,BY ks o):((Bu x:Int)+Cf x<=total x)/\0<=Cf x:=by
 induction x with
 |nil=>simp[total,Bu,Cf]
 |cons o x I=>
  have:=I fun o j=>h o (by simp[j]);have j:=h o (by simp);simp only[kN,mM,total,Bu,Cf,Bv] at this ⊢
  push_cast
  rcases j with⟨h1,i,m,q,B⟩|⟨h1,i,m,q,B⟩|⟨h1,i,m,q,B,J⟩
  .rw[h1,i];simp;omega
  .rw[h1,i];simp;omega
  .rw[h1];simp;omega
def one_le{x:List Dop}(h:∀o∈x,BY ks o){z:Dop}(q:z∈x):(z.kind≠2->(Bv z:Int)+Bu x<=total x)/\(z.kind=2->(Bv z:Int)+Cf x<=total x):=by
 induction x with
 |nil=>simp at q
 |cons o x O=>
  have J:∀o∈x,BY ks o:=fun o j=>h o (by simp[j]);have hr:=Ny J;have j:=h o (by simp);have m:=j.tm;have i:(o.Ag.length:Int)<=Bv o/\(if o.kind=3 then o.n else 0)<=Bv o/\0<=(if o.kind=3 then o.n else 0)/\(o.kind≠2->o.Ag.length=0)/\(o.kind=2->(if o.kind=3 then o.n else 0)=0):=by
   have:=m.2.2.1;have:=m.2.2.2.2.1;refine⟨by omega,by omega,?_,fun e=>?_,fun e=>by rw[e];rfl⟩
   .split
    .rcases j with⟨h1,_⟩|⟨_,_,_,_,Q⟩|⟨h1,_⟩<;>omega
    .omega
   .rcases j with⟨_,B,_⟩|⟨_,B,_⟩|⟨h1,_⟩
    .rw[B];rfl
    .rw[B];rfl
    .exact(e h1).elim
  simp only[kN,mM,total,Bu,Cf] at hr ⊢
  push_cast
  rcases K8.1 q with rfl|q
  .refine⟨fun e=>?_,fun e=>?_⟩
   .have:=i.2.2.2.1 e;omega
   .have:=i.2.2.2.2 e;omega
  .have I:=O J q;simp only[total,Bu,Cf] at I;refine⟨fun e=>?_,fun e=>?_⟩
   .have:=I.1 e;omega
   .have:=I.2 e;omega
def XY(hk:∀k∈ks,0<=k.id){x:List Dop}(h:Cs ks x=0)(hb:∀o∈x,LC o)(hl:x.length<=1048576) :
  Cs ks (Br x)=0/\(∀z∈Br x,H6 ks z/\Bv z<=536870912)/\VI iN (Br x)/\Br (Br x)=Br x/\(Br x).length<=x.length:=by
 have m:=Jp h;obtain⟨Y,Z⟩:=iM m hl;obtain⟨m1,m2⟩:=WU h;have T:=Ny fun o j=>(m o j).1;have J:∀o∈x,FL o:=fun o j=>(m o j).1.cN (m o j).2;obtain⟨B,n2⟩:=UI x (fun o j=>(m o j).1.b (hb o j)) (by omega);obtain⟨O,Q,U⟩:=Rl x J (by omega);have I:∀z∈Br x,Bv z<=536870912:=by
  intro z i;have hr:=one_le (fun o j=>H6.k (B o j)) i;rw[O,Q] at hr;by_cases e:z.kind=2
  .have:=hr.2 e;omega
  .have:=hr.1 e;omega
 have q:∀z∈Br x,BY ks z/\Bv z<=536870912:=fun z i=>⟨H6.k (B z i),I z i⟩;obtain⟨V,X⟩:=iM q (by omega);rw[O] at V;rw[Q] at X;exact⟨Nj q (by omega) (by omega),fun z i=>⟨B z i,I z i⟩,⟨by omega,fun z i=>H6.rep hk (B z i) (I z i)⟩,Rj x J (by omega),U⟩
end
section
def CN(ks:List DKey):List Cel->List Dop->List Cel
 |d,[]=>d
 |d,o::x=>if o.kind=1 then(d.take o.n.toNat).map (Cg ks o.patch)++CN ks (d.drop o.n.toNat) x else if o.kind=2 then o.Ag.map (fun r=>(⟨r,o.set⟩:Cel))++CN ks d x else CN ks (d.drop o.n.toNat) x
def OH(ks:List DKey):List Cel->List Dop->List Cel
 |d,[]=>d
 |d,o::x=>if o.kind=1 then(d.take o.n.toNat).map (Cg ks o.patch)++OH ks (d.drop o.n.toNat) x else if o.kind=2 then OH ks d x else OH ks (d.drop o.n.toNat) x
def BW:List Dop->Nat
 |[]=>0
 |o::x=>(if o.kind=2 then 0 else o.n.toNat)+BW x
def CU:List Dop->Nat
 |[]=>0
 |o::x=>(if o.kind=3 then 0 else if o.kind=2 then o.Ag.length else o.n.toNat)+CU x
def L1{x:List Dop}(j:∀o∈x,BY ks o/\Bv o<=536870912)(hl:x.length<=1048576):Cj Bt x=BW x/\Cj CD x=CU x:=by
 have q:∀o∈x,0<=Bt o/\Bt o<=536870912:=fun o i=>by
  obtain⟨h1,I⟩:=j o i;obtain⟨_,_,a,b,_⟩:=h1.jT;exact⟨a,by omega⟩
 have B:∀o∈x,0<=CD o/\CD o<=536870912:=fun o i=>by
  obtain⟨h1,I⟩:=j o i;obtain⟨_,_,_,_,a,b⟩:=h1.jT;exact⟨a,by omega⟩
 rw[(Ev (m:=536870912) (by decide) x q (by omega)).1,(Ev (m:=536870912) (by decide) x B (by omega)).1];clear hl q B;induction x with
 |nil=>exact⟨rfl,rfl⟩
 |cons o x J=>
  obtain⟨O,Q⟩:=J fun o i=>j o (by simp[i]);obtain⟨h1,_⟩:=j o (by simp);rw[kN,mM,O,kN,mM,Q,BW,CU,Bt,CD,L5];rcases h1 with⟨k,_,_,T,_⟩|⟨k,_,_,_,T⟩|⟨k,_⟩
  .simp only[k,show ¬(1:Int)=2 by decide,show ¬(1:Int)=3 by decide,lE];omega
  .simp only[k,show ¬(3:Int)=2 by decide,lE,lT];omega
  .simp only[k,show ¬(2:Int)=3 by decide,lE,lT];omega
structure Rq (ks:List DKey) (x:List Dop) (n:Nat) (most:Int):Prop where
 may:Cs ks x=0
 FM:∀o∈x,BY ks o/\Bv o<=536870912
 pos:1<=n/\(n:Int)<=most
 LQ:BW x<=n
 fin:CM n 0 x
 pl:∀o∈x,DL ks o
 most:(n:Int)-BW x+CU x<=most
def DE{x:List Dop}{n:Nat}(hl:x.length<=1048576):EL ks x n most=0↔Rq ks x n most:=by
 classical
 unfold EL;constructor
 .intro h;split at h
  .rename_i hm;exact absurd h hm
  rename_i hm;have i:Cs ks x=0:=by simpa using hm
  have B:=Jp i;obtain⟨j,m⟩:=L1 B hl;split at h
  .cases h
  rename_i o;split at h
  .cases h
  rename_i q;split at h
  .cases h
  rename_i I;split at h
  .cases h
  rename_i J;rw[j] at o J;rw[m] at J;exact⟨i,B,⟨by omega,by omega⟩,by omega,pS.1 q,pS.1 I,by omega⟩
 .rintro⟨h1,O,Q,T,o,q,I⟩;obtain⟨j,m⟩:=L1 O hl;rw[Bq (by simp[h1]),Bq (by rw[j];omega),Bq (fun h=>h o),Bq (fun h=>h q),Bq (by rw[j,m];omega)]
def Mv.of(o:∀k∈ks,EI k){k:Int}{v:A6}(h1:Bf ks k≠none)(j:DH v\/v=A6.zero)(m:Hk v):Mv ⟨k,v⟩:=by
 have hk:=PD h1;obtain⟨y,q,e⟩:=kT.1 hk;have i:=o y q;have k1:=i.1;have k2:=i.2.1;rw[e] at k1 k2;refine⟨⟨?_,?_⟩,?_,m.1,m.2,?_⟩
 .show _<=k;omega
 .show k<=_;omega
 .show 0<=v.kind/\v.kind<256;rcases j with(⟨h,_⟩|⟨h,_⟩|⟨h,_⟩|⟨h,_⟩)|h
  .rw[h];decide
  .rw[h];decide
  .rw[h];decide
  .rw[h];decide
  .rw[h];decide
 .show v.s.size<_;rcases j with(⟨_,h,_⟩|⟨_,h⟩|⟨_,h,_⟩|⟨_,_,h,_⟩)|h
  .rw[h];simp[FH,ByteArray.size]
  .rw[h];simp[FH,ByteArray.size]
  .rw[h];simp[FH,ByteArray.size]
  .omega
  .rw[h];simp[A6.zero,FH,ByteArray.size]
def EK.of(i:∀k∈ks,EI k)(h:Io ks s)(j:∀a∈s,Hk a.val):EK ks s:=by
 refine⟨h,fun a ha=>?_⟩;obtain⟨h1,k,m,_⟩:=h.2.2 a ha;exact Mv.of i (by rw[m];simp) (.inl h1) (j a ha)
def HO.of(j:∀k∈ks,EI k){p:List Chg}(h:J0 ks p)(m:∀c∈p,Hk c.val):HO ks p:=by
 refine⟨h,fun c hc=>?_⟩;obtain⟨h1,o,q⟩:=h.2.2 c hc;refine Mv.of j q ?_ (m c hc);cases i:c.gone with
 |true=>exact .inr (h1 i)
 |false=>exact .inl (o i).1
def jv(m:∀k∈ks,EI k){o:Dop}(h:BY ks o)(q:(∀a∈o.set,Hk a.val)/\∀c∈o.patch,Hk c.val):EK ks o.set/\HO ks o.patch:=by
 rcases h with⟨_,_,i,_,B⟩|⟨_,_,i,j,_⟩|⟨_,_,_,j,_,I⟩
 .exact⟨by rw[i];exact EK.nil,HO.of m B q.2⟩
 .exact⟨by rw[i];exact EK.nil,by rw[j];exact HO.nil⟩
 .exact⟨EK.of m I q.1,by rw[j];exact HO.nil⟩
def K0{o:Dop}(hk:o.kind=2)(O:Io ks o.set)(hp:DL ks o):o.Ag.map (cellOf ks o.set)=o.Ag.map fun r=>(⟨r,o.set⟩:Cel):=by
 by_cases q:o.set=[]
 .rw[q];rfl
 refine nX fun r hr=>?_;unfold cellOf;have j:∀a∈o.set,∃k,Bf ks a.key=some k:=fun a ha=>by
  obtain⟨_,k,h,_⟩:=O.2.2 a ha;exact⟨k,h⟩
 by_cases B:0<(CP ks true o.set).length\/0<BX o.Ag
 .obtain⟨Q,T⟩:=hp hk q B;have J:CP ks true o.set=o.set:=mq.2 (List.length_filter_eq_length_iff.1 Q);have U:∀r∈o.Ag,r=10:=fun r hr=>by
   have:=(List.count_eq_length.1 T) r hr;exact this.symm
  rw[U r hr,lH rfl,J]
 .have h1:(CP ks true o.set).length=0:=by omega
  have V:BX o.Ag=0:=by omega
  have I:r≠10:=fun e=>qP.1 V (e▸hr);have J:CP ks false o.set=o.set:=mq.2 fun a ha=>by
   obtain⟨k,hk⟩:=j a ha;have m:=nZ.1 (QC h1) a ha;unfold Ht at m ⊢;rw[hk] at m ⊢;have i:¬decide (k.block=true)=true:=m;show decide (k.block=false)=true;cases hb:k.block with
   |true=>rw[hb] at i;exact absurd rfl i
   |false=>rfl
  rw[kX I,J]
def WY{n:Nat}:∀{x:List Dop} {d:List Cel},(∀o∈x,BY ks o)->BW x<=d.length->d.length<=n->CM n ((n:Int)-d.length) x->(Ar d).getLast?=some 10->(Ar (OH ks d x)).getLast?=some 10:=by
 intro x;induction x with
 |nil=>intro d _ _ _ _ h;exact h
 |cons o x I=>
  intro d U ht V j hl;have J:=U o (by simp);have q:∀o∈x,BY ks o:=fun o X=>U o (by simp[X]);rw[BW] at ht;rw[CM] at j;rw[OH];have i:∀m:Nat,m<d.length->(Ar (d.drop m)).getLast?=some 10:=fun m hm=>by
   rw[Ar,mB,oV,Bq (by rw[Iq];omega)];exact hl
  rcases J with⟨k,_,_,Y,_⟩|⟨k,_,_,_,Y⟩|⟨k,_⟩
  .rw[DN k];rw[Bq (by omega)] at ht;rw[Bq (by omega),Bq (by omega)] at j;by_cases hm:o.n.toNat<d.length
   .have:=I q (d:=d.drop o.n.toNat) (by rw[I3];omega) (by rw[I3];omega) (by rw[I3,show(n:Int)-((d.length-o.n.toNat:Nat):Int)=(n:Int)-d.length+o.n by omega];exact j) (i _ hm);rw[Ar,Ty,WL];rw[Ar] at this;rw[this];rfl
   .have O:x=[]:=by
     cases x with
     |nil=>rfl
     |cons o' x=>
      exfalso;have B:=q o' (by simp);rw[BW] at ht;rw[CM] at j;rcases B with⟨Q,_,_,T,_⟩|⟨Q,_,_,_,T⟩|⟨Q,_⟩
      .rw[Bq (by omega)] at ht;omega
      .rw[Bq (by omega)] at ht;omega
      .rw[DN Q] at j;exact j.1 (by omega)
    subst O;rw[OH,mW (by omega),kK,mJ (by omega),Ar,mz];exact hl
  .rw[Bq (by omega),Bq (by omega)];rw[Bq (by omega)] at ht;rw[Bq (by omega),DN k] at j;have hm:o.n.toNat<d.length:=by omega
   exact I q (by rw[I3];omega) (by rw[I3];omega) (by rw[I3,show(n:Int)-((d.length-o.n.toNat:Nat):Int)=(n:Int)-d.length+o.n by omega];exact j.2) (i _ hm)
  .rw[Bq (by omega),DN k];rw[DN k] at ht j;exact I q (by omega) V j.2 hl
def ab:∀{x:List Dop} {d:List Cel},(OH ks d x).length<=d.length:=by
 intro x;induction x with
 |nil=>intro d;exact Mp _
 |cons o x i=>
  intro d;rw[OH];split
  .rw[Bp,Iq,Lc];have:=i (d:=d.drop o.n.toNat);rw[I3] at this;omega
  .split
   .exact i
   .have:=i (d:=d.drop o.n.toNat);rw[I3] at this;omega
def Oc:∀{x:List Dop} {d:List Cel},(∀o∈x,BY ks o)->BW x<=d.length->(CN ks d x).length+BW x=d.length+CU x:=by
 intro x;induction x with
 |nil=>intro d _ _;rfl
 |cons o x j=>
  intro d m ht;have i:∀o∈x,BY ks o:=fun o q=>m o (by simp[q]);rw[BW] at ht ⊢;rw[CN,CU];rcases m o (by simp) with⟨k,_,_,B,_⟩|⟨k,_,_,_,B⟩|⟨k,_⟩
  .simp only[k,show ¬(1:Int)=2 by decide,show ¬(1:Int)=3 by decide,lT,lE] at ht ⊢;rw[Bp,Iq,Lc];have:=j i (d:=d.drop o.n.toNat) (by rw[I3];omega);rw[I3] at this;omega
  .simp only[k,show ¬(3:Int)=2 by decide,show ¬(3:Int)=1 by decide,lT,lE] at ht ⊢;have:=j i (d:=d.drop o.n.toNat) (by rw[I3];omega);rw[I3] at this;omega
  .simp only[k,show ¬(2:Int)=3 by decide,show ¬(2:Int)=1 by decide,lT,lE] at ht ⊢;rw[Bp,Iq];have:=j i (d:=d) (by omega);omega
def J3.NJ(m:ks.length<=64){d:List Cel}{p:List Chg}(h:J3 ks d)(hp:HO ks p){i j:Nat}(o:i<=j):J3 ks (NJ d i j (Cg ks p)):=by
 refine⟨fun c hc=>?_,by rw[Vg d (Cg ks p) o fun _=>rfl];exact h.last⟩;unfold Go.Proofs.YtmdhibffnkhcnaaGreatDoor.NJ at hc;rcases C3.1 hc with hc|hc
 .rcases C3.1 hc with hc|hc
  .exact h.set c (i7 hc)
  .obtain⟨c0,q,rfl⟩:=kT.1 hc;exact(h.set c0 (i7 (iV q))).app m (hp.part _)
 .exact h.set c (iV hc)
def Oh{a b:List Cel}(hb:b≠[]):(Ar (a++b)).getLast?=(Ar b).getLast?:=by
 rw[Ar,Ty,WL];cases h:(b.map Cel.r).getLast? with
 |none=>rw[nL,oD] at h;exact absurd h hb
 |some x=>rfl
def ck{b:List Cel}(h:(Ar b).getLast?=some 10):b≠[]:=fun e=>by rw[e] at h;cases h
def J8(B:Nat)(x:List Dop):Nat:=2*x.length*(22*B+50)
section
variable {w0:World}{F:Nat->Prop}{W:World}{a:TxA}{σ:SKs}{most:Int}{N:Nat}{d:List Cel}
def HZ{S D:Nat->Prop}{x:List Dop}(h:Gq .f w0 F W a σ most d N)(hT:Ee w0)(hG:J3 σ.ks d)(bd:σ.ks.length<=64)(hK:∀k∈σ.ks,EI k)(hx:BE S D W v x)(av:∀y,S y\/D y->¬F y)(hI:∀o∈x,LC o)
 (hl:x.length<=1048576)(e7:d.length<=B)(hB:Rq σ.ks x d.length most->d.length+CU x<=B)(e8:B<=1000000)(hN:N+J8 B x<=1000000000) :
  AB prog 12 [.pointer (some ⟨a.b,0,none⟩),v] (fun v' w'=>v'=zI (EL σ.ks x d.length most)/\KF .f w0 F W w' a σ most (if EL σ.ks x d.length most=0 then CN σ.ks d x else d) (N+J8 B x)/\(EL σ.ks x d.length most=0->J3 σ.ks (CN σ.ks d x))) W:=by
 apply gP;unfold S12;refine AA (Fv h.box.1) ?_;rintro _ _ ⟨rfl,rfl⟩;rename World=>W
 rw[An];refine AS ?_;have gd:Grow W W.drew:=Mod.drew _ _;have hd:=h.grow gd;refine Af (fun _ _=>False) ?_;refine AI ?_;rw[AG,AH];refine AU ⟨hd.box.1.cells 0 _ rfl,fun j hj e=>e⟩ ?_;obtain⟨l1,Fr,bt,c7,hO⟩:=hd.Hi;refine AA (VS hd.box.1 hO) ?_;rintro _ W1 ⟨rfl,g1⟩;have c8:(Bg l1).length=d.length:=by rw[c7,Ar,Iq]
 rw[c8];refine⟨g1.mono fun _ _ h=>h.elim,?_⟩;refine AI ?_;rw[AG,AH];refine AU ⟨hd.box.1.cells 1 _ rfl,fun j hj e=>e⟩ ?_;have h1:=hd.grow g1;have bk:=gd.trans g1;have c9:BE (fun y=>S y/\y<W.heap.size) (fun y=>D y/\y<W.heap.size) W v x:=BB.sub hx (fun y Y hs=>⟨hs,Y⟩) (by decide) fun r o ho=>ho.mod (Mod.refl (fun _=>False) _) (fun _ _ _ h=>h) fun y Y hd=>⟨hd,Y⟩;have bl:=BE.grow c9 bk;refine AA (TB h1.JO.1 bl (hT.grow h1.g) (fun o ho=>(hI o ho).o) hl (by omega)) ?_;rintro _ W2 ⟨rfl,g2⟩;refine⟨g2.mono fun _ _ h=>h.elim,?_⟩;have b8:=bk.trans g2;have h2:=h1.grow g2;have b9:=BE.grow bl g2;rw[Bk];refine AY (fun e0=>?_) fun e0=>⟨rfl,by rw[Bq e0];exact KF.up ⟨F,fun _ h=>.inl h,h2,b8.mono fun _ _ h=>h.elim⟩ (by omega),fun e=>absurd e e0⟩;rw[DN e0,e0];have hF:=(DE hl).1 e0;have hB:=hB hF;have b1:∀o∈x,BY σ.ks o:=fun o ho=>(hF.FM o ho).1;have bn:∀o∈x,EK σ.ks o.set/\HO σ.ks o.patch:=fun o ho=>jv hK (b1 o ho) ⟨fun a ha=>((hI o ho).1 a ha).2,fun c hc=>((hI o ho).2 c hc).2⟩;obtain⟨va,vc,rfl,hm⟩:=b9.shape;simp only[maxLen] at hm;rw[AP];have e9:=b8.size;have b6:∀{F':Nat->Prop} {W':World},(∀y,F' y->F y\/W2.heap.size<=y)->∀y,(S y/\y<W.heap.size)\/(D y/\y<W.heap.size)->¬F' y:=fun ca y Y e=>by
  rcases ca y e with e|e
  .exact av y (Y.imp qj qj) e
  .rcases Y with Y|Y
   .have:=Y.2;omega
   .have:=Y.2;omega
 let G:Nat:=22*B+50
 have cc:J8 B x=2*x.length*G:=rfl;have b7:∀i,i<=x.length->i*G<=x.length*G:=fun i hi=>lW _ hi;have V:∀i,(i+1)*G=i*G+G:=fun i=>by rw[lO,qW]
 have cd:2*x.length*G=x.length*G+x.length*G:=by rw[Nat.mul_assoc,Nat.two_mul]
 refine AX (fun vs W'=>∃ (i:Nat) (m I:List Cel) (F':Nat->Prop),i<=x.length/\vs=[zI (m.length:Int),zI i]/\(∀ y,F' y->F y\/W2.heap.size<=y)/\Gq .f w0 F' W' a σ most (m++I) (N+i * G)/\Mod F W2 W'/\J3 σ.ks (m++I)/\
   m++OH σ.ks I (x.drop i)=OH σ.ks d x/\BW (x.drop i)<=I.length/\I.length<=d.length/\CM d.length ((d.length:Int) - I.length) (x.drop i)/\m.length+I.length<=d.length) (fun vs _=>x.length - De vs 1)
  ⟨0,[],d,F,Nn _,rfl,fun _ h=>.inl h,h2.up (by omega),Mod.refl _ _,hG,rfl,hF.LQ,Mp _,by rw[qE];exact hF.fin,by simp⟩ ?_
 rintro vs W3 ⟨i,m,I,F3,hi,rfl,f3,h3,M3,Q,O,Z,ax,T,U⟩ _;simp only[GC];rw[Am];have z3:=M3.size;have b2:BE (fun y=>S y/\y<W.heap.size) (fun y=>D y/\y<W.heap.size) W3 (.slice va x.length vc) x:=BE.mod b9 M3 (fun y _ Y e=>av y (.inl Y.1) e) (fun y _ Y e=>av y (.inr Y.1) e);refine AF (fun ch=>?_) fun cn=>?_
 .have J:i<x.length:=by omega
  have ba:=b7 (i+1) J;rw[V] at ba;obtain⟨q,r,rfl,hS,hr,hc,a6⟩:=b2.get J;refine AT J (Ah hr (fun j u hu=>by rw[Addr.add_add];exact hc j u hu) ?_);refine BQ hr rfl a6.one fun b W4 hb cv g4 X _=>?_;obtain⟨rv,sv,pv,rfl,o1,o2,o3⟩:=id a6;have h4:=h3.grow g4;have z4:=g4.size;rw[lX J] at O Z T;rw[BW] at Z;rw[CM] at T;rw[OH] at O;have a8:=WJ J;have ak:=b6 (W':=W4) f3;have al:=h3.hl;have an:Mod F W2 W4:=M3.next g4 fun _ _ e=>e.elim;have bb:∀{W5:World},Mod F3 W4 W5->∀(j:Nat) (u:Value),[Value.int .u8 x[i].kind,zI x[i].n,rv,sv,pv][j]?=some u->W5.cell? ((⟨b,0,none⟩:Addr).add j)=some u:=fun hm j u hu=>hm.cell (X j u hu) fun e=>by rw[BJ] at e;have:=(al _ e).2.1;simp only at this;omega
  have liftM:∀{W5:World},Mod F3 W4 W5->Mod F W2 W5:=fun hm=>an.next hm fun y Y e=>by
   rcases f3 y e with e|e
   .exact e
   .omega
  rw[AG];refine AL (X 0 _ rfl) ?_;rw[Aj];rcases b1 x[i] a8 with⟨k,e1,e2,n1,e4⟩|⟨k,e1,e2,e3,n1⟩|⟨k,e1,e2,e3,e4,e5⟩
  .refine AF (fun _=>?_) fun e=>absurd k e;rw[Bq (by omega)] at Z;rw[Bq (by omega),Bq (by omega)] at T;rw[DN k] at O;have en:x[i].n=(x[i].n.toNat:Int):=by omega
   generalize hn:x[i].n.toNat=n at *;rw[AG];refine AL (X 1 _ rfl) ?_;rw[en,AQ,wrap64 (by omega) (by omega),show((m.length:Int)+(n:Int))=((m.length+n:Nat):Int) by omega,AG];refine AL (X 4 _ rfl) ?_;have bp:=(bn x[i] a8).2;refine AA (XZ (i:=m.length) (j:=m.length+n) h4 hT Q bd (by omega) (by rw[Bp];omega) (o3.grow g4 (by decide) fun _ _ h=>h) (fun y Y=>ak y (.inr Y)) bp (by rw[Bp];omega) (by rw[Bp];show N+i*G+22*_+50<=_;have:G=22*B+50:=rfl;omega)) ?_;rintro _ W5 ⟨rfl,F5,f5,h5,M5⟩;rw[AG];refine AL (bb M5 1 _ rfl) ?_;rw[en,AQ,wrap64 (by omega) (by omega),show((m.length:Int)+(n:Int))=((m.length+n:Nat):Int) by omega,AQ,AO (by omega)];have ay:NJ (m++I) m.length (m.length+n) (Cg σ.ks x[i].patch)=(m++(I.take n).map (Cg σ.ks x[i].patch))++I.drop n:=by
    unfold NJ;rw[oX rfl,nd,mJ (by omega),show m.length+n-m.length=n by omega,oY rfl,oH,mW (by omega),show m.length+n-m.length=n by omega,ky]
   have bs:=Q.NJ bd bp (i:=m.length) (j:=m.length+n) (by omega);rw[ay] at h5 bs;have ll:(m++(I.take n).map (Cg σ.ks x[i].patch)).length=m.length+n:=by rw[Bp,Iq,Lc];omega
   refine⟨⟨i+1,m++(I.take n).map (Cg σ.ks x[i].patch),I.drop n,F5,J,by rw[ll],fun y Y=>?_,h5.up ?_,liftM M5,bs,by rw[Of];exact O,by rw[I3];omega,by rw[I3];omega,?_,by rw[ll,I3];omega⟩,by rw[BD,BD];omega⟩
   .rcases f5 y Y with e|e
    .exact f3 y e
    .exact .inr (by omega)
   .rw[V,Bp];show _<=N+(i*G+(22*B+50));omega
   .rw[I3,show(d.length:Int)-((I.length-n:Nat):Int)=(d.length:Int)-I.length+x[i].n by omega];exact T
  .refine AF (fun e=>by omega) fun _=>?_;rw[Aj];refine AF (fun _=>?_) fun e=>absurd k e;rw[Bq (by omega)] at Z;rw[Bq (by omega),DN k] at T;rw[Bq (by omega),Bq (by omega)] at O;have en:x[i].n=(x[i].n.toNat:Int):=by omega
   generalize hn:x[i].n.toNat=n at *;have a7:n<I.length:=by omega
   rw[AG];refine AL (X 1 _ rfl) ?_;rw[en,AQ,wrap64 (by omega) (by omega),show((m.length:Int)+(n:Int))=((m.length+n:Nat):Int) by omega];refine AA (XU (i:=m.length) (j:=m.length+n) h4 (by omega) (by rw[Bp];omega) (by rw[Bp];omega) (by have:G=22*B+50:=rfl;omega)) ?_;rintro _ W5 ⟨rfl,F5,f5,h5,M5⟩;rw[AQ,AO (by omega)];have ay:(m++I).take m.length++(m++I).drop (m.length+n)=m++I.drop n:=by
    rw[oX rfl,oH,mW (by omega),show m.length+n-m.length=n by omega,ky]
   rw[ay] at h5;have bc:I≠[]:=fun e=>by rw[e] at a7;simp at a7
   have Ir:I.drop n≠[]:=fun e=>by have:=kZ List.length e;rw[I3] at this;simp at this;omega
   have bx:=Q.last;rw[Oh bc] at bx;refine⟨⟨i+1,m,I.drop n,F5,J,rfl,fun y Y=>?_,h5.up ?_,liftM M5,⟨fun c hc=>Q.set c ?_,?_⟩,O,by rw[I3];omega,by rw[I3];omega,?_,by rw[I3];omega⟩,by rw[BD,BD];omega⟩
   .rcases f5 y Y with e|e
    .exact f3 y e
    .exact .inr (by omega)
   .rw[V];show _<=N+(i*G+(22*B+50));omega
   .rcases C3.1 hc with hc|hc
    .exact jS _ hc
    .exact kI _ (iV hc)
   .rw[Oh Ir,Ar,mB,oV,Bq (by rw[Iq];omega)];exact bx
   .rw[I3,show(d.length:Int)-((I.length-n:Nat):Int)=(d.length:Int)-I.length+x[i].n by omega];exact T.2
  .refine AF (fun e=>by omega) fun _=>?_;rw[Aj];refine AF (fun e=>by omega) fun _=>?_;rw[DN k] at Z T;rw[Bq (by omega),DN k] at O;rw[AQ,AO (by omega)];exact⟨⟨i+1,m,I,F3,J,rfl,f3,h4.up (by rw[V];omega),an,Q,O,by omega,ax,T.2,U⟩,by rw[BD,BD];omega⟩
 obtain rfl:i=x.length:=by omega
 rw[nD,OH] at O;rw[O] at h3 Q;clear O Z ax T U;have cx:∀y:List Dop,∀o∈y,o.kind=2->o.Ag.length<=CU y:=by
  intro y;induction y with
  |nil=>intro o ho;cases ho
  |cons o' y ih=>
   intro o ho hk;rw[CU];rcases K8.1 ho with rfl|ho
   .rw[Bq (by omega),DN hk];omega
   .have:=ih o ho hk;omega
 rw [AP];refine AX (fun vs W'=>∃ (i:Nat) (m I:List Cel) (F':Nat->Prop),i<=x.length/\vs=[zI (m.length:Int),zI i]/\(∀ y,F' y->F y\/W2.heap.size<=y)/\Gq .f w0 F' W' a σ most (m++OH σ.ks I (x.drop i)) (N+x.length * G+i * G)/\Mod F W2 W'/\J3 σ.ks (m++OH σ.ks I (x.drop i))/\
   m++CN σ.ks I (x.drop i)=CN σ.ks d x/\BW (x.drop i)<=I.length/\I.length<=d.length/\CM d.length ((d.length:Int) - I.length) (x.drop i)/\(I≠[]->(Ar I).getLast?=some 10)/\m.length+I.length+CU (x.drop i)<=d.length+CU x+BW (x.drop i)) (fun vs _=>x.length - De vs 1)
  ⟨0,[],d,F3,Nn _,rfl,f3,h3.up (by omega),M3,Q,rfl,hF.LQ,Mp _,by rw[qE];exact hF.fin,fun _=>hG.last,by simp⟩ ?_
 clear b2 Q h3 f3 M3 z3;rintro vs W3 ⟨i,m,I,F3,hi,rfl,f3,h3,M3,Q,O,Z,ax,T,a1,U⟩ _;simp only[GC];rw[Am];have z3:=M3.size;have b2:BE (fun y=>S y/\y<W.heap.size) (fun y=>D y/\y<W.heap.size) W3 (.slice va x.length vc) x:=BE.mod b9 M3 (fun y _ Y e=>av y (.inl Y.1) e) (fun y _ Y e=>av y (.inr Y.1) e);refine AF (fun ch=>?_) fun cn=>?_;rotate_left
 .obtain rfl:i=x.length:=by omega
  rw[nD] at h3 O Q;rw[OH] at h3 Q;rw[CN] at O;rw[O] at h3 Q;refine⟨trivial,KF.next (fun _ h=>.inl h) (b8.mono fun _ _ h=>h.elim) (KF.up ⟨F3,f3,h3,M3⟩ (by rw[cc,cd];omega)),fun _=>Q⟩
 have J:i<x.length:=by omega
 have ba:=b7 (i+1) J;rw[V] at ba;obtain⟨q,r,rfl,hS,hr,hc,a6⟩:=b2.get J;refine AT J (Ah hr (fun j u hu=>by rw[Addr.add_add];exact hc j u hu) ?_);refine BQ hr rfl a6.one fun b W4 hb cv g4 X _=>?_;obtain⟨rv,sv,pv,rfl,o1,o2,o3⟩:=id a6;have h4:=h3.grow g4;have z4:=g4.size;rw[lX J] at O Z T h4 Q U;rw[BW] at Z U;rw[CU] at U;rw[CM] at T;rw[OH] at h4 Q;rw[CN] at O;have a8:=WJ J;have ak:=b6 (W':=W4) f3;have al:=h3.hl;have an:Mod F W2 W4:=M3.next g4 fun _ _ e=>e.elim;rcases b1 x[i] a8 with⟨k,e1,e2,n1,e4⟩|⟨k,e1,e2,e3,n1⟩|⟨k,e1,e2,e3,e4,e5⟩
 .simp only[k,show ¬(1:Int)=2 by decide,show ¬(1:Int)=3 by decide,lT,lE] at Z U T h4 Q O;have en:x[i].n=(x[i].n.toNat:Int):=by omega
  generalize hn:x[i].n.toNat=n at *;have ll:(m++(I.take n).map (Cg σ.ks x[i].patch)).length=m.length+n:=by rw[Bp,Iq,Lc];omega
  refine AV (fun vs W'=>vs=[zI ((m.length+n:Nat):Int)]/\W'=W4) ?_ ?_
  .rintro _ _ ⟨rfl,rfl⟩ _;rw[AG];refine AL (X 0 _ rfl) ?_;rw[Aj];refine AF (fun e=>by omega) fun _=>?_;rw[Nr,AQ,AO (by omega)];refine⟨⟨i+1,m++(I.take n).map (Cg σ.ks x[i].patch),I.drop n,F3,J,by rw[ll],f3,by rw[Of];exact h4.up (by rw[V];omega),an,by rw[Of];exact Q,by rw[Of];exact O,by rw[I3];omega,by rw[I3];omega,?_,fun c4=>?_,by rw[ll,I3];omega⟩,by rw[BD,BD];omega⟩
   .rw[I3,show(d.length:Int)-((I.length-n:Nat):Int)=(d.length:Int)-I.length+x[i].n by omega];exact T
   .have a7:n<I.length:=Nat.lt_of_not_le fun e=>c4 (mW e);rw[Ar,mB,oV,Bq (by rw[Iq];omega)];exact a1 fun e=>by rw[e] at a7;simp at a7
  .rw[AG];refine AL (X 0 _ rfl) ?_;rw[Aj];refine AF (fun _=>?_) fun e=>absurd k e;rw[AG];refine AL (X 1 _ rfl) ?_;rw[en,AQ,wrap64 (by omega) (by omega)];exact⟨by rw[show((m.length:Int)+(n:Int))=((m.length+n:Nat):Int) by omega],rfl⟩
 .simp only[k,show ¬(3:Int)=2 by decide,show ¬(3:Int)=1 by decide,lT,lE] at Z U T h4 Q O;have en:x[i].n=(x[i].n.toNat:Int):=by omega
  generalize hn:x[i].n.toNat=n at *;have a7:n<I.length:=by omega
  refine AV (fun vs W'=>vs=[zI (m.length:Int)]/\W'=W4) ?_ ?_
  .rintro _ _ ⟨rfl,rfl⟩ _;rw[AG];refine AL (X 0 _ rfl) ?_;rw[Aj];refine AF (fun e=>by omega) fun _=>?_;rw[Nr,AQ,AO (by omega)];refine⟨⟨i+1,m,I.drop n,F3,J,rfl,f3,h4.up (by rw[V];omega),an,Q,O,by rw[I3];omega,by rw[I3];omega,?_,fun c4=>?_,by rw[I3];omega⟩,by rw[BD,BD];omega⟩
   .rw[I3,show(d.length:Int)-((I.length-n:Nat):Int)=(d.length:Int)-I.length+x[i].n by omega];exact T.2
   .rw[Ar,mB,oV,Bq (by rw[Iq];omega)];exact a1 fun e=>by rw[e] at a7;simp at a7
  .rw[AG];refine AL (X 0 _ rfl) ?_;rw[Aj];exact AF (fun e=>by omega) fun _=>⟨rfl,rfl⟩
 .simp only[k,show ¬(2:Int)=3 by decide,show ¬(2:Int)=1 by decide,lT,lE] at Z U T h4 Q O;obtain⟨sG,_⟩:=bn x[i] a8;have da:=K0 k sG.1 (hF.pl x[i] a8);have e6:=cx x x[i] a8 k;have bc:I≠[]:=fun e=>T.1 (by rw[e];simp);have b0:=WY (ks:=σ.ks) (n:=d.length) (x:=x.drop (i+1)) (d:=I) (fun o ho=>b1 o (iV ho)) (by omega) ax T.2 (a1 bc);have ea:=ab (ks:=σ.ks) (x:=x.drop (i+1)) (d:=I);obtain⟨ra,rc,dk,dT⟩:=o1.shape;simp only[maxLen] at dT;refine AV (fun vs W'=>vs=[zI (m.length:Int)]/\W'=W4) ?_ ?_
  .rintro _ _ ⟨rfl,rfl⟩ _;rename World=>W4
   rw[AG];refine AL (X 0 _ rfl) ?_;rw[Aj];refine AF (fun _=>?_) fun e=>absurd k e;rw[AG];refine AL (X 2 _ rfl) ?_;rw[AG];refine AL (X 3 _ rfl) ?_;rw[Nr];refine AA (Ph (at':=m.length) (S:=fun y=>D y/\y<W.heap.size) h4 hT (by rw[Bp];omega) (o1.grow g4 (by decide) fun _ _ h=>h) (o2.grow g4 (by decide) fun _ _ h=>h) (fun y Y=>ak y (.inr Y)) e1 (EN.2 (sG.part false).1) sG.2 sG.len (by rw[Bp];omega) (by have:G=22*B+50:=rfl;omega)) ?_;rintro _ W5 ⟨rfl,F5,f5,h5,M5⟩;rw[AG];refine AL (M5.cell (X 2 _ rfl) fun e=>by rw[BJ] at e;have:=(al _ e).2.1;simp only at this;omega) ?_;rw[dk,AP,AQ,wrap64 (by omega) (by omega),show((m.length:Int)+(x[i].Ag.length:Int))=((m.length+x[i].Ag.length:Nat):Int) by omega,AQ,AO (by omega)];have c6:(m++OH σ.ks I (x.drop (i+1))).take m.length++x[i].Ag.map (cellOf σ.ks x[i].set)++(m++OH σ.ks I (x.drop (i+1))).drop m.length=(m++x[i].Ag.map fun r=>(⟨r,x[i].set⟩:Cel))++OH σ.ks I (x.drop (i+1)):=by
    rw[oX rfl,oY rfl,da]
   rw[c6] at h5;have ll:(m++x[i].Ag.map fun r=>(⟨r,x[i].set⟩:Cel)).length=m.length+x[i].Ag.length:=by rw[Bp,Iq]
   refine⟨⟨i+1,m++x[i].Ag.map fun r=>(⟨r,x[i].set⟩:Cel),I,F5,J,by rw[ll],fun y Y=>?_,h5.up ?_,?_,⟨fun c hc=>?_,?_⟩,by rw[Of];exact O,by omega,ax,T.2,a1,by rw[ll];omega⟩,by rw[BD,BD];omega⟩
   .rcases f5 y Y with e|e
    .exact f3 y e
    .exact .inr (by omega)
   .rw[V];show _<=N+x.length*G+(i*G+(22*B+50));omega
   .refine an.next M5 fun y Y e=>?_;rcases f3 y e with e|e
    .exact e
    .omega
   .rcases C3.1 hc with hc|hc
    .rcases C3.1 hc with hc|hc
     .exact Q.set c (jS _ hc)
     .obtain⟨r,_,rfl⟩:=kT.1 hc;exact sG
    .exact Q.set c (kI _ hc)
   .rw[Oh (ck b0)];exact b0
  .rw[AG];refine AL (X 0 _ rfl) ?_;rw[Aj];exact AF (fun e=>by omega) fun _=>⟨rfl,rfl⟩
end
variable {v0 v1 v2 v3 v4 v5 v6 v7 v8 v9:Value}{K:Cont}{w:World}
def gI(h: AB prog 41 [v0] (fun c7 w1=>CA c7 fun t22=>AD t22 (K (.tuple #[(.slice none 0 0),(zI 1)]) w1) (AK v0 fun t25=>AM 2 t25 fun c8=>AJ c8 (fun c9 w2=>AB prog 47 [c9,v1,v2] (fun av w3=>AR 0 av fun ca=>AR 1 av fun ax=>Dp .i64 ax (zI 0) fun cc=>AD cc (K (.tuple #[(.slice none 0 0),ax]) w3) (AK v0 fun cd=>AM 3 cd fun t39=>AJ t39 (fun ch w4=>AB prog 48 [ch,v1,v2] (fun ay w5=>AR 0 ay fun b0=>AR 1 ay fun _t45=>Au [6,9,10] [[],[0],[0,1],[0,1,2],[],[],[4,5],[],[],[4,5,6,7,8],[0,1,2,3,4,5,6,7,8,9],[0,1,2,3,4,5,6,7,8,9,10],[0,1,2,3,4,5,6,7,8,9,10,11],[0,1,2,3,4,5,6,7,8,9,10,11],[0,1,2,3,4,5,6,7,8,9,10,11,12],[0,1,2,3,4,5,6,7,8,9,10,11,12,13,14]] w5.drew (fun M St=>AK v0 fun cn=>AM 4 cn fun cv=>As (St 3) cv fun t50=>AB prog 50 [v0,v1] (fun t53 w6=>Mod (M 6) w5.drew w6/\ AB prog 50 [v0,v2] (fun cx w7=>Mod (M 9) w6 w7/\ AB prog 49 [t50,t53,cx] (fun b1 w8=>Mod (M 10) w7 w8/\ AR 0 b1 fun da=>AR 1 b1 fun _t59=>Ac b0 fun dk=>Ap [da,(.slice none 0 0),(zI 0)] (fun vs T w9=>∀_:Env,BU .i64 (nth vs 2) dk fun dT=>AD dT (BM 2 b0 (nth vs 2) fun e1=>Aa 2 e1 (fun e2 e3=>Al 108 [(zI 0),(zI 0)] (fun U e4=>Ab 2 U e2 (fun V=>Au [6] [[],[0],[0,1],[0,1,2],[],[4],[0,1,2,3,4,5],[0,1,2,3,4,5,6],[0,1,2,3,4,5,6,7],[0,1,2,3,4,5,6,7],[0,1,2,3,4,5,6,7,8],[0,1,2,3,4,5,6,7,8,9,10]] V.drew (fun e5 Q=>AK v0 fun e6=>AM 5 e6 fun e7=>As (Q 3) e7 fun t70=>AM 1 U fun e8=>As (Q 5) e8 fun e9=>AB prog 51 [t70,e9] (fun b2 b6=>Mod (e5 6) V.drew b6/\ AR 0 b2 fun b7=>AR 1 b2 fun _t75=>AM 0 U fun t76=>AJ t76 (fun t77 ea=>Ap [(nth vs 0),(nth vs 1),(zI 0)] (fun i q j=>∀_:Env,BU .i64 (nth i 2) t77 fun ec=>AD ec (Ao (fun B ed=>∀_:Env,Ao (fun b8 ee=>∀_:Env,Aa 2 (nth B 0) (fun ef eh=>Ba 45 2 1 [(.int .i32 0),(.slice none 0 0)] [(0,ef)] (fun ej ek=>runK prog (Builtin.append_ #[40,40] 40 [(nth i 1),ej].toArray) (fun b9 en=>AW .i64 (nth i 2) (zI 1) fun ba=>q [(nth b8 0),b9,ba] en) ek) eh) ee) (fun X=>AM 0 (nth B 0) fun eo=>AJ eo (fun ep m=>Cu .i32 ep (.int .i32 10) fun er=>AD er (Au [4,6] [[],[0],[0,1],[],[3],[0,1,2],[0,1,2,5],[0,1,2,3,4,5,6]] m.drew (fun O bb=>BM 1 (nth i 0) (zI 0) fun et=>As (bb 2) et fun bc=>AM 1 (nth B 0) fun bd=>(runK prog (Instr.sliceAt 50 (nth i 0) (some (zI 1)) none none) (fun eu Y=>Mod (O 4) m.drew Y/\ Av bd bc (fun bk=>Mod (O 6) Y bk/\ X [eu] bk) Y) m.drew)/\ (Av bd bc (fun Z=>Mod (O 6) m.drew Z/\ runK prog (Instr.sliceAt 50 (nth i 0) (some (zI 1)) none none) (fun a1 bl=>Mod (O 4) Z bl/\ X [a1] bl) Z) m.drew))) (X [(nth i 0)] m)) ed)) (fun J=>Au [6,8,9] [[],[],[1],[0,1,2],[0,1,2,3],[],[5],[0,1,2,3,4,5,6],[],[0,1,2,3,4,5,6,7,8]] j.drew (fun o bn=>Ac (nth i 1) fun ew=>BM 1 ca ew fun ey=>As (bn 4) ey fun bp=>(AB prog 52 [b7] (fun eA a6=>Mod (o 6) j.drew a6/\ Ai [(0,1),(1,1)] [(.int .i32 0),(.slice none 0 0)] [(0,bp),(1,eA)] fun eB=>Al 45 [(.int .i32 0),(.slice none 0 0)] (fun bs a7=>Mod (o 8) a6 a7/\ Ab 2 bs eB (fun bx=>Mod (o 9) a7 bx/\ J [bs] bx) a7) a6) j.drew)/\ (Al 45 [(.int .i32 0),(.slice none 0 0)] (fun I a8=>Mod (o 8) j.drew a8/\ AB prog 52 [b7] (fun ak al=>Mod (o 6) a8 al/\ Ai [(0,1),(1,1)] [(.int .i32 0),(.slice none 0 0)] [(0,bp),(1,ak)] fun an=>Ab 2 I an (fun c4=>Mod (o 9) al c4/\ J [I] c4) al) a8) j.drew)))) (AW .i64 (nth vs 2) (zI 1) fun c6=>T [(nth i 0),(nth i 1),c6] j)) ea) b6) V.drew)) e4) e3) w9) (K (.tuple #[(nth vs 1),(zI 0)]) w9)) w8) w7) w6) w5.drew)) w4) w3)) w2) w1)) w):AB prog 15 [v0,v1,v2] K w:=cO (aN (aO (aN (aO aE .nil)) (aN (aO (aN (aO aE .nil)) (aN (aO (.dc [6,9,10] [[],[0],[0,1],[0,1,2],[],[],[4,5],[],[],[4,5,6,7,8],(aR 10),(aR 11),(aR 12),(aR 12),(aR 13),(aR 15)] []) (aN (aO (aN (.node [12,14,62] [(12,12),(14,14),(16,19),(62,102)] (aN (aO aE (aO (aN (aO (.dc [6] [[],[0],[0,1],[0,1,2],[],[4],(aR 6),(aR 7),(aR 8),(aR 8),(aR 9),(aR 11)] []) (aN (.node [12,14,78] [(12,12),(14,14),(19,19),(78,101)] (aN (aO aE (aO (.cut [19] [(19,19),(80,87)] (.dt [6,8,9] [[],[],[1],[0,1,2],(aR 4),[],[5],(aR 7),[],(aR 9)] [[6]] (.op 0 (.op 1 (.op 2 (.op 3 (.op 4 (.op 5 (.br (.op 6 (.op 7 (.op 8 (.op 9 .nil)))) (.op 8 (.op 6 (.op 7 (.op 9 .nil)))))))))))) (.cut [12] [(12,12),(88,96)] (aN (aO (.dt [4,6] [[],[0],[0,1],[],[3],[0,1,2],[0,1,2,5],(aR 7)] [] (.op 0 (.op 1 (.op 2 (.op 3 (.op 5 (.br (.op 4 (.op 6 (.op 7 .nil))) (.op 6 (.op 4 (.op 7 .nil)))))))))) .nil)) .nil)) .nil))) .nil)))) .nil))) .nil)) aE)))))))) func15 h (by kernel_rfl)
end
def Hl(A B:Nat)(W:World)(ov:Value)(l:List Cel):Prop:=∃D:Nat->Prop,AE B 45 2 (LK D) W ov l/\∀x,D x->A<=x/\x<W.heap.size/\ov.ownBlock≠some x
def Hl.nil{A B:Nat}:Hl A B W (.slice none 0 0) []:=⟨fun _=>False,AE.nil,fun _ h=>h.elim⟩
def Hl.grow{A B:Nat}{l:List Cel}(h:Hl A B W v l)(g:Grow W W'):Hl A B W' v l:=by
 obtain⟨D,h1,j⟩:=h;have:=g.size;exact⟨D,AE.mod h1 g (fun _ _ h=>h) fun r x _ i=>i.mod g (fun _ _ _ h=>h) fun _ _ h=>h,fun x i=>⟨(j x i).1,by have:=(j x i).2.1;omega,(j x i).2.2⟩⟩
def Hl.rd{A B:Nat}{l:List Cel}(h:Hl A B W v l)(j:A<=B):Bn (fun x=>A<=x/\x<W.heap.size) (fun x=>A<=x/\x<W.heap.size) W v l:=by
 obtain⟨D,h1,m⟩:=h;exact BB.sub (AE.sl h1) (fun x i h=>⟨by have:=h.1;omega,i⟩) (by decide) fun r x i=>i.mod (Mod.refl (fun _=>False) _) (fun _ _ _ h=>h) fun b hb h=>⟨(m b h).1,hb⟩
def NX{A B:Nat}{l:List Cel}{c:Cel}(h:Hl A B W fr l)(T:B<=W.heap.size)(O:CR D' W sv c.set)(q:∀x,D' x->A<=x/\x<W.heap.size/\fr.ownBlock≠some x)(hl:l.length<=1099511627776)
 (U:∀i W',Hl A B W' i (l++[c])->Mod (fun b=>fr.ownBlock=some b) W W'->(∀g,i.ownBlock=some g->fr.ownBlock=some g\/W.heap.size<=g)->K i W') :
  Ba 45 2 1 [(.int .i32 0),(.slice none 0 0)] [(0,.agg #[.int .i32 c.r,sv])] (fun s Q=>runK prog (Builtin.append_ #[40,40] 40 [fr,s].toArray) K Q) W:=by
 obtain⟨D,h1,V⟩:=h;obtain⟨sa,sc,I,_⟩:=O.shape;have hb:∀x,(D x\/D' x)->A<=x/\x<W.heap.size/\fr.ownBlock≠some x:=fun x j=>j.elim (V x) (q x);have J:AE B 45 2 (LK fun x=>D x\/D' x) W fr l:=AE.mod h1 (Mod.refl (fun _=>False) _) (fun _ _ h=>h) fun r x _ j=>j.mod (Mod.refl (fun _=>False) _) (fun _ _ _ h=>h) fun _ _ h=>.inl h;have X:sv.cells=#[sv]:=by rw[I];rfl
 refine Da MD J T (cs:=[.int .i32 c.r,sv]) (x:=c) (DC (v:=.agg #[.int .i32 c.r,sv]) rfl (by decide) rfl rfl) rfl ⟨sv,rfl,O.sub (fun _ _ h=>.inr h) (by decide) fun _ _ h=>h⟩ (fun _ _ _ h=>h.one) (fun Q w2 r y hz hm Y=>Y.mod hm (fun b _ j e=>?_) fun _ _ h=>h) (by omega) (by simp only[maxLen];omega) fun i W' o m n=>?_
 .obtain⟨_,Z,t3⟩:=hb b j;rcases e with e|e
  .exact t3 e
  .omega
 .refine U i W' ⟨_,o,fun x j=>?_⟩ m n;obtain⟨t1,Z,t3⟩:=hb x j;have zm:=m.size;refine⟨t1,by omega,fun e=>?_⟩;rcases n x e with e|e
  .exact t3 e
  .omega
def Di.fO{g:AvT α}{b bt N:Nat}{l:List α}(h:Di g F C W b bt l N):l.length<=N:=by
 obtain⟨A,T,h1,i,j,rfl,m⟩:=h.EH;have o:=Ew (A:=A) rfl i j;have q:=Tr.SK T;omega
def Tv(c:Cel)(d:List Cel):CK (c::d)=(if c.r=10 then[c.set] else[])++CK d:=by by_cases h:c.r=10<;>simp[CK,h]
section
variable {w0:World}{F:Nat->Prop}{W:World}{a:TxA}{σ:SKs}{most:Int}{N:Nat}{d:List Cel}
def MQ{i j:Nat}(h:Gq .f w0 F W a σ most d N)(c6:i<=j)(hj:j<=d.length)(hG:∀c∈d,EK σ.ks c.set)(hz:d.length<=10000000)(hN:N<=1000000000) :
  AB prog 15 [.pointer (some ⟨a.b,0,none⟩),zI (i:Int),zI (j:Int)] (fun v' w'=>∃cv,v'=.tuple #[cv,zI 0]/\Hl W.heap.size W.heap.size w' cv ((d.take j).drop i)/\Grow W w') W:=by
 have h0:=h;obtain⟨z,l2,t,f,eI,hM,eL,hu,hh,hB,kg⟩:=h;have eN:z.length=d.length:=by rw[<-eI,Iq]
 have dk:(Ar d).length=d.length:=Iq _;have eR:=kZ List.length hu;rw[Iq,eN] at eR;apply gI;refine AA (Fv hM.box.1) ?_;rintro _ _ ⟨rfl,rfl⟩;rename World=>W
 rw[An];refine AS ?_;refine AI ?_;refine Bh (hM.box.1.cells 2 _ rfl) ?_;obtain⟨l1,Fr,br,e5,c7,_,_⟩:=hM.Sb;have kh:(Bg l1).length=d.length:=by rw[e5,dk]
 have k5:=c7.fO;refine AA (Uo (i:=i) (j:=j) c7 (by omega) c6 (by omega) (by omega) (by omega)) ?_;rintro _ W1 ⟨lv,rfl,oL,g1⟩;rw[e5] at oL;refine BO ?_;refine Nh ?_;have e6:=hM.grow g1;refine AI ?_;refine Bh (e6.box.1.cells 3 _ rfl) ?_;obtain⟨Fs,bs,hD,_,_⟩:=e6.RE;have k6:Ei l2=d.length:=by rw[Du,eR]
 have ki:=Spn.FZ eL;refine AA (J7 (i:=i) (j:=j) hD (by omega) c6 (by omega) (by omega) (by omega)) ?_;rintro _ W2 ⟨rv,rfl,oR,g2⟩;refine BO ?_;have eX:=Spn.G8 eL i j;have fa:(Spn.kd.over l2 i j).flatMap Spn.u=((z.map Prod.snd).take j).drop i:=by rw[Spn.ED.over,hu]
 have ak:((Spn.kd.over l2 i j).flatMap Spn.u).length=j-i:=by rw[fa,I3,Lc,Iq,eN];omega
 have e7:=Spn.FZ eX;rw [ak] at e7;generalize Spn.kd.over l2 i j=row at *;have hE:=e6.grow g2;have gd:Grow W2 W2.drew:=Mod.drew _ _;have b1:=hE.grow gd;refine Af (fun _ _=>False) ?_;refine AI ?_;rw [AG,AH];refine AU ⟨b1.box.1.cells 4 _ rfl,fun j hj e=>e⟩ ?_;have fo:=(g1.trans g2).trans gd;refine AA (HE b1.box.1 (c7.grow fo) (i:=i) (by omega) (by omega)) ?_;rintro _ W3 ⟨rfl,g3⟩;refine ⟨g3.mono fun _ _ h=>h.elim,?_⟩;have fs:=b1.grow g3;refine AA (HE fs.box.1 ((c7.grow fo).grow g3) (i:=j) (by omega) (by omega)) ?_;rintro _ W4 ⟨rfl,g4⟩;refine ⟨g4.mono fun _ _ h=>h.elim,?_⟩;have fv:=fs.grow g4;rw [e5];obtain ⟨Fp,Cp,bp,hF,_,_⟩:=fv.WO;have hI:BX ((Ar d).take i)<=BX ((Ar d).take j):=mr _ (by
  rw [<-lA c6,<-mf];exact nU _ _)
 have hK:BX ((Ar d).take j)<=BX (Ar d):=mr _ (nU _ _);have kj:=Dl (Ar d);refine AA (SX hF (by omega) hI (by rw [EM];exact hK) (by rw [EM];omega) (fun x I=>by
  obtain ⟨c,hc,rfl⟩:=kT.1 I;have:=(hG c (lx.1 hc).1).len;omega)) ?_
 rintro _ U ⟨pv,Wp,rfl,gA,gB,oP⟩;have e8:=gA.trans gB;refine⟨e8.mono fun _ _ h=>h.elim,?_⟩;refine BO ?_;have ga:=(gd.trans g3).trans g4;have b2:=ga.trans e8;have hL:=(g1.trans g2).trans b2;have hQ:=fv.grow e8;have z1:=g1.size;have z2:=g2.size;have kk:=ga.size;have zA:=gA.size;have zB:=gB.size;have gb:((CK d).take (BX ((Ar d).take j))).drop (BX ((Ar d).take i))=CK ((d.take j).drop i):=by
  rw[(DX (d.take j) i).2,(DX d j).1,show Ar (d.take j)=(Ar d).take j from lu,mf,lA c6]
 rw[gb] at oP;have hP:BB (fun x=>W.heap.size<=x/\x<U.heap.size) 1 (Cw fun x=>W.heap.size<=x/\x<U.heap.size) U pv (CK ((d.take j).drop i)):=
  BB.sub (AE.sl oP) (fun x I h=>⟨by have:=h.1;omega,I⟩) (by decide) fun r x I=>BF.rsub I fun y hy h=>⟨by have:=h.1;omega,hy⟩
 have hS:BB (fun x=>W.heap.size<=x/\x<U.heap.size) 1 Bz U lv (((Ar d).take j).drop i):=BB.grow (BB.sub (AE.sl oL) (fun x I h=>⟨h.1,by have:=g2.size;have:=b2.size;omega⟩) (by decide) fun _ _ h=>h) (g2.trans b2) (by decide) fun _ _ h=>h;have gf:BB (fun x=>W.heap.size<=x/\x<U.heap.size) 2 Dt U rv row:=BB.grow (BB.sub (AE.sl oR) (fun x I h=>⟨by have:=h.1;omega,by have:=b2.size;omega⟩) (by decide) fun _ _ h=>h) b2 (by decide) fun _ _ h=>h;clear oP oL oR
 let B:Nat->Nat:=fun m=>((row.take m).flatMap Spn.u).length
 have b6:∀(m:Nat) (hm:m<row.length) (q:Nat),q<row[m].n->∃c,d[i+(B m+q)]?=some c/\(c.r≠10->f row[m].id=c.set)/\i+(B m+q)<j/\0<Spn.rn row[m].id none (z.map Prod.snd):=by
  intro m hm q hq;have e1:(row.flatMap Spn.u)[B m+q]?=some row[m].id:=by
   have:row=row.take m++(row[m]::row.drop (m+1)):=by rw[<-lX hm,S6]
   conv=>lhs;rw[this]
   rw[mH,kO (by show B m<=_;omega),show B m+q-((row.take m).flatMap Spn.u).length=q by show B m+q-B m=q;omega,lQ,Q0 (by rw[Spn.u,lZ];exact hq),Spn.u,nR,DN hq]
  have e9:=(Ad.1 e1).1;rw[fa,ly,mE,DN (by rw[ak] at e9;omega),lP] at e1;rw[ak] at e9;cases c8:z[i+(B m+q)]? with
  |none=>rw[c8] at e1;cases e1
  |some p=>
   rw[c8,mo,i6] at e1;have hp:=lS c8;refine⟨p.1,by rw[<-eI,lP,c8];rfl,fun hT=>?_,by omega,?_⟩
   .rw[<-e1];exact(hB p hp).2 hT
   .rw[<-e1];exact Spn.JD (kT.2 ⟨p,hp,rfl⟩) (by simp)
 have b7:∀m (hm:m<row.length),B (m+1)=B m+row[m].n:=fun m hm=>by
  show((row.take (m+1)).flatMap Spn.u).length=_;rw[No,By hm,mH,Bp];simp[Spn.u,B]
 have ea:B row.length=j-i:=by show((row.take row.length).flatMap Spn.u).length=_;rw[PF,ak]
 let GS:Nat->Value->Value->World->Prop:=fun e pv ov W'=>Grow U W'/\Hl W.heap.size U.heap.size W' ov ((d.take (i+e)).drop i)/\BB (fun x=>W.heap.size<=x/\x<U.heap.size) 1 (Cw fun x=>W.heap.size<=x/\x<U.heap.size) W' pv (CK ((d.take j).drop (i+e)))
 obtain⟨qa,qc,gg,_⟩:=gf.shape;have gl:Ac rv=Ac (.slice qa row.length qc):=by rw[gg]
 rw[gl,AP];refine AX (fun vs W'=>∃(m:Nat) (pv ov:Value),m<=row.length/\vs=[pv,ov,zI m]/\GS (B m) pv ov W') (fun vs _=>row.length-De vs 2) ⟨0,pv,_,Nn _,rfl,Mod.refl _ _,by show Hl _ _ _ _ ((d.take (i+0)).drop i);rw[lD,List.drop_take_self];exact Hl.nil,hP⟩ ?_;rintro vs W6 ⟨m,hV,gm,hm,rfl,g6,o6,p6⟩ _;simp only[GC];refine Hj (fun e9=>?_) fun kl=>?_;rotate_left
 .obtain rfl:m=row.length:=by omega
  rw[ea,show i+(j-i)=j by omega] at o6;obtain⟨D,q1,q2⟩:=o6;exact⟨gm,rfl,⟨D,q1.base fun g hg=>by have:=(AE.Ax q1 g hg).1;omega,q2⟩,hL.trans g6⟩
 have a6:m<row.length:=by omega
 have hW:=gf.grow g6 (by decide) fun _ _ h=>h;subst gg;obtain⟨p,r,rfl,_,hr,hc,rfl⟩:=hW.get a6;refine AT a6 (Ah (vs:=row[m].cells) rfl (fun j u hu=>by rw[Addr.add_add];exact hc j u hu) ?_);refine Bx.new (vs:=row[m].cells) rfl rfl (Spn.one _) fun km W7 k7 g7 hX=>?_;have gw:Grow W7 W7.drew:=Mod.drew _ _;have ec:=g7.trans gw;have hY:=g6.trans ec;have gW:=hQ.grow hY;have dT:=hX.grow gw;have ed:=Spn.Ic eX row[m] (WJ a6);obtain⟨_,_,_,_,al⟩:=b6 m a6 0 ed;refine Af (fun _ _=>False) ?_;refine AI ?_;rw[AG,AH];refine AU ⟨gW.box.1.cells 5 _ rfl,fun j hj e=>e⟩ ?_;rw[AG,AH];refine AU ⟨dT.cells 1 _ rfl,fun j hj e=>e⟩ ?_;obtain⟨Ft,h3,_,_⟩:=gW.Qs;obtain⟨d1,d2⟩:=hh.idle (.inl al);obtain⟨cn,e2⟩:=hh.ask al;refine AA (Ob h3 (by omega) (by omega) (by omega)) ?_;rintro v8 W8 ⟨g8,h4⟩;rw[e2] at h4;obtain⟨kn,rfl,o8⟩:=h4;simp only at o8;refine⟨g8.mono fun _ _ h=>h.elim,?_⟩;refine BO ?_;have k8:(f row[m].id).length<=64:=by
  obtain⟨C,pl,fr,bm,hR⟩:=h3;exact Ov hR.core e2
 refine Bh ((dT.grow g8).cells 0 _ rfl) ?_;have c9:=ec.trans g8;have ih:=(AE.sl o8).GN (by decide);have ko:=ec.size;have z8:=g8.size;have kp:j<=10000000:=by omega
 have k9:B m+row[m].n<=j-i:=by
  have:=b7 m a6;have h2:B (m+1)<=B row.length:=by
   show((row.take (m+1)).flatMap Spn.u).length<=((row.take row.length).flatMap Spn.u).length;rw[PF];conv=>rhs;rw[<-S6 (m+1) row,mH,Bp]
   omega
  omega
 refine AX (fun vs W'=>∃(q:Nat) (pv ov:Value),q<=row[m].n/\vs=[pv,ov,zI q]/\GS (B m+q) pv ov W'/\Mod (fun x=>x<W6.heap.size) W8 W'/\∀g,ov.ownBlock=some g->g<W6.heap.size\/W8.heap.size<=g) (fun vs _=>row[m].n-De vs 2) ⟨0,hV,gm,Nn _,rfl,⟨g6.trans c9,o6.grow c9,BB.grow p6 c9 (by decide) fun r x I=>BF.BZ I c9 fun _ _ _ h=>h⟩,Mod.refl _ _,fun g hg=>by obtain⟨D6,o,_⟩:=o6;exact .inl (AE.Ax o g hg).2⟩ ?_;rintro vs W9 ⟨q,ee,cd,hq,rfl,⟨ch,o9,p9⟩,ef,b8⟩ _;simp only[GC];refine Hj (fun ka=>?_) fun kb=>?_;rotate_left
 .obtain rfl:q=row[m].n:=by omega
  rw[AQ,AO (by omega)];refine⟨⟨m+1,ee,cd,a6,rfl,?_⟩,by rw[Zd,Zd];omega⟩;rw[b7 m a6];exact⟨ch,o9,p9⟩
 have h5:q<row[m].n:=by omega
 obtain⟨c,b0,il,kq,_⟩:=b6 m a6 q h5;generalize he:B m+q=e at *;have ir:=(Ad.1 b0).1;have kc:c∈d:=lS b0;have iv:(((Ar d).take j).drop i)[e]?=some c.r:=by rw[ly,mE,DN (by omega),Ar,lP,b0];rfl
 have eh:(((Ar d).take j).drop i).length=j-i:=by rw[I3,Lc,dk];omega
 have ej:(d.take j).drop (i+e)=c::(d.take j).drop (i+(e+1)):=by
  rw[lX (by rw[Lc];omega),ny];rw[By ir] at b0;rw[kW b0];rfl
 have ek:(d.take (i+(e+1))).drop i=(d.take (i+e)).drop i++[c]:=by
  rw[show i+(e+1)=i+e+1 by omega,No,b0,oH,show i-(d.take (i+e)).length=0 by rw[Lc];omega];rfl
 rw[ej,Tv] at p9;have kr:=ch.size;have e3:((d.take (i+e)).drop i).length=e:=by rw[I3,Lc];omega
 obtain⟨D9,en,j0⟩:=o9;obtain⟨oa,oc,j1,_⟩:=AE.shape en;have an:=AE.Ax en;have j2:Hl W.heap.size U.heap.size W9 cd ((d.take (i+e)).drop i):=⟨D9,en,j0⟩;have h6:=hS.grow ch (by decide) fun _ _ h=>h;obtain⟨la,lc,h7,_⟩:=h6.shape;rw[eh] at h7;have eo:(q:Int)+1<=9223372036854775807:=by omega
 refine AV (fun vs W'=>∃b O D',vs=[.pointer (some ⟨b,0,none⟩)]/\Bx W' b [.int .i32 c.r,O]/\W9.heap.size<=b/\Grow W9 W'/\CR D' W' O (f row[m].id)/\(∀x,D' x->W9.heap.size<=x/\x<W'.heap.size)) ?_ ?_;rotate_left
 .have b9:Grow W9 W9.drew:=Mod.drew _ _;have kt:=b9.size;have h8:=(ih.mod ef (fun x _ I e'=>by have:=I.1.1;omega) (by decide) fun _ _ h=>h).grow b9 (by decide) fun _ _ h=>h;have j3:Ac cd=Ac (.slice oa e oc):=by rw[j1,e3]
  refine Af (fun n y=>n=9/\W9.heap.size<=y) ?_;rw[j3,AP];subst h7;obtain⟨pl,rl,rfl,h9,_,j4,hd⟩:=h6.get (i:=e) (by rw[eh];omega);have ep:rl=[.int .i32 c.r]:=by
   have h':rl=_:=hd;rw[h'];congr 2
   have:=By (l:=((Ar d).take j).drop i) (i:=e) (by rw[eh];omega);rw[iv] at this;exact(kW this).symm
  subst ep;refine AT (by omega) ?_;refine AU ⟨b9.cell (by have:=j4 0 _ rfl;exact this) fun h=>h,fun n hn e'=>by have h1:=e'.2;have h2:=h9.2;rw[BJ] at h1;omega⟩ ?_;constructor
  .refine AA (Ej h8 (by omega)) ?_;rintro O a7 ⟨a8,T⟩;refine⟨T.mono fun _ _ h=>h.elim,?_⟩;obtain⟨ca,cc,ba,_⟩:=AE.shape a8;refine⟨#[.int .i32 c.r,O],by rw[ba];kernel_rfl,?_⟩;refine Bx.zero fun b Z hb a1 V=>⟨a1.mono fun _ _ h=>h.elim,?_⟩;have hf:=T.size;have cx:=a1.size;refine V.over (us:=[.int .i32 c.r,O]) rfl rfl (fun u hu=>by simp only[K8,kU,mb] at hu;rcases hu with rfl|rfl;rfl;rw[ba];rfl) fun bb er Q=>⟨Q.mono fun x _ e'=>⟨rfl,by omega⟩,?_⟩;have et:AE W9.drew.heap.size 79 5 DV Z O (f row[m].id):=AE.mod (R':=DV) a8 a1 (fun _ _ h=>h) fun _ _ _ h=>h;have bc:=AE.Ax a8;have bd:AE W9.drew.heap.size 79 5 DV bb O (f row[m].id):=AE.mod (R':=DV) et Q (fun x I e'=>by have:=bc x I;omega) fun _ _ _ h=>h;have ho:=Q.size;exact⟨b,O,_,rfl,er,by omega,((b9.trans T).trans a1).next Q fun x I e'=>by omega,AE.sl bd,fun x I=>by have:=bc x I.2;omega⟩
  .refine Bx.zero fun b Z hb a1 V=>⟨a1.mono fun _ _ h=>h.elim,?_⟩;refine AA (Ej (h8.grow a1 (by decide) fun _ _ h=>h) (by omega)) ?_;rintro O a7 ⟨a8,T⟩;refine⟨T.mono fun _ _ h=>h.elim,?_⟩;obtain⟨ca,cc,ba,_⟩:=AE.shape a8;refine⟨#[.int .i32 c.r,O],by rw[ba];kernel_rfl,?_⟩;have hf:=T.size;have cx:=a1.size;have ke:=V.lt (S3 _);refine(V.grow T).over (us:=[.int .i32 c.r,O]) rfl rfl (fun u hu=>by simp only[K8,kU,mb] at hu;rcases hu with rfl|rfl;rfl;rw[ba];rfl) fun bb er Q=>⟨Q.mono fun x _ e'=>⟨rfl,by omega⟩,?_⟩;have bc:=AE.Ax a8;have bd:AE Z.heap.size 79 5 DV bb O (f row[m].id):=AE.mod (R':=DV) a8 Q (fun x I e'=>by have:=bc x I;omega) fun _ _ _ h=>h;have ho:=Q.size;exact⟨b,O,_,rfl,er,by omega,((b9.trans a1).trans T).next Q fun x I e'=>by omega,AE.sl bd,fun x I=>by have:=bc x I.2;omega⟩
 rintro _ a7 ⟨b,O,D',rfl,eu,hb,T,ew,j5⟩ _;rw [Nr];have hf:=T.size;have da:BB (fun x=>W.heap.size<=x/\x < U.heap.size) 1 (Cw fun x=>W.heap.size<=x/\x < U.heap.size) a7 ee ((if c.r=10 then [c.set] else [])++CK ((d.take j).drop (i+(e+1)))):=BB.grow p9 T (by decide) fun r x I=>BF.BZ I T fun _ _ _ h=>h;refine AV (fun vs W'=>∃ X bk ey,vs=[X]/\Bx W' b [.int .i32 c.r,bk]/\Mod (fun x=>x=b) a7 W'/\CR ey W' bk c.set/\(∀ x,ey x->W.heap.size<=x/\x < W'.heap.size/\(x < U.heap.size\/W9.heap.size<=x))/\
   BB (fun x=>W.heap.size<=x/\x < U.heap.size) 1 (Cw fun x=>W.heap.size<=x/\x < U.heap.size) W' X (CK ((d.take j).drop (i+(e+1))))) ?_ ?_
 .rintro _ Z ⟨X,bk,ey,rfl,V,J,eA,hs,bl⟩ _;rw[Nr];have cx:=J.size;have bn:Grow W9 Z:=T.next J fun x I e'=>by omega
  have et:Hl W.heap.size U.heap.size Z cd ((d.take (i+e)).drop i):=j2.grow bn;refine V.E0 rfl ?_;refine NX et (by omega) eA (fun x I=>?_) (by rw[e3];omega) fun j6 bb bd Q j7=>?_
  .have:=hs x I;refine⟨this.1,this.2.1,fun e'=>?_⟩;have:=an x e';omega
  rw[AQ,AO eo];have hv:Grow U bb:=(ch.trans bn).next Q fun x I e'=>by have:=an x e';omega
  have ku:=ef.size;have ho:=Q.size;refine⟨⟨q+1,X,j6,h5,rfl,?_,?_⟩,by rw[Zd,Zd];omega⟩
  .rw[show B m+(q+1)=e+1 by omega];refine⟨?_,by rw[ek];exact bd,BB.mod bl Q (fun x _ I e'=>by have:=an x e';omega) (by decide) fun r x I=>BF.BZ I Q fun y _ hy e'=>by have:=an y e';omega⟩;exact hv
  .refine⟨(ef.next bn fun _ _ h=>h.elim).next Q fun x I e'=>?_,fun g hg=>?_⟩
   .rcases b8 x e' with h|h
    .exact h
    .omega
   .rcases j7 g hg with h|h
    .exact b8 g h
    .exact .inr (by omega)
 .refine Bh (eu.cells 0 _ rfl) ?_;rw[Aj];refine AF (fun eB=>?_) fun eB=>?_;rotate_left
  .have av:c.r≠10:=eB;rw[Bq av,ky] at da;rw[<-il av];exact⟨ee,O,D',rfl,eu,Mod.refl _ _,ew,fun x I=>by have:=j5 x I;exact⟨by omega,this.2,.inr this.1⟩,da⟩
  have av:c.r=10:=eB;rw[DN av] at da;have Y:Grow a7 a7.drew:=Mod.drew _ _;have kf:=Y.size;have ax:=BB.grow da Y (by decide) fun r x I=>BF.BZ I Y fun _ _ _ h=>h;obtain⟨pa,pc,j8,_⟩:=ax.shape;subst j8;obtain⟨pp,rr,rfl,j9,_,k0,eC,rfl,k3⟩:=ax.get (i:=0) (by simp);have bx:CR (fun x=>W.heap.size<=x/\x<U.heap.size) a7.drew eC c.set:=k3;have e4:=eu.grow Y;obtain⟨kv,kx,ay,_⟩:=bx.shape;refine Af (fun n y=>n=6/\y=b) ?_;refine AT (by simp) ?_;refine AU ⟨by have:=k0 0 _ rfl;exact this,fun n hn e'=>by have h1:=e'.2;have h2:=j9.2;rw[BJ] at h1;omega⟩ ?_;rw[AG,AH];have k4:([c.set]++CK ((d.take j).drop (i+(e+1)))).length=(CK ((d.take j).drop (i+(e+1)))).length+1:=by simp
  constructor
  .refine Fm (e:=43) (k:=1) (i:=Tryz.t43) (j:=1) (by kernel_rfl) (by kernel_rfl) (by kernel_rfl) ax (by simp) fun X bl=>⟨Mod.refl _ _,?_⟩;have c4:BB (fun x=>W.heap.size<=x/\x<U.heap.size) 1 (Cw fun x=>W.heap.size<=x/\x<U.heap.size) a7.drew X (CK ((d.take j).drop (i+(e+1)))):=bl;refine e4.st (q:=1) (show 1<2 by decide) (by rw[ay];rfl) (by rw[ay];rfl) fun Z V J=>⟨J.mono fun x _ e'=>⟨rfl,e'⟩,?_⟩;have cx:=J.size;refine⟨X,eC,_,rfl,V,(Y.mono fun _ _ h=>h.elim).trans J,bx.mod J (fun x _ I e'=>by have:=I.2;omega) (by decide) (fun _ _ h=>h),fun x I=>⟨I.1,by have:=I.2;omega,.inl I.2⟩,BB.mod c4 J (fun x _ I e'=>by have:=I.2;omega) (by decide) fun r x I=>BF.BZ I J fun y _ hy e'=>by have:=hy.2;omega⟩
  .refine e4.st (q:=1) (show 1<2 by decide) (by rw[ay];rfl) (by rw[ay];rfl) fun Z V J=>⟨J.mono fun x _ e'=>⟨rfl,e'⟩,?_⟩;have cx:=J.size;have hA:=BB.mod ax J (fun x _ I e'=>by have:=I.2;omega) (by decide) fun r x I=>BF.BZ I J fun y _ hy e'=>by have:=hy.2;omega
   refine Fm (e:=43) (k:=1) (i:=Tryz.t43) (j:=1) (by kernel_rfl) (by kernel_rfl) (by kernel_rfl) hA (by simp) fun X bl=>⟨Mod.refl _ _,?_⟩;have c4:BB (fun x=>W.heap.size<=x/\x<U.heap.size) 1 (Cw fun x=>W.heap.size<=x/\x<U.heap.size) Z X (CK ((d.take j).drop (i+(e+1)))):=bl;refine⟨X,eC,_,rfl,V,(Y.mono fun _ _ h=>h.elim).trans J,bx.mod J (fun x _ I e'=>by have:=I.2;omega) (by decide) (fun _ _ h=>h),fun x I=>⟨I.1,by have:=I.2;omega,.inl I.2⟩,c4⟩
end
def Is:List Cel->List (List Attr)
 |[]=>[]
 |c::d=>if c.r=10\/c.set=[]\/c.set∈Is d then Is d else c.set::Is d
def Uf{d:List Cel}:s∈Is d↔s≠[]/\∃c∈d,c.r≠10/\c.set=s:=by
 induction d with
 |nil=>simp[Is]
 |cons c d o=>
  rw[Is];split
  .rename_i h;rw[o];constructor
   .rintro⟨h1,m,i,j⟩;exact⟨h1,m,gi _ i,j⟩
   .rintro⟨h1,m,i,j,rfl⟩;rcases K8.1 i with rfl|i
    .rcases h with h|h|h
     .exact absurd h j
     .exact absurd h h1
     .exact o.1 h
    .exact⟨h1,m,i,j,rfl⟩
  .rename_i h;rw[K8,o];constructor
   .rintro(rfl|⟨h1,m,i,j⟩)
    .exact⟨fun e=>h (.inr (.inl e)),c,lC,fun e=>h (.inl e),rfl⟩
    .exact⟨h1,m,gi _ i,j⟩
   .rintro⟨h1,m,i,j,rfl⟩;rcases K8.1 i with rfl|i
    .exact .inl rfl
    .exact .inr ⟨h1,m,i,j,rfl⟩
def PK(d:List Cel):(Is d).Nodup:=by
 induction d with
 |nil=>exact nf
 |cons c d i=>
  rw[Is];split
  .exact i
  .rename_i h;exact px.2 ⟨fun e=>h (.inr (.inr e)),i⟩
section
variable {w0:World}{F:Nat->Prop}{W:World}{a:TxA}{σ:SKs}{most:Int}{N:Nat}{d:List Cel}
def Pv(h:Gq .f w0 F W a σ most d N):AB prog 17 [.pointer (some ⟨a.b,0,none⟩)] (fun v' w'=>v'=zI (d.length:Int)/\Grow W w') W:=by
 obtain⟨l1,Fr,bt,i,m⟩:=h.Hi;have j:(Bg l1).length=d.length:=by rw[i,Ar,Iq]
 have:=VS h.box.1 m;rwa [j] at this
def Ra(h:Gq .f w0 F W a σ most d N):AB prog 13 [.pointer (some ⟨a.b,0,none⟩)] (fun v' w'=>v'=zI (BX (Ar d):Int)/\Grow W w') W:=by
 obtain⟨l1,Fr,bt,i,j⟩:=h.Hi;have:=V5 h.box.1 j;rwa [i] at this
def UP{k:Nat}(h:Gq .f w0 F W a σ most d N)(o:d.length<=10000000):AB prog 14 [.pointer (some ⟨a.b,0,none⟩),zI (k:Int)] (fun v' w'=>v'=MV (Ar d) k/\Grow W w') W:=by
 obtain⟨l1,Fr,bt,i,j⟩:=h.Hi;have m:(Bg l1).length=d.length:=by rw[i,Ar,Iq]
 have:=QB (k:=k) h.box.1 j (by omega);rwa [i] at this
def KN(h:Gq .f w0 F W a σ most d N)(V:N<=1000000000):AB prog 27 [.pointer (some ⟨a.b,0,none⟩)] (fun v' w'=>v'=zI (((Is d).length+1:Nat):Int)/\Grow W w') W:=by
 obtain⟨z,l2,t,f,j,B,Q,hu,O,i,T⟩:=h;apply gD;refine AA (Fv B.box.1) ?_;rintro _ _ ⟨rfl,rfl⟩;rename World=>W
 rw[An];refine AS ?_;refine AI ?_;refine Bh (B.box.1.cells 5 _ rfl) ?_;obtain⟨X,m,_,_⟩:=B.Qs;refine AA (ZW m (by omega)) ?_;rintro _ Y ⟨rfl,U⟩;refine⟨?_,U⟩;have hl:=O.len m.inv GL.ne (PK d) fun s=>by
  rw[Uf];constructor
  .rintro⟨h1,c,hc,I,o⟩;rw[<-j] at hc;obtain⟨p,hp,rfl⟩:=kT.1 hc;exact⟨h1,p.2,Spn.JD (kT.2 ⟨p,hp,rfl⟩) (by simp),by rw[(i p hp).2 I,o]⟩
  .rintro⟨h1,id,I,o⟩;obtain⟨p,hp,e⟩:=kT.1 (Spn.Vj I);have q:p.1.r≠10:=fun J=>by
    have:=(i p hp).1 J;rw[<-e,this,O.1] at o;exact h1 o.symm
   exact⟨h1,p.1,by rw[<-j];exact kT.2 ⟨p,hp,rfl⟩,q,by rw[<-(i p hp).2 q,e,o]⟩
 rw[hl];congr 1
 omega
end
def En(f:Int->List Attr)(l:List Spn):List Ho:=l.map fun s=>⟨(s.n:Int),f s.id⟩
def Y6{t:Tab (List Attr)}{f:Int->List Attr}{G:List Attr->Prop}{h:Int->Nat}(o:t.Holds [] f h)(hi:t.Inv G):∀{l:List Spn} {p:Option Int},Spn.Hd p l->(∀s∈l,0<h s.id)->FG (En f l)/\pl (En f l)=(l.flatMap Spn.u).map f:=by
 intro l;induction l with
 |nil=>intro p _ _;exact⟨trivial,rfl⟩
 |cons s l q=>
  intro p hp j;obtain⟨h1,B⟩:=q hp.2.2 fun i I=>j i (by simp[I]);refine⟨⟨by show(0:Int)<(s.n:Int);have:=hp.1;omega,fun c hc=>?_,h1⟩,?_⟩
  .cases l with
   |nil=>cases hc
   |cons i l=>
    have m:(⟨(i.n:Int),f i.id⟩:Ho)=c:=by simpa[En] using hc
    subst m;intro e;have:=(o.inj hi (j s (by simp)) (j i (by simp))).2 e;exact hp.2.2.2.1 (by rw[this])
  .show pl (⟨(s.n:Int),f s.id⟩::En f l)=_;rw[IV,B,lQ,Ty];congr 1
   show List.replicate (s.n:Int).toNat (f s.id)=(List.replicate s.n s.id).map f;rw[List.map_replicate,lf]
def ja(A B c m:Nat)(i:Nat->Prop)(W:World)(out:Value)(l:List Ho):Prop:=
 Bx W c [out]/\(∀g,out.ownBlock=some g->g≠c/\g≠m/\g≠m+1/\¬i g)/\∃D:Nat->Prop,AE B 53 2 (M0 D) W out l/\∀x,D x->A<=x/\x<W.heap.size/\out.ownBlock≠some x/\x≠c/\x≠m/\x≠m+1/\¬i x
section
variable {w0:World}{F:Nat->Prop}{W:World}{a:TxA}{σ:SKs}{most:Int}{N:Nat}{d:List Cel}
def Ug(h:Gq .f w0 F W a σ most d N)(hz:d.length<=10000000)(hN:N<=1000000000) :
  AB prog 18 [.pointer (some ⟨a.b,0,none⟩)] (fun v' w'=>Sg (fun x=>W.heap.size<=x/\x<w'.heap.size) (fun x=>W.heap.size<=x/\x<w'.heap.size) w' v' (iH d)/\Grow W w') W:=by
 obtain⟨z,l2,t,f,b7,hM,ak,hu,hh,c4,e2⟩:=h;have c6:z.length=d.length:=by rw[<-b7,Iq]
 have b8:=kZ List.length hu;rw[Iq,c6] at b8;have dT:Ei l2=d.length:=by rw[Du,b8]
 have e3:=Spn.FZ ak;have T:=Spn.Ic ak;have c7:=hM.hl;have a6:∀s∈l2,0<Spn.rn s.id none (z.map Prod.snd):=fun s hs=>by
  have:=Spn.KO hs (T s hs);rw[hu] at this;exact Spn.JD this (by simp)
 have al:En f l2=iH d:=by
  obtain⟨Ft,an,_,_⟩:=hM.Qs;obtain⟨h1,Q⟩:=Y6 hh an.inv ak a6;have a7:d.length<=bB:=by show _<=4611686018427387904;omega
  refine uniq _ _ h1 (WA a7) ?_;rw[Q,(gT a7).1,hu,<-b7,mz,mz];refine nX fun p hp=>?_;obtain⟨o1,o2⟩:=c4 p hp;show f p.2=p.1.inl;unfold Cel.inl;split
  .rename_i e;rw[o1 e,hh.1]
  .rename_i e;exact o2 e
 rw[<-al];apply dU;refine D8 rfl fun b1 W1 e4 g1 B1=>?_;refine Bx.zero fun c W2 hc g2 B2=>?_;refine AL ((B1.grow g2).cells 0 _ rfl) ?_;have c8:=g1.trans g2;have Y:=hM.grow c8;refine AA (Fv Y.box.1) ?_;rintro _ _ ⟨rfl,rfl⟩;rename World=>W2
 rw[An];refine AS ?_;refine AL ((B1.grow g2).cells 0 _ rfl) ?_;refine AI ?_;refine Bh (Y.box.1.cells 3 _ rfl) ?_;obtain⟨Fs,bs,c9,_,_⟩:=Y.RE;refine AA (fz c9 (by omega) (by omega) (by omega) T) ?_;rintro _ o ⟨cb,Rd,rfl,g3,Ir,b9⟩;have z1:=g1.size;have z2:=g2.size;have z3:=g3.size;have ca:=B1.lt (S3 _);have e1:=B2.lt (S3 _);have B3:=B2.grow g3;have cc:=(B1.grow g2).grow g3;have cd:=Y.grow g3;refine Hr ⟨True,_,_,_,_,_,rfl,by kernel_rfl,b9,fun k _=>rfl,?_⟩;refine⟨fun k Z W'=>∃out,ja o.heap.size o.heap.size c o.heap.size Z W' out (En f (l2.take k))/\Mod (fun x=>x=c) o W'/\k<=l2.length,fun _ _ _=>False,⟨_,⟨B3,(fun g I=>nomatch I),fun _=>False,AE.nil,fun _ h=>h.elim⟩,Mod.refl _ _,Nn _⟩,?_,fun x Z ch W W' h=>h.elim,?_,?_,?_,fun x Z W h=>h.elim⟩
 .rintro k Z ch W' e5 ⟨out,⟨q1,U,D,X,q4⟩,m,hk⟩ hm B;have hn:∀x,x<o.heap.size->¬((¬True/\Z x)\/x=o.heap.size\/x=o.heap.size+1):=fun x i=>by rintro(⟨h,_⟩|h|h);exact h trivial;all_goals omega
  have zm:=hm.size;refine⟨out,⟨q1.mod hm (hn c (by omega)),fun g I=>?_,D,AE.mod X hm (fun g I=>?_) fun r x _ i=>i.mod hm (fun b _ hb=>?_) fun _ _ h=>h,fun x i=>?_⟩,m.next hm fun x i=>?_,hk⟩
  .obtain⟨h1,Q,J,h4⟩:=U g I;refine⟨h1,Q,J,fun h=>?_⟩;rcases(B g h).1 with h|h
   .exact h4 h
   .have:=(AE.Ax X g I).2;omega
  .obtain⟨_,Q,J,_⟩:=U g I;rintro(⟨h,_⟩|h|h)
   .exact h trivial
   .exact Q h
   .exact J h
  .obtain⟨_,_,_,_,Q,J,_⟩:=q4 b hb;rintro(⟨h,_⟩|h|h)
   .exact h trivial
   .exact Q h
   .exact J h
  .obtain⟨h1,Q,J,h4,h5,h6,h7⟩:=q4 x i;refine⟨h1,by omega,J,h4,h5,h6,fun h=>?_⟩;rcases(B x h).1 with h|h
   .exact h7 h
   .omega
  .intro e;exact absurd e (hn x i)
 .rintro k Z W' ⟨out,q,m,hk⟩ b hb hr;exact m.same b hb fun e=>by
   subst e;have:=Ir b hr;omega
 .rintro k Z W' hk ⟨out,⟨q1,U,D,X,q4⟩,m,e6⟩ ba B;have av:(nth [Value.agg ((l2[k]?.getD ⟨0,0⟩).cells.toArray)] 0)=.agg l2[k].cells.toArray:=by
   show Value.agg _=_;rw[By hk];rfl
  rw[av];have cv:En f (l2.take (k+1))=En f (l2.take k)++[⟨(l2[k].n:Int),f l2[k].id⟩]:=by
   unfold En;rw[No,By hk,Ty];rfl
  refine Bx.new (vs:=l2[k].cells) rfl rfl (Spn.one _) fun b5 W5 e7 g5 B5=>?_;refine KV g5 ba B (fun _ _ h=>h.elim) fun W6 O=>?_;have z5:=g5.size;have e8:=O.size;have e9:=q1.lt (S3 _);have cx:=B5.lt (S3 _);have zm:=m.size;have C6:=(q1.grow g5).mod O (by omega);have bb:=B5.mod O (by omega);have gd:Grow W6 W6.drew:=Mod.drew _ _;have zd:=gd.size;have bc:Mod (fun x=>x=c\/x=o.heap.size+1) o W6:=((m.mono fun _ _ e=>.inl e).trans (g5.mono fun _ _ h=>h.elim)).trans (O.mono fun _ _ e=>.inr e);have bd:=((cd.mod bc fun x i=>⟨fun e=>by have:=c7 x e;omega,fun e=>by have:=hM.JO.2 x e;omega,by have:=hM.g.size;omega⟩).grow gd);have da:Bx W6.drew b1 [.pointer (some ⟨a.b,0,none⟩)]:=(cc.mod bc (by omega)).grow gd;have o6:AE o.heap.size 53 2 (M0 D) W6 out (En f (l2.take k)):=AE.mod (AE.mod X g5 (fun _ _ h=>h) fun r x _ i=>i.mod g5 (fun _ _ _ h=>h) fun _ _ h=>h) O (fun g I=>(U g I).2.2.1) fun r x _ i=>i.mod O (fun b _ hb=>(q4 b hb).2.2.2.2.2.1) fun _ _ h=>h;refine Af (fun _ _=>False) ?_;refine AU ⟨da.cells 0 _ rfl,fun j hj e=>e⟩ ?_;refine AI ?_;rw[AG,AH];refine AU ⟨bd.box.1.cells 5 _ rfl,fun j hj e=>e⟩ ?_;rw[AG,AH];refine AU ⟨(bb.grow gd).cells 1 _ rfl,fun j hj e=>e⟩ ?_;obtain⟨Ft,an,_,_⟩:=bd.Qs;have a8:=a6 l2[k] (WJ hk);obtain⟨d1,d2⟩:=hh.idle (.inl a8);obtain⟨cn,bk⟩:=hh.ask a8;refine AA (Ob an (by omega) (by omega) (by omega)) ?_;rintro v7 W7 ⟨g7,bl⟩;rw[bk] at bl;obtain⟨sv,rfl,a1⟩:=bl;simp only at a1;refine⟨g7.mono fun _ _ h=>h.elim,?_⟩;refine BO ?_;have z7:=g7.size;have ax:=AE.Ax a1;have C7:=(C6.grow gd).grow g7;refine AL (C7.cells 0 _ rfl) ?_;refine Bh (((bb.grow gd).grow g7).cells 0 _ rfl) ?_;obtain⟨sa,sc,dk,_⟩:=AE.shape a1;refine⟨#[zI (l2[k].n:Int),sv],by rw[dk];kernel_rfl,?_⟩
  let D':Nat->Prop:=fun x=>D x\/sv.ownBlock=some x
  have ay:∀x,D' x->o.heap.size<=x/\x<W7.heap.size/\out.ownBlock≠some x/\x≠c/\x≠o.heap.size/\x≠o.heap.size+1/\¬Z x:=fun x i=>by
   rcases i with i|i
   .obtain⟨h1,Q,J,h4,h5,h6,h7⟩:=q4 x i;exact⟨h1,by omega,J,h4,h5,h6,h7⟩
   .have:=ax x i;refine⟨by omega,this.2,fun e=>?_,by omega,by omega,by omega,fun e=>?_⟩
    .have:=(AE.Ax X x e).2;omega
    .have:=(B x e).1;omega
  have b0:=gd.trans g7;have o7:AE o.heap.size 53 2 (M0 D') W7 out (En f (l2.take k)):=AE.mod o6 b0 (fun _ _ h=>h) fun r x _ i=>i.mod b0 (fun _ _ _ h=>h) fun _ _ h=>.inl h;have bn:CR D' W7 sv (f l2[k].id):=BB.sub (AE.sl a1) (fun x _ h=>.inr h.2) (by decide) fun _ _ h=>h;have ea:(En f (l2.take k)).length<=l2.length:=by unfold En;rw[Iq,Lc];omega
  refine Da Xw o7 (by omega) (cs:=[zI (l2[k].n:Int),sv]) (x:=(⟨(l2[k].n:Int),f l2[k].id⟩:Ho)) (DC (v:=.agg #[zI (l2[k].n:Int),sv]) rfl (by decide) rfl rfl) rfl ⟨sv,rfl,bn⟩ (fun _ _ _ h=>h.one) (fun w1 w2 r y hz hm hy=>hy.mod hm (fun b _ i e=>?_) fun _ _ h=>h) (by omega) (by simp only[maxLen];omega) fun bp W8 o8 m8 n8=>?_
  .obtain⟨_,Q,J,_⟩:=ay b i;rcases e with e|e
   .exact J e
   .omega
  have z8:=m8.size;have C8:=C7.mod m8 fun e=>(U c e).1 rfl;obtain⟨b2,b6⟩:=o8.one;refine C8.st (q:=0) (show 0<1 by decide) b2 b6 fun W9 C9 m9=>?_;have z9:=m9.size;have bx:Mod (fun x=>x=c\/out.ownBlock=some x) W6 W9:=((b0.mono fun _ _ h=>h.elim).trans (m8.mono fun _ _ e=>.inr e)).trans (m9.mono fun _ _ e=>.inl e);refine⟨NZ bx (by omega) (fun b hb=>by have:=(B b hb).1;omega) (fun b _ e=>?_),bp,⟨C9,fun g I=>?_,D',?_,fun x i=>?_⟩,?_,by omega⟩
  .rcases e with rfl|e
   .exact⟨fun h=>by have:=(B b h).2;omega,by omega,by omega⟩
   .obtain⟨h1,Q,J,h4⟩:=U b e;exact⟨h4,Q,J⟩
  .rcases n8 g I with h|h
   .exact U g h
   .refine⟨by omega,by omega,by omega,fun hI=>by have:=(B g hI).1;omega⟩
  .rw [cv];exact AE.mod o8 m9 (fun g I e=>by
    rcases n8 g I with h|h
    .exact(U g h).1 e
    .omega) fun r x _ i=>i.mod m9 (fun b _ hb e=>(ay b hb).2.2.2.1 e) fun _ _ h=>h
  .obtain⟨h1,Q,J,h4,h5,h6,h7⟩:=ay x i;refine⟨h1,by omega,fun e=>?_,h4,h5,h6,h7⟩;rcases n8 x e with h|h
   .exact J h
   .omega
  .refine((m.next g5 fun _ _ h=>h.elim).next O fun x i e=>by omega).next bx fun x i e=>?_;rcases e with e|e
   .exact e
   .have:=(AE.Ax X x e).1;omega
 .rintro Z W' ⟨out,⟨q1,U,D,X,q4⟩,m,hk⟩ _ ba hd;refine AL (q1.cells 0 _ rfl) ?_;obtain⟨b2,b6⟩:=X.one;refine q1.st (q:=0) (show 0<1 by decide) b2 b6 fun W4 C4 m4=>?_;have z4:=m4.size;refine⟨?_,?_⟩
  .rw[m4.same _ (by omega) (by omega)];exact hd
  have V:Mod (fun b=>b=o.heap.size) W4 (W4.putObj o.heap.size (.deferred none)):=Mod.putObj _ _ _ rfl;have C5:=C4.mod V (by omega);have zp:=V.size;refine AL (C5.cells 0 _ rfl) ⟨?_,?_⟩
  .rw[PF] at X;have o5:AE o.heap.size 53 2 (M0 D) (W4.putObj o.heap.size (.deferred none)) out (En f l2):=AE.mod (AE.mod X m4 (fun g I=>(U g I).1) fun r x _ i=>i.mod m4 (fun b _ hb=>(q4 b hb).2.2.2.1) fun _ _ h=>h) V (fun g I=>(U g I).2.1) fun r x _ i=>i.mod V (fun b _ hb=>(q4 b hb).2.2.2.2.1) fun _ _ h=>h;exact BB.sub (AE.sl o5) (fun x i h=>⟨by have:=h.1;omega,i⟩) (by decide) fun r x i=>i.mod (Mod.refl (fun _=>False) _) (fun _ _ _ h=>h) fun b hb h=>⟨by have:=(q4 b h).1;omega,hb⟩
  .exact((((g1.trans g2).trans g3).next m fun x i e=>by omega).next m4 fun x i e=>by omega).next V fun x i e=>by omega
end
def Dw:DKey:=⟨1,false,1,false,false,0⟩
def Cr:List Attr:=[⟨1,⟨1,1,0,FH⟩⟩]
def GA:List Dop:=[⟨2,0,[97,98],Cr,[]⟩]
def KI:List Dop:=[⟨1,1,[],[],[]⟩,⟨2,0,[10],[],[]⟩]
def Hb:List Dop:=[⟨3,4,[],[],[]⟩]
def HG:List Cel:=[⟨97,Cr⟩,⟨98,Cr⟩,⟨10,[]⟩]
def JE:List Cel:=[⟨97,Cr⟩,⟨10,[]⟩,⟨98,Cr⟩,⟨10,[]⟩]
def O9:EI Dw:=by unfold EI;decide
def WE:Io [Dw] Cr:=by
 have i:DH (⟨1,1,0,FH⟩:A6):=.inl ⟨rfl,rfl,.inr rfl⟩;refine⟨by simp[Cr],by simp[Cr],fun a ha=>?_⟩;simp only[Cr,P9] at ha;subst ha;exact⟨i,Dw,rfl,i,rfl⟩
def cT{r:Int}(h:r=97\/r=98\/r=10):Dz r:=.inl (by omega)
def Mm:(∀o∈GA,BY [Dw] o)/\(∀o∈KI,BY [Dw] o)/\∀o∈Hb,BY [Dw] o:=by
 refine⟨fun o i=>?_,fun o i=>?_,fun o i=>?_⟩
 .simp only[GA,P9] at i;subst i;refine .inr (.inr ⟨rfl,fun r hr=>cT ?_,rfl,rfl,by simp,WE⟩);simp only[K8,kU,mb] at hr;rcases hr with rfl|rfl
  .exact .inl rfl
  .exact .inr (.inl rfl)
 .simp only[KI,K8,kU,mb] at i;rcases i with rfl|rfl
  .exact .inl ⟨rfl,rfl,rfl,by decide,IJ⟩
  .refine .inr (.inr ⟨rfl,fun r hr=>cT ?_,rfl,rfl,by simp,IH⟩);simp only[P9] at hr;exact .inr (.inr hr)
 .simp only[Hb,P9] at i;subst i;exact .inr (.inl ⟨rfl,rfl,rfl,rfl,by decide⟩)
def QG:total GA=2/\total KI=2/\total Hb=4:=⟨rfl,rfl,rfl⟩
def cF{x:List Dop}{n:Nat}(h:total x=n)(j:n<=4){o:Dop}(i:o∈x):Bv o<=536870912:=by
 have:=Np i;omega
def ei:Rq [Dw] GA 1 100:=by
 have hm:Cs [Dw] GA=0:=MB Mm.1 (by rw[QG.1];omega);refine⟨hm,fun o i=>⟨Mm.1 o i,cF QG.1 (by omega) i⟩,by omega,by decide,?_,fun o i=>?_,by decide⟩
 .simp[CM,GA]
 .simp only[GA,P9] at i;subst i;intro _ _ h;exact absurd h (by decide +kernel)
def dX:Rq [Dw] KI 3 100:=by
 have hm:Cs [Dw] KI=0:=MB Mm.2.1 (by rw[QG.2.1];omega);refine⟨hm,fun o i=>⟨Mm.2.1 o i,cF QG.2.1 (by omega) i⟩,by omega,by decide,?_,fun o i=>?_,by decide⟩
 .simp[CM,KI]
 .simp only[KI,K8,kU,mb] at i;rcases i with rfl|rfl
  .intro h;exact absurd h (by decide)
  .intro _ h;exact absurd rfl h
def iE:EL [Dw] Hb 4 100=6:=by
 classical
 have hm:Cs [Dw] Hb=0:=MB Mm.2.2 (by rw[QG.2.2];omega);have ht:Cj Bt Hb=4:=by decide +kernel
 have i:¬CM 4 0 Hb:=by simp[CM,Hb]
 unfold EL;rw[Bq (by simp[hm]),Bq (by rw[ht];omega),DN i]
def jL:CN [Dw] [⟨10,[]⟩] GA=HG/\CN [Dw] HG KI=JE:=⟨rfl,rfl⟩
def Sv:iH HG=[⟨2,Cr⟩,⟨1,[]⟩]/\Is HG=[Cr]/\BX (Ar JE)=2/\MV (Ar JE) 1=.tuple #[zI 2,zI 0]:=by
 refine⟨by decide +kernel,by decide +kernel,by decide +kernel,by kernel_rfl⟩
def VE:(∀o∈GA,LC o)/\(∀o∈KI,LC o)/\∀o∈Hb,LC o:=by
 refine⟨fun o i=>?_,fun o i=>?_,fun o i=>?_⟩
 .simp only[GA,P9] at i;subst i;refine⟨fun a ha=>?_,fun c hc=>(nomatch hc)⟩;simp only[Cr,P9] at ha;subst ha;exact⟨by decide,⟨by decide,by decide⟩,by decide,by decide⟩
 .simp only[KI,K8,kU,mb] at i;rcases i with rfl|rfl
  .exact⟨fun a ha=>(nomatch ha),fun c hc=>(nomatch hc)⟩
  .exact⟨fun a ha=>(nomatch ha),fun c hc=>(nomatch hc)⟩
 .simp only[Hb,P9] at i;subst i;exact⟨fun a ha=>(nomatch ha),fun c hc=>(nomatch hc)⟩
def fP:J3 [Dw] [⟨10,[]⟩]:=⟨fun c hc=>by simp only[P9] at hc;subst hc;exact EK.nil,rfl⟩
def Tk{k:DKey}(hk:EI k)(o:Grow w0 w)(q:∀w' sv C,Grow w w'->Ci C w' sv [k]->(∀x,x<w'.heap.size->C x->w0.heap.size<=x)->K (.tuple #[sv,zI 0]) w') :
  AB prog 8 [.slice (some ⟨w.heap.size,0,none⟩) 1 1] K (w.alloc (.cells k.cells.toArray 65)):=by
 have i:=Y9 (w:=w) [k] (by simp);have m:Grow w (w.alloc (.cells k.cells.toArray 65)):=Mod.alloc _ _ _;have e:(([k].map DKey.cells).flatten:List Value)=k.cells:=by simp
 rw[e] at i;have Q:=m.size;have z0:=o.size;refine AA (L8 i) ?_;rintro _ w2 ⟨B,hr⟩;have I:Fc [k]:=Mc.2 ⟨by simp,fun x j=>by simp only[P9] at j;subst j;exact hk,by unfold NM;simp⟩;rcases hr with⟨_,sv,ks,rfl,hp,T,J⟩|⟨O,_⟩
 .have:ks=[k]:=List.perm_singleton.1 hp;subst this;exact q _ _ _ (m.trans B) J fun x _ j=>by omega
 .exact absurd I O
def On{D:Nat->Prop}{l:List Dop}(rows:List (List Value))(hl:rows.length=l.length)(j:l.length<=10)(h:∀(i:Nat) r o,rows[i]?=some r->l[i]?=some o->Cb D w r o) :
  BE (fun b=>b=w.heap.size) D (w.alloc (.cells rows.flatten.toArray 83)) (.slice (some ⟨w.heap.size,0,none⟩) l.length l.length) l:=by
 have g:Grow w (w.alloc (.cells rows.flatten.toArray 83)):=Mod.alloc _ _ _;refine BB.made (t:=83) rows (fun r hr=>?_) hl (by simp only[maxLen];omega) fun i r o hr m=>(h i r o hr m).mod g (fun _ _ _ h=>h) fun _ _ h=>h;obtain⟨i,hi,e⟩:=nO.1 hr;obtain⟨_,_,_,e',_⟩:=h i r l[i] (by rw[By hi,e]) (By (by omega));rw[e'];rfl
end Go.Proofs.YtmdhibffnkhcnaaGreatDoor
