/- parts of the proof, written short by a program of ours -/
import Derived.Test.YtmdhibffnkhcnaaGreatDoorZTextNormalUpto2
import Derived.MapKept
set_option linter.unusedSimpArgs false
set_option linter.unusedVariables false
namespace Go.Proofs.YtmdhibffnkhcnaaGreatDoor
open Go Proofs.Tryz
variable {i j c E:Nat}{w W w' W':World}{F S C M:Nat->Prop}{v sv:Value}{most:Int}{vs args:List Value}{α:Type}{rs:List Int}{ks:List DKey}{K:Cont}{P:Program}
theorem AE.len{α β:Type}{B e k:Nat}{R:World->List Value->α->Prop}{l:List α}(h:AE B e k R w v l)(i:List β)(hl:i.length=l.length):AE B e k (fun _ _ (_:β)=>True) w v i:=by
 obtain⟨rows,h1,j,o,_⟩:=h;exact⟨rows,by rw[hl];exact h1,by rw[hl];exact j,o,fun _ _ _ _ _=>trivial⟩
def HV(ins:List Dop)(set:List Attr):Bool:=match ins.getLast? with|some o=>decide (o.set=set)|none=>false
theorem CX{l:List Dop}(h:0<l.length):l.getLast?=some l[l.length-1]:=by
 rw[List.getLast?_eq_getElem?];simp[show l.length-1<l.length by omega]
theorem Nk{b:Nat}{s:Gw}{set:List Attr}(h:KF F w b s)(h1:KR S w v rs)(h2:Cf S w sv set)(hS:∀x,S x->¬F x)
 (eh:(s.ins.length+1)*88<=140737488355328)(ej:∀o∈s.ins,(o.Ak.length+rs.length)*4<=140737488355328)(ek:rs.length*4<=140737488355328)(en:set.length*48<=140737488355328) :
  AB prog 61 [.pointer (some ⟨b,0,none⟩),v,sv] (fun _ w'=>KF (fun x=>F x\/w.heap.size<=x) w' b (Md s rs set)/\Mod F w w') w:=by
 apply fB;have hI:=h;obtain⟨dv,iv,C,b7,h⟩:=h;obtain⟨pl,cl,rfl,ml⟩:=h1.shape;have eo:∃ga gc,iv=.slice ga s.ins.length gc:=by
  rcases h.ins with⟨Q,Y,_⟩|⟨g,c,hh,Q,_⟩
  .exact⟨none,0,by rw[Q,Y];rfl⟩
  .exact⟨_,c,Q⟩
 obtain⟨ga,gc,rfl⟩:=eo;refine AT (fun vs w1=>w1=w/\rs≠[]) ?_ ?_;rotate_left
 .rw[JV];simp only[oK];rw[FC,C3 (by simp),AP,Al];refine AF (fun e=>?_) fun e=>⟨trivial,fun h=>e (Rt.2 h)⟩;have:=Rt.1 e;subst this;exact⟨by rw[Md,Io rfl];exact hI.sub fun x i=>.inl i,Mod.refl _ _⟩
 rintro vs _ ⟨rfl,b8⟩ _;rename World=>w
 have h5:0<rs.length:=lT.2 b8;rw[Bi,AG,AH];refine AK h.c1 ?_;rw[AP,Av];have h7:s.ins.length*88<=140737488355328:=by omega
 rw[wrap64 (by omega) (by omega)];have key:Md s rs set=⟨s.done,Fg s.ins rs set,s.gone⟩:=by rw[Md,C3 b8]
 rw[key];refine AT (fun vs w1=>vs=[.bool (HV s.ins set)]/\Grow w w1) ?_ ?_;rotate_left
 .rw[DX];refine AF (fun ep=>?_) fun ep=>?_
  .have a8:0<s.ins.length:=by omega
   rw[Bi,AG,AH];refine AK h.c1 ?_;have I:s.ins.length-1<s.ins.length:=by omega
   rw[show((s.ins.length:Int)-1)=((s.ins.length-1:Nat):Int) by omega];obtain⟨p,r,rfl,_,hr,hc,rv,b9,pv,rfl,q1,q2,q3⟩:=h.bP.get I;refine AU I ?_;rw[AG,Addr.add_add];refine AK (hc 3 _ rfl) ?_;refine AA (XR q2 h2) ?_;rintro v1 w1 ⟨rfl,g1⟩;exact⟨by rw[HV,CX a8],g1⟩
  .have:s.ins=[]:=QC (by omega);exact⟨by rw[HV,this];rfl,Mod.refl _ _⟩
 rintro vs w3 ⟨rfl,g3⟩ _;rw[B0,Of];have gd:Grow w w3.drew:=g3.trans (Mod.drew _ _);have B:=h.grow gd;have zd:=gd.size;have bk:KR (fun x=>S x/\x<w.heap.size) w3.drew (.slice pl rs.length cl) rs:=(h1.GQ (by decide)).grow gd (by decide) fun _ _ h=>h;have bx:Cf (fun x=>S x/\x<w.heap.size) w3.drew sv set:=(h2.GQ (by decide)).grow gd (by decide) fun _ _ h=>h;generalize w3.drew=w4 at gd B zd bk bx ⊢;cases Z:HV s.ins set with
 |true=>
  rw[FC,Io rfl];have a8:0<s.ins.length:=by
   cases hn:s.ins with
   |nil=>rw[HV,hn] at Z;cases Z
   |cons a l=>simp
  have I:s.ins.length-1<s.ins.length:=by omega
  rcases B.ins with⟨Q,_⟩|⟨g,c,hh,Q,Y,e3,e4,e5,e6,e7,e8,e9,a6,T,b0,bl,ba⟩
  .rw[Q] at a8;simp at a8
  simp only[mZ,ob] at Q;obtain⟨rfl,rfl⟩:=Q;obtain⟨rv,b9,pv,c4,_,ho,_⟩:=ba.2 _ I;obtain⟨o1,o2,o3,o4⟩:=ho (by omega);have c6:s.ins[s.ins.length-1].set=set:=by
   rw[HV,CX a8] at Z;simpa using Z
  rw[show((s.ins.length:Int)-1)=((s.ins.length-1:Nat):Int) by omega];refine Ai (fun k x=>(k=14/\x=hh)\/(k=17/\x=g)) ?_;rw[Bi,AG,AH];refine AY ⟨B.c1,fun j _ e=>by rcases e with⟨_,e⟩|⟨_,e⟩;exact a6 e.symm;exact e6 e.symm⟩ ?_;rw[Bi,AG,AH];refine AY ⟨B.c1,fun j _ e=>by rcases e with⟨_,e⟩|⟨_,e⟩;exact a6 e.symm;exact e6 e.symm⟩ ?_;refine AU I ?_;rw[AG,Addr.add_add,AH];refine AY ⟨c4 2 _ rfl,fun j hj e=>by rcases e with⟨rfl,e⟩|⟨rfl,e⟩;exact T e.symm;exact absurd hj (by decide)⟩ ?_;have c7:=ej s.ins[s.ins.length-1] (by simp);obtain⟨v',w5,r1,r2,r3,r4⟩:=AE.append (ty:=80) Ie o1 bk (fun _ _=>Bo.one) c7 (Nn _) (by simp only[maxLen];omega) fun _ _ _ _ h=>h;refine Ag r1 ⟨(Mod.of_grownBy r3).mono fun x _ e=>by rw[o2] at e;cases e;exact .inl ⟨rfl,rfl⟩,?_⟩;have ay:Mod (fun x=>x=hh) w4 w5:=(Mod.of_grownBy r3).mono fun x _ e=>by rw[o2] at e;cases e;rfl
  have bn:=AE.one r2;have er:∃h2,v'.ownBlock=some h2/\h2<w5.heap.size:=by
   obtain⟨a,c',rfl,_,_,hp,hn⟩:=AE.shape r2;cases a with
   |none=>have:=hn rfl;simp at this;exact(b8 this.2).elim
   |some p=>obtain⟨g',rfl,q1,q2,q3⟩:=hp p rfl;exact⟨g',q3,q2⟩
  obtain⟨E,U,c9⟩:=er;have ca:=r4 E U;have zz:=ay.size;have h8:g<w4.heap.size:=by
   have:=AE.BA e3 g rfl;exact this.2
  have b3:∀x,dv.ownBlock=some x->x<w4.heap.size:=fun x i=>(AE.BA B.done x i).2;have b4:Live w5 ⟨g,(s.ins.length-1)*5+2,none⟩:=by
   obtain⟨_,_,_,_,hl⟩:=AE.cellsOf e3 I;exact(hl 2 (by decide)).mod ay fun e=>T e.symm
  refine AU I ?_;rw[AG,Addr.add_add,AH];refine b4.st bn.1 bn.2 ⟨Mod.setCell _ _ _ (.inr ⟨rfl,rfl⟩),?_⟩;have cc:=Lk w5 g ((s.ins.length-1)*5+2) v';have a7:∀x,E=x->x=hh\/w4.heap.size<=x:=by
   rintro x rfl;rcases ca with e|e
   .rw[o2] at e;cases e;exact .inl rfl
   .exact .inr e
  have nC:¬C E:=fun i=>by rcases a7 _ rfl with e|e;exact e9 (e▸i);have:=(B.cf _ i).2;omega
  have et:E≠b:=fun e=>by
   have eu:b<w4.heap.size:=kT w4 ⟨b,0,none⟩ B.c0;rcases a7 _ rfl with e'|e'
   .exact a6 (e'.symm.trans e)
   .omega
  have cd:E≠g:=fun e=>by
   rcases a7 _ rfl with e'|e'
   .exact T (e'.symm.trans e)
   .omega
  have ew:dv.ownBlock≠some E:=fun e=>by
   have:=b3 _ e;rcases a7 _ rfl with e'|e'
   .rw[e'] at e;exact b0 e
   .omega
  have mm:Mod (fun x=>x=hh\/x=g) w4 (w5.setCell ⟨g,(s.ins.length-1)*5+2,none⟩ v'):=(ay.mono fun _ _ e=>.inl e).trans (cc.mono fun _ _ e=>.inr e);have an:¬(b=hh\/b=g):=by rintro(e|e);exact a6 e.symm;exact e6 e.symm
  have V:∀x,C x->¬(x=hh\/x=g):=by rintro x i (rfl|rfl);exact e9 i;exact e5 i
  have ch:AE 0 21 1 Bo (w5.setCell ⟨g,(s.ins.length-1)*5+2,none⟩ v') v' (s.ins[s.ins.length-1].Ak++rs):=AE.mod r2 cc (fun x i e=>by rw[U] at i;cases i;exact cd e) fun _ _ _ h=>h;have X:Fg s.ins rs set=s.ins.set (s.ins.length-1) ⟨s.ins[s.ins.length-1].kind,s.ins[s.ins.length-1].n,s.ins[s.ins.length-1].Ak++rs,s.ins[s.ins.length-1].set,s.ins[s.ins.length-1].patch⟩:=by
   unfold Fg;rw[CX a8];simp only[c6,km]
  have oA:=AE.MP (AE.mod e3 ay (fun x i e=>by simp only [Value.ownBlock,i6] at i;exact T (e.symm.trans i.symm)) fun _ _ _ _=>trivial) I (show 2 < 5 by decide) bn.1;refine ⟨⟨dv,_,C,some E,mm.cell B.c0 an,mm.cell B.c1 an,mm.cell B.c2 an,fun q hq=>(B.lv q hq).mod mm an,.inl B.fb,B.nb,fun x i=>⟨.inl (B.cf x i).1,WL (B.cf x i).2 mm.size⟩,
   AE.mod B.done mm (fun x i e=>by rcases e with rfl | rfl;exact b0 i;exact e7 i) fun r x _ i=>i.cmod mm V,fun x i=>⟨.inl (B.dF x i).1,(B.dF x i).2⟩,.inr ⟨g,gc,E,?_,rfl,?_,.inl e4,e5,e6,e7,?_,nC,et,cd,ew,?_,?_⟩⟩,?_⟩
  .rw[X,kC]
  .exact AE.len oA _ (by rw[X,kC])
  .rcases a7 _ rfl with e|e
   .exact .inl (e▸e8)
   .exact .inr (by omega)
  .rw[World.size_setCell];exact c9
  .rw[X];refine⟨by rw[kC];exact a8,fun j hj=>?_⟩;rw[kC] at hj;obtain⟨eA,eB,eC,a1,a2,a3,a4⟩:=ba.2 j hj;by_cases bb:j=s.ins.length-1
   .subst bb;have cn:NC w5 g (s.ins.length-1) s.ins[s.ins.length-1] rv b9 pv:=c4.mod ay fun e=>T e.symm;refine⟨v',b9,pv,fun q u hu=>?_,?_,fun _=>?_,fun e=>by rw[kC] at e;omega⟩
    .rw[mw] at hu;have hq:=(Bp.1 hu).1;simp only[Vn,kl] at hq;by_cases cv:q=2
     .subst cv;simp only[nP,nQ,i6] at hu;subst hu;obtain⟨u',eI⟩:=jV.1 b4.1;exact kJ _ _ _ eI
     .rw[S4 _ _ _ _ (by intro e;simp only[Addr.mk.injEq] at e;omega)];refine cn q u ?_;rw[<-hu];match q,hq,cv with
      |0,_,_=>rfl
      |1,_,_=>rfl
      |3,_,_=>rfl
      |4,_,_=>rfl
    .rw[mw];refine⟨v',b9,pv,rfl,?_,?_,?_⟩
     .exact Lr (by decide) ⟨ch,fun x i=>.inr (by rw[U] at i;exact(kK i).symm)⟩
     .exact o3.mono (fun _ _ i=>.inl i) (fun x hb i=>mm.same x hb (V x i)) (by decide) fun _ _ h=>h
     .exact o4.mono (fun _ _ i=>.inl i) (fun x hb i=>mm.same x hb (V x i)) (by decide) fun _ _ h=>h
    .rw[mw];exact⟨ch,U,o3.mono (fun _ _ i=>i) (fun x hb i=>mm.same x hb (V x i)) (by decide) fun _ _ h=>h,o4.mono (fun _ _ i=>i) (fun x hb i=>mm.same x hb (V x i)) (by decide) fun _ _ h=>h⟩
   .have cx:=(a4 (by omega)).cmod mm V;refine⟨eA,eB,eC,fun q u hu=>?_,?_,fun e=>by rw[kC] at e;omega,fun _=>?_⟩
    .rw[pM (by omega)] at hu;have hq:=(Bp.1 hu).1;simp only[Vn,kl] at hq;rw[S4 _ _ _ _ (by intro e;simp only[Addr.mk.injEq] at e;omega)];exact ay.cell (a1 q u hu) fun e=>T e.symm
    .rw[pM (by omega)];exact cx.mod (Mod.refl (fun _=>False) _) (fun _ _ _ h=>h) fun _ _ i=>.inl i
    .rw[pM (by omega)];exact cx
  .refine(Grow.mod gd).trans (mm.mono fun x _ e=>?_);rcases e with rfl|rfl
   .exact e8
   .exact e4
 |false=>
  rw[FC,C3 (by simp)];have X:Fg s.ins rs set=s.ins++[⟨2,0,rs,set,[]⟩]:=by
   unfold Fg;unfold HV at Z;cases hl:s.ins.getLast? with
   |none=>rfl
   |some o=>rw[hl] at Z;simp only[kW] at Z;simp only;rw[C3 Z]
  have eu:b<w4.heap.size:=kT w4 ⟨b,0,none⟩ B.c0;have av:(Value.slice ga s.ins.length gc).ownBlock≠some b/\(∀g,(Value.slice ga s.ins.length gc).ownBlock=some g->F g/\¬C g/\g≠b/\dv.ownBlock≠some g/\b7≠some g/\g<w4.heap.size):=by
   rcases B.ins with⟨Q,Y,_⟩|⟨g,c,hh,Q,Y,e3,e4,e5,e6,e7,e8,e9,a6,T,_⟩
   .simp only[mZ] at Y;obtain⟨rfl,_⟩:=Y;exact⟨fun h=>(nomatch h),fun g h=>(nomatch h)⟩
   .simp only[mZ,ob] at Q;obtain⟨rfl,rfl⟩:=Q;refine⟨fun e=>by simp only[Value.ownBlock,i6] at e;exact e6 e,fun g' e=>?_⟩;simp only[Value.ownBlock,i6] at e;subst e;exact⟨e4,e5,e6,e7,fun e=>by rw[Y] at e;cases e;exact T rfl,(AE.BA e3 _ rfl).2⟩
  obtain⟨av,J⟩:=av;have ax:∀x,b7=some x->F x/\¬C x/\x≠b/\dv.ownBlock≠some x/\x<w4.heap.size:=by
   intro x i;rcases B.ins with⟨_,_,e⟩|⟨g,c,hh,Q,Y,e3,e4,e5,e6,e7,e8,e9,a6,T,b0,bl,_⟩
   .rw[e] at i;cases i
   .rw[Y] at i;cases i;exact⟨e8,e9,a6,b0,bl⟩
  refine Ai (fun k x=>(k=11/\(Value.slice ga s.ins.length gc).ownBlock=some x)\/(k=14/\x=b)) ?_;rw[Bi,AG,AH];refine AY ⟨B.c1,fun j hj e=>by rcases e with⟨_,e⟩|⟨rfl,_⟩;exact av e;exact absurd hj (by decide)⟩ ?_;refine AA (KT bk ek) ?_;rintro t1 w5 ⟨n1,g5⟩;refine⟨Grow.mod g5,?_⟩;refine AA (Fz (bx.grow g5 (by decide) fun _ _ h=>h) en) ?_;rintro t2 w6 ⟨n2,g6⟩;refine⟨Grow.mod g6,?_⟩;have dk:=g5.trans g6;have z5:=g5.size;have z6:=g6.size;have h6:=B.grow dk;have dT:AE w4.heap.size 21 1 Bo w6 t1 rs:=AE.mod n1 g6 (fun _ _ h=>h) fun _ _ _ h=>h;obtain⟨eL,h9,b5,_,_,eN,eR⟩:=AE.shape dT;obtain⟨hd,hf,b6,_⟩:=AE.shape n2;refine⟨#[.int .u8 2,.int .i64 0,t1,t2,.slice none 0 0],by subst b5;subst b6;kernel_rfl,?_⟩;have hn:∃E,t1.ownBlock=some E/\w4.heap.size<=E/\E<w6.heap.size:=by
   cases eL with
   |none=>exact(b8 (eR rfl)).elim
   |some p=>obtain⟨g',_,q1,q2,q3⟩:=eN p rfl;exact⟨g',q3,q1,q2⟩
  obtain⟨E,U,c9,ca⟩:=hn
  let C2:Nat->Prop:=fun x=>(C x\/b7=some x)/\x<w4.heap.size
  let C':Nat->Prop:=fun x=>C2 x\/t2.ownBlock=some x
  let R:World->List Value->Dop×Bool->Prop:=fun W r x=>match x.2 with
   |false=>Ca C2 W r x.1
   |true=>r=KZ x.1 t1 t2 (.slice none 0 0)/\AE 0 21 1 Bo W t1 x.1.Ak/\Cf (fun x=>t2.ownBlock=some x) W t2 x.1.set/\x.1.patch=[]
  have bd:∀W r y,R W r y->∀u∈r,u.oneCell'=true:=by
   rintro W r ⟨o,t⟩ hy;cases t with
   |false=>exact Ca.one hy
   |true=>
    obtain⟨rfl,_⟩:=hy;intro u hu;simp only[I3,kV,mI] at hu;rcases hu with rfl|rfl|rfl|rfl|rfl
    .rfl
    .rfl
    .rw[b5];rfl
    .rw[b6];rfl
    .rfl
  have o6:AE 0 Xx 5 R w6 (.slice ga s.ins.length gc) (s.ins.map fun o=>(o,false)):=by
   rcases h6.ins with⟨Q,Y,_⟩|⟨g,c,hh,Q,Y,e3,e4,e5,e6,e7,e8,e9,a6,T,b0,bl,ba⟩
   .rw[Q] at Y ⊢;rw[Y];exact AE.nil
   .simp only[mZ,ob] at Q;obtain⟨rfl,rfl⟩:=Q;refine AE.conv (AE.len e3 (s.ins.map fun o=>(o,false)) (by simp)) fun j hj r hr bd bc=>?_;have eX:j<s.ins.length:=by simpa using hj
    obtain⟨rv,ak,pv,q1,q2,_,_⟩:=ba.2 j eX;have e:r=KZ s.ins[j] rv ak pv:=by
     refine lW fun q=>?_;by_cases hq:q<5
     .have h1:r[q]?=some r[q]:=By (by omega);have h2:(KZ s.ins[j] rv ak pv)[q]?=some (KZ s.ins[j] rv ak pv)[q]:=By (by simpa using hq);have h3:=bc q _ h1;rw[q1 q _ h2] at h3;rw[h1,h2,h3]
     .rw[kN (by omega),kN (by simp;omega)]
    subst e;rw[lV];refine q2.mod (Mod.refl (fun _=>False) _) (fun _ _ _ h=>h) fun x i hc=>?_;rcases hc with hc|hc
    .exact⟨.inl hc,(B.cf x hc).2⟩
    .subst hc;exact⟨.inr Y,(ax _ Y).2.2.2.2⟩
  have fa:∀W1 W2 r y,w6.heap.size<=W1.heap.size->Mod (fun x=>(Value.slice ga s.ins.length gc).ownBlock=some x\/w6.heap.size<=x) W1 W2->R W1 r y->R W2 r y:=by
   rintro W1 W2 r ⟨o,t⟩ hz hm hy;cases t with
   |false=>
    refine Ca.mod hy hm (fun x _ i e=>?_) fun _ _ h=>h;rcases e with e|e
    .obtain⟨_,q2,_,_,q5,_⟩:=J x e;rcases i.1 with hc|hc
     .exact q2 hc
     .exact q5 hc
    .have:=i.2;omega
   |true=>
    obtain⟨q1,q2,q3,q4⟩:=hy;refine⟨q1,AE.mod q2 hm (fun x i e=>?_) fun _ _ _ h=>h,q3.mono (fun _ _ h=>h) (fun x hb i=>hm.same x hb fun e=>?_) (by decide) fun _ _ h=>h,q4⟩
    .rw[U] at i;cases i;rcases e with e|e
     .have:=(J _ e).2.2.2.2.2;omega
     .omega
    .have h1:=AE.BA n2 x i;rcases e with e|e
     .have:=(J _ e).2.2.2.2.2;omega
     .omega
  refine LF GG o6 (Nn _) (cs:=KZ ⟨2,0,rs,set,[]⟩ t1 t2 (.slice none 0 0)) (x:=((⟨2,0,rs,set,[]⟩:Dop),true)) (by subst b5;subst b6;kernel_rfl) rfl ⟨rfl,AE.base dT fun _ _=>Nn _,BB.sub (AE.sl n2) (fun x _ i=>i.2) (by decide) fun _ _ h=>h,rfl⟩ bd fa (by simpa using eh) (by simp only[Es,maxLen];omega) (fun _ g=>Grow.mod g) fun hg v' w7 o7 fs m7 f7=>?_;refine⟨fs.mono fun x _ e=>.inl ⟨rfl,e⟩,?_⟩;have z7:=m7.size;have ea:=AE.one o7;obtain⟨va,vc,rfl,_,_,fv,gb⟩:=AE.shape o7;cases va with
  |none=>have:=gb rfl;simp at this
  |some vp=>
  obtain⟨g7,rfl,_,hs,gf⟩:=fv _ rfl;have ec:(s.ins.map (fun o=>(o,false))++[((⟨2,0,rs,set,[]⟩:Dop),true)]).length=(Fg s.ins rs set).length:=by rw[X];simp
  have O:=f7 g7 rfl;have bne:¬(Value.slice ga s.ins.length gc).ownBlock=some b:=av;have gg:∀x,C x->¬(Value.slice ga s.ins.length gc).ownBlock=some x:=fun x i e=>(J x e).2.1 i;have hv:Ug F w7 b s dv (.slice ga s.ins.length gc) C b7->True:=fun _=>trivial;have l7:∀q,q<3->Live w7 ⟨b,q,none⟩:=fun q hq=>(h6.lv q hq).mod m7 bne;rw[Bi,AG,AH];refine(l7 1 (by decide)).st ea.1 ea.2 ⟨Mod.setCell _ _ _ (.inr ⟨rfl,rfl⟩),?_⟩;have al:=Lk w7 b 1 (Value.slice (some ⟨g7,0,none⟩) (s.ins.map (fun o=>(o,false))++[((⟨2,0,rs,set,[]⟩:Dop),true)]).length vc);have gl:∀q,q≠1->(⟨b,1,none⟩:Addr)≠⟨b,q,none⟩:=fun q hq e=>by simp only[Addr.mk.injEq] at e;omega
  obtain⟨u1,gm⟩:=jV.1 (l7 1 (by decide)).1;have c8:∀q u,q≠1->w6.cell? ⟨b,q,none⟩=some u->(w7.setCell ⟨b,1,none⟩ (Value.slice (some ⟨g7,0,none⟩) (s.ins.map (fun o=>(o,false))++[((⟨2,0,rs,set,[]⟩:Dop),true)]).length vc)).cell? ⟨b,q,none⟩=some u:=fun q u hq hu=>(S4 _ _ _ _ (gl q hq)).trans (m7.cell hu bne);have ed:=kJ w7 ⟨b,1,none⟩ (Value.slice (some ⟨g7,0,none⟩) (s.ins.map (fun o=>(o,false))++[((⟨2,0,rs,set,[]⟩:Dop),true)]).length vc) gm;have ee:∀q,q<3->Live (w7.setCell ⟨b,1,none⟩ (Value.slice (some ⟨g7,0,none⟩) (s.ins.map (fun o=>(o,false))++[((⟨2,0,rs,set,[]⟩:Dop),true)]).length vc)) ⟨b,q,none⟩:=fun q hq=>(l7 q hq).set _ _;have b3:∀x,dv.ownBlock=some x->x<w4.heap.size:=fun x i=>(AE.BA B.done x i).2;have ef:g7≠b:=fun e=>by rcases O with h|h;exact bne (e▸h);omega
  have gw:¬C' g7:=by
   rintro(⟨i|i,I⟩|i)
   .rcases O with h|h
    .exact(J _ h).2.1 i
    .omega
   .rcases O with h|h
    .exact(J _ h).2.2.2.2.1 i
    .omega
   .have:=AE.BA n2 _ i;rcases O with h|h
    .have:=(J _ h).2.2.2.2.2;omega
    .omega
  have gA:dv.ownBlock≠some g7:=fun e=>by
   rcases O with h|h
   .exact(J _ h).2.2.2.1 e
   .have:=b3 _ e;omega
  have bp:∀x,C' x->¬x=b:=by
   rintro x (⟨i|i,I⟩|i) e
   .exact B.nb (e▸i)
   .exact(ax x i).2.2.1 e
   .have:=AE.BA n2 _ i;omega
  have gB:¬C' E:=by
   rintro(⟨_,I⟩|i)
   .omega
   .have:=AE.BA n2 _ i;have:=(AE.BA (AE.mod n1 (Mod.refl (fun _=>False) _) (fun _ _ h=>h) fun _ _ _ h=>h) _ U).2;omega
  have Cd:∀x,C x->C' x:=fun x i=>.inl ⟨.inl i,(B.cf x i).2⟩;have o8:AE 0 Xx 5 R (w7.setCell ⟨b,1,none⟩ (Value.slice (some ⟨g7,0,none⟩) (s.ins.map (fun o=>(o,false))++[((⟨2,0,rs,set,[]⟩:Dop),true)]).length vc)) (Value.slice (some ⟨g7,0,none⟩) (s.ins.map (fun o=>(o,false))++[((⟨2,0,rs,set,[]⟩:Dop),true)]).length vc) (s.ins.map (fun o=>(o,false))++[((⟨2,0,rs,set,[]⟩:Dop),true)]):=by
   refine AE.mod o7 al (fun x i e=>?_) fun r y _ hy=>?_
   .simp only[Value.ownBlock,i6] at i;subst i;exact ef e
   .obtain⟨o,t⟩:=y;cases t with
    |false=>exact Ca.mod hy al (fun x _ i e=>bp x (.inl i) e) fun _ _ h=>h
    |true=>
     obtain⟨q1,q2,q3,q4⟩:=hy;refine⟨q1,AE.mod q2 al (fun x i e=>?_) fun _ _ _ h=>h,q3.mono (fun _ _ h=>h) (fun x hb i=>al.same x hb fun e=>bp x (.inr i) e) (by decide) fun _ _ h=>h,q4⟩;rw[U] at i;cases i;omega
  generalize hW:w7.setCell ⟨b,1,none⟩ (Value.slice (some ⟨g7,0,none⟩) (s.ins.map (fun o=>(o,false))++[((⟨2,0,rs,set,[]⟩:Dop),true)]).length vc)=W at al c8 ed ee o8 ⊢;have z8:=al.size;have bs:Mod (fun x=>(Value.slice ga s.ins.length gc).ownBlock=some x\/x=b) w6 W:=(m7.mono fun _ _ e=>.inl e).trans (al.mono fun _ _ e=>.inr e);have Cm:∀x,C x->¬((Value.slice ga s.ins.length gc).ownBlock=some x\/x=b):=by
   rintro x i (e|e)
   .exact gg x i e
   .exact B.nb (e▸i)
  refine⟨⟨dv,_,C',some E,c8 0 _ (by decide) h6.c0,ed,c8 2 _ (by decide) h6.c2,ee,.inl B.fb,fun i=>bp b i rfl,?_,?_,fun x i=>⟨.inl (B.dF x i).1,?_,(B.dF x i).2.2⟩,.inr ⟨g7,vc,E,?_,rfl,?_,?_,gw,ef,gA,.inr (by omega),gB,by omega,?_,?_,by omega,?_⟩⟩,?_⟩
  .rintro x (⟨i|i,I⟩|i)
   .exact⟨.inl (B.cf x i).1,by omega⟩
   .exact⟨.inl (ax x i).1,by omega⟩
   .have:=AE.BA n2 _ i;exact⟨.inr (by omega),by omega⟩
  .refine AE.mod h6.done bs (fun x i e=>?_) fun r x _ i=>(i.cmod bs Cm).mod (Mod.refl (fun _=>False) _) (fun _ _ _ h=>h) fun y _ hy=>Cd y hy;rcases e with e|e
   .exact(J _ e).2.2.2.1 i
   .exact(B.dF x i).2.2 e
  .rintro(⟨hc|hc,I⟩|hc)
   .exact(B.dF x i).2.1 hc
   .exact(ax x hc).2.2.2.1 i
   .have:=AE.BA n2 _ hc;have:=b3 x i;omega
  .rw[ec]
  .exact AE.len o8 _ ec.symm
  .rcases O with h|h
   .exact .inl (J _ h).1
   .exact .inr (by omega)
  .intro e;rcases O with h|h
   .have:=(J _ h).2.2.2.2.2;omega
   .omega
  .intro e;have:=b3 _ e;omega
  .rw[X];refine⟨by simp,fun j hj=>?_⟩;have gW:j<(s.ins.map (fun o=>(o,false))++[((⟨2,0,rs,set,[]⟩:Dop),true)]).length:=by simpa using hj
   obtain⟨r,hr,bc,hR,_⟩:=AE.cellsOf o8 gW;by_cases bb:j<s.ins.length
   .have Q:(s.ins.map (fun o=>(o,false))++[((⟨2,0,rs,set,[]⟩:Dop),true)])[j]=(s.ins[j],false):=by
     rw[mK (by simpa using bb)];simp
    have Y:(s.ins++[(⟨2,0,rs,set,[]⟩:Dop)])[j]=s.ins[j]:=by rw[mK bb]
    rw[Q] at hR;have h0:Ca C2 W r s.ins[j]:=hR;obtain⟨rv,ak,pv,rfl,p1,p2,p3⟩:=h0;rw[Y];have rd:Ca C' W (KZ s.ins[j] rv ak pv) s.ins[j]:=Ca.mod (D:=C2) ⟨rv,ak,pv,rfl,p1,p2,p3⟩ (Mod.refl (fun _=>False) _) (fun _ _ _ h=>h) fun x _ i=>.inl i;refine⟨rv,ak,pv,bc,rd.mod (Mod.refl (fun _=>False) _) (fun _ _ _ h=>h) fun x _ i=>.inl i,fun e=>?_,fun _=>rd⟩;simp at e;omega
   .have h4:j=s.ins.length:=by simp at hj;omega
    subst h4;have Q:(s.ins.map (fun o=>(o,false))++[((⟨2,0,rs,set,[]⟩:Dop),true)])[s.ins.length]=((⟨2,0,rs,set,[]⟩:Dop),true):=by
     rw[ln (by simp)];simp
    have Y:(s.ins++[(⟨2,0,rs,set,[]⟩:Dop)])[s.ins.length]=(⟨2,0,rs,set,[]⟩:Dop):=by rw[ln (by simp)];simp
    rw[Q] at hR;obtain⟨rfl,q2,q3,q4⟩:=hR;rw[Y];refine⟨t1,t2,.slice none 0 0,bc,⟨t1,t2,.slice none 0 0,rfl,?_,?_,BB.nil⟩,fun _=>⟨q2,U,?_,BB.nil⟩,fun e=>by simp at e⟩
    .exact Lr (by decide) ⟨q2,fun x i=>.inr (by rw[U] at i;exact(kK i).symm)⟩
    .exact BB.sub q3 (fun x _ i=>.inl (.inr i)) (by decide) fun _ _ h=>h
    .exact BB.sub q3 (fun x _ i=>.inr i) (by decide) fun _ _ h=>h
  .refine((Grow.mod gd).trans (Grow.mod dk)).trans (bs.mono fun x _ e=>?_);rcases e with e|e
   .exact(J _ e).1
   .rw[e];exact B.fb
theorem ia(W:World)(b:Nat)(i j o:Value)(l:∀q,q<3->Live W ⟨b,q,none⟩):∀W',W'=((W.setCell ⟨b,0,none⟩ i).setCell ⟨b,1,none⟩ j).setCell ⟨b,2,none⟩ o->Mod (fun x=>x=b) W W'/\W'.cell? ⟨b,0,none⟩=some i/\W'.cell? ⟨b,1,none⟩=some j/\W'.cell? ⟨b,2,none⟩=some o/\(∀q,q<3->Live W' ⟨b,q,none⟩):=by
 rintro W' rfl;have ne:∀q B,q≠B->(⟨b,q,none⟩:Addr)≠⟨b,B,none⟩:=fun q B E e=>by simp only[Addr.mk.injEq] at e;omega
 have I:=Lk W b 0 i;have J:=Lk (W.setCell ⟨b,0,none⟩ i) b 1 j;have O:=Lk ((W.setCell ⟨b,0,none⟩ i).setCell ⟨b,1,none⟩ j) b 2 o;refine⟨(I.trans J).trans O,?_,?_,?_,fun q E=>(((l q E).set _ _).set _ _).set _ _⟩
 .obtain⟨u,hu⟩:=jV.1 (l 0 (by decide)).1;rw[S4 _ _ _ _ (ne 2 0 (by decide)),S4 _ _ _ _ (ne 1 0 (by decide))];exact kJ _ _ _ hu
 .obtain⟨u,hu⟩:=jV.1 ((l 1 (by decide)).set ⟨b,0,none⟩ i).1;rw[S4 _ _ _ _ (ne 2 1 (by decide))];exact kJ _ _ _ hu
 .obtain⟨u,hu⟩:=jV.1 (((l 2 (by decide)).set ⟨b,0,none⟩ i).set ⟨b,1,none⟩ j).1;exact kJ _ _ _ hu
def Gt(d:List Dop)(p:List Chg):Bool:=match d.getLast? with|some o=>decide (o.kind=1/\o.patch=p)|none=>false
theorem Nc{b:Nat}{s:Gw}{n:Int}{p:List Chg}(h:KF F w b s)(h1:FY S w v p)(hS:∀x,S x->¬F x)
 (eA:s.done.length+s.ins.length+2<=1099511627776)(dT:p.length*56<=140737488355328) :
  AB prog 60 [.pointer (some ⟨b,0,none⟩),.int .i64 n,v] (fun _ w'=>KF (fun x=>F x\/w.heap.size<=x) w' b (LA s n p)/\Mod F w w') w:=by
 apply fg;have hI:=h;have ea:(s.ins.length+1)*88<=140737488355328:=by omega
 obtain⟨dv,iv,C,bk,h⟩:=h;refine AT (fun vs w1=>w1=w/\¬n<1) ?_ ?_;rotate_left
 .rw[JV];simp only[oK];rw[FC,C3 (by simp),Ap];refine AF (fun e=>?_) fun e=>⟨trivial,e⟩;exact⟨by rw[LA,Io e];exact hI.sub fun x i=>.inl i,Mod.refl _ _⟩
 rintro vs _ ⟨rfl,hn⟩ _;rename World=>w
 have key:LA s n p=⟨FO (s.done++BH s.ins s.gone) n p,[],0⟩:=by rw[LA,C3 hn]
 rw[key];have gl:(BH s.ins s.gone).length<=s.ins.length+1:=by unfold BH;split<;>simp
 have gd:Grow w w.drew:=Mod.drew _ _;have E:=h.grow gd;have zd:w.drew.heap.size=w.heap.size:=rfl;have bl:FY (fun x=>S x/\x<w.heap.size) w.drew v p:=(h1.GQ (by decide)).grow gd (by decide) fun _ _ h=>h;have ec:b<w.drew.heap.size:=kT w.drew ⟨b,0,none⟩ E.c0;have ed:∀x,dv.ownBlock=some x->x<w.drew.heap.size:=fun x i=>(AE.BA E.done x i).2;have U:∀x,bk=some x->F x/\¬C x/\x≠b/\dv.ownBlock≠some x/\x<w.drew.heap.size:=by
  intro x i;rcases E.ins with⟨_,_,e⟩|⟨g,c,hh,e1,e2,e3,e4,e5,e6,e7,e8,e9,ee,eB,ef,eh,_⟩
  .rw[e] at i;cases i
  .rw[e2] at i;cases i;exact⟨e8,e9,ee,ef,eh⟩
 rw[<-zd];generalize w.drew=w4 at gd E zd bl ec ed U ⊢;have b8:dv.ownBlock≠some b:=fun e=>(E.dF b e).2.2 rfl
 let Z:Nat->Prop:=fun x=>(C x\/bk=some x)/\x<w4.heap.size
 have b9:¬Z b:=by
  rintro⟨i|i,_⟩
  .exact E.nb i
  .exact(U b i).2.2.1 rfl
 have bn:∀x,dv.ownBlock=some x->¬Z x:=by
  rintro x i ⟨hc|hc,_⟩
  .exact(E.dF x i).2.1 hc
  .exact(U x hc).2.2.2.1 i
 have bp:∀x,Z x->F x:=by
  rintro x ⟨hc|hc,_⟩
  .exact(E.cf x hc).1
  .exact(U x hc).1
 refine Ai (fun k x=>(k=7/\dv.ownBlock=some x)\/(k=10/\x=b)) ?_;rw[Bi,AG,AH];refine AY ⟨E.c0,fun j hj e=>by rcases e with⟨_,e⟩|⟨rfl,_⟩;exact b8 e;exact absurd hj (by decide)⟩ ?_;refine AA (Vc E ea) ?_;rintro v5 w5 ⟨o5,g5⟩;refine⟨Grow.mod g5,?_⟩;have h5:=E.grow g5;have z5:=g5.size;have d5:AE 0 Xx 5 (Ca Z) w5 dv s.done:=AE.mod h5.done (Mod.refl (fun _=>False) _) (fun _ _ h=>h) fun r x _ i=>i.mod (Mod.refl (fun _=>False) _) (fun _ _ _ h=>h) fun y _ Q=>⟨.inl Q,(E.cf y Q).2⟩;obtain⟨v6,w6,r1,o6,r3,r4⟩:=AE.append (ty:=34) GG d5 (AE.sl o5) (fun _ _=>Ca.one) (by omega) (Nn _) (by simp only[maxLen];omega) fun w' hg r y Q=>Q.mod (Mod.of_grownBy hg) (fun x _ i e=>bn x e i) fun _ _ h=>h;have a1:Mod (fun x=>dv.ownBlock=some x) w5 w6:=Mod.of_grownBy r3;refine Ag r1 ⟨a1.mono fun x _ e=>.inl ⟨rfl,e⟩,?_⟩;have z6:=a1.size;have bs:=AE.one o6;have l6:∀q,q<3->Live w6 ⟨b,q,none⟩:=fun q hq=>(h5.lv q hq).mod a1 b8;have V:∀x,v6.ownBlock=some x->dv.ownBlock=some x\/w4.heap.size<=x:=fun x i=>by rcases r4 x i with h|h;exact .inl h;exact .inr (by omega)
 rw[Bi,AG,AH];refine(l6 0 (by decide)).st bs.1 bs.2 ⟨Mod.setCell _ _ _ (.inr ⟨rfl,rfl⟩),?_⟩;rw[Bi,AG,AH];refine((l6 1 (by decide)).set _ _).st rfl rfl ?_;rw[Bi,AG,AH];refine(((l6 2 (by decide)).set _ _).set _ _).st rfl rfl ?_;generalize bx:((w6.setCell ⟨b,0,none⟩ v6).setCell ⟨b,1,none⟩ (.slice none 0 0)).setCell ⟨b,2,none⟩ (.int .i64 0)=w7;obtain⟨a6,a7,a8,ak,l7⟩:=ia w6 b v6 (.slice none 0 0) (.int .i64 0) l6 w7 bx.symm;clear bx;have z7:=a6.size
 let F1:Nat->Prop:=fun x=>F x\/w4.heap.size<=x
 have c4:v6.ownBlock≠some b:=fun e=>by rcases V b e with h|h;exact b8 h;omega
 have d7:AE 0 Xx 5 (Ca Z) w7 v6 (s.done++BH s.ins s.gone):=AE.mod o6 a6 (fun x i e=>c4 (e▸i)) fun r x _ i=>i.cmod a6 fun y Q e=>b9 (e▸Q);have K7:Ug F1 w7 b ⟨s.done++BH s.ins s.gone,[],0⟩ v6 (.slice none 0 0) Z none:=by
  refine⟨a7,a8,ak,l7,.inl E.fb,b9,fun x i=>⟨.inl (bp x i),by have:=i.2;omega⟩,d7,fun x i=>⟨?_,?_,fun e=>c4 (e▸i)⟩,.inl ⟨rfl,rfl,rfl⟩⟩
  .rcases V x i with h|h
   .exact .inl (E.dF x h).1
   .exact .inr h
  .intro hc;rcases V x i with h|h
   .exact bn x h hc
   .have:=hc.2;omega
 have c6:Mod F w4 w7:=((Grow.mod g5).trans (a1.mono fun x _ e=>(E.dF x e).1)).trans (a6.mono fun x _ e=>by rw[e];exact E.fb);have ej:Mod F w w7:=(Grow.mod gd).trans c6;have p7:FY (fun x=>S x/\x<w.heap.size) w7 v p:=bl.mono (fun _ _ h=>h) (fun x hb i=>c6.same x hb (hS x i.1)) (by decide) fun _ _ h=>h;have c7:(s.done++BH s.ins s.gone).length<=s.done.length+s.ins.length+1:=by simp;omega
 generalize hD:s.done++BH s.ins s.gone=D at K7 d7 c7 ⊢;clear o6 r1 r3 r4 V a7 a8 ak l6 a1 a6 o5 h5 d5;obtain⟨va,vc,rfl,_,_,ek,en⟩:=AE.shape d7;rw[Bi,AG,AH];refine AK K7.c0 ?_;rw[AP,Av,wrap64 (by omega) (by omega)];refine AT (fun vs J=>vs=[.bool (Gt D p)]/\Grow w7 J) ?_ ?_;rotate_left
 .rw[DX];refine AF (fun eo=>?_) fun eo=>?_
  .have T:0<D.length:=by omega
   have O:D.length-1<D.length:=by omega
   rw[show((D.length:Int)-1)=((D.length-1:Nat):Int) by omega];rw[Bi,AG,AH];refine AK K7.c0 ?_;obtain⟨q,r,rfl,_,hr,hc,rv,ba,bb,rfl,q1,q2,q3⟩:=(AE.sl d7).get O;refine AU O ?_;rw[AG,Addr.add_add];refine AK (hc 0 _ rfl) ?_;rw[Al];refine AF (fun hk=>?_) fun hk=>⟨by rw[Gt,CX T];simp[hk],Mod.refl _ _⟩;rw[Bi,AG,AH];refine AK K7.c0 ?_;refine AU O ?_;rw[AG,Addr.add_add];refine AK (hc 4 _ rfl) ?_;refine AA (XI q3 p7) ?_;rintro v1 J ⟨rfl,g8⟩;exact⟨by rw[Gt,CX T];simp[hk],g8⟩
  .have:D=[]:=QC (by omega);exact⟨by rw[Gt,this];rfl,Mod.refl _ _⟩
 rintro vs J ⟨rfl,g8⟩ _;rw[B0,Of];have I:=K7.grow g8;have z8:=g8.size;have d8:AE 0 Xx 5 (Ca Z) J (.slice va D.length vc) D:=I.done;have p8:FY (fun x=>S x/\x<w.heap.size) J v p:=p7.grow g8 (by decide) fun _ _ h=>h;have c8:Mod F w J:=ej.trans (Grow.mod g8);have vb:(Value.slice va D.length vc).ownBlock≠some b:=fun e=>(I.dF b e).2.2 rfl;cases B:Gt D p with
 |true=>
  rw[FC,Io rfl];have T:0<D.length:=by
   cases hn:D with
   |nil=>rw[Gt,hn] at B;cases B
   |cons a l=>simp
  have O:D.length-1<D.length:=by omega
  rw[Gt,CX T] at B;simp only[S6] at B;rw[show((D.length:Int)-1)=((D.length-1:Nat):Int) by omega];cases va with
  |none=>rw[en rfl] at T;simp at T
  |some vp=>
  obtain⟨g7,rfl,_,eC,_⟩:=ek _ rfl;rw[Bi,AG,AH];refine AK I.c0 ?_;obtain⟨q,r,e,_,hr,hc,rv,ba,bb,rfl,q1,q2,q3⟩:=(AE.sl d8).get O;cases e;refine AU O ?_;rw[AG,Addr.add_add];refine AK (hc 1 _ rfl) ?_;rw[AR];refine AU O ?_;rw[AG,Addr.add_add];obtain⟨ep,c9,ax⟩:=I.dF g7 rfl;obtain⟨⟨u,hu⟩,hf,ho,hm⟩:=AE.store (R':=Ca Z) (u:=.int .i64 (IntKind.i64.wrap (D[D.length-1].n+n))) (x':=⟨D[D.length-1].kind,IntKind.i64.wrap (D[D.length-1].n+n),D[D.length-1].Ak,D[D.length-1].set,D[D.length-1].patch⟩) d8 O (show 1<5 by decide) rfl
   (fun r y _ Q=>Q.mod (Mod.setCell (M:=fun x=>x=g7) _ _ _ (by rw[AH])) (fun x _ i e=>c9 (e▸i)) fun _ _ h=>h)
   (fun r Q=>by
    obtain ⟨rv,ba,bb,rfl,p1,p2,p3⟩:=Q.mod (D':=Z) (Mod.setCell (M:=fun x=>x=g7) J ((⟨g7,0,none⟩:Addr).add ((D.length - 1) * 5+1)) (.int .i64 (IntKind.i64.wrap (D[D.length - 1].n+n))) (by rw [AH])) (fun x _ i e=>c9 (e ▸ i)) fun _ _ h=>h;exact ⟨rv,ba,bb,rfl,p1,p2,p3⟩)
  refine Kf rfl rfl hu hf ?_;have al:FO D n p=D.set (D.length-1) ⟨D[D.length-1].kind,IntKind.i64.wrap (D[D.length-1].n+n),D[D.length-1].Ak,D[D.length-1].set,D[D.length-1].patch⟩:=by
   unfold FO;rw[CX T];simp only[B,and_self,km]
  have X:Mod (fun x=>x=g7) J (J.setCell ((⟨g7,0,none⟩:Addr).add ((D.length-1)*5+1)) (.int .i64 (IntKind.i64.wrap (D[D.length-1].n+n)))):=hm;refine⟨⟨_,_,Z,none,X.cell I.c0 (fun e=>ax e.symm),X.cell I.c1 (fun e=>ax e.symm),X.cell I.c2 (fun e=>ax e.symm),fun q hq=>(I.lv q hq).mod X (fun e=>ax e.symm),I.fb,I.nb,fun x i=>⟨(I.cf x i).1,WL (I.cf x i).2 X.size⟩,by rw[al];exact ho,I.dF,.inl ⟨rfl,rfl,rfl⟩⟩,?_⟩;refine c8.next X fun x i e=>?_;subst e;rcases ep with h|h
  .exact h
  .omega
 |false=>
  rw[FC,C3 (by simp)];have ay:Grow J J.drew:=Mod.drew _ _;have K9:=I.grow ay;have er:J.drew.heap.size=J.heap.size:=rfl;have p9:FY (fun x=>S x/\x<w.heap.size) J.drew v p:=p8.grow ay (by decide) fun _ _ h=>h;have ca:Mod F w J.drew:=c8.trans (Grow.mod ay);generalize J.drew=w9 at ay K9 er p9 ca ⊢;refine Ai (fun k x=>(k=10/\(Value.slice va D.length vc).ownBlock=some x)\/(k=13/\x=b)) ?_;rw[Bi,AG,AH];refine AY ⟨K9.c0,fun j hj e=>by rcases e with⟨_,e⟩|⟨rfl,_⟩;exact vb e;exact absurd hj (by decide)⟩ ?_;refine AA (Py p9 dT) ?_;rintro t1 bc ⟨n1,b0⟩;refine⟨Grow.mod b0,?_⟩;have b3:=K9.grow b0;have eI:=b0.size;obtain⟨eL,eN,b5,_⟩:=AE.shape n1;refine⟨#[.int .u8 1,.int .i64 n,.slice none 0 0,.slice none 0 0,t1],by subst b5;kernel_rfl,?_⟩
  let C2:Nat->Prop:=fun x=>Z x\/t1.ownBlock=some x
  have an:∀x,t1.ownBlock=some x->w9.heap.size<=x/\x<bc.heap.size:=fun x i=>AE.BA n1 x i;have et:∀x,(Value.slice va D.length vc).ownBlock=some x->x<J.heap.size:=fun x i=>(AE.BA d8 x i).2;have cc:∀x,(Value.slice va D.length vc).ownBlock=some x->¬C2 x:=by
   rintro x i (hc|hc)
   .exact(I.dF x i).2.1 hc
   .have:=an x hc;have:=et x i;omega
  have cd:¬C2 b:=by
   rintro(hc|hc)
   .exact b9 hc
   .have:=an b hc;omega
  have eu:AE 0 Xx 5 (Ca C2) bc (.slice va D.length vc) D:=AE.mod b3.done (Mod.refl (fun _=>False) _) (fun _ _ h=>h) fun r x _ i=>i.mod (Mod.refl (fun _=>False) _) (fun _ _ _ h=>h) fun y _ Q=>.inl Q;have al:FO D n p=D++[⟨1,n,[],[],p⟩]:=by
   unfold FO;unfold Gt at B;cases hl:D.getLast? with
   |none=>rfl
   |some o=>rw[hl] at B;simp only[kW] at B;simp only;rw[C3 B]
  refine LF GG eu (Nn _) (cs:=KZ ⟨1,n,[],[],p⟩ (.slice none 0 0) (.slice none 0 0) t1) (x:=⟨1,n,[],[],p⟩) (by subst b5;kernel_rfl) rfl ⟨_,_,_,rfl,BB.nil,BB.nil,BB.sub (AE.sl n1) (fun x _ i=>.inr i.2) (by decide) fun _ _ h=>h⟩ (fun _ _ _=>Ca.one) ?_ (by omega) (by simp only[maxLen];omega) (fun _ g=>Grow.mod g) fun ew v' Y ch cn b4 cv=>?_
  .intro W1 W2 r y hz hm Q;refine Q.mod hm (fun x _ i e=>?_) fun _ _ h=>h;rcases e with e|e
   .exact cc x e i
   .rcases i with hc|hc
    .have:=hc.2;omega
    .have:=an x hc;omega
  refine⟨cn.mono fun x _ e=>.inl ⟨rfl,e⟩,?_⟩;have eR:=b4.size;have b6:=AE.one ch;rw[Bi,AG,AH];have bd:∀q,q<3->Live Y ⟨b,q,none⟩:=fun q hq=>(b3.lv q hq).mod b4 vb;refine(bd 0 (by decide)).st b6.1 b6.2 ⟨Mod.setCell _ _ _ (.inr ⟨rfl,rfl⟩),?_⟩;have av:=Lk Y b 0 v';have ne:∀q,q≠0->(⟨b,0,none⟩:Addr)≠⟨b,q,none⟩:=fun q hq e=>by simp only[Addr.mk.injEq] at e;omega
  obtain⟨u,hu⟩:=jV.1 (bd 0 (by decide)).1;have cx:v'.ownBlock≠some b:=fun e=>by rcases cv b e with h|h;exact vb h;omega
  have b7:∀q,q<3->Live (Y.setCell ⟨b,0,none⟩ v') ⟨b,q,none⟩:=fun q hq=>(bd q hq).set _ _;have dk:=kJ Y ⟨b,0,none⟩ v' hu;have co:∀q u,q≠0->bc.cell? ⟨b,q,none⟩=some u->(Y.setCell ⟨b,0,none⟩ v').cell? ⟨b,q,none⟩=some u:=fun q u hq hu=>(S4 _ _ _ _ (ne q hq)).trans (b4.cell hu vb);generalize Y.setCell ⟨b,0,none⟩ v'=W at av b7 dk co ⊢;have eX:=av.size;refine⟨⟨v',_,C2,none,dk,co 1 _ (by decide) b3.c1,co 2 _ (by decide) b3.c2,b7,.inl E.fb,cd,fun x i=>?_,?_,fun x i=>?_,.inl ⟨rfl,rfl,rfl⟩⟩,?_⟩
  .rcases i with hc|hc
   .exact⟨.inl (bp x hc),by have:=hc.2;omega⟩
   .have:=an x hc;exact⟨.inr (by omega),by omega⟩
  .rw[al];exact AE.mod ch av (fun x i e=>cx (e▸i)) fun r x _ i=>i.cmod av fun y Q e=>cd (e▸Q)
  .rcases cv x i with h|h
   .exact⟨(I.dF x h).1,cc x h,(I.dF x h).2.2⟩
   .refine⟨.inr (by omega),?_,fun e=>cx (e▸i)⟩;rintro(hc|hc)
    .have:=hc.2;omega
    .have:=an x hc;omega
  .refine((ca.trans (Grow.mod b0)).next b4 fun x i e=>?_).next av fun x _ e=>by rw[e];exact E.fb
   rcases(I.dF x e).1 with h|h
   .exact h
   .omega
theorem EY(l m:List Dop):Aw (l++m)=Aw l+Aw m:=by simp[Aw]
theorem Fu(o:Dop):Aw [o]=DR o:=by simp[Aw]
theorem Vx(ins:List Dop)(g:Int):Aw (BH ins g)<=Aw ins+1:=by
 unfold BH;split
 .rw[EY,Fu];simp[DR,GX,KJ]
 .omega
theorem cz(d:List Dop)(n:Int)(p:List Chg):Aw (FO d n p)<=Aw d+1+KJ p:=by
 rcases Dp d with rfl|⟨i,b,rfl⟩
 .simp[FO,Aw,DR,GX]
 .unfold FO;rw[S5,X1,ki];simp only;split
  .rw[JT];simp only[EY,Fu,DR];omega
  .simp only[EY,Fu,DR,GX,kl,lM,mL];omega
theorem cE(d:List Dop)(rs:List Int)(set:List Attr):Aw (Fg d rs set)<=Aw d+1+rs.length+GX set:=by
 rcases Dp d with rfl|⟨i,b,rfl⟩
 .simp[Fg,Aw,DR,KJ]
 .unfold Fg;rw[S5,X1,ki];simp only;split
  .rw[JT];simp only[EY,Fu,DR,Bq];omega
  .simp only[EY,Fu,DR,KJ,lM,mL];omega
theorem Z4(s:Gw)(o:Dop):Aw (CC s o).done+Aw (CC s o).ins<=Aw s.done+Aw s.ins+2*DR o:=by
 have h0:1<=DR o:=by simp[DR];omega
 unfold CC;split
 .unfold LA;split
  .omega
  .have h1:=cz (s.done++BH s.ins s.gone) o.n o.patch;have i:=Vx s.ins s.gone;rw[EY] at h1;simp only[DR] at h0 ⊢;simp only[Aw,lM,mL] at h1 i ⊢;omega
 .split
  .unfold Md;split
   .omega
   .have h1:=cE s.ins o.Ak o.set;simp only[DR] at h0 ⊢;omega
  .simp only[Qf];omega
theorem OB(x:List Dop):Aw (BP x).done+Aw (BP x).ins<=2*Aw x:=by
 induction x using IW with
 |h0=>exact Nn _
 |h1 x o i=>
  have e:BP (x++[o])=CC (BP x) o:=by simp[BP]
  rw[e,EY,Fu];have:=Z4 (BP x) o;omega
theorem Tu{l:List Dop}:Aw (EG l)<=Aw l:=by
 unfold EG;split
 .split
  .rw[nh];exact KC _ _
  .exact Lc _
 .exact Lc _
theorem Vf{b:Nat}{s:Gw}(h:KF F w b s)(hb:Aw s.done+Aw s.ins<=274877906944) :
  AB prog 63 [.pointer (some ⟨b,0,none⟩)] (fun v' w'=>Iu w.heap.size w' v' (RC s)/\Grow w w') w:=by
 apply du;obtain⟨O,iv,C,Q,h⟩:=h;have al:=CZ s.done;have an:=CZ s.ins;have av:=Vx s.ins s.gone;have ax:=CZ (BH s.ins s.gone);rw[JV];simp only[oK];rw[FC,C3 (by simp)];have V:Grow w w.drew:=Mod.drew _ _;have S:=h.grow V;have zd:w.drew.heap.size=w.heap.size:=rfl;rw[<-zd];have fin:∀{W':World},Grow w.drew W'->Grow w W':=fun g=>V.trans g;generalize w.drew=X at V S zd fin ⊢;refine Ai (fun _ _=>False) ?_;rw[Bi,AG,AH];refine AY ⟨S.c0,fun j hj e=>e⟩ ?_;refine AA (Vc S (by omega)) ?_;rintro v2 w2 ⟨o2,g2⟩;refine⟨g2,?_⟩;obtain⟨a1,c1,Y,ay,_⟩:=AE.shape S.done;obtain⟨a2,c2,Z,b0,_⟩:=AE.shape o2;refine GL (cs:=[O,v2]) (by subst Y;subst Z;kernel_rfl) ?_;have T:Grow w2 (w2.alloc (.cells [O,v2].toArray 34)):=Mod.alloc _ _ _;have B:∀j v,[O,v2][j]?=some v->(w2.alloc (.cells [O,v2].toArray 34)).cell? ((⟨w2.heap.size,0,none⟩:Addr).add j)=some v:=fun j v hv=>HH hv;generalize w2.alloc (.cells [O,v2].toArray 34)=w3 at T B ⊢;refine⟨T,?_⟩;have E:=g2.trans T;have z3:=E.size;have rd:BE (fun _=>True) (fun x=>C x) w3 O s.done:=BB.sub (AE.sl (S.grow E).done) (fun _ _ _=>trivial) (by decide) fun _ _ h=>h;have rg:BE (fun _=>True) (fun x=>(C x\/Q=some x)/\x<X.heap.size) w3 v2 (BH s.ins s.gone):=by
  have:=AE.mod (R':=Ca fun x=>(C x\/Q=some x)/\x<X.heap.size) o2 T (fun _ _ h=>h) fun r y _ hy=>hy.mod T (fun _ _ _ h=>h) fun _ _ h=>h;exact BB.sub (AE.sl this) (fun _ _ _=>trivial) (by decide) fun _ _ h=>h
 refine AA (P3 rd rg (by rw[<-AH w2.heap.size 0];exact B 0 _ rfl) (B 1 _ rfl) (by omega)) ?_;rintro v4 w4 ⟨o4,g4⟩;refine⟨g4,?_⟩;have o:=E.trans g4;have b3:=o.size;have a6:Aw (s.done++BH s.ins s.gone)<=549755813888:=by rw[EY];omega
 have a7:RC s=EG (s.done++BH s.ins s.gone):=rfl;rw[a7];generalize s.done++BH s.ins s.gone=L at o4 a6 ⊢;have b4:=CZ L;have r4:=AE.sl o4;obtain⟨va,vc,rfl,_,_,_⟩:=AE.shape o4;refine AT (fun vs w5=>∃v,vs=[v]/\Grow X w5/\BE (fun _=>True) (fun _=>True) w5 v (EG L)) ?_ ?_
 .rintro vs w5 ⟨v,rfl,g5,h5⟩ _;rw[B0,Of];refine AA (Tt h5 (by have:=Tu (l:=L);omega)) ?_;rintro v6 w6 ⟨o6,g6⟩;have:=g5.size;refine⟨?_,fin (g5.trans g6)⟩;refine AE.mod (AE.base o6 fun g hg=>by have:=(AE.BA o6 g hg).1;omega) (Mod.refl (fun _=>False) _) (fun _ _ h=>h) fun r x _ hx=>hx.mod (Mod.refl (fun _=>False) _) (fun _ _ _ h=>h) fun y _ hy=>⟨by omega,hy.2⟩
 .have U:BE (fun _=>True) (fun _=>True) w4 (.slice va L.length vc) L:=BB.sub r4 (fun _ _ _=>trivial) (by decide) fun r x hx=>hx.mod (Mod.refl (fun _=>False) _) (fun _ _ _ h=>h) fun _ _ _=>trivial;rw[AP,Av,wrap64 (by omega) (by omega),DX];refine AF (fun a8=>?_) fun a8=>?_
  .have I:0<L.length:=by omega
   have J:L.length-1<L.length:=by omega
   rw[show((L.length:Int)-1)=((L.length-1:Nat):Int) by omega];obtain⟨q,r,rfl,_,hr,hc,rv,b5,b6,rfl,q1,q2,q3⟩:=U.get J;refine AU J ?_;rw[AG,Addr.add_add];refine AK (hc 0 _ rfl) ?_;rw[Al];refine AF (fun hk=>?_) fun hk=>⟨_,rfl,o,by rw[EG,CX I];simp only;rw[C3 (fun h=>hk h.1)];exact U⟩;refine AU J ?_;rw[AG,Addr.add_add];refine AK (hc 4 _ rfl) ?_;obtain⟨pa,pc,rfl,_⟩:=q3.shape;rw[AP,Al];refine AF (fun hp=>?_) fun hp=>⟨_,rfl,o,by rw[EG,CX I];simp only;rw[C3 (fun h=>hp (Rt.2 h.2))];exact U⟩;refine Qg (e:=83) (i:=Tryz.t83) (by kernel_rfl) (by kernel_rfl) (by kernel_rfl) U (Nat.sub_le _ _) fun v' ak=>?_;refine⟨v',rfl,o,?_⟩;rw[EG,CX I];simp only;rw[Io ⟨hk,Rt.1 hp⟩,nh];exact ak
  .have:L=[]:=QC (by omega);subst this;exact⟨_,rfl,o,U⟩
theorem Zg{S D:Nat->Prop}{x:List Dop}(h:BE S D w v x)(hb:Aw x<=68719476736) :
  AB prog 24 [v] (fun v' w'=>Iu w.heap.size w' v' (CG x)/\Grow w w') w:=by
 apply fu;have ak:=CZ x;refine AA Xn ?_;rintro v1 w1 ⟨g1,b,Z,al,rfl,a1⟩;have ho:=h.GQ;obtain⟨a,c,rfl,hm⟩:=h.shape;rw[AP];refine Ab (fun vs w2=>∃k:Nat,k<=x.length/\vs=[.int .i64 k]/\Grow w w2/\KF (fun y=>w.heap.size<=y) w2 b (BP (x.take k))) (fun vs _=>x.length-Ds vs 0) ⟨0,Nn _,rfl,g1,a1.sub fun y i=>by rw[i];exact Z⟩ ?_;rintro vs w2 ⟨k,hk,rfl,Y,hI⟩ _;rw[B0,Of,Ap];have a6:=OB (x.take k);have a8:=KC x k;refine AF (fun an=>?_) fun av=>?_
 .have E:k<x.length:=by omega
  have T:x[k]∈x:=by simp
  have a7:=HB T;obtain⟨p,r,rfl,_,hr,hc,U⟩:=(BE.grow ho Y).get E;refine AU E (Aj hr (fun j u hu=>by rw[Addr.add_add];exact hc j u hu) ?_);refine BS (vs:=r) hr rfl U.one fun bb w3 ax ay V I _=>?_;have X:=Y.trans V;have J:KF (fun y=>w.heap.size<=y) w3 b (BP (x.take k)):=hI.mod V fun _ _ h=>h;obtain⟨rv,sv,pv,rfl,q1,q2,q3⟩:=U.mod (D':=fun b=>D b/\b<w.heap.size) V (fun _ _ _ h=>h) fun _ _ h=>h;have B:BP (x.take (k+1))=CC (BP (x.take k)) x[k]:=by
   rw[No,By E];simp only[BP,Option.toList,lH,lb,nO]
  have next:∀w4,KF (fun y=>w.heap.size<=y) w4 b (BP (x.take (k+1)))->Mod (fun y=>w.heap.size<=y) w3 w4->(∃k':Nat,k'<=x.length/\[Value.int .i64 ((k+1:Nat):Int)]=[.int .i64 k']/\Grow w w4/\KF (fun y=>w.heap.size<=y) w4 b (BP (x.take k')))/\x.length-Ds [Value.int .i64 ((k+1:Nat):Int)] 0<x.length-Ds [Value.int .i64 k] 0:=
   fun w4 O Q=>⟨⟨k+1,E,rfl,X.next Q fun y i e=>by omega,O⟩,by rw[DG,DG];omega⟩
  have b0:=X.size;have b3:=CZ (BP (x.take k)).done;have b4:=CZ (BP (x.take k)).ins;simp only[DR] at a7;have b5:x[k].patch.length<=KJ x[k].patch:=by rw[Om];omega
  have b6:x[k].set.length<=GX x[k].set:=by rw[LD];omega
  simp only[AG];refine AK (I 0 _ rfl) ?_;rw[Al];refine AF (fun k1=>?_) fun k1=>?_
  .refine AK (I 1 _ rfl) (AK (I 4 _ rfl) ?_);refine AA (Nc J q3 (fun y i hf=>by have:=i.2;omega) (by omega) (by omega)) ?_;rintro v4 w4 ⟨O,Q⟩;rw[AR,AO (by omega)];refine next w4 ?_ Q;rw[B,CC,Io k1];exact O.sub fun y i=>by rcases i with i|i;exact i;omega
  .rw[Al];refine AF (fun k2=>?_) fun k2=>?_
   .refine AK (I 2 _ rfl) (AK (I 3 _ rfl) ?_);refine AA (Nk J q1 q2 (fun y i hf=>by have:=i.2;omega) (by omega) (fun o ho=>by have:=HB ho;simp only[DR] at this;omega) (by omega) (by omega)) ?_;rintro v4 w4 ⟨O,Q⟩;rw[AR,AO (by omega)];refine next w4 ?_ Q;rw[B,CC,C3 k1,Io k2];exact O.sub fun y i=>by rcases i with i|i;exact i;omega
   .refine AK (I 1 _ rfl) ?_;refine AA (TA J) ?_;rintro v4 w4 ⟨O,Q⟩;rw[AR,AO (by omega)];refine next w4 ?_ Q;rw[B,CC,C3 k1,C3 k2];exact O
 .have:k=x.length:=by omega
  subst this;rw[Nr] at hI a6;refine AA (Vf hI (by omega)) ?_;rintro v3 w3 ⟨o3,V⟩;have:=Y.size;refine⟨?_,Y.trans V⟩;exact AE.mod (AE.base o3 fun g hg=>by have:=(AE.BA o3 g hg).1;omega) (Mod.refl (fun _=>False) _) (fun _ _ h=>h) fun r x _ hx=>hx.mod (Mod.refl (fun _=>False) _) (fun _ _ _ h=>h) fun y _ i=>⟨by omega,i.2⟩
theorem RM{S S' D D':Nat->Prop}{a b:Value}{x y:List Dop}(ha:BE S D w a x)(hb:BE S' D' w b y) :
  AB prog 25 [a,b] (fun v w'=>v=.bool (decide (x=y))/\Grow w w') w:=by
 apply eS;obtain⟨pa,ca,rfl,ax⟩:=ha.shape;obtain⟨pb,cb,rfl,bk⟩:=hb.shape;simp only[maxLen] at ax;have no:∀w',Grow w w'->x≠y->Value.bool false=.bool (decide (x=y))/\Grow w w':=fun w' g hn=>⟨by rw[kX hn],g⟩;rw[AP,AP,Bm];refine AW (fun bd=>?_) fun B=>no _ (Mod.refl _ _) fun e=>B (by rw[e]);have a1:x.length=y.length:=by omega
 refine Ab (fun vs w1=>∃i:Nat,i<=x.length/\vs=[.int .i64 i]/\Grow w w1/\x.take i=y.take i) (fun vs _=>x.length-Ds vs 0) ⟨0,Nn _,rfl,Mod.refl _ _,rfl⟩ ?_;rintro vs w1 ⟨i,hi,rfl,g1,ht⟩ _;rw[AP,B0,Of,Ap];refine AF (fun bl=>?_) fun bn=>?_
 .have O:i<x.length:=by omega
  have U:i<y.length:=by omega
  have V:∀w',Grow w w'->x[i]≠y[i]->Value.bool false=.bool (decide (x=y))/\Grow w w':=fun w' g hn=>no w' g (by rintro rfl;exact hn rfl);refine AT (fun _ w2=>Grow w w2/\x[i]=y[i]) ?_ ?_
  .rintro _ w2 ⟨g2,he⟩ _;rw[AR,AO (by omega)];refine⟨⟨i+1,O,rfl,g2,?_⟩,by rw[DG,DG];omega⟩;rw[No,No,ht,By O,By U,he]
  .obtain⟨p,r,rfl,_,hr,hc,hx⟩:=(BE.grow ha g1).get O;obtain⟨p',r',rfl,_,a6,an,hy⟩:=(BE.grow hb g1).get U;refine AT (fun vs w3=>∃T X,vs=[.pointer (some ⟨T,0,none⟩),.pointer (some ⟨X,0,none⟩)]/\Grow w1 w3/\(∀j u,r[j]?=some u->w3.cell? ((⟨T,0,none⟩:Addr).add j)=some u)/\(∀j u,r'[j]?=some u->w3.cell? ((⟨X,0,none⟩:Addr).add j)=some u)) ?_ ?_
   .rintro _ w3 ⟨T,X,rfl,g3,c6,c7⟩ _;have ay:=hx.mod (D':=D) g3 (fun _ _ _ h=>h) fun _ _ h=>h;have b0:=hy.mod (D':=D') g3 (fun _ _ _ h=>h) fun _ _ h=>h;obtain⟨rv,sv,pv,rfl,x1,x2,x3⟩:=ay;obtain⟨bp,bs,bx,rfl,y1,y2,y3⟩:=b0;have Q:=g1.trans g3;show AM 0 (.pointer (some ⟨T,0,none⟩)) _;simp only[B0,Sb,Of,qT,AG];refine AK (c6 0 _ rfl) (AK (c7 0 _ rfl) ?_);rw[Bm];refine AW (fun e1=>?_) fun B=>V _ Q fun e=>B (by rw[e]);refine AK (c6 1 _ rfl) (AK (c7 1 _ rfl) ?_);rw[Bm];refine AW (fun e2=>?_) fun B=>V _ Q fun e=>B (by rw[e]);refine AK (c6 2 _ rfl) (AK (c7 2 _ rfl) ?_);refine AA (UZ x1 y1) ?_;rintro _ w4 ⟨rfl,g4⟩;rw[Ar];refine AW (fun e3=>?_) fun B=>V _ (Q.trans g4) fun e=>B (by rw[e]);refine AK (g4.cell (c6 3 _ rfl) fun h=>h) (AK (g4.cell (c7 3 _ rfl) fun h=>h) ?_);refine AA (Na (x2.grow g4 (by decide) fun _ _ h=>h) (y2.grow g4 (by decide) fun _ _ h=>h)) ?_;rintro _ w5 ⟨rfl,g5⟩;rw[Ar];have E:=g4.trans g5;refine AW (fun e4=>?_) fun B=>V _ (Q.trans E) fun e=>B (by rw[e]);refine AK (E.cell (c6 4 _ rfl) fun h=>h) (AK (E.cell (c7 4 _ rfl) fun h=>h) ?_);refine AA (Ue (x3.grow E (by decide) fun _ _ h=>h) (y3.grow E (by decide) fun _ _ h=>h)) ?_;rintro _ w6 ⟨rfl,Y⟩;rw[Ar];refine AW (fun e5=>⟨(Q.trans E).trans Y,?_⟩) fun B=>V _ ((Q.trans E).trans Y) fun e=>B (by rw[e]);have av:∀o:Dop,o=⟨o.kind,o.n,o.Ak,o.set,o.patch⟩:=fun _=>rfl;rw[av x[i],av y[i],e1,e2,e3,e4,e5]
   .refine Ai (fun k y=>(k=10\/k=11)/\w1.heap.size<=y) ?_;have gd:Grow w1 w1.drew:=Mod.drew _ _;have one:=Ca.one hx;have Z:=Ca.one hy;have zd:=gd.size;refine AU O (CU hr (fun j u hu=>⟨by rw[Addr.add_add];exact gd.cell (hc j u hu) fun h=>h,fun k hk e=>?_⟩) ?_)
    .rcases e with⟨rfl|rfl,_⟩<;>exact absurd hk (by decide)
    refine AU U (CU a6 (fun j u hu=>⟨by rw[Addr.add_add];exact gd.cell (an j u hu) fun h=>h,fun k hk e=>?_⟩) ?_)
    .have:=kT w1 _ (an j u hu);rw[BO] at this;rw[BO,BO] at e;omega
    refine⟨?_,?_⟩
    .refine Dc fun T b3 b4 b5 Y _ a7=>⟨Y.mono fun _ _ h=>h.elim,?_⟩;refine Dc fun X b8 b9 ba g7 _ a8=>⟨g7.mono fun _ _ h=>h.elim,?_⟩;refine CF hr one (fun j hj=>(a7 j hj).mod g7 fun h=>h) fun bb I ak _=>⟨I.mono fun y _ e=>⟨.inl rfl,by omega⟩,?_⟩;refine CF a6 Z (fun j hj=>(a8 j hj).mod I fun e=>absurd (show X=T by rw[AH] at e;exact e) (by omega)) fun bc J al _=>⟨J.mono fun y _ e=>⟨.inr rfl,by omega⟩,T,X,rfl,?_,fun j u hu=>J.cell (ak j u hu) fun e=>absurd (show T=X by rw[AH] at e;exact e) (by omega),al⟩;exact(((gd.trans Y).trans g7).next I fun x hx e=>by omega).next J fun x hx e=>by omega
    .refine Dc fun X b3 b9 ba g7 _ a8=>⟨g7.mono fun _ _ h=>h.elim,?_⟩;refine Dc fun T b8 b4 b5 Y _ a7=>⟨Y.mono fun _ _ h=>h.elim,?_⟩;refine CF hr one a7 fun bb I ak _=>⟨I.mono fun y _ e=>⟨.inl rfl,by omega⟩,?_⟩;refine CF a6 Z (fun j hj=>((a8 j hj).mod Y fun h=>h).mod I fun e=>absurd (show X=T by rw[AH] at e;exact e) (by omega)) fun bc J al _=>⟨J.mono fun y _ e=>⟨.inr rfl,by omega⟩,T,X,rfl,?_,fun j u hu=>J.cell (ak j u hu) fun e=>absurd (show T=X by rw[AH] at e;exact e) (by omega),al⟩;exact(((gd.trans g7).trans Y).next I fun x hx e=>by omega).next J fun x hx e=>by omega
 .have:i=x.length:=by omega
  subst this;rw[Nr,a1,Nr] at ht;exact⟨by rw[kj ht],g1⟩
theorem TF{k:Nat}:∀(rows:List (List Value)) (j:Nat),(∀r∈rows,r.length=k)->rows.flatten.take (j*k)=(rows.take j).flatten:=by
 intro rows;induction rows with
 |nil=>intro j _;simp
 |cons r rows i=>
  intro j h;have h0:=h r (by simp);cases j with
  |zero=>simp
  |succ j=>
   rw[nk,mC,nk,<-i j fun x o=>h x (by simp[o])];rw[mo,lN (by rw[h0,ku];omega)];congr 2
   rw[h0,ku];omega
theorem AE.take{B e k:Nat}{R:World->List Value->α->Prop}{g n c:Nat}{l:List α}(h:AE B e k R w (.slice (some ⟨g,0,none⟩) n c) l)(E:j<=l.length):AE B e k R w (.slice (some ⟨g,0,none⟩) j c) (l.take j):=by
 obtain⟨rows,h1,Q,S,U⟩:=h;have o:∀r∈rows,r.length=k:=fun r hr=>(S r hr).1;refine⟨rows.take j,⟨?_,?_⟩,by rw[Mp,Mp,Q],fun r hr=>S r (kO hr),fun i r x hr I=>?_⟩
 .rw[FE _ fun r hr=>o r (kO hr),Mp,Mp,Q]
 .rcases h1.2 with⟨T,_⟩|⟨g',V,J,X,hb,Y,T,hm,Z,ht⟩
  .cases T
  .cases X;refine .inr ⟨g,c,J,by rw[Mp,kY E],hb,Y,by rw[Mp];omega,hm,Z,?_⟩;rw[<-TF rows j o,<-ht,lz,Mp];congr 1
   rw[kY E,kY (lF _ E)]
 .rw[lQ] at hr I;split at hr
  .rename_i O;rw[Io O] at I;exact U i r x hr I
  .cases hr
theorem Fj{t e k:Nat}{i:TypeInfo}{g n c j:Nat}(ht:P.underlying t=some (.slice e))(hi:P.info? e=some i)(hk:i.size=k)(B:j<=c)(w:World):(Instr.sliceAt t (.slice (some ⟨g,0,none⟩) n c) none (some (.int .i64 j)) none).run P w=.ok (.slice (some ⟨g,0,none⟩) j c) w:=by
 have o:P.elem t=e:=by simp[Program.elem,ht]
 rw[me _ _ _ _ _ _ (by rw[o];exact ht),run_slice_h _ _ _ _ _ (by rw[o];exact ht) _ _ (by omega) (by omega),o];simp[sizeOf,typeInfo,hi,hk,sliced,Addr.add]
theorem Fm{b:Nat}{q:Nat}{u:Value}{K:World->Prop}(hc:∀j v,vs[j]?=some v->W.cell? ⟨b,j,none⟩=some v)(hl:∀j,j<vs.length->Live W ⟨b,j,none⟩)(o:q<vs.length)(h1:u.oneCell'=true)(E:u.cells=#[u])
 (I:∀W',Mod (fun x=>x=b) W W'->(∀j v,(vs.set q u)[j]?=some v->W'.cell? ⟨b,j,none⟩=some v)->(∀j,j<(vs.set q u).length->Live W' ⟨b,j,none⟩)->K W'):BC (.pointer (some ⟨b,q,none⟩)) u K W:=by
 refine(hl q o).st h1 E (I _ (Mod.setCell (M:=fun x=>x=b) W ⟨b,q,none⟩ u rfl) (fun j v i=>?_) fun j J=>(hl j (by simpa using J)).set _ _);by_cases e:j=q
 .subst e;rw[kI o] at i;cases i;obtain⟨O,B⟩:=jV.1 (hl j o).1;exact kJ _ _ _ B
 .rw[kh (mW e)] at i;rw[S4 _ _ _ _ (fun e'=>by simp only[Addr.mk.injEq] at e';exact e e'.2.1.symm)];exact hc j v i
section
variable {α:Type}{e k:Nat}{R R':World->List Value->α->Prop}{w w':World}{v:Value}{l:List α}{M:Nat->Prop}
end
def Iy:List Value->Nat->List Value->List Value
 |r,_,[]=>r
 |r,p,v::vs=>Iy (r.set p v) (p+1) vs
theorem LH:∀(vs r:List Value) (p:Nat),(Iy r p vs).length=r.length:=by
 intro vs;induction vs with
 |nil=>intro r p;rfl
 |cons v vs i=>intro r p;rw[Iy,i,kC]
theorem MO:∀(vs r:List Value) (p:Nat),p+vs.length<=r.length->Iy r p vs=r.take p++vs++r.drop (p+vs.length):=by
 intro vs;induction vs with
 |nil=>intro r p _;simp[Iy]
 |cons v vs i=>
  intro r p h;rw[Vn] at h;rw[Iy,i _ _ (by rw[kC];omega)];have h1:(r.set p v).take (p+1)=r.take p++[v]:=by
   rw[No,kI (by omega),List.take_set_of_le (Lc _)];rfl
  rw[h1,pN (by omega),Vn,show p+1+vs.length=p+(vs.length+1) by omega];simp
theorem LI{vs r:List Value}(h:vs.length=r.length):Iy r 0 vs=vs:=by
 rw[MO _ _ _ (by omega),lp,lq (by omega)];simp
theorem Hp{vs r t:List Value}(h:vs.length=r.length):Iy (r++t) 0 vs=vs++t:=by
 rw[MO _ _ _ (by simp;omega),lp];simp[h]
theorem Zl{vs r q t:List Value}{p:Nat}(i:q.length=p)(h:vs.length=r.length):Iy (q++r++t) p vs=q++vs++t:=by
 subst i;rw[MO _ _ _ (by simp;omega)];simp[h]
theorem AE.rows{B e k:Nat}{R:World->List Value->α->Prop}{l:List α}(h:AE B e k R w v l) :
  ∃rows:List (List Value),AE B e k (fun _ r y=>y=r) w v rows/\rows.length=l.length/\(∀r∈rows,r.length=k/\∀u∈r,u.oneCell'=true)/\∀(i:Nat) (r:List Value) (x:α),rows[i]?=some r->l[i]?=some x->R w r x:=by
 obtain⟨rows,h1,j,o,I⟩:=h;exact⟨rows,⟨rows,by rw[j];exact h1,rfl,o,fun i r x hr E=>by rw[hr] at E;cases E;rfl⟩,j,o,I⟩
theorem AE.eg{B e k:Nat}{R:World->List Value->α->Prop}{l:List α}{rows:List (List Value)}(h:AE B e k (fun _ r y=>y=r) w v rows)(hl:rows.length=l.length)(E:∀(i:Nat) (r:List Value) (x:α),rows[i]?=some r->l[i]?=some x->R w r x):AE B e k R w v l:=by
 obtain⟨j,h1,I,J,O⟩:=h;have e:j=rows:=by
  refine List.ext_getElem I fun i hi o=>?_;exact(O i j[i] rows[i] (by simp[hi]) (by simp[o])).symm
 subst e;exact⟨j,by rw[<-hl];exact h1,hl,J,E⟩
theorem Qw{B e k:Nat}{a:Addr}{n c i:Nat}:∀(vs:List Value) (p j:Nat) (w:World) (rows:List (List Value)),AE B e k (fun _ r y=>y=r) w (.slice (some a) n c) rows->(hi:i<rows.length)->p+j+vs.length<=k->(∀u∈vs,u.oneCell'=true)->
  AE B e k (fun _ r y=>y=r) (EW w (a.add (i*k+p)) j vs) (.slice (some a) n c) (rows.set i (Iy rows[i] (p+j) vs))/\Mod (fun b=>b=a.block) w (EW w (a.add (i*k+p)) j vs):=by
 intro vs;induction vs with
 |nil=>intro p j w rows h hi _ _;simp only[EW,Iy,qP];exact⟨h,Mod.refl _ _⟩
 |cons v vs I=>
  intro p j w rows h hi hk h1;rw[Vn] at hk;simp only[EW,Iy,Addr.add_add];obtain⟨_,_,J,hm⟩:=AE.store (R':=fun _ r y=>y=r) (u:=v) (x':=rows[i].set (p+j) v) (j:=p+j) h hi (by omega) (h1 v (by simp)) (fun r y _ O=>O) (fun r hr=>by rw[hr]);have o:i<(rows.set i (rows[i].set (p+j) v)).length:=by rw[kC];exact hi
  obtain⟨E,Q⟩:=I p (j+1) _ _ J o (by omega) fun u hu=>h1 u (by simp[hu]);rw[mw,ql] at E;rw[show i*k+(p+j)=i*k+p+j by omega] at *;exact⟨E,hm.trans Q⟩
theorem AE.OF{B e k:Nat}{R R':World->List Value->α->Prop}{a:Addr}{n c i p m:Nat}{l:List α}{x':α}{K:World->Prop}(h:AE B e k R w (.slice (some a) n c) l)(hi:i<l.length)(hm:vs.length=m)(hk:p+m<=k)(h1:∀u∈vs,u.oneCell'=true)
 (S:∀w' r y,Mod (fun b=>b=a.block) w w'->y∈l->R w r y->R' w' r y)(T:∀w' r,Mod (fun b=>b=a.block) w w'->R w r l[i]->r.length=k->(∀u∈r,u.oneCell'=true)->R' w' (Iy r p vs) x')
 (U:∀w',AE B e k R' w' (.slice (some a) n c) (l.set i x')->Mod (fun b=>b=a.block) w w'->K w'):Ac m (.pointer (some (a.add (i*k+p)))) (.agg vs.toArray) K w:=by
 obtain⟨rows,Q,hl,V,hr⟩:=h.rows;have o:i<rows.length:=by omega
 obtain⟨X,J⟩:=Qw vs p 0 w rows Q o (by omega) h1;refine⟨_,vs,rfl,rfl,hm,h1,fun j Z=>?_,U _ (AE.eg X (by rw[kC,kC,hl]) fun q r x I E=>?_) J⟩
 .obtain⟨g,Y,_,O⟩:=AE.live Q o (j:=p+j) (by omega);cases Y;rw[Addr.add_add,show i*k+p+j=i*k+(p+j) by omega];exact O
 .by_cases e:i=q
  .subst e;rw[kI o] at I;rw[kI hi] at E;cases I;cases E;have:=V rows[i] (gC o);rw[kg];exact T _ _ J (hr i _ _ (By o) (By hi)) this.1 this.2
  .rw[kh e] at I E;exact S _ _ _ J (kx E) (hr q r x I E)
theorem UH:∀(vs:List Value) (l:List Value) (p j:Nat),(vs.zipIdx j).foldl (fun cs (x:Value×Nat)=>cs.setIfInBounds (p+x.2) x.1) l.toArray=(Iy l (p+j) vs).toArray:=by
 intro vs;induction vs with
 |nil=>intro l p j;rfl
 |cons v vs i=>
  intro l p j;have:=i (l.set (p+j) v) p (j+1);rw[<-mB] at this;rw[List.zipIdx_cons,lb,Iy,<-this];simp
theorem DB{j:Nat->Option (Nat×Nat)}{l vs:List Value}{i off len:Nat}{o:List (Nat×Value)}(hp:j i=some (off,len))(I:v.cells=vs.toArray)(hl:vs.length=len)(J:off+len<=l.length):Instr.fill j l.toArray ((i,v)::o)=Instr.fill j (Iy l off vs).toArray o:=by
 have E:=UH vs l off 0;rw[kg] at E;have B:(vs.toArray.zipIdx.foldl (fun cs (x:Value×Nat)=>cs.setIfInBounds (off+x.2) x.1) l.toArray)=(Iy l off vs).toArray:=by
  rw[<-E,<-Array.foldl_toList];simp
 have hc:(decide (vs.toArray.size≠len)||decide (off+vs.toArray.size>l.toArray.size))=false:=by simp[hl];omega
 simp only[Instr.fill,hp,I,hc,B];simp
theorem FR{i:Nat->Option (Nat×Nat)}{l:List Value}:Instr.fill i l.toArray []=some l.toArray:=rfl
theorem range_zero{j:List Value}{k:Nat}(B:j.length=k)(hk:0<k):(Array.range (1*k)).map (j.toArray[· % j.toArray.size]!)=j.toArray:=by
 subst B;rw[qX];refine Array.ext (by simp) fun i h1 o=>?_;simp at h1 o;simp[Nat.mod_eq_of_lt o,o]
theorem DW{j vs:List Value}{k:Nat}(o:j.length=k)(hk:0<k)(B:v.cells=vs.toArray)(hl:vs.length=k):Instr.fill (fun i=>some (i*k,k)) ((Array.range (1*k)).map (j.toArray[· % j.toArray.size]!)) [(0,v)]=some vs.toArray:=by
 rw[range_zero o hk,DB (off:=0) (by simp) B hl (by omega),FR,LI (by omega)]
inductive Tr (α:Type) where
 |nil:Tr α
 |node (l:Tr α) (i:Nat) (x:α) (r:Tr α):Tr α
structure Nd (α:Type) where
 x:α
 l:Int
 r:Int
 h:Int
 s:Int
 m:Int
namespace Tr
section
variable {α:Type}(μ:α->Nat×Nat)
def root:Tr α->Int
 |nil=>-1
 |node _ i _ _=>i
def toL:Tr α->List α
 |nil=>[]
 |node l _ x r=>toL l++x::toL r
def idx:Tr α->List Nat
 |nil=>[]
 |node l i _ r=>idx l++i::idx r
def ht:Tr α->Nat
 |nil=>0
 |node l _ _ r=>1+max (ht l) (ht r)
def Df:Tr α->Nat
 |nil=>0
 |node l _ _ r=>Df l+Df r+1
def sz(l:List α):Nat:=(l.map fun x=>(μ x).1).sum
def mk(l:List α):Nat:=(l.map fun x=>(μ x).2).sum
theorem CT(l m:List α):sz μ (l++m)=sz μ l+sz μ m:=by simp[sz]
theorem Fy(l m:List α):mk μ (l++m)=mk μ l+mk μ m:=by simp[mk]
theorem Ba(x:α)(m:List α):sz μ (x::m)=(μ x).1+sz μ m:=by simp[sz]
theorem Cy(x:α)(m:List α):mk μ (x::m)=(μ x).2+mk μ m:=by simp[mk]
def EC(t:Tr α)(x:α)(l r:Int):Nd α:=⟨x,l,r,t.ht,sz μ t.toL,mk μ t.toL⟩
def Holds(f:Nat->Option (Nd α)):Tr α->Prop
 |nil=>True
 |node l i x r=>Holds f l/\Holds f r/\f i=some (EC μ (node l i x r) x l.root r.root)
theorem Kl{t:Tr α}(h:1<=t.ht):∃l i x r,t=node l i x r:=by
 cases t with
 |nil=>simp[ht] at h
 |node l i x r=>exact⟨l,i,x,r,rfl⟩
theorem SE(t:Tr α):t.idx.length=t.Df/\t.toL.length=t.Df:=by
 induction t with
 |nil=>exact⟨rfl,rfl⟩
 |node l i x r h1 j=>simp only[idx,toL,Df,Bq,Vn];omega
theorem cA(t:Tr α):t.ht<=t.Df:=by
 induction t with
 |nil=>exact Lc _
 |node l i x r h1 j=>simp only[ht,Df];omega
theorem Holds.frame{f E:Nat->Option (Nd α)}{t:Tr α}(h:Holds μ f t)(o:∀j∈t.idx,E j=f j):Holds μ E t:=by
 induction t with
 |nil=>trivial
 |node l i x r h1 I=>
  obtain⟨a,b,c⟩:=h;exact⟨h1 a fun j B=>o j (by simp[idx,B]),I b fun j B=>o j (by simp[idx,B]),by rw[o i (by simp[idx])];exact c⟩
theorem Holds.has{f:Nat->Option (Nd α)}{t:Tr α}(h:Holds μ f t)(o:j∈t.idx):∃n,f j=some n:=by
 induction t with
 |nil=>simp[idx] at o
 |node l i x r h1 B=>
  obtain⟨a,b,c⟩:=h;simp only[idx,DN,I3] at o;rcases o with o|rfl|o
  .exact h1 a o
  .exact⟨_,c⟩
  .exact B b o
def Eg{α:Type}(f:Nat->Option (Nd α))(i:Nat)(n:Option (Nd α)):Nat->Option (Nd α):=fun j=>if j=i then n else f j
theorem KD(f:Nat->Option (Nd α))(i:Nat)(n:Option (Nd α)):Eg f i n i=n:=by simp[Eg]
theorem Da{f:Nat->Option (Nd α)}(n:Option (Nd α))(h:j≠i):Eg f i n j=f j:=by simp[Eg,h]
theorem Holds.out{f:Nat->Option (Nd α)}{t:Tr α}(h:Holds μ f t)(n:Option (Nd α))(hi:i∉t.idx):Holds μ (Eg f i n) t:=
 h.frame μ fun j o=>Da n fun e=>hi (e▸o)
theorem Holds.top{f:Nat->Option (Nd α)}{l r:Tr α}{x:α}(hl:Holds μ f l)(hr:Holds μ f r)(j:i∉l.idx)(o:i∉r.idx) :
  Holds μ (Eg f i (some (EC μ (node l i x r) x l.root r.root))) (node l i x r):=
 ⟨hl.out μ _ j,hr.out μ _ o,KD _ _ _⟩
def GO(t:Tr α):Prop:=t.idx.Nodup
theorem BD{l r:Tr α}{x:α}:GO (node l i x r)↔GO l/\GO r/\i∉l.idx/\i∉r.idx/\∀j∈l.idx,j∉r.idx:=by
 unfold GO;simp only[idx,kE,pI,I3,ne_eq,forall_eq_or_imp];constructor
 .rintro⟨h1,⟨E,I⟩,o⟩;exact⟨h1,I,fun e=>(o i e).1 rfl,E,fun j B e=>(o j B).2 j e rfl⟩
 .rintro⟨h1,E,I,o,J⟩;exact⟨h1,⟨o,E⟩,fun j B=>⟨fun e=>I (e▸B),fun k hk e=>J j B (e▸hk)⟩⟩
def iE(t t':Tr α):Prop:=t'.toL=t.toL/\t'.idx.Perm t.idx
theorem UF(a b c:Tr α)(i j:Nat)(x y:α):iE (node (node a j y b) i x c) (node a j y (node b i x c)):=by
 refine⟨by simp[toL],?_⟩;simp[idx]
theorem We(a b c:Tr α)(i j:Nat)(x y:α):iE (node a j y (node b i x c)) (node (node a j y b) i x c):=by
 refine⟨by simp[toL],?_⟩;simp[idx]
end
end Tr
structure Kd (α:Type) where
 μ:α->Nat×Nat
 cut:α->Nat->α×α
 meld:α->α->Option α
namespace Kd
variable {α β:Type}(k:Kd α)
def split:List α->Nat->List α×List α
 |[],_=>([],[])
 |x::t,at'=>if at'=0 then([],x::t) else if(k.μ x).1<=at' then(x::(split t (at'-(k.μ x).1)).1,(split t (at'-(k.μ x).1)).2) else([(k.cut x at').1],(k.cut x at').2::t)
theorem MD(l:List α):k.split l 0=([],l):=by
 cases l with
 |nil=>rfl
 |cons x t=>simp[split]
theorem Rn{l:List α}(t:List α){p:Nat}(h:p<=Tr.sz k.μ l):k.split (l++t) p=((k.split l p).1,(k.split l p).2++t):=by
 induction l generalizing p with
 |nil=>
  have:p=0:=by simpa[Tr.sz] using h
  subst this;rw[MD];simp[MD]
 |cons x l i=>
  rw[Tr.Ba] at h;simp only[WJ,split];by_cases h0:p=0
  .rw[Io h0,Io h0];rfl
  .rw[C3 h0,C3 h0];by_cases h1:(k.μ x).1<=p
   .rw[Io h1,Io h1,i (by omega)]
   .rw[C3 h1,C3 h1];rfl
theorem PZ{l:List α}(t:List α){p:Nat}(h:Tr.sz k.μ l<p):k.split (l++t) p=(l++(k.split t (p-Tr.sz k.μ l)).1,(k.split t (p-Tr.sz k.μ l)).2):=by
 induction l generalizing p with
 |nil=>simp[Tr.sz]
 |cons x l i=>
  rw[Tr.Ba] at h ⊢;simp only[WJ,split];rw[C3 (by omega),Io (by omega),i (by omega),po]
theorem Mh(l r:List α)(x:α)(p:Nat):k.split (l++x::r) p =
  if p<=Tr.sz k.μ l then((k.split l p).1,(k.split l p).2++x::r) else if Tr.sz k.μ l+(k.μ x).1<=p then(l++x::(k.split r (p-Tr.sz k.μ l-(k.μ x).1)).1,(k.split r (p-Tr.sz k.μ l-(k.μ x).1)).2)
  else(l++[(k.cut x (p-Tr.sz k.μ l)).1],(k.cut x (p-Tr.sz k.μ l)).2::r):=by
 by_cases h:p<=Tr.sz k.μ l
 .rw[Io h,Rn k _ h]
 .rw[C3 h,PZ k _ (by omega)];simp only[split];rw[C3 (by omega)];by_cases i:Tr.sz k.μ l+(k.μ x).1<=p
  .rw[Io i,Io (by omega)]
  .rw[C3 i,C3 (by omega)]
def part(x:α)(i j:Nat):α:=if 0<i then(k.cut (if j<(k.μ x).1 then(k.cut x j).1 else x) i).2 else if j<(k.μ x).1 then(k.cut x j).1 else x
def over:List α->Nat->Nat->List α
 |[],_,_=>[]
 |x::t,i,j=>(if i<min j (k.μ x).1 then[k.part x i (min j (k.μ x).1)] else[])++over t (i-(k.μ x).1) (j-(k.μ x).1)
theorem Ed(l:List α)(h:j<=i):k.over l i j=[]:=by
 induction l generalizing i j with
 |nil=>rfl
 |cons x l o=>simp only[over];rw[C3 (by omega),o (by omega)];rfl
theorem Qd(l t:List α)(i j:Nat):k.over (l++t) i j=k.over l i j++k.over t (i-Tr.sz k.μ l) (j-Tr.sz k.μ l):=by
 induction l generalizing i j with
 |nil=>simp[over,Tr.sz]
 |cons x l o=>
  simp only[WJ,over,o,Tr.Ba,PF,po]
theorem MM(l:List α)(i j:Nat):k.over l i (min j (Tr.sz k.μ l))=k.over l i j:=by
 induction l generalizing i j with
 |nil=>rfl
 |cons x l o=>
  simp only[over,Tr.Ba];rw[show min (min j ((k.μ x).1+Tr.sz k.μ l)) (k.μ x).1=min j (k.μ x).1 by omega,show min j ((k.μ x).1+Tr.sz k.μ l)-(k.μ x).1=min (j-(k.μ x).1) (Tr.sz k.μ l) by omega,o]
def CN(out:List α)(x:α):List α:=if(k.μ x).1=0 then out else
 match out.getLast? with
 |some y=>match k.meld y x with
  |some z=>out.dropLast++[z]
  |none=>out++[x]
 |none=>out++[x]
def melded(l:List α):List α:=l.foldl k.CN []
def Bw(t:List α)(i j:Nat)(l:List α):List α:=
 let a:=(k.split t i).1
 let b:=(k.split (k.split t i).2 (j-i)).2
 a.dropLast++k.melded (a.getLast?.toList++l++b.head?.toList)++b.tail
structure FQ (u:α->List β):Prop where
 size:∀x,(k.μ x).1=(u x).length
 cut1:∀x p,0<p->p<(u x).length->u (k.cut x p).1=(u x).take p/\u (k.cut x p).2=(u x).drop p
 melds:∀x y z,k.meld x y=some z->u z=u x++u y
variable {k}{u:α->List β}
theorem FQ.sz(h:k.FQ u)(l:List α):Tr.sz k.μ l=(l.flatMap u).length:=by
 induction l with
 |nil=>rfl
 |cons x l i=>rw[Tr.Ba,i,h.size,kp,Bq]
theorem FQ.split(h:k.FQ u)(l:List α)(p:Nat):((k.split l p).1.flatMap u=(l.flatMap u).take p)/\(k.split l p).2.flatMap u=(l.flatMap u).drop p:=by
 induction l generalizing p with
 |nil=>simp[Kd.split]
 |cons x l j=>
  simp only[Kd.split,kp];by_cases h0:p=0
  .subst h0;simp
  .rw[C3 h0];by_cases h1:(k.μ x).1<=p
   .rw[Io h1];have o:=h.size x;have i:(u x).length<=p:=by omega
    refine⟨?_,?_⟩
    .rw[kp,(j _).1,mo,lN i,o]
    .rw[(j _).2,nR,lq i,o,kS]
   .rw[C3 h1];have:=h.size x;obtain⟨c1,c2⟩:=h.cut1 x p (by omega) (by omega);simp only[kp,nS,kG,c1,c2,mo,nR];rw[show p-(u x).length=0 by omega];simp
theorem FQ.part(h:k.FQ u)(x:α)(o:i<j)(B:j<=(u x).length):u (k.part x i j)=((u x).take j).drop i:=by
 have E:=h.size x;have e:u (if j<(k.μ x).1 then(k.cut x j).1 else x)=(u x).take j:=by
  by_cases h1:j<(k.μ x).1
  .rw[Io h1,(h.cut1 x j (by omega) (by omega)).1]
  .rw[C3 h1,lN (by omega)]
 unfold Kd.part;by_cases h0:0<i
 .rw[Io h0,(h.cut1 _ i h0 (by rw[e,Mp];omega)).2,e]
 .rw[C3 h0,e,show i=0 by omega,lh]
theorem FQ.over(h:k.FQ u)(l:List α)(i j:Nat):(k.over l i j).flatMap u=((l.flatMap u).take j).drop i:=by
 induction l generalizing i j with
 |nil=>simp[Kd.over]
 |cons x l o=>
  have B:=h.size x;simp only[Kd.over,lU,kp,o,mo,nR,B,Mp];congr 1
  .by_cases h1:i<min j (u x).length
   .rw[Io h1];simp only[kp,nS,kG];have ht:(u x).take (min j (u x).length)=(u x).take j:=by rw[List.take_eq_take_iff];omega
    rw[h.part x (by omega) (by omega),ht]
   .rw[C3 h1,lq (by rw[Mp];omega)];rfl
  .by_cases E:j<=(u x).length
   .rw[show j-(u x).length=0 by omega];simp
   .rw[show min j (u x).length=(u x).length by omega]
theorem FQ.CN(h:k.FQ u)(out:List α)(x:α):(k.CN out x).flatMap u=out.flatMap u++u x:=by
 unfold Kd.CN;by_cases h0:(k.μ x).1=0
 .rw[Io h0];have:u x=[]:=QC (by rw[<-h.size];exact h0);rw[this,kG]
 .rw[C3 h0];rcases kb out with rfl|⟨o,y,rfl⟩
  .simp
  .simp only[k6,S5,X1,ki,k9];cases hm:k.meld y x with
   |none=>simp
   |some z=>simp[h.melds _ _ _ hm]
theorem FQ.melded(h:k.FQ u)(l:List α):(k.melded l).flatMap u=l.flatMap u:=by
 have gen:∀(l out:List α),(l.foldl k.CN out).flatMap u=out.flatMap u++l.flatMap u:=by
  intro l;induction l with
  |nil=>intro out;simp
  |cons x l i=>intro out;rw[lb,i,h.CN];simp
 have e:=gen l [];rw[nS,kS] at e;exact e
theorem FQ.Bw(h:k.FQ u)(t l:List α)(B:i<=j):(k.Bw t i j l).flatMap u=(t.flatMap u).take i++l.flatMap u++(t.flatMap u).drop j:=by
 unfold Kd.Bw;obtain⟨E,I⟩:=h.split t i;obtain⟨b1,b2⟩:=h.split (k.split t i).2 (j-i);rw[I,nT,show i+(j-i)=j by omega] at b2;rw[<-E,<-b2];simp only[lU,h.melded];generalize (k.split t i).1=a;generalize (k.split (k.split t i).2 (j-i)).2=b;have J:a.dropLast.flatMap u++a.getLast?.toList.flatMap u=a.flatMap u:=by
  rcases kb a with rfl|⟨o,y,rfl⟩
  .rfl
  .simp
 have eb:b.head?.toList.flatMap u++b.tail.flatMap u=b.flatMap u:=by
  cases b<;>simp
 rw[<-J,<-eb];simp only[PF]
end Kd
structure ArS (α:Type) where
 ps:List (Option (Nd α))
 fr:List Nat
namespace ArS
variable {α:Type}
def f(A:ArS α):Nat->Option (Nd α):=fun i=>(A.ps[i]?).join
def Ok(A:ArS α):Prop:=(∀i∈A.fr,A.ps[i]?=some none)/\A.fr.Nodup
def z:ArS α:=⟨[],[]⟩
theorem ie:Ok (z:ArS α):=⟨by simp[z],by simp[z]⟩
def put(A:ArS α)(i:Nat)(n:Nd α):ArS α:=⟨A.ps.set i (some n),A.fr⟩
def free(A:ArS α)(i:Nat):ArS α:=⟨A.ps.set i none,A.fr++[i]⟩
def num(A:ArS α):Nat:=match A.fr.getLast? with|some i=>i|none=>A.ps.length
def take(A:ArS α)(n:Nd α):ArS α:=match A.fr.getLast? with|some i=>⟨A.ps.set i (some n),A.fr.dropLast⟩|none=>⟨A.ps++[some n],A.fr⟩
theorem Ir{A:ArS α}{n:Nd α}(h:A.f i=some n):i<A.ps.length/\A.ps[i]?=some (some n):=by
 unfold f at h;cases hp:A.ps[i]? with
 |none=>rw[hp] at h;cases h
 |some o=>rw[hp] at h;cases o with
  |none=>cases h
  |some m=>cases h;exact⟨(Bp.1 hp).1,rfl⟩
theorem U3(A:ArS α)(hi:i<A.ps.length)(o:Option (Nd α))(fr:List Nat):(⟨A.ps.set i o,fr⟩:ArS α).f=Tr.Eg A.f i o:=by
 funext j
 unfold f Tr.Eg;simp only[nB];by_cases h:i=j
 .subst h;rw[Io rfl,Io hi,Io rfl];rfl
 .rw[C3 h,C3 fun e=>h e.symm]
theorem J1{A:ArS α}{n m:Nd α}(h:A.f i=some m):(A.put i n).f=Tr.Eg A.f i (some n):=U3 A (Ir h).1 _ _
theorem dL{A:ArS α}{n m:Nd α}(h:A.f i=some m)(ok:Ok A):Ok (A.put i n):=by
 refine⟨fun j E=>?_,ok.2⟩;have h1:=ok.1 j E;have B:=(Ir h).2;have o:i≠j:=fun e=>by subst e;rw[h1] at B;cases B
 show(A.ps.set i (some n))[j]?=_;rw[nB,C3 o];exact h1
theorem RR{A:ArS α}{m:Nd α}(h:A.f i=some m):(A.free i).f=Tr.Eg A.f i none:=U3 A (Ir h).1 _ _
theorem aC{A:ArS α}{m:Nd α}(h:A.f i=some m)(ok:Ok A):Ok (A.free i):=by
 have B:=Ir h;have E:i∉A.fr:=fun e=>by have:=ok.1 i e;rw[this] at B;cases B.2
 refine⟨fun j o=>?_,kE.2 ⟨ok.2,by simp,fun a ha b hb=>by simp at hb;subst hb;exact fun e=>E (e▸ha)⟩⟩;show(A.ps.set i none)[j]?=_;rw[nB];by_cases e:i=j
 .subst e;rw[Io rfl,Io B.1]
 .rw[C3 e];rcases DN.1 o with o|o
  .exact ok.1 j o
  .simp at o;exact(e o.symm).elim
theorem Ra{A:ArS α}(n:Nd α)(ok:Ok A):(A.take n).f=Tr.Eg A.f A.num (some n)/\A.f A.num=none/\Ok (A.take n):=by
 unfold take num;rcases kb A.fr with E|⟨l,i,hc⟩
 .rw[E];simp only[pn];refine⟨?_,by simp[f],⟨by simp,by simp⟩⟩;funext j
  unfold f Tr.Eg;simp only[mz];by_cases h:j<A.ps.length
  .rw[Io h,C3 (by omega)]
  .rw[C3 h];by_cases e:j=A.ps.length
   .subst e;simp
   .rw[C3 e,kN (by simp;omega),kN (by omega)]
 .rw[k6] at hc;rw[hc];simp only[S5,X1,ki,k9];have h1:=ok.1 i (by rw[hc];simp);have hi:=(Bp.1 h1).1;have o:=ok.2;rw[hc,kE] at o;refine⟨U3 A hi _ _,by unfold f;rw[h1];rfl,⟨fun j B=>?_,o.1⟩⟩;show(A.ps.set i (some n))[j]?=_;rw[nB,C3 fun e=>o.2.2 j B i (by simp) e.symm];exact ok.1 j (by rw[hc];simp[B])
end ArS
section
def S8(v0:Value)(K:Cont)(w:World):Prop:=
 Ae v0 fun ax=>
 Eu .i64 ax (.int .i64 64) fun ay=>
 AD ay
 (K (.tuple #[(.pointer none),(.int .i64 3)]) w)
 (AB prog 29 [v0] (fun b0 w1=>
 runK prog (Instr.makeMap 66 none) (fun b3 w2=>
 Ah [(0,1),(1,1)] [(.slice none 0 0),(.map none)] [(0,b0),(1,b3)] fun b4=>
 Bh 68 b4 (fun o w3=>
 Ae v0 fun b5=>
 Aq [(.int .i64 0)] (fun vs E w4=>∀_:Env,
 Bb .i64 (nth vs 0) b5 fun b6=>
 AD b6
 (BQ 6 v0 (nth vs 0) fun b7=>
 Af 6 b7 (fun t22 w5=>
 Am 65 [(.int .i64 0),(.bool false),(.int .u8 0),(.bool false),(.bool false),(.int .i64 0)] (fun V w6=>
 Ac 6 V t22 (fun X=>
 Ao (fun _vs_1 w8=>∀_:Env,
 Ay [7] [[],[0],[0,1],[0,1,2],[],[4],[],[0,1,2,3,4,5,6]] w8.drew (fun M St=>
 AJ o fun b8=>
 AM 1 b8 fun b9=>
 BF (St 3) b9 fun ba=>
 AM 0 V fun bb=>
 BF (St 5) bb fun bc=>
 EM (St 6) 6 V fun t45=>
 runK prog (do Instr.mapUpdate 66 ba bc t45;pure undef) (fun _u w9=>
 Mod (M 7) w8.drew w9/\
 AX .i64 (nth vs 0) (.int .i64 1) fun t46=>
 E [t46] w9) w8.drew)) (fun J=>
 Ao (fun Y Z=>∀_:Env,
 AD (nth Y 0)
 (K (.tuple #[(.pointer none),(.int .i64 3)]) Z)
 (Af 6 V (fun bd bk=>
 AB prog 30 [bd] (fun bl a1=>
 CE bl fun bn=>
 AD bn
 (K (.tuple #[(.pointer none),(.int .i64 3)]) a1)
 (J [] a1)) bk) Z)) (fun a6=>
 Ay [6,10,11] [[],[0],[0,1],[0,1,2],[],[4],[0,1,2,3,4,5],[0,1,2,3,4,5,6],[0,1,2,3,4,5,6,7],[0,1,2,3,4,5,6,7],[],[0,1,2,3,4,5,6,7,8,10],[0,1,2,3,4,5,6,7,8,9,10,11]] X.drew (fun i B=>
 AJ o fun t25=>
 AM 1 t25 fun bp=>
 BF (B 3) bp fun a7=>
 AM 0 V fun bs=>
 BF (B 5) bs fun a8=>
 (runK prog (Instr.lookup 66 a7 a8 true) (fun ak I=>
 Mod (i 6) X.drew I/\
 AQ 0 ak fun bx=>
 AQ 1 ak fun c4=>
 Am 65 [(.int .i64 0),(.bool false),(.int .u8 0),(.bool false),(.bool false),(.int .i64 0)] (fun t7 O=>
 Mod (i 10) I O/\
 Ac 6 t7 bx (fun al=>
 Mod (i 11) O al/\
 a6 [c4] al) O) I) X.drew)/\
 (Am 65 [(.int .i64 0),(.bool false),(.int .u8 0),(.bool false),(.bool false),(.int .i64 0)] (fun an Q=>
 Mod (i 10) X.drew Q/\
 runK prog (Instr.lookup 66 a7 a8 true) (fun j S=>
 Mod (i 6) Q S/\
 AQ 0 j fun T=>
 AQ 1 j fun U=>
 Ac 6 an T (fun av=>
 Mod (i 11) S av/\
 a6 [U] av) S) Q) X.drew))))) w6) w5) w4)
 (AJ o fun c6=>
 AM 0 c6 fun c7=>
 AL c7 (fun t50 c8=>
 AB prog 31 [t50,(.func (.func 32) #[] #[])] (fun _t51 c9=>
 K (.tuple #[o,(.int .i64 0)]) c9) c8) w4)) w3) w2) w1) w)
variable {v0 v1 v2 v3 v4 v5 v6 v7 v8 v9:Value}{K:Cont}{w:World}
theorem gi(h:S8 v0 K w):AB prog 8 [v0] K w:=cO (aN (aO (aN (aO aE .nil)) (aN (aO (aN (.node [19] [(2,3),(6,8),(19,46)] (aN (aO aE (aO (aN (.cut [] [(2,3),(7,8),(23,38)] (.cut [8] [(7,8),(23,32)] (.dt [6,10,11] [[],[0],[0,1],[0,1,2],[],[4],(aR 6),(aR 7),(aR 8),(aR 8),[],[0,1,2,3,4,5,6,7,8,10],(aR 12)] [[6]] (.op 0 (.op 1 (.op 2 (.op 3 (.op 4 (.op 5 (.br (.op 6 (.op 7 (.op 8 (.op 9 (.op 10 (.op 11 (.op 12 .nil))))))) (.op 10 (.op 6 (.op 7 (.op 8 (.op 9 (.op 11 (.op 12 .nil))))))))))))))) (aN (aO aE .nil))) (.dc [7] [[],[0],[0,1],[0,1,2],[],[4],[],(aR 7)] []))) .nil))) .nil)) (aN aE))))) func8 h (by kernel_rfl)
theorem cm(h: Hg v0 fun i=>
 AD (.bool i)
 (K (.slice none 0 0) w)
 (Bg 65 6 0 [] [] (fun t5 j=>
 runK prog (Builtin.append_ #[22,22] 22 [t5,v0].toArray) (fun o w2=>
 K o w2) j) w)):AB prog 29 [v0] K w:=cO (aN (aO (aN (aO aE .nil)) aE)) func29 h (by kernel_rfl)
theorem ey(h: Bh 65 v0 (fun i w1=>
 Ao (fun vs w2=>∀_:Env,
 AD (nth vs 0)
 (K (.bool false) w2)
 (AM 1 i fun o=>
 AL o (fun B w3=>
 AD B
 (AM 4 i fun t25=>
 AL t25 (fun E w4=>
 CE E fun I=>
 AD I
 (AM 5 i fun O=>
 AL O (fun Q w5=>
 Kk .i64 Q (.int .i64 0) fun S=>
 AD S
 (AM 5 i fun T=>
 AL T (fun U w6=>
 SQ .i64 U (.int .i64 8) fun V=>
 K V w6) w5)
 (K (.bool false) w5)) w4)
 (K (.bool false) w4)) w3)
 (AM 5 i fun X=>
 AL X (fun t39 w7=>
 DJ .i64 t39 (.int .i64 0) fun Y=>
 K Y w7) w3)) w2)) (fun J=>
 AM 0 i fun t4=>
 AL t4 (fun t5 w8=>
 Bb .i64 t5 (.int .i64 1) fun t6=>
 AD t6
 (J [(.bool true)] w8)
 (AM 0 i fun t8=>
 AL t8 (fun t9 w9=>
 Eu .i64 t9 (.int .i64 1000) fun Z=>
 AD Z
 (J [(.bool true)] w9)
 (AM 2 i fun a1=>
 AL a1 (fun a6 j=>
 Bb .u8 a6 (.int .u8 1) fun a7=>
 AD a7
 (J [(.bool true)] j)
 (AM 2 i fun a8=>
 AL a8 (fun ak al=>
 Eu .u8 ak (.int .u8 4) fun an=>
 J [an] al) j)) w9)) w8)) w1)) w):AB prog 30 [v0] K w:=cO (aN (aO (.cut [3] [(3,21)] .nil (aO aE (aN (aO aE .nil)))) aE)) func30 h (by kernel_rfl)
theorem bu(h: Bh 65 v0 (fun i j=>
 Bh 65 v1 (fun t3 w2=>
 AM 0 i fun t5=>
 AL t5 (fun o B=>
 AM 0 t3 fun E=>
 AL E (fun I w4=>
 AB prog 33 [o,I] (fun t9 J=>
 K t9 J) w4) B) w2) j) w):AB prog 32 [v0,v1] K w:=cO (aN aE) func32 h (by kernel_rfl)
theorem dK(h: AB prog 73 [v0] (fun B E=>
 AB prog 73 [v1] (fun i w2=>
 AD B
 (AD i
 (K (.int .i64 0) w2)
 (K (.int .i64 (-1)) w2))
 (AD i
 (K (.int .i64 1) w2)
 (Bb .i64 v0 v1 fun j=>
 AD j
 (K (.int .i64 (-1)) w2)
 (Eu .i64 v0 v1 fun o=>
 AD o
 (K (.int .i64 1) w2)
 (K (.int .i64 0) w2))))) E) w):AB prog 33 [v0,v1] K w:=cO (aN (aN (aN (aO (aN (aO (aO (aN (aO aE .nil)) aE) .nil)) (aO (aN (aO aE .nil)) (aO (aN (aO aE .nil)) (aO (aN (aO aE .nil)) aE))))))) func33 h (by kernel_rfl)
theorem Zc(h: Am 65 [(.int .i64 0),(.bool false),(.int .u8 0),(.bool false),(.bool false),(.int .i64 0)] (fun t4 T=>
 CY v0 fun V=>
 AD (.bool V)
 (Ah [(0,1),(1,1),(2,1),(3,1),(4,1),(5,1)] [(.int .i64 0),(.bool false),(.int .u8 0),(.bool false),(.bool false),(.int .i64 0)] [] fun o=>
 Ac 6 t4 o (fun w2=>
 Af 6 t4 (fun X Y=>
 K (.tuple #[X,(.bool false)]) Y) w2) T)
 (AJ v0 fun B=>
 AM 1 B fun E=>
 AL E (fun I w4=>
 runK prog (Instr.lookup 66 I v1 true) (fun i Z=>
 AQ 0 i fun J=>
 AQ 1 i fun O=>
 Am 65 [(.int .i64 0),(.bool false),(.int .u8 0),(.bool false),(.bool false),(.int .i64 0)] (fun U w6=>
 Ac 6 U J (fun w7=>
 Af 6 U (fun Q w8=>
 Ac 6 t4 Q (fun w9=>
 Af 6 t4 (fun j S=>
 K (.tuple #[j,O]) S) w9) w8) w7) w6) Z) w4) T)) w):AB prog 131 [v0,v1] K w:=cO (aN (aO (aN (aO aE .nil)) (aN aE))) func131 h (by kernel_rfl)
theorem eG(h: EB .i64 v0 v0 fun t5=>
 K t5 w):AB prog 73 [v0] K w:=cO (aN aE) func73 h (by kernel_rfl)
end
def Jn(w:World)(b:Nat)(l:List (Int×Value)):Prop:=∃j i,w.heap[b]?=some (.map j i)/\j.toList.map (fun e=>(e.key,e.val))=l.map fun p=>(Value.int .i64 p.1,p.2)
theorem Jn.lt{b:Nat}{l:List (Int×Value)}(h:Jn w b l):b<w.heap.size:=by
 obtain⟨i,c,hb,_⟩:=h;exact(lf.1 hb).1
theorem Jn.mod{b:Nat}{l:List (Int×Value)}(h:Jn w b l)(hm:Mod M w w')(hb:¬M b):Jn w' b l:=by
 have hl:=h.lt;obtain⟨i,c,h1,j⟩:=h;exact⟨i,c,(hm.same b hl hb).trans h1,j⟩
theorem Jn.make(w:World):Jn (w.alloc (.map #[] 0)) w.heap.size []:=⟨#[],0,(MapKept.heap_alloc w _).1,rfl⟩
theorem Ks(k:Int):∀(B:List MapEntry) (l:List (Int×Value)) (i:Nat),(B.map fun e=>(e.key,e.val))=(l.map fun p=>(Value.int .i64 p.1,p.2))->
  ∃r,Instr.findNow (.int .i64) (.int .i64 k) B i=some r/\((r=none/\l.find? (fun p=>decide (p.1=k))=none)\/∃j p,r=some (j,p.2)/\l.find? (fun p=>decide (p.1=k))=some p):=by
 intro B;induction B with
 |nil=>
  intro l i h;cases l with
  |nil=>exact⟨none,rfl,.inl ⟨rfl,rfl⟩⟩
  |cons p l=>simp at h
 |cons e B E=>
  intro l i h;cases l with
  |nil=>simp at h
  |cons p l=>
   simp only[kL,mE,Prod.mk.injEq] at h;obtain⟨⟨h1,I⟩,J⟩:=h;obtain⟨r,hr,o⟩:=MapKept.sameNow_of_keys (d:=.int .i64) (a:=.int .i64 k) (b:=e.key) rfl (by rw[h1];rfl);rw[h1] at o;cases r with
   |true=>
    have hk:k=p.1:=by have:=o.1 rfl;simpa using this
    exact⟨some (i,e.val),by simp[Instr.findNow,hr],.inr ⟨i,p,by rw[I],by simp[hk]⟩⟩
   |false=>
    have hk:¬p.1=k:=fun e=>by have:=o.2 (by rw[e]);cases this
    obtain⟨r,O,Q⟩:=E l (i+1) J;refine⟨r,by simp[Instr.findNow,hr,O],?_⟩;simpa[List.find?_cons,hk] using Q
theorem XG(k:Int):MapKept.IsKey (.int .i64) (.int .i64 k):=rfl
theorem LU{t kt et:TypeId}{z:Value}{b:Nat}{l:List (Int×Value)}(ht:P.underlying t=some (.map kt et))(hk:P.underlying kt=some (.int .i64))(E:(zeroValue et).run P w=.ok z w)(h:Jn w b l)(k:Int) :
  (Instr.lookup t (.map (some b)) (.int .i64 k) true).run P w=.ok (.tuple #[((l.find? fun p=>decide (p.1=k)).map (·.2)).getD z,.bool (l.find? fun p=>decide (p.1=k)).isSome]) w:=by
 obtain⟨I,o,hb,he⟩:=h;obtain⟨r,h1,i⟩:=Ks k I.toList l 0 he;have B:=mP (w:=w) hk h1;have hc:=fun em=>nD (w:=w) hk (XG k) em 9999;rcases i with⟨rfl,i⟩|⟨j,p,rfl,i⟩
 .simp[Instr.lookup,run_underlying ht,lu hb,hc,B,E,Result.andThen,i]
 .simp[Instr.lookup,run_underlying ht,lu hb,hc,B,Result.andThen,i]
theorem Q8{t kt et:TypeId}{b:Nat}{l:List (Int×Value)}(ht:P.underlying t=some (.map kt et))(hk:P.underlying kt=some (.int .i64))(h:Jn w b l)(k:Int)(v:Value)(B:l.find? (fun p=>decide (p.1=k))=none) :
  ∃w',(Instr.mapUpdate t (.map (some b)) (.int .i64 k) v).run P w=.ok () w'/\Jn w' b (l++[(k,v)])/\Mod (fun x=>x=b) w w':=by
 obtain⟨E,i,hb,he⟩:=h;obtain⟨r,h1,o⟩:=Ks k E.toList l 0 he;have I:=mP (w:=w) hk h1;have hc:=fun em=>nD (w:=w) hk (XG k) em 9999;rcases o with⟨rfl,o⟩|⟨j,p,rfl,o⟩
 .refine⟨{ w with heap:=w.heap.setIfInBounds b (.map (E.push ⟨.int .i64 k,v,i⟩) (i+1)) },by simp[Instr.mapUpdate,run_underlying ht,lu hb,hc,I,nW _ hb,Result.andThen],⟨_,_,(oy hb).1,?_⟩,⟨rfl,rfl,rfl,by simp,fun x _ J=>(oy hb).2 x J⟩⟩;simp[he]
 .rw[o] at B;cases B
theorem DS{a:Addr}{K:Bool->Prop}(h:K false):CY (.pointer (some a)) K:=⟨_,rfl,h⟩
theorem AV{A B:Prop}(h:B):AD (.bool false) A B:=h
theorem As{A B:Prop}(h:A):AD (.bool true) A B:=h
theorem AI{a:Addr}{K:Value->Prop}(h:K (.pointer (some a))):AJ (.pointer (some a)) K:=⟨_,rfl,h⟩
theorem XY:DU prog 22 65 6 24:=⟨Tryz.t65,.agg #[.int .i64 0,.bool false,.int .u8 0,.bool false,.bool false,.int .i64 0],by kernel_rfl,by kernel_rfl,by kernel_rfl,by kernel_rfl,by kernel_rfl,by rfl,by decide⟩
theorem PO:DU prog 145 3 1 8:=⟨Tryz.t3,.int .i64 0,by kernel_rfl,by kernel_rfl,by kernel_rfl,by kernel_rfl,by kernel_rfl,by rfl,by decide⟩
open Classical in
theorem Zp{k:DKey}:AB prog 30 [.agg k.cells.toArray] (fun v' w'=>v'=.bool (decide (EZ k))/\Grow w w') w:=by
 apply ey;refine Dq fun b B _ _ g hc _=>?_;have J:=hc 0 _ rfl;have l1:=hc 1 _ rfl;have l2:=hc 2 _ rfl;have U:=hc 4 _ rfl;have E:=hc 5 _ rfl;simp only[AG];have i:∀q:Bool,(q=true↔EZ k)->Value.bool q=.bool (decide (EZ k))/\Grow w B:=fun q h=>⟨by congr 1;rw[mi,h,S6],g⟩;refine AT (fun vs w2=>w2=B/\∃q:Bool,vs=[.bool q]/\(q=false↔1<=k.id/\k.id<=1000/\1<=k.kind/\k.kind<=4)) ?_ ?_
 .rintro vs _ ⟨rfl,q,rfl,O⟩ _;rename World=>B
  rw[B0,Of];cases q with
  |true=>exact As (i false ⟨fun h=>(nomatch h),fun h=>by have:=O.2 ⟨h.1,h.2.1,h.2.2.1,h.2.2.2.1⟩;cases this⟩)
  |false=>
   obtain⟨h1,j,o,Q⟩:=O.1 rfl;refine AV (AK l1 ?_);cases hb:k.block with
   |true=>
    refine As (AK U ?_);rw[Ar];cases S:k.before with
    |true=>exact AV (i false ⟨fun h=>(nomatch h),fun h=>by have:=h.2.2.2.2.2.2.2 hb;rw[S] at this;cases this⟩)
    |false=>
     refine As (AK E ?_);rw[DX];refine AF (fun T=>?_) fun T=>i false ⟨fun h=>(nomatch h),fun h=>by have:=h.2.2.2.2.1;omega⟩;refine AK E ?_;rw[IJ];refine i _ ?_;rw[S6];exact⟨fun I=>⟨h1,j,o,Q,T,I,(fun e=>by rw[hb] at e;cases e),fun _=>S⟩,fun h=>h.2.2.2.2.2.1⟩
   |false=>
    refine AV (AK E ?_);rw[Al];refine i _ ?_;rw[S6];exact⟨fun I=>⟨h1,j,o,Q,by omega,by omega,fun _=>I,fun e=>by rw[hb] at e;cases e⟩,fun h=>h.2.2.2.2.2.2.1 hb⟩
 .refine AK J ?_;rw[Ap];refine AF (fun h1=>⟨rfl,true,rfl,⟨fun h=>(nomatch h),fun h=>by omega⟩⟩) fun h1=>?_;refine AK J ?_;rw[BR];refine AF (fun j=>⟨rfl,true,rfl,⟨fun h=>(nomatch h),fun h=>by omega⟩⟩) fun j=>?_;refine AK l2 ?_;rw[Ap];refine AF (fun o=>⟨rfl,true,rfl,⟨fun h=>(nomatch h),fun h=>by omega⟩⟩) fun o=>?_;refine AK l2 ?_;rw[BR];refine⟨rfl,_,rfl,?_⟩;rw[kW];exact⟨fun h=>by omega,fun h=>by omega⟩
theorem TN{l:List DKey}(h:NS S w v l)(hl:l.length<=1099511627776) :
  AB prog 29 [v] (fun v' w'=>AE w.heap.size 65 6 G0 w' v' l/\Grow w w') w:=by
 apply cm;exact JU (K:=fun v' w'=>AE w.heap.size 65 6 G0 w' v' l/\Grow w w') XY h (by omega) (fun _ _ _=>G0.one) (fun _ _ _ _ _ _ h=>h) fun _ _ h g=>⟨h,g⟩
def NJ(a b:Int):Int:=if a<b then -1 else if b<a then 1 else 0
theorem cC{a b:Int}:AB prog 33 [.int .i64 a,.int .i64 b] (fun v' w'=>v'=.int .i64 (NJ a b)/\w'=w) w:=by
 have i:∀(c:Int) (K:Cont),K (.bool false) w->AB prog 73 [.int .i64 c] K w:=by
  intro c K o;apply eG;rw[Bm];rw[show(!decide (c=c))=false by simp];exact o
 apply dK;refine i _ _ (i _ _ ?_);refine AV (AV ?_);rw[Ap];unfold NJ;refine AF (fun h=>⟨by rw[Io h],rfl⟩) fun h=>?_;rw[BR];exact AF (fun j=>⟨by rw[C3 h,Io j],rfl⟩) fun j=>⟨by rw[C3 h,C3 j],rfl⟩
def De(D:Nat->Prop)(w:World)(v:Value)(ks:List DKey):Prop:=
 ∃b m i l,v=.pointer (some ⟨b,0,none⟩)/\D b/\D m/\w.cell? ⟨b,0,none⟩=some i/\w.cell? ⟨b,1,none⟩=some (.map (some m))/\BB D 6 G0 w i ks/\Jn w m l/\
  ∀id:Int,(l.find? fun p=>decide (p.1=id)).map (·.2)=(Bj ks id).map fun k=>.agg k.cells.toArray
theorem De.mod{D M:Nat->Prop}(h:De D w v ks)(hm:Mod M w w')(i:∀b,b<w.heap.size->D b->¬M b):De D w' v ks:=by
 obtain⟨b,m,E,l,rfl,h1,j,o,I,J,B,O⟩:=h;have hb:=kT w _ o;exact⟨b,m,E,l,rfl,h1,j,hm.cell o (i _ hb h1),hm.cell I (i _ hb h1),J.mod hm i (by decide) fun _ _ h=>h,B.mod hm (i _ B.lt j),O⟩
theorem De.grow{D:Nat->Prop}(h:De D w v ks)(hm:Grow w w'):De D w' v ks:=h.mod hm fun _ _ _ h=>h
theorem De.sub{D D':Nat->Prop}(h:De D w v ks)(i:∀b,b<w.heap.size->D b->D' b):De D' w v ks:=by
 obtain⟨b,m,B,l,rfl,h1,E,j,I,J,o,O⟩:=h;exact⟨b,m,B,l,rfl,i _ (kT w _ j) h1,i _ o.lt E,j,I,J.sub i (by decide) fun _ _ h=>h,o,O⟩
theorem P4(w:World):(zeroValue 65).run prog w=.ok (.agg DKey.zero.cells.toArray) w:=EL (by kernel_rfl) w
theorem Jw{D:Nat->Prop}(h:De D w v ks)(id:Int) :
  AB prog 131 [v,.int .i64 id] (fun v' w'=>v'=.tuple #[.agg ((Bj ks id).getD DKey.zero).cells.toArray,.bool (Bj ks id).isSome]/\Grow w w') w:=by
 apply Zc;obtain⟨b,m,kv,l,rfl,_,_,h3,O,h5,Q,I⟩:=h;refine Dc fun b4 w1 S T i _ o=>?_;refine DS (AV (AI ?_));rw[AG];refine AK (i.cell (by rw[AH];exact O) fun h=>h) ?_;refine Ag (LU underlying66 underlying3 (P4 _) (Q.mod i fun h=>h) id) ?_;have U:((l.find? fun p=>decide (p.1=id)).map (·.2)).getD (.agg DKey.zero.cells.toArray)=.agg ((Bj ks id).getD DKey.zero).cells.toArray:=by
  rw[I];cases Bj ks id<;>rfl
 have V:(l.find? fun p=>decide (p.1=id)).isSome=(Bj ks id).isSome:=by
  have:=kM Option.isSome (I id);simpa using this
 rw[U,V];refine BV ?_;generalize (Bj ks id).getD DKey.zero=k;refine BS (vs:=k.cells) rfl rfl (G0.one (w:=w) (x:=k) rfl) fun b6 w3 X Y J B _=>?_;refine Aj (vs:=k.cells) rfl B ?_;refine CF rfl (G0.one (w:=w) (x:=k) rfl) (fun j Z=>(o j Z).mod J fun h=>h) fun w4 m4 E _=>?_;refine Aj (vs:=k.cells) rfl E ⟨rfl,?_⟩;exact(i.trans J).next m4 fun x hx e=>by omega
abbrev MH:World->List Value->Int->Prop:=fun _ r x=>r=[.int .i64 x]
theorem MH.one{r:List Value}{x:Int}(h:MH w r x):∀u∈r,u.oneCell'=true:=by
 subst h;intro u hu;simp at hu;subst hu;rfl
structure Ent (α:Type) where
 set:α
 held:Nat
structure Tab (α:Type) where
 places:List (Ent α)
 free:List Nat
 empty:Nat
def Tab.z(α:Type):Tab α:=⟨[],[],0⟩
structure Tab.Inv {α:Type} (G:α->Prop) (t:Tab α):Prop where
 Qm:t.free.Nodup
 UT:∀i:Nat,i∈t.free↔∃p,t.places[i]?=some p/\p.held=0
 Ho:∀(i j:Nat) (p q:Ent α),t.places[i]?=some p->t.places[j]?=some q->0<p.held->0<q.held->p.set=q.set->i=j
 ok:∀(i:Nat) (p:Ent α),t.places[i]?=some p->0<p.held->G p.set
def Tab.ID{α:Type}(t:Tab α)(i:Nat)(p:Ent α):Tab α:={ t with places:=t.places.set i p }
def Tab.put{α:Type}(t:Tab α)(s:α):Nat×Tab α:=match t.free.getLast? with
 |some i=>(i,{ t with places:=t.places.set i ⟨s,1⟩,free:=t.free.dropLast })
 |none=>(t.places.length,{ t with places:=t.places++[⟨s,1⟩] })
def Tab.drop{α:Type}(t:Tab α)(z:α)(i:Nat):Tab α:={ t with places:=t.places.set i ⟨z,0⟩,free:=t.free++[i] }
theorem Tab.Inv.z(G:α->Prop):(Tab.z α).Inv G:=⟨mq,fun i=>by simp[Tab.z],fun i j p q h=>by simp[Tab.z] at h,fun i p h=>by simp[Tab.z] at h⟩
theorem Tab.Inv.ID{G:α->Prop}{t:Tab α}(h:t.Inv G){p:Ent α}(hp:t.places[i]?=some p)(h0:0<p.held){n:Nat}(hn:0<n):(t.ID i ⟨p.set,n⟩).Inv G:=by
 have hi:=(Bp.1 hp).1;have key:∀(j:Nat) (q:Ent α),(t.places.set i ⟨p.set,n⟩)[j]?=some q->∃I:Ent α,t.places[j]?=some I/\I.set=q.set/\(0<q.held↔0<I.held):=by
  intro j q E;rw[nB,Io hi] at E;split at E
  .rename_i e;subst e;cases E;exact⟨p,hp,rfl,by simp only;omega⟩
  .exact⟨q,E,rfl,nj⟩
 refine⟨h.Qm,fun j=>?_,fun j k J T h1 O U V X=>?_,fun j J h1 O=>?_⟩
 .show j∈t.free↔∃q:Ent α,(t.places.set i ⟨p.set,n⟩)[j]?=some q/\q.held=0;rw[h.UT,nB,Io hi];split
  .rename_i e;subst e;constructor
   .rintro⟨q,o,B⟩;rw[hp] at o;cases o;omega
   .rintro⟨q,o,B⟩;cases o;simp only at B;omega
  .exact nj
 .obtain⟨Q,o,B,S⟩:=key j J h1;obtain⟨Y,Z,f2,f3⟩:=key k T O;exact h.Ho j k Q Y o Z (S.1 U) (f3.1 V) (by rw[B,f2,X])
 .obtain⟨Q,o,B,S⟩:=key j J h1;rw[<-B];exact h.ok j Q o (S.1 O)
theorem N9{l:List Nat}(h:l.Nodup)(hi:l.getLast?=some i)(j:Nat):j∈l.dropLast↔j∈l/\j≠i:=by
 have e:l=l.dropLast++[i]:=by
  cases l with
  |nil=>simp at hi
  |cons a l=>
   rw[lj (by simp)] at hi;conv=>lhs;rw[<-pJ (l:=a::l) (by simp)]
   rw[kK hi]
 have o:(l.dropLast++[i]).Nodup:=e▸h;have hm:j∈l↔j∈l.dropLast++[i]:=by rw[<-e]
 rw[kE] at o;rw[hm,DN,P9];constructor
 .intro B;exact⟨.inl B,fun e=>o.2.2 j B i (P9.2 rfl) e⟩
 .rintro⟨h1|h1,E⟩
  .exact h1
  .exact absurd h1 E
theorem Tab.GK{G:α->Prop}{t:Tab α}(h:t.Inv G){s:α}(hg:G s)(X:∀(i:Nat) (p:Ent α),t.places[i]?=some p->0<p.held->p.set≠s) :
  (t.put s).2.Inv G/\(t.put s).2.places[(t.put s).1]?=some ⟨s,1⟩/\(∀p:Ent α,t.places[(t.put s).1]?=some p->p.held=0)/\(∀j:Nat,j≠(t.put s).1->(t.put s).2.places[j]?=t.places[j]?)/\(t.put s).2.empty=t.empty:=by
 unfold Tab.put;cases hl:t.free.getLast? with
 |some i=>
  have Y:i∈t.free:=mD hl;obtain⟨p,hp,Z⟩:=(h.UT i).1 Y;have hi:=(Bp.1 hp).1;have o:(t.places.set i ⟨s,1⟩)[i]?=some ⟨s,1⟩:=by rw[kI hi]
  have B:∀j:Nat,j≠i->(t.places.set i ⟨s,1⟩)[j]?=t.places[j]?:=fun j hj=>kh (mW hj);refine⟨⟨h.Qm.sublist (oq _),fun j=>?_,fun j k O T h1 E U V Q=>?_,fun j O h1 E=>?_⟩,o,fun q S=>?_,B,rfl⟩
  .show j∈t.free.dropLast↔∃q:Ent α,(t.places.set i ⟨s,1⟩)[j]?=some q/\q.held=0;rw[N9 h.Qm hl,h.UT];by_cases e:j=i
   .subst e;rw[o];constructor
    .rintro⟨_,E⟩;exact absurd rfl E
    .rintro⟨q,I,J⟩;cases I;cases J
   .rw[B j e];exact⟨fun h=>h.1,fun h=>⟨h,e⟩⟩
  .simp only at h1 E;by_cases I:j=i<;>by_cases J:k=i
   .rw[I,J]
   .subst I;rw[o] at h1;cases h1;rw[B k J] at E;exact absurd Q.symm (X k T E V)
   .subst J;rw[o] at E;cases E;rw[B j I] at h1;exact absurd Q (X j O h1 U)
   .rw[B j I] at h1;rw[B k J] at E;exact h.Ho j k O T h1 E U V Q
  .simp only at h1;by_cases I:j=i
   .subst I;rw[o] at h1;cases h1;exact hg
   .rw[B j I] at h1;exact h.ok j O h1 E
  .simp only at S;rw[hp] at S;cases S;exact Z
 |none=>
  have hf:t.free=[]:=mS.1 hl;have o:(t.places++[(⟨s,1⟩:Ent α)])[t.places.length]?=some ⟨s,1⟩:=by simp
  have B:∀j:Nat,j≠t.places.length->(t.places++[(⟨s,1⟩:Ent α)])[j]?=t.places[j]?:=by
   intro j hj;by_cases a1:j<t.places.length
   .rw[Q0 a1]
   .rw[kN (by simp;omega),kN (by omega)]
  refine⟨⟨h.Qm,fun j=>?_,fun j k O T h1 E U V Q=>?_,fun j O h1 E=>?_⟩,o,fun q S=>?_,B,rfl⟩
  .show j∈t.free↔∃q:Ent α,(t.places++[(⟨s,1⟩:Ent α)])[j]?=some q/\q.held=0;by_cases e:j=t.places.length
   .subst e;rw[o,hf];constructor
    .intro h;simp at h
    .rintro⟨q,I,J⟩;cases I;cases J
   .rw[B j e,h.UT]
  .simp only at h1 E;by_cases I:j=t.places.length<;>by_cases J:k=t.places.length
   .rw[I,J]
   .subst I;rw[o] at h1;cases h1;rw[B k J] at E;exact absurd Q.symm (X k T E V)
   .subst J;rw[o] at E;cases E;rw[B j I] at h1;exact absurd Q (X j O h1 U)
   .rw[B j I] at h1;rw[B k J] at E;exact h.Ho j k O T h1 E U V Q
  .simp only at h1;by_cases I:j=t.places.length
   .subst I;rw[o] at h1;cases h1;exact hg
   .rw[B j I] at h1;exact h.ok j O h1 E
  .simp only at S;rw[kN (Lc _)] at S;cases S
theorem Tab.VS{G:α->Prop}{t:Tab α}(h:t.Inv G){p:Ent α}(hp:t.places[i]?=some p)(h0:0<p.held)(z:α):(t.drop z i).Inv G:=by
 have hi:=(Bp.1 hp).1;have J:i∉t.free:=fun hm=>by obtain⟨q,E,O⟩:=(h.UT i).1 hm;rw[hp] at E;cases E;omega
 have o:(t.places.set i ⟨z,0⟩)[i]?=some ⟨z,0⟩:=by rw[kI hi]
 have B:∀j:Nat,j≠i->(t.places.set i ⟨z,0⟩)[j]?=t.places[j]?:=fun j U=>kh (mW U);refine⟨?_,fun j=>?_,fun j k Q V h1 I S T X=>?_,fun j Q h1 I=>?_⟩
 .show(t.free++[i]).Nodup;rw[kE];exact⟨h.Qm,by simp,fun a ha b hb=>by rw[P9] at hb;subst hb;intro e;exact J (e▸ha)⟩
 .show j∈t.free++[i]↔∃q:Ent α,(t.places.set i ⟨z,0⟩)[j]?=some q/\q.held=0;rw[DN,P9];by_cases e:j=i
  .subst e;rw[o];exact⟨fun _=>⟨_,rfl,rfl⟩,fun _=>.inr rfl⟩
  .rw[B j e,h.UT];exact⟨fun h=>h.resolve_right e,fun h=>.inl h⟩
 .simp only[Tab.drop] at h1 I;by_cases E:j=i
  .subst E;rw[o] at h1;cases h1;exact absurd S (pC _)
  by_cases O:k=i
  .subst O;rw[o] at I;cases I;exact absurd T (pC _)
  rw[B j E] at h1;rw[B k O] at I;exact h.Ho j k Q V h1 I S T X
 .simp only[Tab.drop] at h1;by_cases E:j=i
  .subst E;rw[o] at h1;cases h1;exact absurd I (pC _)
  .rw[B j E] at h1;exact h.ok j Q h1 I
theorem Ig:∀{l m:List Nat},l.Nodup->l ⊆ m->l.length<=m.length:=by
 intro l;induction l with
 |nil=>intro m _ _;exact Nn _
 |cons a l B=>
  intro m i j;rw[pI] at i;have ha:a∈m:=j kf;have E:l ⊆ m.erase a:=fun x o=>(qY (fun e:x=a=>i.1 (e▸o))).2 (j (fX _ o));have:=B i.2 E;rw[pr ha] at this;have:=oe ha;simp only[Vn];omega
theorem Tab.O3{G:α->Prop}{t:Tab α}(h:t.Inv G):t.free.length<=t.places.length:=by
 have j:t.free ⊆ List.range t.places.length:=fun i hi=>by
  obtain⟨p,hp,_⟩:=(h.UT i).1 hi;exact ly.2 (Bp.1 hp).1
 have:=Ig h.Qm j;simpa using this
section
structure ZZ (g:AvK):Prop where
 at_:∀{v0 v1 K w},iq g v0 v1 K w->AB prog g.fat [v0,v1] K w
 totals:∀{v0 v1 K w},SG g v0 v1 K w->AB prog g.ftotals [v0,v1] K w
 set:∀{v0 v1 v2 K w},gP g v0 v1 v2 K w->AB prog g.fset [v0,v1,v2] K w
 lift:∀{v0 v1 v2 K w},Wx g v0 v1 v2 K w->AB prog g.flift [v0,v1,v2] K w
 lean:∀{v0 v1 K w},bY g v0 v1 K w->AB prog g.flean [v0,v1] K w
 balance:∀{v0 v1 v2 K w},O8 g v0 v1 v2 K w->AB prog g.fbalance [v0,v1,v2] K w
 join:∀{v0 v1 v2 v3 K w},bG g v0 v1 v2 v3 K w->AB prog g.fjoin [v0,v1,v2,v3] K w
 first:∀{v0 v1 K w},Vu g v0 v1 K w->AB prog g.ffirst [v0,v1] K w
 last:∀{v0 v1 K w},bZ g v0 v1 K w->AB prog g.flast [v0,v1] K w
 concat:∀{v0 v1 v2 K w},Sa g v0 v1 v2 K w->AB prog g.fconcat [v0,v1,v2] K w
 drop:∀{v0 v1 K w},Xp g v0 v1 K w->AB prog g.fdrop [v0,v1] K w
 over:∀{v0 v1 v2 K w},Wc g v0 v1 v2 K w->AB prog g.fOver [v0,v1,v2] K w
 overf:∀{v0 v1 v2 v3 K w},VJ g v0 v1 v2 v3 K w->AB prog g.fOverf [v0,v1,v2,v3] K w
 size:∀{v0 K w},bA g v0 K w->AB prog g.fSize [v0] K w
 take:∀{v0 v1 K w},VI g v0 v1 K w->AB prog g.aTake [v0,v1] K w
 asked:∀{v0 v1 K w},Sj g v0 v1 K w->AB prog g.aasked [v0,v1] K w
 free:∀{v0 v1 K w},Vd g v0 v1 K w->AB prog g.aFree [v0,v1] K w
 aat:∀{v0 v1 K w},iP g v0 v1 K w->AB prog g.aAt [v0,v1] K w
 put:∀{v0 v1 v2 K w},bR g v0 v1 v2 K w->AB prog g.aPut [v0,v1,v2] K w
 new:∀{v0 K w},bB g v0 K w->AB prog g.fNew [v0] K w
 anew:∀{K w},bj g K w->AB prog g.aNew [] K w
 okOverf:Dh g.fOverf=true
def AvK.enc(g:AvK)(r:List Value):Value:=bif g.one then r.headD undef else .agg r.toArray
structure AvT (α:Type) extends AvK where
 k:Kd α
 R:(Nat->Prop)->World->List Value->α->Prop
 pb:Nat
 eb:Nat
 pb_le:pb<=512
 eb_le:eb<=512
 Epos:0<E
 E1:one=true->E=1
 rlen:∀{C w r x},R C w r x->r.length=E
 rone:∀{C w r x},R C w r x->∀u∈r,u.oneCell'=true
 rcell:∀{C w r x},R C w r x->(toAvK.enc r).cells=r.toArray
 rheap:∀{C:Nat->Prop} {w w' r x},R C w r x->(∀y,y<w.heap.size->C y->w'.heap[y]?=w.heap[y]?)->R C w' r x
 rsub:∀{C C':Nat->Prop} {w r x},R C w r x->(∀y,y<w.heap.size->C y->C' y)->R C' w r x
 zlen:zE.length=E
 zone:∀u∈zE,u.oneCell'=true
 elP:DU prog tps tp (E+6) pb
 elE:DU prog ts te E eb
 field0:∀(r t:List Value) (w:World),r.length=E->(∀u∈r,u.oneCell'=true)->t.length=5->(Instr.field tn (.agg (r++t).toArray) 0).run prog w=.ok (toAvK.enc r) w
 ok:ZZ toAvK
 cutμ:∀x p,0<p->p<(k.μ x).1->(k.μ (k.cut x p).1).1=p/\(k.μ (k.cut x p).2).1=(k.μ x).1-p/\(k.μ (k.cut x p).1).2+(k.μ (k.cut x p).2).2=(k.μ x).2
 meldμ:∀x y z,k.meld x y=some z->(k.μ z).1=(k.μ x).1+(k.μ y).1/\(k.μ z).2=(k.μ x).2+(k.μ y).2
 meas:∀{C w r x},R C w r x->BM prog Dh vm [toAvK.enc r] (fun v w'=>v=.tuple #[.int .i64 (k.μ x).1,.int .i64 (k.μ x).2]/\Grow w w') w
theorem AvT.BZ(g:AvT α){r:List Value}{x:α}(h:g.R C w r x)(hm:Mod M w w')(j:∀y,y<w.heap.size->C y->¬M y):g.R C w' r x:=g.rheap h fun y i hC=>hm.same y i (j y i hC)
def BY{α:Type}(n:Nd α):List Value:=[.int .i64 n.l,.int .i64 n.r,.int .i64 n.h,.int .i64 n.s,.int .i64 n.m]
variable {α:Type}{g:AvT α}
def Ot(g:AvT α)(C:Nat->Prop):World->List Value->Option (Nd α)->Prop:=fun w r o=>match o with
 |some n=>∃x,r=x++(BY n++[.bool true])/\g.R C w x n.x
 |none=>∃q,r=q++[.bool false]/\q.length=g.E+5/\∀u∈q,u.oneCell'=true
theorem HE(n:Nd α):∀u∈BY n,u.oneCell'=true:=by
 intro u hu;simp only[BY,I3,kV,mI] at hu;rcases hu with rfl|rfl|rfl|rfl|rfl<;>rfl
theorem Ot.one{r:List Value}{o:Option (Nd α)}(h:Ot g C w r o):∀u∈r,u.oneCell'=true:=by
 cases o with
 |none=>
  obtain⟨q,rfl,_,i⟩:=h;intro u hu;rcases DN.1 hu with hu|hu
  .exact i u hu
  .simp at hu;subst hu;rfl
 |some n=>
  obtain⟨x,rfl,j⟩:=h;intro u hu;rcases DN.1 hu with hu|hu
  .exact g.rone j u hu
  .rcases DN.1 hu with hu|hu
   .exact HE n u hu
   .simp at hu;subst hu;rfl
theorem Ot.mod{r:List Value}{o:Option (Nd α)}(h:Ot g C w r o)(hm:Mod M w w')(hC:∀b,b<w.heap.size->C b->¬M b):Ot g C w' r o:=by
 cases o with
 |none=>exact h
 |some n=>obtain⟨x,rfl,i⟩:=h;exact⟨x,rfl,g.BZ i hm hC⟩
theorem Ot.sub{C i:Nat->Prop}{r:List Value}{o:Option (Nd α)}(h:Ot g C w r o)(hC:∀b,b<w.heap.size->C b->i b):Ot g i w r o:=by
 cases o with
 |none=>exact h
 |some n=>obtain⟨x,rfl,j⟩:=h;exact⟨x,rfl,g.rsub j hC⟩
structure Ii (g:AvT α) (F C:Nat->Prop) (W:World) (c:Nat) (A:ArS α) (pl fr:Value):Prop where
 cells:∀j v,[pl,fr][j]?=some v->W.cell? ⟨c,j,none⟩=some v
 live:∀j,j<2->Live W ⟨c,j,none⟩
 GR:AE 0 g.tp (g.E+6) (Ot g C) W pl A.ps
 KE:AE 0 3 1 MH W fr (A.fr.map fun i:Nat=>(i:Int))
 ok:A.Ok
 fc:F c
 pF:∀x,pl.ownBlock=some x->F x/\x≠c
 fF:∀x,fr.ownBlock=some x->F x/\x≠c/\pl.ownBlock≠some x
 Is:∀x,F x->¬C x
 lt:∀x,F x\/C x->x<W.heap.size
theorem Ii.mod{A:ArS α}{pl fr:Value}(h:Ii g F C W c A pl fr)(hm:Mod M W W')(o:∀x,F x\/C x->¬M x):Ii g F C W' c A pl fr:=
 ⟨fun j v B=>hm.cell (h.cells j v B) (o c (.inl h.fc)),fun j E=>(h.live j E).mod hm (o c (.inl h.fc)),AE.mod h.GR hm (fun x i=>o x (.inl (h.pF x i).1)) fun r x _ i=>i.mod hm fun y _ I=>o y (.inr I),
  AE.mod h.KE hm (fun x i=>o x (.inl (h.fF x i).1)) fun _ _ _ h=>h,h.ok,h.fc,h.pF,h.fF,h.Is,fun x i=>WL (h.lt x i) hm.size⟩
theorem Ii.grow{A:ArS α}{pl fr:Value}(h:Ii g F C W c A pl fr)(hm:Grow W W'):Ii g F C W' c A pl fr:=h.mod hm fun _ _ h=>h
theorem Ii.sub{F C j:Nat->Prop}{A:ArS α}{pl fr:Value}(h:Ii g F C W c A pl fr)(hC:∀x,C x->j x)(B:∀x,F x->¬j x)(o:∀x,j x->x<W.heap.size):Ii g F j W c A pl fr:=
 ⟨h.cells,h.live,AE.mod h.GR (Mod.refl (fun _=>False) _) (fun _ _ h=>h) fun r x _ i=>i.sub fun y _ E=>hC y E,h.KE,h.ok,h.fc,h.pF,h.fF,B,fun x i=>i.elim (fun i=>h.lt x (.inl i)) (o x)⟩
theorem Ii.JB{c x:Nat}{A:ArS α}{pl fr:Value}{ps:List (Option (Nd α))}(h:Ii g F C W c A pl fr)(B:pl.ownBlock=some x)(hm:Mod (fun y=>y=x) W W')(hp:AE 0 g.tp (g.E+6) (Ot g C) W' pl ps)(i:ArS.Ok ⟨ps,A.fr⟩):Ii g F C W' c ⟨ps,A.fr⟩ pl fr:=by
 obtain⟨Q,I⟩:=h.pF x B;exact⟨fun j v J=>hm.cell (h.cells j v J) fun e=>I e.symm,fun j O=>(h.live j O).mod hm fun e=>I e.symm,hp,AE.mod h.KE hm (fun y o e=>(h.fF y o).2.2 (by rw[B,e])) fun _ _ _ h=>h,i,h.fc,h.pF,h.fF,h.Is,fun y o=>WL (h.lt y o) hm.size⟩
theorem ME{A:ArS α}{pl fr:Value}{n:Nd α}(h:Ii g F C W c A pl fr)(hi:A.f i=some n) :
  AB prog g.aasked [.pointer (some ⟨c,0,none⟩),.int .i64 i] (fun v' w'=>v'=.int .i64 0/\w'=W) W:=by
 apply g.ok.asked;unfold Sj;obtain⟨o,hp⟩:=ArS.Ir hi;have J:=(Bp.1 hp).2;obtain⟨S,T,j,_⟩:=h.GR.sl.shape;have B:=h.GR.sl;rw[j] at B;obtain⟨q,r,rfl,_,hr,hc,I⟩:=B.get o;rw[J] at I;obtain⟨x,rfl,Q⟩:=I;refine DS (AV ?_);rw[Ap];refine AF (fun e=>by omega) fun _=>?_;refine AI ?_;refine Bt (h.cells 0 _ rfl) ?_;rw[j,AP,DX];refine AF (fun e=>by omega) fun _=>?_;refine AI ?_;refine Bt (h.cells 0 _ rfl) ?_;rw[j];refine AU o ?_;rw[AG,Addr.add_add];refine AK (v:=.bool true) (hc (g.E+5) _ ?_) ?_
 .have O:=g.rlen Q;rw[kH (by omega),O,show g.E+5-g.E=5 by omega];rfl
 rw[Ar];exact AV ⟨rfl,rfl⟩
theorem SJ{A:ArS α}{pl fr:Value}{n:Nd α}(h:Ii g F C W c A pl fr)(hi:A.f i=some n) :
  AB prog g.aAt [.pointer (some ⟨c,0,none⟩),.int .i64 i] (fun v' w'=>∃r,v'=.tuple #[.agg (r++BY n).toArray,.int .i64 0]/\g.R C w' r n.x/\Grow W w'/\∃p m k,pl=.slice (some p) m k/\∀u,r[0]?=some u->W.cell? (p.add (i*(g.E+6)))=some u) W:=by
 apply g.ok.aat;unfold iP;have V:g.toAvK.zN.length=g.E+5:=by rw[AvK.zN,Bq,g.zlen];rfl
 refine Dc fun b4 w1 a6 a7 U _ X=>?_;have h1:=h.grow U;refine AA (ME h1 hi) ?_;rintro _ _ ⟨rfl,rfl⟩;rename World=>w1
 refine Qn ?_;obtain⟨B,hp⟩:=ArS.Ir hi;have Y:=(Bp.1 hp).2;obtain⟨pa,pc,I,_⟩:=h.GR.sl.shape;have J:=h.GR.sl;rw[I] at J;obtain⟨q,r,rfl,_,hr,O,Q⟩:=J.get B;rw[Y] at Q;obtain⟨x,rfl,Z⟩:=Q;have hx:=g.BZ Z U fun _ _ _ h=>h;have hc:=fun j u hu=>U.cell (O j u hu) fun h=>h;have S:=g.rlen hx;refine AI ?_;refine Bt (h1.cells 0 _ rfl) ?_;rw[I];refine AU B ?_;rw[AG,Addr.add_add];have T:∀u∈x++BY n,u.oneCell'=true:=fun u hu=>by
  rcases DN.1 hu with hu|hu
  .exact g.rone hx u hu
  .exact HE n u hu
 have o:(x++BY n).length=g.E+5:=by rw[Bq,S];rfl
 refine Aj (vs:=x++BY n) o (fun j u hu=>?_) ?_
 .rw[Addr.add_add,kg];refine hc j u ?_;rw[<-PF,Q0 (Bp.1 hu).1];exact hu
 refine CF o T (fun j hj=>X j (by rw[V];exact hj)) fun w2 m2 a1 _=>?_;refine Aj o a1 ?_;have g2:Grow W w2:=U.next m2 fun y hy e=>by omega
 refine⟨x,rfl,g.BZ hx m2 fun y _ hy e=>by subst e;have:=h.lt y (.inr hy);omega,g2,q,_,_,rfl,fun u hu=>?_⟩;have:=O 0 u (by rw[Q0 (by rw[S];exact g.Epos)];exact hu);rwa [kg] at this
theorem fi{A:ArS α}{pl fr:Value}{n:Nd α}(h:Ii g F C W c A pl fr)(hi:A.f i=some n) :
  AB prog g.aAt [.pointer (some ⟨c,0,none⟩),.int .i64 i] (fun v' w'=>∃r,v'=.tuple #[.agg (r++BY n).toArray,.int .i64 0]/\g.R C w' r n.x/\Grow W w') W:=
 AA (SJ h hi) fun _ _ ⟨r,h1,j,o,_⟩=>⟨r,h1,j,o⟩
theorem Su{A:ArS α}{pl fr:Value}{n m:Nd α}{r:List Value}(h:Ii g F C W c A pl fr)(hi:A.f i=some m)(hr:g.R C W r n.x) :
  AB prog g.aPut [.pointer (some ⟨c,0,none⟩),.int .i64 i,.agg (r++BY n).toArray] (fun v' w'=>Ii g F C w' c (A.put i n) pl fr/\Mod (fun x=>pl.ownBlock=some x) W w') W:=by
 apply g.ok.put;unfold bR;have X:=g.rlen hr;have o:(r++BY n).length=g.E+5:=by rw[Bq,X];rfl
 have Q:∀u∈r++BY n,u.oneCell'=true:=fun u hu=>by
  rcases DN.1 hu with hu|hu
  .exact g.rone hr u hu
  .exact HE n u hu
 refine Dq fun b5 Y a8 ak Z a1 _=>?_;have h1:=h.grow Z;refine AA (ME h1 hi) ?_;rintro _ _ ⟨rfl,rfl⟩;rename World=>Y
 refine Qn ?_;obtain⟨J,hp⟩:=ArS.Ir hi;have V:Grow Y Y.drew:=Mod.drew _ _;have S:=h1.grow V;obtain⟨pa,pc,B,_⟩:=S.GR.sl.shape;have I:=S.GR;rw[B] at I;obtain⟨q,_,rfl,hq,_,_,_⟩:=I.sl.get J;have O:pl.ownBlock=some q.block:=by rw[B];exact hq.2
 have hF:=h.pF _ O;refine Ai (fun k y=>k=8/\y=q.block) ?_;refine AI ?_;rw[AG,AH];refine AY ⟨S.cells 0 _ rfl,fun j hj e=>hF.2 e.2.symm⟩ ?_;have nb:∀j,¬((⟨b5,0,none⟩:Addr).add j).block=q.block:=fun j e=>by
  rw[BO] at e;have:=h.lt _ (.inl hF.1);simp only at e;omega
 refine CU o (fun j v hv=>⟨V.cell (a1 j v hv) fun h=>h,fun k _ e=>nb j e.2⟩) ?_;rw[B];refine AU J ?_;rw[AG,Addr.add_add];have T:∀y,C y->¬y=q.block:=fun y hy e=>h.Is _ hF.1 (e▸hy);refine AE.OF (R':=Ot g C) (x':=some n) I J o (by omega) Q (fun w' r y hm _ hy=>hy.mod hm fun z _ hz=>T z hz) (fun w' r' hm U al an=>?_) fun w2 ho hm=>?_
 .have a6:=(Bp.1 hp).2;rw[a6] at U;obtain⟨x',rfl,a7⟩:=U;refine⟨r,?_,g.BZ (g.BZ (g.BZ hr Z fun _ _ _ h=>h) V fun _ _ _ h=>h) hm fun z _ hz=>T z hz⟩;rw[<-PF,Hp (by rw[o,Bq,g.rlen a7];rfl),PF]
 .refine⟨hm.mono fun x _ e=>⟨rfl,e⟩,?_⟩;rw[<-B];have hA:=S.JB O hm (by rw[B];exact ho) (ArS.dL (n:=n) hi S.ok);exact⟨hA,(Z.trans V).mono (fun _ _ h=>h.elim) |>.trans (hm.mono fun x _ e=>by rw[e];exact O)⟩
theorem Ii.ig{F F' C S:Nat->Prop}{A:ArS α}{pl fr I:Value}{ps:List (Option (Nd α))}{K:World->Prop}(h:Ii g F C W c A pl fr)(hm:Mod S W W')(J:∀x,S x->pl.ownBlock=some x)(T:∀x,F x->F' x)(O:∀x,F' x->F x\/W.heap.size<=x/\x<W'.heap.size)
 (U:AE 0 g.tp (g.E+6) (Ot g C) W' I ps)(V:∀x,I.ownBlock=some x->pl.ownBlock=some x\/W.heap.size<=x/\F' x)(X:ArS.Ok ⟨ps,A.fr⟩)
 (hK:∀o,Ii g F' C o c ⟨ps,A.fr⟩ I fr->Mod (fun x=>x=c) W' o->K o):BC (.pointer (some ⟨c,0,none⟩)) I K W':=by
 have Q:¬S c:=fun e=>(h.pF c (J c e)).2 rfl;have a1:∀x,C x->¬S x:=fun x i e=>h.Is x (h.pF x (J x e)).1 i;have a6:=h.lt c (.inl h.fc);have Y:∀x,x<W'.heap.size->C x->¬x=c:=fun x _ i e=>h.Is c h.fc (e▸i);refine Fm (vs:=[pl,fr]) (fun j v hv=>hm.cell (h.cells j v hv) Q) (fun j hj=>(h.live j hj).mod hm Q) (q:=0) (show 0<2 by decide) U.one.1 U.one.2 fun o B hc hl=>?_;have Z:=AE.BA h.KE;refine hK o ⟨hc,hl,AE.mod U B (fun x i e=>?_) (fun r x _ i=>i.mod B Y),AE.mod (AE.mod (R':=MH) h.KE hm (fun x i e=>(h.fF x i).2.2 (J x e)) fun _ _ _ h=>h) B (fun x i=>(h.fF x i).2.1) fun _ _ _ h=>h,X,T c h.fc,fun x i=>?_,fun x i=>⟨T x (h.fF x i).1,(h.fF x i).2.1,fun e=>?_⟩,fun x i hC=>?_,fun x i=>?_⟩ B
 .subst e;rcases V x i with e|e
  .exact(h.pF x e).2 rfl
  .omega
 .rcases V x i with e|e
  .exact⟨T x (h.pF x e).1,(h.pF x e).2⟩
  .exact⟨e.2,by omega⟩
 .rcases V x e with e|e
  .exact(h.fF x i).2.2 e
  .have:=(Z x i).2;omega
 .rcases O x i with e|e
  .exact h.Is x e hC
  .have:=h.lt x (.inr hC);omega
 .have z1:=hm.size;have z2:=B.size;rcases i with i|i
  .rcases O x i with e|e
   .have:=h.lt x (.inl e);omega
   .omega
  .have:=h.lt x (.inr i);omega
theorem Ii.gN{F F' C Mf:Nat->Prop}{A:ArS α}{pl fr I:Value}{fl:List Nat}{K:World->Prop}(h:Ii g F C W c A pl fr)(hm:Mod Mf W W')(J:∀x,Mf x->fr.ownBlock=some x)(S:∀x,F x->F' x)(O:∀x,F' x->F x\/W.heap.size<=x/\x<W'.heap.size)
 (T:AE 0 3 1 MH W' I (fl.map fun i:Nat=>(i:Int)))(Z:∀x,I.ownBlock=some x->fr.ownBlock=some x\/W.heap.size<=x/\F' x)(U:ArS.Ok ⟨A.ps,fl⟩)
 (hK:∀B,Ii g F' C B c ⟨A.ps,fl⟩ pl I->Mod (fun x=>x=c) W' B->K B):BC (.pointer (some ⟨c,1,none⟩)) I K W':=by
 have Q:¬Mf c:=fun e=>(h.fF c (J c e)).2.1 rfl;have V:∀x,C x->¬Mf x:=fun x o e=>h.Is x (h.fF x (J x e)).1 o;have a1:=h.lt c (.inl h.fc);have X:∀x,x<W'.heap.size->C x->¬x=c:=fun x _ o e=>h.Is c h.fc (e▸o);refine Fm (vs:=[pl,fr]) (fun j v hv=>hm.cell (h.cells j v hv) Q) (fun j hj=>(h.live j hj).mod hm Q) (q:=1) (show 1<2 by decide) T.one.1 T.one.2 fun B E hc hl=>?_;have Y:=AE.BA h.GR;refine hK B ⟨hc,hl,AE.mod (AE.mod (R':=Ot g C) h.GR hm (fun x o e=>(h.fF x (J x e)).2.2 o) fun r x _ o=>o.mod hm fun y _ hy=>V y hy) E (fun x o=>(h.pF x o).2) (fun r x _ o=>o.mod E X),AE.mod T E (fun x o e=>?_) fun _ _ _ h=>h,U,S c h.fc,fun x o=>⟨S x (h.pF x o).1,(h.pF x o).2⟩,fun x o=>?_,fun x o hC=>?_,fun x o=>?_⟩ E
 .subst e;rcases Z x o with e|e
  .exact(h.fF x e).2.1 rfl
  .omega
 .rcases Z x o with e|e
  .exact⟨S x (h.fF x e).1,(h.fF x e).2⟩
  .exact⟨e.2,by omega,fun e2=>by have:=(Y x e2).2;omega⟩
 .rcases O x o with e|e
  .exact h.Is x e hC
  .have:=h.lt x (.inr hC);omega
 .have z1:=hm.size;have z2:=E.size;rcases o with o|o
  .rcases O x o with e|e
   .have:=h.lt x (.inl e);omega
   .omega
  .have:=h.lt x (.inr o);omega
def MF(g:AvT α)(F C:Nat->Prop)(W w':World)(c:Nat)(A:ArS α):Prop:=∃F' pl fr,(∀x,F x->F' x)/\(∀x,F' x->F x\/W.heap.size<=x)/\Ii g F' C w' c A pl fr/\Mod F W w'
theorem XH{A:ArS α}{pl fr:Value}{n:Nd α}(h:Ii g F C W c A pl fr)(hi:A.f i=some n)(hs:A.ps.length<=109951162777) :
  AB prog g.aFree [.pointer (some ⟨c,0,none⟩),.int .i64 i] (fun v' w'=>MF g F C W w' c (A.free i)) W:=by
 apply g.ok.free;unfold Vd;refine AA (ME h hi) ?_;rintro _ _ ⟨rfl,rfl⟩;rename World=>W
 refine Qn ?_;obtain⟨Q,hp⟩:=ArS.Ir hi;obtain⟨pa,pc,B,_⟩:=h.GR.sl.shape;have o:=h.GR;rw[B] at o;obtain⟨q,_,rfl,hq,_,_,_⟩:=o.sl.get Q;have T:pl.ownBlock=some q.block:=by rw[B];exact hq.2
 have hF:=h.pF _ T;refine AI ?_;refine Bt (h.cells 0 _ rfl) ?_;refine⟨g.toAvK.zP.toArray,FR,?_⟩;have U:g.toAvK.zP.length=g.E+6:=by rw[AvK.zP,Bq,g.zlen];rfl
 have V:g.toAvK.zP=(g.zE++[.int .i64 0,.int .i64 0,.int .i64 0,.int .i64 0,.int .i64 0])++[.bool false]:=by rw[AvK.zP];simp
 have X:∀u∈g.zE++[.int .i64 0,.int .i64 0,.int .i64 0,.int .i64 0,.int .i64 0],u.oneCell'=true:=fun u hu=>by
  rcases DN.1 hu with hu|hu
  .exact g.zone u hu
  .simp at hu;subst hu;rfl
 have a6:∀u∈g.toAvK.zP,u.oneCell'=true:=fun u hu=>by
  rw[V] at hu;rcases DN.1 hu with hu|hu
  .exact X u hu
  .simp at hu;subst hu;rfl
 rw[B];refine AU Q ?_;have a7:∀y,C y->¬y=q.block:=fun y hy e=>h.Is _ hF.1 (e▸hy);have key:=AE.OF (R':=Ot g C) (x':=(none:Option (Nd α))) (p:=0) (vs:=g.toAvK.zP) (K:=fun w3=>AJ (.pointer (some ⟨c,0,none⟩)) fun a8=>AM 1 a8 fun t22=>AL t22 (fun ak w4=>Bg 3 1 1 [(.int .i64 0)] [(0,.int .i64 (i:Int))] (fun t25 w5=>runK prog (Builtin.append_ #[145,145] 145 [ak,t25].toArray) (fun al w6=>AJ (.pointer (some ⟨c,0,none⟩)) fun an=>AM 1 an fun av=>BC av al (fun w7=>(fun(v':Value) w'=>MF g F C W w' c (A.free i)) (.int .i64 0) w7) w6) w5) w4) w3) o Q U (by omega) a6 (fun w' r y hm _ hy=>hy.mod hm fun z _ hz=>a7 z hz) (fun w' r' hm b4 ax b5=>?_) fun w2 ho hm=>?_
 .rw[kg] at key;exact key
 .rw[LI (by rw[U,ax])];exact⟨_,V,by rw[Bq,g.zlen];rfl,X⟩
 have b6:i∉A.fr:=fun e=>by have:=h.ok.1 i e;rw[this] at hp;cases hp
 have O:=ArS.aC hi h.ok;have b7:A.fr.length<=A.ps.length:=by
  have:A.fr ⊆ List.range A.ps.length:=fun x I=>ly.2 (Bp.1 (h.ok.1 x I)).1;have:=Ig h.ok.2 this;simpa using this
 have Y:ArS.Ok ⟨A.ps.set i none,A.fr⟩:=⟨fun j hj=>O.1 j (i7 _ hj),h.ok.2⟩;have h2:=h.JB T hm (by rw[B];exact ho) Y;refine AI ?_;refine Bt (h2.cells 1 _ rfl) ?_;refine Dr PO h2.KE (Nn _) (cs:=[.int .i64 i]) (x:=(i:Int)) (by kernel_rfl) rfl rfl (fun _ _ _=>MH.one) (fun _ _ _ _ _ _ h=>h) (by rw[Es];dsimp only;omega) (by rw[Es];simp only[maxLen];omega) fun b8 w7 J Z ay=>?_;refine AI ?_;rw[AG,AH];have S:(A.fr.map fun i:Nat=>(i:Int))++[(i:Int)]=(A.fr++[i]).map fun i:Nat=>(i:Int):=by simp
 dsimp only at J;rw [S] at J;have a1:=AE.BA J;have z2:=hm.size;refine Ii.gN (F':=fun x=>F x\/w2.heap.size<=x/\x < w7.heap.size) h2 Z (fun _ h=>h) (fun _ h=>.inl h) (fun _ h=>h) J (fun x I=>by
  rcases ay x I with e|e
  .exact .inl e
  .exact .inr ⟨e,.inr ⟨e,(a1 x I).2⟩⟩) O fun w8 b0 b3=>⟨_,_,_,fun _ h=>.inl h,fun x I=>?_,b0,?_⟩
 .rcases I with I|I
  .exact .inl I
  .exact .inr (by omega)
 .exact((hm.mono fun x _ e=>by rw[e];exact hF.1).trans (Z.mono fun x _ e=>(h2.fF x e).1)).trans (b3.mono fun x _ e=>by rw[e];exact h.fc)
theorem YL(hC:∀x,C x->x<W.heap.size) :
  AB prog g.aNew [] (fun v' w'=>v'=.pointer (some ⟨W.heap.size,0,none⟩)/\w'.heap.size=W.heap.size+1/\Grow W w'/\Ii g (fun x=>x=W.heap.size) C w' W.heap.size (ArS.z:ArS α) (.slice none 0 0) (.slice none 0 0)) W:=by
 apply g.ok.anew;unfold bj;refine⟨[.slice none 0 0,.slice none 0 0].toArray,FR,?_⟩;refine Dq fun b J hb o B hc hl=>?_;subst hb;refine⟨rfl,o,B,⟨fun j v E=>by have:=hc j v E;rwa [AH] at this,fun j I=>by have:=hl j I;rwa [AH] at this,AE.nil,AE.nil,ArS.ie,rfl,(fun _ h=>nomatch h),(fun _ h=>nomatch h),fun x i h=>?_,fun x i=>?_⟩⟩
 .have:=hC x h;omega
 .rcases i with i|i
  .omega
  .have:=hC x i;omega
theorem Xq{A:ArS α}{pl fr:Value}{n:Nd α}{r:List Value}(h:Ii g F C W c A pl fr)(hr:g.R C W r n.x)(hs:A.ps.length<=109951162777) :
  AB prog g.aTake [.pointer (some ⟨c,0,none⟩),.agg (r++BY n).toArray] (fun v' w'=>v'=.int .i64 A.num/\MF g F C W w' c (A.take n)) W:=by
 apply g.ok.take;unfold VI;have bc:=g.rlen hr;have o:(r++BY n).length=g.E+5:=by rw[Bq,bc];rfl
 have ax:∀u∈r++BY n,u.oneCell'=true:=fun u hu=>by
  rcases DN.1 hu with hu|hu
  .exact g.rone hr u hu
  .exact HE n u hu
 have bd:g.toAvK.zP.length=g.E+6:=by rw[AvK.zP,Bq,g.zlen];rfl
 have Q:Instr.fill (fun i=>[(0,g.E+5),(g.E+5,1)][i]?) g.toAvK.zP.toArray [(0,.agg (r++BY n).toArray),(1,.bool true)]=some (r++(BY n++[Value.bool true])).toArray:=by
  have bk:g.toAvK.zP=(g.zE++[Value.int .i64 0,Value.int .i64 0,Value.int .i64 0,Value.int .i64 0,Value.int .i64 0])++[Value.bool false]:=by rw[AvK.zP];simp
  have bl:(g.zE++[Value.int .i64 0,Value.int .i64 0,Value.int .i64 0,Value.int .i64 0,Value.int .i64 0]).length=g.E+5:=by rw[Bq,g.zlen];rfl
  rw[DB (l:=g.toAvK.zP) (vs:=r++BY n) (off:=0) (len:=g.E+5) rfl rfl o (by omega),bk,Hp (by rw[o,bl])];rw[DB (l:=r++BY n++[Value.bool false]) (off:=g.E+5) (len:=1) (vs:=[Value.bool true]) rfl rfl rfl (by rw[Bq,o];exact Lc _)];have:=Zl (q:=r++BY n) (r:=[Value.bool false]) (t:=[]) (vs:=[Value.bool true]) o rfl;rw[kG,kG] at this;rw[this,FR,PF]
 have I:(r++(BY n++[Value.bool true])).length=g.E+6:=by rw[<-PF,Bq,o];rfl
 have a7:∀u∈r++(BY n++[Value.bool true]),u.oneCell'=true:=fun u hu=>by
  rw[<-PF] at hu;rcases DN.1 hu with hu|hu
  .exact ax u hu
  .simp at hu;subst hu;rfl
 refine Dq fun b3 w1 cd ch g3 ay _=>?_;have h1:=h.grow g3;have b0:=g.BZ hr g3 fun _ _ _ h=>h;obtain⟨_,cc,J⟩:=ArS.Ra n h.ok;have cn:A.fr.length<=A.ps.length:=by
  have:A.fr ⊆ List.range A.ps.length:=fun x O=>ly.2 (Bp.1 (h.ok.1 x O)).1;have:=Ig h.ok.2 this;simpa using this
 refine DS (AV ?_);refine AI ?_;refine Bt (h1.cells 1 _ rfl) ?_;obtain⟨fa,fc,S,a8,_,bn,bp⟩:=h1.KE.shape;rw[Es] at a8;rw[S,AP,Av,Es,wrap64 (by omega) (by omega),DX];have nF:∀j x,F x->¬((⟨b3,0,none⟩:Addr).add j).block=x:=fun j x O e=>by
  rw[BO] at e;have:=h.lt x (.inl O);simp only at e;omega
 refine AF (fun cv=>?_) fun cx=>?_
 .have b4:0<A.fr.length:=by omega
  have ak:A.fr≠[]:=lT.1 b4;obtain⟨i,hl⟩:∃i,A.fr.getLast?=some i:=⟨_,lj ak⟩;have T:A.num=i:=by unfold ArS.num;rw[hl]
  have B:A.take n=⟨A.ps.set i (some n),A.fr.dropLast⟩:=by unfold ArS.take;rw[hl]
  cases fa with
  |none=>have:=bp rfl;rw[nL] at this;exact absurd this ak
  |some q=>
   obtain⟨gb,rfl,_,_,dk⟩:=bn q rfl;have b5:=h1.KE.sl;have a1:=h1.KE;rw[S,Es] at b5 a1;refine AI ?_;refine Bt (h1.cells 1 _ rfl) ?_;rw[S,Es];have hj:A.fr.length-1<(A.fr.map fun i:Nat=>(i:Int)).length:=by rw[Es];omega
   obtain⟨_,r',e1,_,al,hc,rfl⟩:=b5.get hj;cases e1;have ev:(A.fr.map fun i:Nat=>(i:Int))[A.fr.length-1]=(i:Int):=by
    rw[lV];rw[lj ak,p5] at hl;rw[kK hl]
   rw[ev] at hc;have en:((A.fr.length:Int)-1)=((A.fr.length-1:Nat):Int):=by omega
   rw[en];refine AU (show A.fr.length-1<A.fr.length by omega) (AK (hc 0 _ rfl) ?_);refine AI ?_;refine Bt (h1.cells 1 _ rfl) ?_;rw[S,Es];refine Ag (Fj (e:=3) (k:=1) (i:=Tryz.t3) (by kernel_rfl) (by kernel_rfl) (by kernel_rfl) (by omega) w1) ?_;refine AI ?_;rw[AG,AH];have ht:=AE.take a1 (j:=A.fr.length-1) (by rw[Es];omega);have ed:(A.fr.map fun i:Nat=>(i:Int)).take (A.fr.length-1)=A.fr.dropLast.map fun i:Nat=>(i:Int):=by rw[nh,lK]
   rw[ed] at ht;have bs:ArS.Ok ⟨A.ps,A.fr.dropLast⟩:=⟨fun j hj=>h.ok.1 j ((oq _).mem hj),h.ok.2.sublist (oq _)⟩;refine Ii.gN (F':=F) (fl:=A.fr.dropLast) (Mf:=fun _=>False) h1 (Mod.refl _ _) (fun _ h=>h.elim) (fun _ h=>h) (fun _ h=>.inl h) ht (fun x O=>.inl ?_) bs fun w2 bx an=>?_
   .rw[S];exact O
   have c4:A.ps[i]?=some none:=h.ok.1 i (mD hl);have U:=(Bp.1 c4).1;have X:Grow w2 w2.drew:=Mod.drew _ _;have Y:=bx.grow X;obtain⟨pa,pc,Z,_⟩:=Y.GR.sl.shape;have V:=Y.GR;rw[Z] at V;obtain⟨q,_,rfl,hq,_,_,_⟩:=V.sl.get U;have a6:pl.ownBlock=some q.block:=by rw[Z];exact hq.2
   have hF:=h.pF _ a6;refine Ai (fun k y=>k=8/\y=q.block) ?_;refine AI ?_;rw[AG,AH];refine AY ⟨Y.cells 0 _ rfl,fun j hj e=>hF.2 e.2.symm⟩ ?_;refine CU o (fun j v hv=>⟨X.cell (an.cell (ay j v hv) fun e=>nF j c h.fc e) fun h=>h,fun k _ e=>nF j _ hF.1 e.2⟩) ?_;refine⟨_,Q,?_⟩;rw[Z];refine AU U ?_;have b6:∀y,C y->¬y=q.block:=fun y hy e=>h.Is _ hF.1 (e▸hy);have av:=g.BZ (g.BZ b0 an fun y _ hy e=>h.Is c h.fc (e▸hy)) X fun _ _ _ h=>h;have key:=AE.OF (R':=Ot g C) (x':=some n) (p:=0) (vs:=r++(BY n++[Value.bool true])) (K:=fun w8=>Mod (fun y=>8=8/\y=q.block) w2.drew w8/\(Value.int .i64 (i:Int)=.int .i64 A.num/\MF g F C W w8 c (A.take n))) V U I (by omega) a7 (fun w' r y hm _ hy=>hy.mod hm fun z _ hz=>b6 z hz) (fun w' r' hm al c6 dv=>?_) fun w3 ho hm=>?_
   .rw[kg] at key;exact key
   .rw[LI (by rw[I,c6])];exact⟨r,rfl,g.BZ av hm fun z _ hz=>b6 z hz⟩
   .rw[T,B];rw[B] at J;have c7:=Y.JB a6 hm (by rw[Z];exact ho) J;refine⟨hm.mono fun x _ e=>⟨rfl,e⟩,rfl,F,pl,_,fun _ h=>h,fun _ h=>.inl h,c7,?_⟩;exact(((g3.mono fun _ _ h=>h.elim).trans (an.mono fun x _ e=>by rw[e];exact h.fc)).trans (X.mono fun _ _ h=>h.elim)).trans (hm.mono fun x _ e=>by rw[e];exact hF.1)
 .have b7:A.fr=[]:=QC (by omega);have T:A.num=A.ps.length:=by unfold ArS.num;rw[b7];rfl
  have B:A.take n=⟨A.ps++[some n],A.fr⟩:=by unfold ArS.take;rw[b7];rfl
  rw[B] at J;have X:Grow w1 w1.drew:=Mod.drew _ _;have Y:=h1.grow X;have av:=g.BZ b0 X fun _ _ _ h=>h;refine Ai (fun k y=>(k=8/\pl.ownBlock=some y)\/(k=11/\y=c)) ?_;have nM:∀k x,F x->x≠c->pl.ownBlock≠some x->¬((k=8/\pl.ownBlock=some x)\/(k=11/\x=c)):=fun k x _ h1 h2 e=>by
   rcases e with⟨_,e⟩|⟨_,e⟩
   .exact h2 e
   .exact h1 e
  have c8:∀j k,¬((k=8/\pl.ownBlock=some ((⟨b3,0,none⟩:Addr).add j).block)\/(k=11/\((⟨b3,0,none⟩:Addr).add j).block=c)):=fun j k e=>by
   rcases e with⟨_,e⟩|⟨_,e⟩
   .exact nF j _ (h.pF _ e).1 rfl
   .exact nF j _ h.fc e
  refine AI ?_;rw[AG,AH];refine AY ⟨Y.cells 0 _ rfl,fun j hj e=>?_⟩ ?_
  .rcases e with⟨_,e⟩|⟨rfl,_⟩
   .exact(h.pF _ e).2 rfl
   .exact absurd hj (by decide)
  refine CU o (fun j v hv=>⟨X.cell (ay j v hv) fun h=>h,fun k _ e=>c8 j k e⟩) ?_;refine⟨_,Q,?_⟩;have b8:=DW (v:=.agg (r++(BY n++[Value.bool true])).toArray) (vs:=r++(BY n++[Value.bool true])) bd (by omega) rfl I;have c9:=g.pb_le;refine LF g.elP Y.GR (Nn _) (cs:=r++(BY n++[Value.bool true])) (x:=some n) b8 I ⟨r,rfl,av⟩ (fun _ _ _=>Ot.one) (fun dT e3 r' y e4 hm al=>al.mod hm fun x O hC e=>?_) ?_ (by simp only[maxLen];omega) (fun _ g=>Grow.mod g) fun w2 ca w3 ho m2 hm hn=>?_
  .rcases e with e|e
   .exact h.Is x (h.pF x e).1 hC
   .have:=Y.lt x (.inr hC);omega
  .have:(A.ps.length+1)*g.pb<=(A.ps.length+1)*512:=nN _ c9;omega
  refine ⟨m2.mono fun x _ e=>.inl ⟨rfl,e⟩,?_⟩;refine AI ?_;rw [AG,AH];have b9:=AE.BA ho;refine Ii.ig (F':=fun x=>F x\/w1.drew.heap.size<=x/\x < w3.heap.size) Y hm (fun _ h=>h) (fun _ h=>.inl h) (fun _ h=>h) ho (fun x O=>by
   rcases hn x O with e|e
   .exact .inl e
   .exact .inr ⟨e,.inr ⟨e,(b9 x O).2⟩⟩) J fun w4 ba bb=>?_
  refine⟨bb.mono fun x _ e=>.inr ⟨rfl,e⟩,?_⟩;refine AI ?_;refine Bt (ba.cells 0 _ rfl) ?_;obtain⟨a2,c2,e2,_⟩:=ho.sl.shape;rw[e2,AP,Av,Bq,mu,wrap64 (by omega) (by omega)];have zd:w1.heap.size<=w1.drew.heap.size:=X.size;refine⟨by rw[T];congr 1;omega,fun x=>F x\/w1.drew.heap.size<=x/\x<w3.heap.size,ca,fr,fun _ h=>.inl h,fun x O=>?_,by rw[B];exact ba,?_⟩
  .rcases O with O|O
   .exact .inl O
   .exact .inr (by omega)
  .exact(((g3.mono fun _ _ h=>h.elim).trans (X.mono fun _ _ h=>h.elim)).trans (hm.mono fun x _ e=>(h.pF x e).1)).trans (bb.mono fun x _ e=>by rw[e];exact h.fc)
end
structure Bx (W:World) (b:Nat) (vs:List Value):Prop where
 cells:∀j v,vs[j]?=some v->W.cell? ⟨b,j,none⟩=some v
 live:∀j,j<vs.length->Live W ⟨b,j,none⟩
theorem Bx.mod{b:Nat}(h:Bx W b vs)(hm:Mod M W W')(i:¬M b):Bx W' b vs:=
 ⟨fun j v o=>hm.cell (h.cells j v o) i,fun j B=>(h.live j B).mod hm i⟩
theorem Bx.grow{b:Nat}(h:Bx W b vs)(hm:Grow W W'):Bx W' b vs:=h.mod hm fun h=>h
theorem Bx.FZ{b n:Nat}(h:Bx W b vs)(i:vs.length=n)(o:K (.agg vs.toArray) W):Af n (.pointer (some ⟨b,0,none⟩)) K W:=
 Aj i (fun j u hu=>by rw[AH];exact h.cells j u hu) o
theorem Bx.st{b q:Nat}{u:Value}{K:World->Prop}(h:Bx W b vs)(i:q<vs.length)(h1:u.oneCell'=true)(j:u.cells=#[u])(o:∀W',Bx W' b (vs.set q u)->Mod (fun x=>x=b) W W'->K W'):BC (.pointer (some ⟨b,q,none⟩)) u K W:=
 Fm h.cells h.live i h1 j fun W' hm hc hl=>o W' ⟨hc,hl⟩ hm
theorem Bx.over{b n:Nat}{vs us:List Value}{K:World->Prop}(h:Bx W b vs)(o:us.length=n)(hl:vs.length=n)(h1:∀v∈us,v.oneCell'=true)(B:∀W',Bx W' b us->Mod (fun x=>x=b) W W'->K W'):Ac n (.pointer (some ⟨b,0,none⟩)) (.agg us.toArray) K W:=
 CF o h1 (fun j E=>by rw[AH];exact h.live j (by omega)) fun W' hm hc i=>B W' ⟨fun j v I=>by have:=hc j v I;rwa [AH] at this,fun j E=>i _ (h.live j (by omega))⟩ hm
theorem Bx.new{t:TypeId}{n:Nat}{B vs:List Value}{K:Value->World->Prop}(E:vs.length=n)(hl:B.length=n)(h1:∀v∈vs,v.oneCell'=true)(h:∀b i,w.heap.size<=b->Grow w i->Bx i b vs->K (.pointer (some ⟨b,0,none⟩)) i) :
  Am t B (fun t5 I=>Ac n t5 (.agg vs.toArray) (fun w4=>K t5 w4) I) w:=
 BS E hl h1 fun b i hb _ J hc o=>h b i (by omega) J ⟨fun j v O=>by have:=hc j v O;rwa [AH] at this,fun j Q=>by have:=o j Q;rwa [AH] at this⟩
theorem Bx.zero{t:TypeId}{B:List Value}(h:∀b i,w.heap.size<=b->Grow w i->Bx i b B->K (.pointer (some ⟨b,0,none⟩)) i):Am t B K w:=
 Dc fun b i hb _ E hc o=>h b i (by omega) E ⟨fun j v I=>by have:=hc j v I;rwa [AH] at this,fun j J=>by have:=o j J;rwa [AH] at this⟩
theorem Bx.box{t:TypeId}(h:∀b i,w.heap.size<=b->Grow w i->Bx i b vs->K (.pointer (some ⟨b,0,none⟩)) i):Bh t (.agg vs.toArray) K w:=
 Dq fun b i hb _ B hc o=>h b i (by omega) B ⟨fun j v E=>by have:=hc j v E;rwa [AH] at this,fun j I=>by have:=o j I;rwa [AH] at this⟩
theorem Az{ok:Nat->Bool}{f:Value}{K i:Cont}(h:BM P ok f args K w)(hk:∀v w',K v w'->i v w'):BM P ok f args i w:=by
 obtain⟨a,b,c,j,o,h⟩:=h;exact⟨a,b,c,j,o,AA h hk⟩
theorem Bx.lt{b:Nat}(h:Bx W b vs)(i:0<vs.length):b<W.heap.size:=kT W _ (h.cells 0 vs[0] (by simp[i]))
section
variable {α:Type}{g:AvT α}
theorem AZ{r:List Value}{n:Nd α}(hr:r.length=E)(j:Nat):(r++BY n)[E+j]?=(BY n)[j]?:=by
 rw[kH (by omega),hr,mf]
theorem Cl{r:List Value}{n:Nd α}(hr:r.length=E)(j:Nat)(u:Value):(r++BY n).set (E+j) u=r++(BY n).set j u:=by
 rw[lC _ _ (by omega),hr,mf]
theorem BI{r:List Value}{x:α}(n:Nd α)(hr:g.R C w r x):(r++BY n).length=g.E+5:=by rw[Bq,g.rlen hr];rfl
theorem Hb{r:List Value}{x:α}(n:Nd α)(hr:g.R C w r x):∀u∈r++BY n,u.oneCell'=true:=fun u hu=>by
 rcases DN.1 hu with hu|hu
 .exact g.rone hr u hu
 .exact HE n u hu
theorem IB:g.toAvK.zN.length=g.E+5:=by rw[AvK.zN,Bq,g.zlen];rfl
abbrev az(g:AvT α)(c:Nat)(i:Int):List Value:=[g.vm,g.vc,g.vd,.pointer (some ⟨c,0,none⟩),.int .i64 i]
structure bK (g:AvT α) (F C:Nat->Prop) (W:World) (b c:Nat) (rt:Int) (A:ArS α) (pl fr:Value):Prop where
 box:Bx W b (az g c rt)
 ar:Ii g (fun x=>F x/\x≠b) C W c A pl fr
 fb:F b/\¬C b
abbrev Fb(F:Nat->Prop)(b:Nat):Nat->Prop:=fun y=>F y/\y≠b
def Dl(g:AvT α)(F C:Nat->Prop)(W:World)(b:Nat)(i:Int)(A:ArS α):Prop:=∃c pl fr,bK g F C W b c i A pl fr
theorem bK.mod{b c:Nat}{i:Int}{A:ArS α}{pl fr:Value}(h:bK g F C W b c i A pl fr)(hm:Mod M W W')(j:∀x,F x\/C x->¬M x):bK g F C W' b c i A pl fr:=
 ⟨h.box.mod hm (j b (.inl h.fb.1)),h.ar.mod hm fun x o=>j x (o.imp (fun h=>h.1) fun h=>h),h.fb⟩
theorem Dl.mod{b:Nat}{i:Int}{A:ArS α}(h:Dl g F C W b i A)(hm:Mod M W W')(j:∀x,F x\/C x->¬M x):Dl g F C W' b i A:=by
 obtain⟨c,pl,fr,h⟩:=h;exact⟨c,pl,fr,h.mod hm j⟩
theorem Dl.grow{b:Nat}{i:Int}{A:ArS α}(h:Dl g F C W b i A)(hm:Grow W W'):Dl g F C W' b i A:=h.mod hm fun _ _ h=>h
theorem Dl.lt{b:Nat}{i:Int}{A:ArS α}(h:Dl g F C W b i A):∀x,F x\/C x->x<W.heap.size:=by
 obtain⟨c,pl,fr,h⟩:=h;intro x j;by_cases e:x=b
 .subst e;exact h.box.lt (Ty _)
 .exact h.ar.lt x (j.imp (fun h=>⟨h,e⟩) fun h=>h)
theorem Dl.Is{b:Nat}{i:Int}{A:ArS α}(h:Dl g F C W b i A):∀x,F x->¬C x:=by
 obtain⟨c,pl,fr,h⟩:=h;intro x j;by_cases e:x=b
 .subst e;exact h.fb.2
 .exact h.ar.Is x ⟨j,e⟩
theorem Dl.fb{b:Nat}{i:Int}{A:ArS α}(h:Dl g F C W b i A):F b:=by obtain⟨c,pl,fr,h⟩:=h;exact h.fb.1
theorem Dl.ok{b:Nat}{i:Int}{A:ArS α}(h:Dl g F C W b i A):A.Ok:=by obtain⟨c,pl,fr,h⟩:=h;exact h.ar.ok
theorem RN{b i:Nat}{A:ArS α}{n:Nd α}(h:Dl g F C W b most A)(hi:A.f i=some n) :
  AB prog g.fat [.pointer (some ⟨b,0,none⟩),.int .i64 i] (fun v' w'=>∃r,v'=.agg (r++BY n).toArray/\g.R C w' r n.x/\Grow W w') W:=by
 apply g.ok.at_;unfold iq;refine Bx.zero fun b4 w1 X J Y=>?_;obtain⟨c,pl,fr,O⟩:=h;have j:=O.mod J fun _ _ h=>h;refine AI ?_;refine Bt (j.box.cells 3 _ rfl) ?_;refine AA (fi j.ar hi) ?_;rintro _ w2 ⟨r,rfl,hr,Q⟩;refine BV ?_;have hl:=BI n hr;have S:=Hb n hr;refine Bx.new hl IB S fun b5 w3 Z B B5=>?_;refine B5.FZ hl ?_;have E:=(Y.grow Q).grow B;refine E.over hl (IB) S fun w4 o T=>?_;refine o.FZ hl ?_;have I:Grow W w4:=((J.trans Q).trans B).next T fun y U e=>by omega
 exact⟨r,rfl,g.BZ (g.BZ hr B fun _ _ _ h=>h) T fun y _ U e=>by have:=O.ar.lt y (.inr U);omega,I⟩
theorem Dt{b i:Nat}{A:ArS α}{n:Nd α}{K:Value->World->Prop}(h:Dl g F C W b most A)(hi:A.f i=some n)
 (Q:∀r j w',Grow W w'->W.heap.size<=j->Bx w' j (r++BY n)->g.R C w' r n.x->K (.pointer (some ⟨j,0,none⟩)) w') :
  AB prog g.fat [.pointer (some ⟨b,0,none⟩),.int .i64 i] (fun o S=>Am g.tn g.toAvK.zN (fun B w2=>Ac (g.E+5) B o (fun T=>K B T) w2) S) W:=by
 refine AA (RN h hi) ?_;rintro _ w4 ⟨r,rfl,hr,I⟩;refine Bx.new (BI n hr) IB (Hb n hr) fun U V X J Y=>?_;exact Q r U V (I.trans J) (by have:=I.size;omega) Y (g.BZ hr J fun _ _ _ h=>h)
theorem Ey{f:Nat->Option (Nd α)}{μ:α->Nat×Nat}{t:Tr α}{A:ArS α}(o:A.f=f)(h:Tr.Holds μ f t)(hu:Tr.GO t):t.ht<=A.ps.length/\t.Df<=A.ps.length:=by
 have i:t.idx ⊆ List.range A.ps.length:=fun x B=>by
  obtain⟨n,j⟩:=h.has μ B;rw[<-o] at j;exact ly.2 (ArS.Ir j).1
 have h1:=Ig hu i;have E:=(Tr.SE t).1;have I:=Tr.cA t;simp only[List.length_range] at h1;omega
def EA(g:AvT α)(l:List α):Prop:=Tr.sz g.k.μ l<=1099511627776/\Tr.mk g.k.μ l<=1099511627776
theorem EA.app{l m:List α}(h:EA g (l++m)):EA g l/\EA g m:=by
 obtain⟨h1,i⟩:=h;rw[Tr.CT] at h1;rw[Tr.Fy] at i;exact⟨⟨by omega,by omega⟩,by omega,by omega⟩
theorem EA.cons{x:α}{m:List α}(h:EA g (x::m)):EA g m/\(g.k.μ x).1+Tr.sz g.k.μ m<=1099511627776/\(g.k.μ x).2+Tr.mk g.k.μ m<=1099511627776:=by
 obtain⟨h1,i⟩:=h;rw[Tr.Ba] at h1;rw[Tr.Cy] at i;exact⟨⟨by omega,by omega⟩,h1,i⟩
theorem CB{b:Nat}{A:ArS α}{t:Tr α}(h:Dl g F C W b most A)(ht:Tr.Holds g.k.μ A.f t) :
  AB prog g.ftotals [.pointer (some ⟨b,0,none⟩),.int .i64 t.root] (fun v' w'=>v'=.tuple #[.int .i64 t.ht,.int .i64 (Tr.sz g.k.μ t.toL),.int .i64 (Tr.mk g.k.μ t.toL)]/\Grow W w') W:=by
 apply g.ok.totals;unfold SG;cases t with
 |nil=>
  simp only[Tr.root];rw[Al];refine AF (fun _=>?_) fun e=>(e rfl).elim;exact⟨rfl,Mod.refl _ _⟩
 |node l i x r=>
  simp only[Tr.root];rw[Al];refine AF (fun e=>by omega) fun _=>?_;obtain⟨_,_,hi⟩:=ht;refine Dt h hi fun U O I Q S B hr=>?_;have o:=g.rlen hr;refine Ce (fun w'=>Grow I w') (Mod.drew _ _) ?_;have hc:∀j v w',Grow I w'->(BY (Tr.EC g.k.μ (.node l i x r) x l.root r.root))[j]?=some v->w'.cell? ⟨O,g.E+j,none⟩=some v:=fun j v w' g' T=>g'.cell (B.cells (g.E+j) v (by rw[AZ o];exact T)) fun h=>h;rw[AG,AH];refine Au (fun w' g'=>hc 2 _ w' g' rfl) ?_;rw[AG,AH];refine Au (fun w' g'=>hc 3 _ w' g' rfl) ?_;rw[AG,AH];refine Au (fun w' g'=>hc 4 _ w' g' rfl) ?_;intro w' g';exact⟨rfl,Q.trans g'⟩
theorem JI{o:Addr->Value->Prop}{b:Nat}{r:List Value}{k:Value->Prop}(hl:r.length=g.E)(B:∀j v,r[j]?=some v->o ⟨b,j,none⟩ v)(hk:k (g.toAvK.enc r)):OA g.toAvK o (.pointer (some ⟨b,0,none⟩)) k:=by
 unfold OA AvK.enc at *;cases i:g.one with
 |true=>
  have J:=g.E1 i;rw[i] at hk;simp only[kA] at hk ⊢;cases r with
  |nil=>simp at hl;omega
  |cons a r=>exact AY (B 0 a rfl) hk
 |false=>
  rw[i] at hk;simp only[kF] at hk ⊢;exact CU hl (fun j v I=>by rw[AH];exact B j v I) hk
theorem cQ{a b:Nat}{k:Value->Prop}(h:k (.int .i64 (max a b:Nat))):KM .i64 (.int .i64 a) (.int .i64 b) k:=by
 rw[G1];have e:(if(b:Int)>(a:Int) then(b:Int) else(a:Int))=((max a b:Nat):Int):=by split<;>omega
 rw[e];exact h
theorem CK{a b:Nat}{k:Value->Prop}(hb:a+b<=9223372036854775807)(h:k (.int .i64 (a+b:Nat))):AX .i64 (.int .i64 a) (.int .i64 b) k:=by
 rw[AR,wrap64 (by omega) (by omega)];have e:((a:Int)+(b:Int))=((a+b:Nat):Int):=by omega
 rw[e];exact h
theorem Gb{b i:Nat}{A:ArS α}{n m:Nd α}{l r:Tr α}{S:List Value}(h:Dl g F C W b most A)(hs:A.ps.length<=109951162777)(hi:A.f i=some m)(hr:g.R C W S n.x)(el:n.l=l.root)(er:n.r=r.root)
 (hl:Tr.Holds g.k.μ A.f l)(T:Tr.Holds g.k.μ A.f r)(ul:Tr.GO l)(ur:Tr.GO r)(hb:EA g (l.toL++n.x::r.toL)) :
  AB prog g.fset [.pointer (some ⟨b,0,none⟩),.int .i64 i,.agg (S++BY n).toArray] (fun _ w'=>Dl g F C w' b most (A.put i (Tr.EC g.k.μ (.node l i n.x r) n.x l.root r.root))/\Mod (Fb F b) W w') W:=by
 apply g.ok.set;unfold gP;have o:=g.rlen hr;have av:=BI n hr;obtain⟨b0,Y⟩:=hb.app;obtain⟨ax,b3,b4⟩:=Y.cons;have b6:=(Ey rfl hl ul).1;have b7:=(Ey rfl T ur).1;have Z:=hb.1;have a1:=hb.2;rw[Tr.CT,Tr.Ba] at Z;rw[Tr.Fy,Tr.Cy] at a1;refine Bx.box fun b5 w1 a6 g1 B=>?_;have h1:=h.grow g1;refine Bt (B.cells (g.E+0) _ (by rw[AZ o];rfl)) ?_;rw[el];refine AA (CB h1 hl) ?_;rintro _ w3 ⟨rfl,g3⟩;refine Kh ?_;rw[AG,AH];have B3:=B.grow g3;refine AK (B3.cells (g.E+1) _ (by rw[AZ o];rfl)) ?_;rw[er];refine AA (CB (h1.grow g3) T) ?_;rintro _ w5 ⟨rfl,g5⟩;refine Kh ?_;have gd:Grow w5 w5.drew:=Mod.drew _ _;have O:=((g1.trans g3).trans g5).trans gd;obtain⟨c,pl,fr,hT⟩:=h;have a7:=hT.mod O fun _ _ h=>h;have B5:=(B3.grow g5).grow gd;refine Ai (fun _ _=>False) ?_;refine AI ?_;rw[AG,AH,AG,AH];refine AY ⟨a7.box.cells 0 _ rfl,fun _ _ e=>e⟩ ?_;rw[AG,AH];refine JI (r:=S) o (fun j v V=>⟨B5.cells j v (by rw[Q0 (Bp.1 V).1];exact V),fun _ _ e=>e⟩) ?_;refine Az (g.meas (g.BZ hr O fun _ _ _ h=>h)) ?_;rintro _ w6 ⟨rfl,g6⟩;refine⟨g6.mono fun _ _ h=>h.elim,?_⟩;refine BV ?_;refine cQ ?_;refine CK (a:=1) (by omega) ?_;refine CK (by omega) ?_;refine CK (by omega) ?_;refine CK (by omega) ?_;refine CK (by omega) ?_;rw[AG,AH];have B6:=B5.grow g6;refine B6.st (by omega) rfl rfl fun w7 B7 m7=>?_;rw[Cl o] at B7;rw[AG,AH];refine B7.st (by rw[Bq,o,kC];exact pO (show 3<5 by decide) _) rfl rfl fun w8 B8 m8=>?_;rw[AG,AH];refine B8.st (by rw[kC,Bq,o,kC];exact pO (show 4<5 by decide) _) rfl rfl fun X B9 m9=>?_;have eB:((S++(BY n).set 2 (.int .i64 ((1+max l.ht r.ht:Nat):Int))).set (g.E+3) (.int .i64 ((Tr.sz g.k.μ l.toL+Tr.sz g.k.μ r.toL+(g.k.μ n.x).1:Nat):Int))).set (g.E+4) (.int .i64 ((Tr.mk g.k.μ l.toL+Tr.mk g.k.μ r.toL+(g.k.μ n.x).2:Nat):Int))=S++BY (Tr.EC g.k.μ (.node l i n.x r) n.x l.root r.root):=by
  rw[lC _ _ (by omega),lC _ _ (by omega),o,mf,mf];simp only[BY,Tr.EC,Tr.ht,Tr.toL,pS,pX,el,er,Tr.CT,Tr.Ba,Tr.Fy,Tr.Cy];rw[show Tr.sz g.k.μ l.toL+Tr.sz g.k.μ r.toL+(g.k.μ n.x).1=Tr.sz g.k.μ l.toL+((g.k.μ n.x).1+Tr.sz g.k.μ r.toL) by omega,show Tr.mk g.k.μ l.toL+Tr.mk g.k.μ r.toL+(g.k.μ n.x).2=Tr.mk g.k.μ l.toL+((g.k.μ n.x).2+Tr.mk g.k.μ r.toL) by omega]
 rw[eB] at B9;have U:Grow X X.drew:=Mod.drew _ _;have ay:W.heap.size<=b5:=a6;have Q:Grow W X.drew:=((((O.trans g6).next m7 fun y hy e=>by omega).next m8 fun y hy e=>by omega).next m9 fun y hy e=>by omega).trans U;have I:=hT.mod Q fun _ _ h=>h;have a8:=B9.grow U;refine Ai (fun _ y=>F y/\y≠b) ?_;refine AI ?_;rw[AG,AH];refine AY ⟨I.box.cells 3 _ rfl,fun _ _ e=>e.2 rfl⟩ ?_;have ak:¬F b5:=fun e=>by
  have:=Dl.lt (g:=g) ⟨c,pl,fr,hT⟩ b5 (.inl e);omega
 refine CU (BI (Tr.EC g.k.μ (.node l i n.x r) n.x l.root r.root) hr) (fun j v V=>⟨by rw[AH];exact a8.cells j v V,fun _ _ e=>by rw[AH] at e;exact ak e.1⟩) ?_;refine AA (Su I.ar hi (n:=Tr.EC g.k.μ (.node l i n.x r) n.x l.root r.root) (g.BZ hr Q fun _ _ _ h=>h)) ?_;rintro _ al ⟨hA,an⟩;have J:Mod (fun y=>F y/\y≠b) X.drew al:=an.mono fun x _ e=>(I.ar.pF x e).1;refine⟨J,?_⟩;exact⟨⟨c,pl,fr,I.box.mod J fun e=>e.2 rfl,hA,I.fb⟩,(Q.mono fun _ _ h=>h.elim).trans J⟩
theorem MZ{b i:Nat}{A:ArS α}{n:Nd α}{l r:Tr α}(h:Dl g F C W b most A)(hs:A.ps.length<=109951162777)(hi:A.f i=some n)(Q:n.l=l.root)(S:n.r=r.root)(hl:Tr.Holds g.k.μ A.f l)(hr:Tr.Holds g.k.μ A.f r)(T:Tr.GO l)(U:Tr.GO r) :
  AB prog g.flean [.pointer (some ⟨b,0,none⟩),.int .i64 i] (fun v' w'=>v'=.int .i64 ((l.ht:Int)-(r.ht:Int))/\Grow W w') W:=by
 apply g.ok.lean;unfold bY;have V:=(Ey rfl hl T).1;have X:=(Ey rfl hr U).1;refine Dt h hi fun rc bx w1 o Y B I=>?_;have j:=g.rlen I;refine Bt (B.cells (g.E+0) _ (by rw[AZ j];rfl)) ?_;rw[Q];refine AA (CB (h.grow o) hl) ?_;rintro _ w3 ⟨rfl,J⟩;refine Kh ?_;refine Bt ((B.grow J).cells (g.E+1) _ (by rw[AZ j];rfl)) ?_;rw[S];refine AA (CB ((h.grow o).grow J) hr) ?_;rintro _ w5 ⟨rfl,Z⟩;refine Kh ?_;rw[Av,wrap64 (by omega) (by omega)];exact⟨rfl,(o.trans J).trans Z⟩
end
end Go.Proofs.YtmdhibffnkhcnaaGreatDoor
