/- parts of the proof, written short by a program of ours -/
import Derived.Test.YtbdjachmndlplaaGreatDoorZEngineNone3
import Derived.Lib.AppendZeros
set_option maxRecDepth 100000
set_option linter.unusedSimpArgs false
set_option linter.unusedVariables false
set_option linter.defProp false
namespace Go.Proofs.YtbdjachmndlplaaGreatDoor
open Go Proofs.Tryz
variable {j c E:Nat}{w W W' w':World}{F S C M F':Nat->Prop}{v sv:Value}{most:Int}{vs cs args:List Value}{α:Type}{a:List Dop}{rs:List Int}{K:Cont}{P:Program}
def Tz{t ty e:TypeId}{a:Option Addr}{n c:Nat}(ht:P.underlying t=some (.slice e)):(Builtin.cap_ #[t] ty #[.slice a n c]).run P w=.ok (zI c) w:=by
 simp[Builtin.cap_,run_underlying ht,goInt]
def LC{t e k:Nat}{i:TypeInfo}{a:Option Addr}{n c h:Nat}(ht:P.underlying t=some (.slice e))(hi:P.info? e=some i)(hk:i.size=k)(m:h<=c) :
  (Instr.sliceAt t (.slice a n c) none (some (zI h)) none).run P w=.ok (.slice (if c=0 then a else a.map (·.add (0*k))) h c) w:=by
 have j:P.elem t=e:=by simp[Program.elem,ht]
 rw[nS _ _ _ _ _ _ (by rw[j];exact ht),rf _ _ _ _ _ (by rw[j];exact ht) _ _ (by omega) (by omega),j];simp[sizeOf,typeInfo,hi,hk,sliced]
def Y0{n:Nat}(V:n*88<=140737488355328)(R:World->List Value->Dop->Prop) :
  AB prog 293 [.slice none 0 0,zI n] (λv' w'=>AE w.heap.size 81 5 R w' v' []/\Grow w w') w:=by
 refine uS2 (dB 1092977257 [([],[(5,7)])] []) func293 (λ_ _ _ _=>⟨by conv=>lhs;reduce,by dsimp only[PI,AF],by kernel_rfl⟩) ?_;unfold uI;refine AR (λvs I=>I=w) ?_ ?_
 .rintro vs _ rfl _;rename World=>w
  refine AX (Tz (e:=81) (by kernel_rfl)) ?_;rw[AO,Am,Am,BE];have e0:IntKind.i64.wrap ((n:Int)-IntKind.i64.wrap (((0:Nat):Int)-((0:Nat):Int)))=n:=by rw[wrap64 (x:=((0:Nat):Int)-((0:Nat):Int)) (by omega) (by omega),wrap64 (by omega) (by omega)];omega
  rw[e0];refine AD (λhp=>?_) λ_=>⟨AE.nil,Mod.refl _ _⟩;refine AX (Tz (e:=81) (by kernel_rfl)) ?_;refine AX (LC (e:=81) (i:=Tryz.t81) (k:=5) (h:=0) (by kernel_rfl) (by kernel_rfl) (by kernel_rfl) (K8 _)) ?_;simp only[mF];obtain⟨i,z,h1,J,O,X,Q,U,Y⟩:=Fz;have j:i.bytes=88:=Q;refine AX (Go.Lib.run_append_nil_zeros (P:=prog) w 22 3 22 81 i z .i64 .i64 h1 (by kernel_rfl) J O n (by omega) (by omega) (by omega) (by rw[j];omega)) ?_;have m:=rY w n 0 81;have o:=pZ w n 0 81 (by simp only[maxLen];omega);have q:Grow w (w.drew.alloc (.cells (Builtin.zeroCells z.cells n++Builtin.zeroCells z.cells (grownCap w n 0 81-n)) 81)):=(Mod.drew _ _).trans (Mod.alloc _ _ _);have B:=px w.drew (.cells (Builtin.zeroCells z.cells n++Builtin.zeroCells z.cells (grownCap w n 0 81-n)) 81);generalize w.drew.alloc (.cells (Builtin.zeroCells z.cells n++Builtin.zeroCells z.cells (grownCap w n 0 81-n)) 81)=w2 at q B ⊢;rw[AO];refine AX (LC (e:=81) (i:=Tryz.t81) (k:=5) (h:=0) (by kernel_rfl) (by kernel_rfl) (by kernel_rfl) (Nn _)) ⟨?_,q⟩;rw[Bp (by omega)];simp only[mw,AI,pz];refine⟨[],⟨rfl,.inr ⟨_,_,_,rfl,K8 _,B,Nn _,o,?_,by simp⟩⟩,rfl,by simp,by simp⟩;simp only[py,qk,U,<-mC];rw[Nat.add_sub_cancel' m]
 .rw[Ai];exact AD (λh=>by omega) λ_=>rfl
def Qn{S1 X S2 Y:Nat->Prop}{l m:List Dop}{p:Addr}(ha:Ak S1 X w v l)(hb:Ak S2 Y w sv m)(h0:w.cell? p=some v)(h1:w.cell? (p.add 1)=some sv)(hl:(l.length+m.length)*88<=140737488355328) :
  AB prog 198 [.slice (some p) 2 2] (λv' w'=>AE w.heap.size 81 5 (Cf λb=>(X b\/Y b)/\b<w.heap.size) w' v' (l++m)/\Grow w w') w:=by
 refine uS1 (dB 19390139990189326897824457 [([3,11],[(3,3),(5,5),(11,22)]),([6,27],[(6,6),(8,8),(27,34)])] []) func198 (λ_ _ _=>⟨by conv=>lhs;reduce,by dsimp only[PI,AF],by kernel_rfl⟩) ?_;unfold uI;obtain⟨a1,c1,rfl,m1⟩:=ha.shape;obtain⟨a2,c2,rfl,m2⟩:=hb.shape;rw[AO];have n0:((2:Nat):Int)=2:=rfl;refine AU (λvs Z=>∃k:Nat,k<=2/\vs=[zI (if k=0 then(0:Nat) else if k=1 then l.length else l.length+m.length:Nat),zI k]/\Z=w) (λvs _=>2-Dh vs 1) ⟨0,by omega,rfl,rfl⟩ ?_;rintro vs _ ⟨k,hk,rfl,rfl⟩ _;rename World=>w
 simp only[FC];refine G9 (λa6=>?_) λa7=>?_
 .have B:k=0\/k=1:=by omega
  rcases B with rfl|rfl
  .refine AS (by decide) ?_;have e:(p.add (0*1))=p.add 0:=rfl;rw[e,Addr.add_zero'];refine AJ h0 ?_;rw[AO,AM,wrap64 (by simp<;>omega) (by simp<;>omega),Ai];refine AD (λh=>by simp at h<;>omega) λ_=>?_;rw[AM,AK (by omega)];exact⟨⟨1,by omega,by simp,rfl⟩,by rw[Ar,Ar];omega⟩
  .refine AS (by decide) ?_;refine AJ (show w.cell? (p.add (1*1))=_ from h1) ?_;rw[AO,AM,wrap64 (by simp<;>omega) (by simp<;>omega),Ai];refine AD (λh=>by simp at h<;>omega) λ_=>?_;rw[AM,AK (by omega)];exact⟨⟨2,by omega,by simp,rfl⟩,by rw[Ar,Ar];omega⟩
 .have B:k=2:=by omega
  subst B;simp only[show ¬(2:Nat)=0 by decide,show ¬(2:Nat)=1 by decide,lW];refine AA (Y0 hl (Cf λb=>(X b\/Y b)/\b<w.heap.size)) ?_;rintro v1 Z ⟨o1,J⟩;rw[AO]
  let R:=Cf λb=>(X b\/Y b)/\b<w.heap.size
  have an:=J.size;have av:An (λ_=>True) 5 R Z (.slice a1 l.length c1) l:=An.mono ha.Gw (λ_ _ _=>trivial) (λb hb _=>J.same b hb λh=>h) (by decide) λr x I=>I.mod J (λ_ _ _ h=>h) λb _ h=>⟨.inl h.1,h.2⟩;have ax:An (λ_=>True) 5 R Z (.slice a2 m.length c2) m:=An.mono hb.Gw (λ_ _ _=>trivial) (λb hb _=>J.same b hb λh=>h) (by decide) λr x I=>I.mod J (λ_ _ _ h=>h) λb _ h=>⟨.inr h.1,h.2⟩;have O:∀{W W':World} {M:Nat->Prop},Mod M W W'->(∀b,M b->w.heap.size<=b)->∀r y,R W r y->R W' r y:=λhm hM r y hy=>hy.mod hm (λb _ hd hb=>by have:=hM b hb;omega) λ_ _ h=>h;refine AU (λvs w2=>∃(k:Nat) (out:Value) (acc:List Dop),k<=2/\vs=[out,zI k]/\acc=(if k=0 then[] else if k=1 then l else l++m)/\AE w.heap.size 81 5 R w2 out acc/\Grow w w2) (λvs _=>2-Dh vs 1) ⟨0,v1,[],by omega,rfl,rfl,o1,J⟩ ?_;rintro vs w2 ⟨k,out,acc,hk,rfl,i,ho,Q⟩ _;simp only[FC];rw[Ai];have one:∀{W:World} (j:Nat) (y z:List Dop) (x o:Value),An (λ_=>True) 5 R w x y->AE w.heap.size 81 5 R W o z->Grow w W->(z.length+y.length)*88<=140737488355328->
    runK prog (Builtin.append_ #[22,22] 22 [o,x].toArray) (λv' w'=>AE w.heap.size 81 5 R w' v' (z++y)/\Grow w w') W:=by
   intro W j y z x o I hz hW hb;have a8:An (λ_=>True) 5 R W x y:=by
    refine An.mono (I.Gw (by decide)) (λ_ _ _=>trivial) (λb hb h=>hW.same b hb λh=>h) (by decide) λr q hq=>O hW (λ_ h=>h.elim) r q hq
   obtain⟨v',w',r1,U,V,r4⟩:=AE.append (ty:=22) Fz hz a8 (λ_ _=>Cf.one) hb hW.size (by simp only[maxLen];omega) λw' hg r q hq=>O (Mod.of_grownBy hg) (λb e=>(AE.Aj hz b e).1) r q hq;exact AX r1 ⟨U,hW.next (Mod.of_grownBy V) λb hb e=>by have:=(AE.Aj hz b e).1;omega⟩
  have ak:An (λ_=>True) 5 R w (.slice a1 l.length c1) l:=An.sub ha.Gw (λ_ _ _=>trivial) (by decide) λr x I=>I.mod (Mod.refl (λ_=>False) _) (λ_ _ _ h=>h) λb _ h=>⟨.inl h.1,h.2⟩;have al:An (λ_=>True) 5 R w (.slice a2 m.length c2) m:=An.sub hb.Gw (λ_ _ _=>trivial) (by decide) λr x I=>I.mod (Mod.refl (λ_=>False) _) (λ_ _ _ h=>h) λb _ h=>⟨.inr h.1,h.2⟩;refine AD (λa6=>?_) λa7=>?_
  .have B:k=0\/k=1:=by omega
   rcases B with rfl|rfl
   .refine AS (by decide) ?_;have e:(p.add (0*1))=p.add 0:=rfl;rw[e,Addr.add_zero'];refine AJ (Q.cell h0 λh=>h) ?_;simp only[mF] at i;subst i;obtain⟨v',w',r1,U,V⟩:=one 0 l [] _ out ak ho Q (by simp;omega);refine AX r1 ?_;rw[AM,AK (by omega)];exact⟨⟨1,v',_,by omega,rfl,by simp,U,V⟩,by rw[Ar,Ar];omega⟩
   .refine AS (by decide) ?_;refine AJ (Q.cell (show w.cell? (p.add (1*1))=_ from h1) λh=>h) ?_;simp only[show ¬(1:Nat)=0 by decide,mF,lW] at i;subst i;obtain⟨v',w',r1,U,V⟩:=one 0 m acc _ out al ho Q hl;refine AX r1 ?_;rw[AM,AK (by omega)];exact⟨⟨2,v',_,by omega,rfl,by simp,U,V⟩,by rw[Ar,Ar];omega⟩
  .have B:k=2:=by omega
   subst B;simp only[show ¬(2:Nat)=0 by decide,show ¬(2:Nat)=1 by decide,lW] at i;subst i;exact⟨ho,Q⟩
abbrev ZS:Nat:=81
abbrev Ks(o:Dop)(rv sv i:Value):List Value:=[.int .u8 o.kind,zI o.n,rv,sv,i]
def Le(C:Nat->Prop)(h:Nat)(W:World)(g:Nat)(ins:List Dop):Prop:=0<ins.length/\∀j (m:j<ins.length),∃rv sv i,Nk W g j ins[j] rv sv i/\Cf (λx=>C x\/x=h) W (Ks ins[j] rv sv i) ins[j]/\
 (j+1=ins.length->AE 0 21 1 Be W rv ins[j].Ab/\rv.ownBlock=some h/\Ba C W sv ins[j].set/\EV C W i ins[j].patch)/\(j+1<ins.length->Cf C W (Ks ins[j] rv sv i) ins[j])
structure V8 (F:Nat->Prop) (W:World) (b:Nat) (s:GJ) (dv iv:Value) (C:Nat->Prop) (hot:Option Nat):Prop where
 c0:W.cell? ⟨b,0,none⟩=some dv
 c1:W.cell? ⟨b,1,none⟩=some iv
 c2:W.cell? ⟨b,2,none⟩=some (zI s.gone)
 lv:∀q,q<3->Live W ⟨b,q,none⟩
 fb:F b
 nb:¬C b
 cf:∀x,C x->F x/\x<W.heap.size
 done:AE 0 ZS 5 (Cf C) W dv s.done
 dF:∀g,dv.ownBlock=some g->F g/\¬C g/\g≠b
 ins:(s.ins=[]/\iv=.slice none 0 0/\hot=none)\/∃g c h,iv=.slice (some ⟨g,0,none⟩) s.ins.length c/\hot=some h/\AE 0 ZS 5 (λ_ _ _=>True) W iv s.ins/\F g/\¬C g/\g≠b/\dv.ownBlock≠some g/\
  F h/\¬C h/\h≠b/\h≠g/\dv.ownBlock≠some h/\h<W.heap.size/\Le C h W g s.ins
def NG(F:Nat->Prop)(W:World)(b:Nat)(s:GJ):Prop:=∃dv j C i,V8 F W b s dv j C i
def Nk.mod{g j:Nat}{o:Dop}{rv sv i:Value}(h:Nk W g j o rv sv i)(hm:Mod M W W')(m:¬M g):Nk W' g j o rv sv i:=λq u hu=>hm.cell (h q u hu) m
def Le.mod{h:Nat}{g:Nat}(hi:Le C h W g a)(hm:Mod M W W')(i:¬M g)(m:¬M h)(hC:∀x,C x->¬M x):Le C h W' g a:=by
 refine⟨hi.1,λj q=>?_⟩;obtain⟨rv,sv,B,I,J,O,Q⟩:=hi.2 j q;refine⟨rv,sv,B,I.mod hm i,J.mod hm (λb _ hb=>by rcases hb with hb|rfl;exact hC b hb;exact m) λ_ _ h=>h,λe=>?_,λe=>(Q e).mod hm (λb _ hb=>hC b hb) λ_ _ h=>h⟩;obtain⟨U,o,V,X⟩:=O e;exact⟨AE.mod U hm (λg i=>by rw[o] at i;cases i;exact m) λ_ _ _ h=>h,o,V.mono (λ_ _ h=>h) (λb hb hc=>hm.same b hb (hC b hc)) (by decide) λ_ _ h=>h,X.mono (λ_ _ h=>h) (λb hb hc=>hm.same b hb (hC b hc)) (by decide) λ_ _ h=>h⟩
def Cf.cmod{r:List Value}{o:Dop}(h:Cf C W r o)(hm:Mod M W W')(hC:∀x,C x->¬M x):Cf C W' r o:=h.mod hm (λb _ hb=>hC b hb) λ_ _ h=>h
def V8.mod{b:Nat}{s:GJ}{m:Option Nat}(h:V8 F W b s v sv C m)(hm:Mod M W W')(hF:∀x,F x->¬M x):V8 F W' b s v sv C m:=by
 have hb:=hF b h.fb;have hC:∀x,C x->¬M x:=λx j=>hF x (h.cf x j).1;refine⟨hm.cell h.c0 hb,hm.cell h.c1 hb,hm.cell h.c2 hb,λq Z=>(h.lv q Z).mod hm hb,h.fb,h.nb,λx j=>⟨(h.cf x j).1,No (h.cf x j).2 hm.size⟩,AE.mod h.done hm (λg hg=>hF g (h.dF g hg).1) λr x _ j=>j.cmod hm hC,h.dF,?_⟩;rcases h.ins with h0|⟨g,c,V,X,e2,e3,o,e5,e6,e7,Y,e9,B,I,J,O,Q⟩
 .exact .inl h0
 .exact .inr ⟨g,c,V,X,e2,AE.mod e3 hm (λg' i=>by rw[X] at i;simp only[Value.ownBlock,gM] at i;subst i;exact hF _ o) λ_ _ _ _=>trivial,o,e5,e6,e7,Y,e9,B,I,J,No O hm.size,Q.mod hm (hF g o) (hF V Y) hC⟩
def V8.grow{b:Nat}{s:GJ}{dv j:Value}{i:Option Nat}(h:V8 F W b s dv j C i)(hm:Grow W W'):V8 F W' b s dv j C i:=h.mod hm λ_ _ h=>h
def NG.mod{b:Nat}{s:GJ}(h:NG F W b s)(hm:Mod M W W')(hF:∀x,F x->¬M x):NG F W' b s:=by
 obtain⟨dv,j,C,i,h⟩:=h;exact⟨dv,j,C,i,h.mod hm hF⟩
def NG.sub{b:Nat}{s:GJ}(h:NG F W b s)(hF:∀x,F x->F' x):NG F' W b s:=by
 obtain⟨dv,o,C,i,h⟩:=h;refine⟨dv,o,C,i,h.c0,h.c1,h.c2,h.lv,hF _ h.fb,h.nb,λx j=>⟨hF _ (h.cf x j).1,(h.cf x j).2⟩,h.done,λg m=>⟨hF _ (h.dF g m).1,(h.dF g m).2⟩,?_⟩;rcases h.ins with h0|⟨g,c,q,B,I,J,O,Q,U,V,X,Y⟩
 .exact .inl h0
 .exact .inr ⟨g,c,q,B,I,J,hF _ O,Q,U,V,hF _ X,Y⟩
def ZD:AB prog 107 [] (λv w'=>Grow w w'/\∃b,w.heap.size<=b/\b<w'.heap.size/\v=.pointer (some ⟨b,0,none⟩)/\NG (λx=>x=b) w' b GJ.z) w:=by
 refine uS0 (dB 9 [] []) func107 (λ_ _=>⟨by conv=>lhs;reduce,by dsimp only[PI,AF],by kernel_rfl⟩) ?_;unfold uI;refine⟨#[.slice none 0 0,.slice none 0 0,.int .i64 0],by kernel_rfl,?_⟩;refine DC (vs:=[.slice none 0 0,.slice none 0 0,.int .i64 0]) λb o hb B g hc hl=>?_;have a0:∀j,(⟨b,0,none⟩:Addr).add j=⟨b,j,none⟩:=λj=>AI b j;refine⟨g,b,by omega,by omega,rfl,_,_,λ_=>False,none,by rw[<-a0];exact hc 0 _ rfl,by rw[<-a0];exact hc 1 _ rfl,by rw[<-a0];exact hc 2 _ rfl,λq i=>by rw[<-a0];exact hl q i,rfl,λh=>h,λ_ h=>h.elim,AE.nil,λg m=>(nomatch m),.inl ⟨rfl,rfl,rfl⟩⟩
def UI{b:Nat}{s:GJ}{n:Int}(h:NG F w b s):AB prog 128 [.pointer (some ⟨b,0,none⟩),zI n] (λ_ w'=>NG F w' b (RX s n)/\Mod F w w') w:=by
 refine uS2 (dB 9 [] []) func128 (λ_ _ _ _=>⟨by conv=>lhs;reduce,by dsimp only[PI,AF],by kernel_rfl⟩) ?_;unfold uI;obtain⟨dv,Y,C,o,h⟩:=h;rw[Je];simp only[pf,Bool.not_false];rw[FH,DN rfl,BU,AH,AI];refine AJ h.c2 ?_;rw[GC,AM,BU,AH,AI];have e:(if(0:Int)>n then(0:Int) else n)=KM n 0:=rfl;rw[e];refine(h.lv 2 (by decide)).st rfl rfl ?_;have hm:=LW w b 2 (zI (IntKind.i64.wrap (s.gone+KM n 0)));have ne:∀q,q<2->(⟨b,2,none⟩:Addr)≠⟨b,q,none⟩:=λq U e=>by simp only[Addr.mk.injEq] at e;omega
 obtain⟨u,hu⟩:=lD.1 (h.lv 2 (by decide)).1;have V:∀x,C x->¬x=b:=λx j e=>h.nb (e▸j);refine⟨⟨dv,Y,C,o,(S4 _ _ _ _ (ne 0 (by decide))).trans h.c0,(S4 _ _ _ _ (ne 1 (by decide))).trans h.c1,lM _ _ _ hu,λq U=>(h.lv q U).set _ _,h.fb,h.nb,λx j=>⟨(h.cf x j).1,No (h.cf x j).2 hm.size⟩,AE.mod h.done hm (λg Z=>(h.dF g Z).2.2) λr x _ j=>j.cmod hm V,h.dF,?_⟩,hm.mono λx _ e=>by rw[e];exact h.fb⟩;rcases h.ins with h0|⟨g,c,hh,X,e2,e3,e4,e5,B,e7,e8,e9,m,I,J,O,Q⟩
 .exact .inl h0
 .exact .inr ⟨g,c,hh,X,e2,AE.mod e3 hm (λg' i=>by rw[X] at i;simp only[Value.ownBlock,gM] at i;subst i;exact B) λ_ _ _ _=>trivial,e4,e5,B,e7,e8,e9,m,I,J,No O hm.size,Q.mod hm B m V⟩
def V8.dG{b:Nat}{s:GJ}{dv Q:Value}{i:Option Nat}(h:V8 F W b s dv Q C i):Ak (λ_=>True) (λx=>(C x\/i=some x)/\x<W.heap.size) W Q s.ins:=by
 rcases h.ins with⟨m,B,_⟩|⟨g,c,Y,m,B,Z,e4,e5,e6,e7,e8,e9,a1,a6,a7,a8,I⟩
 .rw[m,B];exact An.nil
 .subst m;subst B;have o:=AE.conv (R:=Cf λx=>(C x\/some Y=some x)/\x<W.heap.size) Z λj hj r hr U J=>?_
  .exact An.sub (AE.sl o) (λ_ _ _=>trivial) (by decide) λ_ _ h=>h
  .obtain⟨rv,sv,O,q1,q2,_,_⟩:=I.2 j hj;have e:r=Ks s.ins[j] rv sv O:=by
    refine mj λq=>?_;by_cases hq:q<5
    .have h1:r[q]?=some r[q]:=Bq (by omega);have V:(Ks s.ins[j] rv sv O)[q]?=some (Ks s.ins[j] rv sv O)[q]:=Bq (by simpa using hq);have X:=J q _ h1;rw[q1 q _ V] at X;rw[h1,V,X]
    .rw[lP (by omega),lP (by simp;omega)]
   subst e;exact q2.mod (Mod.refl (λ_=>False) _) (λ_ _ _ h=>h) λx hx hc=>by
    refine⟨?_,hx⟩;rcases hc with hc|hc
    .exact .inl hc
    .exact .inr (by rw[hc])
def XN{b:Nat}{s:GJ}{i:Option Nat}(h:V8 F w b s v sv C i)(hl:(s.ins.length+1)*88<=140737488355328) :
  AB prog 189 [.pointer (some ⟨b,0,none⟩)] (λv' w'=>AE w.heap.size ZS 5 (Cf λx=>(C x\/i=some x)/\x<w.heap.size) w' v' (A6 s.ins s.gone)/\Grow w w') w:=by
 refine uS1 (dB 266953 [] []) func189 (λ_ _ _=>⟨by conv=>lhs;reduce,by dsimp only[PI,AF],by kernel_rfl⟩) ?_;unfold uI;rw[BU,AH,AI];refine AJ h.c1 ?_;refine AA (L2 h.dG (by omega)) ?_;rintro v1 J ⟨q,j⟩;have m:AE w.heap.size ZS 5 (Cf λx=>(C x\/i=some x)/\x<w.heap.size) J v1 s.ins:=AE.mod q (Mod.refl (λ_=>False) _) (λ_ _ h=>h) λr x _ B=>B.mod (Mod.refl (λ_=>False) _) (λ_ _ _ h=>h) λ_ _ h=>h.1;rw[BU,AH,AI];refine AJ (j.cell h.c2 λh=>h) ?_;rw[BE];refine AD (λo=>?_) λo=>⟨by rw[A6,Bp o];exact m,j⟩;rw[BU,AH,AI];refine AJ (j.cell h.c2 λh=>h) ?_;refine⟨#[.int .u8 3,zI s.gone,.slice none 0 0,.slice none 0 0,.slice none 0 0],by kernel_rfl,?_⟩;refine Kh (w0:=w) Fz m j (cs:=Ks ⟨3,s.gone,[],[],[]⟩ (.slice none 0 0) (.slice none 0 0) (.slice none 0 0)) (x:=⟨3,s.gone,[],[],[]⟩) (by kernel_rfl) rfl ⟨_,_,_,rfl,An.nil,An.nil,An.nil⟩ (λ_ _ _=>Cf.one) ?_ hl (by simp only[maxLen];omega) λv' w' h1 O=>⟨by rw[A6,DN o];exact h1,O⟩;intro U V r y X hm Q;refine Q.mod hm (λx _ B e=>?_) λ_ _ h=>h;rcases e with e|e
 .have:=(AE.Aj q x e).1;omega
 .have:=j.size;omega
def AE.len{α β:Type}{B e k:Nat}{R:World->List Value->α->Prop}{l:List α}(h:AE B e k R w v l)(i:List β)(hl:i.length=l.length):AE B e k (λ_ _ (_:β)=>True) w v i:=by
 obtain⟨rows,h1,j,m,_⟩:=h;exact⟨rows,by rw[hl];exact h1,by rw[hl];exact j,m,λ_ _ _ _ _=>trivial⟩
def Hd(ins:List Dop)(set:List Attr):Bool:=match ins.getLast? with|some o=>decide (o.set=set)|none=>false
def CQ{l:List Dop}(h:0<l.length):l.getLast?=some l[l.length-1]:=by
 rw[qu];simp[show l.length-1<l.length by omega]
def OO{b:Nat}{s:GJ}{set:List Attr}(h:NG F w b s)(h1:I6 S w v rs)(h2:Ba S w sv set)(hS:∀x,S x->¬F x)
 (ee:(s.ins.length+1)*88<=140737488355328)(ef:∀o∈s.ins,(o.Ab.length+rs.length)*4<=140737488355328)(eh:rs.length*4<=140737488355328)(ej:set.length*48<=140737488355328) :
  AB prog 111 [.pointer (some ⟨b,0,none⟩),v,sv] (λ_ w'=>NG (λx=>F x\/w.heap.size<=x) w' b (NM s rs set)/\Mod F w w') w:=by
 refine uS3 (dB 67949137997 [([],[(7,13)]),([33],[(20,33)])] [(dC [14,17] [0,1,3,7,0,0,32,96,224,0,992,2016,4064,0,16352,32767,65535,131071] [[14]]),(dC [6,8,10,11,14] [0,0,2,6,14,0,32,0,224,480,992,2046,4095,8191,16383] [[6,8],[6,8,10,11]])]) func111 (λ_ _ _ _ _=>⟨by conv=>lhs;reduce,by dsimp only[PI,AF],by kernel_rfl⟩) ?_;unfold uI;have hI:=h;obtain⟨dv,iv,C,b7,h⟩:=h;obtain⟨pl,cl,rfl,ml⟩:=h1.shape;have ek:∃ga gc,iv=.slice ga s.ins.length gc:=by
  rcases h.ins with⟨O,Y,_⟩|⟨g,c,hh,O,_⟩
  .exact⟨none,0,by rw[O,Y];rfl⟩
  .exact⟨_,c,O⟩
 obtain⟨ga,gc,rfl⟩:=ek;refine AR (λvs w1=>w1=w/\rs≠[]) ?_ ?_;rotate_left
 .rw[Je];simp only[pf];rw[FH,Bp (by simp),AO,Aa];refine AD (λe=>?_) λe=>⟨trivial,λh=>e (TH.2 h)⟩;have:=TH.1 e;subst this;exact⟨by rw[NM,DN rfl];exact hI.sub λx i=>.inl i,Mod.refl _ _⟩
 rintro vs _ ⟨rfl,b8⟩ _;rename World=>w
 have gv:0<rs.length:=mN.2 b8;rw[BU,AH,AI];refine AJ h.c1 ?_;rw[AO,Am];have gw:s.ins.length*88<=140737488355328:=by omega
 rw[wrap64 (by omega) (by omega)];have key:NM s rs set=⟨s.done,Ff s.ins rs set,s.gone⟩:=by rw[NM,Bp b8]
 rw[key];refine AR (λvs w1=>vs=[.bool (Hd s.ins set)]/\Grow w w1) ?_ ?_;rotate_left
 .rw[Cu];refine AD (λen=>?_) λen=>?_
  .have a8:0<s.ins.length:=by omega
   rw[BU,AH,AI];refine AJ h.c1 ?_;have B:s.ins.length-1<s.ins.length:=by omega
   rw[show((s.ins.length:Int)-1)=((s.ins.length-1:Nat):Int) by omega];obtain⟨p,r,rfl,_,hr,hc,rv,b9,pv,rfl,q1,q2,q3⟩:=h.dG.get B;refine AS B ?_;rw[AH,Addr.add_add];refine AJ (hc 3 _ rfl) ?_;refine AA (Yr q2 h2) ?_;rintro v1 w1 ⟨rfl,g1⟩;exact⟨by rw[Hd,CQ a8],g1⟩
  .have:s.ins=[]:=Of (by omega);exact⟨by rw[Hd,this];rfl,Mod.refl _ _⟩
 rintro vs w3 ⟨rfl,g3⟩ _;rw[BQ,Nr];have gd:Grow w w3.drew:=g3.trans (Mod.drew _ _);have h':=h.grow gd;have zd:=gd.size;have bk:I6 (λx=>S x/\x<w.heap.size) w3.drew (.slice pl rs.length cl) rs:=(h1.Gw (by decide)).grow gd (by decide) λ_ _ h=>h;have bZ:Ba (λx=>S x/\x<w.heap.size) w3.drew sv set:=(h2.Gw (by decide)).grow gd (by decide) λ_ _ h=>h;generalize w3.drew=w4 at gd h' zd bk bZ ⊢;cases Z:Hd s.ins set with
 |true=>
  rw[FH,DN rfl];have a8:0<s.ins.length:=by
   cases hn:s.ins with
   |nil=>rw[Hd,hn] at Z;cases Z
   |cons a l=>simp
  have B:s.ins.length-1<s.ins.length:=by omega
  rcases h'.ins with⟨O,_⟩|⟨g,c,hh,O,Y,e3,e4,e5,e6,e7,e8,e9,a6,Q,aZ,bl,ba⟩
  .rw[O] at a8;simp at a8
  simp only[ny,pr] at O;obtain⟨rfl,rfl⟩:=O;obtain⟨rv,b9,pv,c4,_,ho,_⟩:=ba.2 _ B;obtain⟨o1,o2,o3,o4⟩:=ho (by omega);have c6:s.ins[s.ins.length-1].set=set:=by
   rw[Hd,CQ a8] at Z;simpa using Z
  rw[show((s.ins.length:Int)-1)=((s.ins.length-1:Nat):Int) by omega];refine AT (λk x=>(k=14/\x=hh)\/(k=17/\x=g)) ?_;rw[BU,AH,AI];refine AP ⟨h'.c1,λj _ e=>by rcases e with⟨_,e⟩|⟨_,e⟩;exact a6 e.symm;exact e6 e.symm⟩ ?_;rw[BU,AH,AI];refine AP ⟨h'.c1,λj _ e=>by rcases e with⟨_,e⟩|⟨_,e⟩;exact a6 e.symm;exact e6 e.symm⟩ ?_;refine AS B ?_;rw[AH,Addr.add_add,AI];refine AP ⟨c4 2 _ rfl,λj hj e=>by rcases e with⟨rfl,e⟩|⟨rfl,e⟩;exact Q e.symm;exact absurd hj (by decide)⟩ ?_;have c7:=ef s.ins[s.ins.length-1] (by simp);obtain⟨v',w5,r1,r2,r3,r4⟩:=AE.append (ty:=79) Is o1 bk (λ_ _=>Be.one) c7 (Nn _) (by simp only[maxLen];omega) λ_ _ _ _ h=>h;refine AX r1 ⟨(Mod.of_grownBy r3).mono λx _ e=>by rw[o2] at e;cases e;exact .inl ⟨rfl,rfl⟩,?_⟩;have ay:Mod (λx=>x=hh) w4 w5:=(Mod.of_grownBy r3).mono λx _ e=>by rw[o2] at e;cases e;rfl
  have bp:=AE.one r2;have eo:∃h2,v'.ownBlock=some h2/\h2<w5.heap.size:=by
   obtain⟨a,c',rfl,_,_,hp,hn⟩:=AE.shape r2;cases a with
   |none=>have:=hn rfl;simp at this;exact(b8 this.2).elim
   |some p=>obtain⟨g',rfl,q1,q2,q3⟩:=hp p rfl;exact⟨g',q3,q2⟩
  obtain⟨m,U,c9⟩:=eo;have ca:=r4 m U;have zz:=ay.size;have gA:g<w4.heap.size:=by
   have:=AE.Aj e3 g rfl;exact this.2
  have b0:∀x,dv.ownBlock=some x->x<w4.heap.size:=λx i=>(AE.Aj h'.done x i).2;have b1:Live w5 ⟨g,(s.ins.length-1)*5+2,none⟩:=by
   obtain⟨_,_,_,_,hl⟩:=AE.cellsOf e3 B;exact(hl 2 (by decide)).mod ay λe=>Q e.symm
  refine AS B ?_;rw[AH,Addr.add_add,AI];refine b1.st bp.1 bp.2 ⟨Mod.setCell _ _ _ (.inr ⟨rfl,rfl⟩),?_⟩;have cc:=LW w5 g ((s.ins.length-1)*5+2) v';have a7:∀x,m=x->x=hh\/w4.heap.size<=x:=by
   rintro x rfl;rcases ca with e|e
   .rw[o2] at e;cases e;exact .inl rfl
   .exact .inr e
  have nC:¬C m:=λi=>by rcases a7 _ rfl with e|e;exact e9 (e▸i);have:=(h'.cf _ i).2;omega
  have ep:m≠b:=λe=>by
   have er:b<w4.heap.size:=lU w4 ⟨b,0,none⟩ h'.c0;rcases a7 _ rfl with e'|e'
   .exact a6 (e'.symm.trans e)
   .omega
  have cd:m≠g:=λe=>by
   rcases a7 _ rfl with e'|e'
   .exact Q (e'.symm.trans e)
   .omega
  have et:dv.ownBlock≠some m:=λe=>by
   have:=b0 _ e;rcases a7 _ rfl with e'|e'
   .rw[e'] at e;exact aZ e
   .omega
  have mm:Mod (λx=>x=hh\/x=g) w4 (w5.setCell ⟨g,(s.ins.length-1)*5+2,none⟩ v'):=(ay.mono λ_ _ e=>.inl e).trans (cc.mono λ_ _ e=>.inr e);have an:¬(b=hh\/b=g):=by rintro(e|e);exact a6 e.symm;exact e6 e.symm
  have V:∀x,C x->¬(x=hh\/x=g):=by rintro x i (rfl|rfl);exact e9 i;exact e5 i
  have ch:AE 0 21 1 Be (w5.setCell ⟨g,(s.ins.length-1)*5+2,none⟩ v') v' (s.ins[s.ins.length-1].Ab++rs):=AE.mod r2 cc (λx i e=>by rw[U] at i;cases i;exact cd e) λ_ _ _ h=>h;have X:Ff s.ins rs set=s.ins.set (s.ins.length-1) ⟨s.ins[s.ins.length-1].kind,s.ins[s.ins.length-1].n,s.ins[s.ins.length-1].Ab++rs,s.ins[s.ins.length-1].set,s.ins[s.ins.length-1].patch⟩:=by
   unfold Ff;rw[CQ a8];simp only[c6,mF]
  have oA:=AE.Kz (AE.mod e3 ay (λx i e=>by simp only [Value.ownBlock,gM] at i;exact Q (e.symm.trans i.symm)) λ_ _ _ _=>trivial) B (show 2 < 5 by decide) bp.1;refine ⟨⟨dv,_,C,some m,mm.cell h'.c0 an,mm.cell h'.c1 an,mm.cell h'.c2 an,λq hq=>(h'.lv q hq).mod mm an,.inl h'.fb,h'.nb,λx i=>⟨.inl (h'.cf x i).1,No (h'.cf x i).2 mm.size⟩,
   AE.mod h'.done mm (λx i e=>by rcases e with rfl | rfl;exact aZ i;exact e7 i) λr x _ i=>i.cmod mm V,λx i=>⟨.inl (h'.dF x i).1,(h'.dF x i).2⟩,.inr ⟨g,gc,m,?_,rfl,?_,.inl e4,e5,e6,e7,?_,nC,ep,cd,et,?_,?_⟩⟩,?_⟩
  .rw[X,lG]
  .exact AE.len oA _ (by rw[X,lG])
  .rcases a7 _ rfl with e|e
   .exact .inl (e▸e8)
   .exact .inr (by omega)
  .rw[World.size_setCell];exact c9
  .rw[X];refine⟨by rw[lG];exact a8,λj hj=>?_⟩;rw[lG] at hj;obtain⟨eu,ew,ey,a1,a2,a3,a4⟩:=ba.2 j hj;by_cases bb:j=s.ins.length-1
   .subst bb;have cu:Nk w5 g (s.ins.length-1) s.ins[s.ins.length-1] rv b9 pv:=c4.mod ay λe=>Q e.symm;refine⟨v',b9,pv,λq u hu=>?_,?_,λ_=>?_,λe=>by rw[lG] at e;omega⟩
    .rw[oT] at hu;have hq:=(Ad.1 hu).1;simp only[gD,lX] at hq;by_cases cx:q=2
     .subst cx;simp only[ot,ow,gM] at hu;subst hu;obtain⟨u',ez⟩:=lD.1 b1.1;exact lM _ _ _ ez
     .rw[S4 _ _ _ _ (by intro e;simp only[Addr.mk.injEq] at e;omega)];refine cu q u ?_;rw[<-hu];match q,hq,cx with
      |0,_,_=>rfl
      |1,_,_=>rfl
      |3,_,_=>rfl
      |4,_,_=>rfl
    .rw[oT];refine⟨v',b9,pv,rfl,?_,?_,?_⟩
     .exact MG (by decide) ⟨ch,λx i=>.inr (by rw[U] at i;exact(lK i).symm)⟩
     .exact o3.mono (λ_ _ i=>.inl i) (λx hb i=>mm.same x hb (V x i)) (by decide) λ_ _ h=>h
     .exact o4.mono (λ_ _ i=>.inl i) (λx hb i=>mm.same x hb (V x i)) (by decide) λ_ _ h=>h
    .rw[oT];exact⟨ch,U,o3.mono (λ_ _ i=>i) (λx hb i=>mm.same x hb (V x i)) (by decide) λ_ _ h=>h,o4.mono (λ_ _ i=>i) (λx hb i=>mm.same x hb (V x i)) (by decide) λ_ _ h=>h⟩
   .have da:=(a4 (by omega)).cmod mm V;refine⟨eu,ew,ey,λq u hu=>?_,?_,λe=>by rw[lG] at e;omega,λ_=>?_⟩
    .rw[qX (by omega)] at hu;have hq:=(Ad.1 hu).1;simp only[gD,lX] at hq;rw[S4 _ _ _ _ (by intro e;simp only[Addr.mk.injEq] at e;omega)];exact ay.cell (a1 q u hu) λe=>Q e.symm
    .rw[qX (by omega)];exact da.mod (Mod.refl (λ_=>False) _) (λ_ _ _ h=>h) λ_ _ i=>.inl i
    .rw[qX (by omega)];exact da
  .refine(Grow.mod gd).trans (mm.mono λx _ e=>?_);rcases e with rfl|rfl
   .exact e8
   .exact e4
 |false=>
  rw[FH,Bp (by simp)];have X:Ff s.ins rs set=s.ins++[⟨2,0,rs,set,[]⟩]:=by
   unfold Ff;unfold Hd at Z;cases hl:s.ins.getLast? with
   |none=>rfl
   |some o=>rw[hl] at Z;simp only[mR] at Z;simp only;rw[Bp Z]
  have er:b<w4.heap.size:=lU w4 ⟨b,0,none⟩ h'.c0;have av:(Value.slice ga s.ins.length gc).ownBlock≠some b/\(∀g,(Value.slice ga s.ins.length gc).ownBlock=some g->F g/\¬C g/\g≠b/\dv.ownBlock≠some g/\b7≠some g/\g<w4.heap.size):=by
   rcases h'.ins with⟨O,Y,_⟩|⟨g,c,hh,O,Y,e3,e4,e5,e6,e7,e8,e9,a6,Q,_⟩
   .simp only[ny] at Y;obtain⟨rfl,_⟩:=Y;exact⟨λh=>(nomatch h),λg h=>(nomatch h)⟩
   .simp only[ny,pr] at O;obtain⟨rfl,rfl⟩:=O;refine⟨λe=>by simp only[Value.ownBlock,gM] at e;exact e6 e,λg' e=>?_⟩;simp only[Value.ownBlock,gM] at e;subst e;exact⟨e4,e5,e6,e7,λe=>by rw[Y] at e;cases e;exact Q rfl,(AE.Aj e3 _ rfl).2⟩
  obtain⟨av,I⟩:=av;have ax:∀x,b7=some x->F x/\¬C x/\x≠b/\dv.ownBlock≠some x/\x<w4.heap.size:=by
   intro x i;rcases h'.ins with⟨_,_,e⟩|⟨g,c,hh,O,Y,e3,e4,e5,e6,e7,e8,e9,a6,Q,aZ,bl,_⟩
   .rw[e] at i;cases i
   .rw[Y] at i;cases i;exact⟨e8,e9,a6,aZ,bl⟩
  refine AT (λk x=>(k=11/\(Value.slice ga s.ins.length gc).ownBlock=some x)\/(k=14/\x=b)) ?_;rw[BU,AH,AI];refine AP ⟨h'.c1,λj hj e=>by rcases e with⟨_,e⟩|⟨rfl,_⟩;exact av e;exact absurd hj (by decide)⟩ ?_;refine AA (Kk bk eh) ?_;rintro t1 w5 ⟨n1,g5⟩;refine⟨Grow.mod g5,?_⟩;refine AA (Eh (bZ.grow g5 (by decide) λ_ _ h=>h) ej) ?_;rintro t2 w6 ⟨n2,g6⟩;refine⟨Grow.mod g6,?_⟩;have dk:=g5.trans g6;have z5:=g5.size;have z6:=g6.size;have h6:=h'.grow dk;have dr:AE w4.heap.size 21 1 Be w6 t1 rs:=AE.mod n1 g6 (λ_ _ h=>h) λ_ _ _ h=>h;obtain⟨eA,gB,b2,_,_,eB,eC⟩:=AE.shape dr;obtain⟨gW,h0,b6,_⟩:=AE.shape n2;refine⟨#[.int .u8 2,zI 0,t1,t2,.slice none 0 0],by subst b2;subst b6;kernel_rfl,?_⟩;have hn:∃m,t1.ownBlock=some m/\w4.heap.size<=m/\m<w6.heap.size:=by
   cases eA with
   |none=>exact(b8 (eC rfl)).elim
   |some p=>obtain⟨g',_,q1,q2,q3⟩:=eB p rfl;exact⟨g',q3,q1,q2⟩
  obtain⟨m,U,c9,ca⟩:=hn
  let C2:Nat->Prop:=λx=>(C x\/b7=some x)/\x<w4.heap.size
  let C':Nat->Prop:=λx=>C2 x\/t2.ownBlock=some x
  let R:World->List Value->Dop×Bool->Prop:=λW r x=>match x.2 with
   |false=>Cf C2 W r x.1
   |true=>r=Ks x.1 t1 t2 (.slice none 0 0)/\AE 0 21 1 Be W t1 x.1.Ab/\Ba (λx=>t2.ownBlock=some x) W t2 x.1.set/\x.1.patch=[]
  have bd:∀W r y,R W r y->∀u∈r,u.oneCell'=true:=by
   rintro W r ⟨o,t⟩ hy;cases t with
   |false=>exact Cf.one hy
   |true=>
    obtain⟨rfl,_⟩:=hy;intro u hu;simp only[Mp,l9,nw] at hu;rcases hu with rfl|rfl|rfl|rfl|rfl
    .rfl
    .rfl
    .rw[b2];rfl
    .rw[b6];rfl
    .rfl
  have o6:AE 0 ZS 5 R w6 (.slice ga s.ins.length gc) (s.ins.map λo=>(o,false)):=by
   rcases h6.ins with⟨O,Y,_⟩|⟨g,c,hh,O,Y,e3,e4,e5,e6,e7,e8,e9,a6,Q,aZ,bl,ba⟩
   .rw[O] at Y ⊢;rw[Y];exact AE.nil
   .simp only[ny,pr] at O;obtain⟨rfl,rfl⟩:=O;refine AE.conv (AE.len e3 (s.ins.map λo=>(o,false)) (by simp)) λj hj r hr bd bc=>?_;have eI:j<s.ins.length:=by simpa using hj
    obtain⟨rv,ak,pv,q1,q2,_,_⟩:=ba.2 j eI;have e:r=Ks s.ins[j] rv ak pv:=by
     refine mj λq=>?_;by_cases hq:q<5
     .have h1:r[q]?=some r[q]:=Bq (by omega);have h2:(Ks s.ins[j] rv ak pv)[q]?=some (Ks s.ins[j] rv ak pv)[q]:=Bq (by simpa using hq);have h3:=bc q _ h1;rw[q1 q _ h2] at h3;rw[h1,h2,h3]
     .rw[lP (by omega),lP (by simp;omega)]
    subst e;rw[nA];refine q2.mod (Mod.refl (λ_=>False) _) (λ_ _ _ h=>h) λx i hc=>?_;rcases hc with hc|hc
    .exact⟨.inl hc,(h'.cf x hc).2⟩
    .subst hc;exact⟨.inr Y,(ax _ Y).2.2.2.2⟩
  have eL:∀W1 W2 r y,w6.heap.size<=W1.heap.size->Mod (λx=>(Value.slice ga s.ins.length gc).ownBlock=some x\/w6.heap.size<=x) W1 W2->R W1 r y->R W2 r y:=by
   rintro W1 W2 r ⟨o,t⟩ hz hm hy;cases t with
   |false=>
    refine Cf.mod hy hm (λx _ i e=>?_) λ_ _ h=>h;rcases e with e|e
    .obtain⟨_,q2,_,_,q5,_⟩:=I x e;rcases i.1 with hc|hc
     .exact q2 hc
     .exact q5 hc
    .have:=i.2;omega
   |true=>
    obtain⟨q1,q2,q3,q4⟩:=hy;refine⟨q1,AE.mod q2 hm (λx i e=>?_) λ_ _ _ h=>h,q3.mono (λ_ _ h=>h) (λx hb i=>hm.same x hb λe=>?_) (by decide) λ_ _ h=>h,q4⟩
    .rw[U] at i;cases i;rcases e with e|e
     .have:=(I _ e).2.2.2.2.2;omega
     .omega
    .have h1:=AE.Aj n2 x i;rcases e with e|e
     .have:=(I _ e).2.2.2.2.2;omega
     .omega
  refine Jq Fz o6 (Nn _) (cs:=Ks ⟨2,0,rs,set,[]⟩ t1 t2 (.slice none 0 0)) (x:=((⟨2,0,rs,set,[]⟩:Dop),true)) (by subst b2;subst b6;kernel_rfl) rfl ⟨rfl,AE.base dr λ_ _=>Nn _,An.sub (AE.sl n2) (λx _ i=>i.2) (by decide) λ_ _ h=>h,rfl⟩ bd eL (by simpa using ee) (by simp only[I3,maxLen];omega) (λ_ g=>Grow.mod g) λh4 v' w7 o7 eN m7 f7=>?_;refine⟨eN.mono λx _ e=>.inl ⟨rfl,e⟩,?_⟩;have z7:=m7.size;have dA:=AE.one o7;obtain⟨va,vc,rfl,_,_,eR,eX⟩:=AE.shape o7;cases va with
  |none=>have:=eX rfl;simp at this
  |some vp=>
  obtain⟨g7,rfl,_,h5,fa⟩:=eR _ rfl;have dT:(s.ins.map (λo=>(o,false))++[((⟨2,0,rs,set,[]⟩:Dop),true)]).length=(Ff s.ins rs set).length:=by rw[X];simp
  have J:=f7 g7 rfl;have bne:¬(Value.slice ga s.ins.length gc).ownBlock=some b:=av;have fo:∀x,C x->¬(Value.slice ga s.ins.length gc).ownBlock=some x:=λx i e=>(I x e).2.1 i;have h7:V8 F w7 b s dv (.slice ga s.ins.length gc) C b7->True:=λ_=>trivial;have l7:∀q,q<3->Live w7 ⟨b,q,none⟩:=λq hq=>(h6.lv q hq).mod m7 bne;rw[BU,AH,AI];refine(l7 1 (by decide)).st dA.1 dA.2 ⟨Mod.setCell _ _ _ (.inr ⟨rfl,rfl⟩),?_⟩;have al:=LW w7 b 1 (Value.slice (some ⟨g7,0,none⟩) (s.ins.map (λo=>(o,false))++[((⟨2,0,rs,set,[]⟩:Dop),true)]).length vc);have fs:∀q,q≠1->(⟨b,1,none⟩:Addr)≠⟨b,q,none⟩:=λq hq e=>by simp only[Addr.mk.injEq] at e;omega
  obtain⟨u1,fv⟩:=lD.1 (l7 1 (by decide)).1;have c8:∀q u,q≠1->w6.cell? ⟨b,q,none⟩=some u->(w7.setCell ⟨b,1,none⟩ (Value.slice (some ⟨g7,0,none⟩) (s.ins.map (λo=>(o,false))++[((⟨2,0,rs,set,[]⟩:Dop),true)]).length vc)).cell? ⟨b,q,none⟩=some u:=λq u hq hu=>(S4 _ _ _ _ (fs q hq)).trans (m7.cell hu bne);have ea:=lM w7 ⟨b,1,none⟩ (Value.slice (some ⟨g7,0,none⟩) (s.ins.map (λo=>(o,false))++[((⟨2,0,rs,set,[]⟩:Dop),true)]).length vc) fv;have ec:∀q,q<3->Live (w7.setCell ⟨b,1,none⟩ (Value.slice (some ⟨g7,0,none⟩) (s.ins.map (λo=>(o,false))++[((⟨2,0,rs,set,[]⟩:Dop),true)]).length vc)) ⟨b,q,none⟩:=λq hq=>(l7 q hq).set _ _;have b0:∀x,dv.ownBlock=some x->x<w4.heap.size:=λx i=>(AE.Aj h'.done x i).2;have ed:g7≠b:=λe=>by rcases J with h|h;exact bne (e▸h);omega
  have gb:¬C' g7:=by
   rintro(⟨i|i,B⟩|i)
   .rcases J with h|h
    .exact(I _ h).2.1 i
    .omega
   .rcases J with h|h
    .exact(I _ h).2.2.2.2.1 i
    .omega
   .have:=AE.Aj n2 _ i;rcases J with h|h
    .have:=(I _ h).2.2.2.2.2;omega
    .omega
  have gf:dv.ownBlock≠some g7:=λe=>by
   rcases J with h|h
   .exact(I _ h).2.2.2.1 e
   .have:=b0 _ e;omega
  have bs:∀x,C' x->¬x=b:=by
   rintro x (⟨i|i,B⟩|i) e
   .exact h'.nb (e▸i)
   .exact(ax x i).2.2.1 e
   .have:=AE.Aj n2 _ i;omega
  have gg:¬C' m:=by
   rintro(⟨_,B⟩|i)
   .omega
   .have:=AE.Aj n2 _ i;have:=(AE.Aj (AE.mod n1 (Mod.refl (λ_=>False) _) (λ_ _ h=>h) λ_ _ _ h=>h) _ U).2;omega
  have Cd:∀x,C x->C' x:=λx i=>.inl ⟨.inl i,(h'.cf x i).2⟩;have o8:AE 0 ZS 5 R (w7.setCell ⟨b,1,none⟩ (Value.slice (some ⟨g7,0,none⟩) (s.ins.map (λo=>(o,false))++[((⟨2,0,rs,set,[]⟩:Dop),true)]).length vc)) (Value.slice (some ⟨g7,0,none⟩) (s.ins.map (λo=>(o,false))++[((⟨2,0,rs,set,[]⟩:Dop),true)]).length vc) (s.ins.map (λo=>(o,false))++[((⟨2,0,rs,set,[]⟩:Dop),true)]):=by
   refine AE.mod o7 al (λx i e=>?_) λr y _ hy=>?_
   .simp only[Value.ownBlock,gM] at i;subst i;exact ed e
   .obtain⟨o,t⟩:=y;cases t with
    |false=>exact Cf.mod hy al (λx _ i e=>bs x (.inl i) e) λ_ _ h=>h
    |true=>
     obtain⟨q1,q2,q3,q4⟩:=hy;refine⟨q1,AE.mod q2 al (λx i e=>?_) λ_ _ _ h=>h,q3.mono (λ_ _ h=>h) (λx hb i=>al.same x hb λe=>bs x (.inr i) e) (by decide) λ_ _ h=>h,q4⟩;rw[U] at i;cases i;omega
  generalize hW:w7.setCell ⟨b,1,none⟩ (Value.slice (some ⟨g7,0,none⟩) (s.ins.map (λo=>(o,false))++[((⟨2,0,rs,set,[]⟩:Dop),true)]).length vc)=W at al c8 ea ec o8 ⊢;have z8:=al.size;have bx:Mod (λx=>(Value.slice ga s.ins.length gc).ownBlock=some x\/x=b) w6 W:=(m7.mono λ_ _ e=>.inl e).trans (al.mono λ_ _ e=>.inr e);have Cm:∀x,C x->¬((Value.slice ga s.ins.length gc).ownBlock=some x\/x=b):=by
   rintro x i (e|e)
   .exact fo x i e
   .exact h'.nb (e▸i)
  refine⟨⟨dv,_,C',some m,c8 0 _ (by decide) h6.c0,ea,c8 2 _ (by decide) h6.c2,ec,.inl h'.fb,λi=>bs b i rfl,?_,?_,λx i=>⟨.inl (h'.dF x i).1,?_,(h'.dF x i).2.2⟩,.inr ⟨g7,vc,m,?_,rfl,?_,?_,gb,ed,gf,.inr (by omega),gg,by omega,?_,?_,by omega,?_⟩⟩,?_⟩
  .rintro x (⟨i|i,B⟩|i)
   .exact⟨.inl (h'.cf x i).1,by omega⟩
   .exact⟨.inl (ax x i).1,by omega⟩
   .have:=AE.Aj n2 _ i;exact⟨.inr (by omega),by omega⟩
  .refine AE.mod h6.done bx (λx i e=>?_) λr x _ i=>(i.cmod bx Cm).mod (Mod.refl (λ_=>False) _) (λ_ _ _ h=>h) λy _ hy=>Cd y hy;rcases e with e|e
   .exact(I _ e).2.2.2.1 i
   .exact(h'.dF x i).2.2 e
  .rintro(⟨hc|hc,B⟩|hc)
   .exact(h'.dF x i).2.1 hc
   .exact(ax x hc).2.2.2.1 i
   .have:=AE.Aj n2 _ hc;have:=b0 x i;omega
  .rw[dT]
  .exact AE.len o8 _ dT.symm
  .rcases J with h|h
   .exact .inl (I _ h).1
   .exact .inr (by omega)
  .intro e;rcases J with h|h
   .have:=(I _ h).2.2.2.2.2;omega
   .omega
  .intro e;have:=b0 _ e;omega
  .rw[X];refine⟨by simp,λj hj=>?_⟩;have gl:j<(s.ins.map (λo=>(o,false))++[((⟨2,0,rs,set,[]⟩:Dop),true)]).length:=by simpa using hj
   obtain⟨r,hr,bc,hR,_⟩:=AE.cellsOf o8 gl;by_cases bb:j<s.ins.length
   .have O:(s.ins.map (λo=>(o,false))++[((⟨2,0,rs,set,[]⟩:Dop),true)])[j]=(s.ins[j],false):=by
     rw[nX (by simpa using bb)];simp
    have Y:(s.ins++[(⟨2,0,rs,set,[]⟩:Dop)])[j]=s.ins[j]:=by rw[nX bb]
    rw[O] at hR;have gm:Cf C2 W r s.ins[j]:=hR;obtain⟨rv,ak,pv,rfl,p1,p2,p3⟩:=gm;rw[Y];have rd:Cf C' W (Ks s.ins[j] rv ak pv) s.ins[j]:=Cf.mod (D:=C2) ⟨rv,ak,pv,rfl,p1,p2,p3⟩ (Mod.refl (λ_=>False) _) (λ_ _ _ h=>h) λx _ i=>.inl i;refine⟨rv,ak,pv,bc,rd.mod (Mod.refl (λ_=>False) _) (λ_ _ _ h=>h) λx _ i=>.inl i,λe=>?_,λ_=>rd⟩;simp at e;omega
   .have gr:j=s.ins.length:=by simp at hj;omega
    subst gr;have O:(s.ins.map (λo=>(o,false))++[((⟨2,0,rs,set,[]⟩:Dop),true)])[s.ins.length]=((⟨2,0,rs,set,[]⟩:Dop),true):=by
     rw[nG (by simp)];simp
    have Y:(s.ins++[(⟨2,0,rs,set,[]⟩:Dop)])[s.ins.length]=(⟨2,0,rs,set,[]⟩:Dop):=by rw[nG (by simp)];simp
    rw[O] at hR;obtain⟨rfl,q2,q3,q4⟩:=hR;rw[Y];refine⟨t1,t2,.slice none 0 0,bc,⟨t1,t2,.slice none 0 0,rfl,?_,?_,An.nil⟩,λ_=>⟨q2,U,?_,An.nil⟩,λe=>by simp at e⟩
    .exact MG (by decide) ⟨q2,λx i=>.inr (by rw[U] at i;exact(lK i).symm)⟩
    .exact An.sub q3 (λx _ i=>.inl (.inr i)) (by decide) λ_ _ h=>h
    .exact An.sub q3 (λx _ i=>.inr i) (by decide) λ_ _ h=>h
  .refine((Grow.mod gd).trans (Grow.mod dk)).trans (bx.mono λx _ e=>?_);rcases e with e|e
   .exact(I _ e).1
   .rw[e];exact h'.fb
def jR(W:World)(b:Nat)(i j m:Value)(l:∀q,q<3->Live W ⟨b,q,none⟩):∀W',W'=((W.setCell ⟨b,0,none⟩ i).setCell ⟨b,1,none⟩ j).setCell ⟨b,2,none⟩ m->Mod (λx=>x=b) W W'/\W'.cell? ⟨b,0,none⟩=some i/\W'.cell? ⟨b,1,none⟩=some j/\W'.cell? ⟨b,2,none⟩=some m/\(∀q,q<3->Live W' ⟨b,q,none⟩):=by
 rintro W' rfl;have ne:∀q o,q≠o->(⟨b,q,none⟩:Addr)≠⟨b,o,none⟩:=λq o B e=>by simp only[Addr.mk.injEq] at e;omega
 have I:=LW W b 0 i;have J:=LW (W.setCell ⟨b,0,none⟩ i) b 1 j;have O:=LW ((W.setCell ⟨b,0,none⟩ i).setCell ⟨b,1,none⟩ j) b 2 m;refine⟨(I.trans J).trans O,?_,?_,?_,λq B=>(((l q B).set _ _).set _ _).set _ _⟩
 .obtain⟨u,hu⟩:=lD.1 (l 0 (by decide)).1;rw[S4 _ _ _ _ (ne 2 0 (by decide)),S4 _ _ _ _ (ne 1 0 (by decide))];exact lM _ _ _ hu
 .obtain⟨u,hu⟩:=lD.1 ((l 1 (by decide)).set ⟨b,0,none⟩ i).1;rw[S4 _ _ _ _ (ne 2 1 (by decide))];exact lM _ _ _ hu
 .obtain⟨u,hu⟩:=lD.1 (((l 2 (by decide)).set ⟨b,0,none⟩ i).set ⟨b,1,none⟩ j).1;exact lM _ _ _ hu
def Gk(d:List Dop)(p:List Chg):Bool:=match d.getLast? with|some o=>decide (o.kind=1/\o.patch=p)|none=>false
def OF{b:Nat}{s:GJ}{n:Int}{p:List Chg}(h:NG F w b s)(h1:EV S w v p)(hS:∀x,S x->¬F x)
 (eu:s.done.length+s.ins.length+2<=1099511627776)(dr:p.length*56<=140737488355328) :
  AB prog 108 [.pointer (some ⟨b,0,none⟩),zI n,v] (λ_ w'=>NG (λx=>F x\/w.heap.size<=x) w' b (KQ s n p)/\Mod F w w') w:=by
 refine uS3 (dB 30872948944973 [([],[(7,12)]),([59],[(35,59)])] [(dC [6,7,10] [0,0,2,6,14,0,32,126,255,511,1023] [[6,7]]),(dC [7,9,10,13] [0,0,2,6,14,0,0,64,224,480,1022,2047,4095,8191] [[7],[7,9,10]])]) func108 (λ_ _ _ _ _=>⟨by conv=>lhs;reduce,by dsimp only[PI,AF],by kernel_rfl⟩) ?_;unfold uI;have hI:=h;have dA:(s.ins.length+1)*88<=140737488355328:=by omega
 obtain⟨dv,iv,C,bk,h⟩:=h;refine AR (λvs w1=>w1=w/\¬n<1) ?_ ?_;rotate_left
 .rw[Je];simp only[pf];rw[FH,Bp (by simp),Ai];refine AD (λe=>?_) λe=>⟨trivial,e⟩;exact⟨by rw[KQ,DN e];exact hI.sub λx i=>.inl i,Mod.refl _ _⟩
 rintro vs _ ⟨rfl,hn⟩ _;rename World=>w
 have key:KQ s n p=⟨FU (s.done++A6 s.ins s.gone) n p,[],0⟩:=by rw[KQ,Bp hn]
 rw[key];have gl:(A6 s.ins s.gone).length<=s.ins.length+1:=by unfold A6;split<;>simp
 have gd:Grow w w.drew:=Mod.drew _ _;have h':=h.grow gd;have zd:w.drew.heap.size=w.heap.size:=rfl;have bl:EV (λx=>S x/\x<w.heap.size) w.drew v p:=(h1.Gw (by decide)).grow gd (by decide) λ_ _ h=>h;have dT:b<w.drew.heap.size:=lU w.drew ⟨b,0,none⟩ h'.c0;have ea:∀x,dv.ownBlock=some x->x<w.drew.heap.size:=λx i=>(AE.Aj h'.done x i).2;have U:∀x,bk=some x->F x/\¬C x/\x≠b/\dv.ownBlock≠some x/\x<w.drew.heap.size:=by
  intro x i;rcases h'.ins with⟨_,_,e⟩|⟨g,c,hh,e1,e2,e3,e4,e5,e6,e7,e8,e9,ec,ew,ed,ee,_⟩
  .rw[e] at i;cases i
  .rw[e2] at i;cases i;exact⟨e8,e9,ec,ed,ee⟩
 rw[<-zd];generalize w.drew=w4 at gd h' zd bl dT ea U ⊢;have b8:dv.ownBlock≠some b:=λe=>(h'.dF b e).2.2 rfl
 let Z:Nat->Prop:=λx=>(C x\/bk=some x)/\x<w4.heap.size
 have b9:¬Z b:=by
  rintro⟨i|i,_⟩
  .exact h'.nb i
  .exact(U b i).2.2.1 rfl
 have bp:∀x,dv.ownBlock=some x->¬Z x:=by
  rintro x i ⟨hc|hc,_⟩
  .exact(h'.dF x i).2.1 hc
  .exact(U x hc).2.2.2.1 i
 have bs:∀x,Z x->F x:=by
  rintro x ⟨hc|hc,_⟩
  .exact(h'.cf x hc).1
  .exact(U x hc).1
 refine AT (λk x=>(k=7/\dv.ownBlock=some x)\/(k=10/\x=b)) ?_;rw[BU,AH,AI];refine AP ⟨h'.c0,λj hj e=>by rcases e with⟨_,e⟩|⟨rfl,_⟩;exact b8 e;exact absurd hj (by decide)⟩ ?_;refine AA (XN h' dA) ?_;rintro v5 w5 ⟨o5,g5⟩;refine⟨Grow.mod g5,?_⟩;have h5:=h'.grow g5;have z5:=g5.size;have d5:AE 0 ZS 5 (Cf Z) w5 dv s.done:=AE.mod h5.done (Mod.refl (λ_=>False) _) (λ_ _ h=>h) λr x _ i=>i.mod (Mod.refl (λ_=>False) _) (λ_ _ _ h=>h) λy _ O=>⟨.inl O,(h'.cf y O).2⟩;obtain⟨v6,w6,r1,o6,r3,r4⟩:=AE.append (ty:=22) Fz d5 (AE.sl o5) (λ_ _=>Cf.one) (by omega) (Nn _) (by simp only[maxLen];omega) λw' hg r y O=>O.mod (Mod.of_grownBy hg) (λx _ i e=>bp x e i) λ_ _ h=>h;have a1:Mod (λx=>dv.ownBlock=some x) w5 w6:=Mod.of_grownBy r3;refine AX r1 ⟨a1.mono λx _ e=>.inl ⟨rfl,e⟩,?_⟩;have z6:=a1.size;have bx:=AE.one o6;have l6:∀q,q<3->Live w6 ⟨b,q,none⟩:=λq hq=>(h5.lv q hq).mod a1 b8;have V:∀x,v6.ownBlock=some x->dv.ownBlock=some x\/w4.heap.size<=x:=λx i=>by rcases r4 x i with h|h;exact .inl h;exact .inr (by omega)
 rw[BU,AH,AI];refine(l6 0 (by decide)).st bx.1 bx.2 ⟨Mod.setCell _ _ _ (.inr ⟨rfl,rfl⟩),?_⟩;rw[BU,AH,AI];refine((l6 1 (by decide)).set _ _).st rfl rfl ?_;rw[BU,AH,AI];refine(((l6 2 (by decide)).set _ _).set _ _).st rfl rfl ?_;generalize bZ:((w6.setCell ⟨b,0,none⟩ v6).setCell ⟨b,1,none⟩ (.slice none 0 0)).setCell ⟨b,2,none⟩ (zI 0)=w7;obtain⟨a6,a7,a8,ak,l7⟩:=jR w6 b v6 (.slice none 0 0) (zI 0) l6 w7 bZ.symm;clear bZ;have z7:=a6.size
 let F1:Nat->Prop:=λx=>F x\/w4.heap.size<=x
 have c4:v6.ownBlock≠some b:=λe=>by rcases V b e with h|h;exact b8 h;omega
 have d7:AE 0 ZS 5 (Cf Z) w7 v6 (s.done++A6 s.ins s.gone):=AE.mod o6 a6 (λx i e=>c4 (e▸i)) λr x _ i=>i.cmod a6 λy O e=>b9 (e▸O);have K7:V8 F1 w7 b ⟨s.done++A6 s.ins s.gone,[],0⟩ v6 (.slice none 0 0) Z none:=by
  refine⟨a7,a8,ak,l7,.inl h'.fb,b9,λx i=>⟨.inl (bs x i),by have:=i.2;omega⟩,d7,λx i=>⟨?_,?_,λe=>c4 (e▸i)⟩,.inl ⟨rfl,rfl,rfl⟩⟩
  .rcases V x i with h|h
   .exact .inl (h'.dF x h).1
   .exact .inr h
  .intro hc;rcases V x i with h|h
   .exact bp x h hc
   .have:=hc.2;omega
 have c6:Mod F w4 w7:=((Grow.mod g5).trans (a1.mono λx _ e=>(h'.dF x e).1)).trans (a6.mono λx _ e=>by rw[e];exact h'.fb);have ef:Mod F w w7:=(Grow.mod gd).trans c6;have p7:EV (λx=>S x/\x<w.heap.size) w7 v p:=bl.mono (λ_ _ h=>h) (λx hb i=>c6.same x hb (hS x i.1)) (by decide) λ_ _ h=>h;have c7:(s.done++A6 s.ins s.gone).length<=s.done.length+s.ins.length+1:=by simp;omega
 generalize hD:s.done++A6 s.ins s.gone=D at K7 d7 c7 ⊢;clear o6 r1 r3 r4 V a7 a8 ak l6 a1 a6 o5 h5 d5;obtain⟨va,vc,rfl,_,_,eh,ej⟩:=AE.shape d7;rw[BU,AH,AI];refine AJ K7.c0 ?_;rw[AO,Am,wrap64 (by omega) (by omega)];refine AR (λvs I=>vs=[.bool (Gk D p)]/\Grow w7 I) ?_ ?_;rotate_left
 .rw[Cu];refine AD (λek=>?_) λek=>?_
  .have Q:0<D.length:=by omega
   have J:D.length-1<D.length:=by omega
   rw[show((D.length:Int)-1)=((D.length-1:Nat):Int) by omega];rw[BU,AH,AI];refine AJ K7.c0 ?_;obtain⟨q,r,rfl,_,hr,hc,rv,ba,bb,rfl,q1,q2,q3⟩:=(AE.sl d7).get J;refine AS J ?_;rw[AH,Addr.add_add];refine AJ (hc 0 _ rfl) ?_;rw[Aa];refine AD (λhk=>?_) λhk=>⟨by rw[Gk,CQ Q];simp[hk],Mod.refl _ _⟩;rw[BU,AH,AI];refine AJ K7.c0 ?_;refine AS J ?_;rw[AH,Addr.add_add];refine AJ (hc 4 _ rfl) ?_;refine AA (Ye q3 p7) ?_;rintro v1 I ⟨rfl,g8⟩;exact⟨by rw[Gk,CQ Q];simp[hk],g8⟩
  .have:D=[]:=Of (by omega);exact⟨by rw[Gk,this];rfl,Mod.refl _ _⟩
 rintro vs I ⟨rfl,g8⟩ _;rw[BQ,Nr];have B:=K7.grow g8;have z8:=g8.size;have d8:AE 0 ZS 5 (Cf Z) I (.slice va D.length vc) D:=B.done;have p8:EV (λx=>S x/\x<w.heap.size) I v p:=p7.grow g8 (by decide) λ_ _ h=>h;have c8:Mod F w I:=ef.trans (Grow.mod g8);have vb:(Value.slice va D.length vc).ownBlock≠some b:=λe=>(B.dF b e).2.2 rfl;cases m:Gk D p with
 |true=>
  rw[FH,DN rfl];have Q:0<D.length:=by
   cases hn:D with
   |nil=>rw[Gk,hn] at m;cases m
   |cons a l=>simp
  have J:D.length-1<D.length:=by omega
  rw[Gk,CQ Q] at m;simp only[jD] at m;rw[show((D.length:Int)-1)=((D.length-1:Nat):Int) by omega];cases va with
  |none=>rw[ej rfl] at Q;simp at Q
  |some vp=>
  obtain⟨g7,rfl,_,ey,_⟩:=eh _ rfl;rw[BU,AH,AI];refine AJ B.c0 ?_;obtain⟨q,r,e,_,hr,hc,rv,ba,bb,rfl,q1,q2,q3⟩:=(AE.sl d8).get J;cases e;refine AS J ?_;rw[AH,Addr.add_add];refine AJ (hc 1 _ rfl) ?_;rw[AM];refine AS J ?_;rw[AH,Addr.add_add];obtain⟨en,c9,ax⟩:=B.dF g7 rfl;obtain⟨⟨u,hu⟩,hf,ho,hm⟩:=AE.store (R':=Cf Z) (u:=zI (IntKind.i64.wrap (D[D.length-1].n+n))) (x':=⟨D[D.length-1].kind,IntKind.i64.wrap (D[D.length-1].n+n),D[D.length-1].Ab,D[D.length-1].set,D[D.length-1].patch⟩) d8 J (show 1<5 by decide) rfl
   (λr y _ O=>O.mod (Mod.setCell (M:=λx=>x=g7) _ _ _ (by rw[AI])) (λx _ i e=>c9 (e▸i)) λ_ _ h=>h)
   (λr O=>by
    obtain ⟨rv,ba,bb,rfl,p1,p2,p3⟩:=O.mod (D':=Z) (Mod.setCell (M:=λx=>x=g7) I ((⟨g7,0,none⟩:Addr).add ((D.length - 1) * 5+1)) (zI (IntKind.i64.wrap (D[D.length - 1].n+n))) (by rw [AI])) (λx _ i e=>c9 (e ▸ i)) λ_ _ h=>h;exact ⟨rv,ba,bb,rfl,p1,p2,p3⟩)
  refine Kx rfl rfl hu hf ?_;have al:FU D n p=D.set (D.length-1) ⟨D[D.length-1].kind,IntKind.i64.wrap (D[D.length-1].n+n),D[D.length-1].Ab,D[D.length-1].set,D[D.length-1].patch⟩:=by
   unfold FU;rw[CQ Q];simp only[m,and_self,mF]
  have X:Mod (λx=>x=g7) I (I.setCell ((⟨g7,0,none⟩:Addr).add ((D.length-1)*5+1)) (zI (IntKind.i64.wrap (D[D.length-1].n+n)))):=hm;refine⟨⟨_,_,Z,none,X.cell B.c0 (λe=>ax e.symm),X.cell B.c1 (λe=>ax e.symm),X.cell B.c2 (λe=>ax e.symm),λq hq=>(B.lv q hq).mod X (λe=>ax e.symm),B.fb,B.nb,λx i=>⟨(B.cf x i).1,No (B.cf x i).2 X.size⟩,by rw[al];exact ho,B.dF,.inl ⟨rfl,rfl,rfl⟩⟩,?_⟩;refine c8.next X λx i e=>?_;subst e;rcases en with h|h
  .exact h
  .omega
 |false=>
  rw[FH,Bp (by simp)];have ay:Grow I I.drew:=Mod.drew _ _;have K9:=B.grow ay;have eo:I.drew.heap.size=I.heap.size:=rfl;have p9:EV (λx=>S x/\x<w.heap.size) I.drew v p:=p8.grow ay (by decide) λ_ _ h=>h;have ca:Mod F w I.drew:=c8.trans (Grow.mod ay);generalize I.drew=w9 at ay K9 eo p9 ca ⊢;refine AT (λk x=>(k=10/\(Value.slice va D.length vc).ownBlock=some x)\/(k=13/\x=b)) ?_;rw[BU,AH,AI];refine AP ⟨K9.c0,λj hj e=>by rcases e with⟨_,e⟩|⟨rfl,_⟩;exact vb e;exact absurd hj (by decide)⟩ ?_;refine AA (Qh p9 dr) ?_;rintro t1 bc ⟨n1,aZ⟩;refine⟨Grow.mod aZ,?_⟩;have b0:=K9.grow aZ;have ez:=aZ.size;obtain⟨eA,eB,b2,_⟩:=AE.shape n1;refine⟨#[.int .u8 1,zI n,.slice none 0 0,.slice none 0 0,t1],by subst b2;kernel_rfl,?_⟩
  let C2:Nat->Prop:=λx=>Z x\/t1.ownBlock=some x
  have an:∀x,t1.ownBlock=some x->w9.heap.size<=x/\x<bc.heap.size:=λx i=>AE.Aj n1 x i;have ep:∀x,(Value.slice va D.length vc).ownBlock=some x->x<I.heap.size:=λx i=>(AE.Aj d8 x i).2;have cc:∀x,(Value.slice va D.length vc).ownBlock=some x->¬C2 x:=by
   rintro x i (hc|hc)
   .exact(B.dF x i).2.1 hc
   .have:=an x hc;have:=ep x i;omega
  have cd:¬C2 b:=by
   rintro(hc|hc)
   .exact b9 hc
   .have:=an b hc;omega
  have er:AE 0 ZS 5 (Cf C2) bc (.slice va D.length vc) D:=AE.mod b0.done (Mod.refl (λ_=>False) _) (λ_ _ h=>h) λr x _ i=>i.mod (Mod.refl (λ_=>False) _) (λ_ _ _ h=>h) λy _ O=>.inl O;have al:FU D n p=D++[⟨1,n,[],[],p⟩]:=by
   unfold FU;unfold Gk at m;cases hl:D.getLast? with
   |none=>rfl
   |some o=>rw[hl] at m;simp only[mR] at m;simp only;rw[Bp m]
  refine Jq Fz er (Nn _) (cs:=Ks ⟨1,n,[],[],p⟩ (.slice none 0 0) (.slice none 0 0) t1) (x:=⟨1,n,[],[],p⟩) (by subst b2;kernel_rfl) rfl ⟨_,_,_,rfl,An.nil,An.nil,An.sub (AE.sl n1) (λx _ i=>.inr i.2) (by decide) λ_ _ h=>h⟩ (λ_ _ _=>Cf.one) ?_ (by omega) (by simp only[maxLen];omega) (λ_ g=>Grow.mod g) λet v' Y ch cu b1 cx=>?_
  .intro W1 W2 r y hz hm O;refine O.mod hm (λx _ i e=>?_) λ_ _ h=>h;rcases e with e|e
   .exact cc x e i
   .rcases i with hc|hc
    .have:=hc.2;omega
    .have:=an x hc;omega
  refine⟨cu.mono λx _ e=>.inl ⟨rfl,e⟩,?_⟩;have eC:=b1.size;have b6:=AE.one ch;rw[BU,AH,AI];have bd:∀q,q<3->Live Y ⟨b,q,none⟩:=λq hq=>(b0.lv q hq).mod b1 vb;refine(bd 0 (by decide)).st b6.1 b6.2 ⟨Mod.setCell _ _ _ (.inr ⟨rfl,rfl⟩),?_⟩;have av:=LW Y b 0 v';have ne:∀q,q≠0->(⟨b,0,none⟩:Addr)≠⟨b,q,none⟩:=λq hq e=>by simp only[Addr.mk.injEq] at e;omega
  obtain⟨u,hu⟩:=lD.1 (bd 0 (by decide)).1;have da:v'.ownBlock≠some b:=λe=>by rcases cx b e with h|h;exact vb h;omega
  have b7:∀q,q<3->Live (Y.setCell ⟨b,0,none⟩ v') ⟨b,q,none⟩:=λq hq=>(bd q hq).set _ _;have dk:=lM Y ⟨b,0,none⟩ v' hu;have co:∀q u,q≠0->bc.cell? ⟨b,q,none⟩=some u->(Y.setCell ⟨b,0,none⟩ v').cell? ⟨b,q,none⟩=some u:=λq u hq hu=>(S4 _ _ _ _ (ne q hq)).trans (b1.cell hu vb);generalize Y.setCell ⟨b,0,none⟩ v'=W at av b7 dk co ⊢;have eI:=av.size;refine⟨⟨v',_,C2,none,dk,co 1 _ (by decide) b0.c1,co 2 _ (by decide) b0.c2,b7,.inl h'.fb,cd,λx i=>?_,?_,λx i=>?_,.inl ⟨rfl,rfl,rfl⟩⟩,?_⟩
  .rcases i with hc|hc
   .exact⟨.inl (bs x hc),by have:=hc.2;omega⟩
   .have:=an x hc;exact⟨.inr (by omega),by omega⟩
  .rw[al];exact AE.mod ch av (λx i e=>da (e▸i)) λr x _ i=>i.cmod av λy O e=>cd (e▸O)
  .rcases cx x i with h|h
   .exact⟨(B.dF x h).1,cc x h,(B.dF x h).2.2⟩
   .refine⟨.inr (by omega),?_,λe=>da (e▸i)⟩;rintro(hc|hc)
    .have:=hc.2;omega
    .have:=an x hc;omega
  .refine((ca.trans (Grow.mod aZ)).next b1 λx i e=>?_).next av λx _ e=>by rw[e];exact h'.fb
   rcases(B.dF x e).1 with h|h
   .exact h
   .omega
def DX(l m:List Dop):Aq (l++m)=Aq l+Aq m:=by simp[Aq]
def Fk(o:Dop):Aq [o]=Eu o:=by simp[Aq]
def SM(ins:List Dop)(g:Int):Aq (A6 ins g)<=Aq ins+1:=by
 unfold A6;split
 .rw[DX,Fk];simp[Eu,IE,JJ]
 .omega
def eJ(d:List Dop)(n:Int)(p:List Chg):Aq (FU d n p)<=Aq d+1+JJ p:=by
 rcases E9 d with rfl|⟨i,b,rfl⟩
 .simp[FU,Aq,Eu,IE]
 .unfold FU;rw[cq,kY,lu];simp only;split
  .rw[Jd];simp only[DX,Fk,Eu];omega
  .simp only[DX,Fk,Eu,IE,lX,mh,oG];omega
def dx(d:List Dop)(rs:List Int)(set:List Attr):Aq (Ff d rs set)<=Aq d+1+rs.length+IE set:=by
 rcases E9 d with rfl|⟨i,b,rfl⟩
 .simp[Ff,Aq,Eu,JJ]
 .unfold Ff;rw[cq,kY,lu];simp only;split
  .rw[Jd];simp only[DX,Fk,Eu,BW];omega
  .simp only[DX,Fk,Eu,JJ,mh,oG];omega
def bf(s:GJ)(o:Dop):Aq (Bu s o).done+Aq (Bu s o).ins<=Aq s.done+Aq s.ins+2*Eu o:=by
 have h0:1<=Eu o:=by simp[Eu];omega
 unfold Bu;split
 .unfold KQ;split
  .omega
  .have h1:=eJ (s.done++A6 s.ins s.gone) o.n o.patch;have i:=SM s.ins s.gone;rw[DX] at h1;simp only[Eu] at h0 ⊢;simp only[Aq,mh,oG] at h1 i ⊢;omega
 .split
  .unfold NM;split
   .omega
   .have h1:=dx s.ins o.Ab o.set;simp only[Eu] at h0 ⊢;omega
  .simp only[RX];omega
def Ly(x:List Dop):Aq (BG x).done+Aq (BG x).ins<=2*Aq x:=by
 induction x using Ij with
 |h0=>exact Nn _
 |h1 x o i=>
  have e:BG (x++[o])=Bu (BG x) o:=by simp[BG]
  rw[e,DX,Fk];have:=bf (BG x) o;omega
def OM{l:List Dop}:Aq (EH l)<=Aq l:=by
 unfold EH;split
 .split
  .rw[pI];exact RZ _ _
  .exact K8 _
 .exact K8 _
def XQ{b:Nat}{s:GJ}(h:NG F w b s)(hb:Aq s.done+Aq s.ins<=274877906944) :
  AB prog 112 [.pointer (some ⟨b,0,none⟩)] (λv' w'=>Em w.heap.size w' v' (QI s)/\Grow w w') w:=by
 refine uS1 (dB 559653065817 [([3],[(3,4),(15,39)])] [(dC [5,6,7] [0,1,3,7,0,16,63,127,255] [])]) func112 (λ_ _ _=>⟨by conv=>lhs;reduce,by dsimp only[PI,AF],by kernel_rfl⟩) ?_;unfold uI;obtain⟨dv,iv,C,O,h⟩:=h;have al:=Dv s.done;have an:=Dv s.ins;have av:=SM s.ins s.gone;have ax:=Dv (A6 s.ins s.gone);rw[Je];simp only[pf];rw[FH,Bp (by simp)];have V:Grow w w.drew:=Mod.drew _ _;have h':=h.grow V;have zd:w.drew.heap.size=w.heap.size:=rfl;rw[<-zd];have fin:∀{W':World},Grow w.drew W'->Grow w W':=λg=>V.trans g;generalize w.drew=X at V h' zd fin ⊢;refine AT (λ_ _=>False) ?_;rw[BU,AH,AI];refine AP ⟨h'.c0,λj hj e=>e⟩ ?_;refine AA (XN h' (by omega)) ?_;rintro v2 w2 ⟨o2,g2⟩;refine⟨g2,?_⟩;obtain⟨a1,c1,Y,ay,_⟩:=AE.shape h'.done;obtain⟨a2,c2,Z,aZ,_⟩:=AE.shape o2;refine JT (cs:=[dv,v2]) (by subst Y;subst Z;kernel_rfl) ?_;have Q:Grow w2 (w2.alloc (.cells [dv,v2].toArray 22)):=Mod.alloc _ _ _;have o:∀j v,[dv,v2][j]?=some v->(w2.alloc (.cells [dv,v2].toArray 22)).cell? ((⟨w2.heap.size,0,none⟩:Addr).add j)=some v:=λj v hv=>FQ hv;generalize w2.alloc (.cells [dv,v2].toArray 22)=w3 at Q o ⊢;refine⟨Q,?_⟩;have B:=g2.trans Q;have z3:=B.size;have rd:Ak (λ_=>True) (λx=>C x) w3 dv s.done:=An.sub (AE.sl (h'.grow B).done) (λ_ _ _=>trivial) (by decide) λ_ _ h=>h;have rg:Ak (λ_=>True) (λx=>(C x\/O=some x)/\x<X.heap.size) w3 v2 (A6 s.ins s.gone):=by
  have:=AE.mod (R':=Cf λx=>(C x\/O=some x)/\x<X.heap.size) o2 Q (λ_ _ h=>h) λr y _ hy=>hy.mod Q (λ_ _ _ h=>h) λ_ _ h=>h;exact An.sub (AE.sl this) (λ_ _ _=>trivial) (by decide) λ_ _ h=>h
 refine AA (Qn rd rg (by rw[<-AI w2.heap.size 0];exact o 0 _ rfl) (o 1 _ rfl) (by omega)) ?_;rintro v4 w4 ⟨o4,g4⟩;refine⟨g4,?_⟩;have m:=B.trans g4;have b0:=m.size;have a6:Aq (s.done++A6 s.ins s.gone)<=549755813888:=by rw[DX];omega
 have a7:QI s=EH (s.done++A6 s.ins s.gone):=rfl;rw[a7];generalize s.done++A6 s.ins s.gone=L at o4 a6 ⊢;have b1:=Dv L;have r4:=AE.sl o4;obtain⟨va,vc,rfl,_,_,_⟩:=AE.shape o4;refine AR (λvs w5=>∃v,vs=[v]/\Grow X w5/\Ak (λ_=>True) (λ_=>True) w5 v (EH L)) ?_ ?_
 .rintro vs w5 ⟨v,rfl,g5,h5⟩ _;rw[BQ,Nr];refine AA (EZ h5 (by have:=OM (l:=L);omega)) ?_;rintro v6 w6 ⟨o6,g6⟩;have:=g5.size;refine⟨?_,fin (g5.trans g6)⟩;refine AE.mod (AE.base o6 λg hg=>by have:=(AE.Aj o6 g hg).1;omega) (Mod.refl (λ_=>False) _) (λ_ _ h=>h) λr x _ hx=>hx.mod (Mod.refl (λ_=>False) _) (λ_ _ _ h=>h) λy _ hy=>⟨by omega,hy.2⟩
 .have U:Ak (λ_=>True) (λ_=>True) w4 (.slice va L.length vc) L:=An.sub r4 (λ_ _ _=>trivial) (by decide) λr x hx=>hx.mod (Mod.refl (λ_=>False) _) (λ_ _ _ h=>h) λ_ _ _=>trivial;rw[AO,Am,wrap64 (by omega) (by omega),Cu];refine AD (λa8=>?_) λa8=>?_
  .have I:0<L.length:=by omega
   have J:L.length-1<L.length:=by omega
   rw[show((L.length:Int)-1)=((L.length-1:Nat):Int) by omega];obtain⟨q,r,rfl,_,hr,hc,rv,b2,b6,rfl,q1,q2,q3⟩:=U.get J;refine AS J ?_;rw[AH,Addr.add_add];refine AJ (hc 0 _ rfl) ?_;rw[Aa];refine AD (λhk=>?_) λhk=>⟨_,rfl,m,by rw[EH,CQ I];simp only;rw[Bp (λh=>hk h.1)];exact U⟩;refine AS J ?_;rw[AH,Addr.add_add];refine AJ (hc 4 _ rfl) ?_;obtain⟨pa,pc,rfl,_⟩:=q3.shape;rw[AO,Aa];refine AD (λhp=>?_) λhp=>⟨_,rfl,m,by rw[EH,CQ I];simp only;rw[Bp (λh=>hp (TH.2 h.2))];exact U⟩;refine NK (e:=81) (i:=Tryz.t81) (by kernel_rfl) (by kernel_rfl) (by kernel_rfl) U (Nat.sub_le _ _) λv' ak=>?_;refine⟨v',rfl,m,?_⟩;rw[EH,CQ I];simp only;rw[DN ⟨hk,TH.1 hp⟩,pI];exact ak
  .have:L=[]:=Of (by omega);subst this;exact⟨_,rfl,m,U⟩
def An.rows{k:Nat}{R:World->List Value->α->Prop}{a:Option Addr}{c n:Nat}{m:List α}(U:An S k R w (.slice a n c) m)(I:∀r y,R w r y->∀u∈r,u.oneCell'=true) :
  ∃o:List (List Value),o.length=m.length/\(∀(i:Nat) (r:List Value),o[i]?=some r->r.length=k/\(∀u∈r,u.oneCell'=true)/\(∃p,a=some p/\∀j u,r[j]?=some u->w.cell? (p.add (i*k+j))=some u)/\∃y,m[i]?=some y/\R w r y):=by
 obtain⟨a',c',e,_,_,J⟩:=U;cases e;have gen:∀q,q<=m.length->∃o:List (List Value),o.length=q/\(∀(i:Nat) (r:List Value),o[i]?=some r->r.length=k/\(∀u∈r,u.oneCell'=true)/\(∃p,a=some p/\∀j u,r[j]?=some u->w.cell? (p.add (i*k+j))=some u)/\∃y,m[i]?=some y/\R w r y):=by
  intro q;induction q with
  |zero=>exact λ_=>⟨[],rfl,λi r h=>by simp at h⟩
  |succ q V=>
   intro hq;obtain⟨rs,O,X⟩:=V (by omega);obtain⟨p,r,Y,f2,Z,f4,Q⟩:=J q m[q] (by simp[show q<m.length by omega]);refine⟨rs++[r],by simp[O],λi r' B=>?_⟩;by_cases hi:i<q
   .rw[Q0 (by omega)] at B;exact X i r' B
   .have:i=q:=by have:=(Ad.1 B).1;simp[O] at this;omega
    subst this;rw[lF (by omega)] at B;simp[O] at B;subst B;exact⟨Z,I _ _ Q,⟨p,Y,f4⟩,m[i],by simp[show i<m.length by omega],Q⟩
 exact gen m.length (K8 _)
def Su{t ty e k bytes b:Nat}{R:World->List Value->α->Prop}{x:Value}{m:List α}(hE:Ch P t e k bytes)(hb:w.heap[b]?=some (.cells #[] e (0,0)))(Q:An S k R w x m)
 (I:∀w r y,R w r y->∀u∈r,u.oneCell'=true)(O:m.length*bytes<=140737488355328)(hR:∀w',w.grownBy w' (some b)->∀r y,R w r y->R w' r y) :
  ∃v' w',(Builtin.append_ #[t,t] ty [.slice (some ⟨b,0,none⟩) 0 0,x].toArray).run P w=.ok v' w'/\AE b e k R w' v' m/\Grow w w'/\∀g,v'.ownBlock=some g->g=b\/w.heap.size<=g:=by
 obtain⟨a,c,rfl,hm⟩:=Q.shape;have a7:b<w.heap.size:=(mZ.1 hb).1;have ho:AE b e k R w (.slice (some ⟨b,0,none⟩) 0 0) ([]:List α):=⟨[],⟨by simp,.inr ⟨b,0,#[],rfl,K8 _,hb,K8 _,by simp[maxLen],by simp,by simp⟩⟩,rfl,by simp,by simp⟩;obtain⟨v',w',B,r2,r3,r4⟩:=AE.append (ty:=ty) hE ho Q (λ_ _=>I _ _ _) (by simpa using O) (by omega) (by simpa using hm) (λw' U r y hy=>hR w' U r y hy);refine⟨v',w',B,by simpa using r2,?_,λg U=>?_⟩
 .obtain⟨i,z,ht,hi,hz,hs,V,a8,hk⟩:=hE;obtain⟨o,g1,g2⟩:=An.rows Q (λ_ _=>I _ _ _);have J:∀r∈o,r.length=k:=λr hr=>by obtain⟨j,hj⟩:=lz.1 hr;exact(g2 j r hj).1
  simp only[maxLen] at hm;by_cases X:m.length=0
  .have h0:(Builtin.append_ #[t,t] ty [.slice (some ⟨b,0,none⟩) 0 0,.slice a m.length c].toArray).run P w=.ok (.slice (some ⟨b,0,none⟩) 0 0) w:=by
    rw[X];cases a<;>simp[Builtin.append_,run_underlying ht,sizeOf,typeInfo,hi,Builtin.lenOf,Builtin.firstCells,storeCells,loadCells,loadCellsFrom]
   rw[h0] at B;cases B;exact Mod.refl _ _
  .obtain ⟨p,r,f1,_⟩:=Q.get (i:=0) (by omega);subst f1;have hr:=rL (P:=P) w t ty e i z ht hi hz ⟨b,0,none⟩ 0 0 [] (by simp) (by simp) p m.length c o.flatten (by rw [Cx o J,g1,hs]) (λq u hu=>by
    obtain ⟨r,hr,Y⟩:=H8 hk o J q u hu;obtain ⟨_,_,⟨p',Z,a1⟩,_⟩:=g2 _ r hr;cases Z;have:=a1 _ u Y;rwa [pR] at this) (by omega) (by omega) (rX (by omega) (by rw [V];simpa using O))
   have a6:(Builtin.append_ #[t,t] ty [.slice (some ⟨b,0,none⟩) 0 0,.slice (some p) m.length c].toArray).run P w=_:=hr;rw[a6] at B;cases B;exact(Mod.drew _ _).trans (Mod.alloc _ _ _)
 .rcases r4 g U with h|h
  .exact .inl (by simpa[Value.ownBlock] using h.symm)
  .exact .inr h
def UL{k:Nat}:∀(rows:List (List Value)) (j:Nat),(∀r∈rows,r.length=k)->rows.flatten.take (j*k)=(rows.take j).flatten:=by
 intro rows;induction rows with
 |nil=>intro j _;simp
 |cons r rows i=>
  intro j h;have h0:=h r (by simp);cases j with
  |zero=>simp
  |succ j=>
   rw[pK,nL,pK,<-i j λx m=>h x (by simp[m])];rw[oJ,mU (by rw[h0,mC];omega)];congr 2
   rw[h0,mC];omega
def AE.take{B e k:Nat}{R:World->List Value->α->Prop}{g n c:Nat}{l:List α}(h:AE B e k R w (.slice (some ⟨g,0,none⟩) n c) l)(o:j<=l.length):AE B e k R w (.slice (some ⟨g,0,none⟩) j c) (l.take j):=by
 obtain⟨rows,h1,O,Q,V⟩:=h;have m:∀r∈rows,r.length=k:=λr hr=>(Q r hr).1;refine⟨rows.take j,⟨?_,?_⟩,by rw[Lc,Lc,O],λr hr=>Q r (lJ hr),λi r x hr q=>?_⟩
 .rw[Cx _ λr hr=>m r (lJ hr),Lc,Lc,O]
 .rcases h1.2 with⟨U,_⟩|⟨g',cap,I,X,hb,Y,U,hm,Z,ht⟩
  .cases U
  .cases X;refine .inr ⟨g,c,I,by rw[Lc,lQ o],hb,Y,by rw[Lc];omega,hm,Z,?_⟩;rw[<-UL rows j m,<-ht,nB,Lc];congr 1
   rw[lQ o,lQ (mV _ o)]
 .rw[mT] at hr q;split at hr
  .rename_i J;rw[DN J] at q;exact V i r x hr q
  .cases hr
def Eo{t e k:Nat}{i:TypeInfo}{g n c j:Nat}(ht:P.underlying t=some (.slice e))(hi:P.info? e=some i)(hk:i.size=k)(o:j<=c)(w:World):(Instr.sliceAt t (.slice (some ⟨g,0,none⟩) n c) none (some (zI j)) none).run P w=.ok (.slice (some ⟨g,0,none⟩) j c) w:=by
 have m:P.elem t=e:=by simp[Program.elem,ht]
 rw[nS _ _ _ _ _ _ (by rw[m];exact ht),rf _ _ _ _ _ (by rw[m];exact ht) _ _ (by omega) (by omega),m];simp[sizeOf,typeInfo,hi,hk,sliced,Addr.add]
def DY{b:Nat}{q:Nat}{u:Value}{K:World->Prop}(hc:∀j v,vs[j]?=some v->W.cell? ⟨b,j,none⟩=some v)(hl:∀j,j<vs.length->Live W ⟨b,j,none⟩)(m:q<vs.length)(h1:u.oneCell'=true)(B:u.cells=#[u])
 (I:∀W',Mod (λx=>x=b) W W'->(∀j v,(vs.set q u)[j]?=some v->W'.cell? ⟨b,j,none⟩=some v)->(∀j,j<(vs.set q u).length->Live W' ⟨b,j,none⟩)->K W'):CB (.pointer (some ⟨b,q,none⟩)) u K W:=by
 refine(hl q m).st h1 B (I _ (Mod.setCell (M:=λx=>x=b) W ⟨b,q,none⟩ u rfl) (λj v i=>?_) λj J=>(hl j (by simpa using J)).set _ _);by_cases e:j=q
 .subst e;rw[lL m] at i;cases i;obtain⟨O,o⟩:=lD.1 (hl j m).1;exact lM _ _ _ o
 .rw[lY (oF e)] at i;rw[S4 _ _ _ _ (λe'=>by simp only[Addr.mk.injEq] at e';exact e e'.2.1.symm)];exact hc j v i
def Q9{t ty e k bytes:Nat}{R:World->List Value->α->Prop}{p:Addr}{x:Value}{l m:List α}(hE:Ch P t e k bytes)(h:An S k R w (.slice (some p) l.length l.length) l)(hx:An F k R w x m)(a8:0<m.length)
 (V:∀w r y,R w r y->∀u∈r,u.oneCell'=true)(ak:(l.length+m.length)*bytes<=140737488355328)(a6:l.length+m.length<=maxLen)(hR:∀w',Grow w w'->∀r y,R w r y->R w' r y) :
  ∃v' w',(Builtin.append_ #[t,t] ty [.slice (some p) l.length l.length,x].toArray).run P w=.ok v' w'/\AE w.heap.size e k R w' v' (l++m)/\Grow w w':=by
 obtain⟨i,z,ht,hi,hz,hs,al,an,hk⟩:=hE;obtain⟨a,c,rfl,hm⟩:=hx.shape;have a7:=a6;simp only[maxLen] at a6;obtain⟨rows,g1,g2⟩:=An.rows h (λ_ _=>V _ _ _);obtain⟨o,X,O⟩:=An.rows hx (λ_ _=>V _ _ _);have Q:∀r∈rows,r.length=k:=λr hr=>by obtain⟨j,B⟩:=lz.1 hr;exact(g2 j r B).1
 have I:∀r∈o,r.length=k:=λr hr=>by obtain⟨j,B⟩:=lz.1 hr;exact(O j r B).1
 obtain⟨pa,r0,f1,_⟩:=hx.get (i:=0) a8;subst f1;have get:∀{rs:List (List Value)} {q:Addr},(∀r∈rs,r.length=k)->(∀(i:Nat) (r:List Value),rs[i]?=some r->∀j u,r[j]?=some u->w.cell? (q.add (i*k+j))=some u)->∀(j:Nat) (u:Value),rs.flatten[j]?=some u->w.cell? (q.add j)=some u:=by
  intro rs q hl hc j u hu;obtain⟨r,hr,av⟩:=H8 hk rs hl j u hu;have:=hc _ r hr _ u av;rwa [pR] at this
 have hr:=rL (P:=P) w t ty e i z ht hi hz p l.length l.length rows.flatten (by rw [Cx rows Q,g1,hs]) (get Q λj r B q u hu=>by
   obtain⟨_,_,⟨p',Y,Z⟩,_⟩:=g2 j r B;cases Y;exact Z q u hu) pa m.length c o.flatten (by rw[Cx o I,X,hs]) (get I λj r B q u hu=>by
   obtain ⟨_,_,⟨p',Y,Z⟩,_⟩:=O j r B;cases Y;exact Z q u hu) (by omega) (by omega) (rX (by omega) (by rw [al];exact ak))
 have hg:Grow w (w.drew.alloc (.cells (rows.flatten.toArray++o.flatten.toArray++Builtin.zeroCells z.cells (grownCap w (l.length+m.length) l.length e-(l.length+m.length))) e)):=(Mod.drew _ _).trans (Mod.alloc _ _ _);have ax:=rY w (l.length+m.length) l.length e;have J:(rows.flatten++o.flatten).length=(l.length+m.length)*k:=by rw[BW,Cx rows Q,Cx o I,g1,X,mC]
 refine⟨_,_,hr,⟨rows++o,⟨by rw[qW,J,BW],.inr ⟨w.heap.size,_,_,by rw[BW],K8 _,px w.drew _,by rw[BW];exact ax,pZ w (l.length+m.length) l.length e a7,?_,?_⟩⟩,by simp[g1,X],λr hr=>?_,λj r y B hy=>?_⟩,hg⟩
 .simp only[py,nh,qk,an];have e1:=J;rw[BW] at e1;rw[e1,<-mC];congr 1;omega
 .simp only[Array.toList_append,BW,qW];have h3:(l.length+m.length)*k=(rows.flatten++o.flatten).length:=J.symm;rw[h3,nR (K8 _),S7]
 .rcases By.1 hr with h|h
  .obtain⟨j,B⟩:=lz.1 h;exact⟨(g2 j r B).1,(g2 j r B).2.1⟩
  .obtain⟨j,B⟩:=lz.1 h;exact⟨(O j r B).1,(O j r B).2.1⟩
 .refine hR _ hg r y ?_;by_cases ay:j<l.length
  .rw[Q0 (by omega)] at B;rw[Q0 ay] at hy;obtain⟨_,_,_,y',U,a1⟩:=g2 j r B;rw[hy] at U;cases U;exact a1
  .rw[lF (by omega),g1] at B;rw[lF (by omega)] at hy;obtain⟨_,_,_,y',U,a1⟩:=O _ r B;rw[hy] at U;cases U;exact a1
def Gu{α:Type}(e k:Nat)(R:World->List Value->α->Prop)(w:World)(v:Value)(l:List α):Prop:=
 AE 0 e k R w v l\/∃p,v=.slice (some p) l.length l.length/\p.block<w.heap.size/\An (λb=>b=p.block) k R w v l
section
variable {α:Type}{e k:Nat}{R R':World->List Value->α->Prop}{w w':World}{v:Value}{l:List α}{M:Nat->Prop}
def Gu.sl(h:Gu e k R w v l)(hk:0<k):An (λb=>v.ownBlock=some b) k R w v l:=by
 rcases h with h|⟨p,rfl,i,h⟩
 .exact(AE.sl h).sub (λ_ _ h=>h.2) hk λ_ _ h=>h
 .exact h.sub (λb _ e=>by rw[e];rfl) hk λ_ _ h=>h
def Gu.Aj(h:Gu e k R w v l):∀g,v.ownBlock=some g->g<w.heap.size:=by
 rcases h with h|⟨p,rfl,i,h⟩
 .exact λg j=>(AE.Aj h g j).2
 .intro g j;have:p.block=g:=lK j;rw[<-this];exact i
def Gu.mod(h:Gu e k R w v l)(hk:0<k)(hm:Mod M w w')(j:∀g,v.ownBlock=some g->¬M g)(m:∀r x,R w r x->R' w' r x):Gu e k R' w' v l:=by
 rcases h with h|⟨p,rfl,i,h⟩
 .exact .inl (AE.mod h hm j λr x _ o=>m r x o)
 .exact .inr ⟨p,rfl,No i hm.size,An.mono h (λ_ _ h=>h) (λb hb q=>hm.same b hb (j b (by rw[q];rfl))) hk m⟩
def Gu.one(h:Gu e k R w v l):v.oneCell'=true/\v.cells=#[v]:=by
 rcases h with h|⟨p,rfl,i,h⟩
 .exact AE.one h
 .exact⟨rfl,rfl⟩
def Gu.push{t bytes:Nat}{x:α}{q:List (Nat×Value)}(Y:Ch P t e k bytes)(h:Gu e k R w v l)
 (hf:Instr.fill (λi=>some (i*k,k)) ((Array.range (1*k)).map (vs.toArray[· % vs.toArray.size]!)) q=some cs.toArray)(Q:cs.length=k)(hx:R w cs x)(B:∀w r y,R w r y->∀u∈r,u.oneCell'=true)
 (X:∀o w2 r y,w.heap.size<=o.heap.size->Mod (λb=>v.ownBlock=some b\/w.heap.size<=b) o w2->R o r y->R w2 r y)(I:(l.length+1)*bytes<=140737488355328)(U:l.length+1<=maxLen)
 {Q1:World->Prop}{Q2:World->World->Prop}(V:∀o,Grow w o->Q1 o)
 (hK:∀o v' w',AE 0 e k R w' v' (l++[x])->Mod (λb=>v.ownBlock=some b) o w'->Mod (λb=>v.ownBlock=some b) w w'->(∀g,v'.ownBlock=some g->v.ownBlock=some g\/w.heap.size<=g)->Q2 o w'/\K v' w') :
  Dg e k 1 vs q (λs o=>Q1 o/\runK P (Builtin.append_ #[t,t] t [v,s].toArray) (λv' w'=>Q2 o w'/\K v' w') o) w:=by
 rcases h with h|⟨p,rfl,a1,h⟩
 .exact Jq Y h (Nn _) hf Q hx B X I U V hK
 refine⟨_,hf,?_⟩;have hk:0<k:=by obtain⟨_,_,_,_,_,_,_,_,hk⟩:=Y;exact hk
 have O:Grow w (w.alloc (.cells cs.toArray e)):=Mod.alloc _ _ _;have hc:∀j u,cs[j]?=some u->(w.alloc (.cells cs.toArray e)).cell? ((⟨w.heap.size,0,none⟩:Addr).add j)=some u:=λj u hu=>FQ hu;have hz:(w.alloc (.cells cs.toArray e)).heap.size=w.heap.size+1:=by simp
 generalize w.alloc (.cells cs.toArray e)=o at O hc hz ⊢;have h':=h.grow O hk λr y J=>X _ _ _ _ (K8 _) (O.mono λ_ _ h=>h.elim) J;have hs:An (λ_=>True) k R o (.slice (some ⟨w.heap.size,0,none⟩) 1 1) [x]:=by
  refine⟨_,1,rfl,K8 _,by simp[maxLen],λi y J=>?_⟩;have hi:i=0:=by have:=(Ad.1 J).1;simp at this;exact this
  subst hi;simp at J;subst J;exact⟨_,cs,rfl,trivial,Q,λj u hu=>by rw[pz,mQ];exact hc j u hu,X _ _ _ _ (K8 _) (O.mono λ_ _ h=>h.elim) hx⟩
 obtain⟨v',w',h1,h2,h3⟩:=Q9 (ty:=t) (m:=[x]) Y h' hs (by simp) B I U λw2 g r y J=>X _ _ _ _ (by omega) (g.mono λ_ _ h=>h.elim) J;refine⟨V _ O,AX h1 (hK o v' w' (h2.base λ_ _=>Nn _) (h3.mono λ_ _ h=>h.elim) ((O.trans h3).mono λ_ _ h=>h.elim) λg Z=>.inr ?_)⟩;have:=(AE.Aj h2 g Z).1;omega
end
def JH:List Value->Nat->List Value->List Value
 |r,_,[]=>r
 |r,p,v::vs=>JH (r.set p v) (p+1) vs
def Ll:∀(vs r:List Value) (p:Nat),(JH r p vs).length=r.length:=by
 intro vs;induction vs with
 |nil=>intro r p;rfl
 |cons v vs i=>intro r p;rw[JH,i,lG]
def Mv:∀(vs r:List Value) (p:Nat),p+vs.length<=r.length->JH r p vs=r.take p++vs++r.drop (p+vs.length):=by
 intro vs;induction vs with
 |nil=>intro r p _;simp[JH]
 |cons v vs i=>
  intro r p h;rw[gD] at h;rw[JH,i _ _ (by rw[lG];omega)];have h1:(r.set p v).take (p+1)=r.take p++[v]:=by
   rw[S5,lL (by omega),List.take_set_of_le (K8 _)];rfl
  rw[h1,qY (by omega),gD,show p+1+vs.length=p+(vs.length+1) by omega];simp
def Lm{vs r:List Value}(h:vs.length=r.length):JH r 0 vs=vs:=by
 rw[Mv _ _ _ (by omega),mQ,mn (by omega)];simp
def H6{vs r t:List Value}(h:vs.length=r.length):JH (r++t) 0 vs=vs++t:=by
 rw[Mv _ _ _ (by simp;omega),mQ];simp[h]
def bH{vs r q t:List Value}{p:Nat}(i:q.length=p)(h:vs.length=r.length):JH (q++r++t) p vs=q++vs++t:=by
 subst i;rw[Mv _ _ _ (by simp;omega)];simp[h]
def AE.rows{B e k:Nat}{R:World->List Value->α->Prop}{l:List α}(h:AE B e k R w v l) :
  ∃rows:List (List Value),AE B e k (λ_ r y=>y=r) w v rows/\rows.length=l.length/\(∀r∈rows,r.length=k/\∀u∈r,u.oneCell'=true)/\∀(i:Nat) (r:List Value) (x:α),rows[i]?=some r->l[i]?=some x->R w r x:=by
 obtain⟨rows,h1,j,m,q⟩:=h;exact⟨rows,⟨rows,by rw[j];exact h1,rfl,m,λi r x hr o=>by rw[hr] at o;cases o;rfl⟩,j,m,q⟩
def AE.ff{B e k:Nat}{R:World->List Value->α->Prop}{l:List α}{rows:List (List Value)}(h:AE B e k (λ_ r y=>y=r) w v rows)(hl:rows.length=l.length)(o:∀(i:Nat) (r:List Value) (x:α),rows[i]?=some r->l[i]?=some x->R w r x):AE B e k R w v l:=by
 obtain⟨j,h1,q,I,J⟩:=h;have e:j=rows:=by
  refine List.ext_getElem q λi hi m=>?_;exact(J i j[i] rows[i] (by simp[hi]) (by simp[m])).symm
 subst e;exact⟨j,by rw[<-hl];exact h1,hl,I,o⟩
def Rp{B e k:Nat}{a:Addr}{n c i:Nat}:∀(vs:List Value) (p j:Nat) (w:World) (rows:List (List Value)),AE B e k (λ_ r y=>y=r) w (.slice (some a) n c) rows->(hi:i<rows.length)->p+j+vs.length<=k->(∀u∈vs,u.oneCell'=true)->
  AE B e k (λ_ r y=>y=r) (EN w (a.add (i*k+p)) j vs) (.slice (some a) n c) (rows.set i (JH rows[i] (p+j) vs))/\Mod (λb=>b=a.block) w (EN w (a.add (i*k+p)) j vs):=by
 intro vs;induction vs with
 |nil=>intro p j w rows h hi _ _;simp only[EN,JH,rV];exact⟨h,Mod.refl _ _⟩
 |cons v vs q=>
  intro p j w rows h hi hk h1;rw[gD] at hk;simp only[EN,JH,Addr.add_add];obtain⟨_,_,I,hm⟩:=AE.store (R':=λ_ r y=>y=r) (u:=v) (x':=rows[i].set (p+j) v) (j:=p+j) h hi (by omega) (h1 v (by simp)) (λr y _ J=>J) (λr hr=>by rw[hr]);have m:i<(rows.set i (rows[i].set (p+j) v)).length:=by rw[lG];exact hi
  obtain⟨o,O⟩:=q p (j+1) _ _ I m (by omega) λu hu=>h1 u (by simp[hu]);rw[oT,sE] at o;rw[show i*k+(p+j)=i*k+p+j by omega] at *;exact⟨o,hm.trans O⟩
def AE.Oq{B e k:Nat}{R R':World->List Value->α->Prop}{a:Addr}{n c i p m:Nat}{l:List α}{x':α}{K:World->Prop}(h:AE B e k R w (.slice (some a) n c) l)(hi:i<l.length)(hm:vs.length=m)(hk:p+m<=k)(h1:∀u∈vs,u.oneCell'=true)
 (V:∀w' r y,Mod (λb=>b=a.block) w w'->y∈l->R w r y->R' w' r y)(X:∀w' r,Mod (λb=>b=a.block) w w'->R w r l[i]->r.length=k->(∀u∈r,u.oneCell'=true)->R' w' (JH r p vs) x')
 (Y:∀w',AE B e k R' w' (.slice (some a) n c) (l.set i x')->Mod (λb=>b=a.block) w w'->K w'):BP m (.pointer (some (a.add (i*k+p)))) (.agg vs.toArray) K w:=by
 obtain⟨rows,U,hl,Z,hr⟩:=h.rows;have o:i<rows.length:=by omega
 obtain⟨o2,O⟩:=Rp vs p 0 w rows U o (by omega) h1;refine⟨_,vs,rfl,rfl,hm,h1,λj hj=>?_,Y _ (AE.ff o2 (by rw[lG,lG,hl]) λq r x J I=>?_) O⟩
 .obtain⟨g,e1,_,Q⟩:=AE.live U o (j:=p+j) (by omega);cases e1;rw[Addr.add_add,show i*k+p+j=i*k+(p+j) by omega];exact Q
 .by_cases e:i=q
  .subst e;rw[lL o] at J;rw[lL hi] at I;cases J;cases I;have:=Z rows[i] (ku o);rw[lf];exact X _ _ O (hr i _ _ (Bq o) (Bq hi)) this.1 this.2
  .rw[lY e] at J I;exact V _ _ _ O (ln I) (hr q r x J I)
def Ve:∀(vs:List Value) (l:List Value) (p j:Nat),(vs.zipIdx j).foldl (λcs (x:Value×Nat)=>cs.setIfInBounds (p+x.2) x.1) l.toArray=(JH l (p+j) vs).toArray:=by
 intro vs;induction vs with
 |nil=>intro l p j;rfl
 |cons v vs i=>
  intro l p j;have:=i (l.set (p+j) v) p (j+1);rw[<-mo] at this;rw[List.zipIdx_cons,mr,JH,<-this];simp
def DB{j:Nat->Option (Nat×Nat)}{l vs:List Value}{i off len:Nat}{m:List (Nat×Value)}(hp:j i=some (off,len))(B:v.cells=vs.toArray)(hl:vs.length=len)(I:off+len<=l.length):Instr.fill j l.toArray ((i,v)::m)=Instr.fill j (JH l off vs).toArray m:=by
 have q:=Ve vs l off 0;rw[lf] at q;have o:(vs.toArray.zipIdx.foldl (λcs (x:Value×Nat)=>cs.setIfInBounds (off+x.2) x.1) l.toArray)=(JH l off vs).toArray:=by
  rw[<-q,<-Array.foldl_toList];simp
 have hc:(decide (vs.toArray.size≠len)||decide (off+vs.toArray.size>l.toArray.size))=false:=by simp[hl];omega
 simp only[Instr.fill,hp,B,hc,o];simp
def FX{i:Nat->Option (Nat×Nat)}{l:List Value}:Instr.fill i l.toArray []=some l.toArray:=rfl
def range_zero{j:List Value}{k:Nat}(o:j.length=k)(hk:0<k):(Array.range (1*k)).map (j.toArray[· % j.toArray.size]!)=j.toArray:=by
 subst o;rw[Nat.one_mul];refine Array.ext (by simp) λi h1 m=>?_;simp at h1 m;simp[Nat.mod_eq_of_lt m,m]
def DD{j vs:List Value}{k:Nat}(m:j.length=k)(hk:0<k)(o:v.cells=vs.toArray)(hl:vs.length=k):Instr.fill (λi=>some (i*k,k)) ((Array.range (1*k)).map (j.toArray[· % j.toArray.size]!)) [(0,v)]=some vs.toArray:=by
 rw[range_zero m hk,DB (off:=0) (by simp) o hl (by omega),FX,Lm (by omega)]
inductive Tr (α:Type) where
 |nil:Tr α
 |node (l:Tr α) (i:Nat) (x:α) (r:Tr α):Tr α
structure Nd (α:Type) where
 x:α
 l:Int
 r:Int
 h:Int
 s:Int
 m:Int
namespace Tr
section
variable {α:Type}(μ:α->Nat×Nat)
def root:Tr α->Int
 |nil=>-1
 |node _ i _ _=>i
def toL:Tr α->List α
 |nil=>[]
 |node l _ x r=>toL l++x::toL r
def idx:Tr α->List Nat
 |nil=>[]
 |node l i _ r=>idx l++i::idx r
def ht:Tr α->Nat
 |nil=>0
 |node l _ _ r=>1+max (ht l) (ht r)
def De:Tr α->Nat
 |nil=>0
 |node l _ _ r=>De l+De r+1
def sz(l:List α):Nat:=(l.map λx=>(μ x).1).sum
def mk(l:List α):Nat:=(l.map λx=>(μ x).2).sum
def CI(l m:List α):sz μ (l++m)=sz μ l+sz μ m:=by simp[sz]
def Fo(l m:List α):mk μ (l++m)=mk μ l+mk μ m:=by simp[mk]
def BS(x:α)(m:List α):sz μ (x::m)=(μ x).1+sz μ m:=by simp[sz]
def Cw(x:α)(m:List α):mk μ (x::m)=(μ x).2+mk μ m:=by simp[mk]
def EC(t:Tr α)(x:α)(l r:Int):Nd α:=⟨x,l,r,t.ht,sz μ t.toL,mk μ t.toL⟩
def Holds(f:Nat->Option (Nd α)):Tr α->Prop
 |nil=>True
 |node l i x r=>Holds f l/\Holds f r/\f i=some (EC μ (node l i x r) x l.root r.root)
def K3{t:Tr α}(h:1<=t.ht):∃l i x r,t=node l i x r:=by
 cases t with
 |nil=>simp[ht] at h
 |node l i x r=>exact⟨l,i,x,r,rfl⟩
def Ta(t:Tr α):t.idx.length=t.De/\t.toL.length=t.De:=by
 induction t with
 |nil=>exact⟨rfl,rfl⟩
 |node l i x r h1 j=>simp only[idx,toL,De,BW,gD];omega
def dw(t:Tr α):t.ht<=t.De:=by
 induction t with
 |nil=>exact K8 _
 |node l i x r h1 j=>simp only[ht,De];omega
def Holds.frame{f q:Nat->Option (Nd α)}{t:Tr α}(h:Holds μ f t)(m:∀j∈t.idx,q j=f j):Holds μ q t:=by
 induction t with
 |nil=>trivial
 |node l i x r h1 B=>
  obtain⟨a,b,c⟩:=h;exact⟨h1 a λj o=>m j (by simp[idx,o]),B b λj o=>m j (by simp[idx,o]),by rw[m i (by simp[idx])];exact c⟩
def Holds.has{f:Nat->Option (Nd α)}{t:Tr α}(h:Holds μ f t)(m:j∈t.idx):∃n,f j=some n:=by
 induction t with
 |nil=>simp[idx] at m
 |node l i x r h1 o=>
  obtain⟨a,b,c⟩:=h;simp only[idx,By,Mp] at m;rcases m with m|rfl|m
  .exact h1 a m
  .exact⟨_,c⟩
  .exact o b m
def GK{α:Type}(f:Nat->Option (Nd α))(i:Nat)(n:Option (Nd α)):Nat->Option (Nd α):=λj=>if j=i then n else f j
def KW(f:Nat->Option (Nd α))(i:Nat)(n:Option (Nd α)):GK f i n i=n:=by simp[GK]
def Da{f:Nat->Option (Nd α)}{i j:Nat}(n:Option (Nd α))(h:j≠i):GK f i n j=f j:=by simp[GK,h]
def Holds.out{f:Nat->Option (Nd α)}{t:Tr α}(h:Holds μ f t){i:Nat}(n:Option (Nd α))(hi:i∉t.idx):Holds μ (GK f i n) t:=
 h.frame μ λj m=>Da n λe=>hi (e▸m)
def Holds.top{f:Nat->Option (Nd α)}{l r:Tr α}{i:Nat}{x:α}(hl:Holds μ f l)(hr:Holds μ f r)(j:i∉l.idx)(m:i∉r.idx) :
  Holds μ (GK f i (some (EC μ (node l i x r) x l.root r.root))) (node l i x r):=
 ⟨hl.out μ _ j,hr.out μ _ m,KW _ _ _⟩
def GB(t:Tr α):Prop:=t.idx.Nodup
def Av{l r:Tr α}{i:Nat}{x:α}:GB (node l i x r)↔GB l/\GB r/\i∉l.idx/\i∉r.idx/\∀j∈l.idx,j∉r.idx:=by
 unfold GB;simp only[idx,lI,rO,Mp,ne_eq,forall_eq_or_imp];constructor
 .rintro⟨h1,⟨q,B⟩,m⟩;exact⟨h1,B,λe=>(m i e).1 rfl,q,λj o e=>(m j o).2 j e rfl⟩
 .rintro⟨h1,q,B,m,I⟩;exact⟨h1,⟨m,q⟩,λj o=>⟨λe=>B (e▸o),λk hk e=>I j o (e▸hk)⟩⟩
def iU(t t':Tr α):Prop:=t'.toL=t.toL/\t'.idx.Perm t.idx
def Vd(a b c:Tr α)(i j:Nat)(x y:α):iU (node (node a j y b) i x c) (node a j y (node b i x c)):=by
 refine⟨by simp[toL],?_⟩;simp[idx]
def YF(a b c:Tr α)(i j:Nat)(x y:α):iU (node a j y (node b i x c)) (node (node a j y b) i x c):=by
 refine⟨by simp[toL],?_⟩;simp[idx]
end
end Tr
structure Kd (α:Type) where
 μ:α->Nat×Nat
 cut:α->Nat->α×α
 meld:α->α->Option α
namespace Kd
variable {α β:Type}(k:Kd α)
def split:List α->Nat->List α×List α
 |[],_=>([],[])
 |x::t,at'=>if at'=0 then([],x::t) else if(k.μ x).1<=at' then(x::(split t (at'-(k.μ x).1)).1,(split t (at'-(k.μ x).1)).2) else([(k.cut x at').1],(k.cut x at').2::t)
def Ma(l:List α):k.split l 0=([],l):=by
 cases l with
 |nil=>rfl
 |cons x t=>simp[split]
def Sz{l:List α}(t:List α){p:Nat}(h:p<=Tr.sz k.μ l):k.split (l++t) p=((k.split l p).1,(k.split l p).2++t):=by
 induction l generalizing p with
 |nil=>
  have:p=0:=by simpa[Tr.sz] using h
  subst this;rw[Ma];simp[Ma]
 |cons x l i=>
  rw[Tr.BS] at h;simp only[Za,split];by_cases h0:p=0
  .rw[DN h0,DN h0];rfl
  .rw[Bp h0,Bp h0];by_cases h1:(k.μ x).1<=p
   .rw[DN h1,DN h1,i (by omega)]
   .rw[Bp h1,Bp h1];rfl
def QG{l:List α}(t:List α){p:Nat}(h:Tr.sz k.μ l<p):k.split (l++t) p=(l++(k.split t (p-Tr.sz k.μ l)).1,(k.split t (p-Tr.sz k.μ l)).2):=by
 induction l generalizing p with
 |nil=>simp[Tr.sz]
 |cons x l i=>
  rw[Tr.BS] at h ⊢;simp only[Za,split];rw[Bp (by omega),DN (by omega),i (by omega),qw]
def NP(l r:List α)(x:α)(p:Nat):k.split (l++x::r) p =
  if p<=Tr.sz k.μ l then((k.split l p).1,(k.split l p).2++x::r) else if Tr.sz k.μ l+(k.μ x).1<=p then(l++x::(k.split r (p-Tr.sz k.μ l-(k.μ x).1)).1,(k.split r (p-Tr.sz k.μ l-(k.μ x).1)).2)
  else(l++[(k.cut x (p-Tr.sz k.μ l)).1],(k.cut x (p-Tr.sz k.μ l)).2::r):=by
 by_cases h:p<=Tr.sz k.μ l
 .rw[DN h,Sz k _ h]
 .rw[Bp h,QG k _ (by omega)];simp only[split];rw[Bp (by omega)];by_cases i:Tr.sz k.μ l+(k.μ x).1<=p
  .rw[DN i,DN (by omega)]
  .rw[Bp i,Bp (by omega)]
def part(x:α)(i j:Nat):α:=if 0<i then(k.cut (if j<(k.μ x).1 then(k.cut x j).1 else x) i).2 else if j<(k.μ x).1 then(k.cut x j).1 else x
def over:List α->Nat->Nat->List α
 |[],_,_=>[]
 |x::t,i,j=>(if i<min j (k.μ x).1 then[k.part x i (min j (k.μ x).1)] else[])++over t (i-(k.μ x).1) (j-(k.μ x).1)
def Ec(l:List α){i j:Nat}(h:j<=i):k.over l i j=[]:=by
 induction l generalizing i j with
 |nil=>rfl
 |cons x l m=>simp only[over];rw[Bp (by omega),m (by omega)];rfl
def RV(l t:List α)(i j:Nat):k.over (l++t) i j=k.over l i j++k.over t (i-Tr.sz k.μ l) (j-Tr.sz k.μ l):=by
 induction l generalizing i j with
 |nil=>simp[over,Tr.sz]
 |cons x l m=>
  simp only[Za,over,m,Tr.BS,P9,qw]
def Ms(l:List α)(i j:Nat):k.over l i (min j (Tr.sz k.μ l))=k.over l i j:=by
 induction l generalizing i j with
 |nil=>rfl
 |cons x l m=>
  simp only[over,Tr.BS];rw[show min (min j ((k.μ x).1+Tr.sz k.μ l)) (k.μ x).1=min j (k.μ x).1 by omega,show min j ((k.μ x).1+Tr.sz k.μ l)-(k.μ x).1=min (j-(k.μ x).1) (Tr.sz k.μ l) by omega,m]
def CC(out:List α)(x:α):List α:=if(k.μ x).1=0 then out else
 match out.getLast? with
 |some y=>match k.meld y x with
  |some z=>out.dropLast++[z]
  |none=>out++[x]
 |none=>out++[x]
def melded(l:List α):List α:=l.foldl k.CC []
def Bl(t:List α)(i j:Nat)(l:List α):List α:=
 let a:=(k.split t i).1
 let b:=(k.split (k.split t i).2 (j-i)).2
 a.dropLast++k.melded (a.getLast?.toList++l++b.head?.toList)++b.tail
structure FW (u:α->List β):Prop where
 size:∀x,(k.μ x).1=(u x).length
 cut1:∀x p,0<p->p<(u x).length->u (k.cut x p).1=(u x).take p/\u (k.cut x p).2=(u x).drop p
 melds:∀x y z,k.meld x y=some z->u z=u x++u y
variable {k}{u:α->List β}
def FW.sz(h:k.FW u)(l:List α):Tr.sz k.μ l=(l.flatMap u).length:=by
 induction l with
 |nil=>rfl
 |cons x l i=>rw[Tr.BS,i,h.size,mE,BW]
def FW.split(h:k.FW u)(l:List α)(p:Nat):((k.split l p).1.flatMap u=(l.flatMap u).take p)/\(k.split l p).2.flatMap u=(l.flatMap u).drop p:=by
 induction l generalizing p with
 |nil=>simp[Kd.split]
 |cons x l j=>
  simp only[Kd.split,mE];by_cases h0:p=0
  .subst h0;simp
  .rw[Bp h0];by_cases h1:(k.μ x).1<=p
   .rw[DN h1];have m:=h.size x;have i:(u x).length<=p:=by omega
    refine⟨?_,?_⟩
    .rw[mE,(j _).1,oJ,mU i,m]
    .rw[(j _).2,oK,mn i,m,lg]
   .rw[Bp h1];have:=h.size x;obtain⟨c1,c2⟩:=h.cut1 x p (by omega) (by omega);simp only[mE,oq,lA,c1,c2,oJ,oK];rw[show p-(u x).length=0 by omega];simp
def FW.part(h:k.FW u)(x:α){i j:Nat}(m:i<j)(o:j<=(u x).length):u (k.part x i j)=((u x).take j).drop i:=by
 have q:=h.size x;have e:u (if j<(k.μ x).1 then(k.cut x j).1 else x)=(u x).take j:=by
  by_cases h1:j<(k.μ x).1
  .rw[DN h1,(h.cut1 x j (by omega) (by omega)).1]
  .rw[Bp h1,mU (by omega)]
 unfold Kd.part;by_cases h0:0<i
 .rw[DN h0,(h.cut1 _ i h0 (by rw[e,Lc];omega)).2,e]
 .rw[Bp h0,e,show i=0 by omega,mz]
def FW.over(h:k.FW u)(l:List α)(i j:Nat):(k.over l i j).flatMap u=((l.flatMap u).take j).drop i:=by
 induction l generalizing i j with
 |nil=>simp[Kd.over]
 |cons x l m=>
  have o:=h.size x;simp only[Kd.over,mf,mE,m,oJ,oK,o,Lc];congr 1
  .by_cases h1:i<min j (u x).length
   .rw[DN h1];simp only[mE,oq,lA];have ht:(u x).take (min j (u x).length)=(u x).take j:=by rw[List.take_eq_take_iff];omega
    rw[h.part x (by omega) (by omega),ht]
   .rw[Bp h1,mn (by rw[Lc];omega)];rfl
  .by_cases q:j<=(u x).length
   .rw[show j-(u x).length=0 by omega];simp
   .rw[show min j (u x).length=(u x).length by omega]
def FW.CC(h:k.FW u)(out:List α)(x:α):(k.CC out x).flatMap u=out.flatMap u++u x:=by
 unfold Kd.CC;by_cases h0:(k.μ x).1=0
 .rw[DN h0];have:u x=[]:=Of (by rw[<-h.size];exact h0);rw[this,lA]
 .rw[Bp h0];rcases lS out with rfl|⟨o,y,rfl⟩
  .simp
  .simp only[mB,cq,kY,lu,mW];cases hm:k.meld y x with
   |none=>simp
   |some z=>simp[h.melds _ _ _ hm]
def FW.melded(h:k.FW u)(l:List α):(k.melded l).flatMap u=l.flatMap u:=by
 have gen:∀(l out:List α),(l.foldl k.CC out).flatMap u=out.flatMap u++l.flatMap u:=by
  intro l;induction l with
  |nil=>intro out;simp
  |cons x l i=>intro out;rw[mr,i,h.CC];simp
 have e:=gen l [];rw[oq,lg] at e;exact e
def FW.Bl(h:k.FW u)(t l:List α){i j:Nat}(q:i<=j):(k.Bl t i j l).flatMap u=(t.flatMap u).take i++l.flatMap u++(t.flatMap u).drop j:=by
 unfold Kd.Bl;obtain⟨B,I⟩:=h.split t i;obtain⟨O,m⟩:=h.split (k.split t i).2 (j-i);rw[I,oo,show i+(j-i)=j by omega] at m;rw[<-B,<-m];simp only[mf,h.melded];generalize (k.split t i).1=a;generalize (k.split (k.split t i).2 (j-i)).2=b;have J:a.dropLast.flatMap u++a.getLast?.toList.flatMap u=a.flatMap u:=by
  rcases lS a with rfl|⟨o,y,rfl⟩
  .rfl
  .simp
 have eb:b.head?.toList.flatMap u++b.tail.flatMap u=b.flatMap u:=by
  cases b<;>simp
 rw[<-J,<-eb];simp only[P9]
end Kd
structure ArS (α:Type) where
 ps:List (Option (Nd α))
 fr:List Nat
namespace ArS
variable {α:Type}
def f(A:ArS α):Nat->Option (Nd α):=λi=>(A.ps[i]?).join
def Ok(A:ArS α):Prop:=(∀i∈A.fr,A.ps[i]?=some none)/\A.fr.Nodup
def z:ArS α:=⟨[],[]⟩
def jU:Ok (z:ArS α):=⟨by simp[z],by simp[z]⟩
def put(A:ArS α)(i:Nat)(n:Nd α):ArS α:=⟨A.ps.set i (some n),A.fr⟩
def free(A:ArS α)(i:Nat):ArS α:=⟨A.ps.set i none,A.fr++[i]⟩
def num(A:ArS α):Nat:=match A.fr.getLast? with|some i=>i|none=>A.ps.length
def take(A:ArS α)(n:Nd α):ArS α:=match A.fr.getLast? with|some i=>⟨A.ps.set i (some n),A.fr.dropLast⟩|none=>⟨A.ps++[some n],A.fr⟩
def I9{A:ArS α}{i:Nat}{n:Nd α}(h:A.f i=some n):i<A.ps.length/\A.ps[i]?=some (some n):=by
 unfold f at h;cases hp:A.ps[i]? with
 |none=>rw[hp] at h;cases h
 |some o=>rw[hp] at h;cases o with
  |none=>cases h
  |some m=>cases h;exact⟨(Ad.1 hp).1,rfl⟩
def WY(A:ArS α){i:Nat}(hi:i<A.ps.length)(o:Option (Nd α))(fr:List Nat):(⟨A.ps.set i o,fr⟩:ArS α).f=Tr.GK A.f i o:=by
 funext j
 unfold f Tr.GK;simp only[oZ];by_cases h:i=j
 .subst h;rw[DN rfl,DN hi,DN rfl];rfl
 .rw[Bp h,Bp λe=>h e.symm]
def KI{A:ArS α}{i:Nat}{n m:Nd α}(h:A.f i=some m):(A.put i n).f=Tr.GK A.f i (some n):=WY A (I9 h).1 _ _
def SB{A:ArS α}{i:Nat}{n m:Nd α}(h:A.f i=some m)(ok:Ok A):Ok (A.put i n):=by
 refine⟨λj B=>?_,ok.2⟩;have h1:=ok.1 j B;have q:=(I9 h).2;have o:i≠j:=λe=>by subst e;rw[h1] at q;cases q
 show(A.ps.set i (some n))[j]?=_;rw[oZ,Bp o];exact h1
def SO{A:ArS α}{i:Nat}{m:Nd α}(h:A.f i=some m):(A.free i).f=Tr.GK A.f i none:=WY A (I9 h).1 _ _
def bq{A:ArS α}{i:Nat}{m:Nd α}(h:A.f i=some m)(ok:Ok A):Ok (A.free i):=by
 have q:=I9 h;have B:i∉A.fr:=λe=>by have:=ok.1 i e;rw[this] at q;cases q.2
 refine⟨λj o=>?_,lI.2 ⟨ok.2,by simp,λa ha b hb=>by simp at hb;subst hb;exact λe=>B (e▸ha)⟩⟩;show(A.ps.set i none)[j]?=_;rw[oZ];by_cases e:i=j
 .subst e;rw[DN rfl,DN q.1]
 .rw[Bp e];rcases By.1 o with o|o
  .exact ok.1 j o
  .simp at o;exact(e o.symm).elim
def Se{A:ArS α}(n:Nd α)(ok:Ok A):(A.take n).f=Tr.GK A.f A.num (some n)/\A.f A.num=none/\Ok (A.take n):=by
 unfold take num;rcases lS A.fr with q|⟨l,i,hc⟩
 .rw[q];simp only[qv];refine⟨?_,by simp[f],⟨by simp,by simp⟩⟩;funext j
  unfold f Tr.GK;simp only[oX];by_cases h:j<A.ps.length
  .rw[DN h,Bp (by omega)]
  .rw[Bp h];by_cases e:j=A.ps.length
   .subst e;simp
   .rw[Bp e,lP (by simp;omega),lP (by omega)]
 .rw[mB] at hc;rw[hc];simp only[cq,kY,lu,mW];have h1:=ok.1 i (by rw[hc];simp);have hi:=(Ad.1 h1).1;have m:=ok.2;rw[hc,lI] at m;refine⟨WY A hi _ _,by unfold f;rw[h1];rfl,⟨λj o=>?_,m.1⟩⟩;show(A.ps.set i (some n))[j]?=_;rw[oZ,Bp λe=>m.2.2 j o i (by simp) e.symm];exact ok.1 j (by rw[hc];simp[o])
end ArS
section
structure az (g:AvK):Prop where
 at_:∀{v0 v1 K w},ja g v0 v1 K w->AB prog g.fat [v0,v1] K w
 totals:∀{v0 v1 K w},Tc g v0 v1 K w->AB prog g.ftotals [v0,v1] K w
 set:∀{v0 v1 v2 K w},gV g v0 v1 v2 K w->AB prog g.fset [v0,v1,v2] K w
 lift:∀{v0 v1 v2 K w},YT g v0 v1 v2 K w->AB prog g.flift [v0,v1,v2] K w
 lean:∀{v0 v1 K w},dP g v0 v1 K w->AB prog g.flean [v0,v1] K w
 balance:∀{v0 v1 v2 K w},Pg g v0 v1 v2 K w->AB prog g.fbalance [v0,v1,v2] K w
 join:∀{v0 v1 v2 v3 K w},cZ g v0 v1 v2 v3 K w->AB prog g.fjoin [v0,v1,v2,v3] K w
 first:∀{v0 v1 K w},Xc g v0 v1 K w->AB prog g.ffirst [v0,v1] K w
 last:∀{v0 v1 K w},dR g v0 v1 K w->AB prog g.flast [v0,v1] K w
 concat:∀{v0 v1 v2 K w},Tt g v0 v1 v2 K w->AB prog g.fconcat [v0,v1,v2] K w
 drop:∀{v0 v1 K w},ZF g v0 v1 K w->AB prog g.fdrop [v0,v1] K w
 over:∀{v0 v1 v2 K w},YE g v0 v1 v2 K w->AB prog g.fOver [v0,v1,v2] K w
 overf:∀{v0 v1 v2 v3 K w},Wn g v0 v1 v2 v3 K w->AB prog g.fOverf [v0,v1,v2,v3] K w
 size:∀{v0 K w},cW g v0 K w->AB prog g.fSize [v0] K w
 take:∀{v0 v1 K w},Wm g v0 v1 K w->AB prog g.aTake [v0,v1] K w
 asked:∀{v0 v1 K w},T4 g v0 v1 K w->AB prog g.aasked [v0,v1] K w
 free:∀{v0 v1 K w},XO g v0 v1 K w->AB prog g.aFree [v0,v1] K w
 aat:∀{v0 v1 K w},ij g v0 v1 K w->AB prog g.aAt [v0,v1] K w
 put:∀{v0 v1 v2 K w},dH g v0 v1 v2 K w->AB prog g.aPut [v0,v1,v2] K w
 new:∀{v0 K w},cX g v0 K w->AB prog g.fNew [v0] K w
 anew:∀{K w},df g K w->AB prog g.aNew [] K w
 okOverf:CS g.fOverf=true
def AvK.enc(g:AvK)(r:List Value):Value:=bif g.one then r.headD undef else .agg r.toArray
structure AvT (α:Type) extends AvK where
 k:Kd α
 R:(Nat->Prop)->World->List Value->α->Prop
 pb:Nat
 eb:Nat
 pb_le:pb<=512
 eb_le:eb<=512
 Epos:0<E
 E1:one=true->E=1
 rlen:∀{C w r x},R C w r x->r.length=E
 rone:∀{C w r x},R C w r x->∀u∈r,u.oneCell'=true
 rcell:∀{C w r x},R C w r x->(toAvK.enc r).cells=r.toArray
 rheap:∀{C:Nat->Prop} {w w' r x},R C w r x->(∀y,y<w.heap.size->C y->w'.heap[y]?=w.heap[y]?)->R C w' r x
 rsub:∀{C C':Nat->Prop} {w r x},R C w r x->(∀y,y<w.heap.size->C y->C' y)->R C' w r x
 zlen:zE.length=E
 zone:∀u∈zE,u.oneCell'=true
 elP:Ch prog tps tp (E+6) pb
 elE:Ch prog ts te E eb
 field0:∀(r t:List Value) (w:World),r.length=E->(∀u∈r,u.oneCell'=true)->t.length=5->(Instr.field tn (.agg (r++t).toArray) 0).run prog w=.ok (toAvK.enc r) w
 ok:az toAvK
 cutμ:∀x p,0<p->p<(k.μ x).1->(k.μ (k.cut x p).1).1=p/\(k.μ (k.cut x p).2).1=(k.μ x).1-p/\(k.μ (k.cut x p).1).2+(k.μ (k.cut x p).2).2=(k.μ x).2
 meldμ:∀x y z,k.meld x y=some z->(k.μ z).1=(k.μ x).1+(k.μ y).1/\(k.μ z).2=(k.μ x).2+(k.μ y).2
 meas:∀{C w r x},R C w r x->BF prog CS vm [toAvK.enc r] (λv w'=>v=.tuple #[zI (k.μ x).1,zI (k.μ x).2]/\Grow w w') w
def AvT.BO(g:AvT α){r:List Value}{x:α}(h:g.R C w r x)(hm:Mod M w w')(j:∀y,y<w.heap.size->C y->¬M y):g.R C w' r x:=g.rheap h λy i hC=>hm.same y i (j y i hC)
def BM{α:Type}(n:Nd α):List Value:=[zI n.l,zI n.r,zI n.h,zI n.s,zI n.m]
variable {α:Type}{g:AvT α}
def PN(g:AvT α)(C:Nat->Prop):World->List Value->Option (Nd α)->Prop:=λw r o=>match o with
 |some n=>∃x,r=x++(BM n++[.bool true])/\g.R C w x n.x
 |none=>∃q,r=q++[.bool false]/\q.length=g.E+5/\∀u∈q,u.oneCell'=true
def HI(n:Nd α):∀u∈BM n,u.oneCell'=true:=by
 intro u hu;simp only[BM,Mp,l9,nw] at hu;rcases hu with rfl|rfl|rfl|rfl|rfl<;>rfl
def PN.one{r:List Value}{o:Option (Nd α)}(h:PN g C w r o):∀u∈r,u.oneCell'=true:=by
 cases o with
 |none=>
  obtain⟨q,rfl,_,i⟩:=h;intro u hu;rcases By.1 hu with hu|hu
  .exact i u hu
  .simp at hu;subst hu;rfl
 |some n=>
  obtain⟨x,rfl,j⟩:=h;intro u hu;rcases By.1 hu with hu|hu
  .exact g.rone j u hu
  .rcases By.1 hu with hu|hu
   .exact HI n u hu
   .simp at hu;subst hu;rfl
def PN.mod{r:List Value}{o:Option (Nd α)}(h:PN g C w r o)(hm:Mod M w w')(hC:∀b,b<w.heap.size->C b->¬M b):PN g C w' r o:=by
 cases o with
 |none=>exact h
 |some n=>obtain⟨x,rfl,i⟩:=h;exact⟨x,rfl,g.BO i hm hC⟩
def PN.sub{C C':Nat->Prop}{r:List Value}{o:Option (Nd α)}(h:PN g C w r o)(hC:∀b,b<w.heap.size->C b->C' b):PN g C' w r o:=by
 cases o with
 |none=>exact h
 |some n=>obtain⟨x,rfl,i⟩:=h;exact⟨x,rfl,g.rsub i hC⟩
structure Ix (g:AvT α) (F C:Nat->Prop) (W:World) (c:Nat) (A:ArS α) (pl fr:Value):Prop where
 cells:∀j v,[pl,fr][j]?=some v->W.cell? ⟨c,j,none⟩=some v
 live:∀j,j<2->Live W ⟨c,j,none⟩
 GM:AE 0 g.tp (g.E+6) (PN g C) W pl A.ps
 Kj:AE 0 3 1 Mn W fr (A.fr.map λi:Nat=>(i:Int))
 ok:A.Ok
 fc:F c
 pF:∀x,pl.ownBlock=some x->F x/\x≠c
 fF:∀x,fr.ownBlock=some x->F x/\x≠c/\pl.ownBlock≠some x
 JB:∀x,F x->¬C x
 lt:∀x,F x\/C x->x<W.heap.size
def Ix.mod{A:ArS α}{pl fr:Value}(h:Ix g F C W c A pl fr)(hm:Mod M W W')(m:∀x,F x\/C x->¬M x):Ix g F C W' c A pl fr:=
 ⟨λj v o=>hm.cell (h.cells j v o) (m c (.inl h.fc)),λj q=>(h.live j q).mod hm (m c (.inl h.fc)),AE.mod h.GM hm (λx i=>m x (.inl (h.pF x i).1)) λr x _ i=>i.mod hm λy _ B=>m y (.inr B),
  AE.mod h.Kj hm (λx i=>m x (.inl (h.fF x i).1)) λ_ _ _ h=>h,h.ok,h.fc,h.pF,h.fF,h.JB,λx i=>No (h.lt x i) hm.size⟩
def Ix.grow{A:ArS α}{pl fr:Value}(h:Ix g F C W c A pl fr)(hm:Grow W W'):Ix g F C W' c A pl fr:=h.mod hm λ_ _ h=>h
def Ix.sub{F C C':Nat->Prop}{A:ArS α}{pl fr:Value}(h:Ix g F C W c A pl fr)(hC:∀x,C x->C' x)(m:∀x,F x->¬C' x)(j:∀x,C' x->x<W.heap.size):Ix g F C' W c A pl fr:=
 ⟨h.cells,h.live,AE.mod h.GM (Mod.refl (λ_=>False) _) (λ_ _ h=>h) λr x _ i=>i.sub λy _ o=>hC y o,h.Kj,h.ok,h.fc,h.pF,h.fF,m,λx i=>i.elim (λi=>h.lt x (.inl i)) (j x)⟩
def Ix.JO{c x:Nat}{A:ArS α}{pl fr:Value}{ps:List (Option (Nd α))}(h:Ix g F C W c A pl fr)(o:pl.ownBlock=some x)(hm:Mod (λy=>y=x) W W')(hp:AE 0 g.tp (g.E+6) (PN g C) W' pl ps)(i:ArS.Ok ⟨ps,A.fr⟩):Ix g F C W' c ⟨ps,A.fr⟩ pl fr:=by
 obtain⟨J,q⟩:=h.pF x o;exact⟨λj v B=>hm.cell (h.cells j v B) λe=>q e.symm,λj I=>(h.live j I).mod hm λe=>q e.symm,hp,AE.mod h.Kj hm (λy m e=>(h.fF y m).2.2 (by rw[o,e])) λ_ _ _ h=>h,i,h.fc,h.pF,h.fF,h.JB,λy m=>No (h.lt y m) hm.size⟩
def Me{c i:Nat}{A:ArS α}{pl fr:Value}{n:Nd α}(h:Ix g F C W c A pl fr)(hi:A.f i=some n) :
  AB prog g.aasked [.pointer (some ⟨c,0,none⟩),zI i] (λv' w'=>v'=zI 0/\w'=W) W:=by
 apply g.ok.asked;unfold T4;obtain⟨m,hp⟩:=ArS.I9 hi;have I:=(Ad.1 hp).2;obtain⟨Q,U,j,_⟩:=h.GM.sl.shape;have o:=h.GM.sl;rw[j] at o;obtain⟨q,r,rfl,_,hr,hc,B⟩:=o.get m;rw[I] at B;obtain⟨x,rfl,O⟩:=B;refine CY (AL ?_);rw[Ai];refine AD (λe=>by omega) λ_=>?_;refine AG ?_;refine Az (h.cells 0 _ rfl) ?_;rw[j,AO,Cu];refine AD (λe=>by omega) λ_=>?_;refine AG ?_;refine Az (h.cells 0 _ rfl) ?_;rw[j];refine AS m ?_;rw[AH,Addr.add_add];refine AJ (v:=.bool true) (hc (g.E+5) _ ?_) ?_
 .have J:=g.rlen O;rw[lF (by omega),J,show g.E+5-g.E=5 by omega];rfl
 rw[Ah];exact AL ⟨rfl,rfl⟩
def Tf{c i:Nat}{A:ArS α}{pl fr:Value}{n:Nd α}(h:Ix g F C W c A pl fr)(hi:A.f i=some n) :
  AB prog g.aAt [.pointer (some ⟨c,0,none⟩),zI i] (λv' w'=>∃r,v'=.tuple #[.agg (r++BM n).toArray,zI 0]/\g.R C w' r n.x/\Grow W w'/\∃p m k,pl=.slice (some p) m k/\∀u,r[0]?=some u->W.cell? (p.add (i*(g.E+6)))=some u) W:=by
 apply g.ok.aat;unfold ij;have Y:g.toAvK.zN.length=g.E+5:=by rw[AvK.zN,BW,g.zlen];rfl
 refine Bz λb4 w1 a8 ak X _ Z=>?_;have h1:=h.grow X;refine AA (Me h1 hi) ?_;rintro _ _ ⟨rfl,rfl⟩;rename World=>w1
 refine Ko ?_;obtain⟨B,hp⟩:=ArS.I9 hi;have a1:=(Ad.1 hp).2;obtain⟨pa,pc,I,_⟩:=h.GM.sl.shape;have J:=h.GM.sl;rw[I] at J;obtain⟨q,r,rfl,_,hr,O,Q⟩:=J.get B;rw[a1] at Q;obtain⟨x,rfl,a6⟩:=Q;have hx:=g.BO a6 X λ_ _ _ h=>h;have hc:=λj u hu=>X.cell (O j u hu) λh=>h;have U:=g.rlen hx;refine AG ?_;refine Az (h1.cells 0 _ rfl) ?_;rw[I];refine AS B ?_;rw[AH,Addr.add_add];have V:∀u∈x++BM n,u.oneCell'=true:=λu hu=>by
  rcases By.1 hu with hu|hu
  .exact g.rone hx u hu
  .exact HI n u hu
 have o:(x++BM n).length=g.E+5:=by rw[BW,U];rfl
 refine AV (vs:=x++BM n) o (λj u hu=>?_) ?_
 .rw[Addr.add_add,lf];refine hc j u ?_;rw[<-P9,Q0 (Ad.1 hu).1];exact hu
 refine BB o V (λj hj=>Z j (by rw[Y];exact hj)) λw2 m2 a7 _=>?_;refine AV o a7 ?_;have g2:Grow W w2:=X.next m2 λy hy e=>by omega
 refine⟨x,rfl,g.BO hx m2 λy _ hy e=>by subst e;have:=h.lt y (.inr hy);omega,g2,q,_,_,rfl,λu hu=>?_⟩;have:=O 0 u (by rw[Q0 (by rw[U];exact g.Epos)];exact hu);rwa [lf] at this
def gI{c i:Nat}{A:ArS α}{pl fr:Value}{n:Nd α}(h:Ix g F C W c A pl fr)(hi:A.f i=some n) :
  AB prog g.aAt [.pointer (some ⟨c,0,none⟩),zI i] (λv' w'=>∃r,v'=.tuple #[.agg (r++BM n).toArray,zI 0]/\g.R C w' r n.x/\Grow W w') W:=
 AA (Tf h hi) λ_ _ ⟨r,h1,j,m,_⟩=>⟨r,h1,j,m⟩
def UA{c i:Nat}{A:ArS α}{pl fr:Value}{n m:Nd α}{r:List Value}(h:Ix g F C W c A pl fr)(hi:A.f i=some m)(hr:g.R C W r n.x) :
  AB prog g.aPut [.pointer (some ⟨c,0,none⟩),zI i,.agg (r++BM n).toArray] (λv' w'=>Ix g F C w' c (A.put i n) pl fr/\Mod (λx=>pl.ownBlock=some x) W w') W:=by
 apply g.ok.put;unfold dH;have Z:=g.rlen hr;have o:(r++BM n).length=g.E+5:=by rw[BW,Z];rfl
 have Q:∀u∈r++BM n,u.oneCell'=true:=λu hu=>by
  rcases By.1 hu with hu|hu
  .exact g.rone hr u hu
  .exact HI n u hu
 refine DC λb5 w1 a8 ak g5 a1 _=>?_;have h1:=h.grow g5;refine AA (Me h1 hi) ?_;rintro _ _ ⟨rfl,rfl⟩;rename World=>w1
 refine Ko ?_;obtain⟨J,hp⟩:=ArS.I9 hi;have Y:Grow w1 w1.drew:=Mod.drew _ _;have U:=h1.grow Y;obtain⟨pa,pc,B,_⟩:=U.GM.sl.shape;have I:=U.GM;rw[B] at I;obtain⟨q,_,rfl,hq,_,_,_⟩:=I.sl.get J;have O:pl.ownBlock=some q.block:=by rw[B];exact hq.2
 have hF:=h.pF _ O;refine AT (λk y=>k=8/\y=q.block) ?_;refine AG ?_;rw[AH,AI];refine AP ⟨U.cells 0 _ rfl,λj hj e=>hF.2 e.2.symm⟩ ?_;have nb:∀j,¬((⟨b5,0,none⟩:Addr).add j).block=q.block:=λj e=>by
  rw[Ac] at e;have:=h.lt _ (.inl hF.1);simp only at e;omega
 refine CG o (λj v hv=>⟨Y.cell (a1 j v hv) λh=>h,λk _ e=>nb j e.2⟩) ?_;rw[B];refine AS J ?_;rw[AH,Addr.add_add];have V:∀y,C y->¬y=q.block:=λy hy e=>h.JB _ hF.1 (e▸hy);refine AE.Oq (R':=PN g C) (x':=some n) I J o (by omega) Q (λw' r y hm _ hy=>hy.mod hm λz _ hz=>V z hz) (λw' r' hm X al an=>?_) λw2 ho hm=>?_
 .have a6:=(Ad.1 hp).2;rw[a6] at X;obtain⟨x',rfl,a7⟩:=X;refine⟨r,?_,g.BO (g.BO (g.BO hr g5 λ_ _ _ h=>h) Y λ_ _ _ h=>h) hm λz _ hz=>V z hz⟩;rw[<-P9,H6 (by rw[o,BW,g.rlen a7];rfl),P9]
 .refine⟨hm.mono λx _ e=>⟨rfl,e⟩,?_⟩;rw[<-B];have hA:=U.JO O hm (by rw[B];exact ho) (ArS.SB (n:=n) hi U.ok);exact⟨hA,(g5.trans Y).mono (λ_ _ h=>h.elim) |>.trans (hm.mono λx _ e=>by rw[e];exact O)⟩
def Ix.jV{F F' C Q:Nat->Prop}{A:ArS α}{pl fr B:Value}{ps:List (Option (Nd α))}{K:World->Prop}(h:Ix g F C W c A pl fr)(hm:Mod Q W W')(I:∀x,Q x->pl.ownBlock=some x)(hF:∀x,F x->F' x)(J:∀x,F' x->F x\/W.heap.size<=x/\x<W'.heap.size)
 (U:AE 0 g.tp (g.E+6) (PN g C) W' B ps)(V:∀x,B.ownBlock=some x->pl.ownBlock=some x\/W.heap.size<=x/\F' x)(X:ArS.Ok ⟨ps,A.fr⟩)
 (hK:∀m,Ix g F' C m c ⟨ps,A.fr⟩ B fr->Mod (λx=>x=c) W' m->K m):CB (.pointer (some ⟨c,0,none⟩)) B K W':=by
 have O:¬Q c:=λe=>(h.pF c (I c e)).2 rfl;have a1:∀x,C x->¬Q x:=λx i e=>h.JB x (h.pF x (I x e)).1 i;have a6:=h.lt c (.inl h.fc);have Y:∀x,x<W'.heap.size->C x->¬x=c:=λx _ i e=>h.JB c h.fc (e▸i);refine DY (vs:=[pl,fr]) (λj v hv=>hm.cell (h.cells j v hv) O) (λj hj=>(h.live j hj).mod hm O) (q:=0) (show 0<2 by decide) U.one.1 U.one.2 λm o hc hl=>?_;have Z:=AE.Aj h.Kj;refine hK m ⟨hc,hl,AE.mod U o (λx i e=>?_) (λr x _ i=>i.mod o Y),AE.mod (AE.mod (R':=Mn) h.Kj hm (λx i e=>(h.fF x i).2.2 (I x e)) λ_ _ _ h=>h) o (λx i=>(h.fF x i).2.1) λ_ _ _ h=>h,X,hF c h.fc,λx i=>?_,λx i=>⟨hF x (h.fF x i).1,(h.fF x i).2.1,λe=>?_⟩,λx i hC=>?_,λx i=>?_⟩ o
 .subst e;rcases V x i with e|e
  .exact(h.pF x e).2 rfl
  .omega
 .rcases V x i with e|e
  .exact⟨hF x (h.pF x e).1,(h.pF x e).2⟩
  .exact⟨e.2,by omega⟩
 .rcases V x e with e|e
  .exact(h.fF x i).2.2 e
  .have:=(Z x i).2;omega
 .rcases J x i with e|e
  .exact h.JB x e hC
  .have:=h.lt x (.inr hC);omega
 .have z1:=hm.size;have z2:=o.size;rcases i with i|i
  .rcases J x i with e|e
   .have:=h.lt x (.inl e);omega
   .omega
  .have:=h.lt x (.inr i);omega
def Ix.gU{F F' C Mf:Nat->Prop}{A:ArS α}{pl fr I:Value}{fl:List Nat}{K:World->Prop}(h:Ix g F C W c A pl fr)(hm:Mod Mf W W')(J:∀x,Mf x->fr.ownBlock=some x)(hF:∀x,F x->F' x)(O:∀x,F' x->F x\/W.heap.size<=x/\x<W'.heap.size)
 (U:AE 0 3 1 Mn W' I (fl.map λi:Nat=>(i:Int)))(hn:∀x,I.ownBlock=some x->fr.ownBlock=some x\/W.heap.size<=x/\F' x)(V:ArS.Ok ⟨A.ps,fl⟩)
 (hK:∀o,Ix g F' C o c ⟨A.ps,fl⟩ pl I->Mod (λx=>x=c) W' o->K o):CB (.pointer (some ⟨c,1,none⟩)) I K W':=by
 have Q:¬Mf c:=λe=>(h.fF c (J c e)).2.1 rfl;have X:∀x,C x->¬Mf x:=λx m e=>h.JB x (h.fF x (J x e)).1 m;have a1:=h.lt c (.inl h.fc);have Y:∀x,x<W'.heap.size->C x->¬x=c:=λx _ m e=>h.JB c h.fc (e▸m);refine DY (vs:=[pl,fr]) (λj v hv=>hm.cell (h.cells j v hv) Q) (λj hj=>(h.live j hj).mod hm Q) (q:=1) (show 1<2 by decide) U.one.1 U.one.2 λo B hc hl=>?_;have Z:=AE.Aj h.GM;refine hK o ⟨hc,hl,AE.mod (AE.mod (R':=PN g C) h.GM hm (λx m e=>(h.fF x (J x e)).2.2 m) λr x _ m=>m.mod hm λy _ hy=>X y hy) B (λx m=>(h.pF x m).2) (λr x _ m=>m.mod B Y),AE.mod U B (λx m e=>?_) λ_ _ _ h=>h,V,hF c h.fc,λx m=>⟨hF x (h.pF x m).1,(h.pF x m).2⟩,λx m=>?_,λx m hC=>?_,λx m=>?_⟩ B
 .subst e;rcases hn x m with e|e
  .exact(h.fF x e).2.1 rfl
  .omega
 .rcases hn x m with e|e
  .exact⟨hF x (h.fF x e).1,(h.fF x e).2⟩
  .exact⟨e.2,by omega,λe2=>by have:=(Z x e2).2;omega⟩
 .rcases O x m with e|e
  .exact h.JB x e hC
  .have:=h.lt x (.inr hC);omega
 .have z1:=hm.size;have z2:=B.size;rcases m with m|m
  .rcases O x m with e|e
   .have:=h.lt x (.inl e);omega
   .omega
  .have:=h.lt x (.inr m);omega
def Mh(g:AvT α)(F C:Nat->Prop)(W w':World)(c:Nat)(A:ArS α):Prop:=∃F' pl fr,(∀x,F x->F' x)/\(∀x,F' x->F x\/W.heap.size<=x)/\Ix g F' C w' c A pl fr/\Mod F W w'
def Yd{c i:Nat}{A:ArS α}{pl fr:Value}{n:Nd α}(h:Ix g F C W c A pl fr)(hi:A.f i=some n)(hs:A.ps.length<=109951162777) :
  AB prog g.aFree [.pointer (some ⟨c,0,none⟩),zI i] (λv' w'=>Mh g F C W w' c (A.free i)) W:=by
 apply g.ok.free;unfold XO;refine AA (Me h hi) ?_;rintro _ _ ⟨rfl,rfl⟩;rename World=>W
 refine Ko ?_;obtain⟨O,hp⟩:=ArS.I9 hi;obtain⟨pa,pc,o,_⟩:=h.GM.sl.shape;have m:=h.GM;rw[o] at m;obtain⟨q,_,rfl,hq,_,_,_⟩:=m.sl.get O;have U:pl.ownBlock=some q.block:=by rw[o];exact hq.2
 have hF:=h.pF _ U;refine AG ?_;refine Az (h.cells 0 _ rfl) ?_;refine⟨g.toAvK.zP.toArray,FX,?_⟩;have V:g.toAvK.zP.length=g.E+6:=by rw[AvK.zP,BW,g.zlen];rfl
 have X:g.toAvK.zP=(g.zE++[zI 0,zI 0,zI 0,zI 0,zI 0])++[.bool false]:=by rw[AvK.zP];simp
 have Y:∀u∈g.zE++[zI 0,zI 0,zI 0,zI 0,zI 0],u.oneCell'=true:=λu hu=>by
  rcases By.1 hu with hu|hu
  .exact g.zone u hu
  .simp at hu;subst hu;rfl
 have a7:∀u∈g.toAvK.zP,u.oneCell'=true:=λu hu=>by
  rw[X] at hu;rcases By.1 hu with hu|hu
  .exact Y u hu
  .simp at hu;subst hu;rfl
 rw[o];refine AS O ?_;have a8:∀y,C y->¬y=q.block:=λy hy e=>h.JB _ hF.1 (e▸hy);have key:=AE.Oq (R':=PN g C) (x':=(none:Option (Nd α))) (p:=0) (vs:=g.toAvK.zP) (K:=λw3=>Af (.pointer (some ⟨c,0,none⟩)) λak=>BC 1 ak λt22=>Ay t22 (λal w4=>Dg 3 1 1 [(zI 0)] [(0,zI (i:Int))] (λt25 w5=>runK prog (Builtin.append_ #[115,115] 115 [al,t25].toArray) (λan w6=>Af (.pointer (some ⟨c,0,none⟩)) λav=>BC 1 av λax=>CB ax an (λw7=>(λ(v':Value) w'=>Mh g F C W w' c (A.free i)) (zI 0) w7) w6) w5) w4) w3) m O V (by omega) a7 (λw' r y hm _ hy=>hy.mod hm λz _ hz=>a8 z hz) (λw' r' hm b2 ay b6=>?_) λw2 ho hm=>?_
 .rw[lf] at key;exact key
 .rw[Lm (by rw[V,ay])];exact⟨_,X,by rw[BW,g.zlen];rfl,Y⟩
 have b7:i∉A.fr:=λe=>by have:=h.ok.1 i e;rw[this] at hp;cases hp
 have J:=ArS.bq hi h.ok;have b8:A.fr.length<=A.ps.length:=by
  have:A.fr ⊆ List.range A.ps.length:=λx B=>nW.2 (Ad.1 (h.ok.1 x B)).1;have:=Iu h.ok.2 this;simpa using this
 have Z:ArS.Ok ⟨A.ps.set i none,A.fr⟩:=⟨λj hj=>J.1 j (lC _ hj),h.ok.2⟩;have h2:=h.JO U hm (by rw[o];exact ho) Z;refine AG ?_;refine Az (h2.cells 1 _ rfl) ?_;refine Dp Px h2.Kj (Nn _) (cs:=[zI i]) (x:=(i:Int)) (by kernel_rfl) rfl rfl (λ_ _ _=>Mn.one) (λ_ _ _ _ _ _ h=>h) (by rw[I3];dsimp only;omega) (by rw[I3];simp only[maxLen];omega) λb9 w7 I a1 aZ=>?_;refine AG ?_;rw[AH,AI];have Q:(A.fr.map λi:Nat=>(i:Int))++[(i:Int)]=(A.fr++[i]).map λi:Nat=>(i:Int):=by simp
 dsimp only at I;rw [Q] at I;have a6:=AE.Aj I;have z2:=hm.size;refine Ix.gU (F':=λx=>F x\/w2.heap.size<=x/\x < w7.heap.size) h2 a1 (λ_ h=>h) (λ_ h=>.inl h) (λ_ h=>h) I (λx B=>by
  rcases aZ x B with e|e
  .exact .inl e
  .exact .inr ⟨e,.inr ⟨e,(a6 x B).2⟩⟩) J λw8 b0 b1=>⟨_,_,_,λ_ h=>.inl h,λx B=>?_,b0,?_⟩
 .rcases B with B|B
  .exact .inl B
  .exact .inr (by omega)
 .exact((hm.mono λx _ e=>by rw[e];exact hF.1).trans (a1.mono λx _ e=>(h2.fF x e).1)).trans (b1.mono λx _ e=>by rw[e];exact h.fc)
def Zq(hC:∀x,C x->x<W.heap.size) :
  AB prog g.aNew [] (λv' w'=>v'=.pointer (some ⟨W.heap.size,0,none⟩)/\w'.heap.size=W.heap.size+1/\Grow W w'/\Ix g (λx=>x=W.heap.size) C w' W.heap.size (ArS.z:ArS α) (.slice none 0 0) (.slice none 0 0)) W:=by
 apply g.ok.anew;unfold df;refine⟨[.slice none 0 0,.slice none 0 0].toArray,FX,?_⟩;refine DC λb I hb m o hc hl=>?_;subst hb;refine⟨rfl,m,o,⟨λj v q=>by have:=hc j v q;rwa [AI] at this,λj B=>by have:=hl j B;rwa [AI] at this,AE.nil,AE.nil,ArS.jU,rfl,(λ_ h=>nomatch h),(λ_ h=>nomatch h),λx i h=>?_,λx i=>?_⟩⟩
 .have:=hC x h;omega
 .rcases i with i|i
  .omega
  .have:=hC x i;omega
def ZI{A:ArS α}{pl fr:Value}{n:Nd α}{r:List Value}(h:Ix g F C W c A pl fr)(hr:g.R C W r n.x)(hs:A.ps.length<=109951162777) :
  AB prog g.aTake [.pointer (some ⟨c,0,none⟩),.agg (r++BM n).toArray] (λv' w'=>v'=zI A.num/\Mh g F C W w' c (A.take n)) W:=by
 apply g.ok.take;unfold Wm;have bc:=g.rlen hr;have m:(r++BM n).length=g.E+5:=by rw[BW,bc];rfl
 have ay:∀u∈r++BM n,u.oneCell'=true:=λu hu=>by
  rcases By.1 hu with hu|hu
  .exact g.rone hr u hu
  .exact HI n u hu
 have bd:g.toAvK.zP.length=g.E+6:=by rw[AvK.zP,BW,g.zlen];rfl
 have O:Instr.fill (λi=>[(0,g.E+5),(g.E+5,1)][i]?) g.toAvK.zP.toArray [(0,.agg (r++BM n).toArray),(1,.bool true)]=some (r++(BM n++[Value.bool true])).toArray:=by
  have bk:g.toAvK.zP=(g.zE++[zI 0,zI 0,zI 0,zI 0,zI 0])++[Value.bool false]:=by rw[AvK.zP];simp
  have bl:(g.zE++[zI 0,zI 0,zI 0,zI 0,zI 0]).length=g.E+5:=by rw[BW,g.zlen];rfl
  rw[DB (l:=g.toAvK.zP) (vs:=r++BM n) (off:=0) (len:=g.E+5) rfl rfl m (by omega),bk,H6 (by rw[m,bl])];rw[DB (l:=r++BM n++[Value.bool false]) (off:=g.E+5) (len:=1) (vs:=[Value.bool true]) rfl rfl rfl (by rw[BW,m];exact K8 _)];have:=bH (q:=r++BM n) (r:=[Value.bool false]) (t:=[]) (vs:=[Value.bool true]) m rfl;rw[lA,lA] at this;rw[this,FX,P9]
 have B:(r++(BM n++[Value.bool true])).length=g.E+6:=by rw[<-P9,BW,m];rfl
 have a8:∀u∈r++(BM n++[Value.bool true]),u.oneCell'=true:=λu hu=>by
  rw[<-P9] at hu;rcases By.1 hu with hu|hu
  .exact ay u hu
  .simp at hu;subst hu;rfl
 refine DC λb3 w1 cd ch g3 aZ _=>?_;have h1:=h.grow g3;have b0:=g.BO hr g3 λ_ _ _ h=>h;obtain⟨_,cc,I⟩:=ArS.Se n h.ok;have cu:A.fr.length<=A.ps.length:=by
  have:A.fr ⊆ List.range A.ps.length:=λx J=>nW.2 (Ad.1 (h.ok.1 x J)).1;have:=Iu h.ok.2 this;simpa using this
 refine CY (AL ?_);refine AG ?_;refine Az (h1.cells 1 _ rfl) ?_;obtain⟨fa,fc,Q,ak,_,bp,bs⟩:=h1.Kj.shape;rw[I3] at ak;rw[Q,AO,Am,I3,wrap64 (by omega) (by omega),Cu];have nF:∀j x,F x->¬((⟨b3,0,none⟩:Addr).add j).block=x:=λj x J e=>by
  rw[Ac] at e;have:=h.lt x (.inl J);simp only at e;omega
 refine AD (λcx=>?_) λda=>?_
 .have b1:0<A.fr.length:=by omega
  have al:A.fr≠[]:=mN.1 b1;obtain⟨i,hl⟩:∃i,A.fr.getLast?=some i:=⟨_,nD al⟩;have U:A.num=i:=by unfold ArS.num;rw[hl]
  have o:A.take n=⟨A.ps.set i (some n),A.fr.dropLast⟩:=by unfold ArS.take;rw[hl]
  cases fa with
  |none=>have:=bs rfl;rw[oi] at this;exact absurd this al
  |some q=>
   obtain⟨gb,rfl,_,_,dk⟩:=bp q rfl;have b2:=h1.Kj.sl;have a6:=h1.Kj;rw[Q,I3] at b2 a6;refine AG ?_;refine Az (h1.cells 1 _ rfl) ?_;rw[Q,I3];have hj:A.fr.length-1<(A.fr.map λi:Nat=>(i:Int)).length:=by rw[I3];omega
   obtain⟨_,r',e1,_,an,hc,rfl⟩:=b2.get hj;cases e1;have ev:(A.fr.map λi:Nat=>(i:Int))[A.fr.length-1]=(i:Int):=by
    rw[nA];rw[nD al,rB] at hl;rw[lK hl]
   rw[ev] at hc;have en:((A.fr.length:Int)-1)=((A.fr.length-1:Nat):Int):=by omega
   rw[en];refine AS (show A.fr.length-1<A.fr.length by omega) (AJ (hc 0 _ rfl) ?_);refine AG ?_;refine Az (h1.cells 1 _ rfl) ?_;rw[Q,I3];refine AX (Eo (e:=3) (k:=1) (i:=Tryz.t3) (by kernel_rfl) (by kernel_rfl) (by kernel_rfl) (by omega) w1) ?_;refine AG ?_;rw[AH,AI];have ht:=AE.take a6 (j:=A.fr.length-1) (by rw[I3];omega);have ed:(A.fr.map λi:Nat=>(i:Int)).take (A.fr.length-1)=A.fr.dropLast.map λi:Nat=>(i:Int):=by rw[pI,mO]
   rw[ed] at ht;have bx:ArS.Ok ⟨A.ps,A.fr.dropLast⟩:=⟨λj hj=>h.ok.1 j ((qG _).mem hj),h.ok.2.sublist (qG _)⟩;refine Ix.gU (F':=F) (fl:=A.fr.dropLast) (Mf:=λ_=>False) h1 (Mod.refl _ _) (λ_ h=>h.elim) (λ_ h=>h) (λ_ h=>.inl h) ht (λx J=>.inl ?_) bx λw2 bZ av=>?_
   .rw[Q];exact J
   have c4:A.ps[i]?=some none:=h.ok.1 i (nP hl);have V:=(Ad.1 c4).1;have Y:Grow w2 w2.drew:=Mod.drew _ _;have Z:=bZ.grow Y;obtain⟨pa,pc,a1,_⟩:=Z.GM.sl.shape;have X:=Z.GM;rw[a1] at X;obtain⟨q,_,rfl,hq,_,_,_⟩:=X.sl.get V;have a7:pl.ownBlock=some q.block:=by rw[a1];exact hq.2
   have hF:=h.pF _ a7;refine AT (λk y=>k=8/\y=q.block) ?_;refine AG ?_;rw[AH,AI];refine AP ⟨Z.cells 0 _ rfl,λj hj e=>hF.2 e.2.symm⟩ ?_;refine CG m (λj v hv=>⟨Y.cell (av.cell (aZ j v hv) λe=>nF j c h.fc e) λh=>h,λk _ e=>nF j _ hF.1 e.2⟩) ?_;refine⟨_,O,?_⟩;rw[a1];refine AS V ?_;have b6:∀y,C y->¬y=q.block:=λy hy e=>h.JB _ hF.1 (e▸hy);have ax:=g.BO (g.BO b0 av λy _ hy e=>h.JB c h.fc (e▸hy)) Y λ_ _ _ h=>h;have key:=AE.Oq (R':=PN g C) (x':=some n) (p:=0) (vs:=r++(BM n++[Value.bool true])) (K:=λw8=>Mod (λy=>8=8/\y=q.block) w2.drew w8/\(zI (i:Int)=zI A.num/\Mh g F C W w8 c (A.take n))) X V B (by omega) a8 (λw' r y hm _ hy=>hy.mod hm λz _ hz=>b6 z hz) (λw' r' hm an c6 dr=>?_) λw3 ho hm=>?_
   .rw[lf] at key;exact key
   .rw[Lm (by rw[B,c6])];exact⟨r,rfl,g.BO ax hm λz _ hz=>b6 z hz⟩
   .rw[U,o];rw[o] at I;have c7:=Z.JO a7 hm (by rw[a1];exact ho) I;refine⟨hm.mono λx _ e=>⟨rfl,e⟩,rfl,F,pl,_,λ_ h=>h,λ_ h=>.inl h,c7,?_⟩;exact(((g3.mono λ_ _ h=>h.elim).trans (av.mono λx _ e=>by rw[e];exact h.fc)).trans (Y.mono λ_ _ h=>h.elim)).trans (hm.mono λx _ e=>by rw[e];exact hF.1)
 .have b7:A.fr=[]:=Of (by omega);have U:A.num=A.ps.length:=by unfold ArS.num;rw[b7];rfl
  have o:A.take n=⟨A.ps++[some n],A.fr⟩:=by unfold ArS.take;rw[b7];rfl
  rw[o] at I;have Y:Grow w1 w1.drew:=Mod.drew _ _;have Z:=h1.grow Y;have ax:=g.BO b0 Y λ_ _ _ h=>h;refine AT (λk y=>(k=8/\pl.ownBlock=some y)\/(k=11/\y=c)) ?_;have nM:∀k x,F x->x≠c->pl.ownBlock≠some x->¬((k=8/\pl.ownBlock=some x)\/(k=11/\x=c)):=λk x _ h1 h2 e=>by
   rcases e with⟨_,e⟩|⟨_,e⟩
   .exact h2 e
   .exact h1 e
  have c8:∀j k,¬((k=8/\pl.ownBlock=some ((⟨b3,0,none⟩:Addr).add j).block)\/(k=11/\((⟨b3,0,none⟩:Addr).add j).block=c)):=λj k e=>by
   rcases e with⟨_,e⟩|⟨_,e⟩
   .exact nF j _ (h.pF _ e).1 rfl
   .exact nF j _ h.fc e
  refine AG ?_;rw[AH,AI];refine AP ⟨Z.cells 0 _ rfl,λj hj e=>?_⟩ ?_
  .rcases e with⟨_,e⟩|⟨rfl,_⟩
   .exact(h.pF _ e).2 rfl
   .exact absurd hj (by decide)
  refine CG m (λj v hv=>⟨Y.cell (aZ j v hv) λh=>h,λk _ e=>c8 j k e⟩) ?_;refine⟨_,O,?_⟩;have b8:=DD (v:=.agg (r++(BM n++[Value.bool true])).toArray) (vs:=r++(BM n++[Value.bool true])) bd (by omega) rfl B;have c9:=g.pb_le;refine Jq g.elP Z.GM (Nn _) (cs:=r++(BM n++[Value.bool true])) (x:=some n) b8 B ⟨r,rfl,ax⟩ (λ_ _ _=>PN.one) (λdA dB r' y dC hm an=>an.mod hm λx J hC e=>?_) ?_ (by simp only[maxLen];omega) (λ_ g=>Grow.mod g) λw2 ca w3 ho m2 hm hn=>?_
  .rcases e with e|e
   .exact h.JB x (h.pF x e).1 hC
   .have:=Z.lt x (.inr hC);omega
  .have:(A.ps.length+1)*g.pb<=(A.ps.length+1)*512:=oj _ c9;omega
  refine ⟨m2.mono λx _ e=>.inl ⟨rfl,e⟩,?_⟩;refine AG ?_;rw [AH,AI];have b9:=AE.Aj ho;refine Ix.jV (F':=λx=>F x\/w1.drew.heap.size<=x/\x < w3.heap.size) Z hm (λ_ h=>h) (λ_ h=>.inl h) (λ_ h=>h) ho (λx J=>by
   rcases hn x J with e|e
   .exact .inl e
   .exact .inr ⟨e,.inr ⟨e,(b9 x J).2⟩⟩) I λw4 ba bb=>?_
  refine⟨bb.mono λx _ e=>.inr ⟨rfl,e⟩,?_⟩;refine AG ?_;refine Az (ba.cells 0 _ rfl) ?_;obtain⟨a2,c2,e2,_⟩:=ho.sl.shape;rw[e2,AO,Am,BW,nT,wrap64 (by omega) (by omega)];have zd:w1.heap.size<=w1.drew.heap.size:=Y.size;refine⟨by rw[U];congr 1;omega,λx=>F x\/w1.drew.heap.size<=x/\x<w3.heap.size,ca,fr,λ_ h=>.inl h,λx J=>?_,by rw[o];exact ba,?_⟩
  .rcases J with J|J
   .exact .inl J
   .exact .inr (by omega)
  .exact(((g3.mono λ_ _ h=>h.elim).trans (Y.mono λ_ _ h=>h.elim)).trans (hm.mono λx _ e=>(h.pF x e).1)).trans (bb.mono λx _ e=>by rw[e];exact h.fc)
end
structure Bx (W:World) (b:Nat) (vs:List Value):Prop where
 cells:∀j v,vs[j]?=some v->W.cell? ⟨b,j,none⟩=some v
 live:∀j,j<vs.length->Live W ⟨b,j,none⟩
def Bx.mod{b:Nat}(h:Bx W b vs)(hm:Mod M W W')(i:¬M b):Bx W' b vs:=
 ⟨λj v m=>hm.cell (h.cells j v m) i,λj o=>(h.live j o).mod hm i⟩
def Bx.grow{b:Nat}(h:Bx W b vs)(hm:Grow W W'):Bx W' b vs:=h.mod hm λh=>h
def Bx.Eg{b n:Nat}(h:Bx W b vs)(i:vs.length=n)(m:K (.agg vs.toArray) W):CX n (.pointer (some ⟨b,0,none⟩)) K W:=
 AV i (λj u hu=>by rw[AI];exact h.cells j u hu) m
def Bx.st{b q:Nat}{u:Value}{K:World->Prop}(h:Bx W b vs)(i:q<vs.length)(h1:u.oneCell'=true)(j:u.cells=#[u])(m:∀W',Bx W' b (vs.set q u)->Mod (λx=>x=b) W W'->K W'):CB (.pointer (some ⟨b,q,none⟩)) u K W:=
 DY h.cells h.live i h1 j λW' hm hc hl=>m W' ⟨hc,hl⟩ hm
def Bx.over{b n:Nat}{vs us:List Value}{K:World->Prop}(h:Bx W b vs)(m:us.length=n)(hl:vs.length=n)(h1:∀v∈us,v.oneCell'=true)(o:∀W',Bx W' b us->Mod (λx=>x=b) W W'->K W'):BP n (.pointer (some ⟨b,0,none⟩)) (.agg us.toArray) K W:=
 BB m h1 (λj q=>by rw[AI];exact h.live j (by omega)) λW' hm hc i=>o W' ⟨λj v B=>by have:=hc j v B;rwa [AI] at this,λj q=>i _ (h.live j (by omega))⟩ hm
def Bx.new{t:TypeId}{n:Nat}{o vs:List Value}{K:Value->World->Prop}(q:vs.length=n)(hl:o.length=n)(h1:∀v∈vs,v.oneCell'=true)(h:∀b i,w.heap.size<=b->Grow w i->Bx i b vs->K (.pointer (some ⟨b,0,none⟩)) i) :
  Bt t o (λt5 B=>BP n t5 (.agg vs.toArray) (λw4=>K t5 w4) B) w:=
 BH q hl h1 λb i hb _ I hc m=>h b i (by omega) I ⟨λj v J=>by have:=hc j v J;rwa [AI] at this,λj O=>by have:=m j O;rwa [AI] at this⟩
def Bx.zero{t:TypeId}{o:List Value}(h:∀b i,w.heap.size<=b->Grow w i->Bx i b o->K (.pointer (some ⟨b,0,none⟩)) i):Bt t o K w:=
 Bz λb i hb _ q hc m=>h b i (by omega) q ⟨λj v B=>by have:=hc j v B;rwa [AI] at this,λj I=>by have:=m j I;rwa [AI] at this⟩
def Bx.box{t:TypeId}(h:∀b i,w.heap.size<=b->Grow w i->Bx i b vs->K (.pointer (some ⟨b,0,none⟩)) i):Gf t (.agg vs.toArray) K w:=
 DC λb i hb _ o hc m=>h b i (by omega) o ⟨λj v q=>by have:=hc j v q;rwa [AI] at this,λj B=>by have:=m j B;rwa [AI] at this⟩
def Ao{ok:Nat->Bool}{f:Value}{K i:Cont}(h:BF P ok f args K w)(hk:∀v w',K v w'->i v w'):BF P ok f args i w:=by
 obtain⟨a,b,c,j,m,h⟩:=h;exact⟨a,b,c,j,m,AA h hk⟩
def Bx.lt{b:Nat}(h:Bx W b vs)(i:0<vs.length):b<W.heap.size:=lU W _ (h.cells 0 vs[0] (by simp[i]))
section
variable {α:Type}{g:AvT α}
def AY{r:List Value}{n:Nd α}(hr:r.length=E)(j:Nat):(r++BM n)[E+j]?=(BM n)[j]?:=by
 rw[lF (by omega),hr,nz]
def Ci{r:List Value}{n:Nd α}(hr:r.length=E)(j:Nat)(u:Value):(r++BM n).set (E+j) u=r++(BM n).set j u:=by
 rw[mJ _ _ (by omega),hr,nz]
def BA{r:List Value}{x:α}(n:Nd α)(hr:g.R C w r x):(r++BM n).length=g.E+5:=by rw[BW,g.rlen hr];rfl
def Hn{r:List Value}{x:α}(n:Nd α)(hr:g.R C w r x):∀u∈r++BM n,u.oneCell'=true:=λu hu=>by
 rcases By.1 hu with hu|hu
 .exact g.rone hr u hu
 .exact HI n u hu
def IM:g.toAvK.zN.length=g.E+5:=by rw[AvK.zN,BW,g.zlen];rfl
abbrev cV(g:AvT α)(c:Nat)(i:Int):List Value:=[g.vm,g.vc,g.vd,.pointer (some ⟨c,0,none⟩),zI i]
structure cm (g:AvT α) (F C:Nat->Prop) (W:World) (b c:Nat) (rt:Int) (A:ArS α) (pl fr:Value):Prop where
 box:Bx W b (cV g c rt)
 ar:Ix g (λx=>F x/\x≠b) C W c A pl fr
 fb:F b/\¬C b
abbrev Fb(F:Nat->Prop)(b:Nat):Nat->Prop:=λy=>F y/\y≠b
def Dj(g:AvT α)(F C:Nat->Prop)(W:World)(b:Nat)(i:Int)(A:ArS α):Prop:=∃c pl fr,cm g F C W b c i A pl fr
def cm.mod{b c:Nat}{i:Int}{A:ArS α}{pl fr:Value}(h:cm g F C W b c i A pl fr)(hm:Mod M W W')(j:∀x,F x\/C x->¬M x):cm g F C W' b c i A pl fr:=
 ⟨h.box.mod hm (j b (.inl h.fb.1)),h.ar.mod hm λx m=>j x (m.imp (λh=>h.1) λh=>h),h.fb⟩
def Dj.mod{b:Nat}{i:Int}{A:ArS α}(h:Dj g F C W b i A)(hm:Mod M W W')(j:∀x,F x\/C x->¬M x):Dj g F C W' b i A:=by
 obtain⟨c,pl,fr,h⟩:=h;exact⟨c,pl,fr,h.mod hm j⟩
def Dj.grow{b:Nat}{i:Int}{A:ArS α}(h:Dj g F C W b i A)(hm:Grow W W'):Dj g F C W' b i A:=h.mod hm λ_ _ h=>h
def Dj.lt{b:Nat}{i:Int}{A:ArS α}(h:Dj g F C W b i A):∀x,F x\/C x->x<W.heap.size:=by
 obtain⟨c,pl,fr,h⟩:=h;intro x j;by_cases e:x=b
 .subst e;exact h.box.lt (QC _)
 .exact h.ar.lt x (j.imp (λh=>⟨h,e⟩) λh=>h)
def Dj.JB{b:Nat}{i:Int}{A:ArS α}(h:Dj g F C W b i A):∀x,F x->¬C x:=by
 obtain⟨c,pl,fr,h⟩:=h;intro x j;by_cases e:x=b
 .subst e;exact h.fb.2
 .exact h.ar.JB x ⟨j,e⟩
def Dj.fb{b:Nat}{i:Int}{A:ArS α}(h:Dj g F C W b i A):F b:=by obtain⟨c,pl,fr,h⟩:=h;exact h.fb.1
def Dj.ok{b:Nat}{i:Int}{A:ArS α}(h:Dj g F C W b i A):A.Ok:=by obtain⟨c,pl,fr,h⟩:=h;exact h.ar.ok
def SI{b i:Nat}{X:Int}{A:ArS α}{n:Nd α}(h:Dj g F C W b X A)(hi:A.f i=some n) :
  AB prog g.fat [.pointer (some ⟨b,0,none⟩),zI i] (λv' w'=>∃r,v'=.agg (r++BM n).toArray/\g.R C w' r n.x/\Grow W w') W:=by
 apply g.ok.at_;unfold ja;refine Bx.zero λb4 w1 Y I Z=>?_;obtain⟨c,pl,fr,J⟩:=h;have j:=J.mod I λ_ _ h=>h;refine AG ?_;refine Az (j.box.cells 3 _ rfl) ?_;refine AA (gI j.ar hi) ?_;rintro _ w2 ⟨r,rfl,hr,O⟩;refine BI ?_;have hl:=BA n hr;have Q:=Hn n hr;refine Bx.new hl IM Q λb5 w3 a1 o B5=>?_;refine B5.Eg hl ?_;have q:=(Z.grow O).grow o;refine q.over hl (IM) Q λw4 m U=>?_;refine m.Eg hl ?_;have B:Grow W w4:=((I.trans O).trans o).next U λy V e=>by omega
 exact⟨r,rfl,g.BO (g.BO hr o λ_ _ _ h=>h) U λy _ V e=>by have:=J.ar.lt y (.inr V);omega,B⟩
def Dt{b i:Nat}{A:ArS α}{n:Nd α}{K:Value->World->Prop}(h:Dj g F C W b most A)(hi:A.f i=some n)
 (J:∀r j w',Grow W w'->W.heap.size<=j->Bx w' j (r++BM n)->g.R C w' r n.x->K (.pointer (some ⟨j,0,none⟩)) w') :
  AB prog g.fat [.pointer (some ⟨b,0,none⟩),zI i] (λm O=>Bt g.tn g.toAvK.zN (λo w2=>BP (g.E+5) o m (λQ=>K o Q) w2) O) W:=by
 refine AA (SI h hi) ?_;rintro _ w4 ⟨r,rfl,hr,q⟩;refine Bx.new (BA n hr) IM (Hn n hr) λU V X B Y=>?_;exact J r U V (q.trans B) (by have:=q.size;omega) Y (g.BO hr B λ_ _ _ h=>h)
def E0{f:Nat->Option (Nd α)}{μ:α->Nat×Nat}{t:Tr α}{A:ArS α}(m:A.f=f)(h:Tr.Holds μ f t)(hu:Tr.GB t):t.ht<=A.ps.length/\t.De<=A.ps.length:=by
 have i:t.idx ⊆ List.range A.ps.length:=λx o=>by
  obtain⟨n,j⟩:=h.has μ o;rw[<-m] at j;exact nW.2 (ArS.I9 j).1
 have h1:=Iu hu i;have q:=(Tr.Ta t).1;have B:=Tr.dw t;simp only[List.length_range] at h1;omega
def EB(g:AvT α)(l:List α):Prop:=Tr.sz g.k.μ l<=1099511627776/\Tr.mk g.k.μ l<=1099511627776
def EB.app{l m:List α}(h:EB g (l++m)):EB g l/\EB g m:=by
 obtain⟨h1,i⟩:=h;rw[Tr.CI] at h1;rw[Tr.Fo] at i;exact⟨⟨by omega,by omega⟩,by omega,by omega⟩
def EB.cons{x:α}{m:List α}(h:EB g (x::m)):EB g m/\(g.k.μ x).1+Tr.sz g.k.μ m<=1099511627776/\(g.k.μ x).2+Tr.mk g.k.μ m<=1099511627776:=by
 obtain⟨h1,i⟩:=h;rw[Tr.BS] at h1;rw[Tr.Cw] at i;exact⟨⟨by omega,by omega⟩,h1,i⟩
def Bo{b:Nat}{q:Int}{A:ArS α}{t:Tr α}(h:Dj g F C W b q A)(ht:Tr.Holds g.k.μ A.f t) :
  AB prog g.ftotals [.pointer (some ⟨b,0,none⟩),zI t.root] (λv' w'=>v'=.tuple #[zI t.ht,zI (Tr.sz g.k.μ t.toL),zI (Tr.mk g.k.μ t.toL)]/\Grow W w') W:=by
 apply g.ok.totals;unfold Tc;cases t with
 |nil=>
  simp only[Tr.root];rw[Aa];refine AD (λ_=>?_) λe=>(e rfl).elim;exact⟨rfl,Mod.refl _ _⟩
 |node l i x r=>
  simp only[Tr.root];rw[Aa];refine AD (λe=>by omega) λ_=>?_;obtain⟨_,_,hi⟩:=ht;refine Dt h hi λU I o J O B hr=>?_;have m:=g.rlen hr;refine Cv (λw'=>Grow o w') (Mod.drew _ _) ?_;have hc:∀j v w',Grow o w'->(BM (Tr.EC g.k.μ (.node l i x r) x l.root r.root))[j]?=some v->w'.cell? ⟨I,g.E+j,none⟩=some v:=λj v w' g' Q=>g'.cell (B.cells (g.E+j) v (by rw[AY m];exact Q)) λh=>h;rw[AH,AI];refine Aw (λw' g'=>hc 2 _ w' g' rfl) ?_;rw[AH,AI];refine Aw (λw' g'=>hc 3 _ w' g' rfl) ?_;rw[AH,AI];refine Aw (λw' g'=>hc 4 _ w' g' rfl) ?_;intro w' g';exact⟨rfl,J.trans g'⟩
def JS{m:Addr->Value->Prop}{b:Nat}{r:List Value}{k:Value->Prop}(hl:r.length=g.E)(o:∀j v,r[j]?=some v->m ⟨b,j,none⟩ v)(hk:k (g.toAvK.enc r)):Om g.toAvK m (.pointer (some ⟨b,0,none⟩)) k:=by
 unfold Om AvK.enc at *;cases i:g.one with
 |true=>
  have B:=g.E1 i;rw[i] at hk;simp only[lp] at hk ⊢;cases r with
  |nil=>simp at hl;omega
  |cons a r=>exact AP (o 0 a rfl) hk
 |false=>
  rw[i] at hk;simp only[lj] at hk ⊢;exact CG hl (λj v q=>by rw[AI];exact o j v q) hk
def eD{a b:Nat}{k:Value->Prop}(h:k (zI (max a b:Nat))):LV .i64 (zI a) (zI b) k:=by
 rw[GC];have e:(if(b:Int)>(a:Int) then(b:Int) else(a:Int))=((max a b:Nat):Int):=by split<;>omega
 rw[e];exact h
def B0{a b:Nat}{k:Value->Prop}(hb:a+b<=9223372036854775807)(h:k (zI (a+b:Nat))):CW .i64 (zI a) (zI b) k:=by
 rw[AM,wrap64 (by omega) (by omega)];have e:((a:Int)+(b:Int))=((a+b:Nat):Int):=by omega
 rw[e];exact h
def GQ{b i:Nat}{A:ArS α}{n m:Nd α}{l r:Tr α}{Q:List Value}(h:Dj g F C W b most A)(hs:A.ps.length<=109951162777)(hi:A.f i=some m)(hr:g.R C W Q n.x)(el:n.l=l.root)(er:n.r=r.root)
 (hl:Tr.Holds g.k.μ A.f l)(U:Tr.Holds g.k.μ A.f r)(ul:Tr.GB l)(ur:Tr.GB r)(hb:EB g (l.toL++n.x::r.toL)) :
  AB prog g.fset [.pointer (some ⟨b,0,none⟩),zI i,.agg (Q++BM n).toArray] (λ_ w'=>Dj g F C w' b most (A.put i (Tr.EC g.k.μ (.node l i n.x r) n.x l.root r.root))/\Mod (Fb F b) W w') W:=by
 apply g.ok.set;unfold gV;have o:=g.rlen hr;have ax:=BA n hr;obtain⟨b0,Z⟩:=hb.app;obtain⟨ay,b1,b2⟩:=Z.cons;have b6:=(E0 rfl hl ul).1;have b7:=(E0 rfl U ur).1;have a1:=hb.1;have a6:=hb.2;rw[Tr.CI,Tr.BS] at a1;rw[Tr.Fo,Tr.Cw] at a6;refine Bx.box λb5 w1 a7 g1 B=>?_;have h1:=h.grow g1;refine Az (B.cells (g.E+0) _ (by rw[AY o];rfl)) ?_;rw[el];refine AA (Bo h1 hl) ?_;rintro _ w3 ⟨rfl,g3⟩;refine K0 ?_;rw[AH,AI];have B3:=B.grow g3;refine AJ (B3.cells (g.E+1) _ (by rw[AY o];rfl)) ?_;rw[er];refine AA (Bo (h1.grow g3) U) ?_;rintro _ w5 ⟨rfl,g5⟩;refine K0 ?_;have gd:Grow w5 w5.drew:=Mod.drew _ _;have J:=((g1.trans g3).trans g5).trans gd;obtain⟨c,pl,fr,hT⟩:=h;have a8:=hT.mod J λ_ _ h=>h;have B5:=(B3.grow g5).grow gd;refine AT (λ_ _=>False) ?_;refine AG ?_;rw[AH,AI,AH,AI];refine AP ⟨a8.box.cells 0 _ rfl,λ_ _ e=>e⟩ ?_;rw[AH,AI];refine JS (r:=Q) o (λj v X=>⟨B5.cells j v (by rw[Q0 (Ad.1 X).1];exact X),λ_ _ e=>e⟩) ?_;refine Ao (g.meas (g.BO hr J λ_ _ _ h=>h)) ?_;rintro _ w6 ⟨rfl,g6⟩;refine⟨g6.mono λ_ _ h=>h.elim,?_⟩;refine BI ?_;refine eD ?_;refine B0 (a:=1) (by omega) ?_;refine B0 (by omega) ?_;refine B0 (by omega) ?_;refine B0 (by omega) ?_;refine B0 (by omega) ?_;rw[AH,AI];have B6:=B5.grow g6;refine B6.st (by omega) rfl rfl λw7 B7 m7=>?_;rw[Ci o] at B7;rw[AH,AI];refine B7.st (by rw[BW,o,lG];exact qZ (show 3<5 by decide) _) rfl rfl λw8 B8 m8=>?_;rw[AH,AI];refine B8.st (by rw[lG,BW,o,lG];exact qZ (show 4<5 by decide) _) rfl rfl λY B9 m9=>?_;have eB:((Q++(BM n).set 2 (zI ((1+max l.ht r.ht:Nat):Int))).set (g.E+3) (zI ((Tr.sz g.k.μ l.toL+Tr.sz g.k.μ r.toL+(g.k.μ n.x).1:Nat):Int))).set (g.E+4) (zI ((Tr.mk g.k.μ l.toL+Tr.mk g.k.μ r.toL+(g.k.μ n.x).2:Nat):Int))=Q++BM (Tr.EC g.k.μ (.node l i n.x r) n.x l.root r.root):=by
  rw[mJ _ _ (by omega),mJ _ _ (by omega),o,nz,nz];simp only[BM,Tr.EC,Tr.ht,Tr.toL,qh,oy,el,er,Tr.CI,Tr.BS,Tr.Fo,Tr.Cw];rw[show Tr.sz g.k.μ l.toL+Tr.sz g.k.μ r.toL+(g.k.μ n.x).1=Tr.sz g.k.μ l.toL+((g.k.μ n.x).1+Tr.sz g.k.μ r.toL) by omega,show Tr.mk g.k.μ l.toL+Tr.mk g.k.μ r.toL+(g.k.μ n.x).2=Tr.mk g.k.μ l.toL+((g.k.μ n.x).2+Tr.mk g.k.μ r.toL) by omega]
 rw[eB] at B9;have V:Grow Y Y.drew:=Mod.drew _ _;have aZ:W.heap.size<=b5:=a7;have O:Grow W Y.drew:=((((J.trans g6).next m7 λy hy e=>by omega).next m8 λy hy e=>by omega).next m9 λy hy e=>by omega).trans V;have q:=hT.mod O λ_ _ h=>h;have ak:=B9.grow V;refine AT (λ_ y=>F y/\y≠b) ?_;refine AG ?_;rw[AH,AI];refine AP ⟨q.box.cells 3 _ rfl,λ_ _ e=>e.2 rfl⟩ ?_;have al:¬F b5:=λe=>by
  have:=Dj.lt (g:=g) ⟨c,pl,fr,hT⟩ b5 (.inl e);omega
 refine CG (BA (Tr.EC g.k.μ (.node l i n.x r) n.x l.root r.root) hr) (λj v X=>⟨by rw[AI];exact ak.cells j v X,λ_ _ e=>by rw[AI] at e;exact al e.1⟩) ?_;refine AA (UA q.ar hi (n:=Tr.EC g.k.μ (.node l i n.x r) n.x l.root r.root) (g.BO hr O λ_ _ _ h=>h)) ?_;rintro _ an ⟨hA,av⟩;have I:Mod (λy=>F y/\y≠b) Y.drew an:=av.mono λx _ e=>(q.ar.pF x e).1;refine⟨I,?_⟩;exact⟨⟨c,pl,fr,q.box.mod I λe=>e.2 rfl,hA,q.fb⟩,(O.mono λ_ _ h=>h.elim).trans I⟩
def NF{b i:Nat}{A:ArS α}{n:Nd α}{l r:Tr α}(h:Dj g F C W b most A)(hs:A.ps.length<=109951162777)(hi:A.f i=some n)(J:n.l=l.root)(O:n.r=r.root)(hl:Tr.Holds g.k.μ A.f l)(hr:Tr.Holds g.k.μ A.f r)(Q:Tr.GB l)(U:Tr.GB r) :
  AB prog g.flean [.pointer (some ⟨b,0,none⟩),zI i] (λv' w'=>v'=zI ((l.ht:Int)-(r.ht:Int))/\Grow W w') W:=by
 apply g.ok.lean;unfold dP;have V:=(E0 rfl hl Q).1;have X:=(E0 rfl hr U).1;refine Dt h hi λrc bx w1 m Y B o=>?_;have j:=g.rlen o;refine Az (B.cells (g.E+0) _ (by rw[AY j];rfl)) ?_;rw[J];refine AA (Bo (h.grow m) hl) ?_;rintro _ w3 ⟨rfl,q⟩;refine K0 ?_;refine Az ((B.grow q).cells (g.E+1) _ (by rw[AY j];rfl)) ?_;rw[O];refine AA (Bo ((h.grow m).grow q) hr) ?_;rintro _ w5 ⟨rfl,Z⟩;refine K0 ?_;rw[Am,wrap64 (by omega) (by omega)];exact⟨rfl,(m.trans q).trans Z⟩
end
section
variable {α:Type}{g:AvT α}
structure ZW (g:AvT α) (F C:Nat->Prop) (W w':World) (b:Nat) (rt:Int) (A:ArS α) (L:List α) (I:List Nat) (t':Tr α) (A':ArS α):Prop where
 EI:Dj g F C w' b rt A'
 mod:Mod (Fb F b) W w'
 toL:t'.toL=L
 idx:t'.idx.Perm I
 holds:Tr.Holds g.k.μ A'.f t'
 same:∀j,j∉I->A'.f j=A.f j
 len:A'.ps.length=A.ps.length
def Df(A:ArS α)(i:Nat)(n:Nd α):(A.put i n).ps.length=A.ps.length:=by simp[ArS.put]
def EB.perm{l m:List α}(h:EB g l)(e:m=l):EB g m:=e▸h
def IF{A:ArS α}{i:Nat}{n m:Nd α}(hi:A.f i=some m)(h:j≠i):(A.put i n).f j=A.f j:=by rw[ArS.KI hi,Tr.Da _ h]
def Ig{A:ArS α}{i:Nat}{m:Nd α}{l r:Tr α}{x:α}{μ:α->Nat×Nat}(hi:A.f i=some m)(hl:Tr.Holds μ A.f l)(hr:Tr.Holds μ A.f r)(j:i∉l.idx)(o:i∉r.idx):Tr.Holds μ (A.put i (Tr.EC μ (.node l i x r) x l.root r.root)).f (.node l i x r):=by
 rw[ArS.KI hi];exact Tr.Holds.top μ hl hr j o
def Ru{b i j:Nat}{A:ArS α}{x y:α}{a c r:Tr α}(h:Dj g F C W b most A)(hs:A.ps.length<=109951162777)(hh:Tr.Holds g.k.μ A.f (.node (.node a j y c) i x r))(hu:Tr.GB (.node (.node a j y c) i x r))(hb:EB g (Tr.node (.node a j y c) i x r).toL) :
  AB prog g.flift [.pointer (some ⟨b,0,none⟩),zI i,.bool true] (λv' w'=>v'=zI j/\∃A',ZW g F C W w' b most A (Tr.node (.node a j y c) i x r).toL (Tr.node (.node a j y c) i x r).idx (.node a j y (.node c i x r)) A') W:=by
 apply g.ok.lift;unfold YT;obtain⟨⟨ha,hc,hj⟩,hr,hi⟩:=hh;obtain⟨u1,u2,u3,u4,u5⟩:=Tr.Av.1 hu;obtain⟨v1,v2,v3,v4,v5⟩:=Tr.Av.1 u1;have hL:(Tr.node (.node a j y c) i x r).toL=a.toL++y::(c.toL++x::r.toL):=by simp[Tr.toL]
 rw[hL] at hb;have a8:=hb.app.2.cons.1;have V:i≠j:=λe=>u3 (by simp[Tr.idx,e]);have X:i∉c.idx:=λe=>u3 (by simp[Tr.idx,e]);have ak:i∉a.idx:=λe=>u3 (by simp[Tr.idx,e]);have al:j∉r.idx:=u5 j (by simp[Tr.idx]);refine Dt h hi λrc bx w1 g1 Y B m=>?_;have J:=g.rlen m;refine AQ ?_;refine Az (B.cells (g.E+0) _ (by rw[AY J];rfl)) ?_;have h1:=h.grow g1;refine Dt h1 hj λrd bd w2 g2 aZ D O=>?_;have Q:=g.rlen O;have B2:=B.grow g2;refine Az (D.cells (g.E+1) _ (by rw[AY Q];rfl)) ?_;rw[AH,AI];have nF:∀{z:Nat},W.heap.size<=z->∀x,F x\/C x->x≠z:=λhz x hx e=>by have:=h.lt x hx;omega
 have s1:=g1.size;refine B2.st (q:=g.E+0) (by rw[BA _ m];omega) rfl rfl λw3 B3 m3=>?_;have b0:=B.lt (by rw[BA _ m];omega);have D3:=D.mod m3 λe=>by omega
 rw[Ci J] at B3;refine B3.Eg (by rw[BW,lG,J];rfl) ?_;have g3:Grow W w3:=(g1.trans g2).next m3 λy o e=>by omega
 have h3:=h.grow g3;have Z:=g.BO (g.BO m g2 λ_ _ _ h=>h) m3 λy _ o e=>nF Y y (.inr o) e;refine AA (GQ (l:=c) (r:=r) (n:={ Tr.EC g.k.μ (.node (.node a j y c) i x r) x (Tr.node a j y c).root r.root with l:=c.root }) h3 hs hi Z rfl rfl hc hr v2 u2 a8) ?_;rintro _ w4 ⟨h4,m4⟩;have D4:=D3.mod m4 λe=>nF (by omega) bd (.inl e.1) rfl;have I:(A.put i (Tr.EC g.k.μ (.node c i x r) x c.root r.root)).f=Tr.GK A.f i (some (Tr.EC g.k.μ (.node c i x r) x c.root r.root)):=ArS.KI hi;rw[AH,AI];refine D4.st (q:=g.E+1) (by rw[BA _ O];omega) rfl rfl λw5 D5 m5=>?_;rw[Ci Q] at D5;refine D5.Eg (by rw[BW,lG,Q];rfl) ?_;have h5:=h4.mod m5 λx hx e=>nF (by omega) x hx e;have a1:=g.BO (g.BO (g.BO O m3 λy _ o e=>nF Y y (.inr o) e) m4 λy _ o e=>h.JB y e.1 o) m5 λy _ o e=>nF (by omega) y (.inr o) e;have U:(A.put i (Tr.EC g.k.μ (.node c i x r) x c.root r.root)).f j=some (Tr.EC g.k.μ (.node a j y c) y a.root c.root):=by rw[I,Tr.Da _ (oF V)];exact hj
 have a6:Tr.Holds g.k.μ (A.put i (Tr.EC g.k.μ (.node c i x r) x c.root r.root)).f (.node c i x r):=by rw[I];exact Tr.Holds.top g.k.μ hc hr X u4
 have a7:Tr.Holds g.k.μ (A.put i (Tr.EC g.k.μ (.node c i x r) x c.root r.root)).f a:=by rw[I];exact ha.out g.k.μ _ ak
 have an:Tr.GB (.node c i x r):=Tr.Av.2 ⟨v2,u2,X,u4,λq hq=>u5 q (by simp[Tr.idx,hq])⟩;have av:(A.put i (Tr.EC g.k.μ (.node c i x r) x c.root r.root)).ps.length<=109951162777:=by rw[Df];exact hs
 refine AA (GQ (l:=a) (r:=.node c i x r) (n:={ Tr.EC g.k.μ (.node a j y c) y a.root c.root with r:=(i:Int) }) h5 av U a1 rfl rfl a7 a6 v1 an hb) ?_;rintro _ w6 ⟨h6,m6⟩;have ax:=ArS.KI (n:=Tr.EC g.k.μ (.node a j y (.node c i x r)) y a.root (Tr.node c i x r).root) U;refine⟨rfl,_,h6,?_,by simp[Tr.toL],(Tr.Vd a c r i j x y).2,?_,λq hq=>?_,by rw[Df,Df]⟩
 .exact(((g3.mono λ_ _ h=>h.elim).trans m4).next m5 λy o e=>by omega).trans m6
 .refine Ig (x:=y) U a7 a6 v3 λe=>?_;simp only[Tr.idx,By,Mp] at e;rcases e with e|e|e
  .exact v4 e
  .exact V e.symm
  .exact al e
 .simp only[Tr.idx,By,Mp,rJ] at hq;have ay:Tr.GK (A.put i (Tr.EC g.k.μ (.node c i x r) x c.root r.root)).f j (some (Tr.EC g.k.μ (.node a j y (.node c i x r)) y a.root (Tr.node c i x r).root)) q=A.f q:=by rw[Tr.Da _ hq.1.2.1,I,Tr.Da _ hq.2.1]
  rw[<-ay];exact congrFun ax q
def SZ{b i j:Nat}{A:ArS α}{x y:α}{a c l:Tr α}(h:Dj g F C W b most A)(hs:A.ps.length<=109951162777)(hh:Tr.Holds g.k.μ A.f (.node l i x (.node a j y c)))(hu:Tr.GB (.node l i x (.node a j y c)))(hb:EB g (Tr.node l i x (.node a j y c)).toL) :
  AB prog g.flift [.pointer (some ⟨b,0,none⟩),zI i,.bool false] (λv' w'=>v'=zI j/\∃A',ZW g F C W w' b most A (Tr.node l i x (.node a j y c)).toL (Tr.node l i x (.node a j y c)).idx (.node (.node l i x a) j y c) A') W:=by
 apply g.ok.lift;unfold YT;obtain⟨hl,⟨ha,hc,hj⟩,hi⟩:=hh;obtain⟨u1,u2,u3,u4,u5⟩:=Tr.Av.1 hu;obtain⟨v1,v2,v3,v4,v5⟩:=Tr.Av.1 u2;have hL:(Tr.node l i x (.node a j y c)).toL=(l.toL++x::a.toL)++y::c.toL:=by simp[Tr.toL]
 rw[hL] at hb;have a8:=hb.app.1;have V:i≠j:=λe=>u4 (by simp[Tr.idx,e]);have ak:i∉c.idx:=λe=>u4 (by simp[Tr.idx,e]);have X:i∉a.idx:=λe=>u4 (by simp[Tr.idx,e]);have al:j∉l.idx:=λe=>u5 j e (by simp[Tr.idx]);refine Dt h hi λrc bx w1 g1 Y B m=>?_;have J:=g.rlen m;refine AL ?_;refine Az (B.cells (g.E+1) _ (by rw[AY J];rfl)) ?_;have h1:=h.grow g1;refine Dt h1 hj λrd bd w2 g2 aZ D O=>?_;have Q:=g.rlen O;have B2:=B.grow g2;refine Az (D.cells (g.E+0) _ (by rw[AY Q];rfl)) ?_;rw[AH,AI];have nF:∀{z:Nat},W.heap.size<=z->∀x,F x\/C x->x≠z:=λhz x hx e=>by have:=h.lt x hx;omega
 have s1:=g1.size;refine B2.st (q:=g.E+1) (by rw[BA _ m];omega) rfl rfl λw3 B3 m3=>?_;have b0:=B.lt (by rw[BA _ m];omega);have D3:=D.mod m3 λe=>by omega
 rw[Ci J] at B3;refine B3.Eg (by rw[BW,lG,J];rfl) ?_;have g3:Grow W w3:=(g1.trans g2).next m3 λy o e=>by omega
 have h3:=h.grow g3;have Z:=g.BO (g.BO m g2 λ_ _ _ h=>h) m3 λy _ o e=>nF Y y (.inr o) e;refine AA (GQ (l:=l) (r:=a) (n:={ Tr.EC g.k.μ (.node l i x (.node a j y c)) x l.root (Tr.node a j y c).root with r:=a.root }) h3 hs hi Z rfl rfl hl ha u1 v1 a8) ?_;rintro _ w4 ⟨h4,m4⟩;have D4:=D3.mod m4 λe=>nF (by omega) bd (.inl e.1) rfl;have I:(A.put i (Tr.EC g.k.μ (.node l i x a) x l.root a.root)).f=Tr.GK A.f i (some (Tr.EC g.k.μ (.node l i x a) x l.root a.root)):=ArS.KI hi;rw[AH,AI];refine D4.st (q:=g.E+0) (by rw[BA _ O];omega) rfl rfl λw5 D5 m5=>?_;rw[Ci Q] at D5;refine D5.Eg (by rw[BW,lG,Q];rfl) ?_;have h5:=h4.mod m5 λx hx e=>nF (by omega) x hx e;have a1:=g.BO (g.BO (g.BO O m3 λy _ o e=>nF Y y (.inr o) e) m4 λy _ o e=>h.JB y e.1 o) m5 λy _ o e=>nF (by omega) y (.inr o) e;have U:(A.put i (Tr.EC g.k.μ (.node l i x a) x l.root a.root)).f j=some (Tr.EC g.k.μ (.node a j y c) y a.root c.root):=by rw[I,Tr.Da _ (oF V)];exact hj
 have a6:Tr.Holds g.k.μ (A.put i (Tr.EC g.k.μ (.node l i x a) x l.root a.root)).f (.node l i x a):=by rw[I];exact Tr.Holds.top g.k.μ hl ha u3 X
 have a7:Tr.Holds g.k.μ (A.put i (Tr.EC g.k.μ (.node l i x a) x l.root a.root)).f c:=by rw[I];exact hc.out g.k.μ _ ak
 have an:Tr.GB (.node l i x a):=Tr.Av.2 ⟨u1,v1,u3,X,λq hq e=>u5 q hq (by simp[Tr.idx,e])⟩;have av:(A.put i (Tr.EC g.k.μ (.node l i x a) x l.root a.root)).ps.length<=109951162777:=by rw[Df];exact hs
 refine AA (GQ (l:=.node l i x a) (r:=c) (n:={ Tr.EC g.k.μ (.node a j y c) y a.root c.root with l:=(i:Int) }) h5 av U a1 rfl rfl a6 a7 an v2 hb) ?_;rintro _ w6 ⟨h6,m6⟩;have ax:=ArS.KI (n:=Tr.EC g.k.μ (.node (.node l i x a) j y c) y (Tr.node l i x a).root c.root) U;refine⟨rfl,_,h6,?_,by simp[Tr.toL],(Tr.YF l a c j i y x).2,?_,λq hq=>?_,by rw[Df,Df]⟩
 .exact(((g3.mono λ_ _ h=>h.elim).trans m4).next m5 λy o e=>by omega).trans m6
 .refine Ig (x:=y) U a6 a7 (λe=>?_) v4;simp only[Tr.idx,By,Mp] at e;rcases e with e|e|e
  .exact al e
  .exact V e.symm
  .exact v3 e
 .simp only[Tr.idx,By,Mp,rJ] at hq;have ay:Tr.GK (A.put i (Tr.EC g.k.μ (.node l i x a) x l.root a.root)).f j (some (Tr.EC g.k.μ (.node (.node l i x a) j y c) y (Tr.node l i x a).root c.root)) q=A.f q:=by rw[Tr.Da _ hq.2.2.2.1,I,Tr.Da _ hq.2.1]
  rw[<-ay];exact congrFun ax q
def DH{f i:Nat->Option (Nd α)}{μ:α->Nat×Nat}{t:Tr α}{I:List Nat}(h:Tr.Holds μ f t)(m:∀j,j∉I->i j=f j)(o:∀j∈t.idx,j∉I):Tr.Holds μ i t:=h.frame μ λj q=>m j (o j q)
def Gj{b i:Nat}{A:ArS α}{n m:Nd α}{l r:Tr α}(h:Dj g F C W b most A)(hs:A.ps.length<=109951162777)(hi:A.f i=some m)(X:g.R C W vs n.x)(el:n.l=l.root)(er:n.r=r.root)
 (hl:Tr.Holds g.k.μ A.f l)(hr:Tr.Holds g.k.μ A.f r)(hu:Tr.GB (.node l i n.x r))(hb:EB g (Tr.node l i n.x r).toL) :
  AB prog g.fbalance [.pointer (some ⟨b,0,none⟩),zI i,.agg (vs++BM n).toArray] (λv' w'=>∃t' A',v'=zI t'.root/\ZW g F C W w' b most A (Tr.node l i n.x r).toL (Tr.node l i n.x r).idx t' A') W:=by
 apply g.ok.balance;unfold Pg;obtain⟨u1,u2,u3,u4,u5⟩:=Tr.Av.1 hu;have O:=g.rlen X;have nF:∀{z:Nat},W.heap.size<=z->∀x,F x\/C x->x≠z:=λhz x hx e=>by have:=h.lt x hx;omega
 refine Bx.box λbx w1 Q g1 B=>?_;refine B.Eg (BA _ X) ?_;have h1:=h.grow g1;refine AA (GQ (l:=l) (r:=r) h1 hs hi (g.BO X g1 λ_ _ _ h=>h) el er hl hr u1 u2 hb) ?_;rintro _ w3 ⟨h3,m3⟩;have b9:=g.BO (g.BO X g1 λ_ _ _ h=>h) m3 λy _ Z e=>h.JB y e.1 Z;have B3:=B.mod m3 λe=>nF Q bx (.inl e.1) rfl;have I:(A.put i (Tr.EC g.k.μ (.node l i n.x r) n.x l.root r.root)).ps.length<=109951162777:=by rw[Df];exact hs
 have hT:=Ig (x:=n.x) hi hl hr u3 u4;obtain⟨a1,a6,ax⟩:=id hT;have Y:∀j,j∉(Tr.node l i n.x r).idx->(A.put i (Tr.EC g.k.μ (.node l i n.x r) n.x l.root r.root)).f j=A.f j:=λj hj=>IF hi λe=>hj (by simp[Tr.idx,e]);have J:=Df A i (Tr.EC g.k.μ (.node l i n.x r) n.x l.root r.root);have bc:Mod (Fb F b) W w3:=(g1.mono λ_ _ h=>h.elim).trans m3;generalize A.put i (Tr.EC g.k.μ (.node l i n.x r) n.x l.root r.root)=A3 at h3 I hT a1 a6 ax Y J;refine AA (NF h3 I ax rfl rfl a1 a6 u1 u2) ?_;rintro _ w4 ⟨rfl,g4⟩;have h4:=h3.grow g4;have B4:=B3.grow g4;have ay:=g.BO b9 g4 λ_ _ _ h=>h;have aZ:Mod (Fb F b) W w4:=bc.trans (g4.mono λ_ _ h=>h.elim);rw[BE];refine AD (λbd=>?_) λbZ=>?_
 .obtain⟨a,j,y,c,rfl⟩:=Tr.K3 (t:=l) (by omega);refine Az (B4.cells (g.E+0) _ (by rw[AY O];rfl)) ?_;rw[el];obtain⟨ha,hc,hj⟩:=id a1;obtain⟨v1,v2,v3,v4,v5⟩:=Tr.Av.1 u1;refine AA (NF h4 I hj rfl rfl ha hc v1 v2) ?_;rintro _ w6 ⟨rfl,g6⟩;have h6:=h4.grow g6;have B6:=B4.grow g6;have a7:Mod (Fb F b) W w6:=aZ.trans (g6.mono λ_ _ h=>h.elim);refine G9 (λbk=>?_) λbl=>?_
  .obtain⟨p,q,z,s,rfl⟩:=Tr.K3 (t:=c) (by omega);refine Az (B6.cells (g.E+0) _ (by rw[AY O];rfl)) ?_;rw[el];refine AA (SZ h6 I a1 u1 hb.app.1) ?_;rintro _ w8 ⟨rfl,A8,S8⟩;have B8:=B6.mod S8.mod λe=>nF Q bx (.inl e.1) rfl;rw[AH,AI];refine B8.st (q:=g.E+0) (by rw[BA _ X];omega) rfl rfl λw9 B9 m9=>?_;rw[Ci O] at B9;refine B9.Eg (by rw[BW,lG,O];rfl) ?_;have h9:=S8.EI.mod m9 λx hx e=>nF Q x hx e;have a8:=g.BO (g.BO (g.BO ay g6 λ_ _ _ h=>h) S8.mod λy _ Z e=>h.JB y e.1 Z) m9 λy _ Z e=>nF Q y (.inr Z) e;have U:A8.f i=some _:=(S8.same i u3).trans ax;have ba:Tr.Holds g.k.μ A8.f r:=DH a6 S8.same λj' b0 e=>u5 j' e b0;have ak:A8.ps.length<=109951162777:=by rw[S8.len];exact I
   have al:Tr.GB (Tr.node (.node (.node a j y p) q z s) i n.x r):=by
    have:(Tr.node (.node (.node a j y p) q z s) i n.x r).idx.Perm (Tr.node (.node a j y (.node p q z s)) i n.x r).idx:=S8.idx.append (nK _);exact this.nodup_iff.2 hu
   obtain⟨x1,x2,x3,x4,x5⟩:=Tr.Av.1 al;have an:EB g (Tr.node (.node (.node a j y p) q z s) i n.x r).toL:=hb.perm (by rw[Tr.toL,S8.toL];rfl);refine AA (GQ (l:=.node (.node a j y p) q z s) (r:=r) (n:={ n with l:=(q:Int) }) h9 ak U a8 rfl er S8.holds ba x1 x2 an) ?_;rintro _ bp ⟨b1,b2⟩;have av:(A8.put i (Tr.EC g.k.μ (.node (.node (.node a j y p) q z s) i n.x r) n.x (Tr.node (.node a j y p) q z s).root r.root)).ps.length<=109951162777:=by rw[Df];exact ak
   refine AA (Ru b1 av (Ig U S8.holds ba x3 x4) al an) ?_;rintro _ b6 ⟨rfl,V,S12⟩;have o:(Tr.node (.node (.node a j y p) q z s) i n.x r).idx.Perm (Tr.node (.node a j y (.node p q z s)) i n.x r).idx:=S8.idx.append (nK _);refine⟨_,V,rfl,S12.EI,?_,S12.toL.trans (by rw[Tr.toL,S8.toL];rfl),S12.idx.trans o,S12.holds,λt ht=>?_,by rw[S12.len,Df,S8.len,J]⟩
   .exact(((a7.trans S8.mod).next m9 λy Z e=>by omega).trans b2).trans S12.mod
   .have b7:t∉(Tr.node (.node (.node a j y p) q z s) i n.x r).idx:=λe=>ht (o.mem_iff.1 e);have b8:t∉(Tr.node a j y (.node p q z s)).idx:=λe=>ht (by rw[Tr.idx];exact lC _ e);exact(((S12.same t b7).trans (IF U λe=>ht (by simp[Tr.idx,e]))).trans (S8.same t b8)).trans (Y t ht)
  .refine AA (Ru h6 I hT hu hb) ?_;rintro _ b6 ⟨rfl,V,S12⟩;exact⟨_,V,rfl,S12.EI,a7.trans S12.mod,S12.toL,S12.idx,S12.holds,λt ht=>(S12.same t ht).trans (Y t ht),by rw[S12.len,J]⟩
 refine G9 (λbk=>?_) λbl=>?_
 .obtain⟨a,j,y,c,rfl⟩:=Tr.K3 (t:=r) (by omega);refine Az (B4.cells (g.E+1) _ (by rw[AY O];rfl)) ?_;rw[er];obtain⟨ha,hc,hj⟩:=id a6;obtain⟨v1,v2,v3,v4,v5⟩:=Tr.Av.1 u2;refine AA (NF h4 I hj rfl rfl ha hc v1 v2) ?_;rintro _ w6 ⟨rfl,g6⟩;have h6:=h4.grow g6;have B6:=B4.grow g6;have a7:Mod (Fb F b) W w6:=aZ.trans (g6.mono λ_ _ h=>h.elim);rw[BE];refine AD (λbd=>?_) λbs=>?_
  .obtain⟨p,q,z,s,rfl⟩:=Tr.K3 (t:=a) (by omega);refine Az (B6.cells (g.E+1) _ (by rw[AY O];rfl)) ?_;rw[er];refine AA (Ru h6 I a6 u2 hb.app.2.cons.1) ?_;rintro _ w8 ⟨rfl,A8,S8⟩;have B8:=B6.mod S8.mod λe=>nF Q bx (.inl e.1) rfl;rw[AH,AI];refine B8.st (q:=g.E+1) (by rw[BA _ X];omega) rfl rfl λw9 B9 m9=>?_;rw[Ci O] at B9;refine B9.Eg (by rw[BW,lG,O];rfl) ?_;have h9:=S8.EI.mod m9 λx hx e=>nF Q x hx e;have a8:=g.BO (g.BO (g.BO ay g6 λ_ _ _ h=>h) S8.mod λy _ Z e=>h.JB y e.1 Z) m9 λy _ Z e=>nF Q y (.inr Z) e;have U:A8.f i=some _:=(S8.same i u4).trans ax;have bb:Tr.Holds g.k.μ A8.f l:=DH a1 S8.same λj' b0 e=>u5 j' b0 e;have ak:A8.ps.length<=109951162777:=by rw[S8.len];exact I
   have o:(Tr.node l i n.x (.node p q z (.node s j y c))).idx.Perm (Tr.node l i n.x (.node (.node p q z s) j y c)).idx:=(nK _).append (S8.idx.cons i);have al:Tr.GB (Tr.node l i n.x (.node p q z (.node s j y c))):=o.nodup_iff.2 hu;obtain⟨x1,x2,x3,x4,x5⟩:=Tr.Av.1 al;have an:EB g (Tr.node l i n.x (.node p q z (.node s j y c))).toL:=hb.perm (by rw[Tr.toL,S8.toL];rfl);refine AA (GQ (l:=l) (r:=.node p q z (.node s j y c)) (n:={ n with r:=(q:Int) }) h9 ak U a8 el rfl bb S8.holds x1 x2 an) ?_;rintro _ bp ⟨b1,b2⟩;have av:(A8.put i (Tr.EC g.k.μ (.node l i n.x (.node p q z (.node s j y c))) n.x l.root (Tr.node p q z (.node s j y c)).root)).ps.length<=109951162777:=by rw[Df];exact ak
   refine AA (SZ b1 av (Ig U bb S8.holds x3 x4) al an) ?_;rintro _ b6 ⟨rfl,V,S12⟩;refine⟨_,V,rfl,S12.EI,?_,S12.toL.trans (by rw[Tr.toL,S8.toL];rfl),S12.idx.trans o,S12.holds,λt ht=>?_,by rw[S12.len,Df,S8.len,J]⟩
   .exact(((a7.trans S8.mod).next m9 λy Z e=>by omega).trans b2).trans S12.mod
   .have b7:t∉(Tr.node l i n.x (.node p q z (.node s j y c))).idx:=λe=>ht (o.mem_iff.1 e);have b8:t∉(Tr.node (.node p q z s) j y c).idx:=λe=>ht (by rw[Tr.idx];exact lE _ (kx _ e));exact(((S12.same t b7).trans (IF U λe=>ht (by simp[Tr.idx,e]))).trans (S8.same t b8)).trans (Y t ht)
  .refine AA (SZ h6 I hT hu hb) ?_;rintro _ b6 ⟨rfl,V,S12⟩;exact⟨_,V,rfl,S12.EI,a7.trans S12.mod,S12.toL,S12.idx,S12.holds,λt ht=>(S12.same t ht).trans (Y t ht),by rw[S12.len,J]⟩
 .exact⟨.node l i n.x r,A3,rfl,h4,aZ,rfl,nK _,hT,Y,J⟩
end
end Go.Proofs.YtbdjachmndlplaaGreatDoor
