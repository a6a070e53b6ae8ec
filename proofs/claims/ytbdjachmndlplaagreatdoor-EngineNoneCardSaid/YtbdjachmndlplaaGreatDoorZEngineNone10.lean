/- parts of the proof, written short by a program of ours -/
import Derived.Test.YtbdjachmndlplaaGreatDoorZEngineNone9
set_option maxRecDepth 100000
set_option linter.unusedSimpArgs false
set_option linter.unusedVariables false
set_option linter.defProp false
namespace Go.Proofs.YtbdjachmndlplaaGreatDoor
open Go Proofs.Tryz
variable {j:Nat}{w W W' w' w0:World}{F S C M F':Nat->Prop}{v sv fr a0:Value}{α:Type}{ks:List DKey}{P:Program}
def fw{S Q:Nat->Prop}{l:List Int}{s:List Attr}(h:I6 S w v l)(U:Ba Q w sv s)(hl:l.length<=1000000000)(V:s.length<=64) :
  AB prog 357 [v,sv] (λv' w'=>Hm w.heap.size w.heap.size w' v' (l.map λr=>(⟨r,s⟩:Cel))/\Grow w w') w:=by
 refine uS2 (dB 551100924617 [([5,10],[(5,5),(7,7),(10,21)])] []) func357 (λ_ _ _ _=>⟨by conv=>lhs;reduce,by dsimp only[PI,AF],by kernel_rfl⟩) ?_;unfold uI;obtain⟨a,c,rfl,_⟩:=h.shape;rw[AO];refine AU (λvs W=>∃(i:Nat) (ov:Value),i<=l.length/\vs=[ov,zI i]/\Hm w.heap.size w.heap.size W ov ((l.take i).map λr=>(⟨r,s⟩:Cel))/\Grow w W) (λvs _=>l.length-Dh vs 1) ⟨0,_,Nn _,rfl,Hm.nil,Mod.refl _ _⟩ ?_;rintro vs W ⟨i,ov,hi,rfl,o,g⟩ _;simp only[FC];refine G9 (λX=>?_) λY=>?_;rotate_left
 .obtain rfl:i=l.length:=by omega
  rw[S7] at o;exact⟨o,g⟩
 have j:i<l.length:=by omega
 obtain⟨p,r,rfl,_,hr,hc,rfl⟩:=(h.grow g (by decide) λ_ _ h=>h).get j;refine AS j (AJ (by have:=hc 0 _ rfl;exact this) ?_);refine AA (Eh (U.grow g (by decide) λ_ _ h=>h) (by omega)) ?_;rintro v1 Z ⟨O,B⟩;have z:=g.size;have z1:=B.size;have m:∀b,ov.ownBlock=some b->w.heap.size<=b/\b<W.heap.size:=λb e=>by
  obtain⟨_,q,_⟩:=o;exact AE.Aj q b e
 obtain⟨a4,k4,e4,_⟩:=AE.shape O;refine⟨#[.int .i32 l[i],v1],by subst e4;kernel_rfl,?_⟩;refine N7 (c:=⟨l[i],s⟩) (D':=λx=>W.heap.size<=x/\x<Z.heap.size) (o.grow B) (by omega) ((AE.sl O).sub (λx I h=>⟨h.1,I⟩) (by decide) λ_ _ h=>h) (λx I=>⟨by omega,I.2,λe=>by have:=m x e;omega⟩) (by rw[I3,Lc];omega) λJ W' h' m' _=>?_;rw[AM,AK (by omega)];refine⟨⟨i+1,J,j,rfl,?_,(g.trans B).next m' λb hb e=>by have:=m b e;omega⟩,by rw[Ar,Ar];omega⟩;rw[S5,Bq j,kZ];exact h'
abbrev Vg{α:Type}:World->List Value->α->Prop:=λ_ r _=>∀u∈r,u.oneCell'=true
def WL{S D:Nat->Prop}{d:List Cel}(h:Bi S D w v d)(hl:d.length<=1000000000)(hs:∀c∈d,c.set.length<=64) :
  AB prog 45 [v] (λv' w'=>AE w.heap.size 66 2 Vg w' v' d/\Grow w w') w:=by
 refine uS1 (dB 551100924617 [([9],[(4,4),(9,22)])] []) func45 (λ_ _ _=>⟨by conv=>lhs;reduce,by dsimp only[PI,AF],by kernel_rfl⟩) ?_;unfold uI;have h':Bi S (λb=>D b/\b<w.heap.size) w v d:=h.sub (λ_ _ h=>h) (by decide) λr x U=>U.mod (Mod.refl (λ_=>False) _) (λ_ _ _ h=>h) λy q hc=>⟨hc,q⟩;refine AA (K:=λv' w'=>AE w.heap.size 66 2 (Jz λb=>D b/\b<w.heap.size) w' v' d/\Grow w w') ?_ ?_
 .refine uS1 (dB 267353 [] []) func91 (λ_ _ _=>⟨by conv=>lhs;reduce,by dsimp only[PI,AF],by kernel_rfl⟩) ?_;unfold uI;exact Ib MX h' (by omega) (λ_ _ _ U=>Jz.one U) (λO w2 r y hz hm q=>q.mod hm (λb _ hb e=>by have:=hb.2;omega) λ_ _ h=>h) λv' w' h1 h2=>And.intro h1 h2
 rintro v1 O ⟨Q,V⟩;obtain⟨a1,c1,rfl,av,ax,hp,hn⟩:=AE.shape Q;rw[AO];cases a1 with
 |none=>
  have:=hn rfl;subst this;refine AU (λvs w2=>vs=[zI 0]/\w2=O) (λ_ _=>0) ⟨rfl,rfl⟩ ?_;rintro vs _ ⟨rfl,rfl⟩ _;rename World=>O
  rw[BQ,Nr,Ai];exact AD (λh=>by simp at h) λ_=>⟨AE.mod Q (Mod.refl (λ_=>False) _) (λ_ _ h=>h) λr y q=>by simp at q,V⟩
 |some p1=>
  obtain⟨g,rfl,ay,aZ,_⟩:=hp _ rfl;refine AU (λvs W'=>∃i:Nat,i<=d.length/\vs=[zI i]/\AE w.heap.size 66 2 (λ_ _ _=>True) W' (.slice (some ⟨g,0,none⟩) d.length c1) d/\Mod (λb=>b=g) O W'/\∀j (h1:j<d.length),i<=j->∃sv,W'.cell? ⟨g,j*2+1,none⟩=some sv/\Ba (λb=>D b/\b<w.heap.size) W' sv d[j].set) (λvs _=>d.length-Dh vs 0) ⟨0,Nn _,rfl,Q.any,Mod.refl _ _,λj h1 _=>?_⟩ ?_
  .obtain⟨r,hr,X,⟨sv,rfl,Y⟩,_⟩:=AE.cellsOf Q h1;exact⟨sv,X 1 sv rfl,Y⟩
  rintro vs W ⟨i,hi,rfl,oA,Z,rows⟩ _;rw[BQ,Nr,Ai];have zA:=Z.size;have z1:=V.size;refine AD (λb0=>?_) λb1=>?_;rotate_left
  .exact⟨AE.conv oA λj hj r b2 o b6=>o,V.next Z λb hb e=>by omega⟩
  have m:i<d.length:=by omega
  obtain⟨sv,hc,a6⟩:=rows i m (K8 _);refine AS m ?_;rw[AI,AH,FI];refine AJ hc ?_;refine AA (Eh a6 (by have:=hs _ (ku m);omega)) ?_;rintro v4 w4 ⟨oS,B⟩;obtain⟨I,a7⟩:=oS.one;have z4:=B.size;refine AS m ?_;rw[AI,AH,FI];have J:AE w.heap.size 66 2 (λ_ _ _=>True) w4 (.slice (some ⟨g,0,none⟩) d.length c1) d:=AE.mod oA B (λ_ _ h=>h) λ_ _ _ _=>trivial;obtain⟨_,_,_,_,a8⟩:=AE.cellsOf J m;refine Live.st (a8 1 (by decide)) I a7 ?_;have ak:=AE.Kz J m (j:=1) (by decide) I;have m5:=LW w4 g (i*2+1) v4;rw[AM,AK (by omega)];refine⟨⟨i+1,m,rfl,ak,(Z.next B λ_ _ h=>h.elim).next m5 λ_ _ e=>e,λj h1 h2=>?_⟩,by rw[Bw,Bw];omega⟩;obtain⟨al,an,o⟩:=rows j h1 (by omega);refine⟨al,?_,(o.grow B (by decide) λ_ _ h=>h).mod m5 (λb _ hb e=>by have:=hb.2;omega) (by decide) λ_ _ h=>h⟩;rw[S4 w4 _ _ v4 (by intro e2;simp only[Addr.mk.injEq] at e2;omega)];exact B.cell an λh=>h
section
variable {w:World}{sv dv xv:Value}{ks:List DKey}{d:List Cel}{x:List Dop}{E Sd Dd Sx Dx Rd:Nat->Prop}{b3 b4 b5:Nat}
def Vx(hS:CK E w sv ks)(hd:Bi Sd Dd w dv d)(hx:Ak Sx Dx w xv x)(B3:Bx w b3 [sv])(B4:Bx w b4 [dv])(B5:Bx w b5 [xv])
 (hR:∀y,y<w.heap.size->(E y\/Sd y\/Dd y\/Sx y\/Dx y\/y=b3\/y=b5)->Rd y)(h4:∀y,Rd y->y≠b4/\y<w.heap.size)
 (hg:∀o∈x,BX ks o/\Bk o<=536870912)(ht:BN x<=d.length)(cu:∀c∈d,c.set.length<=64)(h5:d.length<=10000000) :
  cG (λy=>y=b4) False prog 356 [.pointer (some ⟨b5,0,none⟩),.pointer (some ⟨b4,0,none⟩),.pointer (some ⟨b3,0,none⟩)] (λ_ _ _ a=>∃r:List Value,a=[.agg r.toArray]/\r.length=2/\∀u∈r,u.oneCell'=true) (CT ks d x).length Rd w:=by
 intro yl J Jx w1 g1 h0 cx gB JY bl;refine uS4 (dB 190174964602669054086001383471887115 [([14],[(6,7),(9,9),(14,56)]),([7],[(7,7),(18,40)]),([43],[(9,9),(43,55)]),([60],[(11,11),(60,68)])] [(dT [3,7,9] [0,0,2,7,0,0,32,112,15,511] [[3]] (.op 0 (.op 1 (.op 2 (.op 4 (.op 5 (.op 6 (.br (.op 3 (.op 8 (.op 7 (.op 9 .nil)))) (.op 7 (.op 3 (.op 8 (.op 9 .nil))))))))))))]) func356 (λ_ _ _ _ _ _=>⟨by conv=>lhs;reduce,by dsimp only[PI,AF],by kernel_rfl⟩) ?_;unfold uI;have h6:b4<w.heap.size:=B4.lt (QC _);have z1:=g1.size;have eL:CK Rd w sv ks:=hS.sub λb hb h=>hR b hb (.inl h);have eN:Bi Rd Rd w dv d:=hd.sub (λb hb h=>hR b hb (.inr (.inl h))) (by decide) λr c hc=>hc.mod (Mod.refl (λ_=>False) _) (λ_ _ _ h=>h) λy hy h=>hR y hy (.inr (.inr (.inl h)));have dk:Ak Rd Rd w xv x:=hx.sub (λb hb h=>hR b hb (.inr (.inr (.inr (.inl h))))) (by decide) λr o ho=>ho.mod (Mod.refl (λ_=>False) _) (λ_ _ _ h=>h) λy hy h=>hR y hy (.inr (.inr (.inr (.inr (.inl h)))));have R3:Rd b3:=hR b3 (B3.lt (QC _)) (by simp);have R5:Rd b5:=hR b5 (B5.lt (QC _)) (by simp);clear hS hd hx
 let St:Nat->(Nat->Prop)->World->Prop:=λk I W=>J k I W/\Mod (λy=>¬Rd y) w W/\I b4/\∀y,I y->y<W.heap.size
 have eR:St 0 (λy=>y=b4) w1:=⟨h0,g1.mono λ_ _ h=>h.elim,rfl,λy e=>by omega⟩;have a8:∀{k I W W'},St k I W->Grow W W'->St k (λy=>I y\/(W.heap.size<=y/\y<W'.heap.size)) W':=λ{k I W W'} ⟨j,m,i4,il⟩ g=>by
  have zg:=g.size;exact⟨cx k I _ W W' j (g.mono λ_ _ h=>h.elim) λy hy=>⟨hy.imp id qn,by rcases hy with h|h;have:=il y h;omega;exact h.2⟩,m.next g λ_ _ h=>h.elim,.inl i4,λy hy=>by rcases hy with h|h;have:=il y h;omega;exact h.2⟩
 have dr:∀{k:Nat} {I:Nat->Prop} {W:World} {r:List Value} {K:Cont},St k I W->k<(CT ks d x).length->r.length=2->(∀u∈r,u.oneCell'=true)->(∀W',St (k+1) I W'->Mod (λy=>¬(I y\/Rd y)) W W'->K (.bool true) W')->(∀W',(∃I,J (CT ks d x).length I W'\/Jx I W')->K (.bool false) W')->Cs prog CS (.func (.yield yl) #[] #[]) [.agg r.toArray] K W:=λ{k I W r K} ⟨j,m,i4,il⟩ hk hr h1 hT hF=>by
  refine .inr ⟨yl,rfl,FO (bl k I W _ hk j ⟨r,rfl,hr,h1⟩) ?_⟩;rintro vv W3 ⟨eX,cc,hq,⟨rfl,dA⟩|⟨rfl,PW⟩⟩
  .have dC:=JY (k+1) I W3 dA;refine hT W3 ⟨dA,⟨hq.1.trans m.os,hq.2.1.trans m.tape,hq.2.2.trans m.output,by have:=m.size;omega,λb hb hn=>dC b hb (pL.1 hn)⟩,i4,λy hy=>by have:=il y hy;omega⟩ ⟨hq.1,hq.2.1,hq.2.2,eX,λb hb hn=>?_⟩;rcases pL.1 hn with h|h
   .exact cc b h
   .exact(dC b (h4 b h).2 h).trans (m.same b (h4 b h).2 λe=>e h).symm
  .exact hF W3 ⟨I,.inr PW⟩
 have e3:∀{k I W U},St k I W->Mod (λy=>y=b4) W U->St k I U:=λ{k I W U} ⟨j,m0,i4,il⟩ m=>by
  have zm:=m.size;exact⟨cx k I I W U j (m.mono λb _ e=>⟨id,e▸i4⟩) λy hy=>⟨.inl hy,by have:=il y hy;omega⟩,m0.next m λb hb e hr=>(h4 b hr).1 e,i4,λy hy=>by have:=il y hy;omega⟩
 have bp:∀{U:World} {v:Value} {l:List Cel},Mod (λy=>¬Rd y) w U->Bi Rd Rd w v l->Bi Rd Rd U v l:=λm h=>h.mod m (λb _ h e=>e h) (by decide) λr c hc=>hc.mod m (λb _ h e=>e h) λ_ _ h=>h;have back:∀{U:World} {v:Value} {l:List Cel},Mod (λy=>¬Rd y) w U->Bi Rd Rd U v l->Bi Rd Rd w v l:=λm h=>An.mono h (λ_ _ h=>h) (λb hb hs=>(m.same b (h4 b hs).2 λe=>e hs).symm) (by decide) λr c ⟨sv,e,hs⟩=>⟨sv,e,An.mono hs (λ_ _ h=>h) (λb hb hs=>(m.same b (h4 b hs).2 λe=>e hs).symm) (by decide) λ_ _ h=>h⟩;refine AJ ((B5.grow g1).cells 0 _ rfl) ?_;obtain⟨xa,xc,rfl,e5⟩:=dk.shape;simp only[maxLen] at e5;rw[AO];refine AU (λvs W=>∃(i k:Nat) (I:Nat->Prop) (V:List Cel) (bs:Value),i<=x.length/\vs=[zI i]/\St k I W/\Bx W b4 [bs]/\Bi Rd Rd w bs V/\BN (x.drop i)<=V.length/\k+(CT ks V (x.drop i)).length=(CT ks d x).length/\(∀c∈V,c∈d)/\V.length<=d.length) (λvs _=>x.length-Dh vs 0)
  ⟨0,0,_,d,dv,Nn _,rfl,eR,B4.grow g1,eN,ht,mQ _,λ_ h=>h,K8 _⟩ ?_
 rintro vs W ⟨i,k,I,V,bs,hi,rfl,X,bx,ak,b1,al,an,e6⟩ _;rw[BQ,Nr,Ai];refine AD (λe7=>?_) λe8=>?_;rotate_left
 .obtain rfl:i=x.length:=by omega
  rw[nd,CT] at al;refine AJ (bx.cells 0 _ rfl) ?_;refine AA (WL (ak.mod X.2.1 (λb _ h e=>e h) (by decide) λr c hc=>hc.mod X.2.1 (λb _ h e=>e h) λ_ _ h=>h) (by omega) λc hc=>cu c (an c hc)) ?_;rintro v2 w2 ⟨o2,g2⟩;have Z:=a8 X g2;have b2:An (λy=>I y\/(W.heap.size<=y/\y<w2.heap.size)) 2 Vg w2 v2 V:=(AE.sl o2).sub (λb hb h=>.inr ⟨h.1,hb⟩) (by decide) λ_ _ h=>h;obtain⟨va,vc,rfl,_⟩:=b2.shape;rw[AO];refine AU (λvs W'=>∃(m:Nat) (I:Nat->Prop),m<=V.length/\vs=[zI m]/\St (k+m) I W'/\An I 2 Vg W' (.slice va V.length vc) V) (λvs _=>V.length-Dh vs 0) ⟨0,_,Nn _,rfl,Z,b2⟩ ?_;clear Z b2 o2 g2 bx X;rintro vs W ⟨m,I,hm,rfl,X,b2⟩ _;rw[BQ,Nr,Ai];refine AD (λe7=>?_) λe8=>?_;rotate_left
  .obtain rfl:m=V.length:=by omega
   rw[al] at X;exact⟨I,.inl X.1⟩
  have av:m<V.length:=by omega
  obtain⟨p,r,rfl,_,hr,hc,h1⟩:=b2.get av;refine AS av (AV hr (λj u hu=>by rw[Addr.add_add];exact hc j u hu) ?_);refine Bx.new (vs:=r) hr rfl h1 λh7 W1 gW e9 fa=>?_;refine fa.Eg hr ?_;refine dr (a8 X e9) (by omega) hr h1 (λW' ba b7=>?_) λW' h=>?_
  .rw[Ah];refine AL ?_;rw[AM,AK (by omega)];exact⟨⟨m+1,λy=>I y\/(W.heap.size<=y/\y<W1.heap.size),av,rfl,by rw[<-mo];exact ba,An.mono (b2.grow e9 (by decide) λ_ _ h=>h) (λ_ _ h=>.inl h) (λb hb h=>b7.same b hb λe=>e (.inl (.inl h))) (by decide) λ_ _ h=>h⟩,by rw[Bw,Bw];omega⟩
  .rw[Ah];exact AQ h
 have ax:i<x.length:=by omega
 rw[mI ax] at b1 al;have fo:=ku ax;obtain⟨ea,ec⟩:=hg x[i] fo;obtain⟨q,r,rfl,fs,hr,hc,c4⟩:=dk.get ax;obtain⟨rv,ay,pv,rfl,o1,o2,o3⟩:=id c4;have c6:∀{u a},w.cell? a=some u->Rd a.block->W.cell? a=some u:=λhu hb=>X.2.1.cell hu λe=>e hb;refine AS ax (AV hr (λj u hu=>by rw[Addr.add_add];exact c6 (hc j u hu) (by rw[Ac];exact fs)) ?_);refine Bx.new (vs:=[.int .u8 x[i].kind,zI x[i].n,rv,ay,pv]) hr rfl c4.one λb6 W1 fv g6 B6=>?_;have O:=a8 X g6;have aZ:=bx.grow g6;have z6:=g6.size;have ed:=B6.lt (QC _);have b8:I b6\/(W.heap.size<=b6/\b6<W1.heap.size):=.inr ⟨fv,ed⟩;clear bx;generalize c7:(λy=>I y\/(W.heap.size<=y/\y<W1.heap.size))=bc at O;replace b8:bc b6:=by rw[<-c7];exact b8
 have c8:b6≠b4:=λe=>by have:=X.2.1.size;omega
 refine AR (λvs W'=>∃(lv Q:Value) (l Y:List Cel) (B:Nat->Prop),vs=[lv]/\St k B W'/\Bx W' b6 [.int .u8 x[i].kind,zI x[i].n,rv,ay,pv]/\B b6/\Bx W' b4 [Q]/\Bi Rd Rd w Q Y/\Bi (λy=>B y\/Rd y) (λy=>B y\/Rd y) W' lv l/\BN (x.drop (i+1))<=Y.length/\k+l.length+(CT ks Y (x.drop (i+1))).length=(CT ks d x).length/\(∀c∈Y,c∈d)/\Y.length<=d.length/\(∀c∈l,c.set.length<=64)) ?_ ?_
 .clear O aZ B6 al b1 ak X c6 c7 b8;rintro _ W0 ⟨lv,Q,l,Y,ga,rfl,c9,ee,ef,eh,gb,cd,gf,gg,ch,ej,gl⟩ _;rw[BQ,Nr];obtain⟨la,lc,rfl,ek⟩:=cd.shape;simp only[maxLen] at ek;rw[AO];refine AU (λvs W'=>∃(m:Nat) (B:Nat->Prop),m<=l.length/\vs=[zI m]/\St (k+m) B W'/\Bx W' b6 [.int .u8 x[i].kind,zI x[i].n,rv,ay,pv]/\B b6/\Bx W' b4 [Q]/\Bi (λy=>B y\/Rd y) (λy=>B y\/Rd y) W' (.slice la l.length lc) l) (λvs _=>l.length-Dh vs 0) ⟨0,ga,Nn _,rfl,c9,ee,ef,eh,cd⟩ ?_;clear c9 ee ef eh cd;rintro vs W2 ⟨m,bd,hm,rfl,Z,eo,ep,er,et⟩ _;rw[BQ,Nr,Ai];refine AD (λe7=>?_) λe8=>?_;rotate_left
  .obtain rfl:m=l.length:=by omega
   rw[AM,AK (by omega)];exact⟨⟨i+1,k+l.length,bd,Y,Q,ax,rfl,Z,er,gb,gf,gg,ch,ej⟩,by rw[Bw,Bw];omega⟩
  have av:m<l.length:=by omega
  obtain⟨p,r',rfl,_,gm,gr,eu,rfl,ew⟩:=et.get av;have ey:∀u∈[Value.int .i32 l[m].r,eu],u.oneCell'=true:=by
   obtain⟨sa,sc,rfl,_⟩:=ew.shape;intro u hu;simp only[Mp,l9,nw] at hu;rcases hu with rfl|rfl<;>rfl
  refine AS av (AV gm (λj u hu=>by rw[Addr.add_add];exact gr j u hu) ?_);refine Bx.new (vs:=[.int .i32 l[m].r,eu]) rfl rfl ey λb9 W3 h8 g9 B9=>?_;have m3:Mod (λy=>¬Rd y) w W3:=Z.2.1.next g9 λ_ _ h=>h.elim;refine AJ (m3.cell (B3.cells 0 _ rfl) λe=>e R3) ?_;refine B9.Eg rfl ?_;refine Az ((eo.grow g9).cells 4 _ rfl) ?_;have h9:x[i].patch.length<=64:=by
   rcases ea with⟨_,_,_,_,hp⟩|⟨_,_,_,hp,_⟩|⟨_,_,_,hp,_⟩
   .exact hp.2.1
   .rw[hp];simp
   .rw[hp];simp
  have hf:=gl _ (ku av);refine AA (ZC (eL.mod m3 λb _ h e=>e h) (ew.grow g9 (by decide) λ_ _ h=>h) (o3.mod m3 (λb _ h e=>e h) (by decide) λ_ _ h=>h) (by omega)) ?_;rintro _ W4 ⟨gv,rfl,oc,g4⟩;have bZ:=g9.trans g4;have ez:=a8 Z bZ;refine dr (r:=[.int .i32 l[m].r,gv]) ez (by omega) rfl (λu hu=>?_) (λW' ba b7=>?_) λW' h=>?_
  .simp only[Mp,l9,nw] at hu;rcases hu with rfl|rfl
   .rfl
   .exact oc.one.1
  .rw[Ah];refine AL ?_;rw[AM,AK (by omega)];have q4:bd b4:=Z.2.2.1;refine⟨⟨m+1,λy=>bd y\/(W2.heap.size<=y/\y<W4.heap.size),av,rfl,by rw[<-mo];exact ba,(eo.grow bZ).mod b7 λe=>e (.inl (.inl ep)),.inl ep,(er.grow bZ).mod b7 λe=>e (.inl (.inl q4)),?_⟩,by rw[Bw,Bw];omega⟩;have up:∀y,bd y\/Rd y->(bd y\/(W2.heap.size<=y/\y<W4.heap.size))\/Rd y:=λy h=>h.elim (λh=>.inl (.inl h)) .inr;exact An.mono (et.grow bZ) (λb _ h=>up b h) (λb hb h=>b7.same b hb λe=>e (up b h)) (by decide) λr c hc=>hc.mod b7 (λb _ h e=>e (up b h)) λb _ h=>up b h
  .rw[Ah];exact AQ h
 refine Az (B6.cells 0 _ rfl) ?_;rw[Aa];rcases ea with⟨kd,_,_,n1,_⟩|⟨kd,_,_,_,n1⟩|⟨kd,_,_,_,hh,eA⟩
 .obtain⟨e1,e2,_,e4⟩:=MV (ks:=ks) (x:=x.drop (i+1)) (d:=V) kd;rw[e1] at b1;rw[e4,BW,I3,Lc] at al;have en:x[i].n=(x[i].n.toNat:Int):=by omega
  generalize hn:x[i].n.toNat=n at *;refine AD (λe=>by omega) λ_=>?_;rw[Aa];refine AD (λ_=>?_) λe=>absurd kd e;obtain⟨da,dc,rfl,_⟩:=ak.shape;have gd:Grow W1 W1.drew:=Mod.drew _ _;have Bd:=aZ.grow gd;have gw:=B6.grow gd;have ld:∀{l:List Nat} {bb q:Nat} {u:Value},(∀j∈l,j≠9)->W1.drew.cell? ⟨bb,q,none⟩=some u->W1.drew.cell? ⟨bb,q,none⟩=some u/\∀j∈l,¬((λj y=>j=9/\y=b4) j (⟨bb,q,none⟩:Addr).block):=λhl hc=>⟨hc,λj hj e=>hl j hj e.1⟩;have eB:W1.drew.cell? ⟨b6,1,none⟩=some (zI (n:Int)):=by rw[<-en];exact gw.cells 1 _ rfl
  refine AT (λj y=>j=9/\y=b4) ?_;refine AP (ld (by decide) (Bd.cells 0 _ rfl)) ?_;rw[AH,AI];refine AP (ld (by decide) eB) ?_;refine AP (ld (by decide) (Bd.cells 0 _ rfl)) ?_;rw[AH,AI];refine AP (ld (by decide) eB) ?_;have mD:Mod (λy=>¬Rd y) w W1.drew:=O.2.1.next gd λ_ _ h=>h.elim;have fin:∀{a1 a6:Value} {J:Value->World->Prop},Bi Rd Rd w a1 (V.take n)->Bi Rd Rd w a6 (V.drop n)->(∀U,St k bc U->Bx U b6 [.int .u8 x[i].kind,zI x[i].n,rv,ay,pv]->Bx U b4 [a6]->J a1 U)->CB (.pointer (some ⟨b4,0,none⟩)) a6 (λU=>Mod (λy=>9=9/\y=b4) W1.drew U/\J a1 U) W1.drew:=λ{a1 a6 J} b0 a7 hJ=>by
   obtain⟨ta,tc,rfl,_⟩:=id a7;refine Bd.st (q:=0) (show 0<1 by decide) rfl rfl λU B' m'=>⟨m'.mono λy _ e=>⟨rfl,e⟩,?_⟩;have mu:Mod (λy=>y=b4) W1 U:=(gd.mono λ_ _ h=>h.elim).trans m';exact hJ U (e3 O mu) (B6.mod mu c8) B'
  have ca:∀{a1 a6:Value},Bi Rd Rd w a1 (V.take n)->Bi Rd Rd w a6 (V.drop n)->∀U,St k bc U->Bx U b6 [.int .u8 x[i].kind,zI x[i].n,rv,ay,pv]->Bx U b4 [a6]->∃(lv Q:Value) (l Y:List Cel) (B:Nat->Prop),[a1]=[lv]/\St k B U/\Bx U b6 [.int .u8 x[i].kind,zI x[i].n,rv,ay,pv]/\B b6/\Bx U b4 [Q]/\Bi Rd Rd w Q Y/\Bi (λy=>B y\/Rd y) (λy=>B y\/Rd y) U lv l/\BN (x.drop (i+1))<=Y.length/\k+l.length+(CT ks Y (x.drop (i+1))).length=(CT ks d x).length/\(∀c∈Y,c∈d)/\Y.length<=d.length/\(∀c∈l,c.set.length<=64):=λ{a1 a6} b0 a7 U h1 h2 h3=>
   ⟨a1,a6,V.take n,V.drop n,bc,rfl,h1,h2,b8,h3,a7,(bp h1.2.1 b0).sub (λb _ h=>.inr h) (by decide) λr c hc=>hc.mod (Mod.refl (λ_=>False) _) (λ_ _ _ h=>h) λb _ h=>.inr h,by rw[Hy];omega,by rw[Lc];omega,λc hc=>an c (ky hc),by rw[Hy];omega,λc hc=>cu c (an c (lJ hc))⟩
  have eC:∀{K:Cont},(∀v',Bi Rd Rd w v' (V.take n)->K v' W1.drew)->runK prog (Instr.sliceAt 32 (.slice da V.length dc) none (some (zI (n:Int))) none) K W1.drew:=λhK=>NK (e:=66) (k:=2) (i:=Tryz.t66) (by kernel_rfl) (by kernel_rfl) (by kernel_rfl) (bp mD ak) (j:=n) (by omega) λv' bk=>hK v' (back mD bk);have eI:∀{K:Cont},(∀v',Bi Rd Rd w v' (V.drop n)->K v' W1.drew)->runK prog (Instr.sliceAt 32 (.slice da V.length dc) (some (zI (n:Int))) none none) K W1.drew:=λhK=>Fm (e:=66) (k:=2) (i:=Tryz.t66) (by kernel_rfl) (by kernel_rfl) (by kernel_rfl) (bp mD ak) (j:=n) (by omega) λv' bk=>hK v' (back mD bk);constructor
  .refine eC λa1 b0=>⟨Mod.refl _ _,eI λa6 a7=>⟨Mod.refl _ _,?_⟩⟩;exact fin (J:=λt U=>(λvs W'=>∃(lv Q:Value) (l Y:List Cel) (B:Nat->Prop),vs=[lv]/\St k B W'/\Bx W' b6 [.int .u8 x[i].kind,zI x[i].n,rv,ay,pv]/\B b6/\Bx W' b4 [Q]/\Bi Rd Rd w Q Y/\Bi (λy=>B y\/Rd y) (λy=>B y\/Rd y) W' lv l/\BN (x.drop (i+1))<=Y.length/\k+l.length+(CT ks Y (x.drop (i+1))).length=(CT ks d x).length/\(∀c∈Y,c∈d)/\Y.length<=d.length/\(∀c∈l,c.set.length<=64)) [t] U) b0 a7 (ca b0 a7)
  .refine eI λa6 a7=>⟨Mod.refl _ _,eC λa1 b0=>⟨Mod.refl _ _,?_⟩⟩;exact fin (J:=λt U=>(λvs W'=>∃(lv Q:Value) (l Y:List Cel) (B:Nat->Prop),vs=[lv]/\St k B W'/\Bx W' b6 [.int .u8 x[i].kind,zI x[i].n,rv,ay,pv]/\B b6/\Bx W' b4 [Q]/\Bi Rd Rd w Q Y/\Bi (λy=>B y\/Rd y) (λy=>B y\/Rd y) W' lv l/\BN (x.drop (i+1))<=Y.length/\k+l.length+(CT ks Y (x.drop (i+1))).length=(CT ks d x).length/\(∀c∈Y,c∈d)/\Y.length<=d.length/\(∀c∈l,c.set.length<=64)) [t] U) b0 a7 (ca b0 a7)
 .obtain⟨e1,_,_,e4⟩:=MS (ks:=ks) (x:=x.drop (i+1)) (d:=V) kd;rw[e1] at b1;rw[e4] at al;have en:x[i].n=(x[i].n.toNat:Int):=by omega
  generalize hn:x[i].n.toNat=n at *;refine AD (λe=>by omega) λ_=>?_;rw[Aa];refine AD (λe=>by omega) λ_=>?_;obtain⟨da,dc,rfl,_⟩:=ak.shape;refine AJ (aZ.cells 0 _ rfl) ?_;refine Az (B6.cells 1 _ rfl) ?_;rw[en];refine Fm (e:=66) (k:=2) (i:=Tryz.t66) (by kernel_rfl) (by kernel_rfl) (by kernel_rfl) (bp O.2.1 ak) (j:=n) (by omega) λv' bk=>?_;have q1:=back O.2.1 bk;obtain⟨ta,tc,rfl,_⟩:=q1.shape;refine aZ.st (q:=0) (show 0<1 by decide) rfl rfl λU B' mu=>?_;exact⟨_,_,[],V.drop n,bc,rfl,e3 O mu,by rw[<-en];exact B6.mod mu c8,b8,B',q1,An.nil,by rw[Hy];omega,by rw[lX,lf];exact al,λc hc=>an c (ky hc),by rw[Hy];omega,λc hc=>nomatch hc⟩
 .obtain⟨e1,_,_,e4⟩:=ND (ks:=ks) (x:=x.drop (i+1)) (d:=V) kd;rw[e1] at b1;rw[e4,BW,I3] at al;refine AD (λ_=>?_) λe=>absurd kd e;refine Az (B6.cells 2 _ rfl) ?_;refine Az (B6.cells 3 _ rfl) ?_;have hv:x[i].Ab.length<=536870912:=by rw[Bk,DN kd] at ec;exact ec
  have m1:Mod (λy=>¬Rd y) w W1:=O.2.1;refine AA (fw (o1.mod m1 (λb _ h e=>e h) (by decide) λ_ _ h=>h) (o2.mod m1 (λb _ h e=>e h) (by decide) λ_ _ h=>h) (by omega) eA.2.1) ?_;rintro lv W2 ⟨gA,g2⟩;refine⟨lv,bs,_,V,_,rfl,a8 O g2,B6.grow g2,.inl b8,aZ.grow g2,ak,(gA.rd (K8 _)).sub (λb _ h=>.inl (.inr h)) (by decide) λr c hc=>hc.mod (Mod.refl (λ_=>False) _) (λ_ _ _ h=>h) λb _ h=>.inl (.inr h),b1,by rw[I3];omega,an,e6,λc hc=>?_⟩;obtain⟨r0,_,rfl⟩:=lT.1 hc;exact eA.2.1
end
section
variable {S D Sx Dx E:Nat->Prop}{w:World}{sv dv xv:Value}{ks:List DKey}{d:List Cel}{x:List Dop}
def Un(hS:CK E w sv ks)(hd:Bi S D w dv d)(hx:Ak Sx Dx w xv x)(hT:EA w)(hG:JW ks d)(hC:∀c∈d,Ou ks c)(hI:∀o∈x,NT o)(hl:x.length<=1000)(c6:d.length<=2000)(hm:CJ x<=4000)(hF:Vo ks x d.length 536870912) :
  AB prog 186 [sv,dv,xv,zI 536870912] (λv' w'=>Grow w w'/\∃ov,v'=.tuple #[ov,zI 0]) w:=by
 apply bT;unfold S186;refine AA (QT hS hx hT λo Z=>(hI o Z).o) ?_;rintro _ w1 ⟨rfl,g1⟩;rw[hF.may,BL];refine AW (λ_=>?_) λe=>(e rfl).elim;refine AA (Vw (hS.grow g1) (hd.grow g1) (hT.grow g1) hG hC hF.pos.1 (by omega)) ?_;rintro _ w2 ⟨rfl,g2⟩;refine Ko ?_;have O:=g1.trans g2;have U:Dr dv=Dr (.slice (hd.shape.choose) d.length (hd.shape.choose_spec.choose)):=by
  have:=hd.shape.choose_spec.choose_spec.1;rw[<-this]
 rw[U,AO];clear U;refine AA (Pc (n:=d.length) (most:=536870912) (hS.grow O) (Ak.grow hx O) (hT.grow O) (λo Z=>(hI o Z).o) (by omega) (by omega)) ?_;rintro _ w3 ⟨rfl,g3⟩;rw[(Dw (by omega)).2 hF,BL];refine AW (λ_=>?_) λe=>(e rfl).elim;have a7:=O.trans g3;refine Bx.zero λc w4 hc g4 Bc=>?_;have an:=a7.trans g4;have bx:=Bc.lt (QC _);have c7:=a7.size;refine uS3 (dB 9 [] []) func289 (λ_ _ _ _ _=>⟨by conv=>lhs;reduce,by dsimp only[PI,AF],by kernel_rfl⟩) ?_;unfold uI;have av:sv.cells=#[sv]:=by
  obtain⟨b,m,kv,l,rfl,_⟩:=hS;rfl
 have ax:dv.cells=#[dv]:=by
  obtain⟨a,c,rfl,_⟩:=hd.shape;rfl
 have ay:xv.cells=#[xv]:=by
  obtain⟨a,c,rfl,_⟩:=hx.shape;rfl
 refine Cg av λb3 w5 c8 g5 B3=>?_;have bZ:=B3.lt (QC _);refine Cg ax λb4 w6 c9 g6 B4=>?_;have c4:=B4.lt (QC _);refine Cg ay λb5 W ca g7 B5=>?_;have a8:=(g5.trans g6).trans g7;have Q:=an.trans a8;have z5:=g5.size;have z6:=g6.size;have z7:=g7.size;have aZ:CK (λy=>E y/\y < w.heap.size) W sv ks:=(hS.sub λb hb h=>⟨h,hb⟩).grow Q;have b0:Bi (λy=>S y/\y < w.heap.size) (λy=>D y/\y < w.heap.size) W dv d:=Bi.grow (hd.sub (λb hb h=>⟨h,hb⟩) (by decide) λr c hc=>hc.mod (Mod.refl (λ_=>False) _) (λ_ _ _ h=>h) λy i h=>⟨h,i⟩) Q;have b1:Ak (λy=>Sx y/\y < w.heap.size) (λy=>Dx y/\y < w.heap.size) W xv x:=Ak.grow (hx.sub (λb hb h=>⟨h,hb⟩) (by decide) λr o Z=>Z.mod (Mod.refl (λ_=>False) _) (λ_ _ _ h=>h) λy i h=>⟨h,i⟩) Q;have b2:=Vx (Rd:=λy=>y < W.heap.size/\y≠c/\y≠b4) aZ b0 b1 (B3.grow (g6.trans g7)) (B4.grow g7) B5 (λy i h=>⟨i,by
  rcases h with h|h|h|h|h|h|h
  .have:=h.2;omega
  .have:=h.2;omega
  .have:=h.2;omega
  .have:=h.2;omega
  .have:=h.2;omega
  .omega
  .omega⟩) (λy i=>⟨i.2.2,i.1⟩) hF.DV hF.Lh (λc hc=>(hG.set c hc).len) (by omega)
 have hN:=O7 (ks:=ks) (λo Z=>(hF.DV o Z).1) hF.Lh;have b6:=Bc.grow a8;refine⟨_,False,_,_,_,_,_,rfl,by kernel_rfl,b2,λk _ _ a _ ⟨r,e,_⟩=>by rw[e];rfl,λb e=>by omega,?_⟩;refine⟨λk V W'=>∃(out:Value) (l:List Unit),Yi 66 2 Vg W.heap.size c W.heap.size V W' out l/\Mod (λy=>y=c\/y=b4) W W'/\l.length=k/\k<=(CT ks d x).length/\∀y,V y->y=b4\/W.heap.size<=y,λ_ _ _=>False,⟨_,[],⟨b6,AE.nil,λg B=>nomatch B⟩,Mod.refl _ _,rfl,Nn _,λy e=>.inl e⟩,?_,λ_ _ _ _ _ h=>h.elim,?_,?_,?_,λ_ _ _ h=>h.elim⟩
 .rintro k V cc W1 W2 ⟨out,l,q,m,a1,hk,I⟩ hm j;have ak:=q.box.lt (QC _);have hn:∀y,y<W.heap.size->y≠b4->¬((¬False/\V y)\/y=W.heap.size\/y=W.heap.size+1):=λy i b7=>by
   rintro(⟨_,h⟩|h|h)
   .rcases I y h with h|h
    .exact b7 h
    .omega
   .omega
   .omega
  have zm:=m.size;refine⟨out,l,⟨q.box.mod hm (hn c (by omega) (by omega)),AE.mod q.row hm (λg B=>?_) λ_ _ _ h=>h,λg B=>?_⟩,m.next hm λy i e=>?_,a1,hk,λy i=>?_⟩
  .obtain⟨_,h2,h3,h4⟩:=q.hc g B;rintro(⟨_,h⟩|h|h)
   .exact h4 h
   .exact h2 h
   .exact h3 h
  .obtain⟨h1,h2,h3,h4⟩:=q.hc g B;refine⟨h1,h2,h3,λh=>?_⟩;rcases(j g h).1 with h|h
   .exact h4 h
   .have:=(AE.Aj q.row g B).2;omega
  .by_cases e4:y=b4
   .exact .inr e4
   .exact(hn y i e4 e).elim
  .rcases(j y i).1 with h|h
   .exact I y h
   .exact .inr (by omega)
 .rintro k V W1 ⟨out,l,q,m,_⟩ b hb hr;exact m.same b hb λe=>e.elim hr.2.1 hr.2.2
 .rintro k V W1 _ hk ⟨r,rfl,hr,X⟩ ⟨out,l,q,m,a1,cd,I⟩ hz j;refine Bx.new (vs:=r) hr rfl X λb8 W5 ch g8 B8=>?_;refine Kn g8 hz j (λ_ _ h=>h.elim) λW6 J=>?_;have z8:=g8.size;have z9:=J.size;have ak:=q.box.lt (QC _);have b9:=B8.lt (by omega);have B6:=(q.box.grow g8).mod J (by omega);have ba:=B8.mod J (by omega);have o6:AE W.heap.size 66 2 Vg W6 out l:=AE.mod (AE.mod (R':=Vg) q.row g8 (λ_ _ h=>h) λ_ _ _ h=>h) J (λg B=>(q.hc g B).2.2.1) λ_ _ _ h=>h;refine AJ (B6.cells 0 _ rfl) ?_;refine ba.Eg hr ?_;refine Dp MX o6 (by omega) (cs:=r) (x:=()) (DD (v:=.agg r.toArray) rfl (by decide) rfl hr) hr X (λ_ _ _ h=>h) (λ_ _ _ _ _ _ h=>h) (by omega) (by simp only[maxLen];omega) λal W9 o9 m9 n9=>?_;have cu:=m9.size;have cx:=AE.Aj o6;have B9:=B6.mod m9 λe=>(q.hc c e).1 rfl;obtain⟨bb,bc⟩:=o9.one;refine B9.st (q:=0) (show 0<1 by decide) bb bc λbd bk a6=>?_;have da:=a6.size;have Y:Mod (λx=>x=c\/out.ownBlock=some x) W6 bd:=(m9.mono λ_ _ e=>.inr e).trans (a6.mono λ_ _ e=>.inl e);have bl:¬V c:=λh=>by rcases I c h with h|h<;>omega
  refine⟨N9 Y (by omega) (λb hb=>by have:=(j b hb).1;omega) (λb _ e=>?_),al,l++[()],⟨bk,?_,λg B=>?_⟩,?_,by rw[BW,a1];rfl,hk,I⟩
  .rcases e with rfl|e
   .exact⟨bl,by omega,by omega⟩
   .obtain⟨h1,h2,h3,h4⟩:=q.hc b e;exact⟨h4,h2,h3⟩
  .exact AE.mod o9 a6 (λg B e=>by
    rcases n9 g B with h|h
    .exact(q.hc g h).1 e
    .omega) λ_ _ _ h=>h
  .rcases n9 g B with h|h
   .exact q.hc g h
   .refine⟨by omega,by omega,by omega,λhI=>by have:=(j g hI).1;omega⟩
  .refine((m.next g8 λ_ _ h=>h.elim).next J λx hx e=>by omega).next Y λx hx e=>?_;rcases e with e|e
   .exact .inl e
   .have:=(AE.Aj q.row x e).1;omega
 .rintro V W1 ⟨out,l,q,m,_⟩ _ _ bp;refine AJ (q.box.cells 0 _ rfl) ⟨bp,?_⟩;have bs:Mod (λb=>b=W.heap.size) W1 (W1.putObj W.heap.size (.deferred none)):=Mod.putObj _ _ _ rfl;exact⟨(Q.next m λy i e=>by omega).next bs λy i e=>by omega,_,rfl⟩
def UO(hS:CK E w sv ks)(hd:Bi S D w dv d)(hx:Ak Sx Dx w xv x)(hT:EA w)(hG:JW ks d)(hC:∀c∈d,Ou ks c)(hI:∀o∈x,NT o)(hl:x.length<=1000)(cc:d.length<=2000)(hm:CJ x<=4000)(hF:Vo ks x d.length 536870912)(ec:Aq (DG ks d x)<=100000000) :
  AB prog 105 [sv,dv,xv] (λv' w'=>Grow w w'/\∃bv,v'=.tuple #[bv,zI 0]/\Ak (λy=>w.heap.size<=y/\y<w'.heap.size) (λy=>w.heap.size<=y/\y<w'.heap.size) w' bv (BV (DG ks d x))) w:=by
 refine uS3 (dB 1347452624730040578443415189704450649 [([1,28],[(1,1),(12,12),(14,14),(28,76)]),([45],[(14,14),(45,71)])] [(dC [9,10,11] [0,0,2,0,0,16,0,64,192,504,1022,2047] [])]) func105 (λ_ _ _ _ _=>⟨by conv=>lhs;reduce,by dsimp only[PI,AF],by kernel_rfl⟩) ?_;unfold uI;have cd:CK (λy=>y<w.heap.size) w sv ks:=hS.sub λb hb h=>hb;have ch:Bi (λy=>y<w.heap.size) (λy=>y<w.heap.size) w dv d:=hd.sub (λb hb h=>hb) (by decide) λr c hc=>hc.mod (Mod.refl (λ_=>False) _) (λ_ _ _ h=>h) λy hy h=>hy;have bk:Ak (λy=>y<w.heap.size) (λy=>y<w.heap.size) w xv x:=hx.sub (λb hb h=>hb) (by decide) λr o ho=>ho.mod (Mod.refl (λ_=>False) _) (λ_ _ _ h=>h) λy hy h=>hy;refine AA (Un hS hd hx hT hG hC hI hl cc hm hF) ?_;rintro _ w1 ⟨g1,ov,rfl⟩;refine BI ?_;refine Ko ?_;refine AA ZD ?_;rintro _ w2 ⟨g2,b,ed,ee,rfl,cu⟩;obtain⟨xa,xc,rfl,e9⟩:=bk.shape;rw[AO];have z1:=g1.size;have z2:=g2.size
 let St:List Dop->(Nat->Prop)->World->Prop:=λy F W=>NG F W b (BG y)/\(∀z,F z->w.heap.size<=z/\z<W.heap.size)/\Mod (λz=>w.heap.size<=z) w W
 have grow:∀{y F W W'},St y F W->Grow W W'->St y F W':=λ{y F W W'} ⟨a1,a2,a3⟩ g=>⟨a1.mod g λ_ _ h=>h,λz B=>⟨(a2 z B).1,No (a2 z B).2 g.size⟩,a3.next g λ_ _ h=>h.elim⟩;have ay:∀{y:List Dop} {o:Dop} {F:Nat->Prop} {W W':World},St y F W->NG (λz=>F z\/W.heap.size<=z) W' b (Bu (BG y) o)->Mod F W W'->St (y++[o]) (λz=>(F z\/W.heap.size<=z)/\z<W'.heap.size) W':=λ{y o F W W'} ⟨a1,a2,a3⟩ h m=>⟨by rw[OH];exact h.lt,λz B=>⟨by rcases B.1 with h|h;exact(a2 z h).1;have:=a3.size;omega,B.2⟩,a3.next m λz _ B=>(a2 z B).1⟩;have cx:∀{W},Mod (λz=>w.heap.size<=z) w W->CK (λy=>y<w.heap.size) W sv ks:=λm=>cd.mod m λb hb h e=>by omega
 have b7:∀{W:World} {v:Value} {l:List Cel},Mod (λz=>w.heap.size<=z) w W->Bi (λy=>y<w.heap.size) (λy=>y<w.heap.size) w v l->Bi (λy=>y<w.heap.size) (λy=>y<w.heap.size) W v l:=λm h=>h.mod m (λb _ h e=>by omega) (by decide) λr c hc=>hc.mod m (λb _ h e=>by omega) λ_ _ h=>h;have back:∀{W:World} {v:Value} {l:List Cel},Mod (λz=>w.heap.size<=z) w W->Bi (λy=>y<w.heap.size) (λy=>y<w.heap.size) W v l->Bi (λy=>y<w.heap.size) (λy=>y<w.heap.size) w v l:=λm h=>An.mono h (λ_ _ h=>h) (λb hb hs=>(m.same b hs λe=>by omega).symm) (by decide) λr c ⟨sv,e,hs⟩=>⟨sv,e,An.mono hs (λ_ _ h=>h) (λb hb hs=>(m.same b hs λe=>by omega).symm) (by decide) λ_ _ h=>h⟩;have small:∀{y z:List Dop},y++z=DG ks d x->(BG y).done.length+(BG y).ins.length<=200000000/\Aq (BG y).ins<=200000000:=λ{y z} e=>by
  have h1:=Ly y;have h2:Aq y<=Aq (DG ks d x):=by rw[<-e,DX];omega
  have h3:=Dv (BG y).done;have h4:=Dv (BG y).ins;omega
 refine AU (λvs W=>∃(i:Nat) (Q:List Cel) (ak:Value) (y:List Dop) (F:Nat->Prop),i<=x.length/\vs=[ak,zI i]/\St y F W/\Bi (λy=>y<w.heap.size) (λy=>y<w.heap.size) w ak Q/\BN (x.drop i)<=Q.length/\y++DG ks Q (x.drop i)=DG ks d x/\(∀c∈Q,c∈d)/\Q.length<=d.length) (λvs _=>x.length-Dh vs 1)
  ⟨0,d,dv,[],λz=>z=b,Nn _,rfl,⟨cu,λz e=>by omega,(g1.trans g2).mono λ_ _ h=>h.elim⟩,ch,hF.Lh,rfl,λ_ h=>h,K8 _⟩ ?_
 rintro vs W ⟨i,Q,ak,y,F,hi,rfl,X,al,an,O,a6,bl⟩ _;simp only[FC];refine G9 (λdk=>?_) λdr=>?_;rotate_left
 .obtain rfl:i=x.length:=by omega
  rw[nd,DG,lA] at O;obtain⟨a1,a2,a3⟩:=X;have h1:=Ly y;rw[O] at h1 a1;refine AA (XQ a1 (by omega)) ?_;rintro bv W' ⟨ho,g'⟩;have zW:=a3.size;refine⟨(a3.next g' λ_ _ h=>h.elim).mono λz B h=>by omega,bv,rfl,?_⟩;exact ho.reads.sub (λz _ h=>⟨by omega,h.2⟩) (by decide) λr o ho=>ho.mod (Mod.refl (λ_=>False) _) (λ_ _ _ h=>h) λz _ h=>⟨by omega,h.2⟩
 have I:i<x.length:=by omega
 rw[mI I] at an O;have dA:=ku I;obtain⟨b8,ef⟩:=hF.DV x[i] dA;obtain⟨q,r,rfl,dT,hr,hc,aZ⟩:=bk.get I;obtain⟨rv,bp,pv,rfl,o1,o2,o3⟩:=id aZ;refine AS I (AV hr (λj u hu=>by rw[Addr.add_add];exact X.2.2.cell (hc j u hu) λe=>by rw[Ac] at e;have hq:q.block<w.heap.size:=dT;omega) ?_);refine Bx.new (vs:=[.int .u8 x[i].kind,zI x[i].n,rv,bp,pv]) hr rfl aZ.one λb6 W1 e2 g6 B6=>?_;have U:=grow X g6;have F6:¬F b6:=λe=>by have:=(X.2.1 b6 e).2;omega
 have zW:=X.2.2.size;have bs:=B6.lt (QC _);refine Az (B6.cells 0 _ rfl) ?_;rw[Aa];by_cases k2:x[i].kind=2
 .refine AD (λ_=>?_) λe=>absurd k2 e;obtain⟨e1,_,e3,_⟩:=ND (ks:=ks) (x:=x.drop (i+1)) (d:=Q) k2;rw[e1] at an;rw[e3] at O;refine Az (B6.cells 2 _ rfl) ?_;obtain⟨ra,rc,rfl,_⟩:=o1.shape;rw[AO];obtain⟨a1,a2,a3⟩:=U;refine AA (UI a1) ?_;rintro _ W2 ⟨h2,m2⟩;rw[AM,AK (by omega)];have zm:=m2.size;refine⟨⟨i+1,Q,ak,y++[⟨3,x[i].Ab.length,[],[],[]⟩],F,I,rfl,⟨by rw[OH];exact h2,λz B=>⟨(a2 z B).1,by have:=(a2 z B).2;omega⟩,a3.next m2 λz _ B=>(a2 z B).1⟩,al,an,by rw[P9];exact O,a6,bl⟩,by rw[Ar,Ar];omega⟩
 refine AD (λe=>absurd e k2) λ_=>?_;have bx:x[i].kind=1\/x[i].kind=3:=by
  rcases b8 with⟨k,_⟩|⟨k,_⟩|⟨k,_⟩
  .exact .inl k
  .exact .inr k
  .exact absurd k k2
 have eh:1<=x[i].n:=by
  rcases b8 with⟨_,_,_,n,_⟩|⟨_,_,_,_,n⟩|⟨k,_⟩
  .exact n
  .exact n
  .exact absurd k k2
 have ea:x[i].patch.length<=64:=by
  rcases b8 with⟨_,_,_,_,hp⟩|⟨_,_,_,hp,_⟩|⟨k,_⟩
  .exact hp.2.1
  .rw[hp];simp
  .exact absurd k k2
 obtain⟨e1,e3⟩:BN (x[i]::x.drop (i+1))=x[i].n.toNat+BN (x.drop (i+1))/\DG ks Q (x[i]::x.drop (i+1))=(Q.take x[i].n.toNat).map (if x[i].kind=3 then Jn else JG ks x[i].patch)++DG ks (Q.drop x[i].n.toNat) (x.drop (i+1)):=by
  rcases bx with k|k
  .obtain⟨q1,_,q3,_⟩:=MV (ks:=ks) (x:=x.drop (i+1)) (d:=Q) k;exact⟨q1,by rw[q3,Bp (by omega)]⟩
  .obtain⟨q1,_,q3,_⟩:=MS (ks:=ks) (x:=x.drop (i+1)) (d:=Q) k;exact⟨q1,by rw[q3,DN k]⟩
 rw[e1] at an;rw[e3] at O;clear e1 e3;have en:x[i].n=(x[i].n.toNat:Int):=by omega
 generalize hn:x[i].n.toNat=n at *;refine Az (B6.cells 1 _ rfl) ?_;rw[en];obtain⟨da,dc,rfl,_⟩:=al.shape;refine NK (e:=66) (k:=2) (i:=Tryz.t66) (by kernel_rfl) (by kernel_rfl) (by kernel_rfl) (b7 U.2.2 al) (j:=n) (by omega) λlv bZ=>?_;have c4:=back U.2.2 bZ;clear bZ;have e4:∀c∈Q.take n,c∈d:=λc hc=>a6 c (lJ hc);have ej:(Q.take n).length=n:=by rw[Lc];omega
 generalize hL:Q.take n=L at *;obtain⟨la,lc,rfl,_⟩:=c4.shape;rw[AO];generalize av:(if x[i].kind=3 then Jn else JG ks x[i].patch)=fo at O;refine AU (λvs W'=>∃(m:Nat) (F':Nat->Prop),m<=L.length/\vs=[zI m]/\St (y++(L.take m).map fo) F' W'/\¬F' b6/\Bx W' b6 [.int .u8 x[i].kind,zI x[i].n,rv,bp,pv]) (λvs _=>L.length-Dh vs 0) ⟨0,F,Nn _,rfl,by rw[nx,mh,lA];exact U,F6,B6⟩ ?_;clear U B6 g6 e2 X F6 zW bs;rintro vs W2 ⟨m,F2,ek,rfl,J,ax,ba⟩ _;rw[Nr,Ai];refine AD (λdk=>?_) λdr=>?_;rotate_left
 .obtain rfl:m=L.length:=by omega
  rw[S7] at J;refine Az (ba.cells 1 _ rfl) ?_;rw[en];refine Fm (e:=66) (k:=2) (i:=Tryz.t66) (by kernel_rfl) (by kernel_rfl) (by kernel_rfl) (b7 J.2.2 al) (j:=n) (by omega) λv' e5=>?_;rw[AM,AK (by omega)];exact⟨⟨i+1,Q.drop n,v',y++L.map fo,F2,I,rfl,J,back J.2.2 e5,by rw[Hy];omega,by rw[P9];exact O,λc hc=>a6 c (ky hc),by rw[Hy];omega⟩,by rw[Ar,Ar];omega⟩
 have Y:m<L.length:=by omega
 have e6:(y++(L.take m).map fo)++((L.drop m).map fo++DG ks (Q.drop n) (x.drop (i+1)))=DG ks d x:=by
  rw[<-O,P9,<-P9 ((L.take m).map fo),<-kZ,TC]
 obtain⟨eo,ep⟩:=small e6;have a7:y++(L.take (m+1)).map fo=(y++(L.take m).map fo)++[fo L[m]]:=by
  rw[S5,Bq Y,kZ,P9];rfl
 obtain⟨p,r',rfl,_,e7,e8,bc,rfl,c6⟩:=(b7 J.2.2 c4).get Y;have c7:∀u∈[Value.int .i32 L[m].r,bc],u.oneCell'=true:=by
  obtain⟨sa,sc,rfl,_⟩:=c6.shape;intro u hu;simp only[Mp,l9,nw] at hu;rcases hu with rfl|rfl<;>rfl
 have c8:=hG.set _ (e4 _ (ku Y));have er:=c8.len;refine AS Y (AV e7 (λj u hu=>by rw[Addr.add_add];exact e8 j u hu) ?_);refine Bx.new (vs:=[.int .i32 L[m].r,bc]) rfl rfl c7 λb9 Z et g9 B9=>?_;have V:=grow J g9;have bd:=ba.grow g9;have eu:=B9.lt (QC _);have bs:=ba.lt (QC _);have z3:=V.2.2.size;have b0:Ba (λy=>y<w.heap.size) Z bc L[m].set:=c6.grow g9 (by decide) λ_ _ h=>h;refine Az (bd.cells 0 _ rfl) ?_;rw[Aa];refine AD (λk3=>?_) λk3=>?_
 .rw [DN k3] at av;subst av;refine Az (B9.cells 0 _ rfl) ?_;refine JT (DD (v:=.int .i32 L[m].r) (vs:=[.int .i32 L[m].r]) (k:=1) rfl (by decide) rfl rfl) ?_;have ga:Grow Z (Z.alloc (.cells [Value.int .i32 L[m].r].toArray 21)):=Mod.alloc _ _ _;have ho:AE Z.heap.size 21 1 Be (Z.alloc (.cells [Value.int .i32 L[m].r].toArray 21)) (.slice (some ⟨Z.heap.size,0,none⟩) 1 1) [L[m].r]:=AE.SS (K8 _) rfl (λu hu=>by simp at hu;subst hu;rfl) rfl;refine Az ((B9.grow ga).cells 1 _ rfl) ?_;have b1:=grow V ga;refine AA (OO (S:=λz=>z < w.heap.size\/z=Z.heap.size) b1.1 (An.sub (AE.sl ho) (λz B h=>.inr (by have:=h.2;simp only [Value.ownBlock,gM] at this;exact this.symm)) (by decide) λ_ _ h=>h) ((b0.grow ga (by decide) λ_ _ h=>h).sub (λ_ _ h=>.inl h) (by decide) λ_ _ h=>h) (λz B e=>by
   have h1:=V.2.1 z e;rcases B with B | B <;> omega) (by omega) (λo ho=>?_) (by simp) (by omega)) ?_
  .have h1:=Ik ho;simp only[Eu] at h1;simp only[nT];omega
  rintro _ W4 ⟨h4,m4⟩;have z4:=m4.size;have za:=ga.size;rw[AM,AK (by omega)];have ht:=ay (o:=Jn L[m]) b1 h4 m4;refine⟨⟨m+1,_,Y,rfl,by rw[a7];exact ht,λe=>?_,((bd.grow ga).mod m4 ax)⟩,by rw[Bw,Bw];omega⟩;rcases e.1 with e|e
  .exact ax e
  .omega
 .rw[Bp k3] at av;subst av;have gd:Grow Z Z.drew:=Mod.drew _ _;have zd:Z.drew.heap.size=Z.heap.size:=rfl;have a8:=grow V gd;have c9:=bd.grow gd;have ca:=B9.grow gd;refine AT (λj z=>j=11/\F2 z) ?_;have ld:∀{l:List Nat} {bb q:Nat} {u:Value},(∀j∈l,j≠11)->Z.drew.cell? ⟨bb,q,none⟩=some u->Z.drew.cell? ⟨bb,q,none⟩=some u/\∀j∈l,¬((λj z=>j=11/\F2 z) j (⟨bb,q,none⟩:Addr).block):=λhl hc=>⟨hc,λj hj e=>hl j hj e.1⟩;rw[AH,AI];refine AP (ld (by decide) (ca.cells 1 _ rfl)) ?_;rw[AH,AI];refine AP (ld (by decide) (c9.cells 4 _ rfl)) ?_;rw[AH,AI];refine AP (ld (by decide) (ca.cells 0 _ rfl)) ?_;rw[Aa];have m3:=a8.2.2;refine AA (KG (b:=decide (L[m].r=10)) (cx m3) (o3.mod m3 (λz _ h e=>by omega) (by decide) λ_ _ h=>h) (by omega)) ?_;rintro v4 W4 ⟨h4,g4⟩;refine⟨g4.mono λ_ _ e=>e.elim,?_⟩;have ew:(CP ks (decide (L[m].r=10)) x[i].patch).length<=x[i].patch.length:=nU _ _;refine AA (aA ((b0.grow gd (by decide) λ_ _ h=>h).grow g4 (by decide) λ_ _ h=>h) h4 c8.1.1 (by omega) (by omega)) ?_;rintro v5 W5 ⟨o5,g5⟩;refine⟨g5.mono λ_ _ e=>e.elim,?_⟩;have b2:=grow (grow a8 g4) g5;have z4:=g4.size;have z5:=g5.size;have ey:(Dc L[m].set (CP ks (decide (L[m].r=10)) x[i].patch)).length<=64:=by
   have:(Dc L[m].set (CP ks (decide (L[m].r=10)) x[i].patch)).length<=(CP ks (decide (L[m].r=10)) x[i].patch).length:=pW _ _;omega
  refine AA (OF (n:=1) (S:=λz=>W4.heap.size<=z) b2.1 ((AE.sl o5).sub (λz B h=>h.1) (by decide) λ_ _ h=>h) (λz B e=>by have:=(a8.2.1 z e).2;omega) (by omega) (by omega)) ?_;rintro _ W6 ⟨h6,m6⟩;have z6:=m6.size;refine⟨m6.mono λz _ e=>⟨rfl,e⟩,?_⟩;rw[AM,AK (by omega)];have ht:=ay (o:=JG ks x[i].patch L[m]) b2 h6 m6;refine⟨⟨m+1,_,Y,rfl,by rw[a7];exact ht,λe=>?_,((c9.grow (g4.trans g5)).mod m6 ax)⟩,by rw[Bw,Bw];omega⟩;rcases e.1 with e|e
  .exact ax e
  .omega
end
structure Grp where
 d:List Dop
 u:List Dop
structure Hist where
 max:Nat
 us:List Grp
 rs:List Grp
 op:Bool
 own:List Grp
def KP(mx:Nat)(us:List Grp)(g:Grp):List Grp:=if us.length<mx then us++[g] else(us++[g]).drop 1
abbrev GG:Nat:=173
def Ak.to{S m D D' M:Nat->Prop}{l:List Dop}(h:Ak S D w v l)(hm:Mod M w w')(o:∀b,b<w.heap.size->S b->¬M b)(q:∀b,b<w.heap.size->D b->¬M b)(i:∀b,b<w.heap.size->S b->m b)(j:∀b,b<w.heap.size->D b->D' b):Ak m D' w' v l:=
 An.mono h i (λb hb B=>hm.same b hb (o b hb B)) (by decide) λ_ _ I=>I.mod hm q j
def Cy(C:Nat->Prop):World->List Value->Grp->Prop:=λw r g=>∃dv uv,r=[dv,uv]/\Ak C C w dv g.d/\Ak C C w uv g.u
def Cy.one{r:List Value}{g:Grp}(h:Cy C w r g):∀u∈r,u.oneCell'=true:=by
 obtain⟨dv,uv,rfl,h1,i⟩:=h;obtain⟨a,c,rfl,_⟩:=h1.shape;obtain⟨j,m,rfl,_⟩:=i.shape;intro u hu;simp at hu;rcases hu with rfl|rfl<;>rfl
def Cy.to{C C' M:Nat->Prop}{r:List Value}{g:Grp}(h:Cy C w r g)(hm:Mod M w w')(hC:∀b,b<w.heap.size->C b->¬M b)(i:∀b,b<w.heap.size->C b->C' b):Cy C' w' r g:=by
 obtain⟨dv,uv,e,h1,j⟩:=h;exact⟨dv,uv,e,h1.to hm hC hC i i,j.to hm hC hC i i⟩
def Cy.mod{r:List Value}{g:Grp}(h:Cy C w r g)(hm:Mod M w w')(hC:∀b,b<w.heap.size->C b->¬M b):Cy C w' r g:=h.to hm hC λ_ _ h=>h
def J9:Ch prog 99 GG 2 48:=⟨Tryz.t173,.agg #[.slice none 0 0,.slice none 0 0],by kernel_rfl,by kernel_rfl,by kernel_rfl,by kernel_rfl,by kernel_rfl,by rfl,by decide⟩
abbrev RQ(sv:Value)(mx:Nat)(uv rv:Value)(op:Bool)(ov:Value):List Value:=[sv,zI mx,.bool true,uv,rv,.bool op,ov]
structure HKs where
 l:List DKey
 S:Nat->Prop
structure CE (F C:Nat->Prop) (W:World) (b:Nat) (sv:Value) (ks:HKs) (uv rv ov:Value) (mx:Nat) (us rs:List Grp) (op:Bool) (own:List Grp):Prop where
 cells:∀j v,(RQ sv mx uv rv op ov)[j]?=some v->W.cell? ⟨b,j,none⟩=some v
 live:∀j,j<7->Live W ⟨b,j,none⟩
 HN:CK ks.S W sv ks.l
 ss:∀x,ks.S x->x<W.heap.size/\¬F x
 Rg:Gu GG 2 (Cy C) W uv us
 red:Gu GG 2 (Cy C) W rv rs
 own:An C 2 (Cy C) W ov own
 fb:F b/\¬C b
 uF:∀g,uv.ownBlock=some g->F g/\¬C g/\g≠b
 rF:∀g,rv.ownBlock=some g->F g/\¬C g/\g≠b/\uv.ownBlock≠some g
 cf:∀x,C x->F x/\x<W.heap.size
section
variable {F C M:Nat->Prop}{W W':World}{b:Nat}{sv:Value}{ks:HKs}{uv rv ov:Value}{mx:Nat}{us rs own:List Grp}{op:Bool}
def CE.lt(h:CE F C W b sv ks uv rv ov mx us rs op own):b<W.heap.size:=lU W _ (h.cells 5 _ rfl)
def CE.mod(h:CE F C W b sv ks uv rv ov mx us rs op own)(hm:Mod M W W')(q:∀x,F x\/ks.S x->¬M x):CE F C W' b sv ks uv rv ov mx us rs op own:=
 have m:∀x,F x->¬M x:=λx i=>q x (.inl i);have hC:∀x,x<W.heap.size->C x->¬M x:=λx _ i=>m x (h.cf x i).1
 ⟨λj v B=>hm.cell (h.cells j v B) (m b h.fb.1),λj I=>(h.live j I).mod hm (m b h.fb.1),h.HN.mod hm (λx _ i=>q x (.inr i)),λx i=>⟨No (h.ss x i).1 hm.size,(h.ss x i).2⟩,h.Rg.mod (by decide) hm (λg o=>m g (h.uF g o).1) λr x i=>i.mod hm hC,h.red.mod (by decide) hm (λg o=>m g (h.rF g o).1) λr x i=>i.mod hm hC,h.own.mod hm hC (by decide) λr x i=>i.mod hm hC,
  h.fb,h.uF,h.rF,λx i=>⟨(h.cf x i).1,No (h.cf x i).2 hm.size⟩⟩
def CE.grow(h:CE F C W b sv ks uv rv ov mx us rs op own)(g:Grow W W'):CE F C W' b sv ks uv rv ov mx us rs op own:=h.mod g λ_ _ h=>h
def CE.more{F' C':Nat->Prop}(h:CE F C W b sv ks uv rv ov mx us rs op own)(hF:∀x,F x->F' x)(hC:∀x,C x->C' x)(o:∀x,F' x->¬ks.S x)(q:∀x,C' x->F' x/\x<W.heap.size/\(C x\/¬F x)):CE F' C' W b sv ks uv rv ov mx us rs op own:=by
 have m:Mod (λ_=>False) W W:=Mod.refl _ _;have B:∀g,F g->¬C g->¬C' g:=λg J hc I=>by
  rcases(q g I).2.2 with h|h
  .exact hc h
  .exact h J
 exact ⟨h.cells,h.live,h.HN,λx i=>⟨(h.ss x i).1,λe=>o x e i⟩,h.Rg.mod (by decide) m (λ_ _ h=>h) λr x i=>i.to m (λ_ _ _ h=>h) λx _ i=>hC x i,h.red.mod (by decide) m (λ_ _ h=>h) λr x i=>i.to m (λ_ _ _ h=>h) λx _ i=>hC x i,h.own.sub (λx _ i=>hC x i) (by decide) λr x i=>i.to m (λ_ _ _ h=>h) λx _ i=>hC x i,
  ⟨hF _ h.fb.1,B b h.fb.1 h.fb.2⟩,λg j=>⟨hF _ (h.uF g j).1,B g (h.uF g j).1 (h.uF g j).2.1,(h.uF g j).2.2⟩,λg j=>⟨hF _ (h.rF g j).1,B g (h.rF g j).1 (h.rF g j).2.1,(h.rF g j).2.2⟩,λx i=>⟨(q x i).1,(q x i).2.1⟩⟩
def CE.gS{m:Bool}{K:World->Prop}(h:CE F C W b sv ks uv rv ov mx us rs op own)
 (I:∀W',CE F C W' b sv ks uv rv ov mx us rs m own->Mod (λx=>x=b) W W'->K W'):CB (.pointer (some ⟨b,5,none⟩)) (.bool m) K W:=by
 refine DY h.cells (λj o=>h.live j o) (q:=5) (show 5 < 7 by decide) rfl rfl λW' hm hc hl=>?_;have hC:∀ x,x < W.heap.size->C x->¬ x=b:=λx _ i e=>h.fb.2 (e ▸ i);exact I W' ⟨hc,λj o=>hl j o,h.HN.mod hm (λx _ i e=>(h.ss x i).2 (by rw [e];exact h.fb.1)),λx i=>⟨No (h.ss x i).1 hm.size,(h.ss x i).2⟩,h.Rg.mod (by decide) hm (λg B=>(h.uF g B).2.2) λr x i=>i.mod hm hC,h.red.mod (by decide) hm (λg B=>(h.rF g B).2.2.1) λr x i=>i.mod hm hC,h.own.mod hm hC (by decide) λr x i=>i.mod hm hC,
  h.fb,h.uF,h.rF,λx i=>⟨(h.cf x i).1,No (h.cf x i).2 hm.size⟩⟩ hm
def CE.fg{o:Value}{m:List Grp}{K:World->Prop}(h:CE F C W b sv ks uv rv ov mx us rs op own)(B:An C 2 (Cy C) W o m)
 (O:∀W',CE F C W' b sv ks uv rv o mx us rs op m->Mod (λx=>x=b) W W'->K W'):CB (.pointer (some ⟨b,6,none⟩)) o K W:=by
 refine DY h.cells (λj I=>h.live j I) (q:=6) (show 6 < 7 by decide) (by obtain ⟨a,c,rfl,_⟩:=B.shape;rfl) (by obtain ⟨a,c,rfl,_⟩:=B.shape;rfl) λW' hm hc hl=>?_;have hC:∀ x,x < W.heap.size->C x->¬ x=b:=λx _ i e=>h.fb.2 (e ▸ i);exact O W' ⟨hc,λj I=>hl j I,h.HN.mod hm (λx _ i e=>(h.ss x i).2 (by rw [e];exact h.fb.1)),λx i=>⟨No (h.ss x i).1 hm.size,(h.ss x i).2⟩,h.Rg.mod (by decide) hm (λg J=>(h.uF g J).2.2) λr x i=>i.mod hm hC,h.red.mod (by decide) hm (λg J=>(h.rF g J).2.2.1) λr x i=>i.mod hm hC,B.mod hm hC (by decide) λr x i=>i.mod hm hC,
  h.fb,h.uF,h.rF,λx i=>⟨(h.cf x i).1,No (h.cf x i).2 hm.size⟩⟩ hm
def CE.aa{B:Value}{U:List Grp}{K:World->Prop}(h:CE F C W b sv ks uv rv ov mx us rs op own)(hm:Mod M W W')(J:∀x,M x->uv.ownBlock=some x)(hF:∀x,F x->F' x)(X:∀x,F' x->¬ks.S x)
 (Y:Gu GG 2 (Cy C) W' B U)(hn:∀g,B.ownBlock=some g->uv.ownBlock=some g\/W.heap.size<=g/\F' g)
 (hK:∀I,CE F' C I b sv ks B rv ov mx U rs op own->Mod (λx=>x=b) W' I->K I):CB (.pointer (some ⟨b,3,none⟩)) B K W':=by
 have V:¬M b:=λe=>(h.uF b (J b e)).2.2 rfl;have Q:∀x,x<W.heap.size->C x->¬M x:=λx _ i e=>(h.uF x (J x e)).2.1 i;refine DY (vs:=RQ sv mx uv rv op ov) (λj v hv=>hm.cell (h.cells j v hv) V) (λj Z=>(h.live j Z).mod hm V) (q:=3) (show 3<7 by decide) Y.one.1 Y.one.2 λI m hc hl=>?_;have O:∀x,x<W'.heap.size->C x->¬x=b:=λx _ i e=>h.fb.2 (e▸i);have a1:=h.lt;have ou:=h.Rg.Aj;have or:=h.red.Aj;have nb:∀g,B.ownBlock=some g->F' g/\¬C g/\g≠b:=λg o=>by
  rcases hn g o with e|⟨e,e'⟩
  .have:=h.uF g e;exact⟨hF _ this.1,this.2.1,this.2.2⟩
  .exact⟨e',λhc=>by have:=(h.cf g hc).2;omega,λe2=>by omega⟩
 exact hK I ⟨hc,λj Z=>hl j Z,(h.HN.mod hm (λx _ i e=>(h.ss x i).2 (h.uF x (J x e)).1)).mod m (λx _ i e=>(h.ss x i).2 (by rw [e];exact h.fb.1)),λx i=>⟨No (h.ss x i).1 (lx hm.size m.size),λe=>X x e i⟩,Y.mod (by decide) m (λg o=>(nb g o).2.2) λr x i=>i.mod m O,(h.red.mod (R':=Cy C) (by decide) hm (λg o e=>(h.rF g o).2.2.2 (J g e)) λr x i=>i.mod hm Q).mod (by decide) m (λg o=>(h.rF g o).2.2.1) λr x i=>i.mod m O,(h.own.mod hm Q (by decide) λr x i=>i.mod hm Q).mod m O (by decide) λr x i=>i.mod m O,
  ⟨hF _ h.fb.1,h.fb.2⟩,nb,λg o=>⟨hF _ (h.rF g o).1,(h.rF g o).2.1,(h.rF g o).2.2.1,λe=>by
   rcases hn g e with e1|⟨e1,_⟩
   .exact(h.rF g o).2.2.2 e1
   .have:=or g o;omega⟩,
  λx i=>⟨hF _ (h.cf x i).1,No (h.cf x i).2 (lx hm.size m.size)⟩⟩ m
def CE.gG{B:Value}{U:List Grp}{K:World->Prop}(h:CE F C W b sv ks uv rv ov mx us rs op own)(hm:Mod M W W')(J:∀x,M x->rv.ownBlock=some x)(hF:∀x,F x->F' x)(X:∀x,F' x->¬ks.S x)
 (Y:Gu GG 2 (Cy C) W' B U)(hn:∀g,B.ownBlock=some g->rv.ownBlock=some g\/W.heap.size<=g/\F' g)
 (hK:∀I,CE F' C I b sv ks uv B ov mx us U op own->Mod (λx=>x=b) W' I->K I):CB (.pointer (some ⟨b,4,none⟩)) B K W':=by
 have V:¬M b:=λe=>(h.rF b (J b e)).2.2.1 rfl;have Q:∀x,x<W.heap.size->C x->¬M x:=λx _ i e=>(h.rF x (J x e)).2.1 i;refine DY (vs:=RQ sv mx uv rv op ov) (λj v hv=>hm.cell (h.cells j v hv) V) (λj Z=>(h.live j Z).mod hm V) (q:=4) (show 4<7 by decide) Y.one.1 Y.one.2 λI m hc hl=>?_;have O:∀x,x<W'.heap.size->C x->¬x=b:=λx _ i e=>h.fb.2 (e▸i);have a1:=h.lt;have ou:=h.Rg.Aj;have or:=h.red.Aj;have nb:∀g,B.ownBlock=some g->F' g/\¬C g/\g≠b:=λg o=>by
  rcases hn g o with e|⟨e,e'⟩
  .have:=h.rF g e;exact⟨hF _ this.1,this.2.1,this.2.2.1⟩
  .exact⟨e',λhc=>by have:=(h.cf g hc).2;omega,λe2=>by omega⟩
 exact hK I ⟨hc,λj Z=>hl j Z,(h.HN.mod hm (λx _ i e=>(h.ss x i).2 (h.rF x (J x e)).1)).mod m (λx _ i e=>(h.ss x i).2 (by rw [e];exact h.fb.1)),λx i=>⟨No (h.ss x i).1 (lx hm.size m.size),λe=>X x e i⟩,(h.Rg.mod (R':=Cy C) (by decide) hm (λg o e=>(h.rF g (J g e)).2.2.2 o) λr x i=>i.mod hm Q).mod (by decide) m (λg o=>(h.uF g o).2.2) λr x i=>i.mod m O,Y.mod (by decide) m (λg o=>(nb g o).2.2) λr x i=>i.mod m O,(h.own.mod hm Q (by decide) λr x i=>i.mod hm Q).mod m O (by decide) λr x i=>i.mod m O,
  ⟨hF _ h.fb.1,h.fb.2⟩,λg o=>⟨hF _ (h.uF g o).1,(h.uF g o).2⟩,λg o=>⟨(nb g o).1,(nb g o).2.1,(nb g o).2.2,λe=>by
   rcases hn g o with e1|⟨e1,_⟩
   .exact(h.rF g e1).2.2.2 e
   .have:=ou g e;omega⟩,
  λx i=>⟨hF _ (h.cf x i).1,No (h.cf x i).2 (lx hm.size m.size)⟩⟩ m
def Ps{g c:Nat}{l:List Grp}(h:AE 0 GG 2 (Cy C) W (.slice (some ⟨g,0,none⟩) l.length c) l)(h0:0<l.length)(U:¬C g) :
  ∃W',(Builtin.clear_ #[99] 0 [.slice (some ⟨g,0,none⟩) 1 c].toArray).run prog W=.ok (.tuple #[]) W'/\Mod (λx=>x=g) W W'/\Gu GG 2 (Cy C) W' (sliced (some ⟨g,0,none⟩) 1 l.length l.length 2) (l.drop 1):=by
 obtain⟨a,r,e1,_,hr,hc,_⟩:=h.sl.get h0;cases e1;have hz:(Builtin.zeroCells (Value.agg #[.slice none 0 0,.slice none 0 0]).cells 1).toList=[.slice none 0 0,.slice none 0 0]:=by kernel_rfl
 have o:∀j,j<2->Live W ((⟨g,0,none⟩:Addr).add j):=λj m=>by
  obtain⟨g',e,_,hl⟩:=AE.live h (i:=0) (j:=j) h0 m;cases e;rwa [pz,mQ] at hl
 have B:=M0 (P:=prog) (⟨g,0,none⟩:Addr) [.slice none 0 0,.slice none 0 0] 0 W (λu hu=>by simp at hu;rcases hu with rfl|rfl<;>rfl) (λj _ m=>o j (by simpa using m));obtain⟨O,_,_,_⟩:=N3 (b:=g) [.slice none 0 0,.slice none 0 0] 0 W (λj _ m=>o j (by simpa using m));have I:g<W.heap.size:=(AE.Aj h g rfl).2;refine⟨_,?_,O,.inr ?_⟩
 .have hu:prog.underlying 99=some (.slice GG):=by kernel_rfl
  have hi:prog.info? GG=some Tryz.t173:=by kernel_rfl
  have hv:(zeroValue GG).run prog W=.ok (.agg #[.slice none 0 0,.slice none 0 0]) W:=by
   simp[zeroValue,typeInfo,hi,show Tryz.t173.zero=some (.agg #[.slice none 0 0,.slice none 0 0]) from rfl]
  simp[Builtin.clear_,run_underlying hu,hv,hz,B]
 .have V:=h.sl;by_cases h1:l.length=1
  .refine⟨⟨g,0,none⟩,?_,No I O.size,?_⟩
   .simp[sliced,h1]
   .have:l.drop 1=[]:=Of (by simp[h1]);rw[this];simp only[sliced,h1,mF,p5];exact⟨_,0,rfl,K8 _,by simp[maxLen],λi x Q=>by simp at Q⟩
  .have e:sliced (some (⟨g,0,none⟩:Addr)) 1 l.length l.length 2=.slice (some ⟨g,2,none⟩) (l.drop 1).length (l.drop 1).length:=by
    simp only[sliced,Bp h1,mw,Hy];rw[Nat.one_mul,AI]
   obtain⟨_,_,X,_,Y,Z⟩:=V;cases X;refine⟨⟨g,2,none⟩,e,No I O.size,?_⟩;rw[e];refine⟨_,_,rfl,K8 _,by simp only[Hy];simp only[maxLen] at Y ⊢;have:=AE.shape h;obtain⟨_,_,e',h2,h3,_⟩:=this;simp only[maxLen] at h3;omega,λi x Q=>?_⟩;rw[mM] at Q;obtain⟨q,r',e2,_,J,a1,a6⟩:=Z (1+i) x Q;cases e2;refine⟨_,r',rfl,rfl,J,λj u hu=>?_,a6.mod O λy _ hy e=>U (e▸hy)⟩;have m:j<2:=by rw[<-J];exact(Ad.1 hu).1
   have:=a1 j u hu;rw[AI] at this;have ea:(⟨g,2,none⟩:Addr).add (i*2+j)=⟨g,2+(i*2+j),none⟩:=by unfold Addr.add;split<;>simp_all
   rw[ea,show 2+(i*2+j)=(1+i)*2+j by omega];simp only[EN,AI];rw[S4 _ _ _ _ (by intro h;have:=lV Addr.off h;simp only at this;omega),S4 _ _ _ _ (by intro h;have:=lV Addr.off h;simp only at this;omega)];exact this
end
def Nq{t e k:Nat}{i:TypeInfo}{a:Option Addr}{n c l h m:Nat}(ht:P.underlying t=some (.slice e))(hi:P.info? e=some i)(hk:i.size=k)(h1:l<=h)(o:h<=m)(q:m<=c)(w:World) :
  (Instr.sliceAt t (.slice a n c) (some (zI l)) (some (zI h)) (some (zI m))).run P w=.ok (sliced a l h m k) w:=by
 have j:P.elem t=e:=by simp[Program.elem,ht]
 rw[nS _ _ _ _ _ _ (by rw[j];exact ht),run_slice_lhm _ _ _ _ _ (by rw[j];exact ht) _ _ _ _ _ _ (by omega) (by omega) (by omega) (by omega),j];simp[sizeOf,typeInfo,hi,hk]
def LB{t e k:Nat}{i:TypeInfo}{a:Option Addr}{n c j:Nat}(ht:P.underlying t=some (.slice e))(hi:P.info? e=some i)(hk:i.size=k)(o:j<=c)(w:World):(Instr.sliceAt t (.slice a n c) none (some (zI j)) none).run P w=.ok (sliced a 0 j c k) w:=by
 have m:P.elem t=e:=by simp[Program.elem,ht]
 rw[nS _ _ _ _ _ _ (by rw[m];exact ht),rf _ _ _ _ _ (by rw[m];exact ht) _ _ (by omega) (by omega),m];simp[sizeOf,typeInfo,hi,hk]
def FM(F:Nat->Prop)(W:World)(b:Nat)(ks:HKs)(h:Hist):Prop:=∃C sv uv rv ov,CE F C W b sv ks uv rv ov h.max h.us h.rs h.op h.own
def SJ(F:Nat->Prop)(w w':World)(b:Nat)(ks:HKs)(h:Hist):Prop:=∃F',(∀x,F' x->F x\/w.heap.size<=x/\x<w'.heap.size)/\FM F' w' b ks h/\Mod F w w'
section
variable {F C M:Nat->Prop}{W W':World}{b:Nat}{sv:Value}{ks:HKs}{uv rv ov:Value}{mx:Nat}{us rs own:List Grp}{op:Bool}{h:Hist}
def FM.mod(i:FM F W b ks h)(hm:Mod M W W')(j:∀x,F x\/ks.S x->¬M x):FM F W' b ks h:=by
 obtain⟨C,sv,uv,rv,ov,i⟩:=i;exact⟨C,sv,uv,rv,ov,i.mod hm j⟩
def FM.grow(i:FM F W b ks h)(g:Grow W W'):FM F W' b ks h:=i.mod g λ_ _ h=>h
def HH(h:FM F W b ks h):AB prog 60 [.pointer (some ⟨b,0,none⟩)] (λv' w'=>v'=.bool true/\w'=W) W:=by
 obtain⟨C,sv,uv,rv,ov,h⟩:=h;refine uS1 (dB 9 [] []) func60 (λ_ _ _=>⟨by conv=>lhs;reduce,by dsimp only[PI,AF],by kernel_rfl⟩) ?_;unfold uI;refine CY (AQ (AG ?_));rw[AH,AI];exact AJ (h.cells 2 _ rfl) ⟨rfl,rfl⟩
def Z3{mx:Nat}(B:CK ks.S W sv ks.l)(m:∀x,ks.S x->x<W.heap.size)(I:mx<=65536) :
  AB prog 49 [sv,zI mx] (λv' w'=>Grow W w'/\∃b,W.heap.size<=b/\v'=.tuple #[.pointer (some ⟨b,0,none⟩),zI 0]/\FM (λx=>W.heap.size<=x/\x<w'.heap.size) w' b ks ⟨mx,[],[],false,[]⟩) W:=by
 refine uS2 (dB 267369 [([],[(4,11)])] []) func49 (λ_ _ _ _=>⟨by conv=>lhs;reduce,by dsimp only[PI,AF],by kernel_rfl⟩) ?_;unfold uI;refine AR (λ_ W'=>W'=W) ?_ ?_;rotate_left
 .rw[Ai];refine AD (λe=>by omega) λ_=>?_;rw[BE];exact AD (λe=>by omega) λ_=>rfl
 rintro _ _ rfl _;rename World=>W
 obtain⟨o,_,_,_,rfl,_⟩:=id B;refine⟨(RQ (.pointer (some ⟨o,0,none⟩)) mx (.slice none 0 0) (.slice none 0 0) false (.slice none 0 0)).toArray,by kernel_rfl,?_⟩;refine DC (vs:=RQ (.pointer (some ⟨o,0,none⟩)) mx (.slice none 0 0) (.slice none 0 0) false (.slice none 0 0)) λb Q hb U g hc hl=>?_;refine⟨g,b,by omega,rfl,λ_=>False,.pointer (some ⟨o,0,none⟩),.slice none 0 0,.slice none 0 0,.slice none 0 0,?_⟩;refine⟨λj v J=>by have:=hc j v J;rwa [AI] at this,λj O=>by have:=hl j O;rwa [AI] at this,B.grow g,λx i=>⟨by have:=m x i;omega,λe=>by have:=m x i;omega⟩,.inl AE.nil,.inl AE.nil,An.nil,⟨⟨by omega,by omega⟩,λi=>i⟩,λg q=>(nomatch q),λg q=>(nomatch q),λx i=>i.elim⟩
def Z2{g:Grp}(h:CE F C W b sv ks uv rv ov mx us rs op own)(hl:us.length<=mx)(bb:mx<=65536)(hg:Cy C W [fr,a0] g) :
  AB prog 145 [.pointer (some ⟨b,0,none⟩),.agg #[fr,a0]] (λ_ w'=>∃F' B,(∀x,F' x->F x\/W.heap.size<=x/\x<w'.heap.size)/\CE F' C w' b sv ks B rv ov mx (KP mx us g) rs op own/\Mod F W w') W:=by
 refine uS2 (dB 120121305 [] [(dC [6,7,10] [0,0,2,6,14,0,32,126,255,511,1023] [[6,7]]),(dC [16,19] [0,0,2,6,14,0,0,64,192,448,960,0,2048,6144,14336,30720,65534,131071,262143,524287] [[16]])]) func145 (λ_ _ _ _=>⟨by conv=>lhs;reduce,by dsimp only [PI,AF],by kernel_rfl⟩) ?_;unfold uI;refine DC (vs:=[fr,a0]) λb3 w1 bc bd g1 b0 _=>?_;have gd:Grow w1 w1.drew:=Mod.drew _ _;have X:=h.grow (g1.trans gd);have bk:w1.drew.heap.size=w1.heap.size:=rfl;have b1:=h.Rg.Aj;have bl:=h.lt;refine AT (λk y=>(k=7/\uv.ownBlock=some y)\/(k=10/\y=b)) ?_;refine AG ?_;rw [AH,AI];refine AP ⟨X.cells 3 _ rfl,λj U e=>by
  rcases e with⟨rfl,e⟩|⟨rfl,_⟩
  .exact(h.uF b e).2.2 rfl
  .exact absurd U (by decide)⟩ ?_
 refine CG (vs:=[fr,a0]) rfl (λq v hv=>⟨gd.cell (b0 q v hv) λh=>h,λj U e=>by
  rcases e with⟨rfl,e⟩|⟨rfl,e⟩
  .rw[Ac] at e;have:=b1 b3 e;omega
  .rw [Ac] at e;have e':b3=b:=e;omega⟩) ?_
 have b2:Cy C w1.drew [fr,a0] g:=hg.mod (g1.trans gd) λ_ _ _ h=>h;refine Gu.push J9 X.Rg (cs:=[fr,a0]) (x:=g) (by kernel_rfl) rfl b2 (λ_ _ _=>Cy.one) (λw2 w3 r y hs hm hr=>hr.mod hm λx m hC e=>?_) (by omega) (by simp only[maxLen];omega) (λw2 g=>g.mono λ_ _ h=>h.elim) λw2 B w3 ho b6 m3 hn=>⟨b6.mono λx _ e=>.inl ⟨rfl,e⟩,?_⟩
 .rcases e with e|e
  .exact(h.uF x e).2.1 hC
  .have:=(h.cf x hC).2;omega
 refine AG ?_;rw [AH,AI];have z3:=m3.size;have a6:=AE.Aj ho;refine X.aa (F':=λx=>F x\/W.heap.size<=x/\x < w3.heap.size) m3 (λ_ h=>h) (λ_ h=>.inl h) (λx m hs=>m.elim (h.ss x hs).2 λe=>by have:=(h.ss x hs).1;omega) (.inl ho) (λg hg=>by
  rcases hn g hg with e|e
  .exact .inl e
  .exact .inr ⟨e,.inr ⟨by omega,(a6 g hg).2⟩⟩) λw4 o m4=>⟨m4.mono λx _ e=>.inr ⟨rfl,e⟩,?_⟩
 have z4:=m4.size;have b7:Mod F W w4:=(((g1.trans gd).mono λ_ _ h=>h.elim).trans (m3.mono λx _ e=>(h.uF x e).1)).trans (m4.mono λx _ e=>by rw[e];exact h.fb.1);obtain⟨a,c,e,a7,bp,hp,Y⟩:=ho.shape;have a8:(us++[g]).length=us.length+1:=by simp
 refine Cv (λW'=>Grow w4 W') (Mod.drew _ _) ?_;refine AG ?_;rw[AH,AI];refine Aw (λw2 g=>g.cell (o.cells 3 _ rfl) λh=>h) ?_;rw[e,AO];refine AG ?_;rw[AH,AI];refine Aw (λw2 g=>g.cell (o.cells 1 _ rfl) λh=>h) ?_;rw[Am,a8,wrap64 (by omega) (by omega)];intro w5 g5;have I:=o.grow g5;have ak:Mod F W w5:=b7.next g5 λ_ _ h=>h.elim;rw[BE];refine AD (λba=>?_) λbs=>?_;rotate_left
 .refine⟨λx=>F x\/W.heap.size<=x/\x<w3.heap.size,B,λx m=>?_,?_,ak⟩
  .have:=g5.size;rcases m with m|m
   .exact .inl m
   .exact .inr ⟨m.1,by omega⟩
  .have ek:KP mx us g=us++[g]:=by unfold KP;rw[DN (by omega)]
   rw[ek];exact I
 have bx:us.length=mx:=by omega
 have e1:((us.length+1:Nat):Int)-(mx:Int)=1:=by omega
 rw[e1];cases a with
 |none=>have:=Y rfl;simp at this
 |some p=>
  obtain⟨V,rfl,_,bZ,J⟩:=hp p rfl;have al:AE 0 GG 2 (Cy C) w4 B (us++[g]):=AE.mod ho m4 (λy O e=>(o.uF y O).2.2 e) λr x _ m=>m.mod m4 λy _ O e=>h.fb.2 (e▸O);have an:AE 0 GG 2 (Cy C) w5 B (us++[g]):=AE.mod al g5 (λ_ _ h=>h) λr x _ m=>m.mod g5 λ_ _ _ h=>h;rw[e] at an;have av:V≠b:=(o.uF V J).2.2;refine AG ?_;refine Az (I.cells 3 _ rfl) ?_;rw[e];refine AX (Eo (e:=GG) (k:=2) (i:=Tryz.t173) (j:=1) (by kernel_rfl) (by kernel_rfl) (by kernel_rfl) (by omega) w5) ?_;obtain⟨w8,ax,m8,b8⟩:=Ps an (by omega) (o.uF V J).2.1;refine AX ax ?_;have Q:Grow w8 w8.drew:=Mod.drew _ _;have Z:w8.drew.cell? ⟨b,3,none⟩=some B:=Q.cell (m8.cell (I.cells 3 _ rfl) λe=>av e.symm) λh=>h;refine AT (λk y=>k=19/\y=b) ?_;refine AG ?_;rw[AH,AI];refine AP ⟨Z,λj U e=>by obtain⟨rfl,_⟩:=e;exact absurd U (by decide)⟩ ?_;refine AG ?_;rw[AH,AI];refine AP ⟨Z,λj U e=>by obtain⟨rfl,_⟩:=e;exact absurd U (by decide)⟩ ?_;rw[e,AO];refine AG ?_;rw[AH,AI];refine AP ⟨e▸Z,λj U e=>by obtain⟨rfl,_⟩:=e;exact absurd U (by decide)⟩ ?_;rw[AO];refine AX (Nq (e:=GG) (k:=2) (i:=Tryz.t173) (l:=1) (by kernel_rfl) (by kernel_rfl) (by kernel_rfl) (by omega) (K8 _) a7 w8.drew) ⟨Mod.refl _ _,?_⟩;refine AG ?_;rw[AH,AI];have ay:Gu GG 2 (Cy C) w8.drew (sliced (some ⟨V,0,none⟩) 1 (us++[g]).length (us++[g]).length 2) ((us++[g]).drop 1):=b8.mod (by decide) Q (λ_ _ h=>h) λr x m=>m.mod Q λ_ _ _ h=>h;have aZ:∀y,(sliced (some (⟨V,0,none⟩:Addr)) 1 (us++[g]).length (us++[g]).length 2).ownBlock=some y->y=V:=by
   intro y O;unfold sliced at O;split at O
   .exact(lK O).symm
   .simp only[mw,Value.ownBlock,Ac,gM] at O;exact O.symm
  have a1:Mod (λx=>x=V) w5 w8.drew:=m8.next Q λ_ _ h=>h.elim;have z5:=g5.size;have z8:=a1.size;refine I.aa (F':=λx=>F x\/W.heap.size<=x/\x<w3.heap.size) a1 (λx e=>by rw[e];exact J) (λ_ h=>h) (λx m hs=>(I.ss x hs).2 m) ay (λy O=>.inl (by rw[aZ y O];exact J)) λw9 b9 m9=>⟨m9.mono λx _ e=>⟨rfl,e⟩,?_⟩;have z9:=m9.size;have ek:KP mx us g=(us++[g]).drop 1:=by unfold KP;rw[Bp (by omega)]
  rw[ek];refine⟨λx=>F x\/W.heap.size<=x/\x<w3.heap.size,_,λx m=>?_,b9,(ak.next a1 λx m e=>?_).trans (m9.mono λx _ e=>by rw[e];exact h.fb.1)⟩
  .rcases m with m|m
   .exact .inl m
   .exact .inr ⟨m.1,by omega⟩
  .rcases(o.uF V J).1 with hf|hf
   .rw[e];exact hf
   .omega
end
def An.takeN{k:Nat}{R:World->List Value->α->Prop}{a:Option Addr}{n c:Nat}{l:List α}(h:An S k R w (.slice a n c) l)(o:j<=l.length):An S k R w (.slice a j c) (l.take j):=by
 obtain⟨_,_,e,h1,q,B⟩:=h;cases e;refine⟨_,_,by rw[Lc,lQ o],by rw[Lc];omega,q,λi x m=>?_⟩;rw[mT] at m;split at m
 .exact B i x m
 .cases m
def LO{p:Addr}{j c s:Nat}:sliced (some p) 0 j c s=.slice (some p) j c:=by
 have e:p.add 0=p:=Addr.add_zero' p;unfold sliced;simp[e]
def JC{l:List α}(h:0<l.length):∃i g,l=i++[g]:=by
 rcases lS l with rfl|⟨i,g,e⟩
 .simp at h
 .exact⟨i,g,by rw[e,mB]⟩
section
section
variable {F C M:Nat->Prop}{W W':World}{b:Nat}{sv:Value}{ks:HKs}{uv rv ov:Value}{mx:Nat}{us rs own:List Grp}{op:Bool}{h:Hist}
def YZ(o:FM F W b ks h):AB prog 59 [.pointer (some ⟨b,0,none⟩)] (λv' w'=>(h.op=true/\v'=zI 9/\w'=W)\/(h.op=false/\v'=zI 0/\SJ F W w' b ks { h with op:=true,own:=[] })) W:=by
 refine uS1 (dB 9684915801 [] []) func59 (λ_ _ _=>⟨by conv=>lhs;reduce,by dsimp only[PI,AF],by kernel_rfl⟩) ?_;unfold uI;refine AA (HH o) ?_;rintro _ _ ⟨rfl,rfl⟩;rename World=>W
 obtain⟨C,sv,uv,rv,ov,i⟩:=o;rw[Ah];refine AL (AG ?_);refine Az (i.cells 5 _ rfl) ?_;cases I:h.op with
 |true=>exact AQ (.inl ⟨rfl,rfl,rfl⟩)
 |false=>
  refine AL (AG ?_);rw[AH,AI];refine i.gS λJ j q=>AG ?_;rw[AH,AI];refine j.fg An.nil λO m B=>.inr ⟨rfl,rfl,F,λ_ h=>.inl h,⟨C,sv,uv,rv,_,m⟩,(q.trans B).mono λx _ e=>by rw[e];exact i.fb.1⟩
def bQ{S D S' D':Nat->Prop}{x y:List Dop}(hh:FM F W b ks h)(B:h.op=false)(hl:h.us.length<=h.max)(a1:h.max<=65536)(hd:Ak S D W v x)(hu:Ak S' D' W fr y)(bx:Aq x<=1099511627776)(a6:Aq y<=1099511627776)(hF:∀z,F z->z<W.heap.size) :
  AB prog 106 [.pointer (some ⟨b,0,none⟩),v,fr] (λv' w'=>v'=zI 0/\SJ F W w' b ks { h with us:=KP h.max h.us ⟨x,y⟩,rs:=[] }) W:=by
 refine uS3 (dB 2538859617588313 [([],[(6,6),(8,9),(18,38)])] []) func106 (λ_ _ _ _ _=>⟨by conv=>lhs;reduce,by dsimp only[PI,AF],by kernel_rfl⟩) ?_;unfold uI;refine AA (HH hh) ?_;rintro _ _ ⟨rfl,rfl⟩;rename World=>W
 obtain ⟨C,sv,uv,rv,ov,I⟩:=hh;rw [Ah];refine AL ?_;refine AA (EZ hd bx) ?_;rintro cv w2 ⟨o2,g2⟩;refine AA (EZ (hu.grow g2) a6) ?_;rintro q w3 ⟨o3,g3⟩;have J:=g2.trans g3;obtain ⟨ca,cc,O,_⟩:=(Em.sl o2).shape;obtain ⟨ak,al,Q,_⟩:=(Em.sl o3).shape;refine ⟨#[cv,q],by rw [O,Q];kernel_rfl,?_⟩;refine BH (vs:=[cv,q]) rfl rfl (λu hu=>by simp at hu;rcases hu with rfl | rfl;rw [O];rfl;rw [Q];rfl) λb7 w4 an av Y a7 _=>?_;have z2:=g2.size;have z3:=g3.size;have r2:Ak (λz=>W.heap.size<=z/\z < w4.heap.size) (λz=>W.heap.size<=z/\z < w4.heap.size) w4 cv x:=(Em.reads o2).to (g3.trans Y) (λ_ _ _ h=>h) (λ_ _ _ h=>h) (λz _ i=>⟨i.1,by omega⟩) λz _ i=>⟨i.1,by omega⟩;have r3:Ak (λz=>W.heap.size<=z/\z < w4.heap.size) (λz=>W.heap.size<=z/\z < w4.heap.size) w4 q y:=(Em.reads o3).to Y (λ_ _ _ h=>h) (λ_ _ _ h=>h) (λz _ i=>⟨by omega,by omega⟩) λz _ i=>⟨by omega,by omega⟩;have U:=(I.grow (J.trans Y)).more (F':=λz=>F z\/W.heap.size<=z/\z < w4.heap.size) (C':=λz=>C z\/W.heap.size<=z/\z < w4.heap.size) (λ_ h=>.inl h) (λ_ h=>.inl h) (λx hx Z=>hx.elim (I.ss x Z).2 λe=>by have:=(I.ss x Z).1;omega) (λz i=>by
  rcases i with i|i
  .have:=I.cf z i;exact⟨.inl this.1,by omega,.inl i⟩
  .exact ⟨.inr i,i.2,.inr λhf=>by have:=hF z hf;omega⟩)
 have hg:Cy (λz=>C z\/W.heap.size<=z/\z<w4.heap.size) w4 [cv,q] ⟨x,y⟩:=⟨cv,q,rfl,r2.to (Mod.refl (λ_=>False) _) (λ_ _ _ h=>h) (λ_ _ _ h=>h) (λ_ _ h=>.inr h) λ_ _ h=>.inr h,r3.to (Mod.refl (λ_=>False) _) (λ_ _ _ h=>h) (λ_ _ _ h=>h) (λ_ _ h=>.inr h) λ_ _ h=>.inr h⟩;have V:=J.trans Y;refine AR (λ_ X=>∃F' j,(∀z,F' z->F z\/W.heap.size<=z/\z<X.heap.size)/\CE F' (λz=>C z\/W.heap.size<=z/\z<w4.heap.size) X b sv ks j rv ov h.max (KP h.max h.us ⟨x,y⟩) h.rs h.op h.own/\Mod F W X) ?_ ?_
 .rintro _ X ⟨F',j,o,m,m6⟩ _;refine AG ?_;rw[AH,AI];refine m.gG (F':=F') (M:=λ_=>False) (Mod.refl _ _) (λ_ h=>h.elim) (λ_ h=>h) (λx hx Z=>(m.ss x Z).2 hx) (.inl AE.nil) (λg hg=>nomatch hg) λw7 a8 m7=>⟨rfl,F',λz i=>?_,⟨_,sv,j,_,ov,a8⟩,m6.trans (m7.mono λz _ e=>by rw[e];exact I.fb.1)⟩;have:=m7.size;rcases o z i with h|h
  .exact .inl h
  .exact .inr ⟨h.1,by omega⟩
 refine AG ?_;refine Az (U.cells 5 _ rfl) ?_;rw[B];refine AL ?_;refine AV (vs:=[cv,q]) rfl a7 ?_;rw[<-B];refine AA (Z2 U hl a1 hg) ?_;rintro _ X ⟨F',j,o,m,m6⟩;have z4:=V.size;have z6:=m6.size;refine⟨F',j,λz i=>?_,m,(V.mono λ_ _ h=>h.elim:Mod F W w4).next m6 λz i e=>?_⟩
 .rcases o z i with(h|h)|h
  .exact .inl h
  .exact .inr ⟨h.1,by omega⟩
  .exact .inr ⟨by omega,h.2⟩
 .rcases e with e|e
  .exact e
  .omega
def Od{l:List Grp}(h:An S 2 (Cy C) W v l)(hC:∀x,C x->x<W.heap.size)(hl:l.length<=1099511627) :
  AB prog 199 [v] (λv' w'=>AE W.heap.size GG 2 (Cy C) w' v' l/\Grow W w') W:=by
 refine uS1 (dB 267353 [] []) func199 (λ_ _ _=>⟨by conv=>lhs;reduce,by dsimp only[PI,AF],by kernel_rfl⟩) ?_;unfold uI;obtain⟨a,c,rfl,hm⟩:=h.shape;cases a with
 |none=>
  have:l=[]:=by
   cases l with
   |nil=>rfl
   |cons x l=>obtain⟨p,r,e,_⟩:=h.get (i:=0) (by simp);cases e
  subst this;simp only[KS];exact⟨AE.nil,Mod.refl _ _⟩
 |some p=>
  simp only[KS];refine Hk ?_;have j:Grow W (W.alloc (.cells #[] GG)):=Mod.alloc _ _ _;have m:(W.alloc (.cells #[] GG)).heap[W.heap.size]?=some (.cells #[] GG (0,0)):=by show(W.heap.push _)[W.heap.size]?=_;simp
  obtain⟨v',w',h1,I,J,_⟩:=Su (ty:=99) J9 m (h.grow j (by decide) λr x B=>B.mod j λ_ _ _ h=>h) (λ_ _ _=>Cy.one) (by omega) (λw2 o r y hr=>hr.mod (Mod.of_grownBy o) λx B q e=>by have:=hC x q;simp only[gM] at e;omega);exact AX h1 ⟨I,j.trans J⟩
def Qy(h:CE F C W b sv ks uv rv ov mx us rs false own)(c4:us.length<=65536)(c6:rs.length<=65536)(hF:∀x,F x->x<W.heap.size) :
  AB prog 114 [.pointer (some ⟨b,0,none⟩),.pointer (some ⟨b,3,none⟩),.pointer (some ⟨b,4,none⟩)] (λv' w'=>(us=[]/\v'=.tuple #[.agg #[.slice none 0 0,.slice none 0 0],zI 10]/\Grow W w')\/
   ∃ l g r F' b7 b8,us=l++[g]/\v'=.tuple #[.agg (List.toArray r),zI 0]/\r.length=2/\Cy C w' r g/\(∀ x,F' x->F x\/W.heap.size<=x/\x < w'.heap.size)/\CE F' C w' b sv ks b7 b8 ov mx l (rs++[g]) false own/\Mod F W w') W:=by
 refine uS3 (dB 67697444434633 [] [(dC [5,6,8] [0,0,2,6,0,16,62,127,255] [[5,6]])]) func114 (λ_ _ _ _ _=>⟨by conv=>lhs;reduce,by dsimp only[PI,AF],by kernel_rfl⟩) ?_;unfold uI;have c7:=h.lt;have c8:=h.Rg.Aj;have a7:=h.red.Aj;refine Bz λb6 w1 c9 ca g1 _ a8=>?_;have I:=h.grow g1;obtain⟨a,c,e,bp,cc,cd⟩:=h.Rg.sl (by decide);have ak:=I.Rg.sl (by decide);rw[e] at ak;refine AG ?_;refine AJ (I.cells 3 _ rfl) ?_;rw[e,AO,Am,wrap64 (by omega) (by omega)];refine AG ?_;refine Az (I.cells 5 _ rfl) ?_;refine AL ?_;refine G9 (λbs=>?_) λbx=>?_
 .refine⟨#[.slice none 0 0,.slice none 0 0],by kernel_rfl,?_⟩;refine BB (vs:=[.slice none 0 0,.slice none 0 0]) rfl (λu hu=>by simp at hu;subst hu;rfl) (λj hj=>a8 j hj) λch m hc _=>?_;exact AV rfl hc (.inl ⟨Of (by omega),rfl,g1.next m λx o e=>by omega⟩)
 obtain⟨l,g,V⟩:=JC (l:=us) (by omega);have bZ:us.length=l.length+1:=by rw[V];simp
 have en:((us.length:Int)-1)=((l.length:Nat):Int):=by omega
 rw[en];refine AG ?_;refine AJ (I.cells 3 _ rfl) ?_;rw[e];have hi:l.length<us.length:=by omega
 obtain⟨p,r,rfl,_,hr,hc,J⟩:=ak.get hi;have ba:us[l.length]=g:=by
  have:us[l.length]?=some g:=by rw[V];simp
  rw[Bq hi] at this;exact lK this
 rw[ba] at J;refine AS hi (AV hr (λj u hu=>by rw[Addr.add_add];exact hc j u hu) ?_);refine BH (vs:=r) hr rfl J.one λb9 w3 cu cx g3 bb _=>?_;have al:=g1.trans g3;have B:=I.grow g3;refine AG ?_;refine AJ (B.cells 3 _ rfl) ?_;rw[e];refine AX (LB (e:=GG) (k:=2) (i:=Tryz.t173) (j:=l.length) (by kernel_rfl) (by kernel_rfl) (by kernel_rfl) (by omega) w3) ?_;rw[LO];have a1:=B.Rg.sl (by decide);rw[e] at a1;have an:=a1.takeN (j:=l.length) (by omega);have bc:us.take l.length=l:=by rw[V];simp
 rw [bc] at an;refine AA (Od an (λx o=>(B.cf x o).2) (by omega)) ?_;rintro cl w4 ⟨av,g4⟩;have da:=g3.trans g4;have dk:=al.trans g4;have dr:=B.grow g4;have O:=AE.Aj av;refine AG ?_;have z1:=g1.size;have z3:=g3.size;have z4:=g4.size;refine B.aa (F':=λx=>F x\/w3.heap.size<=x/\x < w4.heap.size) (M:=λ_=>False) g4 (λ_ h=>h.elim) (λ_ h=>.inl h) (λx o hs=>o.elim (B.ss x hs).2 λe=>by have:=(B.ss x hs).1;omega) (.inl (av.base λ_ _=>Nn _)) (λy hy=>.inr ⟨(O y hy).1,.inr ⟨(O y hy).1,(O y hy).2⟩⟩) λw5 bd m5=>?_;have z5:=m5.size;have gd:Grow w5 w5.drew:=Mod.drew _ _;have zd:w5.drew.heap.size=w5.heap.size:=rfl;have Q:=bd.grow gd;obtain ⟨dv,U,rfl,hd,hu⟩:=J;have J:Cy C w1 [dv,U] g:=⟨dv,U,rfl,hd,hu⟩;have X:Mod (λy=>y=b) w3 w5.drew:=((g4.mono λ_ _ h=>h.elim).trans m5).next gd λ_ _ h=>h.elim;have a6:∀ j v,([dv,U]:List Value)[j]?=some v->w5.drew.cell? ((⟨b9,0,none⟩:Addr).add j)=some v:=λj v hv=>X.cell (bb j v hv) (by rw [Ac];exact λe=>by have e':b9=b:=e;omega);refine AT (λk y=>(k=6/\rv.ownBlock=some y)\/(k=8/\y=b)) ?_;refine AG ?_;refine AP ⟨Q.cells 4 _ rfl,λj hj e=>by
  rcases e with⟨rfl,e⟩|⟨rfl,_⟩
  .exact(h.rF b e).2.2.1 rfl
  .exact absurd hj (by decide)⟩ ?_
 refine CG (vs:=[dv,U]) rfl (λq v hv=>⟨a6 q v hv,λj hj e=>by
  rcases e with⟨rfl,e⟩|⟨rfl,e⟩
  .rw[Ac] at e;have:=a7 b9 e;omega
  .rw [Ac] at e;have e':b9=b:=e;omega⟩) ?_
 have ax:∀x,C x->¬x=b:=λx o e=>h.fb.2 (e▸o);have ay:Cy C w5.drew [dv,U] g:=(J.mod g3 λ_ _ _ h=>h).mod X λx _ o=>ax x o;refine Gu.push J9 Q.red (cs:=[dv,U]) (x:=g) (by kernel_rfl) rfl ay (λ_ _ _=>Cy.one) (λw2 w3 r y hs hm hr=>hr.mod hm λx o hC e=>?_) (by omega) (by simp only[maxLen];omega) (λw2 g=>g.mono λ_ _ h=>h.elim) λw7 dA w8 ho bk m8 hn=>⟨bk.mono λx _ e=>.inl ⟨rfl,e⟩,?_⟩
 .rcases e with e|e
  .exact(h.rF x e).2.1 hC
  .have:=(h.cf x hC).2;omega
 refine AG ?_;have z8:=m8.size;have aZ:=AE.Aj ho;refine Q.gG (F':=λx=>F x\/w3.heap.size<=x/\x < w8.heap.size) m8 (λ_ h=>h) (λx h=>by rcases h with h | h;exact .inl h;exact .inr ⟨h.1,by omega⟩) (λx o hs=>o.elim (B.ss x hs).2 λe=>by have:=(B.ss x hs).1;omega) (.inl ho) (λy hy=>by
  rcases hn y hy with e|e
  .exact .inl e
  .exact .inr ⟨e,.inr ⟨by omega,(aZ y hy).2⟩⟩) λw9 bl m9=>⟨m9.mono λx _ e=>.inr ⟨rfl,e⟩,?_⟩
 have z9:=m9.size;have Y:Mod (λy=>rv.ownBlock=some y\/y=b) w5.drew w9:=(m8.mono λ_ _ h=>.inl h).trans (m9.mono λ_ _ h=>.inr h);have b0:∀ j v,([dv,U]:List Value)[j]?=some v->w9.cell? ((⟨b9,0,none⟩:Addr).add j)=some v:=λj v hv=>Y.cell (a6 j v hv) (by
  rw[Ac];rintro(e|e)
  .have:=a7 b9 e;omega
  .have e':b9=b:=e;omega)
 refine AV (vs:=[dv,U]) rfl b0 ?_;have b1:Cy C w9 [dv,U] g:=ay.mod Y λx _ o e=>by
  rcases e with e|e
  .exact(h.rF x e).2.1 o
  .exact ax x o e
 refine BB (vs:=[dv,U]) rfl b1.one (λj hj=>((((a8 j hj).mod g3 λh=>h).mod X λe=>by rw [Ac] at e;have e':b6=b:=e;omega).mod Y λe=>by
  rw[Ac] at e;rcases e with e|e
  .have:=a7 b6 e;omega
  .have e':b6=b:=e;omega)) λdT Z b2 _=>?_
 have e1:=Z.size;refine AV rfl b2 (.inr ⟨l,g,[dv,U],λx=>F x\/w3.heap.size<=x/\x<w8.heap.size,_,_,V,rfl,rfl,b1.mod Z λx _ o e=>by have:=(h.cf x o).2;omega,λx o=>?_,bl.mod Z λx o e=>?_,?_⟩)
 .rcases o with o|o
  .exact .inl o
  .exact .inr ⟨by omega,by omega⟩
 .rcases o with(o|o)|o
  .have:=hF x o;omega
  .omega
  .have:=(h.ss x o).1;omega
 .refine(((al.mono λ_ _ h=>h.elim:Mod F W w3).next X λx o e=>by rw[e];exact h.fb.1).next Y λx o e=>?_).next Z λx o e=>by omega
  rcases e with e|e
  .exact(h.rF x e).1
  .rw[e];exact h.fb.1
def P7(h:CE F C W b sv ks uv rv ov mx us rs false own)(c4:us.length<=65536)(c6:rs.length<=65536)(hF:∀x,F x->x<W.heap.size) :
  AB prog 114 [.pointer (some ⟨b,0,none⟩),.pointer (some ⟨b,4,none⟩),.pointer (some ⟨b,3,none⟩)] (λv' w'=>(rs=[]/\v'=.tuple #[.agg #[.slice none 0 0,.slice none 0 0],zI 10]/\Grow W w')\/
   ∃ l g r F' b7 b8,rs=l++[g]/\v'=.tuple #[.agg (List.toArray r),zI 0]/\r.length=2/\Cy C w' r g/\(∀ x,F' x->F x\/W.heap.size<=x/\x < w'.heap.size)/\CE F' C w' b sv ks b7 b8 ov mx (us++[g]) l false own/\Mod F W w') W:=by
 refine uS3 (dB 67697444434633 [] [(dC [5,6,8] [0,0,2,6,0,16,62,127,255] [[5,6]])]) func114 (λ_ _ _ _ _=>⟨by conv=>lhs;reduce,by dsimp only[PI,AF],by kernel_rfl⟩) ?_;unfold uI;have c7:=h.lt;have c8:=h.red.Aj;have a7:=h.Rg.Aj;refine Bz λb6 w1 c9 ca g1 _ a8=>?_;have I:=h.grow g1;obtain⟨a,c,e,bp,cc,cd⟩:=h.red.sl (by decide);have ak:=I.red.sl (by decide);rw[e] at ak;refine AG ?_;refine AJ (I.cells 4 _ rfl) ?_;rw[e,AO,Am,wrap64 (by omega) (by omega)];refine AG ?_;refine Az (I.cells 5 _ rfl) ?_;refine AL ?_;refine G9 (λbs=>?_) λbx=>?_
 .refine⟨#[.slice none 0 0,.slice none 0 0],by kernel_rfl,?_⟩;refine BB (vs:=[.slice none 0 0,.slice none 0 0]) rfl (λu hu=>by simp at hu;subst hu;rfl) (λj hj=>a8 j hj) λch m hc _=>?_;exact AV rfl hc (.inl ⟨Of (by omega),rfl,g1.next m λx o e=>by omega⟩)
 obtain⟨l,g,V⟩:=JC (l:=rs) (by omega);have bZ:rs.length=l.length+1:=by rw[V];simp
 have en:((rs.length:Int)-1)=((l.length:Nat):Int):=by omega
 rw[en];refine AG ?_;refine AJ (I.cells 4 _ rfl) ?_;rw[e];have hi:l.length<rs.length:=by omega
 obtain⟨p,r,rfl,_,hr,hc,J⟩:=ak.get hi;have ba:rs[l.length]=g:=by
  have:rs[l.length]?=some g:=by rw[V];simp
  rw[Bq hi] at this;exact lK this
 rw[ba] at J;refine AS hi (AV hr (λj u hu=>by rw[Addr.add_add];exact hc j u hu) ?_);refine BH (vs:=r) hr rfl J.one λb9 w3 cu cx g3 bb _=>?_;have al:=g1.trans g3;have B:=I.grow g3;refine AG ?_;refine AJ (B.cells 4 _ rfl) ?_;rw[e];refine AX (LB (e:=GG) (k:=2) (i:=Tryz.t173) (j:=l.length) (by kernel_rfl) (by kernel_rfl) (by kernel_rfl) (by omega) w3) ?_;rw[LO];have a1:=B.red.sl (by decide);rw[e] at a1;have an:=a1.takeN (j:=l.length) (by omega);have bc:rs.take l.length=l:=by rw[V];simp
 rw [bc] at an;refine AA (Od an (λx o=>(B.cf x o).2) (by omega)) ?_;rintro cl w4 ⟨av,g4⟩;have da:=g3.trans g4;have dk:=al.trans g4;have dr:=B.grow g4;have O:=AE.Aj av;refine AG ?_;have z1:=g1.size;have z3:=g3.size;have z4:=g4.size;refine B.gG (F':=λx=>F x\/w3.heap.size<=x/\x < w4.heap.size) (M:=λ_=>False) g4 (λ_ h=>h.elim) (λ_ h=>.inl h) (λx o hs=>o.elim (B.ss x hs).2 λe=>by have:=(B.ss x hs).1;omega) (.inl (av.base λ_ _=>Nn _)) (λy hy=>.inr ⟨(O y hy).1,.inr ⟨(O y hy).1,(O y hy).2⟩⟩) λw5 bd m5=>?_;have z5:=m5.size;have gd:Grow w5 w5.drew:=Mod.drew _ _;have zd:w5.drew.heap.size=w5.heap.size:=rfl;have Q:=bd.grow gd;obtain ⟨dv,U,rfl,hd,hu⟩:=J;have J:Cy C w1 [dv,U] g:=⟨dv,U,rfl,hd,hu⟩;have X:Mod (λy=>y=b) w3 w5.drew:=((g4.mono λ_ _ h=>h.elim).trans m5).next gd λ_ _ h=>h.elim;have a6:∀ j v,([dv,U]:List Value)[j]?=some v->w5.drew.cell? ((⟨b9,0,none⟩:Addr).add j)=some v:=λj v hv=>X.cell (bb j v hv) (by rw [Ac];exact λe=>by have e':b9=b:=e;omega);refine AT (λk y=>(k=6/\uv.ownBlock=some y)\/(k=8/\y=b)) ?_;refine AG ?_;refine AP ⟨Q.cells 3 _ rfl,λj hj e=>by
  rcases e with⟨rfl,e⟩|⟨rfl,_⟩
  .exact(h.uF b e).2.2 rfl
  .exact absurd hj (by decide)⟩ ?_
 refine CG (vs:=[dv,U]) rfl (λq v hv=>⟨a6 q v hv,λj hj e=>by
  rcases e with⟨rfl,e⟩|⟨rfl,e⟩
  .rw[Ac] at e;have:=a7 b9 e;omega
  .rw [Ac] at e;have e':b9=b:=e;omega⟩) ?_
 have ax:∀x,C x->¬x=b:=λx o e=>h.fb.2 (e▸o);have ay:Cy C w5.drew [dv,U] g:=(J.mod g3 λ_ _ _ h=>h).mod X λx _ o=>ax x o;refine Gu.push J9 Q.Rg (cs:=[dv,U]) (x:=g) (by kernel_rfl) rfl ay (λ_ _ _=>Cy.one) (λw2 w3 r y hs hm hr=>hr.mod hm λx o hC e=>?_) (by omega) (by simp only[maxLen];omega) (λw2 g=>g.mono λ_ _ h=>h.elim) λw7 dA w8 ho bk m8 hn=>⟨bk.mono λx _ e=>.inl ⟨rfl,e⟩,?_⟩
 .rcases e with e|e
  .exact(h.uF x e).2.1 hC
  .have:=(h.cf x hC).2;omega
 refine AG ?_;have z8:=m8.size;have aZ:=AE.Aj ho;refine Q.aa (F':=λx=>F x\/w3.heap.size<=x/\x < w8.heap.size) m8 (λ_ h=>h) (λx h=>by rcases h with h | h;exact .inl h;exact .inr ⟨h.1,by omega⟩) (λx o hs=>o.elim (B.ss x hs).2 λe=>by have:=(B.ss x hs).1;omega) (.inl ho) (λy hy=>by
  rcases hn y hy with e|e
  .exact .inl e
  .exact .inr ⟨e,.inr ⟨by omega,(aZ y hy).2⟩⟩) λw9 bl m9=>⟨m9.mono λx _ e=>.inr ⟨rfl,e⟩,?_⟩
 have z9:=m9.size;have Y:Mod (λy=>uv.ownBlock=some y\/y=b) w5.drew w9:=(m8.mono λ_ _ h=>.inl h).trans (m9.mono λ_ _ h=>.inr h);have b0:∀ j v,([dv,U]:List Value)[j]?=some v->w9.cell? ((⟨b9,0,none⟩:Addr).add j)=some v:=λj v hv=>Y.cell (a6 j v hv) (by
  rw[Ac];rintro(e|e)
  .have:=a7 b9 e;omega
  .have e':b9=b:=e;omega)
 refine AV (vs:=[dv,U]) rfl b0 ?_;have b1:Cy C w9 [dv,U] g:=ay.mod Y λx _ o e=>by
  rcases e with e|e
  .exact(h.uF x e).2.1 o
  .exact ax x o e
 refine BB (vs:=[dv,U]) rfl b1.one (λj hj=>((((a8 j hj).mod g3 λh=>h).mod X λe=>by rw [Ac] at e;have e':b6=b:=e;omega).mod Y λe=>by
  rw[Ac] at e;rcases e with e|e
  .have:=a7 b6 e;omega
  .have e':b6=b:=e;omega)) λdT Z b2 _=>?_
 have e1:=Z.size;refine AV rfl b2 (.inr ⟨l,g,[dv,U],λx=>F x\/w3.heap.size<=x/\x<w8.heap.size,_,_,V,rfl,rfl,b1.mod Z λx _ o e=>by have:=(h.cf x o).2;omega,λx o=>?_,bl.mod Z λx o e=>?_,?_⟩)
 .rcases o with o|o
  .exact .inl o
  .exact .inr ⟨by omega,by omega⟩
 .rcases o with(o|o)|o
  .have:=hF x o;omega
  .omega
  .have:=(h.ss x o).1;omega
 .refine(((al.mono λ_ _ h=>h.elim:Mod F W w3).next X λx o e=>by rw[e];exact h.fb.1).next Y λx o e=>?_).next Z λx o e=>by omega
  rcases e with e|e
  .exact(h.uF x e).1
  .rw[e];exact h.fb.1
end
section
variable {F C M:Nat->Prop}{W W':World}{b:Nat}{sv:Value}{ks:HKs}{h:Hist}
def aV(hh:FM F W b ks h)(a1:h.op=false)(a6:h.us.length<=65536)(a7:h.rs.length<=65536)(hF:∀x,F x->x<W.heap.size)(hb:∀g∈h.us,Aq g.u<=1099511627776) :
  AB prog 56 [.pointer (some ⟨b,0,none⟩)] (λv' w'=>(h.us=[]/\∃ cv,v'=.tuple #[cv,zI 10]/\Grow W w')\/
   ∃ l g cv n,h.us=l++[g]/\v'=.tuple #[cv,zI 0]/\W.heap.size<=n/\Em n w' cv g.u/\∃ F',(∀ x,F' x->(F x\/W.heap.size<=x)/\x < n)/\FM F' w' b ks { h with us:=l,rs:=h.rs++[g] }/\n<=w'.heap.size/\Mod F W w') W:=by
 refine uS1 (dB 32773209 [([4,5],[(4,5),(9,19)])] [(dT [7,11,12] [0,0,2,6,0,16,48,127,255,511,511,0,3071,8191] [[7]] (.op 0 (.op 1 (.op 2 (.op 3 (.op 4 (.op 5 (.op 6 (.br (.op 7 (.op 8 (.op 9 (.op 10 (.op 11 (.op 12 (.op 13 .nil))))))) (.op 11 (.op 7 (.op 8 (.op 9 (.op 10 (.op 12 (.op 13 .nil))))))))))))))))]) func56 (λ_ _ _=>⟨by conv=>lhs;reduce,by dsimp only[PI,AF],by kernel_rfl⟩) ?_;unfold uI;refine AA (HH hh) ?_;rintro _ _ ⟨rfl,rfl⟩;rename World=>W
 obtain ⟨C,sv,uv,rv,ov,hR⟩:=hh;rw [a1] at hR;rw [Ah];refine AL ?_;refine AR (λvs w2=>(h.us=[]/\∃ b4,vs=[.pointer (some ⟨b4,0,none⟩),zI 10]/\(∀ j v,([.slice none 0 0,.slice none 0 0]:List Value)[j]?=some v->w2.cell? ((⟨b4,0,none⟩:Addr).add j)=some v)/\Grow W w2)\/
  ∃ l g b4 r F' o q,h.us=l++[g]/\vs=[.pointer (some ⟨b4,0,none⟩),zI 0]/\Cy C w2 r g/\(∀ j v,r[j]?=some v->w2.cell? ((⟨b4,0,none⟩:Addr).add j)=some v)/\(∀ x,F' x->(F x\/W.heap.size<=x)/\x < w2.heap.size)/\CE F' C w2 b sv ks o q ov h.max l (h.rs++[g]) false h.own/\Mod F W w2) ?_ ?_
 .rintro _ w2 (⟨hn,b4,rfl,hc,g2⟩|⟨l,g,b4,r,F',o,q,J,rfl,⟨dv,uu,rfl,hd,hu⟩,hc,B,an,m2⟩) _
  .simp only[FC];rw[AH];refine AJ (hc 1 _ rfl) ?_;refine AA (EZ (S:=λ_=>False) (D:=λ_=>False) (x:=[]) An.nil (by simp[Aq])) ?_;rintro cv w3 ⟨_,g3⟩;exact .inl ⟨hn,cv,rfl,g2.trans g3⟩
  .simp only[FC];rw[AH];refine AJ (hc 1 _ rfl) ?_;refine AA (EZ hu (hb g (by rw[J];simp))) ?_;rintro cv w3 ⟨o3,g3⟩;exact .inr ⟨l,g,cv,w2.heap.size,J,rfl,m2.size,o3,F',B,⟨C,sv,o,q,ov,by rw[a1];exact an.grow g3⟩,g3.size,m2.next g3 λ_ _ h=>h.elim⟩
 have Z:Grow W W.drew:=Mod.drew _ _;have zd:W.drew.heap.size=W.heap.size:=rfl;refine AT (λk y=>(k=7/\F y)\/(k=12/\W.heap.size<=y)) ?_;refine AG ?_;rw[AH,AI];refine AG ?_;rw[AH,AI];refine⟨?_,?_⟩
 .refine AA (Qy (hR.grow Z) a6 a7 hF) ?_;rintro _ w5 (⟨hn,rfl,g5⟩|⟨l,g,r,F',o,q,J,rfl,O,hg,B,Q,m5⟩)
  .refine⟨g5.mono λ_ _ h=>h.elim,?_⟩;refine BI ?_;refine Bz λb4 w6 a8 av U _ V=>⟨U.mono λ_ _ h=>h.elim,?_⟩;have z5:=g5.size;refine BB (vs:=[.slice none 0 0,.slice none 0 0]) rfl (λu hu=>by simp at hu;subst hu;rfl) (λj X=>V j X) λw7 m I _=>⟨m.mono λx _ e=>.inr ⟨rfl,by omega⟩,.inl ⟨hn,b4,rfl,I,((Z.trans g5).trans U).next m λx i e=>by omega⟩⟩
  .refine⟨m5.mono λx _ e=>.inl ⟨rfl,e⟩,?_⟩;refine BI ?_;refine Bz λb4 w6 a8 av U _ V=>⟨U.mono λ_ _ h=>h.elim,?_⟩;have z5:=m5.size;have ak:=hg.mod U λ_ _ _ h=>h;have ax:=Q.grow U;refine BB (vs:=r) O ak.one (λj X=>V j X) λw7 m I _=>⟨m.mono λx _ e=>.inr ⟨rfl,by omega⟩,.inr ⟨l,g,b4,r,F',o,q,J,rfl,ak.mod m λx _ i e=>?_,I,λx i=>?_,ax.mod m λx i e=>i.elim (λi=>?_) λhs=>by have:=(Q.ss x hs).1;omega,?_⟩⟩
   .have:=(Q.cf x i).2;omega
   .have:=m.size;rcases B x i with e|e
    .exact⟨.inl e,by have:=hF x e;omega⟩
    .exact⟨.inr (by omega),by omega⟩
   .rcases B x i with e'|e'
    .have:=hF x e';omega
    .omega
   .exact(((Z.mono λ_ _ h=>h.elim:Mod F W W.drew).trans m5).next U λ_ _ h=>h.elim).next m λx i e=>by omega
 .refine Bz λb4 w8 a8 b0 g8 _ al=>⟨g8.mono λ_ _ h=>h.elim,?_⟩;have z8:=g8.size;have ay:∀x,F x->x<w8.heap.size:=λx i=>by have:=hF x i;omega
  refine AA (Qy ((hR.grow Z).grow g8) a6 a7 ay) ?_;rintro _ w9 (⟨hn,rfl,g9⟩|⟨l,g,r,F',o,q,J,rfl,O,hg,B,aZ,m9⟩)
  .refine⟨g9.mono λ_ _ h=>h.elim,?_⟩;refine BI ?_;refine BB (vs:=[.slice none 0 0,.slice none 0 0]) rfl (λu hu=>by simp at hu;subst hu;rfl) (λj X=>(al j X).mod g9 λh=>h) λw7 m I _=>⟨m.mono λx _ e=>.inr ⟨rfl,by omega⟩,.inl ⟨hn,b4,rfl,I,((Z.trans g8).trans g9).next m λx i e=>by omega⟩⟩
  .refine⟨m9.mono λx _ e=>.inl ⟨rfl,e⟩,?_⟩;refine BI ?_;have z9:=m9.size;have Y:¬F b4:=λe=>by have:=hF b4 e;omega
   refine BB (vs:=r) O hg.one (λj X=>(al j X).mod m9 (by rw[Ac];exact Y)) λw7 m I _=>⟨m.mono λx _ e=>.inr ⟨rfl,by omega⟩,.inr ⟨l,g,b4,r,F',o,q,J,rfl,hg.mod m λx _ i e=>?_,I,λx i=>?_,aZ.mod m λx i e=>i.elim (λi=>?_) λhs=>by have:=(hR.ss x hs).1;omega,?_⟩⟩
   .exact Y (e▸(hR.cf x i).1)
   .have:=m.size;rcases B x i with e|e
    .exact⟨.inl e,by have:=hF x e;omega⟩
    .exact⟨.inr (by omega),by omega⟩
   .rcases B x i with e'|e'
    .exact Y (e▸e')
    .omega
   .exact(((Z.trans g8).mono λ_ _ h=>h.elim:Mod F W w8).trans m9).next m λx i e=>by omega
def cR(hh:FM F W b ks h)(a1:h.op=false)(a6:h.us.length<=65536)(a7:h.rs.length<=65536)(hF:∀x,F x->x<W.heap.size)(hb:∀g∈h.rs,Aq g.d<=1099511627776) :
  AB prog 58 [.pointer (some ⟨b,0,none⟩)] (λv' w'=>(h.rs=[]/\∃ cv,v'=.tuple #[cv,zI 10]/\Grow W w')\/
   ∃ l g cv n,h.rs=l++[g]/\v'=.tuple #[cv,zI 0]/\W.heap.size<=n/\Em n w' cv g.d/\∃ F',(∀ x,F' x->(F x\/W.heap.size<=x)/\x < n)/\FM F' w' b ks { h with us:=h.us++[g],rs:=l }/\n<=w'.heap.size/\Mod F W w') W:=by
 refine uS1 (dB 32773209 [([4,5],[(4,5),(9,19)])] [(dT [7,11,12] [0,0,2,6,0,16,48,127,255,511,511,0,3071,8191] [[7]] (.op 0 (.op 1 (.op 2 (.op 3 (.op 4 (.op 5 (.op 6 (.br (.op 7 (.op 8 (.op 9 (.op 10 (.op 11 (.op 12 (.op 13 .nil))))))) (.op 11 (.op 7 (.op 8 (.op 9 (.op 10 (.op 12 (.op 13 .nil))))))))))))))))]) func58 (λ_ _ _=>⟨by conv=>lhs;reduce,by dsimp only[PI,AF],by kernel_rfl⟩) ?_;unfold uI;refine AA (HH hh) ?_;rintro _ _ ⟨rfl,rfl⟩;rename World=>W
 obtain ⟨C,sv,uv,rv,ov,hR⟩:=hh;rw [a1] at hR;rw [Ah];refine AL ?_;refine AR (λvs w2=>(h.rs=[]/\∃ b4,vs=[.pointer (some ⟨b4,0,none⟩),zI 10]/\(∀ j v,([.slice none 0 0,.slice none 0 0]:List Value)[j]?=some v->w2.cell? ((⟨b4,0,none⟩:Addr).add j)=some v)/\Grow W w2)\/
  ∃ l g b4 r F' o q,h.rs=l++[g]/\vs=[.pointer (some ⟨b4,0,none⟩),zI 0]/\Cy C w2 r g/\(∀ j v,r[j]?=some v->w2.cell? ((⟨b4,0,none⟩:Addr).add j)=some v)/\(∀ x,F' x->(F x\/W.heap.size<=x)/\x < w2.heap.size)/\CE F' C w2 b sv ks o q ov h.max (h.us++[g]) l false h.own/\Mod F W w2) ?_ ?_
 .rintro _ w2 (⟨hn,b4,rfl,hc,g2⟩|⟨l,g,b4,r,F',o,q,J,rfl,⟨dv,uu,rfl,hd,hu⟩,hc,B,an,m2⟩) _
  .simp only[FC];rw[AH];refine AJ (hc 0 _ rfl) ?_;refine AA (EZ (S:=λ_=>False) (D:=λ_=>False) (x:=[]) An.nil (by simp[Aq])) ?_;rintro cv w3 ⟨_,g3⟩;exact .inl ⟨hn,cv,rfl,g2.trans g3⟩
  .simp only[FC];rw[AH];refine AJ (hc 0 _ rfl) ?_;refine AA (EZ hd (hb g (by rw[J];simp))) ?_;rintro cv w3 ⟨o3,g3⟩;exact .inr ⟨l,g,cv,w2.heap.size,J,rfl,m2.size,o3,F',B,⟨C,sv,o,q,ov,by rw[a1];exact an.grow g3⟩,g3.size,m2.next g3 λ_ _ h=>h.elim⟩
 have Z:Grow W W.drew:=Mod.drew _ _;have zd:W.drew.heap.size=W.heap.size:=rfl;refine AT (λk y=>(k=7/\F y)\/(k=12/\W.heap.size<=y)) ?_;refine AG ?_;rw[AH,AI];refine AG ?_;rw[AH,AI];refine⟨?_,?_⟩
 .refine AA (P7 (hR.grow Z) a6 a7 hF) ?_;rintro _ w5 (⟨hn,rfl,g5⟩|⟨l,g,r,F',o,q,J,rfl,O,hg,B,Q,m5⟩)
  .refine⟨g5.mono λ_ _ h=>h.elim,?_⟩;refine BI ?_;refine Bz λb4 w6 a8 av U _ V=>⟨U.mono λ_ _ h=>h.elim,?_⟩;have z5:=g5.size;refine BB (vs:=[.slice none 0 0,.slice none 0 0]) rfl (λu hu=>by simp at hu;subst hu;rfl) (λj X=>V j X) λw7 m I _=>⟨m.mono λx _ e=>.inr ⟨rfl,by omega⟩,.inl ⟨hn,b4,rfl,I,((Z.trans g5).trans U).next m λx i e=>by omega⟩⟩
  .refine⟨m5.mono λx _ e=>.inl ⟨rfl,e⟩,?_⟩;refine BI ?_;refine Bz λb4 w6 a8 av U _ V=>⟨U.mono λ_ _ h=>h.elim,?_⟩;have z5:=m5.size;have ak:=hg.mod U λ_ _ _ h=>h;have ax:=Q.grow U;refine BB (vs:=r) O ak.one (λj X=>V j X) λw7 m I _=>⟨m.mono λx _ e=>.inr ⟨rfl,by omega⟩,.inr ⟨l,g,b4,r,F',o,q,J,rfl,ak.mod m λx _ i e=>?_,I,λx i=>?_,ax.mod m λx i e=>i.elim (λi=>?_) λhs=>by have:=(Q.ss x hs).1;omega,?_⟩⟩
   .have:=(Q.cf x i).2;omega
   .have:=m.size;rcases B x i with e|e
    .exact⟨.inl e,by have:=hF x e;omega⟩
    .exact⟨.inr (by omega),by omega⟩
   .rcases B x i with e'|e'
    .have:=hF x e';omega
    .omega
   .exact(((Z.mono λ_ _ h=>h.elim:Mod F W W.drew).trans m5).next U λ_ _ h=>h.elim).next m λx i e=>by omega
 .refine Bz λb4 w8 a8 b0 g8 _ al=>⟨g8.mono λ_ _ h=>h.elim,?_⟩;have z8:=g8.size;have ay:∀x,F x->x<w8.heap.size:=λx i=>by have:=hF x i;omega
  refine AA (P7 ((hR.grow Z).grow g8) a6 a7 ay) ?_;rintro _ w9 (⟨hn,rfl,g9⟩|⟨l,g,r,F',o,q,J,rfl,O,hg,B,aZ,m9⟩)
  .refine⟨g9.mono λ_ _ h=>h.elim,?_⟩;refine BI ?_;refine BB (vs:=[.slice none 0 0,.slice none 0 0]) rfl (λu hu=>by simp at hu;subst hu;rfl) (λj X=>(al j X).mod g9 λh=>h) λw7 m I _=>⟨m.mono λx _ e=>.inr ⟨rfl,by omega⟩,.inl ⟨hn,b4,rfl,I,((Z.trans g8).trans g9).next m λx i e=>by omega⟩⟩
  .refine⟨m9.mono λx _ e=>.inl ⟨rfl,e⟩,?_⟩;refine BI ?_;have z9:=m9.size;have Y:¬F b4:=λe=>by have:=hF b4 e;omega
   refine BB (vs:=r) O hg.one (λj X=>(al j X).mod m9 (by rw[Ac];exact Y)) λw7 m I _=>⟨m.mono λx _ e=>.inr ⟨rfl,by omega⟩,.inr ⟨l,g,b4,r,F',o,q,J,rfl,hg.mod m λx _ i e=>?_,I,λx i=>?_,aZ.mod m λx i e=>i.elim (λi=>?_) λhs=>by have:=(hR.ss x hs).1;omega,?_⟩⟩
   .exact Y (e▸(hR.cf x i).1)
   .have:=m.size;rcases B x i with e|e
    .exact⟨.inl e,by have:=hF x e;omega⟩
    .exact⟨.inr (by omega),by omega⟩
   .rcases B x i with e'|e'
    .exact Y (e▸e')
    .omega
   .exact(((Z.trans g8).mono λ_ _ h=>h.elim:Mod F W w8).trans m9).next m λx i e=>by omega
end
structure HL (w0:World) (F:Nat->Prop) (W:World) (b:Nat) (ks:HKs) (h:Hist):Prop where
 VI:FM F W b ks h
 hF:∀x,F x->w0.heap.size<=x/\x<W.heap.size
 g:Grow w0 W
section
variable {w0 W W':World}{F:Nat->Prop}{b:Nat}{ks:HKs}{h h':Hist}
def HL.grow(i:HL w0 F W b ks h)(g:Grow W W'):HL w0 F W' b ks h:=⟨i.VI.grow g,λx j=>⟨(i.hF x j).1,No (i.hF x j).2 g.size⟩,i.g.trans g⟩
def HL.after(i:HL w0 F W b ks h)(ha:SJ F W W' b ks h'):∃F',HL w0 F' W' b ks h'/\(∀x,F' x->F x\/W.heap.size<=x)/\Mod F W W':=by
 obtain⟨F',h1,o,m⟩:=ha;have s:=m.size;have q:=i.g.size;refine⟨F',⟨o,λx j=>?_,i.g.next m λx j e=>by have:=(i.hF x e).1;omega⟩,λx j=>?_,m⟩
 .rcases h1 x j with e|e
  .have:=i.hF x e;exact⟨this.1,by omega⟩
  .exact⟨by omega,e.2⟩
 .rcases h1 x j with e|e
  .exact .inl e
  .exact .inr e.1
def HL.push{S D B D':Nat->Prop}{dv q:Value}{x y:List Dop}(i:HL w0 F W b ks h)(j:h.op=false)(hl:h.us.length<=h.max)(m:h.max<=65536)(I:Ak S D W dv x)(hu:Ak B D' W q y)(J:Aq x<=1099511627776)(o:Aq y<=1099511627776) :
  AB prog 106 [.pointer (some ⟨b,0,none⟩),dv,q] (λv' w'=>v'=zI 0/\∃F',HL w0 F' w' b ks { h with us:=KP h.max h.us ⟨x,y⟩,rs:=[] }/\(∀x,F' x->F x\/W.heap.size<=x)/\Mod F W w') W:=
 AA (bQ i.VI j hl m I hu J o λx O=>(i.hF x O).2) λ_ _ h'=>⟨h'.1,i.after h'.2⟩
def HL.jj(i:HL w0 F W b ks h)(m:h.op=false)(o:h.us.length<=65536)(q:h.rs.length<=65536)(hb:∀g∈h.us,Aq g.u<=1099511627776) :
  AB prog 56 [.pointer (some ⟨b,0,none⟩)] (λv' w'=>(h.us=[]/\∃ cv,v'=.tuple #[cv,zI 10]/\Grow W w')\/
   ∃ l g cv n F',h.us=l++[g]/\v'=.tuple #[cv,zI 0]/\W.heap.size<=n/\Em n w' cv g.u/\HL w0 F' w' b ks { h with us:=l,rs:=h.rs++[g] }/\(∀ x,F' x->(F x\/W.heap.size<=x)/\x < n)/\Mod F W w') W:=by
 refine AA (aV i.VI m o q (λx j=>(i.hF x j).2) hb) ?_;rintro v w' (h1|⟨l,g,cv,n,h1,J,O,Q,F',B,U,V,I⟩)
 .exact .inl h1
 .have X:=i.g.size;refine .inr ⟨l,g,cv,n,F',h1,J,O,Q,⟨U,λx j=>?_,i.g.next I λx j e=>by have:=(i.hF x e).1;omega⟩,B,I⟩;obtain⟨e,Y⟩:=B x j;rcases e with e|e
  .exact⟨(i.hF x e).1,by omega⟩
  .exact⟨by omega,by omega⟩
def HL.jP(i:HL w0 F W b ks h)(m:h.op=false)(o:h.us.length<=65536)(q:h.rs.length<=65536)(hb:∀g∈h.rs,Aq g.d<=1099511627776) :
  AB prog 58 [.pointer (some ⟨b,0,none⟩)] (λv' w'=>(h.rs=[]/\∃ cv,v'=.tuple #[cv,zI 10]/\Grow W w')\/
   ∃ l g cv n F',h.rs=l++[g]/\v'=.tuple #[cv,zI 0]/\W.heap.size<=n/\Em n w' cv g.d/\HL w0 F' w' b ks { h with us:=h.us++[g],rs:=l }/\(∀ x,F' x->(F x\/W.heap.size<=x)/\x < n)/\Mod F W w') W:=by
 refine AA (cR i.VI m o q (λx j=>(i.hF x j).2) hb) ?_;rintro v w' (h1|⟨l,g,cv,n,h1,J,O,Q,F',B,U,V,I⟩)
 .exact .inl h1
 .have X:=i.g.size;refine .inr ⟨l,g,cv,n,F',h1,J,O,Q,⟨U,λx j=>?_,i.g.next I λx j e=>by have:=(i.hF x e).1;omega⟩,B,I⟩;obtain⟨e,Y⟩:=B x j;rcases e with e|e
  .exact⟨(i.hF x e).1,by omega⟩
  .exact⟨by omega,by omega⟩
end
def gy:EM:=dB 32248921 [] [(dC [8,9] [0,1,3,7,0,16,48,112,240,511,1023,2047,2047,4095,16383] [])]
def S12(v0:Value)(K:Cont)(w:World):Prop:=by
 refine' (?f:∀B R,PX prog CS K (PG prog CS Tryz.f12 gy [v0] w) B R->Prop) _ _ ⟨?a,?b⟩
 case a=>intro _;intros;conv=>lhs;reduce
 case b=>dsimp only[PI,AF];rfl
 exact λ_ R _=>R
variable {v0 v1 v2 v3 v4 v5 v6 v7 v8 v9:Value}{K:Cont}{w:World}
def Yj(h:S12 v0 K w):AB prog 12 [v0] K w:=Xa gy DV mixed func12 (by kernel_rfl) h (by kernel_rfl)
def ig:EM:=dB 1126602825383540954201 [] [(dC [10,13,15,16,17] [0,0,2,6,14,0,0,0,0,256,896,0,0,8064,0,32766,65535,131071] [])]
def S20(v0 v1 v2:Value)(K:Cont)(w:World):Prop:=by
 refine' (?f:∀B R,PX prog CS K (di prog CS Tryz.f20 ig [v0,v1,v2] w) B R->Prop) _ _ ⟨?a,?b⟩
 case a=>intro _;intros;conv=>lhs;reduce
 case b=>dsimp only[PI,AF];rfl
 exact λ_ R _=>R
def Wz(h:S20 v0 v1 v2 K w):AB prog 20 [v0,v1,v2] K w:=ck ig DV mixed func20 (by kernel_rfl) h (by kernel_rfl)
def kC:EM:=dB 267353 [] []
def S8(v0 v1:Value)(K:Cont)(w:World):Prop:=by
 refine' (?f:∀B R,PX prog CS K (PG prog CS Tryz.f8 kC [v0,v1] w) B R->Prop) _ _ ⟨?a,?b⟩
 case a=>intro _;intros;conv=>lhs;reduce
 case b=>dsimp only[PI,AF];rfl
 exact λ_ R _=>R
def hZ(h:S8 v0 v1 K w):AB prog 8 [v0,v1] K w:=Xa kC DV mixed func8 (by kernel_rfl) h (by kernel_rfl)
def iG:EM:=dB 41371859753631349372805568009305 [] [(dC [6] [0,1,3,7,0,0,63,127,255,255,511,2047] [])]
def S32(v0 v1 v2 v3:Value)(K:Cont)(w:World):Prop:=by
 refine' (?f:∀B R,PX prog CS K (di prog CS Tryz.f32 iG [v0,v1,v2,v3] w) B R->Prop) _ _ ⟨?a,?b⟩
 case a=>intro _;intros;conv=>lhs;reduce
 case b=>dsimp only[PI,AF];rfl
 exact λ_ R _=>R
def dq(h:S32 v0 v1 v2 v3 K w):AB prog 32 [v0,v1,v2,v3] K w:=ck iG DV mixed func32 (by kernel_rfl) h (by kernel_rfl)
def gi:EM:=dB 41371876376581401371544626926681 [] [(dT [2,3,6,7,8,9] [0,0,2,7,0,0,32,127,255,511] [] (.op 0 (.op 1 (.op 4 (.op 5 (.br (.op 2 (.br (.op 3 (.op 6 (.op 7 (.op 8 (.op 9 .nil))))) (.op 6 (.op 3 (.op 7 (.op 8 (.op 9 .nil))))))) (.op 6 (.op 2 (.op 3 (.op 7 (.op 8 (.op 9 .nil)))))))))))),(dC [8] [0,1,3,7,0,0,0,0,255,511,1023,1023,2047,8191] [])]
def S33(v0 v1 v2 v3 v4:Value)(K:Cont)(w:World):Prop:=by
 refine' (?f:∀B R,PX prog CS K (di prog CS Tryz.f33 gi [v0,v1,v2,v3,v4] w) B R->Prop) _ _ ⟨?a,?b⟩
 case a=>intro _;intros;conv=>lhs;reduce
 case b=>dsimp only[PI,AF];rfl
 exact λ_ R _=>R
def eT(h:S33 v0 v1 v2 v3 v4 K w):AB prog 33 [v0,v1,v2,v3,v4] K w:=ck gi DV mixed func33 (by kernel_rfl) h (by kernel_rfl)
end
def HL.mod{b:Nat}{ks:HKs}{h:Hist}(j:HL w0 F W b ks h)(hm:Mod M W W')(m:∀x,M x->¬F x/\¬ks.S x/\w0.heap.size<=x):HL w0 F W' b ks h:=
 ⟨j.VI.mod hm λx i e=>i.elim (m x e).1 (m x e).2.1,λx i=>⟨(j.hF x i).1,No (j.hF x i).2 hm.size⟩,j.g.next hm λx i e=>by have:=(m x e).2.2;omega⟩
def HL.ss{b:Nat}{ks:HKs}{h:Hist}(i:HL w0 F W b ks h):∀x,ks.S x->¬F x:=by
 obtain⟨C,sv,uv,rv,ov,j⟩:=i.VI;exact λx m=>(j.ss x m).2
structure EgA where
 b:Nat
 t:TxA
 h:Nat
abbrev iz(sv:Value)(e:EgA)(most:Int)(cv:Value):List Value:=[sv,.pointer (some ⟨e.t.b,0,none⟩),.pointer (some ⟨e.h,0,none⟩),zI most,cv]
structure NS (w0:World) (Ft Fh Fc:Nat->Prop) (W:World) (e:EgA) (cv:Value) (σ:SKs) (most:Int) (d clip:List Cel) (H:Hist) (N:Nat):Prop where
 box:Bx W e.b (iz σ.sv e most cv)
 tx:Gx .f w0 Ft W e.t σ most d N
 hi:HL w0 Fh W e.h ⟨σ.ks,σ.S⟩ H
 cl:Bi Fc Fc W cv clip
 cw:∀x,Fc x->w0.heap.size<=x/\x<W.heap.size
 bw:w0.heap.size<=e.b/\¬σ.S e.b
 bn:¬Ft e.b/\¬Fh e.b/\¬Fc e.b
 th:∀x,Ft x->¬Fh x/\¬Fc x
 hc:∀x,Fh x->¬Fc x
def LX(w0:World)(F:Nat->Prop)(W:World)(e:EgA)(σ:SKs)(most:Int)(d clip:List Cel)(H:Hist)(N:Nat):Prop:=
 ∃Ft Fh Fc cv,NS w0 Ft Fh Fc W e cv σ most d clip H N/\∀x,(x=e.b\/Ft x\/Fh x\/Fc x)->F x
def ZV(w0:World)(F:Nat->Prop)(W W':World)(e:EgA)(σ:SKs)(most:Int)(d clip:List Cel)(H:Hist)(N:Nat):Prop:=
 ∃F',(∀x,F' x->F x\/W.heap.size<=x)/\LX w0 F' W' e σ most d clip H N/\Mod F W W'
section
variable {w0:World}{F Ft Fh Fc:Nat->Prop}{W W':World}{e:EgA}{cv:Value}{σ:SKs}{most:Int}{d clip:List Cel}{H:Hist}{N:Nat}
def NS.grow(h:NS w0 Ft Fh Fc W e cv σ most d clip H N)(g:Grow W W'):NS w0 Ft Fh Fc W' e cv σ most d clip H N:=
 ⟨h.box.grow g,h.tx.grow g,h.hi.grow g,h.cl.grow g,λx i=>⟨(h.cw x i).1,No (h.cw x i).2 g.size⟩,h.bw,h.bn,h.th,h.hc⟩
def LX.grow(h:LX w0 F W e σ most d clip H N)(g:Grow W W'):LX w0 F W' e σ most d clip H N:=by
 obtain⟨Ft,Fh,Fc,cv,h,hF⟩:=h;exact⟨Ft,Fh,Fc,cv,h.grow g,hF⟩
def LX.up{N':Nat}(h:LX w0 F W e σ most d clip H N)(i:N<=N'):LX w0 F W e σ most d clip H N':=by
 obtain⟨Ft,Fh,Fc,cv,h,hF⟩:=h;exact⟨Ft,Fh,Fc,cv,⟨h.box,h.tx.up i,h.hi,h.cl,h.cw,h.bw,h.bn,h.th,h.hc⟩,hF⟩
def NS.text{j:Nat->Prop}{o:List Cel}{N':Nat}(h:NS w0 Ft Fh Fc W e cv σ most d clip H N)(hm:Mod Ft W W')(hF:∀x,j x->Ft x\/W.heap.size<=x)(ht:Gx .f w0 j W' e.t σ most o N'):NS w0 j Fh Fc W' e cv σ most o clip H N':=by
 have hl:=h.tx.hl;refine ⟨h.box.mod hm h.bn.1,ht,h.hi.mod hm λx i=>⟨(h.th x i).1,(hl x i).2.2,(hl x i).1⟩,h.cl.mod hm (λx _ i e=>(h.th x e).2 i) (by decide) λr c hc=>hc.mod hm (λx _ i e=>(h.th x e).2 i) λ_ _ h=>h,
  λx i=>⟨(h.cw x i).1,No (h.cw x i).2 hm.size⟩,h.bw,⟨λe'=>?_,h.bn.2⟩,λx i=>?_,h.hc⟩
 .rcases hF _ e' with e'|e'
  .exact h.bn.1 e'
  .have:=h.box.lt (by simp);omega
 .rcases hF _ i with e'|e'
  .exact h.th x e'
  .exact⟨λm=>by have:=(h.hi.hF x m).2;omega,λm=>by have:=(h.cw x m).2;omega⟩
def NS.ZN{j:Nat->Prop}{o:Hist}(h:NS w0 Ft Fh Fc W e cv σ most d clip H N)(hm:Mod Fh W W')(hF:∀x,j x->Fh x\/W.heap.size<=x)(ht:HL w0 j W' e.h ⟨σ.ks,σ.S⟩ o):NS w0 Ft j Fc W' e cv σ most d clip o N:=by
 have hl:=h.tx.hl;refine ⟨h.box.mod hm h.bn.2.1,h.tx.mod hm λx i=>⟨λe'=>(h.th x e').1 i,λe'=>h.hi.ss x e' i,(h.hi.hF x i).1⟩,ht,h.cl.mod hm (λx _ i e=>h.hc x e i) (by decide) λr c hc=>hc.mod hm (λx _ i e=>h.hc x e i) λ_ _ h=>h,
  λx i=>⟨(h.cw x i).1,No (h.cw x i).2 hm.size⟩,h.bw,⟨h.bn.1,λe'=>?_,h.bn.2.2⟩,λx i=>⟨λm=>?_,(h.th x i).2⟩,λx i m=>?_⟩
 .rcases hF _ e' with e'|e'
  .exact h.bn.2.1 e'
  .have:=h.box.lt (by simp);omega
 .rcases hF _ m with e'|e'
  .exact(h.th x i).1 e'
  .have:=(hl x i).2.1;omega
 .rcases hF _ i with e'|e'
  .exact h.hc x e' m
  .have:=(h.cw x m).2;omega
def NS.i(h:NS w0 Ft Fh Fc W e cv σ most d clip H N):LX w0 (λx=>x=e.b\/Ft x\/Fh x\/Fc x) W e σ most d clip H N:=⟨Ft,Fh,Fc,cv,h,λ_ h=>h⟩
def NS.lt(h:NS w0 Ft Fh Fc W e cv σ most d clip H N):∀x,(x=e.b\/Ft x\/Fh x\/Fc x)->w0.heap.size<=x/\x<W.heap.size:=by
 rintro x (rfl|i|i|i)
 .exact⟨h.bw.1,h.box.lt (by simp)⟩
 .exact⟨(h.tx.hl x i).1,(h.tx.hl x i).2.1⟩
 .exact h.hi.hF x i
 .exact h.cw x i
def NS.mod(h:NS w0 Ft Fh Fc W e cv σ most d clip H N)(hm:Mod M W W')(j:∀x,M x->¬(x=e.b\/Ft x\/Fh x\/Fc x)/\¬σ.S x/\w0.heap.size<=x):NS w0 Ft Fh Fc W' e cv σ most d clip H N:=
 ⟨h.box.mod hm λe'=>(j _ e').1 (.inl rfl),h.tx.mod hm λx i=>⟨λm=>(j x i).1 (.inr (.inl m)),(j x i).2⟩,h.hi.mod hm λx i=>⟨λm=>(j x i).1 (.inr (.inr (.inl m))),(j x i).2⟩,
  h.cl.mod hm (λx _ i e'=>(j x e').1 (.inr (.inr (.inr i)))) (by decide) λr c hc=>hc.mod hm (λx _ i e'=>(j x e').1 (.inr (.inr (.inr i)))) λ_ _ h=>h,
  λx i=>⟨(h.cw x i).1,No (h.cw x i).2 hm.size⟩,h.bw,h.bn,h.th,h.hc⟩
def LX.mod(h:LX w0 F W e σ most d clip H N)(hm:Mod M W W')(i:∀x,M x->¬F x/\¬σ.S x/\w0.heap.size<=x):LX w0 F W' e σ most d clip H N:=by
 obtain⟨Ft,Fh,Fc,cv,h,hF⟩:=h;exact⟨Ft,Fh,Fc,cv,h.mod hm λx j=>⟨λm=>(i x j).1 (hF x m),(i x j).2⟩,hF⟩
def ZV.more(h:ZV w0 F W W' e σ most d clip H N)(hF:∀x,F x->F' x):ZV w0 F' W W' e σ most d clip H N:=by
 obtain⟨j,m,h1,o⟩:=h;exact⟨j,λx i=>(m x i).imp (hF x) id,h1,o.mono λx _ i=>hF x i⟩
def FA(h:Bx W e.b (iz σ.sv e most v)):AB prog 24 [.pointer (some ⟨e.b,0,none⟩)] (λv' w'=>v'=.bool false/\w'=W) W:=by
 refine uS1 (dB 9 [] []) func24 (λ_ _ _=>⟨by conv=>lhs;reduce,by dsimp only[PI,AF],by kernel_rfl⟩) ?_;unfold uI;refine CY (AL (AG ?_));rw[AH,AI];exact AJ (h.cells 1 _ rfl) (CY ⟨rfl,rfl⟩)
def Qi(h:LX w0 F W e σ most d clip H N):AB prog 10 [.pointer (some ⟨e.b,0,none⟩)] (λv' w'=>v'=zI (d.length:Int)/\Grow W w') W:=by
 obtain⟨Ft,Fh,Fc,cv,h,hF⟩:=h;refine uS1 (dB 267353 [] []) func10 (λ_ _ _=>⟨by conv=>lhs;reduce,by dsimp only[PI,AF],by kernel_rfl⟩) ?_;unfold uI;refine AA (FA h.box) ?_;rintro _ _ ⟨rfl,rfl⟩;refine AL (AG ?_);refine Az (h.box.cells 1 _ rfl) ?_;exact AA (HD h.tx) λ_ _ h=>h
def Ls(h:LX w0 F W e σ most d clip H N)(Q:∀c∈d,Et σ.ks c.set)(U:d.length<=10000000)(V:N<=1000000000) :
  AB prog 12 [.pointer (some ⟨e.b,0,none⟩)] (λv' w'=>Hm W.heap.size W.heap.size w' v' d/\Grow W w') W:=by
 obtain⟨Ft,Fh,Fc,cv,h,hF⟩:=h;apply Yj;unfold S12;refine AA (FA h.box) ?_;rintro _ _ ⟨rfl,rfl⟩;rename World=>W
 refine AL ?_;have q:Grow W W.drew:=Mod.drew _ _;have m:=h.grow q;refine AT (λ_ _=>False) ?_;refine AG ?_;rw[AH,AI];refine AP ⟨m.box.cells 1 _ rfl,λj X e=>e⟩ ?_;refine AG ?_;rw[AH,AI];refine AP ⟨m.box.cells 1 _ rfl,λj X e=>e⟩ ?_;refine AA (HD m.tx) ?_;rintro _ Z ⟨rfl,o⟩;refine⟨o.mono λ_ _ h=>h.elim,?_⟩;have h1:=m.grow o;have:=Mm (i:=0) (j:=d.length) h1.tx (Nn _) (K8 _) Q U V;refine AA this ?_;rintro _ W2 ⟨ov,rfl,hc,B⟩;refine⟨B.mono λ_ _ h=>h.elim,?_⟩;refine Ae (vs:=[_,_]) rfl (Ae (vs:=[_,_]) rfl ?_);rw[S7,mz] at hc;have z:=(q.trans o).size;obtain⟨D,I,J⟩:=hc;exact⟨⟨D,AE.base I λg Y=>by have:=(AE.Aj I g Y).1;omega,λx O=>⟨by have:=(J x O).1;omega,(J x O).2⟩⟩,(q.trans o).trans B⟩
end
def RJ(x:List Dop):Aq (BV x)<=2*Aq x+1:=by
 have h1:=Ly x;have j:=SM (BG x).ins (BG x).gone;have i:=OM (l:=(BG x).done++A6 (BG x).ins (BG x).gone);rw[DX] at i;unfold BV QI;omega
noncomputable def Hist.put(H:Hist)(x y:List Dop):Hist:={ H with us:=KP H.max H.us ⟨x,y⟩,rs:=[] }
section
variable {w0:World}{F Ft Fh Fc:Nat->Prop}{W W':World}{e:EgA}{cv:Value}{σ:SKs}{most:Int}{d clip:List Cel}{H:Hist}{N:Nat}
def U9{x:List Dop}(h:LX w0 F W e σ most d clip H N)(hT:EA w0)(U:DocM σ.ks most d)(hC:∀c∈d,Ou σ.ks c)(a7:σ.ks.length<=64)(hK:∀k∈σ.ks,D8 k)
 (hx:Ak S S W v x)(I:∀y,S y->¬F y)(hI:∀o∈x,NT o)(hl:x.length<=1000)(hm:most<=2000)(a8:Aq x<=1099511627776)(hN:N+EO 4000 x<=1000000000)(ak:H.op=false)(hH:H.us.length<=H.max)(al:H.max<=65536) :
  AB prog 53 [.pointer (some ⟨e.b,0,none⟩),v] (λv' w'=>v'=zI (Cj σ.ks x d.length most)/\ZV w0 F W w' e σ most (Ds σ.ks most d x) clip (if Cj σ.ks x d.length most=0 then H.put x (BV (DG σ.ks d x)) else H) (N+EO 4000 x)/\DocM σ.ks most (Ds σ.ks most d x)) W:=by
 obtain⟨Ft,Fh,Fc,cv,h,hF⟩:=h;refine uS2 (dB 9406155549852376793 [] [(dC [9,14] [0,1,3,7,0,0,32,96,224,480,0,1024,3072,7168,16383,32767] []),(dC [5,7] [0,1,3,7,0,16,0,127,255,511,511,1023,4095] [])]) func53 (λ_ _ _ _=>⟨by conv=>lhs;reduce,by dsimp only[PI,AF],by kernel_rfl⟩) ?_;unfold uI;have b2:=U.le;have V:Ak (λy=>S y/\y<W.heap.size) (λy=>S y/\y<W.heap.size) W v x:=An.sub hx (λy m hs=>⟨hs,m⟩) (by decide) λr o ho=>ho.mod (Mod.refl (λ_=>False) _) (λ_ _ _ h=>h) λy m J=>⟨J,m⟩;have gd:Grow W W.drew:=Mod.drew _ _;have J:=h.grow gd;refine AT (λ_ _=>False) ?_;refine AG ?_;rw[AH,AI];refine AP ⟨J.box.cells 0 _ rfl,λj hj e=>e⟩ ?_;refine AG ?_;rw[AH,AI];refine AP ⟨J.box.cells 1 _ rfl,λj hj e=>e⟩ ?_;refine AA (HD J.tx) ?_;rintro _ W1 ⟨rfl,g1⟩;refine⟨g1.mono λ_ _ h=>h.elim,?_⟩;refine AG ?_;rw[AH,AI];refine AP ⟨J.box.cells 3 _ rfl,λj hj e=>e⟩ ?_;have h1:=J.grow g1;have X:=gd.trans g1;have an:=Ak.grow V X;refine AA (Pc h1.tx.HN.1 an (hT.grow h1.tx.g) (λo ho=>(hI o ho).o) (by omega) (by omega)) ?_;rintro _ W2 ⟨rfl,g2⟩;refine⟨g2.mono λ_ _ h=>h.elim,?_⟩;have B:=X.trans g2;rw[BL];refine AW (λe0=>?_) λe0=>?_;rotate_left
 .have es:Ds σ.ks most d x=d:=by unfold Ds;rw[Bp e0]
  refine⟨rfl,?_,by rw[es];exact U⟩;rw[es,Bp e0];exact⟨F,λ_ h=>.inl h,⟨Ft,Fh,Fc,cv,⟨(h.grow B).box,(h.grow B).tx.up (by omega),(h.grow B).hi,(h.grow B).cl,(h.grow B).cw,h.bw,h.bn,h.th,h.hc⟩,hF⟩,B.mono λ_ _ h=>h.elim⟩
 rw[DN e0,e0];have Y:Grow W2 W2.drew:=Mod.drew _ _;have h2:=h.grow (B.trans Y);refine AT (λ_ _=>False) ?_;refine AG ?_;rw[AH,AI];refine AP ⟨h2.box.cells 0 _ rfl,λj hj e=>e⟩ ?_;refine AA (Ls h2.i U.g.set (by omega) (by omega)) ?_;rintro dv W3 ⟨av,g3⟩;refine⟨g3.mono λ_ _ h=>h.elim,?_⟩;obtain⟨i1,i2,i3,i4,i5⟩:=P1 hK hI hl U.g hC hm e0;have q:=(Dw (by omega)).1 e0;have ax:CJ x<=4000:=by
  have:=q.most;have:=q.Lh;omega
 have Z:Vo σ.ks x d.length 536870912:=⟨q.may,q.DV,⟨q.pos.1,by have:=q.pos.2;omega⟩,q.Lh,q.fin,q.pl,by have:=q.most;omega⟩;have h3:=h2.grow g3;have a1:=(B.trans Y).trans g3;have O:=Ak.grow V a1;refine AA (UO h3.tx.HN.1 (av.rd (K8 _)) O (hT.grow h3.tx.g) U.g hC hI (by omega) (by omega) ax Z i5) ?_;rintro _ W4 ⟨g4,bv,rfl,ay⟩;refine⟨g4.mono λ_ _ h=>h.elim,?_⟩;refine Ae (vs:=[_,_]) rfl (Ae (vs:=[_,_]) rfl ?_);refine Ko ?_;have h4:=h3.grow g4;have a6:=a1.trans g4;refine AG ?_;refine Az (h4.box.cells 2 _ rfl) ?_;have b6:=RJ (DG σ.ks d x);refine AA (HL.push h4.hi ak hH al (Ak.grow O g4) ay a8 (by omega)) ?_;rintro _ W5 ⟨rfl,b7,h5,f5,m5⟩;refine Ko ?_;have Q:=h4.ZN m5 f5 h5;refine AG ?_;refine Az (Q.box.cells 1 _ rfl) ?_;have z4:=a6.size;have z5:=m5.size;have aZ:Ak (λy=>S y/\y<W.heap.size) (λy=>S y/\y<W.heap.size) W5 v x:=(Ak.grow O g4).mod m5 (λy _ m e=>I y m.1 (hF y (.inr (.inr (.inl e))))) λy _ m e=>I y m.1 (hF y (.inr (.inr (.inl e))));refine AA (OC Q.tx hT U a7 hK aZ (λy m e=>I y m.1 (hF y (.inr (.inl e)))) hI (by omega) hm hN) ?_;rintro _ W6 ⟨rfl,⟨b8,f6,h6,m6⟩,b0⟩;have b1:=Q.text m6 f6 h6;refine⟨by rw[e0],⟨_,λy m=>?_,b1.i,?_⟩,b0⟩
 .rcases m with rfl|m|m|m
  .exact .inl (hF _ (.inl rfl))
  .rcases f6 y m with m|m
   .exact .inl (hF _ (.inr (.inl m)))
   .exact .inr (by omega)
  .rcases f5 y m with m|m
   .exact .inl (hF _ (.inr (.inr (.inl m))))
   .exact .inr (by omega)
  .exact .inl (hF _ (.inr (.inr (.inr m))))
 .exact((a6.mono λ_ _ h=>h.elim:Mod F W W4).trans (m5.mono λy _ m=>hF _ (.inr (.inr (.inl m))))).trans (m6.mono λy _ m=>hF _ (.inr (.inl m)))
end
section
variable {F C:Nat->Prop}{W:World}{b:Nat}{sv uv rv ov:Value}{ks:HKs}{mx:Nat}{us rs own:List Grp}
def Nx{q:Nat}{a:Option Addr}{n c:Nat}(h:CE F C W b sv ks uv rv ov mx us rs true own)(I:W.cell? ⟨b,q,none⟩=some (.slice a n c)) :
  AB prog 114 [.pointer (some ⟨b,0,none⟩),.pointer (some ⟨b,q,none⟩),v] (λv' w'=>v'=.tuple #[.agg #[.slice none 0 0,.slice none 0 0],zI 9]/\Grow W w') W:=by
 refine uS3 (dB 67697444434633 [] [(dC [5,6,8] [0,0,2,6,0,16,62,127,255] [[5,6]])]) func114 (λ_ _ _ _ _=>⟨by conv=>lhs;reduce,by dsimp only[PI,AF],by kernel_rfl⟩) ?_;unfold uI;refine Bz λV X J O i _ o=>?_;have B:=h.grow i;refine AG ?_;refine AJ (i.cell I λh=>h) ?_;rw[AO,Am];refine AG ?_;refine Az (B.cells 5 _ rfl) ?_;refine AQ ⟨#[.slice none 0 0,.slice none 0 0],by kernel_rfl,?_⟩;refine BB (vs:=[.slice none 0 0,.slice none 0 0]) rfl (λu hu=>by simp at hu;subst hu;rfl) (λj Q=>o j Q) λU m hc _=>?_;exact AV rfl hc ⟨rfl,i.next m λx Y e=>by omega⟩
def UU(h:Gu GG 2 (Cy C) W uv us):∃a n c,uv=.slice a n c:=by
 obtain⟨a,c,e,_⟩:=h.sl (by decide);exact⟨a,_,c,e⟩
end
section
variable {F:Nat->Prop}{W:World}{b:Nat}{ks:HKs}{h:Hist}
def Uu(Z:FM F W b ks h)(J:h.op=true) :
  AB prog 56 [.pointer (some ⟨b,0,none⟩)] (λv' w'=>∃cv,v'=.tuple #[cv,zI 9]/\Grow W w') W:=by
 refine uS1 (dB 32773209 [([4,5],[(4,5),(9,19)])] [(dT [7,11,12] [0,0,2,6,0,16,48,127,255,511,511,0,3071,8191] [[7]] (.op 0 (.op 1 (.op 2 (.op 3 (.op 4 (.op 5 (.op 6 (.br (.op 7 (.op 8 (.op 9 (.op 10 (.op 11 (.op 12 (.op 13 .nil))))))) (.op 11 (.op 7 (.op 8 (.op 9 (.op 10 (.op 12 (.op 13 .nil))))))))))))))))]) func56 (λ_ _ _=>⟨by conv=>lhs;reduce,by dsimp only[PI,AF],by kernel_rfl⟩) ?_;unfold uI;refine AA (HH Z) ?_;rintro _ _ ⟨rfl,rfl⟩;rename World=>W
 obtain⟨C,sv,uv,rv,ov,m⟩:=Z;rw[J] at m;obtain⟨ua,un,uc,rfl⟩:=UU m.Rg;rw[Ah];refine AL ?_;refine AR (λvs w2=>∃b4,vs=[.pointer (some ⟨b4,0,none⟩),zI 9]/\(∀j v,([.slice none 0 0,.slice none 0 0]:List Value)[j]?=some v->w2.cell? ((⟨b4,0,none⟩:Addr).add j)=some v)/\Grow W w2) ?_ ?_
 .rintro _ w2 ⟨b4,rfl,hc,g2⟩ _;simp only[FC];rw[AH];refine AJ (hc 1 _ rfl) ?_;refine AA (EZ (S:=λ_=>False) (D:=λ_=>False) (x:=[]) An.nil (by simp[Aq])) ?_;rintro cv w3 ⟨_,g3⟩;exact⟨cv,rfl,g2.trans g3⟩
 have o:Grow W W.drew:=Mod.drew _ _;have zd:W.drew.heap.size=W.heap.size:=rfl;refine AT (λk y=>k=12/\W.heap.size<=y) ?_;refine AG ?_;rw[AH,AI];refine AG ?_;rw[AH,AI];refine⟨?_,?_⟩
 .refine AA (Nx (q:=3) (m.grow o) (o.cell (m.cells 3 _ rfl) λh=>h)) ?_;rintro _ w5 ⟨rfl,O⟩;refine⟨O.mono λ_ _ h=>h.elim,?_⟩;refine BI ?_;refine Bz λb4 w6 Q a1 g6 _ U=>⟨g6.mono λ_ _ h=>h.elim,?_⟩;have z5:=O.size;refine BB (vs:=[.slice none 0 0,.slice none 0 0]) rfl (λu hu=>by simp at hu;subst hu;rfl) (λj V=>U j V) λw7 B i _=>⟨B.mono λx _ e=>⟨rfl,by omega⟩,b4,rfl,i,((o.trans O).trans g6).next B λx hx e=>by omega⟩
 .refine Bz λb4 w8 Q a6 I _ X=>⟨I.mono λ_ _ h=>h.elim,?_⟩;have z8:=I.size;refine AA (Nx (q:=3) ((m.grow o).grow I) (I.cell (o.cell (m.cells 3 _ rfl) λh=>h) λh=>h)) ?_;rintro _ w9 ⟨rfl,Y⟩;refine⟨Y.mono λ_ _ h=>h.elim,?_⟩;refine BI ?_;refine BB (vs:=[.slice none 0 0,.slice none 0 0]) rfl (λu hu=>by simp at hu;subst hu;rfl) (λj V=>(X j V).mod Y λh=>h) λw7 B i _=>⟨B.mono λx _ e=>⟨rfl,by omega⟩,b4,rfl,i,((o.trans I).trans Y).next B λx hx e=>by omega⟩
end
section
variable {w0:World}{F Ft Fh Fc:Nat->Prop}{W W':World}{e:EgA}{cv:Value}{σ:SKs}{most:Int}{d clip:List Cel}{H:Hist}{N:Nat}
structure iX (x:List Dop):Prop where
 kF:∀o∈x,NT o
 len:x.length<=3000
 m:Aq x<=1099511627776
def LX.back(h:NS w0 Ft Fh Fc W e cv σ most d clip H N)(hF:∀x,(x=e.b\/Ft x\/Fh x\/Fc x)->F x){n:Nat}{q:Nat->Prop}{B:World}{V:Hist}{x:List Dop}
 (hn:W.heap.size<=n)(hx:Em n B v x)(X:∀y,q y->(Fh y\/W.heap.size<=y)/\y<n)(h1:HL w0 q B e.h ⟨σ.ks,σ.S⟩ V)(I:Mod Fh W B)(hT:EA w0)(hM:DocM σ.ks most d)(J:σ.ks.length<=64)(hK:∀k∈σ.ks,D8 k)(Y:iX x)(hm:most<=2000)(hN:N+EO 4000 x<=1000000000)
  :
  AB prog 57 [.pointer (some ⟨e.t.b,0,none⟩),v] (λv' w'=>v'=zI (Cj σ.ks x d.length most)/\ZV w0 F W w' e σ most (Ds σ.ks most d x) clip V (N+EO 4000 x)/\DocM σ.ks most (Ds σ.ks most d x)) B:=by
 have m:=h.ZN I (λy j=>(X y j).1) h1;have hl:=m.tx.hl;have O:∀y,n<=y->¬Ft y:=λy j e'=>by have:=(h.tx.hl y e').2.1;omega
 refine AA (OC (S:=λy=>n<=y) m.tx hT hM J hK ((Em.reads hx).sub (λy _ j=>j.1) (by decide) λr o ho=>ho.mod (Mod.refl (λ_=>False) _) (λ_ _ _ h=>h) λy _ j=>j.1) O Y.kF (by have:=Y.len;omega) hm hN) ?_;rintro _ W2 ⟨rfl,⟨a1,Z,h2,m2⟩,Q⟩;have z1:=I.size;have U:=m.text m2 Z h2;refine⟨rfl,⟨_,λy j=>?_,U.i,?_⟩,Q⟩
 .rcases j with rfl|j|j|j
  .exact .inl (hF _ (.inl rfl))
  .rcases Z y j with j|j
   .exact .inl (hF _ (.inr (.inl j)))
   .exact .inr (by omega)
  .rcases(X y j).1 with j|j
   .exact .inl (hF _ (.inr (.inr (.inl j))))
   .exact .inr j
  .exact .inl (hF _ (.inr (.inr (.inr j))))
 .exact(I.mono λy _ j=>hF _ (.inr (.inr (.inl j)))).trans (m2.mono λy _ j=>hF _ (.inr (.inl j)))
def U0(h:LX w0 F W e σ most d clip H N)(O:EA w0)(Q:DocM σ.ks most d)(i:σ.ks.length<=64)(U:∀k∈σ.ks,D8 k)(j:H.op=false)(o:H.us.length<=65536)(q:H.rs.length<=65536)
 (hb:∀g∈H.us,iX g.u/\N+EO 4000 g.u<=1000000000)(hm:most<=2000) :
  AB prog 21 [.pointer (some ⟨e.b,0,none⟩)] (λv' w'=>(H.us=[]/\v'=zI 10/\Grow W w')\/
   ∃ l g,H.us=l++[g]/\v'=zI (Cj σ.ks g.u d.length most)/\ZV w0 F W w' e σ most (Ds σ.ks most d g.u) clip { H with us:=l,rs:=H.rs++[g] } (N+EO 4000 g.u)/\DocM σ.ks most (Ds σ.ks most d g.u)) W:=by
 obtain⟨Ft,Fh,Fc,cv,h,hF⟩:=h;refine uS1 (dB 70084990041 [] []) func21 (λ_ _ _=>⟨by conv=>lhs;reduce,by dsimp only[PI,AF],by kernel_rfl⟩) ?_;unfold uI;refine AA (FA h.box) ?_;rintro _ _ ⟨rfl,rfl⟩;rename World=>W
 refine AL (AG ?_);refine Az (h.box.cells 2 _ rfl) ?_;refine AA (HL.jj h.hi j o q λg V=>(hb g V).1.m) ?_;rintro _ W1 (⟨hu,cv,rfl,X⟩|⟨l,g,cv,n,Y,hu,rfl,Z,ho,h1,I,J⟩)
 .refine Ae (vs:=[_,_]) rfl (Ae (vs:=[_,_]) rfl ?_);rw[BL];exact AW (λe=>absurd e (by decide)) λ_=>.inl ⟨hu,rfl,X⟩
 .refine Ae (vs:=[_,_]) rfl (Ae (vs:=[_,_]) rfl ?_);refine Ko ?_;obtain⟨q1,q2⟩:=hb g (by rw[hu];simp);refine AG ?_;refine Az ((h.ZN J (λy hy=>(I y hy).1) h1).box.cells 1 _ rfl) ?_;refine AA (LX.back h hF Z ho I h1 J O Q i U q1 hm q2) ?_;rintro _ W2 ⟨rfl,h2,B⟩;exact .inr ⟨l,g,hu,rfl,h2,B⟩
def N6(h:LX w0 F W e σ most d clip H N)(O:EA w0)(Q:DocM σ.ks most d)(i:σ.ks.length<=64)(U:∀k∈σ.ks,D8 k)(j:H.op=false)(o:H.us.length<=65536)(q:H.rs.length<=65536)
 (hb:∀g∈H.rs,iX g.d/\N+EO 4000 g.d<=1000000000)(hm:most<=2000) :
  AB prog 22 [.pointer (some ⟨e.b,0,none⟩)] (λv' w'=>(H.rs=[]/\v'=zI 10/\Grow W w')\/
   ∃ l g,H.rs=l++[g]/\v'=zI (Cj σ.ks g.d d.length most)/\ZV w0 F W w' e σ most (Ds σ.ks most d g.d) clip { H with us:=H.us++[g],rs:=l } (N+EO 4000 g.d)/\DocM σ.ks most (Ds σ.ks most d g.d)) W:=by
 obtain⟨Ft,Fh,Fc,cv,h,hF⟩:=h;refine uS1 (dB 70084990041 [] []) func22 (λ_ _ _=>⟨by conv=>lhs;reduce,by dsimp only[PI,AF],by kernel_rfl⟩) ?_;unfold uI;refine AA (FA h.box) ?_;rintro _ _ ⟨rfl,rfl⟩;rename World=>W
 refine AL (AG ?_);refine Az (h.box.cells 2 _ rfl) ?_;refine AA (HL.jP h.hi j o q λg V=>(hb g V).1.m) ?_;rintro _ W1 (⟨hu,cv,rfl,X⟩|⟨l,g,cv,n,Y,hu,rfl,Z,ho,h1,I,J⟩)
 .refine Ae (vs:=[_,_]) rfl (Ae (vs:=[_,_]) rfl ?_);rw[BL];exact AW (λe=>absurd e (by decide)) λ_=>.inl ⟨hu,rfl,X⟩
 .refine Ae (vs:=[_,_]) rfl (Ae (vs:=[_,_]) rfl ?_);refine Ko ?_;obtain⟨q1,q2⟩:=hb g (by rw[hu];simp);refine AG ?_;refine Az ((h.ZN J (λy hy=>(I y hy).1) h1).box.cells 1 _ rfl) ?_;refine AA (LX.back h hF Z ho I h1 J O Q i U q1 hm q2) ?_;rintro _ W2 ⟨rfl,h2,B⟩;exact .inr ⟨l,g,hu,rfl,h2,B⟩
def Pp(h:LX w0 F W e σ most d clip H N)(i:H.op=true) :
  AB prog 21 [.pointer (some ⟨e.b,0,none⟩)] (λv' w'=>v'=zI 9/\Grow W w') W:=by
 obtain⟨Ft,Fh,Fc,cv,h,hF⟩:=h;refine uS1 (dB 70084990041 [] []) func21 (λ_ _ _=>⟨by conv=>lhs;reduce,by dsimp only[PI,AF],by kernel_rfl⟩) ?_;unfold uI;refine AA (FA h.box) ?_;rintro _ _ ⟨rfl,rfl⟩;refine AL (AG ?_);refine Az (h.box.cells 2 _ rfl) ?_;refine AA (Uu h.hi.VI i) ?_;rintro _ m ⟨cv,rfl,j⟩;refine Ae (vs:=[_,_]) rfl (Ae (vs:=[_,_]) rfl ?_);rw[BL];exact AW (λe=>absurd e (by decide)) λ_=>⟨rfl,j⟩
def Sa(h:LX w0 F W e σ most d clip H N)(m:H.op=false) :
  AB prog 23 [.pointer (some ⟨e.b,0,none⟩)] (λv' w'=>v'=zI 0/\ZV w0 F W w' e σ most d clip { H with op:=true,own:=[] } N) W:=by
 obtain⟨Ft,Fh,Fc,cv,h,hF⟩:=h;refine uS1 (dB 267353 [] []) func23 (λ_ _ _=>⟨by conv=>lhs;reduce,by dsimp only[PI,AF],by kernel_rfl⟩) ?_;unfold uI;refine AA (FA h.box) ?_;rintro _ _ ⟨rfl,rfl⟩;rename World=>W
 refine AL (AG ?_);refine Az (h.box.cells 2 _ rfl) ?_;refine AA (YZ h.hi.VI) ?_;rintro _ O (⟨q,_⟩|⟨_,rfl,ha⟩)
 .rw[m] at q;cases q
 obtain⟨J,h1,B,I⟩:=h.hi.after ha;have o:=h.ZN I B h1;refine⟨rfl,_,λy j=>?_,o.i,I.mono λy _ j=>hF _ (.inr (.inr (.inl j)))⟩;rcases j with rfl|j|j|j
 .exact .inl (hF _ (.inl rfl))
 .exact .inl (hF _ (.inr (.inl j)))
 .rcases B y j with j|j
  .exact .inl (hF _ (.inr (.inr (.inl j))))
  .exact .inr j
 .exact .inl (hF _ (.inr (.inr (.inr j))))
end
def Gt(ks:List DKey)(f:DKey->Bool)(s:List Attr):List Attr:=s.filter λa=>match BK ks a.key with|some k=>f k|none=>false
def WG(ks:List DKey)(f:DKey->Bool)(s:List Attr):(Gt ks f s).length<=s.length:=nU _ _
def PR{S E:Nat->Prop}{s:List Attr}{f:DKey->Bool}(hS:CK E w sv ks)(h:Ba S w v s)(hl:s.length<=1000000)
 (hf:∀W (k:DKey) (K:Cont),Grow w W->(∀W',Grow W W'->K (.bool (f k)) W')->Cs prog CS fr [.agg k.cells.toArray] K W) :
  AB prog 192 [sv,v,fr] (λv' w'=>AE w.heap.size 83 5 CR w' v' (Gt ks f s)/\Grow w w') w:=by
 refine uS3 (dB 2252428626674377 [([7,14],[(7,7),(9,11),(14,35)]),([7],[(7,7),(9,11),(16,34)])] []) func192 (λ_ _ _ _ _=>⟨by conv=>lhs;reduce,by dsimp only[PI,AF],by kernel_rfl⟩) ?_;unfold uI;obtain⟨a,c,rfl,_⟩:=h.shape;rw[AO];refine AU (λvs W=>∃(i:Nat) (ov:Value),i<=s.length/\vs=[ov,zI i]/\AE w.heap.size 83 5 CR W ov (Gt ks f (s.take i))/\Grow w W) (λvs _=>s.length-Dh vs 1) ⟨0,_,Nn _,rfl,AE.nil,Mod.refl _ _⟩ ?_;rintro vs W ⟨i,ov,hi,rfl,Y,g⟩ _;simp only[FC];refine G9 (λak=>?_) λal=>?_;rotate_left
 .obtain rfl:i=s.length:=by omega
  rw[S7] at Y;exact⟨Y,g⟩
 have m:i<s.length:=by omega
 have Z:=WG ks f (s.take i);rw[Lc] at Z;refine AR (λvs W'=>∃o,vs=[o]/\AE w.heap.size 83 5 CR W' o (Gt ks f (s.take (i+1)))/\Grow w W') ?_ ?_
 .rintro vs W' ⟨o,rfl,a1,g'⟩ _;simp only[BQ,Nr];rw[AM,AK (by omega)];exact⟨⟨i+1,o,m,rfl,a1,g'⟩,by rw[Ar,Ar];omega⟩
 obtain⟨p,r,rfl,_,hr,hc,rfl⟩:=(h.grow g (by decide) λ_ _ h=>h).get m;refine AS m (AV hr (λj u hu=>by rw[Addr.add_add];exact hc j u hu) ?_);refine Bx.new (vs:=s[i].cells) rfl rfl (CR.one (w:=W) (x:=s[i]) rfl) λb9 W1 an g1 B9=>?_;refine Az (B9.cells 0 _ rfl) ?_;have O:=g.trans g1;refine AA (IP (hS.grow O) _) ?_;rintro _ W2 ⟨rfl,g2⟩;refine Ae (vs:=[_,_]) rfl (Ae (vs:=[_,_]) rfl ?_);refine Bx.new (vs:=((BK ks s[i].key).getD DKey.zero).cells) rfl rfl (Gv.one (w:=W) (x:=(BK ks s[i].key).getD DKey.zero) rfl) λav W3 a8 g3 Q=>?_;have B:=g2.trans g3;have q:=O.trans B;have I:AE w.heap.size 83 5 CR W3 ov (Gt ks f (s.take i)):=AE.mod Y (g1.trans B) (λ_ _ h=>h) λ_ _ _ h=>h;have J:Gt ks f (s.take (i+1))=Gt ks f (s.take i)++Gt ks f [s[i]]:=by
  unfold Gt;rw[S5,Bq m,oQ];rfl
 cases hk:BK ks s[i].key with
 |none=>
  have U:Gt ks f [s[i]]=[]:=by simp[Gt,hk]
  rw[U,lA] at J;exact AL ⟨ov,rfl,by rw[J];exact I,q⟩
 |some k=>
  rw[hk] at Q;refine AQ ?_;refine Q.Eg rfl ?_;refine hf W3 k _ q λW4 V=>?_;cases X:f k with
  |false=>
   have U:Gt ks f [s[i]]=[]:=by simp[Gt,hk,X]
   rw[U,lA] at J;exact AL ⟨ov,rfl,by rw[J];exact AE.mod I V (λ_ _ h=>h) λ_ _ _ h=>h,q.trans V⟩
  |true=>
   have U:Gt ks f [s[i]]=[s[i]]:=by simp[Gt,hk,X]
   rw[U] at J;refine AQ ?_;have a6:=B9.grow (B.trans V);refine a6.Eg rfl ?_;have a7:AE w.heap.size 83 5 CR W4 ov (Gt ks f (s.take i)):=AE.mod I V (λ_ _ h=>h) λ_ _ _ h=>h;refine Kh (w0:=w) HE a7 (q.trans V) (cs:=s[i].cells) (x:=s[i]) (by kernel_rfl) rfl rfl (λ_ _ _=>CR.one) (λ_ _ _ _ _ _ h=>h) (by omega) (by simp only[maxLen];omega) λv' w' o' g'=>?_;exact⟨v',rfl,by rw[J];exact o',g'⟩
def VQ{k:DKey}:AB prog 196 [.agg k.cells.toArray] (λv w'=>v=.bool (k.block&&k.after)/\Grow w w') w:=by
 refine uS1 (dB 9 [] []) func196 (λ_ _ _=>⟨by conv=>lhs;reduce,by dsimp only[PI,AF],by kernel_rfl⟩) ?_;unfold uI;refine Bx.box λb m hb i B=>?_;refine Az (B.cells 1 _ rfl) ?_;cases j:k.block with
 |false=>exact AL ⟨rfl,i⟩
 |true=>
  refine AQ ?_;rw[AH,AI];exact AJ (B.cells 3 _ rfl) ⟨by simp,i⟩
def Ul{k:DKey}:AB prog 193 [.agg k.cells.toArray] (λv w'=>v=.bool (!k.block&&k.after)/\Grow w w') w:=by
 refine uS1 (dB 9 [] []) func193 (λ_ _ _=>⟨by conv=>lhs;reduce,by dsimp only[PI,AF],by kernel_rfl⟩) ?_;unfold uI;refine Bx.box λb m hb i B=>?_;refine Az (B.cells 1 _ rfl) ?_;rw[Ah];cases j:k.block with
 |true=>exact AL ⟨rfl,i⟩
 |false=>
  refine AQ ?_;rw[AH,AI];exact AJ (B.cells 3 _ rfl) ⟨by simp,i⟩
def V6{k:DKey}:AB prog 194 [.agg k.cells.toArray] (λv w'=>v=.bool (!k.block&&k.before)/\Grow w w') w:=by
 refine uS1 (dB 9 [] []) func194 (λ_ _ _=>⟨by conv=>lhs;reduce,by dsimp only[PI,AF],by kernel_rfl⟩) ?_;unfold uI;refine Bx.box λb m hb i B=>?_;refine Az (B.cells 1 _ rfl) ?_;rw[Ah];cases j:k.block with
 |true=>exact AL ⟨rfl,i⟩
 |false=>
  refine AQ ?_;rw[AH,AI];exact AJ (B.cells 4 _ rfl) ⟨by simp,i⟩
def Yk(ks:List DKey)(s:List Attr):List Attr:=Gt ks (λk=>k.block&&k.after) s
def ZH{S E:Nat->Prop}{s:List Attr}(i:CK E w sv ks)(h:Ba S w v s)(hl:s.length<=1000000) :
  AB prog 110 [sv,v] (λv' w'=>AE w.heap.size 83 5 CR w' v' (Yk ks s)/\Grow w w') w:=by
 refine uS2 (dB 9 [] []) func110 (λ_ _ _ _=>⟨by conv=>lhs;reduce,by dsimp only[PI,AF],by kernel_rfl⟩) ?_;unfold uI;refine AA (PR (f:=λk=>k.block&&k.after) i h hl λW k K g j=>?_) λ_ _ h=>h;refine Ek (by kernel_rfl) (AA VQ ?_);rintro _ W' ⟨rfl,g'⟩;exact j W' g'
def YM(ks:List DKey)(s:List Attr):List Attr:=Gt ks (λk=>!k.block&&k.after) s
def ad(ks:List DKey)(s:List Attr):List Attr:=Gt ks (λk=>!k.block&&k.before) s
def Vi{S q E:Nat->Prop}{l r:List Attr}(m:CK E w sv ks)(h:Ba S w v l)(h':Ba q w fr r)(hl:l.length<=1000000)(hr:r.length<=1000000)(B:ad ks r=[]) :
  AB prog 109 [sv,v,fr] (λv' w'=>AE w.heap.size 83 5 CR w' v' (YM ks l)/\Grow w w') w:=by
 refine uS3 (dB 282103387046601 [([7,19],[(7,7),(9,11),(19,35)])] []) func109 (λ_ _ _ _ _=>⟨by conv=>lhs;reduce,by dsimp only[PI,AF],by kernel_rfl⟩) ?_;unfold uI;refine AA (PR (f:=λk=>!k.block&&k.after) m h hl λW k K g i=>?_) ?_
 .refine Ek (by kernel_rfl) (AA Ul ?_);rintro _ W' ⟨rfl,g'⟩;exact i W' g'
 rintro lo Q ⟨I,j⟩;refine AA (PR (f:=λk=>!k.block&&k.before) (m.grow j) (h'.grow j (by decide) λ_ _ h=>h) hr λW k K g i=>?_) ?_
 .refine Ek (by kernel_rfl) (AA V6 ?_);rintro _ W' ⟨rfl,g'⟩;exact i W' g'
 rintro ro J ⟨O,o⟩;obtain⟨U,c2,rfl,_⟩:=AE.shape O;have e0:(Gt ks (λk=>!k.block&&k.before) r).length=0:=by
  have:Gt ks (λk=>!k.block&&k.before) r=[]:=B;rw[this];rfl
 rw[AO];refine AU (λvs W=>vs=[lo,zI 0]/\W=J) (λ_ _=>0) ⟨rfl,rfl⟩ ?_;rintro vs _ ⟨rfl,rfl⟩ _;simp only[FC];rw[Ai,e0];exact AD (λe=>absurd e (by simp)) λ_=>⟨AE.mod I o (λ_ _ h=>h) λ_ _ _ h=>h,j.trans o⟩
def NZ(ks:List DKey)(left line:List Attr)(r:Int):Dop:=⟨2,0,[r],if r=10 then Yk ks line else YM ks left,[]⟩
def Fa(ks:List DKey)(p:Int)(l:List Int)(left line:List Attr):List Dop:=⟨1,p,[],[],[]⟩::l.map (NZ ks left line)
def UM(x:List Dop)(o:Dop):BG (x++[o])=Bu (BG x) o:=by unfold BG;rw[mY];rfl
def WT{E S S1 S2 S3:Nat->Prop}{sv lv av rv nv:Value}{p:Int}{l:List Int}{left right line:List Attr}(hS:CK E w sv ks)(hl:I6 S w lv l)
 (h1:Ba S1 w av left)(h2:Ba S2 w rv right)(h3:Ba S3 w nv line)(b1:left.length<=1000000)(b2:right.length<=1000000)(b3:line.length<=1000000)(hn:ad ks right=[])(hm:Aq (Fa ks p l left line)<=68719476736) :
  AB prog 54 [sv,zI p,lv,av,rv,nv] (λv' w'=>Em w.heap.size w' v' (BV (Fa ks p l left line))/\Grow w w') w:=by
 refine uS6 (dB 1153260790031102537 [([32],[(17,18),(32,45)]),([18],[(18,18),(37,39)])] []) func54 (λ_ _ _ _ _ _ _ _=>⟨by conv=>lhs;reduce,by dsimp only[PI,AF],by kernel_rfl⟩) ?_;unfold uI;have ak:CK (λy=>y<w.heap.size) w sv ks:=hS.sub λb hb h=>hb;have Q:I6 (λy=>y<w.heap.size) w lv l:=hl.sub (λb hb h=>hb) (by decide) λ_ _ h=>h;have al:Ba (λy=>y<w.heap.size) w av left:=h1.sub (λb hb h=>hb) (by decide) λ_ _ h=>h;have an:Ba (λy=>y<w.heap.size) w rv right:=h2.sub (λb hb h=>hb) (by decide) λ_ _ h=>h;have ax:Ba (λy=>y<w.heap.size) w nv line:=h3.sub (λb hb h=>hb) (by decide) λ_ _ h=>h;refine AA ZD ?_;rintro _ w1 ⟨g1,b,ay,bb,rfl,aZ⟩;have U:NG (λy=>w.heap.size<=y) w1 b GJ.z:=aZ.sub λy j=>by rw[j];exact ay
 refine AA (OF (n:=p) (p:=[]) (S:=λ_=>False) U An.nil (λx m=>m.elim) (by decide) (by simp)) ?_;rintro _ w2 ⟨b0,m2⟩;have z1:=g1.size;have z2:=m2.size;have B:Grow w w2:=g1.next m2 λx m e=>by omega
 have V:=ak.grow B;refine AA (Vi V (al.grow B (by decide) λ_ _ h=>h) (an.grow B (by decide) λ_ _ h=>h) b1 b2 hn) ?_;rintro tv w3 ⟨o3,X⟩;refine AA (ZH (V.grow X) ((ax.grow B (by decide) λ_ _ h=>h).grow X (by decide) λ_ _ h=>h) b3) ?_;rintro O w4 ⟨o4,g4⟩;have z3:=X.size;have z4:=g4.size;have Y:=B.trans (X.trans g4);have t3:Ba (λy=>w2.heap.size<=y/\y<w4.heap.size) w4 tv (YM ks left):=((AE.sl o3).grow g4 (by decide) λ_ _ h=>h).sub (λx m h=>⟨h.1,m⟩) (by decide) λ_ _ h=>h;have t4:Ba (λy=>w2.heap.size<=y/\y<w4.heap.size) w4 O (Yk ks line):=(AE.sl o4).sub (λx m h=>⟨by have:=h.1;omega,m⟩) (by decide) λ_ _ h=>h;have Z:NG (λy=>w.heap.size<=y/\(y<w2.heap.size\/w4.heap.size<=y)) w4 b (KQ GJ.z p []):=(b0.lt.mod (X.trans g4) λ_ _ h=>h).sub λy j=>⟨by have:=j.1;omega,.inl j.2⟩;have ex:∀k,BG ((Fa ks p l left line).take (k+1))=((l.take k).map (NZ ks left line)).foldl Bu (KQ GJ.z p []):=by
  intro k;unfold BG Fa;rw[nL,mr,mO];rfl
 have e0:KQ GJ.z p []=BG ((Fa ks p l left line).take 1):=(ex 0).symm;rw[e0] at Z;have bc:l.length+1<=Aq (Fa ks p l left line):=by have:=Dv (Fa ks p l left line);simpa[Fa] using this
 obtain⟨a,c,rfl,_⟩:=Q.shape;rw[AO];refine AU (λvs W=>∃k:Nat,k<=l.length/\vs=[zI k]/\NG (λy=>w.heap.size<=y/\(y<w2.heap.size\/w4.heap.size<=y)) W b (BG ((Fa ks p l left line).take (k+1)))/\Mod (λy=>w.heap.size<=y/\(y<w2.heap.size\/w4.heap.size<=y)) w4 W) (λvs _=>l.length-Dh vs 0) ⟨0,Nn _,rfl,Z,Mod.refl _ _⟩ ?_;rintro vs W ⟨k,hk,rfl,hI,g⟩ _;simp only[BQ,Nr];refine G9 (λbd=>?_) λbk=>?_;rotate_left
 .obtain rfl:k=l.length:=by omega
  rw[mU (by simp[Fa])] at hI;have bl:=Ly (Fa ks p l left line);refine AA (XQ hI (by omega)) ?_;rintro v5 w5 ⟨a1,g5⟩;have z:=g.size;refine⟨AE.mod (AE.base a1 λg hg=>by have:=(AE.Aj a1 g hg).1;omega) (Mod.refl (λ_=>False) _) (λ_ _ h=>h) λr x _ m=>m.mod (Mod.refl (λ_=>False) _) (λ_ _ _ h=>h) λy _ j=>⟨by omega,j.2⟩,?_⟩;exact(Y.next g λx m e=>by have:=e.1;omega).trans g5
 have I:k<l.length:=by omega
 have zW:=g.size;have b6:Grow w W:=Y.next g λx m e=>by have:=e.1;omega
 obtain⟨q,r,rfl,_,hr,hc,rfl⟩:=(Q.grow b6 (by decide) λ_ _ h=>h).get I;refine AS I (AJ (by have:=hc 0 _ rfl;exact this) ?_);refine AR (λvs W'=>∃J,vs=[J]/\W'=W/\Ba (λy=>w2.heap.size<=y/\y<w4.heap.size) W J (NZ ks left line l[k]).set) ?_ ?_;rotate_left
 .rw[Aa];refine AD (λhe=>?_) λhe=>?_
  .refine⟨O,rfl,rfl,?_⟩;show Ba _ W O (if l[k]=10 then Yk ks line else YM ks left);rw[DN he];exact An.mod t4 g (λx _ m e=>by rcases e.2 with e|e<;>omega) (by decide) λ_ _ h=>h
  .refine⟨tv,rfl,rfl,?_⟩;show Ba _ W tv (if l[k]=10 then Yk ks line else YM ks left);rw[Bp he];exact An.mod t3 g (λx _ m e=>by rcases e.2 with e|e<;>omega) (by decide) λ_ _ h=>h
 rintro vs W' ⟨J,rfl,rfl,a6⟩ _;simp only[BQ,Nr];refine JT (DD (v:=.int .i32 l[k]) (vs:=[.int .i32 l[k]]) (k:=1) rfl (by decide) rfl rfl) ?_;have ga:Grow W' (W'.alloc (.cells [Value.int .i32 l[k]].toArray 21)):=Mod.alloc _ _ _;have ho:AE W'.heap.size 21 1 Be (W'.alloc (.cells [Value.int .i32 l[k]].toArray 21)) (.slice (some ⟨W'.heap.size,0,none⟩) 1 1) [l[k]]:=AE.SS (K8 _) rfl (λu hu=>by simp at hu;subst hu;rfl) rfl;have bp:=ga.size;have b7:NG (λy=>(w.heap.size<=y/\(y<w2.heap.size\/w4.heap.size<=y))/\y<W'.heap.size) (W'.alloc (.cells [Value.int .i32 l[k]].toArray 21)) b (BG ((Fa ks p l left line).take (k+1))):=(hI.lt).mod ga λ_ _ h=>h;have b8:I6 (λy=>(w2.heap.size<=y/\y<w4.heap.size)\/y=W'.heap.size) (W'.alloc (.cells [Value.int .i32 l[k]].toArray 21)) (.slice (some ⟨W'.heap.size,0,none⟩) 1 1) [l[k]]:=An.sub (AE.sl ho) (λx m h=>.inr (by have:=h.2;simp only[Value.ownBlock,gM] at this;exact this.symm)) (by decide) λ_ _ h=>h;have a7:Ba (λy=>(w2.heap.size<=y/\y<w4.heap.size)\/y=W'.heap.size) (W'.alloc (.cells [Value.int .i32 l[k]].toArray 21)) J (NZ ks left line l[k]).set:=(a6.grow ga (by decide) λ_ _ h=>h).sub (λ_ _ h=>.inl h) (by decide) λ_ _ h=>h;have bs:=Ly ((Fa ks p l left line).take (k+1));have b9:=RZ (Fa ks p l left line) (k+1);have bx:=Dv (BG ((Fa ks p l left line).take (k+1))).ins;have a8:NZ ks left line l[k]∈Fa ks p l left line:=kx _ (lT.2 ⟨l[k],ku I,rfl⟩);have bZ:=Ik a8;have c4:(NZ ks left line l[k]).set.length<=IE (NZ ks left line l[k]).set:=by rw[TW];omega
 have ba:IE (NZ ks left line l[k]).set<=Eu (NZ ks left line l[k]):=by unfold Eu;omega
 refine AA (OO b7 b8 a7 (λy j e=>by rcases j with j|j;(have:=e.1.2;omega);(have:=e.2;omega)) (by omega) (λo ho=>?_) (by simp) (by omega)) ?_
 .have h1:=Ik ho;simp only[Eu] at h1;simp only[nT];omega
 rintro _ W3 ⟨h3,m3⟩;rw[AM,AK (by omega)];refine⟨⟨k+1,I,rfl,?_,?_⟩,by rw[Bw,Bw];omega⟩
 .have e1:(Fa ks p l left line).take (k+1+1)=(Fa ks p l left line).take (k+1)++[NZ ks left line l[k]]:=by
   rw[S5 (i:=k+1)];congr 1
   simp[Fa,Bq I]
  rw[e1,UM];exact h3.sub λy j=>by rcases j with j|j;(exact j.1);(exact⟨by omega,.inr (by omega)⟩)
 .exact(g.trans (ga.mono λ_ _ h=>h.elim)).trans (m3.mono λy _ j=>j.1)
end Go.Proofs.YtbdjachmndlplaaGreatDoor
