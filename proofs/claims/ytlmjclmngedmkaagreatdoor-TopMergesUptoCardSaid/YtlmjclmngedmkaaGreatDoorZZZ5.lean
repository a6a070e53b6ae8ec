/- parts of the proof -/
import Derived.Test.YtlmjclmngedmkaaGreatDoorZZZ4
set_option linter.all false
set_option maxRecDepth 100000
namespace Go.Proofs.YtlmjclmngedmkaaGreatDoor
open Go Proofs.Tryz
variable {j B N:Nat}{w W W' w' w0:e_}{S F C M S':f_}{v sv fr xv dv:d_}{most:Int}{cs:V_}{α:Type}{ks:Y'}{K:Cont}{d U:Y_}{P:Program}{yo xo:Operand}{σ:SKs}
def qu{l:X_}{s:W_}(h:Jl S w v l)(V:CI S' w sv s)(hl:l.length<=1000000000)(X:s.length<=64) : AF prog 169 [v,sv] (λv' w'=>HG w.heap.size w.heap.size w' v' (l.map λr=>(⟨r,s⟩:Cel))/\AI w w') w:=by
 refine G_ func169 ?_ (.y (.y (.x (.y (.node [5,10] [(5,5),(7,7),(10,21)] .nil .nil)))));obtain⟨a,c,rfl,_⟩:=h.AO;rw[AP];apply AX (λvs W=>∃(i:Nat) (I:d_),i<=l.length/\vs=[I,zI i]/\HG w.heap.size w.heap.size W I ((l.take i).map λr=>(⟨r,s⟩:Cel))/\AI w W) (λvs _=>l.length-Di vs 1) ⟨0,_,Hw _,rfl,HG.nil,AK.refl _ _⟩;rintro vs W ⟨i,I,hi,rfl,B,g⟩ _;simp only[Iu];refine HP (λY=>?_) λZ=>?_;rotate_left
 .obtain rfl:i=l.length:=E;rw[Nr] at B;exact⟨B,g⟩
 have j:i<l.length:=E;obtain⟨p,r,rfl,_,hr,hc,rfl⟩:=(h.U_ g B_ C0).get j;refine AW j (AD (by have:=hc 0 _ rfl;exact this) ?_);apply AA (GP (V.U_ g B_ C0) E);rintro v1 w1 ⟨Q,U⟩;have z1:=g.size;have z2:=U.size;have o:∀b,I.ownBlock=some b->w.heap.size<=b/\b<W.heap.size:=λb e=>by
  obtain⟨_,q,_⟩:=B;exact AG.Az q b e
 obtain⟨a4,k4,e4,_⟩:=AG.AO Q;refine⟨#[.int .i32 l[i],v1],by subst e4;kernel_rfl,?_⟩;refine Np (c:=⟨l[i],s⟩) (D':=λx=>W.heap.size<=x/\x<w1.heap.size) (B.U_ U) E ((AG.sl Q).sub (λx J h=>⟨h.1,J⟩) B_ C0) (λx J=>⟨E,J.2,λe=>by have:=o x e;omega⟩) (by rw[FA,K8];omega) λO W' h' m' _=>?_;rw[AR,AM E];refine⟨⟨i+1,O,j,rfl,?_,(g.trans U).next m' λb hb e=>by have:=o b e;omega⟩,by rw[BE,BE];omega⟩;rw[Lc,By j,S7];exact h'
def cY{S D:f_}(h:BS S D w v d)(hl:d.length<=1000000000)(hs:∀c∈d,c.set.length<=64) : AF prog 171 [v] (λv' w'=>HG w.heap.size w.heap.size w' v' d/\AI w w') w:=by
 refine H_ func171 ?_ (.y (.y (.x (.y (.node [9] [(4,4),(9,22)] .nil .nil)))));have h':BS S (λb=>D b/\b<w.heap.size) w v d:=h.sub C0 B_ λr x U=>U.U' l_ F_ λy hy hc=>⟨hc,hy⟩;refine AA (K:=λv' w'=>AG w.heap.size 69 2 (Hp λb=>D b/\b<w.heap.size) w' v' d/\AI w w') ?_ ?_
 .apply H_ func225;exact LH VN h' E (λ_ _ _ U=>Hp.one U) (λw1 w2 r y hz hm hy=>hy.U' hm (λb _ hb e=>by have:=hb.2;omega) C0) λv' w' h1 h2=>And.intro h1 h2
 rintro v1 w1 ⟨o1,g1⟩;obtain⟨a1,c1,rfl,ay,b0,hp,hn⟩:=AG.AO o1;rw[AP];cases a1 with
 |none=>
  have:=hn rfl;subst this;apply AX (λvs w2=>vs=[zI 0]/\w2=w1) (λ_ _=>0) ⟨rfl,rfl⟩;rintro vs _ ⟨rfl,rfl⟩ _;rename e_=>w1;rw[Bh,JS,As];exact AE (λh=>by simp at h) λ_=>⟨⟨λ_=>False,AG.U' o1 l_ C0 λr y hy=>by simp at hy,K_⟩,g1⟩
 |some p1=>
  obtain⟨g,rfl,b6,b7,_⟩:=hp _ rfl;refine AX (λvs Q=>∃i:Nat,i<=d.length/\vs=[zI i]/\AG w.heap.size 69 2 (λ_ _ _=>True) Q (.slice (h_ g) d.length c1) d/\AK (λb=>b=g) w1 Q/\(∀j (h1:j<d.length),i<=j->∃sv,Q.cell? ⟨g,j*2+1,none⟩=some sv/\CI (λb=>D b/\b<w.heap.size) Q sv d[j].set)/\(∀j (h1:j<d.length),Q.cell? ⟨g,j*2,none⟩=some (.int .i32 d[j].r))/\∀j (h1:j<d.length),j<i->∃sv,Q.cell? ⟨g,j*2+1,none⟩=some sv/\CI (λb=>w.heap.size<=b/\b<Q.heap.size/\b≠g) Q sv d[j].set) (λvs _=>d.length-Di vs 0) ⟨0,Hw _,rfl,o1.any,AK.refl _ _,λj h1 _=>?_,λj h1=>?_,λj _ h=>absurd h (aBC _)⟩ ?_
  .obtain⟨r,hr,V,⟨sv,rfl,a6⟩,_⟩:=AG.cellsOf o1 h1;exact⟨sv,V 1 sv rfl,a6⟩
  .obtain⟨r,hr,V,⟨sv,rfl,a6⟩,_⟩:=AG.cellsOf o1 h1;exact V 0 _ rfl
  rintro vs W ⟨i,hi,rfl,oA,mA,An,I,J⟩ _;have zA:=mA.size;have z1:=g1.size;rw[Bh,JS,As];refine AE (λb8=>?_) λb9=>?_;rotate_left
  .obtain rfl:i=d.length:=E;refine⟨⟨λb=>w.heap.size<=b/\b<W.heap.size/\b≠g,AG.conv oA λj hj r ak B a7=>?_,λx U=>⟨U.1,U.2.1,λe=>by simp only[Value.ownBlock,S5] at e;exact U.2.2 e.symm⟩⟩,g1.next mA E⟩;obtain⟨sv,hc,X⟩:=J j hj hj;match r,ak with
   |[u0,u1],_=>
    have e0:=(a7 0 u0 rfl).symm.trans (I j hj);have e1:=(a7 1 u1 rfl).symm.trans hc;cases e0;cases e1;exact⟨_,rfl,X⟩
  have o:i<d.length:=E;obtain⟨sv,hc,X⟩:=An i o (HK _);apply AW o;rw[AH,AB,GX];apply AD hc;refine AA (GP X (by have:=hs _ (Q0 o);omega)) ?_;rintro v4 w4 ⟨oS,O⟩;have z4:=O.size;obtain⟨a8,al⟩:=oS.one;apply AW o;rw[AH,AB,GX];have aa:AG w.heap.size 69 2 (λ_ _ _=>True) w4 (.slice (h_ g) d.length c1) d:=AG.U' oA O C0 λ_ _ _ _=>trivial;obtain⟨_,_,_,_,an⟩:=AG.cellsOf aa o;apply Cv.st (an 1 B_) a8 al;have av:=AG.OG aa o (j:=1) B_ a8;have m5:=O7 w4 g (i*2+1) v4;rw[AR,AM E];refine⟨⟨i+1,o,rfl,av,(mA.next O E').next m5 C0,λj h1 h2=>?_,λj h1=>?_,λj h1 h2=>?_⟩,by rw[CL,CL];omega⟩
  .obtain⟨Y,Z,B⟩:=An j h1 E;refine⟨Y,?_,(B.U_ O B_ C0).U' m5 (λb _ hb e=>by have:=hb.2;omega) B_ C0⟩;rw[Of w4 _ _ v4 (by intro e2;simp only[Addr.mk.injEq] at e2;omega)];exact O.cell Z E_
  .rw[Of w4 _ _ v4 (by intro e2;simp only[Addr.mk.injEq] at e2;omega)];exact O.cell (I j h1) E_
  .by_cases ax:j=i
   .subst ax;refine⟨v4,cO w4 _ v4 (O.cell hc E_),(((AG.sl oS).sub (S':=λb=>w.heap.size<=b/\b<w4.heap.size/\b≠g) (λb hb h=>⟨by have:=h.1;omega,hb,by have:=h.1;omega⟩) B_ C0).U' m5 (λb _ hb e=>hb.2.2 e) B_ C0).sub (λb hb h=>⟨h.1,hb,h.2.2⟩) B_ C0⟩
   .obtain⟨Y,Z,B⟩:=J j h1 E;refine⟨Y,?_,((B.U_ O B_ C0).U' m5 (λb _ hb e=>hb.2.2 e) B_ C0).sub (λb hb h=>⟨h.1,hb,h.2.2⟩) B_ C0⟩;rw[Of w4 _ _ v4 (by intro e2;simp only[Addr.mk.injEq] at e2;omega)];exact O.cell Z E_
section
variable {w:e_}{sv dv xv:d_}{ks:Y'}{d:Y_}{x:V'}{A_ Sd Dd Sx Dx Rd:f_}{b3 b4 b5:Nat}
def bh(hS:Cg A_ w sv ks)(hd:BS Sd Dd w dv d)(hx:Ae Sx Dx w xv x)(B3:Bx w b3 [sv])(B4:Bx w b4 [dv])(B5:Bx w b5 [xv]) (hR:∀y,y<w.heap.size->(A_ y\/Sd y\/Dd y\/Sx y\/Dx y\/y=b3\/y=b5)->Rd y)(h4:∀y,Rd y->y≠b4/\y<w.heap.size) (hg:∀o∈x,Ax ks o/\Ao o<=536870912)(ht:Ah x<=d.length)(e5:∀c∈d,c.set.length<=64)(h8:d.length<=10000000) : nQ (λy=>y=b4) (λy=>y=b4) prog 168 [g_ b5,g_ b4,g_ b3] (λk I W a=>∃(r:V_) (c:Cel),a=[.agg r.toArray]/\(BD ks d x)[k]?=some c/\Hp (λy=>I y/\y≠b4) W r c) (BD ks d x).length Rd w:=by
 intro yl J Jx w1 g1 h0 e6 h6 MU c4;refine O_ func168 ?_ (.z (.y (.node [14] [(6,7),(9,9),(14,56)] (.y (.y (.x (.y (.y (.cut [7] [(7,7),(18,40)] (.y (.y (.y (.y (.x (.dt [3,7,9] (k_ [0,0,2,7,0,0,32,112,15,511]) [[3]] (.op 0 (.op 1 (.op 2 (.op 4 (.op 5 (.op 6 (.br (.op 3 (.op 8 (.op 7 (.op 9 .nil)))) (.op 7 (.op 3 (.op 8 (.op 9 .nil))))))))))))))))) (.y (.node [43] [(9,9),(43,55)] .nil .nil)))))))) .nil)) (.y (.node [60] [(11,11),(60,68)] .nil .nil)));have fs:Cg Rd w sv ks:=hS.sub λb hb h=>hR b hb (.inl h);have fv:BS Rd Rd w dv d:=hd.sub (λb hb h=>hR b hb (.inr (.inl h))) B_ λr c hc=>hc.U' l_ F_ λy hy h=>hR y hy (.inr (.inr (.inl h)));have e7:Ae Rd Rd w xv x:=hx.sub (λb hb h=>hR b hb (.inr (.inr (.inr (.inl h))))) B_ λr o ho=>ho.U' l_ F_ λy hy h=>hR y hy (.inr (.inr (.inr (.inr (.inl h)))));have R3:Rd b3:=hR b3 (B3.lt (P9 _)) D_;clear hS hd hx
 let St:Nat->(f_)->e_->Prop:=λk I W=>J k I W/\AK (λy=>¬Rd y) w W/\I b4/\∀y,I y->y<W.heap.size
 have bl:b4<w.heap.size:=B4.lt (P9 _);have z1:=g1.size;have fx:St 0 (λy=>y=b4) w1:=⟨h0,g1.mono E',rfl,E⟩;have ak:∀{k I W O},St k I W->AI W O->St k (λy=>I y\/(W.heap.size<=y/\y<O.heap.size)) O:=λ{k I W O} ⟨j,m,i4,il⟩ g=>by
  have zg:=g.size;exact⟨e6 k I _ W O j (g.mono E') λy hy=>⟨hy.imp id aAN,by rcases hy with h|h;have:=il y h;omega;exact h.2⟩,m.next g E',.inl i4,λy hy=>by rcases hy with h|h;have:=il y h;omega;exact h.2⟩
 have e8:∀{k:Nat} {I:f_} {W:e_} {r:V_} {K:Cont},St k I W->(∃c,(BD ks d x)[k]?=some c/\Hp (λy=>I y/\y≠b4) W r c)->(∀O,St (k+1) I O->AK (λy=>¬(I y\/Rd y)) W O->K (.bool true) O)->(∀O,(∃I,J (BD ks d x).length I O\/Jx I O)->K (.bool false) O)->DD prog En (.func (.yield yl) #[] #[]) [.agg r.toArray] K W:=λ{k I W r K} ⟨j,m,i4,il⟩ ⟨c,hc,c6⟩ hT hF=>by
  have hk:k<(BD ks d x).length:=by
   rcases zT k (BD ks d x).length with h|h
   .exact h
   .rw[i6 h] at hc;cases hc
  refine .inr ⟨yl,rfl,HD (c4 k I W _ hk j ⟨r,c,rfl,hc,c6⟩) ?_⟩;rintro vv W3 ⟨ga,dk,hq,⟨rfl,e9⟩|⟨rfl,UF⟩⟩
  .have ea:=MU (k+1) I W3 e9;refine hT W3 ⟨e9,⟨hq.1.trans m.os,hq.2.1.trans m.tape,hq.2.2.trans m.output,by have:=m.size;omega,λb hb hn=>ea b hb (yM.1 hn)⟩,i4,λy hy=>by have:=il y hy;omega⟩ ⟨hq.1,hq.2.1,hq.2.2,ga,λb hb hn=>?_⟩;rcases yM.1 hn with h|h
   .exact dk b h
   .exact(ea b (h4 b h).2 h).trans (m.Ap b (h4 b h).2 λe=>e h).symm
  .exact hF W3 ⟨I,.inr UF⟩
 have ec:∀{k I W U},St k I W->AK (λy=>y=b4) W U->St k I U:=λ{k I W U} ⟨j,m0,i4,il⟩ m=>by
  have zm:=m.size;exact⟨e6 k I I W U j (m.mono λb _ e=>⟨e,e▸i4⟩) λy hy=>⟨.inl hy,by have:=il y hy;omega⟩,m0.next m λb hb e hr=>(h4 b hr).1 e,i4,λy hy=>by have:=il y hy;omega⟩
 have ed:∀{U:e_} {v:d_} {l:Y_},AK (λy=>¬Rd y) w U->BS Rd Rd w v l->BS Rd Rd U v l:=λm h=>h.U' m (λb _ h e=>e h) B_ λr c hc=>hc.U' m (λb _ h e=>e h) C0;have H9:∀{U:e_} {v:d_} {l:Y_},AK (λy=>¬Rd y) w U->BS Rd Rd U v l->BS Rd Rd w v l:=λm h=>BC.mono h C0 (λb hb hs=>(m.Ap b (h4 b hs).2 λe=>e hs).symm) B_ λr c ⟨sv,e,hs⟩=>⟨sv,e,BC.mono hs C0 (λb hb hs=>(m.Ap b (h4 b hs).2 λe=>e hs).symm) B_ C0⟩;apply AD ((B5.U_ g1).cells 0 _ rfl);obtain⟨xa,xc,rfl,ee⟩:=e7.AO;simp only[maxLen] at ee;rw[AP];refine AX (λvs W=>∃(i k:Nat) (I:f_) (Z:Y_) (c7:d_),i<=x.length/\vs=[zI i]/\St k I W/\Bx W b4 [c7]/\BS Rd Rd w c7 Z/\Ah (x.drop i)<=Z.length/\k<=(BD ks d x).length/\(BD ks d x).drop k=BD ks Z (x.drop i)/\(∀c∈Z,c∈d)/\Z.length<=d.length) (λvs _=>x.length-Di vs 0)
  ⟨0,0,_,d,dv,Hw _,rfl,fx,B4.U_ g1,fv,ht,Hw _,rfl,M_,HK _⟩ ?_
 rintro vs W ⟨i,k,I,Z,c7,hi,rfl,X,c8,b7,b8,h9,Y,al,ef⟩ _;rw[Bh,JS,As];refine AE (λeh=>?_) λei=>?_;rotate_left
 .obtain rfl:i=x.length:=E;rw[xq,BD] at Y;have gb:k+Z.length=(BD ks d x).length:=by rw[<-Y,FB];omega
  apply AD (c8.cells 0 _ rfl);apply AA (cY (b7.U' X.2.1 (λb _ h e=>e h) B_ λr c hc=>hc.U' X.2.1 (λb _ h e=>e h) C0) E λc hc=>e5 c (al c hc));rintro v2 w2 ⟨o2,g2⟩;have a1:=ak X g2;have ba:BS (λy=>I y\/(W.heap.size<=y/\y<w2.heap.size)) (λy=>(I y\/(W.heap.size<=y/\y<w2.heap.size))/\y≠b4) w2 v2 Z:=(o2.rd (HK _)).sub (λb hb h=>.inr h) B_ λr c hc=>hc.U' l_ F_ λb hb h=>⟨.inr h,λe=>by have:=X.2.1.size;omega⟩;obtain⟨va,vc,rfl,_⟩:=ba.AO;rw[AP];apply AX (λvs O=>∃(m:Nat) (I:f_),m<=Z.length/\vs=[zI m]/\St (k+m) I O/\BS I (λy=>I y/\y≠b4) O (.slice va Z.length vc) Z) (λvs _=>Z.length-Di vs 0) ⟨0,_,Hw _,rfl,a1,ba⟩;clear a1 ba o2 g2 c8 X;rintro vs W ⟨m,I,hm,rfl,X,ba⟩ _;rw[Bh,JS,As];refine AE (λeh=>?_) λei=>?_;rotate_left
  .obtain rfl:m=Z.length:=E;rw[gb] at X;exact⟨I,.inl X.1⟩
  have a8:m<Z.length:=E;obtain⟨p,r,rfl,_,hr,hc,c6⟩:=ba.get a8;have h1:=c6.one;refine AW a8 (Ab hr m_ ?_);refine Bx.new (vs:=r) hr rfl h1 λhf W1 h7 dr gf=>?_;apply gf.GN hr;refine e8 (ak X dr) ⟨Z[m],by rw[<-wH,Y];exact By a8,c6.U' dr F_ λb hb h=>⟨.inl h.1,h.2⟩⟩ (λO bl b0=>?_) λO h=>?_
  .rw[Aq];apply AS;rw[AR,AM E];exact⟨⟨m+1,λy=>I y\/(W.heap.size<=y/\y<W1.heap.size),a8,rfl,by rw[<-wx];exact bl,BC.mono (ba.U_ dr) (λ_ _ h=>.inl h) (λb hb h=>b0.Ap b hb λe=>e (.inl (.inl h))) B_ λr c hc=>hc.U' b0 (λb _ h e=>e (.inl (.inl h.1))) λb _ h=>⟨.inl h.1,h.2⟩⟩,by rw[CL,CL];omega⟩
  .rw[Aq];exact Ai h
 have an:i<x.length:=E;rw[wT an] at b8 Y;have gg:=Q0 an;obtain⟨ej,ek⟩:=hg x[i] gg;obtain⟨q,r,rfl,gl,hr,hc,ca⟩:=e7.get an;obtain⟨rv,av,pv,rfl,o1,o2,o3⟩:=id ca;have cc:∀{u a},w.cell? a=some u->Rd a.block->W.cell? a=some u:=λhu hb=>X.2.1.cell hu λe=>e hb;refine AW an (Ab hr (λj u hu=>by rw[Addr.add_add];exact cc (hc j u hu) (by rw[Av];exact gl)) ?_);refine Bx.new (vs:=[.int .u8 x[i].kind,zI x[i].n,rv,av,pv]) hr rfl ca.one λb6 W1 gm g6 B6=>?_;have Q:=ak X g6;have ax:=c8.U_ g6;have eo:=B6.lt (P9 _);have bk:I b6\/(W.heap.size<=b6/\b6<W1.heap.size):=.inr ⟨gm,eo⟩;clear c8;generalize ch:(λy=>I y\/(W.heap.size<=y/\y<W1.heap.size))=bp at Q;replace bk:bp b6:=by rw[<-ch];exact bk
 have cu:b6≠b4:=λe=>by have:=X.2.1.size;omega
 refine AV (λvs O=>∃(lv V:d_) (l R1:Y_) (B:f_),vs=[lv]/\St k B O/\Bx O b6 [.int .u8 x[i].kind,zI x[i].n,rv,av,pv]/\B b6/\Bx O b4 [V]/\BS Rd Rd w V R1/\BS (λy=>B y\/Rd y) (λy=>B y\/Rd y) O lv l/\Ah (x.drop (i+1))<=R1.length/\(k+l.length<=(BD ks d x).length/\(BD ks d x).drop k=l.map (CD ks x[i].patch)++BD ks R1 (x.drop (i+1)))/\(∀c∈R1,c∈d)/\R1.length<=d.length/\(∀c∈l,c.set.length<=64)) ?_ ?_
 .clear Q ax B6 Y b8 b7 X cc ch bk;rintro _ W0 ⟨lv,V,l,R1,gp,rfl,cx,ep,er,et,gq,dT,gr,⟨gu,eu⟩,e3,ew,hh⟩ _;rw[Bh,JS];obtain⟨la,lc,rfl,ey⟩:=dT.AO;simp only[maxLen] at ey;rw[AP];apply AX (λvs O=>∃(m:Nat) (B:f_),m<=l.length/\vs=[zI m]/\St (k+m) B O/\Bx O b6 [.int .u8 x[i].kind,zI x[i].n,rv,av,pv]/\B b6/\Bx O b4 [V]/\BS (λy=>B y\/Rd y) (λy=>B y\/Rd y) O (.slice la l.length lc) l) (λvs _=>l.length-Di vs 0) ⟨0,gp,Hw _,rfl,cx,ep,er,et,dT⟩;clear cx ep er et dT;rintro vs W2 ⟨m,bs,hm,rfl,a1,ez,eA,eB,eC⟩ _;rw[Bh,JS,As];refine AE (λeh=>?_) λei=>?_;rotate_left
  .obtain rfl:m=l.length:=E;rw[AR,AM E];exact⟨⟨i+1,k+l.length,bs,R1,V,an,rfl,a1,eB,gq,gr,gu,by rw[<-yG,eu,yW (FA _)],e3,ew⟩,by rw[CL,CL];omega⟩
  have a8:m<l.length:=E;obtain⟨p,r',rfl,_,gv,gw,eI,rfl,eL⟩:=eC.get a8;have eN:∀u∈[Value.int .i32 l[m].r,eI],u.oneCell'=true:=by
   obtain⟨sa,sc,rfl,_⟩:=eL.AO;intro u hu;simp only[I3,wA,xx] at hu;rcases hu with rfl|rfl<;>rfl
  refine AW a8 (Ab gv (λj u hu=>by rw[Addr.add_add];exact gw j u hu) ?_);refine Bx.new (vs:=[.int .i32 l[m].r,eI]) rfl rfl eN λb9 W3 hv g9 B9=>?_;have m3:AK (λy=>¬Rd y) w W3:=a1.2.1.next g9 E';apply AD (m3.cell (B3.cells 0 _ rfl) λe=>e R3);apply B9.GN rfl;rw[AB,AH];apply AD ((ez.U_ g9).cells 4 _ rfl);have hz:x[i].patch.length<=64:=by
   rcases ej with⟨_,_,_,_,hp⟩|⟨_,_,_,hp,_⟩|⟨_,_,_,hp,_⟩
   .exact hp.2.1
   .rw[hp];simp
   .rw[hp];simp
  have hcl:=hh _ (Q0 a8);apply AA (jg (fs.U' m3 λb _ h e=>e h) (eL.U_ g9 B_ C0) (o3.U' m3 (λb _ h e=>e h) B_ C0) E);rintro _ W4 ⟨eR,rfl,oc,g4⟩;have c9:=g9.trans g4;have zd:=g9.size;have eV:=ak a1 c9;refine e8 (r:=[.int .i32 l[m].r,eR]) eV ⟨CD ks x[i].patch l[m],?_,eR,rfl,(AG.sl oc).sub (λb hb h=>⟨.inr ⟨by have:=h.1;omega,hb⟩,λe=>by have:=h.1;have:=m3.size;omega⟩) B_ C0⟩ (λO bl b0=>?_) λO h=>?_
  .rw[<-wH,eu,PF (by rw[FA];exact a8),vy,By a8];rfl
  .rw[Aq];apply AS;rw[AR,AM E];have q4:bs b4:=a1.2.2.1;refine⟨⟨m+1,λy=>bs y\/(W2.heap.size<=y/\y<W4.heap.size),a8,rfl,by rw[<-wx];exact bl,(ez.U_ c9).U' b0 λe=>e (.inl (.inl eA)),.inl eA,(eB.U_ c9).U' b0 λe=>e (.inl (.inl q4)),?_⟩,by rw[CL,CL];omega⟩;have up:∀y,bs y\/Rd y->(bs y\/(W2.heap.size<=y/\y<W4.heap.size))\/Rd y:=λy h=>h.elim (λh=>.inl (.inl h)) .inr;exact BC.mono (eC.U_ c9) (λb _ h=>up b h) (λb hb h=>b0.Ap b hb λe=>e (up b h)) B_ λr c hc=>hc.U' b0 (λb _ h e=>e (up b h)) λb _ h=>up b h
  .rw[Aq];exact Ai h
 rw[AB,AH];apply AD (B6.cells 0 _ rfl);rw[Aj];rcases ej with⟨kd,_,_,n1,_⟩|⟨kd,_,_,_,n1⟩|⟨kd,_,_,gx,hA,eX⟩
 .obtain⟨e1,e2,_,e4⟩:=On (ks:=ks) (x:=x.drop (i+1)) (d:=Z) kd;rw[e1] at b8;rw[e4] at Y;have en:x[i].n=(x[i].n.toNat:Int):=E;generalize hn:x[i].n.toNat=n at *;refine AE E λ_=>?_;rw[Aj];refine AE (λ_=>?_) λe=>absurd kd e;obtain⟨da,dc,rfl,_⟩:=b7.AO;have gd:AI W1 W1.drew:=AK.drew _ _;have Bd:=ax.U_ gd;have gy:=B6.U_ gd;have ld:∀{l:X'} {bb q:Nat} {u:d_},(∀j∈l,j≠9)->W1.drew.cell? ⟨bb,q,none⟩=some u->W1.drew.cell? ⟨bb,q,none⟩=some u/\∀j∈l,¬((λj y=>j=9/\y=b4) j (⟨bb,q,none⟩:Addr).block):=λhl hc=>⟨hc,λj hj e=>hl j hj e.1⟩;have fo:W1.drew.cell? ⟨b6,1,none⟩=some (zI (n:Int)):=by rw[<-en];exact gy.cells 1 _ rfl
  apply Ag (λj y=>j=9/\y=b4);apply AU (ld B_ (Bd.cells 0 _ rfl));rw[AB,AH];apply AU (ld B_ fo);apply AU (ld B_ (Bd.cells 0 _ rfl));rw[AB,AH];apply AU (ld B_ fo);have mD:AK (λy=>¬Rd y) w W1.drew:=Q.2.1.next gd E';have EU:∀{a6 a7:d_} {J:d_->e_->Prop},BS Rd Rd w a6 (Z.take n)->BS Rd Rd w a7 (Z.drop n)->(∀U,St k bp U->Bx U b6 [.int .u8 x[i].kind,zI x[i].n,rv,av,pv]->Bx U b4 [a7]->J a6 U)->Cu (g_ b4) a7 (λU=>AK (λy=>9=9/\y=b4) W1.drew U/\J a6 U) W1.drew:=λ{a6 a7 J} ay aa hJ=>by
   obtain⟨ta,tc,rfl,_⟩:=id aa;refine Bd.st (q:=0) (B_:0<1) rfl rfl λU B' m'=>⟨m'.mono λy _ e=>⟨rfl,e⟩,?_⟩;have mu:AK (λy=>y=b4) W1 U:=(gd.mono E').trans m';exact hJ U (ec Q mu) (B6.U' mu cu) B'
  have dj:∀{a6 a7:d_},BS Rd Rd w a6 (Z.take n)->BS Rd Rd w a7 (Z.drop n)->∀U,St k bp U->Bx U b6 [.int .u8 x[i].kind,zI x[i].n,rv,av,pv]->Bx U b4 [a7]->∃(lv V:d_) (l R1:Y_) (B:f_),[a6]=[lv]/\St k B U/\Bx U b6 [.int .u8 x[i].kind,zI x[i].n,rv,av,pv]/\B b6/\Bx U b4 [V]/\BS Rd Rd w V R1/\BS (λy=>B y\/Rd y) (λy=>B y\/Rd y) U lv l/\Ah (x.drop (i+1))<=R1.length/\(k+l.length<=(BD ks d x).length/\(BD ks d x).drop k=l.map (CD ks x[i].patch)++BD ks R1 (x.drop (i+1)))/\(∀c∈R1,c∈d)/\R1.length<=d.length/\(∀c∈l,c.set.length<=64):=λ{a6 a7} ay aa U h1 h2 h3=>
   ⟨a6,a7,Z.take n,Z.drop n,bp,rfl,h1,h2,bk,h3,aa,(ed h1.2.1 ay).sub (λb _ h=>.inr h) B_ λr c hc=>hc.U' l_ F_ λb _ h=>.inr h,by rw[FB];omega,⟨by have:=tZ List.length Y;rw[FB,Ad,FA] at this;omega,Y⟩,λc hc=>al c (aR hc),by rw[FB];omega,λc hc=>e5 c (al c (aO hc))⟩
  have gA:∀{K:Cont},(∀v',BS Rd Rd w v' (Z.take n)->K v' W1.drew)->runK prog (Instr.sliceAt 23 (.slice da Z.length dc) none (some (zI n)) none) K W1.drew:=λhK=>RQ (e:=69) (k:=2) (i:=Tryz.t69) C_ C_ C_ (ed mD b7) (j:=n) E λv' h=>hK v' (H9 mD h)
  have gB:∀{K:Cont},(∀v',BS Rd Rd w v' (Z.drop n)->K v' W1.drew)->runK prog (Instr.sliceAt 23 (.slice da Z.length dc) (some (zI n)) none none) K W1.drew:=λhK=>Ev (e:=69) (k:=2) (i:=Tryz.t69) C_ C_ C_ (ed mD b7) (j:=n) E λv' h=>hK v' (H9 mD h)
  constructor
  .refine gA λa6 ay=>⟨AK.refl _ _,gB λa7 aa=>⟨AK.refl _ _,?_⟩⟩;exact EU (J:=λt U=>(λvs O=>∃(lv V:d_) (l R1:Y_) (B:f_),vs=[lv]/\St k B O/\Bx O b6 [.int .u8 x[i].kind,zI x[i].n,rv,av,pv]/\B b6/\Bx O b4 [V]/\BS Rd Rd w V R1/\BS (λy=>B y\/Rd y) (λy=>B y\/Rd y) O lv l/\Ah (x.drop (i+1))<=R1.length/\(k+l.length<=(BD ks d x).length/\(BD ks d x).drop k=l.map (CD ks x[i].patch)++BD ks R1 (x.drop (i+1)))/\(∀c∈R1,c∈d)/\R1.length<=d.length/\(∀c∈l,c.set.length<=64)) [t] U) ay aa (dj ay aa)
  .refine gB λa7 aa=>⟨AK.refl _ _,gA λa6 ay=>⟨AK.refl _ _,?_⟩⟩;exact EU (J:=λt U=>(λvs O=>∃(lv V:d_) (l R1:Y_) (B:f_),vs=[lv]/\St k B O/\Bx O b6 [.int .u8 x[i].kind,zI x[i].n,rv,av,pv]/\B b6/\Bx O b4 [V]/\BS Rd Rd w V R1/\BS (λy=>B y\/Rd y) (λy=>B y\/Rd y) O lv l/\Ah (x.drop (i+1))<=R1.length/\(k+l.length<=(BD ks d x).length/\(BD ks d x).drop k=l.map (CD ks x[i].patch)++BD ks R1 (x.drop (i+1)))/\(∀c∈R1,c∈d)/\R1.length<=d.length/\(∀c∈l,c.set.length<=64)) [t] U) ay aa (dj ay aa)
 .obtain⟨e1,_,_,e4⟩:=Oi (ks:=ks) (x:=x.drop (i+1)) (d:=Z) kd;rw[e1] at b8;rw[e4] at Y;have en:x[i].n=(x[i].n.toNat:Int):=E;generalize hn:x[i].n.toNat=n at *;refine AE E λ_=>?_;rw[Aj];refine AE E λ_=>?_;obtain⟨da,dc,rfl,_⟩:=b7.AO;apply AD (ax.cells 0 _ rfl);rw[AB,AH];apply AD (B6.cells 1 _ rfl);rw[en];refine Ev (e:=69) (k:=2) (i:=Tryz.t69) C_ C_ C_ (ed Q.2.1 b7) (j:=n) E λv' gW=>?_;have q1:=H9 Q.2.1 gW;obtain⟨ta,tc,rfl,_⟩:=q1.AO;refine ax.st (q:=0) (B_:0<1) rfl rfl λU B' mu=>?_;exact⟨_,_,[],Z.drop n,bp,rfl,ec Q mu,by rw[<-en];exact B6.U' mu cu,bk,B',q1,BC.nil,by rw[FB];omega,⟨by rw[gC];omega,Y⟩,λc hc=>al c (aR hc),by rw[FB];omega,λc hc=>nomatch hc⟩
 .obtain⟨e1,_,_,e4⟩:=Oz (ks:=ks) (x:=x.drop (i+1)) (d:=Z) kd;rw[e1] at b8;rw[e4] at Y;refine AE (λ_=>?_) λe=>absurd kd e;rw[AB,AH];apply AD (B6.cells 2 _ rfl);rw[AB,AH];apply AD (B6.cells 3 _ rfl);have hB:x[i].AY.length<=536870912:=by rw[Ao,Cx kd] at ek;exact ek
  have m1:AK (λy=>¬Rd y) w W1:=Q.2.1;apply AA (qu (o1.U' m1 (λb _ h e=>e h) B_ C0) (o2.U' m1 (λb _ h e=>e h) B_ C0) E eX.2.1);rintro lv W2 ⟨h5,g2⟩;refine⟨lv,c7,_,Z,_,rfl,ak Q g2,B6.U_ g2,.inl bk,ax.U_ g2,b7,(h5.rd (HK _)).sub (λb _ h=>.inl (.inr h)) B_ λr c hc=>hc.U' l_ F_ λb _ h=>.inl (.inr h),b8,⟨by have:=tZ List.length Y;rw[FB,Ad] at this;omega,by rw[Y,gx,xn];rfl⟩,al,ef,λc hc=>?_⟩;obtain⟨r0,_,rfl⟩:=i7.1 hc;exact eX.2.1
end
section
variable {S D Sx Dx A_:f_}{w:e_}{sv dv xv:d_}{ks:Y'}{d:Y_}{x:V'}
def LN(hS:Cg A_ w sv ks)(hd:BS S D w dv d)(hx:Ae Sx Dx w xv x)(hT:DV w)(hG:Hy ks d)(hC:∀c∈d,GL ks c)(hI:∀o∈x,IH o)(hl:x.length<=100000)(e1:d.length<=100000)(hm:Bf x<=100000)(ax:CU ks x=0)(ay:1<=d.length) : AF prog 56 [sv,dv,xv,zI most] (λv' w'=>AI w w'/\((BY ks x d.length most=0/\∃ov,v'=.tuple #[ov,zI 0]/\HG w.heap.size w.heap.size w' ov (BD ks d x))\/(BY ks x d.length most≠0/\∃ov,v'=.tuple #[ov,zI (BY ks x d.length most)]))) w:=by
 apply S_ func56;apply AA (Km hS hx hT λo ho=>(hI o ho).o);rintro _ w1 ⟨rfl,g1⟩;rw[ax,BH];refine AT (λ_=>?_) λe=>(e rfl).elim;apply AA (bf (hS.U_ g1) (hd.U_ g1) (hT.U_ g1) hG hC ay E);rintro _ w2 ⟨rfl,g2⟩;refine KU ?_;have Q:=g1.trans g2;have V:E3 dv=E3 (.slice (hd.AO.choose) d.length (hd.AO.choose_spec.choose)):=by
  have:=hd.AO.choose_spec.choose_spec.1;rw[<-this]
 rw[V,AP];clear V;apply AA (UL (n:=d.length) (most:=most) (hS.U_ Q) (Ae.U_ hx Q) (hT.U_ Q) (λo ho=>(hI o ho).o) E E);rintro _ w3 ⟨rfl,g3⟩;have a1:=Q.trans g3;rw[BH];refine AT (λU=>?_) λU=>⟨a1,.inr ⟨U,_,rfl⟩⟩;have hF:=(Br (ks:=ks) E).1 U;refine Bx.zero λc w4 hc g4 Bc=>?_;have dj:=Bc.lt (P9 _);have e2:=a1.size;apply I' func111;have b0:sv.cells=#[sv]:=by
  obtain⟨b,m,kv,l,rfl,_⟩:=hS;rfl
 have b6:dv.cells=#[dv]:=by
  obtain⟨a,c,rfl,_⟩:=hd.AO;rfl
 have b7:xv.cells=#[xv]:=by
  obtain⟨a,c,rfl,_⟩:=hx.AO;rfl
 refine ES b0 λb3 w5 e3 g5 B3=>?_;have dk:=B3.lt (P9 _);refine ES b6 λb4 w6 e4 g6 B4=>?_;have dr:=B4.lt (P9 _);refine ES b7 λb5 W e5 g7 B5=>?_;have ak:=(g5.trans g6).trans g7;have I:=(a1.trans g4).trans ak;have z5:=g5.size;have z6:=g6.size;have z7:=g7.size;have b9:Cg (λy=>A_ y/\y < w.heap.size) W sv ks:=(hS.sub λb hb h=>⟨h,hb⟩).U_ I;have ba:BS (λy=>S y/\y < w.heap.size) (λy=>D y/\y < w.heap.size) W dv d:=BS.U_ (hd.sub (λb hb h=>⟨h,hb⟩) B_ λr c hc=>hc.U' l_ F_ λy i h=>⟨h,i⟩) I;have bb:Ae (λy=>Sx y/\y < w.heap.size) (λy=>Dx y/\y < w.heap.size) W xv x:=Ae.U_ (hx.sub (λb hb h=>⟨h,hb⟩) B_ λr o ho=>ho.U' l_ F_ λy i h=>⟨h,i⟩) I;have bk:=bh (Rd:=λy=>y < W.heap.size/\y≠c/\y≠b4) b9 ba bb (B3.U_ (g6.trans g7)) (B4.U_ g7) B5 (λy i h=>⟨i,by
  rcases h with h | h | h | h | h | h | h;have:=h.2;omega;have:=h.2;omega;have:=h.2;omega;have:=h.2;omega;have:=h.2;omega;omega;omega⟩) (λy i=>⟨i.2.2,i.1⟩) hF.Cs hF.Gv (λc hc=>(hG.set c hc).len) E
 have hN:=IV (ks:=ks) (λo ho=>(hF.Cs o ho).1) hF.Gv;have al:=Bc.U_ ak;have dT:=al.lt (P9 _);have bl:b4<W.heap.size:=E;refine⟨_,_,_,_,_,_,_,rfl,C_,bk,λk _ _ a _ ⟨r,_,e,_⟩=>by rw[e];rfl,E,?_⟩;refine⟨λk X W'=>∃(out:d_),Bx W' c [out]/\HG (W.heap.size+2) (W.heap.size+2) W' out ((BD ks d x).take k)/\AK (λy=>y=c\/y=b4) W W'/\k<=(BD ks d x).length/\(∀y,X y->y=b4\/W.heap.size+2<=y)/\∀g,out.ownBlock=some g->¬X g/\g<W'.heap.size,λ_ _ _=>False,⟨_,al,by rw[xj];exact HG.nil,AK.refl _ _,Hw _,λy e=>.inl e,λg e=>nomatch e⟩,?_,λ_ _ _ _ _ h=>h.elim,?_,?_,?_,λ_ _ _ h=>h.elim⟩;rintro k X e6 W1 W2 ⟨out,B1,q,m,hk,O,j⟩ hm B;have zm:=m.size;have zn:=hm.size;refine⟨out,B1.U' hm (λe=>?_),q.U' hm (λy e=>?_),m.next hm (λy i e=>?_),hk,λy i=>?_,λg Y=>⟨λh=>?_,?_⟩⟩;rcases e with⟨e,_⟩|e|e<;>omega;rcases e with⟨e,_⟩|e|e<;>omega;rcases e with⟨e,_⟩|e|e;exact .inr e;omega;omega;obtain⟨h|h,_,h2,h3⟩:=B y i;exact O y h;exact .inr E;obtain⟨h|h,_⟩:=B g h;exact(j g Y).1 h;have:=(j g Y).2;omega;have:=(j g Y).2;omega;rintro k X W1 ⟨out,B1,q,m,_⟩ b hb hr;exact m.Ap b hb λe=>e.elim hr.2.1 hr.2.2;rintro k X W1 _ hk ⟨r,cc,rfl,bp,a6⟩ ⟨out,B1,q,m,e7,O,j⟩ hz B;have hr:r.length=2:=by
  obtain⟨bs,rfl,_⟩:=id a6;rfl
 refine Bx.new (vs:=r) hr rfl a6.one λb8 W5 e8 g8 B8=>?_;refine Nz g8 hz B E' λW6 J=>?_;have z8:=g8.size;have z9:=J.size;have c4:=B8.lt E;have B6:=(B1.U_ g8).U' J E;have c6:Hp (λy=>X y/\y≠b4) W6 r cc:=(a6.U' g8 F_ C0).U' J (λb hb h e=>by have:=(B b h.1).2.2;omega) C0;apply AD (B6.cells 0 _ rfl);apply(B8.U' J E).GN hr;obtain⟨bs,rfl,c7⟩:=c6;refine Np (c:=cc) ((q.U_ g8).U' J E) E c7 (λy i=>⟨by rcases O y i.1 with h|h;exact(i.2 h).elim;exact h,by have:=(B y i.1).1;omega,λe=>(j y e).1 i.1⟩) (by rw[K8];omega) λan W9 q9 m9 n9=>?_;have e9:=m9.size;have ea:c<W1.heap.size:=by have:=m.size;omega
 have a7:∀g,out.ownBlock=some g->W.heap.size+2<=g:=λg e=>by
  obtain⟨_,q',_⟩:=q;exact(AG.Az q' g e).1
 have B9:=B6.U' m9 λe=>by have:=a7 c e;omega
 obtain⟨D9,av,_⟩:=id q9;obtain⟨c8,c9⟩:=av.one;refine B9.st (q:=0) (B_:0<1) c8 c9 λca ch a8=>?_;have ec:=a8.size;have Z:AK (λx=>x=c\/out.ownBlock=some x) W6 ca:=(m9.mono λ_ _ e=>.inr e).trans (a8.mono λ_ _ e=>.inl e);have cu:¬X c:=λh=>by rcases O c h with h|h<;>omega
 refine⟨SK Z E (λb hb=>by have:=(B b hb).1;omega) (λb _ e=>?_),an,ch,?_,?_,hk,O,λg Y=>?_⟩;rcases e with rfl|e;exact⟨cu,E,E⟩;have:=a7 b e;exact⟨(j b e).1,E,E⟩;rw[Lc,bp];exact q9.U' a8 E;refine((m.next g8 E').next J E).next Z λx hx e=>?_
 rcases e with e|e;exact .inl e;have:=a7 x e;omega;rcases n9 g Y with h|h;exact⟨(j g h).1,by have:=(j g h).2;omega⟩;refine⟨λhI=>by have:=(B g hI).1;omega,?_⟩;have:=(AG.Az av g Y).2;omega;rintro X W1 ⟨out,B1,q,m,_⟩ _ _ cx;refine AD (B1.cells 0 _ rfl) ⟨cx,?_⟩;have aa:AK (λb=>b=W.heap.size) W1 (W1.putObj W.heap.size (.deferred none)):=AK.putObj _ _ _ rfl;have zm:=m.size;refine⟨(I.next m E).next aa E,.inl ⟨U,_,rfl,?_⟩⟩;rw[Nr] at q;have ed:=aa.size;obtain⟨D,q1,q2⟩:=q.U' aa E;exact⟨D,AG.Bk q1 λg Y=>by have:=(AG.Az q1 g Y).1;have:=I.size;omega,λy i=>⟨by have:=(q2 y i).1;have:=I.size;omega,(q2 y i).2⟩⟩
def ZU(hS:Cg A_ w sv ks)(hd:BS S D w dv d)(hx:Ae Sx Dx w xv x)(hT:DV w)(hG:Hy ks d)(hC:∀c∈d,GL ks c)(hI:∀o∈x,IH o)(hl:x.length<=100000)(dk:d.length<=100000)(hm:Bf x<=100000)(hF:Dv ks x d.length 536870912)(ei:Aa (CY ks d x)<=100000000) : AF prog 95 [sv,dv,xv] (λv' w'=>AI w w'/\∃bv,v'=.tuple #[bv,zI 0]/\Ae (λy=>w.heap.size<=y/\y<w'.heap.size) (λy=>w.heap.size<=y/\y<w'.heap.size) w' bv (AL (CY ks d x))) w:=by
 refine I' func95 ?_ (.y (.y (.y (.y (.x (.y (.node [1,28] [(1,1),(12,12),(14,14),(28,76)] (.y (.y (.x (.y (.y (.x (.y (.node [45] [(14,14),(45,71)] (.y (.y (.x (.y (.y (.dm [9,10,11] [0,0,2,0,0,16,0,64,192,504,1022,2047])))))) .nil)))))))) .nil)))))));have dr:Cg (λy=>y<w.heap.size) w sv ks:=hS.sub λb hb h=>hb;have dT:BS (λy=>y<w.heap.size) (λy=>y<w.heap.size) w dv d:=hd.sub (λb hb h=>hb) B_ λr c hc=>hc.U' l_ F_ λy hy h=>hy;have bs:Ae (λy=>y<w.heap.size) (λy=>y<w.heap.size) w xv x:=hx.sub (λb hb h=>hb) B_ λr o ho=>ho.U' l_ F_ λy hy h=>hy;apply AA (LN hS hd hx hT hG hC hI hl dk hm hF.may hF.Ct.1);rintro _ w1 ⟨g1,⟨_,ov,rfl,_⟩|⟨e,_⟩⟩;rotate_left;exact(e ((Br E).2 hF)).elim;refine Bv ?_;refine KU ?_;apply AA LC;rintro _ w2 ⟨g2,b,ej,ek,rfl,e2⟩;obtain⟨xa,xc,rfl,ef⟩:=bs.AO;rw[AP];have z1:=g1.size;have z2:=g2.size
 let St:V'->(f_)->e_->Prop:=λy F W=>Ii F W b (BB y)/\(∀z,F z->w.heap.size<=z/\z<W.heap.size)/\AK (λz=>w.heap.size<=z) w W
 have U_:∀{y F W W'},St y F W->AI W W'->St y F W':=λ{y F W W'} ⟨a1,a2,a3⟩ g=>⟨a1.U' g C0,λz J=>⟨(a2 z J).1,Nn (a2 z J).2 g.size⟩,a3.next g E'⟩;have told:∀{y:V'} {o:Dop} {F:f_} {W W':e_},St y F W->Ii (λz=>F z\/W.heap.size<=z) W' b (BX (BB y) o)->AK F W W'->St (y++[o]) (λz=>(F z\/W.heap.size<=z)/\z<W'.heap.size) W':=λ{y o F W W'} ⟨a1,a2,a3⟩ h m=>⟨by rw[JK];exact h.lt,λz J=>⟨by rcases J.1 with h|h;exact(a2 z h).1;have:=a3.size;omega,J.2⟩,a3.next m λz _ J=>(a2 z J).1⟩;have e4:∀{W},AK (λz=>w.heap.size<=z) w W->Cg (λy=>y<w.heap.size) W sv ks:=λm=>dr.U' m E;have b8:∀{W:e_} {v:d_} {l:Y_},AK (λz=>w.heap.size<=z) w W->BS (λy=>y<w.heap.size) (λy=>y<w.heap.size) w v l->BS (λy=>y<w.heap.size) (λy=>y<w.heap.size) W v l:=λm h=>h.U' m E B_ λr c hc=>hc.U' m E C0;have H9:∀{W:e_} {v:d_} {l:Y_},AK (λz=>w.heap.size<=z) w W->BS (λy=>y<w.heap.size) (λy=>y<w.heap.size) W v l->BS (λy=>y<w.heap.size) (λy=>y<w.heap.size) w v l:=λm h=>BC.mono h C0 (λb hb hs=>(m.Ap b hs E).symm) B_ λr c ⟨sv,e,hs⟩=>⟨sv,e,BC.mono hs C0 (λb hb hs=>(m.Ap b hs E).symm) B_ C0⟩;have OT:∀{y z:V'},y++z=CY ks d x->(BB y).done.length+(BB y).ins.length<=200000000/\Aa (BB y).ins<=200000000:=λ{y z} e=>by
  have h1:=Fu y;have h2:Aa y<=Aa (CY ks d x):=by rw[<-e,EG];omega
  have h3:=Bo (BB y).done;have h4:=Bo (BB y).ins;omega
 refine AX (λvs W=>∃(i:Nat) (Q:Y_) (aa:d_) (y:V') (F:f_),i<=x.length/\vs=[aa,zI i]/\St y F W/\BS (λy=>y<w.heap.size) (λy=>y<w.heap.size) w aa Q/\Ah (x.drop i)<=Q.length/\y++CY ks Q (x.drop i)=CY ks d x/\(∀c∈Q,c∈d)/\Q.length<=d.length) (λvs _=>x.length-Di vs 1)
  ⟨0,d,dv,[],λz=>z=b,Hw _,rfl,⟨e2,E,(g1.trans g2).mono E'⟩,dT,hF.Gv,rfl,M_,HK _⟩ ?_
 rintro vs W ⟨i,Q,aa,y,F,hi,rfl,X,ak,al,O,a6,c4⟩ _;simp only[Iu];refine HP (λe5=>?_) λe6=>?_;rotate_left;obtain rfl:i=x.length:=E;rw[xq,CY,Ty] at O;obtain⟨a1,a2,a3⟩:=X;have h1:=Fu y;rw[O] at h1 a1;apply AA (Kh a1 E);rintro bv W' ⟨ho,g'⟩;have zW:=a3.size;refine⟨(a3.next g' E').mono E,bv,rfl,?_⟩;exact ho.reads.sub (λz _ h=>⟨E,h.2⟩) B_ λr o ho=>ho.U' l_ F_ λz _ h=>⟨E,h.2⟩;have B:i<x.length:=E;rw[wT B] at al O;obtain⟨ba,eo⟩:=hF.Cs x[i] (Q0 B);obtain⟨q,r,rfl,e7,hr,hc,ax⟩:=bs.get B;obtain⟨rv,c6,pv,rfl,o1,o2,o3⟩:=id ax;refine AW B (Ab hr (λj u hu=>by rw[Addr.add_add];exact X.2.2.cell (hc j u hu) λe=>by rw[Av] at e;have hq:=e7;omega) ?_);refine Bx.new (vs:=[.int .u8 x[i].kind,zI x[i].n,rv,c6,pv]) hr rfl ax.one λb6 W1 e8 g6 B6=>?_;have U:=U_ X g6;have F6:¬F b6:=λe=>by have:=(X.2.1 b6 e).2;omega
 have zW:=X.2.2.size;have c7:=B6.lt (P9 _);rw[AB,AH];apply AD (B6.cells 0 _ rfl);rw[Aj];by_cases k2:x[i].kind=2;refine AE (λ_=>?_) λe=>absurd k2 e;obtain⟨e1,_,e3,_⟩:=Oz (ks:=ks) (x:=x.drop (i+1)) (d:=Q) k2;rw[e1] at al;rw[e3] at O;rw[AB,AH];apply AD (B6.cells 2 _ rfl);obtain⟨ra,rc,rfl,_⟩:=o1.AO;rw[AP];obtain⟨a1,a2,a3⟩:=U;apply AA (LG a1);rintro _ W2 ⟨h2,m2⟩;rw[AR,AM E];have zm:=m2.size;refine⟨⟨i+1,Q,aa,y++[⟨3,x[i].AY.length,[],[],[]⟩],F,B,rfl,⟨by rw[JK];exact h2,λz J=>⟨(a2 z J).1,by have:=(a2 z J).2;omega⟩,a3.next m2 λz _ J=>(a2 z J).1⟩,ak,al,by rw[Mp];exact O,a6,c4⟩,by rw[BE,BE];omega⟩;refine AE (λe=>absurd e k2) λ_=>?_;have c8:x[i].kind=1\/x[i].kind=3:=by
  rcases ba with⟨k,_⟩|⟨k,_⟩|⟨k,_⟩;exact .inl k;exact .inr k;exact absurd k k2
 have ep:1<=x[i].n:=by
  rcases ba with⟨_,_,_,n,_⟩|⟨_,_,_,_,n⟩|⟨k,_⟩;exact n;exact n;exact absurd k k2
 have eh:x[i].patch.length<=64:=by
  rcases ba with⟨_,_,_,_,hp⟩|⟨_,_,_,hp,_⟩|⟨k,_⟩;exact hp.2.1;rw[hp];simp;exact absurd k k2
 obtain⟨e1,e3⟩:Ah (x[i]::x.drop (i+1))=x[i].n.toNat+Ah (x.drop (i+1))/\CY ks Q (x[i]::x.drop (i+1))=(Q.take x[i].n.toNat).map (if x[i].kind=3 then Bz else L6 ks x[i].patch)++CY ks (Q.drop x[i].n.toNat) (x.drop (i+1)):=by
  rcases c8 with k|k;obtain⟨q1,_,q3,_⟩:=On (ks:=ks) (x:=x.drop (i+1)) (d:=Q) k;exact⟨q1,by rw[q3,Bp E]⟩;obtain⟨q1,_,q3,_⟩:=Oi (ks:=ks) (x:=x.drop (i+1)) (d:=Q) k;exact⟨q1,by rw[q3,Cx k]⟩
 rw[e1] at al;rw[e3] at O;clear e1 e3;have en:x[i].n=(x[i].n.toNat:Int):=E;generalize hn:x[i].n.toNat=n at *;rw[AB,AH];apply AD (B6.cells 1 _ rfl);rw[en];obtain⟨da,dc,rfl,_⟩:=ak.AO;refine RQ (e:=69) (k:=2) (i:=Tryz.t69) C_ C_ C_ (b8 U.2.2 ak) (j:=n) E λlv c9=>?_;have ca:=H9 U.2.2 c9;clear c9;have e9:∀c∈Q.take n,c∈d:=λc hc=>a6 c (aO hc);have er:(Q.take n).length=n:=by rw[K8];omega
 generalize hL:Q.take n=L at *;obtain⟨la,lc,rfl,_⟩:=ca.AO;rw[AP];generalize an:(if x[i].kind=3 then Bz else L6 ks x[i].patch)=fo at O;refine AX (λvs W'=>∃(m:Nat) (F':f_),m<=L.length/\vs=[zI m]/\St (y++(L.take m).map fo) F' W'/\¬F' b6/\Bx W' b6 [.int .u8 x[i].kind,zI x[i].n,rv,c6,pv]) (λvs _=>L.length-Di vs 0) ⟨0,F,Hw _,rfl,by rw[xj,wh,Ty];exact U,F6,B6⟩ ?_;clear U B6 g6 e8 X F6 zW c7;rintro vs W2 ⟨m,F2,et,rfl,I,av,bk⟩ _;rw[JS,As];refine AE (λe5=>?_) λe6=>?_;rotate_left;obtain rfl:m=L.length:=E;rw[Nr] at I;rw[AB,AH];apply AD (bk.cells 1 _ rfl);rw[en];refine Ev (e:=69) (k:=2) (i:=Tryz.t69) C_ C_ C_ (b8 I.2.2 ak) (j:=n) E λv' ea=>?_;rw[AR,AM E];exact⟨⟨i+1,Q.drop n,v',y++L.map fo,F2,B,rfl,I,H9 I.2.2 ea,by rw[FB];omega,by rw[Mp];exact O,λc hc=>a6 c (aR hc),by rw[FB];omega⟩,by rw[BE,BE];omega⟩;have Y:m<L.length:=E;have ec:(y++(L.take m).map fo)++((L.drop m).map fo++CY ks (Q.drop n) (x.drop (i+1)))=CY ks d x:=by
  rw[<-O,Mp,<-Mp ((L.take m).map fo),<-S7,QC]
 obtain⟨eu,ew⟩:=OT ec;have a7:y++(L.take (m+1)).map fo=(y++(L.take m).map fo)++[fo L[m]]:=by
  rw[Lc,By Y,S7,Mp];rfl
 obtain⟨p,r',rfl,_,ed,ee,bl,rfl,cc⟩:=(b8 I.2.2 ca).get Y;have ch:∀u∈[Value.int .i32 L[m].r,bl],u.oneCell'=true:=by
  obtain⟨sa,sc,rfl,_⟩:=cc.AO;intro u hu;simp[I3,wA,xx] at hu;rcases hu with rfl|rfl<;>rfl
 have cu:=hG.set _ (e9 _ (Q0 Y));have ey:=cu.len;refine AW Y (Ab ed (λj u hu=>by rw [Addr.add_add];exact ee j u hu) ?_);refine Bx.new (vs:=[.int .i32 L[m].r,bl]) rfl rfl ch λb9 Z ez g9 B9=>?_;have V:=U_ I g9;have bp:=bk.U_ g9;have eA:=B9.lt (P9 _);have c7:=bk.lt (P9 _);have z3:=V.2.2.size;have ay:CI (λy=>y < w.heap.size) Z bl L[m].set:=cc.U_ g9 B_ C0;rw [AB,AH];apply AD (bp.cells 0 _ rfl);rw [Aj];refine AE (λk3=>?_) λk3=>?_;rw [Cx k3] at an;subst an;rw [AB,AH];apply AD (B9.cells 0 _ rfl);apply GY (Dj (v:=.int .i32 L[m].r) (vs:=[.int .i32 L[m].r]) (k:=1) rfl B_ rfl rfl);have ga:AI Z (Z.alloc (.cells [Value.int .i32 L[m].r].toArray 21)):=AK.alloc _ _ _;have ho:AG Z.heap.size 21 1 CM (Z.alloc (.cells [Value.int .i32 L[m].r].toArray 21)) (.slice (h_ Z.heap.size) 1 1) [L[m].r]:=AG.N5 (HK _) rfl (λu hu=>by simp at hu;subst hu;rfl) rfl;rw [AB,AH];apply AD ((B9.U_ ga).cells 1 _ rfl);have b0:=U_ V ga;refine AA (Hd (S:=λz=>z < w.heap.size\/z=Z.heap.size) b0.1 (BC.sub (AG.sl ho) (λz J h=>.inr (by have:=h.2;simp [Value.ownBlock,S5] at this;exact this.symm)) B_ C0) ((ay.U_ ga B_ C0).sub (λ_ _ h=>.inl h) B_ C0) (λz J e=>by
  have h1:=V.2.1 z e;rcases J with J | J <;> omega) E (λo ho=>?_) D_ E) ?_
 have h1:=EP ho;simp only[Co] at h1;simp only[xD];omega;rintro _ W4 ⟨h4,m4⟩;have z4:=m4.size;have za:=ga.size;rw[AR,AM E];refine⟨⟨m+1,_,Y,rfl,by rw[a7];exact(told (o:=Bz L[m]) b0 h4 m4),λe=>?_,((bp.U_ ga).U' m4 av)⟩,by rw[CL,CL];omega⟩;rcases e.1 with e|e;exact av e;omega;rw[Bp k3] at an;subst an;have gd:AI Z Z.drew:=AK.drew _ _;have zd:Z.drew.heap.size=Z.heap.size:=rfl;have a8:=U_ V gd;have cx:=bp.U_ gd;have dj:=B9.U_ gd;apply Ag (λj z=>j=11/\F2 z);have ld:∀{l:X'} {bb q:Nat} {u:d_},(∀j∈l,j≠11)->Z.drew.cell? ⟨bb,q,none⟩=some u->Z.drew.cell? ⟨bb,q,none⟩=some u/\∀j∈l,¬((λj z=>j=11/\F2 z) j (⟨bb,q,none⟩:Addr).block):=λhl hc=>⟨hc,λj hj e=>hl j hj e.1⟩;rw[AB,AH];apply AU (ld B_ (dj.cells 1 _ rfl));rw[AB,AH];apply AU (ld B_ (cx.cells 4 _ rfl));rw[AB,AH];apply AU (ld B_ (dj.cells 0 _ rfl));rw[Aj];have m3:=a8.2.2;apply AA (Kv (b:=decide (L[m].r=10)) (e4 m3) (o3.U' m3 E B_ C0) E);rintro v4 W4 ⟨h4,g4⟩;refine⟨g4.mono E',?_⟩;have eB:(CR ks (decide (L[m].r=10)) x[i].patch).length<=x[i].patch.length:=xT _ _;apply AA (kx ((ay.U_ gd B_ C0).U_ g4 B_ C0) h4 cu.1.1 E E);rintro v5 W5 ⟨o5,g5⟩;refine⟨g5.mono E',?_⟩;have b7:=U_ (U_ a8 g4) g5;have z4:=g4.size;have z5:=g5.size;have eC:(Ep L[m].set (CR ks (decide (L[m].r=10)) x[i].patch)).length<=64:=by
  have:(Ep L[m].set (CR ks (decide (L[m].r=10)) x[i].patch)).length<=(CR ks (decide (L[m].r=10)) x[i].patch).length:=zV _ _;omega
 refine AA (EO (n:=1) (S:=λz=>W4.heap.size<=z) b7.1 ((AG.sl o5).sub (λz J h=>h.1) B_ C0) (λz J e=>by have:=(a8.2.1 z e).2;omega) E E) ?_;rintro _ W6 ⟨h6,m6⟩;have z6:=m6.size;refine⟨m6.mono λz _ e=>⟨rfl,e⟩,?_⟩;rw[AR,AM E];refine⟨⟨m+1,_,Y,rfl,by rw[a7];exact(told (o:=L6 ks x[i].patch L[m]) b7 h6 m6),λe=>?_,((cx.U_ (g4.trans g5)).U' m6 av)⟩,by rw[CL,CL];omega⟩;rcases e.1 with e|e;exact av e;omega
end
structure Grp where
 d:V'
 u:V'
abbrev _root_.Go.b_:=List Grp
structure Hist where
 max:Nat
 us:b_
 rs:b_
 op:Bool
 EV:b_
def KI(mx:Nat)(us:b_)(g:Grp):b_:=if us.length<mx then us++[g] else(us++[g]).drop 1
def SU{mx:Nat}{us:b_}{g:Grp}(h:us.length<=mx):(KI mx us g).length<=mx/\(KI mx us g).length=min (us.length+1) mx:=by
 unfold KI;split;simp;omega;simp;omega
abbrev I7:Nat:=205
def Ae.to{S S' D D' M:f_}{l:V'}(h:Ae S D w v l)(hm:AK M w w')(o:∀b,b<w.heap.size->S b->¬M b)(B:∀b,b<w.heap.size->D b->¬M b)(i:∀b,b<w.heap.size->S b->S' b)(j:∀b,b<w.heap.size->D b->D' b):Ae S' D' w' v l:=BC.mono h i (λb hb I=>hm.Ap b hb (o b hb I)) B_ λ_ _ J=>J.U' hm B j
def FJ(C:f_):e_->V_->Grp->Prop:=λw r g=>∃dv uv,r=[dv,uv]/\Ae C C w dv g.d/\Ae C C w uv g.u
def FJ.one{r:V_}{g:Grp}(h:FJ C w r g):∀u∈r,u.oneCell'=true:=by
 obtain⟨B,uv,rfl,h1,i⟩:=h;obtain⟨a,c,rfl,_⟩:=h1.AO;obtain⟨j,o,rfl,_⟩:=i.AO;intro u hu;simp at hu;rcases hu with rfl|rfl<;>rfl
def FJ.to{C C' M:f_}{r:V_}{g:Grp}(h:FJ C w r g)(hm:AK M w w')(hC:∀b,b<w.heap.size->C b->¬M b)(i:∀b,b<w.heap.size->C b->C' b):FJ C' w' r g:=by
 obtain⟨o,uv,e,h1,j⟩:=h;exact⟨o,uv,e,h1.to hm hC hC i i,j.to hm hC hC i i⟩
def FJ.U'{r:V_}{g:Grp}(h:FJ C w r g)(hm:AK M w w')(hC:∀b,b<w.heap.size->C b->¬M b):FJ C w' r g:=h.to hm hC C0
def Qp:Dg prog 191 I7 2 48:=⟨Tryz.t205,.agg #[i_,i_],C_,C_,C_,C_,C_,by rfl,B_⟩
abbrev WA(sv:d_)(mx:Nat)(uv rv:d_)(op:Bool)(ov:d_):V_:=[sv,zI mx,.bool true,uv,rv,.bool op,ov]
structure HKs where
 l:Y'
 S:f_
structure Es (F C:f_) (W:e_) (b:Nat) (sv:d_) (ks:HKs) (uv rv ov:d_) (mx:Nat) (us rs:b_) (op:Bool) (EV:b_):Prop where
 cells:∀j v,(WA sv mx uv rv op ov)[j]?=some v->W.cell? ⟨b,j,none⟩=some v
 Cb:∀j,j<7->Cv W ⟨b,j,none⟩
 Iy:Cg ks.S W sv ks.l
 ss:∀x,ks.S x->x<W.heap.size/\¬F x
 iA:Jw I7 2 (FJ C) W uv us
 pt:Jw I7 2 (FJ C) W rv rs
 EV:BC C 2 (FJ C) W ov EV
 fb:F b/\¬C b
 uF:∀g,uv.ownBlock=some g->F g/\¬C g/\g≠b
 rF:∀g,rv.ownBlock=some g->F g/\¬C g/\g≠b/\uv.ownBlock≠some g
 cf:∀x,C x->F x/\x<W.heap.size
section
variable {F C M:f_}{W W':e_}{b:Nat}{sv:d_}{ks:HKs}{uv rv ov:d_}{mx:Nat}{us rs EV:b_}{op:Bool}
def Es.lt(h:Es F C W b sv ks uv rv ov mx us rs op EV):b<W.heap.size:=q8 W _ (h.cells 5 _ rfl)
def Es.U'(h:Es F C W b sv ks uv rv ov mx us rs op EV)(hm:AK M W W')(I:∀x,F x\/ks.S x->¬M x):Es F C W' b sv ks uv rv ov mx us rs op EV:=
 have o:∀x,F x->¬M x:=λx i=>I x (.inl i);have hC:∀x,x<W.heap.size->C x->¬M x:=λx _ i=>o x (h.cf x i).1
 ⟨λj v J=>hm.cell (h.cells j v J) (o b h.fb.1),λj O=>(h.Cb j O).U' hm (o b h.fb.1),h.Iy.U' hm (λx _ i=>I x (.inr i)),λx i=>⟨Nn (h.ss x i).1 hm.size,(h.ss x i).2⟩,h.iA.U' B_ hm (λg B=>o g (h.uF g B).1) λr x i=>i.U' hm hC,h.pt.U' B_ hm (λg B=>o g (h.rF g B).1) λr x i=>i.U' hm hC,h.EV.U' hm hC B_ λr x i=>i.U' hm hC,
  h.fb,h.uF,h.rF,λx i=>⟨(h.cf x i).1,Nn (h.cf x i).2 hm.size⟩⟩
def Es.U_(h:Es F C W b sv ks uv rv ov mx us rs op EV)(g:AI W W'):Es F C W' b sv ks uv rv ov mx us rs op EV:=h.U' g C0
def Es.qT{F' C':f_}(h:Es F C W b sv ks uv rv ov mx us rs op EV)(hF:∀x,F x->F' x)(hC:∀x,C x->C' x)(B:∀x,F' x->¬ks.S x)(I:∀x,C' x->F' x/\x<W.heap.size/\(C x\/¬F x)):Es F' C' W b sv ks uv rv ov mx us rs op EV:=by
 have o:AK (λ_=>False) W W:=AK.refl _ _;have J:∀g,F g->¬C g->¬C' g:=λg Q hc O=>by
  rcases(I g O).2.2 with h|h;exact hc h;exact h Q
 exact ⟨h.cells,h.Cb,h.Iy,λx i=>⟨(h.ss x i).1,λe=>B x e i⟩,h.iA.U' B_ o C0 λr x i=>i.to o F_ λx _ i=>hC x i,h.pt.U' B_ o C0 λr x i=>i.to o F_ λx _ i=>hC x i,h.EV.sub (λx _ i=>hC x i) B_ λr x i=>i.to o F_ λx _ i=>hC x i,
  ⟨hF _ h.fb.1,J b h.fb.1 h.fb.2⟩,λg j=>⟨hF _ (h.uF g j).1,J g (h.uF g j).1 (h.uF g j).2.1,(h.uF g j).2.2⟩,λg j=>⟨hF _ (h.rF g j).1,J g (h.rF g j).1 (h.rF g j).2.1,(h.rF g j).2.2⟩,λx i=>⟨(I x i).1,(I x i).2.1⟩⟩
def Es.qF{F':f_}{I:d_}{V:b_}{K:e_->Prop}(h:Es F C W b sv ks uv rv ov mx us rs op EV)(hm:AK M W W')(O:∀x,M x->uv.ownBlock=some x)(hF:∀x,F x->F' x)(Y:∀x,F' x->¬ks.S x) (Z:Jw I7 2 (FJ C) W' I V)(hn:∀g,I.ownBlock=some g->uv.ownBlock=some g\/W.heap.size<=g/\F' g) (hK:∀J,Es F' C J b sv ks I rv ov mx V rs op EV->AK (λx=>x=b) W' J->K J):Cu (.pointer (some ⟨b,3,none⟩)) I K W':=by
 have X:¬M b:=λe=>(h.uF b (O b e)).2.2 rfl;have U:∀x,x<W.heap.size->C x->¬M x:=λx _ i e=>(h.uF x (O x e)).2.1 i;refine Fz (vs:=WA sv mx uv rv op ov) (λj v hv=>hm.cell (h.cells j v hv) X) (λj hj=>(h.Cb j hj).U' hm X) (q:=3) (B_:3<7) Z.one.1 Z.one.2 λJ o hc hl=>?_;have Q:∀x,x<W'.heap.size->C x->¬x=b:=λx _ i e=>h.fb.2 (e▸i);have a1:=h.lt;have ou:=h.iA.Az;have nb:∀g,I.ownBlock=some g->F' g/\¬C g/\g≠b:=λg B=>by
  rcases hn g B with e|⟨e,e'⟩;have:=h.uF g e;exact⟨hF _ this.1,this.2.1,this.2.2⟩;exact⟨e',λhc=>by have:=(h.cf g hc).2;omega,E⟩
 exact hK J ⟨hc,λj hj=>hl j hj,(h.Iy.U' hm (λx _ i e=>(h.ss x i).2 (h.uF x (O x e)).1)).U' o (λx _ i e=>(h.ss x i).2 (by rw [e];exact h.fb.1)),λx i=>⟨Nn (h.ss x i).1 (vx hm.size o.size),λe=>Y x e i⟩,Z.U' B_ o (λg B=>(nb g B).2.2) λr x i=>i.U' o Q,(h.pt.U' (R':=FJ C) B_ hm (λg B e=>(h.rF g B).2.2.2 (O g e)) λr x i=>i.U' hm U).U' B_ o (λg B=>(h.rF g B).2.2.1) λr x i=>i.U' o Q,(h.EV.U' hm U B_ λr x i=>i.U' hm U).U' o Q B_ λr x i=>i.U' o Q,
  ⟨hF _ h.fb.1,h.fb.2⟩,nb,λg B=>⟨hF _ (h.rF g B).1,(h.rF g B).2.1,(h.rF g B).2.2.1,λe=>by
   rcases hn g e with e1 | ⟨e1,_⟩;exact (h.rF g B).2.2.2 e1;have:=h.pt.Az g B;omega⟩,
  λx i=>⟨hF _ (h.cf x i).1,Nn (h.cf x i).2 (vx hm.size o.size)⟩⟩ o
def Es.tE{F':f_}{I:d_}{V:b_}{K:e_->Prop}(h:Es F C W b sv ks uv rv ov mx us rs op EV)(hm:AK M W W')(O:∀x,M x->rv.ownBlock=some x)(hF:∀x,F x->F' x)(Y:∀x,F' x->¬ks.S x) (Z:Jw I7 2 (FJ C) W' I V)(hn:∀g,I.ownBlock=some g->rv.ownBlock=some g\/W.heap.size<=g/\F' g) (hK:∀J,Es F' C J b sv ks uv I ov mx us V op EV->AK (λx=>x=b) W' J->K J):Cu (.pointer (some ⟨b,4,none⟩)) I K W':=by
 have X:¬M b:=λe=>(h.rF b (O b e)).2.2.1 rfl;have U:∀x,x<W.heap.size->C x->¬M x:=λx _ i e=>(h.rF x (O x e)).2.1 i;refine Fz (vs:=WA sv mx uv rv op ov) (λj v hv=>hm.cell (h.cells j v hv) X) (λj hj=>(h.Cb j hj).U' hm X) (q:=4) (B_:4<7) Z.one.1 Z.one.2 λJ o hc hl=>?_;have Q:∀x,x<W'.heap.size->C x->¬x=b:=λx _ i e=>h.fb.2 (e▸i);have a1:=h.lt;have or:=h.pt.Az;have nb:∀g,I.ownBlock=some g->F' g/\¬C g/\g≠b:=λg B=>by
  rcases hn g B with e|⟨e,e'⟩;have:=h.rF g e;exact⟨hF _ this.1,this.2.1,this.2.2.1⟩;exact⟨e',λhc=>by have:=(h.cf g hc).2;omega,E⟩
 exact hK J ⟨hc,λj hj=>hl j hj,(h.Iy.U' hm (λx _ i e=>(h.ss x i).2 (h.rF x (O x e)).1)).U' o (λx _ i e=>(h.ss x i).2 (by rw [e];exact h.fb.1)),λx i=>⟨Nn (h.ss x i).1 (vx hm.size o.size),λe=>Y x e i⟩,(h.iA.U' (R':=FJ C) B_ hm (λg B e=>(h.rF g (O g e)).2.2.2 B) λr x i=>i.U' hm U).U' B_ o (λg B=>(h.uF g B).2.2) λr x i=>i.U' o Q,Z.U' B_ o (λg B=>(nb g B).2.2) λr x i=>i.U' o Q,(h.EV.U' hm U B_ λr x i=>i.U' hm U).U' o Q B_ λr x i=>i.U' o Q,
  ⟨hF _ h.fb.1,h.fb.2⟩,λg B=>⟨hF _ (h.uF g B).1,(h.uF g B).2⟩,λg B=>⟨(nb g B).1,(nb g B).2.1,(nb g B).2.2,λe=>by
   rcases hn g B with e1 | ⟨e1,_⟩;exact (h.rF g e1).2.2.2 e;have:=h.iA.Az g e;omega⟩,
  λx i=>⟨hF _ (h.cf x i).1,Nn (h.cf x i).2 (vx hm.size o.size)⟩⟩ o
def Ua{g c:Nat}{l:b_}(h:AG 0 I7 2 (FJ C) W (.slice (h_ g) l.length c) l)(h0:0<l.length)(V:¬C g) : ∃W',(Builtin.clear_ #[191] 0 [.slice (h_ g) 1 c].toArray).run prog W=.ok (.tuple #[]) W'/\AK (λx=>x=g) W W'/\Jw I7 2 (FJ C) W' (sliced (h_ g) 1 l.length l.length 2) (l.drop 1):=by
 obtain⟨a,r,e1,_,hr,hc,_⟩:=h.sl.get h0;cases e1;have hz:(Builtin.zeroCells (Value.agg #[i_,i_]).cells 1).toList=[i_,i_]:=by kernel_rfl
 have B:∀j,j<2->Cv W ((⟨g,0,none⟩:Addr).add j):=λj o=>by
  obtain⟨g',e,_,hl⟩:=AG.Cb h (i:=0) (j:=j) h0 o;cases e;rwa [yx,wS] at hl
 have I:=RH (P:=prog) (⟨g,0,none⟩:Addr) [i_,i_] 0 W n_ (λj _ o=>B j (by simpa using o));obtain⟨Q,_,_,_⟩:=SC (b:=g) [i_,i_] 0 W (λj _ o=>B j (by simpa using o));have J:g<W.heap.size:=(AG.Az h g rfl).2;refine⟨_,?_,Q,.inr ?_⟩
 .have hu:prog.underlying 191=some (.slice I7):=by kernel_rfl
  have hi:prog.info? I7=some Tryz.t205:=by kernel_rfl
  have hv:(zeroValue I7).run prog W=.ok (.agg #[i_,i_]) W:=by
   simp[zeroValue,typeInfo,hi,show Tryz.t205.zero=some (.agg #[i_,i_]) from rfl]
  simp[Builtin.clear_,run_underlying hu,hv,hz,I]
 .have X:=h.sl;by_cases h1:l.length=1
  .refine⟨⟨g,0,none⟩,?_,Nn J Q.size,?_⟩
   .simp[sliced,h1]
   .have:l.drop 1=[]:=Kx (by simp[h1]);rw[this];simp only[sliced,h1,yE,zz];exact⟨_,0,rfl,HK _,by simp[maxLen],λi x U=>by simp at U⟩
  .have e:sliced (some (⟨g,0,none⟩:Addr)) 1 l.length l.length 2=.slice (some ⟨g,2,none⟩) (l.drop 1).length (l.drop 1).length:=by
    simp only[sliced,Bp h1,xE,FB];rw[Nat.one_mul,AH]
   obtain⟨_,_,Y,_,Z,a1⟩:=X;cases Y;refine⟨⟨g,2,none⟩,e,Nn J Q.size,?_⟩;rw[e];refine⟨_,_,rfl,HK _,by simp only[FB];simp only[maxLen] at Z ⊢;have:=AG.AO h;obtain⟨_,_,e',h2,h3,_⟩:=this;simp only[maxLen] at h3;omega,λi x U=>?_⟩;rw[wH] at U;obtain⟨q,r',e2,_,O,a6,a7⟩:=a1 (1+i) x U;cases e2;refine⟨_,r',rfl,rfl,O,λj u hu=>?_,a7.U' Q λy _ hy e=>V (e▸hy)⟩;have o:j<2:=by rw[<-O];exact(Bq.1 hu).1
   have:=a6 j u hu;rw[AH] at this;have ea:(⟨g,2,none⟩:Addr).add (i*2+j)=⟨g,2+(i*2+j),none⟩:=by unfold Addr.add;split<;>simp_all
   rw[ea,show 2+(i*2+j)=(1+i)*2+j by omega];simp only[FE,AH];rw[Of _ _ _ _ (by intro h;have:=tZ Addr.off h;simp only at this;omega),Of _ _ _ _ (by intro h;have:=tZ Addr.off h;simp only at this;omega)];exact this
end
def Rm{t e k:Nat}{i:TypeInfo}{a:Option Addr}{n c l h m:Nat}(ht:P.underlying t=some (.slice e))(hi:P.info? e=some i)(hk:i.size=k)(h1:l<=h)(o:h<=m)(B:m<=c)(w:e_) : (Instr.sliceAt t (.slice a n c) (some (zI l)) (some (zI h)) (some (zI m))).run P w=.ok (sliced a l h m k) w:=by
 have j:P.elem t=e:=by simp[Program.elem,ht]
 rw[xb _ _ _ _ _ _ (by rw[j];exact ht),run_slice_lhm _ _ _ _ _ (by rw[j];exact ht) _ _ _ _ _ _ E E E E,j];simp[sizeOf,typeInfo,hi,hk]
def UO{t e k:Nat}{i:TypeInfo}{a:Option Addr}{n c j:Nat}(ht:P.underlying t=some (.slice e))(hi:P.info? e=some i)(hk:i.size=k)(B:j<=c)(w:e_):(Instr.sliceAt t (.slice a n c) none (some (zI j)) none).run P w=.ok (sliced a 0 j c k) w:=by
 have o:P.elem t=e:=by simp[Program.elem,ht]
 rw[xb _ _ _ _ _ _ (by rw[o];exact ht),aBR _ _ _ _ _ (by rw[o];exact ht) _ _ E E,o];simp[sizeOf,typeInfo,hi,hk]
def JC(F:f_)(W:e_)(b:Nat)(ks:HKs)(h:Hist):Prop:=∃C sv uv rv ov,Es F C W b sv ks uv rv ov h.max h.us h.rs h.op h.EV
def fL(F:f_)(w w':e_)(b:Nat)(ks:HKs)(h:Hist):Prop:=∃F',(∀x,F' x->F x\/w.heap.size<=x/\x<w'.heap.size)/\JC F' w' b ks h/\AK F w w'
section
variable {F C M:f_}{W W':e_}{b:Nat}{sv:d_}{ks:HKs}{uv rv ov:d_}{mx:Nat}{us rs EV:b_}{op:Bool}{h:Hist}
def JC.U'(i:JC F W b ks h)(hm:AK M W W')(j:∀x,F x\/ks.S x->¬M x):JC F W' b ks h:=by
 obtain⟨C,sv,uv,o,B,i⟩:=i;exact⟨C,sv,uv,o,B,i.U' hm j⟩
def JC.U_(i:JC F W b ks h)(g:AI W W'):JC F W' b ks h:=i.U' g C0
def Sf(h:JC F W b ks h):AF prog 136 [g_ b] (λv' w'=>v'=.bool true/\w'=W) W:=by
 obtain⟨C,sv,uv,i,j,h⟩:=h;apply H_ func136;refine Dp (Ai (AJ ?_));rw[AB,AH];exact AD (h.cells 2 _ rfl) ⟨rfl,rfl⟩
def ki{mx:Nat}(I:Cg ks.S W sv ks.l)(i:∀x,ks.S x->x<W.heap.size)(O:mx<=65536) : AF prog 65 [sv,zI mx] (λv' w'=>AI W w'/\∃b,W.heap.size<=b/\v'=.tuple #[g_ b,zI 0]/\JC (λx=>W.heap.size<=x/\x<w'.heap.size) w' b ks ⟨mx,[],[],false,[]⟩) W:=by
 refine G_ func65 ?_ (.y (.cut [] [(4,11)] .nil .nil));refine AV (λ_ V=>V=W) ?_ ?_;rotate_left;rw[As];refine AE E λ_=>?_;rw[BM];exact AE E I_;rintro _ _ rfl _;rename e_=>W;obtain⟨B,_,_,_,rfl,_⟩:=id I;refine⟨(WA (g_ B) mx i_ i_ false i_).toArray,C_,?_⟩;refine CN (vs:=WA (g_ B) mx i_ i_ false i_) λb X hb Y g hc hl=>?_;refine⟨g,b,E,rfl,λ_=>False,g_ B,i_,i_,i_,?_⟩;refine⟨λj v Q=>by have:=hc j v Q;rwa [AH] at this,λj U=>by have:=hl j U;rwa [AH] at this,I.U_ g,λx J=>⟨by have:=i x J;omega,λe=>by have:=i x J;omega⟩,.inl AG.nil,.inl AG.nil,BC.nil,⟨⟨E,E⟩,E_⟩,λg o=>(nomatch o),λg o=>(nomatch o),K_⟩
def kh{g:Grp}(h:Es F C W b sv ks uv rv ov mx us rs op EV)(hl:us.length<=mx)(bk:mx<=65536)(hg:FJ C W [dv,fr] g) : AF prog 162 [g_ b,.agg #[dv,fr]] (λ_ w'=>∃F' I,(∀x,F' x->F x\/W.heap.size<=x/\x<w'.heap.size)/\Es F' C w' b sv ks I rv ov mx (KI mx us g) rs op EV/\AK F W w') W:=by
 refine G_ func162 ?_ (.y (.z (.dc [6,7,10] (k_ [0,0,2,6,14,0,32,126,255,511,1023]) [[6,7]]) (.z .D8 (.y (.x (.y (.dc [16,19] (k_ [0,0,2,6,14,0,0,64,192,448,960,0,2048,6144,14336,30720,65534,131071,262143,524287]) [[16]])))))));refine CN (vs:=[dv,fr]) λb3 w1 bl bp g1 b0 _=>?_;have gd:AI w1 w1.drew:=AK.drew _ _;have Y:=h.U_ (g1.trans gd);have bs:w1.drew.heap.size=w1.heap.size:=rfl;have c4:=h.lt;apply Ag (λk y=>(k=7/\uv.ownBlock=some y)\/(k=10/\y=b));apply AJ;rw [AB,AH];refine AU ⟨Y.cells 3 _ rfl,λj V e=>by
  rcases e with ⟨rfl,e⟩ | ⟨rfl,_⟩;exact (h.uF b e).2.2 rfl;exact absurd V B_⟩ ?_
 refine DF (vs:=[dv,fr]) rfl (λq v hv=>⟨gd.cell (b0 q v hv) E_,λj V e=>by
  rcases e with ⟨rfl,e⟩ | ⟨rfl,e⟩;rw [Av] at e;have:=h.iA.Az b3 e;omega;rw [Av] at e;have e':b3=b:=e;omega⟩) ?_
 have b6:FJ C w1.drew [dv,fr] g:=hg.U' (g1.trans gd) F_;refine Jw.push Qp Y.iA (cs:=[dv,fr]) (x:=g) C_ rfl b6 (λ_ _ _=>FJ.one) (λw2 w3 r y hs hm hr=>hr.U' hm λx o hC e=>?_) E L_ (λw2 g=>g.mono E') λw2 I w3 ho b7 m3 hn=>⟨b7.mono λx _ e=>.inl ⟨rfl,e⟩,?_⟩;rcases e with e | e;exact (h.uF x e).2.1 hC;have:=(h.cf x hC).2;omega;apply AJ;rw [AB,AH];have z3:=m3.size;refine Y.qF (F':=λx=>F x\/W.heap.size<=x/\x < w3.heap.size) m3 M_ J_ (λx o hs=>o.elim (h.ss x hs).2 λe=>by have:=(h.ss x hs).1;omega) (.inl ho) (λg hg=>by
  rcases hn g hg with e | e;exact .inl e;exact .inr ⟨e,.inr ⟨E,((AG.Az ho) g hg).2⟩⟩) λw4 B m4=>⟨m4.mono λx _ e=>.inr ⟨rfl,e⟩,?_⟩
 have z4:=m4.size;have b8:AK F W w4:=(((g1.trans gd).mono E').trans (m3.mono λx _ e=>(h.uF x e).1)).trans (m4.mono λx _ e=>by rw[e];exact h.fb.1);obtain⟨a,c,e,a7,c6,hp,Z⟩:=ho.AO;have a8:(us++[g]).length=us.length+1:=D_;apply DY (λW'=>AI w4 W') (AK.drew _ _);apply AJ;rw[AB,AH];apply BR (λw2 g=>g.cell (B.cells 3 _ rfl) E_);rw[e,AP];apply AJ;rw[AB,AH];apply BR (λw2 g=>g.cell (B.cells 1 _ rfl) E_);rw[A6,a8,wrap64 E E];intro w5 g5;have J:=B.U_ g5;have aa:AK F W w5:=b8.next g5 E';rw[BM];refine AE (λbb=>?_) λc7=>?_;rotate_left;refine⟨λx=>F x\/W.heap.size<=x/\x<w3.heap.size,I,λx o=>?_,?_,aa⟩;have:=g5.size;rcases o with o|o;exact .inl o;exact .inr ⟨o.1,E⟩;have ek:KI mx us g=us++[g]:=by unfold KI;rw[Cx E]
 rw[ek];exact J;have e1:((us.length+1:Nat):Int)-(mx:Int)=1:=E;rw[e1];cases a with
 |none=>have:=Z rfl;simp at this
 |some p=>
  obtain⟨X,rfl,_,c8,O⟩:=hp p rfl;have ak:AG 0 I7 2 (FJ C) w4 I (us++[g]):=AG.U' ho m4 (λy Q e=>(B.uF y Q).2.2 e) λr x _ o=>o.U' m4 λy _ Q e=>h.fb.2 (e▸Q);have al:AG 0 I7 2 (FJ C) w5 I (us++[g]):=AG.U' ak g5 C0 λr x _ o=>o.U' g5 F_;rw[e] at al;have an:X≠b:=(B.uF X O).2.2;apply AJ;rw[AB,AH];apply AD (J.cells 3 _ rfl);rw[e];apply AZ (Ga (e:=I7) (k:=2) (i:=Tryz.t205) (j:=1) C_ C_ C_ E w5);obtain⟨w8,av,m8,b9⟩:=Ua al E (B.uF X O).2.1;apply AZ av;have U:AI w8 w8.drew:=AK.drew _ _;have a1:w8.drew.cell? ⟨b,3,none⟩=some I:=U.cell (m8.cell (J.cells 3 _ rfl) λe=>an e.symm) E_;apply Ag (λk y=>k=19/\y=b);apply AJ;rw[AB,AH];refine AU ⟨a1,λj V e=>by obtain⟨rfl,_⟩:=e;exact absurd V B_⟩ ?_;apply AJ;rw[AB,AH];refine AU ⟨a1,λj V e=>by obtain⟨rfl,_⟩:=e;exact absurd V B_⟩ ?_;rw[e,AP];apply AJ;rw[AB,AH];refine AU ⟨e▸a1,λj V e=>by obtain⟨rfl,_⟩:=e;exact absurd V B_⟩ ?_;rw[AP];refine AZ (Rm (e:=I7) (k:=2) (i:=Tryz.t205) (l:=1) C_ C_ C_ E (HK _) a7 w8.drew) ⟨AK.refl _ _,?_⟩;apply AJ;rw[AB,AH];have ax:Jw I7 2 (FJ C) w8.drew (sliced (h_ X) 1 (us++[g]).length (us++[g]).length 2) ((us++[g]).drop 1):=b9.U' B_ U C0 λr x o=>o.U' U F_;have ay:∀y,(sliced (some (⟨X,0,none⟩:Addr)) 1 (us++[g]).length (us++[g]).length 2).ownBlock=some y->y=X:=by
   intro y Q;unfold sliced at Q;split at Q;exact(r9 Q).symm;simp[xE,Value.ownBlock,Av,S5] at Q;exact Q.symm
  have a6:AK (λx=>x=X) w5 w8.drew:=m8.next U E';have z5:=g5.size;have z8:=a6.size;refine J.qF (F':=λx=>F x\/W.heap.size<=x/\x<w3.heap.size) a6 (λx e=>by rw[e];exact O) M_ (λx o hs=>(J.ss x hs).2 o) ax (λy Q=>.inl (by rw[ay y Q];exact O)) λw9 ba m9=>⟨m9.mono λx _ e=>⟨rfl,e⟩,?_⟩;have z9:=m9.size;have ek:KI mx us g=(us++[g]).drop 1:=by unfold KI;rw[Bp E]
  rw[ek];refine⟨λx=>F x\/W.heap.size<=x/\x<w3.heap.size,_,λx o=>?_,ba,(aa.next a6 λx o e=>?_).trans (m9.mono λx _ e=>by rw[e];exact h.fb.1)⟩;rcases o with o|o;exact .inl o;exact .inr ⟨o.1,E⟩;rcases(B.uF X O).1 with hf|hf;rw[e];exact hf;omega
end
def BC.rX{k:Nat}{R:e_->V_->α->Prop}{a:Option Addr}{n c:Nat}{l:List α}(h:BC S k R w (.slice a n c) l)(B:j<=l.length):BC S k R w (.slice a j c) (l.take j):=by
 obtain⟨_,_,e,h1,I,J⟩:=h;cases e;refine⟨_,_,by rw[K8,u6 B],by rw[K8];omega,I,λi x o=>?_⟩;rw[wY] at o;split at o;exact J i x o;cases o
def Vb{p:Addr}{j c s:Nat}:sliced (some p) 0 j c s=.slice (some p) j c:=by
 unfold sliced;simp[Addr.add_zero' p]
def Rn{l:List α}(h:0<l.length):∃i g,l=i++[g]:=by
 rcases tG l with rfl|⟨i,g,e⟩;simp at h;exact⟨i,g,by rw[e,vq]⟩
section
variable {F C M:f_}{W W':e_}{b:Nat}{sv:d_}{ks:HKs}{uv rv ov:d_}{mx:Nat}{us rs EV:b_}{op:Bool}{h:Hist}
def mX{S D S' D':f_}{x y:V'}(hh:JC F W b ks h)(Q:h.op=false)(hl:h.us.length<=h.max)(a1:h.max<=65536)(hd:Ae S D W dv x)(hu:Ae S' D' W v y)(bx:Aa x<=1099511627776)(a6:Aa y<=1099511627776)(hF:∀z,F z->z<W.heap.size) : AF prog 96 [g_ b,dv,v] (λv' w'=>v'=zI 0/\fL F W w' b ks { h with us:=KI h.max h.us ⟨x,y⟩,rs:=[] }) W:=by
 refine I' func96 ?_ (.y (.y (.y (.cut [] [(6,6),(8,9),(18,38)] .nil .nil))));apply AA (Sf hh);rintro _ _ ⟨rfl,rfl⟩;rename e_=>W;obtain ⟨C,sv,uv,rv,ov,U⟩:=hh;rw [Aq];apply AS;apply AA (JM hd bx);rintro O w2 ⟨o2,g2⟩;apply AA (JM (hu.U_ g2) a6);rintro J w3 ⟨o3,g3⟩;have V:=g2.trans g3;obtain ⟨ca,cc,X,_⟩:=(CZ.sl o2).AO;obtain ⟨aa,ak,Y,_⟩:=(CZ.sl o3).AO;refine ⟨#[O,J],by rw [X,Y];kernel_rfl,?_⟩;refine BJ (vs:=[O,J]) rfl rfl (λu hu=>by simp at hu;rcases hu with rfl | rfl;rw [X];rfl;rw [Y];rfl) λb7 j al an g4 a7 _=>?_;have z2:=g2.size;have z3:=g3.size;have r2:Ae (λz=>W.heap.size<=z/\z < j.heap.size) (λz=>W.heap.size<=z/\z < j.heap.size) j O x:=(CZ.reads o2).to (g3.trans g4) F_ F_ (λz _ i=>⟨i.1,E⟩) λz _ i=>⟨i.1,E⟩;have r3:Ae (λz=>W.heap.size<=z/\z < j.heap.size) (λz=>W.heap.size<=z/\z < j.heap.size) j J y:=(CZ.reads o3).to g4 F_ F_ (λz _ i=>⟨E,E⟩) λz _ i=>⟨E,E⟩;have Z:=(U.U_ (V.trans g4)).qT (F':=λz=>F z\/W.heap.size<=z/\z < j.heap.size) (C':=λz=>C z\/W.heap.size<=z/\z < j.heap.size) J_ J_ (λx hx hs=>hx.elim (U.ss x hs).2 λe=>by have:=(U.ss x hs).1;omega) (λz i=>by
  rcases i with i | i;have:=U.cf z i;exact ⟨.inl this.1,E,.inl i⟩;exact ⟨.inr i,i.2,.inr λhf=>by have:=hF z hf;omega⟩)
 have hg:FJ (λz=>C z\/W.heap.size<=z/\z<j.heap.size) j [O,J] ⟨x,y⟩:=⟨O,J,rfl,r2.to l_ F_ F_ (λ_ _ h=>.inr h) λ_ _ h=>.inr h,r3.to l_ F_ F_ (λ_ _ h=>.inr h) λ_ _ h=>.inr h⟩;refine AV (λ_ w6=>∃F' o,(∀z,F' z->F z\/W.heap.size<=z/\z<w6.heap.size)/\Es F' (λz=>C z\/W.heap.size<=z/\z<j.heap.size) w6 b sv ks o rv ov h.max (KI h.max h.us ⟨x,y⟩) h.rs h.op h.EV/\AK F W w6) ?_ ?_;rintro _ w6 ⟨F',o,I,B,m6⟩ _;apply AJ;rw[AB,AH];refine B.tE (F':=F') (M:=λ_=>False) (AK.refl _ _) K_ M_ (λx hx hs=>(B.ss x hs).2 hx) (.inl AG.nil) (λg hg=>nomatch hg) λw7 a8 m7=>⟨rfl,F',λz i=>?_,⟨_,sv,o,_,ov,a8⟩,m6.trans (m7.mono λz _ e=>by rw[e];exact U.fb.1)⟩;have:=m7.size;rcases I z i with h|h;exact .inl h;exact .inr ⟨h.1,E⟩;apply AJ;rw[AB,AH];apply AD (Z.cells 5 _ rfl);rw[Q];apply AS;apply Ab (vs:=[O,J]) rfl a7;rw[<-Q];apply AA (kh Z hl a1 hg);rintro _ w6 ⟨F',o,I,B,m6⟩;have z6:=m6.size;refine⟨F',o,λz i=>?_,B,((V.trans g4).mono λ_ _ h=>h.elim:AK F W j).next m6 λz i e=>?_⟩;rcases I z i with(h|h)|h;exact .inl h;exact .inr ⟨h.1,E⟩;exact .inr ⟨E,h.2⟩;rcases e with e|e;exact e;omega
def cB{l:b_}(h:BC S 2 (FJ C) W v l)(hC:∀x,C x->x<W.heap.size)(hl:l.length<=1099511627) : AF prog 208 [v] (λv' w'=>AG W.heap.size I7 2 (FJ C) w' v' l/\AI W w') W:=by
 apply H_ func208;obtain⟨a,c,rfl,hm⟩:=h.AO;cases a with
 |none=>
  have:l=[]:=by
   cases l with
   |nil=>rfl
   |cons x l=>obtain⟨p,r,e,_⟩:=h.get (i:=0) D_;cases e
  subst this;simp[KS];exact⟨AG.nil,AK.refl _ _⟩
 |some p=>
  simp[KS];apply Jz;have j:AI W (W.alloc (.cells #[] I7)):=AK.alloc _ _ _;have o:(W.alloc (.cells #[] I7)).heap[W.heap.size]?=some (.cells #[] I7 (0,0)):=by show(W.heap.push _)[W.heap.size]?=_;simp
  obtain⟨v',w',h1,O,Q,_⟩:=Xw (ty:=191) Qp o (h.U_ j B_ λr x J=>J.U' j F_) (λ_ _ _=>FJ.one) E (λU B r y hr=>hr.U' (AK.BQ B) λx J I e=>by have:=hC x I;simp[S5] at e;omega);exact AZ h1 ⟨O,j.trans Q⟩
def Vh(h:Es F C W b sv ks uv rv ov mx us rs false EV)(cc:us.length<=65536)(ch:rs.length<=65536)(hF:∀x,F x->x<W.heap.size) : AF prog 137 [g_ b,.pointer (some ⟨b,3,none⟩),.pointer (some ⟨b,4,none⟩)] (λv' w'=>(us=[]/\v'=.tuple #[.agg #[i_,i_],zI 10]/\AI W w')\/ ∃ l g r F' ba bb,us=l++[g]/\v'=.tuple #[.agg (List.toArray r),zI 0]/\r.length=2/\FJ C w' r g/\(∀ x,F' x->F x\/W.heap.size<=x/\x < w'.heap.size)/\Es F' C w' b sv ks ba bb ov mx l (rs++[g]) false EV/\AK F W w') W:=by
 refine I' func137 ?_ (.y (.y (.y (.y (.y (.x (.dc [5,6,8] (k_ [0,0,2,6,0,16,62,127,255]) [[5,6]])))))));have cu:=h.lt;have cx:=h.iA.Az;have a8:=h.pt.Az;refine EJ λb6 w1 dj dk g1 _ aa=>?_;have I:=h.U_ g1;obtain⟨a,c,e,c7,dr,dT⟩:=h.iA.sl B_;have ak:=I.iA.sl B_;rw[e] at ak;apply AJ;apply AD (I.cells 3 _ rfl);rw[e,AP,A6,wrap64 E E];apply AJ;rw[AB,AH];apply AD (I.cells 5 _ rfl);apply AS;refine HP (λc8=>?_) λc9=>?_;refine⟨#[i_,i_],C_,?_⟩;refine CJ (vs:=[i_,i_]) rfl (λu hu=>by simp at hu;subst hu;rfl) (λj hj=>aa j hj) λe1 m hc _=>?_;exact Ab rfl hc (.inl ⟨Kx E,rfl,g1.next m E⟩);obtain⟨l,g,X⟩:=Rn (l:=us) E;have ca:us.length=l.length+1:=by rw[X];simp
 have en:((us.length:Int)-1)=((l.length:Nat):Int):=E;rw[en];apply AJ;apply AD (I.cells 3 _ rfl);rw[e];have hi:l.length<us.length:=E;obtain⟨p,r,rfl,_,hr,hc,J⟩:=ak.get hi;have bk:us[l.length]=g:=by
  have:us[l.length]?=some g:=by rw[X];simp
  rw[By hi] at this;exact r9 this
 rw[bk] at J;refine AW hi (Ab hr m_ ?_);refine BJ (vs:=r) hr rfl J.one λb9 w3 e2 e3 g3 bl _=>?_;have al:=g1.trans g3;have B:=I.U_ g3;apply AJ;apply AD (B.cells 3 _ rfl);rw[e];apply AZ (UO (e:=I7) (k:=2) (i:=Tryz.t205) (j:=l.length) C_ C_ C_ E w3);rw[Vb];have a6:=B.iA.sl B_;rw[e] at a6;have an:=a6.rX (j:=l.length) E;have bp:us.take l.length=l:=by rw[X];simp
 rw[bp] at an;apply AA (cB an (λx o=>(B.cf x o).2) E);rintro cl w4 ⟨av,g4⟩;have e4:=g3.trans g4;have e5:=al.trans g4;have e6:=B.U_ g4;have O:=AG.Az av;apply AJ;have z1:=g1.size;have z3:=g3.size;have z4:=g4.size;refine B.qF (F':=λx=>F x\/w3.heap.size<=x/\x<w4.heap.size) (M:=λ_=>False) g4 K_ J_ (λx o hs=>o.elim (B.ss x hs).2 λe=>by have:=(B.ss x hs).1;omega) (.inl (av.Bk λ_ _=>Hw _)) (λy hy=>.inr ⟨(O y hy).1,.inr ⟨(O y hy).1,(O y hy).2⟩⟩) λw5 bs m5=>?_;have z5:=m5.size;have gd:AI w5 w5.drew:=AK.drew _ _;have zd:w5.drew.heap.size=w5.heap.size:=rfl;have Q:=bs.U_ gd;obtain⟨V,U,rfl,hd,hu⟩:=J;have J:FJ C w1 [V,U] g:=⟨V,U,rfl,hd,hu⟩;have Y:AK (λy=>y=b) w3 w5.drew:=((g4.mono E').trans m5).next gd E'
 have a7:∀ j v,([V,U]:V_)[j]?=some v->w5.drew.cell? ((⟨b9,0,none⟩:Addr).add j)=some v:=λj v hv=>Y.cell (bl j v hv) (by rw [Av];exact λe=>by have e':b9=b:=e;omega);apply Ag (λk y=>(k=6/\rv.ownBlock=some y)\/(k=8/\y=b));apply AJ;refine AU ⟨Q.cells 4 _ rfl,λj hj e=>by
  rcases e with ⟨rfl,e⟩ | ⟨rfl,_⟩;exact (h.rF b e).2.2.1 rfl;exact absurd hj B_⟩ ?_
 refine DF (vs:=[V,U]) rfl (λq v hv=>⟨a7 q v hv,λj hj e=>by
  rcases e with ⟨rfl,e⟩ | ⟨rfl,e⟩;rw [Av] at e;have:=a8 b9 e;omega;rw [Av] at e;have e':b9=b:=e;omega⟩) ?_
 have ax:∀ x,C x->¬ x=b:=λx o e=>h.fb.2 (e ▸ o);have ay:FJ C w5.drew [V,U] g:=(J.U' g3 F_).U' Y λx _ o=>ax x o;refine Jw.push Qp Q.pt (cs:=[V,U]) (x:=g) C_ rfl ay (λ_ _ _=>FJ.one) (λw2 w3 r y hs hm hr=>hr.U' hm λx o hC e=>?_) E L_ (λw2 g=>g.mono E') λw7 e7 w8 ho c4 m8 hn=>⟨c4.mono λx _ e=>.inl ⟨rfl,e⟩,?_⟩;rcases e with e | e;exact (h.rF x e).2.1 hC;have:=(h.cf x hC).2;omega;apply AJ;have z8:=m8.size;refine Q.tE (F':=λx=>F x\/w3.heap.size<=x/\x < w8.heap.size) m8 M_ (λx h=>by rcases h with h | h;exact .inl h;exact .inr ⟨h.1,E⟩) (λx o hs=>o.elim (B.ss x hs).2 λe=>by have:=(B.ss x hs).1;omega) (.inl ho) (λy hy=>by
  rcases hn y hy with e | e;exact .inl e;exact .inr ⟨e,.inr ⟨E,((AG.Az ho) y hy).2⟩⟩) λw9 c6 m9=>⟨m9.mono λx _ e=>.inr ⟨rfl,e⟩,?_⟩
 have z9:=m9.size;have Z:AK (λy=>rv.ownBlock=some y\/y=b) w5.drew w9:=(m8.mono λ_ _ h=>.inl h).trans (m9.mono λ_ _ h=>.inr h);have b0:∀ j v,([V,U]:V_)[j]?=some v->w9.cell? ((⟨b9,0,none⟩:Addr).add j)=some v:=λj v hv=>Z.cell (a7 j v hv) (by
  rw [Av];rintro (e | e);have:=a8 b9 e;omega;have e':b9=b:=e;omega)
 apply Ab (vs:=[V,U]) rfl b0;have b7:FJ C w9 [V,U] g:=ay.U' Z λx _ o e=>by
  rcases e with e|e;exact(h.rF x e).2.1 o;exact ax x o e
 refine CJ (vs:=[V,U]) rfl b7.one (λj hj=>((((aa j hj).U' g3 E_).U' Y λe=>by rw [Av] at e;have e':b6=b:=e;omega).U' Z λe=>by
  rw [Av] at e;rcases e with e | e;have:=a8 b6 e;omega;have e':b6=b:=e;omega)) λe8 a1 b8 _=>?_
 have e9:=a1.size;refine Ab rfl b8 (.inr ⟨l,g,[V,U],λx=>F x\/w3.heap.size<=x/\x<w8.heap.size,_,_,X,rfl,rfl,b7.U' a1 λx _ o e=>by have:=(h.cf x o).2;omega,λx o=>?_,c6.U' a1 λx o e=>?_,?_⟩);rcases o with o|o;exact .inl o;exact .inr ⟨E,E⟩;rcases o with(o|o)|o;have:=hF x o;omega;omega;have:=(h.ss x o).1;omega;refine(((al.mono λ_ _ h=>h.elim:AK F W w3).next Y λx o e=>by rw[e];exact h.fb.1).next Z λx o e=>?_).next a1 E
 rcases e with e|e;exact(h.rF x e).1;rw[e];exact h.fb.1
end
section
variable {F C M:f_}{W W':e_}{b:Nat}{sv:d_}{ks:HKs}{h:Hist}
def lV(hh:JC F W b ks h)(a7:h.op=false)(a8:h.us.length<=65536)(aa:h.rs.length<=65536)(hF:∀x,F x->x<W.heap.size)(hb:∀g∈h.us,Aa g.u<=1099511627776) : AF prog 78 [g_ b] (λv' w'=>(h.us=[]/\∃ cv,v'=.tuple #[cv,zI 10]/\AI W w')\/ ∃ l g cv n,h.us=l++[g]/\v'=.tuple #[cv,zI 0]/\W.heap.size<=n/\CZ n w' cv g.u/\∃ F',(∀ x,F' x->(F x\/W.heap.size<=x)/\x < n)/\JC F' w' b ks { h with us:=l,rs:=h.rs++[g] }/\n<=w'.heap.size/\AK F W w') W:=by
 refine H_ func78 ?_ (.y (.y (.cut [4,5] [(4,5),(9,19)] (.dt [7,11,12] (k_ [0,0,2,6,0,16,48,127,255,511,511,0,3071,8191]) [[7]] (.op 0 (.op 1 (.op 2 (.op 3 (.op 4 (.op 5 (.op 6 (.br (.op 7 (.op 8 (.op 9 (.op 10 (.op 11 (.op 12 (.op 13 .nil))))))) (.op 11 (.op 7 (.op 8 (.op 9 (.op 10 (.op 12 (.op 13 .nil)))))))))))))))) .nil)));apply AA (Sf hh);rintro _ _ ⟨rfl,rfl⟩;rename e_=>W;obtain ⟨C,sv,uv,rv,ov,hR⟩:=hh;rw [a7] at hR;rw [Aq];apply AS;refine AV (λvs V=>(h.us=[]/\∃ B,vs=[g_ B,zI 10]/\(∀ j v,([i_,i_]:V_)[j]?=some v->V.cell? ((⟨B,0,none⟩:Addr).add j)=some v)/\AI W V)\/
  ∃ l g B r F' I J,h.us=l++[g]/\vs=[g_ B,zI 0]/\FJ C V r g/\(∀ j v,r[j]?=some v->V.cell? ((⟨B,0,none⟩:Addr).add j)=some v)/\(∀ x,F' x->(F x\/W.heap.size<=x)/\x < V.heap.size)/\Es F' C V b sv ks I J ov h.max l (h.rs++[g]) false h.EV/\AK F W V) ?_ ?_
 rintro _ V (⟨hn,B,rfl,hc,g2⟩|⟨l,g,B,r,F',I,J,U,rfl,⟨dv,uu,rfl,hd,hu⟩,hc,O,av,m2⟩) _;simp only[Iu];rw[AB];apply AD (hc 1 _ rfl);apply AA (JM (S:=λ_=>False) (D:=λ_=>False) (x:=[]) BC.nil (by simp[Aa]));rintro cv w3 ⟨_,g3⟩;exact .inl ⟨hn,cv,rfl,g2.trans g3⟩;simp only[Iu];rw[AB];apply AD (hc 1 _ rfl);refine AA (JM hu (hb g (by rw[U];simp))) ?_;rintro cv w3 ⟨o3,g3⟩;exact .inr ⟨l,g,cv,V.heap.size,U,rfl,m2.size,o3,F',O,⟨C,sv,I,J,ov,by rw[a7];exact av.U_ g3⟩,g3.size,m2.next g3 E'⟩;have gd:AI W W.drew:=AK.drew _ _;have zd:W.drew.heap.size=W.heap.size:=rfl;apply Ag (λk y=>(k=7/\F y)\/(k=12/\W.heap.size<=y));apply AJ;rw[AB,AH];apply AJ;rw[AB,AH];refine⟨?_,?_⟩;apply AA (Vh (hR.U_ gd) a8 aa hF);rintro _ w5 (⟨hn,rfl,g5⟩|⟨l,g,r,F',I,J,U,rfl,X,hg,O,Y,m5⟩);refine⟨g5.mono E',?_⟩;refine Bv ?_;refine EJ λB w6 ak ax Z _ a1=>⟨Z.mono E',?_⟩;have z5:=g5.size;refine CJ (vs:=[i_,i_]) rfl (λu hu=>by simp at hu;subst hu;rfl) (λj hj=>a1 j hj) λw7 i Q _=>⟨i.mono λx _ e=>.inr ⟨rfl,E⟩,.inl ⟨hn,B,rfl,Q,((gd.trans g5).trans Z).next i E⟩⟩;refine⟨m5.mono λx _ e=>.inl ⟨rfl,e⟩,?_⟩;refine Bv ?_;refine EJ λB w6 ak ax Z _ a1=>⟨Z.mono E',?_⟩;have z5:=m5.size;have al:=hg.U' Z F_;refine CJ (vs:=r) X al.one (λj hj=>a1 j hj) λw7 i Q _=>⟨i.mono λx _ e=>.inr ⟨rfl,E⟩,.inr ⟨l,g,B,r,F',I,J,U,rfl,al.U' i λx _ o e=>?_,Q,λx o=>?_,(Y.U_ Z).U' i λx o e=>o.elim (λo=>?_) λhs=>by have:=(Y.ss x hs).1;omega,?_⟩⟩;have:=(Y.cf x o).2;omega;have:=i.size;rcases O x o with e|e;exact⟨.inl e,by have:=hF x e;omega⟩;exact⟨.inr E,E⟩;rcases O x o with e'|e';have:=hF x e';omega;omega;exact(((gd.mono λ_ _ h=>h.elim:AK F W W.drew).trans m5).next Z E').next i E
 refine EJ λB w8 ak b6 g8 _ an=>⟨g8.mono E',?_⟩;have z8:=g8.size;have ay:∀x,F x->x<w8.heap.size:=λx o=>by have:=hF x o;omega
 apply AA (Vh ((hR.U_ gd).U_ g8) a8 aa ay);rintro _ w9 (⟨hn,rfl,g9⟩|⟨l,g,r,F',I,J,U,rfl,X,hg,O,b0,m9⟩);refine⟨g9.mono E',?_⟩;refine Bv ?_;refine CJ (vs:=[i_,i_]) rfl (λu hu=>by simp at hu;subst hu;rfl) (λj hj=>(an j hj).U' g9 E_) λw7 i Q _=>⟨i.mono λx _ e=>.inr ⟨rfl,E⟩,.inl ⟨hn,B,rfl,Q,((gd.trans g8).trans g9).next i E⟩⟩;refine⟨m9.mono λx _ e=>.inl ⟨rfl,e⟩,?_⟩;refine Bv ?_;have z9:=m9.size;have a6:¬F B:=λe=>by have:=hF B e;omega
 refine CJ (vs:=r) X hg.one (λj hj=>(an j hj).U' m9 (by rw[Av];exact a6)) λw7 i Q _=>⟨i.mono λx _ e=>.inr ⟨rfl,E⟩,.inr ⟨l,g,B,r,F',I,J,U,rfl,hg.U' i λx _ o e=>?_,Q,λx o=>?_,b0.U' i λx o e=>o.elim (λo=>?_) λhs=>by have:=(hR.ss x hs).1;omega,?_⟩⟩;exact a6 (e▸(hR.cf x o).1);have:=i.size;rcases O x o with e|e;exact⟨.inl e,by have:=hF x e;omega⟩;exact⟨.inr E,E⟩;rcases O x o with e'|e';exact a6 (e▸e');omega;exact(((gd.trans g8).mono λ_ _ h=>h.elim:AK F W w8).trans m9).next i E
end
structure HL (w0:e_) (F:f_) (W:e_) (b:Nat) (ks:HKs) (h:Hist):Prop where
 jw:JC F W b ks h
 hF:∀x,F x->w0.heap.size<=x/\x<W.heap.size
 g:AI w0 W
section
variable {w0 W W':e_}{F:f_}{b:Nat}{ks:HKs}{h h':Hist}
def HL.U_(i:HL w0 F W b ks h)(g:AI W W'):HL w0 F W' b ks h:=⟨i.jw.U_ g,λx j=>⟨(i.hF x j).1,Nn (i.hF x j).2 g.size⟩,i.g.trans g⟩
def HL.after(i:HL w0 F W b ks h)(ha:fL F W W' b ks h'):∃F',HL w0 F' W' b ks h'/\(∀x,F' x->F x\/W.heap.size<=x)/\AK F W W':=by
 obtain⟨F',h1,B,o⟩:=ha;have s:=o.size;have I:=i.g.size;refine⟨F',⟨B,λx j=>?_,i.g.next o λx j e=>by have:=(i.hF x e).1;omega⟩,λx j=>?_,o⟩;rcases h1 x j with e|e;have:=i.hF x e;exact⟨this.1,E⟩;exact⟨E,e.2⟩;rcases h1 x j with e|e;exact .inl e;exact .inr e.1
def HL.push{S D S' D':f_}{dv I:d_}{x y:V'}(i:HL w0 F W b ks h)(j:h.op=false)(hl:h.us.length<=h.max)(o:h.max<=65536)(J:Ae S D W dv x)(hu:Ae S' D' W I y)(bx:Aa x<=1099511627776)(B:Aa y<=1099511627776) : AF prog 96 [g_ b,dv,I] (λv' w'=>v'=zI 0/\∃F',HL w0 F' w' b ks { h with us:=KI h.max h.us ⟨x,y⟩,rs:=[] }/\(∀x,F' x->F x\/W.heap.size<=x)/\AK F W w') W:=AA (mX i.jw j hl o J hu bx B λx O=>(i.hF x O).2) λ_ _ h'=>⟨h'.1,i.after h'.2⟩
def HL.ui(i:HL w0 F W b ks h)(o:h.op=false)(B:h.us.length<=65536)(I:h.rs.length<=65536)(hb:∀g∈h.us,Aa g.u<=1099511627776) : AF prog 78 [g_ b] (λv' w'=>(h.us=[]/\∃ cv,v'=.tuple #[cv,zI 10]/\AI W w')\/ ∃ l g cv n F',h.us=l++[g]/\v'=.tuple #[cv,zI 0]/\W.heap.size<=n/\CZ n w' cv g.u/\HL w0 F' w' b ks { h with us:=l,rs:=h.rs++[g] }/\(∀ x,F' x->(F x\/W.heap.size<=x)/\x < n)/\AK F W w') W:=by
 apply AA (lV i.jw o B I (λx j=>(i.hF x j).2) hb);rintro v w' (h1|⟨l,g,cv,n,h1,Q,U,V,F',J,X,Y,O⟩);exact .inl h1;have Z:=i.g.size;refine .inr ⟨l,g,cv,n,F',h1,Q,U,V,⟨X,λx j=>?_,i.g.next O λx j e=>by have:=(i.hF x e).1;omega⟩,J,O⟩;obtain⟨e,hn⟩:=J x j;rcases e with e|e;exact⟨(i.hF x e).1,E⟩;exact⟨E,E⟩
end
def HL.U'{b:Nat}{ks:HKs}{h:Hist}(j:HL w0 F W b ks h)(hm:AK M W W')(o:∀x,M x->¬F x/\¬ks.S x/\w0.heap.size<=x):HL w0 F W' b ks h:=
 ⟨j.jw.U' hm λx i e=>i.elim (o x e).1 (o x e).2.1,λx i=>⟨(j.hF x i).1,Nn (j.hF x i).2 hm.size⟩,j.g.next hm λx i e=>by have:=(o x e).2.2;omega⟩
def HL.ss{b:Nat}{ks:HKs}{h:Hist}(i:HL w0 F W b ks h):∀x,ks.S x->¬F x:=by
 obtain⟨C,sv,uv,B,I,j⟩:=i.jw;exact λx o=>(j.ss x o).2
structure EgA where
 b:Nat
 t:TxA
 h:Nat
abbrev tS(sv:d_)(e:EgA)(most:Int)(cv:d_):V_:=[sv,g_ e.t.b,g_ e.h,zI most,cv]
structure Ov (w0:e_) (Ft Fh Fc:f_) (W:e_) (e:EgA) (cv:d_) (σ:SKs) (most:Int) (d clip:Y_) (H:Hist) (N:Nat):Prop where
 box:Bx W e.b (tS σ.sv e most cv)
 tx:IM .f w0 Ft W e.t σ most d N
 hi:HL w0 Fh W e.h ⟨σ.ks,σ.S⟩ H
 cl:BS Fc Fc W cv clip
 cw:∀x,Fc x->w0.heap.size<=x/\x<W.heap.size
 bw:w0.heap.size<=e.b/\¬σ.S e.b
 bn:¬Ft e.b/\¬Fh e.b/\¬Fc e.b
 th:∀x,Ft x->¬Fh x/\¬Fc x
 hc:∀x,Fh x->¬Fc x
def MF(w0:e_)(F:f_)(W:e_)(e:EgA)(σ:SKs)(most:Int)(d clip:Y_)(H:Hist)(N:Nat):Prop:=∃Ft Fh Fc cv,Ov w0 Ft Fh Fc W e cv σ most d clip H N/\∀x,(x=e.b\/Ft x\/Fh x\/Fc x)->F x
def YA(w0:e_)(F:f_)(W W':e_)(e:EgA)(σ:SKs)(most:Int)(d clip:Y_)(H:Hist)(N:Nat):Prop:=∃F',(∀x,F' x->F x\/W.heap.size<=x)/\MF w0 F' W' e σ most d clip H N/\AK F W W'
section
variable {w0:e_}{F Ft Fh Fc:f_}{W W':e_}{e:EgA}{cv:d_}{σ:SKs}{most:Int}{d clip:Y_}{H:Hist}{N:Nat}
def Ov.U_(h:Ov w0 Ft Fh Fc W e cv σ most d clip H N)(g:AI W W'):Ov w0 Ft Fh Fc W' e cv σ most d clip H N:=⟨h.box.U_ g,h.tx.U_ g,h.hi.U_ g,h.cl.U_ g,λx i=>⟨(h.cw x i).1,Nn (h.cw x i).2 g.size⟩,h.bw,h.bn,h.th,h.hc⟩
def MF.U_(h:MF w0 F W e σ most d clip H N)(g:AI W W'):MF w0 F W' e σ most d clip H N:=by
 obtain⟨i,j,o,B,h,hF⟩:=h;exact⟨i,j,o,B,h.U_ g,hF⟩
def MF.up{N':Nat}(h:MF w0 F W e σ most d clip H N)(i:N<=N'):MF w0 F W e σ most d clip H N':=by
 obtain⟨j,o,B,I,h,hF⟩:=h;exact⟨j,o,B,I,⟨h.box,h.tx.up i,h.hi,h.cl,h.cw,h.bw,h.bn,h.th,h.hc⟩,hF⟩
def Ov.text{j:f_}{I:Y_}{N':Nat}(h:Ov w0 Ft Fh Fc W e cv σ most d clip H N)(hm:AK Ft W W')(hF:∀x,j x->Ft x\/W.heap.size<=x)(ht:IM .f w0 j W' e.t σ most I N'):Ov w0 j Fh Fc W' e cv σ most I clip H N':=by
 have hl:=h.tx.hl;refine ⟨h.box.U' hm h.bn.1,ht,h.hi.U' hm λx i=>⟨(h.th x i).1,(hl x i).2.2,(hl x i).1⟩,h.cl.U' hm (λx _ i e=>(h.th x e).2 i) B_ λr c hc=>hc.U' hm (λx _ i e=>(h.th x e).2 i) C0,
  λx i=>⟨(h.cw x i).1,Nn (h.cw x i).2 hm.size⟩,h.bw,⟨λo=>?_,h.bn.2⟩,λx i=>?_,h.hc⟩
 rcases hF _ o with o|o;exact h.bn.1 o;have:=h.box.lt D_;omega;rcases hF _ i with o|o;exact h.th x o;exact⟨λB=>by have:=(h.hi.hF x B).2;omega,λB=>by have:=(h.cw x B).2;omega⟩
def Ov.rJ{o:f_}{I:Hist}(h:Ov w0 Ft Fh Fc W e cv σ most d clip H N)(hm:AK Fh W W')(hF:∀x,o x->Fh x\/W.heap.size<=x)(ht:HL w0 o W' e.h ⟨σ.ks,σ.S⟩ I):Ov w0 Ft o Fc W' e cv σ most d clip I N:=by
 refine ⟨h.box.U' hm h.bn.2.1,h.tx.U' hm λx i=>⟨λj=>(h.th x j).1 i,λj=>h.hi.ss x j i,(h.hi.hF x i).1⟩,ht,h.cl.U' hm (λx _ i e=>h.hc x e i) B_ λr c hc=>hc.U' hm (λx _ i e=>h.hc x e i) C0,
  λx i=>⟨(h.cw x i).1,Nn (h.cw x i).2 hm.size⟩,h.bw,⟨h.bn.1,λj=>?_,h.bn.2.2⟩,λx i=>⟨λB=>?_,(h.th x i).2⟩,λx i B=>?_⟩
 rcases hF _ j with j|j;exact h.bn.2.1 j;have:=h.box.lt D_;omega;rcases hF _ B with j|j;exact(h.th x i).1 j;have:=(h.tx.hl x i).2.1;omega;rcases hF _ i with j|j;exact h.hc x j B;have:=(h.cw x B).2;omega
def Ov.i(h:Ov w0 Ft Fh Fc W e cv σ most d clip H N):MF w0 (λx=>x=e.b\/Ft x\/Fh x\/Fc x) W e σ most d clip H N:=⟨Ft,Fh,Fc,cv,h,M_⟩
def Ov.lt(h:Ov w0 Ft Fh Fc W e cv σ most d clip H N):∀x,(x=e.b\/Ft x\/Fh x\/Fc x)->w0.heap.size<=x/\x<W.heap.size:=by
 rintro x (rfl|i|i|i);exact⟨h.bw.1,h.box.lt D_⟩;exact⟨(h.tx.hl x i).1,(h.tx.hl x i).2.1⟩;exact h.hi.hF x i;exact h.cw x i
def Ov.U'(h:Ov w0 Ft Fh Fc W e cv σ most d clip H N)(hm:AK M W W')(j:∀x,M x->¬(x=e.b\/Ft x\/Fh x\/Fc x)/\¬σ.S x/\w0.heap.size<=x):Ov w0 Ft Fh Fc W' e cv σ most d clip H N:=⟨h.box.U' hm λe'=>(j _ e').1 (.inl rfl),h.tx.U' hm λx i=>⟨λo=>(j x i).1 (.inr (.inl o)),(j x i).2⟩,h.hi.U' hm λx i=>⟨λo=>(j x i).1 (.inr (.inr (.inl o))),(j x i).2⟩,h.cl.U' hm (λx _ i e'=>(j x e').1 (.inr (.inr (.inr i)))) B_ λr c hc=>hc.U' hm (λx _ i e'=>(j x e').1 (.inr (.inr (.inr i)))) C0,λx i=>⟨(h.cw x i).1,Nn (h.cw x i).2 hm.size⟩,h.bw,h.bn,h.th,h.hc⟩
def MF.U'(h:MF w0 F W e σ most d clip H N)(hm:AK M W W')(i:∀x,M x->¬F x/\¬σ.S x/\w0.heap.size<=x):MF w0 F W' e σ most d clip H N:=by
 obtain⟨B,I,J,O,h,hF⟩:=h;exact⟨B,I,J,O,h.U' hm λx j=>⟨λo=>(i x j).1 (hF x o),(i x j).2⟩,hF⟩
def YA.qT{F':f_}(h:YA w0 F W W' e σ most d clip H N)(hF:∀x,F x->F' x):YA w0 F' W W' e σ most d clip H N:=by
 obtain⟨B,j,h1,o⟩:=h;exact⟨B,λx i=>(j x i).imp (hF x) id,h1,o.mono λx _ i=>hF x i⟩
def EM(h:Bx W e.b (tS σ.sv e most v)):AF prog 39 [g_ e.b] (λv' w'=>v'=.bool false/\w'=W) W:=by
 apply H_ func39;refine Dp (AS (AJ ?_));rw[AB,AH];exact AD (h.cells 1 _ rfl) (Dp ⟨rfl,rfl⟩)
def gU(h:MF w0 F W e σ most d clip H N):AF prog 23 [g_ e.b] (λv' w'=>v'=zI (d.length:Int)/\AI W w') W:=by
 obtain⟨i,j,o,B,h,hF⟩:=h;apply H_ func23;apply AA (EM h.box);rintro _ _ ⟨rfl,rfl⟩;refine AS (AJ ?_);rw[AB,AH];apply AD (h.box.cells 1 _ rfl);exact AA (GV h.tx) C0
def Jf(h:MF w0 F W e σ most d clip H N)(V:∀c∈d,FM σ.ks c.set)(X:d.length<=10000000)(Y:N<=1000000000) : AF prog 12 [g_ e.b] (λv' w'=>HG W.heap.size W.heap.size w' v' d/\AI W w') W:=by
 obtain⟨Ft,Fh,Fc,cv,h,hF⟩:=h;refine H_ func12 ?_ (.y (.y (.x (.dm [8,9] [0,1,3,7,0,16,48,112,240,511,1023,2047,2047,4095,16383]))));apply AA (EM h.box);rintro _ _ ⟨rfl,rfl⟩;rename e_=>W;apply AS;have I:AI W W.drew:=AK.drew _ _;have o:=h.U_ I;apply Ag (λ_ _=>False);apply AJ;rw[AB,AH];apply AU ⟨o.box.cells 1 _ rfl,C0⟩;apply AJ;rw[AB,AH];apply AU ⟨o.box.cells 1 _ rfl,C0⟩;apply AA (GV o.tx);rintro _ W1 ⟨rfl,B⟩;refine⟨B.mono E',?_⟩;have:=J0 (i:=0) (j:=d.length) (o.U_ B).tx (Hw _) (HK _) V X Y;apply AA this;rintro _ W2 ⟨ov,rfl,hc,J⟩;refine⟨J.mono E',?_⟩;refine Af (vs:=[_,_]) rfl (Af (vs:=[_,_]) rfl ?_);rw[Nr,xP] at hc;have z:=(I.trans B).size;obtain⟨D,O,Q⟩:=hc;exact⟨⟨D,AG.Bk O λg Z=>by have:=(AG.Az O g Z).1;omega,λx U=>⟨by have:=(Q x U).1;omega,(Q x U).2⟩⟩,(I.trans B).trans J⟩
end
def NU(x:V'):Aa (AL x)<=2*Aa x+1:=by
 have h1:=Fu x;have j:=Tk (BB x).ins (BB x).Ak;have i:=N9 (l:=(BB x).done++BW (BB x).ins (BB x).Ak);rw[EG] at i;unfold AL Ra;omega
noncomputable def Hist.put(H:Hist)(x y:V'):Hist:={ H with us:=KI H.max H.us ⟨x,y⟩,rs:=[] }
section
variable {w0:e_}{F Ft Fh Fc:f_}{W W':e_}{e:EgA}{cv:d_}{σ:SKs}{most:Int}{d clip:Y_}{H:Hist}{N:Nat}
def Hu{x:V'}(h:MF w0 F W e σ most d clip H N)(hT:DV w0)(Z:FV σ.ks most d)(hC:∀c∈d,GL σ.ks c)(an:σ.ks.length<=64)(hK:∀k∈σ.ks,Cq k) (hx:Ae S S W xv x)(U:∀y,S y->¬F y)(hI:∀o∈x,IH o)(hl:x.length<=10000)(ba:most<=536870912)(av:d.length<=B)(O:Dv σ.ks x d.length most->d.length+DG x<=B)(bl:B<=10000)(ax:Aa x<=1099511627776)(hN:N+CK B x<=1000000000)(ay:H.op=false)(hH:H.us.length<=H.max)(b0:H.max<=65536) : AF prog 40 [g_ e.b,xv] (λv' w'=>v'=zI (BY σ.ks x d.length most)/\YA w0 F W w' e σ most (CC σ.ks most d x) clip (if BY σ.ks x d.length most=0 then H.put x (AL (CY σ.ks d x)) else H) (N+CK B x)/\FV σ.ks most (CC σ.ks most d x)) W:=by
 obtain⟨Ft,Fh,Fc,cv,h,hF⟩:=h;refine G_ func40 ?_ (.y (.z (.x (.dm [9,14] [0,1,3,7,0,0,32,96,224,480,0,1024,3072,7168,16383,32767])) (.x (.dm [5,7] [0,1,3,7,0,16,0,127,255,511,511,1023,4095]))));have bb:=Z.le;have a1:Ae (λy=>S y/\y<W.heap.size) (λy=>S y/\y<W.heap.size) W xv x:=BC.sub hx (λy j hs=>⟨hs,j⟩) B_ λr o ho=>ho.U' l_ F_ λy j V=>⟨V,j⟩;have gd:AI W W.drew:=AK.drew _ _;have V:=h.U_ gd;apply Ag (λ_ _=>False);apply AJ;rw[AB,AH];apply AU ⟨V.box.cells 0 _ rfl,C0⟩;apply AJ;rw[AB,AH];apply AU ⟨V.box.cells 1 _ rfl,C0⟩;apply AA (GV V.tx);rintro _ W1 ⟨rfl,g1⟩;refine⟨g1.mono E',?_⟩;apply AJ;rw[AB,AH];apply AU ⟨V.box.cells 3 _ rfl,C0⟩;have h1:=V.U_ g1;have a6:=gd.trans g1;apply AA (UL h1.tx.Iy.1 (Ae.U_ a1 a6) (hT.U_ h1.tx.g) (λo ho=>(hI o ho).o) E E);rintro _ W2 ⟨rfl,g2⟩;refine⟨g2.mono E',?_⟩;have J:=a6.trans g2;rw[BH];refine AT (λQ=>?_) λQ=>?_;rotate_left;have es:CC σ.ks most d x=d:=by unfold CC;rw[Bp Q]
 refine⟨rfl,?_,by rw[es];exact Z⟩;rw[es,Bp Q];exact⟨F,J_,⟨Ft,Fh,Fc,cv,⟨(h.U_ J).box,(h.U_ J).tx.up E,(h.U_ J).hi,(h.U_ J).cl,(h.U_ J).cw,h.bw,h.bn,h.th,h.hc⟩,hF⟩,J.mono E'⟩;rw[Cx Q,Q];have a7:AI W2 W2.drew:=AK.drew _ _;have h2:=h.U_ (J.trans a7);apply Ag (λ_ _=>False);apply AJ;rw[AB,AH];apply AU ⟨h2.box.cells 0 _ rfl,C0⟩;apply AA (Jf h2.i Z.g.set E E);rintro dv W3 ⟨b6,g3⟩;refine⟨g3.mono E',?_⟩;have I:=(Br E).1 Q;have bk:=O I;have a8:Bf x<=100000:=by
  have:=(FD x).2;have:=I.Gv;omega
 obtain⟨i1,i2,i3,i4,i5⟩:=SP hK hI hl Z.g hC E a8 Q;have aa:Dv σ.ks x d.length 536870912:=⟨I.may,I.Cs,⟨I.Ct.1,by have:=I.Ct.2;omega⟩,I.Gv,I.EU,I.pl,by have:=I.most;omega⟩;have h3:=h2.U_ g3;have ak:=(J.trans a7).trans g3;have X:=Ae.U_ a1 ak;apply AA (ZU h3.tx.Iy.1 (b6.rd (HK _)) X (hT.U_ h3.tx.g) Z.g hC hI E E a8 aa i5);rintro _ W4 ⟨g4,bv,rfl,b7⟩;refine⟨g4.mono E',?_⟩;refine Af (vs:=[_,_]) rfl (Af (vs:=[_,_]) rfl ?_);refine KU ?_;have h4:=h3.U_ g4;have al:=ak.trans g4;apply AJ;rw[AB,AH];apply AD (h4.box.cells 2 _ rfl);have bp:=NU (CY σ.ks d x);apply AA (HL.push h4.hi ay hH b0 (Ae.U_ X g4) b7 ax E);rintro _ W5 ⟨rfl,bs,h5,f5,m5⟩;refine KU ?_;have Y:=h4.rJ m5 f5 h5;apply AJ;rw[AB,AH];apply AD (Y.box.cells 1 _ rfl);have z4:=al.size;have z5:=m5.size;have b8:Ae (λy=>S y/\y<W.heap.size) (λy=>S y/\y<W.heap.size) W5 xv x:=(Ae.U_ X g4).U' m5 (λy _ j e=>U y j.1 (hF y (.inr (.inr (.inl e))))) λy _ j e=>U y j.1 (hF y (.inr (.inr (.inl e))));apply AA (SH Y.tx hT Z an hK b8 (λy j e=>U y j.1 (hF y (.inr (.inl e)))) hI E av O E hN);rintro _ W6 ⟨rfl,⟨c4,f6,h6,m6⟩,b9⟩;refine⟨by rw[Q],⟨_,λy j=>?_,(Y.text m6 f6 h6).i,?_⟩,b9⟩;rcases j with rfl|j|j|j;exact .inl (hF _ (.inl rfl));rcases f6 y j with j|j;exact .inl (hF _ (.inr (.inl j)));exact .inr E;rcases f5 y j with j|j;exact .inl (hF _ (.inr (.inr (.inl j))));exact .inr E;exact .inl (hF _ (.inr (.inr (.inr j))));exact((al.mono λ_ _ h=>h.elim:AK F W W4).trans (m5.mono λy _ j=>hF _ (.inr (.inr (.inl j))))).trans (m6.mono λy _ j=>hF _ (.inr (.inl j)))
def aA{x:V'}(h:MF w0 F W e σ most d clip H N)(V:DV w0)(Q:FV σ.ks most d)(hC:∀c∈d,GL σ.ks c)(i:σ.ks.length<=64)(X:∀k∈σ.ks,Cq k) (Y:Ae S S W xv x)(j:∀y,S y->¬F y)(Z:∀o∈x,IH o)(hl:x.length<=1000)(hm:most<=2000)(I:Aa x<=1099511627776)(hN:N+CK 4000 x<=1000000000)(J:H.op=false)(hH:H.us.length<=H.max)(O:H.max<=65536) : AF prog 40 [g_ e.b,xv] (λv' w'=>v'=zI (BY σ.ks x d.length most)/\YA w0 F W w' e σ most (CC σ.ks most d x) clip (if BY σ.ks x d.length most=0 then H.put x (AL (CY σ.ks d x)) else H) (N+CK 4000 x)/\FV σ.ks most (CC σ.ks most d x)) W:=by
 have U:=Q.le;exact Hu (B:=4000) h V Q hC i X Y j Z E E E (λhF=>by
  have:=(FD x).1;have:=hF.most;have:=hF.Gv;omega) E I hN J hH O
end
section
variable {w0:e_}{F Ft Fh Fc:f_}{W W':e_}{e:EgA}{cv:d_}{σ:SKs}{most:Int}{d clip:Y_}{H:Hist}{N:Nat}
structure jx (x:V'):Prop where
 pM:∀o∈x,IH o
 len:x.length<=3000
 m:Aa x<=1099511627776
def MF.H9(h:Ov w0 Ft Fh Fc W e cv σ most d clip H N)(hF:∀x,(x=e.b\/Ft x\/Fh x\/Fc x)->F x){n:Nat}{I:f_}{J:e_}{X:Hist}{x:V'} (hn:W.heap.size<=n)(hx:CZ n J xv x)(Y:∀y,I y->(Fh y\/W.heap.size<=y)/\y<n)(h1:HL w0 I J e.h ⟨σ.ks,σ.S⟩ X)(O:AK Fh W J)(hT:DV w0)(hM:FV σ.ks most d)(Q:σ.ks.length<=64)(hK:∀k∈σ.ks,Cq k)(Z:jx x)(hm:most<=2000)(hN:N+CK 4000 x<=1000000000) : AF prog 79 [g_ e.t.b,xv] (λv' w'=>v'=zI (BY σ.ks x d.length most)/\YA w0 F W w' e σ most (CC σ.ks most d x) clip X (N+CK 4000 x)/\FV σ.ks most (CC σ.ks most d x)) J:=by
 have B:=h.rJ O (λy j=>(Y y j).1) h1;have hl:=B.tx.hl;have U:∀y,n<=y->¬Ft y:=λy j e'=>by have:=(h.tx.hl y e').2.1;omega
 refine AA (Z6 (S:=λy=>n<=y) B.tx hT hM Q hK ((CZ.reads hx).sub (λy _ j=>j.1) B_ λr o ho=>ho.U' l_ F_ λy _ j=>j.1) U Z.pM (by have:=Z.len;omega) hm hN) ?_;rintro _ W2 ⟨rfl,⟨a1,f2,h2,m2⟩,V⟩;have z1:=O.size;refine⟨rfl,⟨_,λy j=>?_,(B.text m2 f2 h2).i,?_⟩,V⟩;rcases j with rfl|j|j|j;exact .inl (hF _ (.inl rfl));rcases f2 y j with j|j;exact .inl (hF _ (.inr (.inl j)));exact .inr E;rcases(Y y j).1 with j|j;exact .inl (hF _ (.inr (.inr (.inl j))));exact .inr j;exact .inl (hF _ (.inr (.inr (.inr j))));exact(O.mono λy _ j=>hF _ (.inr (.inr (.inl j)))).trans (m2.mono λy _ j=>hF _ (.inr (.inl j)))
def SR(h:MF w0 F W e σ most d clip H N)(U:DV w0)(V:FV σ.ks most d)(i:σ.ks.length<=64)(X:∀k∈σ.ks,Cq k)(j:H.op=false)(o:H.us.length<=65536)(B:H.rs.length<=65536) (hb:∀g∈H.us,jx g.u/\N+CK 4000 g.u<=1000000000)(hm:most<=2000) : AF prog 22 [g_ e.b] (λv' w'=>(H.us=[]/\v'=zI 10/\AI W w')\/ ∃ l g,H.us=l++[g]/\v'=zI (BY σ.ks g.u d.length most)/\YA w0 F W w' e σ most (CC σ.ks most d g.u) clip { H with us:=l,rs:=H.rs++[g] } (N+CK 4000 g.u)/\FV σ.ks most (CC σ.ks most d g.u)) W:=by
 obtain⟨Ft,Fh,Fc,Q,h,hF⟩:=h;apply H_ func22;apply AA (EM h.box);rintro _ _ ⟨rfl,rfl⟩;rename e_=>W;refine AS (AJ ?_);rw[AB,AH];apply AD (h.box.cells 2 _ rfl);apply AA (HL.ui h.hi j o B λg Y=>(hb g Y).1.m);rintro _ W1 (⟨hu,Q,rfl,Z⟩|⟨l,g,Q,n,a1,hu,rfl,hn,ho,h1,J,O⟩);refine Af (vs:=[_,_]) rfl (Af (vs:=[_,_]) rfl ?_);rw[BH];exact AT (λe=>absurd e B_) λ_=>.inl ⟨hu,rfl,Z⟩;refine Af (vs:=[_,_]) rfl (Af (vs:=[_,_]) rfl ?_);refine KU ?_;obtain⟨q1,q2⟩:=hb g (by rw[hu];simp);apply AJ;rw[AB,AH];apply AD ((h.rJ O (λy hy=>(J y hy).1) h1).box.cells 1 _ rfl);apply AA (MF.H9 h hF hn ho J h1 O U V i X q1 hm q2);rintro _ W2 ⟨rfl,h2,I⟩;exact .inr ⟨l,g,hu,rfl,h2,I⟩
end
def Is(ks:Y')(f:DKey->Bool)(s:W_):W_:=s.filter λa=>match Bg ks a.key with|some k=>f k|none=>false
def cT(ks:Y')(f:DKey->Bool)(s:W_):(Is ks f s).length<=s.length:=xT _ _
def UC{S A_:f_}{s:W_}{f:DKey->Bool}(hS:Cg A_ w sv ks)(h:CI S w v s)(hl:s.length<=1000000) (hf:∀W (k:DKey) (K:Cont),AI w W->(∀W',AI W W'->K (.bool (f k)) W')->DD prog En fr [.agg k.cells.toArray] K W) : AF prog 201 [sv,v,fr] (λv' w'=>AG w.heap.size 116 5 Ch w' v' (Is ks f s)/\AI w w') w:=by
 refine I' func201 ?_ (.y (.y (.x (.y (.node [7,14] [(7,7),(9,11),(14,35)] (.y (.y (.cut [7] [(7,7),(9,11),(16,34)] .nil .nil))) .nil)))));obtain⟨a,c,rfl,_⟩:=h.AO;rw[AP];apply AX (λvs W=>∃(i:Nat) (Q:d_),i<=s.length/\vs=[Q,zI i]/\AG w.heap.size 116 5 Ch W Q (Is ks f (s.take i))/\AI w W) (λvs _=>s.length-Di vs 1) ⟨0,_,Hw _,rfl,AG.nil,AK.refl _ _⟩;rintro vs W ⟨i,Q,hi,rfl,ho,g⟩ _;simp only[Iu];refine HP (λak=>?_) λal=>?_;rotate_left;obtain rfl:i=s.length:=E;rw[Nr] at ho;exact⟨ho,g⟩;have o:i<s.length:=E;have a6:=cT ks f (s.take i);rw[K8] at a6;refine AV (λvs W'=>∃B,vs=[B]/\AG w.heap.size 116 5 Ch W' B (Is ks f (s.take (i+1)))/\AI w W') ?_ ?_;rintro vs W' ⟨B,rfl,a7,g'⟩ _;simp only[JS];rw[AR,AM E];exact⟨⟨i+1,B,o,rfl,a7,g'⟩,by rw[BE,BE];omega⟩;obtain⟨p,r,rfl,_,hr,hc,rfl⟩:=(h.U_ g B_ C0).get o;refine AW o (Ab hr m_ ?_);refine Bx.new (vs:=s[i].cells) rfl rfl (Ch.one (w:=W) (x:=s[i]) rfl) λb9 W1 an g1 B9=>?_;rw[AB,AH];apply AD (B9.cells 0 _ rfl);have V:=g.trans g1;apply AA (Ks (hS.U_ V) _);rintro _ W2 ⟨rfl,g2⟩;refine Af (vs:=[_,_]) rfl (Af (vs:=[_,_]) rfl ?_);refine Bx.new (vs:=((Bg ks s[i].key).getD DKey.zero).cells) rfl rfl (IC.one (w:=W) (x:=(Bg ks s[i].key).getD DKey.zero) rfl) λav W3 aa g3 X=>?_;have J:=g2.trans g3;have I:=V.trans J;have O:AG w.heap.size 116 5 Ch W3 Q (Is ks f (s.take i)):=AG.U' ho (g1.trans J) C0 F_;have U:Is ks f (s.take (i+1))=Is ks f (s.take i)++Is ks f [s[i]]:=by
  unfold Is;rw[Lc,By o,yS];rfl
 cases hk:Bg ks s[i].key with
 |none=>
  have Y:Is ks f [s[i]]=[]:=by simp[Is,hk]
  rw[Y,Ty] at U;exact AS ⟨Q,rfl,by rw[U];exact O,I⟩
 |some k=>
  rw[hk] at X;apply Ai;apply X.GN rfl;refine hf W3 k _ I λW4 Z=>?_;cases a1:f k with
  |false=>
   have Y:Is ks f [s[i]]=[]:=by simp[Is,hk,a1]
   rw[Y,Ty] at U;exact AS ⟨Q,rfl,by rw[U];exact AG.U' O Z C0 F_,I.trans Z⟩
  |true=>
   have Y:Is ks f [s[i]]=[s[i]]:=by simp[Is,hk,a1]
   rw[Y] at U;apply Ai;apply(B9.U_ (J.trans Z)).GN rfl;have a8:AG w.heap.size 116 5 Ch W4 Q (Is ks f (s.take i)):=AG.U' O Z C0 F_;refine ME (w0:=w) JI a8 (I.trans Z) (cs:=s[i].cells) (x:=s[i]) C_ rfl rfl (λ_ _ _=>Ch.one) N_ E L_ λv' w' o' g'=>?_;exact⟨v',rfl,by rw[U];exact o',g'⟩
def ad{k:DKey}:AF prog 206 [.agg k.cells.toArray] (λv w'=>v=.bool (k.block&&k.after)/\AI w w') w:=by
 apply H_ func206;refine Bx.box λb o hb i B=>?_;rw[AB,AH];apply AD (B.cells 1 _ rfl);cases j:k.block with
 |false=>exact AS ⟨rfl,i⟩
 |true=>
  apply Ai;rw[AB,AH];exact AD (B.cells 3 _ rfl) ⟨D_,i⟩
def Zs{k:DKey}:AF prog 202 [.agg k.cells.toArray] (λv w'=>v=.bool (!k.block&&k.after)/\AI w w') w:=by
 apply H_ func202;refine Bx.box λb o hb i B=>?_;rw[AB,AH];apply AD (B.cells 1 _ rfl);rw[Aq];cases j:k.block with
 |true=>exact AS ⟨rfl,i⟩
 |false=>
  apply Ai;rw[AB,AH];exact AD (B.cells 3 _ rfl) ⟨D_,i⟩
def cD{k:DKey}:AF prog 203 [.agg k.cells.toArray] (λv w'=>v=.bool (!k.block&&k.J3)/\AI w w') w:=by
 apply H_ func203;refine Bx.box λb o hb i B=>?_;rw[AB,AH];apply AD (B.cells 1 _ rfl);rw[Aq];cases j:k.block with
 |true=>exact AS ⟨rfl,i⟩
 |false=>
  apply Ai;rw[AB,AH];exact AD (B.cells 4 _ rfl) ⟨D_,i⟩
def jE(ks:Y')(s:W_):W_:=Is ks (λk=>k.block&&k.after) s
def jk{S A_:f_}{s:W_}(i:Cg A_ w sv ks)(h:CI S w v s)(hl:s.length<=1000000) : AF prog 133 [sv,v] (λv' w'=>AG w.heap.size 116 5 Ch w' v' (jE ks s)/\AI w w') w:=by
 apply G_ func133;refine AA (UC (f:=λk=>k.block&&k.after) i h hl λW k K g j=>?_) C0;refine Fa C_ (AA ad ?_);rintro _ o ⟨rfl,B⟩;exact j o B
def iK(ks:Y')(s:W_):W_:=Is ks (λk=>!k.block&&k.after) s
def lf(ks:Y')(s:W_):W_:=Is ks (λk=>!k.block&&k.J3) s
def bE{S S' A_:f_}{l r:W_}(I:Cg A_ w sv ks)(h:CI S w v l)(h':CI S' w fr r)(hl:l.length<=1000000)(hr:r.length<=1000000)(O:lf ks r=[]) : AF prog 132 [sv,v,fr] (λv' w'=>AG w.heap.size 116 5 Ch w' v' (iK ks l)/\AI w w') w:=by
 refine I' func132 ?_ (.y (.y (.x (.y (.node [7,19] [(7,7),(9,11),(19,35)] .nil .nil)))));refine AA (UC (f:=λk=>!k.block&&k.after) I h hl λW k K g i=>?_) ?_;refine Fa C_ (AA Zs ?_);rintro _ o ⟨rfl,B⟩;exact i o B;rintro lo Y ⟨Q,j⟩;refine AA (UC (f:=λk=>!k.block&&k.J3) (I.U_ j) (h'.U_ j B_ C0) hr λW k K g i=>?_) ?_;refine Fa C_ (AA cD ?_);rintro _ o ⟨rfl,B⟩;exact i o B;rintro ro U ⟨V,J⟩;obtain⟨Z,c2,rfl,_⟩:=AG.AO V;have X:(Is ks (λk=>!k.block&&k.J3) r).length=0:=by
  have:Is ks (λk=>!k.block&&k.J3) r=[]:=O;rw[this];rfl
 rw[AP];apply AX (λvs W=>vs=[lo,zI 0]/\W=U) (λ_ _=>0) ⟨rfl,rfl⟩;rintro vs _ ⟨rfl,rfl⟩ _;simp[Yv,Bh,wL];rw[As,X];exact AE (λe=>absurd e D_) λ_=>⟨AG.U' Q J C0 F_,j.trans J⟩
def RZ(ks:Y')(left line:W_)(r:Int):Dop:=⟨2,0,[r],if r=10 then jE ks line else iK ks left,[]⟩
def HV(ks:Y')(p:Int)(l:X_)(left line:W_):V':=⟨1,p,[],[],[]⟩::l.map (RZ ks left line)
def ZS(x:V')(o:Dop):BB (x++[o])=BX (BB x) o:=by unfold BB;rw[wG];rfl
def dB{A_ S S1 S2 S3:f_}{sv lv av rv nv:d_}{p:Int}{l:X_}{left right line:W_}(hS:Cg A_ w sv ks)(hl:Jl S w lv l) (h1:CI S1 w av left)(h2:CI S2 w rv right)(h3:CI S3 w nv line)(b1:left.length<=1000000)(b2:right.length<=1000000)(b3:line.length<=1000000)(hn:lf ks right=[])(hm:Aa (HV ks p l left line)<=68719476736) : AF prog 69 [sv,zI p,lv,av,rv,nv] (λv' w'=>CZ w.heap.size w' v' (AL (HV ks p l left line))/\AI w w') w:=by
 refine T_ func69 ?_ (.y (.y (.y (.y (.x (.y (.node [32] [(17,18),(32,45)] (.y (.y (.x (.y (.y (.cut [18] [(18,18),(37,39)] .nil .nil)))))) .nil)))))));have an:Cg (λy=>y<w.heap.size) w sv ks:=hS.sub λb hb h=>hb;have Y:Jl (λy=>y<w.heap.size) w lv l:=hl.sub (λb hb h=>hb) B_ C0;have ax:CI (λy=>y<w.heap.size) w av left:=h1.sub (λb hb h=>hb) B_ C0;have ay:CI (λy=>y<w.heap.size) w rv right:=h2.sub (λb hb h=>hb) B_ C0;have b0:CI (λy=>y<w.heap.size) w nv line:=h3.sub (λb hb h=>hb) B_ C0;apply AA LC;rintro _ w1 ⟨g1,b,b6,bp,rfl,b7⟩;have Z:Ii (λy=>w.heap.size<=y) w1 b MkS.z:=b7.sub λy j=>by rw[j];exact b6
 apply AA (EO (n:=p) (p:=[]) (S:=λ_=>False) Z BC.nil K_ B_ D_);rintro _ U ⟨b8,m2⟩;have z1:=g1.size;have z2:=m2.size;have J:AI w U:=g1.next m2 E;have a1:=an.U_ J;apply AA (bE a1 (ax.U_ J B_ C0) (ay.U_ J B_ C0) b1 b2 hn);rintro tv w3 ⟨o3,g3⟩;apply AA (jk (a1.U_ g3) ((b0.U_ J B_ C0).U_ g3 B_ C0) b3);rintro X I ⟨o4,g4⟩;have z3:=g3.size;have z4:=g4.size;have a6:=J.trans (g3.trans g4);have t3:CI (λy=>U.heap.size<=y/\y<I.heap.size) I tv (iK ks left):=((AG.sl o3).U_ g4 B_ C0).sub (λx Q h=>⟨h.1,Q⟩) B_ C0;have t4:CI (λy=>U.heap.size<=y/\y<I.heap.size) I X (jE ks line):=(AG.sl o4).sub (λx Q h=>⟨by have:=h.1;omega,Q⟩) B_ C0;have a7:Ii (λy=>w.heap.size<=y/\(y<U.heap.size\/I.heap.size<=y)) I b (GM MkS.z p []):=(b8.lt.U' (g3.trans g4) C0).sub λy j=>⟨by have:=j.1;omega,.inl j.2⟩;have ex:∀k,BB ((HV ks p l left line).take (k+1))=((l.take k).map (RZ ks left line)).foldl BX (GM MkS.z p []):=by
  intro k;unfold BB HV;rw[wX,wP,wR];rfl
 have e0:GM MkS.z p []=BB ((HV ks p l left line).take 1):=(ex 0).symm;rw[e0] at a7;have bs:l.length+1<=Aa (HV ks p l left line):=by have:=Bo (HV ks p l left line);simpa[HV] using this
 obtain⟨a,c,rfl,_⟩:=Y.AO;rw[AP];apply AX (λvs W=>∃k:Nat,k<=l.length/\vs=[zI k]/\Ii (λy=>w.heap.size<=y/\(y<U.heap.size\/I.heap.size<=y)) W b (BB ((HV ks p l left line).take (k+1)))/\AK (λy=>w.heap.size<=y/\(y<U.heap.size\/I.heap.size<=y)) I W) (λvs _=>l.length-Di vs 0) ⟨0,Hw _,rfl,a7,AK.refl _ _⟩;rintro vs W ⟨k,hk,rfl,hI,g⟩ _;simp only[Bh,JS];refine HP (λc4=>?_) λc6=>?_;rotate_left;obtain rfl:k=l.length:=E;rw[wM (by simp[HV])] at hI;have c7:=Fu (HV ks p l left line);apply AA (Kh hI E);rintro v5 w5 ⟨a8,g5⟩;have z:=g.size;refine⟨AG.U' (AG.Bk a8 λg hg=>by have:=(AG.Az a8 g hg).1;omega) l_ C0 λr x _ Q=>Q.U' l_ F_ λy _ j=>⟨E,j.2⟩,?_⟩;exact(a6.next g λx Q e=>by have:=e.1;omega).trans g5;have O:k<l.length:=E;have zW:=g.size;have b9:AI w W:=a6.next g λx Q e=>by have:=e.1;omega
 obtain⟨q,r,rfl,_,hr,hc,rfl⟩:=(Y.U_ b9 B_ C0).get O;refine AW O (AD (by have:=hc 0 _ rfl;exact this) ?_);refine AV (λvs B=>∃V,vs=[V]/\B=W/\CI (λy=>U.heap.size<=y/\y<I.heap.size) W V (RZ ks left line l[k]).set) ?_ ?_;rotate_left;rw[Aj];refine AE (λhe=>?_) λhe=>?_;refine⟨X,rfl,rfl,?_⟩;show CI _ W X (if l[k]=10 then jE ks line else iK ks left);rw[Cx he];exact BC.U' t4 g (λx _ Q e=>by rcases e.2 with e|e<;>omega) B_ C0;refine⟨tv,rfl,rfl,?_⟩;show CI _ W tv (if l[k]=10 then jE ks line else iK ks left);rw[Bp he];exact BC.U' t3 g (λx _ Q e=>by rcases e.2 with e|e<;>omega) B_ C0;rintro vs B ⟨V,rfl,rfl,aa⟩ _;simp[JS];apply GY (Dj (v:=.int .i32 l[k]) (vs:=[.int .i32 l[k]]) (k:=1) rfl B_ rfl rfl);have ga:AI B (B.alloc (.cells [Value.int .i32 l[k]].toArray 21)):=AK.alloc _ _ _;have ho:AG B.heap.size 21 1 CM (B.alloc (.cells [Value.int .i32 l[k]].toArray 21)) (.slice (h_ B.heap.size) 1 1) [l[k]]:=AG.N5 (HK _) rfl (λu hu=>by simp at hu;subst hu;rfl) rfl;have c8:=ga.size;have ba:Ii (λy=>(w.heap.size<=y/\(y<U.heap.size\/I.heap.size<=y))/\y<B.heap.size) (B.alloc (.cells [Value.int .i32 l[k]].toArray 21)) b (BB ((HV ks p l left line).take (k+1))):=(hI.lt).U' ga C0;have bb:Jl (λy=>(U.heap.size<=y/\y<I.heap.size)\/y=B.heap.size) (B.alloc (.cells [Value.int .i32 l[k]].toArray 21)) (.slice (h_ B.heap.size) 1 1) [l[k]]:=BC.sub (AG.sl ho) (λx Q h=>.inr (by have:=h.2;simp[Value.ownBlock,S5] at this;exact this.symm)) B_ C0;have ak:CI (λy=>(U.heap.size<=y/\y<I.heap.size)\/y=B.heap.size) (B.alloc (.cells [Value.int .i32 l[k]].toArray 21)) V (RZ ks left line l[k]).set:=(aa.U_ ga B_ C0).sub (λ_ _ h=>.inl h) B_ C0;have c9:=Fu ((HV ks p l left line).take (k+1));have bk:=Jc (HV ks p l left line) (k+1);have ca:=Bo (BB ((HV ks p l left line).take (k+1))).ins;have al:RZ ks left line l[k]∈HV ks p l left line:=aN _ (i7.2 ⟨l[k],Q0 O,rfl⟩);have cc:=EP al;have ch:(RZ ks left line l[k]).set.length<=Eo (RZ ks left line l[k]).set:=by rw[LL];omega
 have bl:Eo (RZ ks left line l[k]).set<=Co (RZ ks left line l[k]):=by unfold Co;omega
 refine AA (Hd ba bb ak (λy j e=>by rcases j with j|j;(have:=e.1.2;omega);(have:=e.2;omega)) E (λo ho=>?_) D_ E) ?_;have h1:=EP ho;simp[Co] at h1;simp;omega;rintro _ W3 ⟨h3,m3⟩;rw[AR,AM E];refine⟨⟨k+1,O,rfl,?_,?_⟩,by rw[CL,CL];omega⟩;have e1:(HV ks p l left line).take (k+1+1)=(HV ks p l left line).take (k+1)++[RZ ks left line l[k]]:=by
  rw[Lc (i:=k+1)];congr 1;simp[HV,By O]
 rw[e1,ZS];exact h3.sub λy j=>by rcases j with j|j;(exact j.1);(exact⟨E,.inr E⟩)
 exact(g.trans (ga.mono E')).trans (m3.mono λy _ j=>j.1)
section
variable {w0:e_}{F:f_}{W:e_}{a:TxA}{σ:SKs}{most:Int}{d clip:Y_}{N:Nat}{H:Hist}{e:EgA}{Ft Fh Fc:f_}{cv:d_}
def eG{i:Int}(h:IM .f w0 F W a σ most d N)(hi:i<0\/(d.length:Int)<=i) : AF prog 134 [g_ a.b,zI i] (λv' w'=>v'=.tuple #[.agg #[.int .i32 0,i_],zI 5]/\AI W w') W:=by
 refine G_ func134 ?_ (.y (.y (.cut [] [(5,5),(12,20)] .nil .nil)));refine Bx.zero λb J hb Q B=>?_;have h1:=h.U_ Q;apply AA (FW h1.box.1);rintro _ _ ⟨rfl,rfl⟩;rename e_=>J;rw[Aq];apply AS;have EU:∀(o:e_) (K:Cont),AI J o->(∀j,AI W j->K (.agg #[.int .i32 0,i_]) j)->DW [(0,1),(1,1)] [.int .i32 0,i_] [] (λt=>Bu 2 (g_ b) t (λU=>DT 2 (g_ b) (λV w4=>K V w4) U) o):=λo K I X=>by
  refine⟨#[.int .i32 0,i_],C_,?_⟩;refine(B.U_ I).Au (us:=[.int .i32 0,i_]) rfl rfl n_ λj Y Z=>?_;exact Y.GN rfl (X j ((Q.trans I).next Z E))
 apply AV (λ_ _=>False) E';refine HP (λe=>?_) λe=>?_;exact EU J _ (AK.refl _ _) λj O=>⟨rfl,O⟩;apply AA (GV h1);rintro _ o ⟨rfl,I⟩;rw[DR];exact AE (λ_=>EU o _ I λj O=>⟨rfl,O⟩) E
def fE(n p XV most:Int):Int:=if p<0\/n<p then 5 else if p=n then 6 else if most<n+XV then 8 else 0
def Ta{p XV:Int}(h:Ov w0 Ft Fh Fc W e cv σ most d clip H N)(J:d.length<=1099511627776)(hm:0<=XV/\XV<=1099511627776) : AF prog 67 [g_ e.b,zI p,zI XV] (λv' w'=>v'=zI (fE d.length p XV most)/\AI W w') W:=by
 refine I' func67 ?_ (.y (.y (.x (.cut [13] [(13,20)] .nil .nil))));apply AJ;rw[AB,AH];apply AD (h.box.cells 1 _ rfl);apply AA (GV h.tx);rintro _ B ⟨rfl,i⟩;refine AV (λvs I=>I=B/\vs=[.bool (decide (p<0\/(d.length:Int)<p))]) ?_ ?_;rotate_left;rw[As];refine AE (λe=>⟨rfl,by simp[e]⟩) λe=>?_;rw[BM];exact⟨rfl,by simp[e]⟩;rintro vs _ ⟨rfl,rfl⟩ _;simp only[Bh,JS];unfold fE;refine AE (λe=>?_) λe=>?_;rw[Cx e];exact⟨rfl,i⟩;rw[Bp e,Aj];refine AE (λj=>?_) λj=>?_;rw[Cx j];exact⟨rfl,i⟩;rw[Bp j,AR,wrap64 E E];apply AJ;rw[AB,AH];apply AD ((h.U_ i).box.cells 3 _ rfl);rw[BM];refine AE (λo=>?_) λo=>?_;rw[Cx o];exact⟨rfl,i⟩;rw[Bp o];exact⟨rfl,i⟩
def NL(d:Y_)(i:Int):W_:=if 0<=i then match d[i.toNat]? with|some c=>if c.r=10 then[] else c.set|none=>[] else[]
def Sn{i:Int}(h:Ov w0 Ft Fh Fc W e cv σ most d clip H N)(Y:∀c∈d,FM σ.ks c.set)(Z:d.length<=10000000)(hN:N<=1000000000) : AF prog 70 [g_ e.b,zI i] (λv' w'=>CI (λx=>W.heap.size<=x/\x<w'.heap.size) w' v' (NL d i)/\AI W w') W:=by
 apply G_ func70;apply AJ;rw[AB,AH];apply AD (h.box.cells 1 _ rfl);by_cases hi:i<0\/(d.length:Int)<=i;have U:NL d i=[]:=by
  unfold NL;split;rw[i6 E];rfl
 apply AA (eG h.tx hi);rintro _ W1 ⟨rfl,o⟩;refine Af (vs:=[_,_]) rfl (Af (vs:=[_,_]) rfl ?_);refine Bx.new (vs:=[.int .i32 0,i_]) rfl rfl n_ λb I hb j B=>?_;rw[BH];refine AT (λe=>absurd e B_) λ_=>?_;rw[U];exact⟨BC.nil,o.trans j⟩;obtain⟨n,rfl⟩:∃n:Nat,i=n:=⟨i.toNat,E⟩;have V:n<d.length:=E;have U:NL d n=if d[n].r=10 then[] else d[n].set:=by
  unfold NL;rw[Cx E,wI,By V]
 apply AA (nZ h.tx V Y Z hN);rintro _ W1 ⟨_,rfl,⟨sv,rfl,X⟩,o⟩;refine Af (vs:=[_,_]) rfl (Af (vs:=[_,_]) rfl ?_);obtain⟨sa,sc,J,_⟩:=id X.AO;refine Bx.new (vs:=[.int .i32 d[n].r,sv]) rfl rfl (λu hu=>by subst J;simp at hu;rcases hu with rfl|rfl<;>rfl) λb I hb j B=>?_;have O:CI (λx=>W.heap.size<=x/\x<I.heap.size) I sv d[n].set:=(X.U_ j B_ C0).sub (λx hx h=>⟨h.1,hx⟩) B_ C0;refine KU ?_;rw[AB,AH];apply AD (B.cells 0 _ rfl);rw[Aj,U];refine AE (λQ=>?_) λQ=>?_;rw[Cx Q];exact⟨BC.nil,o.trans j⟩;rw[Bp Q,AB,AH];exact AD (B.cells 1 _ rfl) ⟨O,o.trans j⟩
end
section
variable {w0:e_}{F:f_}{w:e_}{a:TxA}{σ:SKs}{most:Int}{d clip:Y_}{N:Nat}{H:Hist}{e:EgA}{Ft Fh Fc Rd:f_}{cv:d_}{b3 b4 b5:Nat}
def OY(l:X_){i j:Nat}(h:i<=j):Bj (l.take i)<=Bj (l.take j):=by
 have e:l.take i=(l.take j).take i:=by rw[xH,u6 h]
 have:=Gg ((l.take j).take i) ((l.take j).drop i);rw[QC] at this;rw[e];omega
def Vy{l:X_}{i:Nat}(h:i<l.length)(hl:l.getLast?=some 10):Bj (l.take i)<Bj l:=by
 obtain⟨m,c,rfl⟩:∃m c,l=m++[c]:=by
  rcases tG l with o|⟨m,c,o⟩;rw[o] at hl;cases hl;exact⟨m,c,by rw[o,vq]⟩
 rw[R0,WJ] at hl;obtain rfl:c=10:=by simpa using hl
 rw[Ad,xD] at h;have e:(m++[10]).take i=m.take i:=xZ E;rw[e,Gg];have h1:Bj (m.take i)<=Bj m:=by have:=OY m (i:=i) (j:=m.length) E;rwa [Nr] at this
 have B:Bj [(10:Int)]=1:=rfl;omega
def TT(d:Y_)(i:Nat):Nat:=Bj ((BA d).take i)
def ky(d:Y_)(i j:Nat):Nat:=Bj ((BA d).take (max i (j-1)))
def aM{i j:Nat}(h:Ov w0 Ft Fh Fc w e cv σ most d clip H N)(B3:Bx w b3 [g_ e.b])(B4:Bx w b4 [zI (i:Int)])(B5:Bx w b5 [zI (j:Int)]) (hR:∀y,y<w.heap.size->(y<w0.heap.size\/Ft y\/σ.S y\/y=e.b\/y=b3\/y=b4\/y=b5)->Rd y)(h4:∀y,Rd y->y<w.heap.size)(hM:Hy σ.ks d)(hi:i<d.length)(hj:j<=d.length)(hz:d.length<=10000000)(hN:N<=1000000000) : nQ (λ_=>False) (λ_=>False) prog 128 [g_ b3,g_ b4,g_ b5] (λk o W a=>∃(p:Nat) (sv:d_) (set:W_),JB (BA d) (TT d i+k)=some p/\(CS d)[TT d i+k]?=some set/\a=[zI (p:Int),sv]/\CI o W sv set) (ky d i j+1-TT d i) Rd w:=by
 intro yl J Jx w1 g1 h0 an bs MU Q;refine O_ func128 ?_ (.z (.dm [5] [0,1,3,7,0,31,63,127,127,255,1023]) (.z (.dm [8] [0,1,3,7,0,0,32,112,255,511,1023,1023,2047,8191]) (.y (.y (.node [10] [(10,12),(40,63)] .nil .nil)))));have av:=h.tx.hl;have ax:=h.tx.Iy.2;have c7:=h.tx.g.size;have ay:=B3.lt (P9 _);have R3:Rd b3:=hR b3 ay D_;have R4:Rd b4:=hR b4 (B4.lt (P9 _)) D_;have R5:Rd b5:=hR b5 (B5.lt (P9 _)) D_;have Re:Rd e.b:=hR e.b (h.box.lt D_) D_
 let U:Nat->(f_)->e_->Prop:=λk o W=>J k o W/\AK (λy=>¬Rd y) w W/\∀y,o y->y<W.heap.size
 have b0:U 0 (λ_=>False) w1:=⟨h0,g1.mono E',K_⟩;have B:∀{k o W W'},U k o W->AI W W'->U k (λy=>o y\/(W.heap.size<=y/\y<W'.heap.size)) W':=λ{k o W W'} ⟨j,m,il⟩ g=>by
  have zg:=g.size;exact⟨an k o _ W W' j (g.mono E') λy hy=>⟨hy.imp id aAN,by rcases hy with h|h;have:=il y h;omega;exact h.2⟩,m.next g E',λy hy=>by rcases hy with h|h;have:=il y h;omega;exact h.2⟩
 have V:∀ {k o W},U k o W->IM .f w0 Ft W e.t σ most d N:=λ{k o W} ⟨_,m,_⟩=>h.tx.U' m λx X=>⟨λhf=>X (hR x (av x hf).2.1 (by simp [hf])),λhs=>X (hR x (ax x hs) (by simp [hs])),by
  rcases zT x w0.heap.size with hh | hh;exact (X (hR x E (by simp [hh]))).elim;exact hh⟩
 have Y:∀{k o W},U k o W->Bx W b3 [g_ e.b]:=λ⟨_,m,_⟩=>B3.U' m λe=>e R3;have a6:∀{k o W},U k o W->Bx W b4 [zI (i:Int)]:=λ⟨_,m,_⟩=>B4.U' m λe=>e R4;have b6:∀{k o W},U k o W->Bx W b5 [zI (j:Int)]:=λ⟨_,m,_⟩=>B5.U' m λe=>e R5;have Z:∀{k o W},U k o W->Bx W e.b (tS σ.sv e most cv):=λ⟨_,m,_⟩=>h.box.U' m λe=>e Re;have b7:(BA d).length=d.length:=FA _;have c8:ky d i j<Bj (BA d):=Vy (by rw[b7];omega) hM.Jr;have b8:=Eh d;have c9:=Fw (BA d);have gd:AI w1 w1.drew:=AK.drew _ _;have s1:=B b0 gd;apply Ag (λ_ _=>False);apply AU ⟨(Y s1).cells 0 _ rfl,C0⟩;apply AJ;rw[AB,AH];apply AU ⟨(Z s1).cells 1 _ rfl,C0⟩;apply AU ⟨(a6 s1).cells 0 _ rfl,C0⟩;apply AA (Oo (V s1) E hz);rintro _ w2 ⟨rfl,g2⟩;refine⟨g2.mono E',?_⟩;refine Af (vs:=[_,_]) rfl (Af (vs:=[_,_]) rfl ?_);have s2:=B (B s1 g2) (AK.drew (λ_=>False) _);apply Ag (λ_ _=>False);apply AU ⟨(Y s2).cells 0 _ rfl,C0⟩;apply AJ;rw[AB,AH];apply AU ⟨(Z s2).cells 1 _ rfl,C0⟩;apply AU ⟨(a6 s2).cells 0 _ rfl,C0⟩;apply AU ⟨(b6 s2).cells 0 _ rfl,C0⟩;rw[A6,wrap64 E E,HS];have b9:(if(j:Int)-1>(i:Int) then(j:Int)-1 else(i:Int))=((max i (j-1):Nat):Int):=by split<;>omega
 rw[b9];apply AA (Oo (V s2) E hz);rintro _ w3 ⟨rfl,g3⟩;refine⟨g3.mono E',?_⟩;refine Af (vs:=[_,_]) rfl (Af (vs:=[_,_]) rfl ?_);have s3:=B s2 g3;apply AD ((Y s3).cells 0 _ rfl);apply AJ;rw[AB,AH];apply AD ((Z s3).cells 1 _ rfl);apply AA (Wl (V s3) hM.set hz hN);rintro pv w4 ⟨hp,g4⟩;have s4:=B s3 g4;generalize a7:(λy=>_\/(w3.heap.size<=y/\y<w4.heap.size))=I4 at s4;have a8:BC I4 1 (Dr I4) w4 pv (CS d):=by
  rw[<-a7];exact hp.sub (λx _ h=>.inr h) B_ λr x ⟨sv,e1,X⟩=>⟨sv,e1,X.sub (λx _ h=>.inr h) B_ C0⟩
 clear a7 hp;obtain⟨pa,pc,rfl,_⟩:=a8.AO;apply AX (λvs W=>∃(k:Nat) (o:f_),k<=ky d i j+1-TT d i/\vs=[zI ((TT d i+k:Nat):Int)]/\U k o W/\BC o 1 (Dr o) W (.slice pa (CS d).length pc) (CS d)) (λvs _=>ky d i j+1-Di vs 0) ⟨0,I4,Hw _,rfl,s4,a8⟩;rintro vs W ⟨k,o,hk,rfl,I,ba⟩ _;simp only[Bh,JS];rw[GI];refine AE (λbb=>?_) λbk=>?_;rotate_left;obtain rfl:k=ky d i j+1-TT d i:=by
  have c4:¬((TT d i+k:Nat):Int)<=((ky d i j:Nat):Int):=bk;omega
 exact⟨o,.inl I.1⟩;have c6:TT d i+k<=ky d i j:=by
  have:((TT d i+k:Nat):Int)<=((ky d i j:Nat):Int):=bb;omega
 apply AD ((Y I).cells 0 _ rfl);apply AJ;rw[AB,AH];apply AD ((Z I).cells 1 _ rfl);rw[AR,wrap64 E E,(E:(((TT d i+k:Nat):Int)+1)=((TT d i+k+1:Nat):Int))];apply AA (bF (V I) hz);rintro _ W5 ⟨rfl,g5⟩;obtain⟨p,aa,ca⟩:=PW (l:=BA d) (k:=TT d i+k) E;have eo:PK (BA d) (TT d i+k+1)=.tuple #[zI ((p+1:Nat):Int),zI 0]:=by
  unfold PK;rw[Bp E,Bp E,(E:TT d i+k+1-1=TT d i+k),aa]
 rw[eo];refine Af (vs:=[_,_]) rfl (Af (vs:=[_,_]) rfl ?_);rw[A6,wrap64 E E,(E:(((p+1:Nat):Int)-1)=(p:Int))];have s5:=B I g5;have a1:TT d i+k<(CS d).length:=E;have ak:BC o 1 (Dr o) W5 (.slice pa (CS d).length pc) (CS d):=ba.U_ g5 B_ λr x ⟨sv,e1,X⟩=>⟨sv,e1,X.U_ g5 B_ C0⟩;obtain⟨q,r,rfl,_,hr,hc,sv,rfl,bl⟩:=ak.get a1;refine AW a1 (AD (by have:=hc 0 _ rfl;exact this) ?_);have cc:=s5;refine .inr ⟨yl,rfl,HD (Q k _ W5 _ E s5.1 ⟨p,sv,(CS d)[TT d i+k],aa,By a1,rfl,bl.sub (λx _ h=>.inl h) B_ C0⟩) ?_⟩;rintro vv W6 ⟨ch,O,hq,⟨rfl,al⟩|⟨rfl,UF⟩⟩;have bp:=MU (k+1) _ W6 al;rw[Aq];apply AS;rw[AR,AM E];refine⟨⟨k+1,_,E,rfl,⟨al,⟨hq.1.trans s5.2.1.os,hq.2.1.trans s5.2.1.tape,hq.2.2.trans s5.2.1.output,by have:=s5.2.1.size;omega,λb hb hn=>bp b hb (yM.1 hn)⟩,λy hy=>by have:=s5.2.2 y hy;omega⟩,?_⟩,by rw[CL,CL];omega⟩;exact BC.mono ak (λ_ _ h=>.inl h) (λb hb h=>O b (.inl h)) B_ λr x ⟨sv,e1,X⟩=>⟨sv,e1,BC.mono X (λ_ _ h=>.inl h) (λb hb h=>O b (.inl h)) B_ C0⟩;rw[Aq];exact Ai ⟨_,.inr UF⟩
end
section
variable {w0:e_}{F Ft Fh Fc:f_}{W W':e_}{e:EgA}{cv:d_}{σ:SKs}{most:Int}{d clip:Y_}{H:Hist}{N:Nat}
def aP{i j:Int}{o:d_}(h1:o.cells=#[o]) : AF prog 68 [o,zI i,zI j] (λv' w'=>∃b3 b4 b5,v'=.func (.func 128) #[] #[g_ b3,g_ b4,g_ b5]/\AI w w'/\Bx w' b3 [o]/\Bx w' b4 [zI i]/\Bx w' b5 [zI j]/\w.heap.size<=b3/\w.heap.size<=b4/\w.heap.size<=b5) w:=by
 apply I' func68;refine ES h1 λb3 Z B O Q=>?_;refine ES rfl λb4 w2 U I V=>?_;refine ES rfl λb5 w3 X J Y=>?_;have z1:=O.size;have z2:=I.size;exact⟨b3,b4,b5,rfl,(O.trans I).trans J,Q.U_ (I.trans J),V.U_ J,Y,B,E,E⟩
def aQ{bv:d_}{b l:X_}{p:Nat}{line:W_}{x:V'}(h:MF w0 F W e σ most d clip H N)(hT:DV w0)(hM:FV σ.ks most d)(hC:∀c∈d,GL σ.ks c)(e6:σ.ks.length<=64)(hK:∀k∈σ.ks,Cq k) (hb:Cc S W bv b)(e7:Bn b)(hr:CT b=some l)(eR:b.length<=1000000)(eV:l.length<=1000000)(hp:p<d.length)(eN:(d.length:Int)+l.length<=most)(a7:(CS d)[TT d p]?=some line)(hn:lf σ.ks (NL d p)=[])(hx:x=AL (HV σ.ks p l (NL d ((p:Int)-1)) line)) (hI:∀o∈x,IH o)(hl:x.length<=1000)(hm:most<=2000)(e8:Aa (HV σ.ks p l (NL d ((p:Int)-1)) line)<=68719476736)(hN:N+CK 4000 x<=1000000000)(e9:H.op=false)(hH:H.us.length<=H.max)(ea:H.max<=65536) : AF prog 18 [g_ e.b,zI (p:Int),bv] (λv' w'=>v'=zI (BY σ.ks x d.length most)/\YA w0 F W w' e σ most (CC σ.ks most d x) clip (if BY σ.ks x d.length most=0 then H.put x (AL (CY σ.ks d x)) else H) (N+CK 4000 x)/\FV σ.ks most (CC σ.ks most d x)) W:=by
 obtain⟨Ft,Fh,Fc,cv,h,hF⟩:=h;have a8:=h.lt;have bb:=h.tx.Iy.2;have eX:=h.tx.g.size;have ec:=hM.le;refine P' func18 ?_ (.y (.y (.y (.y (.y (.x (.y (.y (.x (.dm [10,13,15,16,17] [0,0,2,6,14,0,0,0,0,256,896,0,0,8064,0,32766,65535,131071]))))))))));refine ES rfl λb3 Y fo g1 B3=>?_;refine ES rfl λb4 W2 fs g2 B4=>?_;refine Bx.zero λb6 W3 fv g3 B6=>?_;have z1:=g1.size;have z2:=g2.size;have z3:=g3.size;have G3:=(g1.trans g2).trans g3;apply AD ((B3.U_ (g2.trans g3)).cells 0 _ rfl);apply AA (EM (h.U_ G3).box);rintro _ _ ⟨rfl,rfl⟩;rename e_=>W3;apply AS;have ch:Cc S W3 bv b:=hb.U_ G3 B_ C0;apply AA (VZ ch e7 (hT.U_ (h.U_ G3).tx.g) E);rintro _ W8 ⟨g8,cu⟩;rw[hr] at cu;obtain⟨sl,rfl,o8⟩:=cu;refine Af (vs:=[_,_]) rfl (Af (vs:=[_,_]) rfl ?_);refine Bx.zero λb7 W9 fx g9 B7=>?_;have z8:=g8.size;have z9:=g9.size;obtain⟨ed,ee⟩:=o8.one;refine B7.st (q:=0) (B_:0<1) ed ee λaa bk Z=>?_;have ga:=Z.size;have cx:AI W aa:=(G3.trans (g8.trans g9)).next Z E
 have bl:Bx aa b3 [g_ e.b]:=(B3.U_ ((g2.trans g3).trans (g8.trans g9))).U' Z (by have:=B3.lt (P9 _);omega);have ax:Bx aa b4 [zI (p:Int)]:=(B4.U_ (g3.trans (g8.trans g9))).U' Z (by have:=B4.lt (P9 _);omega);have ef:Bx aa b6 [zI 0]:=(B6.U_ (g8.trans g9)).U' Z (by have:=B6.lt (P9 _);omega);have gb:=B3.lt (P9 _);have gf:=B4.lt (P9 _);have gg:=B6.lt (P9 _);have gl:=B7.lt (P9 _);have eh:AG W3.heap.size 21 1 CM aa sl l:=AG.U' (AG.U' (R':=CM) o8 g9 C0 F_) Z (λg hg e=>by have:=(AG.Az o8 g hg).2;omega) F_;refine KU ?_;apply AD (bl.cells 0 _ rfl);apply AD (ax.cells 0 _ rfl);apply AD (bk.cells 0 _ rfl);obtain⟨sa,sc,rfl,_⟩:=AG.AO o8;rw[yw] at bk;rw[AP];apply AA (Ta (h.U_ cx) E ⟨E,E⟩);rintro _ gm ⟨rfl,J⟩;have ep:fE d.length p l.length most=0:=by
  unfold fE;rw[Bp E,Bp E,Bp E]
 rw [ep,BH];refine AT (λ_=>?_) λe=>(e rfl).elim;apply AD ((bl.U_ J).cells 0 _ rfl);apply AD ((ax.U_ J).cells 0 _ rfl);apply AD ((ax.U_ J).cells 0 _ rfl);apply AA (aP rfl);rintro _ B ⟨c3,c4,c5,rfl,U,C3,C4,C5,gp,gq,gr⟩;have gu:=J.size;have h6:=U.size;have bp:=(cx.trans J).trans U;have ei:=(bl.U_ J).U_ U;have ej:=(bk.U_ J).U_ U;have ek:AG W3.heap.size 21 1 CM B (.slice sa l.length sc) l:=AG.U' eh (J.trans U) C0 F_;have gv:(BA d).length=d.length:=FA _;refine ⟨_,_,_,_,_,_,_,rfl,C_,aM (Rd:=λy=>y < B.heap.size) (h.U_ bp) C3 C4 C5 (λy I _=>I) M_ hM.g hp E E E,λk _ _ a _ ⟨pp,sv,set,_,_,e,_⟩=>by rw [e];rfl,K_,?_⟩;refine ⟨λk It Y=>k=0/\AK (λy=>B.heap.size<=y) B Y/\∀ y,It y->B.heap.size<=y,
  λex It Y=>ex=.ret/\∃F',(∀y,F' y->(y=e.b\/Ft y\/Fh y\/Fc y)\/B.heap.size+2<=y)/\MF w0 F' Y e σ most (CC σ.ks most d x) clip (if BY σ.ks x d.length most=0 then H.put x (AL (CY σ.ks d x)) else H) (N+CK 4000 x)/\Bx Y b6 [zI (BY σ.ks x d.length most)]/\FV σ.ks most (CC σ.ks most d x)/\AK (λy=>(y=e.b\/Ft y\/Fh y\/Fc y)\/y=b6\/B.heap.size<=y) B Y,
  ⟨rfl,AK.refl _ _,K_⟩,?_,?_,?_,?_,?_,?_⟩
 rintro k It en Y W2 ⟨rfl,m,eo⟩ ak V;have zm:=m.size;refine⟨rfl,m.next ak λy I e=>?_,λy I=>?_⟩;rcases e with⟨e,_⟩|e|e;exact e.elim;omega;omega;rcases(V y I).1 with h|h;exact eo y h;omega;rintro ex It en Y W2 ⟨rfl,F',f',hE,hB,hD,m⟩ ak V;have bs:∀y,((False/\It y)\/y=B.heap.size\/y=B.heap.size+1)->y=B.heap.size\/y=B.heap.size+1:=λy e=>by
  rcases e with⟨e,_⟩|e|e;exact e.elim;exact .inl e;exact .inr e
 refine⟨rfl,F',f',hE.U' ak λy I=>?_,hB.U' ak λe=>?_,hD,m.next ak λy I e=>?_⟩;have:=bs y I;refine⟨λhf=>?_,λhs=>by have:=bb y hs;omega,E⟩;rcases f' y hf with hf|hf;have:=(a8 y hf).2;omega;omega;have:=bs _ e;omega;have:=bs _ e;exact .inr (.inr E);rintro k It Y ⟨rfl,m,_⟩ y I _;exact m.Ap y I E;rintro k It gw args hk ⟨pp,sv,set,gx,c6,rfl,er⟩ ⟨rfl,dj,dk⟩ hz V;rw[ua] at c6;obtain rfl:set=line:=by rw[a7] at c6;exact(r9 c6).symm
 refine Nz l_ hz V E' λO al=>?_;have gy:=al.size;have gA:=dj.size;have m2:AK (λy=>B.heap.size<=y) B O:=dj.next al E;have c7:CI It O sv set:=BC.U' er al (λy _ I e=>(V y I).2.2 e) B_ C0;have et:AI W O:=bp.next m2 E;have gd:AI O O.drew:=AK.drew _ _;have ay:AK (λy=>B.heap.size<=y) B O.drew:=m2.next gd E';have b0:=ei.U' ay E;have c8:=((ax.U_ J).U_ U).U' ay E;have hd:=h.U_ (et.trans gd);apply Ag (λk y=>(k=16/\(y=e.b\/Ft y\/Fh y\/Fc y))\/(k=17/\y=b6));have no:∀{j:Nat} {y:Nat},j≠16->j≠17->¬((j=16/\(y=e.b\/Ft y\/Fh y\/Fc y))\/(j=17/\y=b6)):=λh1 h2 e=>e.elim (λe=>h1 e.1) λe=>h2 e.1;refine AU ⟨b0.cells 0 _ rfl,λj Q e=>by rcases e with⟨rfl,_⟩|⟨rfl,_⟩<;>exact absurd Q B_⟩ ?_;refine AU ⟨b0.cells 0 _ rfl,λj Q e=>by rcases e with⟨rfl,_⟩|⟨rfl,_⟩<;>exact absurd Q B_⟩ ?_;apply AJ;rw[AB,AH];refine AU ⟨hd.box.cells 0 _ rfl,λj Q e=>by rcases e with⟨rfl,_⟩|⟨rfl,_⟩<;>exact absurd Q B_⟩ ?_;refine AU ⟨c8.cells 0 _ rfl,λj Q e=>by rcases e with⟨rfl,_⟩|⟨rfl,_⟩<;>exact absurd Q B_⟩ ?_;refine AU ⟨(ej.U' ay E).cells 0 _ rfl,λj Q e=>by rcases e with⟨rfl,_⟩|⟨rfl,_⟩<;>exact absurd Q B_⟩ ?_;refine AU ⟨b0.cells 0 _ rfl,λj Q e=>by rcases e with⟨rfl,_⟩|⟨rfl,_⟩<;>exact absurd Q B_⟩ ?_;refine AU ⟨c8.cells 0 _ rfl,λj Q e=>by rcases e with⟨rfl,_⟩|⟨rfl,_⟩<;>exact absurd Q B_⟩ ?_;rw[A6,wrap64 E E];apply AA (Sn hd hM.g.set E E);rintro lv gB ⟨eu,a1⟩;refine⟨a1.mono E',?_⟩;refine AU ⟨b0.cells 0 _ rfl,λj Q e=>by rcases e with⟨rfl,_⟩|⟨rfl,_⟩<;>exact absurd Q B_⟩ ?_;refine AU ⟨c8.cells 0 _ rfl,λj Q e=>by rcases e with⟨rfl,_⟩|⟨rfl,_⟩<;>exact absurd Q B_⟩ ?_;apply AA (Sn (hd.U_ a1) hM.g.set E E);rintro rv dr ⟨ew,a6⟩;refine⟨a6.mono E',?_⟩;have c9:=(hd.U_ a1).U_ a6;have an:∀i,(NL d i).length<=1000000:=λi=>by
  unfold NL;split;cases hg:d[i.toNat]? with
  |none=>exact Hw _
  |some c=>
   have:=(hM.g.set c (wD hg)).len;simp only;split;exact Hw _;omega
  exact Hw _
 have dT:set.length<=1000000:=by
  have ba:=wD a7;simp[CS,i7,wO] at ba;obtain⟨c,⟨hc,_⟩,rfl⟩:=ba;have:=(hM.g.set c hc).len;omega
 have ca:=(gd.trans a1).trans a6;have rl:Jl (λy=>W3.heap.size<=y/\y<B.heap.size) B (.slice sa l.length sc) l:=(AG.sl ek).sub (λy I h=>⟨h.1,I⟩) B_ C0;have e1:Jl (λy=>W3.heap.size<=y/\y<B.heap.size) dr (.slice sa l.length sc) l:=BC.U_ (BC.U' rl m2 E B_ C0) ca B_ C0;apply AA (dB c9.tx.Iy.1 e1 (eu.U_ a6 B_ C0) ew (c7.U_ ca B_ C0) (an _) (an _) dT hn e8);rintro xv ey ⟨e2,av⟩;refine⟨av.mono E',?_⟩;rw[<-hx] at e2;have h7:=a1.size;have gW:=a6.size;have h0:=av.size;have zd:=gd.size;have ez:Aa x<=1099511627776:=by have:=NU (HV σ.ks p l (NL d ((p:Int)-1)) set);rw[<-hx] at this;omega
 refine AA (aA (S:=λy=>dr.heap.size<=y) (c9.U_ av).i hT hM hC e6 hK ((CZ.reads e2).sub (λy _ I=>I.1) B_ λr o ho=>ho.U' l_ F_ λy _ I=>I.1) (λy I e=>by have:=(c9.lt y e).2;omega) hI hl hm ez hN e9 hH ea) ?_;rintro _ eA ⟨rfl,⟨F',e5,eB,b8⟩,e3⟩;refine⟨b8.mono λy _ I=>.inl ⟨rfl,I⟩,?_⟩;have h3:=b8.size;have eC:Bx eA b6 [zI 0]:=(((((ef.U_ J).U_ U).U' ay E).U_ (a1.trans a6)).U_ av).U' b8 λe=>by have:=(a8 _ e).2;omega
 refine eC.st (q:=0) (B_:0<1) rfl rfl λeI e4 b9=>?_;rw[yw] at e4;refine⟨b9.mono λy _ I=>.inr ⟨rfl,I⟩,?_⟩;have h4:=b9.size;have X:AK (λy=>(y=e.b\/Ft y\/Fh y\/Fc y)\/y=b6) O eI:=(((ca.trans av).mono λ_ _ h=>h.elim:AK (λy=>(y=e.b\/Ft y\/Fh y\/Fc y)\/y=b6) O ey).trans (b8.mono λy _ I=>.inl I)).trans (b9.mono λy _ I=>.inr I);refine⟨SK X E (λy I=>by have:=(V y I).1;omega) λy I e=>?_,rfl,F',λy I=>?_,eB.U' b9 λy I=>?_,e4,e3,?_⟩;have:y<B.heap.size:=by
  rcases e with e|e;have:=(a8 y e).2;omega;omega
 exact⟨λhi=>by have:=dk y hi;omega,E,E⟩;rcases e5 y I with e|e;exact .inl e;exact .inr E;subst I;refine⟨λhf=>?_,λhs=>by have:=bb _ hs;omega,E⟩;rcases e5 _ hf with e|e;have:=(a8 _ e).2;omega;omega;refine(m2.mono λy _ I=>.inr (.inr I)).trans (X.mono λy _ I=>?_);rcases I with I|I;exact .inl I;exact .inr (.inl I);rintro It Y ⟨e0,_⟩ _ _ _;have h5:TT d p<=ky d p p:=OY _ (Nat.le_max_left _ _);omega;rintro ex It Y ⟨rfl,F',f',hE,hB,hD,m⟩ V hz eL;have cc:AK (λy=>y=B.heap.size) Y (Y.putObj B.heap.size (.deferred none)):=AK.putObj _ _ _ rfl;refine⟨eL,?_⟩;apply AD ((hB.U' cc E).cells 0 _ rfl);refine⟨rfl,YA.qT ⟨F',λy I=>?_,hE.U' cc λy I=>?_,?_⟩ hF,hD⟩;rcases f' y I with e|e;exact .inl e;exact .inr E;subst I;refine⟨λhf=>?_,λhs=>by have:=bb _ hs;omega,E⟩;rcases f' _ hf with e|e;have:=(a8 _ e).2;omega;omega;refine((bp.mono λ_ _ h=>h.elim:AK (λy=>y=e.b\/Ft y\/Fh y\/Fc y) W B).next m λy I e'=>?_).next cc E
 rcases e' with e'|e'|e';exact e';omega;omega
end
def Vo{S:Nat->Prop}{o:Y'}{most mx:Int}(hk:Mh S w v o)(hT:DV w0)(g0:AI w0 w) :
    AF prog 17 [v,zI most,zI mx] (λv' w'=>AI w w' /\
      ((1<=most/\most < 536870912/\0<=mx/\mx<=65536/\Gb o/\∃ (e:EgA) (sv:d_) (ks:Y') (C F:Nat->Prop),v' = .tuple #[.pointer (some ⟨e.b,0,none⟩),zI 0]/\ks.Perm o/\ks.Pairwise (λx y=>x.id < y.id)/\(∀ x,F x\/C x->w.heap.size<=x)/\MF w0 F w' e ⟨sv,ks,C⟩ most [⟨10,[]⟩] [] ⟨mx.toNat,[],[],false,[]⟩ 24) \/
       (¬ (1<=most/\most < 536870912/\0<=mx/\mx<=65536/\Gb o)/\∃ c:Int,c ≠ 0/\v' = .tuple #[.pointer none,zI c]))) w:=by
  refine I' func17 ?_ (.y (.cut [] [(6,7),(12,25)] .nil .nil));refine AV (λ_ W'=>W' = w/\1<=most/\most<536870912/\0<=mx/\mx<=65536) ?_ ?_;rotate_left
  . rw[As]
    refine AE (λe=>⟨AK.refl _ _,.inr ⟨E,2,B_,rfl⟩⟩) λh1=>?_;rw[DR];refine AE (λe=>⟨AK.refl _ _,.inr ⟨E,2,B_,rfl⟩⟩) λU=>?_;rw[As];refine AE (λe=>⟨AK.refl _ _,.inr ⟨E,2,B_,rfl⟩⟩) λh3=>?_;rw[BM];exact AE (λe=>⟨AK.refl _ _,.inr ⟨E,2,B_,rfl⟩⟩) λh4=>⟨rfl,E,E,E,E⟩
  rintro _ _ ⟨rfl,q1,q2,q3,q4⟩ _;rename e_=>w;apply AA (Qe hk);rintro _ V ⟨O,hr⟩;rcases hr with⟨hM,sv,ks,rfl,hp,hs,hS⟩|⟨hn,rfl⟩;rotate_left
  . refine Af (vs:=[_,_]) rfl (Af (vs:=[_,_]) rfl ?_)
    rw[BH];exact AT (λe=>absurd e B_) λ_=>⟨O,.inr ⟨λe=>hn e.2.2.2.2,3,B_,rfl⟩⟩
  refine Af (vs:=[_,_]) rfl (Af (vs:=[_,_]) rfl ?_);rw[BH];refine AT (λ_=>?_) λe=>(e rfl).elim
  let σ:SKs:=⟨sv,ks,λx=>w.heap.size<=x/\x<V.heap.size⟩
  have I:Cg σ.S V σ.sv σ.ks:=hS.sub λx j h=>⟨h,j⟩;have z0:=g0.size;have z1:=O.size;apply AA (eH (w0:=w0) (σ:=σ) (most:=most) I (λx j=>j.2) hT (g0.trans O));rintro _ w2 ⟨X,U⟩;have z2:=X.size;rcases U with⟨_,_,a,Ft,rfl,Y,hX⟩|⟨U,_⟩;rotate_left
  . omega
  refine Af (vs:=[_,_]) rfl (Af (vs:=[_,_]) rfl ?_);rw[BH];refine AT (λ_=>?_) λe=>(e rfl).elim;obtain⟨n,rfl⟩:∃n:Nat,mx = n:=⟨mx.toNat,E⟩;refine AA (ki (mx:=n) (ks:=⟨ks,σ.S⟩) (I.U_ X) (λx j=>by have:=j.2; omega) E) ?_;rintro _ Q ⟨Z,hb,a8,rfl,hH⟩;have z3:=Z.size;refine Af (vs:=[_,_]) rfl (Af (vs:=[_,_]) rfl ?_);rw[BH];refine AT (λ_=>?_) λe=>(e rfl).elim;obtain⟨bs,_,_,_,a1,_⟩:=id hS;obtain rfl:sv = .pointer (some ⟨bs,0,none⟩):=a1;refine⟨(tS (.pointer (some ⟨bs,0,none⟩)) ⟨0,a,hb⟩ most i_).toArray,C_,?_⟩;refine Bx.box λb w4 aa g4 B=>?_;have a6:HL w0 (λx=>w2.heap.size<=x/\x<Q.heap.size) Q hb ⟨ks,σ.S⟩ ⟨n,[],[],false,[]⟩:=⟨hH,λx j=>⟨E,j.2⟩,((g0.trans O).trans X).trans Z⟩;have a7:=hX.U_ Z;have J:=hX.hl;have hR:Ov w0 Ft (λx=>w2.heap.size<=x/\x<Q.heap.size) (λ_=>False) w4 ⟨b,a,hb⟩ i_ σ most [⟨10,[]⟩] [] ⟨n,[],[],false,[]⟩ 24 :=
    ⟨B,a7.U_ g4,a6.U_ g4,BC.nil,λx j=>j.elim,⟨by show w0.heap.size<=b; omega,λj=>by have:b<V.heap.size:=j.2; omega⟩,⟨λj=>by have:b<w2.heap.size:=(J b j).2.1; omega,λj=>by have:b<Q.heap.size:=j.2; omega,λj=>j⟩,λx j=>⟨λak=>by have:=(J x j).2.1; omega,λh=>h⟩,λx j h=>h⟩
  refine⟨((O.trans X).trans Z).trans g4,.inl ⟨q1,q2,q3,q4,hM,⟨b,a,hb⟩,_,ks,σ.S,_,rfl,hp,hs,?_,by rw[wI]; exact hR.i⟩⟩;rintro x ((j|j|j|j)|j)
  . have:x = b:=j
    omega
  . have:=Y x j; omega
  . omega
  . exact j.elim
  . exact j.1
def Wn{S D:f_}{m:Nat}(h:BS S D w dv d) : AF prog 16 [dv,zI m] (λv' w'=>(∃t,v'=.bool t/\(t=false->d.length<=m))/\w'=w) w:=by
 refine G_ func16 ?_ (.y (.y (.y (.x (.y (.node [5,6] [(4,7),(12,47)] (.y (.x (.y (.y (.node [5,7] [(5,5),(7,7),(25,47)] .nil .nil))))) .nil))))));obtain⟨a,c,rfl,hm⟩:=h.AO;simp[maxLen] at hm;rw[AP,BM];refine AE (λ_=>⟨⟨true,rfl,M'⟩,rfl⟩) λU=>?_;have I:(∃t,Value.bool true=.bool t/\(t=false->d.length<=m))/\w=w:=⟨⟨true,rfl,M'⟩,rfl⟩;apply AX (λvs W=>W=w/\∃(i:Nat) (z:Int),i<=d.length/\vs=[zI z,zI i]) (λvs _=>d.length-Di vs 1) ⟨rfl,0,0,Hw _,rfl⟩;rintro vs W ⟨e,i,z,hi,rfl⟩ _;subst e;simp only[Iu];rw[AP,As];refine AE (λX=>?_) λY=>?_;have o:i<d.length:=E;obtain⟨p,r,rfl,_,hr,hc,sv,rfl,Q⟩:=h.get o;obtain⟨sa,sc,rfl,J⟩:=Q.AO;simp only[maxLen] at J;apply AW o;rw[AB,Addr.add_add];apply AD (hc 1 _ rfl);rw[AP,BM];refine AE (λ_=>I) λ_=>?_;apply AX (λvs V=>V=W/\∃(j:Nat) (z:Int),j<=d[i].set.length/\vs=[zI z,zI j]) (λvs _=>d[i].set.length-Di vs 1) ⟨rfl,0,z,Hw _,rfl⟩;rintro vs V ⟨e,j,Z,hj,rfl⟩ _;subst e;simp only[JS,wL];apply AW o;rw[AB,Addr.add_add];apply AD (hc 1 _ rfl);rw[AP,As];refine AE (λa1=>?_) λa6=>?_;have B:j<d[i].set.length:=E;apply AW o;rw[AB,Addr.add_add];apply AD (hc 1 _ rfl);obtain⟨q,r',rfl,_,a7,O,rfl⟩:=Q.get B;apply AW B;rw[AB,AB,Addr.add_add,Addr.add_add];refine AD (by have:=O 4 _ rfl;exact this) ?_;refine⟨_,rfl,?_⟩;show DX .i64 (zI Z) (zI ((d[i].set[j].val.s.size:Nat):Int)) _;rw[AR,AR,AM E];exact⟨⟨rfl,j+1,_,B,rfl⟩,by rw[BE,BE];omega⟩;rw[AR,AM E];exact⟨⟨rfl,i+1,_,o,rfl⟩,by rw[BE,BE];omega⟩;rw[BM];exact⟨⟨_,rfl,E⟩,trivial⟩
def VO{Q Sd Dd U V X Y:f_}{J dv O bv:d_}{B:Y'}{a b:V'}{g:Nat}(hk:Mh Q w J B)(Z:BS Sd Dd w dv d)(ha:Ae U V w O a)(hb:Ae X Y w bv b) (h0:w.cell? ⟨g,0,none⟩=some O)(h1:w.cell? ⟨g,1,none⟩=some bv)(ma:Aa a<=1099511627776)(mb:Aa b<=1099511627776) : AF prog 4 [J,dv,.slice (h_ g) 2 2] (λv' w'=>(∃t,v'=.bool t/\(t=true->B.length<=64/\d.length<=300/\Aa a+Aa b<=4000))/\AI w w') w:=by
 refine I' func4 ?_ (.y (.y (.x (.y (.node [7,11] [(7,8),(11,21)] .nil .nil)))));rw[AP];apply AX (λvs W=>∃i:Nat,i<=2/\vs=[zI ((if i=0 then 0 else if i=1 then Aa a else Aa a+Aa b:Nat):Int),zI i]/\AI w W) (λvs _=>2-Di vs 1) ⟨0,by omega,rfl,AK.refl _ _⟩;rintro vs W ⟨i,hi,rfl,o⟩ _;simp only[Iu];refine HP (λa1=>?_) λa6=>?_;rcases(show i=0\/i=1 by omega) with rfl|rfl;apply AW (j:=0) (by omega);rw[AH];apply AD (o.cell h0 λh=>h);apply AA (Yi (Ae.U_ ha o) ma);rintro _ W1 ⟨rfl,I⟩;rw[AR,wrap64 (by simp) (by simp;omega),AR,AM (by omega)];exact⟨⟨1,by omega,by simp,o.trans I⟩,by rw[BE,BE];omega⟩;apply AW (j:=1) (by omega);rw[AH];apply AD (o.cell h1 λh=>h);apply AA (Yi (Ae.U_ hb o) mb);rintro _ W1 ⟨rfl,I⟩;rw[AR,wrap64 (by simp;omega) (by simp;omega),AR,AM (by omega)];exact⟨⟨2,by omega,by simp,o.trans I⟩,by rw[BE,BE];omega⟩;have e:i=2:=by omega
 subst e;obtain⟨ka,kc,rfl,_⟩:=hk.AO;rw[AP,GI];refine AE (λa7=>?_) λ_=>⟨⟨false,rfl,λe=>by cases e⟩,o⟩;apply AA (Wn (m:=300) (BS.U_ Z o));rintro _ _ ⟨⟨t,rfl,ht⟩,rfl⟩;rename e_=>W;rw[Aq];cases t with
 |true=>exact AS ⟨⟨false,rfl,λe=>by cases e⟩,o⟩
 |false=>
 apply Ai;rw[GI];refine⟨⟨_,rfl,λh=>?_⟩,o⟩;have:=xf h;simp at this;exact⟨by omega,ht rfl,by omega⟩
section
variable {w0:e_}{F:f_}{W:e_}{e:EgA}{σ:SKs}{most:Int}{d clip:Y_}{H:Hist}{N:Nat}
def QY{x:V'}(h:MF w0 F W e σ most d clip H N)(Y:DV w0)(Z:FV σ.ks most d)(hC:∀c∈d,GL σ.ks c)(I:σ.ks.length<=64)(hK:∀k∈σ.ks,Cq k) (hx:Ae S S W xv x)(J:∀y,S y->¬F y)(hI:∀o∈x,IH o)(hl:x.length<=10000)(i:most<=536870912)(O:d.length<=B)(j:Dv σ.ks x d.length most->d.length+DG x<=B)(Q:B<=10000)(U:Aa x<=1099511627776)(hN:N+CK B x<=1000000000)(V:H.op=false)(hH:H.us.length<=H.max)(X:H.max<=65536) : AF prog 9 [g_ e.b,xv] (λv' w'=>v'=zI (BY σ.ks x d.length most)/\YA w0 F W w' e σ most (CC σ.ks most d x) clip (if BY σ.ks x d.length most=0 then H.put x (AL (CY σ.ks d x)) else H) (N+CK B x)/\FV σ.ks most (CC σ.ks most d x)) W:=by
 apply G_ func9;have h0:=h;obtain⟨Ft,Fh,Fc,cv,hR,_⟩:=h0;apply AA (EM hR.box);rintro _ _ ⟨rfl,rfl⟩;exact AS (Hu h Y Z hC I hK hx J hI hl i O j Q U hN V hH X)
end
def KH(p q:Z_):Z_:=p.filter λc=>!q.any λd=>decide (d.key=c.key)
def QN{f:Chg->Bool}{g:Int->Bool}(h:∀c:Chg,f c=g c.key)(p:Z_)(k:Int):PN (p.filter f) k=if g k then PN p k else none:=by
 induction p with
 |nil=>simp[PN]
 |cons c p i=>
  rw[List.filter_cons,HN];by_cases hk:c.key=k;rw[Cx hk,h c,hk];cases j:g k with
  |true=>rw[Cx rfl,HN,Cx hk];rfl
  |false=>rw[Bp D_,i,j];rfl
  rw[Bp hk];cases o:f c with
  |true=>rw[Cx rfl,HN,Bp hk,i]
  |false=>rw[Bp D_,i]
def iY(p q:Z_)(k:Int):PN (KH p q) k=if(PN q k).isSome then none else PN p k:=by
 unfold KH;rw[QN (g:=λk=>!q.any λd=>decide (d.key=k)) I_];have e:(q.any λd=>decide (d.key=k))=(PN q k).isSome:=by
  induction q with
  |nil=>rfl
  |cons d q j=>
   rw[aBf,HN,j];by_cases i:d.key=k;simp[i];simp[i]
 rw[e];cases(PN q k).isSome<;>rfl
def QX(ks:Y')(b:Bool)(p:Z_)(k:Int):PN (CR ks b p) k=if(match Bg ks k with|some x=>decide (x.block=b)|none=>false) then PN p k else none:=
 QN (g:=λk=>match Bg ks k with|some x=>decide (x.block=b)|none=>false) I_ p k
def Gz.filter{p:Z_}(h:Gz p)(f:Chg->Bool):Gz (p.filter f):=zM f h
def aV{c:Cel}{p q:Z_}(i:Gr c.set)(hp:Gz p)(o:Gz q):CD ks (KH q p) (CD ks p c)=CD ks p (CD ks q c):=by
 unfold CD NK;simp only;congr 1;generalize decide (c.r=10)=b;have h1:Gz (CR ks b p):=hp.filter _;have j:Gz (CR ks b q):=o.filter _;have B:Gz (CR ks b (KH q p)):=(o.filter _).filter _;refine Yq (FY (FY i h1) B) (FY (FY i j) h1) λk=>?_;rw[I6 (FY i h1) B,I6 i h1,I6 (FY i j) h1,I6 i j,QX,QX,QX,iY];cases(match Bg ks k with|some x=>decide (x.block=b)|none=>false) with
 |false=>rfl
 |true=>
  simp only[yE];cases PN p k<;>cases PN q k<;>rfl
def Vl(ks:Y')(c:Cel):CD ks [] c=c:=rfl
def eT(p:Z_):KH p []=p:=by
 unfold KH;rw[wy];intro c _;rfl
def One(o:Dop):Prop:=(o.kind=2/\∃r,o.AY=[r])\/((o.kind=1\/o.kind=3)/\o.n=1)
def KT(p:Z_):Dop:=⟨1,1,[],[],p⟩
def Ic:Dop:=⟨3,1,[],[],[]⟩
def Cz(f:Bool):V'->V'->V'
 |_,[]=>[]
 |[],v::b=>(if v.kind=2 then v else if v.kind=3 then Ic else KT v.patch)::Cz f [] b
 |u::a,v::b=>
  if u.kind=2/\(f=true\/v.kind≠2) then KT []::Cz f a (v::b)
  else if v.kind=2 then v::Cz f (u::a) b
  else if u.kind=3 then Cz f a b
  else if v.kind=3 then Ic::Cz f a b
  else KT (if f then KH v.patch u.patch else v.patch)::Cz f a b
termination_by a b=>a.length+b.length
section
variable {ks:Y'}{f:Bool}
def Pk{u v:Dop}{a b:V'}(h:u.kind=2)(h':f=true\/v.kind≠2):Cz f (u::a) (v::b)=KT []::Cz f a (v::b):=by
 rw[Cz,Cx ⟨h,h'⟩]
def P7{u v:Dop}{a b:V'}(h:v.kind=2)(h':u.kind=2->f=false):Cz f (u::a) (v::b)=v::Cz f (u::a) b:=by
 rw [Cz,Bp (c:=u.kind=2/\(f=true\/v.kind≠2)) (λe=>by
  rcases e.2 with i | i;rw [h' e.1] at i;cases i;exact i h),Cx h]
def MR{u v:Dop}{a b:V'}(h:u.kind=3)(h':v.kind≠2):Cz f (u::a) (v::b)=Cz f a b:=by
 rw[Cz,Bp (c:=u.kind=2/\(f=true\/v.kind≠2)) E,Bp h',Cx h]
def Qz{u v:Dop}{a b:V'}(h:u.kind=1)(h':v.kind=3):Cz f (u::a) (v::b)=Ic::Cz f a b:=by
 rw[Cz,Bp (c:=u.kind=2/\(f=true\/v.kind≠2)) E,Bp E,Bp E,Cx h']
def QU{u v:Dop}{a b:V'}(h:u.kind=1)(h':v.kind=1):Cz f (u::a) (v::b)=KT (if f then KH v.patch u.patch else v.patch)::Cz f a b:=by
 rw[Cz,Bp (c:=u.kind=2/\(f=true\/v.kind≠2)) E,Bp E,Bp E,Bp E]
def DJ(a:V'):Cz f a []=[]:=by cases a<;>rw[Cz]
def KB(p:Z_)(c:Cel)(d:Y_)(x:V'):BD ks (c::d) (KT p::x)=CD ks p c::BD ks d x:=rfl
def NR(c:Cel)(d:Y_)(x:V'):BD ks (c::d) (Ic::x)=BD ks d x:=rfl
def HA{u:Dop}(h1:u.kind=1)(i:u.n=1)(c:Cel)(d:Y_)(x:V'):BD ks (c::d) (u::x)=CD ks u.patch c::BD ks d x:=by
 rw[BD,Cx h1,i];rfl
def HJ{u:Dop}(h1:u.kind=3)(i:u.n=1)(c:Cel)(d:Y_)(x:V'):BD ks (c::d) (u::x)=BD ks d x:=by
 rw[BD,Bp E,Bp E,i];rfl
def Fe{u:Dop}{r:Int}(h1:u.kind=2)(hr:u.AY=[r])(d:Y_)(x:V'):BD ks d (u::x)=⟨r,u.set⟩::BD ks d x:=by
 rw[BD,Bp E,Cx h1,hr];rfl
def Ff(d:Y_):BD ks d []=d:=by cases d<;>rfl
def Ng:∀(b:V') (d:Y_),(∀o∈b,One o)->Ah b<=d.length->BD ks d (Cz f [] b)=BD ks d b:=by
 intro b;induction b with
 |nil=>intro d _ _;rw[DJ]
 |cons v b B=>
  intro d h ht;have J:=h v D_;have hb:∀o∈b,One o:=λo O=>h o (by simp[O]);rw[Cz];rcases J with⟨k,r,hr⟩|⟨k,I⟩;rw[Cx k,Fe k hr,Fe k hr,B d hb (by rw[Ah,Cx k] at ht;omega)];have i:v.kind≠2:=E;rw[Ah,Bp i,I] at ht;rw[Bp i];cases d with
  |nil=>exact absurd ht (by simp only[gC];omega)
  |cons c d=>
   have j:Ah b<=d.length:=by simp[Hn] at ht;omega
   rcases k with k|k;rw[Bp E,KB,HA k I,B d hb j];rw[Cx k,NR,HJ k I,B d hb j]
def hZ:∀(m:Nat) (a b:V') (d:Y_),a.length+b.length<=m->(∀o∈a,One o/\Gz o.patch)->(∀o∈b,One o/\Gz o.patch)->(∀c∈d,Gr c.set)->Ah a<=d.length->Ah b<=d.length->BD ks (BD ks d a) (Cz true a b)=BD ks (BD ks d b) (Cz false b a):=by
 intro m;induction m with
 |zero=>
  intro a b d hm _ _ _ _ _;have ha:a=[]:=Kx E;have hb:b=[]:=Kx E;subst ha hb;rw[DJ,DJ]
 |succ m ih=>
  intro a b d hm V X Y i j;cases a with
  |nil=>rw[DJ,Ff,Ff,Ng b d (λo J=>(X o J).1) j]
  |cons u a=>
   cases b with
   |nil=>rw[DJ,Ff,Ff,Ng (u::a) d (λo J=>(V o J).1) i]
   |cons v b=>
    have hu:=V u D_;have Z:=X v D_;have a1:∀o∈a,One o/\Gz o.patch:=λo J=>V o (by simp[J]);have a6:∀o∈b,One o/\Gz o.patch:=λo J=>X o (by simp[J]);simp only[Hn] at hm;by_cases B:u.kind=2
    .obtain⟨r,hr⟩:∃r,u.AY=[r]:=by
      rcases hu.1 with⟨_,h⟩|⟨h,_⟩
      .exact h
      .omega
     rw[Pk B (.inl rfl),P7 B I_,Fe B hr,Fe B hr,KB,Vl];rw[Ah,Cx B] at i;rw[ih a (v::b) d (by simp only[Hn];omega) a1 X Y E j]
    .by_cases I:v.kind=2
     .obtain⟨r,hr⟩:∃r,v.AY=[r]:=by
       rcases Z.1 with⟨_,h⟩|⟨h,_⟩
       .exact h
       .omega
      rw[P7 I (λe=>absurd e B),Pk I (.inr B),Fe I hr,Fe I hr,KB,Vl];rw[Ah,Cx I] at j;rw[ih (u::a) b d (by simp only[Hn];omega) V a6 Y i E]
     .have Q:(u.kind=1\/u.kind=3)/\u.n=1:=by
       rcases hu.1 with⟨h,_⟩|h
       .exact absurd h B
       .exact h
      have U:(v.kind=1\/v.kind=3)/\v.n=1:=by
       rcases Z.1 with⟨h,_⟩|h
       .exact absurd h I
       .exact h
      rw[Ah,Bp B,Q.2] at i;rw[Ah,Bp I,U.2] at j;cases d with
      |nil=>exact absurd i (by simp only[gC];omega)
      |cons c d=>
       simp only[Hn] at i j;have O:=ih a b d (by omega) a1 a6 (λx hx=>Y x (by simp[hx])) (by omega) (by omega);rcases Q.1 with k1|k1<;>rcases U.1 with k2|k2
       .rw[QU k1 k2,QU k2 k1,HA k1 Q.2,HA k2 U.2,KB,KB,O,Cx rfl,Bp B_,aV (Y c D_) hu.2 Z.2]
       .rw[Qz k1 k2,MR k2 B,HA k1 Q.2,HJ k2 U.2,NR,O]
       .rw[MR k1 I,Qz k2 k1,HJ k1 Q.2,HA k2 U.2,NR,O]
       .rw[MR k1 I,MR k2 B,HJ k1 Q.2,HJ k2 U.2,O]
end
section
variable {f:Bool}
def af{c:Dop}{a b:V'}(i:f=true\/c.kind≠2):∀{A:V'},(∀u∈A,u.kind=2)->Cz f (A++a) (c::b)=List.replicate A.length (KT [])++Cz f a (c::b):=by
 intro A;induction A with
 |nil=>intro _;rfl
 |cons u A j=>
  intro h;rw[No,Pk (h u D_) i,j λx o=>h x (by simp[o])];rfl
def ZK{a b:V'}(ha:∀u r,a=u::r->u.kind=2->f=false):∀{B:V'},(∀c∈B,c.kind=2)->Cz f a (B++b)=B++Cz f a b:=by
 intro B;induction B with
 |nil=>intro _;rfl
 |cons c B j=>
  intro h;have hc:=h c D_;have i:=j λx hx=>h x (by simp[hx]);cases a with
  |nil=>rw[No,Cz,Cx hc,i];rfl
  |cons u r=>rw[No,P7 hc (ha u r rfl),i];rfl
def pX(f:Bool)(u v:Dop):V':=if u.kind=3 then[] else if v.kind=3 then[Ic] else[KT (if f then KH v.patch u.patch else v.patch)]
def iu{u v:Dop}(i:u.kind=1\/u.kind=3)(j:v.kind=1\/v.kind=3):∀(n:Nat) {a b:V'},Cz f (List.replicate n u++a) (List.replicate n v++b)=(List.replicate n (pX f u v)).flatten++Cz f a b:=by
 intro n;induction n with
 |zero=>intro a b;rfl
 |succ n o=>
  intro a b;rw[wB,wB,wB,No,No,yZ,Mp,<-o];unfold pX;rcases i with k1|k1;rcases j with k2|k2;rw[QU k1 k2,Bp (c:=u.kind=3) E,Bp (c:=v.kind=3) E];rfl;rw[Qz k1 k2,Bp (c:=u.kind=3) E,Cx k2];rfl;rw[MR k1 E,Cx k1];rfl
def Zo{v:Dop}(j:v.kind=1\/v.kind=3):∀(n:Nat) {b:V'},Cz f [] (List.replicate n v++b)=List.replicate n (if v.kind=3 then Ic else KT v.patch)++Cz f [] b:=by
 intro n;induction n with
 |zero=>intro b;rfl
 |succ n i=>
  intro b;rw[wB,wB,No,Cz,i,Bp E];rfl
def Sr(f:Bool)(s:MkS)(u v:V'):MkS:=(Cz f (Bi u) (Bi v)).foldl BX s
def mZ(s:MkS)(u:V'):Sr f s u []=s:=by
 unfold Sr;rw[show Bi []=[] from rfl,DJ];rfl
def Kg{o:Dop}(h:o.kind≠2):CH o=List.replicate (Ao o) ⟨o.kind,1,[],o.set,o.patch⟩:=by
 unfold CH Ao;rw[Bp h,Bp h]
def rU{s:MkS}{u v:V'}{o c:Dop}(i:Oh o)(hk:o.kind=2)(hc:Oh c)(j:f=true\/c.kind≠2):Sr f s (o::u) (c::v)=Sr f (GM s (Ao o:Nat) []) u (c::v):=by
 have h3:=i.le;unfold Sr;obtain⟨J,b,e,B⟩:=Vp (x:=v) hc;rw[e,Fv,af (by rw[B];exact j) (λx I=>(HZ I).1.trans hk),wG,Kz,show KT []=⟨1,1,[],[],[]⟩ from rfl,Y5 _ _ i.Ct E]
def tB{s:MkS}{u v:V'}{o:Dop}(j:Oh o)(hk:o.kind=2)(hu:∀a r,u=a::r->Oh a/\(a.kind=2->f=false)):Sr f s u (o::v)=Sr f (BX s o) u v:=by
 unfold Sr;rw[Fv,ZK (λa r e O=>?_) (λc hc=>(HZ hc).1.trans hk),wG,bu s j];cases u with
 |nil=>cases e
 |cons B i=>
  obtain⟨h1,I⟩:=hu B i rfl;obtain⟨Q,b,J,U⟩:=Vp (x:=i) h1;rw[J] at e;cases e;exact I E
def KW(f:Bool)(s:MkS)(a o:Dop)(n:Nat):MkS:=if a.kind=3 then s else if o.kind=3 then KC s n else GM s n (if f then KH o.patch a.patch else o.patch)
def Ry{n:Nat}{o:Dop}(hk:o.kind≠2):CH (Fg n o)=List.replicate n ⟨o.kind,1,[],o.set,o.patch⟩:=by
 rw[Kg (by rw[MC n o];exact hk)];unfold Fg Ao;rw[Bp hk];simp[Bp hk,wI]
def fQ{s:MkS}{u v:V'}{a o:Dop}{n:Nat}(ha:Oh a)(B:Oh o)(I:a.kind≠2)(hk:o.kind≠2)(Q:n=min (Ao a) (Ao o)) : Sr f s (a::u) (o::v)=Sr f (KW f s a o n) (CX n (a::u)) (CX n (o::v)):=by
 have h1:=ha.Ct;have h2:=B.Ct;have h3:=ha.le;have J:n<=Ao a:=E;have O:n<=Ao o:=E;have k1:a.kind=1\/a.kind=3:=by rcases ha.k with h|h|h<;>simp_all
 have k2:o.kind=1\/o.kind=3:=by rcases B.k with h|h|h<;>simp_all
 unfold Sr;rw[SE J,SE O,Ry I,Ry hk,iu (u:=⟨a.kind,1,[],a.set,a.patch⟩) (v:=⟨o.kind,1,[],o.set,o.patch⟩) k1 k2,wG];congr 1;unfold pX KW;simp only;by_cases i:a.kind=3
 .rw[Cx i,Cx i];have:(List.replicate n ([]:V')).flatten=[]:=D_;rw[this];rfl
 .rw[Bp i,Bp i];by_cases j:o.kind=3
  .rw[Cx j,Cx j];have:(List.replicate n [Ic]).flatten=List.replicate n Ic:=D_;rw[this];rcases iT s n [] [] with h|⟨h,_⟩
   .exact h
   .omega
  .rw[Bp j,Bp j];have:∀p:Z_,(List.replicate n [KT p]).flatten=List.replicate n (KT p):=λp=>D_;rw[this];exact Y5 s n E E [] _
def eS{s:MkS}{v:V'}{o:Dop}(j:Oh o)(hk:o.kind≠2):Sr f s [] (o::v)=Sr f (KW f s ⟨1,Ao o,[],[],[]⟩ o (Ao o)) [] v:=by
 have B:=j.Ct;have h3:=j.le;have k2:o.kind=1\/o.kind=3:=by rcases j.k with h|h|h<;>simp_all
 unfold Sr;rw[Fv,Kg hk,show Bi []=[] from rfl,Zo (v:=⟨o.kind,1,[],o.set,o.patch⟩) k2,wG];congr 1;have I:KW f s ⟨1,Ao o,[],[],[]⟩ o (Ao o)=if o.kind=3 then KC s (Ao o) else GM s (Ao o) o.patch:=by
  unfold KW;simp only[eT,ite_self];rw[Bp (c:=(1:Int)=3) B_]
 rw[I];by_cases i:o.kind=3
 .rw[Cx (c:=o.kind=3) i,Cx (c:=o.kind=3) i];rcases iT s (Ao o) [] [] with h|⟨h,_⟩
  .exact h
  .omega
 .rw[Bp (c:=o.kind=3) i,Bp (c:=o.kind=3) i];exact Y5 s _ B E [] _
end
section
variable {ks:Y'}{f:Bool}
def fW(p:Z_)(s:W_):∀(n:Nat) (d:Y_) (x:V'),BD ks d (List.replicate n ⟨1,1,[],s,p⟩++x)=(d.take n).map (CD ks p)++BD ks (d.drop n) x:=by
 intro n;induction n with
 |zero=>intro d x;rfl
 |succ n i=>
  intro d x;rw[wB,No,BD,Cx rfl];cases d with
  |nil=>rw[show((1:Int)).toNat=1 from rfl,List.drop_nil,List.take_nil,i];simp
  |cons c d=>
   rw[show((1:Int)).toNat=1 from rfl];show[CD ks p c]++BD ks d (List.replicate n ⟨1,1,[],s,p⟩++x)=_;rw[i];rfl
def jh(p:Z_)(s:W_):∀(n:Nat) (d:Y_) (x:V'),BD ks d (List.replicate n ⟨3,1,[],s,p⟩++x)=BD ks (d.drop n) x:=by
 intro n;induction n with
 |zero=>intro d x;rfl
 |succ n i=>
  intro d x;rw[wB,No,BD,Bp (c:=(3:Int)=1) B_,Bp (c:=(3:Int)=2) B_,show((1:Int)).toNat=1 from rfl,i,yG];congr 2;omega
def eP(s:W_)(p:Z_):∀(rs:X_) (d:Y_) (x:V'),BD ks d (rs.map (λr=>(⟨2,0,[r],s,p⟩:Dop))++x)=rs.map (λr=>(⟨r,s⟩:Cel))++BD ks d x:=by
 intro rs;induction rs with
 |nil=>intro d x;rfl
 |cons r rs i=>
  intro d x;rw[S4,No,BD,Bp (c:=(2:Int)=1) B_,Cx rfl,i];rfl
def iJ{o:Dop}(h:Oh o)(d:Y_)(x:V'):BD ks d (CH o++x)=BD ks d (o::x):=by
 obtain⟨k,n,rs,s,p⟩:=o;rcases h.k with hk|hk|hk<;>simp only at hk<;>subst hk;simp[CH,(B_:¬(1:Int)=2),fW,BD];simp[CH,eP,BD,(B_:¬(2:Int)=1)];simp[CH,(B_:¬(3:Int)=2),jh,BD,(B_:¬(3:Int)=1)]
def Le:∀(x:V') (d:Y_),(∀o∈x,Oh o)->BD ks d (Bi x)=BD ks d x:=by
 intro x;induction x with
 |nil=>intro d _;rfl
 |cons o x j=>
  intro d h;have i:=λe=>j e λy hy=>h y (by simp[hy]);rw[Fv,iJ (h o D_),BD,BD];split
  .rw[i]
  .split
   .rw[i]
   .rw[i]
def eO{o:Dop}(h:Oh o)(x:V'):Ah (CH o++x)=Ah (o::x)/\Bf (CH o++x)=Bf (o::x):=by
 obtain⟨k,n,rs,s,p⟩:=o;have YE:∀(k:Int),k≠2->∀(n:Nat),Ah (List.replicate n (⟨k,1,[],s,p⟩:Dop))=n/\Bf (List.replicate n (⟨k,1,[],s,p⟩:Dop))=if k=3 then 0 else n:=by
  intro k hk n;induction n with
  |zero=>exact⟨rfl,by split<;>rfl⟩
  |succ n i=>
   rw[wB,Ah,Bf,i.1,i.2,Bp hk,Bp hk];constructor;show 1+n=n+1;omega;split;rfl;show 1+n=n+1;omega
 have ins:∀(rs:X_),Ah (rs.map λr=>(⟨2,0,[r],s,p⟩:Dop))=0/\Bf (rs.map λr=>(⟨2,0,[r],s,p⟩:Dop))=rs.length:=by
  intro rs;induction rs with
  |nil=>exact⟨rfl,rfl⟩
  |cons r rs i=>
   rw[S4,Ah,Bf,i.1,i.2,Cx rfl,Bp (c:=(2:Int)=3) (by decide),Cx rfl];exact⟨rfl,by simp;omega⟩
 rw[GQ,I9];rcases h.k with hk|hk|hk<;>simp only at hk<;>subst hk;simp[CH,show ¬(1:Int)=2 by decide,show ¬(1:Int)=3 by decide,Ah,Bf,(YE 1 (by decide) n.toNat).1,(YE 1 (by decide) n.toNat).2,aAz];simp[CH,Ah,Bf,(ins rs).1,(ins rs).2,show ¬(2:Int)=3 by decide,aAz];simp[CH,show ¬(3:Int)=2 by decide,Ah,Bf,(YE 3 (by decide) n.toNat).1,(YE 3 (by decide) n.toNat).2,aAz]
def SS:∀(x:V'),(∀o∈x,Oh o)->Ah (Bi x)=Ah x/\Bf (Bi x)=Bf x:=by
 intro x;induction x with
 |nil=>intro _;exact⟨rfl,rfl⟩
 |cons o x i=>
  intro h;obtain⟨h1,j⟩:=eO (h o D_) (Bi x);obtain⟨I,J⟩:=i λy B=>h y (by simp[B]);rw[Fv,h1,j,Ah,Bf,Ah,Bf,I,J];exact⟨rfl,rfl⟩
def G7:Nat->V'->Prop
 |_,[]=>True
 |m,o::x=>if o.kind=2 then m≠0/\G7 m x else if o.kind=3 then m≠1/\G7 (m-1) x else G7 (m-1) x
def Yt{n:Int}:∀{x:V'} {m:Nat},(∀o∈x,One o)->Ah x<=m->(Bt n (n-m) x↔G7 m x):=by
 intro x;induction x with
 |nil=>intro m _ _;exact yY
 |cons o x j=>
  intro m h ht;have J:=h o D_;have B:∀y∈x,One y:=λy O=>h y (by simp[O]);rw[Bt,G7];rcases J with⟨k,_⟩|⟨k,I⟩;rw[Ah,Cx k] at ht;rw[Cx k,Cx k,j B E];exact and_congr_left E;have k2:¬o.kind=2:=E;rw[Ah,Bp k2,I] at ht;rw[Bp k2,Bp k2,I];have e:n-(m:Int)+1=n-((m-1:Nat):Int):=by have:1<=m:=by { have h1:(1:Int).toNat=1:=rfl;omega };omega
  have i:Ah x<=m-1:=by have h1:(1:Int).toNat=1:=rfl;omega
  have Q:1<=m:=by have h1:(1:Int).toNat=1:=rfl;omega
  rw[e,j B i];split;exact and_congr_left E;exact yY
def EI(x:V')(m:Nat):Nat:=m-Ah x+Bf x
def Xj{o:Dop}(h:One o)(x:V')(m:Nat)(ht:Ah (o::x)<=m) : (o.kind=2->Ah (o::x)=Ah x/\EI (o::x) m=EI x m+1)/\(o.kind=3->Ah (o::x)=Ah x+1/\EI (o::x) m=EI x (m-1))/\(o.kind=1->Ah (o::x)=Ah x+1/\EI (o::x) m=EI x (m-1)+1):=by
 have h1:(1:Int).toNat=1:=rfl;unfold EI;rcases h with⟨k,r,hr⟩|⟨k,B⟩;have i:Ah (o::x)=Ah x:=by rw[Ah,Cx k];omega
 have j:Bf (o::x)=Bf x+1:=by rw[Bf,Bp E,Cx k,hr,xD];omega
 refine⟨λ_=>⟨i,by rw[i,j];omega⟩,E,E⟩;have k2:¬o.kind=2:=E;have i:Ah (o::x)=Ah x+1:=by rw[Ah,Bp k2,B,h1];omega
 refine⟨E,λe=>⟨i,?_⟩,λe=>⟨i,?_⟩⟩;have j:Bf (o::x)=Bf x:=by rw[Bf,Cx e];omega
 rw[i,j];omega;have j:Bf (o::x)=Bf x+1:=by rw[Bf,Bp E,Bp k2,B,h1];omega
 rw[i,j];omega
def P8:∀{x:V'} {m:Nat},(∀o∈x,One o)->G7 m x->Ah x<=m->1<=m->1<=EI x m:=by
 intro x;induction x with
 |nil=>intro m _ _ _ h;simpa[EI,Ah,Bf] using h
 |cons o x I=>
  intro m h i ht hm;have j:=h o D_;have J:∀y∈x,One y:=λy O=>h y (by simp[O]);obtain⟨Q,V,U⟩:=Xj j x m ht;rw[G7] at i;by_cases k2:o.kind=2;have:=Q k2;omega;rw[Bp k2] at i;by_cases B:o.kind=3;rw[Cx B] at i;rw[(V B).2];exact I J i.2 E E;have k1:o.kind=1:=by rcases j with⟨k,_⟩|⟨k,_⟩<;>omega
  have:=U k1;omega
def tF:∀(j:Nat) (a b:V') (m:Nat),a.length+b.length<=j->(∀o∈a,One o)->(∀o∈b,One o)->G7 m a->G7 m b->Ah a<=m->Ah b<=m->Ah (Cz f a b)<=EI a m/\G7 (EI a m) (Cz f a b):=by
 intro j;have J:∀p x,Ah (KT p::x)=Ah x+1:=λp x=>by rw[Ah];show(if(1:Int)=2 then 0 else 1)+_=_;rw[Bp B_];omega
 have X:∀x,Ah (Ic::x)=Ah x+1:=λx=>by rw[Ah];show(if(3:Int)=2 then 0 else 1)+_=_;rw[Bp B_];omega
 have O:∀p x m,G7 m (KT p::x)=G7 (m-1) x:=λp x m=>by rw[G7];show(if(1:Int)=2 then _ else if(1:Int)=3 then _ else _)=_;rw[Bp B_,Bp B_]
 have Y:∀x m,G7 m (Ic::x)=(m≠1/\G7 (m-1) x):=λx m=>by rw[G7];show(if(3:Int)=2 then _ else if(3:Int)=3 then _ else _)=_;rw[Bp B_,Cx rfl]
 have Z:∀{v:Dop} x,v.kind=2->Ah (v::x)=Ah x:=λx k=>by rw[Ah,Cx k];omega
 have a1:∀{v:Dop} x m,v.kind=2->G7 m (v::x)=(m≠0/\G7 m x):=λx m k=>by rw[G7,Cx k]
 induction j with
 |zero=>
  intro a b m hj _ _ _ _ _ _;have hb:b=[]:=Kx E;subst hb;rw[DJ];exact⟨Hw _,trivial⟩
 |succ j ih=>
  intro a b m hj hA hB fa fb ta tb;cases b with
  |nil=>rw[DJ];exact⟨Hw _,trivial⟩
  |cons v b=>
   have hv:=hB v (by simp);have Q:∀o∈b,One o:=λo ho=>hB o (by simp[ho]);obtain⟨v2,v3,v1⟩:=Xj hv b m tb;have vk:v.kind=2\/v.kind=3\/v.kind=1:=by rcases hv with⟨k,_⟩|⟨k,_⟩<;>omega
   simp only[Hn] at hj;cases a with
   |nil=>
    have e0:EI [] m=m:=by simp[EI,Ah,Bf]
    have a6:=λm' h1 h2=>ih [] b m' (by simp;omega) (λo ho=>by cases ho) Q trivial h1 (Hw _) h2;rw[Cz,e0];rw[G7] at fb;rcases vk with k|k|k
    .rw[Cx k] at fb ⊢;have:=v2 k;obtain⟨V,B⟩:=a6 m fb.2 E;rw[show EI [] m=m from e0] at V B;rw[Z _ k,a1 _ _ k];exact⟨V,fb.1,B⟩
    .rw[Bp E,Cx k] at fb;rw[Bp E,Cx k,X,Y];have:=v3 k;obtain⟨V,B⟩:=a6 (m-1) fb.2 E;have e1:EI [] (m-1)=m-1:=by simp[EI,Ah,Bf]
     rw[e1] at V B;exact⟨E,fb.1,B⟩
    .rw[Bp E,Bp E] at fb;rw[Bp E,Bp E,J,O];have:=v1 k;obtain⟨V,B⟩:=a6 (m-1) fb E;have e1:EI [] (m-1)=m-1:=by simp[EI,Ah,Bf]
     rw[e1] at V B;exact⟨E,B⟩
   |cons u a=>
    have hu:=hA u D_;have U:∀o∈a,One o:=λo ho=>hA o (by simp[ho]);obtain⟨u2,u3,u1⟩:=Xj hu a m ta;have uk:u.kind=2\/u.kind=3\/u.kind=1:=by rcases hu with⟨k,_⟩|⟨k,_⟩<;>omega
    simp only[Hn] at hj;by_cases c1:u.kind=2/\(f=true\/v.kind≠2)
    .rw[Pk c1.1 c1.2,J,O];obtain⟨e1,e2⟩:=u2 c1.1;rw[G7,Cx c1.1] at fa;obtain⟨V,B⟩:=ih a (v::b) m (by simp only[Hn];omega) U hB fa.2 fb E tb;rw[e2,yD];exact⟨E,B⟩
    .by_cases k:v.kind=2
     .rw [P7 k (λe=>by
       cases hf:f with
       |false=>rfl
       | true=>exact absurd ⟨e,.inl hf⟩ c1),Z _ k,a1 _ _ k]
      obtain⟨e1,e2⟩:=v2 k;have i:=fb;rw[G7,Cx k] at i;obtain⟨V,B⟩:=ih (u::a) b m (by simp only[Hn];omega) hA Q fa i.2 ta E;have:=P8 hA fa ta E;exact⟨V,E,B⟩
     .have ku:u.kind≠2:=λe=>c1 ⟨e,.inr k⟩;have I:=fa;have i:=fb;rw[G7,Bp ku] at I;rw[G7,Bp k] at i;rcases uk with k1|k1|k1
      .exact absurd k1 ku
      .rw[MR k1 k];obtain⟨e1,e2⟩:=u3 k1;rw[Cx k1] at I;have a7:Ah b<=m-1:=by rcases vk with h|h|h;exact absurd h k;(have:=v3 h;omega);(have:=v1 h;omega)
       have a8:G7 (m-1) b:=by
        split at i
        .exact i.2
        .exact i
       rw[e2];exact ih a b (m-1) E U Q I.2 a8 E a7
      .obtain⟨e1,e2⟩:=u1 k1;rw[Bp E] at I;rcases vk with h|h|h
       .exact absurd h k
       .obtain⟨q1,q2⟩:=v3 h;rw[Cx h] at i;obtain⟨V,B⟩:=ih a b (m-1) E U Q I i.2 E E;have:=P8 U I E E;rw[Qz k1 h,X,Y,e2,yD];exact⟨E,E,B⟩
       .obtain⟨q1,q2⟩:=v1 h;rw[Bp E] at i;obtain⟨V,B⟩:=ih a b (m-1) E U Q I i E E;rw[QU k1 h,J,O,e2,yD];exact⟨E,B⟩
end
section
variable {ks:Y'}
def ja:∀(s:W_),CQ [] (s.map DB)=s:=by
 intro s;induction s with
 |nil=>rfl
 |cons a s i=>
  rw[S4,CQ];show Lo (DB a) []++PJ (DB a)++CQ (GA (DB a) []) (s.map DB)=_;rw[show Lo (DB a) []=[] from rfl,show GA (DB a) []=[] from rfl,i];rfl
def Z9{b:Bool}{s:W_}(h:∀a∈s,FU ks b a=true):CR ks b (s.map DB)=s.map DB:=by
 unfold CR;rw[wy];intro c hc;obtain⟨a,ha,rfl⟩:=i7.1 hc;exact h a ha
def gH:∀(l:Y_) (d:Y_) (x:V'),BD ks d (l.map Bz++x)=l++BD ks d x:=by
 intro l;induction l with
 |nil=>intro d x;rfl
 |cons c l i=>
  intro d x;rw[S4,No,BD,Bp (by show ¬(2:Int)=1;decide),Cx (show(Bz c).kind=2 from rfl),i];rfl
def po(j:Hy ks d)(hC:∀c∈d,GL ks c):BD ks [⟨10,[]⟩] (Dt d)=d:=by
 have hl:=j.Jr;cases e:d.getLast? with
 |none=>
  rw[xK] at e;subst e;cases hl
 |some c=>
  have o:d≠[]:=by rintro rfl;cases e
  have i:d=d.dropLast++[c]:=by
   obtain⟨l,B⟩:=aAm.1 e;rw[B,wK]
  have hr:c.r=10:=by
   rw[i] at hl;simpa[BA] using hl
  have hm:c∈d:=by rw[i];simp
  have hk:=(hC c hm).2;rw[hr] at hk;have I:Dt d=d.dropLast.map Bz++[⟨1,1,[],[],c.set.map DB⟩]:=by unfold Dt;rw[e]
  rw[I,gH];have J:BD ks [⟨10,[]⟩] [⟨1,1,[],[],c.set.map DB⟩]=[CD ks (c.set.map DB) ⟨10,[]⟩]:=rfl;have O:CD ks (c.set.map DB) ⟨10,[]⟩=c:=by
   unfold CD NK;rw[Z9 hk,ja,<-hr]
  rw[J,O];exact i.symm
def bg{a:Attr}(h:FU ks false a=true):FU ks true a=false:=by
 unfold FU at h ⊢;cases e:Bg ks a.key with
 |none=>rfl
 |some k=>
  rw[e] at h;have i:k.block=false:=by simpa using h
  simp[i]
def Xy{b:Bool}{a:Attr}(h:FU ks b a=true):Bg ks a.key≠none:=by
 unfold FU at h;intro e;rw[e] at h;cases h
def XB{c:Cel}(h:GL ks c):Cr ks (Bz c):=by
 intro _ _ j;show(Ce ks true c.set).length=c.set.length/\Bj [c.r]=1;have i:0<(Ce ks true c.set).length\/0<Bj [c.r]:=j;by_cases hr:c.r=10;have hk:∀a∈c.set,FU ks true a=true:=λa ha=>by have:=h.2 a ha;rwa [TC hr] at this
 refine⟨?_,by rw[hr];rfl⟩;unfold Ce;rw[wy.2 hk];have hk:∀a∈c.set,FU ks true a=false:=λa ha=>bg (by have:=h.2 a ha;rwa [WL hr] at this);have o:Ce ks true c.set=[]:=by
  unfold Ce;rw[xY];exact λa ha=>by rw[hk a ha];decide
 rcases i with h|h;rw[o] at h;cases h;simp[Bj,hr] at h
def Z2{c:Cel}(i:FM ks c.set)(hC:GL ks c):Ax ks (Bz c)/\Ao (Bz c)=1:=
 ⟨.inr (.inr ⟨rfl,by simpa[Bz] using hC.1,rfl,rfl,by simp[Bz],i.1⟩),rfl⟩
def lK{b:Bool}{s:W_}(i:FM ks s)(hk:∀a∈s,FU ks b a=true):Ei ks (s.map DB):=by
 refine⟨?_,by rw[FA];exact i.1.2.1,λc hc=>?_⟩;have h:=i.1.1;show List.Pairwise _ _;rw[List.pairwise_map];exact h;obtain⟨a,ha,rfl⟩:=i7.1 hc;exact⟨λe=>(by cases e),λ_=>i.1.2.2 a ha,Xy (hk a ha)⟩
def lW:∀(l:Y_) (x:V'),Ah (l.map Bz++x)=Ah x/\Bf (l.map Bz++x)=l.length+Bf x:=by
 intro l;induction l with
 |nil=>intro x;exact⟨rfl,D_⟩
 |cons c l i=>
  intro x;obtain⟨h1,j⟩:=i x;refine⟨?_,?_⟩;show(if(2:Int)=2 then 0 else(0:Int).toNat)+Ah (l.map Bz++x)=_;rw[h1];simp;show(if(2:Int)=3 then 0 else if(2:Int)=2 then[c.r].length else(0:Int).toNat)+Bf (l.map Bz++x)=_;rw[j];simp;omega
def eJ:∀(l:Y_) (x:V'),Bt 1 0 x->Bt 1 0 (l.map Bz++x):=by
 intro l;induction l with
 |nil=>intro x h;exact h
 |cons c l i=>
  intro x h;show(if(2:Int)=2 then(0:Int)≠1/\Bt 1 0 (l.map Bz++x) else _);rw[Cx rfl];exact⟨B_,i x h⟩
def Tc(J:Hy ks d)(hC:∀c∈d,GL ks c):(∀o∈Dt d,Ax ks o/\Ao o=1)/\Bt 1 0 (Dt d)/\(∀o∈Dt d,Cr ks o)/\Ah (Dt d)=1/\Bf (Dt d)=d.length/\(Dt d).length=d.length:=by
 have hl:=J.Jr;cases e:d.getLast? with
 |none=>
  rw[xK] at e;subst e;cases hl
 |some c=>
  obtain⟨l,B⟩:=aAm.1 e;have hr:c.r=10:=by
   rw[B] at hl;simpa[BA] using hl
  have hm:c∈d:=by rw[B];simp
  have hk:=(hC c hm).2;rw[hr] at hk;have O:Dt d=l.map Bz++[⟨1,1,[],[],c.set.map DB⟩]:=by unfold Dt;rw[e,B,wK]
  have j:∀x∈l,x∈d:=λx I=>by rw[B];simp[I]
  rw[O];obtain⟨Q,U⟩:=lW l [⟨1,1,[],[],c.set.map DB⟩];refine⟨λo i=>?_,eJ l _ ?_,λo i=>?_,?_,?_,?_⟩;rcases DN.1 i with i|i;obtain⟨x,I,rfl⟩:=i7.1 i;exact Z2 (J.set x (j x I)) (hC x (j x I));rw[so.1 i];exact⟨.inl ⟨rfl,rfl,rfl,aAL 1,lK (J.set c hm) hk⟩,rfl⟩;show(if(1:Int)=2 then _ else if(1:Int)=3 then _ else Bt 1 (0+1) []);rw[Bp B_,Bp B_];trivial;rcases DN.1 i with i|i;obtain⟨x,I,rfl⟩:=i7.1 i;exact XB (hC x (j x I));rw[so.1 i];intro h;cases h;rw[Q];rfl;rw[U,B];simp[Bf];rw[B];simp
end
def iX{o:Dop}(h:Oh o)(hk:o.kind≠2):o.n=(Ao o:Nat)/\1<=o.n:=by
 have:=h.Ct;simp[Ao,hk] at this ⊢;omega
def R8:V'->Int
 |[]=>1
 |o::_=>o.kind
section
variable {S D M:f_}{W W':e_}{b d:Nat}{sv:d_}{x u:V'}
end
def Ii.cut{b:Nat}{s:MkS}(h:Ii F W b s):Ii (λx=>F x/\x<W.heap.size) W b s:=by
 obtain⟨dv,X,C,j,h⟩:=h;refine⟨dv,X,C,j,h.c0,h.c1,h.c2,h.lv,⟨h.fb,q8 W _ h.c0⟩,h.nb,λx Q=>⟨h.cf x Q,(h.cf x Q).2⟩,h.done,λg o=>⟨⟨(h.dF g o).1,(AG.Az h.done g o).2⟩,(h.dF g o).2⟩,?_⟩;rcases h.ins with h0|⟨g,c,Y,U,Z,V,e4,e5,e6,e7,e8,e9,B,I,J,i,O⟩;exact .inl h0;exact .inr ⟨g,c,Y,U,Z,V,⟨e4,(AG.Az V g (by rw[U];rfl)).2⟩,e5,e6,e7,⟨e8,i⟩,e9,B,I,J,i,O⟩
section
variable {W0 W W':e_}{F0 F F1:f_}{b:Nat}{s s':MkS}
end
def rh{v:BF}(h:EE v):v.s.size<=64:=by
 rcases h with⟨_,e,_⟩|⟨_,e⟩|⟨_,e,_⟩|⟨_,_,h,_⟩;rw[e];show HO.size<=64;decide;rw[e];show HO.size<=64;decide;rw[e];show HO.size<=64;decide;exact h
def iB(f:α->Nat)(c:Nat):∀(l:List α),(∀a∈l,f a<=c)->(l.map f).sum<=c*l.length:=by
 intro l;induction l with
 |nil=>intro _;simp
 |cons a l i=>
  intro h;have h1:=i λa ha=>h a (by simp[ha]);have j:=h a D_;simp[S4,wJ,Hn,Nat.mul_add,xd];omega
section
variable {ks:Y'}
def GK.m{l:W_}(h:GK ks l):Eo l<=4160:=by
 have:=iB Gl 65 l λa ha=>by have:=rh (h.2.2 a ha).1;unfold Gl;omega
 have:=h.2.1;unfold Eo;omega
def Ei.m{l:Z_}(h:Ei ks l):FK l<=4160:=by
 have:=iB KO 65 l λc hc=>by
  obtain⟨h1,i,_⟩:=h.2.2 c hc;unfold KO;cases e:c.Ak with
  |true=>rw[h1 e];decide
  |false=>have:=rh (i e).1;omega
 have:=h.2.1;unfold FK;omega
def Ax.m{o:Dop}(h:Ax ks o):Co o<=8322*Ao o/\1<=Ao o:=by
 have i:Eo []=0:=rfl;have j:FK []=0:=rfl;rcases h with⟨h1,B,I,J,O⟩|⟨h1,B,I,J,O⟩|⟨h1,B,I,J,O,Q⟩;have:=O.m;simp[Co,Ao,h1,B,I,i,gC,(B_:¬(1:Int)=2)];omega;simp[Co,Ao,h1,B,I,J,i,j,gC,(B_:¬(3:Int)=2)];omega;have:=Q.m;have:=wN.2 O;simp[Co,Ao,h1,J,j];omega
def Ph{l:V'}(h:∀o∈l,Ax ks o):Aa l<=8322*Aw l/\l.length<=Aw l:=by
 induction l with
 |nil=>simp[Aa,Aw]
 |cons o l i=>
  have h1:=i λo j=>h o (by simp[j]);have B:=Ax.m (h o D_);simp[Aa,Aw,S4,wJ,Hn] at *;omega
def H6.vi{s:MkS}{t:Nat}(h:H6 (GK ks) (Ei ks) s t)(ht:t<=16777216):Aa s.done+Aa s.ins<=274877906944/\s.done.length+s.ins.length<=16777216/\∀o∈s.ins,o.AY.length<=16777216:=by
 have h1:=Ph h.done;have j:=Ph λo i=>(h.ins o i).1;have B:=h.FH;refine⟨E,E,λo i=>?_⟩;have:=LY i;simp[Ao,(h.ins o i).2] at this;omega
end
section
variable {ks:Y'}
def hU{o:Dop}(i:∀a∈o.set,PT a)(hp:∀c∈o.patch,PT ⟨c.key,c.val⟩):IH o:=⟨λa ha=>⟨(i a ha).1.2,(i a ha).2.2.1,(i a ha).2.2.2.1⟩,λc hc=>⟨(hp c hc).1.2,(hp c hc).2.2.1,(hp c hc).2.2.2.1⟩⟩
def QH(O:∀k∈ks,Cq k)(B:Hy ks d)(hC:∀c∈d,GL ks c)(hl:d.length<=10000) : BD ks [⟨10,[]⟩] (AL (Dt d))=d/\Bf (AL (Dt d))<=d.length/\(∀o∈AL (Dt d),IH o)/\(AL (Dt d)).length<=d.length/\Aa (AL (Dt d))<=1000000000:=by
 obtain⟨j,Q,U,f4,f5,f6⟩:=Tc B hC;have V:∀o∈Dt d,IH o:=by
  intro o i;unfold Dt at i;split at i;rename_i c e;rcases DN.1 i with i|i;obtain⟨x,X,rfl⟩:=i7.1 i;exact hU (λa ha=>(B.set x (List.dropLast_subset _ X)).2 a ha) λc hc=>by cases hc
  rw[so.1 i];refine hU (λa ha=>by cases ha) λq Y=>?_;obtain⟨a,ha,rfl⟩:=i7.1 Y;exact(B.set c (xI e)).2 a ha;cases i
 have J:Aw (Dt d)=d.length:=by rw[<-f6];exact IZ λo i=>(j o i).2
 obtain⟨Z,e2,e3,e4,e5⟩:=NM (ks:=ks) (n:=1) (λo i=>(j o i).1.QR (by rw[(j o i).2];decide)) E E Q U;obtain⟨n1,n2,_,_,n5⟩:=K3 (λk I=>by have:=(O k I).1;omega) (NH (λz hz=>(j z hz).1) E) V E;have hm:=Ph λo i=>(j o i).1;have hn:=NU (Dt d);exact⟨by rw[Z];exact po B hC,E,λo i=>(n2 o i).1.b,E,E⟩
def ZD(O:∀k∈ks,Cq k)(I:Hy ks d)(hC:∀c∈d,GL ks c)(hl:d.length<=10000):CU ks (AL (Dt d))=0:=by
 obtain⟨j,Q,U,V,X,J⟩:=Tc I hC;have B:Aw (Dt d)=d.length:=by rw[<-J];exact IZ λo i=>(j o i).2
 obtain⟨c1,c2⟩:=OD (Dt d) (λo i=>(j o i).1) E;exact NH c1 E
end
def sr{o:Y'}(hk:Mh S w v o)(hd:BS M M w dv d)(hT:DV w0)(g0:AI w0 w) (Y:∀ks:Y',ks.Perm o->ks.Pairwise (λx y=>x.id<y.id)->Hy ks d/\∀c∈d,GL ks c)(hp:0<d.length)(hl:d.length<=300) : AF prog 8 [v,dv,zI most] (λv' w'=>AI w w'/\((∃ p,v'=.tuple #[p,.bool false])\/∃ (e:EgA) (sv:d_) (ks:Y') (C F:f_) (H:Hist) (N:Nat),v'=.tuple #[g_ e.b,.bool true]/\ks.Perm o/\ks.Pairwise (λx y=>x.id < y.id)/\(∀ x,F x\/C x->w.heap.size<=x)/\ MF w0 F w' e ⟨sv,ks,C⟩ most d [] H N/\FV ks most d/\most < 536870912/\N<=6000000/\H.op=false/\H.us.length<=H.max/\H.max<=65536/\∀ k ∈ ks,Cq k)) w:=by
 apply I' func8;apply AA (Vo hk hT g0);rintro _ w1 ⟨X,⟨m1,m2,_,_,Z,e,sv,ks,C,F,rfl,j,U,J,hE⟩|⟨_,c,hc,rfl⟩⟩;rotate_left;refine Af (vs:=[_,_]) rfl (Af (vs:=[_,_]) rfl ?_);rw[BH];exact AT (λe=>(hc e).elim) λ_=>⟨X,.inl ⟨_,rfl⟩⟩;refine Af (vs:=[_,_]) rfl (Af (vs:=[_,_]) rfl ?_);refine KU ?_;obtain⟨hG,hC⟩:=Y ks j U;obtain⟨k1,k2,_⟩:=NT.1 Z;have hK:∀k∈ks,Cq k:=λk hk=>k2 k (j.mem_iff.1 hk);have a1:=VB hG.set;apply AA (TK (BS.U_ hd X) hp E λc hc=>(hG.set c hc).len);rintro xv w2 ⟨ho,g2⟩;obtain⟨d1,d2,d3,d4,d5⟩:=QH hK hG hC E;have s1:=X.size;obtain⟨Ft,Fh,Fc,cv,hR,hF⟩:=hE;have a6:CK 400 (AL (Dt d))<=5500000:=by
  show 2*(AL (Dt d)).length*(22*400+50)<=_;omega
 refine AA (QY (B:=400) (hR.i.U_ g2) hT (VY m1) (λc hc=>by rw[so.1 hc];exact⟨by unfold Dc;decide,λa ha=>by cases ha⟩) (by rw[j.length_eq];exact k1) hK (CZ.reads ho) (λy hy Q=>by have:=hR.lt y Q;omega) d3 E E D_ (λ_=>by have:=(FD (AL (Dt d))).1;simp;omega) E E E rfl (Hw _) B_) ?_;rintro _ w3 ⟨rfl,⟨F',f1,O,mF⟩,V⟩;have g3:=(X.trans g2).next mF λx I e=>by have:=J x (.inl (hF x e));omega
 rw[Aj];by_cases Q:BY ks (AL (Dt d)) [(⟨10,[]⟩:Cel)].length most=0;have es:CC ks most [⟨10,[]⟩] (AL (Dt d))=d:=by unfold CC;rw[Cx Q,d1]
 rw[es] at O V;rw[Cx Q] at O;have s2:=g2.size;refine⟨g3,.inr ⟨e,sv,ks,C,F',_,_,by rw[TC Q],j,U,λx I=>?_,O,V,m2,E,rfl,?_,(B_:(4:Nat)<=65536),hK⟩⟩;rcases I with I|I;rcases f1 x I with I|I;exact J x (.inl (hF x I));omega;exact J x (.inr I);exact(SU (mx:=4) (us:=[]) (Hw _)).1;exact⟨g3,.inl ⟨_,by rw[WL Q]⟩⟩
def lN{i j:Int}(hi:0<=i)(a1:i<=j)(hj:j<=1099511627776) : AF prog 76 [zI i,zI j] (λv' w'=>CZ w.heap.size w' v' (AL [⟨1,i,[],[],[]⟩,⟨3,j-i,[],[],[]⟩])/\AI w w') w:=by
 apply G_ func76;apply AA LC;rintro _ w1 ⟨V,b,O,a6,rfl,Q⟩;have o:Ii (λy=>w.heap.size<=y) w1 b MkS.z:=Q.sub λy J=>by rw[J];exact O
 apply AA (EO (n:=i) (p:=[]) (S:=λ_=>False) o BC.nil K_ B_ D_);rintro _ w2 ⟨U,X⟩;rw[A6,wrap64 E E];apply AA (LG U);rintro _ w3 ⟨B,Y⟩;have e:KC (GM MkS.z i []) (j-i)=BB [⟨1,i,[],[],[]⟩,⟨3,j-i,[],[],[]⟩]:=rfl;rw[e] at B;have a7:=Fu [(⟨1,i,[],[],[]⟩:Dop),⟨3,j-i,[],[],[]⟩];have a8:Aa [(⟨1,i,[],[],[]⟩:Dop),⟨3,j-i,[],[],[]⟩]=2:=rfl;have z1:=V.size;have z2:=X.size;have z3:=Y.size;apply AA (Kh B E);rintro v5 w5 ⟨I,g5⟩;refine⟨AG.U' (AG.Bk I λg hg=>by have:=(AG.Az I g hg).1;omega) l_ C0 λr x _ Z=>Z.U' l_ F_ λy _ J=>⟨by have:=J.1;omega,J.2⟩,?_⟩;exact((V.next X E).next Y λx Z e=>by rcases e with e|e<;>omega).trans g5
def Xb{A_ Sp:f_}{p:Z_}{i j:Int}(hS:Cg A_ w sv ks)(hp:Eg Sp w v p)(hT:DV w)(hf:∀c∈p,0<=c.val.f)(hi:0<=i)(a6:i<=j)(hj:j<=1099511627776)(hm:EL ks p=0)(hl:p.length<=1000000)(a7:FK p<=1099511627) : AF prog 73 [sv,zI i,zI j,v] (λv' w'=>AI w w'/\((CR ks true p≠[]/\∃xv,v'=.tuple #[xv,zI 7])\/(CR ks true p=[]/\∃xv,v'=.tuple #[xv,zI 0]/\CZ w.heap.size w' xv (AL [⟨1,i,[],[],[]⟩,⟨1,j-i,[],[],p⟩])))) w:=by
 apply O_ func73;have X:Eg (λy=>y<w.heap.size) w v p:=hp.sub (λb hb h=>hb) B_ C0;apply AA (QZ hS hp hT hf);rintro _ w1 ⟨rfl,Y⟩;rw[hm,BH];refine AT (λ_=>?_) λe=>(e rfl).elim;apply AA (Kv (b:=true) (hS.U_ Y) (hp.U_ Y B_ C0) E);rintro qv w2 ⟨hq,g2⟩;obtain⟨qa,qc,rfl,_⟩:=id hq.AO;have o:=Y.trans g2;rw[AP,BM];refine AE (λh0=>⟨o,.inl ⟨λe=>by rw[e] at h0;simp at h0,_,rfl⟩⟩) λh0=>?_;have Z:CR ks true p=[]:=Kx E;apply AA LC;rintro _ w3 ⟨g3,b,a8,aa,rfl,a1⟩;have ak:=o.size;have B:Ii (λy=>w.heap.size<=y) w3 b MkS.z:=a1.sub λy U=>by rw[U];omega
 apply AA (EO (n:=i) (p:=[]) (S:=λ_=>False) B BC.nil K_ B_ D_);rintro _ w4 ⟨I,m4⟩;have z4:=m4.size;have J:=(o.trans g3).next m4 E
 rw[A6,wrap64 E E];have l1:=Fu [(⟨1,i,[],[],[]⟩:Dop)];have l2:Aa [(⟨1,i,[],[],[]⟩:Dop)]=1:=rfl;have l3:=Bo (BB [(⟨1,i,[],[],[]⟩:Dop)]).done;have l4:=Bo (BB [(⟨1,i,[],[],[]⟩:Dop)]).ins;have e0:GM MkS.z i []=BB [⟨1,i,[],[],[]⟩]:=rfl;rw[e0] at I;refine AA (EO (n:=j-i) (p:=p) (S:=λy=>y<w.heap.size) I (X.U_ J B_ C0) (λx hx e=>by rcases e with e|e<;>omega) E E) ?_;rintro _ w5 ⟨O,m5⟩;have e:GM (BB [⟨1,i,[],[],[]⟩]) (j-i) p=BB [⟨1,i,[],[],[]⟩,⟨1,j-i,[],[],p⟩]:=rfl;rw[e] at O;have al:=Fu [(⟨1,i,[],[],[]⟩:Dop),⟨1,j-i,[],[],p⟩];have an:Aa [(⟨1,i,[],[],[]⟩:Dop),⟨1,j-i,[],[],p⟩]=2+FK p:=by simp[Aa,Co,Eo,FK];omega
 have z5:=m5.size;apply AA (Kh O E);rintro v6 w6 ⟨Q,g6⟩;refine⟨(J.next m5 λx hx e=>by rcases e with e|e<;>omega).trans g6,.inr ⟨Z,_,rfl,?_⟩⟩;exact AG.U' (AG.Bk Q λg hg=>by have:=(AG.Az Q g hg).1;omega) l_ C0 λr x _ hx=>hx.U' l_ F_ λy _ U=>⟨by have:=U.1;omega,U.2⟩
section
variable {w0:e_}{F Ft Fh Fc:f_}{W W':e_}{e:EgA}{cv:d_}{σ:SKs}{most:Int}{d clip:Y_}{H:Hist}{N:Nat}
def Oe(h:Ov w0 Ft Fh Fc W e cv σ most d clip H N){i j:Int} : AF prog 72 [g_ e.b,zI i,zI j] (λv' w'=>v'=.bool (decide (0<=i/\i<=j/\j<=(d.length:Int)))/\AI W w') W:=by
 apply I' func72;rw[DR];refine AE (λh1=>?_) λh1=>⟨by rw[WL λe=>h1 e.1],AK.refl _ _⟩;rw[GI];refine AE (λo=>?_) λo=>⟨by rw[WL λe=>o e.2.1],AK.refl _ _⟩;apply AJ;rw[AB,AH];apply AD (h.box.cells 1 _ rfl);apply AA (GV h.tx);rintro _ I ⟨rfl,B⟩;rw[GI];exact⟨tZ Value.bool (xX.2 ⟨λe=>⟨h1,o,e⟩,λe=>e.2.2⟩),B⟩
def rE(n i j:Int):Int:=if ¬(0<=i/\i<=j/\j<=n) then 5 else if j=n/\i<j then 6 else 0
def gK(h:Ov w0 Ft Fh Fc W e cv σ most d clip H N){i j:Int} : AF prog 74 [g_ e.b,zI i,zI j] (λv' w'=>v'=zI (rE d.length i j)/\AI W w') W:=by
 apply I' func74;apply AA (Oe h);rintro _ J ⟨rfl,o⟩;unfold rE;rw[Aq];refine AT (λB=>?_) λB=>⟨by rw[Cx B],o⟩;rw[Bp (λe=>e B)];have h1:=h.U_ o;apply AJ;rw[AB,AH];apply AD (h1.box.cells 1 _ rfl);apply AA (GV h1.tx);rintro _ O ⟨rfl,I⟩;rw[Aj];refine AE (λhe=>?_) λhe=>⟨by rw[Bp λe=>he e.1],o.trans I⟩;rw[As];exact AE (λhl=>⟨by rw[Cx ⟨he,hl⟩],o.trans I⟩) λhl=>⟨by rw[Bp λe=>hl e.2],o.trans I⟩
def bL{i j:Nat}(h:Ov w0 Ft Fh Fc W e cv σ most d clip H N)(V:∀c∈d,FM σ.ks c.set)(Q:i<=j)(X:j<=d.length)(Y:d.length<=10000000)(Z:N<=1000000000) : AF prog 75 [g_ e.b,zI (i:Int),zI (j:Int)] (λv' w'=>v'=zI 0/\AK (λx=>x=e.b) W w'/\∃O,Ov w0 Ft Fh (λx=>W.heap.size<=x/\x<w'.heap.size) w' e O σ most d ((d.take j).drop i) H N) W:=by
 apply I' func75;apply AA (EM h.box);rintro _ _ ⟨rfl,rfl⟩;rename e_=>W;refine AS (AJ ?_);rw[AB,AH];apply AD (h.box.cells 1 _ rfl);apply AA (J0 h.tx Q X V Y Z);rintro _ W1 ⟨O,rfl,hc,U⟩;refine Af (vs:=[_,_]) rfl (Af (vs:=[_,_]) rfl ?_);refine KU ?_;have h1:=h.U_ U;have hr:=hc.rd (HK _);obtain⟨ca,cc,rfl,_⟩:=id hr.AO;apply AJ;rw[AB,AH];have B:=h.lt;refine h1.box.st (q:=4) D_ rfl rfl λW2 B2 J=>?_;have z2:=J.size;have a1:=(B e.b (.inl rfl)).2;have hl:=h1.tx.hl;refine⟨rfl,(U.mono λ_ _ h=>h.elim:AK (λx=>x=e.b) W W1).trans J,_,⟨B2,h1.tx.U' J λx o=>?_,h1.hi.U' J λx o=>?_,?_,λx o=>⟨?_,o.2⟩,h.bw,⟨h.bn.1,h.bn.2.1,λo=>?_⟩,λx o=>⟨(h.th x o).1,λI=>?_⟩,λx o I=>?_⟩⟩;subst o;exact⟨h.bn.1,h.bw.2,h.bw.1⟩;subst o;exact⟨h.bn.2.1,h.bw.2,h.bw.1⟩;exact(hr.sub (λx _ o=>⟨o.1,by have:=o.2;omega⟩) B_ λr c hc=>hc.U' l_ F_ λx _ o=>⟨o.1,by have:=o.2;omega⟩).U' J (λx _ o I=>by subst I;have:=o.1;omega) B_ λr c hc=>hc.U' J (λx _ o I=>by subst I;have:=o.1;omega) C0;have:=h.tx.g.size;have:=o.1;omega;have:=o.1;omega;have:=(B x (.inr (.inl o))).2;have:=I.1;omega;have:=(B x (.inr (.inr (.inl o)))).2;have:=I.1;omega
def Xp(h:MF w0 F W e σ most d clip H N):AF prog 24 [g_ e.b] (λv' w'=>v'=zI (Bj (BA d):Int)/\AI W w') W:=by
 obtain⟨o,B,I,J,h,hF⟩:=h;apply H_ func24;apply AA (EM h.box);rintro _ _ ⟨rfl,rfl⟩;refine AS (AJ ?_);rw[AB,AH];apply AD (h.box.cells 1 _ rfl);obtain⟨l,Fr,O,hl,i⟩:=h.tx.Jk;apply AA (fX h.tx.box.1 i);rintro _ j ⟨rfl,g⟩;exact⟨by rw[hl],g⟩
def NX(i j:Int):V':=AL [⟨1,i,[],[],[]⟩,⟨3,j-i,[],[],[]⟩]
def Mo(i j:Int)(p:Z_):V':=AL [⟨1,i,[],[],[]⟩,⟨1,j-i,[],[],p⟩]
def fP{B i j:Nat}(h:MF w0 F W e σ most d clip H N)(hT:DV w0)(hM:FV σ.ks most d)(hC:∀c∈d,GL σ.ks c)(X:σ.ks.length<=64)(hK:∀k∈σ.ks,Cq k) (Y:i<=j)(hj:j<=d.length)(ho:rE d.length i j=0)(hI:∀o∈NX i j,IH o)(hl:(NX i j).length<=10000)(O:most<=536870912)(Z:d.length<=B)(Q:Dv σ.ks (NX i j) d.length most->d.length+DG (NX i j)<=B)(a1:B<=10000)(a6:Aa (NX i j)<=1099511627776)(hN:N+CK B (NX i j)<=1000000000)(a7:H.op=false)(hH:H.us.length<=H.max)(a8:H.max<=65536) : AF prog 20 [g_ e.b,zI (i:Int),zI (j:Int)] (λv' w'=>v'=zI (BY σ.ks (NX i j) d.length most)/\YA w0 F W w' e σ most (CC σ.ks most d (NX i j)) ((d.take j).drop i) (if BY σ.ks (NX i j) d.length most=0 then H.put (NX i j) (AL (CY σ.ks d (NX i j))) else H) (N+CK B (NX i j))/\FV σ.ks most (CC σ.ks most d (NX i j))) W:=by
 obtain⟨Ft,Fh,Fc,cv,hR,hF⟩:=h;apply I' func20;apply AA (EM hR.box);rintro _ _ ⟨rfl,rfl⟩;rename e_=>W;apply AS;apply AA (gK hR);rintro _ W1 ⟨rfl,g1⟩;rw[ho,BH];refine AT (λ_=>?_) λe=>(e rfl).elim;apply AA (bL (hR.U_ g1) hM.g.set Y hj E E);rintro _ W2 ⟨rfl,m2,an,U⟩;refine KU ?_;apply AA (lN E E E);rintro xv W3 ⟨aa,g3⟩;have z1:=g1.size;have z2:=m2.size;have z3:=g3.size;refine AA (Hu (S:=λy=>W2.heap.size<=y/\y<W3.heap.size) (U.U_ g3).i hT hM hC X hK (CZ.reads aa) (λy hy J=>by have:=U.lt y J;omega) hI hl O Z Q a1 a6 hN a7 hH a8) ?_;rintro _ W4 ⟨rfl,⟨F',f',ak,m4⟩,al⟩;refine⟨rfl,⟨F',λx I=>?_,ak,?_⟩,al⟩;rcases f' x I with(rfl|I|I|I)|I;exact .inl (hF _ (.inl rfl));exact .inl (hF _ (.inr (.inl I)));exact .inl (hF _ (.inr (.inr (.inl I))));have:=I.1;exact .inr E;exact .inr E;have V:=hF e.b (.inl rfl);refine((((g1.mono λ_ _ h=>h.elim:AK F W W1).trans (m2.mono λx _ I=>I▸V)).trans (g3.mono E')).next m4 λx I J=>?_);rcases J with rfl|J|J|J;exact V;exact hF _ (.inr (.inl J));exact hF _ (.inr (.inr (.inl J)));have:=J.1;omega
def Vi{B i j:Nat}{p:Z_}(h:MF w0 F W e σ most d clip H N)(hT:DV w0)(hM:FV σ.ks most d)(hC:∀c∈d,GL σ.ks c)(a1:σ.ks.length<=64)(hK:∀k∈σ.ks,Cq k) (hp:Eg C W v p)(U:∀c∈p,0<=c.val.f)(V:EL σ.ks p=0)(a6:CR σ.ks true p=[])(a7:p.length<=1000000)(a8:FK p<=1099511627) (b6:i<=j)(hj:j<=d.length)(hI:∀o∈Mo i j p,IH o)(hl:(Mo i j p).length<=10000)(X:most<=536870912)(aa:d.length<=B)(Y:Dv σ.ks (Mo i j p) d.length most->d.length+DG (Mo i j p)<=B)(ak:B<=10000)(al:Aa (Mo i j p)<=1099511627776)(hN:N+CK B (Mo i j p)<=1000000000)(an:H.op=false)(hH:H.us.length<=H.max)(av:H.max<=65536) : AF prog 19 [g_ e.b,zI (i:Int),zI (j:Int),v] (λv' w'=>v'=zI (BY σ.ks (Mo i j p) d.length most)/\YA w0 F W w' e σ most (CC σ.ks most d (Mo i j p)) clip (if BY σ.ks (Mo i j p) d.length most=0 then H.put (Mo i j p) (AL (CY σ.ks d (Mo i j p))) else H) (N+CK B (Mo i j p))/\FV σ.ks most (CC σ.ks most d (Mo i j p))) W:=by
 obtain⟨Ft,Fh,Fc,cv,O,hF⟩:=h;apply O_ func19;apply AA (EM O.box);rintro _ _ ⟨rfl,rfl⟩;rename e_=>W;refine AS (AJ ?_);rw[AB,AH];apply AD (O.box.cells 0 _ rfl);apply AA (QZ O.tx.Iy.1 hp (hT.U_ O.tx.g) U);rintro _ W1 ⟨rfl,g1⟩;rw[V,BH];refine AT (λ_=>?_) λe=>(e rfl).elim;apply AA (Oe (O.U_ g1));rintro _ W2 ⟨rfl,g2⟩;rw[Aq];refine AT (λ_=>?_) λZ=>(Z ⟨E,E,E⟩).elim;have I:=g1.trans g2;have J:=O.U_ I;apply AJ;rw[AB,AH];apply AD (J.box.cells 0 _ rfl);apply AA (Xb J.tx.Iy.1 (hp.U_ I B_ C0) (hT.U_ J.tx.g) U E E E V a7 a8);rintro _ W3 ⟨g3,⟨Z,_⟩|⟨_,xv,rfl,ax⟩⟩;exact(Z a6).elim;refine Af (vs:=[_,_]) rfl (Af (vs:=[_,_]) rfl ?_);refine KU ?_;have Q:=I.trans g3;have z3:=Q.size;have z2:=I.size;refine AA (Hu (S:=λy=>W2.heap.size<=y/\y<W3.heap.size) (O.U_ Q).i hT hM hC a1 hK (CZ.reads ax) (λy hy Z=>by have:=(J.lt y Z).2;omega) hI hl X aa Y ak al hN an hH av) ?_;rintro _ W4 ⟨rfl,⟨F',f',ay,m4⟩,b0⟩;exact⟨rfl,⟨F',λx hx=>(f' x hx).imp (hF x) E,ay,(Q.mono λ_ _ h=>h.elim:AK F W W3).trans (m4.mono λx _ hx=>hF x hx)⟩,b0⟩
def FC(p:Int)(f:Y_):V':=⟨1,p,[],[],[]⟩::f.map Bz
def bA{p:Int}{f:Y_}(hf:BS S F w sv f)(hm:Aa (FC p f)<=68719476736) : AF prog 77 [zI p,sv] (λv' w'=>CZ w.heap.size w' v' (AL (FC p f))/\AI w w') w:=by
 refine G_ func77 ?_ (.y (.y (.y (.x (.y (.node [13] [(6,6),(13,29)] (.y (.y (.x (.y (.dm [6,12] [0,0,0,6,14,30,62,0,0,384,896,1920,4095]))))) .nil))))));have J:BS (λy=>y<w.heap.size) (λy=>y<w.heap.size) w sv f:=hf.sub (λb hb h=>hb) B_ λr c hc=>hc.U' l_ F_ λy B h=>B;apply AA LC;rintro _ w1 ⟨g1,b,a1,an,rfl,a6⟩;have O:Ii (λy=>w.heap.size<=y) w1 b MkS.z:=a6.sub λy B=>by rw[B];exact a1
 apply AA (EO (n:=p) (p:=[]) (S:=λ_=>False) O BC.nil K_ B_ D_);rintro _ w2 ⟨Q,m2⟩;have z1:=g1.size;have z2:=m2.size;have a7:AI w w2:=g1.next m2 E;have ex:∀k,BB ((FC p f).take (k+1))=((f.take k).map Bz).foldl BX (GM MkS.z p []):=by
  intro k;unfold BB FC;rw[wX,wP,wR];rfl
 have e0:GM MkS.z p []=BB ((FC p f).take 1):=(ex 0).symm;rw[e0] at Q;have av:f.length+1<=Aa (FC p f):=by have:=Bo (FC p f);simpa[FC] using this
 obtain⟨a,c,rfl,_⟩:=J.AO;rw[AP];refine AX (λvs W=>∃k:Nat,k<=f.length/\vs=[zI k]/\Ii (λy=>w.heap.size<=y) W b (BB ((FC p f).take (k+1)))/\AI w W) (λvs _=>f.length-Di vs 0) ⟨0,Hw _,rfl,Q.sub λy B=>by rcases B with B|B<;>omega,a7⟩ ?_;rintro vs W ⟨k,hk,rfl,hI,g⟩ _;simp[Bh];refine HP (λax=>?_) λay=>?_;rotate_left;obtain rfl:k=f.length:=E;rw[wM (by simp[FC])] at hI;have b0:=Fu (FC p f);apply AA (Kh hI E);rintro v5 w5 ⟨U,g5⟩;have z:=g.size;exact⟨AG.U' (AG.Bk U λg hg=>by have:=(AG.Az U g hg).1;omega) l_ C0 λr x _ hx=>hx.U' l_ F_ λy _ B=>⟨by have:=B.1;omega,B.2⟩,g.trans g5⟩;have I:k<f.length:=E;have zW:=g.size;have gd:AI W W.drew:=AK.drew _ _;have zd:W.drew.heap.size=W.heap.size:=rfl;obtain⟨q,r,rfl,qb,hr,hc,Z,rfl,hs⟩:=(J.U_ (g.trans gd)).get I;apply Ag (λj y=>j=12/\w.heap.size<=y/\y<W.heap.size);have ld:∀{l:X'} {j:Nat} {u:d_},(∀i∈l,i≠12)->[Value.int .i32 f[k].r,Z][j]?=some u->W.drew.cell? (q.add (k*2+j))=some u/\∀i∈l,¬((λj y=>j=12/\w.heap.size<=y/\y<W.heap.size) i (q.add (k*2+j)).block):=λhl hj=>⟨hc _ _ hj,λi hi e=>hl i hi e.1⟩;apply AW I;rw[AB,Addr.add_add];apply AU (ld (j:=0) B_ rfl);apply GY (Dj (v:=.int .i32 f[k].r) (vs:=[.int .i32 f[k].r]) (k:=1) rfl B_ rfl rfl);have V:AI W.drew (W.drew.alloc (.cells [Value.int .i32 f[k].r].toArray 21)):=AK.alloc _ _ _;refine⟨V.mono E',?_⟩;have ho:AG W.drew.heap.size 21 1 CM (W.drew.alloc (.cells [Value.int .i32 f[k].r].toArray 21)) (.slice (h_ W.drew.heap.size) 1 1) [f[k].r]:=AG.N5 (HK _) rfl (λu hu=>by simp at hu;subst hu;rfl) rfl;have b6:=V.size;apply AW I;rw[AB,Addr.add_add];apply AU (ld (j:=1) B_ rfl);have a8:Ii (λy=>w.heap.size<=y/\y<W.heap.size) (W.drew.alloc (.cells [Value.int .i32 f[k].r].toArray 21)) b (BB ((FC p f).take (k+1))):=((hI.lt).U' gd C0).U' V C0;have aa:Jl (λy=>y<w.heap.size\/y=W.heap.size) (W.drew.alloc (.cells [Value.int .i32 f[k].r].toArray 21)) (.slice (h_ W.drew.heap.size) 1 1) [f[k].r]:=BC.sub (AG.sl ho) (λx hx h=>.inr (by have:=h.2;simp[Value.ownBlock,S5] at this;exact this.symm)) B_ C0;have X:CI (λy=>y<w.heap.size\/y=W.heap.size) (W.drew.alloc (.cells [Value.int .i32 f[k].r].toArray 21)) Z (Bz f[k]).set:=(hs.U_ V B_ C0).sub (λ_ _ h=>.inl h) B_ C0;have b7:=Fu ((FC p f).take (k+1));have ak:=Jc (FC p f) (k+1);have b8:=Bo (BB ((FC p f).take (k+1))).ins;have Y:Bz f[k]∈FC p f:=aN _ (i7.2 ⟨f[k],Q0 I,rfl⟩);have b9:=EP Y;have ba:(Bz f[k]).set.length<=Eo (Bz f[k]).set:=by rw[LL];omega
 have al:Eo (Bz f[k]).set<=Co (Bz f[k]):=by unfold Co;omega
 refine AA (Hd a8 aa X (λy B e=>by rcases B with B|B;(have:=e.1;omega);(have:=e.2;omega)) E (λo ho=>?_) D_ E) ?_;have h1:=EP ho;simp[Co] at h1;simp;omega;rintro _ W3 ⟨h3,m3⟩;refine⟨m3.mono λy _ e=>⟨rfl,e⟩,?_⟩;rw[AR,AM E];refine⟨⟨k+1,I,rfl,?_,?_⟩,by rw[CL,CL];omega⟩;have e1:(FC p f).take (k+1+1)=(FC p f).take (k+1)++[Bz f[k]]:=by
  rw[Lc (i:=k+1)];congr 1;simp[FC,By I]
 rw[e1,JK];exact h3.sub λy B=>by rcases B with B|B;(exact B.1);(have:=zd;omega)
 exact(g.trans (gd.trans V)).next m3 λy B e=>by have:=e.1;omega
def Wh{B p:Nat}(h:MF w0 F W e σ most d clip H N)(hT:DV w0)(hM:FV σ.ks most d)(hC:∀c∈d,GL σ.ks c)(U:σ.ks.length<=64)(hK:∀k∈σ.ks,Cq k) (I:fE d.length p clip.length most=0)(V:clip≠[])(an:clip.length<=1099511627776)(X:Aa (FC p clip)<=68719476736)(hI:∀o∈AL (FC p clip),IH o)(hl:(AL (FC p clip)).length<=10000)(J:most<=536870912)(Y:d.length<=B)(O:Dv σ.ks (AL (FC p clip)) d.length most->d.length+DG (AL (FC p clip))<=B)(Z:B<=10000)(a1:Aa (AL (FC p clip))<=1099511627776)(hN:N+CK B (AL (FC p clip))<=1000000000)(a6:H.op=false)(hH:H.us.length<=H.max)(a7:H.max<=65536) : AF prog 21 [g_ e.b,zI (p:Int)] (λv' w'=>v'=zI (BY σ.ks (AL (FC p clip)) d.length most)/\YA w0 F W w' e σ most (CC σ.ks most d (AL (FC p clip))) clip (if BY σ.ks (AL (FC p clip)) d.length most=0 then H.put (AL (FC p clip)) (AL (CY σ.ks d (AL (FC p clip)))) else H) (N+CK B (AL (FC p clip)))/\FV σ.ks most (CC σ.ks most d (AL (FC p clip)))) W:=by
 obtain⟨Ft,Fh,Fc,cv,Q,hF⟩:=h;apply G_ func21;apply AA (EM Q.box);rintro _ _ ⟨rfl,rfl⟩;rename e_=>W;refine AS (AJ ?_);rw[AB,AH];apply AD (Q.box.cells 4 _ rfl);obtain⟨ca,cc,a8,_⟩:=id Q.cl.AO;subst a8;rw[AP];apply AA (Ta Q E ⟨E,E⟩);rintro _ W1 ⟨rfl,g1⟩;rw[I,BH];refine AT (λ_=>?_) λe=>(e rfl).elim;have j:=Q.U_ g1;apply AJ;rw[AB,AH];apply AD (j.box.cells 4 _ rfl);rw[AP,Aj];refine AE (λe'=>(V (Kx E)).elim) λ_=>?_;apply AJ;rw[AB,AH];apply AD (j.box.cells 4 _ rfl);apply AA (bA j.cl X);rintro xv W3 ⟨aa,g3⟩;have z1:=g1.size;refine AA (Hu (S:=λy=>W1.heap.size<=y/\y<W3.heap.size) (j.U_ g3).i hT hM hC U hK (CZ.reads aa) (λy hy e'=>by have:=(j.lt y e').2;omega) hI hl J Y O Z a1 hN a6 hH a7) ?_;rintro _ W4 ⟨rfl,⟨F',f',ak,m4⟩,al⟩;have z3:=g3.size;exact⟨rfl,⟨F',λx hx=>(f' x hx).imp (hF x) E,ak,((g1.trans g3).mono λ_ _ h=>h.elim:AK F W W3).trans (m4.mono λx _ hx=>hF x hx)⟩,al⟩
end
def kL:DKey:=⟨1,false,1,true,false,0⟩
def aL:Attr:=⟨1,⟨1,1,0,HO⟩⟩
def cL:Chg:=⟨1,false,⟨1,1,0,HO⟩⟩
def Ou:∀k∈[kL],Cq k:=λk hk=>by simp at hk;subst hk;unfold Cq;decide
def pr:EE ⟨1,1,0,HO⟩:=.inl ⟨rfl,rfl,.inr rfl⟩
def rW:II [kL] 1 ⟨1,1,0,HO⟩:=⟨kL,rfl,pr,rfl⟩
def FEE:GK [kL] [aL]:=⟨zk _ _,B_,λa ha=>by simp at ha;subst ha;exact⟨pr,rW⟩⟩
def sK:Ei [kL] [cL]:=⟨zk _ _,B_,λc hc=>by simp at hc;subst hc;exact⟨λh=>(by cases h),λ_=>⟨pr,rW⟩,B_⟩⟩
def tU{n:Int}{p:Z_}(h:1<=n)(hp:Ei [kL] p):Ax [kL] ⟨1,n,[],[],p⟩:=.inl ⟨rfl,rfl,rfl,h,hp⟩
def vY{n:Int}(h:1<=n):Ax [kL] ⟨3,n,[],[],[]⟩:=.inr (.inl ⟨rfl,rfl,rfl,rfl,h⟩)
def uD{r:X_}{s:W_}(h:∀x∈r,0<=x/\x<=1000)(hr:r≠[])(i:GK [kL] s):Ax [kL] ⟨2,0,r,s,[]⟩:=.inr (.inr ⟨rfl,λx j=>.inl (by have:=h x j;omega),rfl,rfl,hr,i⟩)
def vA(r:X_):Cr [kL] ⟨2,0,r,[],[]⟩:=λ_ h=>absurd rfl h
def ns{o:Dop}(h1:o.set=[]\/o.set=[aL])(i:o.patch=[]\/o.patch=[cL]):IH o:=by
 refine⟨λa ha=>?_,λc hc=>?_⟩;rcases h1 with h|h<;>rw[h] at ha;cases ha;simp at ha;subst ha;unfold HR;decide;rcases i with h|h<;>rw[h] at hc;cases hc;simp at hc;subst hc;unfold HR;decide
def x1:V':=[⟨2,0,[97,98,99,10,100],[],[]⟩]
def x2:V':=[⟨1,1,[],[],[]⟩,⟨1,1,[],[],[cL]⟩]
def x3:V':=[⟨1,1,[],[],[]⟩,⟨3,3,[],[],[]⟩]
def x4:V':=[⟨1,2,[],[],[]⟩,⟨2,0,[98],[aL],[]⟩,⟨2,0,[99,10],[],[]⟩]
def d0:Y_:=[⟨10,[]⟩]
def d1:Y_:=[⟨97,[]⟩,⟨98,[]⟩,⟨99,[]⟩,⟨10,[]⟩,⟨100,[]⟩,⟨10,[]⟩]
def d2:Y_:=[⟨97,[]⟩,⟨98,[aL]⟩,⟨99,[]⟩,⟨10,[]⟩,⟨100,[]⟩,⟨10,[]⟩]
def d3:Y_:=[⟨97,[]⟩,⟨100,[]⟩,⟨10,[]⟩]
def d4:Y_:=[⟨97,[]⟩,⟨100,[]⟩,⟨98,[aL]⟩,⟨99,[]⟩,⟨10,[]⟩,⟨10,[]⟩]
def oI:Y_:=[⟨98,[aL]⟩,⟨99,[]⟩,⟨10,[]⟩]
structure oQ (d:Y_) (x:V') (d':Y_):Prop where
 UR:BY [kL] x d.length 50=0
 to:BD [kL] d x=d'
 pM:∀o∈x,IH o
 len:x.length<=3
 m:Aa x<=1000
def oQ.of{d j:Y_}{x:V'}(B:∀o∈x,Ax [kL] o)(ht:Aw x<=1000)(J:1<=d.length/\(d.length:Int)<=50)(hk:Ah x<=d.length)(O:Bt d.length 0 x)(hp:∀o∈x,Cr [kL] o)(hm:(d.length:Int)-Ah x+Bf x<=50)(Q:BD [kL] d x=j)(hi:∀o∈x,IH o)(hl:x.length<=3)(i:Aa x<=1000):oQ d x j:=
 ⟨(Br E).2 ⟨NH B E,λo I=>⟨B o I,by have:=LY I;omega⟩,J,hk,O,hp,hm⟩,Q,hi,hl,i⟩
def oQ.H9{d i:Y_}{x:V'}(h:oQ d x i)(J:Hy [kL] d)(hC:∀c∈d,GL [kL] c)(hl:d.length<=10):BY [kL] (AL (CY [kL] d x)) i.length 50=0/\BD [kL] i (AL (CY [kL] d x))=d/\jx (AL (CY [kL] d x))/\(AL (CY [kL] d x)).length<=13/\∀c∈i,GL [kL] c:=by
 have hF:=(Br (by have:=h.len;omega)).1 h.UR;have O:=hF.most;have Q:=hF.Gv;have U:=h.len;obtain⟨B,I,V,Z,X⟩:=SP (most:=50) Ou h.pM E J hC E E h.UR;rw[h.to] at B I;have Y:=NU (CY [kL] d x);refine⟨B,I,⟨V,E,E⟩,E,?_⟩;rw[<-h.to];exact M0 (λo j=>⟨(hF.Cs o j).1,hF.pl o j⟩) hC
def st1:oQ d0 x1 d1:=by
 refine .of (λo i=>?_) B_ B_ B_ (by simp[Bt,x1,d0]) (λo i=>?_) B_ (by decide +kernel) (λo i=>?_) B_ B_;all_goals simp[x1] at i;subst i
 exact uD B_ B_ Jb;exact vA _;exact ns (.inl rfl) (.inl rfl)
def st2:oQ d1 x2 d2:=by
 refine .of (λo i=>?_) B_ B_ B_ (by simp[Bt,x2,d1]) (λo i=>?_) B_ (by decide +kernel) (λo i=>?_) B_ B_;all_goals simp[x2,I3,wA,xx] at i;rcases i with rfl|rfl
 exact tU B_ Ek;exact tU B_ sK;intro h;exact absurd h B_;intro h;exact absurd h B_;exact ns (.inl rfl) (.inl rfl);exact ns (.inl rfl) (.inr rfl)
def tR:oQ d2 x3 d3:=by
 refine .of (λo i=>?_) B_ B_ B_ (by simp[Bt,x3,d2]) (λo i=>?_) B_ (by decide +kernel) (λo i=>?_) B_ B_;all_goals simp[x3,I3,wA,xx] at i;rcases i with rfl|rfl
 exact tU B_ Ek;exact vY B_;intro h;exact absurd h B_;intro h;exact absurd h B_;exact ns (.inl rfl) (.inl rfl);exact ns (.inl rfl) (.inl rfl)
def tX:oQ d3 x4 d4:=by
 refine .of (λo i=>?_) B_ B_ B_ (by simp[Bt,x4,d3]) (λo i=>?_) B_ (by decide +kernel) (λo i=>?_) B_ B_;all_goals simp[x4,I3,wA,xx] at i;rcases i with rfl|rfl|rfl
 exact tU B_ Ek;exact uD B_ B_ FEE;exact uD B_ B_ Jb;intro h;exact absurd h B_;intro _ _ h;exact absurd h (by decide +kernel);exact vA _;exact ns (.inl rfl) (.inl rfl);exact ns (.inr rfl) (.inl rfl);exact ns (.inl rfl) (.inl rfl)
def rk:x1=AL (HV [kL] ((0:Nat):Int) [97,98,99,10,100] (NL d0 (((0:Nat):Int)-1)) []):=by decide +kernel
def R7:Mo ((1:Nat):Int) ((2:Nat):Int) [cL]=x2:=by decide +kernel
def Sc:NX ((1:Nat):Int) ((4:Nat):Int)=x3:=by decide +kernel
def SL:AL (FC ((2:Nat):Int) oI)=x4:=by decide +kernel
def sF:(d2.take 4).drop 1=oI:=rfl
def ZP{t:TypeId}{f:Nat×Nat}(l:X_)(hl:l.length<=1000):Cc (λy=>y=w.heap.size) (w.alloc (.cells (l.map λx=>Value.int .u8 x).toArray t f)) (.slice (h_ w.heap.size) l.length l.length) l:=by
 refine⟨_,_,rfl,HK _,by simp[maxLen];omega,λi x B=>⟨_,[.int .u8 x],rfl,rfl,rfl,λj u hu=>?_,rfl⟩⟩;rcases j with _|j;cases hu;have o:∀j,(⟨w.heap.size,0,none⟩:Addr).add j=⟨w.heap.size,j,none⟩:=λj=>by unfold Addr.add;split<;>simp_all
 have e:(w.alloc (.cells (l.map λx=>Value.int .u8 x).toArray t f)).heap[w.heap.size]?=some (.cells (l.map λx=>Value.int .u8 x).toArray t f):=by
  show(w.heap.push _)[w.heap.size]?=_;simp
 rw[o];unfold World.cell?;rw[e];simp[B];exact(nomatch hu)
def TL:[kL].length<=64:=B_
def mI(w:e_)(e:EgA)(σ:SKs)(d clip:Y_)(us rs:b_)(N:Nat)(W:e_):Prop:=∃F:f_,MF w F W e σ 50 d clip ⟨9,us,rs,false,[]⟩ N/\FV σ.ks 50 d/\AI w W/\∀x,F x->w.heap.size<=x
def Mm{e:EgA}{us rs:b_}{N N':Nat}(hJ:YA w F W W' e σ 50 d U ⟨9,us,rs,false,[]⟩ N)(j:FV σ.ks 50 d)(g:AI w W)(hF:∀x,F x->w.heap.size<=x)(o:N<=N'):mI w e σ d U us rs N' W':=by
 obtain⟨B,I,J,O⟩:=hJ;have z:=g.size;exact⟨B,J.up o,j,g.next O λx i e=>by have:=hF x e;omega,λx i=>(I x i).elim (hF x) E⟩
def nP{e:EgA}{d i clip:Y_}{us rs:b_}{g:Grp}(O:DV w)(h:mI w e ⟨sv,[kL],C⟩ i clip (us++[g]) rs N W)(UR:BY [kL] g.u i.length 50=0)(to:BD [kL] i g.u=d) (I:∀g'∈us++[g],jx g'.u/\g'.u.length<=13)(Y:N<=100000000)(hu:us.length<=8)(hr:rs.length<=8) : AF prog 22 [g_ e.b] (λv' w'=>v'=zI 0/\mI w e ⟨sv,[kL],C⟩ d clip us (rs++[g]) (N+3000000) w') W:=by
 obtain⟨F,Q,U,V,hF⟩:=h;have j:∀x:V',x.length<=13->CK 4000 x<=3000000:=λx Z=>by unfold CK;omega
 refine AA (SR Q O U TL Ou rfl (by rw[Ad,xD];omega) (by show rs.length<=_;omega) (λg' o=>⟨(I g' o).1,by have:=j _ (I g' o).2;omega⟩) B_) ?_;rintro _ w' (⟨hu,_⟩|⟨l,g',hu,rfl,hJ,B⟩);have:us++[g]=[]:=hu;simp at this;obtain⟨rfl,J⟩:=List.append_inj' hu rfl;obtain rfl:g=g':=by simpa using J
 have X:CC [kL] 50 i g.u=d:=by unfold CC;rw[Cx UR,to]
 rw[X] at hJ B;exact⟨by rw[show BY (⟨sv,[kL],C⟩:SKs).ks g.u i.length 50=0 from UR],Mm hJ B V hF (by have:=j g.u (I g D_).2;omega)⟩
def iC(hT : DV w) : AF prog 5 [] (λv w' => v = .bool true /\ AI w w') w := by
  refine P_ func5 ?_ (.y (.y (.y (.cut [] [(0,0),(14,38)] .nil (.y (.cut [] [(0,0),(41,66)] .nil (.x (.y (.node [67] [(0,0),(67,72)] .nil .nil)))))))));refine⟨kL.cells.toArray, C_, ?_⟩;apply GY (cs := kL.cells) C_;have aa := lI (w := w) [kL] D_;have e0 : (([kL].map DKey.cells).flatten : V_) = kL.cells := D_;rw[e0] at aa;have g1 : AI w (w.alloc (.cells kL.cells.toArray 58)) := AK.alloc _ _ _;apply AA (Vo (most := 50) (mx := 9) (w0 := w) aa hT g1);have cx : Gb [kL] := NT.2 ⟨D_, Ou, by unfold Rp; simp⟩;rintro _ w2 ⟨g2, ⟨_, _, _, _, _, e, sv, ks, C, F, rfl, hp, _, hF, hE⟩|⟨hn, _⟩⟩;rotate_left
  . exact absurd ⟨B_, B_, B_, B_, cx⟩ hn
  obtain rfl : ks = [kL] := List.perm_singleton.1 hp;rw[show(9 : Int).toNat = 9 from rfl] at hE;refine Af (vs := [_, _]) rfl (Af (vs := [_, _]) rfl ?_);refine⟨(⟨1, 1, 0, HO⟩ : BF).cells.toArray, C_, ?_⟩;refine⟨cL.cells.toArray, C_, ?_⟩;apply GY (cs := cL.cells) C_;have ak : AG w2.heap.size 63 6 EA (w2.alloc (.cells cL.cells.toArray 63)) (.slice (some ⟨w2.heap.size, 0, none⟩) 1 1) [cL] := AG.N5 (HK _) rfl (λu hu => EA.one (w := w) (x := cL) rfl u hu) rfl;have al := (AG.sl ak).sub (S' := λy => y = w2.heap.size) (λx X h => by have := h.2; simp[Value.ownBlock, S5] at this; exact this.symm) B_ λ_ _ h => h;have gp : AI w2 (w2.alloc (.cells cL.cells.toArray 63)) := AK.alloc _ _ _;have zp : (w2.alloc (.cells cL.cells.toArray 63)).heap.size = w2.heap.size + 1 := D_;clear ak;generalize w2.alloc (.cells cL.cells.toArray 63) = w3 at al gp zp ⊢;have z1 := g1.size;have z2 := g2.size;obtain⟨U, O⟩ : ∃U : Nat -> Prop, ∀x, U x ↔ F x /\ x<w2.heap.size := ⟨_, λ_ => yY⟩;have dj : MF w U w2 e ⟨sv, [kL], C⟩ 50 d0 [] ⟨9, [], [], false, []⟩ 24 := by
    obtain⟨Ft, Fh, Fc, cv, hR, dk⟩ := hE;exact⟨Ft, Fh, Fc, cv, hR, λx X => (O x).2 ⟨dk x X, (hR.lt x X).2⟩⟩
  have an : FV [kL] 50 d0 := VY B_;have av : ∀c∈d0, GL [kL] c := λc hc => by rw[so.1 hc]; exact⟨by unfold Dc; decide, λa ha => by cases ha⟩
  obtain⟨p1, p2, p3, p4, ax⟩ := st1.H9 an.g av B_;refine AV (λ_ W => ∃u1 o I J : V', mI w e ⟨sv, [kL], C⟩ d4 oI [⟨x1, u1⟩, ⟨x2, o⟩, ⟨x3, I⟩, ⟨x4, J⟩] [] 300000 W /\ (BY [kL] u1 d1.length 50 = 0 /\ BD [kL] d1 u1 = d0 /\ jx u1 /\ u1.length <= 13) /\ (BY [kL] o d2.length 50 = 0 /\ BD [kL] d2 o = d1 /\ jx o /\ o.length <= 13) /\ (BY [kL] I d3.length 50 = 0 /\ BD [kL] d3 I = d2 /\ jx I /\ I.length <= 13) /\ (BY [kL] J d4.length 50 = 0 /\ BD [kL] d4 J = d3 /\ jx J /\ J.length <= 13)) ?_ ?_;rotate_left
  . rw[BH]
    refine AT (λ_ => ?_) λe => (e rfl).elim;apply GY (cs := [.int .u8 97, .int .u8 98, .int .u8 99, .int .u8 10, .int .u8 100]) C_;apply AZ (Lib.run_convert_bytes_const w3 42 5 #[.int .u8 97, .int .u8 98, .int .u8 99, .int .u8 10, .int .u8 100] 5 5 underlying42 underlying5);have gb : AI w3 (w3.alloc (.cells #[.int .u8 97, .int .u8 98, .int .u8 99, .int .u8 10, .int .u8 100] 5 (5, 5 + 1))) := AK.alloc _ _ _;have hB := ZP (w := w3) (t := 5) (f := (5, 5 + 1)) [97, 98, 99, 10, 100] B_;have eB : (([97, 98, 99, 10, 100] : X_).map λx => Value.int .u8 x).toArray = #[.int .u8 97, .int .u8 98, .int .u8 99, .int .u8 10, .int .u8 100] := rfl;rw[eB] at hB;show AF _ _ [_, _, .slice (some ⟨w3.heap.size, 0, none⟩) 5 5] _ (w3.alloc (.cells #[.int .u8 97, .int .u8 98, .int .u8 99, .int .u8 10, .int .u8 100] 5 (5, 5 + 1)));generalize w3.alloc (.cells #[.int .u8 97, .int .u8 98, .int .u8 99, .int .u8 10, .int .u8 100] 5 (5, 5 + 1)) = w4 at hB gb ⊢;have ay := gp.trans gb;have dr := (g1.trans g2).trans ay;have b0 : CK 4000 x1 = 176100 := rfl;refine AA (aQ (p := 0) (b := [97, 98, 99, 10, 100]) (l := [97, 98, 99, 10, 100]) (line := []) (dj.U_ ay) hT an av TL Ou hB (λx X => by simp at X; rcases X with rfl|rfl|rfl|rfl|rfl<;>decide) (by decide +kernel) B_ B_ B_ B_ rfl (show lf [kL] (NL d0 ((0 : Nat) : Int)) = [] from by decide +kernel) rk st1.pM B_ B_ (show Aa (HV [kL] ((0 : Nat) : Int) [97, 98, 99, 10, 100] (NL d0 (((0 : Nat) : Int)-1)) []) <= 68719476736 by decide +kernel) (by rw[b0]; decide) rfl (Hw _) B_) ?_;rintro _ w5 ⟨rfl, a6, b6⟩;have f1 : BY (⟨sv, [kL], C⟩ : SKs).ks x1 d0.length 50 = 0 := st1.UR;have s1 : CC (⟨sv, [kL], C⟩ : SKs).ks 50 d0 x1 = d1 := by unfold CC; rw[Cx f1]; exact st1.to
    rw[Cx f1, s1, b0] at a6;rw[s1] at b6;rw[f1, BH];refine AT (λ_ => ?_) λe => (e rfl).elim;have dT : ∀x, U x -> w.heap.size <= x := λx X => by have := hF x (.inl ((O x).1 X).1); omega
    obtain⟨F5, h5, Y, g5, e1⟩ := Mm (us := [⟨x1, AL (CY [kL] d0 x1)⟩]) (rs := []) a6 b6 dr dT (HK _);obtain⟨ec, f5, _, m5⟩ := a6;have e2 : Eg (λy => y = w2.heap.size) w5 (.slice (some ⟨w2.heap.size, 0, none⟩) 1 1) [cL] := (al.U_ gb B_ λ_ _ h => h).U' m5 (λy _ hy e => by have := ((O y).1 e).2; omega) B_ λ_ _ h => h;obtain⟨q1, q2, q3, q4, b7⟩ := st2.H9 Y.g ax B_;have b8 : CK 100 x2 = 9000 := rfl;refine AA (Vi (B := 100) (i := 1) (j := 2) (p := [cL]) h5 hT Y ax TL Ou e2 (λc hc => by simp at hc; subst hc; decide) (Hi.2 sK) (show CR [kL] true [cL] = [] by decide +kernel) B_ B_ B_ B_ (by rw[R7]; exact st2.pM) (by rw[R7]; decide) B_ B_ (λ_ => by rw[R7]; decide) B_ (by rw[R7]; decide) (by rw[R7, b8]; decide) rfl B_ B_) ?_;rw[R7];rintro _ w6 ⟨rfl, b9, ba⟩;have f2 : BY (⟨sv, [kL], C⟩ : SKs).ks x2 d1.length 50 = 0 := st2.UR;have s2 : CC (⟨sv, [kL], C⟩ : SKs).ks 50 d1 x2 = d2 := by unfold CC; rw[Cx f2]; exact st2.to
    rw[Cx f2, s2, b8] at b9;rw[s2] at ba;rw[f2, BH];refine AT (λ_ => ?_) λe => (e rfl).elim;obtain⟨F6, h6, Z, g6, e3⟩ := Mm (us := [⟨x1, AL (CY [kL] d0 x1)⟩, ⟨x2, AL (CY [kL] d1 x2)⟩]) (rs := []) b9 ba g5 e1 (HK _);obtain⟨r1, r2, r3, r4, bb⟩ := tR.H9 Z.g b7 B_;have bk : CK 100 x3 = 9000 := rfl;refine AA (fP (B := 100) (i := 1) (j := 4) h6 hT Z b7 TL Ou B_ B_ B_ (by rw[Sc]; exact tR.pM) (by rw[Sc]; decide) B_ B_ (λ_ => by rw[Sc]; decide) B_ (by rw[Sc]; decide) (by rw[Sc, bk]; decide) rfl B_ B_) ?_;rw[Sc, sF];rintro _ w7 ⟨rfl, bl, bp⟩;have f3 : BY (⟨sv, [kL], C⟩ : SKs).ks x3 d2.length 50 = 0 := tR.UR;have s3 : CC (⟨sv, [kL], C⟩ : SKs).ks 50 d2 x3 = d3 := by unfold CC; rw[Cx f3]; exact tR.to
    rw[Cx f3, s3, bk] at bl;rw[s3] at bp;rw[f3, BH];refine AT (λ_ => ?_) λe => (e rfl).elim;obtain⟨F7, h7, a1, g7, e4⟩ := Mm (us := [⟨x1, AL (CY [kL] d0 x1)⟩, ⟨x2, AL (CY [kL] d1 x2)⟩, ⟨x3, AL (CY [kL] d2 x3)⟩]) (rs := []) bl bp g6 e3 (HK _);obtain⟨t1, t2, t3, t4, ed⟩ := tX.H9 a1.g bb B_;have bs : CK 100 x4 = 13500 := rfl;refine AA (Wh (B := 100) (p := 2) h7 hT a1 bb TL Ou B_ B_ B_ (by decide +kernel) (by rw[SL]; exact tX.pM) (by rw[SL]; decide) B_ B_ (λ_ => by rw[SL]; decide) B_ (by rw[SL]; decide) (by rw[SL, bs]; decide) rfl B_ B_) ?_;rw[SL];rintro _ w8 ⟨rfl, c4, c6⟩;have f4 : BY (⟨sv, [kL], C⟩ : SKs).ks x4 d3.length 50 = 0 := tX.UR;have s4 : CC (⟨sv, [kL], C⟩ : SKs).ks 50 d3 x4 = d4 := by unfold CC; rw[Cx f4]; exact tX.to
    rw[Cx f4, s4, bs] at c4;rw[s4] at c6;rw[f4, BH];refine AT (λ_ => ?_) λe => (e rfl).elim;exact⟨_, _, _, _, Mm (us := [⟨x1, AL (CY [kL] d0 x1)⟩, ⟨x2, AL (CY [kL] d1 x2)⟩, ⟨x3, AL (CY [kL] d2 x3)⟩, ⟨x4, AL (CY [kL] d3 x4)⟩]) (rs := []) c4 c6 g7 e4 B_, ⟨p1, p2, p3, p4⟩, ⟨q1, q2, q3, q4⟩, ⟨r1, r2, r3, r4⟩, t1, t2, t3, t4⟩
  rintro _ W ⟨u1, o, I, J, ⟨F', c7, c8, gW, e5⟩, P1, P2, P3, P4⟩ _;apply AA (Jf c7 c8.g.set B_ B_);rintro cv w9 ⟨hc, g9⟩;refine AV (λ_ W' => W' = w9) ?_ ?_;rotate_left
  . have a7 := hc.rd (HK _)
    obtain⟨ca, cc, rfl, _⟩ := a7.AO;rw[AP, BH];refine AT (λ_ => ?_) λe => (e rfl).elim;obtain⟨p, r, rfl, _, hr, c9, ee, rfl, e6⟩ := a7.get (i := 2) B_;apply AW (j := 2) B_;rw[AB, Addr.add_add];refine AD (by have := c9 0 _ rfl; exact this) ?_;rw[BH];refine AT (λ_ => ?_) λe => (e rfl).elim;apply AW (j := 2) B_;rw[AB, Addr.add_add];refine AD (by have := c9 1 _ rfl; exact this) ?_;obtain⟨sa, sc, rfl, _⟩ := e6.AO;rw[AP, BH];refine AT (λ_ => ?_) λe => (e rfl).elim;obtain⟨p', r', e7, _, ef, ch, ea, rfl, cu⟩ := a7.get (i := 3) B_;cases e7;apply AW (j := 3) B_;rw[AB, Addr.add_add];refine AD (by have := ch 1 _ rfl; exact this) ?_;obtain⟨eh, ei, rfl, _⟩ := cu.AO;rw[AP, BH];exact AT (λ_ => rfl) λe => (e rfl).elim
  rintro _ W' rfl _;rename e_ => w9;have h9 : mI w e ⟨sv, [kL], C⟩ d4 oI [⟨x1, u1⟩, ⟨x2, o⟩, ⟨x3, I⟩, ⟨x4, J⟩] [] 300000 w9 := ⟨F', c7.U_ g9, c8, gW.trans g9, e5⟩;have V : ∀g∈([⟨x1, u1⟩, ⟨x2, o⟩, ⟨x3, I⟩, ⟨x4, J⟩] : b_), jx g.u /\ g.u.length <= 13 := λg Q => by
    simp[I3, wA, xx] at Q;rcases Q with rfl|rfl|rfl|rfl
    . exact P1.2.2
    . exact P2.2.2
    . exact P3.2.2
    . exact P4.2.2
  apply AX (λvs W' => ∃(i : Nat) (rs : b_), i <= 4 /\ vs = [zI i] /\ rs.length <= i /\ mI w e ⟨sv, [kL], C⟩ ([d4, d3, d2, d1, d0].getD i d0) oI (([⟨x1, u1⟩, ⟨x2, o⟩, ⟨x3, I⟩, ⟨x4, J⟩] : b_).take (4-i)) rs (300000 + i*3000000) W') (λvs _ => 4-Di vs 0) ⟨0, [], B_, rfl, HK _, h9⟩;rintro vs W' ⟨i, rs, hi, rfl, ej, hP⟩ _;rw[Bh, JS, As];refine AE (λek => ?_) λen => ?_
  . have EU : ∀{d d' : Y_} {us : b_} {g : Grp}, mI w e ⟨sv, [kL], C⟩ d' oI (us ++ [g]) rs (300000 + i*3000000) W' -> BY [kL] g.u d'.length 50 = 0 -> BD [kL] d' g.u = d -> (∀g'∈us ++ [g], jx g'.u /\ g'.u.length <= 13) -> us.length <= 8 -> [d4, d3, d2, d1, d0].getD (i + 1) d0 = d -> ([⟨x1, u1⟩, ⟨x2, o⟩, ⟨x3, I⟩, ⟨x4, J⟩] : b_).take (4-(i + 1)) = us ->
        AF prog 22 [.pointer (some ⟨e.b, 0, none⟩)] (λt70 w8 => t70 = zI 0 /\ mI w e ⟨sv, [kL], C⟩ ([d4, d3, d2, d1, d0].getD (i + 1) d0) oI (([⟨x1, u1⟩, ⟨x2, o⟩, ⟨x3, I⟩, ⟨x4, J⟩] : b_).take (4-(i + 1))) (rs ++ [g]) (300000 + (i + 1)*3000000) w8) W' := λ{d d' us g} h1 h2 h3 h4 h5 h6 h7 => by
      rw[h6, h7];apply AA (nP hT h1 h2 h3 h4 E h5 E);rintro _ w8 ⟨rfl, h8⟩;exact⟨rfl, by rw[(E:300000 + (i + 1)*3000000 = 300000 + i*3000000 + 3000000)]; exact h8⟩
    have all : ∃g : Grp, AF prog 22 [.pointer (some ⟨e.b, 0, none⟩)] (λt70 w8 => t70 = zI 0 /\ mI w e ⟨sv, [kL], C⟩ ([d4, d3, d2, d1, d0].getD (i + 1) d0) oI (([⟨x1, u1⟩, ⟨x2, o⟩, ⟨x3, I⟩, ⟨x4, J⟩] : b_).take (4-(i + 1))) (rs ++ [g]) (300000 + (i + 1)*3000000) w8) W' := by
      rcases(E:i = 0 \/ i = 1 \/ i = 2 \/ i = 3) with rfl|rfl|rfl|rfl
      . exact⟨_, EU (us := [⟨x1, u1⟩, ⟨x2, o⟩, ⟨x3, I⟩]) (g := ⟨x4, J⟩) hP P4.1 P4.2.1 V D_ rfl rfl⟩
      . exact⟨_, EU (us := [⟨x1, u1⟩, ⟨x2, o⟩]) (g := ⟨x3, I⟩) hP P3.1 P3.2.1 (λg Q => V g (aO (i := 3) Q)) D_ rfl rfl⟩
      . exact⟨_, EU (us := [⟨x1, u1⟩]) (g := ⟨x2, o⟩) hP P2.1 P2.2.1 (λg Q => V g (aO (i := 2) Q)) D_ rfl rfl⟩
      . exact⟨_, EU (us := []) (g := ⟨x1, u1⟩) hP P1.1 P1.2.1 (λg Q => V g (aO (i := 1) Q)) D_ rfl rfl⟩
    obtain⟨g, a8⟩ := all;apply AA a8;rintro _ w8 ⟨rfl, h8⟩;rw[BH];refine AT (λ_ => ?_) λe => (e rfl).elim;rw[AR, AM E];exact⟨⟨i + 1, rs ++ [g], E, rfl, by rw[Ad, xD]; omega, h8⟩, by rw[CL, CL]; omega⟩
  obtain rfl : i = 4 := E;obtain⟨F2, h2, e8, e9, eo⟩ := hP;apply AA (gU h2);rintro _ wa ⟨rfl, ga⟩;rw[Aj];refine AE (λ_ => ?_) λe => (e rfl).elim;refine AA (SR (h2.U_ ga) hT e8 TL Ou rfl D_ (by show rs.length <= _; omega) (λg Q => by simp at Q) B_) ?_;rintro _ wb (⟨_, rfl, gb⟩|⟨l, g, hu, _⟩);rotate_left
  . simp at hu
  rw[Aj];refine AE (λ_ => ?_) λe => (e rfl).elim;apply AA (Xp ((h2.U_ ga).U_ gb));rintro _ wc ⟨rfl, gc⟩;rw[Aj];exact⟨rfl, ((e9.trans ga).trans gb).trans gc⟩
structure GW (G:f_) (W:e_) (c:Nat) (l:X_):Prop where
 ex:∃bv,W.cell? ⟨c,0,none⟩=some bv/\Df 0 W bv l/\∀g,bv.ownBlock=some g->G g/\g≠c
 Cb:Cv W ⟨c,0,none⟩
 gc:G c
 gn:∀z,W.heap.size<=z->G z
section
variable {G G':f_}{W W':e_}{c:Nat}{l:X_}
def GW.lt(h:GW G W c l):c<W.heap.size:=by obtain⟨bv,h1,_⟩:=h.ex;exact q8 W _ h1
def GW.Kc(h:GW G W c l)(g:AI W W'):GW (λz=>G z/\¬(W.heap.size<=z/\z<W'.heap.size)) W' c l:=by
 obtain⟨bv,h1,i,j⟩:=h.ex;have o:=h.lt;refine⟨⟨bv,g.cell h1 E_,AG.U' i g C0 F_,λb hb=>⟨⟨(j b hb).1,λe=>?_⟩,(j b hb).2⟩⟩,h.Cb.U' g E_,⟨h.gc,E⟩,λz B=>⟨h.gn z (vx g.size B),E⟩⟩;have:=(AG.Az i b hb).2;omega
def GW.U_(h:GW G W c l)(g:AI W W'):GW G W' c l:=by
 obtain⟨bv,h1,i,j⟩:=h.ex;exact⟨⟨bv,g.cell h1 E_,AG.U' i g C0 F_,j⟩,h.Cb.U' g E_,h.gc,λz o=>h.gn z (vx g.size o)⟩
def GW.O0(h:GW G' W c l)(i:∀z,G' z->G z):GW G W c l:=by
 obtain⟨bv,h1,B,j⟩:=h.ex;exact⟨⟨bv,h1,B,λg o=>⟨i g (j g o).1,(j g o).2⟩⟩,h.Cb,i c h.gc,λz I=>i z (h.gn z I)⟩
def GW.KM{bv x:d_}{m:X_}{K:e_->Prop}(h:GW G W c l)(hb:W.cell? ⟨c,0,none⟩=some bv)(V:Cc S W x m)(hl:l.length+m.length<=1099511627776) (X:∀W',GW G W' c (l++m)->AK G W W'->K W') : runK prog (Builtin.append_ #[42,42] 42 [bv,x].toArray) (λt w=>Ar (g_ c) λp=>BZ 0 p λq=>Cu q t K w) W:=by
 obtain⟨I,h1,Y,B⟩:=h.ex;obtain rfl:bv=I:=r9 (hb.symm.trans h1);obtain⟨U,w',r1,O,Z,Q⟩:=AG.append (ty:=42) Gn Y V (λ_ _=>KF.one) E (Hw _) L_ λ_ _ _ _ h=>h;have o:=AK.BQ Z;have a1:=h.lt;have i:¬bv.ownBlock=some c:=λe=>(B c e).2 rfl;refine AZ r1 (AJ ?_);rw[AB,AH];have one:=AG.one O;refine(h.Cb.U' o i).st one.1 one.2 (X _ ⟨⟨U,cO _ _ _ (o.cell h1 i),AG.U' O (AK.setCell (M:=λz=>z=c) w' ⟨c,0,none⟩ U rfl) (λg J e=>?_) F_,λg J=>?_⟩,(h.Cb.U' o i).set _ _,h.gc,λz hz=>h.gn z ?_⟩ ((o.mono λz _ e=>(B z e).1).trans (AK.setCell _ _ _ h.gc)));rcases Q g J with j|j;exact(B g j).2 e;omega;rcases Q g J with j|j;exact B g j;exact⟨h.gn g j,E⟩;have:=o.size;simp[aAf] at hz;omega
def GW.put{bv:d_}{x:Int}{K:e_->Prop}(h:GW G W c l)(hb:W.cell? ⟨c,0,none⟩=some bv)(hl:l.length+1<=1099511627776) (J:∀W',GW G W' c (l++[x])->AK G W W'->K W') : Eb 5 1 1 [(.int .u8 0)] [(0,.int .u8 x)] (λs o=>runK prog (Builtin.append_ #[42,42] 42 [bv,s].toArray) (λt w=>Ar (g_ c) λp=>BZ 0 p λq=>Cu q t K w) o) W:=by
 refine rI λo B V hc=>?_;have O:Cc (λ_=>True) o (.slice (h_ W.heap.size) 1 1) [x]:=⟨_,1,rfl,D_,by simp [maxLen],λi y I=>by
  have:i=0:=by have:=(Bq.1 I).1;simp at this;exact this
  subst this;simp at I;subst I;exact ⟨_,[.int .u8 x],rfl,trivial,rfl,λj u hu=>by rw [yx,wS];exact hc j u hu,rfl⟩⟩
 exact(h.U_ B).KM (B.cell hb E_) O (by simpa using hl) λW' U Q=>J W' U ((B.mono E').trans Q)
def Ef{n:Nat}(h:GW G W c l)(hl:l.length+20<=1099511627776)(Q:n<18446744073709551616) : AF prog 188 [g_ c,.int .u64 n] (λ_ w'=>GW G w' c (l++uv n)/\AK G W w') W:=by
 refine G_ func188 ?_ (.x (.node [1] [(1,1),(4,19)] .nil .nil));refine AX (λvs I=>∃(f m:Nat) (pre:X_),vs=[.int .u64 m]/\uv n=pre++O6 f m/\m<128 ^ (f+1)/\m<18446744073709551616/\pre.length+f=9/\GW G I c (l++pre)/\AK G W I) (λvs _=>Di vs 0)
  ⟨9,n,[],rfl,rfl,by omega,Q,rfl,by rw[Ty];exact h,AK.refl _ _⟩ ?_
 rintro vs I ⟨f,m,pre,rfl,hu,hm,U,hf,J,O⟩ _;simp only[Bh,JS];obtain⟨bv,hb,_⟩:=J.ex;have lp:(l++pre).length=l.length+pre.length:=Ad;rw[BM];refine AE (λV=>?_) λX=>?_;cases f with
 |zero=>simp at hm;omega
 |succ f=>
  have i:O6 (f+1) m=((m%128+128:Nat):Int)::O6 f (m/128):=by
   simp only[O6];rw[Bp (by omega)]
  apply AJ;rw[AB,AH];apply AD hb;refine Mt (AZ (YG I (by omega) (by omega)) ?_);have Y:((m:Int)%256%128+128)=((m%128+128:Nat):Int):=by omega
  rw[Y];refine J.put hb (by omega) λw' j o=>?_;apply AZ (LP (n:=7) w' (by decide));have Z:((m:Int)).fdiv (2 ^ 7)=((m/128:Nat):Int):=by
   rw[xW _ (by decide)];show(m:Int)/128=_;omega
  rw[Z];refine⟨⟨f,m/128,pre++[((m%128+128:Nat):Int)],rfl,by rw[hu,i];simp,?_,by omega,by simp;omega,by rw[<-Mp];exact j,O.trans o⟩,?_⟩;rw[aA6] at hm;exact yd (by omega);show(((m/128:Nat):Int)).toNat<((m:Nat):Int).toNat;omega
 have B:O6 f m=[(m:Int)]:=by
  cases f with
  |zero=>rfl
  |succ f=>simp only[O6];rw[Cx (by omega)]
 apply AJ;rw[AB,AH];apply AD hb;apply Mt;rw[show((m:Int)%256)=m by omega];refine J.put hb (by omega) λw' j o=>⟨?_,O.trans o⟩;rw[hu,B,<-Mp];exact j
def Ik{n:Nat}(i:n<18446744073709551616)(h:K (.int .u64 n) w):runK prog (convert 3 59 (zI n)) K w:=by
 apply AZ (Ee (k:=.u64) w C_ C_);rw[Gc ⟨E,E⟩];exact h
def Uz{n:Nat}(i:n<256)(h:K (.int .u64 n) w):runK prog (convert 5 59 (.int .u8 n)) K w:=by
 apply AZ (Ee (k:=.u64) w C_ C_);rw[Gc ⟨E,E⟩];exact h
def S0{x:X_}(h:GW G W c l)(i:Cc S W xv x)(o:∀z,S z->¬G z)(hl:l.length+x.length+20<=1099511627776) : AF prog 191 [g_ c,xv] (λ_ w'=>GW G w' c (l++QM x)/\AK G W w') W:=by
 apply G_ func191;obtain⟨a,Q,rfl,_⟩:=i.AO;rw[AP];apply Ik E;apply AA (Ef h E E);rintro _ U ⟨h1,j⟩;obtain⟨bv,hb,_⟩:=h1.ex;apply AJ;rw[AB,AH];apply AD hb;have B:(uv x.length).length<=10:=(Ca 9 x.length).2;refine h1.KM hb (i.U' j (λz _ I=>o z I) B_ C0) (by rw[Ad];omega) λV O J=>⟨?_,j.trans J⟩;unfold QM;rw[<-Mp];exact O
end
def Vt:(∀x:Nat,x<64->(128 ||| x)=128+x)/\(∀x:Nat,x<32->(192 ||| x)=192+x)/\(∀x:Nat,x<16->(224 ||| x)=224+x)/\(∀x:Nat,x<8->(240 ||| x)=240+x)/\(∀x:Nat,x<256->(x &&& 63)=x%64):=by decide +kernel
def Ku{t:TypeId}{a b:Nat}(w:e_)(ha:a<256)(hb:b<256):(ET .or t xo yo (.int .u8 a) (.int .u8 b)).run prog w=.ok (.int .u8 ((a ||| b:Nat):Int)) w/\(ET .and t xo yo (.int .u8 a) (.int .u8 b)).run prog w=.ok (.int .u8 ((a &&& b:Nat):Int)) w:=by
 have i:∀x:Nat,x<256->(BitVec.ofInt 8 (x:Int)).toNat=x:=λx j=>by
  rw[xC];have e:((2 ^ 8:Nat):Int)=256:=B_;rw[e,xe E E];rfl
 constructor;rw[(Ja w).1];show Result.ok (Value.int .u8 (IntKind.u8.wrap ((BitVec.ofInt 8 (a:Int) ||| BitVec.ofInt 8 (b:Int)).toNat:Int))) w=_;rw[aBD,i a ha,i b hb,XE E (by have:=Nat.or_lt_two_pow (n:=8) ha hb;omega)];rw[(Ja w).2];show Result.ok (Value.int .u8 (IntKind.u8.wrap ((BitVec.ofInt 8 (a:Int) &&& BitVec.ofInt 8 (b:Int)).toNat:Int))) w=_;rw[aA2,i a ha,i b hb,XE E (by have:=Nat.and_le_left (n:=a) (m:=b);omega)]
def NB{r:Nat}(h:K (.int .u8 ((r%256:Nat):Int)) w):runK prog (convert 21 5 (.int .i32 r)) K w:=by
 apply dJ (k:=.u8) C_ C_;rw[Qa];exact h
def Ur{r:Nat}(hr:r<2147483648)(h:K (.int .u32 r) w):runK prog (convert 21 220 (.int .i32 r)) K w:=by
 apply dJ (k:=.u32) C_ C_;have e:IntKind.u32.wrap (r:Int)=r:=by
  have i:(2:Int) ^ IntKind.u32.bits=4294967296:=B_;simp only[IntKind.wrap,i,IntKind.signed,zL];rw[Bp B_];omega
 rw[e];exact h
def SG{r n:Nat}{t:TypeId}{q:IntKind}(i:n<=32)(h:K (.int .i32 ((r/2 ^ n:Nat):Int)) w):runK prog (ET .shr t xo yo (.int .i32 r) (.int q n)) K w:=by
 refine AZ (LP (n:=n) w i) ?_;rw[xW _ (by exact_mod_cast Hw _)];exact_mod_cast h
def My{b:Bool}{x y:Prop}(h1:b=true->x)(i:b=false->y):Al (.bool b) x y:=by
 cases b;exact AS (i rfl);exact Ai (h1 rfl)
def R2{r:Nat}{t t':TypeId}{xo yo i j:Operand}(h:K (.int .u8 ((128+r%64:Nat):Int)) w) : runK prog (convert 21 5 (.int .i32 r)) (λo I=>runK prog (ET .and t xo yo o (.int .u8 63)) (λB J=>runK prog (ET .or t' i j (.int .u8 128) B) K J) I) w:=by
 apply NB;apply AZ (Ku (a:=r%256) (b:=63) w E E).2;rw[Vt.2.2.2.2 _ E];apply AZ (Ku (a:=128) (b:=r%256%64) w E E).1;rw[Vt.1 _ E,(E:r%256%64=r%64)];exact h
def aZ{xs:X_}(hc:cs=xs.map (Value.int .u8))(hl:xs.length<=4):Cc (λz=>z=w.heap.size) (w.alloc (.cells cs.toArray 5)) (.slice (h_ w.heap.size) xs.length xs.length) xs:=
 ⟨_,_,rfl,HK _,by simp [maxLen];omega,λi x o=>⟨_,[.int .u8 x],rfl,rfl,rfl,λj u hu=>by
  have B:j=0:=by have:=(Bq.1 hu).1;simp at this;exact this
  subst B;simp at hu;subst hu;rw [AH,xd,ua,LA,hc];simp [o],rfl⟩⟩
def Pd{l xs:X_}{n:Nat}{BK:List (Nat×d_)}(h:Df w0.heap.size w v l)(g:AI w0 w)(I:xs.length=n)(J:xs.length<=4) (O:Instr.fill (λi=>some (i*1,1)) ((Array.range (n*1)).map (cs.toArray[· % cs.toArray.size]!)) BK=some (xs.map (Value.int .u8)).toArray)(hl:l.length+4<=1099511627776) (Q:∀v' w',Df w0.heap.size w' v' (l++xs)->AI w0 w'->K v' w') : Eb 5 1 n cs BK (λs U=>runK prog (Builtin.append_ #[42,42] 42 [v,s].toArray) K U) w:=by
 apply GY O;subst I;have j:AI w (w.alloc (.cells (xs.map (Value.int .u8)).toArray 5)):=AK.alloc _ _ _;have o:=g.trans j;obtain⟨v',w',r1,V,X,Y⟩:=AG.append (ty:=42) Gn (AG.U' h j C0 F_) (aZ (w:=w) (xs:=xs) rfl J) (λ_ _=>KF.one) E o.size L_ λ_ _ _ _ h=>h;exact AZ r1 (Q v' w' V (o.next (AK.BQ X) λb hb e=>by have:=(AG.Az h b e).1;omega))
def qk{r:Int}{I:V_->e_->Prop}(hm:r<55296\/57344<=r)(h:I [.bool (decide (r<65536))] w) : Hm .u32 (.int .u32 r) (.int .u32 55296) λi=>Al i (I [i] w) (Hm .u32 (.int .u32 57343) (.int .u32 r) λj=>Al j (cI .u32 (.int .u32 r) (.int .u32 65535) λo=>I [o] w) (I [.bool false] w)):=by
 rw[As];refine AE (λB=>?_) λB=>?_;have e:decide (r<55296)=decide (r<65536):=by rw[TC B,TC E]
 rw[e];exact h;rw[As];refine AE (λ_=>?_) λJ=>(J E).elim;rw[GI];have e:decide (r<=65535)=decide (r<65536):=xX.2 E;rw[e];exact h
def jQ{l:X_}{r:Int}(h:Df w0.heap.size w v l)(g:AI w0 w)(hr:Dc r)(hl:l.length+4<=1099511627776) : AF prog 259 [v,.int .i32 r] (λv' w'=>Df w0.heap.size w' v' (l++Ji r)/\AI w0 w') w:=by
 apply G_ func259;unfold Dc at hr;obtain⟨n,rfl⟩:∃n:Nat,r=n:=⟨r.toNat,E⟩;apply Ur E;rw[GI];refine AE (λh1=>?_) λh1=>?_;apply NB;refine Pd (xs:=[((n%256:Nat):Int)]) h g rfl D_ C_ hl λv' w' i j=>⟨?_,j⟩;have e:Ji (n:Int)=[((n%256:Nat):Int)]:=by unfold Ji;rw[Cx E];congr 1;omega
 rw[e];exact i;refine AA (K':=λv' w'=>Df w0.heap.size w' v' (l++Ji n)/\AI w0 w') ?_ C0;refine G_ func296 ?_ (.y (.y (.y (.y (.cut [25] [(25,33)] .nil (.y (.cut [50] [(50,56)] .nil .nil)))))));apply Ur E;rw[GI];refine AE (λQ=>?_) λQ=>?_;apply SG (n:=6) B_;apply NB;apply AZ (Ku (a:=192) (b:=n/2 ^ 6%256) w E E).1;rw[Vt.2.1 _ E];apply R2;refine Pd (xs:=[((192+n/2 ^ 6%256:Nat):Int),((128+n%64:Nat):Int)]) h g rfl D_ C_ hl λv' w' i j=>⟨?_,j⟩;have e:Ji (n:Int)=[((192+n/2 ^ 6%256:Nat):Int),((128+n%64:Nat):Int)]:=by
  unfold Ji;rw[Bp E,Cx E];simp[wZ,zK];omega
 rw[e];exact i;have vt:¬n<2048:=E;obtain⟨B,J⟩:∃B:Bool,decide ((n:Int)<65536)=B:=⟨_,rfl⟩;refine AV (λvs W=>W=w/\vs=[.bool B]) ?_ ?_;rintro _ _ ⟨rfl,rfl⟩ _;rename e_=>w;simp only[Bh,JS];refine My (λo=>?_) λo=>?_;have o:=xf (J.trans o);apply SG (n:=12) B_;apply NB;apply AZ (Ku (a:=224) (b:=n/2 ^ 12%256) w E E).1;rw[Vt.2.2.1 _ E];apply SG (n:=6) B_;apply R2;apply R2;refine Pd (xs:=[((224+n/2 ^ 12%256:Nat):Int),((128+n/2 ^ 6%64:Nat):Int),((128+n%64:Nat):Int)]) h g rfl D_ C_ hl λv' w' i j=>⟨?_,j⟩;have e:Ji (n:Int)=[((224+n/2 ^ 12%256:Nat):Int),((128+n/2 ^ 6%64:Nat):Int),((128+n%64:Nat):Int)]:=by
  unfold Ji;rw[Bp E,Bp E,Cx E];simp only[wZ,zK];omega
 rw[e];exact i;have o:=of_decide_eq_false (J.trans o);refine AV (λvs W=>W=w/\vs=[.bool true]) ?_ ?_;rintro _ _ ⟨rfl,rfl⟩ _;rename e_=>w;simp[JS];apply Ai;apply SG (n:=18) B_;apply NB;apply AZ (Ku (a:=240) (b:=n/2 ^ 18%256) w E E).1;rw[Vt.2.2.2.1 _ E];apply SG (n:=12) B_;apply R2;apply SG (n:=6) B_;apply R2;apply R2;refine Pd (xs:=[((240+n/2 ^ 18%256:Nat):Int),((128+n/2 ^ 12%64:Nat):Int),((128+n/2 ^ 6%64:Nat):Int),((128+n%64:Nat):Int)]) h g rfl D_ C_ hl λv' w' i j=>⟨?_,j⟩;have e:Ji (n:Int)=[((240+n/2 ^ 18%256:Nat):Int),((128+n/2 ^ 12%64:Nat):Int),((128+n/2 ^ 6%64:Nat):Int),((128+n%64:Nat):Int)]:=by
  unfold Ji;rw[Bp E,Bp E,Bp E];simp[wZ,zK];omega
 rw[e];exact i;rw[BM];refine AE (λ_=>?_) λe=>?_;rw[GI];have O:(n:Int)<=1114111:=E;exact⟨rfl,by rw[TC O]⟩;exact(o E).elim;exact qk (r:=(n:Int)) (I:=λvs W=>W=w/\vs=[.bool B]) E ⟨rfl,by rw[J]⟩
def Nw:∀l:X_,(Ez l).length<=l.length*4:=by
 intro l;induction l with
 |nil=>simp[Ez]
 |cons r l i=>
  have:=(Vm r).2;have e:Ez (r::l)=Ji r++Ez l:=rfl;rw[e,Ad,Hn];omega
def aG{l:X_}(h:Jl S w v l)(hr:∀r∈l,Dc r)(hl:l.length*4<=1099511620000) : AF prog 190 [v] (λv' w'=>AI w w'/\∃bv,v'=.tuple #[bv,zI 0]/\Df w.heap.size w' bv (Ez l)) w:=by
 refine H_ func190 ?_ (.y (.y (.x (.y (.node [4,9] [(2,4),(6,6),(9,19)] .nil .nil)))));obtain⟨a,c,rfl,hm⟩:=h.AO;rw[AP];apply AX (λvs W=>∃(i:Nat) (bv:d_),i<=l.length/\vs=[bv,zI i]/\Df w.heap.size W bv (Ez (l.take i))/\AI w W) (λvs _=>l.length-Di vs 1) ⟨0,_,Hw _,rfl,AG.nil,AK.refl _ _⟩;rintro vs W ⟨i,bv,hi,rfl,B,g⟩ _;simp only[Iu];refine HP (λI=>?_) λJ=>?_;have j:i<l.length:=E;have o:=hr _ (Q0 j);obtain⟨p,r,rfl,_,_,hc,rfl⟩:=(h.U_ g B_ C0).get j;apply AW j;refine AD (by have:=hc 0 _ rfl;exact this) ?_;apply AA (Qu (r:=l[i]));rintro _ _ ⟨rfl,rfl⟩;rename e_=>W;rw[TC o,Aq];apply AS;have O:(Ez (l.take i)).length<=l.length*4:=by
  have:=Nw (l.take i);have:(l.take i).length<=l.length:=by simp;omega
  omega
 apply AA (jQ B g o E);rintro v' V ⟨Q,U⟩;rw[AR,AM E];refine⟨⟨i+1,v',j,rfl,?_,U⟩,by rw[BE,BE];omega⟩;have e:Ez (l.take (i+1))=Ez (l.take i)++Ji l[i]:=by
  unfold Ez;rw[Lc,By j,u9];simp
 rw[e];exact Q;have:i=l.length:=E;subst this;rw[Nr] at B;exact⟨g,bv,rfl,B⟩
def RE{ok:Nat->Bool}{g:Nat}{bs cs args:V_}(i:ok g=true)(h:AF P g (bs++args++cs) K w):DD P ok (.func (.func g) bs.toArray cs.toArray) args K w:=.inl ⟨g,bs,cs,rfl,i,by simpa using h⟩
def bz{s:ByteArray}(O:s.size*4<=140737488355328)(I:∀v w',AI w w'->Cc (λz=>w.heap.size<=z/\z<w'.heap.size) w' v (CA s)->K v w'):runK prog (convert 9 42 (.string s)) K w:=by
 refine⟨_,_,run_bytes_of_string w _ _ 5 s C_ C_ C_,I _ _ ((AK.drew (λ_=>False) w).trans (AK.alloc _ _ _)) ?_⟩;have hl:(CA s).length=s.size:=by simp[CA]
 have hm:s.size<=maxLen:=by simp[maxLen];omega
 refine⟨_,_,by rw[hl],by rw[hl];exact aAo _ _ _ _,yu _ _ _ _ hm,λi x o=>⟨_,[.int .u8 x],rfl,⟨HK _,D_⟩,rfl,λj u hu=>?_,rfl⟩⟩;have J:j=0:=by have:=(Bq.1 hu).1;simp at this;exact this
 subst J;simp at hu;subst hu;rw[AH,xd,ua];have hi:=(Bq.1 o).1;rw[hl] at hi;have B:x=((s.data[i]'hi).toNat:Int):=by
  simp only[CA,vy,wU] at o;rw[yU hi] at o;simpa using o.symm
 subst B;apply(LA w.drew _ _ _ i).trans;simp[bytesRow,aAC,hi]
section
variable {G G':f_}{W W':e_}{c:Nat}{l:X_}
def GW.tz{S U B:f_}{bv x:d_}{m:X_}{K:e_->Prop}(h:GW G W c l)(hb:W.cell? ⟨c,0,none⟩=some bv)(Z:Cc S W x m)(hl:l.length+m.length<=1099511627776)(h8:∀z,bv.ownBlock=some z->U z)(J:B c) (hK:∀W',GW G W' c (l++m)->AK G W W'->K W') : runK prog (Builtin.append_ #[42,42] 42 [bv,x].toArray) (λt w=>AK U W w/\Ar (g_ c) λp=>BZ 0 p λq=>Cu q t (λw'=>AK B w w'/\K w') w) W:=by
 obtain⟨O,h1,h2,I⟩:=h.ex;obtain rfl:bv=O:=r9 (hb.symm.trans h1);obtain⟨Y,w',r1,V,r3,X⟩:=AG.append (ty:=42) Gn h2 Z (λ_ _=>KF.one) E (Hw _) L_ λ_ _ _ _ h=>h;have j:=AK.BQ r3;have a1:=h.lt;have i:¬bv.ownBlock=some c:=λe=>(I c e).2 rfl;refine AZ r1 ⟨j.mono λz _ e=>h8 z e,AJ ?_⟩;rw[AB,AH];have one:=AG.one V;refine(h.Cb.U' j i).st one.1 one.2 ⟨AK.setCell _ _ _ J,hK _ ⟨⟨Y,cO _ _ _ (j.cell h1 i),AG.U' V (AK.setCell (M:=λz=>z=c) w' ⟨c,0,none⟩ Y rfl) (λg Q e=>?_) F_,λg Q=>?_⟩,(h.Cb.U' j i).set _ _,h.gc,λz hz=>h.gn z ?_⟩ ((j.mono λz _ e=>(I z e).1).trans (AK.setCell _ _ _ h.gc))⟩;rcases X g Q with o|o;exact(I g o).2 e;omega;rcases X g Q with o|o;exact I g o;exact⟨h.gn g o,E⟩;have:=j.size;simp[aAf] at hz;omega
def R9{v:BF}(h:GW G W c l)(Z:Ub v)(hl:l.length+v.s.size+100<=1099511627776) : AF prog 258 [g_ c,.agg v.cells.toArray] (λ_ w'=>GW G w' c (l++MJ v)/\AK G W w') W:=by
 refine G_ func258 ?_ (.y (.y (.y (.x (.x (.cut [] [(11,18)] .nil (.x (.dc [7,8,11] (k_ [0,0,2,6,14,0,32,96,254,511,1023,2047]) [[7,8]]))))))));have hk:=Z.kind;refine CN λb Q hb B g hc _=>?_;have nb:¬(G b/\¬(W.heap.size<=b/\b<Q.heap.size)):=λe=>e.2 ⟨E,E⟩;have EU:∀w' X,GW (λz=>G z/\¬(W.heap.size<=z/\z<Q.heap.size)) w' c (l++X)->AK (λz=>G z/\¬(W.heap.size<=z/\z<Q.heap.size)) Q w'->X=MJ v->GW G w' c (l++MJ v)/\AK G W w':=λw' X hX hm e=>by
  subst e;exact⟨hX.O0 λz B=>B.1,(g.mono E').trans (hm.mono λz _ e=>e.1)⟩
 obtain⟨k,i⟩:∃k:Nat,v.kind=k:=⟨v.kind.toNat,E⟩;have c0:=hc 0 _ rfl;have c3:=hc 3 _ rfl;rw[AB];apply AD c0;rw[i];apply Uz E;have eV:MJ v=uv k++gN v:=by rw[mR,i];rfl
 have a6:(uv k).length<=10:=(Ca 9 k).2;apply AA (Ef (h.Kc g) E E);rintro _ Y ⟨U,o⟩;have ll:(l++uv k).length=l.length+(uv k).length:=Ad;rw[AB];apply AD (o.cell c0 nb);rw[i];refine AV (λvs W'=>W'=Y/\(v.kind=1\/v.kind=2)) ?_ ?_;rintro _ _ ⟨rfl,I⟩ _;rename e_=>Y;obtain⟨bv,J,_,a7⟩:=U.ex;have O:AI Y Y.drew:=AK.drew _ _;have hn:-9223372036854775808<=v.n/\v.n<=9223372036854775807:=by
  rcases Z with⟨_,h,_⟩|⟨h,_⟩|⟨h,_⟩;exact h;omega;omega
 apply Ag (λk z=>(k=8/\bv.ownBlock=some z)\/(k=11/\z=c));apply AJ;rw[AB,AH];refine AU ⟨O.cell J E_,λj hj e=>by rcases e with⟨rfl,_⟩|⟨rfl,_⟩<;>exact absurd hj B_⟩ ?_;rw[AB];refine AU ⟨O.cell (o.cell (hc 1 _ rfl) nb) E_,λj hj e=>by rcases e with⟨rfl,e⟩|⟨rfl,e⟩<;>first|exact absurd hj B_|skip⟩ ?_;apply AA (TQ (S:=λ_=>True) (l:=[]) BC.nil D_ hn.1 hn.2);rintro v7 w7 ⟨o7,V⟩;refine⟨V.mono E',?_⟩;rw[u7] at o7;have a8:(uv (H0 v.n)).length<=10:=(Ca 9 _).2;refine((U.U_ O).U_ V).tz (bv:=bv) (V.cell (O.cell J E_) E_) (AG.sl o7) E (λz e=>.inl ⟨rfl,e⟩) (.inr ⟨rfl,rfl⟩) λW' h' m'=>?_;refine EU W' (uv k++uv (H0 v.n)) (by rw[<-Mp];exact h') (o.trans (((O.trans V).mono E').trans m')) ?_;rw[eV];unfold gN;rw[Cx I];rw[Aj];refine AE (λe=>⟨rfl,.inl E⟩) λn1=>?_;rw[Aj];refine AE (λe=>⟨rfl,.inr E⟩) λn2=>?_;rw[Aj];refine AE (λe=>?_) λn3=>?_;rw[AB];apply AD (o.cell (hc 2 _ rfl) nb);have hf:0<=v.f/\v.f<18446744073709551616:=by
  rcases Z with⟨h,_⟩|⟨_,_,h,_⟩|⟨h,_⟩;omega;exact h;omega
 have ef:v.f=((v.f.toNat:Nat):Int):=E;rw[ef];apply AA (Ef U E E);rintro _ w3 ⟨h3,m3⟩;refine EU w3 (uv k++uv v.f.toNat) (by rw[<-Mp];exact h3) (o.trans m3) ?_;rw[eV];unfold gN;rw[Bp E,Cx E];rw[Aj];refine AE (λe=>?_) E;rw[AB];apply AD (o.cell c3 nb);refine bz E λv4 w4 g4 a1=>?_;refine AA (S0 (U.Kc g4) a1 (λz B e=>e.2 B) (by rw[DE];omega)) ?_;rintro _ w5 ⟨h5,m5⟩;refine EU w5 (uv k++QM (CA v.s)) (by rw[<-Mp];exact h5.O0 λz B=>B.1) (o.trans ((g4.mono E').trans (m5.mono λz _ e=>e.1))) ?_;rw[eV];unfold gN QM;rw[Bp E,Bp E,Cx E,DE]
def Uw(v:BF):(MJ v).length<=40+v.s.size:=by
 have h1:∀n,(uv n).length<=10:=λn=>(Ca 9 n).2;have a:=h1 v.kind.toNat;have b:=h1 (H0 v.n);have d:=h1 v.f.toNat;have e:=h1 v.s.size;unfold MJ;rw[Ad];split;omega;split;omega;split;rw[Ad,DE];omega;simp;omega
def fp{a:Attr}(h:GW G W c l)(ht:W.cell? ⟨N,0,none⟩=some (g_ c))(O:¬G N)(ha:bM a)(hl:l.length+Gl a+200<=1099511627776) : AF prog 261 [.agg a.cells.toArray,g_ N] (λ_ w'=>GW G w' c (l++FI a)/\AK G W w') W:=by
 apply G_ func261;refine CN λb B hb I g hc _=>?_;have nb:¬(G b/\¬(W.heap.size<=b/\b<B.heap.size)):=λe=>e.2 ⟨E,E⟩;have nt:¬(G N/\¬(W.heap.size<=N/\N<B.heap.size)):=λe=>O e.1;have J:=g.cell ht E_;apply AD J;rw[AB];apply AD (hc 0 _ rfl);have hk:=ha.1;unfold Sl at hk;obtain⟨k,i⟩:∃k:Nat,a.key=k:=⟨a.key.toNat,E⟩;rw[i];simp[Gl] at hl;apply Ik E;have Q:(uv k).length<=10:=(Ca 9 k).2;apply AA (Ef (h.Kc g) E E);rintro _ Z ⟨U,o⟩;apply AD (o.cell J nt);rw[AB];refine Ab (vs:=a.val.cells) rfl (λj u hu=>by rw[Addr.add_add];exact o.cell (hc (1+j) u (by rw[yf];exact hu)) (by rw[AH];exact nb)) ?_;refine AA (R9 U ha.2 (by rw[Ad];omega)) ?_;rintro _ Y ⟨V,X⟩;refine⟨?_,(g.mono E').trans ((o.trans X).mono λz _ e=>e.1)⟩;have e:l++FI a=l++uv k++MJ a.val:=by unfold FI;rw[i,<-Mp];rfl
 rw[e];exact V.O0 λz I=>I.1
def nT{a:Chg}(h:GW G W c l)(ht:W.cell? ⟨N,0,none⟩=some (g_ c))(Z:¬G N)(ha:ab a)(hl:l.length+KO a+200<=1099511627776) : AF prog 257 [.agg a.cells.toArray,g_ N] (λ_ w'=>GW G w' c (l++Ew a)/\AK G W w') W:=by
 apply G_ func257;refine CN λb I hb V g hc _=>?_;have nb:¬(G b/\¬(W.heap.size<=b/\b<I.heap.size)):=λe=>e.2 ⟨E,E⟩;have nt:¬(G N/\¬(W.heap.size<=N/\N<I.heap.size)):=λe=>Z e.1;have J:=g.cell ht E_;apply AD J;rw[AB];apply AD (hc 0 _ rfl);have hk:=ha.1;unfold Sl at hk;obtain⟨k,o⟩:∃k:Nat,a.key=k:=⟨a.key.toNat,E⟩;rw[o];simp[KO] at hl;apply Ik E;have a1:(uv k).length<=10:=(Ca 9 k).2;apply AA (Ef (h.Kc g) E E);rintro _ w2 ⟨Y,B⟩;have EU:∀w' X,GW (λz=>G z/\¬(W.heap.size<=z/\z<I.heap.size)) w' c (l++uv k++X)->AK (λz=>G z/\¬(W.heap.size<=z/\z<I.heap.size)) w2 w'->X=(if a.Ak then uv 0 else MJ a.val)->GW G w' c (l++Ew a)/\AK G W w':=λw' X hX hm e=>by
  subst e;have e:l++Ew a=l++uv k++(if a.Ak then uv 0 else MJ a.val):=by unfold Ew;rw[o,<-Mp];rfl
  rw[e];exact⟨hX.O0 λz V=>V.1,(g.mono E').trans ((B.trans hm).mono λz _ e=>e.1)⟩
 rw[AB];apply AD (B.cell (hc 1 _ rfl) nb);refine My (λi=>?_) λi=>?_;apply AD (B.cell J nt);refine AA (Ef (n:=0) Y (by rw[Ad];omega) E) ?_;rintro _ O ⟨Q,U⟩;exact EU O _ Q U (by rw[i];rfl);apply AD (B.cell J nt);rw[AB];refine Ab (vs:=a.val.cells) rfl (λj u hu=>by rw[Addr.add_add];exact B.cell (hc (2+j) u (by rw[yf];exact hu)) (by rw[AH];exact nb)) ?_;have hv:Ub a.val:=by
  rcases ha.2 with⟨h,_⟩|⟨_,h⟩;rw[h] at i;cases i;exact h
 refine AA (R9 Y hv (by rw[Ad];omega)) ?_;rintro _ O ⟨Q,U⟩;exact EU O _ Q U (by rw[i];rfl)
end
def fw{t:TypeId}{x:d_}(B:x.cells=#[x])(h:∀b i,b=w.heap.size->i.heap.size=w.heap.size+1->AI w i->i.cell? ⟨b,0,none⟩=some x->Cv i ⟨b,0,none⟩->K (g_ b) i):Lz t x K w:=by
 refine⟨B,?_⟩;obtain⟨j,e,o⟩:=CN (t:=t) (vs:=[x]) (K:=K) (w:=w) λb i h1 o I J O=>h b i h1 o I (by have:=J 0 x rfl;rwa [AH] at this) (by have:=O 0 D_;rwa [AH] at this);have:j=[x]:=by
  simpa using(tZ Array.toList (Value.agg.inj e)).symm
 subst this;exact o
section
variable {G G':f_}{W W':e_}{c:Nat}{l:X_}
def XJ{x:W_}(h:GW G W c l)(Z:BC S 5 Ch W xv x)(hR:∀W' r a,AK G W W'->Ch W r a->Ch W' r a)(hS:∀z,S z->¬G z)(hl:l.length+20<=1099511627776) (hf:∀i (hi:i<x.length) W' r I,GW G W' c I->AK G W W'->Ch W' r x[i]->I.length<=l.length+10+(x.flatMap FI).length->∀K:Cont,(∀v w',GW G w' c (I++FI x[i])/\AK G W' w'->K v w')->DD prog En sv [.agg r.toArray] K W') : AF prog 260 [g_ c,xv,sv] (λ_ w'=>GW G w' c (l++Lt FI x)/\AK G W w') W:=by
 refine I' func260 ?_ (.y (.y (.node [15] [(7,7),(15,22)] .nil .nil)));obtain⟨a,cc,rfl,hm⟩:=Z.AO;simp[maxLen] at hm;rw[AP];apply Ik E;apply AA (Ef h hl E);rintro _ w2 ⟨h2,m2⟩;rw[AP];have a1:(uv x.length).length<=10:=(Ca 9 x.length).2;have J:∀i,((x.take i).flatMap FI).length<=(x.flatMap FI).length:=λi=>by
  have e:x.flatMap FI=(x.take i).flatMap FI++(x.drop i).flatMap FI:=by rw[<-u9,QC]
  rw[e,Ad];omega
 apply AX (λvs O=>∃i:Nat,i<=x.length/\vs=[zI i]/\GW G O c (l++(uv x.length++(x.take i).flatMap FI))/\AK G W O) (λvs _=>x.length-Di vs 0) ⟨0,Hw _,rfl,by simpa using h2,m2⟩;rintro vs O ⟨i,hi,rfl,h1,Q⟩ _;simp[Bh];refine HP (λa6=>?_) λa7=>?_;have o:i<x.length:=E;obtain⟨p,r,rfl,U,hr,hc,B⟩:=Z.get o;refine AW o (Ab hr (λj u hu=>by rw[Addr.add_add];exact Q.cell (hc j u hu) (by rw[Av];exact hS _ U)) ?_);refine BJ hr rfl (Ch.one (w:=W) B) λb w3 hb hz g3 V _=>?_;apply Ab hr V;have X:AK G W w3:=Q.trans (g3.mono E');refine hf i o w3 r _ (h1.U_ g3) X (hR _ _ _ X B) (by have:=J i;simp only[Ad];omega) _ ?_;rintro _ w4 ⟨h4,m4⟩;rw[AR,AM E];refine⟨⟨i+1,o,rfl,?_,X.trans m4⟩,by rw[CL,CL];omega⟩;have e:l++(uv x.length++(x.take (i+1)).flatMap FI)=l++(uv x.length++(x.take i).flatMap FI)++FI x[i]:=by
  rw[Lc,By o,u9];simp
 rw[e];exact h4;have:i=x.length:=E;subst this;rw[Nr] at h1;exact⟨h1,Q⟩
def cF{x:Z_}(h:GW G W c l)(Z:BC S 6 EA W xv x)(hR:∀W' r a,AK G W W'->EA W r a->EA W' r a)(hS:∀z,S z->¬G z)(hl:l.length+20<=1099511627776) (hf:∀i (hi:i<x.length) W' r I,GW G W' c I->AK G W W'->EA W' r x[i]->I.length<=l.length+10+(x.flatMap Ew).length->∀K:Cont,(∀v w',GW G w' c (I++Ew x[i])/\AK G W' w'->K v w')->DD prog En sv [.agg r.toArray] K W') : AF prog 256 [g_ c,xv,sv] (λ_ w'=>GW G w' c (l++Lt Ew x)/\AK G W w') W:=by
 refine I' func256 ?_ (.y (.y (.node [15] [(7,7),(15,22)] .nil .nil)));obtain⟨a,cc,rfl,hm⟩:=Z.AO;simp[maxLen] at hm;rw[AP];apply Ik E;apply AA (Ef h hl E);rintro _ w2 ⟨h2,m2⟩;rw[AP];have a1:(uv x.length).length<=10:=(Ca 9 x.length).2;have J:∀i,((x.take i).flatMap Ew).length<=(x.flatMap Ew).length:=λi=>by
  have e:x.flatMap Ew=(x.take i).flatMap Ew++(x.drop i).flatMap Ew:=by rw[<-u9,QC]
  rw[e,Ad];omega
 apply AX (λvs O=>∃i:Nat,i<=x.length/\vs=[zI i]/\GW G O c (l++(uv x.length++(x.take i).flatMap Ew))/\AK G W O) (λvs _=>x.length-Di vs 0) ⟨0,Hw _,rfl,by simpa using h2,m2⟩;rintro vs O ⟨i,hi,rfl,h1,Q⟩ _;simp[Bh];refine HP (λa6=>?_) λa7=>?_;have o:i<x.length:=E;obtain⟨p,r,rfl,U,hr,hc,B⟩:=Z.get o;refine AW o (Ab hr (λj u hu=>by rw[Addr.add_add];exact Q.cell (hc j u hu) (by rw[Av];exact hS _ U)) ?_);refine BJ hr rfl (EA.one (w:=W) B) λb w3 hb hz g3 V _=>?_;apply Ab hr V;have X:AK G W w3:=Q.trans (g3.mono E');refine hf i o w3 r _ (h1.U_ g3) X (hR _ _ _ X B) (by have:=J i;simp only[Ad];omega) _ ?_;rintro _ w4 ⟨h4,m4⟩;rw[AR,AM E];refine⟨⟨i+1,o,rfl,?_,X.trans m4⟩,by rw[CL,CL];omega⟩;have e:l++(uv x.length++(x.take (i+1)).flatMap Ew)=l++(uv x.length++(x.take i).flatMap Ew)++Ew x[i]:=by
  rw[Lc,By o,u9];simp
 rw[e];exact h4;have:i=x.length:=E;subst this;rw[Nr] at h1;exact⟨h1,Q⟩
def iS{S D:f_}{x:V'}(h:GW G W c l)(Z:BC S 5 (CW D) W xv x)(hR:∀W' r a,AK G W W'->(CW D) W r a->(CW D) W' r a)(hS:∀z,S z->¬G z)(hl:l.length+20<=1099511627776) (hf:∀i (hi:i<x.length) W' r I,GW G W' c I->AK G W W'->(CW D) W' r x[i]->I.length<=l.length+10+(x.flatMap Ey).length->∀K:Cont,(∀v w',GW G w' c (I++Ey x[i])/\AK G W' w'->K v w')->DD prog En sv [.agg r.toArray] K W') : AF prog 120 [g_ c,xv,sv] (λ_ w'=>GW G w' c (l++Lt Ey x)/\AK G W w') W:=by
 refine I' func120 ?_ (.y (.y (.node [15] [(7,7),(15,22)] .nil .nil)));obtain⟨a,cc,rfl,hm⟩:=Z.AO;simp[maxLen] at hm;rw[AP];apply Ik E;apply AA (Ef h hl E);rintro _ w2 ⟨h2,m2⟩;rw[AP];have a1:(uv x.length).length<=10:=(Ca 9 x.length).2;have J:∀i,((x.take i).flatMap Ey).length<=(x.flatMap Ey).length:=λi=>by
  have e:x.flatMap Ey=(x.take i).flatMap Ey++(x.drop i).flatMap Ey:=by rw[<-u9,QC]
  rw[e,Ad];omega
 apply AX (λvs O=>∃i:Nat,i<=x.length/\vs=[zI i]/\GW G O c (l++(uv x.length++(x.take i).flatMap Ey))/\AK G W O) (λvs _=>x.length-Di vs 0) ⟨0,Hw _,rfl,by simpa using h2,m2⟩;rintro vs O ⟨i,hi,rfl,h1,Q⟩ _;simp[Bh];refine HP (λa6=>?_) λa7=>?_;have o:i<x.length:=E;obtain⟨p,r,rfl,U,hr,hc,B⟩:=Z.get o;refine AW o (Ab hr (λj u hu=>by rw[Addr.add_add];exact Q.cell (hc j u hu) (by rw[Av];exact hS _ U)) ?_);refine BJ hr rfl (CW.one B) λb w3 hb hz g3 V _=>?_;apply Ab hr V;have X:AK G W w3:=Q.trans (g3.mono E');refine hf i o w3 r _ (h1.U_ g3) X (hR _ _ _ X B) (by have:=J i;simp only[Ad];omega) _ ?_;rintro _ w4 ⟨h4,m4⟩;rw[AR,AM E];refine⟨⟨i+1,o,rfl,?_,X.trans m4⟩,by rw[CL,CL];omega⟩;have e:l++(uv x.length++(x.take (i+1)).flatMap Ey)=l++(uv x.length++(x.take i).flatMap Ey)++Ey x[i]:=by
  rw[Lc,By o,u9];simp
 rw[e];exact h4;have:i=x.length:=E;subst this;rw[Nr] at h1;exact⟨h1,Q⟩
def I8{f:α->X_}{m:α->Nat}{k:Nat}(h:∀a,(f a).length<=k*m a):∀l:List α,(l.flatMap f).length<=k*(l.map m).sum:=by
 intro l;induction l with
 |nil=>simp
 |cons a l i=>have:=h a;simp only[vr,Ad,S4,wJ,Nat.mul_add];omega
def SV(a:Attr):(FI a).length<=60*Gl a:=by
 have h1:(uv a.key.toNat).length<=10:=(Ca 9 _).2;have:=Uw a.val;unfold FI Gl;rw[Ad];omega
def Sm(a:Chg):(Ew a).length<=60*KO a:=by
 have h1:∀n,(uv n).length<=10:=λn=>(Ca 9 n).2;have i:=h1 a.key.toNat;have j:=h1 0;have:=Uw a.val;unfold Ew KO;rw[Ad];split<;>omega
def Rv(o:Dop):(Ey o).length<=60*Co o:=by
 have h1:∀n,(uv n).length<=10:=λn=>(Ca 9 n).2;have a:=h1 o.kind.toNat;have b:=h1 o.n.toNat;have d:=h1 o.patch.length;have e:=h1 (Ez o.AY).length;have i:=h1 o.set.length;have f:=Nw o.AY;have g:=I8 Sm o.patch;have j:=I8 SV o.set;unfold Ey Lt QM Co Eo FK;rw[Ad];split;simp only[Ad];omega;split;simp only[Ad];omega;split;omega;simp;omega
def fU(x:V'):(Ui x).length<=10+60*Aa x:=by
 have h1:(uv x.length).length<=10:=(Ca 9 _).2;have:=I8 Rv x;unfold Ui Lt Aa;rw[Ad];omega
def lM{x:W_}(h:GW G W c l)(I:CI S W xv x)(J:∀z,S z->¬G z)(ha:∀a∈x,bM a)(hl:l.length+61*Eo x+300<=1099511627776) : AF prog 192 [g_ c,xv] (λ_ w'=>GW G w' c (l++Lt FI x)/\AK G W w') W:=by
 apply G_ func192;refine fw rfl λb O hb j g hc _=>?_;apply AD hc;have nb:¬(G b/\¬(W.heap.size<=b/\b<O.heap.size)):=λe=>e.2 ⟨E,E⟩;have o:=I8 SV x;have hm:(x.map Gl).sum=Eo x:=rfl;rw[hm] at o;refine AA (XJ (h.Kc g) (I.U_ g B_ C0) (λ_ _ _ _ h=>h) (λz j e=>J z j e.1) E λi hi W' r l' Q m hr U K V=>?_) ?_;have B:=hr;subst B;have X:=ie (Q0 hi);exact RE (bs:=[]) (cs:=[_]) C_ (AA (fp Q (m.cell hc nb) nb (ha _ (Q0 hi)) (by unfold Gl;omega)) V);rintro _ w2 ⟨Y,Z⟩;exact⟨Y.O0 λz j=>j.1,(g.mono E').trans (Z.mono λz _ e=>e.1)⟩
def Ze{x:Z_}(h:GW G W c l)(I:Eg S W xv x)(J:∀z,S z->¬G z)(ha:∀a∈x,ab a)(hl:l.length+61*FK x+300<=1099511627776) : AF prog 189 [g_ c,xv] (λ_ w'=>GW G w' c (l++Lt Ew x)/\AK G W w') W:=by
 apply G_ func189;refine fw rfl λb O hb j g hc _=>?_;apply AD hc;have nb:¬(G b/\¬(W.heap.size<=b/\b<O.heap.size)):=λe=>e.2 ⟨E,E⟩;have o:=I8 Sm x;have hm:(x.map KO).sum=FK x:=rfl;rw[hm] at o;refine AA (cF (h.Kc g) (I.U_ g B_ C0) (λ_ _ _ _ h=>h) (λz j e=>J z j e.1) E λi hi W' r l' Q m hr U K V=>?_) ?_;have B:=hr;subst B;have X:=jB (Q0 hi);exact RE (bs:=[]) (cs:=[_]) C_ (AA (nT Q (m.cell hc nb) nb (ha _ (Q0 hi)) (by unfold KO;omega)) V);rintro _ w2 ⟨Y,Z⟩;exact⟨Y.O0 λz j=>j.1,(g.mono E').trans (Z.mono λz _ e=>e.1)⟩
def qP{D:f_}{r:V_}{o:Dop}(h:GW G W c l)(hr:CW D W r o)(hD:∀z,D z->¬G z)(Z:TO o)(hl:l.length+61*Co o+400<=1099511627776) : AF prog 121 [g_ c,.agg r.toArray] (λ_ w'=>GW G w' c (l++Ey o)/\AK G W w') W:=by
 apply G_ func121;obtain⟨rv,sv,pv,rfl,r1,r2,r3⟩:=hr;have hk:=TO.kind Z;refine CN λb O hb i g hc _=>?_;have nb:¬(G b/\¬(W.heap.size<=b/\b<O.heap.size)):=λe=>e.2 ⟨E,E⟩;have EU:∀w' X,GW (λz=>G z/\¬(W.heap.size<=z/\z<O.heap.size)) w' c (l++X)->AK (λz=>G z/\¬(W.heap.size<=z/\z<O.heap.size)) O w'->X=Ey o->GW G w' c (l++Ey o)/\AK G W w':=λw' X hX hm e=>by
  subst e;exact⟨hX.O0 λz i=>i.1,(g.mono E').trans (hm.mono λz _ e=>e.1)⟩
 have j:∀z,D z->¬(G z/\¬(W.heap.size<=z/\z<O.heap.size)):=λz i e=>hD z i e.1;obtain⟨k,Q⟩:∃k:Nat,o.kind=k:=⟨o.kind.toNat,E⟩;have c0:=hc 0 _ rfl;have c1:=hc 1 _ rfl;have c3:=hc 3 _ rfl;rw[Q] at c0;rw[AB];apply AD c0;apply Uz E;have eV:Ey o=uv k++jd o:=by rw[de,Q];rfl
 have a7:(uv k).length<=10:=(Ca 9 k).2;simp[Co] at hl;apply AA (Ef (h.Kc g) E E);rintro _ w2 ⟨h2,B⟩;have ll:(l++uv k).length=l.length+(uv k).length:=Ad;rw[AB];apply AD (B.cell c0 nb);rw[Aj];refine AE (λe=>?_) λn1=>?_
 .rcases Z with⟨_,hn,_,_,hp⟩|⟨Y,_⟩|⟨Y,_⟩;rotate_left;omega;omega;have en:o.n=((o.n.toNat:Nat):Int):=E;rw[AB];apply AD (B.cell c1 nb);rw[en];apply Ik E;have a6:(uv o.n.toNat).length<=10:=(Ca 9 _).2;apply AA (Ef h2 E E);rintro _ U ⟨h3,m3⟩;have I:=B.trans m3;rw[AB];apply AD (I.cell (hc 4 _ rfl) nb);refine AA (Ze h3 (BC.mono r3 C0 (λz i V=>((g.mono E').trans I).Ap z i (j z V)) B_ C0) j hp.2 (by simp[Ad];omega)) ?_;rintro _ w4 ⟨h4,m4⟩;apply EU w4 (uv k++(uv o.n.toNat++Lt Ew o.patch)) (by simpa only[Mp] using h4) (I.trans m4);rw[eV];unfold jd;rw[Cx E]
 rw[Aj];refine AE (λe=>?_) λn2=>?_
 .rcases Z with⟨Y,_⟩|⟨_,_,hM,ht,hs,_⟩|⟨Y,_⟩;omega;rotate_left;omega;rw[AB];apply AD (B.cell (hc 2 _ rfl) nb);apply AA (aG (BC.mono r1 C0 (λz i V=>((g.mono E').trans B).Ap z i (j z V)) B_ C0) hM E);rintro _ U ⟨g3,bv,rfl,ob⟩;refine Af (vs:=[_,_]) rfl (Af (vs:=[_,_]) rfl ?_);have a1:Cc (λz=>w2.heap.size<=z/\z<U.heap.size) U bv (Ez o.AY):=BC.sub (AG.sl ob) (λz i h=>⟨h.1,i⟩) B_ C0;have a8:=Nw o.AY;apply AA (S0 (h2.Kc g3) a1 (λz i e=>e.2 i) E);rintro _ w4 ⟨h4,m4⟩;have J:=B.trans ((g3.mono E').trans (m4.mono λz _ e=>e.1));rw[AB];apply AD (J.cell c3 nb);have aa:(QM (Ez o.AY)).length<=10+o.AY.length*4:=by
   have:(uv (Ez o.AY).length).length<=10:=(Ca 9 _).2;unfold QM;rw[Ad];omega
  refine AA (lM (h4.O0 (G:=λz=>G z/\¬(W.heap.size<=z/\z<O.heap.size)) λz i=>i.1) (BC.mono r2 C0 (λz i V=>((g.mono E').trans J).Ap z i (j z V)) B_ C0) j hs.2 (by simp[Ad];omega)) ?_;rintro _ w5 ⟨h5,m5⟩;apply EU w5 (uv k++(QM (Ez o.AY)++Lt FI o.set)) (by simpa only[Mp] using h5) (J.trans m5);rw[eV];unfold jd;rw[Bp E,Cx E]
 rw[Aj];refine AE (λe=>?_) E;rcases Z with⟨Y,_⟩|⟨Y,_⟩|⟨_,hn,_⟩;omega;omega;have en:o.n=((o.n.toNat:Nat):Int):=E;rw[AB];apply AD (B.cell c1 nb);rw[en];apply Ik E;apply AA (Ef h2 E E);rintro _ U ⟨h3,m3⟩;apply EU U (uv k++uv o.n.toNat) (by simpa only[Mp] using h3) (B.trans m3);rw[eV];unfold jd;rw[Bp E,Bp E,Cx E]
end
def gF(x:V'):Aa (AL x)<=2*Aa x+1:=by
 have h1:=Fu x;have j:=Tk (BB x).ins (BB x).Ak;have i:=N9 (l:=(BB x).done++BW (BB x).ins (BB x).Ak);rw[EG] at i;unfold AL Ra;omega
def X8{A_ S D:f_}{x:V'}(hS:Cg A_ w sv ks)(h:Ae S D w xv x)(hT:DV w)(hB:∀o∈x,IH o)(hK:∀k∈ks,0<=k.id)(aa:x.length<=1048576)(hb:Aa x<=1000000000) : AF prog 62 [sv,xv] (λv' w'=>AI w w'/\∃bv,v'=.tuple #[bv,zI (CU ks x)]/\(CU ks x=0->Df w.heap.size w' bv (Ui (AL x)))/\(CU ks x≠0->bv=i_)) w:=by
 apply G_ func62;apply AA (Km hS h hT λo ho=>(hB o ho).o);rintro _ w1 ⟨rfl,I⟩;rw[BH];refine AT (λe=>?_) λe=>?_;rotate_left;exact⟨I,i_,rfl,λe'=>(e e').elim,I_⟩;refine⟨#[i_],C_,?_⟩;refine CN (vs:=[i_]) λc w2 hc U Y j B=>?_;apply AA (Tu ((h.U_ I).U_ Y) E);rintro ak V ⟨Z,X⟩;obtain⟨_,_,J,_,_⟩:=K3 hK e hB E;have al:=gF x;have c3:=X.cell (by have:=j 0 _ rfl;rwa [AH] at this) E_;have l3:=Cv.U' (by have:=B 0 D_;rwa [AH] at this) X E_;have hw:GW (λz=>z=c\/V.heap.size<=z) V c []:=⟨⟨_,c3,AG.nil,λg hg=>(nomatch hg)⟩,l3,.inl rfl,λz U=>.inr U⟩;have uO:∀z,(w2.heap.size<=z/\z<V.heap.size)->¬(z=c\/V.heap.size<=z):=E;have an:=fU (AL x);refine AA (iS hw Z.reads (λW' r a m hr=>hr.U' m (λz _ U=>uO z U) C0) uO D_ λi hi W' r l' a1 m hr a6 K a7=>?_) ?_;have av:=EP (Q0 hi);have ax:((AL x).flatMap Ey).length<=60*Aa (AL x):=I8 Rv _;rw[gC] at a6;exact RE (bs:=[_]) (cs:=[]) C_ (AA (qP a1 hr uO (J.2 _ (Q0 hi)) E) a7);rintro _ w4 ⟨h4,m4⟩;obtain⟨bv,a8,O,Q⟩:=h4.ex;apply AJ;rw[AB,AH];apply AD a8;have s1:=I.size;have s3:=(I.trans Y).size;have s4:=X.size;rw[u7] at O;refine⟨((I.trans Y).trans X).next m4 E,bv,by rw[e],λ_=>O.Bk λg hg=>?_,λhn=>(hn e).elim⟩;rcases(Q g hg).1 with e'|e'<;>omega
section
variable {w0:e_}{F:f_}{W:e_}{e:EgA}{σ:SKs}{most:Int}{d clip:Y_}{H:Hist}{N:Nat}
def Qn(h:MF w0 F W e σ most d clip H N)(Q:DV w0)(j:FV σ.ks most d)(hC:∀c∈d,GL σ.ks c)(I:∀k∈σ.ks,Cq k)(hl:d.length<=10000)(U:N<=1000000000) : AF prog 14 [g_ e.b] (λv' w'=>Df W.heap.size w' v' (Ui (AL (AL (Dt d))))/\AI W w') W:=by
 refine H_ func14 ?_ (.y (.y (.x (.dm [8,9] [0,1,3,7,0,16,48,112,240,511,1023,2047,2047,4095,16383]))));obtain⟨Ft,Fh,Fc,cv,h,hF⟩:=h;apply AA (EM h.box);rintro _ _ ⟨rfl,rfl⟩;rename e_=>W;apply AS;have J:AI W W.drew:=AK.drew _ _;have o:=h.U_ J;apply Ag (λ_ _=>False);apply AJ;rw[AB,AH];apply AU ⟨o.box.cells 0 _ rfl,C0⟩;apply AJ;rw[AB,AH];apply AU ⟨o.box.cells 1 _ rfl,C0⟩;apply AA (U3 o.tx j E U);rintro xv Y ⟨V,B⟩;refine⟨B.mono C0,?_⟩;have h1:=o.U_ B;obtain⟨d1,d2,d3,d4,X⟩:=QH I j.g hC hl;obtain⟨Z,f2,f3,f4,f5,f6⟩:=Tc j.g hC;refine AA (X8 h1.tx.Iy.1 (CZ.reads V) (Q.U_ h1.tx.g) d3 (λk hk=>by have:=(I k hk).1;omega) E X) ?_;rintro _ W2 ⟨O,bv,rfl,hb,_⟩;refine⟨O.mono C0,?_⟩;refine Af (vs:=[_,_]) rfl (Af (vs:=[_,_]) rfl ?_);have i:CU σ.ks (AL (Dt d))=0:=ZD I j.g hC hl;have s0:=J.size;have s1:=B.size;exact⟨(hb i).low E,(J.trans B).trans O⟩
end
def Ds:V'->List Bool
 |[]=>[]
 |o::x=>if o.kind=2 then Ds x else decide (o.kind=3)::Ds x
def Iz:List Bool->List Bool->Nat
 |[],[]=>0
 |p::l,[]=>p.toNat+Iz l []
 |[],q::m=>q.toNat+Iz [] m
 |p::l,q::m=>(p||q).toNat+Iz l m
def Dl:V'->Nat
 |[]=>0
 |o::x=>(if o.kind=2 then 1 else 0)+Dl x
section
variable {ks:Y'}
def ZM:∀(l m:List Bool),Iz l m=Iz m l:=by
 intro l;induction l with
 |nil=>
  intro m;induction m with
  |nil=>rfl
  |cons q m i=>simp[Iz,i]
 |cons p l i=>
  intro m;cases m with
  |nil=>simp[Iz];rw[i]
  |cons q m=>simp[Iz];rw[i,Bool.or_comm]
def Y0:∀(b:V') (d:Y_),(∀o∈b,One o)->Ah b<=d.length->(BD ks d b).length+Iz [] (Ds b)=d.length+Dl b:=by
 intro b;induction b with
 |nil=>intro d _ _;rw[Ff];simp[Ds,Dl,Iz]
 |cons v b j=>
  intro d h ht;have hb:∀o∈b,One o:=λo B=>h o (by simp[B]);rcases h v D_ with⟨k,r,hr⟩|⟨k,i⟩;rw[Ah,Cx k] at ht;rw[Fe k hr,Ds,Cx k,Dl,Cx k];have:=j d hb E;simp[Hn];omega;have k2:v.kind≠2:=E;rw[Ah,Bp k2,i] at ht;cases d with
  |nil=>simp at ht
  |cons c d=>
   simp[Hn] at ht;have:=j d hb (by have:(1:Int).toNat=1:=rfl;omega);rw[Ds,Bp k2,Dl,Bp k2,Iz];rcases k with k|k;rw[HA k i,WL (p:=v.kind=3) E];simp[Hn,Bool.toNat_false];omega;rw[HJ k i,TC (p:=v.kind=3) k];simp[Hn,aBE];omega
def kb:∀(m:Nat) (a b:V') (d:Y_),a.length+b.length<=m->(∀o∈a,One o)->(∀o∈b,One o)->Ah a<=d.length->Ah b<=d.length->(BD ks (BD ks d a) (Cz true a b)).length+Iz (Ds a) (Ds b)=d.length+Dl a+Dl b:=by
 intro m;induction m with
 |zero=>
  intro a b d hm _ _ _ _;have ha:a=[]:=Kx E;have hb:b=[]:=Kx E;subst ha hb;rw[DJ,Ff,Ff];simp[Ds,Dl,Iz]
 |succ m V=>
  intro a b d hm U Q j B;cases a with
  |nil=>
   rw[Ff,Ng b d Q B];have:=Y0 (ks:=ks) b d Q B;simp[Ds,Dl];omega
  |cons u a=>
   cases b with
   |nil=>
    rw[DJ,Ff];have:=Y0 (ks:=ks) (u::a) d U j;rw[ZM];simp[show Ds []=[] from rfl,show Dl []=0 from rfl];omega
   |cons v b=>
    simp[Hn] at hm;have ha:∀o∈a,One o:=λo X=>U o (by simp[X]);have hb:∀o∈b,One o:=λo X=>Q o (by simp[X]);rcases U u D_ with⟨i,r,hr⟩|⟨i,Y⟩;rw[Ah,Cx i] at j;rw[Pk i (.inl rfl),Fe i hr,KB,Ds,Cx i,Dl,Cx i];have:=V a (v::b) d (by simp[Hn];omega) ha Q E B;simp[Hn];omega;have J:u.kind≠2:=E;rcases Q v D_ with⟨I,r,hr⟩|⟨I,Z⟩;rw[Ah,Cx I] at B;rw[P7 I (λe=>(J e).elim),Fe I hr];have:=V (u::a) b d (by simp[Hn];omega) U hb j E;rw[show Ds (v::b)=Ds b by rw[Ds,Cx I],show Dl (v::b)=1+Dl b by rw[Dl,Cx I]];simp[Hn];omega;have O:v.kind≠2:=E;rw[Ah,Bp J,Y] at j;rw[Ah,Bp O,Z] at B;cases d with
    |nil=>simp only[gC] at j;omega
    |cons c d=>
     simp[Hn] at j B;have:=V a b d E ha hb E E;rw[show Ds (u::a)=decide (u.kind=3)::Ds a by rw[Ds,Bp J],show Ds (v::b)=decide (v.kind=3)::Ds b by rw[Ds,Bp O],show Dl (u::a)=Dl a by rw[Dl,Bp J];omega,show Dl (v::b)=Dl b by rw[Dl,Bp O];omega,Iz];rcases i with i|i;rw[HA i Y,WL (p:=u.kind=3) E,aBd];rcases I with I|I;rw[QU i I,KB,WL (p:=v.kind=3) E];simp[Hn,Bool.toNat_false];omega;rw[Qz i I,NR,TC (p:=v.kind=3) I];simp[Hn,aBE];omega;rw[HJ i Y,MR i O,TC (p:=u.kind=3) i,aBh];simp[Hn,aBE];omega
end
def mL(s:W_)(p:Z_)(n:Int):∀(rs:X_) (y:V'),Ds (rs.map (λr=>(⟨2,n,[r],s,p⟩:Dop))++y)=Ds y/\Dl (rs.map (λr=>(⟨2,n,[r],s,p⟩:Dop))++y)=rs.length+Dl y:=by
 intro rs;induction rs with
 |nil=>intro y;exact⟨rfl,D_⟩
 |cons r rs i=>
  intro y;obtain⟨h1,j⟩:=i y;refine⟨?_,?_⟩;rw[S4,No,Ds,Cx rfl,h1];rw[S4,No,Dl,Cx rfl,j,Hn];omega
def nO{o:Dop}(h:o.kind≠2):∀(n:Nat) (y:V'),Ds (List.replicate n o++y)=List.replicate n (decide (o.kind=3))++Ds y/\Dl (List.replicate n o++y)=Dl y:=by
 intro n;induction n with
 |zero=>intro y;exact⟨rfl,rfl⟩
 |succ n i=>
  intro y;obtain⟨h1,j⟩:=i y;refine⟨?_,?_⟩;rw[wB,No,Ds,Bp h,h1,wB,No];rw[wB,No,Dl,Bp h,j];omega
def Uf(o:Dop)(y:V'):Ds (CH o++y)=(if o.kind=2 then[] else List.replicate (Ao o) (decide (o.kind=3)))++Ds y/\Dl (CH o++y)=(if o.kind=2 then o.AY.length else 0)+Dl y:=by
 by_cases k:o.kind=2;have e:CH o=o.AY.map (λr=>(⟨2,0,[r],o.set,o.patch⟩:Dop)):=by
  unfold CH;rw[Cx k]
 rw[e,Cx k,Cx k,u7];exact mL _ _ _ o.AY y;rw[Kg k,Bp k,Bp k];obtain⟨h1,i⟩:=nO (o:=⟨o.kind,1,[],o.set,o.patch⟩) k (Ao o) y;exact⟨h1,by rw[i];omega⟩
end Go.Proofs.YtlmjclmngedmkaaGreatDoor
