/- parts of the proof, written short by a program of ours -/
import Derived.Test.YtjdgbcdfgnajlaaGreatDoorZZZ7
set_option linter.all false
set_option maxRecDepth 100000
namespace Go.Proofs.YtjdgbcdfgnajlaaGreatDoor
open Go Proofs.Tryz
variable {S F C M:d_}{w W w' W':c_}{v sv fr dv:b_}{most:Int}{cs:U_}{a:U'}{α:Type}{ks:X'}{q:W_}{s:V_}{K:Cont}{P:Program}{d:Y_}
def G6(A B:Nat)(W:c_)(ov:b_)(l:Y_):Prop:=∃D:d_,AB B 49 2 (Ky D) W ov l/\∀x,D x->A<=x/\x<W.heap.size/\ov.ownBlock≠some x
theorem G6.nil{A B:Nat}:G6 A B W g_ []:=⟨λ_=>False,AB.nil,L_⟩
def G6.S_{A B:Nat}{l:Y_}(h:G6 A B W v l)(g:AG W W'):G6 A B W' v l:=by
 obtain⟨D,h1,I⟩:=h;have:=g.size;exact⟨D,AB.T_ h1 g C_ λr x _ j=>j.T_ g E' C_,B_⟩
def G6.T_{A B:Nat}{l:Y_}(h:G6 A B W v l)(g:AF M W W')(I:∀x,M x->x<A/\x<B):G6 A B W' v l:=by
 obtain⟨D,h1,J⟩:=h;have:=g.size;exact⟨D,AB.T_ h1 g (λx j e=>by have:=(AB.Am h1 x j).1;grind) λr x _ j=>j.T_ g B_ C_,B_⟩
theorem G6.rd{A B:Nat}{l:Y_}(h:G6 A B W v l)(j:A<=B):Be (λx=>A<=x/\x<W.heap.size) (λx=>A<=x/\x<W.heap.size) W v l:=by
 obtain⟨D,h1,J⟩:=h;exact Al.sub (AB.sl h1) E C0 λr x I=>I.T_ j0 E' B_
def Od{A B:Nat}{l:Y_}{c:Cel}{D':d_}(h:G6 A B W fr l)(Q:B<=W.heap.size)(N:Bo D' W sv c.set)(U:∀x,D' x->A<=x/\x<W.heap.size/\fr.ownBlock≠some x)(hl:l.length<=1099511627776) (V:∀j W',G6 A B W' j (l++[c])->AF (λb=>fr.ownBlock=some b) W W'->(∀g,j.ownBlock=some g->fr.ownBlock=some g\/W.heap.size<=g)->K j W') : EE 49 2 1 [(.int .i32 0),g_] [(0,.agg #[.int .i32 c.r,sv])] (λs O=>runK prog (Builtin.append_ #[38,38] 38 [fr,s].toArray) K O) W:=by
 obtain⟨D,h1,Z⟩:=h;obtain⟨sa,sc,X,_⟩:=N.AK;have hb:∀x,(D x\/D' x)->A<=x/\x<W.heap.size/\fr.ownBlock≠some x:=B_;have J:AB B 49 2 (Ky λx=>D x\/D' x) W fr l:=AB.T_ h1 j0 C_ λr x _ I=>I.T_ j0 E' λ_ _ h=>.inl h;refine Dv Wk J Q (cs:=[.int .i32 c.r,sv]) (x:=c) (CY (v:=.agg #[.int .i32 c.r,sv]) rfl C0 rfl rfl) rfl ⟨sv,rfl,N.sub (λ_ _ h=>.inr h) C0 C_⟩ (λ_ _ _ h=>h.one) (λO w2 r y hz hm Y=>Y.T_ hm (λb _ I e=>?_) C_) E (by simp[maxLen];omega) λj W' o m n=>?_;grind;refine V j W' ⟨_,o,λx I=>?_⟩ m n;obtain⟨t1,t2,t3⟩:=hb x I;have zm:=m.size;grind
theorem pT{i j n:Int}:OI i j n=0↔0<=i/\i<=j/\j<=n:=by grind[OI]
def vt{i j n:Int}:OI i j n=0\/OI i j n=5:=by grind[OI]
def U6{b bt:Nat}{l:a_}{i j:Int}(h:Ep BH.toAvT F JB W b bt l)(he:OI i j (CM l).length≠0) : l_ 75 [e_ b,zIq i,zIq j] (λv' w'=>v'=.tuple #[g_,zIq 5]/\AG W w') W:=by
 refine O' func75 ?_ (.y (.y (.x (.y (.y (.dm [2,3,4] [0,0,2,7,15]))))));refine Bx.zero λc Q hc I B=>?_;apply AA (Mi Fz (h.S_ I));rintro _ V ⟨rfl,J⟩;rw[show Tr.sz BH.toAvT.k.μ l=(CM l).length from Gw l,FQ];refine BM (λe=>absurd e he) λ_=>(B.S_ J).st (q:=0) (show 0<1 by decide) rfl rfl λU N O=>?_;apply AI (N.cells 0 _ rfl);rw[(vt.resolve_left he)];exact⟨rfl,(I.trans J).next O E⟩
def dN(c:Cel)(d:Y_):Cb (c::d)=(if c.r=10 then[c.set] else[])++Cb d:=by grind[Cb]
section
variable {w0:c_}{F:d_}{W:c_}{a:TxA}{σ:SKs}{most:Int}{d:Y_}
def Vc{i j:Int}(h:KB .f w0 F W a σ most d)(he:¬(0<=i/\i<=j/\j<=d.length)) : l_ 35 [e_ a.b,zIq i,zIq j] (λv' w'=>v'=.tuple #[g_,zIq 5]/\AG W w') W:=by
 refine J_ func35 ?_ (.y (.y (.y (.y (.y (.z (.dm [6,9,10] [0,1,3,7,0,0,48,0,0,496,1023,2047,4095,4095,8191,32767]) (.y (.x (.y (.node [12,14,62] [(12,12),(14,14),(16,19),(62,102)] (.y (.y (.x (.y (.z (.dm [6] [0,1,3,7,0,16,63,127,255,255,511,2047]) (.y (.node [12,14,78] [(12,12),(14,14),(19,19),(78,101)] (.y (.y (.x (.cut [19] [(19,19),(80,87)] (.dt [6,8,9] (i_ [0,0,2,7,15,0,32,127,0,511]) [[6]] (.op 0 (.op 1 (.op 2 (.op 3 (.op 4 (.op 5 (.br (.op 6 (.op 7 (.op 8 (.op 9 .nil)))) (.op 8 (.op 6 (.op 7 (.op 9 .nil)))))))))))) (.cut [12] [(12,12),(88,96)] (.y (.x (.dt [4,6] (i_ [0,1,3,0,8,7,39,127]) [] (.op 0 (.op 1 (.op 2 (.op 3 (.op 5 (.br (.op 4 (.op 6 (.op 7 .nil))) (.op 6 (.op 4 (.op 7 .nil)))))))))))) .nil))))) .nil))))))) .nil))))))))));apply AA (GN h.box.1);rintro _ _ ⟨rfl,rfl⟩;rw[Aj];apply AM;apply nfl_i (h.box.1.cells 2 _ rfl);obtain⟨l1,Fr,Q,I,J⟩:=h.MV;refine AA (U6 J λe=>he ?_) ?_;grind[pT];rintro _ N ⟨rfl,O⟩;apply BD;exact neP (λe=>by cases e) B_
def NP{i j:Nat}(h:KB .f w0 F W a σ most d)(cq:i<=j)(hj:j<=d.length)(hG:∀c∈d,Dw σ.ks c.set)(hz:d.length<=536870912) : l_ 35 [e_ a.b,zIq (i:Int),zIq (j:Int)] (λv' w'=>∃cv,v'=.tuple #[cv,zIq 0]/\G6 W.heap.size W.heap.size w' cv ((d.take j).drop i)/\AG W w') W:=by
 have h0:=h;obtain⟨z,l2,t,f,gO,hM,gR,hu,hh,gW,j5⟩:=h;have h3:z.length=d.length:=B_;have dr:(BK d).length=d.length:=Nn _;have eB:=r9 List.length hu;rw[Nn,h3] at eB;refine J_ func35 ?_ (.y (.y (.y (.y (.y (.z (.dm [6,9,10] [0,1,3,7,0,0,48,0,0,496,1023,2047,4095,4095,8191,32767]) (.y (.x (.y (.node [12,14,62] [(12,12),(14,14),(16,19),(62,102)] (.y (.y (.x (.y (.z (.dm [6] [0,1,3,7,0,16,63,127,255,255,511,2047]) (.y (.node [12,14,78] [(12,12),(14,14),(19,19),(78,101)] (.y (.y (.x (.cut [19] [(19,19),(80,87)] (.dt [6,8,9] (i_ [0,0,2,7,15,0,32,127,0,511]) [[6]] (.op 0 (.op 1 (.op 2 (.op 3 (.op 4 (.op 5 (.br (.op 6 (.op 7 (.op 8 (.op 9 .nil)))) (.op 8 (.op 6 (.op 7 (.op 9 .nil)))))))))))) (.cut [12] [(12,12),(88,96)] (.y (.x (.dt [4,6] (i_ [0,1,3,0,8,7,39,127]) [] (.op 0 (.op 1 (.op 2 (.op 3 (.op 5 (.br (.op 4 (.op 6 (.op 7 .nil))) (.op 6 (.op 4 (.op 7 .nil)))))))))))) .nil))))) .nil))))))) .nil))))))))));apply AA (GN hM.box.1);rintro _ _ ⟨rfl,rfl⟩;rename c_=>W;rw[Aj];apply AM;apply nfl_i (hM.box.1.cells 2 _ rfl);obtain⟨l1,Fr,br,e3,e4,_,_⟩:=hM.aC;have j6:(CM l1).length=d.length:=by rw[e3,dr]
 refine AA (fg (i:=i) (j:=j) e4 cq E E) ?_;rintro _ W1 ⟨lv,rfl,oL,g1⟩;rw[e3] at oL;apply BD;refine neP (λ_=>?_) λe=>(e rfl).elim;have e5:=hM.S_ g1;apply nfl_i (e5.box.1.cells 3 _ rfl);obtain⟨Fs,bs,h4,_,_⟩:=e5.ik;have ir:HY l2=d.length:=by rw[GF,eB]
 refine AA (QW (i:=i) (j:=j) h4 cq E E) ?_;rintro _ W2 ⟨rv,rfl,oR,g2⟩;apply BD;have eC:=Spn.Jw gR i j;have h5:(Spn.kd.Ax l2 i j).flatMap Spn.u=((z.map Prod.snd).take j).drop i:=by rw[Spn.FV.Ax,hu]
 have ax:((Spn.kd.Ax l2 i j).flatMap Spn.u).length=j - i:=B_;have e6:=Spn.N5 eC;rw [ax] at e6;generalize Spn.kd.Ax l2 i j=row at *;have gd:=gdr W2;have ay:=(e5.S_ g2).S_ gd;apply Ac (λ_ _=>False);apply AJ;rw [AE,AH];refine AP ⟨ay.box.1.cells 4 _ rfl,C_⟩ ?_;have eH:=(g1.trans g2).trans gd;refine AA (KC ay.box.1 (e4.S_ eH) (i:=i) E E) ?_;rintro _ W3 ⟨rfl,g3⟩;refine ⟨E,?_⟩;have eI:=ay.S_ g3;refine AA (KC eI.box.1 ((e4.S_ eH).S_ g3) (i:=j) E E) ?_;rintro _ W4 ⟨rfl,g4⟩;refine ⟨E,?_⟩;have eL:=eI.S_ g4;rw [e3];obtain ⟨Fp,Cp,bp,h6,_,_⟩:=eL.aI;have h7:CX ((BK d).take i)<=CX ((BK d).take j):=aBC _ (by
  rw [<-aAD cq,<-aBI];grind)
 have j7:CX ((BK d).take j)<=CX (BK d):=aBC _ (aCa _ _);have j8:=Em (BK d);refine AA (Ut h6 h7 (by grind[FA]) (by rw [FA];omega) (λx N=>by
  obtain ⟨c,hc,rfl⟩:=WJ.1 N;grind[Dw.len])) ?_
 rintro _ Y ⟨pv,Wp,rfl,gA,gB,oP⟩;have eN:=gA.trans gB;refine⟨E,?_⟩;apply BD;have eR:=(gd.trans g3).trans g4;have e7:=eR.trans eN;have h8:=(g1.trans g2).trans e7;have h9:=eL.S_ eN;have z1:=g1.size;have z2:=g2.size;have j9:=eR.size;have zA:=gA.size;have zB:=gB.size;have eX:((Cb d).take (CX ((BK d).take j))).drop (CX ((BK d).take i))=Cb ((d.take j).drop i):=by
  rw[(Ek (d.take j) i).2,(Ek d j).1,show BK (d.take j)=(BK d).take j from aAI,aBI,aAD cq]
 rw[eX] at oP;have hP:Al (λx=>W.heap.size<=x/\x<Y.heap.size) 1 (Cu λx=>W.heap.size<=x/\x<Y.heap.size) Y pv (Cb ((d.take j).drop i)):=
  Al.sub (AB.sl oP) E C0 λr x N=>BN.rsub N E
 have hd:Al (λx=>W.heap.size<=x/\x<Y.heap.size) 1 Bk Y lv (((BK d).take j).drop i):=Al.S_ (Al.sub (AB.sl oL) E C0 C_) (g2.trans e7) C0 C_;have fa:Al (λx=>W.heap.size<=x/\x<Y.heap.size) 2 Gh Y rv row:=Al.S_ (Al.sub (AB.sl oR) E C0 C_) e7 C0 C_
 let Eu:Nat->Nat:=λm=>((row.take m).flatMap Spn.u).length
 have b0:∀(m:Nat) (hm:m<row.length) (q:Nat),q<row[m].n->∃c,d[i+(Eu m+q)]?=some c/\(c.r≠10->f row[m].id=c.set)/\i+(Eu m+q)<j/\0<Spn.rn row[m].id none (z.map Prod.snd):=by
  intro m hm q hq;have e1:(row.flatMap Spn.u)[Eu m+q]?=some row[m].id:=by
   have:row=row.take m++(row[m]::row.drop (m+1)):=by rw[<-y8 hm,Nr]
   conv=>lhs;rw[this]
   rw[aBV,nm B_,show Eu m+q-((row.take m).flatMap Spn.u).length=q by show Eu m+q-Eu m=q;omega,aA9,u6 (by grind[Spn.u]),Spn.u,aDB,Ix hq]
  have e8:=(Ad.1 e1).1;rw[h5,so,aAr,Ix (by rw[ax] at e8;omega),aAM] at e1;rw[ax] at e8;cases e9:z[i+(Eu m+q)]? with
  |none=>grind
  |some p=>
   rw[e9,aAa,gn] at e1;have hp:=aAk e9;refine⟨p.1,by rw[<-gO,aAM,e9];rfl,λhf=>?_,E,?_⟩;rw[<-e1];exact(gW p hp).2 hf;rw[<-e1];exact Spn.Q3 B_ E_
 have b6:∀m (hm:m<row.length),Eu (m+1)=Eu m+row[m].n:=λm hm=>by
  show((row.take (m+1)).flatMap Spn.u).length=_;rw[No,Hc hm,aBV,Bp];simp[Spn.u,Eu]
 have ea:Eu row.length=j-i:=B_
 let GS:Nat->b_->b_->c_->Prop:=λe pv ov X=>AG Y X/\G6 W.heap.size Y.heap.size X ov ((d.take (i+e)).drop i)/\Al (λx=>W.heap.size<=x/\x<Y.heap.size) 1 (Cu λx=>W.heap.size<=x/\x<Y.heap.size) X pv (Cb ((d.take j).drop (i+e)))
 obtain⟨qa,qc,fo,_⟩:=fa.AK;have fs:Dz rv=Dz (.slice qa row.length qc):=by rw[fo]
 rw[fs,AO];apply Aa (λvs X=>∃(m:Nat) (pv ov:b_),m<=row.length/\vs=[pv,ov,zIq m]/\GS (Eu m) pv ov X) (λvs _=>row.length-Da vs 2) ⟨0,pv,_,Lc _,rfl,AF.refl _ _,by show G6 _ _ _ _ ((d.take (i+0)).drop i);rw[aA3,List.drop_take_self];exact G6.nil,hP⟩;rintro vs W6 ⟨m,ho,fv,hm,rfl,g6,o6,p6⟩ _;simp only[Ha];refine Cn (λe8=>?_) λk0=>?_;rotate_left;obtain rfl:m=row.length:=E;rw[ea,show i+(j-i)=j by omega] at o6;obtain⟨D,q1,q2⟩:=o6;exact⟨fv,rfl,⟨D,q1.BY λg hg=>by have:=(AB.Am q1 g hg).1;omega,q2⟩,h8.trans g6⟩;have Z:m<row.length:=E;have hs:=fa.S_ g6 C0 C_;subst fo;obtain⟨p,r,rfl,_,hr,hc,rfl⟩:=hs.get Z;refine AV Z (AX (vs:=row[m].cells) rfl j1 ?_);refine Bx.new (vs:=row[m].cells) rfl rfl (Spn.one _) λk3 W7 iv g7 hv=>?_;have fx:=gdr W7;have ec:=g7.trans fx;have fy:=h9.S_ (g6.trans ec);have dz:=hv.S_ fx;obtain⟨_,_,_,_,aa⟩:=b0 m Z 0 (Spn.N7 eC row[m] (S7 Z));apply Ac (λ_ _=>False);apply AJ;rw[AE,AH];refine AP ⟨fy.box.1.cells 5 _ rfl,C_⟩ ?_;rw[AE,AH];refine AP ⟨dz.cells 1 _ rfl,C_⟩ ?_;obtain⟨Ft,ga,_,_⟩:=fy.nT;obtain⟨d1,d2⟩:=hh.idle (.inl aa);obtain⟨cn,dT⟩:=hh.Mb aa;refine AA (aF ga E E E) ?_;rintro v8 W8 ⟨g8,gb⟩;rw[dT] at gb;obtain⟨k4,rfl,o8⟩:=gb;simp only at o8;refine⟨E,?_⟩;apply BD;have ix:(f row[m].id).length<=64:=by
  obtain⟨C,pl,fr,bm,hR⟩:=ga;exact VI hR.core dT
 apply fl_i ((dz.S_ g8).cells 0 _ rfl);have cu:=ec.trans g8;have hA:=(AB.sl o8).JW C0;have k5:=ec.size;have k6:j<=536870912:=E;have iy:Eu m+row[m].n<=j-i:=by
  have:=b6 m Z;have h2:Eu (m+1)<=Eu row.length:=by
   show((row.take (m+1)).flatMap Spn.u).length<=((row.take row.length).flatMap Spn.u).length;rw[WL];conv=>rhs;rw[<-Nr (m+1) row,aBV,Bp]
   omega
  omega
 refine Aa (λvs X=>∃(q:Nat) (pv ov:b_),q<=row[m].n/\vs=[pv,ov,zIq q]/\GS (Eu m+q) pv ov X/\AF (λx=>x<W6.heap.size) W8 X/\∀g,ov.ownBlock=some g->g<W6.heap.size\/W8.heap.size<=g) (λvs _=>row[m].n-Da vs 2) ⟨0,ho,fv,Lc _,rfl,⟨g6.trans cu,o6.S_ cu,Al.S_ p6 cu C0 λr x N=>BN.Bw N cu E'⟩,AF.refl _ _,λg hg=>by obtain⟨D6,o,_⟩:=o6;exact .inl (AB.Am o g hg).2⟩ ?_;rintro vs W9 ⟨q,gf,cx,hq,rfl,⟨da,o9,p9⟩,ed,b7⟩ _;simp only[HK,aAc];refine Cn (λj0=>?_) λj1=>?_;rotate_left;obtain rfl:q=row[m].n:=E;rw[AQ,AL E];refine⟨⟨m+1,gf,cx,Z,rfl,?_⟩,by rw[po,po];omega⟩;rw[b6 m Z];exact⟨da,o9,p9⟩;have gg:q<row[m].n:=E;obtain⟨c,b8,hB,k7,_⟩:=b0 m Z q gg;generalize he:Eu m+q=e at *;have hD:=(Ad.1 b8).1;have hE:(((BK d).take j).drop i)[e]?=some c.r:=by rw[so,aAr,Ix E,BK,aAM,b8];rfl
 have hI:(((BK d).take j).drop i).length=j-i:=by rw[I3,S5,dr];omega
 have ee:(d.take j).drop (i+e)=c::(d.take j).drop (i+(e+1)):=by
  rw[y8 (by rw[S5];omega),aBg];rw[Hc hD] at b8;rw[aAO b8];rfl
 have ef:(d.take (i+(e+1))).drop i=(d.take (i+e)).drop i++[c]:=by
  rw[show i+(e+1)=i+e+1 by omega,No,b8,aCH,show i-(d.take (i+e)).length=0 by rw[S5];omega];rfl
 rw[ee,dN] at p9;have k8:=da.size;have gl:((d.take (i+e)).drop i).length=e:=by rw[I3,S5];omega
 obtain⟨D9,eh,hK⟩:=o9;obtain⟨oa,oc,hL,_⟩:=AB.AK eh;have ak:=AB.Am eh;have hN:G6 W.heap.size Y.heap.size W9 cx ((d.take (i+e)).drop i):=⟨D9,eh,hK⟩;have gm:=hd.S_ da C0 C_;obtain⟨la,lc,gq,_⟩:=gm.AK;rw[hI] at gq;have ej:(q:Int)+1<=9223372036854775807:=E;refine AT (λvs X=>∃b J D',vs=[e_ b]/\Bx X b [.int .i32 c.r,J]/\W9.heap.size<=b/\AG W9 X/\Bo D' X J (f row[m].id)/\(∀x,D' x->W9.heap.size<=x/\x<X.heap.size)) ?_ ?_;rotate_left;have b9:=gdr W9;have k9:=b9.size;have gu:=(hA.T_ ed E C0 C_).S_ b9 C0 C_;have hQ:Dz cx=Dz (.slice oa e oc):=by rw[hL,gl]
 apply Ac (λn y=>n=9/\W9.heap.size<=y);rw[hQ,AO];subst gq;obtain⟨pl,rl,rfl,j2,_,hS,gv⟩:=gm.get (i:=e) E;have ek:rl=[.int .i32 c.r]:=by
  have h':rl=_:=gv;rw[h'];congr 2;have:=Hc (l:=((BK d).take j).drop i) (i:=e) E;rw[hE] at this;exact(aAO this).symm
 subst ek;refine AV E ?_;refine AP ⟨b9.cell (by have:=hS 0 _ rfl;exact this) F_,λn hn e'=>by have h1:=e'.2;rw [Ai] at h1;omega⟩ ?_;constructor;refine AA (GL gu E) ?_;rintro J ba ⟨a8,Q⟩;refine ⟨Q.mono G_,?_⟩;obtain ⟨ca,cc,bb,_⟩:=AB.AK a8;refine ⟨#[.int .i32 c.r,J],by rw [bb];kernel_rfl,?_⟩;refine Bx.zero λb a1 hb a6 U=>⟨a6.mono G_,?_⟩;have gw:=Q.size;have en:=a6.size;refine U.Ax (us:=[.int .i32 c.r,J]) rfl rfl (λu hu=>by simp only [S6,aAU,aBn] at hu;rcases hu with rfl | rfl;rfl;rw [bb];rfl) λbk eo O=>⟨O.mono E,?_⟩;have ep:AB W9.drew.heap.size 143 5 CC a1 J (f row[m].id):=AB.T_ (R':=CC) a8 a6 C_ E';have bl:=AB.Am a8;have bx:AB W9.drew.heap.size 143 5 CC bk J (f row[m].id):=AB.T_ (R':=CC) ep O (λx N e'=>by have:=bl x N;omega) E';have hT:=O.size;exact ⟨b,J,_,rfl,eo,E,((b9.trans Q).trans a6).next O E,AB.sl bx,λx N=>by have:=bl x N.2;omega⟩;refine Bx.zero λb a1 hb a6 U=>⟨a6.mono G_,?_⟩;refine AA (GL (gu.S_ a6 C0 C_) E) ?_;rintro J ba ⟨a8,Q⟩;refine ⟨Q.mono G_,?_⟩;obtain ⟨ca,cc,bb,_⟩:=AB.AK a8;refine ⟨#[.int .i32 c.r,J],by rw [bb];kernel_rfl,?_⟩;have gw:=Q.size;have j3:=U.lt (P9 _);refine (U.S_ Q).Ax (us:=[.int .i32 c.r,J]) rfl rfl (λu hu=>by simp only [S6,aAU,aBn] at hu;rcases hu with rfl | rfl;rfl;rw [bb];rfl) λbk eo O=>⟨O.mono E,?_⟩;have bl:=AB.Am a8;have bx:AB a1.heap.size 143 5 CC bk J (f row[m].id):=AB.T_ (R':=CC) a8 O (λx N e'=>by have:=bl x N;omega) E';have hT:=O.size;exact ⟨b,J,_,rfl,eo,E,((b9.trans a6).trans Q).next O E,AB.sl bx,λx N=>by have:=bl x N.2;omega⟩;rintro _ ba ⟨b,J,D',rfl,er,hb,Q,et,hV⟩ _;rw [HK];have gw:=Q.size;have dk:=Al.S_ p9 Q C0 λr x N=>BN.Bw N Q E';refine AT (λvs X=>∃ a7 c4 eu,vs=[a7]/\Bx X b [.int .i32 c.r,c4]/\AF (λx=>x=b) ba X/\Bo eu X c4 c.set/\(∀ x,eu x->W.heap.size<=x/\x < X.heap.size/\(x < Y.heap.size\/W9.heap.size<=x))/\
   Al (λx=>W.heap.size<=x/\x < Y.heap.size) 1 (Cu λx=>W.heap.size<=x/\x < Y.heap.size) X a7 (Cb ((d.take j).drop (i+(e+1))))) ?_ ?_
 rintro _ a1 ⟨a7,c4,eu,rfl,U,I,ew,gx,c6⟩ _;rw[HK];have en:=I.size;have c7:AG W9 a1:=Q.next I E;have ep:G6 W.heap.size Y.heap.size a1 cx ((d.take (i+e)).drop i):=hN.S_ c7;apply U.GJ rfl;refine Od ep E ew (λx N=>?_) E λhW bk bx O hX=>?_;have:=gx x N;refine⟨this.1,this.2.1,λe'=>?_⟩;have:=ak x e';omega;rw[AQ,AL ej];have gy:AG Y bk:=(da.trans c7).next O λx N e'=>by have:=ak x e';omega
 have ka:=ed.size;refine⟨⟨q+1,a7,hW,gg,rfl,?_,?_⟩,by rw[po,po];omega⟩;rw[show Eu m+(q+1)=e+1 by omega];refine⟨?_,by rw[ef];exact bx,Al.T_ c6 O (λx _ N e'=>by have:=ak x e';omega) C0 λr x N=>BN.Bw N O λy _ hy e'=>by have:=ak y e';omega⟩;exact gy;refine⟨(ed.next c7 G_).next O λx N e'=>?_,λg hg=>?_⟩;rcases b7 x e' with h|h;exact h;omega;rcases hX g hg with h|h;exact b7 g h;omega
 .apply fl_i (er.cells 0 _ rfl);refine eqP (λez=>?_) λez=>?_;rotate_left;have al:c.r≠10:=ez;rw[By al,aAP] at dk;rw[<-hB al];exact⟨gf,J,D',rfl,er,AF.refl _ _,et,λx N=>by have:=hV x N;omega,dk⟩;have al:c.r=10:=ez;rw[Ix al] at dk;have V:=gdr ba;have j4:=V.size;have an:=Al.S_ dk V C0 λr x N=>BN.Bw N V E';obtain⟨pa,pc,hY,_⟩:=an.AK;subst hY;obtain⟨pp,rr,rfl,kb,_,ic,eA,rfl,ih⟩:=an.get (i:=0) E_;have c8:Bo (λx=>W.heap.size<=x/\x<Y.heap.size) ba.drew eA c.set:=ih;have e2:=er.S_ V;obtain⟨kc,ki,av,_⟩:=c8.AK;apply Ac (λn y=>n=6/\y=b);refine AV E_ ?_;refine AP ⟨by have:=ic 0 _ rfl;exact this,λn hn e'=>by have h1:=e'.2;rw[Ai] at h1;omega⟩ ?_;rw[AE,AH];have il:([c.set]++Cb ((d.take j).drop (i+(e+1)))).length=(Cb ((d.take j).drop (i+(e+1)))).length+1:=E_;constructor;refine FW (e:=47) (k:=1) (i:=Tryz.t47) (j:=1) D_ D_ D_ an E_ λa7 c6=>⟨AF.refl _ _,?_⟩;have c9:=c6;refine e2.st (q:=1) (show 1<2 by decide) (by rw[av];rfl) (by rw[av];rfl) λa1 U I=>⟨I.mono E,?_⟩;have en:=I.size;refine⟨a7,eA,_,rfl,U,(V.mono G_).trans I,c8.T_ I E C0 C_,E,Al.T_ c9 I E C0 λr x N=>BN.Bw N I E⟩;refine e2.st (q:=1) (show 1<2 by decide) (by rw[av];rfl) (by rw[av];rfl) λa1 U I=>⟨I.mono E,?_⟩;have en:=I.size;have gD:=Al.T_ an I E C0 λr x N=>BN.Bw N I E;refine FW (e:=47) (k:=1) (i:=Tryz.t47) (j:=1) D_ D_ D_ gD E_ λa7 c6=>⟨AF.refl _ _,?_⟩;have c9:=c6;refine⟨a7,eA,_,rfl,U,(V.mono G_).trans I,c8.T_ I E C0 C_,E,c9⟩
end
section
variable {w0:c_}{F:d_}{W:c_}{a:TxA}{σ:SKs}{most:Int}{d:Y_}
def Pj{i:Nat}(h:KB .f w0 F W a σ most d)(hi:i<=d.length)(O:d.length<=536870912) : l_ 90 [e_ a.b,zIq (i:Int)] (λv' w'=>v'=.tuple #[zIq (CX ((BK d).take i):Int),zIq 0]/\AG W w') W:=by
 refine H_ func90 ?_;apply AA (GN h.box.1);rintro _ _ ⟨rfl,rfl⟩;rw[Aj];apply AM;apply nfl_i (h.box.1.cells 2 _ rfl);obtain⟨l1,Fr,U,j,I⟩:=h.MV;have J:(CM l1).length=d.length:=B_;refine AA (Oa (i:=i) I E E) ?_;rintro _ Q ⟨rfl,N⟩;rw[j];exact Bt (vs:=[_,_]) (by rfl) (Bt (vs:=[_,_]) (by rfl) ⟨rfl,N⟩)
def Fe(h:KB .f w0 F W a σ most d):l_ 36 [e_ a.b] (λv' w'=>v'=zIq (d.length:Int)/\AG W w') W:=by
 obtain⟨l1,Fr,N,j,I⟩:=h.MV;have J:(CM l1).length=d.length:=B_;have:=iD h.box.1 I;grind
def eK{k:Nat}(h:KB .f w0 F W a σ most d)(N:d.length<=536870912):l_ 92 [e_ a.b,zIq (k:Int)] (λv' w'=>v'=QF (BK d) k/\AG W w') W:=by
 obtain⟨l1,Fr,O,j,I⟩:=h.MV;have J:(CM l1).length=d.length:=B_;have:=Wo (k:=k) h.box.1 I E;grind
def YM(h:KB .f w0 F W a σ most d)(hG:∀c∈d,Dw σ.ks c.set)(hz:d.length<=536870912) : l_ 91 [e_ a.b] (λv' w'=>Al (λx=>W.heap.size<=x/\x<w'.heap.size) 1 (Cu λx=>W.heap.size<=x/\x<w'.heap.size) w' v' (Cb d)/\AG W w') W:=by
 obtain ⟨z,l2,t,f,Y,Q,Z,hu,hh,a1,a6⟩:=h;have U:(BK d).length=d.length:=Nn _;refine I_ func91 ?_ (.y (.y (.x (.dm [8,9] [0,1,3,7,0,16,48,112,240,511,1023,2047,2047,4095,16383]))));apply AA (GN Q.box.1);rintro _ _ ⟨rfl,rfl⟩;rename c_=>W;rw [Aj];apply AM;have J:=gdr W;have j:=Q.S_ J;apply Ac (λ_ _=>False);apply AJ;rw [AE,AH];refine AP ⟨j.box.1.cells 4 _ rfl,C_⟩ ?_;apply AJ;rw [AE,AH];refine AP ⟨j.box.1.cells 4 _ rfl,C_⟩ ?_;obtain ⟨Fp,Cp,bp,I,_,_⟩:=j.aI;apply AA (uz I);rintro _ W1 ⟨rfl,N⟩;refine ⟨E,?_⟩;have a7:=Em (BK d);have a8:=FA d;refine AA (Ut (k:=0) (m:=(Cb d).length) (I.S_ N) (Lc _) (DN _) E (λx O=>by
  obtain ⟨c,hc,rfl⟩:=WJ.1 O;grind[Dw.len])) ?_
 rintro _ W2 ⟨pv,Wp,rfl,V,gB,X⟩;refine⟨(by grind[AF.trans]),?_⟩;apply BD;have z0:=J.size;have z1:=N.size;have zA:=V.size;rw[WL,aAG] at X;exact⟨Al.sub (AB.sl X) E C0 λr x O=>BN.rsub O E,(J.trans N).trans (V.trans gB)⟩
def sC{i:Nat}(h:KB .f w0 F W a σ most d)(hi:i<d.length)(hG:∀c∈d,Dw σ.ks c.set)(hz:d.length<=536870912) : l_ 101 [e_ a.b,zIq (i:Int)] (λv' w'=>∃r,v'=.tuple #[.agg r.toArray,zIq 0]/\Ky (λx=>W.heap.size<=x/\x<w'.heap.size) w' r d[i]/\AG W w') W:=by
 refine H_ func101 ?_ (.y (.y (.cut [] [(5,5),(12,20)] .nil .nil)));refine Bx.zero λb X hb Y B=>?_;have h1:=h.S_ Y;apply AA (GN h1.box.1);rintro _ _ ⟨rfl,rfl⟩;rename c_=>X;rw[Aj];apply AM;refine AT (λ_ W'=>AG X W') ?_ ?_;rotate_left;refine Cn E λ_=>?_;apply AA (Fe h1);rintro _ Z ⟨rfl,J⟩;exact geP E λ_=>J;rintro _ Z J _;have h2:=h1.S_ J;rw[AQ,wrap64 E E,show((i:Int)+1)=((i+1:Nat):Int) by omega];refine AA (NP (i:=i) (j:=i+1) h2 E E hG hz) ?_;rintro _ W3 ⟨cv,rfl,N,g3⟩;apply BD;refine neP (λ_=>?_) λe=>(e rfl).elim;have e1:(d.take (i+1)).drop i=[d[i]]:=by
  grind[List.take_add_one]
 rw[e1] at N;have O:=N.rd (DN _);obtain⟨ca,cc,Q,_⟩:=O.AK;subst Q;obtain⟨p,r,rfl,_,hr,hc,U⟩:=O.get (i:=0) E_;have I:Ky (λx=>Z.heap.size<=x/\x<W3.heap.size) W3 r d[i]:=U;refine AV E_ ?_;apply AX hr (by grind[Addr.add_add]);have z2:=J.size;have a1:=B.lt (P9 _);refine((B.S_ J).S_ g3).Ax hr rfl I.one λW4 B4 V=>?_;apply B4.GJ hr;have z4:=V.size;refine⟨r,rfl,I.T_ V E E,?_⟩;exact((Y.trans J).trans g3).next V E
end
noncomputable def WT(ks:X')(most:Int)(d:Y_)(x:U'):Y_:=if Ef ks x d.length most=0 then Bz ks d x else d
structure pC (ks:X') (most:Int) (d:Y_):Prop where
 g:Ig ks d
 DA:1<=d.length
 le:(d.length:Int)<=most
def kf(h:1<=most):pC ks most [⟨10,[]⟩]:=⟨⟨(by grind[Dw.nil]),rfl⟩,DN _,h⟩
section
variable {w0:c_}{F:d_}{W:c_}{a:TxA}{σ:SKs}{most:Int}{d:Y_}
def Vm{x:U'}(h:KB .f w0 F W a σ most d)(Q:CH w0)(J:pC σ.ks most d)(I:σ.ks.length<=64)(U:∀k∈σ.ks,E9 k)(V:Ag S S W v x)(X:∀y,S y->¬F y)(Y:∀o∈x,Is o)(hl:x.length<=4294967296)(j:most<=536870912) : l_ 42 [e_ a.b,v] (λv' w'=>v'=zIq (Ef σ.ks x d.length most)/\VX .f w0 F W w' a σ most (WT σ.ks most d x)/\pC σ.ks most (WT σ.ks most d x)) W:=by
 have N:=J.le;refine AA (ZL h Q J.g I U V B_ Y hl E j) ?_;rintro _ w' ⟨rfl,h1,Z⟩;refine⟨rfl,h1,?_⟩;unfold WT;split;rename_i e;have hF:=(Ca E).1 e;have:=KX (ks:=σ.ks) (x:=x) (d:=d) (λo ho=>(hF.Eo o ho).1) hF.MA;have:=hF.most;have O:=Z e;refine⟨O,?_,E⟩;have:Bz σ.ks d x≠[]:=tE O.LW;grind;omega
end
structure Ir (ks:X') (n:Int) (x y:U'):Prop where
 Bz:∀d z,Bz ks d (x++z)=Bz ks d (y++z)
 MA:BG x=BG y
 vM:Cs x=Cs y
 nn:(∀o∈x,0<=o.n)->∀o∈y,0<=o.n
 pl:(∀o∈x,Db ks o)->∀o∈y,Db ks o
 HA:∀p z,(∀o∈x,0<=o.n)->0<=p->p+BG (x++z)<=n->Cj n p (x++z)->Cj n p (y++z)
theorem HE(x y:U'):BG (x++y)=BG x+BG y:=by
 induction x<;>grind[BG]
theorem Jf(x y:U'):Cs (x++y)=Cs x+Cs y:=by
 induction x<;>grind[Cs]
section
variable {ks:X'}{n:Int}{x y w z:U'}
theorem Ir.refl(x:U'):Ir ks n x x:=⟨I',rfl,rfl,F_,F_,B_⟩
def Ir.trans(h:Ir ks n x y)(h':Ir ks n y z):Ir ks n x z:=
 ⟨λd u=>(h.Bz d u).trans (h'.Bz d u),h.MA.trans h'.MA,h.vM.trans h'.vM,λe=>h'.nn (h.nn e),λe=>h'.pl (h.pl e),(by grind[Ir.HA,Ir.nn,HE,Ir.MA])⟩
theorem Ir.cons(o:Dop)(h:Ir ks n x y):Ir ks n (o::x) (o::y):=by
 refine⟨λd u=>?_,?_,?_,λe=>?_,λe=>?_,λp u e h0 hp j=>?_⟩;grind[Bz,Bz.eq_2];rw[BG,BG,h.MA];rw[Cs,Cs,h.vM];grind[Ir.nn];grind[Ir.pl];have J:∀q∈x,0<=q.n:=B_;have I:=e o E_;rw[aAN,Cj] at j ⊢;grind[BG,Ir.HA]
theorem Ir.pre(w:U')(h:Ir ks n x y):Ir ks n (w++x) (w++y):=by
 induction w<;>grind[Ir.cons]
theorem Ir.K4(h:Ir ks n x y)(w:U'):Ir ks n (x++w) (y++w):=by
 refine⟨λd u=>?_,?_,?_,λe=>?_,λe=>?_,λp u e h0 hp j=>?_⟩;grind[Ir.Bz];rw[HE,HE,h.MA];rw[Jf,Jf,h.vM];grind[Ir.nn];grind[Ir.pl];grind[Ir.HA]
def pB{a b:Int}(ha:0<=a)(hb:0<=b)(p:W_)(r1 r2:V')(j I:V_):Ir ks n [⟨1,a,r1,j,p⟩,⟨1,b,r2,I,p⟩] [⟨1,a+b,r1,j,p⟩]:=by
 have e:(a+b).toNat=a.toNat+b.toNat:=E;refine⟨λd u=>?_,?_,?_,λh q J=>?_,λh q J hk=>?_,λq u h h0 hp N=>?_⟩;grind[Bz,List.drop_drop];simp[BG,e];simp[Cs,e];grind;grind;grind[Cj]
theorem pO{a b:Int}(ha:0<=a)(hb:0<=b)(r1 r2:V')(j J:V_)(I N:W_):Ir ks n [⟨3,a,r1,j,I⟩,⟨3,b,r2,J,N⟩] [⟨3,a+b,r1,j,I⟩]:=by
 have e:(a+b).toNat=a.toNat+b.toNat:=E;refine⟨λd u=>?_,?_,?_,λh q O=>?_,λh q O hk=>?_,λq u h h0 hp Q=>?_⟩;grind[Bz,List.drop_drop];simp[BG,e];simp[Cs];grind;grind;grind[Cj]
theorem rM(r1 r2:V')(s:V_)(I N:Int)(J O:W_):Ir ks n [⟨2,I,r1,s,J⟩,⟨2,N,r2,s,O⟩] [⟨2,I,r1++r2,s,J⟩]:=by
 refine⟨λd u=>?_,?_,?_,λh q j=>?_,λh q j hk Q hb=>?_,λq u h h0 hp U=>?_⟩;grind[Bz];simp[BG];simp[Cs];simp[uN] at j;subst j;exact h ⟨2,I,r1,s,J⟩ E_;simp[uN] at j;subst j;have h1:=h ⟨2,I,r1,s,J⟩ E_ rfl Q;have V:=h ⟨2,N,r2,s,O⟩ E_ rfl Q;grind[List.length_pos_iff];grind[Cj]
def mJ{g:Int}(j:1<=g)(i:Dop)(hi:i.AR=2)(r:V')(s:V_)(q:W_):Ir ks n [⟨3,g,r,s,q⟩,i] [i,⟨3,g,r,s,q⟩]:=by
 refine⟨λd u=>?_,?_,?_,B_,B_,λp u h h0 hp I=>?_⟩;grind[Bz];simp[BG,hi];simp[Cs,hi];grind[Cj,BG]
theorem To(i:U')(b o:Dop):(i++[b]).set ((i++[b]).length-1) o=i++[o]:=by
 rw[Bp,aAw,Nat.add_sub_cancel,aAd _ _ (DN _),aCb];rfl
def Q8(l:U'):l=[]\/∃i b,l=i++[b]:=by
 rcases l9 l with h|⟨i,b,h⟩<;>grind
def ow{c:U'}{m:Int}(p:W_)(hm:0<=m)(hc:∀o∈c,0<=o.n/\o.n+m<=4611686018427387904):Ir ks n (c++[⟨1,m,[],[],p⟩]) (GI c m p):=by
 unfold GI;rcases Q8 c with rfl|⟨i,b,rfl⟩;exact Ir.refl _;rw[lp];simp only[aN,aAK];split;rename_i h;obtain⟨j,I⟩:=hc b E_;rw[To,wrap64 E E];obtain⟨k,bn,br,N,J⟩:=b;obtain⟨rfl,rfl⟩:=h;have:=(pB (ks:=ks) (n:=n) j hm J br [] N []).pre i;grind;exact Ir.refl _
theorem aD(h:FO a)(rs:V')(s:V_):Ir ks n (a++[⟨2,0,rs,s,[]⟩]) (Fu a rs s):=by
 unfold Fu;cases h with
 |nil=>exact Ir.refl _
 |JY i r t h hr j=>
  rw[lp];simp[aN,aAK];grind[To,rM,Ir.pre,Ir.refl]
theorem FO.zero(h:FO a):∀o∈a,o.n=0:=by
 induction h<;>grind
theorem aU{g:Int}(h:FO a)(j:0<=g):∀o∈BS a g,0<=o.n:=by
 grind[BS,FO.zero]
def FF.nns{d:U'}(h:FF d):∀o∈d,0<=o.n:=by
 induction h<;>grind[aU]
def oH{l:U'}(h:∀o∈l,0<=o.n){o:Dop}(j:o∈l):o.n<=Ie l:=by
 induction l with
 |nil=>grind
 |cons q l I=>
  have e:Ie (q::l)=q.n+Ie l:=by simp[Ie]
  have h1:=h q E_;have J:0<=Ie l:=by
   have N:∀o∈l,0<=o.n:=B_;induction l<;>grind[Ie]
  grind
def jq{s:MkS}{t:Int}(h:RV s t){o:Dop}(U:GZ o)(ht:t+o.n<=4611686018427387904):Ir ks n (s.done++BS s.Aq s.Ar++[o]) ((BF s o).done++BS (BF s o).Aq (BF s o).Ar):=by
 obtain⟨done,Aq,Ar⟩:=s;obtain⟨h1,N,O,V⟩:=h;simp only at h1 N O V ⊢;obtain⟨k,m,rs,set,p⟩:=o;have I:∀l:U',BS l 0=l:=by grind[BS]
 have X:=h1.nn;rcases U with⟨rfl,rfl,rfl,k1,k2⟩|⟨rfl,rfl,rfl,rfl,k1,k2⟩|⟨rfl,rfl,rfl,k1⟩;simp only at k1 k2 ht;have e:BF ⟨done,Aq,Ar⟩ ⟨1,m,[],[],p⟩=⟨GI (done++BS Aq Ar) m p,[],0⟩:=by
  grind[BF,FM]
 rw[e];simp only[I,aO];have J:∀q∈done++BS Aq Ar,0<=q.n:=λq j=>by
  rcases K8.1 j with j|j;exact h1.nns q j;exact aU N O q j
 refine ow p E λq j=>⟨J q j,?_⟩;have:=oH J j;rw[Dr,Jr N O] at this;omega;grind[BF,Lv,QH,wrap64,BS,pO,Ir.pre,Ir.refl];have e:BF ⟨done,Aq,Ar⟩ ⟨2,0,rs,set,[]⟩=⟨done,Fu Aq rs set,Ar⟩:=by
  grind[BF,I7]
 rw[e];simp only;by_cases Q:0<Ar;rw[show BS Aq Ar=Aq++[⟨3,Ar,[],[],[]⟩] by unfold BS;rw[Ix Q],show BS (Fu Aq rs set) Ar=Fu Aq rs set++[⟨3,Ar,[],[],[]⟩] by unfold BS;rw[Ix Q],Q0,Q0];apply Ir.trans (((mJ E ⟨2,0,rs,set,[]⟩ rfl [] [] []).pre Aq).pre done);have:=((aD (ks:=ks) (n:=n) N rs set).K4 [⟨3,Ar,[],[],[]⟩]).pre done;grind;grind[aD,Ir.pre]
def nw{x:U'}(h:∀o∈x,GZ o)(hl:x.length<=4294967296):∀k,k<=x.length->Ir ks n (x.take k) ((BE (x.take k)).done++BS (BE (x.take k)).Aq (BE (x.take k)).Ar):=by
 intro k;induction k with
 |zero=>intro _;exact Ir.refl _
 |succ k O=>
  intro hk;have j:k<x.length:=E;have I:∀q∈x.take k,GZ q:=B_;have N:(x.take k).length=k:=B_;have Q:=MI (x.take k) I;have J:=h x[k] (S7 j);have U:=J.nn;have ex:x.take (k+1)=x.take k++[x[k]]:=by grind[List.take_add_one]
  have e:BE (x.take (k+1))=BF (BE (x.take k)) x[k]:=by grind[BE]
  rw[e,ex];refine Ir.trans (by grind[Ir.K4]) (jq (MG (x.take k) I E) J ?_);omega
def nf{a b:U'}(h:∀d,Bz ks d a=Bz ks d b)(w:U'):∀d,Bz ks d (w++a)=Bz ks d (w++b):=by
 induction w<;>grind[Bz]
def fR(c:Cel):CJ ks [] c=c:=by
 obtain⟨r,s⟩:=c;unfold CJ IZ Cg;simp[List.filter_nil];cases s<;>rfl
def nH:∀{w:U'} {p:Int},Cj n p (w++a)->Cj n p w:=by
 intro w;induction w<;>grind[Cj]
def qm{x:U'}(h:∀o∈x,GZ o)(hl:x.length<=4294967296)(ht:(BG x:Int)<=n)(I:Cj n 0 x)(hp:∀o∈x,Db ks o) : (∀d,Bz ks d (BJ x)=Bz ks d x)/\BG (BJ x)<=BG x/\BG x+Cs (BJ x)=BG (BJ x)+Cs x/\Cj n 0 (BJ x)/\∀o∈BJ x,Db ks o:=by
 have E:=nw (ks:=ks) (n:=n) h hl x.length (DN _);rw[WL] at A_;have j:∀o∈x,0<=o.n:=λo J=>(h o J).nn.1;have N:∀d,Bz ks d ((BE x).done++BS (BE x).Aq (BE x).Ar)=Bz ks d x:=λd=>by have:=A_.Bz d [];grind
 have O:Cj n 0 ((BE x).done++BS (BE x).Aq (BE x).Ar):=by
  have:=A_.HA 0 [] j (Int.le_refl _) (by rw[aO];omega) (by rw[aO];exact I);rwa [aO] at this
 have Q:=A_.MA;have U:=A_.vM;have V:=A_.pl hp;unfold BJ Sm;generalize (BE x).done++BS (BE x).Aq (BE x).Ar=c at *;rcases Q8 c with rfl|⟨i,b,rfl⟩;show(∀d,Bz ks d []=Bz ks d x)/\BG []<=BG x/\BG x+Cs []=BG []+Cs x/\Cj n 0 []/\∀o∈([]:U'),Db ks o;grind;unfold FY;rw[lp];simp only[aN,aAK];split;rename_i hb;rw[aAS];refine⟨λd=>?_,?_,?_,nH O,B_⟩;rw[<-N d];have:=nf (ks:=ks) (a:=[]) (b:=[b]) (λd=>?_) i d;grind;rw[Bz,Bz,Ix hb.1,hb.2,Bz,show CJ ks []=id from funext fR,aDV,Nr];grind[HE];grind[HE,BG,Jf,Cs];grind
end
def X4{t e k:Nat}{i:TypeInfo}{R:c_->U_->α->Prop}{a:Option Addr}{n c:Nat}{l:List α}{j q:Nat}(ht:P.underlying t=some (.slice e))(hi:P.info? e=some i)(hk:i.size=k) (h:Al S k R w (.slice a n c) l)(N:j<=q)(X:q<=l.length)(O:∀v',Al S k R w v' ((l.take q).drop j)->K v' w):runK P (Instr.sliceAt t (.slice a n c) (some (zIq j)) (some (zIq q)) none) K w:=by
 obtain⟨Y,Z,Q,h1,h2,U⟩:=h;cases Q;have I:P.elem t=e:=by simp[Program.elem,ht]
 refine⟨sliced a j q c k,w,?_,O _ ?_⟩;rw[aAz _ _ _ _ _ _ (by rw[I];exact ht),run_slice_lh _ _ _ _ _ (by rw[I];exact ht) _ _ _ _ E E E,I];simp[sizeOf,typeInfo,hi,hk];unfold sliced;have hl:((l.take q).drop j).length=q-j:=B_;refine⟨_,_,by rw[hl],E,E,λm x J=>?_⟩;rw[so,aAr] at J;split at J;obtain⟨p,r,rfl,hS,hr,hc,V⟩:=U _ x J;rw[By E];refine⟨p.add (j*k),r,rfl,by grind[Ai],hr,λy u hu=>?_,V⟩;grind[Addr.add_add];grind
theorem El.lt{b:Nat}{s:MkS}(h:El F W b s):El (λx=>F x/\x<W.heap.size) W b s:=by
 obtain⟨dv,Z,C,I,h⟩:=h;have hb:b<W.heap.size:=lA W _ h.c0;refine⟨dv,Z,C,I,h.c0,h.c1,h.c2,h.lv,⟨h.fb,hb⟩,h.nb,λx J=>⟨⟨(h.cf x J).1,(h.cf x J).2⟩,(h.cf x J).2⟩,h.done,λg N=>⟨⟨(h.dF g N).1,(AB.Am h.done g N).2⟩,(h.dF g N).2⟩,?_⟩;rcases h.Aq with h0|⟨g,c,hh,X,e2,Y,e4,e5,e6,e7,e8,e9,O,Q,U,j,V⟩;grind;exact .inr ⟨g,c,hh,X,e2,Y,⟨e4,(AB.Am Y g (by rw[X];rfl)).2⟩,e5,e6,e7,⟨e8,j⟩,e9,O,Q,U,j,V⟩
def HR(c:Cel):Dop:=⟨2,0,[c.r],c.set,[]⟩
def Ow(x:U')(o:Dop):BE (x++[o])=BF (BE x) o:=by grind[BE]
theorem Dw.size(h:Dw ks s):JS s<=64:=by rw[JC];exact h.len
def jh(h:∀c∈d,Dw ks c.set):Av (d.map HR)<=d.length*66:=by
 induction d<;>grind[Av,HR,EN,Dw.size,Jd]
section
variable {w0:c_}{F:d_}{W:c_}{a:TxA}{σ:SKs}{most:Int}{d:Y_}
end
def Tt{x:U'}(hk:∀k∈ks,E9 k)(N:∀o∈x,Is o)(hl:x.length<=4294967296)(h:Ef ks x d.length most=0) : Ef ks (BJ x) d.length most=0/\Bz ks d (BJ x)=Bz ks d x/\(∀o∈BJ x,Is o)/\(BJ x).length<=x.length:=by
 have hF:=(Ca E).1 h;have O:∀o∈x,GZ o:=λo j=>(hF.Eo o j).1.sb (hF.Eo o j).2;obtain⟨J,Q,_,_,U⟩:=mK (λk I=>by have:=(hk k I).1;omega) hF.JX N E;obtain⟨V,X,e3,Y,Z⟩:=qm (ks:=ks) (n:=d.length) O E (by have:=hF.MA;omega) hF.HA hF.pl;refine⟨(Ca E).2 ⟨J,HN J,hF.DA,py X hF.MA,Y,Z,?_⟩,V d,λo j=>(Q o j).1.b,U⟩;have:=hF.most;omega
def KL(s:V_)(k:Int):Option As:=(s.find? λa=>decide (a.key=k)).map (·.val)
def MR(p:W_)(k:Int):Option Chg:=p.find? λc=>decide (c.key=k)
theorem HM{k:Int}(h:∀a∈s,a.key≠k):KL s k=none:=by
 grind[KL]
theorem GX{a:Attr}{k:Int}:KL (a::s) k=if a.key=k then some a.val else KL s k:=by
 grind[KL]
def aH:∀{s t:V_},Dg s->Dg t->(∀k,KL s k=KL t k)->s=t:=by
 intro s;induction s with
 |nil=>
  intro t _ _ h;cases t with
  |nil=>rfl
  |cons b t=>have:=h b.key;rw[GX,Ix rfl] at this;cases this
 |cons a s O=>
  intro t Q ht h;obtain⟨ha,j⟩:=u9.1 Q;cases t with
  |nil=>have:=h a.key;rw[GX,Ix rfl] at this;cases this
  |cons b t=>
   obtain⟨hb,I⟩:=u9.1 ht;have J:=h a.key;have U:=h b.key;rw[GX,GX,Ix rfl] at J;rw[GX,GX,Ix rfl] at U;have hk:b.key=a.key:=by
    grind[HM]
   rw[Ix hk] at J;have V:a.val=b.val:=aAO J;have N:a=b:=by cases a;cases b<;>grind
   subst N;rw[O j I λk=>?_];have:=h k;grind[GX,HM]
def aQ(a b:V_)(k:Int):KL (a++b) k=(KL a k).or (KL b k):=by
 grind[KL]
def oo{c:Chg}{k:Int}(hk:k<c.key):∀{s:V_},Dg s->KL (Jh c s) k=KL s k:=by
 intro s;induction s<;>grind[List.pairwise_cons,Jh,GX,HM]
def iw{c:Chg}{k:Int}(hk:c.key<k):∀{s:V_},KL (E8 c s) k=KL s k:=by
 intro s;induction s<;>grind[E8,GX]
theorem Ip{c:Chg}{p:W_}{k:Int}:MR (c::p) k=if c.key=k then some c else MR p k:=by
 grind[MR]
theorem HV{p:W_}{k:Int}(h:∀c∈p,c.key≠k):MR p k=none:=by
 grind[MR]
def rC{c:Chg}{k:Int}:KL (O0 c) k=if c.key=k then(if c.Ar then none else some c.val) else none:=by
 grind[O0,KL]
def LD:∀{p:W_} {s:V_},Dg s->EA p->∀k,KL (CF s p) k=match MR p k with|some c=>if c.Ar then none else some c.val|none=>KL s k:=by
 intro p;induction p with
 |nil=>intro s _ _ k;rfl
 |cons c p N=>
  intro s I hp k;obtain⟨hc,J⟩:=u9.1 hp;rw[CF,aQ,aQ,N (Tl I) J,Ip,rC];rcases Int.lt_trichotomy k c.key with h|h|h;rw[oo h I,By E,By E,HV λx j=>by have:=hc x j;omega];simp only[aDZ];rw[HM (s:=E8 c s) λx j=>by have:=RM I j;omega,aDZ];subst h;rw[HM (s:=Jh c s) λx j=>by have:=(Jv j).2;omega,Ix rfl,Ix rfl,HV λx j=>by have:=hc x j;omega];simp only[Option.none_or];rw[HM (s:=E8 c s) λx j=>by have:=RM I j;omega,aDZ];rw[HM (s:=Jh c s) λx j=>by have:=(Jv j).2;omega,By E,By E,iw h];grind
def ON(s:V_)(c:Chg):Option Chg:=match KL s c.key with|some v=>if c.Ar=true\/v≠c.val then some ⟨c.key,false,v⟩ else none|none=>if c.Ar then none else some ⟨c.key,true,As.zero⟩
def Fw(s:V_)(p:W_):W_:=p.filterMap (ON s)
theorem Nb{c j:Chg}(h:ON s c=some j):j.key=c.key:=by
 grind[ON]
def Qt{p:W_}(h:EA p):EA (Fw s p):=by
 grind[Fw,Nb]
def qK{k:Int}:∀{p:W_},EA p->MR (Fw s p) k=(MR p k).bind (ON s):=by
 intro p;induction p with
 |nil=>intro _;rfl
 |cons c p I=>
  intro h;obtain⟨hc,hp⟩:=u9.1 h;have e:Fw s (c::p)=match ON s c with|some j=>j::Fw s p|none=>Fw s p:=by
   grind[Fw]
  rw[e,Ip];grind[MR,Nb]
def qD{p:W_}{k:Int}{c:Chg}(h:MR p k=some c):c.key=k:=by
 have:=aDK h;simpa using this
theorem qI{p:W_}(j:Dg s)(hp:EA p):CF (CF s p) (Fw s p)=s:=by
 refine aH (FZ (FZ j hp) (Qt hp)) j λk=>?_;rw[LD (FZ j hp) (Qt hp),qK hp,LD j hp];cases hl:MR p k<;>grind[MR,ON]
def Nv(ks:X')(c:Cel):Prop:=DZ c.r/\∀a∈c.set,LJ ks (decide (c.r=10)) a=true
def NZ(ks:X')(p:W_)(c:Cel):Dop:=⟨1,1,[],[],Fw c.set (Cg ks (decide (c.r=10)) p)⟩
def EY(ks:X'):Y_->U'->U'
 |_,[]=>[]
 |d,o::x=>if o.AR=2 then⟨3,o.AZ.length,[],[],[]⟩::EY ks d x else(d.take o.n.toNat).map (if o.AR=3 then HR else NZ ks o.AU)++EY ks (d.drop o.n.toNat) x
section
variable {ks:X'}
theorem dK{b:Bool}{p:W_}:Cg ks b (Fw s (Cg ks b p))=Fw s (Cg ks b p):=by
 grind[Fw,Cg,Nb,List.filter_eq_self]
theorem mQ{p:W_}{c:Cel}(j:Dg c.set)(hp:EA p):CJ ks (NZ ks p c).AU (CJ ks p c)=c:=by
 obtain⟨r,s⟩:=c;show(⟨r,CF (CF s (Cg ks (decide (r=10)) p)) (Cg ks (decide (r=10)) (Fw s (Cg ks (decide (r=10)) p)))⟩:Cel)=⟨r,s⟩;grind[Cg,dK,qI]
def qM(l e:Y_)(y:U'):Bz ks e (l.map HR++y)=l++Bz ks e y:=by
 induction l with
 |nil=>rfl
 |cons c l j=>
  rw[aAR,aAN,Bz,By (show ¬(HR c).AR=1 from(by decide:¬(2:Int)=1)),Ix (show(HR c).AR=2 from rfl),j];rfl
def oJ{p:W_}(hp:EA p)(l:Y_)(hl:∀c∈l,Dg c.set)(e:Y_)(y:U'):Bz ks (l.map (CJ ks p)++e) (l.map (NZ ks p)++y)=l++Bz ks e y:=by
 induction l with
 |nil=>rfl
 |cons c l j=>
  rw[aAR,aAR,aAN,aAN,Bz,Ix (show(NZ ks p c).AR=1 from rfl)];show[CJ ks (NZ ks p c).AU (CJ ks p c)]++Bz ks (l.map (CJ ks p)++e) (l.map (NZ ks p)++y)=_;grind[mQ]
theorem pW(l:Y_):BG (l.map HR)=0/\Cs (l.map HR)=l.length:=by
 induction l with
 |nil=>exact⟨rfl,rfl⟩
 |cons c l j=>
  rw[aAR,BG,Cs,j.1,j.2];exact⟨rfl,by show 1+l.length=l.length+1;omega⟩
theorem qy(p:W_)(l:Y_):BG (l.map (NZ ks p))=l.length/\Cs (l.map (NZ ks p))=l.length:=by
 induction l with
 |nil=>exact⟨rfl,rfl⟩
 |cons c l j=>
  rw[aAR,BG,Cs,j.1,j.2];exact⟨by show 1+l.length=l.length+1;omega,by show 1+l.length=l.length+1;omega⟩
def Ph{o:Dop}{x:U'}(k:o.AR=1):BG (o::x)=o.n.toNat+BG x/\Cs (o::x)=o.n.toNat+Cs x/\EY ks d (o::x)=(d.take o.n.toNat).map (NZ ks o.AU)++EY ks (d.drop o.n.toNat) x/\Bz ks d (o::x)=(d.take o.n.toNat).map (CJ ks o.AU)++Bz ks (d.drop o.n.toNat) x:=
 (by grind[BG,Cs,EY,Bz])
def Pg{o:Dop}{x:U'}(k:o.AR=3):BG (o::x)=o.n.toNat+BG x/\Cs (o::x)=Cs x/\EY ks d (o::x)=(d.take o.n.toNat).map HR++EY ks (d.drop o.n.toNat) x/\Bz ks d (o::x)=Bz ks (d.drop o.n.toNat) x:=
 ⟨by grind[BG],by grind[Cs],by grind[EY],by grind[Bz]⟩
def Px{o:Dop}{x:U'}(k:o.AR=2):BG (o::x)=BG x/\Cs (o::x)=o.AZ.length+Cs x/\EY ks d (o::x)=⟨3,o.AZ.length,[],[],[]⟩::EY ks d x/\Bz ks d (o::x)=o.AZ.map (λr=>(⟨r,o.set⟩:Cel))++Bz ks d x:=
 ⟨by grind[BG],by grind[Cs],by rw[EY,Ix k],by grind[Bz]⟩
def vf:∀{x:U'} {d:Y_},(∀o∈x,An ks o)->BG x<=d.length->BG (EY ks d x)=Cs x/\Cs (EY ks d x)=BG x/\(EY ks d x).length<=x.length+BG x:=by
 intro x;induction x with
 |nil=>intro d _ _;exact⟨rfl,rfl,DN _⟩
 |cons o x J=>
  intro d N ht;have j:∀o∈x,An ks o:=λo U=>N o (by simp[U]);rcases N o E_ with⟨k,_,_,V,_⟩|⟨k,_,_,_,V⟩|⟨k,_⟩;obtain⟨I,O,Q,_⟩:=Ph (ks:=ks) (x:=x) (d:=d) k;rw[I] at ht;obtain⟨X,Y,Z⟩:=J j (d:=d.drop o.n.toNat) (by rw[I3];omega);grind[qy,HE,Jf];obtain⟨I,O,Q,_⟩:=Pg (ks:=ks) (x:=x) (d:=d) k;rw[I] at ht;obtain⟨X,Y,Z⟩:=J j (d:=d.drop o.n.toNat) (by rw[I3];omega);grind[pW,HE,Jf];obtain⟨I,O,Q,_⟩:=Px (ks:=ks) (x:=x) (d:=d) k;grind[BG,Cs]
def uh:∀{x:U'} {d:Y_},(∀o∈x,An ks o)->(∀c∈d,Dg c.set)->BG x<=d.length->Bz ks (Bz ks d x) (EY ks d x)=d:=by
 intro x;induction x with
 |nil=>intro d _ _ _;rfl
 |cons o x O=>
  intro d Q U ht;have j:∀o∈x,An ks o:=λo V=>Q o (by simp[V]);rcases Q o E_ with⟨k,_,_,X,hp⟩|⟨k,_,_,_,X⟩|⟨k,_⟩;obtain⟨I,_,J,N⟩:=Ph (ks:=ks) (x:=x) (d:=d) k;rw[I] at ht;rw[N,J,oJ hp.1 _ B_,O j (λc hc=>U c (oy hc)) (by rw[I3];omega),Nr];obtain⟨I,_,J,N⟩:=Pg (ks:=ks) (x:=x) (d:=d) k;rw[I] at ht;rw[N,J,qM,O j (λc hc=>U c (oy hc)) (by rw[I3];omega),Nr];obtain⟨I,_,J,N⟩:=Px (ks:=ks) (x:=x) (d:=d) k;rw[I] at ht;rw[N,J,Bz,By (show ¬(3:Int)=1 by decide),By (show ¬(3:Int)=2 by decide)];grind[Int.toNat_natCast]
def Uq{n:Nat}:∀{x:U'} {d:Y_},(∀o∈x,An ks o)->BG x<=d.length->0<d.length->Cj n ((n:Int)-d.length) x->0<(Bz ks d x).length:=by
 intro x;induction x with
 |nil=>intro d _ _ h _;exact h
 |cons o x U=>
  intro d j ht V I;have J:∀o∈x,An ks o:=λo N=>j o (by simp[N]);rw[Cj] at I;rcases j o E_ with⟨k,_,_,O,_⟩|⟨k,_,_,_,O⟩|⟨k,_,_,_,hr,_⟩;rw[(Ph k).2.2.2,Bp,Nn,S5];omega;obtain⟨Q,_,_,X⟩:=Pg (ks:=ks) (x:=x) (d:=d) k;rw[Q] at ht;rw[By E,Ix k] at I;grind;rw[(Px k).2.2.2,Bp,Nn];grind[List.length_pos_iff]
theorem rm{m:Int}{p:Int}(hp:p≠m)(l:Y_){y:U'}(h:Cj m p y):Cj m p (l.map HR++y):=by
 induction l<;>grind[Cj,HR]
def oO{m:Int}(l:Y_){y:U'}:∀{p:Int},Cj m (p+l.length) y->Cj m p (l.map (NZ ks q)++y):=by
 induction l with
 |nil=>grind
 |cons c l j=>
  grind[Cj,NZ]
def oT{n m:Nat}:∀{x:U'} {d:Y_},(∀o∈x,An ks o)->BG x<=d.length->Cj n ((n:Int)-d.length) x->Cj m ((m:Int)-(Bz ks d x).length) (EY ks d x):=by
 intro x;induction x with
 |nil=>intro d _ _ _;trivial
 |cons o x X=>
  intro d Y ht I;have j:∀o∈x,An ks o:=λo Z=>Y o (by simp[Z]);rw[Cj] at I;rcases Y o E_ with⟨k,_,_,n1,_⟩|⟨k,_,_,_,n1⟩|⟨k,_,_,_,hr,_⟩;obtain⟨J,_,U,V⟩:=Ph (ks:=ks) (x:=x) (d:=d) k;rw[J] at ht;rw[By E,By E] at I;have hi:=X j (d:=d.drop o.n.toNat) (by rw[I3];omega) (by rw[I3,show(n:Int)-((d.length-o.n.toNat:Nat):Int)=(n:Int)-d.length+o.n by omega];exact I);rw[V,U];apply oO _;rw[Bp,Nn,S5];grind;obtain⟨J,_,U,V⟩:=Pg (ks:=ks) (x:=x) (d:=d) k;rw[J] at ht;rw[By E,Ix k] at I;have N:Cj n ((n:Int)-(d.drop o.n.toNat).length) x:=B_;have O:BG x<=(d.drop o.n.toNat).length:=B_;have hi:=X j (d:=d.drop o.n.toNat) O N;have Q:=Uq j O B_ N;grind[rm];obtain⟨J,_,U,V⟩:=Px (ks:=ks) (x:=x) (d:=d) k;rw[J] at ht;rw[Ix k] at I;have hi:=X j ht I.2;have Q:=Uq j ht E I.2;rw[V,U,Cj,By (show ¬(3:Int)=2 by decide),Ix rfl,Bp,Nn];grind
def qR{k:Int}{v:As}(h:KL s k=some v):∃a∈s,a.key=k/\a.val=v:=by
 grind[KL,Option.map_eq_some_iff]
def pd{p:W_}(I:Dw ks s)(hp:Kw ks p):EX ks (Fw s p)/\∀c∈Fw s p,c.key<=9223372036854775807/\Ev c.val:=by
 have key:∀c∈Fw s p,((c.Ar=true->c.val=As.zero)/\(c.Ar=false->EC c.val/\I8 ks c.key c.val)/\BW ks c.key≠none)/\c.key<=9223372036854775807/\Ev c.val:=by
  intro c hc;obtain⟨J,h1,j⟩:=List.mem_filterMap.1 hc;have hk:=Nb j;have V:=(hp.1.2.2 J h1).2.2;have hb:=(hp.2 J h1).1.2;unfold ON at j;split at j;rename_i v O;obtain⟨a,ha,Q,ev⟩:=qR O;split at j;cases j;have U:=I.1.2.2 a ha;have N:=I.2 a ha;rw[Q,ev] at U;exact⟨B_,hb,by rw[<-ev];exact⟨N.2.2.1,N.2.2.2.1⟩⟩;grind;split at j;grind;cases j;exact⟨B_,hb,(by decide:(-9223372036854775808:Int)<=0/\(0:Int)<=9223372036854775807),(by decide:(0:Int)<=0/\(0:Int)<18446744073709551616)⟩
 exact⟨⟨Qt hp.1.1,py (aC7 _ _) hp.1.2.1,B_⟩,B_⟩
def XV{p:W_}(h:EX ks p):Jd p<=64:=by rw[Kf];exact h.2.1
theorem gz{l:U'}(h:∀o∈l,EN o<=66):Av l<=l.length*66:=by
 induction l<;>grind[Av]
def WD{b:Bool}{a:Attr}(h:LJ ks b a=true):LJ ks (!b) a=false:=by
 unfold LJ at h ⊢;split<;>grind
def TX{c:Cel}(h:Nv ks c):Db ks (HR c):=by
 intro _ J I;have j:=h.2;by_cases e:c.r=10;rw[ys e] at j;show(EM ks true c.set).length=c.set.length/\CX [c.r]=1;grind[EM,List.filter_eq_self];rw[zk e] at j;exfalso;have O:EM ks true c.set=[]:=aBY.2 λa ha=>by rw[show LJ ks true a=false from WD (j a ha)];decide
 have Q:CX [c.r]=0:=B_;rcases I with h|h;have N:0<(EM ks true c.set).length:=h;grind;have N:0<CX [c.r]:=h;omega
def qf:∀{x:U'} {d:Y_},(∀o∈x,An ks o/\Ah o<=536870912)->(∀o∈x,Kw ks o.AU)->(∀c∈d,Dw ks c.set/\Nv ks c)->∀o∈EY ks d x,(An ks o/\Ah o<=536870912)/\Is o/\Db ks o/\EN o<=66:=by
 intro x;induction x with
 |nil=>intro d _ _ _ o V;cases V
 |cons o x N=>
  intro d X hp O;have I:∀o∈x,An ks o/\Ah o<=536870912:=B_;have J:∀o∈x,Kw ks o.AU:=B_;obtain⟨Q,Y⟩:=X o E_;intro q j;rcases Q with⟨k,_,_,Z,_⟩|⟨k,_,_,_,Z⟩|⟨k,_,_,_,hr,_⟩;rw[(Ph k).2.2.1] at j;rcases K8.1 j with j|j;obtain⟨c,hc,rfl⟩:=WJ.1 j;obtain⟨U,p2⟩:=pd (O c (zF hc)).1 ((hp o E_).part (decide (c.r=10)));exact⟨⟨.inl ⟨rfl,rfl,rfl,Int.le_refl 1,U⟩,by show(1:Nat)<=_;decide⟩,⟨λa ha=>(nomatch ha),p2⟩,λe=>absurd e (show ¬(1:Int)=2 by decide),by have:=XV U;show 1+0+0+Jd (Fw c.set (Cg ks (decide (c.r=10)) o.AU))<=_;omega⟩;exact N I J B_ q j;rw[(Pg k).2.2.1] at j;rcases K8.1 j with j|j;obtain⟨c,hc,rfl⟩:=WJ.1 j;obtain⟨c1,c2⟩:=O c (zF hc);exact⟨⟨.inr (.inr ⟨rfl,λr hr=>by rw[uN.1 hr];exact c2.1,rfl,rfl,by simp[HR],c1.1⟩),by show(1:Nat)<=_;decide⟩,⟨λa ha=>⟨(c1.2 a ha).1.2,(c1.2 a ha).2.2.1,(c1.2 a ha).2.2.2.1⟩,λc hc=>(nomatch hc)⟩,TX c2,by have:=c1.size;show 1+1+JS c.set+0<=_;omega⟩;exact N I J B_ q j;rw[(Px k).2.2.1] at j;rcases S6.1 j with rfl|j;have h1:=aAH.2 hr;have h2:o.AZ.length<=536870912:=by grind[Ah]
  refine⟨⟨.inr (.inl ⟨rfl,rfl,rfl,rfl,by show(1:Int)<=(o.AZ.length:Int);omega⟩),?_⟩,⟨λa ha=>(nomatch ha),λc hc=>(nomatch hc)⟩,λe=>absurd e (show ¬(3:Int)=2 by decide),by show 1+0+0+0<=_;decide⟩;show((o.AZ.length:Int)).toNat<=_;omega;exact N I J O q j
def mR{P:Cel->Prop}:∀{x:U'} {d:Y_},(∀o∈x,An ks o/\(o.AR=1->∀c,P c->P (CJ ks o.AU c))/\(o.AR=2->∀r∈o.AZ,P ⟨r,o.set⟩))->(∀c∈d,P c)->∀c∈Bz ks d x,P c:=by
 intro x;induction x with
 |nil=>intro d _ h;exact h
 |cons o x J=>
  intro d Q I c hc;have j:=λo U=>Q o (aAi _ U);obtain⟨N,h1,V⟩:=Q o E_;rcases N with⟨k,_⟩|⟨k,_⟩|⟨k,_⟩;rw[(Ph k).2.2.2] at hc;rcases K8.1 hc with hc|hc;obtain⟨c0,h0,rfl⟩:=WJ.1 hc;exact h1 k c0 (I c0 (zF h0));exact J j (λc hc=>I c (oy hc)) c hc;rw[(Pg k).2.2.2] at hc;exact J j (λc hc=>I c (oy hc)) c hc;rw[(Px k).2.2.2] at hc;rcases K8.1 hc with hc|hc;obtain⟨r,O,rfl⟩:=WJ.1 hc;exact V k r O;exact J j I c hc
theorem TP{p:W_}{c:Cel}(h:Nv ks c):Nv ks (CJ ks p c):=by
 refine⟨h.1,λa ha=>?_⟩;rcases KA ha with ha|⟨e,he,_,rfl⟩;exact h.2 a ha;exact(aAb.1 he).2
theorem aJ{o:Dop}{r:Int}(I:An ks o)(k:o.AR=2)(hp:Db ks o)(hr:r∈o.AZ):Nv ks ⟨r,o.set⟩:=by
 rcases I with⟨J,_⟩|⟨J,_⟩|⟨_,hm,_,_,_,N⟩;omega;omega;have e:=r9 Cel.set (List.map_inj_left.1 (Pe k N hp) r hr);refine⟨hm r hr,λa ha=>?_⟩;have j:=ha;rw[<-e] at j;exact(aAb.1 j).2
def Z7{x:U'}(h:∀o∈x,An ks o/\Db ks o):(∀c∈d,Nv ks c)->∀c∈Bz ks d x,Nv ks c:=
 mR (by grind[TP,aJ])
def vP{x:U'}(h:∀o∈x,An ks o):(∀c∈d,Dg c.set)->∀c∈Bz ks d x,Dg c.set:=by
 refine mR λo j=>⟨h o j,λk c hc=>?_,λk _ _=>?_⟩;rcases h o j with⟨_,_,_,_,hp⟩|⟨I,_⟩|⟨I,_⟩;exact FZ hc (hp.1.filter _);omega;omega;rcases h o j with⟨I,_⟩|⟨I,_⟩|⟨_,_,_,_,_,J⟩;omega;omega;exact J.1
def Vx{x:U'}(Q:∀k∈ks,E9 k)(U:∀o∈x,Is o)(hl:x.length<=1073741824)(hG:Ig ks d)(hS:∀c∈d,Nv ks c)(V:most<=536870912)(h:Ef ks x d.length most=0) : Ef ks (BJ (EY ks d x)) (Bz ks d x).length most=0/\Bz ks (Bz ks d x) (BJ (EY ks d x))=d/\(∀o∈BJ (EY ks d x),Is o)/\(BJ (EY ks d x)).length<=x.length+d.length/\Av (EY ks d x)<=137438953472:=by
 have hF:=(Ca E).1 h;have j:∀o∈x,An ks o:=λo I=>(hF.Eo o I).1;have hp:∀o∈x,Kw ks o.AU:=λo I=>(opG Q (j o I) ⟨λa ha=>((U o I).1 a ha).2,λc hc=>((U o I).2 c hc).2⟩).2;have J:=qf (d:=d) hF.Eo hp (by grind[Ig.set]);obtain⟨t1,t2,t3⟩:=vf j hF.MA;have X:=KX j hF.MA;have N:=hF.most;have Y:=hF.DA;have Z:=hF.MA;have a1:=Uq (n:=d.length) j hF.MA E (by rw[Int.sub_self];exact hF.HA);have a6:(EY ks d x).length<=x.length+d.length:=E;obtain⟨s1,s2⟩:=LX (λo I=>(J o I).1) E;have O:Ef ks (EY ks d x) (Bz ks d x).length most=0:=by
  refine(Ca E).2 ⟨(by grind[Ov]),B_,E,E,?_,B_,E⟩;have:=oT (n:=d.length) (m:=(Bz ks d x).length) j hF.MA (by grind[Ii.HA]);grind
 obtain⟨n1,n2,n3,n4⟩:=Tt Q (λo I=>(J o I).2.1) E O;exact⟨n1,by rw[n2];exact uh j (λc hc=>(hG.set c hc).1.1) hF.MA,n3,E,by grind[gz]⟩
end
def Yg{f:Chg->Bool}{g:Int->Bool}(h:∀c:Chg,f c=g c.key)(p:W_)(k:Int):MR (p.filter f) k=if g k then MR p k else none:=by
 grind[MR]
def RO(ks:X')(b:Bool)(p:W_)(k:Int):MR (Cg ks b p) k=if(match BW ks k with|some x=>decide (x.block=b)|none=>false) then MR p k else none:=
 Yg (g:=λk=>match BW ks k with|some x=>decide (x.block=b)|none=>false) I' p k
def EA.filter{p:W_}(h:EA p)(f:Chg->Bool):EA (p.filter f):=aCD f h
def One(o:Dop):Prop:=(o.AR=2/\∃r,o.AZ=[r])\/((o.AR=1\/o.AR=3)/\o.n=1)
def xS(p:W_):Dop:=⟨1,1,[],[],p⟩
section
variable {ks:X'}{f:Bool}
def au(p:W_)(c:Cel)(d:Y_)(x:U'):Bz ks (c::d) (xS p::x)=CJ ks p c::Bz ks d x:=rfl
def Ng{u:Dop}(h1:u.AR=1)(j:u.n=1)(c:Cel)(d:Y_)(x:U'):Bz ks (c::d) (u::x)=CJ ks u.AU c::Bz ks d x:=by
 rw[Bz,Ix h1,j];rfl
def Il{u:Dop}(h1:u.AR=3)(j:u.n=1)(c:Cel)(d:Y_)(x:U'):Bz ks (c::d) (u::x)=Bz ks d x:=by
 rw[Bz,By E,By E,j];rfl
def N2{u:Dop}{r:Int}(h1:u.AR=2)(hr:u.AZ=[r])(d:Y_)(x:U'):Bz ks d (u::x)=⟨r,u.set⟩::Bz ks d x:=by
 grind[Bz]
def Rh(d:Y_):Bz ks d []=d:=by cases d<;>rfl
end
section
variable {f:Bool}
theorem jE{o:Dop}(h:o.AR≠2):DF o=List.replicate (Ah o) ⟨o.AR,1,[],o.set,o.AU⟩:=by
 grind[DF,Ah]
end
section
variable {ks:X'}{f:Bool}
theorem jj(p:W_)(s:V_):∀(n:Nat) (d:Y_) (x:U'),Bz ks d (List.replicate n ⟨1,1,[],s,p⟩++x)=(d.take n).map (CJ ks p)++Bz ks (d.drop n) x:=by
 intro n;induction n with
 |zero=>grind
 |succ n j=>
  intro d x;rw[aCs,aAN,Bz,Ix rfl];cases d<;>grind
theorem mq(p:W_)(s:V_):∀(n:Nat) (d:Y_) (x:U'),Bz ks d (List.replicate n ⟨3,1,[],s,p⟩++x)=Bz ks (d.drop n) x:=by
 intro n;induction n<;>grind[Bz,List.drop_drop]
def jC(s:V_)(p:W_):∀(rs:V') (d:Y_) (x:U'),Bz ks d (rs.map (λr=>(⟨2,0,[r],s,p⟩:Dop))++x)=rs.map (λr=>(⟨r,s⟩:Cel))++Bz ks d x:=by
 intro rs;induction rs with
 |nil=>grind
 |cons r rs j=>
  grind[Bz]
theorem kp{o:Dop}(h:Pf o)(d:Y_)(x:U'):Bz ks d (DF o++x)=Bz ks d (o::x):=by
 obtain⟨k,n,rs,s,p⟩:=o;rcases h.k with hk|hk|hk<;>simp only at hk<;>subst hk;grind[DF,jj,Bz];simp only[DF,aAh,jC,Bz,show ¬(2:Int)=1 by decide,aAW];grind[DF,mq,Bz]
def Tq:∀(x:U') (d:Y_),(∀o∈x,Pf o)->Bz ks d (CB x)=Bz ks d x:=by
 intro x;induction x with
 |nil=>intro d _;rfl
 |cons o x j=>
  grind[Fq,kp,Bz]
theorem jB{o:Dop}(h:Pf o)(x:U'):BG (DF o++x)=BG (o::x)/\Cs (DF o++x)=Cs (o::x):=by
 obtain⟨k,n,rs,s,p⟩:=o;have nN:∀(k:Int),k≠2->∀(n:Nat),BG (List.replicate n (⟨k,1,[],s,p⟩:Dop))=n/\Cs (List.replicate n (⟨k,1,[],s,p⟩:Dop))=if k=3 then 0 else n:=by
  intro k hk n;induction n<;>grind[BG,Cs]
 have Aq:∀(rs:V'),BG (rs.map λr=>(⟨2,0,[r],s,p⟩:Dop))=0/\Cs (rs.map λr=>(⟨2,0,[r],s,p⟩:Dop))=rs.length:=by
  intro rs;induction rs with
  |nil=>exact⟨rfl,rfl⟩
  |cons r rs j=>
   grind[BG,Cs]
 grind[HE,Jf,DF,BG,Cs]
def dA:∀(x:U'),(∀o∈x,Pf o)->BG (CB x)=BG x/\Cs (CB x)=Cs x:=by
 intro x;induction x with
 |nil=>intro _;exact⟨rfl,rfl⟩
 |cons o x j=>
  grind[jB,CB,BG,Cs]
def IF:Nat->U'->Prop
 |_,[]=>True
 |m,o::x=>if o.AR=2 then m≠0/\IF m x else if o.AR=3 then m≠1/\IF (m-1) x else IF (m-1) x
def aL{n:Int}:∀{x:U'} {m:Nat},(∀o∈x,One o)->BG x<=m->(Cj n (n-m) x↔IF m x):=by
 intro x;induction x with
 |nil=>intro m _ _;exact aCU
 |cons o x J=>
  intro m h ht;have j:=h o E_;have N:∀y∈x,One y:=B_;rw[Cj,IF];rcases j with⟨k,_⟩|⟨k,I⟩;grind[BG];have k2:¬o.AR=2:=E;rw[BG,By k2,I] at ht;grind
def Eu(x:U')(m:Nat):Nat:=m-BG x+Cs x
def vK{o:Dop}(h:One o)(x:U')(m:Nat)(ht:BG (o::x)<=m) : (o.AR=2->BG (o::x)=BG x/\Eu (o::x) m=Eu x m+1)/\(o.AR=3->BG (o::x)=BG x+1/\Eu (o::x) m=Eu x (m-1))/\(o.AR=1->BG (o::x)=BG x+1/\Eu (o::x) m=Eu x (m-1)+1):=by
 have h1:(1:Int).toNat=1:=rfl;unfold Eu;rcases h with⟨k,r,hr⟩|⟨k,j⟩;grind[BG,Cs];grind[BG,Cs]
end
section
variable {ks:X'}{f:Bool}{n:Int}
theorem dI(s:V_)(q:W_){y:U'}:∀(k:Nat) {p:Int},Cj n (p+k) y->p+k<=n->(1<=k->p+k≠n)->Cj n p (List.replicate k ⟨3,1,[],s,q⟩++y):=by
 intro k;induction k<;>grind[Cj]
theorem cW(s:V_)(q:W_){y:U'}:∀(k:Nat) {p:Int},Cj n (p+k) y->Cj n p (List.replicate k ⟨1,1,[],s,q⟩++y):=by
 intro k;induction k<;>grind[Cj]
def fH(s:V_)(q:W_){y:U'}{p:Int}(hp:p≠n)(h:Cj n p y):∀(rs:V'),Cj n p (rs.map (λr=>(⟨2,0,[r],s,q⟩:Dop))++y):=by
 intro rs;induction rs<;>grind[Cj]
def Y7:∀{x:U'} {p:Int},(∀o∈x,Pf o)->p+BG x<=n->Cj n p x->Cj n p (CB x):=by
 intro x;induction x with
 |nil=>intro p _ _ h;exact h
 |cons o x N=>
  intro p h ht j;have J:=h o E_;have O:∀y∈x,Pf y:=B_;have I:=J.DA;rw[Fq];rw[Cj] at j;rw[BG] at ht;by_cases k2:o.AR=2;rw[Ix k2] at j ht;have e:DF o=o.AZ.map λr=>⟨2,0,[r],o.set,o.AU⟩:=by grind[DF]
  rw[e];exact fH _ _ j.1 B_ _;grind[Ah,jE,dI,Pf.k,cW]
def Y5{o u:Dop}(h:Db ks o)(hu:u∈DF o):Db ks u:=by
 obtain ⟨k1,k2,J⟩:=Gl hu;intro hk I hp;have j:o.AR=2:=E;rw [k2] at I hp ⊢;unfold DF at hu;rw [Ix j] at hu;obtain ⟨r,hr,rfl⟩:=WJ.1 hu;have h1:CX [r]=if r=10 then 1 else 0:=B_;have hc:r=10->0 < CX o.AZ:=B_;have N:=h j I (by
  grind)
 grind[List.count_eq_length]
end
section
variable {ks:X'}{f:Bool}
def Ii.Sc{x:U'}{n:Nat}{m:Int}(h:Ii ks x n m):∀o∈x,Pf o:=λo j=>(h.Eo o j).1.Sc (h.Eo o j).2
theorem lD{o:Dop}(h:An ks o)(h1:Ah o=1):One o/\EA o.AU:=by
 rcases h with⟨k,_,_,j,hp⟩|⟨k,_,_,hp,j⟩|⟨k,_,_,hp,_⟩;refine⟨.inr ⟨.inl k,?_⟩,hp.1⟩;grind[Ah];refine⟨.inr ⟨.inr k,?_⟩,by rw[hp];exact List.Pairwise.nil⟩;grind[Ah];refine⟨.inl ⟨k,?_⟩,by rw[hp];exact List.Pairwise.nil⟩;grind[Ah,List.length_eq_one_iff]
structure TL (ks:X') (x X:U') (n:Nat):Prop where
 one:∀o∈X,One o/\EA o.AU
 Eo:∀o∈X,An ks o
 MA:BG X<=n
 HA:IF n X
 pl:∀o∈X,Db ks o
 len:X.length=BB x
 vM:Eu X n=n-BG x+Cs x
theorem Ii.DF{x:U'}{n:Nat}{m:Int}(h:Ii ks x n m):TL ks x (CB x) n:=by
 have I:=M0 (ks:=ks) λo j=>(h.Eo o j).1;obtain⟨J,O⟩:=dA x h.Sc;have h1:∀o∈CB x,One o/\EA o.AU:=λo j=>lD (I o j).1 (I o j).2;have ht:BG (CB x)<=n:=by rw[J];exact h.MA
 have N:=Y7 (n:=n) (p:=0) h.Sc (by have:=h.MA;omega) h.HA;refine⟨h1,λo j=>(I o j).1,ht,?_,λu hu=>?_,T8 x,by grind[Eu]⟩;have:=(aL (n:=n) (m:=n) B_ ht).1;rw[Int.sub_self] at this;exact this N;obtain⟨o,j,hu⟩:=aCJ.1 hu;exact Y5 (h.pl o j) hu
end
def xJ{o:Dop}(h:Pf o)(hk:o.AR≠2):o.n=(Ah o:Nat)/\1<=o.n:=by
 grind[Pf.DA,Ah]
theorem UQ(o:Dop):Eh 0 o=o:=by
 obtain⟨k,n,rs,s,p⟩:=o;grind[Eh]
def XD(a c:Nat)(o:Dop):Eh c (Eh a o)=Eh (a+c) o:=by
 grind[Eh,List.drop_drop]
def JR(x:U')(d:Nat):U':=match x with
 |[]=>[]
 |o::r=>Eh d o::r
structure Wb (S D:d_) (W:c_) (b:Nat) (sv:b_) (x:U') (d:Nat):Prop where
 c0:W.cell? ⟨b,0,none⟩=some sv
 c1:W.cell? ⟨b,1,none⟩=some (zIq d)
 Cq:∀j,j<2->Bg W ⟨b,j,none⟩
 rd:Ag S D W sv x
 lt:∀y,S y\/D y->y<b
 Sc:∀o∈x,Pf o
def NU(S D:d_)(W:c_)(b:Nat)(u:U'):Prop:=∃sv x d,Wb S D W b sv x d/\(∀o r,x=o::r->d<Ah o)/\u=JR x d
def iN:U'->Int
 |[]=>1
 |o::_=>o.AR
def OO:U'->Nat
 |[]=>536870912
 |o::_=>Ah o
def Th:OO []=536870912:=rfl
def NS{o:Dop}{x:U'}:OO (o::x)=Ah o:=rfl
def Fx(W:c_)(b:Nat):Nat:=match W.cell? ⟨b,0,none⟩,W.cell? ⟨b,1,none⟩ with
 |some (.slice _ n _),some (.int _ d)=>n*2147483648-d.toNat
 |_,_=>0
section
variable {S D M:d_}{W W':c_}{b d:Nat}{sv:b_}{x u:U'}
def Wb.Fx(h:Wb S D W b sv x d):Fx W b=x.length*2147483648-d:=by
 obtain⟨a,c,rfl,_⟩:=h.rd.AK;unfold Fx;rw[h.c0,h.c1];simp
def NU.DT(h:NU S D W b u)(m:AF M W W')(hb:¬M b):Fx W' b=Fx W b:=by
 obtain⟨sv,x,d,h1,_⟩:=h;unfold Fx;rw[m.cell h1.c0 hb,m.cell h1.c1 hb,h1.c0,h1.c1]
def Wb.T_(h:Wb S D W b sv x d)(m:AF M W W')(hb:¬M b)(J:∀y,S y->¬M y)(N:∀y,D y->¬M y):Wb S D W' b sv x d:=⟨m.cell h.c0 hb,m.cell h.c1 hb,λj I=>(h.Cq j I).T_ m hb,Ag.T_ h.rd m B_ B_,h.lt,h.Sc⟩
def Wb.S_(h:Wb S D W b sv x d)(g:AG W W'):Wb S D W' b sv x d:=h.T_ g F_ C_ C_
theorem NU.T_(h:NU S D W b u)(m:AF M W W')(hb:¬M b)(j:∀y,S y->¬M y)(I:∀y,D y->¬M y):NU S D W' b u:=by
 obtain⟨sv,x,d,h1,J,N⟩:=h;exact⟨sv,x,d,h1.T_ m hb j I,J,N⟩
def Lo(h:NU S D W b u):l_ 329 [e_ b] (λv' w'=>v'=.bool (decide (u=[]))/\w'=W) W:=by
 refine I_ func329 ?_;obtain⟨sv,x,d,h1,j,rfl⟩:=h;obtain⟨a,c,rfl,_⟩:=h1.rd.AK;apply nfl_i h1.c0;rw[AO,CI];refine⟨?_,rfl⟩;congr 1;rw[aBo];cases x<;>grind[JR]
def XZ(h:NU S D W b u):l_ 330 [e_ b] (λv' w'=>v'=.int .u8 (iN u)/\w'=W) W:=by
 refine I_ func330 ?_;apply AA (Lo h);rintro _ _ ⟨rfl,rfl⟩;obtain⟨sv,x,d,h1,I,rfl⟩:=h;cases x with
 |nil=>
  rw[ys (show JR [] d=[] from rfl)];exact Ab ⟨rfl,rfl⟩
 |cons o r=>
  rw[zk (show ¬JR (o::r) d=[] by simp[JR])];apply AM;apply nfl_i h1.c0;obtain⟨a,c,rfl,_⟩:=h1.rd.AK;obtain⟨p,q,rfl,_,J,hc,O,sv,N,rfl,_⟩:=h1.rd.get (i:=0) E_;apply AV (j:=0) E_;rw[AE,Addr.add_add];refine AI (hc 0 _ rfl) ⟨?_,rfl⟩;simp[JR,YX,iN]
theorem SL{o:Dop}{r:U'}(h:Wb S D W b sv (o::r) d)(Z:d<=Ah o):l_ 368 [e_ b] (λv' w'=>v'=zIq (Ah o-d:Nat)/\AG W w') W:=by
 refine I_ func368 ?_ (.y (.z (.y (.x (.x .Ec))) (.x .Ec)));have Q:=h.Sc o E_;have U:=Q.le;obtain⟨a,c,rfl,_⟩:=h.rd.AK;obtain⟨p,q,rfl,_,hq,hc,rv,N,V,rfl,O,_⟩:=h.rd.get (i:=0) E_;obtain⟨X,Y,rfl,_⟩:=O.AK;have J:∀j u,([.int .u8 o.AR,zIq o.n,.slice X o.AZ.length Y,N,V]:U_)[j]?=some u->W.cell? ((p.add (0*5)).add j)=some u:=by grind[Addr.add_add]
 apply nfl_i h.c0;apply AV (j:=0) E_;rw[AE];apply AI (J 0 _ rfl);refine eqP (λk2=>?_) λk2=>?_;apply DL (AG W) (AF.drew _ _);apply AJ;rw[AE,AH];apply BC (λw I=>I.cell h.c0 F_);apply AV (j:=0) E_;rw[AE];apply BC (λw I=>I.cell (J 2 _ rfl) F_);rw[AO];apply AJ;rw[AE,AH];apply BC (λw I=>I.cell h.c1 F_);have hl:Ah o=o.AZ.length:=by simp[Ah,k2]
 grind[A6,wrap64];apply DL (AG W) (AF.drew _ _);apply AJ;rw[AE,AH];apply BC (λw I=>I.cell h.c0 F_);apply AV (j:=0) E_;rw[AE];apply BC (λw I=>I.cell (J 1 _ rfl) F_);apply AJ;rw[AE,AH];apply BC (λw I=>I.cell h.c1 F_);have hl:=xJ Q k2;grind[A6,wrap64]
def WA(h:NU S D W b u):l_ 333 [e_ b] (λv' w'=>v'=zIq (OO u:Nat)/\AG W w') W:=by
 refine I_ func333 ?_;apply AA (Lo h);rintro _ _ ⟨rfl,rfl⟩;obtain⟨sv,x,d,h1,j,rfl⟩:=h;cases x with
 |nil=>
  rw[ys (show JR [] d=[] from rfl)];exact Ab ⟨rfl,AF.refl _ _⟩
 |cons o r=>
  rw[zk (show ¬JR (o::r) d=[] by simp[JR])];apply AM;have I:=j o r rfl;grind[SL,JR,OO,HB]
def RD(k:Nat)(o:Dop):ER k (Eh d o)=if o.AR=2 then⟨2,o.n,(o.AZ.take (d+k)).drop d,o.set,o.AU⟩ else⟨o.AR,k,o.AZ,o.set,o.AU⟩:=by
 grind[ER,Eh,List.drop_take]
def Ln(h:NU S D W b u){n:Nat}(cx:1<=n)(da:n<=536870912):l_ 332 [e_ b,zIq n] (λv' w'=>∃ r o u',v'=.agg r.toArray/\B0 D w' r o/\NU S D w' b u'/\AF (λy=>y=b) W w'/\ ((u=[]/\o=⟨1,n,[],[],[]⟩/\u'=[]/\Fx w' b=Fx W b)\/∃ o1 u1,u=o1 :: u1/\o=ER (min n (Ah o1)) o1/\u'=CT (min n (Ah o1)) u/\Fx w' b < Fx W b)) W:=by
 refine H_ func332 ?_ (.y (.y (.y (.y (.cut [] [(20,38)] (.y (.x (.dc [12,14] (i_ [0,1,0,4,12,28,0,64,192,448,0,1984,4095,8191,16383]) [[12]]))) .nil)))));refine Ce λb4 w1 dk dr g1 dz bk=>?_;have hI:=h.T_ g1 F_ C_ C_;apply AA (Lo hI);rintro _ _ ⟨rfl,rfl⟩;rename c_=>w1;have bl:b<W.heap.size:=by obtain⟨sv,x,d,h1,_⟩:=h;exact lA W _ h1.c0
 obtain⟨sv,x,d,h1,h2,rfl⟩:=hI;cases x with
 |nil=>
  rw[ys (show JR [] d=[] from rfl)];refine Ab ⟨#[.int .u8 1,zIq n,g_,g_,g_],D_,?_⟩;refine BI (vs:=[.int .u8 1,zIq n,g_,g_,g_]) rfl (λu hu=>by simp at hu;rcases hu with rfl|rfl|rfl<;>rfl) E λw3 m3 bp _=>?_;apply AX (vs:=[.int .u8 1,zIq n,g_,g_,g_]) rfl bp;have bs:AF (λy=>y=b) W w3:=(g1.mono G_).next m3 E
  refine⟨_,⟨1,n,[],[],[]⟩,[],rfl,⟨_,_,_,rfl,Al.nil,Al.nil,Al.nil⟩,?_,bs,.inl ⟨rfl,rfl,rfl,h.DT ((g1.mono G_).next m3 λy I e=>e:AF (λy=>y=b4) W w3) E⟩⟩;refine⟨sv,[],d,⟨(by grind[AF.cell,Wb.c0]),(by grind[AF.cell,Wb.c1]),(by grind[Wb.Cq]),?_,h1.lt,h1.Sc⟩,h2,rfl⟩;obtain⟨a,c,rfl,hm⟩:=h1.rd.AK;obtain⟨a',c',e,q1,q2,q3⟩:=h1.rd;exact⟨a',c',e,q1,q2,B_⟩
 |cons o r=>
  rw[zk (show ¬JR (o::r) d=[] by simp[JR])];refine AM (AJ ?_);have hd:=h2 o r rfl;have ho:=h1.Sc o E_;have dT:=ho.le;apply fl_i h1.c0;obtain⟨a,c,rfl,_⟩:=h1.rd.AK;obtain⟨p,q,rfl,e4,hq,hc,an⟩:=h1.rd.get (i:=0) E_;refine AV (j:=0) E_ ?_;apply AX hq (by grind[Addr.add_add]);refine BA hq rfl an.one λb5 w7 e5 e6 g7 a6 av=>?_;have e7:b<w1.heap.size:=Mp bl g1.size;have h7:=h1.S_ g7;refine AA (SL h7 E) ?_;rintro _ Y ⟨rfl,g8⟩;have h8:=h7.S_ g8;have ax:B0 D Y q o:=an.T_ (g7.trans g8) E' C_;have a8:∀j v,q[j]?=some v->Y.cell? ⟨b5,j,none⟩=some v:=by grind[AF.cell,AH]
  have e8:∀j,j<q.length->Bg Y ⟨b5,j,none⟩:=by grind[Bg.T_,AH]
  rw[Hh];obtain⟨k,hk⟩:∃k:Nat,k=min n (Ah o-d):=⟨_,rfl⟩;have ek:(if((Ah o-d:Nat):Int)<(n:Int) then((Ah o-d:Nat):Int) else(n:Int))=(k:Int):=E;rw[ek];refine AT (λ_ O=>∃V,B0 D O V (ER k (Eh d o))/\(∀j v,V[j]?=some v->O.cell? ((⟨b5,0,none⟩:Addr).add j)=some v)/\AF (λy=>y=b5) Y O) ?_ ?_;rintro _ O ⟨V,aa,e9,X⟩ _;have z4:=X.size;have l4:∀j,j<5->Bg O ((⟨b4,0,none⟩:Addr).add j):=λj J=>((((bk j J).T_ g7 F_).T_ g8 F_).T_ X (by grind[Ai]));have bx:=aa.one;have ak:V.length=5:=by obtain⟨_,_,_,rfl,_⟩:=aa;rfl
  have e1:O.cell? ⟨b,0,none⟩=some (.slice (some p) (o::r).length c):=by grind[AF.cell,Wb.c0]
  have e2:O.cell? ⟨b,1,none⟩=some (zIq d):=by grind[AF.cell,Wb.c1]
  have e3:∀j,j<2->Bg O ⟨b,j,none⟩:=λj J=>(h8.Cq j J).T_ X B_;have ay:Ag S D O (.slice (some p) (o::r).length c) (o::r):=Ag.T_ h8.rd X (λy _ I e=>by have:=h1.lt y (.inl I);omega) λy _ I e=>by have:=h1.lt y (.inr I);omega
  have c4:AG W Y:=(g1.trans g7).trans g8;have b0:Fx W b=(o::r).length*2147483648-d:=by rw[<-h1.Fx,h.DT g1 F_]
  have HA:∀ W6,AF (λy=>y=b) O W6->NU S D W6 b (CT k (JR (o :: r) d))->Fx W6 b < Fx W b->DJ 5 (e_ b5) (λc6 c7=>Bv 5 (e_ b4) c6 (λc8=>DJ 5 (e_ b4) (λr0 Z=>
    ∃V o' u',r0=.agg V.toArray/\B0 D Z V o'/\NU S D Z b u'/\AF (λy=>y=b) W Z/\
     ((JR (o :: r) d=[]/\o'=⟨1,n,[],[],[]⟩/\u'=[]/\Fx Z b=Fx W b)\/∃ o1 u1,JR (o :: r) d=o1 :: u1/\o'=ER (min n (Ah o1)) o1/\u'=CT (min n (Ah o1)) (JR (o :: r) d)/\Fx Z b < Fx W b)) c8) c7) W6:=by
   intro W6 m6 b6 c9;have z6:=m6.size;apply AX ak (by grind[AF.cell,Ai]);refine BI ak bx (by grind[Bg.T_,Ai]) λW7 m7 a6 _=>?_;apply AX ak a6;have mW:AF (λy=>y=b) W W7:=(((c4.mono λ_ _ e=>e.elim:AF (λy=>y=b) W Y).next X E).trans m6).next m7 E
   have ca:B0 D W7 V (ER k (Eh d o)):=(aa.T_ m6 (λy _ I e=>by have:=h1.lt y (.inr I);omega) C_).T_ m7 (λy _ I e=>by have:=h1.lt y (.inr I);omega) C_;have cc:=b6.T_ m7 E (λy I e=>by have:=h1.lt y (.inl I);omega) λy I e=>by have:=h1.lt y (.inr I);omega
   refine⟨V,_,_,rfl,ca,cc,mW,.inr ⟨Eh d o,r,rfl,?_,?_,?_⟩⟩;grind[HB];grind[HB];rw[b6.DT m7 (by show ¬b=b4;omega)];exact c9
  apply nfl_i e2;rw [AQ,wrap64 E E,show (d:Int)+(k:Int)=((d+k:Nat):Int) by omega];apply AJ;rw [AE,AH];refine DC (b:=b) (vs:=[.slice (some p) (o :: r).length c,zIq d]) (q:=1) (λj v Q=>by
   rcases (show j=0\/j=1 by have:=(Ad.1 Q).1;simp at this;omega) with rfl | rfl;cases Q;exact e1;cases Q;exact e2) E E_ rfl rfl λW5 m5 b7 cq=>?_
  have b8:Ag S D W5 (.slice (some p) (o::r).length c) (o::r):=Ag.T_ ay m5 (λy _ I e=>by have:=h1.lt y (.inl I);omega) λy _ I e=>by have:=h1.lt y (.inr I);omega
  have h5:Wb S D W5 b (.slice (some p) (o::r).length c) (o::r) (d+k):=⟨b7 0 _ rfl,b7 1 _ rfl,λj J=>cq j (by simpa using J),b8,h1.lt,h1.Sc⟩;refine AA (SL h5 E) ?_;rintro _ W6 ⟨rfl,g6⟩;have h6:=h5.S_ g6;have ea:∀j,j<2->Bg W6 ⟨b,j,none⟩:=h6.Cq;rw[CI];have b9:AF (λy=>y=b) O W6:=m5.next g6 G_;refine Ae (λhz=>?_) λec=>?_;apply nfl_i h6.c0;refine FW (j:=1) (e:=126) (k:=5) (i:=Tryz.t126) D_ D_ D_ h6.rd E_ λv' U=>?_;have a1:v'.oneCell'=true/\v'.cells=#[v']:=by obtain⟨a',c',rfl,_⟩:=U.AK;exact⟨rfl,rfl⟩
  apply AJ;rw [AE,AH];refine DC (b:=b) (vs:=[.slice (some p) (o :: r).length c,zIq ((d+k:Nat):Int)]) (q:=0) (λj v Q=>by
   rcases (show j=0\/j=1 by have:=(Ad.1 Q).1;simp at this;omega) with rfl | rfl;cases Q;exact h6.c0;cases Q;exact h6.c1) E E_ a1.1 a1.2 λW7 m7 a6 av=>?_
  apply AJ;rw[AE,AH];refine DC (b:=b) (vs:=[v',zIq ((d+k:Nat):Int)]) (q:=1) a6 av E_ rfl rfl λW8 m8 N a7=>?_;have cu:Wb S D W8 b v' r 0:=⟨N 0 _ rfl,N 1 _ rfl,λj J=>a7 j (by simpa using J),Ag.T_ U (m7.trans m8) (λy _ I e=>by have:=h1.lt y (.inl I);omega) λy _ I e=>by have:=h1.lt y (.inr I);omega,h1.lt,λu hu=>h1.Sc u (by simp[hu])⟩;refine HA W8 ((b9.trans m7).trans m8) ⟨v',r,0,⟨N 0 _ rfl,N 1 _ rfl,λj J=>a7 j (by simpa using J),?_,h1.lt,λu hu=>h1.Sc u (by simp[hu])⟩,λo' V e=>by have:=(h1.Sc o' (by rw[e];simp)).DA;omega,?_⟩ (by rw[cu.Fx,b0];simp only[cO];omega);exact Ag.T_ U (m7.trans m8) (λy _ I e=>by have:=h1.lt y (.inl I);omega) λy _ I e=>by have:=h1.lt y (.inr I);omega
  simp only[JR,CT];rw[HB E,By E];cases r with
  |nil=>rfl
  |cons o' V=>simp only[UQ]
  refine HA W6 b9 ⟨_,_,d+k,h6,λo' V e=>by cases e;omega,?_⟩ (by rw[h6.Fx,b0];simp only[cO];omega);simp only[JR,CT];rw[HB E,Ix E,XD];obtain⟨rv,ba,pv,rfl,q1,q2,q3⟩:=ax;obtain⟨ra,rc,rfl,ed⟩:=q1.AK;apply fl_i (a8 0 _ rfl);refine eqP (λk2=>?_) λk2=>?_;have ee:Ah o=o.AZ.length:=by simp[Ah,k2]
  have gd:=gdr Y;have bb:=h8.S_ gd;apply Ac (λq y=>q=14/\y=b5);rw[AE,AH];refine AP ⟨gd.cell (a8 2 _ rfl) F_,λj J e=>absurd J (by rw[e.1];decide)⟩ ?_;apply AJ;rw[AE,AH];apply AP ⟨bb.c1,λj J e=>absurd J (by rw[e.1];decide)⟩;apply AJ;rw[AE,AH];apply AP ⟨bb.c1,λj J e=>absurd J (by rw[e.1];decide)⟩;rw[AQ,wrap64 E E,show(d:Int)+(k:Int)=((d+k:Nat):Int) by omega];refine X4 (j:=d) (q:=d+k) (e:=21) (k:=1) (i:=Tryz.t21) D_ D_ D_ (q1.S_ gd C0 C_) E E λv' U=>?_;have a1:v'.oneCell'=true/\v'.cells=#[v']:=by obtain⟨a',c',rfl,_⟩:=U.AK;exact⟨rfl,rfl⟩
  refine⟨AF.refl _ _,?_⟩;rw[AE,AH];refine DC (q:=2) (λj v Q=>gd.cell (a8 j v Q) F_) (by grind[Bg.T_]) E_ a1.1 a1.2 λO X al _=>?_;refine⟨B_,?_⟩;have hD:∀y,y<Y.drew.heap.size->D y->¬y=b5:=λy _ I e=>by have:=h1.lt y (.inr I);omega
  refine⟨_,?_,λj v Q=>by rw[AH];exact al j v Q,(gd.mono λ_ _ e=>e.elim:AF (λy=>y=b5) Y Y.drew).trans X⟩;rw[RD,Ix k2];refine⟨v',ba,pv,?_,U.mono C_ (λy I hd=>X.Ak y I (hD y I hd)) C0 C_,(q2.S_ gd C0 C_).mono C_ (λy I hd=>X.Ak y I (hD y I hd)) C0 C_,(q3.S_ gd C0 C_).mono C_ (λy I hd=>X.Ak y I (hD y I hd)) C0 C_⟩;simp[k2];rw[AE,AH];refine DC (q:=1) E E E_ rfl rfl λO X al _=>?_;have hD:∀y,y<Y.heap.size->D y->¬y=b5:=λy _ I e=>by have:=h1.lt y (.inr I);omega
  refine⟨_,?_,λj v Q=>by rw[AH];exact al j v Q,X⟩;rw[RD,By k2];refine⟨_,ba,pv,rfl,q1.mono C_ (by grind[AF.Ak]) C0 C_,q2.mono C_ (by grind[AF.Ak]) C0 C_,q3.mono C_ (by grind[AF.Ak]) C0 C_⟩
end
structure Grp where
 d:U'
 u:U'
abbrev _root_.Go.Z_:=List Grp
structure Hist where
 max:Nat
 us:Z_
 rs:Z_
 op:Bool
 Ba:Z_
def HT(mx:Nat)(us:Z_)(g:Grp):Z_:=if us.length<mx then us++[g] else(us++[g]).drop 1
theorem Tf{mx:Nat}{us:Z_}{g:Grp}(h:us.length<=mx):(HT mx us g).length<=mx/\(HT mx us g).length=min (us.length+1) mx:=by
 grind[HT]
abbrev Hb:Nat:=128
theorem Ag.to{S S' D D' M:d_}{l:U'}(h:Ag S D w v l)(hm:AF M w w')(J:∀b,b<w.heap.size->S b->¬M b)(N:∀b,b<w.heap.size->D b->¬M b)(j:∀b,b<w.heap.size->S b->S' b)(I:∀b,b<w.heap.size->D b->D' b):Ag S' D' w' v l:=
 (by grind[Al.mono,AF.Ak,B0.T_])
def CL(C:d_):c_->U_->Grp->Prop:=λw r g=>∃dv uv,r=[dv,uv]/\Ag C C w dv g.d/\Ag C C w uv g.u
def CL.one{r:U_}{g:Grp}(h:CL C w r g):∀u∈r,u.oneCell'=true:=by
 obtain⟨N,uv,rfl,h1,j⟩:=h;obtain⟨a,c,rfl,_⟩:=h1.AK;obtain⟨I,J,rfl,_⟩:=j.AK;intro u hu;simp at hu;rcases hu with rfl|rfl<;>rfl
def CL.to{C C' M:d_}{r:U_}{g:Grp}(h:CL C w r g)(hm:AF M w w')(hC:∀b,b<w.heap.size->C b->¬M b)(j:∀b,b<w.heap.size->C b->C' b):CL C' w' r g:=by
 obtain⟨I,uv,e,h1,J⟩:=h;exact⟨I,uv,e,(by grind[Ag.to]),(by grind[Ag.to])⟩
theorem CL.T_{r:U_}{g:Grp}(h:CL C w r g)(hm:AF M w w')(hC:∀b,b<w.heap.size->C b->¬M b):CL C w' r g:=h.to hm hC C_
def N6:DD prog 109 Hb 2 48:=⟨Tryz.t128,.agg #[g_,g_],D_,D_,D_,D_,D_,by rfl,C0⟩
abbrev Xo(sv:b_)(mx:Nat)(uv rv:b_)(op:Bool)(ov:b_):U_:=[sv,zIq mx,.bool true,uv,rv,.bool op,ov]
structure HKs where
 l:X'
 S:d_
structure Au (F C:d_) (W:c_) (b:Nat) (sv:b_) (ks:HKs) (uv rv ov:b_) (mx:Nat) (us rs:Z_) (op:Bool) (Ba:Z_):Prop where
 cells:∀j v,(Xo sv mx uv rv op ov)[j]?=some v->W.cell? ⟨b,j,none⟩=some v
 Cq:∀j,j<7->Bg W ⟨b,j,none⟩
 Ho:CG ks.S W sv ks.l
 ss:∀x,ks.S x->x<W.heap.size/\¬F x
 Wv:IU Hb 2 (CL C) W uv us
 Yk:IU Hb 2 (CL C) W rv rs
 Ba:Al C 2 (CL C) W ov Ba
 fb:F b/\¬C b
 uF:∀g,uv.ownBlock=some g->F g/\¬C g/\g≠b
 rF:∀g,rv.ownBlock=some g->F g/\¬C g/\g≠b/\uv.ownBlock≠some g
 cf:∀x,C x->F x/\x<W.heap.size
section
variable {F C M:d_}{W W':c_}{b:Nat}{sv:b_}{ks:HKs}{uv rv ov:b_}{mx:Nat}{us rs Ba:Z_}{op:Bool}
def Au.lt(h:Au F C W b sv ks uv rv ov mx us rs op Ba):b<W.heap.size:=lA W _ (h.cells 5 _ rfl)
def Au.T_(h:Au F C W b sv ks uv rv ov mx us rs op Ba)(hm:AF M W W')(Q:∀x,F x\/ks.S x->¬M x):Au F C W' b sv ks uv rv ov mx us rs op Ba:=
 have I:∀x,F x->¬M x:=B_;have hC:∀x,x<W.heap.size->C x->¬M x:=by grind[Au.cf]
 ⟨(by grind[AF.cell,Au.cells,Au.fb]),λj N=>(h.Cq j N).T_ hm (I b h.fb.1),h.Ho.T_ hm B_,λx J=>⟨Mp (h.ss x J).1 hm.size,(h.ss x J).2⟩,h.Wv.T_ C0 hm (by grind[Au.uF]) (by grind[CL.T_]),h.Yk.T_ C0 hm (λg O=>I g (h.rF g O).1) (by grind[CL.T_]),h.Ba.T_ hm hC C0 (by grind[CL.T_]),
  h.fb,h.uF,h.rF,λx J=>⟨(h.cf x J).1,Mp (h.cf x J).2 hm.size⟩⟩
theorem Au.S_(h:Au F C W b sv ks uv rv ov mx us rs op Ba)(g:AG W W'):Au F C W' b sv ks uv rv ov mx us rs op Ba:=h.T_ g C_
def Au.Ma{F' C':d_}(h:Au F C W b sv ks uv rv ov mx us rs op Ba)(hF:∀x,F x->F' x)(hC:∀x,C x->C' x)(J:∀x,F' x->¬ks.S x)(N:∀x,C' x->F' x/\x<W.heap.size/\(C x\/¬F x)):Au F' C' W b sv ks uv rv ov mx us rs op Ba:=by
 have j:AF (λ_=>False) W W:=AF.refl _ _;exact ⟨h.cells,h.Cq,h.Ho,(by grind[Au.ss]),h.Wv.T_ C0 j C_ λr x I=>I.to j E' B_,h.Yk.T_ C0 j C_ λr x I=>I.to j E' B_,h.Ba.sub B_ C0 λr x I=>I.to j E' B_,
  (by grind[Au.fb]),(by grind[Au.uF]),(by grind[Au.rF]),B_⟩
def Au.sR{j:Bool}{K:c_->Prop}(h:Au F C W b sv ks uv rv ov mx us rs op Ba) (J:∀W',Au F C W' b sv ks uv rv ov mx us rs j Ba->AF (λx=>x=b) W W'->K W'):Cc (.pointer (some ⟨b,5,none⟩)) (.bool j) K W:=by
 refine DC h.cells h.Cq (q:=5) (show 5<7 by decide) rfl rfl λW' hm hc hl=>?_;have hC:∀x,x<W.heap.size->C x->¬x=b:=by grind[Au.fb]
 exact J W' ⟨hc,B_,h.Ho.T_ hm (by grind[Au.ss,Au.fb]),λx I=>⟨Mp (h.ss x I).1 hm.size,(h.ss x I).2⟩,h.Wv.T_ C0 hm (by grind[Au.uF]) (by grind[CL.T_]),h.Yk.T_ C0 hm (λg N=>(h.rF g N).2.2.1) (by grind[CL.T_]),h.Ba.T_ hm hC C0 (by grind[CL.T_]),
  h.fb,h.uF,h.rF,λx I=>⟨(h.cf x I).1,Mp (h.cf x I).2 hm.size⟩⟩ hm
def Au.Y8{j:Z_}{K:c_->Prop}(h:Au F C W b sv ks uv rv ov mx us rs op Ba)(N:Al C 2 (CL C) W v j) (O:∀W',Au F C W' b sv ks uv rv v mx us rs op j->AF (λx=>x=b) W W'->K W'):Cc (.pointer (some ⟨b,6,none⟩)) v K W:=by
 refine DC h.cells h.Cq (q:=6) (show 6<7 by decide) (by obtain⟨a,c,rfl,_⟩:=N.AK;rfl) (by obtain⟨a,c,rfl,_⟩:=N.AK;rfl) λW' hm hc hl=>?_;have hC:∀x,x<W.heap.size->C x->¬x=b:=by grind[Au.fb]
 exact O W' ⟨hc,B_,h.Ho.T_ hm (by grind[Au.ss,Au.fb]),λx J=>⟨Mp (h.ss x J).1 hm.size,(h.ss x J).2⟩,h.Wv.T_ C0 hm (by grind[Au.uF]) (by grind[CL.T_]),h.Yk.T_ C0 hm (λg Q=>(h.rF g Q).2.2.1) (by grind[CL.T_]),(by grind[Al.T_,CL.T_]),
  h.fb,h.uF,h.rF,λx J=>⟨(h.cf x J).1,Mp (h.cf x J).2 hm.size⟩⟩ hm
def Au.qB{F':d_}{J:b_}{O:Z_}{K:c_->Prop}(h:Au F C W b sv ks uv rv ov mx us rs op Ba)(hm:AF M W W')(Z:∀x,M x->uv.ownBlock=some x)(hF:∀x,F x->F' x)(a1:∀x,F' x->¬ks.S x) (Y:IU Hb 2 (CL C) W' J O)(hn:∀g,J.ownBlock=some g->uv.ownBlock=some g\/W.heap.size<=g/\F' g) (hK:∀N,Au F' C N b sv ks J rv ov mx O rs op Ba->AF (λx=>x=b) W' N->K N):Cc (.pointer (some ⟨b,3,none⟩)) J K W':=by
 have U:¬M b:=by grind[Au.uF]
 have V:∀x,x<W.heap.size->C x->¬M x:=by grind[Au.uF]
 refine DC (vs:=Xo sv mx uv rv op ov) (by grind[AF.cell,Au.cells]) (λj hj=>(h.Cq j hj).T_ hm U) (q:=3) (show 3<7 by decide) Y.one.1 Y.one.2 λN I hc hl=>?_;have X:∀x,x<W'.heap.size->C x->¬x=b:=by grind[Au.fb]
 have a6:=h.lt;have or:=h.Yk.Am;have nb:∀g,J.ownBlock=some g->F' g/\¬C g/\g≠b:=by grind[Au.uF,Au.cf]
 exact hK N ⟨hc,B_,(h.Ho.T_ hm (by grind[Au.uF])).T_ I (by grind[Au.fb]),λx Q=>⟨Mp (h.ss x Q).1 (py hm.size I.size),B_⟩,(by grind[IU.T_,CL.T_]),(h.Yk.T_ (R':=CL C) C0 hm (by grind[Au.rF]) (by grind[CL.T_])).T_ C0 I (by grind[Au.rF]) (by grind[CL.T_]),(h.Ba.T_ hm V C0 (by grind[CL.T_])).T_ I X C0 (by grind[CL.T_]),
  ⟨hF _ h.fb.1,h.fb.2⟩,nb,(by grind[Au.rF]),
  λx Q=>⟨hF _ (h.cf x Q).1,Mp (h.cf x Q).2 (py hm.size I.size)⟩⟩ I
def Au.rh{F':d_}{J:b_}{Q:Z_}{K:c_->Prop}(h:Au F C W b sv ks uv rv ov mx us rs op Ba)(hm:AF M W W')(U:∀x,M x->rv.ownBlock=some x)(hF:∀x,F x->F' x)(a1:∀x,F' x->¬ks.S x) (Z:IU Hb 2 (CL C) W' J Q)(hn:∀g,J.ownBlock=some g->rv.ownBlock=some g\/W.heap.size<=g/\F' g) (hK:∀N,Au F' C N b sv ks uv J ov mx us Q op Ba->AF (λx=>x=b) W' N->K N):Cc (.pointer (some ⟨b,4,none⟩)) J K W':=by
 have V:¬M b:=λe=>(h.rF b (U b e)).2.2.1 rfl;have X:∀x,x<W.heap.size->C x->¬M x:=λx _ O e=>(h.rF x (U x e)).2.1 O;refine DC (vs:=Xo sv mx uv rv op ov) (by grind[AF.cell,Au.cells]) (λj hj=>(h.Cq j hj).T_ hm V) (q:=4) (show 4<7 by decide) Z.one.1 Z.one.2 λN I hc hl=>?_;have Y:∀x,x<W'.heap.size->C x->¬x=b:=by grind[Au.fb]
 have a6:=h.lt;have ou:=h.Wv.Am;have nb:∀g,J.ownBlock=some g->F' g/\¬C g/\g≠b:=by grind[Au.rF,Au.cf]
 exact hK N ⟨hc,B_,(h.Ho.T_ hm (by grind[Au.rF])).T_ I (by grind[Au.fb]),λx O=>⟨Mp (h.ss x O).1 (py hm.size I.size),B_⟩,(h.Wv.T_ (R':=CL C) C0 hm (by grind[Au.rF]) (by grind[CL.T_])).T_ C0 I (by grind[Au.uF]) (by grind[CL.T_]),(by grind[IU.T_,CL.T_]),(h.Ba.T_ hm X C0 (by grind[CL.T_])).T_ I Y C0 (by grind[CL.T_]),
  ⟨hF _ h.fb.1,h.fb.2⟩,(by grind[Au.uF]),(by grind[Au.rF]),
  λx O=>⟨hF _ (h.cf x O).1,Mp (h.cf x O).2 (py hm.size I.size)⟩⟩ I
def Vo{g c:Nat}{l:Z_}(h:AB 0 Hb 2 (CL C) W (.slice (f_ g) l.length c) l)(h0:0<l.length)(a1:¬C g) : ∃W',(Builtin.clear_ #[109] 0 [.slice (f_ g) 1 c].toArray).run prog W=.ok (.tuple #[]) W'/\AF (λx=>x=g) W W'/\IU Hb 2 (CL C) W' (sliced (f_ g) 1 l.length l.length 2) (l.drop 1):=by
 obtain⟨a,r,e1,_,hr,hc,_⟩:=h.sl.get h0;have hz:(Builtin.zeroCells (Value.agg #[g_,g_]).cells 1).toList=[g_,g_]:=D_;have J:∀j,j<2->Bg W ((⟨g,0,none⟩:Addr).add j):=λj I=>by
  obtain⟨g',e,_,hl⟩:=AB.Cq h (i:=0) (j:=j) h0 I;grind
 have N:=SG (P:=prog) (⟨g,0,none⟩:Addr) [g_,g_] 0 W j_ (λj _ I=>J j (by simpa using I));obtain⟨Q,_,_,_⟩:=TT (b:=g) [g_,g_] 0 W (λj _ I=>J j (by simpa using I));have O:g<W.heap.size:=(AB.Am h g rfl).2;refine⟨_,?_,Q,.inr ?_⟩;have hu:prog.underlying 109=some (.slice Hb):=D_;have hi:prog.info? Hb=some Tryz.t128:=D_;have hv:(zeroValue Hb).run prog W=.ok (.agg #[g_,g_]) W:=by
  simp[zeroValue,typeInfo,hi,show Tryz.t128.zero=some (.agg #[g_,g_]) from rfl]
 simp[Builtin.clear_,run_underlying hu,hv,hz,N];have U:=h.sl;by_cases h1:l.length=1;refine⟨⟨g,0,none⟩,?_,Mp O Q.size,?_⟩;simp[sliced,h1];have:l.drop 1=[]:=B_;rw[this];simp only[sliced,h1,aAh,aCb];exact⟨_,0,rfl,DN _,by simp[maxLen],B_⟩;have e:sliced (some (⟨g,0,none⟩:Addr)) 1 l.length l.length 2=.slice (some ⟨g,2,none⟩) (l.drop 1).length (l.drop 1).length:=by
  simp only[sliced,By h1,aAa,I3];rw[aCE,AH]
 obtain⟨_,_,V,_,a6,X⟩:=U;cases V;refine⟨⟨g,2,none⟩,e,Mp O Q.size,?_⟩;rw[e];refine⟨_,_,rfl,DN _,B_,λi x hx=>?_⟩;rw[so] at hx;obtain⟨q,r',e2,_,Y,Z,a7⟩:=X (1+i) x hx;cases e2;refine⟨_,r',rfl,rfl,Y,λj u hu=>?_,(by grind[CL.T_])⟩;have I:j<2:=B_;have:=Z j u hu;rw[AH] at this;have ea:(⟨g,2,none⟩:Addr).add (i*2+j)=⟨g,2+(i*2+j),none⟩:=by unfold Addr.add;split<;>simp_all
 rw[ea,show 2+(i*2+j)=(1+i)*2+j by omega];simp only[Fj,AH];rw[S9 _ _ _ _ B_,S9 _ _ _ _ B_];exact this
end
def Sz{t e k:Nat}{i:TypeInfo}{a:Option Addr}{n c l h m:Nat}(ht:P.underlying t=some (.slice e))(hi:P.info? e=some i)(hk:i.size=k)(h1:l<=h)(I:h<=m)(J:m<=c)(w:c_) : (Instr.sliceAt t (.slice a n c) (some (zIq l)) (some (zIq h)) (some (zIq m))).run P w=.ok (sliced a l h m k) w:=by
 have j:P.elem t=e:=by simp[Program.elem,ht]
 rw[aAz _ _ _ _ _ _ (by rw[j];exact ht),run_slice_lhm _ _ _ _ _ (by rw[j];exact ht) _ _ _ _ _ _ E E E E,j];simp[sizeOf,typeInfo,hi,hk]
def PO{t e k:Nat}{i:TypeInfo}{a:Option Addr}{n c j:Nat}(ht:P.underlying t=some (.slice e))(hi:P.info? e=some i)(hk:i.size=k)(J:j<=c)(w:c_):(Instr.sliceAt t (.slice a n c) none (some (zIq j)) none).run P w=.ok (sliced a 0 j c k) w:=by
 have I:P.elem t=e:=by simp[Program.elem,ht]
 rw[aAz _ _ _ _ _ _ (by rw[I];exact ht),aDT _ _ _ _ _ (by rw[I];exact ht) _ _ E E,I];simp[sizeOf,typeInfo,hi,hk]
def Fa(F:d_)(W:c_)(b:Nat)(ks:HKs)(h:Hist):Prop:=∃C sv uv rv ov,Au F C W b sv ks uv rv ov h.max h.us h.rs h.op h.Ba
def RH(F:d_)(w w':c_)(b:Nat)(ks:HKs)(h:Hist):Prop:=∃F',(∀x,F' x->F x\/w.heap.size<=x/\x<w'.heap.size)/\Fa F' w' b ks h/\AF F w w'
section
variable {F C M:d_}{W W':c_}{b:Nat}{sv:b_}{ks:HKs}{uv rv ov:b_}{mx:Nat}{us rs Ba:Z_}{op:Bool}{h:Hist}
def Fa.T_(j:Fa F W b ks h)(hm:AF M W W')(I:∀x,F x\/ks.S x->¬M x):Fa F W' b ks h:=by
 obtain⟨C,sv,uv,J,N,j⟩:=j;exact⟨C,sv,uv,J,N,j.T_ hm I⟩
def Fa.S_(j:Fa F W b ks h)(g:AG W W'):Fa F W' b ks h:=j.T_ g C_
def FJ(h:Fa F W b ks h):l_ 72 [e_ b] (λv' w'=>v'=.bool true/\w'=W) W:=by
 obtain⟨C,sv,uv,j,I,h⟩:=h;refine I_ func72 ?_;refine Dq (Ab (AJ ?_));exact fl_i (h.cells 2 _ rfl) ⟨rfl,rfl⟩
def om{mx:Nat}(N:CG ks.S W sv ks.l)(O:∀x,ks.S x->x<W.heap.size)(Q:mx<=65536) : l_ 21 [sv,zIq mx] (λv' w'=>AG W w'/\∃b,W.heap.size<=b/\v'=.tuple #[e_ b,zIq 0]/\Fa (λx=>W.heap.size<=x/\x<w'.heap.size) w' b ks ⟨mx,[],[],false,[]⟩) W:=by
 refine H_ func21 ?_ (.y (.cut [] [(4,11)] .nil .nil));refine AT (λ_ V=>V=W) ?_ ?_;rotate_left;refine Cn E λ_=>?_;exact gtP E I';rintro _ _ rfl _;obtain⟨J,_,_,_,rfl,_⟩:=id N;refine⟨(Xo (e_ J) mx g_ g_ false g_).toArray,D_,?_⟩;refine CN (vs:=Xo (e_ J) mx g_ g_ false g_) λb X hb Y g hc hl=>?_;refine⟨g,b,E,rfl,λ_=>False,e_ J,g_,g_,g_,?_⟩;refine⟨(by grind[AH]),λj U=>by have:=hl j U;rwa [AH] at this,N.S_ g,B_,.inl AB.nil,.inl AB.nil,Al.nil,B_,λg I=>(nomatch I),λg I=>(nomatch I),L_⟩
def Zq{g:Grp}(h:Au F C W b sv ks uv rv ov mx us rs op Ba)(hl:us.length<=mx)(bk:mx<=65536)(hg:CL C W [dv,fr] g) : l_ 73 [e_ b,.agg #[dv,fr]] (λ_ w'=>∃F' I,(∀x,F' x->F x\/W.heap.size<=x/\x<w'.heap.size)/\Au F' C w' b sv ks I rv ov mx (HT mx us g) rs op Ba/\AF F W w') W:=by
 refine H_ func73 ?_ (.y (.z (.dc [6,7,10] (i_ [0,0,2,6,14,0,32,126,255,511,1023]) [[6,7]]) (.z .Ec (.y (.x (.y (.dc [16,19] (i_ [0,0,2,6,14,0,0,64,192,448,960,0,2048,6144,14336,30720,65534,131071,262143,524287]) [[16]])))))));refine CN (vs:=[dv,fr]) λb3 w1 bl bp g1 ax _=>?_;have gd:=gdr w1;have O:=h.S_ (g1.trans gd);have bs:w1.drew.heap.size=w1.heap.size:=rfl;have ay:=h.Wv.Am;have bx:=h.lt;apply Ac (λk y=>(k=7/\uv.ownBlock=some y)\/(k=10/\y=b));apply AJ;rw [AE,AH];refine AP ⟨O.cells 3 _ rfl,λj N e=>by
  rcases e with ⟨rfl,e⟩ | ⟨rfl,_⟩;grind[Au.uF];exact absurd N C0⟩ ?_
 refine DH (vs:=[dv,fr]) rfl (λq v hv=>⟨gd.cell (ax q v hv) F_,λj N e=>by
  rcases e with ⟨rfl,e⟩ | ⟨rfl,e⟩;rw [Ai] at e;have:=ay b3 e;omega;rw [Ai] at e;have e':b3=b:=e;omega⟩) ?_
 have b0:CL C w1.drew [dv,fr] g:=hg.T_ (g1.trans gd) E';refine IU.push N6 O.Wv (cs:=[dv,fr]) (x:=g) D_ rfl b0 (λ_ _ _=>CL.one) (λw2 Y r y hs hm hr=>hr.T_ hm λx hx hC e=>?_) E M' B_ λw2 I Y ho c4 m3 hn=>⟨B_,?_⟩;grind[Au.uF,Au.cf];apply AJ;rw[AE,AH];have z3:=m3.size;have b9:=AB.Am ho;refine O.qB (F':=λx=>F x\/W.heap.size<=x/\x<Y.heap.size) m3 M_ K_ (by grind[Au.ss]) (.inl ho) B_ λw4 J m4=>⟨B_,?_⟩;have z4:=m4.size;have c6:AF F W w4:=(((g1.trans gd).mono G_).trans (m3.mono λx _ e=>(h.uF x e).1)).trans (by grind[AF.mono,Au.fb]);obtain⟨a,c,e,Z,c7,hp,b6⟩:=ho.AK;have a1:(us++[g]).length=us.length+1:=E_;refine DL (AG w4) (AF.drew _ _) ?_;apply AJ;rw[AE,AH];refine BC (λw2 g=>g.cell (J.cells 3 _ rfl) F_) ?_;rw[e,AO];apply AJ;rw[AE,AH];refine BC (λw2 g=>g.cell (J.cells 1 _ rfl) F_) ?_;rw[A6,a1,wrap64 E E];intro w5 g5;have Q:=J.S_ g5;have a6:AF F W w5:=by grind[AF.next]
 refine gtP (λba=>?_) λc8=>?_;rotate_left;refine⟨λx=>F x\/W.heap.size<=x/\x<Y.heap.size,I,λx hx=>?_,?_,a6⟩;have:=g5.size;grind;grind[HT];have c9:us.length=mx:=E;have e1:((us.length+1:Nat):Int)-(mx:Int)=1:=E;rw[e1];cases a with
 |none=>grind
 |some p=>
  obtain⟨U,rfl,_,ca,a7⟩:=hp p rfl;have a8:AB 0 Hb 2 (CL C) w4 I (us++[g]):=AB.T_ ho m4 (by grind[Au.uF]) (by grind[CL.T_,Au.fb]);have aa:AB 0 Hb 2 (CL C) w5 I (us++[g]):=AB.T_ a8 g5 C_ (by grind[CL.T_]);rw[e] at aa;have ak:U≠b:=(J.uF U a7).2.2;apply nfl_i (Q.cells 3 _ rfl);rw[e];refine AY (GY (e:=Hb) (k:=2) (i:=Tryz.t128) (j:=1) D_ D_ D_ E w5) ?_;obtain⟨w8,al,m8,b7⟩:=Vo aa E (J.uF U a7).2.1;apply AY al;have an:=gdr w8;have V:w8.drew.cell? ⟨b,3,none⟩=some I:=an.cell (m8.cell (Q.cells 3 _ rfl) λe=>ak e.symm) F_;apply Ac (λk y=>k=19/\y=b);apply AJ;rw[AE,AH];refine AP ⟨V,λj N e=>by obtain⟨rfl,_⟩:=e;exact absurd N C0⟩ ?_;apply AJ;rw[AE,AH];refine AP ⟨V,λj N e=>by obtain⟨rfl,_⟩:=e;exact absurd N C0⟩ ?_;rw[e,AO];apply AJ;rw[AE,AH];refine AP ⟨e▸V,λj N e=>by obtain⟨rfl,_⟩:=e;exact absurd N C0⟩ ?_;rw[AO];refine AY (Sz (e:=Hb) (k:=2) (i:=Tryz.t128) (l:=1) D_ D_ D_ E (DN _) Z w8.drew) ⟨AF.refl _ _,?_⟩;apply AJ;rw[AE,AH];have av:IU Hb 2 (CL C) w8.drew (sliced (f_ U) 1 (us++[g]).length (us++[g]).length 2) ((us++[g]).drop 1):=b7.T_ C0 an C_ (by grind[CL.T_]);have bb:∀y,(sliced (some (⟨U,0,none⟩:Addr)) 1 (us++[g]).length (us++[g]).length 2).ownBlock=some y->y=U:=by
   intro y hy;unfold sliced at hy;split at hy;exact(aAO hy).symm;simp only[aAa,Value.ownBlock,Ai,gn] at hy;exact hy.symm
  have X:AF (λx=>x=U) w5 w8.drew:=by grind[AF.next]
  have z5:=g5.size;have z8:=X.size;refine Q.qB (F':=λx=>F x\/W.heap.size<=x/\x<Y.heap.size) X B_ M_ (by grind[Au.ss]) av B_ λw9 b8 m9=>⟨B_,?_⟩;have z9:=m9.size;have ek:HT mx us g=(us++[g]).drop 1:=by grind[HT]
  rw[ek];refine⟨λx=>F x\/W.heap.size<=x/\x<Y.heap.size,_,λx hx=>?_,b8,(a6.next X λx hx e=>?_).trans (m9.mono (by grind[Au.fb]))⟩;grind;grind[Au.uF]
end
def Al.sQ{k:Nat}{R:c_->U_->α->Prop}{a:Option Addr}{n c:Nat}{l:List α}(h:Al S k R w (.slice a n c) l){j:Nat}(I:j<=l.length):Al S k R w (.slice a j c) (l.take j):=by
 obtain⟨_,_,e,h1,J,N⟩:=h;cases e;refine⟨_,_,by rw[S5,aAD I],B_,J,λi x O=>?_⟩;grind
def Pt{p:Addr}{j c s:Nat}:sliced (some p) 0 j c s=.slice (some p) j c:=by
 unfold sliced;simp[(Addr.add_zero' p)]
def Mo{l:List α}(h:0<l.length):∃j g,l=j++[g]:=by
 rcases l9 l with rfl|⟨j,g,e⟩<;>grind
section
variable {F C M:d_}{W W':c_}{b:Nat}{sv:b_}{ks:HKs}{uv rv ov:b_}{mx:Nat}{us rs Ba:Z_}{op:Bool}{h:Hist}
def pQ(j:Fa F W b ks h):l_ 33 [e_ b] (λv' w'=>v'=.bool h.op/\w'=W) W:=by
 refine I_ func33 ?_;apply AA (FJ j);rintro _ _ ⟨rfl,rfl⟩;obtain⟨C,sv,uv,J,N,I⟩:=j;apply Ab;exact nfl_i (I.cells 5 _ rfl) ⟨rfl,rfl⟩
def lU(J:Fa F W b ks h):l_ 37 [e_ b] (λv' w'=>(h.op=true/\v'=zIq 9/\w'=W)\/(h.op=false/\v'=zIq 0/\RH F W w' b ks { h with op:=true,Ba:=[] })) W:=by
 refine I_ func37 ?_;apply AA (FJ J);rintro _ _ ⟨rfl,rfl⟩;obtain⟨C,sv,uv,U,Z,N⟩:=J;rw[Aj];apply AM;apply nfl_i (N.cells 5 _ rfl);cases V:h.op with
 |true=>exact Ab B_
 |false=>
  refine AM (AJ ?_);rw[AE,AH];refine N.sR λX j O=>AJ ?_;rw[AE,AH];refine j.Y8 Al.nil λY I Q=>.inr ⟨rfl,rfl,F,K_,⟨C,sv,uv,U,_,I⟩,(O.trans Q).mono (by grind[Au.fb])⟩
def qq{S D S' D':d_}{x y:U'}(hh:Fa F W b ks h)(Q:h.op=false)(hl:h.us.length<=h.max)(a1:h.max<=65536)(hd:Ag S D W dv x)(hu:Ag S' D' W v y)(bx:Av x<=1099511627776)(a6:Av y<=1099511627776)(hF:∀z,F z->z<W.heap.size) : l_ 94 [e_ b,dv,v] (λv' w'=>v'=zIq 0/\RH F W w' b ks { h with us:=HT h.max h.us ⟨x,y⟩,rs:=[] }) W:=by
 refine J_ func94 ?_ (.y (.y (.y (.cut [] [(6,6),(8,9),(18,38)] .nil .nil))));apply AA (FJ hh);rintro _ _ ⟨rfl,rfl⟩;rename c_=>W;obtain⟨C,sv,uv,rv,ov,hR⟩:=hh;rw[Aj];apply AM;apply AA (EK hd bx);rintro O w2 ⟨o2,g2⟩;apply AA (EK (hu.S_ g2) a6);rintro N w3 ⟨o3,g3⟩;have U:=g2.trans g3;obtain⟨ca,cc,V,_⟩:=(Bs.sl o2).AK;obtain⟨ak,al,X,_⟩:=(Bs.sl o3).AK;refine⟨#[O,N],by rw[V,X];kernel_rfl,?_⟩;refine BA (vs:=[O,N]) rfl rfl (λu hu=>by simp at hu;rcases hu with rfl|rfl;rw[V];rfl;rw[X];rfl) λb7 j an av g4 a7 _=>?_;have z2:=g2.size;have z3:=g3.size;have r2:Ag (λz=>W.heap.size<=z/\z<j.heap.size) (λz=>W.heap.size<=z/\z<j.heap.size) j O x:=(Bs.reads o2).to (g3.trans g4) E' E' E E;have r3:Ag (λz=>W.heap.size<=z/\z<j.heap.size) (λz=>W.heap.size<=z/\z<j.heap.size) j N y:=(Bs.reads o3).to g4 E' E' E E;have Y:=(hR.S_ (U.trans g4)).Ma (F':=λz=>F z\/W.heap.size<=z/\z<j.heap.size) (C':=λz=>C z\/W.heap.size<=z/\z<j.heap.size) K_ K_ (by grind[Au.ss]) (by grind[Au.cf]);have hg:CL (λz=>C z\/W.heap.size<=z/\z<j.heap.size) j [O,N] ⟨x,y⟩:=⟨O,N,rfl,r2.to j0 E' E' (λ_ _ h=>.inr h) λ_ _ h=>.inr h,r3.to j0 E' E' (λ_ _ h=>.inr h) λ_ _ h=>.inr h⟩;have Z:=U.trans g4;refine AT (λ_ w6=>∃F' I,(∀z,F' z->F z\/W.heap.size<=z/\z<w6.heap.size)/\Au F' (λz=>C z\/W.heap.size<=z/\z<j.heap.size) w6 b sv ks I rv ov h.max (HT h.max h.us ⟨x,y⟩) h.rs h.op h.Ba/\AF F W w6) ?_ ?_;rintro _ w6 ⟨F',I,a8,J,m6⟩ _;apply AJ;rw[AE,AH];refine J.rh (F':=F') (M:=λ_=>False) (AF.refl _ _) L_ M_ (by grind[Au.ss]) (.inl AB.nil) (λg hg=>nomatch hg) λw7 aa m7=>⟨rfl,F',λz hz=>?_,⟨_,sv,I,_,ov,aa⟩,(by grind[AF.trans,AF.mono,Au.fb])⟩;have:=m7.size;grind;apply nfl_i (Y.cells 5 _ rfl);rw[Q];apply AM;apply AX (vs:=[O,N]) rfl a7;rw[<-Q];apply AA (Zq Y hl a1 hg);rintro _ w6 ⟨F',I,a8,J,m6⟩;have z4:=Z.size;have z6:=m6.size;refine⟨F',I,λz hz=>?_,J,(Z.mono λ_ _ h=>h.elim:AF F W j).next m6 λz hz e=>?_⟩;grind;grind
def UJ{l:Z_}(h:Al S 2 (CL C) W v l)(hC:∀x,C x->x<W.heap.size)(hl:l.length<=1099511627) : l_ 148 [v] (λv' w'=>AB W.heap.size Hb 2 (CL C) w' v' l/\AG W w') W:=by
 refine I_ func148 ?_;obtain⟨a,c,rfl,hm⟩:=h.AK;cases a with
 |none=>
  have:l=[]:=by
   cases l with
   |nil=>rfl
   |cons x l=>obtain⟨p,r,e,_⟩:=h.get (i:=0) E_;cases e
  subst this;simp[KS];grind[AB.nil,AF.refl]
 |some p=>
  simp[KS];apply EW;have J:AG W (W.alloc (.cells #[] Hb)):=AF.alloc _ _ _;have j:(W.alloc (.cells #[] Hb)).heap[W.heap.size]?=some (.cells #[] Hb (0,0)):=by show(W.heap.push _)[W.heap.size]?=_;simp
  obtain⟨v',w',h1,O,Q,_⟩:=Ke (ty:=109) N6 j (h.S_ J C0 λr x N=>N.T_ J E') (λ_ _ _=>CL.one) E (λU I r y hr=>hr.T_ (AF.BO I) B_);grind[AY,AF.trans]
def XJ(h:Au F C W b sv ks uv rv ov mx us rs false Ba)(c8:us.length<=65536)(c9:rs.length<=65536)(hF:∀x,F x->x<W.heap.size) : l_ 83 [e_ b,.pointer (some ⟨b,3,none⟩),.pointer (some ⟨b,4,none⟩)] (λv' w'=>(us=[]/\v'=.tuple #[.agg #[g_,g_],zIq 10]/\AG W w')\/ ∃ l g r F' ax ay,us=l++[g]/\v'=.tuple #[.agg (List.toArray r),zIq 0]/\r.length=2/\CL C w' r g/\(∀ x,F' x->F x\/W.heap.size<=x/\x < w'.heap.size)/\Au F' C w' b sv ks ax ay ov mx l (rs++[g]) false Ba/\AF F W w') W:=by
 refine J_ func83 ?_ (.y (.y (.y (.y (.y (.x (.dc [5,6,8] (i_ [0,0,2,6,0,16,62,127,255]) [[5,6]])))))));have ca:=h.lt;have a6:=h.Yk.Am;refine Ce λb6 w1 cc cq g1 _ b0=>?_;have N:=h.S_ g1;obtain⟨a,c,e,bs,cu,cx⟩:=h.Wv.sl C0;have a7:=N.Wv.sl C0;rw[e] at a7;apply AJ;apply AI (N.cells 3 _ rfl);rw[e,AO,A6,wrap64 E E];apply nfl_i (N.cells 5 _ rfl);apply AM;refine Cn (λbx=>?_) λc4=>?_;refine⟨#[g_,g_],D_,?_⟩;refine BI (vs:=[g_,g_]) rfl (λu hu=>by simp at hu;subst hu;rfl) E λda m hc _=>?_;exact AX rfl hc (by grind[AF.next]);obtain⟨l,g,b7⟩:=Mo (l:=us) E;have c6:us.length=l.length+1:=B_;have en:((us.length:Int)-1)=((l.length:Nat):Int):=E;rw[en];apply AJ;apply AI (N.cells 3 _ rfl);rw[e];have hi:l.length<us.length:=E;obtain⟨p,r,rfl,_,hr,hc,O⟩:=a7.get hi;have b8:us[l.length]=g:=by
  grind
 rw[b8] at O;refine AV hi (AX hr (by grind[Addr.add_add]) ?_);refine BA (vs:=r) hr rfl O.one λb9 w3 dk dr g3 ba _=>?_;have bb:=g1.trans g3;have J:=N.S_ g3;apply AJ;apply AI (J.cells 3 _ rfl);rw[e];refine AY (PO (e:=Hb) (k:=2) (i:=Tryz.t128) (j:=l.length) D_ D_ D_ E w3) ?_;rw[Pt];have Z:=J.Wv.sl C0;rw[e] at Z;have a8:=Z.sQ (j:=l.length) E;have bk:us.take l.length=l:=B_;rw[bk] at a8;refine AA (UJ a8 (λx I=>(J.cf x I).2) E) ?_;rintro cl w4 ⟨aa,g4⟩;have dz:=g3.trans g4;have c7:=AB.Am aa;apply AJ;have z1:=g1.size;have z4:=g4.size;refine J.qB (F':=λx=>F x\/w3.heap.size<=x/\x<w4.heap.size) (M:=λ_=>False) g4 L_ K_ (λx I hs=>I.elim (J.ss x hs).2 λe=>by have:=(J.ss x hs).1;omega) (.inl (aa.BY λ_ _=>Lc _)) B_ λw5 bl m5=>?_;have z5:=m5.size;have gd:=gdr w5;have zd:w5.drew.heap.size=w5.heap.size:=rfl;have Q:=bl.S_ gd;obtain⟨U,uu,rfl,hd,hu⟩:=O;have O:CL C w1 [U,uu] g:=⟨U,uu,rfl,hd,hu⟩;have V:=((g4.mono G_).trans m5).next gd G_
 have a1:∀ j v,([U,uu]:U_)[j]?=some v->w5.drew.cell? ((⟨b9,0,none⟩:Addr).add j)=some v:=λj v hv=>V.cell (ba j v hv) (by rw [Ai];grind);apply Ac (λk y=>(k=6/\rv.ownBlock=some y)\/(k=8/\y=b));apply AJ;refine AP ⟨Q.cells 4 _ rfl,λj hj e=>by
  rcases e with ⟨rfl,e⟩ | ⟨rfl,_⟩;exact (h.rF b e).2.2.1 rfl;exact absurd hj C0⟩ ?_
 refine DH (vs:=[U,uu]) rfl (λq v hv=>⟨a1 q v hv,λj hj e=>by
  rcases e with ⟨rfl,e⟩ | ⟨rfl,e⟩;rw [Ai] at e;grind;rw [Ai] at e;grind⟩) ?_
 have dT:∀x,C x->¬x=b:=by grind[Au.fb]
 have ak:=(O.T_ g3 E').T_ V B_;refine IU.push N6 Q.Yk (cs:=[U,uu]) (x:=g) D_ rfl ak (λ_ _ _=>CL.one) (λw2 w3 r y hs hm hr=>hr.T_ hm λx I hC e=>?_) E (by simp [maxLen];omega) B_ λw7 e1 w8 ho e2 m8 hn=>⟨B_,?_⟩;rcases e with e | e;exact (h.rF x e).2.1 hC;have:=(h.cf x hC).2;omega;apply AJ;have z8:=m8.size;refine Q.rh (F':=λx=>F x\/w3.heap.size<=x/\x < w8.heap.size) m8 M_ B_ (λx I hs=>I.elim (J.ss x hs).2 λe=>by have:=(J.ss x hs).1;omega) (.inl ho) (λy hy=>by
  rcases hn y hy with e | e;grind;exact .inr ⟨e,.inr ⟨E,((AB.Am ho) y hy).2⟩⟩) λw9 bp m9=>⟨B_,?_⟩
 have z9:=m9.size;have X:AF (λy=>rv.ownBlock=some y\/y=b) w5.drew w9:=(m8.mono λ_ _ h=>.inl h).trans (m9.mono λ_ _ h=>.inr h);have al:∀ j v,([U,uu]:U_)[j]?=some v->w9.cell? ((⟨b9,0,none⟩:Addr).add j)=some v:=λj v hv=>X.cell (a1 j v hv) (by
  rw [Ai];rintro (e | e);have:=a6 b9 e;omega;grind)
 apply AX (vs:=[U,uu]) rfl al;have an:CL C w9 [U,uu] g:=ak.T_ X λx _ I e=>by
  rcases e with e|e;exact(h.rF x e).2.1 I;grind
 refine BI (vs:=[U,uu]) rfl an.one (λj hj=>((((b0 j hj).T_ g3 F_).T_ V λe=>by rw [Ai] at e;grind).T_ X λe=>by
  rw [Ai] at e;rcases e with e | e;have:=a6 b6 e;omega;grind)) λe3 Y av _=>?_
 have e4:=Y.size;refine AX rfl av (.inr ⟨l,g,[U,uu],λx=>F x\/w3.heap.size<=x/\x<w8.heap.size,_,_,b7,rfl,rfl,an.T_ Y λx _ I e=>by have:=(h.cf x I).2;omega,λx I=>?_,bp.T_ Y λx I e=>?_,?_⟩);grind;rcases I with(I|I)|I;have:=hF x I;omega;omega;have:=(h.ss x I).1;omega;refine(((bb.mono λ_ _ h=>h.elim:AF F W w3).next V λx I e=>by rw[e];exact h.fb.1).next X λx I e=>?_).next Y E
 rcases e with e|e;exact(h.rF x e).1;rw[e];exact h.fb.1
def V2(h:Au F C W b sv ks uv rv ov mx us rs false Ba)(c8:us.length<=65536)(c9:rs.length<=65536)(hF:∀x,F x->x<W.heap.size) : l_ 83 [e_ b,.pointer (some ⟨b,4,none⟩),.pointer (some ⟨b,3,none⟩)] (λv' w'=>(rs=[]/\v'=.tuple #[.agg #[g_,g_],zIq 10]/\AG W w')\/ ∃ l g r F' ax ay,rs=l++[g]/\v'=.tuple #[.agg (List.toArray r),zIq 0]/\r.length=2/\CL C w' r g/\(∀ x,F' x->F x\/W.heap.size<=x/\x < w'.heap.size)/\Au F' C w' b sv ks ax ay ov mx (us++[g]) l false Ba/\AF F W w') W:=by
 refine J_ func83 ?_ (.y (.y (.y (.y (.y (.x (.dc [5,6,8] (i_ [0,0,2,6,0,16,62,127,255]) [[5,6]])))))));have ca:=h.lt;have a6:=h.Wv.Am;refine Ce λb6 w1 cc cq g1 _ b0=>?_;have N:=h.S_ g1;obtain⟨a,c,e,bs,cu,cx⟩:=h.Yk.sl C0;have a7:=N.Yk.sl C0;rw[e] at a7;apply AJ;apply AI (N.cells 4 _ rfl);rw[e,AO,A6,wrap64 E E];apply nfl_i (N.cells 5 _ rfl);apply AM;refine Cn (λbx=>?_) λc4=>?_;refine⟨#[g_,g_],D_,?_⟩;refine BI (vs:=[g_,g_]) rfl (λu hu=>by simp at hu;subst hu;rfl) E λda m hc _=>?_;exact AX rfl hc (by grind[AF.next]);obtain⟨l,g,b7⟩:=Mo (l:=rs) E;have c6:rs.length=l.length+1:=B_;have en:((rs.length:Int)-1)=((l.length:Nat):Int):=E;rw[en];apply AJ;apply AI (N.cells 4 _ rfl);rw[e];have hi:l.length<rs.length:=E;obtain⟨p,r,rfl,_,hr,hc,O⟩:=a7.get hi;have b8:rs[l.length]=g:=by
  grind
 rw[b8] at O;refine AV hi (AX hr (by grind[Addr.add_add]) ?_);refine BA (vs:=r) hr rfl O.one λb9 w3 dk dr g3 ba _=>?_;have bb:=g1.trans g3;have J:=N.S_ g3;apply AJ;apply AI (J.cells 4 _ rfl);rw[e];refine AY (PO (e:=Hb) (k:=2) (i:=Tryz.t128) (j:=l.length) D_ D_ D_ E w3) ?_;rw[Pt];have Z:=J.Yk.sl C0;rw[e] at Z;have a8:=Z.sQ (j:=l.length) E;have bk:rs.take l.length=l:=B_;rw[bk] at a8;refine AA (UJ a8 (λx I=>(J.cf x I).2) E) ?_;rintro cl w4 ⟨aa,g4⟩;have dz:=g3.trans g4;have c7:=AB.Am aa;apply AJ;have z1:=g1.size;have z4:=g4.size;refine J.rh (F':=λx=>F x\/w3.heap.size<=x/\x<w4.heap.size) (M:=λ_=>False) g4 L_ K_ (λx I hs=>I.elim (J.ss x hs).2 λe=>by have:=(J.ss x hs).1;omega) (.inl (aa.BY λ_ _=>Lc _)) B_ λw5 bl m5=>?_;have z5:=m5.size;have gd:=gdr w5;have zd:w5.drew.heap.size=w5.heap.size:=rfl;have Q:=bl.S_ gd;obtain⟨U,uu,rfl,hd,hu⟩:=O;have O:CL C w1 [U,uu] g:=⟨U,uu,rfl,hd,hu⟩;have V:=((g4.mono G_).trans m5).next gd G_
 have a1:∀ j v,([U,uu]:U_)[j]?=some v->w5.drew.cell? ((⟨b9,0,none⟩:Addr).add j)=some v:=λj v hv=>V.cell (ba j v hv) (by rw [Ai];grind);apply Ac (λk y=>(k=6/\uv.ownBlock=some y)\/(k=8/\y=b));apply AJ;refine AP ⟨Q.cells 3 _ rfl,λj hj e=>by
  rcases e with ⟨rfl,e⟩ | ⟨rfl,_⟩;exact (h.uF b e).2.2 rfl;exact absurd hj C0⟩ ?_
 refine DH (vs:=[U,uu]) rfl (λq v hv=>⟨a1 q v hv,λj hj e=>by
  rcases e with ⟨rfl,e⟩ | ⟨rfl,e⟩;rw [Ai] at e;grind;rw [Ai] at e;grind⟩) ?_
 have dT:∀x,C x->¬x=b:=by grind[Au.fb]
 have ak:=(O.T_ g3 E').T_ V B_;refine IU.push N6 Q.Wv (cs:=[U,uu]) (x:=g) D_ rfl ak (λ_ _ _=>CL.one) (λw2 w3 r y hs hm hr=>hr.T_ hm λx I hC e=>?_) E (by simp [maxLen];omega) B_ λw7 e1 w8 ho e2 m8 hn=>⟨B_,?_⟩;rcases e with e | e;exact (h.uF x e).2.1 hC;have:=(h.cf x hC).2;omega;apply AJ;have z8:=m8.size;refine Q.qB (F':=λx=>F x\/w3.heap.size<=x/\x < w8.heap.size) m8 M_ B_ (λx I hs=>I.elim (J.ss x hs).2 λe=>by have:=(J.ss x hs).1;omega) (.inl ho) (λy hy=>by
  rcases hn y hy with e | e;grind;exact .inr ⟨e,.inr ⟨E,((AB.Am ho) y hy).2⟩⟩) λw9 bp m9=>⟨B_,?_⟩
 have z9:=m9.size;have X:AF (λy=>uv.ownBlock=some y\/y=b) w5.drew w9:=(m8.mono λ_ _ h=>.inl h).trans (m9.mono λ_ _ h=>.inr h);have al:∀ j v,([U,uu]:U_)[j]?=some v->w9.cell? ((⟨b9,0,none⟩:Addr).add j)=some v:=λj v hv=>X.cell (a1 j v hv) (by
  rw [Ai];rintro (e | e);have:=a6 b9 e;omega;grind)
 apply AX (vs:=[U,uu]) rfl al;have an:CL C w9 [U,uu] g:=ak.T_ X λx _ I e=>by
  rcases e with e|e;exact(h.uF x e).2.1 I;grind
 refine BI (vs:=[U,uu]) rfl an.one (λj hj=>((((b0 j hj).T_ g3 F_).T_ V λe=>by rw [Ai] at e;grind).T_ X λe=>by
  rw [Ai] at e;rcases e with e | e;have:=a6 b6 e;omega;grind)) λe3 Y av _=>?_
 have e4:=Y.size;refine AX rfl av (.inr ⟨l,g,[U,uu],λx=>F x\/w3.heap.size<=x/\x<w8.heap.size,_,_,b7,rfl,rfl,an.T_ Y λx _ I e=>by have:=(h.cf x I).2;omega,λx I=>?_,bp.T_ Y λx I e=>?_,?_⟩);grind;rcases I with(I|I)|I;have:=hF x I;omega;omega;have:=(h.ss x I).1;omega;refine(((bb.mono λ_ _ h=>h.elim:AF F W w3).next V λx I e=>by rw[e];exact h.fb.1).next X λx I e=>?_).next Y E
 rcases e with e|e;exact(h.uF x e).1;rw[e];exact h.fb.1
end
section
variable {F C M:d_}{W W':c_}{b:Nat}{sv:b_}{ks:HKs}{h:Hist}
def pn(hh:Fa F W b ks h)(ak:h.op=false)(a1:h.us.length<=65536)(a6:h.rs.length<=65536)(hF:∀x,F x->x<W.heap.size)(hb:∀g∈h.us,Av g.u<=1099511627776) : l_ 41 [e_ b] (λv' w'=>(h.us=[]/\∃ cv,v'=.tuple #[cv,zIq 10]/\AG W w')\/ ∃ l g cv n,h.us=l++[g]/\v'=.tuple #[cv,zIq 0]/\W.heap.size<=n/\Bs n w' cv g.u/\∃ F',(∀ x,F' x->(F x\/W.heap.size<=x)/\x < n)/\Fa F' w' b ks { h with us:=l,rs:=h.rs++[g] }/\n<=w'.heap.size/\AF F W w') W:=by
 refine I_ func41 ?_ (.y (.y (.cut [4,5] [(4,5),(9,19)] (.dt [7,11,12] (i_ [0,0,2,6,0,16,48,127,255,511,511,0,3071,8191]) [[7]] (.op 0 (.op 1 (.op 2 (.op 3 (.op 4 (.op 5 (.op 6 (.br (.op 7 (.op 8 (.op 9 (.op 10 (.op 11 (.op 12 (.op 13 .nil))))))) (.op 11 (.op 7 (.op 8 (.op 9 (.op 10 (.op 12 (.op 13 .nil)))))))))))))))) .nil)));apply AA (FJ hh);rintro _ _ ⟨rfl,rfl⟩;rename c_=>W;obtain ⟨C,sv,uv,rv,ov,hR⟩:=hh;rw [ak] at hR;rw [Aj];apply AM;refine AT (λvs X=>(h.us=[]/\∃ O,vs=[e_ O,zIq 10]/\(∀ j v,([g_,g_]:U_)[j]?=some v->X.cell? ((⟨O,0,none⟩:Addr).add j)=some v)/\AG W X)\/
  ∃ l g O r F' I J,h.us=l++[g]/\vs=[e_ O,zIq 0]/\CL C X r g/\(∀ j v,r[j]?=some v->X.cell? ((⟨O,0,none⟩:Addr).add j)=some v)/\(∀ x,F' x->(F x\/W.heap.size<=x)/\x < X.heap.size)/\Au F' C X b sv ks I J ov h.max l (h.rs++[g]) false h.Ba/\AF F W X) ?_ ?_
 rintro _ X (⟨hn,O,rfl,hc,g2⟩|⟨l,g,O,r,F',I,J,Q,rfl,⟨dv,uu,rfl,hd,hu⟩,hc,Y,b0,m2⟩) _;simp only[Ha];rw[AE];apply AI (hc 1 _ rfl);apply AA (EK (S:=λ_=>False) (D:=λ_=>False) (x:=[]) Al.nil (by simp[Av]));grind[AF.trans];simp only[Ha];rw[AE];apply AI (hc 1 _ rfl);refine AA (EK hu B_) ?_;rintro cv w3 ⟨o3,g3⟩;exact .inr ⟨l,g,cv,X.heap.size,Q,rfl,m2.size,o3,F',Y,⟨C,sv,I,J,ov,by grind[Au.S_]⟩,g3.size,(by grind[AF.next])⟩;have gd:=gdr W;have zd:W.drew.heap.size=W.heap.size:=rfl;apply Ac (λk y=>(k=7/\F y)\/(k=12/\W.heap.size<=y));apply AJ;rw[AE,AH];apply AJ;rw[AE,AH];refine⟨?_,?_⟩;apply AA (XJ (hR.S_ gd) a1 a6 hF);rintro _ w5 (⟨hn,rfl,g5⟩|⟨l,g,r,F',I,J,Q,rfl,Z,hg,Y,a7,m5⟩);refine⟨g5.mono G_,?_⟩;apply BD;refine Ce λO w6 a8 al g6 _ an=>⟨B_,?_⟩;have z5:=g5.size;refine BI (vs:=[g_,g_]) rfl (λu hu=>by simp at hu;subst hu;rfl) E λw7 U N _=>⟨(by grind[AF.mono]),.inl ⟨hn,O,rfl,N,(by grind[AF.trans,AF.next])⟩⟩;refine⟨B_,?_⟩;apply BD;refine Ce λO w6 a8 al g6 _ an=>⟨B_,?_⟩;have z5:=m5.size;have aa:=hg.T_ g6 E';have av:=a7.S_ g6;refine BI (vs:=r) Z aa.one E λw7 U N _=>⟨(by grind[AF.mono]),.inr ⟨l,g,O,r,F',I,J,Q,rfl,aa.T_ U λx _ V e=>?_,N,λx V=>?_,av.T_ U λx V e=>V.elim (λV=>?_) (by grind[Au.ss]),?_⟩⟩;have:=(a7.cf x V).2;omega;have:=U.size;grind;grind;exact(((gd.mono λ_ _ h=>h.elim:AF F W W.drew).trans m5).next g6 G_).next U E
 refine Ce λO w8 a8 b6 g8 _ b7=>⟨B_,?_⟩;have z8:=g8.size;have ax:∀x,F x->x<w8.heap.size:=B_;apply AA (XJ ((hR.S_ gd).S_ g8) a1 a6 ax);rintro _ w9 (⟨hn,rfl,g9⟩|⟨l,g,r,F',I,J,Q,rfl,Z,hg,Y,ay,m9⟩);refine⟨g9.mono G_,?_⟩;apply BD;refine BI (vs:=[g_,g_]) rfl (λu hu=>by simp at hu;subst hu;rfl) (by grind[Bg.T_]) λw7 U N _=>⟨(by grind[AF.mono]),.inl ⟨hn,O,rfl,N,(by grind[AF.trans,AF.next])⟩⟩;refine⟨B_,?_⟩;apply BD;have z9:=m9.size;have b8:¬F O:=B_;refine BI (vs:=r) Z hg.one (by grind[Bg.T_,Ai]) λw7 U N _=>⟨(by grind[AF.mono]),.inr ⟨l,g,O,r,F',I,J,Q,rfl,hg.T_ U λx _ V e=>?_,N,λx V=>?_,ay.T_ U λx V e=>V.elim (λV=>?_) (by grind[Au.ss]),?_⟩⟩;grind[Au.cf];have:=U.size;grind;grind;exact(((gd.trans g8).mono λ_ _ h=>h.elim:AF F W w8).trans m9).next U E
def sL(hh:Fa F W b ks h)(ak:h.op=false)(a1:h.us.length<=65536)(a6:h.rs.length<=65536)(hF:∀x,F x->x<W.heap.size)(hb:∀g∈h.rs,Av g.d<=1099511627776) : l_ 43 [e_ b] (λv' w'=>(h.rs=[]/\∃ cv,v'=.tuple #[cv,zIq 10]/\AG W w')\/ ∃ l g cv n,h.rs=l++[g]/\v'=.tuple #[cv,zIq 0]/\W.heap.size<=n/\Bs n w' cv g.d/\∃ F',(∀ x,F' x->(F x\/W.heap.size<=x)/\x < n)/\Fa F' w' b ks { h with us:=h.us++[g],rs:=l }/\n<=w'.heap.size/\AF F W w') W:=by
 refine I_ func43 ?_ (.y (.y (.cut [4,5] [(4,5),(9,19)] (.dt [7,11,12] (i_ [0,0,2,6,0,16,48,127,255,511,511,0,3071,8191]) [[7]] (.op 0 (.op 1 (.op 2 (.op 3 (.op 4 (.op 5 (.op 6 (.br (.op 7 (.op 8 (.op 9 (.op 10 (.op 11 (.op 12 (.op 13 .nil))))))) (.op 11 (.op 7 (.op 8 (.op 9 (.op 10 (.op 12 (.op 13 .nil)))))))))))))))) .nil)));apply AA (FJ hh);rintro _ _ ⟨rfl,rfl⟩;rename c_=>W;obtain ⟨C,sv,uv,rv,ov,hR⟩:=hh;rw [ak] at hR;rw [Aj];apply AM;refine AT (λvs X=>(h.rs=[]/\∃ O,vs=[e_ O,zIq 10]/\(∀ j v,([g_,g_]:U_)[j]?=some v->X.cell? ((⟨O,0,none⟩:Addr).add j)=some v)/\AG W X)\/
  ∃ l g O r F' I J,h.rs=l++[g]/\vs=[e_ O,zIq 0]/\CL C X r g/\(∀ j v,r[j]?=some v->X.cell? ((⟨O,0,none⟩:Addr).add j)=some v)/\(∀ x,F' x->(F x\/W.heap.size<=x)/\x < X.heap.size)/\Au F' C X b sv ks I J ov h.max (h.us++[g]) l false h.Ba/\AF F W X) ?_ ?_
 rintro _ X (⟨hn,O,rfl,hc,g2⟩|⟨l,g,O,r,F',I,J,Q,rfl,⟨dv,uu,rfl,hd,hu⟩,hc,Y,b0,m2⟩) _;simp only[Ha];rw[AE];apply AI (hc 0 _ rfl);apply AA (EK (S:=λ_=>False) (D:=λ_=>False) (x:=[]) Al.nil (by simp[Av]));grind[AF.trans];simp only[Ha];rw[AE];apply AI (hc 0 _ rfl);refine AA (EK hd B_) ?_;rintro cv w3 ⟨o3,g3⟩;exact .inr ⟨l,g,cv,X.heap.size,Q,rfl,m2.size,o3,F',Y,⟨C,sv,I,J,ov,by grind[Au.S_]⟩,g3.size,(by grind[AF.next])⟩;have gd:=gdr W;have zd:W.drew.heap.size=W.heap.size:=rfl;apply Ac (λk y=>(k=7/\F y)\/(k=12/\W.heap.size<=y));apply AJ;rw[AE,AH];apply AJ;rw[AE,AH];refine⟨?_,?_⟩;apply AA (V2 (hR.S_ gd) a1 a6 hF);rintro _ w5 (⟨hn,rfl,g5⟩|⟨l,g,r,F',I,J,Q,rfl,Z,hg,Y,a7,m5⟩);refine⟨g5.mono G_,?_⟩;apply BD;refine Ce λO w6 a8 al g6 _ an=>⟨B_,?_⟩;have z5:=g5.size;refine BI (vs:=[g_,g_]) rfl (λu hu=>by simp at hu;subst hu;rfl) E λw7 U N _=>⟨(by grind[AF.mono]),.inl ⟨hn,O,rfl,N,(by grind[AF.trans,AF.next])⟩⟩;refine⟨B_,?_⟩;apply BD;refine Ce λO w6 a8 al g6 _ an=>⟨B_,?_⟩;have z5:=m5.size;have aa:=hg.T_ g6 E';have av:=a7.S_ g6;refine BI (vs:=r) Z aa.one E λw7 U N _=>⟨(by grind[AF.mono]),.inr ⟨l,g,O,r,F',I,J,Q,rfl,aa.T_ U λx _ V e=>?_,N,λx V=>?_,av.T_ U λx V e=>V.elim (λV=>?_) (by grind[Au.ss]),?_⟩⟩;have:=(a7.cf x V).2;omega;have:=U.size;grind;grind;exact(((gd.mono λ_ _ h=>h.elim:AF F W W.drew).trans m5).next g6 G_).next U E
 refine Ce λO w8 a8 b6 g8 _ b7=>⟨B_,?_⟩;have z8:=g8.size;have ax:∀x,F x->x<w8.heap.size:=B_;apply AA (V2 ((hR.S_ gd).S_ g8) a1 a6 ax);rintro _ w9 (⟨hn,rfl,g9⟩|⟨l,g,r,F',I,J,Q,rfl,Z,hg,Y,ay,m9⟩);refine⟨g9.mono G_,?_⟩;apply BD;refine BI (vs:=[g_,g_]) rfl (λu hu=>by simp at hu;subst hu;rfl) (by grind[Bg.T_]) λw7 U N _=>⟨(by grind[AF.mono]),.inl ⟨hn,O,rfl,N,(by grind[AF.trans,AF.next])⟩⟩;refine⟨B_,?_⟩;apply BD;have z9:=m9.size;have b8:¬F O:=B_;refine BI (vs:=r) Z hg.one (by grind[Bg.T_,Ai]) λw7 U N _=>⟨(by grind[AF.mono]),.inr ⟨l,g,O,r,F',I,J,Q,rfl,hg.T_ U λx _ V e=>?_,N,λx V=>?_,ay.T_ U λx V e=>V.elim (λV=>?_) (by grind[Au.ss]),?_⟩⟩;grind[Au.cf];have:=U.size;grind;grind;exact(((gd.trans g8).mono λ_ _ h=>h.elim:AF F W w8).trans m9).next U E
end
structure HL (w0:c_) (F:d_) (W:c_) (b:Nat) (ks:HKs) (h:Hist):Prop where
 Yz:Fa F W b ks h
 hF:∀x,F x->w0.heap.size<=x/\x<W.heap.size
 g:AG w0 W
section
variable {w0 W W':c_}{F:d_}{b:Nat}{ks:HKs}{h h':Hist}
def HL.S_(j:HL w0 F W b ks h)(g:AG W W'):HL w0 F W' b ks h:=⟨j.Yz.S_ g,λx I=>⟨(j.hF x I).1,Mp (j.hF x I).2 g.size⟩,j.g.trans g⟩
theorem HL.after(j:HL w0 F W b ks h)(ha:RH F W W' b ks h'):∃F',HL w0 F' W' b ks h'/\(∀x,F' x->F x\/W.heap.size<=x)/\AF F W W':=by
 obtain⟨F',h1,N,I⟩:=ha;have s:=I.size;have O:=j.g.size;refine⟨F',⟨N,λx J=>?_,j.g.next I λx J e=>by have:=(j.hF x e).1;omega⟩,λx J=>?_,I⟩;rcases h1 x J with e|e;have:=j.hF x e;omega;omega;grind
theorem HL.push{S D S' D':d_}{x y:U'}(N:HL w0 F W b ks h)(j:h.op=false)(hl:h.us.length<=h.max)(I:h.max<=65536)(O:Ag S D W dv x)(hu:Ag S' D' W v y)(Q:Av x<=1099511627776)(J:Av y<=1099511627776) :
  l_ 94 [e_ b,dv,v] (λv' w'=>v'=zIq 0/\∃F',HL w0 F' w' b ks { h with us:=HT h.max h.us ⟨x,y⟩,rs:=[] }/\(∀x,F' x->F x\/W.heap.size<=x)/\AF F W w') W:=
 AA (qq N.Yz j hl I O hu Q J λx U=>(N.hF x U).2) (by grind[HL.after])
def HL.vu(j:HL w0 F W b ks h)(J:h.op=false)(N:h.us.length<=65536)(O:h.rs.length<=65536)(hb:∀g∈h.us,Av g.u<=1099511627776) : l_ 41 [e_ b] (λv' w'=>(h.us=[]/\∃ cv,v'=.tuple #[cv,zIq 10]/\AG W w')\/ ∃ l g cv n F',h.us=l++[g]/\v'=.tuple #[cv,zIq 0]/\W.heap.size<=n/\Bs n w' cv g.u/\HL w0 F' w' b ks { h with us:=l,rs:=h.rs++[g] }/\(∀ x,F' x->(F x\/W.heap.size<=x)/\x < n)/\AF F W w') W:=by
 apply AA (pn j.Yz J N O (λx I=>(j.hF x I).2) hb);rintro v w' (h1|⟨l,g,cv,n,h1,V,X,Y,F',Q,Z,h7,U⟩);grind;have s0:=j.g.size;refine .inr ⟨l,g,cv,n,F',h1,V,X,Y,⟨Z,λx I=>?_,j.g.next U λx I e=>by have:=(j.hF x e).1;omega⟩,Q,U⟩;obtain⟨e,hn⟩:=Q x I;rcases e with e|e;exact⟨(j.hF x e).1,E⟩;omega
def HL.uM(j:HL w0 F W b ks h)(J:h.op=false)(N:h.us.length<=65536)(O:h.rs.length<=65536)(hb:∀g∈h.rs,Av g.d<=1099511627776) : l_ 43 [e_ b] (λv' w'=>(h.rs=[]/\∃ cv,v'=.tuple #[cv,zIq 10]/\AG W w')\/ ∃ l g cv n F',h.rs=l++[g]/\v'=.tuple #[cv,zIq 0]/\W.heap.size<=n/\Bs n w' cv g.d/\HL w0 F' w' b ks { h with us:=h.us++[g],rs:=l }/\(∀ x,F' x->(F x\/W.heap.size<=x)/\x < n)/\AF F W w') W:=by
 apply AA (sL j.Yz J N O (λx I=>(j.hF x I).2) hb);rintro v w' (h1|⟨l,g,cv,n,h1,V,X,Y,F',Q,Z,h7,U⟩);grind;have s0:=j.g.size;refine .inr ⟨l,g,cv,n,F',h1,V,X,Y,⟨Z,λx I=>?_,j.g.next U λx I e=>by have:=(j.hF x e).1;omega⟩,Q,U⟩;obtain⟨e,hn⟩:=Q x I;rcases e with e|e;exact⟨(j.hF x e).1,E⟩;omega
end
def AB.dW{B e k:Nat}{R:c_->U_->α->Prop}{x:α}(I:B<=w.heap.size)(j:cs.length=k)(h1:∀u∈cs,u.oneCell'=true)(J:R (w.alloc (.cells cs.toArray e)) cs x) : AB B e k R (w.alloc (.cells cs.toArray e)) (.slice (f_ w.heap.size) 1 1) [x]:=by
 refine⟨[cs],⟨by simp[j],.inr ⟨w.heap.size,1,cs.toArray,rfl,I,aBm w _,E_,by simp[maxLen],by simp[j],by simp[<-j]⟩⟩,rfl,λr hr=>?_,λi r y hr N=>?_⟩;grind;grind
def El.cut{b:Nat}{s:MkS}(h:El F W b s):El (λx=>F x/\x<W.heap.size) W b s:=by
 obtain⟨dv,Z,C,I,h⟩:=h;refine⟨dv,Z,C,I,h.c0,h.c1,h.c2,h.lv,⟨h.fb,lA W _ h.c0⟩,h.nb,λx V=>⟨h.cf x V,(h.cf x V).2⟩,h.done,λg J=>⟨⟨(h.dF g J).1,(AB.Am h.done g J).2⟩,(h.dF g J).2⟩,?_⟩;rcases h.Aq with h0|⟨g,c,hh,X,e2,Y,e4,e5,e6,e7,e8,e9,N,O,Q,j,U⟩;grind;exact .inr ⟨g,c,hh,X,e2,Y,⟨e4,(AB.Am Y g (by rw[X];rfl)).2⟩,e5,e6,e7,⟨e8,j⟩,e9,N,O,Q,j,U⟩
def X5(W0:c_)(F0:d_)(W:c_)(b:Nat)(s:MkS):Prop:=∃F:d_,El F W b s/\(∀x,F x->(F0 x\/W0.heap.size<=x)/\x<W.heap.size)/\AF F0 W0 W
section
variable {W0 W W':c_}{F0 F F1:d_}{b:Nat}{s s':MkS}
def X5.start(h:El F0 W0 b s):X5 W0 F0 W0 b s:=⟨_,h.cut,λx j=>⟨.inl j.1,j.2⟩,AF.refl _ _⟩
def X5.S_(h:X5 W0 F0 W b s)(g:AG W W'):X5 W0 F0 W' b s:=by
 obtain⟨F,h1,j,J⟩:=h;exact⟨F,h1.T_ g C_,λx I=>⟨(j x I).1,Mp (j x I).2 g.size⟩,(by grind[AF.next])⟩
def X5.next(Q:∀x,F x->(F0 x\/W0.heap.size<=x))(I:AF F0 W0 W)(J:El F1 W' b s')(N:∀x,F1 x->F x\/W.heap.size<=x)(O:AF F W W'):X5 W0 F0 W' b s':=by
 refine⟨_,J.cut,λx j=>⟨?_,j.2⟩,I.next O λx j e=>?_⟩;rcases N x j.1 with e|e;grind;exact .inr (py I.size e);grind
end
section
variable {ks:X'}
theorem E3.m{l:V_}(h:E3 ks l):JS l<=64:=by rw[JC];exact h.2.1
theorem EX.m{l:W_}(h:EX ks l):Jd l<=64:=by rw[Kf];exact h.2.1
theorem An.m{o:Dop}(h:An ks o):EN o<=66*Ah o/\1<=Ah o:=by
 have j:JS []=0:=rfl;have I:Jd []=0:=rfl;rcases h with⟨h1,J,N,O,Q⟩|⟨h1,J,N,O,Q⟩|⟨h1,J,N,O,Q,U⟩;grind[EX.m,EN,Ah];grind[EN,Ah];grind[E3.m,List.length_pos_iff,EN,Ah]
def An.sp{o:Dop}(h:An ks o):True/\E3 ks o.set/\EX ks o.AU:=by
 rcases h with⟨_,_,e,_,p⟩|⟨_,_,e,p,_⟩|⟨_,_,_,p,_,q⟩<;>grind[Im,Io]
def Qc{l:U'}(h:∀o∈l,An ks o):Av l<=66*BB l/\l.length<=BB l:=by
 induction l<;>grind[Av,BB,An.m]
def Fk.tJ{s:MkS}{t:Nat}(h:Fk (E3 ks) (EX ks) s t)(ht:t<=2147483648):Av s.done+Av s.Aq<=274877906944/\s.done.length+s.Aq.length<=2147483648/\∀o∈s.Aq,o.AZ.length<=2147483648:=by
 have h1:=Qc h.done;have I:=Qc λo j=>(h.Aq o j).1;have J:=h.Ey;refine⟨E,E,λo j=>?_⟩;have:=MJ j;have k2:=(h.Aq o j).2;grind[Ah]
def Uj{F D:d_}{b t:Nat}{s:MkS}{r:U_}{o:Dop}(hm:El F W b s)(hr:B0 D W r o)(N:∀x,D x->¬F x)(V:Fk (E3 ks) (EX ks) s t)(X:An ks o)(ht:t+Ah o<=2147483648) : l_ 331 [e_ b,.agg r.toArray] (λ_ w'=>X5 W F w' b (BF s o)) W:=by
 refine H_ func331 ?_;obtain⟨q1,q2,q3⟩:=V.tJ E;have KM:=An.sp X;have O:=KM.2.2.2.1;have Q:=KM.2.1.2.1;refine CN λb3 J Y Z U j _=>?_;have I:El F J b s:=by grind[El.T_]
 obtain⟨rv,sv,pv,rfl,h1,h2,h3⟩:=hr.T_ (D':=D) U E' C_;rw[AE];apply AI (j 0 _ rfl);rw[CI];have nx:∀w',El (λx=>F x\/J.heap.size<=x) w' b (BF s o)->AF F J w'->X5 W F w' b (BF s o):=λw' q m=>X5.next (F:=F) (λx hx=>.inl hx) (U.mono G_) q M_ m;refine Ae (λk1=>?_) λk1=>?_;rw[AE];apply AI (j 1 _ rfl);rw[AE];apply AI (j 4 _ rfl);refine AA (EI I h3 N E E) ?_;rintro _ w' ⟨q,m⟩;grind[BF];refine eqP (λk2=>?_) λk2=>?_;have hl:Ah o=o.AZ.length:=by simp[Ah,k2]
 rw[AE];apply AI (j 2 _ rfl);rw[AE];apply AI (j 3 _ rfl);refine AA (ID I h1 h2 N E B_ E E) ?_;rintro _ w' ⟨q,m⟩;grind[BF];rw[AE];apply AI (j 1 _ rfl);apply AA (Ja I);rintro _ w' ⟨q,m⟩;grind[BF,El.sub]
theorem Tu(I:ks.length<=64){s:MkS}{t:Nat}(set:V_)(p:W_)(j:E3 ks set)(hp:EX ks p):∀(rs:V'),(∀r∈rs,DZ r)->Fk (E3 ks) (EX ks) s t->t+rs.length<=2147483648->Fk (E3 ks) (EX ks) (rs.foldl (λs r=>I7 s [r] (IZ ks set p r)) s) (t+rs.length):=by
 intro rs;induction rs using Hu with
 |h0=>grind
 |h1 rs r J=>
  intro hr h ht;simp only[Bp,cO,aAu] at ht ⊢;rw[aAj];have h1:=J (λq N=>hr q (by simp[N])) h E;have:=Gm h1 (o:=⟨2,0,[r],IZ ks set p r,[]⟩) (.inr (.inr ⟨rfl,by simpa using hr r E_,rfl,rfl,E_,L0 I j hp r⟩)) (by simp[Ah];omega);grind[BF,Ah]
def oq{A_ F D D':d_}{b t:Nat}{s:MkS}{r r':U_}{u v:Dop}(Y:ks.length<=64)(hS:CG A_ W sv ks)(hE:∀x,A_ x->¬F x)(hm:El F W b s)(hF:∀x,F x->x<W.heap.size)(hr:B0 D W r u)(hD:∀x,D x->¬F x)(an:B0 D' W r' v)(c4:∀x,D' x->¬F x) (hs:Fk (E3 ks) (EX ks) s t)(hu:An ks u)(hv:An ks v)(ht:t+Ah u<=2147483648)(hl:Ah u=Ah v)(hk:v.AR≠2) : l_ 334 [sv,e_ b,.agg r.toArray,.agg r'.toArray] (λ_ w'=>X5 W F w' b (IM ks s u v)) W:=by
 refine N_ func334 ?_ (.y (.cut [11] [(11,19)] .nil (.z (.dm [7,8] [0,0,2,0,8,0,32,120,255]) (.y (.y (.y (.x (.y (.node [44] [(9,10),(44,63)] .nil .nil)))))))));obtain⟨q1,q2,q3⟩:=hs.tJ E;have fu:=An.sp hu;have fv:=An.sp hv;have c7:=fu.2.2.2.1;have c8:=fv.2.2.2.1;have c9:=fu.2.1.2.1;refine CN λb6 w1 ca cc g1 cq _=>CN λb7 Q cu cx g2 N _=>?_;have I:=g1.trans g2;have Z:El F Q b s:=by grind[El.T_]
 have st:X5 W F Q b s:=(X5.start hm).S_ I;obtain⟨rv,uv,pv,rfl,h1,h2,h3⟩:=hr.T_ (D':=D) I E' C_;obtain⟨av,ax,a8,rfl,k1,k2,k3⟩:=an.T_ (D':=D') I E' C_;have c6:∀j x,([.int .u8 u.AR,zIq u.n,rv,uv,pv]:U_)[j]?=some x->Q.cell? ((⟨b6,0,none⟩:Addr).add j)=some x:=by grind[AF.cell]
 have n6:¬F b6:=B_;have n7:¬F b7:=B_;have nx:∀{w3 w' s'},AG Q w3->El (λx=>F x\/w3.heap.size<=x) w' b s'->AF F w3 w'->X5 W F w' b s':=λg q m=>X5.next (F:=F) (λx hx=>.inl hx) ((I.trans g).mono G_) q M_ m;refine AT (λvs w3=>w3=Q/\vs=[.bool (decide (u.AR=1)&&decide (v.AR=1))]) ?_ ?_;rotate_left;rw[AE];apply AI (c6 0 _ rfl);refine eqP (λU=>?_) λU=>?_;rw[AE];apply AI (N 0 _ rfl);rw[CI];exact B_;exact B_;rintro _ _ ⟨rfl,rfl⟩ _;rename c_=>Q;rw[Bh,HK];by_cases U:u.AR=1;rw[ys U,aCf];refine Ae (λkv=>?_) λkv=>?_;have V:=gdr Q;apply Ac (λq y=>q=8/\F y);rw[AE];refine AP ⟨V.cell (N 1 _ rfl) F_,(by grind[Ai])⟩ ?_;rw[AE];refine AP ⟨V.cell (c6 4 _ rfl) F_,(by grind[Ai])⟩ ?_;rw[AE];refine AP ⟨V.cell (N 4 _ rfl) F_,(by grind[Ai])⟩ ?_;refine AA (pj (h3.S_ V C0 C_) (k3.S_ V C0 C_) E) ?_;rintro cv w4 ⟨o4,g4⟩;refine⟨B_,?_⟩;have bp:=(Nz Y fu.2.2 fv.2.2).2.1;refine AA (EI (Z.T_ (V.trans g4) C_) (Al.sub (AB.sl o4) (λx _ h=>h.1) C0 C_) (λx hx hf=>by have:=hF x hf;have:=(I.trans V).size;omega) E E) ?_;rintro _ X ⟨q,m⟩;refine⟨B_,nx (V.trans g4) ?_ m⟩;grind[IM];rw[AE];apply AI (c6 0 _ rfl);refine eqP (λ_=>?_) λe=>(e U).elim;rw[AE];apply AI (N 1 _ rfl);apply AA (Ja Z);rintro _ X ⟨q,m⟩;grind[AF.refl,IM,El.sub]
 .rw[zk U,aCB];apply AM;rw[AE];apply AI (c6 0 _ rfl);refine eqP (λe=>(U e).elim) λ_=>?_;rw[AE];apply AI (N 0 _ rfl);refine eqP (λkv=>?_) λkv=>?_;rotate_left;rw[IM,By U,By kv];exact st;have da:u.AR=2\/u.AR=3:=by rcases hu with⟨h,_⟩|⟨h,_⟩|⟨h,_⟩<;>omega
  have bs:u.AZ.length<=Ah u/\∀x∈u.AZ,DZ x:=by
   rcases hu with⟨h,_⟩|⟨h,e,_⟩|⟨h,e,_⟩;omega;grind;grind[Ah]
  obtain⟨ra,rc,rfl,_⟩:=h1.AK;rw[AE];apply AI (c6 2 _ rfl);rw[AO,IM,By U,Ix kv];refine Aa (λvs O=>∃(i:Nat) (F3:d_),i<=u.AZ.length/\vs=[zIq i]/\El F3 O b ((u.AZ.take i).foldl (λs r=>I7 s [r] (IZ ks u.set v.AU r)) s)/\(∀x,F3 x->(F x\/Q.heap.size<=x)/\x<O.heap.size)/\AF F Q O) (λvs _=>u.AZ.length-Da vs 0)
   ⟨0,_,Lc _,rfl,Z.cut,B_,AF.refl _ _⟩ ?_
  rintro vs O ⟨i,F3,hi,rfl,a1,a6,m3⟩ _;rw[Bh,HK,DX];have ay:=Tu Y u.set v.AU fu.2.1 fv.2.2 (u.AZ.take i) B_ hs B_;obtain⟨e1,e2,e3⟩:=ay.tJ B_;refine Ae (λdk=>?_) λdr=>?_;rotate_left;have:i=u.AZ.length:=E;subst this;rw[WL] at a1;exact⟨_,a1,B_,(I.mono λ_ _ e=>e.elim:AF F W Q).trans m3⟩;have J:i<u.AZ.length:=E;have z3:=m3.size;have b0:LQ D O (.slice ra u.AZ.length rc) u.AZ:=h1.mono C_ (by grind[AF.Ak]) C0 C_;have aa:Bo D O uv u.set:=h2.mono C_ (by grind[AF.Ak]) C0 C_;have b8:DY D' O a8 v.AU:=k3.mono C_ (by grind[AF.Ak]) C0 C_;have b9:CG A_ O sv ks:=(hS.S_ I).T_ m3 B_;have ba:∀j x,([.int .u8 u.AR,zIq u.n,.slice ra u.AZ.length rc,uv,pv]:U_)[j]?=some x->O.cell? ((⟨b6,0,none⟩:Addr).add j)=some x:=by grind[AF.cell,Ai]
  have bb:∀j x,([.int .u8 v.AR,zIq v.n,av,ax,a8]:U_)[j]?=some x->O.cell? ((⟨b7,0,none⟩:Addr).add j)=some x:=by grind[AF.cell,Ai]
  obtain ⟨p,q,rfl,_,hq,hc,rfl⟩:=b0.get J;apply AV J;apply AI (by have:=hc 0 _ rfl;rwa [aB9] at this ⊢);rw [AE];apply AI (ba 3 _ rfl);obtain ⟨ua,uc,rfl,_⟩:=aa.AK;refine ⟨#[.int .i32 u.AZ[i],.slice ua u.set.length uc],D_,?_⟩;dsimp only;rw [AE];apply AI (bb 4 _ rfl);refine AA (Xw b9 aa b8 E) ?_;rintro _ w4 ⟨cv,rfl,o4,g4⟩;refine BA (vs:=[.int .i32 u.AZ[i],cv]) rfl rfl (λy hy=>by simp at hy;rcases hy with rfl | rfl;rfl;exact ((AB.one o4).1)) λdz X bx dT g5 ak _=>?_;rw [AE];apply AI (ak 0 _ rfl);refine ET (cs:=[.int .i32 u.AZ[i]]) D_ ?_;have g6:AG X (X.alloc (.cells [Value.int .i32 u.AZ[i]].toArray 21)):=AF.alloc _ _ _;have o6:AB X.heap.size 21 1 Bk (X.alloc (.cells [Value.int .i32 u.AZ[i]].toArray 21)) (.slice (f_ X.heap.size) 1 1) [u.AZ[i]]:=AB.dW (DN _) rfl (λy hy=>by simp at hy;subst hy;rfl) rfl;generalize X.alloc (.cells [Value.int .i32 u.AZ[i]].toArray 21)=w6 at g6 o6 ⊢;rw [AE];refine AI (g6.cell (ak 1 _ rfl) F_) ?_;have a7:=(g4.trans g5).trans g6;have e4:=a7.size;have z5:=(g4.trans g5).size;have bk:El F3 w6 b _:=a1.T_ a7 C_;have al:=(L0 Y fu.2.1 fv.2.2 u.AZ[i]).2.1;refine AA (ID (S:=λx=>O.heap.size<=x) bk (Al.sub (AB.sl o6) E C0 C_) (Al.sub (AB.sl (AB.T_ o4 (g5.trans g6) C_ λ_ _ _ h=>h)) (λx _ h=>h.1) C0 C_)
   (λx hx hf=>by have:=(a6 x hf).2;omega) E (λo ho=>by have:=e3 o ho;simp only [cO,aAu];omega) E_ E) ?_
  rintro _ w7 ⟨bl,m7⟩;rw[AQ,AL E];refine⟨⟨i+1,λx=>(F3 x\/w6.heap.size<=x)/\x<w7.heap.size,J,rfl,?_,λx hx=>?_,(m3.next a7 G_).next m7 λx hx e=>?_⟩,by rw[DW,DW];omega⟩;rw[No,Hc J,Option.toList,aAj];exact bl.cut;refine⟨?_,hx.2⟩;rcases hx.1 with e|e;exact(a6 x e).1;omega;rcases(a6 x e).1 with e|e;exact e;omega
end
section
variable {ks:X'}
def TU{o:Dop}{n:Nat}(h:An ks o)(h1:1<=n)(N:n<=Ah o):An ks (ER n o):=by
 rcases h with⟨k1,k2,j,I,J⟩|⟨k1,k2,j,I,J⟩|⟨k1,k2,j,I,J,O⟩;unfold ER;rw[By E];exact .inl ⟨k1,k2,j,by simp only;omega,J⟩;unfold ER;rw[By E];exact .inr (.inl ⟨k1,k2,j,I,by simp only;omega⟩);unfold ER;rw[Ix k1];simp only[Ah,k1,aAh] at N;refine .inr (.inr ⟨rfl,B_,j,I,?_,O⟩);intro e;have:=r9 List.length e;grind
def fT{o:Dop}{n:Nat}(h:An ks o)(J:n<Ah o):An ks (Eh n o):=by
 rcases h with⟨k1,k2,j,I,N⟩|⟨k1,k2,j,I,N⟩|⟨k1,k2,j,I,N,O⟩;unfold Eh;simp only[Ah,show o.AR≠2 by omega,aAW] at J;rw[By E];exact .inl ⟨k1,k2,j,by simp only;omega,N⟩;unfold Eh;simp only[Ah,show o.AR≠2 by omega,aAW] at J;rw[By E];exact .inr (.inl ⟨k1,k2,j,I,by simp only;omega⟩);unfold Eh;rw[Ix k1];simp only[Ah,k1,aAh] at J;refine .inr (.inr ⟨rfl,B_,j,I,?_,O⟩);intro e;have:=r9 List.length e;grind
def Vn{n:Nat}{x:U'}(h:∀o∈x,An ks o):∀o∈CT n x,An ks o:=by
 cases x with
 |nil=>intro o j;simp[CT] at j
 |cons a x=>
  intro o j;simp only[CT] at j;split at j;rcases S6.1 j with rfl|j;exact fT (h a E_) (by assumption);exact h o (by simp[j]);exact h o (by simp[j])
abbrev SP(ks:X')(o:Dop):Prop:=An ks o/\Ah o<=536870912
def OC{n:Nat}{x:U'}(h:∀o∈x,SP ks o):∀o∈CT n x,SP ks o:=by
 refine λo j=>⟨Vn (λo j=>(h o j).1) o j,?_⟩;cases x<;>grind[CT,HB]
theorem Fk.Ma{PS:V_->Prop}{PP:W_->Prop}{s:MkS}{t t':Nat}(h:Fk PS PP s t)(ht:t<=t'):Fk PS PP s t':=⟨h.done,h.Aq,h.Ar,py h.Ey ht⟩
def eF(j:ks.length<=64){s:MkS}{t n:Nat}{u v:Dop}(J:Fk (E3 ks) (EX ks) s t)(hu:An ks u)(I:An ks v)(h1:Ah u=n)(Q:Ah v=n)(hk:v.AR≠2)(U:u.AR≠3)(Y:1<=n)(ht:t+n<=2147483648):Fk (E3 ks) (EX ks) (IM ks s u v) (t+n):=by
 have fu:=An.sp hu;have V:=An.sp I;have Z:v.AR=1\/v.AR=3:=by rcases I with⟨h,_⟩|⟨h,_⟩|⟨h,_⟩<;>omega
 have uk:u.AR=1\/u.AR=2:=by rcases hu with⟨h,_⟩|⟨h,_⟩|⟨h,_⟩<;>omega
 have ln:v.n=n:=by
  grind[Ah]
 unfold IM;by_cases N:u.AR=1
 .rw[Ix N];by_cases O:v.AR=1
  .rw[Ix O];have:=Gm J (o:=⟨1,v.n,[],[],GW u.AU v.AU⟩) (.inl ⟨rfl,rfl,rfl,by simp only;omega,Nz j fu.2.2 V.2.2⟩) (by grind[Ah]);grind[Ah,BF]
  .rw[By O];have X:v.AR=3:=E;have:=Gm J I E;rw[Q] at this;simpa[BF,X] using this
 rw[By N];split;have hl:u.AZ.length=n:=by grind[Ah]
 have hr:∀r∈u.AZ,DZ r:=by
  rcases hu with⟨h,_⟩|⟨h,_⟩|⟨h,e,_⟩<;>grind
 grind[Tu];grind[Fk.Ma]
def nz{P:Int->As->Prop}{x y:U'}(O:∀o∈x,(∀a∈o.set,P a.key a.val)/\∀c∈o.AU,P c.key c.val)(j:∀o∈y,(∀a∈o.set,P a.key a.val)/\∀c∈o.AU,P c.key c.val):∀z∈EL (Ez ks) (CB x) (CB y),(∀a∈z.set,P a.key a.val)/\∀c∈z.AU,P c.key c.val:=by
 have one:∀{l:U'},(∀o∈l,(∀a∈o.set,P a.key a.val)/\∀c∈o.AU,P c.key c.val)->∀u∈CB l,(∀a∈u.set,P a.key a.val)/\∀c∈u.AU,P c.key c.val:=λ{l} hl u hu=>by
  simp only[CB,aCJ] at hu;obtain⟨o,Q,hu⟩:=hu;obtain⟨_,U,V⟩:=Gl hu;grind
 intro z I;rcases SB I with h|h|⟨u,c,hu,hc,_,h⟩;grind;grind;have iu:(∀a∈u.set,P a.key a.val)/\∀c∈u.AU,P c.key c.val:=by
  grind
 have J:=one j c hc;unfold Ez at h;split at h;split at h;grind;split at h;grind[LZ];grind;split at h;simp at h;subst h;refine⟨λa ha=>?_,E_⟩;rcases KA ha with ha|⟨d,N,_,rfl⟩;grind;exact J.2 d (aAb.1 N).1;grind
def rH{A_ S D S' D':d_}{sv xv yv:b_}{x y:U'}(I:CG A_ w sv ks)(N:Ag S D w xv x)(O:Ag S' D' w yv y)(J:CH w)(Q:∀o∈x,nS o)(U:∀o∈y,nS o)(mx:Bl ks x=0)(V:Bl ks y=0) : l_ 328 [sv,xv,yv] (λv' w'=>v'=zIq 0/\AG w w') w:=by
 refine J_ func328 ?_;apply AA (LY I N J Q);rintro _ X ⟨rfl,j⟩;apply AA (LY (I.S_ j) (Ag.S_ O j) (J.S_ j) U);rintro _ Z ⟨rfl,Y⟩;rw[mx,V];exact eqP (by grind[AF.trans]) λe=>(e rfl).elim
end
section
variable {ks:X'}
def rY(a b:W_)(k:Int):MR (a++b) k=(MR a k).or (MR b k):=by
 grind[MR]
def kD{c:Chg}{k:Int}(hk:c.key<k)(p:W_):MR (Er c p) k=MR p k:=by
 induction p<;>grind[Er,Ip]
def oe{c:Chg}{k:Int}(hk:k<c.key){p:W_}(h:EA p):MR (H7 c p) k=MR p k:=by
 induction p with
 |nil=>rfl
 |cons a p j=>
  rw[EA,u9] at h;rw[H7,Ip];grind[Ip,HV]
def oV{k:Int}:∀{q p:W_},EA p->EA q->MR (GW p q) k=(MR q k).or (MR p k):=by
 intro q;induction q with
 |nil=>intro p _ _;rfl
 |cons c q J=>
  intro p hp I;rw[EA,u9] at I;rw[GW,rY,Ip,Ip,J (UN hp) I.2];rcases Int.lt_trichotomy k c.key with h|h|h;rw[By E,By E,oe h hp,HV (p:=q) λx j=>by have:=I.1 x j;omega,HV (p:=Er c p) (by grind[XH])];grind;rw[Ix h.symm,Ix h.symm,HV (p:=H7 c p) λx j=>by have:=(Ls j).2;omega];rfl;rw[By E,By E,kD h,HV (p:=H7 c p) λx j=>by have:=(Ls j).2;omega];rfl
def Vz{c:Cel}{p q:W_}(j:Dg c.set)(hp:EA p)(I:EA q):CJ ks (GW p q) c=CJ ks q (CJ ks p c):=by
 unfold CJ IZ;simp only;congr 1;generalize decide (c.r=10)=b;have h1:EA (Cg ks b p):=hp.filter _;have J:EA (Cg ks b q):=I.filter _;have N:EA (Cg ks b (GW p q)):=(WZ hp I).filter _;refine aH (FZ j N) (FZ (FZ j h1) J) λk=>?_;rw[LD j N,LD (FZ j h1) J,LD j h1,RO,RO,RO,oV hp I];grind
def T5(h:∀o∈a,One o)(j:IF 0 a)(ht:BG a<=0):Eu a 0=0:=by
 cases a with
 |nil=>rfl
 |cons o a=>
  exfalso;rw[IF] at j;rcases h o E_ with⟨k,_⟩|⟨k,I⟩<;>grind[BG]
def tj:∀(j:Nat) (a b:U') (d:Y_),a.length+b.length<=j->(∀o∈a,One o/\EA o.AU)->(∀o∈b,One o/\EA o.AU)->(∀c∈d,Dg c.set)->BG a<=d.length->BG b<=Eu a d.length->IF d.length a->IF (Eu a d.length) b->Bz ks d (EL (Ez ks) a b)=Bz ks (Bz ks d a) b/\BG (EL (Ez ks) a b)<=d.length/\IF d.length (EL (Ez ks) a b):=by
 intro j;have ak:(1:Int).toNat=1:=rfl;have t2:∀{v:Dop} x,v.AR=2->BG (v::x)=BG x:=by grind[BG]
 have V:∀{v:Dop} x,v.AR≠2->v.n=1->BG (v::x)=BG x+1:=by grind[BG]
 have f2:∀{v:Dop} x m,v.AR=2->IF m (v::x)=(m≠0/\IF m x):=by grind[IF]
 have X:∀{v:Dop} x m,v.AR=3->IF m (v::x)=(m≠1/\IF (m-1) x):=by grind[IF]
 have f1:∀{v:Dop} x m,v.AR=1->IF m (v::x)=IF (m-1) x:=by grind[IF]
 have a8:∀{u v:Dop},u.AR=1->v.AR=1->Ez ks u v=[xS (GW u.AU v.AU)]:=λk k'=>by unfold Ez;rw[Ix k,By E,Ix k'];rfl
 have aa:∀{u v:Dop},u.AR=1->v.AR=3->Ez ks u v=[v]:=by grind[Ez]
 induction j with
 |zero=>
  intro a b d hj _ _ _ ta _ J _;have hb:b=[]:=Of E;subst hb;exact⟨(Rh _).symm,ta,J⟩
 |succ j ih=>
  intro a b d hj hA hB hd ta tb J fb;cases b with
  |nil=>exact⟨(Rh _).symm,ta,J⟩
  |cons v b=>
   obtain⟨hv,vr⟩:=hB v E_;have Y:∀o∈b,One o/\EA o.AU:=λo ho=>hB o (by simp[ho]);simp only[cO] at hj;rcases hv with⟨k,r,hr⟩|⟨k,O⟩;rw[EL,Ix k,N2 k hr,N2 k hr,t2 _ k,f2 _ _ k];rw[t2 _ k] at tb;rw[f2 _ _ k] at fb;obtain⟨N,i2,Q⟩:=ih a b d E hA Y hd ta tb J fb.2;refine⟨by rw[N],i2,λe=>fb.1 ?_,Q⟩;rw[e] at J ta ⊢;exact T5 (λo ho=>(hA o ho).1) J ta;have nk:v.AR≠2:=E;rw[V _ nk O] at tb;cases a with
   |nil=>
    have e0:∀m,Eu [] m=m:=λm=>by simp[Eu,BG,Cs]
    rw[e0] at tb fb;cases d with
    |nil=>simp at tb
    |cons c d=>
     simp only[cO] at tb fb;have Z:∀x∈d,Dg x.set:=λx hx=>hd x (by simp[hx]);have U:IF d.length b:=by
      rcases k with k|k;rwa [f1 _ _ k] at fb;rw[X _ _ k] at fb;exact fb.2
     obtain⟨N,i2,Q⟩:=ih [] b d E hA Y Z (Lc _) (by rw[e0];omega) trivial (by rw[e0];exact U);rw[Rh] at N ⊢;have e:EL (Ez ks) [] (v::b)=Ez ks ⟨1,1,[],[],[]⟩ v++EL (Ez ks) [] b:=by rw[EL,By nk];rfl
     rw[e];rcases k with k|k;rw[a8 rfl k,aBc,au,Ng k O,N,V _ (show(1:Int)≠2 by decide) rfl,f1 _ _ rfl];refine⟨by rw[Vz (hd c E_) List.Pairwise.nil vr];rfl,by simp only[cO];omega,Q⟩;rw[aa rfl k,aBc,Il k O,Il k O,N,V _ nk O,X _ _ k];rw[X _ _ k] at fb;exact⟨rfl,by simp only[cO];omega,fb.1,Q⟩
   |cons u a=>
    obtain⟨hu,ur⟩:=hA u E_;have a1:∀o∈a,One o/\EA o.AU:=λo ho=>hA o (by simp[ho]);simp only[cO] at hj;obtain⟨u2,u3,u1⟩:=vK hu a d.length ta;have a6:u.AR≠3->EL (Ez ks) (u::a) (v::b)=Ez ks u v++EL (Ez ks) a b:=λk3=>by
     rw[EL,By nk,aCq,By (by simp[k3]),aCr,By (by simp[k3])];rfl
    rcases hu with⟨I,r,hr⟩|⟨I,nu⟩;obtain⟨e1,e2⟩:=u2 I;rw[e1] at ta;rw[e2] at tb fb;rw[f2 _ _ I] at J;have U:IF (Eu a d.length) b:=by
     rcases k with k|k;rwa [f1 _ _ k] at fb;rw[X _ _ k] at fb;exact fb.2
    obtain⟨N,i2,Q⟩:=ih a b d E a1 Y hd ta E J.2 U;rw[a6 E,N2 I hr];rcases k with k|k;have e:Ez ks u v=[⟨2,0,[r],IZ ks u.set v.AU r,[]⟩]:=by unfold Ez;rw[By E,Ix k,hr];rfl
    rw[e,aBc,N2 rfl rfl,Ng k O,N,t2 _ rfl,f2 _ _ rfl];exact⟨rfl,i2,J.1,Q⟩;have e:Ez ks u v=[]:=by unfold Ez;rw[By E,By E]
    rw[e,Il k O];exact⟨N,i2,Q⟩;have a7:u.AR≠2:=E;cases d with
    |nil=>rw[V _ a7 nu] at ta;simp at ta
    |cons c d=>
     have Z:∀x∈d,Dg x.set:=λx hx=>hd x (by simp[hx]);rw[V _ a7 nu] at ta;simp only[cO,Nat.add_sub_cancel] at *;rcases I with I|I;obtain⟨e1,e2⟩:=u1 I;rw[e2] at tb fb;rw[f1 _ _ I] at J;have U:IF (Eu a d.length) b:=by
      rcases k with k|k;rwa [f1 _ _ k] at fb;rw[X _ _ k] at fb;exact fb.2
     obtain⟨N,i2,Q⟩:=ih a b d E a1 Y Z E E J U;rw[a6 E,Ng I nu];rcases k with k|k;rw[a8 I k,aBc,au,Ng k O,N,V _ (show(1:Int)≠2 by decide) rfl,f1 _ _ rfl];exact⟨by rw[Vz (hd c E_) ur vr],E,Q⟩;rw[aa I k,aBc,Il k O,Il k O,N,V _ nk O,X _ _ k];rw[X _ _ k] at fb;refine⟨rfl,E,λe=>fb.1 ?_,Q⟩;have e0:d.length=0:=E;rw[e0] at J ta ⊢;rw[T5 (λo ho=>(a1 o ho).1) J E];obtain⟨e1,e2⟩:=u3 I;rw[e2] at tb fb;rw[X _ _ I] at J;obtain⟨N,i2,Q⟩:=ih a (v::b) d (by simp only[cO];omega) a1 hB Z E (by rw[V _ nk O];exact tb) J.2 fb;rw[show EL (Ez ks) (u::a) (v::b)=u::EL (Ez ks) a (v::b) from Wq (A:=[u]) (by simpa using I) nk,Il I nu,Il I nu,N,V _ a7 nu,X _ _ I];exact⟨rfl,E,J.1,Q⟩
def Zx{x y:U'}(hK:∀k∈ks,E9 k)(Q:ks.length<=64)(hd:∀c∈d,Dg c.set)(I:Ii ks x d.length most)(J:Ii ks y (Bz ks d x).length most)(ix:∀o∈x,Is o)(iy:∀o∈y,Is o)(ht:BB x+BB y<=2147483648)(hm:most<=536870912) : Ef ks (Lb ks x y) d.length most=0/\Bz ks d (Lb ks x y)=Bz ks (Bz ks d x) y/\(∀o∈Lb ks x y,Is o)/\(Lb ks x y).length<=BB x+BB y:=by
 have N:=I.DF;have X:=J.DF;have Y:∀o∈x,An ks o:=λo j=>(I.Eo o j).1;have lx:=KX (ks:=ks) Y I.MA;have lu:Eu (CB x) d.length=(Bz ks d x).length:=by rw[N.vM];have:=I.MA;omega
 obtain⟨c1,c2,c3⟩:=tj (ks:=ks) _ (CB x) (CB y) d (DN _) N.one X.one hd N.MA (by rw[lu];exact X.MA) N.HA (by grind[TL.HA]);obtain⟨r1,r2⟩:=iM Q Y λo j=>(J.Eo o j).1;have U:=nz (ks:=ks) (P:=λk v=>k<=9223372036854775807/\Ev v) ix iy;have V:∀z∈EL (Ez ks) (CB x) (CB y),Db ks z:=by
  intro z hz;rcases SB hz with h|h|⟨u,c,hu,hc,k2,h⟩;grind[TL.pl];grind[TL.pl];unfold Ez at h;split at h;split at h;simp at h;subst h;intro e;omega;split at h;simp at h;subst h;intro e;grind;grind;split at h;simp only[uN] at h;subst h;have O:u∈CB x:=B_;refine TX (c:=CJ ks c.AU ⟨u.AZ.headD 0,u.set⟩) (TP ?_);rcases(N.one u O).1 with⟨k,r,hr⟩|⟨k,_⟩;grind[aJ,TL.Eo,TL.pl];rcases N.Eo u O with⟨k',_⟩|⟨_,e1,e2,_⟩|⟨k',_⟩;omega;rw[e1,e2];exact⟨.inl C0,B_⟩;omega;grind
 have rlen:(EL (Ez ks) (CB x) (CB y)).length<=BB x+BB y:=by grind[Po]
 rw[Tq x d I.Sc,Tq y _ J.Sc] at c1;unfold Lb;generalize EL (Ez ks) (CB x) (CB y)=R at *;have Z:∀o∈R,An ks o/\Ah o<=536870912:=B_;have lr:=KX (ks:=ks) (x:=R) (λo j=>(r1 o j).1) c2;have ly:=KX (ks:=ks) (x:=y) (λo j=>(J.Eo o j).1) J.MA;obtain⟨s1,s2⟩:=LX Z E;have p1:=I.DA;have p2:=J.most;rw[c1] at lr;have hf:Ef ks R d.length most=0:=by
  refine(Ca E).2 ⟨(by grind[Ov]),Z,p1,c2,?_,V,E⟩;have:=(aL (n:=(d.length:Int)) (x:=R) (m:=d.length) (by grind[lD]) c2).2 c3;grind
 obtain⟨n1,n2,n3,n4⟩:=Tt hK U E hf;grind
end
def Ua(x:W_)(o:Int):Option W_:=match MR x o with
 |some c=>if c.Ar then some x else none
 |none=>some (GW x [⟨o,true,As.zero⟩])
def KT(x:W_):V'->Option W_
 |[]=>some x
 |o::l=>match Ua x o with
  |some y=>KT y l
  |none=>none
def MT(ks:X')(x:W_):W_->Option W_
 |[]=>some x
 |c::p=>if c.Ar then MT ks x p else match KT x (En ks c.key) with
  |some y=>MT ks y p
  |none=>none
def Qd(ks:X')(p:W_):Option W_:=MT ks p p
section
variable {ks:X'}
theorem WC{r:V'}:∀{l:V'} {x:W_},KT x (l++r)=match KT x l with|some y=>KT y r|none=>none:=by
 intro l;induction l<;>grind[KT]
theorem WX{r:W_}:∀{p:W_} {x:W_},MT ks x (p++r)=match MT ks x p with|some y=>MT ks y r|none=>none:=by
 intro p;induction p<;>grind[MT]
structure bo (ks:X') (p x:W_):Prop where
 uL:EX ks x
 of:∀c∈x,c∈p\/(c.Ar=true/\c.val=As.zero/\∃k∈ks,k.id=c.key)
theorem OU{id o:Int}(h:o∈En ks id):o≠id/\∃k∈ks,k.id=o:=by
 grind[En]
theorem rb{o:Int}(h:∃k∈ks,k.id=o):BW ks o≠none:=by
 obtain⟨k,hk,rfl⟩:=h;intro e;have:=List.find?_eq_none.1 e k hk;grind
def Zt(j:ks.length<=64){p x y:W_}{o:Int}(h:bo ks p x)(I:∃k∈ks,k.id=o)(e:Ua x o=some y):bo ks p y:=by
 unfold Ua at e;split at e;grind;cases e;refine⟨Nz j h.uL ⟨aBs _ _,E_,λc hc=>?_⟩,λc hc=>?_⟩;grind[rb];rcases LZ hc with hc|hc;grind[bo.of];grind
theorem oG(j:ks.length<=64){p:W_}:∀{l:V'} {x y:W_},bo ks p x->(∀o∈l,∃k∈ks,k.id=o)->KT x l=some y->bo ks p y:=by
 intro l;induction l with
 |nil=>intro x y h _ e;cases e;exact h
 |cons o l I=>
  intro x y h J e;rw[KT] at e;split at e;rename_i z N;exact I (Zt j h (J o E_) N) B_ e;cases e
def sM(j:ks.length<=64){p:W_}:∀{q:W_} {x y:W_},bo ks p x->MT ks x q=some y->bo ks p y:=by
 intro q;induction q<;>grind[MT,oG,OU]
def QM(j:ks.length<=64){p y:W_}(h:EX ks p)(e:Qd ks p=some y):bo ks p y:=sM j ⟨h,K_⟩ e
def rN{p:W_}{k:Int}{c:Chg}(h:MR p k=some c):c∈p:=aCK h
def Zg(c:Chg):∃y,Qd ks [c]=some y:=by
 have key:∀(l:V') (x:W_),(∀o∈l,o≠c.key)->(∀d∈x,d.Ar=true\/d.key=c.key)->∃y,KT x l=some y:=by
  intro l;induction l with
  |nil=>intro x _ _;exact⟨x,rfl⟩
  |cons o l J=>
   intro x V j;have h1:∃y,Ua x o=some y/\∀d∈y,d.Ar=true\/d.key=c.key:=by
    unfold Ua;cases e:MR x o with
    |none=>exact⟨_,rfl,λd N=>(LZ N).elim (j d) B_⟩
    |some d=>
     have hk:=qD e;rcases j d (rN e) with I|I;simp only[I,aAh];grind;grind
   obtain⟨y,O,Q⟩:=h1;rw[KT,O];exact J y B_ Q
 unfold Qd;rw[MT];split;exact⟨_,rfl⟩;obtain⟨y,U⟩:=key (En ks c.key) [c] (by grind[OU]) B_;rw[U];exact⟨y,rfl⟩
def bo.vh(j:∀k∈ks,E9 k){p y:W_}(h:bo ks p y)(hp:∀c∈p,c.key<=9223372036854775807/\Ev c.val):∀c∈y,c.key<=9223372036854775807/\Ev c.val:=by
 intro c hc;rcases h.of c hc with h|⟨_,I,k,hk,J⟩;grind;rw[I,<-J];exact⟨by have:=(j k hk).2.1;omega,⟨C0,C0⟩,C0,C0⟩
end
end Go.Proofs.YtjdgbcdfgnajlaaGreatDoor
