/- parts of the proof, written short by a program of ours -/
import Derived.Test.YtjdgbcdfgnajlaaGreatDoorZZZ9
set_option linter.all false
set_option maxRecDepth 100000
namespace Go.Proofs.YtjdgbcdfgnajlaaGreatDoor
open Go Proofs.Tryz
variable {e B:Nat}{S F M:d_}{w W w' W' w0:c_}{v sv fr dv xv:b_}{most key:Int}{a:U'}{α:Type}{rs:V'}{ks:X'}{s:V_}{K:Cont}{P:Program}{d:Y_}{yo xo:Operand}
section
def OL(ks:X')(T:Nat)(g:Grp):Prop:=(∀o∈g.d,An ks o/\nS o)/\(∀o∈g.u,An ks o/\nS o)/\BB g.d<=T/\BB g.u<=T
def P0(ks:X')(Ba:Z_)(g:Grp):Grp:=match Ba with
 |[]=>g
 |a::_=>⟨Lb ks a.d g.d,Lb ks g.u a.u⟩
def OL.m{g:Grp}(h:OL ks e g)(I:e<=2147483648):Av g.d<=1099511627776/\Av g.u<=1099511627776:=by
 have h1:=Qc λo j=>(h.1 o j).1;have J:=Qc λo j=>(h.2.1 o j).1;have:=h.2.2.1;have:=h.2.2.2;omega
def lf(ks:X')(x y:U'):Prop:=EF CU (Lb ks x y)<=536870912/\EF Cr (Lb ks x y)<=536870912
def Z9(ks:X')(Ba:Z_)(g:Grp):Prop:=(Bl ks g.d=0/\Bl ks g.u=0)/\∀a∈Ba,(Bl ks a.d=0/\Bl ks a.u=0)/\lf ks a.d g.d/\lf ks g.u a.u
section
variable {F C C':d_}{W:c_}{b T T':Nat}{sv uv rv ov dv uu:b_}{ks:HKs}{mx:Nat}{us rs Ba:Z_}{op:Bool}{g:Grp}
def rV(hR:Au F C W b sv ks uv rv ov mx us rs op Ba)(hg:CL C' W [dv,uu] g)(h1:Ba.length<=1)(X:ks.l.length<=64)(hT:CH W)(gg:OL ks.l T g)(go:∀a∈Ba,OL ks.l T' a)(gs:Z9 ks.l Ba g)(hb:T+T'<=2147483648) : l_ 165 [e_ b,.agg #[dv,uu]] (λv' w'=>∃Y Z,v'=.tuple #[.agg #[Y,Z],zIq 0]/\CL (λz=>C' z\/W.heap.size<=z/\z<w'.heap.size) w' [Y,Z] (P0 ks.l Ba g)/\AG W w') W:=by
 refine H_ func165 ?_ (.y (.y (.z (.dm [13] [0,1,3,7,0,16,48,112,240,496,1008,0,2048,8191,16383,32767,32767,65535,262143]) (.y (.x (.dm [13] [0,1,3,7,0,16,0,64,192,448,960,1984,4032,8191,16383,32767,32767,65535,262143]))))));refine CN (vs:=[dv,uu]) λb3 w1 ba bb g1 bk _=>Ce λb4 V bl bp g2 _ an=>?_;have O:=g1.trans g2;have Q:=hR.S_ O;have av:=hg.one;apply nfl_i (Q.cells 6 _ rfl);obtain⟨oa,oc,rfl,_⟩:=Q.Ba.AK;rw[AO];refine eqP (λh0=>?_) λh0=>?_;have e0:Ba=[]:=Of E;subst e0;apply AX (vs:=[dv,uu]) rfl (by grind[AF.cell]);refine BI (vs:=[dv,uu]) rfl av E λw3 m3 ax _=>?_;apply AX (vs:=[dv,uu]) rfl ax;exact⟨dv,uu,rfl,hg.to ((by grind[AF.next]):AG W w3) E' λ_ _ h=>.inl h,(by grind[AF.next])⟩;obtain⟨a,rfl⟩:∃a,Ba=[a]:=by
  match Ba,h1,h0 with
  |[],_,h0=>grind
  |[a],_,_=>grind
  |_::_::_,h1,_=>grind
 have ga:=go a E_;have J:=gs.2 a E_;have gd:=gdr V;have N:=Q.S_ gd;have c3:∀j u,([dv,uu]:U_)[j]?=some u->V.drew.cell? ((⟨b3,0,none⟩:Addr).add j)=some u:=by grind[AF.cell]
 obtain⟨p,r,rfl,_,bs,a1,da,ua,rfl,ay,b0⟩:=N.Ba.get (i:=0) E_;have a6:Ag C C V.drew da a.d:=ay;have a7:Ag C C V.drew ua a.u:=b0;obtain⟨bx,c4,e0,b6,b7⟩:=hg;cases e0;have e1:=gg.2.2.1;have e2:=gg.2.2.2;have e3:=ga.2.2.1;have e4:=ga.2.2.2;have g3:=O.trans gd;apply Ac (λ_ _=>False);apply AJ;rw[AE,AH];refine AP ⟨N.cells 0 _ rfl,C_⟩ ?_;apply AJ;rw[AE,AH];refine AP ⟨N.cells 6 _ rfl,C_⟩ ?_;apply AV (j:=0) E_;rw[AE,Addr.add_add];refine AP ⟨a1 0 _ rfl,C_⟩ ?_;rw[AE];refine AP ⟨c3 0 _ rfl,C_⟩ ?_;refine AA (SH X N.Ho a6 (b6.S_ g3) (hT.S_ g3) ga.1 gg.1 J.1.1 gs.1.1 E J.2.1.1 J.2.1.2) ?_;rintro _ w4 ⟨zd,rfl,od,g4⟩;refine⟨g4,BD ?_⟩;refine neP (λ_=>?_) λe=>(e rfl).elim;have a8:=gdr w4;have I:=g4.trans a8;have U:=N.S_ I;apply Ac (λ_ _=>False);apply AJ;rw[AE,AH];refine AP ⟨U.cells 0 _ rfl,C_⟩ ?_;rw[AE];refine AP ⟨I.cell (c3 1 _ rfl) F_,C_⟩ ?_;apply AJ;rw[AE,AH];refine AP ⟨U.cells 6 _ rfl,C_⟩ ?_;refine AV (j:=0) E_ ?_;rw[AE,Addr.add_add];refine AP ⟨I.cell (a1 1 _ rfl) F_,C_⟩ ?_;refine AA (SH X U.Ho (b7.S_ (g3.trans I)) (a7.S_ I) (hT.S_ (g3.trans I)) gg.2.1 ga.2.1 gs.1.2 J.1.2 E J.2.2.1 J.2.2.2) ?_;rintro _ w5 ⟨zu,rfl,ou,g5⟩;refine⟨g5,BD ?_⟩;obtain⟨ca,cc,aa,_⟩:=(Bs.sl od).AK;obtain⟨c6,c7,ak,_⟩:=(Bs.sl ou).AK;refine⟨#[zd,zu],by rw[aa,ak];kernel_rfl,?_⟩;have c8:=O.size;have z3:V.drew.heap.size=V.heap.size:=rfl;have c9:=I.size;have al:=I.trans g5;refine BI (vs:=[zd,zu]) rfl (λu hu=>by simp at hu;rcases hu with rfl|rfl;rw[aa];rfl;rw[ak];rfl) (λj hj=>((an j hj).T_ gd F_).T_ al F_) λw6 m6 b8 _=>?_;apply AX (vs:=[zd,zu]) rfl b8;have z6:=m6.size;have b9:=(g3.trans al).next m6 E
 refine⟨zd,zu,rfl,⟨zd,zu,rfl,?_,?_⟩,b9⟩;exact((Bs.reads od).to (a8.trans g5) E' E' C_ C_).to m6 E E E E;exact(Bs.reads ou).to m6 E E E E
end
section
variable {F C M:d_}{W W':c_}{b T T':Nat}{ks:HKs}{h:Hist}
def lI{S D S' D':d_}{x y:U'}(hh:Fa F W b ks h)(a6:h.op=true)(h1:h.Ba.length<=1)(an:ks.l.length<=64)(hT:CH W)(hd:Ag S D W dv x)(hu:Ag S' D' W v y)(gg:OL ks.l T ⟨x,y⟩)(go:∀a∈h.Ba,OL ks.l T' a)(gs:Z9 ks.l h.Ba ⟨x,y⟩)(hb:T+T'<=2147483648)(hF:∀z,F z->z<W.heap.size) : l_ 94 [e_ b,dv,v] (λv' w'=>v'=zIq 0/\RH F W w' b ks { h with Ba:=[P0 ks.l h.Ba ⟨x,y⟩],rs:=[] }) W:=by
 refine J_ func94 ?_ (.y (.y (.y (.cut [] [(6,6),(8,9),(18,38)] .nil .nil))));apply AA (FJ hh);rintro _ _ ⟨rfl,rfl⟩;rename c_=>W;obtain⟨C,sv,uv,rv,ov,hR⟩:=hh;obtain⟨bx,av⟩:=gg.m E;rw[Aj];apply AM;apply AA (EK hd bx);rintro cv w2 ⟨o2,g2⟩;apply AA (EK (hu.S_ g2) av);rintro Z w3 ⟨o3,g3⟩;have ax:=g2.trans g3;obtain⟨ca,cc,a7,_⟩:=(Bs.sl o2).AK;obtain⟨bb,bk,a8,_⟩:=(Bs.sl o3).AK;refine⟨#[cv,Z],by rw[a7,a8];kernel_rfl,?_⟩;refine BA (vs:=[cv,Z]) rfl rfl (λu hu=>by simp at hu;rcases hu with rfl|rfl;rw[a7];rfl;rw[a8];rfl) λb7 O bl bp g4 ay _=>?_;have z2:=g2.size;have z3:=g3.size;have r2:Ag (λz=>W.heap.size<=z/\z<O.heap.size) (λz=>W.heap.size<=z/\z<O.heap.size) O cv x:=(Bs.reads o2).to (g3.trans g4) E' E' E E;have r3:Ag (λz=>W.heap.size<=z/\z<O.heap.size) (λz=>W.heap.size<=z/\z<O.heap.size) O Z y:=(Bs.reads o3).to g4 E' E' E E;have hg:CL (λz=>W.heap.size<=z/\z<O.heap.size) O [cv,Z] ⟨x,y⟩:=⟨cv,Z,rfl,r2,r3⟩;have N:=ax.trans g4;have Q:=hR.S_ N;refine AT (λ_ J=>∃F' C' U,(∀z,F' z->F z\/W.heap.size<=z/\z<J.heap.size)/\Au F' C' J b sv ks uv rv U h.max h.us h.rs h.op [P0 ks.l h.Ba ⟨x,y⟩]/\AF F W J) ?_ ?_;rintro _ J ⟨F',C',U,bs,b0,m6⟩ _;apply AJ;rw[AE,AH];refine b0.rh (F':=F') (M:=λ_=>False) (AF.refl _ _) L_ M_ (by grind[Au.ss]) (.inl AB.nil) (λg hg=>nomatch hg) λV X m7=>⟨rfl,F',λz hz=>?_,⟨_,sv,uv,_,U,X⟩,(by grind[AF.trans,AF.mono,Au.fb])⟩;have:=m7.size;grind;apply nfl_i (Q.cells 5 _ rfl);rw[a6];apply Ab;apply AX (vs:=[cv,Z]) rfl ay;rw[<-a6];apply AA (rV Q hg h1 an (hT.S_ N) gg go gs hb);rintro _ w5 ⟨j,I,rfl,Y,g5⟩;apply BD;have z4:=N.size;have z5:=g5.size;refine BA (vs:=[j,I]) rfl rfl Y.one λb8 J c4 c6 g6 b6 _=>?_;refine neP (λ_=>?_) λe=>(e rfl).elim;apply AX (vs:=[j,I]) rfl b6;have aa:=Y.to (C':=λz=>W.heap.size<=z/\z<w5.heap.size) g6 E' E;have shp:∃a1 n1 c1 a2 n2 c2,j=.slice a1 n1 c1/\I=.slice a2 n2 c2:=by
  obtain⟨d0,u0,e0,q1,q2⟩:=aa;cases e0;obtain⟨a1,c1,rfl,_⟩:=q1.AK;obtain⟨a2,c2,rfl,_⟩:=q2.AK;grind
 apply ET (cs:=[j,I]) (by obtain⟨_,_,_,_,_,_,rfl,rfl⟩:=shp;kernel_rfl);have g7:AG J (J.alloc (.cells [j,I].toArray Hb)):=AF.alloc _ _ _;have z7:(J.alloc (.cells [j,I].toArray Hb)).heap.size=J.heap.size+1:=E_;have ak:=aa.T_ g7 E';have o7:=AB.dW (DN _) rfl Y.one ak;generalize J.alloc (.cells [j,I].toArray Hb)=V at g7 z7 ak o7 ⊢;have al:=(g5.trans g6).trans g7;have X:=(Q.S_ al).Ma (F':=λz=>F z\/W.heap.size<=z/\z<V.heap.size) (C':=λz=>C z\/W.heap.size<=z/\z<V.heap.size) K_ K_ (by grind[Au.ss]) (by grind[Au.cf]);apply AJ;rw[AE,AH];have b9:Al (λz=>C z\/W.heap.size<=z/\z<V.heap.size) 2 (CL λz=>C z\/W.heap.size<=z/\z<V.heap.size) V (.slice (f_ J.heap.size) 1 1) [P0 ks.l h.Ba ⟨x,y⟩]:=
  Al.sub (AB.sl o7) E C0 λr g hg=>hg.to j0 E' E
 refine X.Y8 b9 λw8 ba m8=>⟨_,_,_,λz hz=>?_,ba,?_⟩;have:=m8.size;grind;exact((N.trans al).mono λ_ _ e=>e.elim:AF F W V).trans (by grind[AF.mono,Au.fb])
def cz(mx:Nat)(us Ba:Z_):Z_:=match Ba with
 |[]=>us
 |g::_=>HT mx us g
def vZ(hh:Fa F W b ks h)(h1:h.Ba.length<=1)(hl:h.us.length<=h.max)(Y:h.max<=65536) : l_ 34 [e_ b] (λv' w'=>(h.op=false/\v'=zIq 9/\w'=W)\/(h.op=true/\v'=zIq 0/\RH F W w' b ks { h with us:=cz h.max h.us h.Ba,op:=false,Ba:=[] })) W:=by
 refine I_ func34 ?_ (.y (.y (.x (.y (.node [20] [(4,4),(20,27)] .nil .nil)))));apply AA (FJ hh);rintro _ _ ⟨rfl,rfl⟩;rename c_=>W;obtain⟨C,sv,uv,rv,ov,Q⟩:=hh;rw[Aj];apply AM;apply nfl_i (Q.cells 5 _ rfl);rw[Aj];cases Z:h.op with
 |false=>exact Ab B_
 |true=>
  rw[Z] at Q;apply AM;apply nfl_i (Q.cells 6 _ rfl);obtain⟨oa,oc,rfl,_⟩:=Q.Ba.AK;rw[AO];refine Aa (λvs V=>∃(i:Nat) (X:d_) (N:b_),i<=h.Ba.length/\vs=[zIq i]/\(∀x,X x->F x\/W.heap.size<=x/\x<V.heap.size)/\Au X C V b sv ks N rv (.slice oa h.Ba.length oc) h.max (cz h.max h.us (h.Ba.take i)) h.rs true h.Ba/\AF F W V) (λvs _=>h.Ba.length-Da vs 0)
   ⟨0,F,uv,Lc _,rfl,K_,Q,AF.refl _ _⟩ ?_
  rintro vs V ⟨i,X,N,hi,rfl,a1,J,m1⟩ _;rw[Bh,HK];refine Cn (λaa=>?_) λak=>?_;have I:i<h.Ba.length:=E;obtain rfl:i=0:=E;obtain⟨p,r,rfl,_,hr,hc,hg⟩:=J.Ba.get I;refine AV (j:=0) E (AX hr (by grind[Addr.add_add]) ?_);refine BA hr rfl hg.one λb4 W2 al an g4 a6 _=>?_;apply AX hr a6;obtain⟨dv,uu,rfl,q1,q2⟩:=id hg;apply AA (Zq (J.S_ g4) hl Y (hg.T_ g4 E'));rintro _ W3 ⟨F3,a7,av,O,U⟩;rw[AQ,AL E];have z1:=m1.size;have z3:=U.size;refine⟨⟨1,F3,a7,I,rfl,λx hx=>?_,?_,(m1.next g4 G_).next U λx hx e=>?_⟩,by grind[DW]⟩;grind;have e1:h.Ba.take 1=[h.Ba[0]]:=by rw[No,Hc I];rfl
  rw[e1];exact O;rcases a1 x e with e|e;exact e;omega;obtain rfl:i=h.Ba.length:=E;rw[WL] at J;apply AJ;rw[AE,AH];refine J.sR λW2 a8 m2=>AJ ?_;rw[AE,AH];refine a8.Y8 Al.nil λW3 O U=>.inr ⟨rfl,rfl,X,λx hx=>?_,⟨C,sv,N,rv,_,O⟩,m1.trans ((m2.trans U).mono (by grind[Au.fb]))⟩;have:=m2.size;have:=U.size;grind
end
section
variable {w0 W:c_}{F:d_}{b T T':Nat}{ks:HKs}{h:Hist}
def HL.wR{S D S' D':d_}{x y:U'}(j:HL w0 F W b ks h)(I:h.op=true)(h1:h.Ba.length<=1)(J:ks.l.length<=64)(N:CH w0)(O:Ag S D W dv x)(hu:Ag S' D' W v y)(Q:OL ks.l T ⟨x,y⟩)(U:∀a∈h.Ba,OL ks.l T' a)(V:Z9 ks.l h.Ba ⟨x,y⟩)(hb:T+T'<=2147483648) :
  l_ 94 [e_ b,dv,v] (λv' w'=>v'=zIq 0/\∃F',HL w0 F' w' b ks { h with Ba:=[P0 ks.l h.Ba ⟨x,y⟩],rs:=[] }/\(∀x,F' x->F x\/W.heap.size<=x)/\AF F W w') W:=
 AA (lI j.Yz I h1 J (N.S_ j.g) O hu Q U V hb λx X=>(j.hF x X).2) (by grind[HL.after])
end
structure Lk (ks:X') (most:Int) (d d':Y_) (g:Grp):Prop where
 fd:Ii ks g.d d.length most
 fu:Ii ks g.u d'.length most
 dd:Bz ks d g.d=d'
 uu:Bz ks d' g.u=d
 id:∀o∈g.d,Is o
 iu:∀o∈g.u,Is o
 r:(∀c∈d,Dg c.set)/\∀c∈d',Dg c.set
def Ch(ks:X')(most:Int):Y_->Z_->Y_->Prop
 |d,[],d'=>d=d'
 |d,g::l,d'=>∃m,Lk ks most d m g/\Ch ks most m l d'
def Hist.put(ks:X')(H:Hist)(g:Grp):Hist:=if H.op then { H with Ba:=[P0 ks H.Ba g],rs:=[] } else { H with us:=HT H.max H.us g,rs:=[] }
structure fG (ks:X') (most:Int) (d:Y_):Prop where
 m:pC ks most d
 c:∀c∈d,Nv ks c
structure St (ks:X') (most:Int) (d clip:Y_) (H:Hist):Prop where
 k:∀k∈ks,E9 k
 SV:ks.length<=64
 IN:most<=536870912
 NT:fG ks most d
 cl:(∀c∈clip,Dw ks c.set/\Nv ks c)/\(clip.length:Int)<=most
 mx:H.max<=65536
 Ey:H.us.length+H.rs.length<=H.max
 Ba:H.Ba.length<=1/\(H.op=false->H.Ba=[])/\(H.Ba=[]\/H.rs=[])
 ch:∃d0 dm dz,Ch ks most d0 H.us dm/\Ch ks most dm H.Ba d/\Ch ks most d H.rs.reverse dz
section
variable {ks:X'}{most:Int}{d d' m clip:Y_}{H:Hist}{g a:Grp}
def Je{x:U'}{n:Nat}(h:Ii ks x n most):BB x<=n+most/\x.length<=BB x/\Av x<=66*BB x:=by
 have j:∀o∈x,An ks o:=λo I=>(h.Eo o I).1;have e:BB x=BG x+Oe x:=by
  clear h;induction x with
  |nil=>rfl
  |cons o x J=>
   grind[BB,BG,Oe,Ah]
 obtain⟨N,O⟩:=Qc j;have:=(qA x).1;have:=h.most;have:=h.MA;omega
def Lk.len(h:Lk ks most d d' g)(hm:most<=536870912):BB g.d<=1073741824/\BB g.u<=1073741824:=by
 have h1:=Je h.fd;have j:=Je h.fu;have:=h.fd.DA.2;have:=h.fu.DA.2;omega
def Lk.Eo(h:Lk ks most d d' g)(hm:most<=536870912):OL ks 1073741824 g:=⟨λo j=>⟨(h.fd.Eo o j).1,(h.id o j).o⟩,λo j=>⟨(h.fu.Eo o j).1,(h.iu o j).o⟩,(h.len hm).1,(h.len hm).2⟩
def Lk.new{x:U'}(J:∀k∈ks,E9 k)(hm:most<=536870912)(j:fG ks most d)(hF:Ii ks x d.length most)(I:∀o∈x,Is o):Lk ks most d (Bz ks d x) ⟨x,BJ (EY ks d x)⟩:=by
 have ht:=Je hF;have:=hF.DA.2;obtain⟨O,Q,U,V,_⟩:=Vx J I E j.m.g j.c hm (by grind[Ca]);have f:=(Ca E).1 O;exact⟨hF,f,rfl,Q,I,U,λc hc=>(j.m.g.set c hc).1.1,vP (λo N=>(hF.Eo o N).1) λc hc=>(j.m.g.set c hc).1.1⟩
def UE{x y:U'}{n:Nat}(hm:most<=536870912)(h:Ii ks (Lb ks x y) n most)(hl:(Lb ks x y).length<=4294967296):lf ks x y:=by
 obtain⟨j,I⟩:=LX h.Eo hl;have:=h.DA.2;have:=h.most;have:=h.MA;exact⟨by rw[j];omega,by rw[I];omega⟩
def Lk.com(I:∀k∈ks,E9 k)(j:ks.length<=64)(hm:most<=536870912)(h:Lk ks most d m a)(h':Lk ks most m d' g):Lk ks most d d' ⟨Lb ks a.d g.d,Lb ks g.u a.u⟩/\lf ks a.d g.d/\lf ks g.u a.u:=by
 have l1:=h.len hm;have l2:=h'.len hm;have X:=h.dd;have Y:=h'.uu;obtain⟨O,Q,U,Z⟩:=Zx I j h.r.1 h.fd (by grind[Lk.fd]) h.id h'.id E hm;obtain⟨b1,b2,V,b4⟩:=Zx I j h'.r.2 h'.fu (by grind[Lk.fu]) h'.iu h.iu E hm;have J:=(Ca E).1 O;have N:=(Ca E).1 b1;exact⟨⟨J,N,by rw[Q,h.dd,h'.dd],by rw[b2,h'.uu,h.uu],U,V,h.r.1,h'.r.2⟩,UE hm J E,UE hm N E⟩
def Ch.K4{l J:Z_}:Ch ks most d (l++J) d'↔∃m,Ch ks most d l m/\Ch ks most m J d':=by
 induction l generalizing d with
 |nil=>exact⟨λh=>⟨d,rfl,h⟩,λ⟨m,e,h⟩=>by cases e;exact h⟩
 |cons g l N=>
  constructor;rintro⟨m,h1,O⟩;obtain⟨n,j,I⟩:=N.1 O;exact⟨n,⟨m,h1,j⟩,I⟩;rintro⟨n,⟨m,h1,j⟩,I⟩;exact⟨m,h1,N.2 ⟨n,j,I⟩⟩
theorem Ch.one:Ch ks most d [g] d'↔Lk ks most d d' g:=⟨λ⟨m,h,e⟩=>by cases e;exact h,λh=>⟨d',h,rfl⟩⟩
def Ch.Gf{l:Z_}{mx:Nat}{j:Y_}(h:Ch ks most j l m)(I:Lk ks most m d g):∃j,Ch ks most j (HT mx l g) d:=by
 have J:Ch ks most j (l++[g]) d:=Ch.K4.2 ⟨m,h,Ch.one.2 I⟩;unfold HT;split;grind;revert J;cases l++[g] with
 |nil=>grind
 |cons a l=>exact λ⟨n,_,h⟩=>⟨n,h⟩
def Rs(J:∀k∈ks,E9 k)(I:ks.length<=64)(hm:most<=536870912){Ba:Z_}(h1:Ba.length<=1)(h:Ch ks most m Ba d)(j:Lk ks most d d' g):Lk ks most m d' (P0 ks Ba g)/\Z9 ks Ba g:=by
 cases Ba with
 |nil=>cases h;exact⟨j,⟨j.fd.JX,j.fu.JX⟩,λa ha=>nomatch ha⟩
 |cons a l=>
  have:l=[]:=by simpa using h1
  subst this;have ha:=Ch.one.1 h;obtain⟨c1,c2,N⟩:=Lk.com J I hm ha j;refine⟨c1,⟨j.fd.JX,j.fu.JX⟩,λb hb=>?_⟩;rw[uN.1 hb];exact⟨⟨ha.fd.JX,ha.fu.JX⟩,c2,N⟩
def St.put(h:St ks most d clip H)(I:fG ks most d')(J:Lk ks most d d' g):St ks most d' clip (H.put ks g):=by
 obtain⟨N,dm,Q,c1,c2,U⟩:=h.ch;have ht:=h.Ey;unfold Hist.put;by_cases j:H.op=true;rw[Ix j];exact⟨h.k,h.SV,h.IN,I,h.cl,h.mx,B_,B_,N,dm,d',c1,Ch.one.2 (Rs h.k h.SV h.IN h.Ba.1 c2 J).1,rfl⟩;rw[By j];have e:=h.Ba.2.1 (by simpa using j);rw[e] at c2;cases c2;obtain⟨d1,O⟩:=Ch.Gf (mx:=H.max) c1 J;exact⟨h.k,h.SV,h.IN,I,h.cl,h.mx,by grind[Tf],B_,d1,d',d',O,by rw[e];rfl,rfl⟩
def St.copy{j:Y_}(h:St ks most d clip H)(hc:(∀c∈j,Dw ks c.set/\Nv ks c)/\(j.length:Int)<=most):St ks most d j H:=⟨h.k,h.SV,h.IN,h.NT,hc,h.mx,h.Ey,h.Ba,h.ch⟩
def St.begin(h:St ks most d clip H)(j:H.op=false):St ks most d clip { H with op:=true,Ba:=[] }:=by
 obtain⟨I,dm,J,c1,c2,N⟩:=h.ch;rw[h.Ba.2.1 j] at c2;exact⟨h.k,h.SV,h.IN,h.NT,h.cl,h.mx,h.Ey,B_,I,dm,J,c1,c2,N⟩
def St.end(h:St ks most d clip H):St ks most d clip { H with us:=cz H.max H.us H.Ba,op:=false,Ba:=[] }:=by
 obtain⟨N,dm,I,c1,c2,J⟩:=h.ch;have ht:=h.Ey;cases j:H.Ba with
 |nil=>rw[j] at c2;cases c2;exact⟨h.k,h.SV,h.IN,h.NT,h.cl,h.mx,h.Ey,B_,N,d,I,c1,rfl,J⟩
 |cons a l=>
  have hl:l=[]:=by have:=h.Ba.1;rw[j] at this;simpa using this
  subst hl;rw[j] at c2;obtain⟨d1,O⟩:=Ch.Gf (mx:=H.max) c1 (Ch.one.1 c2);have Q:H.rs=[]:=by grind[St.Ba]
  exact⟨h.k,h.SV,h.IN,h.NT,h.cl,h.mx,by show(HT H.max H.us a).length+H.rs.length<=H.max;grind[Tf],B_,d1,d,I,O,rfl,J⟩
def St.vu{l:Z_}(h:St ks most d clip H)(I:H.op=false)(e:H.us=l++[g]):∃m,Lk ks most m d g/\(fG ks most m->St ks most m clip { H with us:=l,rs:=H.rs++[g] }):=by
 obtain⟨J,dm,N,c1,c2,O⟩:=h.ch;have ht:=h.Ey;rw[h.Ba.2.1 I] at c2;cases c2;rw[e] at c1 ht;obtain⟨m,Q,j⟩:=Ch.K4.1 c1;have j:=Ch.one.1 j;refine⟨m,j,λU=>⟨h.k,h.SV,h.IN,U,h.cl,h.mx,B_,(by grind[St.Ba]),J,m,N,Q,by rw[h.Ba.2.1 I];rfl,?_⟩⟩;rw[List.reverse_append];exact⟨d,j,O⟩
def St.uM{l:Z_}(h:St ks most d clip H)(I:H.op=false)(e:H.rs=l++[g]):∃m,Lk ks most d m g/\(fG ks most m->St ks most m clip { H with us:=H.us++[g],rs:=l }):=by
 obtain⟨N,dm,O,c1,c2,j⟩:=h.ch;have ht:=h.Ey;rw[h.Ba.2.1 I] at c2;cases c2;rw[e] at j ht;rw[List.reverse_append] at j;obtain⟨m,J,j⟩:=j;exact⟨m,J,λQ=>⟨h.k,h.SV,h.IN,Q,h.cl,h.mx,B_,(by grind[St.Ba]),N,m,O,Ch.K4.2 ⟨d,c1,Ch.one.2 J⟩,by rw[h.Ba.2.1 I];rfl,j⟩⟩
def Ch.mem{l:Z_}(h:Ch ks most d l d'):∀g∈l,∃m n,Lk ks most m n g:=by
 induction l generalizing d with
 |nil=>grind
 |cons a l j=>
  obtain⟨m,h1,I⟩:=h;grind
def Lk.md(h:Lk ks most d d' g)(hm:most<=536870912):Av g.d<=1099511627776/\Av g.u<=1099511627776:=(h.Eo hm).m C0
end
structure Est where
 d:Y_
 clip:Y_
 H:Hist
noncomputable def Tw(ks:X')(most:Int)(s:Est)(x:U'):Int×Est:=if Ef ks x s.d.length most=0 then(0,⟨Bz ks s.d x,s.clip,s.H.put ks ⟨x,BJ (EY ks s.d x)⟩⟩) else(Ef ks x s.d.length most,s)
def Fl(w0:c_)(F:d_)(W:c_)(e:EgA)(σ:SKs)(most:Int)(r:Int×Est)(v':b_)(w':c_):Prop:=v'=zIq r.1/\sA w0 F W w' e σ most r.2.d r.2.clip r.2.H/\St σ.ks most r.2.d r.2.clip r.2.H
section
variable {w0:c_}{F Ft Fh Fc:d_}{W W':c_}{e:EgA}{cv:b_}{σ:SKs}{most:Int}{d d' clip:Y_}{H:Hist}{s:Est}{r:Int×Est}
def Ku.j(h:Ku w0 F W e σ most d clip H)(g:AG W W'):sA w0 F W W' e σ most d clip H:=⟨F,K_,h.S_ g,g.mono G_⟩
theorem Fl.Ma{F':d_}{j:c_}(h:Fl w0 F' j e σ most r v W')(g:AG W j)(hF:∀x,F' x->F x):Fl w0 F W e σ most r v W':=by
 obtain⟨h1,⟨N,O,I,Q⟩,J⟩:=h;have z:=g.size;exact⟨h1,⟨N,B_,I,(g.mono λ_ _ h=>h.elim:AF F W j).trans (by grind[AF.mono])⟩,J⟩
theorem Fl.no{c:Int}(h:Ku w0 F W e σ most s.d s.clip s.H)(I:St σ.ks most s.d s.clip s.H)(g:AG W W')(e':v=zIq c):Fl w0 F W e σ most (c,s) v W':=⟨e',h.j g,I⟩
def pR{S D S' D':d_}{b:Nat}{g:Grp}(h:HL w0 F W b ⟨σ.ks,σ.S⟩ H)(j:St σ.ks most d clip H)(I:Lk σ.ks most d d' g)(N:CH w0)(O:Ag S D W dv g.d)(hu:Ag S' D' W v g.u) : l_ 94 [e_ b,dv,v] (λv' w'=>v'=zIq 0/\∃F',HL w0 F' w' b ⟨σ.ks,σ.S⟩ (H.put σ.ks g)/\(∀x,F' x->F x\/W.heap.size<=x)/\AF F W w') W:=by
 have hm:=I.md j.IN;have ht:=j.Ey;unfold Hist.put;by_cases J:H.op=true;rw[Ix J];obtain⟨Q,dm,U,_,c2,_⟩:=j.ch;exact HL.wR h J j.Ba.1 j.SV N O hu (I.Eo j.IN) (λa ha=>by obtain⟨m,n,hl⟩:=c2.mem a ha;exact hl.Eo j.IN) (Rs j.k j.SV j.IN j.Ba.1 c2 I).2 C0;rw[By J];grind[HL.push,St.mx]
def MF{x:U'}(h:Ku w0 F W e σ most s.d s.clip s.H)(I:St σ.ks most s.d s.clip s.H)(hT:CH w0)(hx:Ag S S W xv x)(ax:∀y,S y->¬F y)(hI:∀o∈x,Is o)(hl:x.length<=4294967296) : l_ 48 [e_ e.b,xv] (Fl w0 F W e σ most (Tw σ.ks most s x)) W:=by
 have h0:=h;obtain⟨d,clip,H⟩:=s;simp only at h I;obtain⟨Ft,Fh,Fc,cv,h,hF⟩:=h;refine H_ func48 ?_ (.y (.z (.x (.dm [9,14] [0,1,3,7,0,0,32,96,224,480,0,1024,3072,7168,16383,32767])) (.x (.dm [5,7] [0,1,3,7,0,16,0,127,255,511,511,1023,4095]))));have V:=I.NT.m;have av:=V.le;have J:=I.IN;have X:Ag (λy=>S y/\y<W.heap.size) (λy=>S y/\y<W.heap.size) W xv x:=Al.sub hx B_ C0 λr o ho=>ho.T_ j0 E' B_;have gd:=gdr W;have Y:=h.S_ gd;apply Ac (λ_ _=>False);apply AJ;rw[AE,AH];refine AP ⟨Y.box.cells 0 _ rfl,C_⟩ ?_;apply AJ;rw[AE,AH];refine AP ⟨Y.box.cells 1 _ rfl,C_⟩ ?_;apply AA (Fe Y.tx);rintro _ W1 ⟨rfl,g1⟩;refine⟨E,?_⟩;apply AJ;rw[AE,AH];refine AP ⟨Y.box.cells 3 _ rfl,C_⟩ ?_;have h1:=Y.S_ g1;have Z:=gd.trans g1;refine AA (VU h1.tx.Ho.1 (Ag.S_ X Z) (hT.S_ h1.tx.g) (by grind[Is.o]) E E) ?_;rintro _ W2 ⟨rfl,g2⟩;refine⟨E,?_⟩;have a1:=Z.trans g2;refine neP (λU=>?_) λU=>?_;rotate_left;grind[Tw,Fl.no];unfold Tw;rw[Ix U];have a6:=gdr W2;have h2:=h.S_ (a1.trans a6);apply Ac (λ_ _=>False);apply AJ;rw[AE,AH];refine AP ⟨h2.box.cells 0 _ rfl,C_⟩ ?_;refine AA (Mu h2.i V.g.set E) ?_;rintro dv W3 ⟨ak,g3⟩;refine⟨E,?_⟩;have j:=(Ca E).1 U;have ht:=Je j;have ay:=j.most;have b0:=j.MA;have hg:=Lk.new I.k J I.NT j hI;have i5:=(Vx I.k hI E V.g I.NT.c J U).2.2.2.2;have a7:Ii σ.ks x d.length 536870912:=⟨j.JX,j.Eo,⟨j.DA.1,E⟩,j.MA,j.HA,j.pl,E⟩;have h3:=h2.S_ g3;have a8:=(a1.trans a6).trans g3;have N:=Ag.S_ X a8;refine AA (bS h3.tx.Ho.1 (ak.rd (DN _)) N (hT.S_ h3.tx.g) V.g I.NT.c hI E E E a7 i5) ?_;rintro _ W4 ⟨g4,bv,rfl,al⟩;refine⟨E,?_⟩;apply BD;refine neP (λ_=>?_) E;have h4:=h3.S_ g4;have aa:=a8.trans g4;apply nfl_i (h4.box.cells 2 _ rfl);apply AA (pR h4.hi I hg hT (Ag.S_ N g4) al);rintro _ W5 ⟨rfl,b6,h5,f5,m5⟩;refine neP (λ_=>?_) E;have O:=h4.nK m5 f5 h5;apply nfl_i (O.box.cells 1 _ rfl);have z4:=aa.size;have z5:=m5.size;have an:Ag (λy=>S y/\y<W.heap.size) (λy=>S y/\y<W.heap.size) W5 xv x:=(Ag.S_ N g4).T_ m5 B_ B_;refine AA (Vm O.tx hT V I.SV I.k an B_ hI hl J) ?_;rintro _ W6 ⟨rfl,⟨b7,f6,h6,m6⟩,Q⟩;unfold WT at h6 Q;rw[Ix U] at h6 Q;refine⟨by rw[U],⟨_,λy hy=>?_,(O.text m6 f6 h6).i,?_⟩,I.put ⟨Q,Z7 (by grind[Ii.Eo,Ii.pl]) I.NT.c⟩ hg⟩;grind;exact((aa.mono λ_ _ h=>h.elim:AF F W W4).trans (m5.mono λy _ hy=>hF _ (.inr (.inr (.inl hy))))).trans (by grind[AF.mono])
end
noncomputable def LB(ks:X')(s:Est):Int×Est:=if s.H.op then(9,s) else match s.H.us.getLast? with
 |none=>(10,s)
 |some g=>(0,⟨Bz ks s.d g.u,s.clip,{ s.H with us:=s.H.us.dropLast,rs:=s.H.rs++[g] }⟩)
noncomputable def Lf(ks:X')(s:Est):Int×Est:=if s.H.op then(9,s) else match s.H.rs.getLast? with
 |none=>(10,s)
 |some g=>(0,⟨Bz ks s.d g.d,s.clip,{ s.H with us:=s.H.us++[g],rs:=s.H.rs.dropLast }⟩)
def NG(s:Est):Int×Est:=if s.H.op then(9,s) else(0,⟨s.d,s.clip,{ s.H with op:=true,Ba:=[] }⟩)
def ZF(s:Est):Int×Est:=if s.H.op then(0,⟨s.d,s.clip,{ s.H with us:=cz s.H.max s.H.us s.H.Ba,op:=false,Ba:=[] }⟩) else(9,s)
section
variable {w0:c_}{F Ft Fh Fc:d_}{W W':c_}{e:EgA}{cv:b_}{σ:SKs}{most:Int}{s:Est}{H':Hist}
def K1.after{j:d_}(h:K1 w0 Ft Fh Fc W e cv σ most s.d s.clip s.H)(hF:∀x,(x=e.b\/Ft x\/Fh x\/Fc x)->F x)(h1:HL w0 j W' e.h ⟨σ.ks,σ.S⟩ H')(I:∀x,j x->Fh x\/W.heap.size<=x)(J:AF Fh W W'):sA w0 F W W' e σ most s.d s.clip H':=by
 refine⟨_,λy N=>?_,(h.nK J I h1).i,(by grind[AF.mono])⟩;grind
theorem K1.KF(h:K1 w0 Ft Fh Fc W e cv σ most s.d s.clip s.H)(hF:∀x,(x=e.b\/Ft x\/Fh x\/Fc x)->F x){n:Nat}{N:d_}{Q:c_}{x:U'} (hn:W.heap.size<=n)(hx:Bs n Q xv x)(f1:∀y,N y->(Fh y\/W.heap.size<=y)/\y<n)(h1:HL w0 N Q e.h ⟨σ.ks,σ.S⟩ H')(U:AF Fh W Q)(hT:CH w0)(J:St σ.ks most s.d s.clip s.H)(Z:Ii σ.ks x s.d.length most)(hI:∀o∈x,Is o) (V:fG σ.ks most (Bz σ.ks s.d x)->St σ.ks most (Bz σ.ks s.d x) s.clip H') : l_ 42 [e_ e.t.b,xv] (Fl w0 F W e σ most (0,⟨Bz σ.ks s.d x,s.clip,H'⟩)) Q:=by
 have O:=h.nK U (λy j=>(f1 y j).1) h1;have X:∀y,n<=y->¬Ft y:=λy j e'=>by have:=(h.tx.hl y e').2.1;omega
 have ht:=Je Z;have hp:=Z.DA.2;have IN:=J.IN;have e0:Ef σ.ks x s.d.length most=0:=by grind[Ca]
 refine AA (Vm (S:=λy=>n<=y) O.tx hT J.NT.m J.SV J.k ((Bs.reads hx).sub (λy _ j=>j.1) C0 λr o ho=>ho.T_ j0 E' λy _ j=>j.1) X hI E J.IN) ?_;rintro _ W2 ⟨rfl,⟨a1,f2,Y,m2⟩,I⟩;unfold WT at Y I;rw[Ix e0] at Y I;have z1:=U.size;refine⟨by rw[e0],⟨_,λy j=>?_,(O.text m2 f2 Y).i,?_⟩,V ⟨I,Z7 (by grind[Ii.Eo,Ii.pl]) J.NT.c⟩⟩;grind;exact(U.mono λy _ j=>hF _ (.inr (.inr (.inl j)))).trans (by grind[AF.mono])
def On(h:Ku w0 F W e σ most s.d s.clip s.H)(I:St σ.ks most s.d s.clip s.H)(hT:CH w0) : l_ 14 [e_ e.b] (Fl w0 F W e σ most (LB σ.ks s)) W:=by
 have h0:=h;obtain⟨Ft,Fh,Fc,J,h,hF⟩:=h;have ht:=I.Ey;have N:=I.mx;refine I_ func14 ?_;apply AA (CZ h.box);rintro _ _ ⟨rfl,rfl⟩;apply AM;apply nfl_i (h.box.cells 2 _ rfl);unfold LB;by_cases j:s.H.op=true;rw[Ix j];apply AA (cZ h.hi.Yz j);rintro _ O ⟨J,rfl,Q⟩;apply BD;exact neP (λe=>absurd e C0) (by grind[Fl.no]);rw[By j];have j:s.H.op=false:=by simpa using j
 have hb:∀g∈s.H.us,Av g.u<=1099511627776:=λg U=>by
  obtain⟨d0,dm,dz,c1,_,c3⟩:=I.ch;obtain⟨m,n,hl⟩:=c1.mem g U;exact(hl.md I.IN).2
 refine AA (HL.vu h.hi j E E hb) ?_;rintro _ O (⟨hu,J,rfl,Q⟩|⟨l,g,J,n,V,hu,rfl,hn,ho,h1,X,Y⟩);apply BD;refine neP (λe=>absurd e C0) λ_=>?_;grind[Fl.no];apply BD;refine neP (λ_=>?_) E;apply nfl_i ((h.nK Y (λy Z=>(X y Z).1) h1).box.cells 1 _ rfl);obtain⟨m,lk,st⟩:=I.vu j hu;have em:=lk.uu;rw[hu,List.getLast?_concat,aAS];grind[K1.KF,Lk.fu,Lk.iu]
def Oc(h:Ku w0 F W e σ most s.d s.clip s.H)(I:St σ.ks most s.d s.clip s.H)(hT:CH w0) : l_ 15 [e_ e.b] (Fl w0 F W e σ most (Lf σ.ks s)) W:=by
 have h0:=h;obtain⟨Ft,Fh,Fc,J,h,hF⟩:=h;have ht:=I.Ey;have N:=I.mx;refine I_ func15 ?_;apply AA (CZ h.box);rintro _ _ ⟨rfl,rfl⟩;apply AM;apply nfl_i (h.box.cells 2 _ rfl);unfold Lf;by_cases j:s.H.op=true;rw[Ix j];apply AA (bF h.hi.Yz j);rintro _ O ⟨J,rfl,Q⟩;apply BD;exact neP (λe=>absurd e C0) (by grind[Fl.no]);rw[By j];have j:s.H.op=false:=by simpa using j
 have hb:∀g∈s.H.rs,Av g.d<=1099511627776:=λg U=>by
  obtain⟨d0,dm,dz,c1,_,V⟩:=I.ch;obtain⟨m,n,hl⟩:=V.mem g (by simpa using U);exact(hl.md I.IN).1
 refine AA (HL.uM h.hi j E E hb) ?_;rintro _ O (⟨hu,J,rfl,Q⟩|⟨l,g,J,n,X,hu,rfl,hn,ho,h1,Y,Z⟩);apply BD;refine neP (λe=>absurd e C0) λ_=>?_;grind[Fl.no];apply BD;refine neP (λ_=>?_) E;apply nfl_i ((h.nK Z (λy hy=>(Y y hy).1) h1).box.cells 1 _ rfl);obtain⟨m,lk,st⟩:=I.uM j hu;have em:=lk.dd;rw[hu,List.getLast?_concat,aAS];grind[K1.KF,Lk.fd,Lk.id]
def NM(h:Ku w0 F W e σ most s.d s.clip s.H)(I:St σ.ks most s.d s.clip s.H) : l_ 12 [e_ e.b] (Fl w0 F W e σ most (NG s)) W:=by
 have h0:=h;obtain⟨U,V,X,Y,h,hF⟩:=h;refine I_ func12 ?_;apply AA (CZ h.box);rintro _ _ ⟨rfl,rfl⟩;apply AM;apply nfl_i (h.box.cells 2 _ rfl);apply AA (lU h.hi.Yz);unfold NG;rintro _ Q (⟨j,rfl,rfl⟩|⟨j,rfl,ha⟩);grind[Fl.no,AF.refl];rw[By (by rw[j];decide)];obtain⟨J,h1,N,O⟩:=h.hi.after ha;exact⟨rfl,h.after hF h1 N O,I.begin j⟩
def Ry(h:Ku w0 F W e σ most s.d s.clip s.H)(j:St σ.ks most s.d s.clip s.H) : l_ 10 [e_ e.b] (Fl w0 F W e σ most (ZF s)) W:=by
 have h0:=h;obtain⟨U,V,X,Y,h,hF⟩:=h;have ht:=j.Ey;refine I_ func10 ?_;apply AA (CZ h.box);rintro _ _ ⟨rfl,rfl⟩;apply AM;apply nfl_i (h.box.cells 2 _ rfl);refine AA (vZ h.hi.Yz j.Ba.1 E j.mx) ?_;unfold ZF;rintro _ Q (⟨I,rfl,rfl⟩|⟨I,rfl,ha⟩);grind[Fl.no,AF.refl];rw[Ix I];obtain⟨J,h1,N,O⟩:=h.hi.after ha;exact⟨rfl,h.after hF h1 N O,j.end⟩
end
section
variable {w0:c_}{F:d_}{W:c_}{a:TxA}{σ:SKs}{most:Int}{d clip:Y_}{H:Hist}{e:EgA}{Ft Fh Fc:d_}{cv:b_}
def im{i:Int}(h:KB .f w0 F W a σ most d)(hi:i<0\/(d.length:Int)<=i) : l_ 101 [e_ a.b,zIq i] (λv' w'=>v'=.tuple #[.agg #[.int .i32 0,g_],zIq 5]/\AG W w') W:=by
 refine H_ func101 ?_ (.y (.y (.cut [] [(5,5),(12,20)] .nil .nil)));refine Bx.zero λb N hb O B=>?_;have h1:=h.S_ O;apply AA (GN h1.box.1);rintro _ _ ⟨rfl,rfl⟩;rename c_=>N;rw[Aj];apply AM;have HA:∀(j:c_) (K:Cont),AG N j->(∀I,AG W I->K (.agg #[.int .i32 0,g_]) I)->DQ [(0,1),(1,1)] [.int .i32 0,g_] [] (λt=>Bv 2 (e_ b) t (λQ=>DJ 2 (e_ b) K Q) j):=λj K J U=>by
  refine⟨#[.int .i32 0,g_],D_,?_⟩;refine(B.S_ J).Ax (us:=[.int .i32 0,g_]) rfl rfl j_ λI V X=>?_;exact V.GJ rfl (U I ((O.trans J).next X E))
 refine AT (λ_ _=>False) G_ ?_;refine Cn (λe=>?_) λe=>?_;exact HA N _ (AF.refl _ _) B_;apply AA (Fe h1);rintro _ j ⟨rfl,J⟩;exact geP (λ_=>HA j _ J B_) E
def Uk(n p NI most:Int):Int:=if p<0\/n<p then 5 else if p=n then 6 else if most<n+NI then 8 else 0
def Uh{p NI:Int}(h:K1 w0 Ft Fh Fc W e cv σ most d clip H)(Q:d.length<=1099511627776)(hm:0<=NI/\NI<=1099511627776) : l_ 46 [e_ e.b,zIq p,zIq NI] (λv' w'=>v'=zIq (Uk d.length p NI most)/\AG W w') W:=by
 refine J_ func46 ?_ (.y (.y (.x (.cut [13] [(13,20)] .nil .nil))));apply nfl_i (h.box.cells 1 _ rfl);apply AA (Fe h.tx);rintro _ I ⟨rfl,J⟩;have h1:=h.S_ J;refine AT (λvs O=>O=I/\vs=[.bool (decide (p<0\/(d.length:Int)<p))]) ?_ ?_;rotate_left;refine Cn B_ λe=>?_;rw[Hj];exact B_;rintro vs _ ⟨rfl,rfl⟩ _;simp only[Bh,HK];unfold Uk;refine Ae (λe=>?_) λe=>?_;grind;rw[By e,CI];refine Ae (λj=>?_) λj=>?_;grind;rw[By j,AQ,wrap64 E E];apply nfl_i (h1.box.cells 3 _ rfl);refine gtP (λN=>?_) λN=>?_;grind;grind
def K0(d:Y_)(i:Int):V_:=if 0<=i then match d[i.toNat]? with|some c=>if c.r=10 then[] else c.set|none=>[] else[]
def Ts{i:Int}(h:K1 w0 Ft Fh Fc W e cv σ most d clip H)(X:∀c∈d,Dw σ.ks c.set)(Y:d.length<=536870912) : l_ 50 [e_ e.b,zIq i] (λv' w'=>Bo (λx=>W.heap.size<=x/\x<w'.heap.size) w' v' (K0 d i)/\AG W w') W:=by
 refine H_ func50 ?_;apply nfl_i (h.box.cells 1 _ rfl);by_cases hi:i<0\/(d.length:Int)<=i;have U:K0 d i=[]:=by
  grind[K0]
 apply AA (im h.tx hi);rintro _ Z ⟨rfl,I⟩;apply BD;refine Bx.new (vs:=[.int .i32 0,g_]) rfl rfl j_ λb J hb j B=>?_;refine neP (λe=>absurd e C0) λ_=>?_;rw[U];exact⟨Al.nil,I.trans j⟩;obtain⟨n,rfl⟩:∃n:Nat,i=n:=⟨i.toNat,E⟩;have hn:n<d.length:=E;have U:K0 d n=if d[n].r=10 then[] else d[n].set:=by
  grind[K0]
 apply AA (sC h.tx hn X Y);rintro _ Z ⟨_,rfl,⟨sv,rfl,V⟩,I⟩;apply BD;obtain⟨sa,sc,N,_⟩:=id V.AK;refine Bx.new (vs:=[.int .i32 d[n].r,sv]) rfl rfl (λu hu=>by subst N;simp at hu;rcases hu with rfl|rfl<;>rfl) λb J hb j B=>?_;have O:Bo (λx=>W.heap.size<=x/\x<J.heap.size) J sv d[n].set:=(V.S_ j C0 C_).sub E C0 C_;refine neP (λ_=>?_) λe=>(e rfl).elim;apply fl_i (B.cells 0 _ rfl);rw[CI,U];refine Ae (λQ=>?_) λQ=>?_;rw[Ix Q];exact⟨Al.nil,I.trans j⟩;rw[By Q,AE,AH];exact AI (B.cells 1 _ rfl) ⟨O,I.trans j⟩
end
section
variable {w0:c_}{F:d_}{w:c_}{a:TxA}{σ:SKs}{most:Int}{d clip:Y_}{H:Hist}{e:EgA}{Ft Fh Fc Rd:d_}{cv:b_}{b3 b4 b5:Nat}
def LM(l:V'){i j:Nat}(h:i<=j):CX (l.take i)<=CX (l.take j):=by
 grind[List.take_append_drop]
def Pv{l:V'}{i:Nat}(h:i<l.length)(hl:l.getLast?=some 10):CX (l.take i)<CX l:=by
 obtain⟨m,c,rfl⟩:∃m c,l=m++[c]:=by
  rcases l9 l with I|⟨m,c,I⟩<;>grind
 rw[lp,aN] at hl;obtain rfl:c=10:=by simpa using hl
 rw[Bp,aAw] at h;have e:(m++[10]).take i=m.take i:=aA8 E;rw[e,MS];have h1:CX (m.take i)<=CX m:=by have:=LM m (i:=i) (j:=m.length) E;grind
 grind
def L9(d:Y_)(i:Nat):Nat:=CX ((BK d).take i)
def UZ(d:Y_)(i j:Nat):Nat:=CX ((BK d).take (max i (j-1)))
def Oz{i j:Nat}(h:K1 w0 Ft Fh Fc w e cv σ most d clip H)(B3:Bx w b3 [e_ e.b])(B4:Bx w b4 [zIq (i:Int)])(B5:Bx w b5 [zIq (j:Int)]) (hR:∀y,y<w.heap.size->(y<w0.heap.size\/Ft y\/σ.S y\/y=e.b\/y=b3\/y=b4\/y=b5)->Rd y)(h4:∀y,Rd y->y<w.heap.size)(hM:Ig σ.ks d)(hi:i<d.length)(hj:j<=d.length)(hz:d.length<=536870912) : re (λ_=>False) (λ_=>False) prog 89 [e_ b3,e_ b4,e_ b5] (λk I W a=>∃(p:Nat) (sv:b_) (set:V_),Iw (BK d) (L9 d i+k)=some p/\(Cb d)[L9 d i+k]?=some set/\a=[zIq (p:Int),sv]/\Bo I W sv set) (UZ d i j+1-L9 d i) Rd w:=by
 intro yl J Jx w1 g1 h0 al bl QI U;refine N_ func89 ?_ (.z (.dm [5] [0,1,3,7,0,31,63,127,127,255,1023]) (.z (.dm [8] [0,1,3,7,0,0,32,112,255,511,1023,1023,2047,8191]) (.y (.y (.node [10] [(10,12),(40,63)] .nil .nil)))));have an:=h.tx.hl;have av:=h.tx.Ho.2;have bx:=h.tx.g.size;have c4:=B3.lt (P9 _);have c6:=B4.lt (P9 _);have c7:=B5.lt (P9 _);have c8:=h.box.lt E_;have R3:Rd b3:=B_;have R4:Rd b4:=B_;have R5:Rd b5:=B_;have Re:Rd e.b:=B_
 let St:Nat->(d_)->c_->Prop:=λk I W=>J k I W/\AF (λy=>¬Rd y) w W/\∀y,I y->y<W.heap.size
 have ax:St 0 (λ_=>False) w1:=⟨h0,g1.mono G_,L_⟩;have N:∀{k I W W'},St k I W->AG W W'->St k (λy=>I y\/(W.heap.size<=y/\y<W'.heap.size)) W':=λ{k I W W'} ⟨j,m,il⟩ g=>by
  have zg:=g.size;exact⟨al k I _ W W' j B_ λy hy=>⟨hy.imp id And.left,by rcases hy with h|h;have:=il y h;omega;exact h.2⟩,m.next g G_,λy hy=>by rcases hy with h|h;have:=il y h;omega;exact h.2⟩
 have V:∀ {k I W},St k I W->KB .f w0 Ft W e.t σ most d:=λ{k I W} ⟨_,m,_⟩=>h.tx.T_ m λx X=>⟨λhf=>X (hR x (an x hf).2.1 (by simp [hf])),λhs=>X (hR x (av x hs) (by simp [hs])),by
  rcases aDi x w0.heap.size with hh | hh;exact (X (hR x E (by simp [hh]))).elim;omega⟩
 have Y:∀{k I W},St k I W->Bx W b3 [e_ e.b]:=λ⟨_,m,_⟩=>B3.T_ m λe=>e R3;have a6:∀{k I W},St k I W->Bx W b4 [zIq (i:Int)]:=λ⟨_,m,_⟩=>B4.T_ m λe=>e R4;have ay:∀{k I W},St k I W->Bx W b5 [zIq (j:Int)]:=λ⟨_,m,_⟩=>B5.T_ m λe=>e R5;have Z:∀{k I W},St k I W->Bx W e.b (yf σ.sv e most cv):=λ⟨_,m,_⟩=>h.box.T_ m λe=>e Re;have c9:(BK d).length=d.length:=Nn _;have ca:L9 d i<=UZ d i j:=LM _ (Nat.le_max_left _ _);have cc:UZ d i j<CX (BK d):=Pv E hM.LW;have b0:=FA d;have cq:=Em (BK d);have gd:=gdr w1;have s1:=N ax gd;apply Ac (λ_ _=>False);refine AP ⟨(Y s1).cells 0 _ rfl,C_⟩ ?_;apply AJ;rw[AE,AH];refine AP ⟨(Z s1).cells 1 _ rfl,C_⟩ ?_;refine AP ⟨(a6 s1).cells 0 _ rfl,C_⟩ ?_;refine AA (Pj (V s1) E hz) ?_;rintro _ w2 ⟨rfl,g2⟩;refine⟨E,?_⟩;apply BD;have s2:=N (N s1 g2) (AF.drew (λ_=>False) _);apply Ac (λ_ _=>False);refine AP ⟨(Y s2).cells 0 _ rfl,C_⟩ ?_;apply AJ;rw[AE,AH];refine AP ⟨(Z s2).cells 1 _ rfl,C_⟩ ?_;refine AP ⟨(a6 s2).cells 0 _ rfl,C_⟩ ?_;refine AP ⟨(ay s2).cells 0 _ rfl,C_⟩ ?_;rw[A6,wrap64 E E,Hi];have b6:(if(j:Int)-1>(i:Int) then(j:Int)-1 else(i:Int))=((max i (j-1):Nat):Int):=E;rw[b6];refine AA (Pj (V s2) E hz) ?_;rintro _ w3 ⟨rfl,g3⟩;refine⟨E,?_⟩;apply BD;have s3:=N s2 g3;apply AI ((Y s3).cells 0 _ rfl);apply nfl_i ((Z s3).cells 1 _ rfl);apply AA (YM (V s3) hM.set hz);rintro pv w4 ⟨hp,g4⟩;have s4:=N s3 g4;generalize b7:(λy=>_\/(w3.heap.size<=y/\y<w4.heap.size))=I4 at s4;have a7:Al I4 1 (Cu I4) w4 pv (Cb d):=by
  rw[<-b7];exact hp.sub (λx _ h=>.inr h) C0 λr x ⟨sv,e1,X⟩=>⟨sv,e1,X.sub (λx _ h=>.inr h) C0 C_⟩
 obtain⟨pa,pc,rfl,_⟩:=a7.AK;apply Aa (λvs W=>∃(k:Nat) (I:d_),k<=UZ d i j+1-L9 d i/\vs=[zIq ((L9 d i+k:Nat):Int)]/\St k I W/\Al I 1 (Cu I) W (.slice pa (Cb d).length pc) (Cb d)) (λvs _=>UZ d i j+1-Da vs 0) ⟨0,I4,Lc _,rfl,s4,a7⟩;rintro vs W ⟨k,I,hk,rfl,O,b8⟩ _;simp only[Bh,HK];refine leP (λb9=>?_) λba=>?_;rotate_left;obtain rfl:k=UZ d i j+1-L9 d i:=by
  have bp:¬((L9 d i+k:Nat):Int)<=((UZ d i j:Nat):Int):=ba;omega
 exact⟨I,.inl O.1⟩;have bs:L9 d i+k<=UZ d i j:=by
  have:((L9 d i+k:Nat):Int)<=((UZ d i j:Nat):Int):=b9;omega
 apply AI ((Y O).cells 0 _ rfl);apply nfl_i ((Z O).cells 1 _ rfl);rw[AQ,wrap64 E E,show(((L9 d i+k:Nat):Int)+1)=((L9 d i+k+1:Nat):Int) by omega];apply AA (eK (V O) hz);rintro _ W5 ⟨rfl,g5⟩;obtain⟨p,a8,cu⟩:=N1 (l:=BK d) (k:=L9 d i+k) E;have eo:QF (BK d) (L9 d i+k+1)=.tuple #[zIq ((p+1:Nat):Int),zIq 0]:=by
  unfold QF;rw[By E,By E,show L9 d i+k+1-1=L9 d i+k by omega,a8]
 rw[eo];apply BD;rw[A6,wrap64 E E,show(((p+1:Nat):Int)-1)=(p:Int) by omega];have s5:=N O g5;have a1:L9 d i+k<(Cb d).length:=E;have aa:Al I 1 (Cu I) W5 (.slice pa (Cb d).length pc) (Cb d):=b8.S_ g5 C0 λr x ⟨sv,e1,X⟩=>⟨sv,e1,X.S_ g5 C0 C_⟩;obtain⟨q,r,rfl,_,hr,hc,sv,rfl,bb⟩:=aa.get a1;refine AV a1 (AI (by have:=hc 0 _ rfl;exact this) ?_);have cx:=s5;refine .inr ⟨yl,rfl,HO (U k _ W5 _ E s5.1 ⟨p,sv,(Cb d)[L9 d i+k],a8,Hc a1,rfl,bb.sub (λx _ h=>.inl h) C0 C_⟩) ?_⟩;rintro vv W6 ⟨da,Q,hq,⟨rfl,ak⟩|⟨rfl,VZ⟩⟩;have bk:=QI (k+1) _ W6 ak;rw[Aj];apply AM;rw[AQ,AL E];refine⟨⟨k+1,_,E,rfl,⟨ak,⟨hq.1.trans s5.2.1.os,hq.2.1.trans s5.2.1.tape,hq.2.2.trans s5.2.1.output,by have:=s5.2.1.size;omega,λb hb hn=>bk b hb (aB3.1 hn)⟩,λy hy=>by have:=s5.2.2 y hy;omega⟩,?_⟩,by rw[DW,DW];omega⟩;exact Al.mono aa (λ_ _ h=>.inl h) (λb hb h=>Q b (.inl h)) C0 λr x ⟨sv,e1,X⟩=>⟨sv,e1,Al.mono X (λ_ _ h=>.inl h) (λb hb h=>Q b (.inl h)) C0 C_⟩;rw[Aj];exact Ab ⟨_,.inr VZ⟩
end
section
variable {A:V_->Prop}{C:W_->Prop}
def js{d:U'}{n:Int}{p:W_}(h:∀o∈d,A o.set/\C o.AU)(ha:A [])(hp:C p):(∀o∈GI d n p,A o.set/\C o.AU)/\(GI d n p).length<=d.length+1:=by
 have new:(∀o∈d++[(⟨1,n,[],[],p⟩:Dop)],A o.set/\C o.AU)/\(d++[(⟨1,n,[],[],p⟩:Dop)]).length<=d.length+1:=B_;unfold GI;cases e:d.getLast? with
 |none=>exact new
 |some q=>
  simp only;split;refine⟨λo j=>?_,E_⟩;rcases aC0 j with j|rfl<;>grind;omega
def nD{d:U'}(h:∀o∈d,A o.set/\C o.AU)(ha:A s)(hp:C []):(∀o∈Fu d rs s,A o.set/\C o.AU)/\(Fu d rs s).length<=d.length+1:=by
 have new:(∀o∈d++[(⟨2,0,rs,s,[]⟩:Dop)],A o.set/\C o.AU)/\(d++[(⟨2,0,rs,s,[]⟩:Dop)]).length<=d.length+1:=B_;unfold Fu;cases e:d.getLast? with
 |none=>exact new
 |some q=>
  simp only;split;refine⟨λo j=>?_,E_⟩;rcases aC0 j with j|rfl<;>grind;omega
def eE(g:Int):Nat:=if 0<g then 1 else 0
theorem pr(g:Int):eE g<=1:=by grind[eE]
def Xc{i:U'}{g:Int}(h:∀o∈i,A o.set/\C o.AU)(ha:A [])(hp:C []):(∀o∈BS i g,A o.set/\C o.AU)/\(BS i g).length=i.length+eE g:=by
 grind[BS,eE]
def kW(ha:A [])(hp:C [])(x:U')(h:∀o∈x,A o.set/\C o.AU):(∀o∈(BE x).done,A o.set/\C o.AU)/\(∀o∈(BE x).Aq,A o.set/\C o.AU)/\(BE x).done.length+(BE x).Aq.length+eE (BE x).Ar<=x.length:=by
 induction x using Hu with
 |h0=>exact⟨λ_ h=>(nomatch h),λ_ h=>(nomatch h),DN 0⟩
 |h1 x o I=>
  obtain⟨h1,j,X⟩:=I λo J=>h o (by simp[J]);obtain⟨N,O⟩:=h o E_;have e:BE (x++[o])=BF (BE x) o:=by grind[BE]
  rw[e,Bp,aAw];generalize BE x=s at *;unfold BF;split;unfold FM;split;grind;obtain⟨Y,Z⟩:=Xc (g:=s.Ar) j ha hp;have Q:∀o∈s.done++BS s.Aq s.Ar,A o.set/\C o.AU:=B_;obtain⟨U,V⟩:=js (n:=o.n) Q ha O;grind[eE];split;unfold I7;split;grind;obtain⟨U,V⟩:=nD (rs:=o.AZ) j N hp;grind;grind[Lv,pr]
def cT(ha:A [])(hp:C [])(x:U')(h:∀o∈x,A o.set/\C o.AU):(∀o∈BJ x,A o.set/\C o.AU)/\(BJ x).length<=x.length:=by
 obtain⟨h1,j,I⟩:=kW ha hp x h;obtain⟨J,N⟩:=Xc (g:=(BE x).Ar) j ha hp;have O:∀o∈(BE x).done++BS (BE x).Aq (BE x).Ar,A o.set/\C o.AU:=B_;have hl:((BE x).done++BS (BE x).Aq (BE x).Ar).length<=x.length:=B_;unfold BJ Sm FY;generalize (BE x).done++BS (BE x).Aq (BE x).Ar=d at *;grind[List.dropLast_sublist]
end
def Z0{i j:Int}(hi:0<=i)(V:i<=j)(hj:j<=1099511627776) : l_ 63 [zIq i,zIq j] (λv' w'=>Bs w.heap.size w' v' (BJ [⟨1,i,[],[],[]⟩,⟨3,j-i,[],[],[]⟩])/\AG w w') w:=by
 refine H_ func63 ?_;apply AA Lw;rintro _ X ⟨Y,b,Z,a1,rfl,a6⟩;have I:El (λy=>w.heap.size<=y) X b MkS.z:=by grind[El.sub]
 apply AA (EI (n:=i) (p:=[]) (S:=λ_=>False) I Al.nil L_ C0 E_);rintro _ w2 ⟨O,Q⟩;rw[A6,wrap64 E E];apply AA (Ja O);rintro _ w3 ⟨J,U⟩;have e:Lv (FM MkS.z i []) (j-i)=BE [⟨1,i,[],[],[]⟩,⟨3,j-i,[],[],[]⟩]:=rfl;rw[e] at J;have a7:=II [(⟨1,i,[],[],[]⟩:Dop),⟨3,j-i,[],[],[]⟩];have a8:Av [(⟨1,i,[],[],[]⟩:Dop),⟨3,j-i,[],[],[]⟩]=2:=rfl;have z2:=Q.size;have z3:=U.size;apply AA (LR J E);rintro v5 w5 ⟨N,g5⟩;refine⟨AB.T_ (AB.BY N λg hg=>by have:=(AB.Am N g hg).1;omega) j0 C_ λr x _ hx=>hx.T_ j0 E' B_,?_⟩;exact((Y.next Q E).next U E).trans g5
def Yw{A_ Sp:d_}{p:W_}{i j:Int}(Z:CG A_ w sv ks)(hp:DY Sp w v p)(hT:CH w)(hf:∀c∈p,0<=c.val.f)(hi:0<=i)(a1:i<=j)(hj:j<=1099511627776)(hm:De ks p=0)(hl:p.length<=1000000)(a6:Jd p<=1099511627) : l_ 66 [sv,zIq i,zIq j,v] (λv' w'=>AG w w'/\((Cg ks true p≠[]/\∃xv,v'=.tuple #[xv,zIq 7])\/(Cg ks true p=[]/\∃xv,v'=.tuple #[xv,zIq 0]/\Bs w.heap.size w' xv (BJ [⟨1,i,[],[],[]⟩,⟨1,j-i,[],[],p⟩])))) w:=by
 refine N_ func66 ?_;have a7:=hp.sub (λb hb h=>hb) C0 C_;apply AA (Ld Z hp hT hf);rintro _ w1 ⟨rfl,U⟩;rw[hm];refine neP (λ_=>?_) λe=>(e rfl).elim;apply AA (Jt (b:=true) (Z.S_ U) (hp.S_ U C0 C_) E);rintro qv w2 ⟨hq,g2⟩;obtain⟨qa,qc,rfl,_⟩:=id hq.AK;have I:=U.trans g2;rw[AO];refine gtP B_ λh0=>?_;have V:Cg ks true p=[]:=Of E;apply AA Lw;rintro _ w3 ⟨g3,b,a8,aa,rfl,ak⟩;have al:=I.size;have J:El (λy=>w.heap.size<=y) w3 b MkS.z:=by grind[El.sub]
 apply AA (EI (n:=i) (p:=[]) (S:=λ_=>False) J Al.nil L_ C0 E_);rintro _ w4 ⟨N,m4⟩;have z3:=g3.size;have z4:=m4.size;have X:=(I.trans g3).next m4 E
 rw[A6,wrap64 E E];have l1:=II [(⟨1,i,[],[],[]⟩:Dop)];have l2:Av [(⟨1,i,[],[],[]⟩:Dop)]=1:=rfl;have l3:=Bi (BE [(⟨1,i,[],[],[]⟩:Dop)]).done;have l4:=Bi (BE [(⟨1,i,[],[],[]⟩:Dop)]).Aq;have e0:FM MkS.z i []=BE [⟨1,i,[],[],[]⟩]:=rfl;rw[e0] at N;apply AA (EI (n:=j-i) (p:=p) (S:=λy=>y<w.heap.size) N (by grind[Al.S_]) E E E);rintro _ w5 ⟨O,m5⟩;have e:FM (BE [⟨1,i,[],[],[]⟩]) (j-i) p=BE [⟨1,i,[],[],[]⟩,⟨1,j-i,[],[],p⟩]:=rfl;rw[e] at O;have an:=II [(⟨1,i,[],[],[]⟩:Dop),⟨1,j-i,[],[],p⟩];have av:Av [(⟨1,i,[],[],[]⟩:Dop),⟨1,j-i,[],[],p⟩]=2+Jd p:=by grind[Av,EN]
 have z5:=m5.size;apply AA (LR O E);rintro v6 w6 ⟨Q,g6⟩;refine⟨(X.next m5 λx hx e=>by rcases e with e|e<;>omega).trans g6,.inr ⟨V,_,rfl,?_⟩⟩;exact AB.T_ (AB.BY Q λg hg=>by have:=(AB.Am Q g hg).1;omega) j0 C_ λr x _ hx=>hx.T_ j0 E' B_
section
variable {w0:c_}{F Ft Fh Fc:d_}{W W':c_}{e:EgA}{cv:b_}{σ:SKs}{most:Int}{d clip:Y_}{H:Hist}{s:Est}
def JG(h:K1 w0 Ft Fh Fc W e cv σ most d clip H){i j:Int} : l_ 65 [e_ e.b,zIq i,zIq j] (λv' w'=>v'=.bool (decide (0<=i/\i<=j/\j<=(d.length:Int)))/\AG W w') W:=by
 refine J_ func65 ?_;refine geP (λh1=>?_) (by grind[AF.refl]);refine leP (λI=>?_) (by grind[AF.refl]);apply nfl_i (h.box.cells 1 _ rfl);apply AA (Fe h.tx);rintro _ J ⟨rfl,N⟩;rw[Py];exact B_
def Xt(n i j:Int):Int:=if ¬(0<=i/\i<=j/\j<=n) then 5 else if j=n/\i<j then 6 else 0
def Wg(h:K1 w0 Ft Fh Fc W e cv σ most d clip H){i j:Int} : l_ 62 [e_ e.b,zIq i,zIq j] (λv' w'=>v'=zIq (Xt d.length i j)/\AG W w') W:=by
 refine J_ func62 ?_;apply AA (JG h);rintro _ N ⟨rfl,I⟩;unfold Xt;rw[Aj];refine BM (λJ=>?_) B_;rw[By (λe=>e J)];have h1:=h.S_ I;apply nfl_i (h1.box.cells 1 _ rfl);apply AA (Fe h1.tx);rintro _ O ⟨rfl,Q⟩;refine eqP (λhe=>?_) (by grind[AF.trans]);exact Cn (by grind[AF.trans]) (by grind[AF.trans])
theorem HI{x:U'}(h:∀o∈x,Is o):(∀o∈BJ x,Is o)/\(BJ x).length<=x.length:=cT (A:=λl=>∀a∈l,a.key<=9223372036854775807/\Ev a.val) (C:=λl=>∀c∈l,c.key<=9223372036854775807/\Ev c.val) (λ_ h=>nomatch h) (λ_ h=>nomatch h) x h
def sA.then{F':d_}{j I:c_}{r:Int×Est}(f:∀x,F' x->F x\/W.heap.size<=x)(m:AF F W j)(h:Fl w0 F' j e σ most r v I):Fl w0 F W e σ most r v I:=by
 obtain⟨h1,⟨J,Q,N,U⟩,O⟩:=h;have z:=m.size;refine⟨h1,⟨J,λx V=>?_,N,(by grind[AF.next])⟩,O⟩;grind
def Ku.VA{j:c_}{x:U'}(h:Ku w0 F W e σ most s.d s.clip s.H)(J:St σ.ks most s.d s.clip s.H)(N:CH w0)(g:AG W j)(O:Bs W.heap.size j xv x)(Q:∀o∈x,Is o)(hl:x.length<=4294967296) : l_ 48 [e_ e.b,xv] (Fl w0 F W e σ most (Tw σ.ks most s x)) j:=by
 obtain⟨X,Y,Z,cv,I,hF⟩:=h;exact AA (MF (S:=λy=>W.heap.size<=y/\y<j.heap.size) (I.S_ g).i J N (Bs.reads O) (λy V U=>by have:=(I.lt y U).2;omega) Q hl) (by grind[Fl.Ma])
def PY(s:Est)(i j:Int):Int×Est:=if 0<=i/\i<=j/\j<=(s.d.length:Int) then(0,⟨s.d,(s.d.take j.toNat).drop i.toNat,s.H⟩) else(5,s)
def T6{i j:Int}(h:Ku w0 F W e σ most s.d s.clip s.H)(O:St σ.ks most s.d s.clip s.H) : l_ 28 [e_ e.b,zIq i,zIq j] (Fl w0 F W e σ most (PY s i j)) W:=by
 have h0:=h;obtain⟨Ft,Fh,Fc,cv,h,hF⟩:=h;refine J_ func28 ?_;apply AA (CZ h.box);rintro _ _ ⟨rfl,rfl⟩;rename c_=>W;apply AM;apply nfl_i (h.box.cells 1 _ rfl);unfold PY;by_cases N:0<=i/\i<=j/\j<=(s.d.length:Int);rotate_left;rw[By N];apply AA (Vc h.tx N);rintro _ X ⟨rfl,U⟩;apply BD;exact neP (λe=>absurd e C0) (by grind[Fl.no]);rw[Ix N];have Y:=O.NT.m.le;have IN:=O.IN;obtain⟨a,rfl⟩:∃n:Nat,i=n:=⟨i.toNat,E⟩;obtain⟨b,rfl⟩:∃n:Nat,j=n:=⟨j.toNat,E⟩;apply AA (NP h.tx (i:=a) (j:=b) E E O.NT.m.g.set E);rintro _ X ⟨Z,rfl,hc,U⟩;apply BD;refine neP (λ_=>?_) E;have h1:=h.S_ U;have hr:=hc.rd (DN _);obtain⟨ca,cc,rfl,_⟩:=id hr.AK;apply AJ;rw[AE,AH];have z1:=U.size;have V:=h.lt;refine h1.box.st (q:=4) E_ rfl rfl λW2 B2 Q=>?_;have z2:=Q.size;have a1:=(V e.b (.inl rfl)).2;simp[aAA];have I:∀c∈(s.d.take b).drop a,c∈s.d:=B_;refine⟨rfl,⟨_,λx J=>?_,K1.i (Fc:=λx=>W.heap.size<=x/\x<W2.heap.size) ⟨B2,h1.tx.T_ Q λx J=>?_,h1.hi.T_ Q λx J=>?_,?_,λx J=>⟨?_,J.2⟩,h.bw,⟨h.bn.1,h.bn.2.1,λJ=>?_⟩,λx J=>⟨(h.th x J).1,λe'=>?_⟩,λx J e'=>?_⟩,(U.mono λ_ _ h=>h.elim:AF F W X).trans (by grind[AF.mono])⟩,O.copy ⟨λc hc=>⟨O.NT.m.g.set c (I c hc),O.NT.c c (I c hc)⟩,B_⟩⟩;grind;grind[K1.bn,K1.bw];grind[K1.bn,K1.bw];exact(hr.sub E C0 λr c hc=>hc.T_ j0 E' E).T_ Q E C0 λr c hc=>hc.T_ Q E C_;have:=h.tx.g.size;omega;omega;grind;grind
def sE(i j:Int):U':=BJ [⟨1,i,[],[],[]⟩,⟨3,j-i,[],[],[]⟩]
theorem L8(i j:Int):(∀o∈sE i j,Is o)/\(sE i j).length<=4294967296:=by
 obtain⟨h1,J⟩:=HI (x:=[⟨1,i,[],[],[]⟩,⟨3,j-i,[],[],[]⟩]) λo I=>by
  simp at I;rcases I with rfl|rfl<;>exact⟨λ_ h=>(nomatch h),λ_ h=>nomatch h⟩
 exact⟨h1,py J E_⟩
noncomputable def rZ(ks:X')(most:Int)(s:Est)(i j:Int):Int×Est:=if Xt s.d.length i j=0 then Tw ks most s (sE i j) else(Xt s.d.length i j,s)
noncomputable def rS(ks:X')(most:Int)(s:Est)(i j:Int):Int×Est:=if Xt s.d.length i j=0 then Tw ks most (PY s i j).2 (sE i j) else(Xt s.d.length i j,s)
def Zm{n i j:Int}(h:Xt n i j=0):0<=i/\i<=j/\j<=n:=by
 grind[Xt]
def Vj{i j:Int}(h:Ku w0 F W e σ most s.d s.clip s.H)(J:St σ.ks most s.d s.clip s.H)(X:CH w0) : l_ 24 [e_ e.b,zIq i,zIq j] (Fl w0 F W e σ most (rZ σ.ks most s i j)) W:=by
 have h0:=h;obtain⟨Ft,Fh,Fc,cv,O,hF⟩:=h;refine J_ func24 ?_;apply AA (CZ O.box);rintro _ _ ⟨rfl,rfl⟩;apply AM;apply AA (Wg O);rintro _ Z ⟨rfl,Q⟩;unfold rZ;refine neP (λU=>?_) (by grind[Fl.no]);rw[Ix U];have I:=Zm U;have V:=J.NT.m.le;have IN:=J.IN;apply AA (Z0 I.1 I.2.1 E);rintro xv W3 ⟨N,Y⟩;exact AA ((h0.S_ Q).VA J X Y N (L8 i j).1 (L8 i j).2) λ_ _ h=>h.Ma Q M_
def jb{i j:Int}(h:Ku w0 F W e σ most s.d s.clip s.H)(J:St σ.ks most s.d s.clip s.H)(Y:CH w0) : l_ 29 [e_ e.b,zIq i,zIq j] (Fl w0 F W e σ most (rS σ.ks most s i j)) W:=by
 have h0:=h;obtain⟨Ft,Fh,Fc,cv,Q,hF⟩:=h;refine J_ func29 ?_;apply AA (CZ Q.box);rintro _ _ ⟨rfl,rfl⟩;apply AM;apply AA (Wg Q);rintro _ W1 ⟨rfl,U⟩;unfold rS;refine neP (λV=>?_) (by grind[Fl.no]);rw[Ix V];have I:=Zm V;have X:=J.NT.m.le;have IN:=J.IN;apply AA (T6 (h0.S_ U) J);rintro _ W2 ⟨rfl,⟨F2,Z,h2,m2⟩,N⟩;have e0:(PY s i j).1=0:=by grind[PY]
 rw[e0];refine neP (λ_=>?_) E;apply AA (Z0 I.1 I.2.1 E);rintro xv W3 ⟨O,g3⟩;exact AA (h2.VA N Y g3 O (L8 i j).1 (L8 i j).2) λ_ _ h=>(sA.then Z m2 h).Ma U M_
def AAH(i j:Int)(p:W_):U':=BJ [⟨1,i,[],[],[]⟩,⟨1,j-i,[],[],p⟩]
noncomputable def qL(ks:X')(most:Int)(s:Est)(i j:Int)(p:W_):Int×Est:=if De ks p≠0 then(De ks p,s) else if ¬(0<=i/\i<=j/\j<=(s.d.length:Int)) then(5,s) else if Cg ks true p≠[] then(7,s) else Tw ks most s (AAH i j p)
def XK{i j:Int}{p:W_}(h:Ku w0 F W e σ most s.d s.clip s.H)(X:St σ.ks most s.d s.clip s.H)(Y:CH w0)(hp:DY S W v p)(U:∀c∈p,c.key<=9223372036854775807/\Ev c.val) : l_ 25 [e_ e.b,zIq i,zIq j,v] (Fl w0 F W e σ most (qL σ.ks most s i j p)) W:=by
 have h0:=h;obtain⟨Ft,Fh,Fc,cv,Q,hF⟩:=h;have V:∀c∈p,0<=c.val.f:=λc hc=>(U c hc).2.2.1;refine N_ func25 ?_;apply AA (CZ Q.box);rintro _ _ ⟨rfl,rfl⟩;apply AM;apply nfl_i (Q.box.cells 0 _ rfl);apply AA (Ld Q.tx.Ho.1 hp (Y.S_ Q.tx.g) V);rintro _ W1 ⟨rfl,g1⟩;unfold qL;refine neP (λJ=>?_) (by grind[Fl.no]);rw[By (λe=>e J)];apply AA (JG (Q.S_ g1));rintro _ W2 ⟨rfl,g2⟩;have I:=g1.trans g2;rw[Aj];refine BM (λN=>?_) (by grind[Fl.no]);rw[By (λe=>e N)];have O:=Q.S_ I;have a1:=X.NT.m.le;have IN:=X.IN;have hP:=FX.1 J;have KM:=XV hP;have a6:=hP.2.1;apply nfl_i (O.box.cells 0 _ rfl);apply AA (Yw O.tx.Ho.1 (hp.S_ I C0 C_) (Y.S_ O.tx.g) V N.1 N.2.1 E J E E);rintro _ W3 ⟨g3,⟨e',xv,rfl⟩|⟨e',xv,rfl,Z⟩⟩;rw[Ix e'];apply BD;exact neP (λe=>absurd e C0) (by grind[Fl.no,AF.trans]);rw[By (λe=>e e')];apply BD;refine neP (λ_=>?_) E;obtain⟨n1,n2⟩:=HI (x:=[⟨1,i,[],[],[]⟩,⟨1,j-i,[],[],p⟩]) λo ho=>by
  simp at ho;rcases ho with rfl|rfl
  exact⟨λ_ h=>(nomatch h),λ_ h=>nomatch h⟩;exact⟨λ_ h=>(nomatch h),U⟩
 exact AA ((h0.S_ I).VA X Y g3 Z n1 (py n2 E_)) λ_ _ h=>h.Ma I M_
def Gq(p:Int)(f:Y_):U':=⟨1,p,[],[],[]⟩::f.map HR
def dy{X:b_}{p:Int}{f:Y_}(hf:Be S F w X f)(hm:Av (Gq p f)<=68719476736) : l_ 71 [zIq p,X] (λv' w'=>Bs w.heap.size w' v' (BJ (Gq p f))/\AG w w') w:=by
 refine H_ func71 ?_ (.y (.y (.y (.x (.y (.node [13] [(6,6),(13,29)] (.y (.y (.x (.y (.dm [6,12] [0,0,0,6,14,30,62,0,0,384,896,1920,4095]))))) .nil))))));have J:Be (λy=>y<w.heap.size) (λy=>y<w.heap.size) w X f:=hf.sub (λb hb h=>hb) C0 λr c hc=>hc.T_ j0 E' λy hy h=>hy;apply AA Lw;rintro _ w1 ⟨g1,b,aa,ak,rfl,al⟩;have N:El (λy=>w.heap.size<=y) w1 b MkS.z:=by grind[El.sub]
 apply AA (EI (n:=p) (p:=[]) (S:=λ_=>False) N Al.nil L_ C0 E_);rintro _ w2 ⟨Y,m2⟩;have z1:=g1.size;have Z:AG w w2:=by grind[AF.next]
 have ex:∀k,BE ((Gq p f).take (k+1))=((f.take k).map HR).foldl BF (FM MkS.z p []):=by
  intro k;unfold BE Gq;rw[aAX,aAg,aAI];rfl
 have e0:FM MkS.z p []=BE ((Gq p f).take 1):=(ex 0).symm;rw[e0] at Y;have an:f.length+1<=Av (Gq p f):=by have:=Bi (Gq p f);simpa[Gq] using this
 obtain⟨a,c,rfl,_⟩:=J.AK;rw[AO];apply Aa (λvs W=>∃k:Nat,k<=f.length/\vs=[zIq k]/\El (λy=>w.heap.size<=y) W b (BE ((Gq p f).take (k+1)))/\AG w W) (λvs _=>f.length-Da vs 0) ⟨0,Lc _,rfl,(by grind[El.sub]),Z⟩;rintro vs W ⟨k,hk,rfl,hI,g⟩ _;simp[Bh,HK];refine Cn (λav=>?_) λax=>?_;rotate_left;obtain rfl:k=f.length:=E;rw[aAZ (by simp[Gq])] at hI;have ay:=II (Gq p f);apply AA (LR hI E);rintro v5 w5 ⟨O,g5⟩;have z:=g.size;exact⟨AB.T_ (AB.BY O λg hg=>by have:=(AB.Am O g hg).1;omega) j0 C_ λr x _ hx=>hx.T_ j0 E' B_,g.trans g5⟩;have I:k<f.length:=E;have zW:=g.size;have gd:=gdr W;have zd:W.drew.heap.size=W.heap.size:=rfl;obtain⟨q,r,rfl,qb,hr,hc,sv,rfl,hs⟩:=(J.S_ (g.trans gd)).get I;apply Ac (λj y=>j=12/\w.heap.size<=y/\y<W.heap.size);have ld:∀{l:X_} {j:Nat} {u:b_},(∀i∈l,i≠12)->[Value.int .i32 f[k].r,sv][j]?=some u->W.drew.cell? (q.add (k*2+j))=some u/\∀i∈l,¬((λj y=>j=12/\w.heap.size<=y/\y<W.heap.size) i (q.add (k*2+j)).block):=B_;apply AV I;rw[AE,Addr.add_add];refine AP (ld (j:=0) C0 rfl) ?_;apply ET (CY (v:=.int .i32 f[k].r) (vs:=[.int .i32 f[k].r]) (k:=1) rfl C0 rfl rfl);have V:AG W.drew (W.drew.alloc (.cells [Value.int .i32 f[k].r].toArray 21)):=AF.alloc _ _ _;refine⟨B_,?_⟩;have ho:AB W.drew.heap.size 21 1 Bk (W.drew.alloc (.cells [Value.int .i32 f[k].r].toArray 21)) (.slice (f_ W.drew.heap.size) 1 1) [f[k].r]:=AB.KU (DN _) rfl (λu hu=>by simp at hu;subst hu;rfl) rfl;have b0:=V.size;apply AV I;rw[AE,Addr.add_add];refine AP (ld (j:=1) C0 rfl) ?_;have a1:=((hI.lt).T_ gd C_).T_ V C_;have a6:LQ (λy=>y<w.heap.size\/y=W.heap.size) (W.drew.alloc (.cells [Value.int .i32 f[k].r].toArray 21)) (.slice (f_ W.drew.heap.size) 1 1) [f[k].r]:=Al.sub (AB.sl ho) (λx hx h=>.inr (by have:=h.2;simp[Value.ownBlock,gn] at this;exact this.symm)) C0 C_;have Q:Bo (λy=>y<w.heap.size\/y=W.heap.size) (W.drew.alloc (.cells [Value.int .i32 f[k].r].toArray 21)) sv (HR f[k]).set:=(hs.S_ V C0 C_).sub (λ_ _ h=>.inl h) C0 C_;have b6:=II ((Gq p f).take (k+1));have a7:=Lx (Gq p f) (k+1);have b7:=Bi (BE ((Gq p f).take (k+1))).Aq;have U:HR f[k]∈Gq p f:=aAi _ (WJ.2 ⟨f[k],S7 I,rfl⟩);have b8:=FH U;have b9:(HR f[k]).set.length<=JS (HR f[k]).set:=by rw[JC];omega
 have a8:JS (HR f[k]).set<=EN (HR f[k]):=by grind[EN]
 refine AA (ID a1 a6 Q E E (λo ho=>?_) E_ E) ?_;have h1:=FH ho;grind[EN];rintro _ W3 ⟨h3,m3⟩;refine⟨B_,?_⟩;rw[AQ,AL E];refine⟨⟨k+1,I,rfl,?_,?_⟩,by grind[DW]⟩;have e1:(Gq p f).take (k+1+1)=(Gq p f).take (k+1)++[HR f[k]]:=by
  rw[No (i:=k+1)];congr 1;simp[Gq,Hc I]
 rw[e1,Ow];exact h3.sub E;exact(g.trans (gd.trans V)).next m3 E
noncomputable def oX(ks:X')(most:Int)(s:Est)(p:Int):Int×Est:=if Uk s.d.length p s.clip.length most≠0 then(Uk s.d.length p s.clip.length most,s) else if s.clip=[] then(10,s) else Tw ks most s (BJ (Gq p s.clip))
def YK{p:Int}(h:Ku w0 F W e σ most s.d s.clip s.H)(O:St σ.ks most s.d s.clip s.H)(hT:CH w0) : l_ 30 [e_ e.b,zIq p] (Fl w0 F W e σ most (oX σ.ks most s p)) W:=by
 have h0:=h;obtain⟨Ft,Fh,Fc,cv,I,hF⟩:=h;have Y:=O.NT.m.le;have IN:=O.IN;obtain⟨J,a1⟩:=O.cl;refine H_ func30 ?_;apply AA (CZ I.box);rintro _ _ ⟨rfl,rfl⟩;apply AM;apply nfl_i (I.box.cells 4 _ rfl);obtain⟨ca,cc,Q,_⟩:=id I.cl.AK;subst Q;rw[AO];apply AA (Uh I E E);rintro _ W1 ⟨rfl,Z⟩;unfold oX;refine neP (λN=>?_) (by grind[Fl.no]);rw[By (λe=>e N)];have j:=I.S_ Z;apply nfl_i (j.box.cells 4 _ rfl);rw[AO];refine eqP (λe'=>by rw[Ix (Of E)];grind[Fl.no]) λU=>?_;rw[By λe'=>U (by rw[e'];rfl)];apply nfl_i (j.box.cells 4 _ rfl);have a6:=jh λc hc=>(J c hc).1;have a7:Av (Gq p s.clip)=1+Av (s.clip.map HR):=by simp[Gq,Av,EN,JS,Jd]
 apply AA (dy j.cl E);rintro xv W3 ⟨V,g3⟩;obtain⟨n1,n2⟩:=HI (x:=Gq p s.clip) λo X=>by
  rcases S6.1 X with rfl|X;exact⟨λ_ h=>(nomatch h),λ_ h=>nomatch h⟩;obtain⟨c,hc,rfl⟩:=WJ.1 X;have c1:=(J c hc).1;exact⟨λa ha=>⟨(c1.2 a ha).1.2,(c1.2 a ha).2.2.1,(c1.2 a ha).2.2.2.1⟩,λc hc=>(nomatch hc)⟩
 exact AA ((h0.S_ Z).VA O hT g3 V n1 (by grind[Gq])) (by grind[Fl.Ma])
end
section
variable {w0:c_}{F Ft Fh Fc:d_}{W W':c_}{e:EgA}{cv:b_}{σ:SKs}{most:Int}{s:Est}
def O1{i j:Int}(h1:v.cells=#[v]) : l_ 47 [v,zIq i,zIq j] (λv' w'=>∃b3 b4 b5,v'=.func (.func 89) #[] #[e_ b3,e_ b4,e_ b5]/\AG w w'/\Bx w' b3 [v]/\Bx w' b4 [zIq i]/\Bx w' b5 [zIq j]/\w.heap.size<=b3/\w.heap.size<=b4/\w.heap.size<=b5) w:=by
 refine J_ func47 ?_;refine DV h1 λb3 V J N X=>DV rfl λb4 w2 O Q Y=>DV rfl λb5 Z U g3 B5=>?_;have z1:=N.size;have z2:=Q.size;grind[AF.trans,Bx.S_]
def UM:∀(n:Nat) {b l:V'},b.length<=n->Bn b=some l->l.length<=b.length:=by
 intro n;induction n with
 |zero=>
  grind[Jy]
 |succ n j=>
  intro b l hb h;by_cases e:b=[];grind;rw[Iq e] at h;grind[Option.map_eq_some_iff,List.length_pos_iff,List.length_drop]
def PW(d:Y_)(p:Nat):V_:=((Cb d)[L9 d p]?).getD []
def QE(ks:X')(d:Y_)(p:Int)(l:V'):U':=IG ks p l (Zc ks (K0 d (p-1)) (K0 d p)) (PW d p.toNat)
def pP{n p NI most:Int}(h:Uk n p NI most=0):0<=p/\p<n/\n+NI<=most:=by
 grind[Uk]
def V5(h:Ig ks d)(i:Int):Dw ks (K0 d i):=by
 grind[K0,Dw.nil,Ig.set]
def jT(h:Ig ks d)(p:Nat):Dw ks (PW d p):=by
 unfold PW;cases e:(Cb d)[L9 d p]? with
 |none=>exact Dw.nil
 |some s=>
  have j:=aAk e;grind[Cb,Ig.set]
def Dw.vh{s:V_}(h:Dw ks s):∀a∈s,a.key<=9223372036854775807/\Ev a.val:=λa ha=>⟨(h.2 a ha).1.2,(h.2 a ha).2.2.1,(h.2 a ha).2.2.2.1⟩
theorem Z3{l:V'}{p:Int}(N:St ks most s.d s.clip s.H):(∀o∈BJ (QE ks s.d p l),Is o)/\((l.length<=1048576)->(BJ (QE ks s.d p l)).length<=4294967296/\Av (QE ks s.d p l)<=68719476736):=by
 have I:=N.NT.m.g;have l1:=V5 I (p-1);have l2:=V5 I p;have O:=jT I p.toNat;obtain⟨_,Q,Y⟩:=uJ (ks:=ks) (r:=K0 s.d p) l1.1.1;have j:∀r,(∀a∈(Mx ks (Zc ks (K0 s.d (p-1)) (K0 s.d p)) (PW s.d p.toNat) r).set,a.key<=9223372036854775807/\Ev a.val)/\(Mx ks (Zc ks (K0 s.d (p-1)) (K0 s.d p)) (PW s.d p.toNat) r).set.length<=128:=by
  intro r;unfold Mx;simp only;split
  .exact⟨λa ha=>O.vh a (aAb.1 ha).1,by grind[JZ,Dw.len,eW]⟩
  exact⟨λa ha=>(Q a ha).elim (l1.vh a) (l2.vh a),by grind[Dw.len]⟩
 obtain⟨U,V⟩:=HI (x:=QE ks s.d p l) λo J=>by
  rcases S6.1 J with rfl|J;exact⟨λ_ h=>(nomatch h),λ_ h=>nomatch h⟩;obtain⟨r,_,rfl⟩:=WJ.1 J;exact⟨(j r).1,λ_ h=>nomatch h⟩
 refine⟨U,λhl=>⟨(by grind[QE,IG]),?_⟩⟩;have:∀m:V',Av (m.map (Mx ks (Zc ks (K0 s.d (p-1)) (K0 s.d p)) (PW s.d p.toNat)))<=m.length*130:=by
  intro m;induction m with
  |nil=>exact DN 0
  |cons r m X=>
   grind[Av,Mx,EN,JC,Jd]
 grind[Av,QE,IG,EN,JS,Jd]
noncomputable def eT(ks:X')(most:Int)(s:Est)(p:Int)(b:V'):Int×Est:=match Bn b with
 |none=>(3,s)
 |some l=>if Uk s.d.length p l.length most≠0 then(Uk s.d.length p l.length most,s) else Tw ks most s (BJ (QE ks s.d p l))
def Tk{bv:b_}{b:V'}{p:Int}(h:Ku w0 F W e σ most s.d s.clip s.H)(hs:St σ.ks most s.d s.clip s.H)(hT:CH w0)(hb:CE S W bv b)(e1:CR b)(e2:b.length<=1048576) : l_ 17 [e_ e.b,zIq p,bv] (Fl w0 F W e σ most (eT σ.ks most s p b)) W:=by
 have h0:=h;obtain⟨Ft,Fh,Fc,cv,h,hF⟩:=h;have hM:=hs.NT.m;have IN:=hs.IN;have aa:=h.lt;have c9:=h.tx.Ho.2;have fa:=h.tx.g.size;have e3:=hM.le;refine O' func17 ?_ (.y (.y (.y (.y (.y (.x (.y (.y (.x (.dm [10,13,15,16,17] [0,0,2,6,14,0,0,0,0,256,896,0,0,8064,0,32766,65535,131071]))))))))));refine DV rfl λb3 W1 fo g1 B3=>?_;refine DV rfl λb4 W2 fs g2 B4=>Bx.zero λb6 W3 fv g3 B6=>?_;have z1:=g1.size;have z2:=g2.size;have z3:=g3.size;have G3:=(g1.trans g2).trans g3;apply AI ((B3.S_ (g2.trans g3)).cells 0 _ rfl);apply AA (CZ (h.S_ G3).box);rintro _ _ ⟨rfl,rfl⟩;rename c_=>W3;apply AM;have ca:CE S W3 bv b:=by grind[Al.S_]
 refine AA (Rn ca e1 (hT.S_ (h.S_ G3).tx.g) E) ?_;rintro _ W8 ⟨g8,ak⟩;unfold eT;cases hr:Bn b with
 |none=>
  rw[hr] at ak;cases ak;refine Bt (vs:=[_,_]) rfl (Bt (vs:=[_,_]) rfl (Bx.zero λb7 W9 e4 g9 B7=>?_));have z8:=g8.size;have e5:=B6.lt (P9 _);refine B7.st (q:=0) (show 0<1 by decide) rfl rfl λZ al O=>?_;refine neP (λe=>absurd e C0) λ_=>?_;refine((B6.S_ (g8.trans g9)).T_ O E).st (q:=0) (show 0<1 by decide) rfl rfl λe6 b8 b9=>?_;exact AI (b8.cells 0 _ rfl) (Fl.no h0 hs (((G3.trans (g8.trans g9)).next O E).next b9 E) rfl)
 |some l=>
 rw[hr] at ak;obtain⟨sl,rfl,o8⟩:=ak;have fx:l.length<=1048576:=py (UM _ (DN _) hr) e2;simp only;refine Bt (vs:=[_,_]) rfl (Bt (vs:=[_,_]) rfl (Bx.zero λb7 W9 e4 g9 B7=>?_));have z8:=g8.size;obtain⟨e7,e8⟩:=o8.one;refine B7.st (q:=0) (show 0<1 by decide) e7 e8 λZ al O=>?_;have fy:=O.size;have ba:AG W Z:=(G3.trans (g8.trans g9)).next O E
 have bb:Bx Z b3 [e_ e.b]:=(B3.S_ ((g2.trans g3).trans (g8.trans g9))).T_ O (by have:=B3.lt (P9 _);omega);have an:Bx Z b4 [zIq p]:=(B4.S_ (g3.trans (g8.trans g9))).T_ O (by have:=B4.lt (P9 _);omega);have cc:Bx Z b6 [zIq 0]:=(B6.S_ (g8.trans g9)).T_ O (by have:=B6.lt (P9 _);omega);have ga:=B3.lt (P9 _);have gb:=B4.lt (P9 _);have e5:=B6.lt (P9 _);have gf:=B7.lt (P9 _);have e9:AB W3.heap.size 21 1 Bk Z sl l:=AB.T_ (AB.T_ (R':=Bk) o8 g9 C_ E') O (λg hg e=>by have:=(AB.Am o8 g hg).2;omega) E';refine neP (λ_=>?_) λe=>(e rfl).elim;apply AI (bb.cells 0 _ rfl);apply AI (an.cells 0 _ rfl);apply AI (al.cells 0 _ rfl);obtain⟨sa,sc,rfl,_⟩:=AB.AK o8;rw[aBx] at al;rw[AO];refine AA (Uh (h.S_ ba) E E) ?_;rintro _ gg ⟨rfl,J⟩;refine neP (λep=>?_) λep=>by
  rw[Ix ep];refine(cc.S_ J).st (q:=0) (show 0<1 by decide) rfl rfl λe6 b8 b9=>?_;exact AI (b8.cells 0 _ rfl) (Fl.no h0 hs ((ba.trans J).next b9 E) rfl)
 rw [By (λe=>e ep)];obtain ⟨p1,p2,p3⟩:=pP ep;obtain ⟨p,rfl⟩:∃ q:Nat,p=q:=⟨p.toNat,E⟩;have hp:p < s.d.length:=E;apply AI ((bb.S_ J).cells 0 _ rfl);apply AI ((an.S_ J).cells 0 _ rfl);apply AI ((an.S_ J).cells 0 _ rfl);apply AA (O1 rfl);rintro _ I ⟨c3,c4,c5,rfl,U,C3,C4,C5,gl,gm,gq⟩;have gu:=J.size;have h3:=U.size;have bk:=(ba.trans J).trans U;have ea:=h.S_ bk;have ec:=(bb.S_ J).S_ U;have ed:=(an.S_ J).S_ U;have ee:=(cc.S_ J).S_ U;have ef:=(al.S_ J).S_ U;have eh:AB W3.heap.size 21 1 Bk I (.slice sa l.length sc) l:=AB.T_ e9 (J.trans U) C_ E';have gv:(BK s.d).length=s.d.length:=Nn _;refine ⟨_,_,_,_,_,_,_,rfl,D_,Oz (Rd:=λy=>y < I.heap.size) ea C3 C4 C5 (λy N _=>N) M_ hM.g hp E E,B_,L_,?_⟩;obtain ⟨x,hx⟩:∃ x,x=BJ (QE σ.ks s.d (p:Int) l):=⟨_,rfl⟩;rw [<-hx];obtain ⟨r,cq⟩:∃ r,r=Tw σ.ks most s x:=⟨_,rfl⟩;rw [<-cq];refine ⟨λk It W1=>k=0/\AF (λy=>I.heap.size<=y) I W1/\∀ y,It y->I.heap.size<=y,
  λex It W1=>ex=.ret/\∃F',(∀y,F' y->(y=e.b\/Ft y\/Fh y\/Fc y)\/I.heap.size+2<=y)/\Ku w0 F' W1 e σ most r.2.d r.2.clip r.2.H/\Bx W1 b6 [zIq r.1]/\St σ.ks most r.2.d r.2.clip r.2.H/\AF (λy=>(y=e.b\/Ft y\/Fh y\/Fc y)\/y=b6\/I.heap.size<=y) I W1,
  (by grind[AF.refl]),?_,?_,?_,?_,?_,?_⟩
 rintro k It ej W1 W2 ⟨rfl,m,ek⟩ a1 V;have zm:=m.size;refine⟨rfl,m.next a1 λy N e=>?_,λy N=>?_⟩;rcases e with⟨e,_⟩|e|e;grind;omega;omega;rcases(V y N).1 with h|h;exact ek y h;omega;rintro ex It ej W1 W2 ⟨rfl,F',f',hE,hB,hD,m⟩ a1 V;have bl:∀y,((False/\It y)\/y=I.heap.size\/y=I.heap.size+1)->y=I.heap.size\/y=I.heap.size+1:=B_;refine⟨rfl,F',f',hE.T_ a1 λy N=>?_,hB.T_ a1 λe=>?_,hD,m.next a1 λy N e=>?_⟩;have:=bl y N;refine⟨λhf=>?_,λhs=>by have:=c9 y hs;omega,E⟩;rcases f' y hf with hf|hf;have:=(aa y hf).2;omega;omega;have:=bl _ e;omega;have:=bl _ e;omega;grind[AF.Ak]
 .rintro k It gw args hk ⟨pp,sv,set,gx,en,rfl,eo⟩ ⟨rfl,er,cu⟩ hz V;rw[aA3] at en;have bp:PW s.d p=set:=by grind[PW]
  refine La j0 hz V G_ λX a6=>?_;have gy:=a6.size;have m2:AF (λy=>I.heap.size<=y) I X:=er.next a6 E;have bs:Bo It X sv set:=Al.T_ eo a6 (λy _ N e=>(V y N).2.2 e) C0 C_;have et:AG W X:=bk.next m2 E;have gd:=gdr X;have cx:=et.trans gd;have av:AF (λy=>I.heap.size<=y) I X.drew:=m2.next gd G_;have ax:=ec.T_ av E;have bx:=ed.T_ av E;have eu:=ee.T_ av E;have ew:=ef.T_ av E;have hd:=h.S_ cx;apply Ac (λk y=>(k=16/\(y=e.b\/Ft y\/Fh y\/Fc y))\/(k=17/\y=b6));have no:∀{j:Nat} {y:Nat},j≠16->j≠17->¬((j=16/\(y=e.b\/Ft y\/Fh y\/Fc y))\/(j=17/\y=b6)):=E;refine AP ⟨ax.cells 0 _ rfl,λj Q e=>by rcases e with⟨rfl,_⟩|⟨rfl,_⟩<;>exact absurd Q C0⟩ ?_;refine AP ⟨ax.cells 0 _ rfl,λj Q e=>by rcases e with⟨rfl,_⟩|⟨rfl,_⟩<;>exact absurd Q C0⟩ ?_;apply AJ;rw[AE,AH];refine AP ⟨hd.box.cells 0 _ rfl,λj Q e=>by rcases e with⟨rfl,_⟩|⟨rfl,_⟩<;>exact absurd Q C0⟩ ?_;refine AP ⟨bx.cells 0 _ rfl,λj Q e=>by rcases e with⟨rfl,_⟩|⟨rfl,_⟩<;>exact absurd Q C0⟩ ?_;refine AP ⟨ew.cells 0 _ rfl,λj Q e=>by rcases e with⟨rfl,_⟩|⟨rfl,_⟩<;>exact absurd Q C0⟩ ?_;refine AP ⟨ax.cells 0 _ rfl,λj Q e=>by rcases e with⟨rfl,_⟩|⟨rfl,_⟩<;>exact absurd Q C0⟩ ?_;refine AP ⟨bx.cells 0 _ rfl,λj Q e=>by rcases e with⟨rfl,_⟩|⟨rfl,_⟩<;>exact absurd Q C0⟩ ?_;rw[A6,wrap64 E E];refine AA (Ts hd hM.g.set E) ?_;rintro lv gA ⟨ez,a7⟩;refine⟨B_,?_⟩;refine AP ⟨ax.cells 0 _ rfl,λj Q e=>by rcases e with⟨rfl,_⟩|⟨rfl,_⟩<;>exact absurd Q C0⟩ ?_;refine AP ⟨bx.cells 0 _ rfl,λj Q e=>by rcases e with⟨rfl,_⟩|⟨rfl,_⟩<;>exact absurd Q C0⟩ ?_;refine AA (Ts (hd.S_ a7) hM.g.set E) ?_;rintro rv eA ⟨eB,a8⟩;refine⟨B_,?_⟩;have c6:=(hd.S_ a7).S_ a8;obtain⟨i1,gB⟩:=Z3 (l:=l) (p:=p) hs;have eX:set.length<=64:=by have:=(jT hM.g p).len;grind
  have ex:IG σ.ks (p:Int) l (Zc σ.ks (K0 s.d ((p:Int)-1)) (K0 s.d (p:Int))) set=QE σ.ks s.d (p:Int) l:=by unfold QE;rw[aAA,bp]
  have c7:=(gd.trans a7).trans a8;have rl:LQ (λy=>W3.heap.size<=y/\y<I.heap.size) I (.slice sa l.length sc) l:=(AB.sl eh).sub E C0 C_;have da:=Al.S_ (Al.T_ rl m2 E C0 C_) c7 C0 C_;refine AA (gI c6.tx.Ho.1 da (ez.S_ a8 C0 C_) eB (bs.S_ c7 C0 C_) (by have:=(V5 hM.g ((p:Int)-1)).len;omega) (by have:=(V5 hM.g (p:Int)).len;omega) E (V5 hM.g _).1.1 B_) ?_;rintro xv eC ⟨dk,ay⟩;refine⟨B_,?_⟩;rw[ex,<-hx] at dk;have h4:=a7.size;have gD:=a8.size;have gO:=ay.size;have zd:=gd.size;refine AA (MF (S:=λy=>eA.heap.size<=y) (c6.S_ ay).i hs hT ((Bs.reads dk).sub (λy _ N=>N.1) C0 λr o ho=>ho.T_ j0 E' λy _ N=>N.1) (λy N e=>by have:=(c6.lt y e).2;omega) (by rw[hx];exact i1) B_) ?_;rw[<-cq];rintro _ eH ⟨rfl,⟨F',dT,eI,b0⟩,dr⟩;refine⟨b0.mono B_,?_⟩;have gR:=b0.size;have eL:Bx eH b6 [zIq 0]:=((eu.S_ (a7.trans a8)).S_ ay).T_ b0 λe=>by have:=(aa _ e).2;omega
  refine eL.st (q:=0) (show 0<1 by decide) rfl rfl λeN dz IN=>?_;rw[aBx] at dz;refine⟨IN.mono E,?_⟩;have gW:=IN.size;have Y:AF (λy=>(y=e.b\/Ft y\/Fh y\/Fc y)\/y=b6) X eN:=(((c7.trans ay).mono λ_ _ h=>h.elim:AF (λy=>(y=e.b\/Ft y\/Fh y\/Fc y)\/y=b6) X eC).trans (b0.mono B_)).trans (IN.mono E);refine⟨Pa Y E (λy N=>by have:=(V y N).1;omega) λy N e=>?_,rfl,F',λy N=>?_,eI.T_ IN λy N=>?_,dz,dr,?_⟩;have:y<I.heap.size:=by
   rcases e with e|e;have:=(aa y e).2;omega;omega
  exact⟨λhi=>by have:=cu y hi;omega,E,E⟩;rcases dT y N with e|e;grind;omega;subst N;refine⟨λhf=>?_,λhs=>by have:=c9 _ hs;omega,E⟩;rcases dT _ hf with e|e;have:=(aa _ e).2;omega;omega;refine(m2.mono E).trans (Y.mono λy _ N=>?_);grind
 rintro It W1 ⟨e0,_⟩ _ _ _;have h2:L9 s.d p<=UZ s.d p p:=LM _ (Nat.le_max_left _ _);omega;rintro ex It W1 ⟨rfl,F',f',hE,hB,hD,m⟩ V hz eR;have c8:AF (λy=>y=I.heap.size) W1 (W1.putObj I.heap.size (.deferred none)):=AF.putObj _ _ _ rfl;refine⟨eR,?_⟩;refine AI ((hB.T_ c8 E).cells 0 _ rfl) ?_;refine⟨rfl,sA.Ma ⟨F',λy N=>?_,hE.T_ c8 λy N=>?_,?_⟩ hF,hD⟩;grind;grind;refine((bk.mono λ_ _ h=>h.elim:AF (λy=>y=e.b\/Ft y\/Fh y\/Fc y) W I).next m λy N e'=>?_).next c8 E
 grind
end
def Ox(d:Y_)(i j:Nat):V':=(List.range (UZ d i j+1-L9 d i)).map λk=>(((Iw (BK d) (L9 d i+k)).getD 0:Nat):Int)
def QK(d:Y_)(i j:Nat):(Ox d i j).length=UZ d i j+1-L9 d i:=by grind[Ox]
def Vu{i j k p:Nat}(hk:k<UZ d i j+1-L9 d i)(hp:Iw (BK d) (L9 d i+k)=some p):(Ox d i j).take (k+1)=(Ox d i j).take k++[(p:Int)]:=by
 rw[No];congr 1;unfold Ox;rw[aAM,aCt hk];simp[hp]
section
variable {w0:c_}{F Ft Fh Fc:d_}{W W':c_}{e:EgA}{cv:b_}{σ:SKs}{most:Int}{s:Est}{r:Int×Est}
def Rg{i j:Nat}(h:Ig σ.ks d)(hi:i<d.length)(J:j<=d.length):UZ d i j+1-L9 d i<=d.length/\UZ d i j<CX (BK d):=by
 have I:(BK d).length=d.length:=Nn _;have h1:UZ d i j<CX (BK d):=Pv E h.LW;grind
def jM{i j:Nat}(h:Ig σ.ks d)(hi:i<d.length)(I:j<=d.length)(O:d.length<=536870912):∀a∈Ox d i j,0<=a/\a<=536870912:=by
 intro a ha;obtain⟨k,hk,rfl⟩:=WJ.1 ha;have:=(Rg h hi I).2;obtain⟨p,J,N⟩:=N1 (l:=BK d) (k:=L9 d i+k) B_;grind
def Fl.mark{W0 I:c_}{m:Nat}(h:Fl w0 F W e σ most r v I)(g:AF F W0 W)(h0:W0.heap.size<=m)(U:w0.heap.size<=m)(hm:m<W.heap.size)(hF:¬F m)(V:¬σ.S m)(X:W.heap[m]?=some (.deferred (some []))):PN m (λw=>Fl w0 F W0 e σ most r v w) I:=by
 obtain⟨h1,⟨J,Y,N,O⟩,Q⟩:=h;have j:AF (λy=>y=m) I (I.putObj m (.deferred none)):=AF.putObj _ _ _ rfl;refine⟨(by grind[AF.Ak]),h1,⟨J,B_,N.T_ j λx Z=>?_,((g.trans O).next j E)⟩,Q⟩;grind
def AAL(d:Y_)(i j:Nat)(q:W_):U':=I6 0 ((Ox d i j).map (·,q))
noncomputable def rP(ks:X')(most:Int)(s:Est)(i j:Int)(p:W_):Int×Est:=
 if De ks p≠0 then(De ks p,s) else match Qd ks p with
 |none=>(3,s)
 |some q=>if ¬(0<=i/\i<=j/\j<=(s.d.length:Int)) then(5,s) else if i=(s.d.length:Int) then(5,s) else if Cg ks false p≠[] then(7,s) else Tw ks most s (BJ (AAL s.d i.toNat j.toNat q))
def QQ{l:List (Int×W_)}(h:∀a∈l,∀c∈a.2,c.key<=9223372036854775807/\Ev c.val):∀f,(∀o∈I6 f l,Is o)/\(I6 f l).length=2*l.length:=by
 induction l with
 |nil=>intro f;exact⟨λ_ h=>(nomatch h),rfl⟩
 |cons a l I=>
  intro f;obtain⟨h1,J⟩:=I (λb hb=>B_) (a.1+1);refine⟨λo j=>?_,by grind[I6]⟩;rw[I6] at j;rcases S6.1 j with rfl|j;exact⟨λ_ h=>(nomatch h),λ_ h=>nomatch h⟩;rcases S6.1 j with rfl|j;exact⟨λ_ h=>(nomatch h),h a E_⟩;grind
def iG{l:List (Int×W_)}(h:∀a∈l,a.2.length<=64):∀f,Av (I6 f l)<=66*l.length:=by
 induction l<;>grind[Av,I6,EN,JS,Kf]
def SU{i j:Int}{p:W_}(h:Ku w0 F W e σ most s.d s.clip s.H)(Y:St σ.ks most s.d s.clip s.H)(hT:CH w0)(hp:DY S W sv p)(ak:∀c∈p,c.key<=9223372036854775807/\Ev c.val) : l_ 26 [e_ e.b,zIq i,zIq j,sv] (Fl w0 F W e σ most (rP σ.ks most s i j p)) W:=by
 have h0:=h;obtain⟨Ft,Fh,Fc,cv,N,hF⟩:=h;have al:∀c∈p,0<=c.val.f:=λc hc=>(ak c hc).2.2.1;have a6:DY (λy=>y<W.heap.size) W sv p:=hp.sub (λb hb h=>hb) C0 C_;have cx:=N.lt;have da:=N.tx.Ho.2;have dk:=N.tx.g.size;refine Q_ func26 ?_ (.y (.y (.y (.y (.y (.y (.y (.x (.dm [6] [0,1,3,7,0,0,63,127,255,255,511,2047])))))))));apply AA (CZ N.box);rintro _ _ ⟨rfl,rfl⟩;rename c_=>W;apply AM;apply nfl_i (N.box.cells 0 _ rfl);apply AA (Ld N.tx.Ho.1 a6 (hT.S_ N.tx.g) al);rintro _ W1 ⟨rfl,g1⟩;unfold rP;refine neP (λa7=>?_) (by grind[Fl.no]);rw[By (λe=>e a7)];have hP:=FX.1 a7;have an:=N.S_ g1;apply nfl_i (an.box.cells 0 _ rfl);refine AA (Le an.tx.Ho.1 (a6.S_ g1 C0 C_) hP Y.SV) ?_;rintro _ W2 ⟨g2,Q⟩;have av:=g1.trans g2;cases hq:Qd σ.ks p with
 |none=>
  rw[hq] at Q;subst Q;apply BD;exact neP (λe=>absurd e C0) (by grind[Fl.no])
 |some q=>
 rw[hq] at Q;obtain⟨qv,rfl,_⟩:=Q;simp only;apply BD;refine neP (λ_=>?_) E;have b9:=N.S_ av;apply AA (JG b9);rintro _ W3 ⟨rfl,g3⟩;have ax:=av.trans g3;rw[Aj];refine BM (λba=>?_) (by grind[Fl.no]);rw[By (λe=>e ba)];have ay:=N.S_ ax;apply nfl_i (ay.box.cells 1 _ rfl);apply AA (Fe ay.tx);rintro _ W4 ⟨rfl,g4⟩;have b0:=ax.trans g4;refine eqP (by grind[Fl.no]) λhe=>?_;rw[By he];have hM:=Y.NT.m;have cq:=hM.le;have IN:=Y.IN;obtain⟨i,rfl⟩:∃n:Nat,i=n:=⟨i.toNat,E⟩;obtain⟨j,rfl⟩:∃n:Nat,j=n:=⟨j.toNat,E⟩;have hi:i<s.d.length:=E;have hj:j<=s.d.length:=E;rw[aAA,aAA];obtain⟨dr,dz⟩:=Rg hM.g hi hj;refine Bx.zero λb W5 hb g5 B=>?_;have cu:=B.lt (P9 _);apply AA (O1 rfl);rintro _ J ⟨c3,c4,c5,rfl,g6,C3,C4,C5,dT,e1,e2⟩;have z4:=b0.size;have z6:=g6.size;have b6:AG W J:=b0.trans (g5.trans g6);have bb:=N.S_ b6;have B6:=B.S_ g6;have a8:=QK s.d i j;have e3:=jM hM.g hi hj E;refine⟨_,_,_,_,_,_,_,rfl,D_,Oz (Rd:=λy=>y<J.heap.size/\y≠b) bb C3 C4 C5 (λy hy h=>⟨hy,λe=>?_⟩) (λy hy=>hy.1) hM.g hi hj E,B_,L_,?_⟩;grind;refine⟨λk It W'=>∃out,Iz 3 1 Ew J.heap.size b J.heap.size It W' out ((Ox s.d i j).take k)/\AF (λx=>x=b) J W'/\∀y,It y->J.heap.size<=y,λ_ _ _=>False,⟨_,⟨B6,AB.nil,λg O=>nomatch O⟩,AF.refl _ _,L_⟩,?_,λx It bk W W' h=>h.elim,?_,?_,?_,B_⟩
 .rintro k It bk W' e4 ⟨out,q,m,hI⟩ hm I;have hn:∀x,x<J.heap.size->¬((False/\It x)\/x=J.heap.size\/x=J.heap.size+1):=λx hx=>by rintro(⟨h,_⟩|h|h);exact h;all_goals omega
  refine⟨out,⟨q.box.T_ hm (hn b E),AB.T_ q.row hm (λg O=>?_) E',λg O=>?_⟩,m.next hm λx hx e=>absurd e (hn x hx),λy hy=>(I y hy).1.elim (hI y) λ_=>by have:=m.size;omega⟩;obtain⟨_,h2,h3,_⟩:=q.hc g O;grind;obtain⟨h1,h2,h3,h4⟩:=q.hc g O;refine⟨h1,h2,h3,λh=>?_⟩;rcases(I g h).1 with h|h;grind;have:=(AB.Am q.row g O).2;omega
 grind[AF.Ak]
 .rintro k It W7 args hk ⟨pp,pv,set,bl,e5,rfl,_⟩ ⟨out,q,m,hI⟩ hz I;refine La j0 hz I G_ λW8 U=>?_;have z8:=U.size;have B8:=q.box.T_ U E;have o8:AB J.heap.size 3 1 Ew W8 out ((Ox s.d i j).take k):=AB.T_ q.row U (by grind[Iz.hc]) E';apply AI (B8.cells 0 _ rfl);have e6:((Ox s.d i j).take k).length<=536870912:=B_;refine Dv IJ o8 E (cs:=[zIq (pp:Int)]) (x:=(pp:Int)) (CY (v:=zIq (pp:Int)) rfl C0 rfl rfl) rfl rfl (λ_ r y h=>by subst h;exact λu hu=>by simp at hu;subst hu;rfl) B_ E M' λb7 W9 o9 m9 n9=>?_;have z9:=m9.size;obtain ⟨bp,bs⟩:=o9.one;refine (B8.T_ m9 λe=>(q.hc b e).1 rfl).st (q:=0) (show 0 < 1 by decide) bp bs λbx c6 aa=>?_;have e7:=aa.size;have Z:AF (λx=>x=b\/out.ownBlock=some x) W8 bx:=(m9.mono λ_ _ e=>.inr e).trans (aa.mono λ_ _ e=>.inl e);refine ⟨Pa Z E (λb hb=>by have:=(I b hb).1;omega) (λy _ e=>?_),b7,⟨c6,?_,λg O=>?_⟩,?_⟩;rcases e with rfl | e;exact ⟨B_,E,E⟩;obtain ⟨h1,h2,h3,h4⟩:=q.hc y e;grind;rw [Vu hk bl];exact AB.T_ o9 aa (λg O e=>by
   rcases n9 g O with h | h;exact (q.hc g h).1 e;omega) E'
  rcases n9 g O with h|h;exact q.hc g h;refine⟨E,E,E,λhI=>by have:=(I g hI).1;omega⟩;refine⟨(m.next U E).next Z λx hx e=>?_,hI⟩;rcases e with e|e;exact e;have:=(AB.Am q.row x e).1;omega
 .rintro It W7 ⟨out,qc,m,_⟩ I hz hd;unfold vy;dsimp only;rw[<-a8,WL] at qc;have G7:AG W W7:=b6.next m E;have V:=gdr W7;have X:=(N.S_ G7).S_ V;apply Ac (λk y=>False);apply AJ;rw[AE];refine AP (v:=σ.sv) ⟨by rw[AH];exact X.box.cells 0 _ rfl,C_⟩ ?_;refine AP (v:=out) ⟨(qc.box.S_ V).cells 0 _ rfl,C_⟩ ?_;have b8:=QM Y.SV hP hq;have c7:=b8.uL.2.1;have c8:Al (λy=>y<W7.heap.size) 1 Ew W7.drew out (Ox s.d i j):=Al.sub (Al.S_ (AB.sl qc.row) V C0 C_) (λx hx _=>hx) C0 C_;have c9:=iG (l:=(Ox s.d i j).map (·,q)) (λa ha=>by obtain⟨x,_,rfl⟩:=WJ.1 ha;exact c7) 0;rw[Nn,a8] at c9;obtain⟨x1,x2⟩:=QQ (l:=(Ox s.d i j).map (·,q)) (λa ha=>by obtain⟨x,_,rfl⟩:=WJ.1 ha;exact b8.vh Y.k ak) 0;rw[Nn,a8] at x2;obtain⟨n1,n2⟩:=HI x1;have ca:∀{W':c_},AF (λy=>y=J.heap.size) W' (W'.putObj J.heap.size (.deferred none)):=AF.putObj _ _ _ rfl;have z7:=V.size;refine AA (sI X.tx.Ho.1 c8 (a6.S_ (G7.trans V) C0 C_) (hT.S_ X.tx.g) al a7 Y.SV hq B_ E) ?_;rintro _ W8 ⟨g8,⟨e',xv,rfl⟩|⟨e',xv,rfl,cc⟩⟩;refine⟨E,?_⟩;apply BD;refine neP (λe=>absurd e C0) λ_=>?_;rw[Ix e'];exact⟨((V.trans g8).Ak _ E F_).trans hd,Fl.no h0 Y (((G7.trans V).trans g8).next ca E) rfl⟩;refine⟨E,?_⟩;apply BD;refine neP (λ_=>?_) λe=>(e rfl).elim;rw[By (λh=>h e')];refine AA (X.i.VA Y hT g8 cc n1 E) λv w' hQ=>?_;obtain⟨a1,a2⟩:=Fl.mark (W0:=W) (m:=J.heap.size) hQ ((G7.trans V).mono G_) E E E B_ B_ ((V.Ak _ E F_).trans hd);exact⟨a1,a2.Ma (AF.refl _ _) hF⟩
end
def Km(n lo hi:Int):Int:=if hi<(if lo>n then lo else n) then hi else if lo>n then lo else n
def VG{n lo hi:Int}:l_ 127 [zIq n,zIq lo,zIq hi] (λv' w'=>v'=zIq (Km n lo hi)/\w'=w) w:=by
 refine J_ func127 ?_;rw[Hi,Hh];exact⟨rfl,rfl⟩
def Rv{n lo hi:Int}(h:lo<=hi):lo<=Km n lo hi/\Km n lo hi<=hi:=by grind[Km]
def Hq(ks:X')(key:Int):Int:=match BW ks key with
 |none=>4
 |some k=>if k.AR≠2 then 4 else if k.block=false then 7 else 0
def wB(s:V_)(key:Int):Int:=match KL s key with
 |some v=>if v.AR=2 then v.n else 0
 |none=>0
def Q6(s:V_)(key b:Int):Int:=Km (Km (wB s key) 0 8+Km b (-8) 8) 0 8
def Wx(ks:X')(s:V_)(key b:Int):W_:=if Q6 s key b≠0 then(Qd ks [⟨key,false,⟨2,Q6 s key b,0,JF⟩⟩]).getD [] else[⟨key,true,As.zero⟩]
def Lm(ks:X')(s:V_)(key b:Int):W_:=if CF s (Wx ks s key b)=s then[] else Wx ks s key b
def Uz(h:Hq ks key=0):∃k,BW ks key=some k/\k.AR=2/\k.block=true:=by
 grind[Hq]
def Ze{key n:Int}(h:Hq ks key=0):EX ks [⟨key,false,⟨2,n,0,JF⟩⟩]:=by
 obtain⟨k,h1,I,J⟩:=Uz h;have j:EC ⟨2,n,0,JF⟩:=.inr (.inl ⟨rfl,rfl⟩);refine⟨aBs _ _,E_,λc hc=>?_⟩;rw[uN.1 hc];exact⟨λe=>(nomatch e),λ_=>⟨j,k,h1,j,I.symm⟩,B_⟩
def U0(j:ks.length<=64){key b:Int}(h:Hq ks key=0):EX ks (Wx ks s key b)/\∀c∈Wx ks s key b,c=⟨key,false,⟨2,Q6 s key b,0,JF⟩⟩\/(c.Ar=true/\c.val=As.zero/\∃k∈ks,k.id=c.key):=by
 unfold Wx;split;obtain⟨y,I⟩:=Zg (ks:=ks) ⟨key,false,⟨2,Q6 s key b,0,JF⟩⟩;rw[I];have:=QM j (Ze h) I;exact⟨this.uL,λc hc=>(this.of c hc).imp uN.1 id⟩
 .obtain⟨k,h1,_,_⟩:=Uz h;obtain⟨N,J,O⟩:=WJ.1 (US h1);refine⟨⟨aBs _ _,E_,λc hc=>?_⟩,λc hc=>?_⟩;grind;grind
def kx{c:Chg}(I:∀w',AG w w'->DY (λx=>x=w.heap.size) w' (.slice (f_ w.heap.size) 1 1) [c]->w.heap.size<w'.heap.size->K (.slice (f_ w.heap.size) 1 1) w') : EE 80 6 1 [(zIq 0),(.bool false),(.int .u8 0),(zIq 0),(.int .u64 0),(.string (ByteArray.mk #[]))] [(0,.agg c.cells.toArray)] K w:=by
 refine ET (CY (v:=.agg c.cells.toArray) (vs:=c.cells) (k:=6) rfl C0 rfl rfl) ?_;have j:AB w.heap.size 80 6 CO (w.alloc (.cells c.cells.toArray 80)) (.slice (f_ w.heap.size) 1 1) [c]:=AB.KU (DN _) rfl (CO.one (w:=w) (x:=c) rfl) rfl;exact I _ (AF.alloc _ _ _) (Al.sub (AB.sl j) (λx _ h=>by have:=h.2;simp only[Value.ownBlock,gn] at this;exact this.symm) C0 C_) (AB.Am j _ rfl).2
def Rt{D S:d_}{key b:Int}(hS:CG D w sv ks)(h:Bo S w v s)(hs:Dg s)(hl:s.length<=10000)(V:ks.length<=64) : l_ 69 [sv,v,zIq key,zIq b] (λv' w'=>AG w w'/\((Hq ks key≠0/\v'=.tuple #[g_,zIq (Hq ks key)])\/(Hq ks key=0/\∃U,v'=.tuple #[U,zIq 0]/\DY (λx=>w.heap.size<=x/\x<w'.heap.size) w' U (Lm ks s key b)))) w:=by
 refine N_ func69 ?_ (.y (.y (.cut [] [(8,9),(22,33)] .nil (.y (.cut [12] [(12,14),(34,47)] .nil (.y (.y (.cut [15] [(15,15),(57,68)] .nil .nil))))))));apply AA (IW hS key);rintro _ w1 ⟨rfl,g1⟩;apply BD;generalize hk:(BW ks key).getD DKey.zero=k;refine BA (vs:=k.cells) rfl rfl (Hg.one (w:=w) (x:=k) rfl) λb5 w3 ak al g5 X _=>?_;have g3:=g1.trans g5;refine AT (λ_ w'=>w'=w3/\Hq ks key=0) ?_ ?_;rotate_left
 .rw[Aj];cases hf:BW ks key with
  |none=>
   have:Hq ks key=4:=by grind[Hq]
   grind[Ab]
  |some k0=>
   rw[hf] at hk;obtain rfl:k0=k:=hk;apply AM;apply fl_i (X 2 _ rfl);refine neP (λe=>?_) λe=>?_;rotate_left;have:Hq ks key=4:=by grind[Hq]
   grind;apply fl_i (X 1 _ rfl);rw[Aj];cases eb:k0.block with
   |false=>
    have:Hq ks key=7:=by grind[Hq]
    grind[Ab]
   |true=>
    refine AM ⟨rfl,?_⟩;grind[Hq]
 rintro _ _ ⟨rfl,h0⟩ _;have z3:=g3.size;refine AT (λvs w'=>vs=[zIq (wB s key)]/\AG w w') ?_ ?_;rotate_left;refine AA (Y0 (h.S_ g3 C0 C_) hs E) ?_;rintro _ w4 ⟨g4,rfl⟩;apply BD;refine BA (vs:=((KL s key).getD As.zero).cells) rfl rfl (As.one _) λb8 w6 an a8 g6 I _=>?_;have Y:=(g3.trans g4).trans g6;unfold wB;cases e:KL s key with
 |none=>grind[AM]
 |some x=>
  rw[e] at I;apply Ab;apply fl_i (I 0 _ rfl);refine eqP (λ(e2:x.AR=2)=>?_) λ(e2:¬x.AR=2)=>?_;refine fl_i (I 1 _ rfl) ⟨?_,Y⟩;grind;refine⟨?_,Y⟩;grind
 rintro _ w7 ⟨rfl,g7⟩ _;simp only[Bh,HK];apply AA VG;rintro _ _ ⟨rfl,rfl⟩;apply AA VG;rintro _ _ ⟨rfl,rfl⟩;have q1:=Rv (n:=wB s key) (lo:=0) (hi:=8) C0;have q2:=Rv (n:=b) (lo:=-8) (hi:=8) C0;rw[AQ,wrap64 E E];apply AA VG;rintro _ _ ⟨rfl,rfl⟩;have en:Km (Km (wB s key) 0 8+Km b (-8) 8) 0 8=Q6 s key b:=rfl;rw[en];have z7:=g7.size;refine⟨(⟨key,true,As.zero⟩:Chg).cells.toArray,by rfl,?_⟩;refine kx (c:=⟨key,true,As.zero⟩) λw8 g8 J a8=>?_;have Z:=g7.trans g8;obtain⟨hP,_⟩:=U0 V (s:=s) (b:=b) h0;refine AT (λvs w'=>∃U,vs=[U]/\AG w w'/\DY (λx=>w.heap.size<=x/\x<w'.heap.size) w' U (Wx ks s key b)) ?_ ?_;rotate_left
 .unfold Wx;refine neP (λhn=>?_) λhn=>?_;rotate_left;rw[Ix hn];refine⟨(⟨2,Q6 s key b,0,JF⟩:As).cells.toArray,by rfl,?_⟩;refine⟨(⟨key,false,⟨2,Q6 s key b,0,JF⟩⟩:Chg).cells.toArray,by rfl,?_⟩;refine kx (c:=⟨key,false,⟨2,Q6 s key b,0,JF⟩⟩) λw9 g9 N ax=>?_;have O:=Z.trans g9;apply AA (Le (hS.S_ O) N (Ze h0) V);obtain⟨y,hy⟩:=Zg (ks:=ks) ⟨key,false,⟨2,Q6 s key b,0,JF⟩⟩;rw[hy];rintro _ ay ⟨aa,qv,rfl,hq⟩;have z9:=O.size;exact Bt (vs:=[_,_]) (by rfl) (Bt (vs:=[_,_]) (by rfl) ⟨qv,rfl,O.trans aa,hq.sub E C0 C_⟩);rw[By λh=>h hn];exact⟨_,rfl,Z,J.sub E C0 C_⟩
 rintro _ b0 ⟨U,rfl,a1,hp⟩ _;simp only[HK];have b6:=hP.2.1;have j:=h.S_ a1 C0 C_;refine AA (QV j hp E) ?_;rintro av b7 ⟨ho,Q⟩;refine AA (OM (AB.sl ho) (j.S_ Q C0 C_)) ?_;rintro _ b9 ⟨rfl,a6⟩;have a7:=a1.trans (Q.trans a6);unfold Lm;by_cases e:CF s (Wx ks s key b)=s;grind[Ab,Al.nil]
 .rw[zk e,By e];refine AM ⟨a7,.inr ⟨h0,_,rfl,?_⟩⟩;exact(hp.S_ (Q.trans a6) C0 C_).sub E C0 C_
def mb:DD prog 122 47 1 24:=⟨Tryz.t47,g_,D_,D_,D_,D_,D_,by rfl,C0⟩
def J0{s:Sem b_}{K j:Cont}(h:runK P s K w)(I:∀v w',K v w'->j v w'):runK P s j w:=by
 obtain⟨v,w',h1,J⟩:=h;exact⟨v,w',h1,I v w' J⟩
def H9{a v:b_}{K j:c_->Prop}(h:Cc a v K w)(I:∀w,K w->j w):Cc a v j w:=by
 obtain⟨a,u,h1,J,N,O,Q,U⟩:=h;exact⟨a,u,h1,J,N,O,Q,I _ U⟩
def VN{t e k bytes B q:Nat}{R:c_->U_->α->Prop}{l:List α}{x:α}(J:DD P t e k bytes)(h:AB B e k R w v l)(N:AB q e k R w (.slice (f_ q) 1 1) [x])
 (j:∀r y,R w r y->∀u∈r,u.oneCell'=true)(hl:(l.length+1)*bytes<=140737488355328)(O:B<=w.heap.size)(I:l.length+1<=maxLen)(Q:∀w',w.grownBy w' v.ownBlock->∀r y,R w r y->R w' r y)
 (U:∀v' w',AB B e k R w' v' (l++[x])->AF (λb=>v.ownBlock=some b) w w'->(∀g,v'.ownBlock=some g->v.ownBlock=some g\/w.heap.size<=g)->K v' w') :
  runK P (Builtin.append_ #[t,t] t [v,.slice (f_ q) 1 1].toArray) K w:=
 J0 (AB.append J h (AB.sl N) j hl O I Q) (by grind[AF.BO])
def jN{D S S1 S2:d_}{l:V'}{G5:List V_}{key b:Int}(Z:CG D w sv ks)(ha:Al S 1 Ew w v l)(ht:Al S1 1 (Cu S2) w fr G5)(al:G5.length=l.length)(I:∀s∈G5,Dg s/\s.length<=64)(J:ks.length<=64) (hb:∀a∈l,0<=a/\a<=1099511627776)(hd:Av (I6 0 (l.zip (G5.map (Lm ks · key b))))<=68719476736) : l_ 70 [sv,v,fr,zIq key,zIq b] (λv' w'=>AG w w'/\((Hq ks key≠0/\∃xv,v'=.tuple #[xv,zIq (Hq ks key)])\/(Hq ks key=0/\∃xv,v'=.tuple #[xv,zIq 0]/\Bs w.heap.size w' xv (BJ (I6 0 (l.zip (G5.map (Lm ks · key b)))))))) w:=by
 refine P_ func70 ?_;have a1:sv.cells=#[sv]:=by obtain⟨_,_,_,_,rfl,_⟩:=Z;rfl
 obtain⟨ta,tc,rfl,_⟩:=id ht.AK;refine DV a1 λb1 w1 an g1 B1=>DV rfl λb2 w2 ax g2 B2=>DV rfl λb3 w3 ay g3 B3=>DV rfl λb4 w4 b0 Y B4=>?_;have Q:=B1.S_ (g2.trans (g3.trans Y));have a6:=B2.S_ (g3.trans Y);have U:=B3.S_ Y;have j:=g1.trans (g2.trans (g3.trans Y));refine AI (Q.cells 0 _ rfl) (AI (U.cells 0 _ rfl) (AI (B4.cells 0 _ rfl) ?_));apply AA (Rt (S:=λ_=>False) (s:=[]) (Z.S_ j) Al.nil List.Pairwise.nil E_ J);rintro _ w5 ⟨g5,⟨h0,rfl⟩|⟨h0,pv,rfl,_⟩⟩;apply BD;exact neP (λe=>(h0 e).elim) (by grind[AF.trans]);apply BD;refine neP (λ_=>?_) λe=>(e rfl).elim;have V:=j.trans g5;have b6:(l.zip (G5.map (Lm ks · key b))).map (·.1)=l:=by grind[List.map_fst_zip]
 have mem:∀a∈l.zip (G5.map (Lm ks · key b)),a.1∈l/\a.2.length<=64:=λa ha=>by
  have h1:=aDL (a:=a.1) (b:=a.2) ha;refine⟨h1.1,?_⟩;obtain⟨s,_,e⟩:=WJ.1 h1.2;rw[<-e];unfold Lm;split;simp;exact(U0 J h0).1.2.1
 refine AA (TI (l:=l.zip (G5.map (Lm ks · key b))) (S:=S) (by grind[Al.S_]) B_ B_ hd λW k hk K gW hK=>?_) ?_
 .have gw:=g5.trans gW;have N:k<G5.length:=B_;have gd:=gdr W;have O:=gw.trans gd;apply Nk (cs:=[_,_,_,_]) D_;refine P_ func129 ?_ (.y (.x (.dm [3,6] [0,0,0,6,0,0,63,127,255,255,511,2047])));apply Ac (λ_ _=>False);refine AP ⟨(Q.S_ O).cells 0 _ rfl,C_⟩ (AP ⟨(a6.S_ O).cells 0 _ rfl,C_⟩ ?_);refine H_ func130 ?_;rw[AO];refine Cn (λ_=>?_) E;have a7:=Al.S_ ht (j.trans O) C0 λr x ⟨u,e1,hx⟩=>⟨u,e1,hx.S_ (j.trans O) C0 C_⟩;obtain⟨q,r,rfl,_,hr,hc,su,rfl,a8⟩:=a7.get N;refine AV N (AI (by have:=hc 0 _ rfl;exact this) ⟨AF.refl _ _,?_⟩);refine AP ⟨(U.S_ O).cells 0 _ rfl,C_⟩ (AP ⟨(B4.S_ O).cells 0 _ rfl,C_⟩ ?_);have aa:=I _ (S7 N);apply AA (Rt (Z.S_ (j.trans O)) a8 aa.1 (by omega) J);rintro _ w7 ⟨g7,⟨h1,_⟩|⟨_,b7,rfl,ak⟩⟩;omega;refine⟨E,BD ?_⟩;apply hK _ w7 (gd.trans g7);rw[List.getElem_zip,aBZ];have zd:W.drew.heap.size=W.heap.size:=rfl;exact ak.sub E C0 C_
 rintro xv w6 ⟨X,g6⟩;have z5:=V.size;exact⟨V.trans g6,.inr ⟨h0,_,rfl,AB.T_ (AB.BY X λg hg=>by have:=(AB.Am X g hg).1;omega) j0 C_ λr x _ hx=>hx.T_ j0 E' B_⟩⟩
def VY(d:Y_)(i j:Nat):List V_:=(List.range (UZ d i j+1-L9 d i)).map λk=>((Cb d)[L9 d i+k]?).getD []
def mO{i j k:Nat}(hk:k<UZ d i j+1-L9 d i)(hp:(Cb d)[L9 d i+k]?=some s):(VY d i j).take (k+1)=(VY d i j).take k++[s]:=by
 rw[No];congr 1;unfold VY;rw[aAM,aCt hk];simp[hp]
def wP(h:Ig ks d)(i j:Nat):∀s∈VY d i j,Dw ks s:=by
 intro s J;obtain⟨k,_,rfl⟩:=WJ.1 J;cases e:(Cb d)[L9 d i+k]? with
 |none=>exact Dw.nil
 |some s=>
  have I:=aAk e;grind[Cb,Ig.set]
def AAR(ks:X')(d:Y_)(i j:Nat)(key b:Int):U':=I6 0 ((Ox d i j).zip ((VY d i j).map (Lm ks · key b)))
noncomputable def qx(ks:X')(most:Int)(s:Est)(i j key b:Int):Int×Est:=if Hq ks key=4 then(4,s) else if ¬(0<=i/\i<=j/\j<=(s.d.length:Int)) then(5,s) else if i=(s.d.length:Int) then(5,s) else if Hq ks key≠0 then(Hq ks key,s) else Tw ks most s (BJ (AAR ks s.d i.toNat j.toNat key b))
def aS(N:∀k∈ks,E9 k)(j:ks.length<=64){key b:Int}(h:Hq ks key=0):(∀c∈Lm ks s key b,c.key<=9223372036854775807/\Ev c.val)/\(Lm ks s key b).length<=64:=by
 unfold Lm;split;grind;obtain⟨h1,O⟩:=U0 j (s:=s) (b:=b) h;refine⟨λc hc=>?_,h1.2.1⟩;obtain⟨k,hk,_,_⟩:=Uz h;obtain⟨Q,I,X⟩:=WJ.1 (US hk);have q:=Rv (n:=Km (wB s key) 0 8+Km b (-8) 8) (lo:=0) (hi:=8) C0;rcases O c hc with rfl|⟨_,e,k2,J,U⟩;have:=(N Q I).2.1;have V:0<=Q6 s key b/\Q6 s key b<=8:=q;refine⟨B_,⟨?_,?_⟩,?_,?_⟩;grind;grind;grind;grind;rw[e];have:=(N k2 J).2.1;exact⟨E,⟨C0,C0⟩,C0,C0⟩
section
variable {w0:c_}{F Ft Fh Fc:d_}{W W':c_}{e:EgA}{cv:b_}{σ:SKs}{most:Int}{s:Est}{r:Int×Est}
structure fL (w6:c_) (c c':Nat) (It:d_) (W:c_) (out outs:b_) (Q:d_) (L:V') (M:List V_):Prop where
 b1:Bx W c [out]
 b2:Bx W c' [outs]
 r1:AB w6.heap.size 3 1 Ew W out L
 r2:AB w6.heap.size 47 1 (Cu Q) W outs M
 n:∀g,(out.ownBlock=some g\/outs.ownBlock=some g)->g≠w6.heap.size/\g≠w6.heap.size+1/\¬It g/\¬Q g
 d:∀g,out.ownBlock=some g->outs.ownBlock≠some g
 q:∀y,Q y->w6.heap.size<=y/\y<W.heap.size/\y≠w6.heap.size/\y≠w6.heap.size+1
 m:AF (λx=>x=c\/x=c') w6 W
 i:∀y,It y->w6.heap.size<=y
def dV{i j key b:Int}(h:Ku w0 F W e σ most s.d s.clip s.H)(hs:St σ.ks most s.d s.clip s.H)(hT:CH w0) : l_ 27 [e_ e.b,zIq i,zIq j,zIq key,zIq b] (Fl w0 F W e σ most (qx σ.ks most s i j key b)) W:=by
 have h0:=h;obtain⟨Ft,Fh,Fc,cv,hR,hF⟩:=h;have ek:=hR.lt;have en:=hR.tx.Ho.2;have eo:=hR.tx.g.size;refine Sa func27 ?_ (.y (.y (.y (.y (.y (.y (.z (.y (.y (.dt [2,3,6,7,8,9] (i_ [0,0,2,7,0,0,32,127,255,511]) [] (.op 0 (.op 1 (.op 4 (.op 5 (.br (.op 2 (.br (.op 3 (.op 6 (.op 7 (.op 8 (.op 9 .nil))))) (.op 6 (.op 3 (.op 7 (.op 8 (.op 9 .nil))))))) (.op 6 (.op 2 (.op 3 (.op 7 (.op 8 (.op 9 .nil)))))))))))))) (.x (.dm [8] [0,1,3,7,0,0,0,0,255,511,1023,1023,2047,8191])))))))));apply AA (CZ hR.box);rintro _ _ ⟨rfl,rfl⟩;rename c_=>W;apply AM;apply nfl_i (hR.box.cells 0 _ rfl);apply AA (Rt (S:=λ_=>False) (s:=[]) (key:=key) (b:=b) hR.tx.Ho.1 Al.nil List.Pairwise.nil E_ hs.SV);rintro v1 W1 ⟨g1,ep⟩;obtain⟨xv,rfl⟩:∃xv,v1=.tuple #[xv,zIq (Hq σ.ks key)]:=by
  grind
 apply BD;unfold qx;refine eqP (by grind[Fl.no]) λe4=>?_;rw[By e4];apply AA (JG (hR.S_ g1));rintro _ W3 ⟨rfl,g3⟩;have b9:=g1.trans g3;rw[Aj];refine BM (λcx=>?_) (by grind[Fl.no]);rw[By (λe=>e cx)];have ba:=hR.S_ b9;apply nfl_i (ba.box.cells 1 _ rfl);apply AA (Fe ba.tx);rintro _ W4 ⟨rfl,g4⟩;have bb:=b9.trans g4;refine eqP (by grind[Fl.no]) λhe=>?_;rw[By he,FQ];refine BM (λe0=>?_) (by grind[Fl.no]);rw[By (λh=>h e0)];have hM:=hs.NT.m;have eh:=hM.le;have IN:=hs.IN;obtain⟨i,rfl⟩:∃n:Nat,i=n:=⟨i.toNat,E⟩;obtain⟨j,rfl⟩:∃n:Nat,j=n:=⟨j.toNat,E⟩;have hi:i<s.d.length:=E;have hj:j<=s.d.length:=E;rw[aAA,aAA];obtain⟨er,et⟩:=Rg hM.g hi hj;refine Bx.zero λc eu hb da B5=>Bx.zero λc' W5 ew bk bl=>?_;have dk:=B5.lt (P9 _);have ej:=bl.lt (P9 _);have B:=B5.S_ bk;have g5:=da.trans bk;have ez:c≠c':=E;apply AA (O1 rfl);rintro _ W6 ⟨c3,c4,c5,rfl,g6,C3,C4,C5,eA,eB,eC⟩;have z4:=bb.size;have z6:=g6.size;have bp:=bb.trans (g5.trans g6);have B6:=B.S_ g6;have D6:=bl.S_ g6;have bs:=QK s.d i j;have bx:(VY s.d i j).length=UZ s.d i j+1-L9 s.d i:=by grind[VY]
 have eH:=jM hM.g hi hj E;refine⟨_,_,_,_,_,_,_,rfl,D_,Oz (Rd:=λy=>y<W6.heap.size/\y≠c/\y≠c') (hR.S_ bp) C3 C4 C5 (λy Y h=>?_) (λy Y=>Y.1) hM.g hi hj E,B_,L_,?_⟩;grind;refine⟨λk X W'=>∃out I Q,fL W6 c c' X W' out I Q ((Ox s.d i j).take k) ((VY s.d i j).take k),λ_ _ _=>False,⟨_,_,λ_=>False,⟨B6,D6,AB.nil,AB.nil,λg N=>N.elim (λh=>nomatch h) (λh=>nomatch h),λg N=>(nomatch N),L_,AF.refl _ _,L_⟩⟩,?_,λx X dr W W' h=>h.elim,?_,?_,?_,B_⟩;rintro k X dr W' eI ⟨out,I,Q,t⟩ hm a6;have hn:∀x,x≠W6.heap.size->x≠W6.heap.size+1->¬((False/\X x)\/x=W6.heap.size\/x=W6.heap.size+1):=B_;have z:=hm.size;refine⟨out,I,Q,t.b1.T_ hm (hn c E E),t.b2.T_ hm (hn c' E E),AB.T_ t.r1 hm (λg N=>hn g (t.n g (.inl N)).1 (t.n g (.inl N)).2.1) E',AB.T_ t.r2 hm (λg N=>hn g (t.n g (.inr N)).1 (t.n g (.inr N)).2.1) λr x _ ⟨u,e1,hx⟩=>⟨u,e1,hx.T_ hm (λy _ Y=>hn y (t.q y Y).2.2.1 (t.q y Y).2.2.2) C0 C_⟩,λg N=>⟨(t.n g N).1,(t.n g N).2.1,λh=>?_,(t.n g N).2.2.2⟩,t.d,λy Y=>⟨(t.q y Y).1,by have:=(t.q y Y).2.1;omega,(t.q y Y).2.2⟩,t.m.next hm λx hx e=>absurd e (hn x E E),λy Y=>(a6 y Y).1.elim (t.i y) λ_=>by have:=t.m.size;omega⟩;rcases(a6 g h).1 with h|h;exact(t.n g N).2.2.1 h;rcases N with N|N;have:=(AB.Am t.r1 g N).2;omega;have:=(AB.Am t.r2 g N).2;omega;rintro k X W' ⟨out,I,Q,t⟩ y Y hr;exact t.m.Ak y Y λe=>e.elim hr.2.1 hr.2.2
 .rintro k X W7 args hk ⟨pp,sv,set,ax,ay,rfl,c6⟩ ⟨out,I,Q,t⟩ hz a6;refine La j0 hz a6 G_ λZ a7=>?_;have z8:=a7.size;have gd:=gdr Z;have zd:Z.drew.heap.size=Z.heap.size:=rfl;have dz:=Vu (i:=i) (j:=j) hk ax;have dT:=mO (i:=i) (j:=j) hk ay;have hQ:∀y,(Q y\/X y)->W6.heap.size<=y/\y<Z.heap.size/\y≠W6.heap.size/\y≠W6.heap.size+1/\out.ownBlock≠some y/\I.ownBlock≠some y:=λy Y=>by
   rcases Y with Y|Y;have:=t.q y Y;grind[fL.n];have:=a6 y Y;exact⟨t.i y Y,E,this.2.1,this.2.2,(by grind[fL.n]),(by grind[fL.n])⟩
  have aa:∀ {w1 w2:c_} {r:U_} {x:V_},AF (λb=>(out.ownBlock=some b\/I.ownBlock=some b)\/Z.heap.size<=b) w1 w2->Cu (λy=>Q y\/X y) w1 r x->Cu (λy=>Q y\/X y) w2 r x:=λm ⟨u,e1,hx⟩=>⟨u,e1,hx.T_ m (λy _ Y e=>by
   obtain ⟨_,h2,_,_,h5,h6⟩:=hQ y Y;grind) C0 C_⟩
  have o8:AB W6.heap.size 3 1 Ew Z.drew out ((Ox s.d i j).take k):=AB.T_ (AB.T_ (R':=Ew) t.r1 a7 (λg N=>(t.n g (.inl N)).2.1) E') gd C_ E';have p8:AB W6.heap.size 47 1 (Cu λy=>Q y\/X y) Z.drew I ((VY s.d i j).take k):=AB.T_ (AB.T_ (R':=Cu λy=>Q y\/X y) t.r2 a7 (λg N=>(t.n g (.inr N)).2.1) λr x _ ⟨u,e1,hx⟩=>⟨u,e1,(hx.T_ a7 (λy _ Y e=>(t.q y Y).2.2.2 e) C0 C_).sub (λ_ _ h=>.inl h) C0 C_⟩) gd C_ λr x _ ⟨u,e1,hx⟩=>⟨u,e1,hx.S_ gd C0 C_⟩;have c7:Bo (λy=>Q y\/X y) Z.drew sv set:=(Al.T_ (c6.sub (λ_ _ h=>.inr h) C0 C_) a7 B_ C0 C_).S_ gd C0 C_;have B8:=(t.b1.T_ a7 E).S_ gd;have D8:=(t.b2.T_ a7 E).S_ gd;have b0:((Ox s.d i j).take k).length<=536870912:=by simp;omega
  have e2:((VY s.d i j).take k).length<=536870912:=by simp;omega
  obtain⟨sa,sc,rfl,_⟩:=id c6.AK;have c8:∀u∈[Value.slice sa set.length sc],u.oneCell'=true:=λu hu=>by simp at hu;subst hu;rfl
  have c9:∀u∈[zIq (pp:Int)],u.oneCell'=true:=λu hu=>by simp at hu;subst hu;rfl
  have HA:∀{wx:c_} {O U:b_} {K:c_->Prop},AB W6.heap.size 3 1 Ew wx O ((Ox s.d i j).take k++[(pp:Int)])->AB W6.heap.size 47 1 (Cu λy=>Q y\/X y) wx U ((VY s.d i j).take k++[set])->AF (λb=>out.ownBlock=some b\/I.ownBlock=some b) Z.drew wx->(∀g,O.ownBlock=some g->out.ownBlock=some g\/Z.heap.size<=g)->(∀g,U.ownBlock=some g->I.ownBlock=some g\/Z.heap.size<=g)->(∀g,O.ownBlock=some g->U.ownBlock≠some g)->
    (∀w,wM X W6 Z w/\(∃out I Q,fL W6 c c' X w out I Q ((Ox s.d i j).take (k+1)) ((VY s.d i j).take (k+1)))->K w)->
    Cc (e_ c) O (λw3=>AF (λb=>b=c) wx w3/\Cc (e_ c') U (λw=>AF (λb=>b=c') w3 w/\K w) w3) wx:=by
   intro wx O U K o p m n1 n2 nd hK;have zx:=m.size;have e3:=B8.T_ m λe=>by rcases e with e|e;(have:=(AB.Am t.r1 c e).1;omega);(have:=(AB.Am t.r2 c e).1;omega)
   have e5:=D8.T_ m λe=>by rcases e with e|e;(have:=(AB.Am t.r1 c' e).1;omega);(have:=(AB.Am t.r2 c' e).1;omega)
   obtain⟨e6,e7⟩:=o.one;refine e3.st (q:=0) (show 0<1 by decide) e6 e7 λw9 B9 m9=>⟨m9,?_⟩;obtain⟨ax,ay⟩:=p.one;refine(e5.T_ m9 E).st (q:=0) (show 0<1 by decide) ax ay λb6 e8 al=>⟨al,hK b6 ?_⟩;have z9:=m9.size;have eL:=al.size;have mm:AF (λb=>b=c\/b=c') wx b6:=(m9.mono λ_ _ e=>.inl e).trans (al.mono λ_ _ e=>.inr e);have an:AF (λb=>(out.ownBlock=some b\/I.ownBlock=some b)\/b=c\/b=c') Z b6:=((gd.mono G_).trans (m.mono λ_ _ e=>.inl e)).trans (mm.mono λ_ _ e=>.inr e);have og:∀g,O.ownBlock=some g\/U.ownBlock=some g->W6.heap.size<=g:=λg N=>N.elim (λh=>(AB.Am o g h).1) λh=>(AB.Am p g h).1;refine⟨Pa an E (λb hb=>by have:=(a6 b hb).1;omega) λy _ e=>?_,O,U,λy=>Q y\/X y,B9.T_ al E,e8,?_,?_,λg N=>?_,nd,λy Y=>?_,?_,t.i⟩;rcases e with(e|e)|e|e;exact⟨(t.n y (.inl e)).2.2.1,(t.n y (.inl e)).1,(t.n y (.inl e)).2.1⟩;exact⟨(t.n y (.inr e)).2.2.1,(t.n y (.inr e)).1,(t.n y (.inr e)).2.1⟩;exact⟨λh=>by have:=t.i y h;omega,E,E⟩;exact⟨λh=>by have:=t.i y h;omega,E,E⟩;rw[dz];exact AB.T_ o mm (λg N e=>by have:=og g (.inl N);omega) E';rw[dT];exact AB.T_ p mm (λg N e=>by have:=og g (.inr N);omega) λr x _ ⟨u,e1,hx⟩=>⟨u,e1,hx.T_ mm (λy _ Y e=>by have:=(hQ y Y).1;omega) C0 C_⟩;have key:(out.ownBlock=some g\/I.ownBlock=some g)\/Z.heap.size<=g:=by
    rcases N with N|N;exact(n1 g N).imp .inl id;exact(n2 g N).imp .inr id
   rcases key with h|h;have:=t.n g h;exact⟨this.1,this.2.1,this.2.2.1,λe=>e.elim this.2.2.2 this.2.2.1⟩;exact⟨E,E,λe=>by have:=(a6 g e).1;omega,λe=>by have:=(hQ g e).2.1;omega⟩;obtain⟨h1,h2,h3,h4,_⟩:=hQ y Y;omega;refine(t.m.next a7 E).next an λx hx e=>?_
   rcases e with(e|e)|e;have:=(AB.Am t.r1 x e).1;omega;have:=(AB.Am t.r2 x e).1;omega;exact e
  apply Ac (λq b=>(q=3/\out.ownBlock=some b)\/(q=7/\I.ownBlock=some b)\/(q=8/\b=c)\/(q=9/\b=c'));have J:∀{W:c_},AG W (W.alloc (.cells [zIq (pp:Int)].toArray 3)):=λ{W}=>AF.alloc _ _ _;have V:∀{W:c_},AG W (W.alloc (.cells [Value.slice sa set.length sc].toArray 47)):=λ{W}=>AF.alloc _ _ _;have dW:∀{W:c_},AB W.heap.size 3 1 Ew (W.alloc (.cells [zIq (pp:Int)].toArray 3)) (.slice (f_ W.heap.size) 1 1) [(pp:Int)]:=AB.KU (DN _) rfl c9 rfl;have ak:∀{W:c_},Bo (λy=>Q y\/X y) W (.slice sa set.length sc) set->AB W.heap.size 47 1 (Cu λy=>Q y\/X y) (W.alloc (.cells [Value.slice sa set.length sc].toArray 47)) (.slice (f_ W.heap.size) 1 1) [set]:=λ{W} h=>AB.KU (DN _) rfl c8 ⟨_,rfl,h.S_ V C0 C_⟩;have one1:∀{w:c_} (r:U_) (y:Int),Ew w r y->∀u∈r,u.oneCell'=true:=λr y h=>by subst h;exact λu hu=>by simp at hu;subst hu;rfl
  have ca:∀{w:c_} (r:U_) (y:V_),Cu (λy=>Q y\/X y) w r y->∀u∈r,u.oneCell'=true:=λr y ⟨u,e1,hx⟩=>by
   subst e1;obtain⟨a,c,rfl,_⟩:=hx.AK;exact λu hu=>by simp at hu;subst hu;rfl
  have e9:∀{w1 w2:c_} {r:U_} {x:V_},AG w1 w2->Cu (λy=>Q y\/X y) w1 r x->Cu (λy=>Q y\/X y) w2 r x:=λg ⟨u,e1,hx⟩=>⟨u,e1,hx.S_ g C0 C_⟩;have b7:=AB.Am o8;have cc:=AB.Am p8;have mo:∀{w1 w2:c_},AF (λb=>out.ownBlock=some b) w1 w2->AF (λb=>out.ownBlock=some b\/I.ownBlock=some b) w1 w2:=λm=>m.mono λ_ _ e=>.inl e;have mg:∀{w1 w2:c_},AG w1 w2->AF (λb=>out.ownBlock=some b\/I.ownBlock=some b) w1 w2:=λm=>m.mono G_;have lm:∀{n:Nat},n<=536870912->n+1<=maxLen:=λh=>by simp[maxLen];omega
  apply AP (v:=out) ⟨B8.cells 0 _ rfl,λq hq e=>by rcases e with⟨rfl,_⟩|⟨rfl,_⟩|⟨rfl,_⟩|⟨rfl,_⟩<;>exact absurd hq C0⟩;apply AP (v:=I) ⟨D8.cells 0 _ rfl,λq hq e=>by rcases e with⟨rfl,e⟩|⟨rfl,e⟩|⟨rfl,_⟩|⟨rfl,_⟩;(have h1:W6.heap.size<=c':=(b7 _ e).1;omega);all_goals exact absurd hq C0⟩;have f1:Instr.fill (λi=>some (i*1,1)) ((Array.range (1*1)).map ([zIq 0].toArray[· % [zIq 0].toArray.size]!)) [(0,zIq (pp:Int))]=some [zIq (pp:Int)].toArray:=CY (v:=zIq (pp:Int)) rfl C0 rfl rfl;have f2:Instr.fill (λi=>some (i*1,1)) ((Array.range (1*1)).map ([g_].toArray[· % [g_].toArray.size]!)) [(0,.slice sa set.length sc)]=some [Value.slice sa set.length sc].toArray:=CY (v:=.slice sa set.length sc) rfl C0 rfl rfl;have a8:∀{wa wb wc:c_} {O:b_} {q2:Nat} {K:c_->Prop},AG Z.drew wa->AB W6.heap.size 3 1 Ew wb O ((Ox s.d i j).take k++[(pp:Int)])->AF (λb=>out.ownBlock=some b) wa wb->(∀g,O.ownBlock=some g->out.ownBlock=some g\/wa.heap.size<=g)->AG wb wc->AB q2 47 1 (Cu λy=>Q y\/X y) wc (.slice (f_ q2) 1 1) [set]->
    (∀w,wM X W6 Z w/\(∃out I Q,fL W6 c c' X w out I Q ((Ox s.d i j).take (k+1)) ((VY s.d i j).take (k+1)))->K w)->
    runK prog (Builtin.append_ #[122,122] 122 [I,.slice (f_ q2) 1 1].toArray) (λU wd=>AF (λb=>I.ownBlock=some b) wc wd/\Cc (e_ c) O (λw3=>AF (λb=>b=c) wd w3/\Cc (e_ c') U (λw=>AF (λb=>b=c') w3 w/\K w) w3) wd) wc:=by
   intro wa wb wc O q2 K ga o2 m2 n2 gc r2 hK;have za:=ga.size;have zb:=m2.size;have zc:=gc.size;have mc:=((ga.mono G_).trans m2).trans (gc.mono G_);refine VN mb (AB.T_ (R':=Cu λy=>Q y\/X y) p8 mc (λg N e=>t.d g e N) λr x _ h=>aa (mc.mono λ_ _ e=>.inl (.inl e)) h) r2 ca E E (lm e2) (λw' N r y h=>aa ((AF.BO N).mono λ_ _ e=>.inl (.inr e)) h) λU wd p4 m4 n4=>⟨m4,?_⟩;have z4:=m4.size;have ea:AF (λb=>I.ownBlock=some b) wb wd:=(gc.mono λ_ _ h=>h.elim:AF (λb=>I.ownBlock=some b) wb wc).trans m4;refine HA (AB.T_ o2 ea (λg N e=>?_) E') p4 ((mc.mono λ_ _ e=>.inl e).trans (m4.mono λ_ _ e=>.inr e)) (λg N=>(n2 g N).imp id E) (λg N=>(n4 g N).imp id E) (λg N e=>?_) hK;rcases n2 g N with h|h;exact t.d g h e;have:=(cc g e).2;omega;have:=(AB.Am o2 g N).2;rcases n4 g e with h|h;rcases n2 g N with h'|h';exact t.d g h' h;have:=(cc g h).2;omega;omega
  have av:∀{w1:c_},AF (λb=>(out.ownBlock=some b\/I.ownBlock=some b)\/Z.heap.size<=b) Z.drew w1->Bo (λy=>Q y\/X y) w1 (.slice sa set.length sc) set:=λm=>by
   obtain⟨u,e,h⟩:=aa m ⟨_,rfl,c7⟩;cases e;exact h
  refine⟨ET f1 ⟨J.mono G_,?_,?_⟩,ET f2 ⟨V.mono G_,ET f1 ⟨J.mono G_,?_⟩⟩⟩;refine VN IJ (AB.T_ o8 J C_ E') dW one1 E (by have:=(J (W:=Z.drew)).size;omega) (lm b0) (λ_ _ _ _ h=>h) λO w2 o2 m2 n2=>⟨m2.mono λ_ _ e=>.inl ⟨rfl,e⟩,?_⟩;have z1:=(J (W:=Z.drew)).size;refine ET f2 ⟨V.mono G_,?_⟩;exact J0 (a8 J o2 m2 n2 V (ak (av (((mg J).trans (mo m2)).mono λ_ _ e=>.inl e))) M_) λ_ _ ⟨a,b⟩=>⟨a.mono λ_ _ e=>.inr (.inl ⟨rfl,e⟩),H9 b λw ⟨c1,d1⟩=>⟨c1.mono E,H9 d1 λw ⟨c2,d2⟩=>⟨c2.mono E,d2⟩⟩⟩;refine ET f2 ⟨V.mono G_,?_⟩;have g2:=(J (W:=Z.drew)).trans V;have q1:=(J (W:=Z.drew)).size;refine VN IJ (AB.T_ o8 g2 C_ E') (AB.T_ dW V C_ E') one1 E (by have:=g2.size;omega) (lm b0) (λ_ _ _ _ h=>h) λO w3 o3 m3 n3=>⟨m3.mono λ_ _ e=>.inl ⟨rfl,e⟩,?_⟩;have r3:=AB.T_ (R':=Cu λy=>Q y\/X y) (ak (av ((mg (J (W:=Z.drew))).mono λ_ _ e=>.inl e))) m3 (λg N e=>by have h8:(Z.drew.alloc (.cells [zIq (pp:Int)].toArray 3)).heap.size=g:=aAO N;have:=(b7 _ e).2;omega) λr x _ h=>aa (m3.mono λ_ _ e=>.inl (.inl e)) h;exact J0 (a8 g2 o3 m3 n3 (AF.refl _ _) r3 M_) λ_ _ ⟨a,b⟩=>⟨a.mono λ_ _ e=>.inr (.inl ⟨rfl,e⟩),H9 b λw ⟨c1,d1⟩=>⟨c1.mono E,H9 d1 λw ⟨c2,d2⟩=>⟨c2.mono E,d2⟩⟩⟩;have g2:=(V (W:=Z.drew)).trans J;refine VN IJ (AB.T_ o8 g2 C_ E') dW one1 E (by have:=g2.size;omega) (lm b0) (λ_ _ _ _ h=>h) λO w3 o3 m3 n3=>⟨m3.mono λ_ _ e=>.inl ⟨rfl,e⟩,?_⟩;have r3:=AB.T_ (R':=Cu λy=>Q y\/X y) (AB.T_ (R':=Cu λy=>Q y\/X y) (ak c7) J C_ λr x _ h=>e9 J h) m3 (λg N e=>by have h8:Z.drew.heap.size=g:=aAO N;have:=(b7 _ e).2;omega) λr x _ h=>aa (m3.mono λ_ _ e=>.inl (.inl e)) h;exact J0 (a8 g2 o3 m3 n3 (AF.refl _ _) r3 M_) λ_ _ ⟨a,b⟩=>⟨a.mono λ_ _ e=>.inr (.inl ⟨rfl,e⟩),H9 b λw ⟨c1,d1⟩=>⟨c1.mono E,H9 d1 λw ⟨c2,d2⟩=>⟨c2.mono E,d2⟩⟩⟩
 rintro X W7 ⟨out,I,Q,t⟩ a6 hz hd;unfold vy;dsimp only;have cq:=t.r1;have cu:=t.r2;rw[<-bs,WL] at cq;rw[<-bx,WL] at cu;have G7:=bp.next t.m E;have gd:=gdr W7;have b8:=(hR.S_ G7).S_ gd;apply Ac (λk y=>False);apply AJ;rw[AE];refine AP (v:=σ.sv) ⟨by rw[AH];exact b8.box.cells 0 _ rfl,C_⟩ ?_;refine AP (v:=out) ⟨(t.b1.S_ gd).cells 0 _ rfl,C_⟩ (AP (v:=I) ⟨(t.b2.S_ gd).cells 0 _ rfl,C_⟩ ?_);have ec:=Al.sub (Al.S_ (AB.sl cq) gd C0 C_) (λx hx _=>hx) C0 C_;have ed:=Al.S_ (AB.sl cu) gd C0 (by grind[Al.S_]);have ee:∀a∈(Ox s.d i j).zip ((VY s.d i j).map (Lm σ.ks · key b)),(∀c∈a.2,c.key<=9223372036854775807/\Ev c.val)/\a.2.length<=64:=λa ha=>by
  obtain⟨x,_,e⟩:=WJ.1 (aDL (a:=a.1) (b:=a.2) ha).2;rw[<-e];exact aS hs.k hs.SV e0
 have eN:((Ox s.d i j).zip ((VY s.d i j).map (Lm σ.ks · key b))).length<=536870912:=B_;have eR:=iG (l:=(Ox s.d i j).zip ((VY s.d i j).map (Lm σ.ks · key b))) B_ 0;obtain⟨x1,x2⟩:=QQ (l:=(Ox s.d i j).zip ((VY s.d i j).map (Lm σ.ks · key b))) (λa ha=>(ee a ha).1) 0;obtain⟨n1,n2⟩:=HI x1;have z7:=gd.size;apply AA (jN (key:=key) (b:=b) b8.tx.Ho.1 ec ed (by rw[bx,bs]) (λs hs=>by have:=wP hM.g i j s hs;exact⟨this.1.1,this.len⟩) hs.SV B_ E);rintro _ Z ⟨g8,⟨e',_⟩|⟨_,xv,rfl,ef⟩⟩;omega;refine⟨E,?_⟩;apply BD;refine neP (λ_=>AA (b8.i.VA hs hT g8 ef n1 E) λv w' hQ=>?_) λe=>(e rfl).elim;obtain⟨a1,a2⟩:=Fl.mark (W0:=W) (m:=W6.heap.size) hQ ((G7.trans gd).mono G_) E E E B_ B_ ((gd.Ak _ E F_).trans hd);exact⟨a1,a2.Ma (AF.refl _ _) hF⟩
end
section
variable {G G':d_}{W W':c_}{c:Nat}{l:V'}
def OP{n:Nat}(j:n<18446744073709551616)(h:K (.int .u64 n) w):runK prog (convert 3 76 (zIq n)) K w:=by
 refine AY (DS (k:=.u64) w D_ D_) ?_;rw[Ds ⟨E,E⟩];exact h
end
def lG{t:TypeId}{a b:Nat}(w:c_)(ha:a<256)(hb:b<256):(Di .or t xo yo (.int .u8 a) (.int .u8 b)).run prog w=.ok (.int .u8 ((a ||| b:Nat):Int)) w/\(Di .and t xo yo (.int .u8 a) (.int .u8 b)).run prog w=.ok (.int .u8 ((a &&& b:Nat):Int)) w:=by
 have j:∀x:Nat,x<256->(BitVec.ofInt 8 (x:Int)).toNat=x:=B_;constructor;rw[(HW w).1];show Result.ok (Value.int .u8 (IntKind.u8.wrap ((BitVec.ofInt 8 (a:Int) ||| BitVec.ofInt 8 (b:Int)).toNat:Int))) w=_;grind[YZ];rw[(HW w).2];show Result.ok (Value.int .u8 (IntKind.u8.wrap ((BitVec.ofInt 8 (a:Int) &&& BitVec.ofInt 8 (b:Int)).toNat:Int))) w=_;grind[YZ]
def Jj{b:Bool}{x y:Prop}(h1:b=true->x)(j:b=false->y):Af (.bool b) x y:=by
 cases b;exact AM (j rfl);exact Ab (h1 rfl)
def RY{ok:Nat->Bool}{g:Nat}{bs cs args:U_}(j:ok g=true)(h:AD P g (bs++args++cs) K w):Co P ok (.func (.func g) bs.toArray cs.toArray) args K w:=.inl ⟨g,bs,cs,rfl,j,by simpa using h⟩
def vH{n m i:Nat}(h:n<2 ^ i):n ||| (m*2 ^ i)=n+m*2 ^ i:=by
 rw[Nat.or_comm,<-Nat.shiftLeft_eq,<-Nat.shiftLeft_add_eq_or_of_lt h];omega
def XM{t:TypeId}{a b:Nat}(w:c_)(ha:a<18446744073709551616)(hb:b<18446744073709551616):(Di .or t xo yo (.int .u64 a) (.int .u64 b)).run prog w=.ok (.int .u64 ((a ||| b:Nat):Int)) w/\(Di .and t xo yo (.int .u64 a) (.int .u64 b)).run prog w=.ok (.int .u64 ((a &&& b:Nat):Int)) w:=by
 have j:∀x:Nat,x<18446744073709551616->(BitVec.ofInt 64 (x:Int)).toNat=x:=B_;constructor;rw[(HW w).1];show Result.ok (Value.int .u64 (IntKind.u64.wrap ((BitVec.ofInt 64 (a:Int) ||| BitVec.ofInt 64 (b:Int)).toNat:Int))) w=_;have:=Nat.or_lt_two_pow (n:=64) ha hb;rw[BitVec.toNat_or,j a ha,j b hb,Ds ⟨E,E⟩];rw[(HW w).2];show Result.ok (Value.int .u64 (IntKind.u64.wrap ((BitVec.ofInt 64 (a:Int) &&& BitVec.ofInt 64 (b:Int)).toNat:Int))) w=_;have:=Nat.and_le_left (n:=a) (m:=b);rw[BitVec.toNat_and,j a ha,j b hb,Ds ⟨E,E⟩]
def Tb{x:Int}(h0:0<=x)(h1:x<256)(h:K (.int .u64 x) w):runK prog (convert 5 76 (.int .u8 x)) K w:=by
 refine AY (DS (k:=.u64) w D_ D_) ?_;rw[Ds ⟨E,E⟩];exact h
def vO(i:Nat):(2:Nat) ^ (7*i)=128 ^ i:=by rw[Nat.pow_mul]
def tO{n x i:Nat}{t t':TypeId}{xo yo I J:Operand}(hi:i<=9)(U:n<128 ^ i)(Y:x<128)(Z:i=9->x<=1)(h:K (.int .u64 ((n+128 ^ i*x:Nat):Int)) w) : runK prog (Di .shl t xo yo (.int .u64 x) (zIq ((7*i:Nat):Int))) (λN V=>runK prog (Di .or t' I J (.int .u64 n) N) K V) w:=by
 apply AY (Uv (n:=7*i) w (by show 7*i<=64;omega));have hp:128 ^ i*x<18446744073709551616:=by
  have e8:(128:Nat) ^ 9=9223372036854775808:=C0;by_cases X:i=9;grind;have j:128 ^ i<=128 ^ 8:=aCC C0 E;have:=Nat.mul_le_mul j (show x<=127 by omega);omega
 have e:(x:Int)*2 ^ (7*i)=((x*2 ^ (7*i):Nat):Int):=by push_cast;rfl
 rw[e,vO,Nat.mul_comm,Ds ⟨E,E⟩];have O:n<18446744073709551616:=by
  have j:128 ^ i<=128 ^ 9:=aCC C0 hi;omega
 apply AY (XM w O hp).1;have Q:=vH (n:=n) (m:=x) (i:=7*i) (by rw[vO];exact U);rw[vO,Nat.mul_comm] at Q;rw[Q];exact h
def RK{b:V'}{p:Nat}(h:CE S w v b)(hb:∀x∈b,0<=x/\x<256)(hp:p<=b.length)(hl:b.length<=1099511627776) : l_ 295 [v,zIq p] (λv' w'=>w'=w/\((∃(n:Nat) (t:V'),v'=.tuple #[.int .u64 n,zIq ((b.length-t.length:Nat):Int),zIq 0]/\QT 9 true (b.drop p)=some (n,t))\/(v'=.tuple #[.int .u64 0,zIq 0,zIq 3]/\QT 9 true (b.drop p)=none))) w:=by
 refine H_ func295 ?_ (.y (.cut [4] [(4,6),(9,16)] .nil (.x (.y (.node [4,21] [(4,8),(21,63)] (.y (.y (.x (.y (.x (.cut [26] [(26,40)] .nil .nil)))))) .nil)))));obtain ⟨a,c,rfl,hm⟩:=h.AK;refine AT (λvs W=>W=w/\vs=[.int .u64 0]) ?_ ?_;rotate_left;refine Cn E λ_=>?_;rw [AO];refine gtP E B_;rintro _ _ ⟨rfl,rfl⟩ _;rename c_=>w;refine FW (e:=5) (k:=1) (i:=Tryz.t5) D_ D_ rfl h hp λv2 Q=>?_;obtain ⟨a2,c2,rfl,a6⟩:=Q.AK;have U:(b.drop p).length=b.length - p:=I3;have I:∀ x ∈ b.drop p,0<=x/\x < 256:=B_;generalize hL:b.drop p=L at Q U I;rw [AO,Bh,HK];refine Aa (λvs W=>∃ i n:Nat,i<=L.length/\i<=9/\vs=[.int .u64 n,zIq i]/\W=w/\n < 128 ^ i/\QT 9 true L=(QT (9 - i) (decide (i=0)) (L.drop i)).map λr=>(n+128 ^ i * r.1,r.2)) (λvs _=>L.length - Da vs 1) ⟨0,0,Lc _,E,rfl,rfl,C0,by
  simp only [Nat.sub_zero,aAG,decide_true,Nat.pow_zero,aCE,aBy];cases QT 9 true L <;> rfl⟩ ?_
 rintro vs W ⟨i,n,hi,J,rfl,rfl,hn,he⟩ _;rename c_=>w;simp only[Ha];refine Cn (λa7=>?_) λa8=>?_;rotate_left;grind[QT];have j:i<L.length:=E;obtain⟨q,r,rfl,_,_,hc,rfl⟩:=Q.get j;apply AV j;apply AI (by have:=hc 0 _ rfl;exact this);have V:=I _ (S7 j);rw[y8 j] at he;generalize L[i]=x at he V;have X:((9-i=0/\1<x)\/(decide (i=0)=false/\x=0))->QT 9 true L=none:=λe=>by
  rw[he];unfold QT;grind
 refine AT (λvs W=>W=w/\∃B:Bool,vs=[.bool B]/\(B=true↔((9-i=0/\1<x)\/(decide (i=0)=false/\x=0)))) ?_ ?_;rotate_left;have p2:∀{A:b_->Prop},(¬(9-i=0/\1<x))->(∀B:Bool,(B=true↔((9-i=0/\1<x)\/(decide (i=0)=false/\x=0)))->A (.bool B))->Xq .i64 (zIq (i:Int)) (zIq 0) λY=>Af Y (P2 .u8 (.int .u8 x) (.int .u8 0) A) (A (.bool false)):=by
  intro A Z hA;refine gtP (λe=>?_) λe=>hA _ ?_;rw[CI];grind;grind
 refine eqP (λe9=>?_) λe9=>p2 E B_;refine gtP B_ λex=>p2 (λe=>ex e.2) B_;rintro _ _ ⟨rfl,B,rfl,hB⟩ _;rename c_=>w;simp only[HK];refine Jj B_ λe=>?_;have Z:¬((9-i=0/\1<x)\/(decide (i=0)=false/\x=0)):=B_;have aa:i=9->x<=1:=E;have m7:IntKind.i64.wrap (7*(i:Int))=((7*i:Nat):Int):=by grind[wrap64]
 refine Cn (λhs=>?_) λhs=>?_;apply Tb V.1 V.2;rw[ZK,m7];obtain⟨k,rfl⟩:∃k:Nat,x=k:=⟨x.toNat,E⟩;refine tO J hn E E ?_;rw[AQ,AQ,wrap64 (x:=(p:Int)+i) E E,wrap64 E E];refine⟨by trivial,.inl ⟨n+128 ^ i*k,L.drop (i+1),?_,?_⟩⟩;grind;rw[he];unfold QT;grind;obtain⟨k,rfl⟩:∃k:Nat,x=k:=⟨x.toNat,E⟩;refine AY (lG (a:=k) (b:=127) w E E).2 ?_;have N:k &&& 127=k-128:=by
  have:k &&& 127=k%128:=Nat.and_two_pow_sub_one_eq_mod k 7;omega
 rw[N];refine Tb E E ?_;rw[ZK,m7];have ak:i<9:=by
  omega
 refine tO J hn E E ?_;rw[AQ,AL E];refine⟨⟨i+1,n+128 ^ i*(k-128),j,E,rfl,by trivial,?_,?_⟩,by grind[BV]⟩;have:128 ^ i*(k-128)<=128 ^ i*127:=aA6 _ E;omega;rw[he];obtain⟨f,hf⟩:∃f,9-i=f+1:=⟨8-i,E⟩;have a1:9-(i+1)=f:=E;rw[hf,a1];have O:¬((f+1=0/\1<(k:Int))\/(decide (i=0)=false/\(k:Int)=0)):=E;conv=>lhs;unfold QT
 rw[By O,By E];simp only[Nat.add_one_ne_zero,decide_false];cases QT f false (L.drop (i+1)) with
 |none=>rfl
 |some r=>
  simp only[aAa,gn,aC6,aCV];rw[Nat.pow_succ,Nat.mul_add,show((k:Int)-128).toNat=k-128 by omega,Nat.mul_assoc];omega
def ij{n:Nat}(O:n<18446744073709551616):l_ 381 [.int .u64 n] (λv' w'=>v'=zIq (OK n)/\w'=w) w:=by
 refine I_ func381 ?_;refine AY (Nw (n:=1) w C0) ?_;have Q:((n:Int)).fdiv (2 ^ 1)=((n/2:Nat):Int):=by
  grind
 rw[Q];refine AY (DS (k:=.i64) w D_ D_) ?_;rw[wrap64 E E];refine AY (XM (a:=n) (b:=1) w O E).2 ?_;rw[Nat.and_one_is_mod];refine AY (DS (k:=.i64) w D_ D_) ?_;rw[wrap64 E E];have j:∀x:Int,(Op.unary .neg (zIq x)).run prog w=.ok (zIq (IntKind.i64.wrap (-x))) w:=λx=>by simp[Op.unary,Op.intArith]
 apply AY (j _);rw[wrap64 E E];have I:∀(t:TypeId) (J N:Operand) (a b:Int),(Di .xor t J N (zIq a) (zIq b)).run prog w=.ok (zIq (IntKind.i64.wrap (BitVec.ofInt 64 a ^^^ BitVec.ofInt 64 b).toNat)) w:=λt J N a b=>by
  simp[Di,eqGuard,binOp,Op.intBits];rfl
 refine AY (I _ _ _ _ _) ⟨?_,rfl⟩;congr 1;unfold OK;by_cases h0:n%2=0;rw[Ix h0,h0];have:BitVec.ofInt 64 (-((0:Nat):Int))=0#64:=C0;rw[this,BitVec.xor_zero,BitVec.ofInt_natCast,BitVec.toNat_ofNat,Nat.mod_eq_of_lt E,wrap64 E E];rw[By h0,show n%2=1 by omega];have:=Lib.i64_not (n/2) E;rw[BitVec.xor_comm];exact this
def qY{b:V'}{p:Nat}(h:CE S w v b)(hb:∀x∈b,0<=x/\x<256)(hp:p<=b.length)(hl:b.length<=1099511627776) : l_ 359 [v,zIq p] (λv' w'=>w'=w/\((∃(n:Nat) (t:V'),v'=.tuple #[zIq (OK n),zIq ((b.length-t.length:Nat):Int),zIq 0]/\QT 9 true (b.drop p)=some (n,t))\/((∃x y,v'=.tuple #[x,y,zIq 3])/\QT 9 true (b.drop p)=none))) w:=by
 refine H_ func359 ?_;apply AA (RK h hb hp hl);rintro _ _ ⟨rfl,⟨n,t,rfl,he⟩|⟨rfl,he⟩⟩;have j:=(QX (λx I=>hb x (oy I)) he).2;apply Hz;apply AA (ij j);rintro _ _ ⟨rfl,rfl⟩;grind;apply Hz;refine AA (ij (n:=0) E) ?_;rintro _ _ ⟨rfl,rfl⟩;grind
def Q5{b u t:V'}{p:Nat}(hp:p<=b.length)(e:b.drop p=u++t):b.length-t.length=p+u.length/\p+u.length<=b.length/\b.drop (p+u.length)=t:=by
 grind[List.drop_drop,List.drop_left]
section
variable {α:Type}{f:α->V'}{R:α->Prop}{b:V'}{p q:Nat}{bad:Bool}{a:α}
theorem DR.no(hp:p<=b.length)(h:∀c t,R c->b.drop p≠f c++t):DR f R b p bad a p true:=⟨DN _,hp,I',B_,B_⟩
theorem DR.ok(hp:p<=q)(j:q<=b.length)(I:R a)(e:b.drop p=f a++b.drop q):DR f R b p bad a q bad:=⟨hp,j,F_,B_,B_⟩
end
def qk{b:V'}{p:Nat}(h:CE S w v b)(hb:∀x∈b,0<=x/\x<256)(hp:p<=b.length)(hl:b.length<=1099511627776) : l_ 298 [v,zIq p,zIq b.length] (λv' w'=>AG w w'/\((∃ (x:V') (q:Nat) (xv:b_),v'=.tuple #[xv,zIq q,zIq 0]/\Gx w.heap.size w' xv x/\p<=q/\q<=b.length/\b.drop p=Hs x++b.drop q)\/ ((∃ x y,v'=.tuple #[x,y,zIq 3])/\∀ x t,x.length < 9223372036854775808->b.drop p≠Hs x++t))) w:=by
 refine J_ func298 ?_ (.y (.y (.cut [7] [(6,8),(18,39)] .nil .nil)));obtain⟨a,c,rfl,hm⟩:=h.AK;apply AA (RK h hb hp hl);have I:∀x∈b.drop p,0<=x/\x<256:=B_;rintro _ _ ⟨rfl,⟨n,t,rfl,he⟩|⟨rfl,he⟩⟩;rotate_left;apply Hz;have O:∀x t,x.length<9223372036854775808->b.drop p≠Hs x++t:=by grind[Hs,UR]
 refine AT (λ_ _=>False) G_ ?_;exact neP (λe=>by cases e) (by grind[AF.refl]);rename c_=>w;apply Hz;obtain⟨J,Q⟩:=QX I he;obtain⟨U,s2,V⟩:=Q5 hp J;rw[U];generalize hq:p+(uv n).length=j at *;have ht:t.length=b.length-j:=B_;have O:b.length-j<n->∀x t,x.length<9223372036854775808->b.drop p≠Hs x++t:=λX x t' hx e=>by
  unfold Hs at e;rw[Q0,J] at e;obtain⟨e1,e2⟩:=EB Q E e;grind
 refine AT (λvs W=>W=w/\vs=[zIq (j:Nat)]/\n<=b.length-j) ?_ ?_;rintro _ _ ⟨rfl,rfl,Y⟩ _;rename c_=>w;simp only[Bh,HK];refine AY (DS (k:=.i64) w D_ D_) ?_;rw[wrap64 E E,AQ,wrap64 E E];have e:(j:Int)+(n:Int)=((j+n:Nat):Int):=by push_cast;rfl
 rw[e];refine X4 (e:=5) (k:=1) (i:=Tryz.t5) D_ D_ rfl h E E λv2 Z=>?_;have N:((b.take (j+n)).drop j).length=n:=by rw[I3,S5];omega
 refine AA (Pn Z E) ?_;rintro xv w2 ⟨o2,g2⟩;refine⟨g2,.inl ⟨_,j+n,xv,rfl,o2,E,E,?_⟩⟩;unfold Hs;rw[N,J,Q0,<-V,List.drop_take];congr 1;have e3:b.drop (j+n)=(b.drop j).drop n:=by rw[aA0]
 rw[e3,show j+n-j=n by omega,Nr];refine neP (λ_=>?_) λe=>(e rfl).elim;refine Cn E λ_=>?_;refine OP E ?_;refine gtP (by grind[AF.refl]) λe=>?_;rw[AO,A6,wrap64 E E,show((b.length:Int)-(j:Nat))=((b.length-j:Nat):Int) by omega];refine OP E ?_;exact gtP (by grind[AF.refl]) B_
structure Ex (S:d_) (W:c_) (c:Nat) (bv:b_) (b:V') (p:Nat) (bad:Bool):Prop where
 c0:W.cell? ⟨c,0,none⟩=some bv
 c1:W.cell? ⟨c,1,none⟩=some (zIq p)
 c2:W.cell? ⟨c,2,none⟩=some (.bool bad)
 l1:Bg W ⟨c,1,none⟩
 l2:Bg W ⟨c,2,none⟩
 row:CE S W bv b
 wD:∀z,S z->z<c
 len:p<=b.length
section
variable {S:d_}{W W':c_}{c:Nat}{bv:b_}{b:V'}{p q:Nat}{bad:Bool}
def Ex.lt(h:Ex S W c bv b p bad):c<W.heap.size:=lA W _ h.c0
theorem Ex.T_(h:Ex S W c bv b p bad)(m:AF M W W')(hc:∀z,z<=c->¬M z):Ex S W' c bv b p bad:=
 ⟨m.cell h.c0 (hc c (DN _)),m.cell h.c1 (hc c (DN _)),m.cell h.c2 (hc c (DN _)),h.l1.T_ m (hc c (DN _)),h.l2.T_ m (hc c (DN _)),h.row.T_ m (by grind[Nat.le_of_lt,Ex.wD]) C0 C_,h.wD,h.len⟩
def Ex.S_(h:Ex S W c bv b p bad)(g:AG W W'):Ex S W' c bv b p bad:=h.T_ g C_
def zr{c i j:Nat}(h:i≠j):(⟨c,i,none⟩:Addr)≠⟨c,j,none⟩:=B_
def Ex.SS{K:c_->Prop}(h:Ex S W c bv b p bad)(j:∀W',Ex S W' c bv b p true->AF (λz=>z=c) W W'->K W') : Aw (e_ c) λt=>BX 2 t λq=>Cc q (.bool true) K W:=by
 apply AJ;rw[AE,AH];have m:AF (λz=>z=c) W (W.setCell ⟨c,2,none⟩ (.bool true)):=AF.setCell _ _ _ rfl;refine h.l2.st rfl rfl (j _ ⟨?_,?_,vk _ _ _ h.c2,h.l1.set _ _,h.l2.set _ _,h.row.T_ m (λz _ I e=>by have:=h.wD z I;omega) C0 C_,h.wD,h.len⟩ m);grind[World.cell?_setCell_other,Ex.c0];grind[World.cell?_setCell_other,Ex.c1]
def Ex.move{K:c_->Prop}(h:Ex S W c bv b p bad)(j:q<=b.length)(I:∀W',Ex S W' c bv b q bad->AF (λz=>z=c) W W'->K W') : Aw (e_ c) λt=>BX 1 t λu=>Cc u (zIq q) K W:=by
 apply AJ;rw[AE,AH];have m:AF (λz=>z=c) W (W.setCell ⟨c,1,none⟩ (zIq q)):=AF.setCell _ _ _ rfl;refine h.l1.st rfl rfl (I _ ⟨?_,vk _ _ _ h.c1,?_,h.l1.set _ _,h.l2.set _ _,h.row.T_ m (λz _ J e=>by have:=h.wD z J;omega) C0 C_,h.wD,j⟩ m);grind[World.cell?_setCell_other,Ex.c0];grind[World.cell?_setCell_other,Ex.c2]
variable (hb:∀x∈b,0<=x/\x<256)(hl:b.length<=1099511627776)
include hb hl
def Hx{most:Nat}(h:Ex S W c bv b p bad)(hm:most<18446744073709551616) : l_ 197 [e_ c,.int .u64 most] (λv w'=>∃(n q:Nat) (Ay:Bool),v=.int .u64 n/\n<=most/\Ex S w' c bv b q Ay/\AF (λz=>z=c) W w'/\DR uv (λn=>n<=most) b p bad n q Ay) W:=by
 refine H_ func197 ?_ (.y (.z (.dm [8] [0,1,3,7,0,16,48,112,255,511,1023,1023,1023,2047,12287,32767]) (.cut [] [(4,4),(21,30)] .nil .nil)));have N:=gdr W;have I:=h.S_ N;apply Ac (λ_ _=>False);apply AJ;rw[AE,AH];refine AP ⟨I.c0,C_⟩ ?_;apply AJ;rw[AE,AH];refine AP ⟨I.c1,C_⟩ ?_;apply AA (RK I.row hb h.len hl);have O:∀x∈b.drop p,0<=x/\x<256:=B_;have fail:(∀n t,n<=most->b.drop p≠uv n++t)->∀j,Ex S j c bv b p true->AF (λz=>z=c) W.drew j->∃(n q:Nat) (Ay:Bool),(Value.int .u64 0)=.int .u64 n/\n<=most/\Ex S j c bv b q Ay/\AF (λz=>z=c) W j/\DR uv (λn=>n<=most) b p bad n q Ay:=λQ j X Y=>
  ⟨0,p,true,rfl,Lc _,X,(N.mono G_).trans Y,DR.no h.len Q⟩
 rintro _ _ ⟨rfl,⟨n,t,rfl,he⟩|⟨rfl,he⟩⟩
 .refine⟨AF.refl _ _,Hz ?_⟩;obtain⟨J,hn⟩:=QX O he;obtain⟨s1,s2,s3⟩:=Q5 h.len J;rw[s1];refine AT (λ_ j=>j=W.drew/\n<=most) ?_ ?_;rintro _ _ ⟨rfl,U⟩ _;refine I.move s2 λj X Y=>⟨n,_,bad,rfl,U,X,(N.mono G_).trans Y,(by grind[DR.ok])⟩;refine neP (λ_=>?_) λe=>(e rfl).elim;refine gtP (λe=>I.SS (fail λn' t' V Z=>?_)) B_;rw[J] at Z;have:=(EB hn E Z).1;omega
 .refine⟨AF.refl _ _,Hz ?_⟩;refine AT (λ_ _=>False) G_ ?_;refine neP (λe=>by cases e) λ_=>I.SS (fail λn' t' V Z=>?_);grind[UR]
def ig(h:Ex S W c bv b p bad) : l_ 201 [e_ c] (λv w'=>∃(x:V') (q:Nat) (Ay:Bool),CE (λz=>W.heap.size<=z) w' v x/\(∀z∈x,0<=z/\z<256)/\x.length<=b.length/\Ex S w' c bv b q Ay/\AF (λz=>z=c) W w'/\DR Hs (λx=>x.length<9223372036854775808) b p bad x q Ay) W:=by
 refine I_ func201 ?_ (.y (.x (.dm [13] [0,1,3,7,0,16,48,112,0,256,768,1792,3840,8191,16383,32767,32767,32767,65535,393215,1048575])));have Q:=gdr W;have j:=h.S_ Q;obtain⟨a,n,U,_⟩:=h.row.AK;apply Ac (λ_ _=>False);apply AJ;rw[AE,AH];refine AP ⟨j.c0,C_⟩ ?_;apply AJ;rw[AE,AH];refine AP ⟨j.c1,C_⟩ ?_;apply AJ;rw[AE,AH];refine AP ⟨j.c0,C_⟩ ?_;have I:∀{k:b_->Prop},k (zIq b.length)->Dz bv k:=λ{k} hk=>by subst U;rw[AO];exact hk
 apply I;apply AA (qk j.row hb h.len hl);have V:∀x∈b.drop p,0<=x/\x<256:=B_;rintro _ w1 ⟨N,⟨x,q,xv,rfl,Z,a1,hq,he⟩|⟨⟨x,y,rfl⟩,he⟩⟩;refine⟨E,?_⟩;apply Hz;refine neP (λ_=>?_) λe=>(e rfl).elim;have J:=r9 List.length he;unfold Hs at J;rw[Bp,Bp,I3,I3] at J;have a6:=h.lt;refine(j.S_ N).move hq λW' Y O=>⟨x,q,bad,?_,λz X=>V z ?_,E,Y,((Q.trans N).mono G_).trans O,(by grind[DR.ok])⟩;refine(Al.sub (AB.sl Z) (λz _ X=>X.1) C0 C_).T_ O (λz _ X e=>?_) C0 C_;subst e;have:W.drew.heap.size=W.heap.size:=rfl;omega;grind[Hs];refine⟨E,?_⟩;apply Hz;refine neP (λe=>by cases e) λ_=>(j.S_ N).SS λW' Y O=>⟨[],p,true,Al.nil,E_,E_,Y,((Q.trans N).mono G_).trans O,(by grind[DR.no,Ex.len])⟩
end
structure Gg (W:c_) (g:Nat) (vs:U_):Prop where
 cells:∀j u,vs[j]?=some u->W.cell? ⟨g,j,none⟩=some u
 Cq:∀j,j<vs.length->Bg W ⟨g,j,none⟩
section
variable {W W':c_}{g:Nat}{vs:U_}
def Gg.T_(h:Gg W g vs)(m:AF M W W')(I:¬M g):Gg W' g vs:=⟨(by grind[AF.cell,Gg.cells]),λj J=>(h.Cq j J).T_ m I⟩
def Gg.st{j:Nat}{u:b_}{K:c_->Prop}(h:Gg W g vs)(I:j<vs.length)(h1:u.oneCell'=true)(J:u.cells=#[u])(N:∀W',Gg W' g (vs.set j u)->AF (λz=>z=g) W W'->K W') : BX j (e_ g) λq=>Cc q u K W:=by
 rw[AE,AH];refine(h.Cq j I).st h1 J (N _ ⟨λi y O=>?_,(by grind[Gg.Cq,Bg.set])⟩ (AF.setCell _ _ _ rfl));grind[World.cell?_setCell_same,Gg.cells,World.cell?_setCell_other]
def Gg.ld{n:Nat}(h:Gg W g vs)(j:vs.length=n)(I:K (.agg vs.toArray) W):DJ n (e_ g) K W:=
 AX j (by grind[AH,Gg.cells]) I
def Gg.vx{n:Nat}{us:U_}{K:c_->Prop}(h:Gg W g vs)(I:vs.length=n)(hu:us.length=n)(h1:∀v∈us,v.oneCell'=true)(j:∀W',Gg W' g us->AF (λz=>z=g) W W'->K W') :
  Bv n (e_ g) (.agg us.toArray) K W:=
 BI hu h1 (by grind[AH,Gg.Cq]) λW' m hc hl=>j W' ⟨(by grind[AH]),(by grind[Gg.Cq])⟩ m
def Gg.new{t:TypeId}(I:∀g W',g=W.heap.size->W'.heap.size=W.heap.size+1->AG W W'->Gg W' g vs->K (e_ g) W'):Cv t vs K W:=by
 obtain⟨us,e,j⟩:=CN (t:=t) (vs:=vs) (K:=K) (w:=W) λb J h1 j N O Q=>I b J h1 j N ⟨(by grind[AH]),(by grind[AH])⟩;have:us=vs:=by
  grind
 grind
end
def Ri{n:Nat}(j:n<=255)(h:K (.int .u8 n) w):runK prog (convert 76 5 (.int .u64 n)) K w:=by
 apply RA;grind
def Wt{n:Nat}(j:n<9223372036854775808)(h:K (zIq n) w):runK prog (convert 76 3 (.int .u64 n)) K w:=by
 refine AY (DS (k:=.i64) w D_ D_) ?_;grind[wrap64]
section
variable {S:d_}{W W':c_}{c:Nat}{bv:b_}{b:V'}{p q:Nat}{bad:Bool}
variable (hb:∀x∈b,0<=x/\x<256)(hl:b.length<=1099511627776)
include hb hl
def Zz(h:Ex S W c bv b p bad) : l_ 198 [e_ c] (λv w'=>∃(n q:Nat) (Ay:Bool),v=zIq n/\n<=536870912/\Ex S w' c bv b q Ay/\AF (λz=>z=c) W w'/\DR uv (λn=>n<=536870912) b p bad n q Ay) W:=by
 refine I_ func198 ?_;refine AA (Hx hb hl (most:=536870912) h C0) ?_;rintro _ J ⟨n,q,Ay,rfl,j,h1,I,r1⟩;exact Wt E ⟨n,q,Ay,rfl,j,h1,I,r1⟩
def aB(h:Ex S W c bv b p bad) : l_ 296 [e_ c] (λv w'=>∃(n q:Nat) (Ay:Bool),v=zIq n/\n<=9223372036854775807/\Ex S w' c bv b q Ay/\AF (λz=>z=c) W w'/\DR uv (λn=>n<=9223372036854775807) b p bad n q Ay) W:=by
 refine I_ func296 ?_;refine AA (Hx hb hl (most:=9223372036854775807) h C0) ?_;rintro _ J ⟨n,q,Ay,rfl,j,h1,I,r1⟩;exact Wt E ⟨n,q,Ay,rfl,j,h1,I,r1⟩
def XU{k:Nat}(h:Ex S W c bv b p bad)(hk:k<=255) : l_ 297 [e_ c,.int .u8 k] (λv w'=>∃(x:As) (q:Nat) (Ay:Bool),v=.agg x.cells.toArray/\Ex S w' c bv b q Ay/\AF (λz=>z=c) W w'/\UT k b p bad x q Ay) W:=by
 refine H_ func297 ?_ (.y (.y (.cut [] [(5,7),(10,53)] (.y (.x (.x (.x (.cut [] [(11,18)] .nil (.x (.x (.dm [8] [0,1,3,7,0,16,48,112,255,511,1023,1023,1023,2047,12287,32767])))))))) .nil)));have a8:=h.lt;refine Gg.new λg w1 hg hz g1 b1=>?_;refine b1.st C0 rfl rfl λV b2 m2=>?_;have h2:=(h.S_ g1).T_ m2 E;have I:AF (λz=>z=c) W V:=(g1.mono G_).next m2 E
 replace b2:Gg V g (⟨k,0,0,⟨#[]⟩⟩:As).cells:=b2;refine AT (λ_ U=>∃(x:As) (q:Nat) (Ay:Bool),Gg U g x.cells/\Ex S U c bv b q Ay/\AF (λz=>z=c) W U/\UT k b p bad x q Ay) ?_ ?_
 .rintro _ U ⟨x,q,Ay,O,N,j,X⟩ _;apply O.ld (n:=4) rfl;refine O.vx (n:=4) (us:=x.cells) rfl rfl (As.one x) λW4 Q J=>Q.ld (n:=4) rfl ⟨x,q,Ay,rfl,(by grind[Ex.T_]),(by grind[AF.next]),X⟩
 .refine AT (λ_ U=>U=V/\(k=1\/k=2)) ?_ ?_
  .rintro _ _ ⟨rfl,Y⟩ _;rename c_=>V;have gd:=gdr V;have Z:=h2.S_ gd;have bd:=b2.T_ gd F_;apply Ac (λ_ _=>False);apply AJ;rw[AE,AH];refine AP ⟨Z.c0,C_⟩ ?_;apply AJ;rw[AE,AH];refine AP ⟨Z.c1,C_⟩ ?_;apply AA (qY Z.row hb h.len hl);have a6:∀x∈b.drop p,0<=x/\x<256:=B_;have a1:AF (λz=>z=c) W V.drew:=I.trans (gd.mono G_);rintro _ _ ⟨rfl,⟨n,t,rfl,he⟩|⟨⟨x,y,rfl⟩,he⟩⟩
   .refine⟨AF.refl _ _,Hz ?_⟩;refine neP (λ_=>?_) λe=>(e rfl).elim;obtain⟨a7,hn⟩:=QX a6 he;obtain⟨s1,s2,s3⟩:=Q5 h.len a7;rw[s1];refine bd.st (by simp[As.cells]) rfl rfl λw3 O j=>?_;have N:=Z.T_ j E;refine N.move s2 λw4 h4 J=>⟨⟨k,OK n,0,⟨#[]⟩⟩,_,bad,O.T_ J E,h4,(a1.next j E).trans J,(by grind[UT.int,DR.ok])⟩
   .refine⟨AF.refl _ _,Hz ?_⟩;refine neP (λe=>by cases e) λ_=>Z.SS λw3 N j=>?_;have O:=bd.T_ j E;apply O.ld (n:=4) rfl;refine O.vx (n:=4) (us:=(⟨k,0,0,⟨#[]⟩⟩:As).cells) rfl rfl (As.one _) λW4 Q J=>?_;refine Q.ld (n:=4) rfl ⟨⟨k,0,0,⟨#[]⟩⟩,p,true,rfl,(by grind[Ex.T_]),(a1.trans j).next J E,?_⟩;have r0:DR uv (λn=>n<18446744073709551616) b p bad 0 p true:=by grind[DR.no,Ex.len,UR]
    exact⟨r0.le,r0.len,r0.Kr,B_,(UT.int Y E r0).TF⟩
  refine eqP B_ λn1=>?_;refine eqP B_ λn2=>?_;refine eqP (λe=>?_) λn3=>?_;refine AA (Hx hb hl (most:=18446744073709551615) h2 C0) ?_;rintro _ w3 ⟨n,q,Ay,rfl,hn,N,j,X⟩;refine(b2.T_ j E).st (by simp[As.cells]) rfl rfl λw4 Q J=>?_;have ek:k=3:=E;subst ek;exact⟨⟨3,0,n,⟨#[]⟩⟩,q,Ay,Q,(by grind[Ex.T_]),(I.trans j).next J E,UT.float X⟩;refine eqP (λe=>?_) λn4=>?_;apply AA (ig hb hl h2);rintro v w3 ⟨x,q,Ay,rx,hx,aa,N,j,X⟩;apply AY (Ur rx hx);refine(b2.T_ j E).st (by simp[As.cells]) rfl rfl λw4 Q J=>?_;have ek:k=4:=E;subst ek;exact⟨⟨4,0,0,Pu x⟩,q,Ay,Q,(by grind[Ex.T_]),(I.trans j).next J E,UT.text (Ht hx) X⟩;refine h2.SS λw3 N j=>?_;exact⟨_,p,true,b2.T_ j E,N,I.trans j,UT.SS h.len E⟩
end
def vz(z e:Nat)(t:b_)(W:c_):Prop:=∃b,t=.slice (f_ b) 0 0/\z<=b/\W.heap[b]?=some (.cells #[] e (0,0))
def vz.S_{z e:Nat}{t:b_}(h:vz z e t W)(g:AG W W'):vz z e t W':=by
 obtain⟨b,I,J,j⟩:=h;exact⟨b,I,J,(g.Ak b (aAm.1 j).1 F_).trans j⟩
def CQ(z:Nat)(o:Dop)(W0:c_)(p5 p8 p9 X7 bE X6:Option b_)(W:c_):Prop:=AG W0 W/\(∀t,p5=some t->vz z 21 t W)/\(∀t,p8=some t->AB z 21 1 Bk W t o.AZ)/\(∀t,p9=some t->vz z 143 t W)/\(∀t,X7=some t->AB z 143 5 CC W t o.set)/\(∀t,bE=some t->vz z 80 t W)/\∀t,X6=some t->AB z 80 6 CO W t o.AU
variable {z:Nat}{o:Dop}{W0 W W':c_}{p5 p8 p9 X7 bE X6:Option b_}{K:b_->c_->Prop}{M:d_}
def CQ.S_(h:CQ z o W0 p5 p8 p9 X7 bE X6 W)(g:AG W W'):CQ z o W0 p5 p8 p9 X7 bE X6 W':=⟨h.1.trans g,λt e=>(h.2.1 t e).S_ g,λt e=>AB.T_ (h.2.2.1 t e) g C_ E',λt e=>(h.2.2.2.1 t e).S_ g,λt e=>AB.T_ (h.2.2.2.2.1 t e) g C_ E',λt e=>(h.2.2.2.2.2.1 t e).S_ g,λt e=>AB.T_ (h.2.2.2.2.2.2 t e) g C_ E'⟩
def CQ.s5(J:z<=W0.heap.size)(h:CQ z o W0 p5 p8 p9 X7 bE X6 W)(I:∀t W',CQ z o W0 (some t) p8 p9 X7 bE X6 W'->K t W'):EE 21 1 0 [] [] (λt W'=>AF M W W'/\K t W') W:=by
 have g:AG W (W.alloc (.cells #[] 21)):=AF.alloc _ _ _;have j:=h.S_ g;have KM:=h.1.size;refine EW ⟨g.mono G_,I _ _ ⟨j.1,λt e=>?_,j.2.2.1,j.2.2.2.1,j.2.2.2.2.1,j.2.2.2.2.2.1,j.2.2.2.2.2.2⟩⟩;cases e;exact⟨_,rfl,E,(aCQ W _).1⟩
def CQ.s8{v t0:b_}(V:z<=W0.heap.size)(N:Al S 1 Bk W0 v o.AZ)(hl:o.AZ.length*4<=140737488355328)(h:CQ z o W0 (some t0) p8 p9 X7 bE X6 W)(O:∀t W',CQ z o W0 (some t0) (some t) p9 X7 bE X6 W'->K t W'):runK prog (Builtin.append_ #[81,81] 81 [t0,v].toArray) (λt W'=>AF M W W'/\K t W') W:=by
 obtain⟨b,Q,X,U⟩:=h.2.1 t0 rfl;subst Q;have KM:=h.1.size;have I:Al S 1 Bk W v o.AZ:=Al.S_ N h.1 C0 C_;obtain⟨Z,w',r1,r2,J,Y⟩:=Ke (ty:=81) Ju U I (λ_ _ _=>Bk.one) hl B_;have j:=h.S_ J;refine AY r1 ⟨J.mono G_,O _ _ ⟨j.1,j.2.1,λt e=>?_,j.2.2.2.1,j.2.2.2.2.1,j.2.2.2.2.2.1,j.2.2.2.2.2.2⟩⟩;grind[AB.BY]
def CQ.s9(J:z<=W0.heap.size)(h:CQ z o W0 p5 p8 p9 X7 bE X6 W)(I:∀t W',CQ z o W0 p5 p8 (some t) X7 bE X6 W'->K t W'):EE 143 5 0 [] [] (λt W'=>AF M W W'/\K t W') W:=by
 have g:AG W (W.alloc (.cells #[] 143)):=AF.alloc _ _ _;have j:=h.S_ g;have KM:=h.1.size;refine EW ⟨g.mono G_,I _ _ ⟨j.1,j.2.1,j.2.2.1,λt e=>?_,j.2.2.2.2.1,j.2.2.2.2.2.1,j.2.2.2.2.2.2⟩⟩;cases e;exact⟨_,rfl,E,(aCQ W _).1⟩
def CQ.s12{v t0:b_}(V:z<=W0.heap.size)(N:Al S 5 CC W0 v o.set)(hl:o.set.length*48<=140737488355328)(h:CQ z o W0 p5 p8 (some t0) X7 bE X6 W)(O:∀t W',CQ z o W0 p5 p8 (some t0) (some t) bE X6 W'->K t W'):runK prog (Builtin.append_ #[47,47] 47 [t0,v].toArray) (λt W'=>AF M W W'/\K t W') W:=by
 obtain⟨b,Q,X,U⟩:=h.2.2.2.1 t0 rfl;subst Q;have KM:=h.1.size;have I:Al S 5 CC W v o.set:=Al.S_ N h.1 C0 C_;obtain⟨Z,w',r1,r2,J,Y⟩:=Ke (ty:=47) GC U I (λ_ _ _=>CC.one) hl B_;have j:=h.S_ J;refine AY r1 ⟨J.mono G_,O _ _ ⟨j.1,j.2.1,j.2.2.1,j.2.2.2.1,λt e=>?_,j.2.2.2.2.2.1,j.2.2.2.2.2.2⟩⟩;grind[AB.BY]
def CQ.s13(J:z<=W0.heap.size)(h:CQ z o W0 p5 p8 p9 X7 bE X6 W)(I:∀t W',CQ z o W0 p5 p8 p9 X7 (some t) X6 W'->K t W'):EE 80 6 0 [] [] (λt W'=>AF M W W'/\K t W') W:=by
 have g:AG W (W.alloc (.cells #[] 80)):=AF.alloc _ _ _;have j:=h.S_ g;have KM:=h.1.size;refine EW ⟨g.mono G_,I _ _ ⟨j.1,j.2.1,j.2.2.1,j.2.2.2.1,j.2.2.2.2.1,λt e=>?_,j.2.2.2.2.2.2⟩⟩;cases e;exact⟨_,rfl,E,(aCQ W _).1⟩
def CQ.s16{v t0:b_}(V:z<=W0.heap.size)(N:Al S 6 CO W0 v o.AU)(hl:o.AU.length*56<=140737488355328)(h:CQ z o W0 p5 p8 p9 X7 (some t0) X6 W)(O:∀t W',CQ z o W0 p5 p8 p9 X7 (some t0) (some t) W'->K t W'):runK prog (Builtin.append_ #[33,33] 33 [t0,v].toArray) (λt W'=>AF M W W'/\K t W') W:=by
 obtain⟨b,Q,X,U⟩:=h.2.2.2.2.2.1 t0 rfl;subst Q;have KM:=h.1.size;have I:Al S 6 CO W v o.AU:=Al.S_ N h.1 C0 C_;obtain⟨Z,w',r1,r2,J,Y⟩:=Ke (ty:=33) GR U I (λ_ _ _=>CO.one) hl B_;have j:=h.S_ J;refine AY r1 ⟨J.mono G_,O _ _ ⟨j.1,j.2.1,j.2.2.1,j.2.2.2.1,j.2.2.2.2.1,j.2.2.2.2.2.1,λt e=>?_⟩⟩;grind[AB.BY]
set_option maxHeartbeats 0 in
def Y2{S D:d_}{x:U'}(h:Ag S D w v x)(hb:Av x<=1099511627776) : l_ 31 [v] (λv' w'=>Bs w.heap.size w' v' x/\AG w w') w:=by
 refine I_ func31 ?_ (.y (.y (.x (.y (.node [3,4] [(3,35)] (.y (.cut [3] [(3,3),(5,5),(12,35)] (.y (.dt [5,8,9,12,13,16,18,19] (i_ [0,0,2,0,8,0,0,64,224,0,0,1024,4064,0,0,16384,65504,131070,262142,524287,1048575]) [[5,8,9,12,13,16]] (.op 0 (.op 1 (.op 2 (.op 3 (.op 4 (.op 6 (.op 7 (.op 10 (.op 11 (.op 14 (.op 15 (.br (.op 5 (.br (.op 8 (.br (.op 9 (.br (.op 12 (.op 13 (.op 16 (.op 17 (.op 18 (.op 19 (.op 20 .nil))))))) (.op 13 (.op 12 (.op 16 (.op 17 (.op 18 (.op 19 (.op 20 .nil))))))))) (.op 13 (.op 9 (.op 12 (.op 16 (.op 17 (.op 18 (.op 19 (.op 20 .nil)))))))))) (.br (.op 9 (.br (.op 8 (.br (.op 12 (.op 13 (.op 16 (.op 17 (.op 18 (.op 19 (.op 20 .nil))))))) (.op 13 (.op 12 (.op 16 (.op 17 (.op 18 (.op 19 (.op 20 .nil))))))))) (.op 13 (.op 8 (.op 12 (.op 16 (.op 17 (.op 18 (.op 19 (.op 20 .nil)))))))))) (.op 13 (.br (.op 8 (.op 9 (.op 12 (.op 16 (.op 17 (.op 18 (.op 19 (.op 20 .nil)))))))) (.op 9 (.op 8 (.op 12 (.op 16 (.op 17 (.op 18 (.op 19 (.op 20 .nil))))))))))))) (.br (.op 9 (.br (.op 5 (.br (.op 8 (.br (.op 12 (.op 13 (.op 16 (.op 17 (.op 18 (.op 19 (.op 20 .nil))))))) (.op 13 (.op 12 (.op 16 (.op 17 (.op 18 (.op 19 (.op 20 .nil))))))))) (.op 13 (.op 8 (.op 12 (.op 16 (.op 17 (.op 18 (.op 19 (.op 20 .nil)))))))))) (.op 13 (.op 5 (.op 8 (.op 12 (.op 16 (.op 17 (.op 18 (.op 19 (.op 20 .nil))))))))))) (.op 13 (.br (.op 5 (.br (.op 8 (.op 9 (.op 12 (.op 16 (.op 17 (.op 18 (.op 19 (.op 20 .nil)))))))) (.op 9 (.op 8 (.op 12 (.op 16 (.op 17 (.op 18 (.op 19 (.op 20 .nil)))))))))) (.op 9 (.op 5 (.op 8 (.op 12 (.op 16 (.op 17 (.op 18 (.op 19 (.op 20 .nil)))))))))))))))))))))))))) .nil)) .nil)))));have b9:=Bi x;obtain⟨a,c,rfl,ba⟩:=h.AK;have KM:∀o∈x,o.AZ.length*4<=140737488355328/\o.set.length*48<=140737488355328/\o.AU.length*56<=140737488355328:=by
  intro o ho;have:=FH ho;grind[EN,JC,Kf]
 refine Aa (λvs W=>∃(i:Nat) (ov:b_),i<=x.length/\vs=[ov,zIq i]/\Bs w.heap.size W ov (x.take i)/\AG w W) (λvs _=>x.length-Da vs 1) ⟨0,_,Lc _,rfl,AB.nil,AF.refl _ _⟩ ?_;rintro vs W ⟨i,ov,hi,rfl,ho,gW⟩ _;rw[AO];show HZ .i64 (zIq i) _ _;refine Cn (λbb=>?_) λbk=>?_
 .have Y:i<x.length:=by omega
  refine AT (λvs W'=>∃J,vs=[J]/\Bs w.heap.size W' J (x.take (i+1))/\AG w W') ?_ ?_
  .rintro _ W' ⟨J,rfl,h1,h2⟩ _;show Cl .i64 (zIq i) _ _;rw[AQ,AL (by omega)];exact⟨⟨i+1,J,Y,rfl,h1,h2⟩,by grind[BV]⟩
  obtain⟨p,r,rfl,_,hr,bl,hx⟩:=h.get Y;have hc:∀j u,r[j]?=some u->W.cell? (p.add (i*5+j))=some u:=by grind[AF.cell]
  refine AV Y (AX hr (by grind[Addr.add_add]) ?_);refine BA hr rfl (B0.one hx) λb5 I bp bs g5 bx _=>?_;have ax:=hx.T_ (D':=λb=>b<w.heap.size) (gW.trans g5) (λ_ _ _ h=>h) λ_ hb _=>hb;have gd:=gdr I;obtain⟨rv,sv,pv,rfl,q1,q2,q3⟩:=ax;have ay:∀y,ov.ownBlock=some y->y<W.heap.size/\w.heap.size<=y:=λy hy=>⟨(AB.Am ho y hy).2,(AB.Am ho y hy).1⟩;obtain⟨z1,z2,z3⟩:=KM x[i] (by simp);have zw:w.heap.size<=W.heap.size:=gW.size;have d1:LQ (λb=>b<w.heap.size) I.drew rv x[i].AZ:=by grind[Al.S_]
  have d2:Bo (λb=>b<w.heap.size) I.drew sv x[i].set:=by grind[Al.S_]
  have d3:DY (λb=>b<w.heap.size) I.drew pv x[i].AU:=by grind[Al.S_]
  have ld:∀{q:Nat} {u:b_},[Value.int .u8 x[i].AR,zIq x[i].n,rv,sv,pv][q]?=some u->I.drew.cell? ((⟨b5,0,none⟩:Addr).add q)=some u:=by grind[AF.cell]
  have lm:∀{q k:Nat},¬(k=19/\ov.ownBlock=some ((⟨b5,0,none⟩:Addr).add q).block):=by grind[Ai]
  refine Ac (λk y=>k=19/\ov.ownBlock=some y) ?_;rw[AE];refine AP ⟨ld rfl,λj hj=>lm⟩ ?_;rw[AE];refine AP ⟨ld rfl,λj hj=>lm⟩ ?_;rw[AE];refine AP ⟨ld rfl,λj hj=>lm⟩ ?_;rw[AE];refine AP ⟨ld rfl,λj hj=>lm⟩ ?_;rw[AE];refine AP ⟨ld rfl,λj hj=>lm⟩ ?_;have hz:I.heap.size<=I.drew.heap.size:=DN _;have h0:CQ I.heap.size x[i] I.drew none none none none none none I.drew:=⟨AF.refl _ _,(by grind),(by grind),(by grind),(by grind),(by grind),(by grind)⟩;have HA:∀{t5 t8 t9 a6 al a7:b_} {Z:c_},CQ I.heap.size x[i] I.drew (some t5) (some t8) (some t9) (some a6) (some al) (some a7) Z->
    DQ [(0,1),(1,1),(2,1),(3,1),(4,1)] [(.int .u8 0),(zIq 0),g_,g_,g_] [(0,.int .u8 x[i].AR),(1,zIq x[i].n),(2,t8),(3,a6),(4,a7)] λb0=>
    EE 126 5 1 [(.int .u8 0),(zIq 0),g_,g_,g_] [(0,b0)] (λb6 aa=>
     AF (λy=>18=19/\ov.ownBlock=some y) Z aa/\
     runK prog (Builtin.append_ #[31,31] 31 [ov,b6].toArray) (λb7 ak=>
      AF (λy=>19=19/\ov.ownBlock=some y) aa ak/\(∃ J,[b7]=[J]/\Bs w.heap.size ak J (x.take (i+1))/\AG w ak)) aa) Z:=by
   intro t5 t8 t9 a6 al a7 Z hq;have h8:=hq.2.2.1 _ rfl;have an:=hq.2.2.2.2.1 _ rfl;have av:=hq.2.2.2.2.2.2 _ rfl;have gq:=hq.1;have sh:∀{e k:Nat} {β:Type} {R:c_->U_->β->Prop} {v:b_} {l:List β},AB I.heap.size e k R Z v l->∃a n c,v=.slice a n c:=λh=>by obtain⟨a,c,rfl,_⟩:=h.AK;grind
   obtain⟨a8,n8,c8,rfl⟩:=sh h8;obtain⟨N,O,Q,rfl⟩:=sh an;obtain⟨U,V,X,rfl⟩:=sh av;refine⟨(GV x[i] (.slice a8 n8 c8) (.slice N O Q) (.slice U V X)).toArray,by kernel_rfl,?_⟩;refine ET (cs:=([GV x[i] (.slice a8 n8 c8) (.slice N O Q) (.slice U V X)]:List U_).flatten) (by kernel_rfl) ⟨AF.alloc _ _ _,?_⟩;have ga:AG Z (Z.alloc (.cells ([GV x[i] (.slice a8 n8 c8) (.slice N O Q) (.slice U V X)]:List U_).flatten.toArray 126)):=AF.alloc _ _ _;have up:∀{e k:Nat} {β:Type} {R:c_->U_->β->Prop} {v:b_} {l:List β},(∀(w1 w2:c_) r y,R w1 r y->R w2 r y)->AB I.heap.size e k R Z v l->AB 0 e k R (Z.alloc (.cells ([GV x[i] (.slice a8 n8 c8) (.slice N O Q) (.slice U V X)]:List U_).flatten.toArray 126)) v l/\∀g,v.ownBlock=some g->I.heap.size<=g:=λhR h=>
    ⟨(AB.T_ h ga (λ_ _ h=>h) (by grind)).BY λ_ _=>Lc _,λg hg=>(AB.Am h g hg).1⟩
   have zs:I.heap.size<=Z.heap.size:=gq.size;have b8:Al (λb=>I.heap.size<=b) 5 (Kt λb=>I.heap.size<=b) (Z.alloc (.cells ([GV x[i] (.slice a8 n8 c8) (.slice N O Q) (.slice U V X)]:List U_).flatten.toArray 126)) (.slice (f_ Z.heap.size) 1 1) [x[i]]:=by
    refine Al.sub (Al.Rz (l:=[x[i]]) (t:=126) [GV x[i] (.slice a8 n8 c8) (.slice N O Q) (.slice U V X)] (by simp) rfl (by simp[maxLen]) λj r y hr hy=>?_) (by omega) (by decide) λ_ _ h=>h;match j with
    |0=>cases hr;cases hy;exact⟨_,_,_,rfl,up (by grind) h8,up (by grind) an,up (by grind) av⟩
    |j+1=>simp at hr
   generalize c4:Z.alloc (.cells ([GV x[i] (.slice a8 n8 c8) (.slice N O Q) (.slice U V X)]:List U_).flatten.toArray 126)=W6 at *;have a1:AG W W6:=(g5.trans gd).trans (gq.trans ga);have c6:=a1.size;have c7:=ga.size;have oz:AB w.heap.size 126 5 (Kt λb=>w.heap.size<=b/\b<W6.heap.size/\ov.ownBlock≠some b) W6 ov (x.take i):=AB.T_ ho a1 (λ_ _ h=>h) λr y _ hy=>Kt.T_ hy a1 (λ_ _ _ h=>h) (by grind);have sz:Al (λb=>I.heap.size<=b) 5 (Kt λb=>w.heap.size<=b/\b<W6.heap.size/\ov.ownBlock≠some b) W6 (.slice (f_ Z.heap.size) 1 1) [x[i]]:=Al.mono b8 (λ_ _ h=>h) (λ_ _ _=>rfl) (by decide) λr y hy=>Kt.T_ hy j0 (λ_ _ _ h=>h) (by grind);have hl:(x.take i).length=i:=by rw[S5];omega
   obtain ⟨v',w',r1,r2,r3,r4⟩:=AB.append (ty:=31) GU oz sz (λ_ _=>Kt.one) (by rw [hl];simp only [cO,aAu];omega) (by omega) (by rw [hl];simp only [cO,aAu,maxLen];omega) λw' hg r y hy=>Kt.T_ hy (AF.BO hg) (by grind) λ_ _ h=>h;have mg:=AF.BO r3;refine AY r1 ⟨(by grind),v',rfl,?_,(gW.trans a1).next mg λb hb e=>by have:=ay b e;omega⟩;show Bs w.heap.size w' v' (x.take (i+1));rw [No,Hc Y];exact AB.T_ r2 j0 (λ_ _ h=>h) λr y _ hy=>Kt.T_ hy j0 (λ_ _ _ h=>h) λb hb hd=>⟨hd.1,λe=>by
    rcases r4 b e with h | h;grind;omega⟩
  repeat' first
   |refine And.intro ?_ ?_
   |exact HA (by assumption)
   |refine CQ.s5 hz (by assumption) λt W' hq=>?_
   |refine CQ.s9 hz (by assumption) λt W' hq=>?_
   |refine CQ.s13 hz (by assumption) λt W' hq=>?_
   |refine CQ.s8 hz d1 z1 (by assumption) λt W' hq=>?_
   |refine CQ.s12 hz d2 z2 (by assumption) λt W' hq=>?_
   |refine CQ.s16 hz d3 z3 (by assumption) λt W' hq=>?_
 .have:i=x.length:=by omega
  subst this;rw[WL] at ho;exact⟨ho,gW⟩
end
abbrev VM(A_:d_)(ov:b_):c_->U_->Dop->Prop:=B0 λb=>ov.ownBlock≠some b/\A_ b
def ZN{A_:d_}{ov j:b_}(h:AB B 126 5 (B0 λb=>b<w0.heap.size/\ov.ownBlock≠some b/\A_ b) w' j a)(N:∀g,j.ownBlock=some g->ov.ownBlock=some g\/w0.heap.size<=g) : AB B 126 5 (VM A_ j) w' j a:=AB.T_ h j0 C_ λr y _ J=>B0.T_ J j0 E' B_
end Go.Proofs.YtjdgbcdfgnajlaaGreatDoor
