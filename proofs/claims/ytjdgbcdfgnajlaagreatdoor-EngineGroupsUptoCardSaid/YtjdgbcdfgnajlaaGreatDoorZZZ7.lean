/- parts of the proof, written short by a program of ours -/
import Derived.Test.YtjdgbcdfgnajlaaGreatDoorZZZ6
set_option linter.all false
set_option maxRecDepth 100000
namespace Go.Proofs.YtjdgbcdfgnajlaaGreatDoor
open Go Proofs.Tryz
variable {c:Nat}{S F M:d_}{w W W' w0:c_}{v sv:b_}{most:Int}{cs:U_}{α:Type}{rs:V'}{ks:X'}{s:V_}{d:Y_}
def Gi.Pw{b:Nat}{ks:SKs}{t:Tab V_}(h:Gi F W b ks t):t.Inv (IP ks.ks):=by
 obtain⟨C,pl,fr,I,j⟩:=h;exact j.core.Pw
def IP.ne:∀s,IP ks s->s≠[]:=λ_ h=>h.1
section
variable {k:TxK}{w0:c_}{F:d_}{W:c_}{a:TxA}{σ:SKs}{most:Int}{rs:V'}{l2:Y'}{L:List V_}{t:Tab V_} 
def PD{op:Tab V_->Int->Tab V_}{row:Y'}{P:Nat->Tab V_->Prop}{Kend:c_->Prop} (call:∀{Ft W t id},Gi Ft W a.t σ t->t.Small 10995116277->0<=id->id<=10995116277->l_ c [e_ a.t,zIq id] (λ_ w'=>LL Ft W w' a.t σ (op t id)) W) (rd:Al S 2 Gh W v row)(hS:∀x,S x->¬F x)(hl:row.length<=1099511627776) (J:∀(m:Nat) (hm:m<row.length) t,P m t->t.Inv (IP σ.ks)->t.Small 10995116277/\0<=row[m].id/\row[m].id<=10995116277/\P (m+1) (op t row[m].id)) (h:K3 k w0 F W a σ most rs l2 L t)(h0:P 0 t) (hK:∀W' t',Et k w0 F W W' a σ most rs l2 L t'->P row.length t'->Kend W') : GM [(zIq 0)] (λvs N Q=>∀_:Env,HZ .i64 (Bf vs 0) (zIq (row.length:Int)) λa1=>Af a1 (KY 2 v (Bf vs 0) λa6=>DJ 2 a6 (λa7 a8=>Cv 138 [(zIq 0),(zIq 0)] (λU aa=>Bv 2 U a7 (λO=>DP [6] (i_ [0,1,3,7,0,16,63]) O.drew (λM St=>Aw (e_ a.b) λak=>BX 5 ak λal=>EV (St 3) al λan=>BX 1 U λav=>EV (St 5) av λax=>l_ c [an,ax] (λ_t87 V=>AF (M 6) O.drew V/\ Cl .i64 (Bf vs 0) (zIq 1) λay=>N [ay] V) O.drew)) aa) a8) Q) (Kend Q)) W:=by
 obtain⟨ra,rc,rfl,_⟩:=rd.AK;have X:=rd.JW C0;apply Aa (λvs W'=>∃(m:Nat) (t':Tab V_),m<=row.length/\vs=[zIq m]/\Et k w0 F W W' a σ most rs l2 L t'/\P m t') (λvs _=>row.length-Da vs 0) ⟨0,t,Lc _,rfl,h.Ak (AF.refl _ _),h0⟩;rintro vs W1 ⟨m,t1,hm,rfl,⟨F1,f1,h1,m1⟩,hP⟩ _;simp only[Bh,HK];rw[DX];have z1:=m1.size;refine Ae (λb9=>?_) λba=>?_;rotate_left;obtain rfl:m=row.length:=E;exact hK W1 t1 ⟨F1,f1,h1,m1⟩ hP;have I:m<row.length:=E;obtain⟨p,r,rfl,_,hr,hc,b0⟩:=X.get I;have Y:r=row[m].cells:=b0;subst Y;obtain⟨p',r',e',b6,_⟩:=X.get I;cases e';refine AV I (AX (vs:=row[m].cells) rfl (λj u hu=>by rw[Addr.add_add];exact m1.cell (hc j u hu) λe=>hS _ b6.1 (by rw[Ai] at e;exact e)) ?_);refine Bx.new (vs:=row[m].cells) rfl rfl (Spn.one _) λb5 W2 bb g2 B5=>?_;have gd:=gdr W2;have h2:=h1.S_ (g2.trans gd);obtain⟨hB,bk⟩:=h2.box;have b7:=B5.S_ gd;obtain⟨Ft,hT,bl,put⟩:=h2.nT;have Z:∀x,F1 x->x≠b5:=λx hx e=>by have:=(h1.hl x hx).2.1;omega
 apply Ac (λq y=>q=6/\F1 y);apply AJ;rw[AE,AH];refine AP ⟨hB.cells 5 _ rfl,λj hj e=>by obtain⟨rfl,_⟩:=e;exact absurd hj C0⟩ ?_;rw[AE,AH];refine AP ⟨b7.cells 1 _ rfl,λj hj e=>Z _ e.2 rfl⟩ ?_;obtain⟨q1,q2,q3,q4⟩:=J m I t1 hP hT.Pw;apply AA (call hT q1 q2 q3);rintro _ W3 hA;obtain⟨F3,f3,h3,m3⟩:=put hA;refine⟨m3.mono λx _ hx=>⟨rfl,hx⟩,?_⟩;rw[AQ,AL E];have b8:AF F W W2.drew:=m1.next (g2.trans gd) G_;refine⟨⟨m+1,_,I,rfl,Et.next E b8 ⟨F3,f3,h3,m3⟩,q4⟩,by rw[DW,DW];omega⟩
end
def pI{e:Bool}{b:Nat}{l:Y'}(h:OR e Eg.toAvT F JB W b l) : l_ 194 [e_ b] (λv' w'=>v'=zIq (HY l:Int)/\∃bt F',Ep Eg.toAvT F' JB w' b bt l/\(∀x,F' x->F x\/W.heap.size<=x)/\AF F W w') W:=by
 rcases h with⟨bt,h⟩|⟨_,j,rfl,I,J⟩;apply AA (SF Mz h);rintro _ w ⟨rfl,g⟩;exact⟨rfl,bt,F,h.S_ g,K_,g.mono G_⟩;refine AA (gk (g:=Eg.toAvT) (C:=JB) Mz j F_ L_) ?_;rintro _ w ⟨rfl,bt,F',k1,k2,N⟩;exact⟨rfl,bt,F',k1,B_,(by grind[AF.mono])⟩
namespace Spn
def RB(l:Y'){m:Nat}(hm:m<l.length)(x:Int):Cz (l.take (m+1)) x=Cz (l.take m) x+if x=l[m].id then 1 else 0:=by
 grind[List.take_add_one]
def PZ(l:Y')(m:Nat)(x:Int):Cz (l.take m) x<=Cz l x:=by
 grind[List.take_append_drop]
def U2{l:Y'}{s:Spn}(h:s∈l):0<Cz l s.id:=B_
def VB(l:Y')(x:Int):Cz l x<=l.length:=List.countP_le_length
end Spn
section
variable {k:TxK}{w0:c_}{F:d_}{W:c_}{a:TxA}{σ:SKs}{most:Int}{rs:V'}{l2:Y'}{L:List V_}{t:Tab V_} 
def dY{f:Int->V_}{h:Int->Nat}{j:Y'}{M:Nat}(Q:M<=4000000000)(J:∀s∈j,0<h s.id\/s.id=0)(hb:∀x,h x+j.length<=4000000000)(ks:X') : ∀(m:Nat) (hm:m<j.length) (t:Tab V_),(t.AW [] f (λx=>h x+Spn.Cz (j.take m) x)/\t.AS.length=M)->t.Inv (IP ks)->t.Small 10995116277/\0<=j[m].id/\j[m].id<=10995116277/\((t.He [] j[m].id).AW [] f (λx=>h x+Spn.Cz (j.take (m+1)) x)/\(t.He [] j[m].id).AS.length=M):=by
 rintro m hm t ⟨N,hp⟩ hi;have U:=J j[m] (S7 hm);have I:0<h j[m].id+Spn.Cz (j.take m) j[m].id\/j[m].id=0:=E;obtain⟨O,V⟩:=N.idle I;refine⟨(N.PR hi IP.ne (H:=4000000000) (λx=>?_) E).le E,O,E,(N.He hi I).congr λx=>?_,by grind[Tab.ns]⟩;have:=Spn.PZ j m x;grind;rw[Spn.RB j hm];omega
def T7{f:Int->V_}{h:Int->Nat}{Ml:Y'}{M:Nat}(O:M<=4000000000)(I:∀x,Spn.Cz Ml x<=h x)(hb:∀x,h x<=4000000000)(ks:X') : ∀(m:Nat) (hm:m<Ml.length) (t:Tab V_),(t.AW [] f (λx=>h x-Spn.Cz (Ml.take m) x)/\t.AS.length=M)->t.Inv (IP ks)->t.Small 10995116277/\0<=Ml[m].id/\Ml[m].id<=10995116277/\((t.EG [] Ml[m].id).AW [] f (λx=>h x-Spn.Cz (Ml.take (m+1)) x)/\(t.EG [] Ml[m].id).AS.length=M):=by
 rintro m hm t ⟨J,hp⟩ hi;have h1:=Spn.RB Ml hm Ml[m].id;rw[Ix rfl] at h1;have Q:=Spn.PZ Ml (m+1) Ml[m].id;have U:=I Ml[m].id;have j:0<h Ml[m].id-Spn.Cz (Ml.take m) Ml[m].id:=E;obtain⟨N,V⟩:=J.idle (.inl j);refine⟨(J.PR hi IP.ne (H:=4000000000) (λx=>?_) E).le E,N,E,(J.free hi IP.ne j).congr λx=>?_,by grind[Tab.RG]⟩;grind;rw[Spn.RB Ml hm];omega
def bZ{id:Int}(j:Gi S W a.t σ t)(I:t.Small 10995116277)(h0:0<=id)(h1:id<=10995116277):l_ 196 [e_ a.t,zIq id] (λ_ w'=>LL S W w' a.t σ (t.He [] id)) W:=AA (gM j (I.le E) E E) λ_ _ h=>h.2
def Og{id:Int}(j:Gi S W a.t σ t)(I:t.Small 10995116277)(h0:0<=id)(h1:id<=10995116277):l_ 110 [e_ a.t,zIq id] (λ_ w'=>LL S W w' a.t σ (t.EG [] id)) W:=AA (iY j I E E) λ_ _ h=>h.2
def PK{row:Y'}{i j:Nat}{f:Int->V_}{ex:Int->Nat} (h:K3 k w0 F W a σ most rs l2 L t)(hp:Spn.ME none l2)(hh:t.AW [] f λx=>Spn.rn x none (l2.flatMap Spn.u)+ex x) (Y:i<=j)(hj:j<=(l2.flatMap Spn.u).length)(hv:Al S 2 Gh W v row)(hS:∀x,S x->¬F x) (N:∀s∈row,0<s.n/\(0<ex s.id\/s.id=0))(dz:(l2.flatMap Spn.u).length<=536870912)(hz:(l2.flatMap Spn.u).length+(row.flatMap Spn.u).length<=536870912+(j-i))(bb:∀x,ex x<=1000000000)(Z:t.AS.length<=4000000000) : l_ 109 [e_ a.b,zIq (i:Int),zIq (j:Int),v] (λv' w'=>v'=.tuple #[]/\∃t',Et { k with s:=false } w0 F W w' a σ most rs (Spn.kd.CV l2 i j row) L t'/\t'.AW [] f (λx=>Spn.rn x none ((Spn.kd.CV l2 i j row).flatMap Spn.u)+ex x)/\t'.AS.length=t.AS.length) W:=by
 refine N_ func109 ?_ (.y (.y (.y (.y (.z (.y (.node [9,56] [(9,9),(13,13),(56,64)] .nil .nil)) (.y (.z (.y (.node [77] [(17,17),(77,88)] (.y (.y (.x (.y (.dm [6] [0,1,3,7,0,16,63]))))) .nil)) (.y (.node [91] [(19,19),(91,102)] (.y (.y (.x (.y (.dm [6] [0,1,3,7,0,16,63]))))) .nil)))))))));obtain⟨w1,w2,w3,w4⟩:=Spn.win row hp Y hj;have dT:row.length<=(row.flatMap Spn.u).length:=by
  clear hv hz w1 w2 w3 w4;induction row with
  |nil=>grind
  |cons s row ih=>
   have:=(N s E_).1;have:=ih λs hs=>N s (by simp[hs]);rw[aA9,Bp,Spn.u,aBN,cO];omega
 have e0:(if(0:Int)>(i:Int)-1 then(0:Int) else(i:Int)-1)=((i-1:Nat):Int):=E;have bk:∀x,Spn.rn x none (l2.flatMap Spn.u)<=(l2.flatMap Spn.u).length:=λx=>Spn.Xi x none _;have cx:HY l2=(l2.flatMap Spn.u).length:=GF l2;have a1:HY row=(row.flatMap Spn.u).length:=GF row;have a6:∀s∈row,0<=s.id:=λs hs=>(hh.idle (id:=s.id) B_).1;have da:HY (Spn.kd.CV l2 i j row)+(j-i)=HY l2+HY row:=by grind[aT]
 generalize hn:(l2.flatMap Spn.u).length=n at *;generalize e1:(row.flatMap Spn.u).length=nr at *;rw[A6,Hi,wrap64 E E,e0,AQ,wrap64 E E];apply nfl_i (h.box.1.cells 3 _ rfl);obtain⟨Fs,J,Q,put⟩:=h.HG;apply AA (pI J);rintro _ W1 ⟨rfl,bt,e2,bl,a7,m1⟩;obtain⟨F1,f1,h1,M1⟩:=put (e:=false) m1 a7 (.inl ⟨bt,bl⟩);have bp:Al (λx=>S x/\x<W.heap.size) 2 Gh W1 v row:=(hv.JW C0).T_ M1 B_ C0 C_;have bs:∀x,S x/\x<W.heap.size->¬F1 x:=B_;have a8:(if(HY l2:Int)<(j:Int)+1 then(HY l2:Int) else(j:Int)+1)=((min (j+1) n:Nat):Int):=E;rw[Hh,a8];apply nfl_i (h1.box.1.cells 3 _ rfl);obtain⟨Fs,J,Q,put⟩:=h1.HG;obtain⟨bt,J⟩:=J.t;refine AA (QW (i:=i-1) (j:=min (j+1) n) J E E E) ?_;rintro _ W2 ⟨wv,rfl,oW,g2⟩;apply BD;generalize dk:Spn.kd.Ax l2 (i-1) (min (j+1) n)=Ml at *;have h2:=h1.S_ g2;apply nfl_i (h2.box.1.cells 3 _ rfl);obtain⟨Fs,J,Q,put⟩:=h2.HG;obtain⟨bt,J⟩:=J.t;have aa:=bp.S_ g2 C0 C_;refine AA (bU J (L:=row) E Y E E E aa (λx O e=>bs x O (Q x e)) a6) ?_;rintro _ W3 ⟨_,e3,k1,k2,k3,k4⟩;obtain⟨F3,f3,h3,M3⟩:=put (e:=false) k4 k2 (.inl ⟨bt,k3⟩);generalize bx:Spn.kd.CV l2 i j row=l3 at *;have z1:=M1.size;have z3:=M3.size;have ak:=AB.Am oW;have c4:∀x,F1 x->x<W1.heap.size:=λx O=>(h1.hl x O).2.1;have c6:∀x,wv.ownBlock=some x->¬F3 x:=B_;have al:AB W1.heap.size 138 2 Gh W3 wv Ml:=AB.T_ (R':=Gh) oW M3 B_ E';have an:Al (λx=>S x/\x<W.heap.size) 2 Gh W3 v row:=aa.T_ M3 B_ C0 C_;obtain⟨ra,rc,ev,_⟩:=an.AK;obtain⟨wa,wc,ew,_⟩:=(AB.sl al).AK;have c7:((min (j+1) n:Nat):Int)+((i:Int)-(j:Int))=((min (j+1) n-(j-i):Nat):Int):=E;rw[A6,wrap64 E E,AQ,wrap64 E E,c7];subst ev;rw[AO];refine Aa (λvs W'=>∃m:Nat,m<=row.length/\vs=[zIq ((min (j+1) n-(j-i)+HY (row.take m):Nat):Int),zIq m]/\AG W3 W') (λvs _=>row.length-Da vs 1) ⟨0,Lc _,by simp[HY,Tr.sz],AF.refl _ _⟩ ?_;rintro vs W4 ⟨m,hm,rfl,X⟩ _;simp only[Ha];refine Cn (λe4=>?_) λe5=>?_;have I:m<row.length:=E;have c8:row.take (m+1)=row.take m++[row[m]]:=by rw[No];simp[I]
 have e6:HY row=HY (row.take (m+1))+HY (row.drop (m+1)):=by unfold HY;rw[<-Tr.Dh,Nr]
 have av:HY (row.take (m+1))=HY (row.take m)+row[m].n:=by rw[c8];unfold HY;rw[Tr.Dh];simp[Tr.sz,Spn.kd]
 obtain⟨p,r,rfl,e7,hr,hc,rfl⟩:=an.get I;refine AV I (AX (vs:=row[m].cells) rfl (λj u hu=>by rw[Addr.add_add];exact X.cell (hc j u hu) F_) ?_);refine Bx.new (vs:=row[m].cells) rfl rfl (Spn.one _) λe8 w7 hb g7 B=>?_;apply fl_i (B.cells 0 _ rfl);rw[AQ,wrap64 E E,AQ,AL E];refine⟨⟨m+1,I,?_,X.trans g7⟩,by rw[BV,BV];omega⟩;rw[av];grind;obtain rfl:m=row.length:=E;rw[WL,a1];have h4:=h3.S_ X;have z4:=X.size;apply nfl_i (h4.box.1.cells 3 _ rfl);obtain⟨Fs,J,Q,put⟩:=h4.HG;obtain⟨bt,J⟩:=J.t;have ba:l3.length<=HY l3:=by rw[GF,<-bx];exact Spn.N5 (Spn.Lr i j row hp)
 refine AA (QW (i:=i-1) (j:=min (j+1) n-(j-i)+nr) J E E E) ?_;rintro _ W5 ⟨nv,rfl,oN,g5⟩;apply BD;generalize dr:Spn.kd.Ax l3 (i-1) (min (j+1) n-(j-i)+nr)=U at *;have h5:=h4.S_ g5;have z5:=g5.size;have ax:=AB.Am oN;have V:∀x,F3 x->x<W3.heap.size:=λx O=>(h3.hl x O).2.1;have ay:=AB.sl oN;obtain⟨na,nc,en,_⟩:=ay.AK;subst en;rw[AO];have b0:∀x,Spn.rn x none (l2.flatMap Spn.u)+ex x+U.length<=4000000000:=λx=>by have:=bk x;have:=bb x;omega
 refine PD (P:=λm t=>t.AW [] f (λx=>(Spn.rn x none (l2.flatMap Spn.u)+ex x)+Spn.Cz (U.take m) x)/\t.AS.length=_) bZ ay (λx O e=>by have:=ax x O.2;have:=V x e;omega) E
  (dY Z (λs hs=>?_) b0 σ.ks) h5 ⟨hh.congr λx=>by simp[Spn.Cz],rfl⟩ ?_
 rcases w2 s.id (Spn.U2 hs) with e | e;have:=Spn.Q3 (p:=none) e E_;omega;obtain ⟨s',c9,e'⟩:=Spn.cY e;have:=(N s' c9).2;grind;rintro W6 t6 ⟨F6,f6,h6,M6⟩ ⟨b6,b7⟩;rw [WL] at b6;have z6:=M6.size;have ca:AB W1.heap.size 138 2 Gh W5 wv Ml:=AB.T_ (R':=Gh) al (X.trans g5) C_ E';have cc:AB W1.heap.size 138 2 Gh W6 wv Ml:=AB.T_ (R':=Gh) ca M6 E E';have b8:=AB.sl cc;subst ew;rw [AO];refine PD (P:=λm t=>t.AW [] f (λx=>(Spn.rn x none (l2.flatMap Spn.u)+ex x+Spn.Cz U x) - Spn.Cz (Ml.take m) x)/\t.AS.length=_) Og b8 (λx O e=>by
   rcases f6 x e with e | e;exact c6 x O.2 e;have:=ak x O.2;omega) E
  (T7 (b7▸Z) (λx=>by have:=w1 x;omega) (λx=>by have:=b0 x;have:=Spn.VB U x;omega) σ.ks) h6 ⟨b6.congr λx=>by simp[Spn.Cz],rfl⟩ ?_
 rintro W7 t7 cq ⟨b9,cu⟩;rw[WL] at b9;refine⟨trivial,t7,?_,b9.congr λx=>by have:=w1 x;omega,cu.trans b7⟩;exact Et.next f1 M1 (Et.step g2 (Et.next f3 M3 (Et.step (X.trans g5) (Et.next f6 M6 cq))))
end
def Cb(d:Y_):List V_:=(d.filter λc=>decide (c.r=10)).map (·.set)
abbrev BK(d:Y_):V':=d.map Cel.r
def GK(ks:X')(set:V_)(r:Int):Cel:=⟨r,EM ks (decide (r=10)) set⟩
theorem E2(x y:Y_):Cb (x++y)=Cb x++Cb y:=by simp[Cb]
theorem FA(d:Y_):(Cb d).length=CX (BK d):=by
 induction d<;>grind[Cb]
def Ek(d:Y_)(i:Nat):Cb (d.take i)=(Cb d).take (CX ((BK d).take i))/\Cb (d.drop i)=(Cb d).drop (CX ((BK d).take i)):=by
 grind[E2,List.take_append_drop,FA,List.map_take]
def sN(ks:X')(set:V_)(rs:V'):Cb (rs.map (GK ks set))=List.replicate (CX rs) (EM ks true set):=by
 induction rs with
 |nil=>rfl
 |cons r rs j=>
  have e:r::rs=[r]++rs:=rfl;rw[e,u7,E2,j,MS];by_cases h:r=10;subst h;rw[<-aBj];simp[Cb,GK,CX];grind[Cb,GK]
def wg(ks:X')(set:V_)(rs:V'):BK (rs.map (GK ks set))=rs:=by
 simp[BK,GK,Function.comp_def]
def wi(f:Int->V_)(z:List (Cel×Int)):Prop:=∀p∈z,(p.1.r=10->p.2=0)/\(p.1.r≠10->f p.2=p.1.set)
def KB(k:TxK)(w0:c_)(F:d_)(W:c_)(a:TxA)(σ:SKs)(most:Int)(d:Y_):Prop:=∃(z:List (Cel×Int)) (l2:Y') (t:Tab V_) (f:Int->V_),z.map Prod.fst=d/\K3 k w0 F W a σ most (BK d) l2 (Cb d) t/\Spn.ME none l2/\l2.flatMap Spn.u=z.map Prod.snd/\t.AW [] f (λx=>Spn.rn x none (z.map Prod.snd))/\wi f z/\t.AS.length<=2000000000
def VX(k:TxK)(w0:c_)(F:d_)(W W':c_)(a:TxA)(σ:SKs)(most:Int)(d:Y_):Prop:=∃F',(∀x,F' x->F x\/W.heap.size<=x)/\KB k w0 F' W' a σ most d/\AF F W W'
def Ys{e:Bool}{b i:Nat}{l:a_}(h:OR e BH.toAvT F JB W b l)(hi:i<=(CM l).length)(j:(CM l).length<=1099511627776) : l_ 144 [e_ b,zIq (i:Int)] (λv' w'=>v'=.tuple #[zIq (CX ((CM l).take i):Int),zIq 0]/\∃bt F',Ep BH.toAvT F' JB w' b bt l/\(∀x,F' x->F x\/W.heap.size<=x)/\AF F W w') W:=by
 rcases h with⟨bt,h⟩|⟨_,I,rfl,J,N⟩;apply AA (Oa h hi j);rintro _ w ⟨rfl,g⟩;exact⟨rfl,bt,F,h.S_ g,K_,g.mono G_⟩;obtain rfl:i=0:=by simpa using hi
 apply AA (Xs I);grind[AF.mono]
def Yf{e:Bool}{F C S D:d_}{b k:Nat}{L R:List V_}(h:OR e BN.toAvT F C W b L)(hk:k<=L.length)(hl:L.length+R.length<=536870912)(j:Al S 1 (Cu D) W v R)(J:∀x,S x\/D x->x≠b)(I:∀x∈R,x.length*48<=140737488355328) : l_ 107 [e_ b,zIq (k:Int),v] (λv' w'=>∃bt F' C',(∀x,F' x\/C' x->(F x\/C x)\/W.heap.size<=x)/\Ep BN.toAvT F' C' w' b bt (L.take k++R++L.drop k) /\AF F W w') W:=by
 rcases h with⟨bt,h⟩|⟨_,N,rfl,O,Q⟩;apply AA (cA h hk hl j I);grind;obtain rfl:k=0:=by simpa using hk
 apply AA (XL N (by simpa using hl) j J I);grind[AF.mono]
section
variable {k:TxK}{w0:c_}{F:d_}{W:c_}{a:TxA}{σ:SKs}{most:Int}{rs:V'}{l2:Y'}{L:List V_}{t:Tab V_}{d:Y_}
def lq{e:Bool}{Fr:d_}{i:Nat}{l:a_}{b r s p t:Nat}(j:Bx W b (nP sv most r s p t))(h:OR e BH.toAvT Fr JB W r l)(hi:i<=(CM l).length)(I:(CM l).length<=1099511627776) : l_ 78 [e_ b,zIq (i:Int)] (λv' w'=>v'=zIq (CX ((CM l).take i):Int)/\∃bt F',Ep BH.toAvT F' JB w' r bt l/\(∀x,F' x->Fr x\/W.heap.size<=x)/\AF Fr W w') W:=by
 refine H_ func78 ?_;apply nfl_i (j.cells 2 _ rfl);apply AA (Ys h hi I);rintro _ J ⟨rfl,h1⟩;exact Bt (vs:=[_,_]) (by rfl) (Bt (vs:=[_,_]) (by rfl) ⟨rfl,h1⟩)
def V8{at':Nat}{set:V_}(h:KB k w0 F W a σ most d)(hT:CH w0)(eC:at'<=d.length)(hr:LQ S W v rs)(hs:Bo S W sv set)(c7:∀x,S x->¬F x) (hm:∀r∈rs,DZ r)(ax:CD σ.ks (EM σ.ks false set)=0)(hI:∀x∈set,SZ x)(eH:set.length<=64)(hz:d.length+rs.length<=536870912) : l_ 60 [e_ a.b,zIq (at':Int),v,sv] (λv' w'=>v'=.tuple #[]/\VX .f w0 F W w' a σ most (d.take at'++rs.map (GK σ.ks set)++d.drop at')) W:=by
 obtain⟨z,l2,t,f,c8,hM,hp,hu,hh,c9,ca⟩:=h;have cc:z.length=d.length:=B_;have er:(BK d).length=d.length:=Nn _;refine N_ func60 ?_ (.z (.dm [9,10] [0,1,3,7,0,16,48,112,0,496,1023,2047,4095,4095,8191,32767]) (.y (.y (.y (.z (.y (.node [11,12,37] [(11,14),(37,79)] (.y (.y (.cut [11,12] [(11,14),(39,78)] .nil .nil))) .nil)) (.x (.dm [6,8] [0,1,3,7,0,0,48,0,255])))))));have gd:=gdr W;have X:=hM.S_ gd;apply Ac (λq y=>q=10/\F y);apply AJ;rw[AE,AH];refine AP ⟨X.box.1.cells 5 _ rfl,λj hj e=>by obtain⟨rfl,_⟩:=e;exact absurd hj C0⟩ ?_;apply AJ;rw[AE,AH];refine AP ⟨X.box.1.cells 0 _ rfl,λj hj e=>by obtain⟨rfl,_⟩:=e;exact absurd hj C0⟩ ?_;have cq:=hs.S_ gd C0 C_;have cu:=hs.JW C0;refine AA (Nu (b:=false) X.Ho.1 cq E) ?_;rintro eI W1 ⟨cx,g1⟩;refine⟨B_,?_⟩;have ak:=gd.trans g1;have ay:=X.S_ g1;have zd:=gd.size;have z1:=g1.size;obtain⟨Ft,Y,eL,put⟩:=ay.nT;have eN:=hM.hl;have da:t.Small 10995116277:=(hh.PR Y.Pw IP.ne (H:=4000000000) (by grind[Spn.Xi]) E).le E;refine AA (Zr Y da cx (hT.S_ ay.g) (λx I=>hI x ((aAb.1 I).1)) (λx I=>?_) (λx I e=>?_)) ?_;grind[CH.size];grind;rintro _ W2 (⟨h0,_⟩|⟨_,id,t2,rfl,a6,hA⟩);omega;obtain⟨F2,f2,U,M2⟩:=put hA;refine⟨B_,?_⟩;apply BD;obtain⟨f',dk,b0,dr⟩:=hh.Xy Y.Pw a6 λZ=>⟨Z,λx I=>hI x ((aAb.1 I).1),ax⟩;have et:=hh.Cl Y.Pw IP.ne (M:=z.map Prod.snd) (λx I=>Spn.Yd I) (K:=2000000000) B_ ca a6;apply nfl_i (U.box.1.cells 0 _ rfl);have z2:=M2.size;have dz:=(cu.S_ ak C0 C_).T_ M2 B_ C0 C_;refine AA (Nu (b:=true) U.Ho.1 dz E) ?_;rintro eR W3 ⟨dT,g3⟩;have e4:=U.S_ g3;have z3:=g3.size;have b6:=(((hr.JW C0).S_ ak C0 C_).T_ M2 B_ C0 C_).S_ g3 C0 C_;obtain⟨ra,rc,e5,_⟩:=b6.AK;have b7:Dz v=Dz (.slice ra rs.length rc):=by rw[e5]
 rw[b7,AO];refine kC b6 dT E λrow cv W5 oR oC Z g5=>?_;simp only[Ha];have z5:=g5.size;have eu:=U.hl;have Q:=AB.Am oR;have ew:=AB.Am oC;have e6:LQ (λx=>S x/\x<W.heap.size) W5 v rs:=by grind[Al.S_]
 have O:=gdr W5;have eX:=O.size;have V:=(e4.S_ g5).S_ O;obtain ⟨l1,Fr,e7,hO,fa,put⟩:=V.MV;have b8:at'<=(CM l1).length:=B_;have fo:(CM l1).length=d.length:=B_;apply Ac (λq y=>(q=6/\Fr y)\/(q=8/\(F2 y\/W5.heap.size<=y)));apply AJ;rw [AE,AH];refine AP ⟨V.box.1.cells 4 _ rfl,λj hj e=>by
  rcases e with ⟨rfl,e⟩ | ⟨rfl,_⟩;grind;exact absurd hj C0⟩ ?_
 refine AA (lq V.box.1 hO b8 E) ?_;rintro _ W6 ⟨rfl,e8,fs,e9,b9,m6⟩;refine⟨B_,?_⟩;obtain⟨F6,f6,ba,M6⟩:=put (e:=false) m6 b9 (.inl ⟨e8,e9⟩);rw[e7] at ba ⊢;have z6:=M6.size;obtain⟨Fp,Cp,hO,ea,put⟩:=ba.Uy;have N:∀x,F2 x->x<W2.heap.size:=B_;have ec:AB W3.heap.size 47 1 (Cu λx=>W2.heap.size<=x/\x<W3.heap.size) W6 cv (List.replicate (CX rs) (EM σ.ks true set)):=
  AB.T_ (AB.T_ (R':=Cu λx=>W2.heap.size<=x/\x<W3.heap.size) oC O C_ λr y _ hy=>BN.Bw hy O E') M6 B_ λr y _ hy=>BN.Bw hy M6 λx _ I e=>by have:=N x e;omega
 have fv:a.p<W2.heap.size:=by
  obtain⟨fx,fy,bb,ez,_⟩:=U.Uy;exact bb.lt _ (.inl bb.fb)
 refine AA (Yf (k:=CX ((BK d).take at')) hO (by rw [FA];exact aBC _ (aCa _ _)) (by rw [FA,aBN];have h1:=Em (BK d);have h2:=Em rs;omega) (AB.sl ec) E (λx I=>by
   rw [List.eq_of_mem_replicate I];have:(EM σ.ks true set).length<=set.length:=aBB _ _;omega)) ?_
 rintro _ W7 ⟨ed,ga,gb,ee,ef,m7⟩;have a1:∀x,F6 x->F2 x\/W5.heap.size<=x:=λx I=>(f6 x I).imp F_ E;refine⟨m7.mono λx _ I=>.inr ⟨rfl,a1 x (ea x (.inl I))⟩,?_⟩;have gf:=Em rs;obtain⟨F7,f7,bk,M7⟩:=put (e:=false) m7 ee (.inl ⟨ed,ef⟩);have z7:=M7.size;have a7:∀x,F7 x->F2 x\/W5.heap.size<=x:=λx I=>by
  rcases f7 x I with e|e;exact a1 x e;omega
 have a8:∀x,S x/\x<W.heap.size->¬F2 x:=λx I e=>by
  rcases f2 x e with e|e;exact c7 x I.1 e;omega
 have bl:∀x,S x/\x<W.heap.size->¬F6 x:=λx I e=>by
  rcases a1 x e with e|e;exact a8 x I e;omega
 apply nfl_i (bk.box.1.cells 2 _ rfl);obtain⟨l7,gg,eh,hO,eA,put⟩:=bk.MV;obtain⟨ej,hO⟩:=hO.t;have eB:(CM l7).length=d.length:=B_;have ek:=((e6.S_ O C0 C_).T_ M6 (λx _ I e=>a8 x I e) C0 C_).T_ M7 (λx _ I e=>bl x I e) C0 C_;refine AA (eU hO E E ek hm) ?_;rintro _ W8 ⟨rfl,gl,l8,_,k2,k3,k4,k5⟩;have gm:=SO rs;obtain⟨F8,f8,bp,M8⟩:=put (e:=false) k5 k2 (.inl ⟨ej,k3⟩);rw[k4,eh] at bp;obtain⟨r1,r2,_,_,r5⟩:=R9 id rs;have r6:=r9 List.length r1;rw[Nn] at r6;have en:=r9 List.length hu;rw[Nn,cc] at en;have eo:AB W3.heap.size 138 2 Gh W8 row (Ci id rs).1:=
  AB.T_ (R':=Gh) (AB.T_ (R':=Gh) (AB.T_ (R':=Gh) (AB.T_ (R':=Gh) oR O C_ E') M6 (λx I e=>by have:=Q x I;have:=N x e;omega) E') M7 (λx I e=>by
   have:=Q x I;rcases a1 x e with e | e;have:=N x e;omega;omega) E') M8 (λx I e=>by
   have:=Q x I;rcases a7 x e with e | e;have:=N x e;omega;omega) E'
 have bs:∀s∈(Ci id rs).1,s.id=id\/s.id=0:=λs hs=>by
  have:=Spn.TQ hs (r2 s hs);rw[r1] at this;obtain⟨r,_,e⟩:=WJ.1 this;rw[<-e];unfold Iu;omega
 refine AA (PK (f:=f') (ex:=λx=>if x=id then 1 else 0) (i:=at') (j:=at') bp hp (dk.congr B_) (DN _) E (AB.sl eo) (λx I e=>?_) (λs hs=>⟨r2 s hs,?_⟩) E E (λx=>by split<;>omega) E) ?_;have:=Q x I.2;rcases f8 x e with e|e;rcases a7 x e with e|e;have:=N x e;omega;omega;omega;rcases bs s hs with e|e;grind;omega;rintro _ W9 ⟨rfl,t9,⟨F9,f9,bx,M9⟩,al,gq⟩;apply nfl_i (bx.box.1.cells 5 _ rfl);obtain⟨gu,an,_,put⟩:=bx.nT;have av:((Spn.kd.CV l2 at' at' (Ci id rs).1).flatMap Spn.u)=(z.map Prod.snd).take at'++rs.map (Iu id)++(z.map Prod.snd).drop at':=by rw[Spn.FV.CV l2 _ (DN at'),hu,r1]
 have ep:=r9 List.length av;simp only[Bp,S5,I3,Nn] at ep;have aa:0<Spn.rn id none ((Spn.kd.CV l2 at' at' (Ci id rs).1).flatMap Spn.u)+(if id=id then 1 else 0):=B_;obtain⟨q1,q2⟩:=al.idle (.inl aa);refine AA (Og an ((al.PR an.Pw IP.ne (H:=4000000000) (λx=>by have:=Spn.Xi x none ((Spn.kd.CV l2 at' at' (Ci id rs).1).flatMap Spn.u);split<;>omega) E).le E) q1 E) ?_;rintro _ gv c4;have c6:=al.free an.Pw IP.ne aa;obtain⟨F',w1,w2,w3⟩:=(Et.step ak (Et.next f2 M2 (Et.step (g3.trans (g5.trans O)) (Et.next f6 M6 (Et.next f7 M7 (Et.next f8 M8 (Et.next f9 M9 (put c4))))))));refine⟨trivial,F',w1,⟨z.take at'++rs.map (λr=>(GK σ.ks set r,Iu id r))++z.drop at',Spn.kd.CV l2 at' at' (Ci id rs).1,_,f',?_,?_,Spn.Lr at' at' _ hp,?_,c6.congr λx=>?_,?_,?_⟩,w3⟩;rw[u7,u7,aAI,aAe,c8,aBR];rfl;have e1:BK (d.take at'++rs.map (GK σ.ks set)++d.drop at')=(BK d).take at'++rs++(BK d).drop at':=by
  rw[BK,u7,u7,aAI,aAe];show _++BK _++_=_;rw[wg]
 have e2:Cb (d.take at'++rs.map (GK σ.ks set)++d.drop at')=(Cb d).take (CX ((BK d).take at'))++List.replicate (CX rs) (EM σ.ks true set)++(Cb d).drop (CX ((BK d).take at')):=by
  rw[E2,E2,sN,(Ek d at').1,(Ek d at').2]
 rw[e1,e2];exact w2;rw[av,u7,u7,aAI,aAe,aBR];rfl;have e3:(z.take at'++rs.map (λr=>(GK σ.ks set r,Iu id r))++z.drop at').map Prod.snd=(Spn.kd.CV l2 at' at' (Ci id rs).1).flatMap Spn.u:=by rw[av,u7,u7,aAI,aAe,aBR];rfl
 rw[e3];omega;intro p J;have JW:∀p∈z,(p.1.r=10->p.2=0)/\(p.1.r≠10->f' p.2=p.1.set):=λp J=>by
  obtain⟨o1,o2⟩:=c9 p J;refine⟨o1,λZ=>?_⟩;rw[dr,o2 Z];exact Spn.Q3 (WJ.2 ⟨p,J,rfl⟩) E_
 rcases K8.1 J with J|J;rcases K8.1 J with J|J;exact JW p (zF J);obtain⟨r,_,rfl⟩:=WJ.1 J;refine⟨λe=>?_,λe=>?_⟩;have e':r=10:=e;simp[Iu,e'];have e':r≠10:=e;simp[Iu,e',GK,b0];exact JW p (oy J);rw[Tab.RG];omega
end
def AB.KU{B e k:Nat}{R:c_->U_->α->Prop}{x:α}(I:B<=w.heap.size)(j:cs.length=k)(h1:∀u∈cs,u.oneCell'=true)(J:R (w.alloc (.cells cs.toArray e)) cs x) : AB B e k R (w.alloc (.cells cs.toArray e)) (.slice (f_ w.heap.size) 1 1) [x]:=by
 refine⟨[cs],⟨by simp[j],.inr ⟨w.heap.size,1,cs.toArray,rfl,I,aBm w _,E_,by simp[maxLen],by simp[j],by simp[<-j]⟩⟩,rfl,λr hr=>?_,λi r y hr N=>?_⟩;grind;grind
section
section
variable {k:TxK}{w0:c_}{F:d_}{W:c_}{a:TxA}{σ:SKs}{most:Int}{d:Y_}
def mF{i j:Nat}(h:KB .f w0 F W a σ most d)(O:i<=j)(hj:j<=d.length)(hz:d.length<=536870912) : l_ 87 [e_ a.b,zIq (i:Int),zIq (j:Int)] (λv' w'=>v'=.tuple #[]/\VX .f w0 F W w' a σ most (d.take i++d.drop j)) W:=by
 obtain⟨z,l2,t,f,b0,hM,hp,hu,hh,U,b6⟩:=h;have a7:z.length=d.length:=B_;have N:(BK d).length=d.length:=Nn _;refine J_ func87 ?_ (.x (.dm [6,9,10] [0,1,3,7,0,0,48,0,0,496,1023]));have gd:=gdr W;have J:=hM.S_ gd;obtain⟨l1,Fr,bt,V,Q,b7,_⟩:=J.aC;have a8:(CM l1).length=d.length:=by rw[V,N]
 apply Ac (λq y=>q=10/\F y);apply AJ;rw [AE,AH];refine AP ⟨J.box.1.cells 4 _ rfl,λj hj e=>by obtain ⟨rfl,_⟩:=e;exact absurd hj C0⟩ ?_;refine AA (KC J.box.1 Q (i:=i) E E) ?_;rintro _ W1 ⟨rfl,g1⟩;refine ⟨B_,?_⟩;have X:=J.S_ g1;refine AA (KC X.box.1 (Q.S_ g1) (i:=j) E E) ?_;rintro _ W2 ⟨rfl,g2⟩;refine ⟨B_,?_⟩;rw [V] at a8 ⊢;obtain ⟨Fp,Cp,bp,Q,b8,put⟩:=(X.S_ g2).aI;have aa:CX ((BK d).take i)<=CX ((BK d).take j):=aBC _ (by
  rw [<-aAD O,<-aBI];grind)
 have b9:CX ((BK d).take j)<=CX (BK d):=aBC _ (aCa _ _);have ba:=Em (BK d);apply AA (eg Q aa (by grind[FA]) (by rw [FA];omega));rintro _ W3 ⟨rfl,bb,_,k2,k3,m3⟩;obtain ⟨F3,f3,Y,M3⟩:=put m3 (λx Z=>by
  rcases Z with Z | Z;exact (k2 x Z).imp .inl F_;exact .inl (.inr Z)) k3
 refine⟨B_,?_⟩;apply nfl_i (Y.box.1.cells 2 _ rfl);obtain⟨l3,bk,br,a1,Q,ax,put⟩:=Y.aC;have ay:(CM l3).length=d.length:=by rw[a1,N]
 refine AA (cC Q O E E) ?_;rintro _ W4 ⟨rfl,bl,l4,_,k2,k3,k4,m4⟩;obtain⟨F4,f4,a6,M4⟩:=put m4 k2 k3;rw[k4,a1] at a6;have ak:=r9 List.length hu;rw[Nn,a7] at ak;refine AA (PK (f:=f) (ex:=λ_=>0) (row:=[]) (S:=λ_=>False) a6 hp B_ O E Al.nil L_ (λs hs=>nomatch hs) E B_ (λx=>Lc _) E) ?_;rintro _ W5 ⟨rfl,t5,al,an,bs⟩;obtain⟨F',w1,w2,w3⟩:=(Et.step (gd.trans (g1.trans g2)) (Et.next f3 M3 (Et.next f4 M4 al)));have av:((Spn.kd.CV l2 i j []).flatMap Spn.u)=(z.map Prod.snd).take i++(z.map Prod.snd).drop j:=by grind[Spn.FV,Kd.Fi.CV]
 have e3:(z.take i++z.drop j).map Prod.snd=(Spn.kd.CV l2 i j []).flatMap Spn.u:=by rw[av,u7,aAI,aAe]
 refine⟨rfl,F',w1,⟨z.take i++z.drop j,_,_,f,?_,?_,Spn.Lr i j [] hp,e3.symm,an.congr λx=>?_,λp I=>?_,E⟩,w3⟩;grind[List.map_take,List.map_drop];have e1:BK (d.take i++d.drop j)=(BK d).take i++(BK d).drop j:=by rw[BK,u7,aAI,aAe]
 have e2:Cb (d.take i++d.drop j)=(Cb d).take (CX ((BK d).take i))++(Cb d).drop (CX ((BK d).take j)):=by rw[E2,(Ek d i).1,(Ek d j).2]
 grind;grind;rcases K8.1 I with I|I;exact U p (zF I);exact U p (oy I)
end
theorem xA:DZ 10:=.inl E
theorem kB:CD ks []=0:=by
 classical
 unfold CD;rw[By,By];rintro⟨a,ha,_⟩;cases ha;rintro(h|h|⟨a,ha,_⟩);exact h λi h1 j=>by simp at j
 grind;grind
def iq{σ:SKs}(Y:CG σ.S W σ.sv σ.ks)(a8:∀x,σ.S x->x<W.heap.size)(hT:CH w0)(g:AG w0 W) : l_ 20 [σ.sv,zIq most] (λv' w'=>AG W w'/\((1<=most/\most<536870912/\∃a F,v'=.tuple #[e_ a.b,zIq 0]/\(∀x,F x->W.heap.size<=x)/\KB .f w0 F w' a σ most [⟨10,[]⟩])\/((most<1\/536870912<=most)/\v'=.tuple #[.pointer none,zIq 2]))) W:=by
 refine H_ func20 ?_ (.y (.cut [] [(4,5),(7,12)] .nil .nil));refine AT (λ_ W'=>W'=W/\1<=most/\most<536870912) ?_ ?_;rotate_left;refine Cn (by grind[AF.refl]) λh1=>?_;exact geP (by grind[AF.refl]) B_;rintro _ _ ⟨rfl,Z,a1⟩ _;rename c_=>W;apply AA vV;rintro _ W1 ⟨r,rfl,hr,B1,g1⟩;apply AA uB;rintro _ W2 ⟨s,rfl,hs,B2,g2⟩;apply AA uX;rintro _ W3 ⟨p,rfl,hp,B3,g3⟩;have z1:=g1.size;have aa:=B1.lt (P9 _);have ak:=B2.lt (P9 _);have al:=B3.lt (P9 _);have Q:=(g1.trans g2).trans g3;refine AA (qu (Y.S_ Q) B_) ?_;rintro _ W4 ⟨U,tb,an,rfl,V⟩;have z4:=U.size;have a6:∃bs,σ.sv=e_ bs:=by
  obtain⟨bs,_,_,_,e,_⟩:=id Y;grind
 have J:Instr.fill (λi=>[(0,1),(1,1),(2,1),(3,1),(4,1),(5,1)][i]?) [Value.pointer none,zIq 0,.pointer none,.pointer none,.pointer none,.pointer none].toArray [(0,σ.sv),(1,zIq most),(2,e_ r),(3,e_ s),(4,e_ p),(5,e_ tb)]=some (nP σ.sv most r s p tb).toArray:=by
  obtain⟨bs,e⟩:=a6;rw[e];kernel_rfl
 refine⟨_,J,Bx.box λb j hb O B5=>?_⟩;have z5:=O.size;have av:=B5.lt (P9 _);have N:=(Q.trans U).trans O;have ax:=V.lt;have hM:KB ⟨true,true,true⟩ w0 (λx=>W.heap.size<=x/\x<j.heap.size) j ⟨b,r,s,p,tb⟩ σ most []:=by
  refine⟨[],[],Tab.z _,λ_=>[],rfl,⟨λx=>if x=b then 0 else if x=r then 1 else if x=s then 2 else if x=p then 3 else if x<W.heap.size then 5 else 4,⟨λx=>x=r,λx=>x=s,λx=>x=p,λ_=>False,λx=>W3.heap.size<=x/\x<W4.heap.size⟩,[],rfl,?_⟩,trivial,rfl,Tab.AW.new _,(λp hp=>nomatch hp),Lc _⟩;refine⟨B5,.inr ⟨rfl,B1.S_ (((g2.trans g3).trans U).trans O),rfl,λx=>aCU,M_⟩,.inr ⟨rfl,(B2.S_ (g3.trans U)).S_ O,rfl,λx=>aCU,M_⟩,.inr ⟨rfl,(B3.S_ U).S_ O,rfl,λx=>aCU,M_⟩,V.S_ O,Y.S_ N,Ix rfl,?_,?_,?_,?_,?_,?_,?_,g.trans N⟩;grind;grind;grind;grind;grind;grind;rintro x ⟨h1,h2⟩;have:=g.size;grind
 refine ET (cs:=[.int .i32 10]) D_ ?_;have o6:AB j.heap.size 21 1 Bk (j.alloc (.cells [Value.int .i32 10].toArray 21)) (.slice (f_ j.heap.size) 1 1) [10]:=AB.KU (DN _) rfl (λu hu=>by simp at hu;subst hu;rfl) rfl;have I:=AB.sl o6;have X:AG j (j.alloc (.cells [Value.int .i32 10].toArray 21)):=AF.alloc _ _ _;generalize j.alloc (.cells [Value.int .i32 10].toArray 21)=W6 at I o6 X ⊢;obtain⟨z',l2,t,f,e1,e2,e3⟩:=hM;have a7:KB ⟨true,true,true⟩ w0 (λx=>W.heap.size<=x/\x<j.heap.size) W6 ⟨b,r,s,p,tb⟩ σ most []:=⟨z',l2,t,f,e1,e2.S_ X,e3⟩;have q1:([10]:V').length=1:=rfl;have q2:EM σ.ks false []=[]:=rfl;have key:=V8 (at':=0) (rs:=[10]) (set:=[]) a7 hT (DN _) I Al.nil E (by grind[xA]) (by grind[kB]) (λx hx=>nomatch hx) (Lc _) B_;apply AA key;rintro _ W7 ⟨rfl,F7,f7,h7,m7⟩;have z6:=X.size;refine⟨(N.trans X).next m7 E,.inl ⟨Z,a1,⟨b,r,s,p,tb⟩,F7,rfl,λx hx=>?_,?_⟩⟩;grind;exact h7
def AAf{α β γ:Type}(g:α->γ):∀(A:List α) (B:List β),A.length=B.length->(A.zipWith (λa b=>(g a,b)) B).map Prod.fst=A.map g/\(A.zipWith (λa b=>(g a,b)) B).map Prod.snd=B/\∀q∈A.zipWith (λa b=>(g a,b)) B,∃(k:Nat) (a:α) (b:β),A[k]?=some a/\B[k]?=some b/\q=(g a,b):=by
 intro A;induction A with
 |nil=>
  intro B h;have:B=[]:=Of h.symm;subst this;exact⟨rfl,rfl,λq j=>nomatch j⟩
 |cons a A I=>
  intro B h;cases B with
  |nil=>simp at h
  |cons b B=>
   obtain⟨h1,X,J⟩:=I B (by simpa using h);refine⟨by grind[List.zipWith_cons_cons],by grind[List.zipWith_cons_cons],λq j=>?_⟩;rw[aA5] at j;rcases S6.1 j with rfl|j;exact⟨0,a,b,rfl,rfl,rfl⟩;obtain⟨k,N,O,Q,U,V⟩:=J q j;exact⟨k+1,N,O,Q,U,V⟩
def dQ{P:Int->Int->Prop}:∀{row done:Y'},done.length=row.length->(∀(q:Nat) (s s':Spn),row[q]?=some s->done[q]?=some s'->s'.n=s.n/\P s.id s'.id)->(done.flatMap Spn.u).length=(row.flatMap Spn.u).length/\∀(k:Nat) (x y:Int),(row.flatMap Spn.u)[k]?=some x->(done.flatMap Spn.u)[k]?=some y->P x y:=by
 intro row;induction row with
 |nil=>
  grind
 |cons s row I=>
  intro done h hr;cases done with
  |nil=>simp at h
  |cons s' done=>
   obtain⟨J,O⟩:=hr 0 s s' rfl rfl;obtain⟨h1,Q⟩:=I (done:=done) (by simpa using h) λq a b ha hb=>hr (q+1) a b ha hb;have l1:(Spn.u s).length=s.n:=by rw[Spn.u,aBN]
   have l2:(Spn.u s').length=s.n:=by rw[Spn.u,aBN,J]
   refine⟨B_,λk x y j N=>?_⟩;rw[aA9] at j N;by_cases hk:k<s.n;rw[u6 E,Spn.u,aDB,Ix hk] at j;grind[Spn.u];rw[nm E,l1] at j;grind
section
variable {k:TxK}{w0:c_}{F:d_}{W:c_}{a:TxA}{σ:SKs}{most:Int}{d:Y_}
def ZU{i j:Nat}{p:W_}(h:KB .f w0 F W a σ most d)(hT:CH w0)(a7:i<=j)(hj:j<=d.length)(hp:DY S W v p)(ga:∀x,S x->¬F x)(gb:p.length<=64) (O:∀c∈(d.take j).drop i,c.r≠10/\CD σ.ks (CF c.set p)=0/\∀x∈CF c.set p,SZ x)(hz:d.length<=536870912) : l_ 158 [e_ a.b,zIq (i:Int),zIq (j:Int),v] (λv' w'=>v'=.tuple #[]/\VX .f w0 F W w' a σ most (d.take i++((d.take j).drop i).map (λc=>(⟨c.r,CF c.set p⟩:Cel))++d.drop j)) W:=by
 obtain⟨z,l2,t,f,bl,hM,bp,hu,hh,bs,gf⟩:=h;have a8:z.length=d.length:=B_;have dk:=r9 List.length hu;rw[Nn,a8] at dk;refine N_ func158 ?_ (.y (.z (.y (.node [27] [(10,12),(27,58)] (.y (.y (.x (.y (.z (.dm [9] [0,1,3,7,0,0,48,112,240,511,1023,2047,2047,4095,16383]) (.dc [8,9,15] (i_ [0,0,0,4,12,28,0,0,192,508,1020,2044,2044,4095,12287,28671]) [[8,9]])))))) .nil)) (.y (.y (.node [66] [(14,14),(66,77)] (.y (.y (.x (.y (.dm [6] [0,1,3,7,0,16,63]))))) .nil)))));apply nfl_i (hM.box.1.cells 3 _ rfl);obtain⟨Fs,bt,hO,gg,_⟩:=hM.ik;have fo:HY l2=d.length:=by rw[GF,dk]
 refine AA (QW (i:=i) (j:=j) hO a7 E E) ?_;rintro _ W1 ⟨rv,rfl,oR,g1⟩;apply BD;have bx:=Spn.Jw bp i j;have aa:(Spn.kd.Ax l2 i j).flatMap Spn.u=((z.map Prod.snd).take j).drop i:=by rw[Spn.FV.Ax,hu]
 have ek:=Spn.N5 bx;rw[aa,I3,S5,Nn,a8] at ek;generalize Spn.kd.Ax l2 i j=row at *;have dr:∀s∈row,0<Spn.rn s.id none (z.map Prod.snd)/\CD σ.ks (CF (f s.id) p)=0/\∀x∈CF (f s.id) p,SZ x:=λs Q=>by
  have h1:=Spn.TQ Q (Spn.N7 bx s Q);rw[aa] at h1;have h2:s.id∈((z.take j).drop i).map Prod.snd:=by grind[List.map_drop,List.map_take]
  obtain⟨q,J,e⟩:=WJ.1 h2;have en:q.1∈(d.take j).drop i:=by rw[<-bl,<-aAI,<-aAe];grind
  obtain⟨c1,c2,c3⟩:=O _ en;have:=(bs q (zF (oy J))).2 c1;grind[Spn.Q3]
 have gl:=hM.hl;have z1:=g1.size;have Y:=AB.Am oR;have eo:DY (λx=>S x/\x<W.heap.size) W1 v p:=by grind[Al.S_,Al.JW]
 obtain⟨ra,rc,ep,_⟩:=AB.AK oR;have dz:Dz rv=Dz (.slice ra row.length rc):=by rw[ep]
 rw [dz,AO];refine Aa (λvs W'=>∃ (m:Nat) (done:Y') (t':Tab V_) (f':Int->V_) (F':d_),m<=row.length/\vs=[zIq m]/\done.length=m/\
   (∀x,F' x->F x\/W1.heap.size<=x)/\K3 .f w0 F' W' a σ most (BK d) l2 (Cb d) t'/\AF (λx=>F x\/rv.ownBlock=some x) W1 W'/\
   AB W.heap.size 138 2 Gh W' rv (done++row.drop m)/\(∀(q:Nat) (s s':Spn),row[q]?=some s->done[q]?=some s'->s'.n=s.n/\f' s'.id=CF (f s.id) p)/\
   t'.AW [] f' (λx=>Spn.rn x none (z.map Prod.snd)+Spn.Cz done x)/\(∀ x,0 < Spn.rn x none (z.map Prod.snd)->f' x=f x)/\t'.AS.length<=2000000000) (λvs _=>row.length - Da vs 0)
  ⟨0,[],t,f,F,Lc _,rfl,rfl,K_,hM.S_ g1,AF.refl _ _,by simpa using oR,B_,B_,I',E⟩ ?_
 rintro vs W2 ⟨m,done,t2,f2,F2,hm,rfl,U,ak,c4,M2,o2,Z,V,c6,dT⟩ _;simp only[Bh,HK];rw[DX];have z2:=M2.size;have ax:=AB.Am o2;have a1:∀x,rv.ownBlock=some x->¬F2 x:=λx I e=>by
  have h1:=Y x I;rcases ak x e with e|e;grind;omega
 have er:DY (λx=>S x/\x < W.heap.size) W2 v p:=Al.T_ eo M2 (λx _ I e=>by
  rcases e with e | e;grind;have:=Y x e;omega) C0 C_
 have al:(done++row.drop m).length=row.length:=by rw[Bp,I3,U];omega
 obtain⟨qa,qc,e4,_⟩:=AB.AK o2;rw[al] at e4;refine Ae (λfs=>?_) λgm=>?_
 .have X:m<row.length:=E;have e5:(done++row.drop m)[m]'(E)=row[m]:=by
   rw[aAp E];simp[U]
  obtain⟨i1,i2,i3⟩:=dr row[m] (S7 X);have gd:=gdr W2;have a6:=c4.S_ gd;apply Ac (λ_ _=>False);apply AJ;rw[AE,AH];refine AP ⟨a6.box.1.cells 5 _ rfl,C_⟩ ?_;subst e4;obtain⟨p0,r0,e0,c7,gq,c8,fv⟩:=(AB.sl o2).get (i:=m) E;cases e0;have c9:r0=Spn.cells row[m]:=B_;subst c9;apply AV X;rw[AE,Addr.add_add];refine AP ⟨by have:=gd.cell (c8 1 _ rfl) F_;exact this,C_⟩ ?_;obtain⟨Ft,e6,gu,_⟩:=a6.nT;have e7:0<Spn.rn row[m].id none (z.map Prod.snd)+Spn.Cz done row[m].id:=E;obtain⟨d1,d2⟩:=V.idle (.inl e7);obtain⟨cn,ay⟩:=V.Mb e7;refine AA (aF e6 E E E) ?_;rintro v3 W3 ⟨g3,e8⟩;rw[ay] at e8;obtain⟨gv,rfl,o3⟩:=e8;have b0:f2 row[m].id=f row[m].id:=c6 _ i1;simp only[b0] at o3;refine⟨E,?_⟩;apply BD;have fx:(f row[m].id).length<=64:=by
   obtain⟨C,pl,fr,bm,hR⟩:=e6;have:=VI hR.core ay;simpa[b0] using this
  have ca:=gdr W3;have b6:=(a6.S_ g3).S_ ca;have an:=(gd.trans g3).trans ca;have gw:=an.size;apply Ac (λq y=>(q=9/\F2 y)\/(q=15/\y=p0.block));apply AJ;rw [AE,AH];refine AP ⟨b6.box.1.cells 5 _ rfl,λj hj e=>by
   rcases e with ⟨rfl,_⟩ | ⟨rfl,_⟩;exact absurd hj C0;exact absurd hj C0⟩ ?_
  refine AA (QV ((AB.sl o3).S_ ca C0 C_) (Al.S_ er an C0 C_) E) ?_;rintro nv W4 ⟨o4,g4⟩;refine ⟨g4.mono G_,?_⟩;have e9:=b6.S_ g4;have z4:=g4.size;obtain ⟨gx,av,b7,put⟩:=e9.nT;have b8:=c4.hl;have et:t2.Small 10995116277:=(V.PR av.Pw IP.ne (H:=4000000000) (λx=>by
   have h1:=Spn.Xi x none (z.map Prod.snd);rw [Nn] at h1;have h2:=Spn.VB done x;omega) E).le E
  refine AA (Zr av et (AB.sl o4) (hT.S_ e9.g) i3 (λx I=>?_) (λx I e=>?_)) ?_;have:=b8 x (b7 x I);have:=hT.size;omega;have:=b8 x (b7 x e);omega;rintro _ W5 (⟨h0,_⟩ | ⟨_,id,t5,rfl,b9,hA⟩);omega;obtain ⟨F5,f5,cc,M5⟩:=put hA;refine ⟨M5.mono λx _ I=>.inl ⟨rfl,I⟩,BD ?_⟩;obtain ⟨f',cq,ea,ba⟩:=V.Xy av.Pw b9 λcu=>⟨cu,i3,i2⟩;have fy:=V.Cl av.Pw IP.ne (M:=z.map Prod.snd++done.map λs=>s.id) (λx I=>by
   by_cases h:0 < Spn.rn x none (z.map Prod.snd);exact aAT _ (Spn.Yd h);obtain ⟨s,Q,e⟩:=aCL.1 (show 0 < Spn.Cz done x by omega);exact aAJ _ (WJ.2 ⟨s,Q,by simpa using e⟩)) (K:=2000000000) (by rw [Bp,Nn,Nn];omega) dT b9
  have ec:¬F2 p0.block:=a1 _ c7.2;have o5:=AB.T_ (R':=Gh) (AB.T_ (R':=Gh) o2 (an.trans g4) C_ E') M5 E E';apply AV X;rw[AE,Addr.add_add];rw[<-al] at o5;refine UC (k:=2) (i:=m) (j:=1) (x':=(⟨row[m].n,id⟩:Spn)) o5 E C0 rfl rfl (λ_ _ _ _ h=>h) (λ_ _ r hr=>?_) λW6 o6 m6=>?_;have h':r=_:=hr;rw[h',e5];rfl;refine⟨m6.mono E,?_⟩;rw[AQ,AL E];have z5:=M5.size;have ed:¬F5 p0.block:=λe=>by
   have:=ax _ c7.2;rcases f5 _ e with e|e;exact ec e;omega
  have cx:(done++row.drop m).set m (⟨row[m].n,id⟩:Spn)=(done++[⟨row[m].n,id⟩])++row.drop (m+1):=by
   rw[List.set_append,By E,U,aCb,y8 X,aBx,Q0];rfl
  rw[cx,al] at o6;have eu:¬σ.S p0.block:=λe=>by
   have h1:=(hM.Ho.2 _ e);omega
  have ew:w0.heap.size<=p0.block:=by have:=hM.g.size;omega
  refine⟨⟨m+1,done++[⟨row[m].n,id⟩],t5,f',F5,X,rfl,by simp[U],λx I=>?_,cc.T_ m6 λx e=>by rw[e];exact⟨ed,eu,ew⟩,?_,o6,λq s s' Q N=>?_,cq.congr λx=>?_,λx I=>?_,E⟩,by rw[DW,DW];omega⟩;rcases f5 x I with e|e;exact ak x e;omega;refine((M2.next (an.trans g4) G_).next M5 λx I e=>?_).next m6 λx I e=>?_
  rcases ak x e with e|e;exact .inl e;omega;rw[e];exact .inr c7.2;by_cases J:q<done.length;rw[u6 J] at N;obtain⟨e1,e2⟩:=Z q s s' Q N;refine⟨e1,?_⟩;rw[ba,e2];have:=Spn.U2 (aAk N);omega;rw[nm E] at N;have ez:q-done.length=0:=by
   have:=(Ad.1 N).1;simpa using this
  rw[ez] at N;cases N;have eA:q=m:=E;subst eA;rw[Hc X] at Q;cases Q;exact⟨rfl,ea⟩;rw[Spn.Cz,Spn.Cz,List.countP_append,List.countP_cons,List.countP_nil];by_cases e:x=id;rw[Ix e,Ix (by simp[e])];omega;rw[By e,By (by simp[aC4 e])];omega;rw[ba x E,c6 x I]
 obtain rfl:m=row.length:=E;rw[aAv,aO] at o2 al;obtain⟨r1,r2⟩:=dQ (P:=λx y=>f2 y=CF (f x) p) U Z;have ee:(row.flatMap Spn.u).length=j-i:=by rw[aa,I3,S5,Nn,a8];omega
 have da:∀s∈done,0<s.n:=λs Q=>by
  obtain⟨q,J,e⟩:=aA2.1 Q;obtain⟨e1,_⟩:=Z q row[q] s (Hc E) (by rw[Hc J,e]);rw[e1];exact Spn.N7 bx _ (S7 _)
 refine AA (PK (f:=f2) (ex:=(Spn.Cz done)) (row:=done) (i:=i) (j:=j) c4 bp (V.congr B_) a7 E (AB.sl o2) (λx I e=>a1 x I.2 e) (λs Q=>⟨da s Q,.inl (Spn.U2 Q)⟩) E E (λx=>by have:=Spn.VB done x;omega) E) ?_;rintro _ W5 ⟨rfl,t5,⟨F5,f5,cc,M5⟩,cq,eB⟩;have ef:((Spn.kd.CV l2 i j done).flatMap Spn.u)=(z.map Prod.snd).take i++done.flatMap Spn.u++(z.map Prod.snd).drop j:=by rw[Spn.FV.CV l2 _ a7,hu]
 have eC:=r9 List.length ef;simp only[Bp,S5,I3,Nn] at eC;have o5:=AB.T_ (R':=Gh) o2 M5 E E';have eH:(row.length:Int)=(done.length:Int):=by rw[U]
 rw [AO,eH];refine PD (P:=λm t=>t.AW [] f2 (λx=>(Spn.rn x none ((Spn.kd.CV l2 i j done).flatMap Spn.u)+Spn.Cz done x) - Spn.Cz (done.take m) x)/\t.AS.length=_) Og (AB.sl o5) (λx I e=>by
   rcases f5 x e with e | e;exact a1 x I.2 e;have:=ax x I.2;omega) E
  (T7 (h:=λx=>Spn.rn x none ((Spn.kd.CV l2 i j done).flatMap Spn.u)+Spn.Cz done x) (M:=t2.AS.length) E E (λx=>by have:=Spn.Xi x none ((Spn.kd.CV l2 i j done).flatMap Spn.u);have:=Spn.VB done x;omega) σ.ks) cc ⟨cq.congr λx=>by simp[Spn.Cz],eB⟩ ?_
 rintro W6 t6 ⟨F6,f6,h6,M6⟩ ⟨eh,gy⟩;rw[WL] at eh;have eI:AF F W W2:=by
  refine(g1.mono G_).next M2 λx I e=>?_
  rcases e with e|e;exact e;have:=Y x e;omega
 have eL:=Et.next (W:=W) (F:=F) (λx I=>(ak x I).imp F_ E) eI (Et.next f5 M5 ⟨F6,f6,h6,M6⟩);obtain⟨F',w1,w2,w3⟩:=eL
 let zm:=(z.take j).drop i
 have eN:zm.length=(done.flatMap Spn.u).length:=by
  show((z.take j).drop i).length=_;rw[I3,S5,r1,ee,a8];omega
 obtain⟨y1,y2,y3⟩:=AAf (λq:Cel×Int=>(⟨q.1.r,CF q.1.set p⟩:Cel)) zm (done.flatMap Spn.u) eN;have bb:zm.map Prod.fst=(d.take j).drop i:=by
  show((z.take j).drop i).map Prod.fst=_;rw[aAe,aAI,bl]
 have eR:zm.map (λq:Cel×Int=>(⟨q.1.r,CF q.1.set p⟩:Cel))=((d.take j).drop i).map (λc=>(⟨c.r,CF c.set p⟩:Cel)):=by
  rw[<-bb,aBR];rfl
 have e3:(z.take i++zm.zipWith (λq y=>((⟨q.1.r,CF q.1.set p⟩:Cel),y)) (done.flatMap Spn.u)++z.drop j).map Prod.snd=(Spn.kd.CV l2 i j done).flatMap Spn.u:=by
  rw[ef,u7,u7,aAI,aAe,y2]
 have bk:d=d.take i++(d.take j).drop i++d.drop j:=by
  have h1:=(Nr i (d.take j)).symm;rw[aBI,aAD a7] at h1;rw[<-h1,Nr]
 refine⟨trivial,F',w1,⟨z.take i++zm.zipWith (λq y=>((⟨q.1.r,CF q.1.set p⟩:Cel),y)) (done.flatMap Spn.u)++z.drop j,_,t6,f2,?_,?_,Spn.Lr i j done bp,e3.symm,eh.congr λx=>?_,λq J=>?_,E⟩,w3⟩;rw[u7,u7,aAI,aAe,y1,eR,bl];have e1:BK (d.take i++((d.take j).drop i).map (λc=>(⟨c.r,CF c.set p⟩:Cel))++d.drop j)=BK d:=by
  conv=>rhs;rw[bk]
  simp only[BK,u7,aBR];rfl
 have e2:Cb (d.take i++((d.take j).drop i).map (λc=>(⟨c.r,CF c.set p⟩:Cel))++d.drop j)=Cb d:=by
  conv=>rhs;rw[bk]
  rw[E2,E2,E2,E2];have n1:Cb ((d.take j).drop i)=[]:=by
   unfold Cb;rw[List.map_eq_nil_iff,aBY];intro c hc;simpa using(O c hc).1
  have n2:Cb (((d.take j).drop i).map (λc=>(⟨c.r,CF c.set p⟩:Cel)))=[]:=by
   unfold Cb;rw[List.map_eq_nil_iff,aBY];intro c hc;obtain⟨c',eX,rfl⟩:=WJ.1 hc;simpa using(O c' eX).1
  rw[n1,n2]
 rw[e1,e2];exact w2;rw[e3];omega;have JW:∀q∈z,(q.1.r=10->q.2=0)/\(q.1.r≠10->f2 q.2=q.1.set):=λq J=>by
  obtain⟨o1,o2⟩:=bs q J;exact⟨o1,λcu=>by rw[c6 q.2 (Spn.Q3 (WJ.2 ⟨q,J,rfl⟩) E_),o2 cu]⟩
 rcases K8.1 J with J|J;rcases K8.1 J with J|J;exact JW q (zF J);obtain⟨kk,q0,y,ha,hb,rfl⟩:=y3 q J;have ej:q0∈zm:=aAk ha;have c8:q0.1∈(d.take j).drop i:=by rw[<-bb];exact WJ.2 ⟨q0,ej,rfl⟩
 obtain⟨c1,_⟩:=O _ c8;have fa:q0∈z:=zF (oy ej);refine⟨λe=>absurd e c1,λ_=>?_⟩;have I:(row.flatMap Spn.u)[kk]?=some q0.2:=by
  rw[aa,<-aAI,<-aAe,aAM,ha];rfl
 have:=r2 kk q0.2 y I hb;rw[this,(bs q0 fa).2 c1];exact JW q (oy J)
end
def Dw(ks:X')(s:V_):Prop:=E3 ks s/\∀x∈s,SZ x
def Kw(ks:X')(p:W_):Prop:=EX ks p/\∀c∈p,SZ ⟨c.key,c.val⟩
theorem Dw.nil:Dw ks []:=⟨Im,λx j=>nomatch j⟩
theorem Kw.nil:Kw ks []:=⟨Io,λx j=>nomatch j⟩
theorem Dw.len(h:Dw ks s):s.length<=64:=h.1.2.1
def Dw.part(h:Dw ks s)(b:Bool):Dw ks (EM ks b s):=⟨⟨aCD _ h.1.1,py (aBB _ _) h.1.2.1,λx j=>h.1.2.2 x (aAb.1 j).1⟩,λx j=>h.2 x (aAb.1 j).1⟩
def Kw.part{p:W_}(h:Kw ks p)(b:Bool):Kw ks (Cg ks b p):=⟨⟨aCD _ h.1.1,py (aBB _ _) h.1.2.1,λx j=>h.1.2.2 x (aAb.1 j).1⟩,λx j=>h.2 x (aAb.1 j).1⟩
def Dw.K4(j:ks.length<=64){p:W_}(h:Dw ks s)(hp:Kw ks p):Dw ks (CF s p):=by
 refine⟨XO j h.1 hp.1.1 λc hc J=>(hp.1.2.2 c hc).2.1 J,λx I=>?_⟩;rcases KA I with I|⟨c,hc,_,rfl⟩;exact h.2 x I;exact hp.2 c hc
def CJ(ks:X')(p:W_)(c:Cel):Cel:=⟨c.r,IZ ks c.set p c.r⟩
def Sf(d:Y_)(i j:Nat)(g:Cel->Cel):Y_:=d.take i++((d.take j).drop i).map g++d.drop j
theorem Us(d:Y_){i j:Nat}(g:Cel->Cel)(I:i<=j)(N:j<=d.length)(k:Nat):(Sf d i j g)[k]?=if i<=k/\k<j then d[k]?.map g else d[k]?:=by
 unfold Sf;have l1:(d.take i).length=i:=B_;have l2:(((d.take j).drop i).map g).length=j-i:=B_;by_cases h1:k<i;grind;by_cases J:k<j;rw[Ix ⟨E,J⟩,u6 B_,nm E,l1,aAM,so,aAr,Ix E,show i+(k-i)=k by omega];rw[By E,nm B_,Bp,l1,l2,so,show j+(k-(i+(j-i)))=k by omega]
def Zj(d:Y_){i j:Nat}(I:i<=j):d=d.take i++(d.take j).drop i++d.drop j:=by
 grind[List.take_append_drop]
def iz(d:Y_){i j:Nat}(g:Cel->Cel)(I:i<=j)(J:∀c,(g c).r=c.r):BK (Sf d i j g)=BK d:=by
 conv=>rhs;rw[Zj d I]
 grind[Sf,List.map_congr_left]
def mS(d:Y_){i j:Nat}(g:Cel->Cel)(I:i<=j)(J:∀c∈(d.take j).drop i,g c=c):Sf d i j g=d:=by
 conv=>rhs;rw[Zj d I]
 unfold Sf;rw[aBk (g:=id) J,aDV]
def pA{b:V'}(h:(10:Int)∈b):∃q,Iw b 0=some q/\b[q]?=some 10/\∀k,k<q->b[k]?≠some 10:=by
 induction b with
 |nil=>cases h
 |cons r b j=>
  rw[Ji];by_cases e:r=10;rw[Ix e];grind;rw[By e];obtain⟨q,h1,I,J⟩:=j ((S6.1 h).resolve_left λh=>e h.symm);refine⟨q+1,B_,by simpa using I,λk hk=>?_⟩;grind
def qz{p:Nat}(hp:p<rs.length)(hl:rs.getLast?=some 10):∃q,Iw rs (CX (rs.take p))=some q/\p<=q/\q<rs.length/\rs[q]?=some 10/\(∀k,p<=k->k<q->rs[k]?≠some 10)/\CX (rs.take p)+1<=CX rs/\CX (rs.take (q+1))=CX (rs.take p)+1:=by
 have U:rs.drop p≠[]:=by grind[List.length_drop]
 have hm:(10:Int)∈rs.drop p:=by
  grind[List.getLast?_drop]
 obtain⟨q,h1,J,O⟩:=pA hm;have lt:(rs.take p).length=p:=B_;have e:=Qq (rs.take p) (rs.drop p) (CX (rs.take p));rw[Nr,By E,aCb,h1,lt] at e;rw[so] at J;have V:=(Ad.1 J).1;have X:CX rs=CX (rs.take p)+CX (rs.drop p):=by rw[<-MS,Nr]
 have N:0<CX (rs.drop p):=List.count_pos_iff.2 hm;have j:∀k,p<=k->k<q+p->rs[k]?≠some 10:=λk a b=>by
  have:=O (k-p) E;rw[so,show p+(k-p)=k by omega] at this;exact this
 refine⟨q+p,e,E,E,B_,j,E,?_⟩;have Y:rs.take (q+p+1)=rs.take p++((rs.take (q+p)).drop p++[10]):=by
  have Z:=(Nr p (rs.take (q+p))).symm;grind[List.take_add_one]
 have e3:CX ((rs.take (q+p)).drop p)=0:=by
  refine List.count_eq_zero.2 λI=>?_;obtain⟨k,hk,e⟩:=aA2.1 I;have Q:k<q:=by grind[List.length_take]
  refine j (p+k) E E ?_;grind
 grind
def fi(d:Y_)(g:Cel->Cel){g':V_->V_}(j:∀c,(g c).r=c.r)(h:∀c,c.r=10->(g c).set=g' c.set):Cb (d.map g)=(Cb d).map g':=by
 induction d<;>grind[Cb]
def mC(d:Y_){i j:Nat}(I:i<=j)(g:Cel->Cel){g':V_->V_}(J:∀c,(g c).r=c.r)(h:∀c,c.r=10->(g c).set=g' c.set) : Cb (Sf d i j g)=(Cb d).take (CX ((BK d).take i))++(((Cb d).take (CX ((BK d).take j))).drop (CX ((BK d).take i))).map g'++(Cb d).drop (CX ((BK d).take j)):=by
 unfold Sf;rw[E2,E2,(Ek d i).1,(Ek d j).2,fi _ g J h,(Ek (d.take j) i).2,(Ek d j).1,show BK (d.take j)=(BK d).take j from aAI,aBI,aAD I]
structure Ig (ks:X') (d:Y_):Prop where
 set:∀c∈d,Dw ks c.set
 LW:(BK d).getLast?=some 10
def KB.S_{k:TxK}{a:TxA}{σ:SKs}(h:KB k w0 F W a σ most d)(g:AG W W'):KB k w0 F W' a σ most d:=by
 obtain⟨z,l2,t,f,h1,j,I⟩:=h;exact⟨z,l2,t,f,h1,j.S_ g,I⟩
def KB.T_{k:TxK}{a:TxA}{σ:SKs}(h:KB k w0 F W a σ most d)(hm:AF M W W')(j:∀x,M x->¬F x/\¬σ.S x/\w0.heap.size<=x):KB k w0 F W' a σ most d:=by
 obtain⟨z,l2,t,f,h1,I,J⟩:=h;exact⟨z,l2,t,f,h1,I.T_ hm j,J⟩
def KB.hl{k:TxK}{a:TxA}{σ:SKs}(h:KB k w0 F W a σ most d):∀x,F x->w0.heap.size<=x/\x<W.heap.size/\¬σ.S x:=by
 obtain⟨z,l2,t,f,h1,j,I⟩:=h;exact j.hl
def KB.box{k:TxK}{a:TxA}{σ:SKs}(h:KB k w0 F W a σ most d):Bx W a.b (nP σ.sv most a.r a.s a.p a.t)/\F a.b:=by
 obtain⟨z,l2,t,f,h1,j,I⟩:=h;exact j.box
def KB.Ho{k:TxK}{a:TxA}{σ:SKs}(h:KB k w0 F W a σ most d):CG σ.S W σ.sv σ.ks/\∀x,σ.S x->x<W.heap.size:=by
 obtain⟨z,l2,t,f,h1,j,I⟩:=h;exact j.Ho
def KB.g{k:TxK}{a:TxA}{σ:SKs}(h:KB k w0 F W a σ most d):AG w0 W:=by
 obtain⟨z,l2,t,f,h1,j,I⟩:=h;exact j.g
def KB.MV{a:TxA}{σ:SKs}(h:KB .f w0 F W a σ most d):∃l1 Fr bt,CM l1=BK d/\Ep BH.toAvT Fr JB W a.r bt l1:=by
 obtain⟨z,l2,t,f,h1,j,I⟩:=h;grind[K3.aC]
def VX.next{k:TxK}{W j W':c_}{a:TxA}{σ:SKs}(hF:∀x,S x->F x\/W.heap.size<=x)(hm:AF F W j)(h:VX k w0 S j W' a σ most d):VX k w0 F W W' a σ most d:=by
 obtain⟨I,h1,J,N⟩:=h;have z:=hm.size;refine⟨I,λx O=>?_,J,hm.next N λx O e=>?_⟩;grind;grind
def VX.step{k:TxK}{W j W':c_}{a:TxA}{σ:SKs}(g:AG W j)(h:VX k w0 F j W' a σ most d):VX k w0 F W W' a σ most d:=VX.next K_ (g.mono G_) h
def Kv(ks:X')(p:W_)(c:Cel):Cel:=if c.r=10 then⟨10,CF c.set (Cg ks true p)⟩ else c
theorem Yp(ks:X')(p:W_)(c:Cel):(Kv ks p c).r=c.r:=by grind[Kv]
def NB(ks:X')(p:W_)(d:Y_)(i j m:Nat):Y_:=d.mapIdx λk c=>if i<=k/\k<m then CJ ks p c else if i<=k/\k<j then Kv ks p c else c
theorem HP(ks:X')(p:W_)(d:Y_)(i j m k:Nat):(NB ks p d i j m)[k]?=d[k]?.map λc=>if i<=k/\k<m then CJ ks p c else if i<=k/\k<j then Kv ks p c else c:=by
 rw[NB,List.getElem?_mapIdx]
def WV(ks:X')(p:W_)(d:Y_)(i j m:Nat):(NB ks p d i j m).length=d.length:=List.length_mapIdx
def Tj(ks:X')(p:W_)(d:Y_){i j:Nat}(I:i<=j)(J:j<=d.length):NB ks p d i j i=Sf d i j (Kv ks p):=by
 refine aAo λk=>?_;rw[HP,Us d _ I J];grind
theorem Tv(ks:X')(p:W_)(d:Y_){i j:Nat}(I:i<=j)(J:j<=d.length):NB ks p d i j j=Sf d i j (CJ ks p):=by
 refine aAo λk=>?_;grind[HP,Us]
def nh(ks:X')(p:W_)(d:Y_)(i j m:Nat):BK (NB ks p d i j m)=BK d:=by
 refine aAo λk=>?_;rw[BK,BK,aAM,aAM,HP,Option.map_map];congr 1;funext c;show Cel.r (ite _ _ _)=c.r;split;rfl;grind[Yp]
def du{p:W_}{i j m q:Nat}(J:i<=m)(N:m<=j)(Y:j<=d.length)(O:m<=q)(Z:(BK d)[q]?=some 10)(Q:∀k,m<=k->k<q->(BK d)[k]?≠some 10) : Sf (NB ks p d i j m) m (min q j) (λc=>⟨c.r,CF c.set (Cg ks false p)⟩)=NB ks p d i j (min (q+1) j):=by
 have hr:∀k,(BK d)[k]?=d[k]?.map Cel.r:=λk=>aAM;refine aAo λk=>?_;rw[Us _ _ E (by rw[WV];omega),HP,HP];cases U:d[k]? with
 |none=>simp
 |some c=>
  simp[aAa];have I:=hr k;rw[U,aAa] at I;by_cases h1:m<=k/\k<min q j;grind[Kv,CJ,IZ];rw[By h1];by_cases V:i<=k/\k<m;grind;rw[By V];by_cases h3:i<=k/\k<min (q+1) j;have X:k=q:=E;grind[Kv,CJ,IZ];grind
section
variable {w0:c_}{F:d_}{W:c_}{a:TxA}{σ:SKs}{most:Int}{d:Y_}
def mM{i j:Nat}{p:W_}(h:KB .f w0 F W a σ most d)(hT:CH w0)(hG:Ig σ.ks d)(b8:σ.ks.length<=64)(I:i<=j)(hj:j<=d.length)(hp:DY S W v p)(e8:∀x,S x->¬F x)(a1:Kw σ.ks p) (hz:d.length<=536870912) : l_ 86 [e_ a.b,zIq (i:Int),zIq (j:Int),v] (λv' w'=>v'=.tuple #[]/\VX .f w0 F W w' a σ most (Sf d i j (CJ σ.ks p)) ) W:=by
 have aa:(BK d).length=d.length:=Nn _;have b9:=a1.1.2.1;refine N_ func86 ?_ (.cut [] [(8,8),(14,34)] (.y (.y (.x (.dm [6,9,11] [0,1,3,7,0,0,48,0,0,496,0,2047])))) (.y (.y (.node [10] [(10,13),(42,74)] (.cut [] [(42,49)] .nil (.x (.dc [6,8] (i_ [0,1,3,7,0,0,48,112,255,511,1023,1023,2047,8191]) [[6]]))) .nil))));refine AT (λ_ W1=>VX .f w0 F W W1 a σ most (NB σ.ks p d i j i) ) ?_ ?_
 .rintro _ W1 ⟨F1,f1,h1,M1⟩ _;have ba:=Al.T_ (hp.JW C0) M1 B_ C0 C_;apply nfl_i (h1.box.1.cells 0 _ rfl);refine AA (Jt (b:=false) h1.Ho.1 ba E) ?_;rintro iv W2 ⟨bb,g2⟩;have h2:=h1.S_ g2;have e3:=h1.hl;have X:=bb.JW C0;obtain⟨va,vc,bk,_⟩:=X.AK;have N:Dz iv=Dz (.slice va (Cg σ.ks false p).length vc):=by rw[bk]
  have M2:AF F W W2:=by grind[AF.next]
  have Y:=a1.part false;have bl:∀x,F1 x->F x\/W.heap.size<=x:=f1;refine Aa (λvs W'=>∃m F',i<=m/\m<=d.length/\vs=[zIq (m:Int)]/\(∀x,F' x->F1 x\/W2.heap.size<=x)/\KB .f w0 F' W' a σ most (NB σ.ks p d i j (min m j)) /\AF F1 W2 W'/\(m<=j\/True)) (λvs _=>d.length+1-Da vs 0)
   ⟨i,F1,DN _,E,rfl,K_,B_,AF.refl _ _,.inr trivial⟩ ?_
  rintro vs W3 ⟨m,F3,bs,e9,rfl,f3,Z,M3,_⟩ _;simp only[Bh,HK];have z3:=M3.size;have HA:min m j=j\/Cg σ.ks false p=[]->VX .f w0 F W W3 a σ most (Sf d i j (CJ σ.ks p)) :=λe=>by
   have ed:NB σ.ks p d i j (min m j)=Sf d i j (CJ σ.ks p):=by
    rcases e with e|e;grind[Tv];rw[<-Tv _ _ _ I hj];refine aAo λk=>?_;rw[HP,HP];congr 1;funext c;have ea:Kv σ.ks p c=CJ σ.ks p c:=by
     unfold Kv CJ IZ;by_cases hc:c.r=10;grind;rw[By hc,zk hc,e];rfl
    grind
   rw[ed] at Z;exact VX.next bl M2 (⟨F3,f3,Z,M3⟩)
  refine AT (λ_ W'=>W'=W3/\m<j) ?_ ?_;rotate_left;rw[N,AO];refine gtP (λbx=>?_) λc4=>?_;refine Cn B_ B_;exact⟨trivial,HA (.inr (Of E))⟩;rintro _ _ ⟨rfl,ec⟩ _;rename c_=>W3;have ak:min m j=m:=E;rw[ak] at Z;generalize hD:NB σ.ks p d i j m=D at Z;have ee:D.length=d.length:=by rw[<-hD,WV]
  have al:BK D=BK d:=by rw[<-hD,nh]
  have gd:=gdr W3;have a6:=Z.S_ gd;obtain⟨l1,Fr,bt,O,hO⟩:=a6.MV;have c6:(CM l1).length=d.length:=B_;obtain⟨q,n1,n2,n3,n4,n5,n6,n7⟩:=qz (rs:=BK d) (p:=m) E hG.LW;apply Ac (λ_ _=>False);apply AJ;rw[AE,AH];refine AP ⟨a6.box.1.cells 2 _ rfl,C_⟩ ?_;refine AA (KC a6.box.1 hO (i:=m) E E) ?_;rintro _ W4 ⟨rfl,g4⟩;refine⟨E,?_⟩;have e4:=Em (BK d);rw[O,al,AQ,wrap64 E E,show((CX ((BK d).take m):Int)+1)=((CX ((BK d).take m)+1:Nat):Int) by omega];refine AA (Pq (hO.S_ g4) (k:=CX ((BK d).take m)+1) E) ?_;rintro _ W5 ⟨rfl,g5⟩;refine⟨E,?_⟩;have an:QF (CM l1) (CX ((BK d).take m)+1)=.tuple #[zIq ((q+1:Nat):Int),zIq 0]:=by
   rw[O,al];unfold QF;grind
  rw [an];apply BD;have c7:(if (j:Int) < ((q+1:Nat):Int) - 1 then (j:Int) else ((q+1:Nat):Int) - 1)=((min q j:Nat):Int):=E;rw [A6,wrap64 E E,Hh,c7,DX];have Q:=(gd.trans g4).trans g5;have ef:=Q.size;have step:=du (ks:=σ.ks) (p:=p) bs E hj n2 n4 n5;have c8:min (q+1) j=(if q < j then q+1 else j):=B_;refine Ae (λe5=>?_) λeh=>?_;have c9:=Al.S_ (Al.T_ X M3 B_ C0 C_) Q C0 C_;refine AA (ZU (i:=m) (j:=min q j) (Z.S_ Q) hT E E c9 (λx J e=>by
    rcases f3 x e with e | e;grind;omega) Y.1.2.1 (λc hc=>?_) E) ?_
  obtain⟨k,hk⟩:=aAB.1 hc;have ca:=(Ad.1 hk).1;rw[I3,S5] at ca;rw[so,aAr,Ix E,<-hD,HP] at hk;cases a7:d[m+k]? with
  |none=>grind
  |some c0=>
   rw[a7,aAa,By E,Ix E] at hk;have av:c0.r≠10:=λe=>n5 (m+k) E E (by rw[BK,aAM,a7,aAa,e]);have cc:c=c0:=by have:=aAO hk;rw[<-this,Kv,By av]
   subst cc;have hs:=(hG.set c (aAk a7)).K4 b8 Y;exact⟨av,FC.2 hs.1,hs.2⟩
  rintro _ W6 ⟨rfl,F6,f6,h6,M6⟩;have e6:D.take m++((D.take (min q j)).drop m).map (λc=>(⟨c.r,CF c.set (Cg σ.ks false p)⟩:Cel))++D.drop (min q j)=NB σ.ks p d i j (min (q+1) j):=by rw[<-hD];exact step
  rw[e6] at h6;refine⟨⟨q+1,F6,E,E,rfl,λx J=>?_,h6,?_,.inr trivial⟩,by rw[DW,DW];omega⟩;grind;refine(M3.next Q G_).next M6 λx J e=>?_
  rcases f3 x e with e|e;exact e;omega;have cq:q=m:=E;have e6:D=NB σ.ks p d i j (min (q+1) j):=by
   rw[<-step,cq,aAD E,hD];refine(mS _ _ (DN _) λc hc=>?_).symm;simp at hc
  rw[e6] at Z;refine⟨⟨q+1,F3,E,E,rfl,f3,Z.S_ Q,(by grind[AF.next]),.inr trivial⟩,by rw[DW,DW];omega⟩
 .apply nfl_i (h.box.1.cells 0 _ rfl);refine AA (Jt (b:=true) h.Ho.1 hp E) ?_;rintro bv W1 ⟨ax,g1⟩;have h1:=h.S_ g1;have cu:=a1.part true;obtain⟨va,vc,cx,_⟩:=ax.AK;have N:Dz bv=Dz (.slice va (Cg σ.ks true p).length vc):=by rw[cx]
  rw[N,AO];refine gtP (λbx=>?_) λc4=>?_;rotate_left;have e0:Cg σ.ks true p=[]:=Of E;have ed:NB σ.ks p d i j i=d:=by
   rw[Tj _ _ _ I hj];refine mS d _ I λc hc=>?_;unfold Kv;rw[e0];split;rename_i ay;rw[<-ay];rfl;rfl
  rw[ed];exact⟨F,K_,h1,g1.mono G_⟩;have gd:=gdr W1;have U:=h1.S_ gd;obtain⟨l1,Fr,bt,O,hO⟩:=U.MV;have c6:(CM l1).length=d.length:=by rw[O,aa]
  apply Ac (λq y=>q=11/\F y);apply AJ;rw [AE,AH];refine AP ⟨U.box.1.cells 4 _ rfl,λj hj e=>by obtain ⟨rfl,_⟩:=e;exact absurd hj C0⟩ ?_;refine AA (KC U.box.1 hO (i:=i) E E) ?_;rintro _ W2 ⟨rfl,g2⟩;refine ⟨B_,?_⟩;have h2:=U.S_ g2;refine AA (KC h2.box.1 (hO.S_ g2) (i:=j) E E) ?_;rintro _ W3 ⟨rfl,g3⟩;refine ⟨B_,?_⟩;have b0:=(gd.trans g2).trans g3;obtain ⟨z,l2,t,f,ej,hM,da,hu,hh,a8,b9⟩:=(h2.S_ g3);obtain ⟨Fp,Cp,bp,dk,ek,put⟩:=hM.aI;rw [O];have dr:CX ((BK d).take i)<=CX ((BK d).take j):=aBC _ (by
   rw [<-aAD I,<-aBI];grind)
  have en:CX ((BK d).take j)<=CX (BK d):=aBC _ (aCa _ _);have eo:=Em (BK d);have dz:∀x∈Cb d,x.length<=64:=λx J=>by
   obtain⟨c,hc,rfl⟩:=WJ.1 J;exact(hG.set c (aAb.1 hc).1).len
  have dT:=Al.S_ ax b0 C0 C_;have e7:=cu.1.2.1;refine AA (mh dk dr (by grind[FA]) (by rw [FA];omega) B_ dT (λx J=>by have:=dz x J;omega)) ?_;rintro _ W4 ⟨rfl,ep,er,_,_,k3,k4,k5,m4⟩;obtain ⟨F4,f4,b6,M4⟩:=put m4 (λx J=>by
   rcases J with J | J;exact (k3 x J).imp .inl F_;exact (k4 x J).imp .inr F_) k5
  refine⟨B_,?_⟩;rw[<-(mC d I (Kv σ.ks p) (g':=λx=>CF x (Cg σ.ks true p)) (Yp σ.ks p) (by grind[Kv]))] at b6;have b7:=iz d (Kv σ.ks p) I (Yp σ.ks p);rw[Tj _ _ _ I hj];refine VX.step (g1.trans b0) ⟨F4,f4,⟨z.take i++((z.take j).drop i).map (λq=>(Kv σ.ks p q.1,q.2))++z.drop j,l2,t,f,?_,?_,da,?_,hh.congr λx=>?_,λq V=>?_,E⟩,M4⟩;grind[Sf,List.map_take,List.map_drop,Function.comp_def];rw[b7];exact b6;have e1:(z.take i++((z.take j).drop i).map (λq:Cel×Int=>(Kv σ.ks p q.1,q.2))++z.drop j).map Prod.snd=z.map Prod.snd:=by
   have h1:=(Nr i (z.take j)).symm;rw[aBI,aAD I] at h1;conv=>rhs;rw[<-Nr j z,h1]
   simp only[u7,aBR];rfl
  rw[e1,hu];have e1:(z.take i++((z.take j).drop i).map (λq:Cel×Int=>(Kv σ.ks p q.1,q.2))++z.drop j).map Prod.snd=z.map Prod.snd:=by
   have h1:=(Nr i (z.take j)).symm;rw[aBI,aAD I] at h1;conv=>rhs;rw[<-Nr j z,h1]
   simp only[u7,aBR];rfl
  rw[e1];rcases K8.1 V with V|V;rcases K8.1 V with V|V;exact a8 q (zF V);obtain⟨q0,e2,rfl⟩:=WJ.1 V;obtain⟨o1,o2⟩:=a8 q0 (zF (oy e2));grind[Kv];exact a8 q (oy V)
end
theorem cy{r:Int}:l_ 366 [.int .i32 r] (λv' w'=>v'=.bool (decide (DZ r))/\w'=w) w:=by
 refine I_ func366 ?_;grind[S366,DZ,Py,Ae,DX]
def XA{r:Int}:l_ 321 [.int .i32 r] (λv' w'=>v'=.bool (decide (DZ r))/\w'=w) w:=by
 refine I_ func321 ?_;grind[S321,cy]
def dR{l:V'}(h:LQ S w v l) : l_ 279 [v,.func (.func 360) #[] #[]] (λv' w'=>v'=.bool (!decide (∀r∈l,DZ r))/\w'=w) w:=by
 refine H_ func279 ?_;refine AA (K:=λv' w'=>w'=w/\((v'=zIq (-1)/\∀r∈l,DZ r)\/∃i:Nat,v'=zIq i/\¬∀r∈l,DZ r)) ?_ ?_;refine H_ func344 ?_ (.y (.x (.y (.node [8] [(4,5),(8,18)] .nil .nil))));obtain⟨a,c,rfl,hm⟩:=h.AK;simp[maxLen] at hm;rw[AO];refine Aa (λvs W=>∃i:Nat,i<=l.length/\vs=[zIq i]/\W=w/\∀c∈l.take i,DZ c) (λvs _=>l.length-Da vs 0) ⟨0,Lc _,rfl,rfl,E_⟩ ?_;rintro vs _ ⟨i,hi,rfl,rfl,I⟩ _;rw[Bh,HK];refine Cn (λN=>?_) λO=>?_;have j:i<l.length:=E;obtain⟨q,r,rfl,_,hr,hc,rfl⟩:=h.get j;refine AV j (AI (by have:=hc 0 _ rfl;exact this) ?_);apply Ee D_;refine I_ func360 ?_;apply AA XA;rintro _ _ ⟨rfl,rfl⟩;rw[Aj];by_cases J:DZ l[i];rw[ys J];apply AM;rw[AQ,AL E];refine⟨⟨i+1,j,rfl,rfl,λc hc=>?_⟩,by grind[DW]⟩;grind[List.take_add_one];rw[zk J];exact Ab B_;have:i=l.length:=E;grind;rintro _ _ ⟨rfl,⟨rfl,I⟩|⟨i,rfl,Q⟩⟩;rw[JP];exact B_;rw[JP];exact(by grind[decide_eq_false])
def PV(o:Dop):Prop:=(o.AR=1/\o.AZ=[]/\o.set=[])\/(o.AR=3/\o.AZ=[]/\o.set=[]/\o.AU=[])\/(o.AR=2/\o.n=0/\o.AU=[]/\∀r∈o.AZ,DZ r)
instance (o:Dop):Decidable (PV o):=by unfold PV;infer_instance
theorem ML(o:Dop):HQ o↔PV o/\1<=RP o/\RP o<=536870912:=by
 grind[HQ,PV,RP]
def fj{D:d_}{r:U_}{o:Dop}(h:B0 D w r o) : l_ 299 [.agg r.toArray] (λv w'=>v=.bool (decide (PV o))/\AG w w') w:=by
 refine I_ func299 ?_ (.y (.cut [3] [(3,13)] .nil .nil));have N:=h.one;obtain⟨rv,sv,X,rfl,h1,O,Q⟩:=h;refine CN λb I _ Y g hc _=>?_;have j:=h1.S_ g C0 C_;obtain⟨Z,c1,rfl,m1⟩:=h1.AK;obtain⟨a2,c2,rfl,m2⟩:=O.AK;obtain⟨a3,c3,rfl,m3⟩:=Q.AK;have key:∀{x:Bool},(x=true↔PV o)->Value.bool x=.bool (decide (PV o))/\AG w I:=B_;unfold PV at key ⊢;refine AT (λvs V=>V=I/\vs=[.bool (decide (¬(o.AZ=[]/\o.set=[])))]) ?_ ?_;rotate_left;rw[AE];apply AI (hc 2 _ rfl);rw[AO];refine gtP (λe=>?_) λe=>?_;refine⟨rfl,?_⟩;rw[ys];grind;have e1:o.AZ=[]:=Of E;rw[AE];apply AI (hc 3 _ rfl);rw[AO,Hj];refine⟨rfl,?_⟩;grind[List.length_pos_iff];rintro _ _ ⟨rfl,rfl⟩ _;rw[Bh,HK,AE];apply AI (hc 0 _ rfl);refine eqP (λk1=>?_) λk1=>?_;rw[Aj];apply key;grind;refine eqP (λU=>?_) λU=>?_;rw[Aj];by_cases J:o.AZ=[]/\o.set=[];rw[show(!decide ¬(o.AZ=[]/\o.set=[]))=true by simp[J]];apply Ab;rw[AE];apply AI (hc 4 _ rfl);rw[AO,CI];apply key;grind;rw[show(!decide ¬(o.AZ=[]/\o.set=[]))=false by simp[J]];refine AM (key ?_);grind;refine eqP (λk2=>?_) B_;rw[AE];apply AI (hc 1 _ rfl);refine eqP (λhn=>?_) B_;rw[AE];apply AI (hc 4 _ rfl);rw[AO];refine eqP (λhp=>?_) B_;rw[vo] at hp;rw[AE];apply AI (hc 2 _ rfl);apply AA (dR j);rintro _ _ ⟨rfl,rfl⟩;rw[Aj,aDh];apply key;grind
def RI{D:d_}{r:U_}{o:Dop}(h:B0 D w r o) : l_ 248 [.agg r.toArray] (λv w'=>v=zIq (RP o)/\AG w w') w:=by
 refine I_ func248 ?_;obtain⟨V,sv,j,rfl,h1,I,J⟩:=h;obtain⟨N,c1,rfl,O⟩:=h1.AK;refine CN λb Q _ U g hc _=>?_;rw[AE];apply AI (hc 0 _ rfl);refine eqP (λk1=>?_) λk1=>?_;rw[AE];apply AI (hc 2 _ rfl);rw[AO];exact(by grind[RP]);rw[AE];apply AI (hc 1 _ rfl);exact(by grind[RP])
def MD{S D:d_}{x:U'}(h:Ag S D w v x) : l_ 152 [v] (λv' w'=>v'=zIq (EF CU x)/\AG w w') w:=by
 refine I_ func152 ?_ (.y (.y (.x (.y (.node [3,8] [(3,3),(5,5),(8,19)] .nil .nil)))));obtain⟨a,c,rfl,hm⟩:=h.AK;simp[maxLen] at hm;rw[AO];apply Aa (λvs N=>∃k:Nat,k<=x.length/\vs=[zIq (EF CU (x.take k)),zIq k]/\AG w N) (λvs _=>x.length-Da vs 1) ⟨0,Lc _,rfl,AF.refl _ _⟩;rintro vs N ⟨k,hk,rfl,g⟩ _;simp only[Ha];refine Cn (λU=>?_) λV=>?_;have j:k<x.length:=E;obtain⟨p,r,rfl,X,hr,hc,I⟩:=(Ag.S_ h g).get j;refine AV j (AX hr (by grind[Addr.add_add]) ?_);refine BA hr rfl I.one λb w2 hb Y O J _=>?_;obtain⟨rv,sv,Z,rfl,h1,h2,h3⟩:=I;rw[AE];apply AI (J 0 _ rfl);refine neP (λe=>?_) λe=>?_;rw[AQ,AL E];refine⟨⟨k+1,j,?_,g.trans O⟩,by grind[BV]⟩;rw[IB j,CU,Ix e,Int.add_zero];have:IntKind.i64.wrap (EF CU (x.take k))=EF CU (x.take k):=by
  by_cases h0:k=0;subst h0;simp[EF];rfl;obtain⟨Q,rfl⟩:∃Q,k=Q+1:=⟨k-1,E⟩;grind[IB,Qh,wrap64]
 rw[this];rw[AE];apply AI (J 1 _ rfl);rw[AQ,AQ,AL E];refine⟨⟨k+1,j,?_,g.trans O⟩,by grind[BV]⟩;grind[IB,CU];grind
def O9{S D:d_}{x:U'}(h:Ag S D w v x) : l_ 155 [v] (λv' w'=>v'=zIq (EF Cr x)/\AG w w') w:=by
 refine I_ func155 ?_ (.y (.y (.x (.y (.node [3,8] [(3,3),(5,5),(8,19)] .nil .nil)))));obtain⟨a,c,rfl,hm⟩:=h.AK;simp[maxLen] at hm;rw[AO];apply Aa (λvs Q=>∃k:Nat,k<=x.length/\vs=[zIq (EF Cr (x.take k)),zIq k]/\AG w Q) (λvs _=>x.length-Da vs 1) ⟨0,Lc _,rfl,AF.refl _ _⟩;rintro vs Q ⟨k,hk,rfl,g⟩ _;simp only[Ha];refine Cn (λV=>?_) λX=>?_;have j:k<x.length:=E;obtain⟨p,r,rfl,Z,hr,hc,I⟩:=(Ag.S_ h g).get j;refine AV j (AX hr (by grind[Addr.add_add]) ?_);refine BA hr rfl I.one λb w2 hb hz O J _=>?_;have N:=I.T_ (D':=D) O E' C_;obtain⟨rv,sv,pv,rfl,h1,h2,h3⟩:=id I;rw[AE];apply AI (J 0 _ rfl);refine neP (λe=>?_) λe=>?_;rw[AQ,AL E];refine⟨⟨k+1,j,?_,g.trans O⟩,by grind[BV]⟩;rw[IB j,Cr,Ix e,Int.add_zero];have:IntKind.i64.wrap (EF Cr (x.take k))=EF Cr (x.take k):=by
  by_cases h0:k=0;subst h0;simp[EF];rfl;obtain⟨U,rfl⟩:∃U,k=U+1:=⟨k-1,E⟩;grind[IB,Qh,wrap64]
 rw[this];apply AX hr J;apply AA (RI N);rintro _ w3 ⟨rfl,Y⟩;rw[AQ,AQ,AL E];refine⟨⟨k+1,j,?_,(g.trans O).trans Y⟩,by grind[BV]⟩;grind[IB,Cr];grind
def ah{p q:Prop}[Decidable p][Decidable q]{a b:α}(h:p↔q):(if p then a else b)=if q then a else b:=by
 grind
def YR(c:Chg):Prop:=(c.Ar=true/\c.val≠As.zero)\/(c.Ar=false/\¬EC c.val)
def sW(ks:X')(c:Chg):Prop:=BW ks c.key=none\/(c.Ar=false/\¬I8 ks c.key c.val)
open Classical in
def Ld{D S:d_}{p:W_}(hS:CG D w sv ks)(h:DY S w v p)(hT:CH w)(hI:∀c∈p,0<=c.val.f) : l_ 64 [sv,v] (λv' w'=>v'=zIq (De ks p)/\AG w w') w:=by
 refine H_ func64 ?_ (.y (.y (.y (.x (.y (.node [5,15] [(4,9),(15,75)] (.y (.y (.cut [5] [(4,9),(17,74)] (.y (.y (.cut [27] [(27,57)] (.cut [27] [(27,40)] .Ec .nil) .nil))) .nil))) .nil))))));obtain⟨a,c,rfl,hm⟩:=h.AK;have ak:∀w',AG w w'->Qp p->zIq 3=zIq (De ks p)/\AG w w':=by grind[De]
 rw[AO];refine gtP (λh6=>ak _ (AF.refl _ _) (.inr (.inl E))) λh6=>?_;rw[AO];refine Aa (λvs W=>∃i:Nat,i<=p.length/\vs=[zIq (if J8 ks (p.take i) then 4 else 0),zIq i]/\AG w W/\(∀a∈p.take i,¬YR a)/\Sq Chg.key p i) (λvs _=>p.length-Da vs 1)
  ⟨0,Lc _,by rw[By (by rintro⟨a,ha,_⟩;grind)];rfl,AF.refl _ _,E_,λj hj=>by omega⟩ ?_
 rintro vs W ⟨i,hi,rfl,g,hv,a7⟩ _;simp only[Ha];refine Cn (λay=>?_) λa1=>?_;rotate_left;have:i=p.length:=E;subst this;rw[WL] at hv ⊢;refine⟨?_,g⟩;have Q:¬Qp p:=by
  rintro(hn|hn|⟨c,hc,hn⟩);grind;omega;exact hv c hc hn
 grind[De];have J:i<p.length:=E;have U:=S7 J;have a8:=hI p[i] U;have e1:p.take (i+1)=p.take i++[p[i]]:=by grind[List.take_add_one]
 have X:J8 ks (p.take (i+1))↔J8 ks (p.take i)\/sW ks p[i]:=by
  grind[J8,sW]
 refine AT (λvs W2=>AG w W2/\vs=[zIq (if J8 ks (p.take (i+1)) then 4 else 0)]/\¬YR p[i]/\Sq Chg.key p (i+1)) ?_ ?_;rintro vs W2 ⟨g2,rfl,Q,hr⟩ _;simp only[HK];rw[AQ,AL E];refine⟨⟨i+1,J,rfl,g2,λa ha=>?_,hr⟩,by grind[BV]⟩;grind;obtain⟨q,r,rfl,_,hr,hc,rfl⟩:=(h.S_ g C0 C_).get J;refine AV J (AX hr (by grind[Addr.add_add]) ?_);refine BA (vs:=p[i].cells) rfl rfl (CO.one (w:=w) (x:=p[i]) rfl) λb7 W1 b0 b6 g7 al _=>?_;rw[AE];apply AI (al 0 _ rfl);apply AA (IW (hS.S_ (g.trans g7)) p[i].key);rintro _ W2 ⟨rfl,g2⟩;apply BD;refine BA (vs:=((BW ks p[i].key).getD DKey.zero).cells) rfl rfl (Hg.one (w:=W2) (x:=(BW ks p[i].key).getD DKey.zero) rfl) λb8 W3 b9 ba g3 _ _=>?_;have N:=((g.trans g7).trans g2).trans g3;have c7:∀j u,p[i].cells[j]?=some u->W3.cell? ((⟨b7,0,none⟩:Addr).add j)=some u:=by grind[AF.cell]
 have Y:p[i].cells[1]?=some (.bool p[i].Ar):=rfl;have bb:∀j u,p[i].val.cells[j]?=some u->p[i].cells[2+j]?=some u:=λj u hu=>by rw[aCZ];exact hu
 refine AT (λvs Z=>AG W3 Z/\((vs=[.bool true]/\Qp p)\/(vs=[.bool false]/\¬YR p[i]/\Sq Chg.key p (i+1)))) ?_ ?_;rintro vs Z ⟨I,⟨rfl,hb⟩|⟨rfl,Q,O⟩⟩ _;exact Ab (ak _ (N.trans I) hb);apply AM;rw[Aj];cases hk:BW ks p[i].key with
 |none=>
  refine Ab ⟨N.trans I,?_,Q,O⟩;rw[Ix (X.2 (.inr (.inl hk)))]
 |some k=>
  apply AM;rw[AE];apply AI (I.cell (c7 1 _ Y) F_);rw[Aj];cases hg:p[i].Ar with
  |true=>
   refine AM ⟨N.trans I,?_,Q,O⟩;congr 2;apply ah;rw[X];constructor;grind;rintro(h|h|h);exact h;grind;grind
  |false=>
   apply Ab;rw[AE];apply AI (I.cell (c7 0 _ rfl) F_);rw[AE];apply AX (vs:=p[i].val.cells) rfl (by grind[AF.cell,Addr.add_add]);apply AA (V1 (hS.S_ (N.trans I)) (hT.S_ (N.trans I)) a8);rintro _ W5 ⟨rfl,g5⟩;rw[Aj];by_cases V:I8 ks p[i].key p[i].val;rw[ys V];refine AM ⟨(N.trans I).trans g5,?_,Q,O⟩;congr 2;apply ah;rw[X];constructor;grind;rintro(h|h|h);exact h;grind;grind;rw[zk V];refine Ab ⟨(N.trans I).trans g5,?_,Q,O⟩;rw[Ix (X.2 (.inr (.inr ⟨hg,V⟩)))]
 refine AT (λvs Z=>AG W3 Z/\((vs=[.bool true]/\Qp p)\/(vs=[.bool false]/\Sq Chg.key p (i+1)))) ?_ ?_;rintro vs Z ⟨I,⟨rfl,hb⟩|⟨rfl,O⟩⟩ _;exact Ab B_;apply AM;rw[AE];apply AI (I.cell (c7 1 _ Y) F_);cases hg:p[i].Ar with
 |true=>
  apply Ab;rw[AE];apply AX (vs:=p[i].val.cells) rfl (by grind[AF.cell,Addr.add_add]);refine⟨As.zero.cells.toArray,D_,?_⟩;apply AY (Q9 _ _ p[i].val As.zero Z);by_cases hz:p[i].val=As.zero;rw[ys hz];apply AM;rw[AE];apply AI (I.cell (c7 1 _ Y) F_);rw[Aj,hg];refine AM ⟨I,.inr ⟨rfl,?_,O⟩⟩;rintro(h|h)<;>grind;rw[zk hz];exact Ab ⟨I,.inl ⟨rfl,.inr (.inr ⟨p[i],U,.inl ⟨hg,hz⟩⟩)⟩⟩
 |false=>
  apply AM;rw[AE];apply AI (I.cell (c7 1 _ Y) F_);rw[Aj,hg];apply Ab;rw[AE];apply AX (vs:=p[i].val.cells) rfl (by grind[AF.cell,Addr.add_add]);apply AA (Um (hT.S_ (N.trans I)) a8);rintro _ W5 ⟨rfl,g5⟩;rw[Aj];refine⟨I.trans g5,?_⟩;by_cases an:EC p[i].val;refine .inr ⟨B_,?_,O⟩;rintro(h|h)<;>grind;exact .inl ⟨B_,.inr (.inr ⟨p[i],U,.inr ⟨hg,an⟩⟩)⟩
 apply DL (AG W3) (AF.drew _ _);refine gtP (λav=>?_) λav Z I=>⟨I,.inr ⟨rfl,λj hj=>by omega⟩⟩;rw[A6,wrap64 E E,show((i:Int)-1)=((i-1:Nat):Int) by omega];have a6:i-1<p.length:=E;obtain⟨_,r2,e2,_,bk,ax,rfl⟩:=(h.S_ N C0 C_).get a6;cases e2;apply AV a6;rw[AE,Addr.add_add];apply BC (λW hW=>hW.cell (ax 0 _ rfl) F_);rw[AE];apply BC (λW hW=>hW.cell (c7 0 _ rfl) F_);rw[JP];intro Z I;by_cases a1:p[i-1].key ≥ p[i].key;rw[ys a1];refine⟨I,.inl ⟨rfl,.inl λaa=>?_⟩⟩;have:=aa i E J _ _ (Hc a6) (Hc J);omega;rw[zk a1];refine⟨I,.inr ⟨rfl,λj h1 h2 a b ha hb=>?_⟩⟩;by_cases e:j=i;grind;exact a7 j h1 E a b ha hb
def nS(o:Dop):Prop:=(∀a∈o.set,0<=a.val.f)/\∀c∈o.AU,0<=c.val.f
open Classical in
noncomputable def Mt(ks:X')(o:Dop):Int:=if ¬HQ o then 3 else if CD ks o.set≠0 then CD ks o.set else De ks o.AU
open Classical in
def qj{A_ D:d_}{r:U_}{o:Dop}(O:CG A_ w sv ks)(h:B0 D w r o)(Q:CH w)(U:nS o) : l_ 204 [sv,.agg r.toArray] (λv w'=>v=zIq (Mt ks o)/\AG w w') w:=by
 refine H_ func204 ?_ (.y (.cut [] [(4,4),(6,18)] .nil .nil));refine CN λb V _ X g hc _=>?_;have I:r.length=5:=by obtain⟨_,_,_,rfl,_⟩:=h;rfl
 have h1:=h.T_ (D':=D) g E' C_;refine AT (λvs N=>AG V N/\HQ o) ?_ ?_;rintro vs N ⟨j,hf⟩ _;obtain⟨rv,uv,pv,rfl,q1,Y,Z⟩:=h1.T_ (D':=D) j E' C_;rw[AE];apply AI (j.cell (hc 3 _ rfl) F_);apply AA (QU (O.S_ (g.trans j)) Y (Q.S_ (g.trans j)) U.1);rintro _ w3 ⟨rfl,J⟩;rw[FQ];have e0:Mt ks o=if CD ks o.set≠0 then CD ks o.set else De ks o.AU:=by grind[Mt]
 refine BM (λX=>?_) (by grind[AF.trans]);rw[AE];apply AI ((j.trans J).cell (hc 4 _ rfl) F_);apply AA (Ld (O.S_ ((g.trans j).trans J)) (Z.S_ J C0 C_) (Q.S_ ((g.trans j).trans J)) U.2);rintro _ w4 ⟨rfl,g4⟩;grind[AF.trans];have no:∀w',AG V w'->¬HQ o->zIq 3=zIq (Mt ks o)/\AG w w':=by grind[Mt,AF.trans]
 apply AX I hc;apply AA (fj h1);rintro _ N ⟨rfl,j⟩;rw[Aj];refine BM (λhp=>?_) (by grind[ML]);apply AX I (by grind[AF.cell]);apply AA (RI (h1.T_ (D':=D) j E' C_));rintro _ w3 ⟨rfl,J⟩;refine Cn (by grind[AF.trans,ML]) λhl=>?_;apply AX I (by grind[AF.cell]);apply AA (RI (h1.T_ (D':=D) (j.trans J) E' C_));rintro _ w4 ⟨rfl,g4⟩;refine gtP (by grind[AF.trans,ML]) (by grind[AF.trans,ML])
theorem ZW(ks:X'):CD ks []=0:=FC.2 Im
theorem ZI(ks:X'):De ks []=0:=FX.2 Io
theorem jS(ks:X')(l:V_):CD ks l=0\/CD ks l=3\/CD ks l=4:=by
 grind[CD]
theorem lz(ks:X')(l:W_):De ks l=0\/De ks l=3\/De ks l=4:=by
 grind[De]
theorem mj(ks:X')(o:Dop):(Mt ks o=3↔¬HQ o\/CD ks o.set=3\/De ks o.AU=3)/\(Mt ks o=0\/Mt ks o=3\/Mt ks o=4)/\(Mt ks o≠3->(Mt ks o=0↔CD ks o.set=0/\De ks o.AU=0)):=by
 grind[jS,lz,HQ,ZW,ZI,Mt]
open Classical in
def LY{A_ S D:d_}{x:U'}(hS:CG A_ w sv ks)(h:Ag S D w v x)(hT:CH w)(hI:∀o∈x,nS o) : l_ 113 [sv,v] (λv' w'=>v'=zIq (Bl ks x)/\AG w w') w:=by
 refine H_ func113 ?_ (.y (.y (.x (.y (.node [5,11] [(4,5),(7,8),(11,26)] .nil .nil)))));have ho:=h;obtain⟨a,c,rfl,hm⟩:=h.AK;simp[maxLen] at hm;have Q:∀w',AG w w'->YA ks x->zIq 3=zIq (Bl ks x)/\AG w w':=by grind[Bl]
 rw[AO];refine Aa (λvs w1=>∃k:Nat,k<=x.length/\vs=[zIq (if Lh ks (x.take k) then 4 else 0),zIq k]/\AG w w1/\∀o∈x.take k,Mt ks o≠3) (λvs _=>x.length-Da vs 1)
  ⟨0,Lc _,by rw[By (by rintro⟨a,ha,_⟩;grind)];rfl,AF.refl _ _,E_⟩ ?_
 rintro vs w1 ⟨k,hk,rfl,g,U⟩ _;simp only[Ha];refine Cn (λa1=>?_) λa6=>?_;have j:k<x.length:=E;have J:=S7 j;obtain⟨p,r,rfl,_,hr,hc,V⟩:=(Ag.S_ h g).get j;refine AV j (AX hr (by grind[Addr.add_add]) ?_);refine BA hr rfl V.one λb w2 hb hz N X _=>?_;apply AX hr X;apply AA (qj (hS.S_ (g.trans N)) (V.T_ (D':=D) N E' C_) (hT.S_ (g.trans N)) (hI _ J));rintro _ w3 ⟨rfl,Y⟩;have O:=(g.trans N).trans Y;obtain⟨m1,m2,m3⟩:=mj ks x[k];refine eqP (λZ=>?_) λZ=>?_;rw[Z];exact Q _ O (.inl ⟨_,J,m1.1 Z⟩);have e1:x.take (k+1)=x.take k++[x[k]]:=by grind[List.take_add_one]
 have I:∀o∈x.take (k+1),Mt ks o≠3:=B_;have a7:Lh ks (x.take (k+1))↔Lh ks (x.take k)\/Mt ks x[k]≠0:=by
  unfold Lh;grind
 refine neP (λh0=>?_) λh0=>?_;rw[AQ,AL E];refine⟨⟨k+1,j,?_,O,I⟩,by grind[BV]⟩;grind;rw[AQ,AL E];refine⟨⟨k+1,j,?_,O,I⟩,by grind[BV]⟩;grind;have:k=x.length:=E;subst this;rw[WL] at U ⊢;apply AA (MD (Ag.S_ ho g));rintro _ w2 ⟨rfl,N⟩;refine gtP (λh1=>Q _ (g.trans N) (.inr (.inl h1))) λh1=>?_;apply AA (O9 (Ag.S_ ho (g.trans N)));rintro _ w3 ⟨rfl,Y⟩;refine gtP (λh2=>Q _ ((g.trans N).trans Y) (.inr (.inr h2))) λh2=>?_;grind[AF.trans,YA,mj,Bl]
def Vb{l:V'}(h:LQ S w v l):l_ 247 [v] (λv' w'=>v'=zIq (CX l:Int)/\w'=w) w:=by
 refine I_ func247 ?_ (.y (.y (.x (.y (.node [3,8] [(3,3),(5,5),(8,16)] .nil .nil)))));obtain⟨a,c,rfl,hm⟩:=h.AK;simp only[maxLen] at hm;rw[AO];refine Aa (λvs w'=>∃i:Nat,i<=l.length/\vs=[zIq (CX (l.take i):Int),zIq i]/\w'=w) (λvs _=>l.length-Da vs 1) B_ ?_;rintro vs _ ⟨i,hi,rfl,rfl⟩ _;simp only[Ha];refine Cn (λJ=>?_) λN=>?_;have j:i<l.length:=E;obtain⟨p,r,rfl,_,hr,hc,rfl⟩:=h.get j;refine AV j (AI (hc 0 _ rfl) ?_);rw[CI];have e:CX (l.take (i+1))=CX (l.take i)+if l[i]=10 then 1 else 0:=by
  grind[List.take_add_one]
 have hb:=Em (l.take i);rw[S5] at hb;refine Ae (λI=>?_) λI=>?_;rw[AQ,AQ,AL E,AL E];refine⟨⟨i+1,j,?_,rfl⟩,by grind[BV]⟩;grind;rw[AQ,AL E];refine⟨⟨i+1,j,?_,rfl⟩,by grind[BV]⟩;grind;grind
theorem An.zo{o:Dop}(h:An ks o):CU o=(Ah o:Int)-o.AZ.length/\Cr o=(Ah o:Int)-(if o.AR=3 then o.n else 0)/\0<=CU o/\CU o<=Ah o/\0<=Cr o/\Cr o<=Ah o:=by
 unfold CU Cr Ah RP;rcases h with⟨h1,j,I,J,N⟩|⟨h1,j,I,J,N⟩|⟨h1,j,I,J,N,O⟩<;>grind
def Cj(n:Int):Int->U'->Prop
 |_,[]=>True
 |p,o::x=>if o.AR=2 then p≠n/\Cj n p x else if o.AR=3 then p+o.n≠n/\Cj n (p+o.n) x else Cj n (p+o.n) x
def Db(ks:X')(o:Dop):Prop:=o.AR=2->o.set≠[]->(0<(EM ks true o.set).length\/0<CX o.AZ)->(EM ks true o.set).length=o.set.length/\CX o.AZ=o.AZ.length
open Classical in
noncomputable def Ef(ks:X')(x:U')(n most:Int):Int:=if Bl ks x≠0 then Bl ks x else if n<1\/most<n\/n<EF CU x then 5 else if ¬Cj n 0 x then 6 else if ¬(∀o∈x,Db ks o) then 7 else if most<n-EF CU x+EF Cr x then 8 else 0
open Classical in
def oE{S D:d_}{x:U'}{n:Int}(h:Ag S D w v x)(Y:∀o∈x,An ks o/\Ah o<=536870912)(hl:x.length<=4294967296) : l_ 153 [v,zIq n] (λv' w'=>v'=.bool (decide (Cj n 0 x))/\AG w w') w:=by
 refine H_ func153 ?_ (.y (.y (.y (.x (.y (.node [5,10] [(4,5),(7,7),(10,33)] (.y (.y (.x (.y (.cut [] [(4,4),(14,28)] .nil .nil))))) .nil))))));obtain⟨a,c,rfl,hm⟩:=h.AK;rw[AO];apply Aa (λvs w'=>∃(i p:Nat),i<=x.length/\vs=[zIq (p:Int),zIq i]/\p<=i*536870912/\AG w w'/\(Cj n 0 x↔Cj n p (x.drop i))) (λvs _=>x.length-Da vs 1) ⟨0,0,Lc _,rfl,Lc _,AF.refl _ _,aCU⟩;rintro vs w1 ⟨i,p,hi,rfl,hp,g,j⟩ _;simp only[Ha];refine Cn (λZ=>?_) λa1=>?_;rotate_left;obtain rfl:i=x.length:=E;rw[aAv] at j;exact⟨by rw[ys (j.2 trivial)],g⟩;have I:i<x.length:=E;obtain⟨q,r,rfl,hS,hr,hc,O⟩:=(Ag.S_ h g).get I;refine AV I (AX hr (by grind[Addr.add_add]) ?_);refine BA hr rfl O.one λb w2 hb hz g2 J _=>?_;obtain⟨rv,sv,pv,rfl,h1,h2,h3⟩:=id O;rw[y8 I,Cj] at j;obtain⟨U,a6⟩:=Y x[i] (S7 I);have Q:=g.trans g2;have X:x[i].AR≠2->0<=x[i].n/\x[i].n<=536870912:=λhk=>by
  rcases U with⟨h1,_,_,h4,_⟩|⟨h1,_,_,_,h4⟩|⟨h1,_⟩;grind[Ah];grind[Ah];omega
 refine AT (λ_ w'=>x[i].AR≠2/\w'=w2/\(Cj n 0 x↔Cj n ((p:Int)+x[i].n) (x.drop (i+1)))) ?_ ?_;rintro _ _ ⟨hk,rfl,V⟩ _;obtain⟨n1,n2⟩:=X hk;rw[AE];apply AI (J 1 _ rfl);rw[AQ,wrap64 E E,AQ,AL E];refine⟨⟨i+1,p+x[i].n.toNat,I,?_,E,Q,?_⟩,by grind[BV]⟩;grind;grind;rw[AE];apply AI (J 0 _ rfl);refine eqP (λhk=>?_) λhk=>?_;rw[Ix hk] at j;refine eqP B_ λe=>?_;rw[AQ,AL E];refine⟨⟨i+1,p,I,rfl,?_,Q,B_⟩,by grind[BV]⟩;grind;rw[By hk] at j;obtain⟨n1,n2⟩:=X hk;refine eqP (λN=>?_) λN=>?_;rw[Ix N] at j;rw[AE];apply AI (J 1 _ rfl);rw[AQ,wrap64 E E,CI];refine Ae B_ λe=>?_;exact B_;rw[By N] at j;grind
open Classical in
def qP{A_ S D:d_}{x:U'}(hS:CG A_ w sv ks)(h:Ag S D w v x)(hb:∀o∈x,o.set.length<=64) : l_ 154 [sv,v] (λv' w'=>v'=.bool (decide (∀o∈x,Db ks o))/\AG w w') w:=by
 refine H_ func154 ?_ (.y (.x (.y (.node [11] [(4,4),(6,8),(11,52)] (.y (.y (.cut [] [(4,4),(6,8),(13,51)] (.y (.cut [] [(15,23)] .nil (.x (.dc [3,7] (i_ [0,0,2,7,15,0,32,111,255,511]) [[3]])))) .nil))) .nil))));obtain⟨a,c,rfl,hm⟩:=h.AK;simp only[maxLen] at hm;rw[AO];refine Aa (λvs w'=>∃(i:Nat),i<=x.length/\vs=[zIq i]/\AG w w'/\∀o∈x.take i,Db ks o) (λvs _=>x.length-Da vs 0) ⟨0,Lc _,rfl,AF.refl _ _,B_⟩ ?_;rintro vs w1 ⟨i,hi,rfl,g,b9⟩ _;simp only[Bh,HK];refine Cn (λbb=>?_) λbk=>?_;rotate_left;grind[decide_eq_true];have I:i<x.length:=E;refine AT (λ_ w'=>Db ks x[i]/\AG w1 w') ?_ ?_;rintro _ w' ⟨hp,g'⟩ _;rw[AQ,AL E];refine⟨⟨i+1,I,rfl,g.trans g',λo ho=>?_⟩,by grind[DW]⟩;grind[List.take_add_one];obtain⟨q,r,rfl,bl,hr,hc,X⟩:=(Ag.S_ h g).get I;refine AV I (AX hr (by grind[Addr.add_add]) ?_);refine BA hr rfl X.one λb w2 bp hz U J _=>?_;obtain⟨rv,a7,pv,rfl,h1,h2,h3⟩:=id X;have bs:=hb x[i] (S7 I);obtain⟨ra,rc,a8,bx⟩:=h1.AK;obtain⟨sa,sc,Y,_⟩:=h2.AK;refine AT (λ_ w'=>w'=w2/\x[i].AR=2/\x[i].set≠[]) ?_ ?_;rotate_left;rw[AE];apply AI (J 0 _ rfl);refine neP (λhk=>?_) λhk=>⟨λh=>absurd h hk,U⟩;rw[AE];apply AI (J 3 _ rfl);rw[Y,AO];refine eqP (λe=>⟨λ_ O=>absurd (Of E) O,U⟩) B_;rintro _ _ ⟨rfl,hk,O⟩ _;rename c_=>w2;have V:=gdr w2;apply Ac (λ_ _=>False);rw[AE];refine AP ⟨V.cell (J 3 _ rfl) F_,C_⟩ ?_;refine AA (Nu (b:=true) (((hS.S_ g).S_ U).S_ V) ((h2.S_ U C0 C_).S_ V C0 C_) E) ?_;rintro bv w3 ⟨aa,g3⟩;obtain⟨ba,bc,rfl,_⟩:=aa.AK;refine⟨E,?_⟩;rw[AO,AE];refine AP ⟨V.cell (J 2 _ rfl) F_,C_⟩ ?_;refine AA (Vb (((h1.S_ U C0 C_).S_ V C0 C_).S_ g3 C0 C_)) ?_;rintro _ _ ⟨rfl,rfl⟩;rename c_=>w3;refine⟨AF.refl _ _,?_⟩;have Q:=(U.trans V).trans g3;have b7:=g.trans Q;have Z:∀(j:Nat) (v:b_),[Value.int .u8 x[i].AR,zIq x[i].n,rv,a7,pv][j]?=some v->w3.cell? ((⟨b,0,none⟩:Addr).add j)=some v:=by grind[AF.cell]
 have c4:(EM ks true x[i].set).length<=x[i].set.length:=aBB _ _;have c6:=Em x[i].AZ;have c7:(0<(EM ks true x[i].set).length\/0<CX x[i].AZ)->((EM ks true x[i].set).length<x[i].set.length\/CX x[i].AZ<x[i].AZ.length)->¬∀o∈x,Db ks o:=λh1 h2 a1=>by
  have:=a1 x[i] (S7 I) hk O h1;omega
 have N:(0<(EM ks true x[i].set).length\/0<CX x[i].AZ)->
   BX 3 (e_ b) (λak=>BR ak (λal w9=>Dz al λan=>HZ .i64 (zIq ((EM ks true x[i].set).length:Int)) an λav=>Af av (Value.bool false=.bool (decide (∀ o ∈ x,Db ks o))/\AG w w9)
    (BX 2 (e_ b) λb6=>BR b6 (λax a6=>Dz ax λay=>HZ .i64 (zIq (CX x[i].AZ:Int)) ay λb0=>Af b0 (Value.bool false=.bool (decide (∀ o ∈ x,Db ks o))/\AG w a6) (Db ks x[i]/\AG w1 a6)) w9)) w3):=λb8=>by
  rw[AE];apply AI (Z 3 _ rfl);rw[Y,AO];refine Cn B_ λe1=>?_;rw[AE];apply AI (Z 2 _ rfl);rw[a8,AO];refine Cn B_ λe2=>⟨λ_ _ _=>⟨E,E⟩,Q⟩
 refine gtP (λe=>N (.inl E)) λe1=>?_;refine gtP (λe=>N (.inr E)) λe2=>⟨λ_ _ h=>by omega,Q⟩
def VU{A_ S D:d_}{x:U'}{n:Nat}(X:CG A_ w sv ks)(h:Ag S D w v x)(hT:CH w)(hI:∀o∈x,nS o)(hl:x.length<=4294967296)(hn:n<=1099511627776) : l_ 85 [sv,v,zIq (n:Int),zIq most] (λv' w'=>v'=zIq (Ef ks x n most)/\AG w w') w:=by
 classical
 refine N_ func85 ?_ (.y (.y (.x (.cut [16] [(16,29)] .nil .nil))));apply AA (LY X h hT hI);rintro _ w1 ⟨rfl,Y⟩;unfold Ef;refine neP (λhm=>?_) B_;rw [By (by simpa using hm)];have N:=HN hm;obtain ⟨_,t1,t2⟩:=Gk (f:=CU) (m:=536870912) C0 x (by grind[An.zo]) E;obtain ⟨_,u1,u2⟩:=Gk (f:=Cr) (m:=536870912) C0 x (λo O=>by
  obtain ⟨_,_,_,_,h1,Q⟩:=(N o O).1.zo;grind) E
 have h1:=Ag.S_ h Y;refine AT (λvs w'=>vs=[.bool (decide ((n:Int)<1\/most<n\/(n:Int)<EF CU x))]/\AG w1 w') ?_ ?_;rotate_left;refine Cn (by grind[AF.refl]) λe1=>?_;refine gtP (by grind[AF.refl]) λe2=>?_;apply AA (MD h1);rintro _ w2 ⟨rfl,I⟩;rw[Hj];refine⟨?_,I⟩;grind;rintro _ w2 ⟨rfl,I⟩ _;rw[Bh,HK];have U:=Y.trans I;have Q:=Ag.S_ h1 I;refine Ae B_ λe=>?_;rw[By e];apply AA (oE (n:=n) Q N hl);rintro _ w3 ⟨rfl,Z⟩;rw[Aj];have j:=U.trans Z;refine BM (λe3=>?_) B_;rw[By (λh=>h e3)];have J:=Ag.S_ Q Z;refine AA (qP (X.S_ j) J λo O=>?_) ?_;rcases(N o O).1 with⟨_,_,J,_⟩|⟨_,_,J,_⟩|⟨_,_,_,_,_,h6⟩;grind;grind;exact h6.2.1;rintro _ w4 ⟨rfl,g4⟩;rw[Aj];have V:=j.trans g4;refine BM (λe4=>?_) B_;rw[By (λh=>h e4)];have h4:=Ag.S_ J g4;apply AA (MD h4);rintro _ w5 ⟨rfl,g5⟩;rw[A6,wrap64 E E];apply AA (O9 (Ag.S_ h4 g5));rintro _ w6 ⟨rfl,g6⟩;rw[AQ,wrap64 E E,Hj];have a1:=(V.trans g5).trans g6;grind[Ae]
def NW(r:Int):V':=if r<128 then[r] else if r<2048 then[192+r/64,128+r%64] else if r<65536 then[224+r/4096,128+r/64%64,128+r%64] else[240+r/262144,128+r/4096%64,128+r/64%64,128+r%64]
def GO(l:V'):V':=l.flatMap NW
theorem XP(r:Int):1<=(NW r).length/\(NW r).length<=4:=by
 grind[NW]
theorem hZ{r:Int}(h:DZ r)(t:V'):DB (NW r++t)=(r,(NW r).length):=by
 unfold DZ at h;unfold NW;by_cases h1:r<128;grind[KH];rw[By h1];by_cases J:r<2048;rw[Ix J];have j:Bm (192+r/64)=2:=by grind[Bm]
 have hl:G9 (192+r/64)=128:=by grind[G9]
 have I:Gu (192+r/64)=191:=by grind[Gu]
 grind[VT];rw[By J];by_cases N:r<65536;rw[Ix N];have j:Bm (224+r/4096)=3:=by grind[Bm]
 have hl:G9 (224+r/4096)<=128+r/64%64:=by
  grind[G9]
 have I:128+r/64%64<=Gu (224+r/4096):=by
  grind[Gu]
 show DB (_::_::_::t)=_;rw[VH j E E E E,Ix ⟨⟨hl,I⟩,E,E⟩];grind;rw[By N];have j:Bm (240+r/262144)=4:=by grind[Bm]
 have hl:G9 (240+r/262144)<=128+r/4096%64:=by
  grind[G9]
 have I:128+r/4096%64<=Gu (240+r/262144):=by
  grind[Gu]
 show DB (_::_::_::_::t)=_;rw[U7 j E E E E E E,Ix ⟨⟨hl,I⟩,E,E⟩];grind
def fe{b:V'}(hb:∀x∈b,0<=x/\x<256)(J:b≠[])(O:(DB b).2≠0):DZ (DB b).1/\b=NW (DB b).1++b.drop (DB b).2:=by
 match b,J with
 |b0::t,_=>
  have h0:=hb b0 E_;by_cases ha:b0<128;grind[KH,DZ,NW];rcases(show Bm b0=0\/Bm b0=2\/Bm b0=3\/Bm b0=4 by unfold Bm;(repeat' split)<;>simp) with j|j|j|j;grind[RL];have hr:194<=b0/\b0<224:=by
   grind[Bm]
  match t,hb with
  |[],hb=>grind[CW]
  |c1::t,hb=>
   have h1:=hb c1 E_;have hl:G9 b0=128:=by grind[G9]
   have U:Gu b0=191:=by grind[Gu]
   have e:=VT (t:=t) j h1.1 h1.2;rw[hl,U] at e;by_cases hc:128<=c1/\c1<=191;rw[Ix hc] at e;rw[e];refine⟨by grind[DZ],?_⟩;simp only[aAQ,aAG];unfold NW;rw[By E,Ix E];simp only[aAN,aAP,aBU,aCV];omega;grind
  have hr:224<=b0/\b0<240:=by
   grind[Bm]
  match t,hb with
  |[],hb=>grind[CW]
  |[c1],hb=>grind[CW]
  |c1::c2::t,hb=>
   have h1:=hb c1 E_;have I:=hb c2 E_;have e:=VH (t:=t) j h1.1 h1.2 I.1 I.2;by_cases hc:(G9 b0<=c1/\c1<=Gu b0)/\128<=c2/\c2<=191;rw[Ix hc] at e;rw[e];obtain⟨⟨l1,l2⟩,V,X⟩:=hc;have lo:128<=c1/\(b0=224->160<=c1):=by
    grind[G9]
   have hi:c1<=191/\(b0=237->c1<=159):=by
    grind[Gu]
   refine⟨by grind[DZ],?_⟩;simp only[aAQ,aAG];unfold NW;rw[By E,By E,Ix E];simp only[aAN,aAP,aBU,aCV];omega;rw[By hc] at e;rw[e] at O;exact(O rfl).elim
  have hr:240<=b0/\b0<245:=by
   grind[Bm]
  match t,hb with
  |[],hb=>grind[CW]
  |[c1],hb=>grind[CW]
  |[c1,c2],hb=>grind[CW]
  |c1::c2::N::t,hb=>
   have h1:=hb c1 E_;have I:=hb c2 E_;have Q:=hb N E_;have e:=U7 (t:=t) j h1.1 h1.2 I.1 I.2 Q.1 Q.2;by_cases hc:(G9 b0<=c1/\c1<=Gu b0)/\(128<=c2/\c2<=191)/\128<=N/\N<=191;rw[Ix hc] at e;rw[e];obtain⟨⟨l1,l2⟩,⟨V,X⟩,Y,Z⟩:=hc;have lo:128<=c1/\(b0=240->144<=c1):=by
    grind[G9]
   have hi:c1<=191/\(b0=244->c1<=143):=by
    grind[Gu]
   refine⟨by grind[DZ],?_⟩;simp only[aAQ,aAG];unfold NW;rw[By E,By E,By E];simp only[aAN,aAP,aBU,aCV];omega;grind
theorem UH:∀{l:V'},(∀r∈l,DZ r)->Bn (GO l)=some l:=by
 intro l;induction l with
 |nil=>intro _;exact Jy
 |cons r l I=>
  intro h;have hr:=h r E_;have j:GO (r::l)≠[]:=by
   grind[NW,GO]
  grind[Iq,GO,hZ]
def cm:∀(n:Nat) {b l:V'},b.length<=n->(∀x∈b,0<=x/\x<256)->Bn b=some l->b=GO l/\∀r∈l,DZ r:=by
 intro n;induction n with
 |zero=>
  intro b l J hb h;obtain rfl:b=[]:=Of E;rw[Jy] at h;cases h;exact⟨rfl,E_⟩
 |succ n N=>
  intro b l J hb h;by_cases j:b=[];grind;rw[Iq j] at h;by_cases h0:(DB b).2=0;grind;rw[By h0] at h;obtain⟨h1,O⟩:=fe hb j h0;cases hr:Bn (b.drop (DB b).2) with
  |none=>grind
  |some m=>
   rw[hr] at h;simp only[aAa,gn] at h;subst h;have hm:=N (b:=b.drop (DB b).2) (by rw[I3];omega) (λx I=>hb x (oy I)) hr;refine⟨?_,λr I=>?_⟩;show b=NW _++GO m;rw[<-hm.1];exact O;rcases S6.1 I with rfl|I;exact h1;exact hm.2 r I
def Ns(v:As):V':=uv v.AR.toNat++(if v.AR=1\/v.AR=2 then uv (J7 v.n) else if v.AR=3 then uv v.f.toNat else if v.AR=4 then uv v.s.size++CK v.s else[])
def Hn(a:Attr):V':=uv a.key.toNat++Ns a.val
def Hl(c:Chg):V':=uv c.key.toNat++(if c.Ar then uv 0 else Ns c.val)
def H0{α:Type}(f:α->V')(l:List α):V':=uv l.length++l.flatMap f
def Hs(b:V'):V':=uv b.length++b
def IK(o:Dop):V':=uv o.AR.toNat++(if o.AR=1 then uv o.n.toNat++H0 Hl o.AU else if o.AR=2 then Hs (GO o.AZ)++H0 Hn o.set else if o.AR=3 then uv o.n.toNat else[])
def P5(x:U'):V':=H0 IK x
def Jc(v:As):Prop:=((v.AR=1\/v.AR=2)/\(-9223372036854775808<=v.n/\v.n<=9223372036854775807)/\v.f=0/\v.s=⟨#[]⟩)\/(v.AR=3/\v.n=0/\(0<=v.f/\v.f<18446744073709551616)/\v.s=⟨#[]⟩)\/(v.AR=4/\v.n=0/\v.f=0/\v.s.size<9223372036854775808)
def Pp(k:Int):Prop:=0<=k/\k<9223372036854775808
def OJ(a:Attr):Prop:=Pp a.key/\Jc a.val
def N9(c:Chg):Prop:=Pp c.key/\((c.Ar=true/\c.val=As.zero)\/(c.Ar=false/\Jc c.val))
def HF{α:Type}(R:α->Prop)(l:List α):Prop:=l.length<9223372036854775808/\∀x∈l,R x
def Mn(m:Int)(o:Dop):Prop:=(o.AR=1/\(0<=o.n/\o.n<=m)/\o.AZ=[]/\o.set=[]/\HF N9 o.AU)\/(o.AR=2/\o.n=0/\(∀r∈o.AZ,DZ r)/\(GO o.AZ).length<9223372036854775808/\HF OJ o.set/\o.AU=[])\/(o.AR=3/\(0<=o.n/\o.n<=m)/\o.AZ=[]/\o.set=[]/\o.AU=[])
abbrev Gp:Dop->Prop:=Mn 536870912
def PF{α:Type}(f:α->V')(R:α->Prop):Prop:=∀a b x y,R a->R b->f a++x=f b++y->a=b/\x=y
def PF.xU{f:α->V'}{R:α->Prop}(h:PF f R):∀{l m:List α} {x y:V'},(∀a∈l,R a)->(∀a∈m,R a)->l.length=m.length->l.flatMap f++x=m.flatMap f++y->l=m/\x=y:=by
 intro l;induction l with
 |nil=>
  grind
 |cons a l j=>
  intro m x y ha hm hl e;match m,hl with
  |b::m,hl=>
   simp only[aA9,Q0] at e;obtain⟨I,J⟩:=h _ _ _ _ (ha a E_) (hm b E_) e;grind
def PF.NI{f:α->V'}{R:α->Prop}(h:PF f R):PF (H0 f) (HF R):=by
 intro l m x y hl hm e;unfold H0 at e;rw[Q0,Q0] at e;obtain⟨j,e⟩:=EB (by have:=hl.1;omega) (by have:=hm.1;omega) e;exact h.xU hl.2 hm.2 j e
def RN{a b x y:V'}(ha:a.length<9223372036854775808)(hb:b.length<9223372036854775808)(e:Hs a++x=Hs b++y):a=b/\x=y:=by
 unfold Hs at e;rw[Q0,Q0] at e;obtain⟨j,e⟩:=EB E E e;exact aDJ e j
theorem Te{l m:V'}(hl:∀r∈l,DZ r)(hm:∀r∈m,DZ r)(e:GO l=GO m):l=m:=by
 grind[UH]
def Jc.AR{v:As}(h:Jc v):1<=v.AR/\v.AR<=4:=by
 rcases h with⟨h,_⟩|⟨h,_⟩|⟨h,_⟩<;>omega
def iQ:PF Ns Jc:=by
 intro a b x y ha hb e;have Q:=ha.AR;have V:=hb.AR;unfold Ns at e;rw[Q0,Q0] at e;obtain⟨I,e⟩:=EB E E e;have J:a.AR=b.AR:=E;obtain⟨k,n,f,s⟩:=a;obtain⟨X,Y,Z,s'⟩:=b;simp only at J e Q;subst J;unfold Jc at ha hb;simp only at ha hb;rcases ha with⟨h1,N,rfl,rfl⟩|⟨h1,rfl,N,rfl⟩|⟨h1,rfl,rfl,N⟩;rcases hb with⟨_,O,rfl,rfl⟩|⟨j,_⟩|⟨j,_⟩;grind[EB,Hw,SC];omega;omega;rcases hb with⟨j,_⟩|⟨_,rfl,O,rfl⟩|⟨j,_⟩;omega;rw[By E,Ix h1,By E,Ix h1] at e;obtain⟨I,U⟩:=EB E E e;grind;omega;rcases hb with⟨j,_⟩|⟨j,_⟩|⟨_,rfl,rfl,O⟩;omega;omega;rw[By E,By E,Ix h1,By E,By E,Ix h1,Q0,Q0] at e;obtain⟨I,e⟩:=EB E E e;obtain⟨U,e⟩:=aDJ e (by rw[CS,CS,I]);grind[Q4]
def ae:PF Hn OJ:=by
 intro a b x y ha hb e;unfold Hn at e;rw[Q0,Q0] at e;have h1:=ha.1;have j:=hb.1;unfold Pp at h1 j;obtain⟨J,I⟩:=EB E E e;obtain⟨N,O⟩:=iQ _ _ _ _ ha.2 hb.2 I;obtain⟨k,v⟩:=a;obtain⟨Q,U⟩:=b;grind
theorem UG{v:As}(h:Jc v){x y:V'}:uv 0++x≠Ns v++y:=by
 intro e;have:=h.AR;unfold Ns at e;rw[Q0] at e;have:=(EB E E e).1;omega
def nJ:PF Hl N9:=by
 intro a b x y ha hb e;unfold Hl at e;rw[Q0,Q0] at e;have h1:=ha.1;have N:=hb.1;unfold Pp at h1 N;obtain⟨Q,O⟩:=EB E E e;obtain⟨k,g,v⟩:=a;obtain⟨U,g',v'⟩:=b;have j:=ha.2;have I:=hb.2;simp only at Q O h1 N j I;have X:k=U:=E;rcases j with⟨rfl,rfl⟩|⟨rfl,V⟩;grind[List.append_cancel_left,UG];rcases I with⟨rfl,rfl⟩|⟨rfl,J⟩;grind[UG];obtain⟨Y,Z⟩:=iQ _ _ _ _ V J O;grind
def Gp.AR{m:Int}{o:Dop}(h:Mn m o):1<=o.AR/\o.AR<=3:=by
 rcases h with⟨h,_⟩|⟨h,_⟩|⟨h,_⟩<;>omega
theorem tQ{m:Int}(hm:m<=4294967296):PF IK (Mn m):=by
 intro a b x y ha hb e;have X:=Gp.AR ha;have kb:=Gp.AR hb;unfold IK at e;rw[Q0,Q0] at e;obtain⟨e1,e⟩:=EB E E e;have O:a.AR=b.AR:=E;obtain⟨k,n,rs,st,pt⟩:=a;obtain⟨k',n',Y,Z,a1⟩:=b;simp only at O e X;subst O;unfold Mn at ha hb;simp only at ha hb;rcases ha with⟨h1,Q,rfl,rfl,J⟩|⟨h1,rfl,Q,J,h4,rfl⟩|⟨h1,Q,rfl,rfl,rfl⟩;rcases hb with⟨_,U,rfl,rfl,N⟩|⟨j,_⟩|⟨j,_⟩;rw[Ix h1,Ix h1,Q0,Q0] at e;obtain⟨V,I⟩:=EB E E e;obtain⟨e4,e5⟩:=nJ.NI _ _ _ _ J N I;grind;omega;omega;rcases hb with⟨j,_⟩|⟨_,rfl,U,N,g4,rfl⟩|⟨j,_⟩;omega;rw[By E,Ix h1,By E,Ix h1,Q0,Q0] at e;obtain⟨V,I⟩:=RN J N e;obtain⟨e4,e5⟩:=ae.NI _ _ _ _ h4 g4 I;grind[Te];omega;rcases hb with⟨j,_⟩|⟨j,_⟩|⟨_,U,rfl,rfl,rfl⟩;omega;omega;rw[By E,By E,Ix h1,By E,By E,Ix h1] at e;obtain⟨V,I⟩:=EB E E e;grind
def jk:PF P5 (HF Gp):=(tQ C0).NI
theorem Qi{x y:U'}(j:HF Gp x)(I:HF Gp y)(h:P5 x=P5 y):x=y:=(jk x y [] [] j I (by rw[h])).1
theorem O5(n:Nat):1<=(uv n).length:=(Na 9 n).1
def bI(o:Dop):1<=(IK o).length:=by grind[IK,O5]
def fK(a:Attr):1<=(Hn a).length:=by grind[Hn,O5]
def ey(c:Chg):1<=(Hl c).length:=by grind[Hl,O5]
def LF{f:α->V'}(h:∀a,1<=(f a).length):∀l:List α,l.length<=(l.flatMap f).length:=by
 intro l;induction l<;>grind
def QT:Nat->Bool->V'->Option (Nat×V')
 |_,_,[]=>none
 |f,first,x::t=>if(f=0/\1<x)\/(first=false/\x=0) then none else if x<128 then some (x.toNat,t) else
  match f with
  |0=>none
  |f+1=>(QT f false t).map λr=>((x-128).toNat+128*r.1,r.2)
theorem OZ{f n:Nat}(h:n<=127):P7 f n=[(n:Int)]:=by
 cases f<;>grind[P7]
def T9{f n:Nat}(h:127<n):P7 (f+1) n=((n%128+128:Nat):Int)::P7 f (n/128):=by
 grind[P7]
def bT:∀{l:V'} {f:Nat} {first:Bool} {n:Nat} {t:V'},(∀x∈l,0<=x/\x<256)->QT f first l=some (n,t)->l=P7 f n++t/\n<2*128 ^ f/\(first=false->0<n):=by
 intro l;induction l with
 |nil=>grind[QT]
 |cons x l J=>
  intro f first n t hb h
  have O:=hb x E_;have hp:0<128 ^ f:=Nat.pow_pos C0;unfold QT at h;by_cases h1:(f=0/\1<x)\/(first=false/\x=0);grind;rw[By h1] at h;by_cases j:x<128;rw[Ix j] at h;cases h;refine⟨?_,?_,λe=>?_⟩;grind[OZ];cases f with
  |zero=>omega
  |succ f=>omega
  grind;rw[By j] at h;cases f with
  |zero=>cases h
  |succ f=>
   simp only at h;cases hr:QT f false l with
   |none=>grind
   |some r=>
    obtain⟨m,U⟩:=r;rw[hr] at h;simp only[aAa,gn,aC6] at h;obtain⟨rfl,rfl⟩:=h;obtain⟨N,Q,I⟩:=J B_ hr;have I:=I rfl;refine⟨?_,?_,E⟩;rw[T9 E,show((x-128).toNat+128*m)/128=m by omega,aAN,<-N];congr 1;omega;omega
def iR:∀{f:Nat} {first:Bool} {n:Nat} (t:V'),n<2*128 ^ f->(first=false->0<n)->QT f first (P7 f n++t)=some (n,t):=by
 intro f;induction f with
 |zero=>
  grind[OZ,QT]
 |succ f j=>
  intro first n t h h0
  by_cases I:n<=127;grind[OZ,QT];rw[T9 E,aAN];grind[QT,Option.some.injEq,Prod.mk.injEq]
theorem UR{n:Nat}(t:V')(h:n<18446744073709551616):QT 9 true (uv n++t)=some (n,t):=by
 have e:(2:Nat)*128 ^ 9=18446744073709551616:=C0;exact iR t E λh=>by cases h
def QX{l:V'}{n:Nat}{t:V'}(hb:∀x∈l,0<=x/\x<256)(h:QT 9 true l=some (n,t)):l=uv n++t/\n<18446744073709551616:=by
 have e:(2:Nat)*128 ^ 9=18446744073709551616:=C0;obtain⟨h1,j,_⟩:=bT hb h;exact⟨h1,E⟩
def OK(n:Nat):Int:=if n%2=0 then(n/2:Nat) else -((n/2:Nat):Int)-1
def cR{n:Nat}(h:n<18446744073709551616):J7 (OK n)=n/\-9223372036854775808<=OK n/\OK n<=9223372036854775807:=by
 grind[J7,OK]
structure DR {α:Type} (f:α->V') (R:α->Prop) (b:V') (p:Nat) (bad:Bool) (a:α) (q:Nat) (Ay:Bool):Prop where
 le:p<=q
 len:q<=b.length
 Kr:bad=true->Ay=true
 ED:Ay=false->R a/\b.drop p=f a++b.drop q
 TF:bad=false->∀c t,R c->b.drop p=f c++t->Ay=false
section
variable {α β γ:Type}{f:α->V'}{R:α->Prop}{b:V'}{p q r:Nat}{bad Ay Es:Bool}{a:α}
theorem DR.Ml(x:DR f R b p bad a q Ay)(h:Ay=false):bad=false:=by
 grind[DR.Kr]
def DR.seq{c:β}{z:γ}{g:α->β->V'}{Q:α->β->Prop}{h:γ->V'}{T:γ->Prop}(O:PF f R)(x:DR f R b p bad a q Ay)(y:DR (g a) (Q a) b q Ay c r Es) (hm:R a->Q a c->T z/\h z=f a++g a c)(hc:∀z,T z->∃j I,R j/\Q j I/\h z=f j++g j I):DR h T b p bad z r Es:=by
 refine⟨py x.le y.le,y.len,λe=>y.Kr (x.Kr e),λe=>?_,λe z t U ht=>?_⟩;obtain⟨y1,y2⟩:=y.ED e;grind[DR.ED,DR.Ml];obtain⟨j,I,h1,V,X⟩:=hc z U;rw[X,Q0] at ht;have J:=x.TF e j _ h1 ht;obtain⟨Y,N⟩:=x.ED J;rw[ht] at N;obtain⟨rfl,Z⟩:=O _ _ _ _ h1 Y N;exact y.TF J I t V Z.symm
def DR.map{z:γ}{h:γ->V'}{T:γ->Prop}(x:DR f R b p bad a q Ay)(hm:R a->T z/\h z=f a)(hc:∀z,T z->∃j,R j/\h z=f j):DR h T b p bad z q Ay:=by
 refine⟨x.le,x.len,x.Kr,λe=>?_,λe z t I ht=>?_⟩;grind[DR.ED];obtain⟨j,h1,J⟩:=hc z I;exact x.TF e j t h1 (by rw[ht,J])
def DR.none{z:γ}{h:γ->V'}{T:γ->Prop}(j:p<=b.length)(hc:∀z,¬T z):DR h T b p bad z p true:=⟨DN _,j,I',B_,B_⟩
def DR.unit{z:γ}{h:γ->V'}{T:γ->Prop}(j:p<=b.length)(I:T z)(h0:h z=[]):DR h T b p bad z p bad:=⟨DN _,j,F_,B_,B_⟩
structure VV {α:Type} (f:α->V') (R:α->Prop) (b:V') (p:Nat) (bad:Bool) (n:Nat) (l:List α) (q:Nat) (Ay:Bool):Prop where
 le:p<=q
 len:q<=b.length
 Kr:bad=true->Ay=true
 ED:Ay=false->(∀x∈l,R x)/\b.drop p=l.flatMap f++b.drop q
 TF:bad=false->∀(m:List α) (t:V'),m.length=n->(∀x∈m,R x)->b.drop p=m.flatMap f++t->Ay=false
def VV.nil{n:Nat}(hp:p<=b.length):VV f R b p bad n [] p bad:=⟨DN _,hp,F_,B_,B_⟩
theorem VV.JY{n:Nat}{l:List α}(N:PF f R)(V:l.length<n)(x:VV f R b p bad n l q false)(y:DR f R b q false a r Es):VV f R b p bad n (l++[a]) r Es:=by
 obtain⟨O,Q⟩:=x.ED rfl;refine⟨py x.le y.le,y.len,(by grind[VV.Kr]),λe=>?_,λe m t hm U ht=>?_⟩;grind[DR.ED];have I:m=m.take l.length++m.drop l.length:=(Nr _ _).symm;have j:l.length<m.length:=E;rw[I,aBV,Q0,Q] at ht;obtain⟨_,J⟩:=N.xU O B_ B_ ht;rw[y8 j,aA9,Q0] at J;exact y.TF rfl _ _ (U _ (S7 j)) J
def VV.done{n most:Nat}{l:List α}(j:∀a,1<=(f a).length)(hb:b.length<9223372036854775808)(x:DR uv (λn=>n<=most) b p bad n q Ay)(y:VV f R b q Ay n l r Es)(hl:Es=false->l.length=n)(I:b.length<=most)(Z:most<18446744073709551616) : DR (H0 f) (HF R) b p bad l r Es:=by
 have Ml:Es=false->Ay=false:=by grind[VV.Kr]
 refine⟨py x.le y.le,y.len,λe=>y.Kr (x.Kr e),λe=>?_,λe m t hm ht=>?_⟩;obtain⟨Q,U⟩:=y.ED e;obtain⟨V,J⟩:=x.ED (Ml e);have hn:=hl e;have h1:=r9 List.length U;have N:=LF j l;rw[Bp,I3] at h1;exact⟨⟨E,Q⟩,by grind[H0]⟩;unfold H0 at ht;rw[Q0] at ht;have h1:=LF j m;have N:=r9 List.length ht;rw[I3,Bp,Bp] at N;have O:=x.TF e m.length _ E ht;obtain⟨V,J⟩:=x.ED O;rw[ht] at J;obtain⟨X,Y⟩:=EB E E J;exact y.TF O m t X hm.2 Y.symm
def TR{most:Nat}(h:most<18446744073709551616):PF uv (λn=>n<=most):=λ_ _ _ _ ha hb e=>EB E E e
end
def Wh(v:As):V':=if v.AR=1\/v.AR=2 then uv (J7 v.n) else if v.AR=3 then uv v.f.toNat else if v.AR=4 then uv v.s.size++CK v.s else[]
theorem U5(v:As):Ns v=uv v.AR.toNat++Wh v:=rfl
abbrev UT(k:Nat)(b:V')(p:Nat)(bad:Bool)(v:As)(q:Nat)(Ay:Bool):Prop:=DR Wh (λv=>v.AR=k/\Jc v) b p bad v q Ay
section
variable {b:V'}{p q r s:Nat}{bad Ay Es tX:Bool}
theorem UT.int{k n:Nat}(hk:k=1\/k=2)(I:n<18446744073709551616)(x:DR uv (λn=>n<18446744073709551616) b p bad n q Ay):UT k b p bad ⟨k,OK n,0,⟨#[]⟩⟩ q Ay:=by
 have j:=cR I;have J:∀v:As,v.AR=(k:Int)->(v.AR=1\/v.AR=2):=E;refine x.map (λh=>⟨⟨rfl,Or.inl ⟨J _ rfl,⟨j.2.1,j.2.2⟩,rfl,rfl⟩⟩,?_⟩) λz j=>⟨J7 z.n,?_,?_⟩;grind[Wh];have:=j.2;rcases this with⟨_,h,_⟩|⟨h,_⟩|⟨h,_⟩<;>grind[Hw];grind[Wh]
def UT.float{n:Nat}(x:DR uv (λn=>n<=18446744073709551615) b p bad n q Ay):UT 3 b p bad ⟨3,0,n,⟨#[]⟩⟩ q Ay:=by
 refine x.map (λh=>⟨⟨rfl,Or.inr (Or.inl ⟨rfl,rfl,⟨by simp only;omega,by simp only;omega⟩,rfl⟩)⟩,rfl⟩) λz j=>⟨z.f.toNat,?_,?_⟩;rcases j.2 with⟨h,_⟩|⟨_,_,h,_⟩|⟨h,_⟩<;>grind;grind[Wh]
def UT.text{s:ByteArray}{l:V'}(j:CK s=l)(x:DR Hs (λx=>x.length<9223372036854775808) b p bad l q Ay):UT 4 b p bad ⟨4,0,0,s⟩ q Ay:=by
 have hl:=CS s;refine x.map (λh=>⟨⟨rfl,Or.inr (Or.inr ⟨rfl,rfl,rfl,by simp only;rw[<-hl,j];exact h⟩)⟩,?_⟩) λz I=>⟨CK z.s,?_,?_⟩
 .show uv s.size++CK s=Hs l;grind[Hs]
 rcases I.2 with⟨h,_⟩|⟨h,_⟩|⟨_,_,_,h⟩<;>grind[CS];grind[Wh,Hs,CS]
def UT.SS{k:Nat}{v:As}(hp:p<=b.length)(hk:¬(1<=k/\k<=4)):UT k b p bad v p true:=
 DR.none hp λz j=>hk (by have:=j.2.AR;omega)
def DR.value{k most:Nat}{v:As}(x:DR uv (λn=>n<=most) b p bad k q Ay)(y:UT k b q Ay v r Es)(h1:4<=most:=by decide)(I:most<18446744073709551616:=by decide):DR Ns Jc b p bad v r Es:=by
 refine x.seq (g:=λ_=>Wh) (Q:=λk v=>v.AR=((k:Nat):Int)/\Jc v) (TR I) y (λ_ h=>⟨h.2,?_⟩) λz j=>⟨z.AR.toNat,z,?_,⟨?_,j⟩,rfl⟩;grind[U5];have:=j.AR;omega;have:=j.AR;omega
def DR.AAU{k:Nat}{v:As}(x:DR uv (λn=>n<=9223372036854775807) b p bad k q Ay)(y:DR Ns Jc b q Ay v r Es):DR Hn OJ b p bad ⟨k,v⟩ r Es:=by
 refine x.seq (g:=λ_=>Ns) (Q:=λ_=>Jc) (TR C0) y (λh1 I=>⟨⟨?_,I⟩,rfl⟩) λz j=>⟨z.key.toNat,z.val,?_,j.2,rfl⟩;exact⟨aCS _,by simp only;omega⟩;have:=j.1;grind[Pp]
def hC(c:Bool×As):V':=if c.1 then uv 0 else Ns c.2
def TC(c:Bool×As):Prop:=(c.1=true/\c.2=As.zero)\/(c.1=false/\Jc c.2)
def gC(c:Bool×As):V':=if c.1 then[] else Wh c.2
def QC(k:Nat)(c:Bool×As):Prop:=(c.1=true/\c.2=As.zero/\k=0)\/(c.1=false/\Jc c.2/\c.2.AR=k)
def DR.tail{k most:Nat}{c:Bool×As}(x:DR uv (λn=>n<=most) b p bad k q Ay)(y:DR gC (QC k) b q Ay c r Es)(h1:4<=most:=by decide)(j:most<18446744073709551616:=by decide):DR hC TC b p bad c r Es:=by
 refine x.seq (g:=λ_=>gC) (Q:=QC) (TR j) y (λ_ h=>?_) λz J=>?_;obtain⟨g,v⟩:=c;rcases h with⟨h1,j,I⟩|⟨h1,j,I⟩;subst h1;subst j;subst I;exact⟨Or.inl ⟨rfl,rfl⟩,by simp[hC,gC]⟩;subst h1;refine⟨Or.inr ⟨rfl,j⟩,?_⟩;grind[hC,gC,U5];obtain⟨g,v⟩:=z;rcases J with⟨h1,j⟩|⟨h1,j⟩;subst h1;subst j;exact⟨0,(true,As.zero),E,Or.inl ⟨rfl,rfl,rfl⟩,by simp[hC,gC]⟩;simp only at h1 j;subst h1;have:=j.AR;refine⟨v.AR.toNat,(false,v),E,Or.inr ⟨rfl,j,by simp only;omega⟩,?_⟩;grind[hC,gC,U5]
def DR.Ar(hp:p<=b.length):DR gC (QC 0) b p bad (true,As.zero) p bad:=DR.unit hp (Or.inl ⟨rfl,rfl,rfl⟩) rfl
def UT.AAI{k:Nat}{v:As}(hk:k≠0)(x:UT k b p bad v q Ay):DR gC (QC k) b p bad (false,v) q Ay:=by
 refine x.map (λh=>⟨Or.inr ⟨rfl,h.2,h.1⟩,rfl⟩) λz j=>?_;rcases j with⟨_,_,h⟩|⟨h1,I,J⟩<;>grind[gC]
def DR.change{k:Nat}{c:Bool×As}(x:DR uv (λn=>n<=9223372036854775807) b p bad k q Ay)(y:DR hC TC b q Ay c r Es):DR Hl N9 b p bad ⟨k,c.1,c.2⟩ r Es:=by
 refine x.seq (g:=λ_=>hC) (Q:=λ_=>TC) (TR C0) y (λh1 I=>⟨⟨?_,I⟩,rfl⟩) λz j=>⟨z.key.toNat,(z.Ar,z.val),?_,j.2,rfl⟩;exact⟨aCS _,by simp only;omega⟩;have:=j.1;grind[Pp]
def Vk(l:V'):V':=Hs (GO l)
def YS(l:V'):Prop:=(∀r∈l,DZ r)/\(GO l).length<9223372036854775808
def sF:PF Vk YS:=λ_ _ _ _ ha hb e=>by
 obtain⟨j,I⟩:=RN ha.2 hb.2 e;exact⟨Te ha.1 hb.1 j,I⟩
theorem DR.text{l m:V'}(hb:∀x∈l,0<=x/\x<256)(x:DR Hs (λx=>x.length<9223372036854775808) b p bad l q Ay)(h:Bn l=some m):DR Vk YS b p bad m q Ay:=by
 obtain⟨e,hm⟩:=cm l.length (DN _) hb h;refine x.map (λh=>⟨⟨hm,e▸h⟩,by grind[Vk]⟩) λz j=>⟨GO z,j.2,rfl⟩
theorem DR.jA{l m:V'}(x:DR Hs (λx=>x.length<9223372036854775808) b p bad l q Ay)(h:Bn l=Option.none):DR Vk YS b p bad m q true:=by
 refine⟨x.le,x.len,I',B_,λe c t hc ht=>?_⟩;obtain⟨J,I⟩:=x.ED (x.TF e (GO c) t hc.2 ht);have j:b.drop p=Hs (GO c)++t:=ht;rw[j] at I;obtain⟨N,_⟩:=RN hc.2 J I;rw[<-N,UH hc.1] at h;cases h
def fM(o:Dop):V':=if o.AR=1 then uv o.n.toNat++H0 Hl o.AU else if o.AR=2 then Hs (GO o.AZ)++H0 Hn o.set else if o.AR=3 then uv o.n.toNat else[]
theorem iI(o:Dop):IK o=uv o.AR.toNat++fM o:=rfl
abbrev aZ(m:Int)(k:Nat)(b:V')(p:Nat)(bad:Bool)(o:Dop)(q:Nat)(Ay:Bool):Prop:=DR fM (λo=>o.AR=k/\Mn m o) b p bad o q Ay
variable {m:Nat}
def aZ.ZO{n:Nat}{l:W_}(hm:m<=4294967296)(x:DR uv (λn=>n<=m) b p bad n q Ay)(y:DR (H0 Hl) (HF N9) b q Ay l r Es):aZ m 1 b p bad ⟨1,n,[],[],l⟩ r Es:=by
 refine x.seq (g:=λ_=>H0 Hl) (Q:=λ_=>HF N9) (TR E) y (λh1 j=>⟨⟨rfl,Or.inl ⟨rfl,⟨aCS _,by simp only;omega⟩,rfl,rfl,j⟩⟩,rfl⟩) λz I=>?_;rcases I with⟨h0,⟨h1,j,_,_,J⟩|⟨h1,_⟩|⟨h1,_⟩⟩;refine⟨z.n.toNat,z.AU,E,J,?_⟩;grind[fM];omega;omega
def aZ.insert{t:V'}{l:V_}(x:DR Vk YS b p bad t q Ay)(y:DR (H0 Hn) (HF OJ) b q Ay l r Es):aZ m 2 b p bad ⟨2,0,t,l,[]⟩ r Es:=by
 refine x.seq (g:=λ_=>H0 Hn) (Q:=λ_=>HF OJ) sF y (λh1 j=>⟨⟨rfl,Or.inr (Or.inl ⟨rfl,rfl,h1.1,h1.2,j,rfl⟩)⟩,rfl⟩) λz I=>?_;rcases I with⟨h0,⟨h1,_⟩|⟨h1,_,j,J,N,_⟩|⟨h1,_⟩⟩;omega;refine⟨z.AZ,z.set,⟨j,J⟩,N,?_⟩;unfold fM;rw[By E,Ix h1];rfl;omega
def aZ.delete{n:Nat}(x:DR uv (λn=>n<=m) b p bad n q Ay):aZ m 3 b p bad ⟨3,n,[],[],[]⟩ q Ay:=by
 refine x.map (λh1=>⟨⟨rfl,Or.inr (Or.inr ⟨rfl,⟨aCS _,by simp only;omega⟩,rfl,rfl,rfl⟩)⟩,rfl⟩) λz j=>?_;rcases j with⟨h0,⟨h1,_⟩|⟨h1,_⟩|⟨h1,I,_⟩⟩;omega;omega;refine⟨z.n.toNat,E,?_⟩;grind[fM]
def aZ.SS{k:Nat}{o:Dop}(hp:p<=b.length)(hk:¬(1<=k/\k<=3)):aZ m k b p bad o p true:=
 DR.none hp λz j=>hk (by have:=Gp.AR j.2;omega)
def DR.op{k most:Nat}{o:Dop}(x:DR uv (λn=>n<=most) b p bad k q Ay)(y:aZ m k b q Ay o r Es)(h1:4<=most:=by decide)(I:most<18446744073709551616:=by decide):DR IK (Mn m) b p bad o r Es:=by
 refine x.seq (g:=λ_=>fM) (Q:=λk o=>o.AR=((k:Nat):Int)/\Mn m o) (TR I) y (λ_ h=>⟨h.2,?_⟩) λz j=>⟨z.AR.toNat,z,?_,⟨?_,j⟩,rfl⟩;grind[iI];have:=Gp.AR j;omega;have:=Gp.AR j;omega
end
noncomputable def Jm(ks:X')(b:V'):U'×Int:=open Classical in if h:∃x,HF Gp x/\P5 x=b/\Bl ks x≠3/\qJ x=x then(if Bl ks (Classical.choose h)=0 then(Classical.choose h,0) else([],Bl ks (Classical.choose h))) else([],3)
def Ev(v:As):Prop:=(-9223372036854775808<=v.n/\v.n<=9223372036854775807)/\(0<=v.f/\v.f<18446744073709551616)
def Is(o:Dop):Prop:=(∀a∈o.set,a.key<=9223372036854775807/\Ev a.val)/\∀c∈o.AU,c.key<=9223372036854775807/\Ev c.val
theorem Is.o{o:Dop}(h:Is o):nS o:=⟨λa ha=>(h.1 a ha).2.2.1,λc hc=>(h.2 c hc).2.2.1⟩
variable {ks:X'}
abbrev PSB(ks:X')(l:V_):Prop:=E3 ks l/\∀a∈l,a.key<=9223372036854775807/\Ev a.val
abbrev PPB(ks:X')(p:W_):Prop:=EX ks p/\∀c∈p,c.key<=9223372036854775807/\Ev c.val
abbrev LV(ks:X')(o:Dop):Prop:=QJ (PSB ks) (PPB ks) o
theorem LV.k{o:Dop}(h:LV ks o):An ks o:=by
 rcases h with⟨h1,j,I,J,N⟩|h|⟨h1,j,I,J,N,O⟩;exact .inl ⟨h1,j,I,J,N.1⟩;exact .inr (.inl h);exact .inr (.inr ⟨h1,j,I,J,N,O.1⟩)
def LV.b{o:Dop}(h:LV ks o):Is o:=by
 rcases h with⟨h1,N,j,I,J⟩|⟨h1,N,j,I,J⟩|⟨h1,N,j,I,J,O⟩;exact⟨by rw[j];simp,J.2⟩;exact⟨by rw[j];simp,by rw[I];simp⟩;exact⟨O.2,by rw[I];simp⟩
def An.b{o:Dop}(h:An ks o)(hb:Is o):LV ks o:=by
 rcases h with⟨h1,j,I,J,N⟩|h|⟨h1,j,I,J,N,O⟩;exact .inl ⟨h1,j,I,J,N,hb.2⟩;exact .inr (.inl h);exact .inr (.inr ⟨h1,j,I,J,N,O,hb.1⟩)
theorem EC.nN{v:As}(h:EC v)(hi:Ev v):Jc v:=by
 rcases h with⟨h1,j,I⟩|⟨h1,j⟩|⟨h1,j,_⟩|⟨h1,j,I,_⟩;exact .inl ⟨.inl h1,hi.1,by rw[j],by rw[j];rfl⟩;exact .inl ⟨.inr h1,hi.1,by rw[j],by rw[j];rfl⟩;exact .inr (.inl ⟨h1,by rw[j],hi.2,by rw[j];rfl⟩);exact .inr (.inr ⟨h1,by rw[j],by rw[j],E⟩)
def Wn(hk:∀k∈ks,0<=k.id){id:Int}(h:BW ks id≠none):0<=id:=by
 obtain⟨k,h1,j⟩:=WJ.1 (Qf h);grind
def E3.nN(hk:∀k∈ks,0<=k.id){l:V_}(h:PSB ks l):HF OJ l:=
 ⟨by have:=h.1.2.1;omega,λa ha=>by
  obtain ⟨h1,k,I,_⟩:=h.1.2.2 a ha;have j:=h.2 a ha;exact ⟨⟨Wn hk B_,E⟩,h1.nN j.2⟩⟩
def EX.nN(hk:∀k∈ks,0<=k.id){l:W_}(h:PPB ks l):HF N9 l:=
 ⟨by have:=h.1.2.1;omega,λc hc=>by
  obtain ⟨h1,I,j⟩:=h.1.2.2 c hc;have J:=h.2 c hc;refine ⟨⟨Wn hk j,E⟩,?_⟩;grind[EC.nN]⟩
def YN:∀l:V',(GO l).length<=l.length*4:=by
 intro l;induction l<;>grind[GO,XP]
def LV.nN(hk:∀k∈ks,0<=k.id){o:Dop}(h:LV ks o)(hl:Ah o<=536870912):Gp o:=by
 unfold Ah at hl;rcases h with⟨h1,j,I,J,N⟩|⟨h1,j,I,J,N⟩|⟨h1,j,I,J,N,O⟩;rw[By E] at hl;exact .inl ⟨h1,E,j,I,EX.nN hk N⟩;rw[By E] at hl;exact .inr (.inr ⟨h1,E,j,I,J⟩);rw[Ix h1] at hl;exact .inr (.inl ⟨h1,I,j,by have:=YN o.AZ;omega,E3.nN hk O,J⟩)
theorem An.sb{o:Dop}(h:An ks o)(hl:Ah o<=536870912):GZ o:=by
 unfold Ah at hl;rcases h with⟨h1,J,j,I,N⟩|⟨h1,J,j,I,N⟩|⟨h1,J,j,I,N,O⟩;rw[By E] at hl;exact .inl ⟨h1,J,j,I,E⟩;rw[By E] at hl;exact .inr (.inl ⟨h1,J,j,I,N,E⟩);exact .inr (.inr ⟨h1,j,I,N⟩)
theorem An.tm{o:Dop}(h:An ks o):CU o=(Ah o:Int)-o.AZ.length/\Cr o=(Ah o:Int)-(if o.AR=3 then o.n else 0)/\0<=CU o/\CU o<=Ah o/\0<=Cr o/\Cr o<=Ah o:=by
 unfold CU Cr Ah RP;rcases h with⟨h1,j,I,J,N⟩|⟨h1,j,I,J,N⟩|⟨h1,j,I,J,N,O⟩<;>grind
def wK{x:U'}(h:∀o∈x,An ks o/\Ah o<=536870912)(hl:x.length<=4294967296):EF CU x=(BB x:Int)-Cf x/\EF Cr x=(BB x:Int)-EJ x:=by
 have I:=(Gk (f:=CU) (m:=536870912) C0 x (by grind[An.tm]) E).1;have J:=(Gk (f:=Cr) (m:=536870912) C0 x (λo j=>by have:=(h o j).1.tm;grind) E).1;rw[I,J];clear I J hl;induction x with
 |nil=>simp[BB,Cf,EJ]
 |cons o x N=>
  obtain⟨O,Q⟩:=N λo j=>h o (by simp[j]);grind[An.tm,BB,Cf,EJ]
theorem Ov{x:U'}(h:∀o∈x,An ks o/\Ah o<=536870912)(ht:EF CU x<=536870912)(hm:EF Cr x<=536870912):Bl ks x=0:=by
 have J:∀o∈x,HQ o/\E3 ks o.set/\EX ks o.AU:=by grind[An.QA]
 unfold Bl;rw[By,By];rintro⟨o,I,j|j⟩<;>grind[FC,FX];rintro(⟨o,I,j|j|j⟩|j|j);grind;grind[FC];grind[FX];omega;omega
def kN{x:U'}(h:Bl ks x=0):EF CU x<=536870912/\EF Cr x<=536870912:=by
 unfold Bl at h;split at h;cases h;rename_i h1;exact⟨q8 λj=>h1 (.inr (.inl E)),q8 λj=>h1 (.inr (.inr E))⟩
def T0{x:U'}(h:∀o∈x,An ks o):((Cf x:Int)+EJ x<=BB x)/\0<=EJ x:=by
 induction x with
 |nil=>simp[BB,Cf,EJ]
 |cons o x Q=>
  have:=Q λo I=>h o (by simp[I]);have I:=h o E_;simp only[aAR,aBi,BB,Cf,EJ,Ah] at this ⊢;push_cast;rcases I with⟨h1,j,J,N,O⟩|⟨h1,j,J,N,O⟩|⟨h1,j,J,N,O,U⟩;rw[h1,j];simp;omega;rw[h1,j];simp;omega;rw[h1];simp;omega
def ue{x:U'}(h:∀o∈x,An ks o){z:Dop}(Q:z∈x):(z.AR≠2->(Ah z:Int)+Cf x<=BB x)/\(z.AR=2->(Ah z:Int)+EJ x<=BB x):=by
 induction x with
 |nil=>grind
 |cons o x U=>
  have N:∀o∈x,An ks o:=λo j=>h o (by simp[j]);have hr:=T0 N;have j:=h o E_;have I:=j.tm;have J:(o.AZ.length:Int)<=Ah o/\(if o.AR=3 then o.n else 0)<=Ah o/\0<=(if o.AR=3 then o.n else 0)/\(o.AR≠2->o.AZ.length=0)/\(o.AR=2->(if o.AR=3 then o.n else 0)=0):=by
   have:=I.2.2.1;refine⟨E,E,?_,λe=>?_,(by omega)⟩;omega;rcases j with⟨_,O,_⟩|⟨_,O,_⟩|⟨h1,_⟩<;>grind
  grind[BB,Cf,EJ]
def mK(hk:∀k∈ks,0<=k.id){x:U'}(h:Bl ks x=0)(hb:∀o∈x,Is o)(hl:x.length<=4294967296) : Bl ks (BJ x)=0/\(∀z∈BJ x,LV ks z/\Ah z<=536870912)/\HF Gp (BJ x)/\BJ (BJ x)=BJ x/\(BJ x).length<=x.length:=by
 have J:=HN h;obtain⟨e1,e2⟩:=wK J hl;obtain⟨m1,m2⟩:=kN h;have Q:=T0 λo j=>(J o j).1;have U:∀o∈x,GZ o:=by grind[An.sb]
 obtain⟨O,n2⟩:=dw x (λo j=>(J o j).1.b (hb o j)) E;obtain⟨V,X,Y⟩:=ZG x U E;have Z:∀z∈BJ x,Ah z<=536870912:=by
  intro z I;have hr:=ue (λo j=>LV.k (O o j)) I;omega
 have N:∀z∈BJ x,An ks z/\Ah z<=536870912:=by grind[LV.k]
 obtain⟨f1,f2⟩:=wK N E;rw[V] at f1;rw[X] at f2;exact⟨(by grind[Ov]),B_,⟨E,λz I=>LV.nN hk (O z I) (Z z I)⟩,(by grind[ZD]),Y⟩
def oQ{x:U'}(h:Bl ks x≠3)(hl:x.length<=4294967296):BJ x=qJ x:=by
 refine norm_eq x λo Q=>?_;have U:HQ o:=q8 λV=>h (by unfold Bl;rw[Ix (.inl ⟨o,Q,.inl V⟩)]);rcases U with⟨h1,N,I,J,j⟩|⟨h1,N,I,J,j,O⟩|⟨h1,N,I,J,j,O⟩;exact .inl ⟨h1,N,I,J,j⟩;exact .inr (.inl ⟨h1,N,I,J,j,O⟩);exact .inr (.inr ⟨h1,I,J,by intro e;rw[e] at j;simp at j⟩)
def jX{x:U'}(hr:HF Gp x)(j:Bl ks x≠3)(I:qJ x=x):Jm ks (P5 x)=if Bl ks x=0 then(x,0) else([],Bl ks x):=by
 have h:∃y,HF Gp y/\P5 y=P5 x/\Bl ks y≠3/\qJ y=y:=⟨x,hr,rfl,j,I⟩;grind[Jm,Qi]
def Oi{b:V'}(h:∀x,HF Gp x->P5 x=b->Bl ks x=3\/qJ x≠x):Jm ks b=([],3):=by
 grind[Jm]
def rz{b:V'}{x:U'}(h:Jm ks b=(x,0)):HF Gp x/\P5 x=b/\Bl ks x=0/\qJ x=x:=by
 unfold Jm at h;split at h<;>grind
end
def Bz(ks:X'):Y_->U'->Y_
 |d,[]=>d
 |d,o::x=>if o.AR=1 then(d.take o.n.toNat).map (CJ ks o.AU)++Bz ks (d.drop o.n.toNat) x else if o.AR=2 then o.AZ.map (λr=>(⟨r,o.set⟩:Cel))++Bz ks d x else Bz ks (d.drop o.n.toNat) x
def Qw(ks:X'):Y_->U'->Y_
 |d,[]=>d
 |d,o::x=>if o.AR=1 then(d.take o.n.toNat).map (CJ ks o.AU)++Qw ks (d.drop o.n.toNat) x else if o.AR=2 then Qw ks d x else Qw ks (d.drop o.n.toNat) x
def BG:U'->Nat
 |[]=>0
 |o::x=>(if o.AR=2 then 0 else o.n.toNat)+BG x
def Cs:U'->Nat
 |[]=>0
 |o::x=>(if o.AR=3 then 0 else if o.AR=2 then o.AZ.length else o.n.toNat)+Cs x
def LX{x:U'}(j:∀o∈x,An ks o/\Ah o<=536870912)(hl:x.length<=4294967296):EF CU x=BG x/\EF Cr x=Cs x:=by
 have b1:∀o∈x,0<=CU o/\CU o<=536870912:=by grind[An.zo]
 have b2:∀o∈x,0<=Cr o/\Cr o<=536870912:=by grind[An.zo]
 rw[(Gk (m:=536870912) C0 x b1 E).1,(Gk (m:=536870912) C0 x b2 E).1];clear hl b1 b2;induction x with
 |nil=>exact⟨rfl,rfl⟩
 |cons o x I=>
  obtain⟨J,N⟩:=I λo O=>j o (by simp[O]);obtain⟨h1,_⟩:=j o E_;rw[aAR,aBi,J,aAR,aBi,N,BG,Cs,CU,Cr,RP];rcases h1 with⟨k,_,_,Q,_⟩|⟨k,_,_,_,Q⟩|⟨k,_⟩<;>grind
structure Ii (ks:X') (x:U') (n:Nat) (most:Int):Prop where
 JX:Bl ks x=0
 Eo:∀o∈x,An ks o/\Ah o<=536870912
 DA:1<=n/\(n:Int)<=most
 MA:BG x<=n
 HA:Cj n 0 x
 pl:∀o∈x,Db ks o
 most:(n:Int)-BG x+Cs x<=most
theorem Ca{x:U'}{n:Nat}(hl:x.length<=4294967296):Ef ks x n most=0↔Ii ks x n most:=by
 classical
 unfold Ef;constructor;intro h;split at h;omega;rename_i hm;have j:Bl ks x=0:=by simpa using hm
 have I:=HN j;obtain⟨J,N⟩:=LX I hl;split at h;cases h;rename_i O;split at h;cases h;rename_i Q;split at h;cases h;rename_i U;split at h;cases h;rename_i V;rw[J] at O V;rw[N] at V;exact⟨j,I,E,E,aB3.1 Q,aB3.1 U,E⟩;rintro⟨h1,X,Y,Z,O,Q,U⟩;obtain⟨J,N⟩:=LX X hl;grind
theorem SZ.of(N:∀k∈ks,E9 k){k:Int}{v:As}(h1:BW ks k≠none)(I:EC v\/v=As.zero)(J:Ev v):SZ ⟨k,v⟩:=by
 obtain⟨y,O,e⟩:=WJ.1 (Qf h1);have j:=N y O;have k1:=j.1;have k2:=j.2.1;rw[e] at k1 k2;refine⟨⟨?_,?_⟩,?_,J.1,J.2,?_⟩;grind;grind;show 0<=v.AR/\v.AR<256;rcases I with(⟨h,_⟩|⟨h,_⟩|⟨h,_⟩|⟨h,_⟩)|h;omega;omega;omega;omega;rw[h];decide;show v.s.size<_;rcases I with(⟨_,h,_⟩|⟨_,h⟩|⟨_,h,_⟩|⟨_,_,h,_⟩)|h;rw[h];simp[JF,ByteArray.size];rw[h];simp[JF,ByteArray.size];rw[h];simp[JF,ByteArray.size];omega;rw[h];simp[As.zero,JF,ByteArray.size]
theorem Dw.of(j:∀k∈ks,E9 k)(h:E3 ks s)(I:∀a∈s,Ev a.val):Dw ks s:=by
 refine⟨h,λa ha=>?_⟩;obtain⟨h1,k,J,_⟩:=h.2.2 a ha;exact SZ.of j (by rw[J];simp) (.inl h1) (I a ha)
theorem Kw.of(j:∀k∈ks,E9 k){p:W_}(h:EX ks p)(I:∀c∈p,Ev c.val):Kw ks p:=by
 refine⟨h,λc hc=>?_⟩;obtain⟨h1,J,N⟩:=h.2.2 c hc;grind[SZ.of]
def opG(J:∀k∈ks,E9 k){o:Dop}(h:An ks o)(N:(∀a∈o.set,Ev a.val)/\∀c∈o.AU,Ev c.val):Dw ks o.set/\Kw ks o.AU:=by
 rcases h with⟨_,_,j,_,O⟩|⟨_,_,j,I,_⟩|⟨_,_,_,I,_,Q⟩<;>grind[Dw.nil,Kw.of,Kw.nil,Dw.of]
def Pe{o:Dop}(hk:o.AR=2)(N:E3 ks o.set)(hp:Db ks o):o.AZ.map (GK ks o.set)=o.AZ.map λr=>(⟨r,o.set⟩:Cel):=by
 by_cases j:o.set=[];rw[j];rfl;refine aBk λr hr=>?_;unfold GK;have J:∀a∈o.set,∃k,BW ks a.key=some k:=λa ha=>by
  obtain⟨_,k,h,_⟩:=N.2.2 a ha;grind
 by_cases I:0<(EM ks true o.set).length\/0<CX o.AZ;obtain⟨O,Q⟩:=hp hk j I;grind[EM,List.filter_eq_self,List.length_filter_eq_length_iff,List.count_eq_length];grind[EM,List.filter_eq_self,List.filter_eq_nil_iff,LJ]
def kQ{n:Nat}:∀{x:U'} {d:Y_},(∀o∈x,An ks o)->BG x<=d.length->d.length<=n->Cj n ((n:Int)-d.length) x->(BK d).getLast?=some 10->(BK (Qw ks d x)).getLast?=some 10:=by
 intro x;induction x with
 |nil=>intro d _ _ _ _ h;exact h
 |cons o x O=>
  intro d X ht Z J hl;have Q:=X o E_;have I:∀o∈x,An ks o:=λo ho=>X o (by simp[ho]);rw[BG] at ht;rw[Cj] at J;rw[Qw];have j:∀m:Nat,m<d.length->(BK (d.drop m)).getLast?=some 10:=λm hm=>by
   grind[List.getLast?_drop]
  rcases Q with⟨k,_,_,n1,_⟩|⟨k,_,_,_,n1⟩|⟨k,_⟩;rw[Ix k];rw[By E] at ht;rw[By E,By E] at J;by_cases hm:o.n.toNat<d.length;have:=O I (d:=d.drop o.n.toNat) B_ B_ B_ (j _ hm);rw[BK,u7,lp];grind;have U:x=[]:=by
   cases x with
   |nil=>rfl
   |cons o' x=>
    exfalso;have N:=I o' E_;rw[BG] at ht;rw[Cj] at J;rcases N with⟨Y,_,_,V,_⟩|⟨Y,_,_,_,V⟩|⟨Y,_⟩;rw[By E] at ht;omega;rw[By E] at ht;omega;grind
  subst U;rw[Qw,aA4 E,aO,aAZ E,BK,aBR];exact hl;rw[By E,By E];rw[By E] at ht;rw[By E,Ix k] at J;have hm:o.n.toNat<d.length:=E;exact O I B_ B_ B_ (j _ hm);rw[By E,Ix k];rw[Ix k] at ht J;exact O I E Z J.2 hl
def yz:∀{x:U'} {d:Y_},(Qw ks d x).length<=d.length:=by
 intro x;induction x with
 |nil=>intro d;exact DN _
 |cons o x j=>
  grind[Qw]
def KX:∀{x:U'} {d:Y_},(∀o∈x,An ks o)->BG x<=d.length->(Bz ks d x).length+BG x=d.length+Cs x:=by
 intro x;induction x with
 |nil=>intro d _ _;rfl
 |cons o x O=>
  intro d j ht;have I:∀o∈x,An ks o:=λo J=>j o (by simp[J]);rw[BG] at ht ⊢;rw[Bz,Cs];rcases j o E_ with⟨k,_,_,N,_⟩|⟨k,_,_,_,N⟩|⟨k,_⟩;simp only[k,aAh] at ht ⊢;grind;grind;grind
theorem Ig.Sf(I:ks.length<=64){p:W_}(h:Ig ks d)(hp:Kw ks p){i j:Nat}(J:i<=j):Ig ks (Sf d i j (CJ ks p)):=by
 refine⟨λc hc=>?_,by rw[iz d (CJ ks p) J I'];exact h.LW⟩;rcases K8.1 hc with hc|hc;rcases K8.1 hc with hc|hc;exact h.set c (zF hc);obtain⟨c0,N,rfl⟩:=WJ.1 hc;exact(h.set c0 (zF (oy N))).K4 I (hp.part _);exact h.set c (oy hc)
def U3{a b:Y_}(hb:b≠[]):(BK (a++b)).getLast?=(BK b).getLast?:=by
 grind[List.getLast?_eq_none_iff]
def tE{b:Y_}(h:(BK b).getLast?=some 10):b≠[]:=B_
def Oe:U'->Nat
 |[]=>0
 |o::x=>(if o.AR=2 then o.AZ.length else 0)+Oe x
def qA:∀x:U',Oe x<=Cs x/\Cs x<=Oe x+BG x:=by
 intro x;induction x with
 |nil=>exact⟨DN _,DN _⟩
 |cons o x j=>
  grind[Oe,Cs,BG]
def nX:∀{x:U'} {d:Y_},(Qw ks d x).length+Oe x=(Bz ks d x).length:=by
 intro x;induction x with
 |nil=>intro d;rfl
 |cons o x j=>
  grind[Qw,Oe,Bz]
section
variable {w0:c_}{F:d_}{W:c_}{a:TxA}{σ:SKs}{most:Int}{d:Y_}
def ZL{S D:d_}{x:U'}(h:KB .f w0 F W a σ most d)(hT:CH w0)(hG:Ig σ.ks d)(b7:σ.ks.length<=64)(hK:∀k∈σ.ks,E9 k)(hx:Ag S D W v x)(da:∀y,S y\/D y->¬F y)(hI:∀o∈x,Is o) (hl:x.length<=4294967296)(hz:d.length<=536870912)(cu:most<=536870912) : l_ 42 [e_ a.b,v] (λv' w'=>v'=zIq (Ef σ.ks x d.length most)/\VX .f w0 F W w' a σ most (if Ef σ.ks x d.length most=0 then Bz σ.ks d x else d)/\(Ef σ.ks x d.length most=0->Ig σ.ks (Bz σ.ks d x))) W:=by
 refine H_ func42 ?_ (.y (.y (.z (.x (.dm [6,11] [0,1,3,7,0,0,32,0,128,384,896,2047,4095])) (.y (.z (.y (.node [6,31] [(6,6),(8,8),(31,61)] .nil .nil)) (.y (.x (.y (.node [6,64] [(6,6),(10,10),(64,90)] (.y (.y (.x (.y (.cut [6] [(6,6),(68,74)] .nil .nil))))) .nil)))))))));apply AA (GN h.box.1);rintro _ _ ⟨rfl,rfl⟩;rename c_=>W;rw [Aj];apply AM;have gd:=gdr W;have hd:=h.S_ gd;apply Ac (λ_ _=>False);apply AJ;rw [AE,AH];refine AP ⟨hd.box.1.cells 0 _ rfl,C_⟩ ?_;obtain ⟨l1,Fr,bt,dk,hO⟩:=hd.MV;apply AA (iD hd.box.1 hO);rintro _ W1 ⟨rfl,g1⟩;have c4:(CM l1).length=d.length:=B_;rw [c4];refine ⟨E,?_⟩;apply AJ;rw [AE,AH];refine AP ⟨hd.box.1.cells 1 _ rfl,C_⟩ ?_;have h1:=hd.S_ g1;have b8:=gd.trans g1;have c6:Ag (λy=>S y/\y < W.heap.size) (λy=>D y/\y < W.heap.size) W v x:=Al.sub hx B_ C0 λr o ho=>ho.T_ j0 E' B_;have b9:=Ag.S_ c6 b8;refine AA (VU h1.Ho.1 b9 (hT.S_ h1.g) (by grind[Is.o]) hl E) ?_;rintro _ W2 ⟨rfl,g2⟩;refine ⟨E,?_⟩;have ax:=b8.trans g2;have h2:=h1.S_ g2;have c7:=Ag.S_ b9 g2;refine neP (λe0=>?_) λe0=>⟨rfl,by rw [By e0];exact ⟨F,K_,h2,ax.mono G_⟩,λe=>absurd e e0⟩;rw [Ix e0,e0];have hF:=(Ca hl).1 e0;have a8:∀ o ∈ x,An σ.ks o:=λo ho=>(hF.Eo o ho).1;have ba:∀ o ∈ x,Dw σ.ks o.set/\Kw σ.ks o.AU:=λo ho=>opG hK (a8 o ho) ⟨λa ha=>((hI o ho).1 a ha).2,λc hc=>((hI o ho).2 c hc).2⟩;obtain ⟨va,vc,rfl,hm⟩:=c7.AK;rw [AO];have dr:=ax.size;have cx:∀ {F':d_} {W':c_},(∀ y,F' y->F y\/W2.heap.size<=y)->∀ y,(S y/\y < W.heap.size)\/(D y/\y < W.heap.size)->¬ F' y:=B_;refine Aa (λvs W'=>∃ (i:Nat) (I J:Y_) (F':d_),i<=x.length/\vs=[zIq (I.length:Int),zIq i]/\(∀ y,F' y->F y\/W2.heap.size<=y)/\KB .f w0 F' W' a σ most (I++J)/\AF F W2 W'/\Ig σ.ks (I++J)/\
   I++Qw σ.ks J (x.drop i)=Qw σ.ks d x/\BG (x.drop i)<=J.length/\J.length<=d.length/\Cj d.length ((d.length:Int) - J.length) (x.drop i)/\I.length+J.length<=d.length) (λvs _=>x.length - Da vs 1)
  ⟨0,[],d,F,Lc _,rfl,K_,h2,AF.refl _ _,hG,rfl,hF.MA,DN _,by grind[Ii.HA],E_⟩ ?_
 rintro vs W3 ⟨i,I,J,F3,hi,rfl,f3,h3,M3,O,Q,Y,an,V,U⟩ _;simp only[Ha];rw[DX];have z3:=M3.size;have ay:Ag (λy=>S y/\y<W.heap.size) (λy=>D y/\y<W.heap.size) W3 (.slice va x.length vc) x:=by grind[Ag.T_]
 refine Ae (λc8=>?_) λc9=>?_;have N:i<x.length:=E;obtain⟨q,r,rfl,hS,hr,hc,Z⟩:=ay.get N;refine AV N (AX hr (by grind[Addr.add_add]) ?_);refine BA hr rfl Z.one λb W4 hb ca g4 X _=>?_;obtain⟨rv,sv,pv,rfl,o1,o2,o3⟩:=id Z;have h4:=h3.S_ g4;rw[y8 N] at Q Y V;rw[BG] at Y;rw[Cj] at V;rw[Qw] at Q;have a6:=S7 N;have aa:=h3.hl;have a7:AF F W2 W4:=by grind[AF.next]
 have b0:∀{W5:c_},AF F3 W4 W5->∀(j:Nat) (u:b_),[Value.int .u8 x[i].AR,zIq x[i].n,rv,sv,pv][j]?=some u->W5.cell? ((⟨b,0,none⟩:Addr).add j)=some u:=λhm j u hu=>hm.cell (X j u hu) λe=>by rw[Ai] at e;grind
 have Zk:∀{W5:c_},AF F3 W4 W5->AF F W2 W5:=λhm=>a7.next hm B_;rw[AE];apply AI (X 0 _ rfl);rw[CI];rcases a8 x[i] a6 with⟨k,e1,e2,n1,e4⟩|⟨k,e1,e2,e3,n1⟩|⟨k,e1,e2,e3,e4,e5⟩;refine Ae (λ_=>?_) (absurd k);rw[By E] at Y;rw[By E,By E] at V;rw[Ix k] at Q;have en:x[i].n=(x[i].n.toNat:Int):=E;generalize hn:x[i].n.toNat=n at *;rw[AE];apply AI (X 1 _ rfl);rw[en,AQ,wrap64 E E,show((I.length:Int)+(n:Int))=((I.length+n:Nat):Int) by omega,AE];apply AI (X 4 _ rfl);have bb:=(ba x[i] a6).2;refine AA (mM (i:=I.length) (j:=I.length+n) h4 hT O b7 E (by rw[Bp];omega) (o3.S_ g4 C0 C_) B_ bb B_) ?_;rintro _ W5 ⟨rfl,F5,f5,h5,M5⟩;rw[AE];apply AI (b0 M5 1 _ rfl);rw[en,AQ,wrap64 E E,show((I.length:Int)+(n:Int))=((I.length+n:Nat):Int) by omega,AQ,AL E];have ak:Sf (I++J) I.length (I.length+n) (CJ σ.ks x[i].AU)=(I++(J.take n).map (CJ σ.ks x[i].AU))++J.drop n:=by
  unfold Sf;rw[aCm rfl,aCG,aAZ E,show I.length+n-I.length=n by omega,aCl rfl,aCH,aA4 E,show I.length+n-I.length=n by omega,aAP]
 have bk:=O.Sf b7 bb (i:=I.length) (j:=I.length+n) E;rw[ak] at h5 bk;have ll:(I++(J.take n).map (CJ σ.ks x[i].AU)).length=I.length+n:=by rw[Bp,Nn,S5];omega
 refine⟨⟨i+1,I++(J.take n).map (CJ σ.ks x[i].AU),J.drop n,F5,N,by rw[ll],λy hy=>?_,h5,Zk M5,bk,B_,by rw[I3];omega,by rw[I3];omega,?_,by rw[ll,I3];omega⟩,by rw[BV,BV];omega⟩;grind;rw[I3,show(d.length:Int)-((J.length-n:Nat):Int)=(d.length:Int)-J.length+x[i].n by omega];exact V;refine Ae E λ_=>?_;refine eqP (λ_=>?_) (absurd k);rw[By E] at Y;rw[By E,Ix k] at V;rw[By E,By E] at Q;have en:x[i].n=(x[i].n.toNat:Int):=E;generalize hn:x[i].n.toNat=n at *;have bl:n<J.length:=E;rw[AE];apply AI (X 1 _ rfl);rw[en,AQ,wrap64 E E,show((I.length:Int)+(n:Int))=((I.length+n:Nat):Int) by omega];refine AA (mF (i:=I.length) (j:=I.length+n) h4 E (by rw[Bp];omega) B_) ?_;rintro _ W5 ⟨rfl,F5,f5,h5,M5⟩;rw[AQ,AL E];have ak:(I++J).take I.length++(I++J).drop (I.length+n)=I++J.drop n:=by
  rw[aCm rfl,aCH,aA4 E,show I.length+n-I.length=n by omega,aAP]
 rw[ak] at h5;have b6:J≠[]:=B_;have QI:J.drop n≠[]:=λe=>by have:=r9 List.length e;rw[I3] at this;grind
 have bp:=O.LW;rw[U3 b6] at bp;refine⟨⟨i+1,I,J.drop n,F5,N,rfl,λy hy=>?_,h5,Zk M5,⟨λc hc=>O.set c ?_,?_⟩,Q,by rw[I3];omega,by rw[I3];omega,?_,by rw[I3];omega⟩,by rw[BV,BV];omega⟩;rcases f5 y hy with e|e;grind;omega;rcases K8.1 hc with hc|hc;exact aAT _ hc;exact aAJ _ (oy hc);rw[U3 QI,BK,aAe,aBz,By B_];exact bp;rw[I3,show(d.length:Int)-((J.length-n:Nat):Int)=(d.length:Int)-J.length+x[i].n by omega];exact V.2;refine Ae E λ_=>?_;refine eqP E λ_=>?_;rw[Ix k] at Y V;rw[By E,Ix k] at Q;rw[AQ,AL E];exact⟨⟨i+1,I,J,F3,N,rfl,f3,h4,a7,O,Q,E,an,V.2,U⟩,by rw[BV,BV];omega⟩;have av:([]:Y_).length+(Qw σ.ks d (x.drop 0)).length+Oe (x.drop 0)<=536870912:=by
  have h1:=nX (ks:=σ.ks) (x:=x) (d:=d);have h2:=KX (ks:=σ.ks) a8 hF.MA;have h3:=hF.most;rw[aAG,aAu];omega
 obtain rfl:i=x.length:=E;rw[aAv,Qw] at Q;rw[Q] at h3 O;have dz:∀y:U',∀o∈y,o.AR=2->o.AZ.length<=Oe y:=by
  intro y;induction y with
  |nil=>grind
  |cons o' y ih=>
   grind[Oe]
 rw [AO];refine Aa (λvs W'=>∃ (i:Nat) (I J:Y_) (F':d_),i<=x.length/\vs=[zIq (I.length:Int),zIq i]/\(∀ y,F' y->F y\/W2.heap.size<=y)/\KB .f w0 F' W' a σ most (I++Qw σ.ks J (x.drop i))/\AF F W2 W'/\Ig σ.ks (I++Qw σ.ks J (x.drop i))/\
   I++Bz σ.ks J (x.drop i)=Bz σ.ks d x/\BG (x.drop i)<=J.length/\J.length<=d.length/\Cj d.length ((d.length:Int) - J.length) (x.drop i)/\(J≠[]->(BK J).getLast?=some 10)/\I.length+(Qw σ.ks J (x.drop i)).length+Oe (x.drop i)<=536870912) (λvs _=>x.length - Da vs 1)
  ⟨0,[],d,F3,Lc _,rfl,f3,h3,M3,O,rfl,hF.MA,DN _,by grind[Ii.HA],λ_=>hG.LW,av⟩ ?_
 rintro vs W3 ⟨i,I,J,F3,hi,rfl,f3,h3,M3,O,Q,Y,an,V,a1,U⟩ _;simp only[HK,aAc];rw[DX];have z3:=M3.size;have ay:Ag (λy=>S y/\y<W.heap.size) (λy=>D y/\y<W.heap.size) W3 (.slice va x.length vc) x:=by grind[Ag.T_]
 refine Ae (λc8=>?_) λc9=>?_;rotate_left;obtain rfl:i=x.length:=E;rw[aAv] at h3 Q O;rw[Qw] at h3 O;rw[Bz] at Q;rw[Q] at h3 O;refine⟨trivial,VX.next K_ (ax.mono G_) ⟨F3,f3,h3,M3⟩,λ_=>O⟩;have N:i<x.length:=E;obtain⟨q,r,rfl,hS,hr,hc,Z⟩:=ay.get N;refine AV N (AX hr (by grind[Addr.add_add]) ?_);refine BA hr rfl Z.one λb W4 hb ca g4 X _=>?_;obtain⟨rv,sv,pv,rfl,o1,o2,o3⟩:=id Z;have h4:=h3.S_ g4;have z4:=g4.size;rw[y8 N] at Q Y V h4 O U;rw[BG] at Y;rw[Oe] at U;rw[Cj] at V;rw[Qw] at h4 O U;rw[Bz] at Q;have a6:=S7 N;have aa:=h3.hl;have a7:AF F W2 W4:=M3.next g4 G_;rcases a8 x[i] a6 with⟨k,e1,e2,n1,e4⟩|⟨k,e1,e2,e3,n1⟩|⟨k,e1,e2,e3,e4,e5⟩;simp only[k,show ¬(1:Int)=2 by decide,aAh,aAW] at Y U V h4 O Q;have en:x[i].n=(x[i].n.toNat:Int):=E;generalize hn:x[i].n.toNat=n at *;have ll:(I++(J.take n).map (CJ σ.ks x[i].AU)).length=I.length+n:=by rw[Bp,Nn,S5];omega
 refine AT (λvs W'=>vs=[zIq ((I.length+n:Nat):Int)]/\W'=W4) ?_ ?_;rintro _ _ ⟨rfl,rfl⟩ _;rw[AE];apply AI (X 0 _ rfl);refine eqP E λ_=>?_;rw[HK,AQ,AL E];refine⟨⟨i+1,I++(J.take n).map (CJ σ.ks x[i].AU),J.drop n,F3,N,by rw[ll],f3,B_,a7,B_,B_,by rw[I3];omega,by rw[I3];omega,?_,λbs=>?_,by rw[ll];rw[Bp,Nn,S5] at U;omega⟩,by rw[BV,BV];omega⟩;rw[I3,show(d.length:Int)-((J.length-n:Nat):Int)=(d.length:Int)-J.length+x[i].n by omega];exact V;have bl:n<J.length:=Nat.lt_of_not_le λe=>bs (aA4 e);rw[BK,aAe,aBz,By B_];grind;rw[AE];apply AI (X 0 _ rfl);refine eqP (λ_=>?_) (absurd k);rw[AE];apply AI (X 1 _ rfl);rw[en,AQ,wrap64 E E];exact B_;simp only[k,show ¬(3:Int)=2 by decide,show ¬(3:Int)=1 by decide,aAh,aAW] at Y U V h4 O Q;have en:x[i].n=(x[i].n.toNat:Int):=E;generalize hn:x[i].n.toNat=n at *;have bl:n<J.length:=E;refine AT (λvs W'=>vs=[zIq (I.length:Int)]/\W'=W4) ?_ ?_;rintro _ _ ⟨rfl,rfl⟩ _;rw[AE];apply AI (X 0 _ rfl);refine eqP E λ_=>?_;rw[HK,AQ,AL E];refine⟨⟨i+1,I,J.drop n,F3,N,rfl,f3,h4,a7,O,Q,by rw[I3];omega,by rw[I3];omega,?_,λbs=>?_,E⟩,by rw[BV,BV];omega⟩;rw[I3,show(d.length:Int)-((J.length-n:Nat):Int)=(d.length:Int)-J.length+x[i].n by omega];exact V.2;rw[BK,aAe,aBz,By (by rw[Nn];omega)];grind;rw[AE];apply AI (X 0 _ rfl);exact eqP E B_;simp only[k,show ¬(2:Int)=1 by decide,aAh,aAW] at Y U V h4 O Q;obtain⟨sG,_⟩:=ba x[i] a6;have cc:=Pe k sG.1 (hF.pl x[i] a6);have b6:J≠[]:=B_;have al:=kQ (ks:=σ.ks) (n:=d.length) (x:=x.drop (i+1)) (d:=J) (λo ho=>a8 o (oy ho)) E an V.2 (a1 b6);obtain⟨ra,rc,cq,dT⟩:=o1.AK;refine AT (λvs W'=>vs=[zIq (I.length:Int)]/\W'=W4) ?_ ?_;rintro _ _ ⟨rfl,rfl⟩ _;rw[AE];apply AI (X 0 _ rfl);refine eqP (λ_=>?_) (absurd k);rw[AE];apply AI (X 2 _ rfl);rw[AE];apply AI (X 3 _ rfl);rw[HK];refine AA (V8 (at':=I.length) (S:=λy=>D y/\y<W.heap.size) h4 hT (by rw[Bp];omega) (o1.S_ g4 C0 C_) (o2.S_ g4 C0 C_) B_ e1 (FC.2 (sG.part false).1) sG.2 sG.len (by rw[Bp];omega)) ?_;rintro _ W5 ⟨rfl,F5,f5,h5,M5⟩;rw[AE];apply AI (M5.cell (X 2 _ rfl) λe=>by rw[Ai] at e;have:=(aa _ e).2.1;grind);rw[cq,AO,AQ,wrap64 E E,show((I.length:Int)+(x[i].AZ.length:Int))=((I.length+x[i].AZ.length:Nat):Int) by omega,AQ,AL E];have bx:(I++Qw σ.ks J (x.drop (i+1))).take I.length++x[i].AZ.map (GK σ.ks x[i].set)++(I++Qw σ.ks J (x.drop (i+1))).drop I.length=(I++x[i].AZ.map λr=>(⟨r,x[i].set⟩:Cel))++Qw σ.ks J (x.drop (i+1)):=by
  rw[aCm rfl,aCl rfl,cc]
 rw[bx] at h5;have ll:(I++x[i].AZ.map λr=>(⟨r,x[i].set⟩:Cel)).length=I.length+x[i].AZ.length:=by rw[Bp,Nn]
 refine⟨⟨i+1,I++x[i].AZ.map λr=>(⟨r,x[i].set⟩:Cel),J,F5,N,by rw[ll],λy hy=>?_,h5,?_,⟨λc hc=>?_,?_⟩,B_,E,an,V.2,a1,E⟩,by rw[BV,BV];omega⟩;rcases f5 y hy with e|e;exact f3 y e;omega;refine a7.next M5 λy hy e=>?_;rcases f3 y e with e|e;exact e;omega;rcases K8.1 hc with hc|hc;rcases K8.1 hc with hc|hc;exact O.set c (aAT _ hc);obtain⟨r,_,rfl⟩:=WJ.1 hc;exact sG;exact O.set c (aAJ _ hc);rw[U3 (tE al)];exact al;rw[AE];apply AI (X 0 _ rfl);exact eqP E B_
end
end Go.Proofs.YtjdgbcdfgnajlaaGreatDoor
