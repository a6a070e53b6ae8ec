/- parts of the proof -/
import Derived.Test.YtlmjclmngedmkaaGreatDoorZZZ2
set_option linter.all false
set_option maxRecDepth 100000
namespace Go.Proofs.YtlmjclmngedmkaaGreatDoor
open Go Proofs.Tryz
variable {j e c B N O:Nat}{w W W' w' w0:e_}{S F C M S':f_}{v sv fr xv:d_}{most:Int}{cs:V_}{a:V'}{α:Type}{p:W_}{ks:Y'}{rs:X_}{K:Cont}{P:Program}{yo xo:Operand}
def PL.U_{st:Prop}{o N:Nat}{i:Nat->V_}{Rd:f_}(h:PL st P o cs i N Rd w)(g:AI w w'):PL st P o cs i N Rd w':=by
 intro l J B I O h0 hJ UF MU hr;refine h l J B I (g.trans O) h0 hJ UF (λk Q W hk b hb j=>?_) hr;exact(MU k Q W hk b (Nn hb g.size) j).trans (g.Ap b hb E_)
structure nG {α:Type} (e k:Nat) (R:e_->V_->α->Prop) (B c m:Nat) (It:f_) (W:e_) (out:d_) (l:List α):Prop where
 box:Bx W c [out]
 row:AG B e k R W out l
 hc:∀g,out.ownBlock=some g->g≠c/\g≠m/\g≠m+1/\¬It g
def Tn{cap vals:V_}{Rd:f_}{X:Z'}(hs:PL True prog N cap (λk=>[vals.getD k undef]) vals.length Rd W)(a8:En N=true)(hv:vals.length=X.length)(hx:∀m (h1:m<vals.length) (Z:m<X.length),vals[m]=.agg X[m].cells.toArray)(MU:∀x,Rd x->x<W.heap.size)(hl:X.length<=109951162777) : AF prog 177 [.func (.func N) #[] cap.toArray] (λv' w'=>AG W.heap.size 178 2 (λ_ r x=>r=Spn.cells x) w' v' X/\AI W w') W:=by
 apply H_ func177;apply Q_ func237;refine ES rfl λc I hc g1 B=>?_;have b0:=B.lt (P9 _);have z1:=g1.size;refine Md ⟨True,N,cap,_,_,_,rfl,a8,hs.U_ g1,λk _=>rfl,?_⟩;refine⟨λk O J=>∃out,nG 178 2 (λ_ r x=>r=Spn.cells x) I.heap.size c I.heap.size O J out (X.take k)/\AK (λx=>x=c) I J/\k<=X.length,λ_ _ _=>False,⟨_,⟨B,AG.nil,λg i=>nomatch i⟩,AK.refl _ _,Hw _⟩,?_,λx O aa W J h=>h.elim,?_,?_,?_,λx O W h=>h.elim⟩
 .rintro k O aa J b6 ⟨out,q,m,hk⟩ hm j;have a1:=q.box.lt (P9 _);have hn:∀x,x<I.heap.size->¬((¬True/\O x)\/x=I.heap.size\/x=I.heap.size+1):=λx hx=>by rintro(⟨h,_⟩|h|h);exact h trivial;all_goals omega
  refine⟨out,⟨q.box.U' hm (hn c E),AG.U' q.row hm (λg i=>?_) F_,λg i=>?_⟩,m.next hm λx hx=>?_,hk⟩;obtain⟨_,Z,h3,_⟩:=q.hc g i;rintro(⟨h,_⟩|h|h);exact h trivial;exact Z h;exact h3 h;obtain⟨h1,Z,h3,h4⟩:=q.hc g i;refine⟨h1,Z,h3,λh=>?_⟩;rcases(j g h).1 with h|h;exact h4 h;have:=(AG.Az q.row g i).2;omega;intro e;exact absurd e (hn x hx)
 rintro k O J ⟨out,q,m,hk⟩ b hb hr;exact m.Ap b hb λe=>by have:=MU b hr;omega
 rintro k O J hk ⟨out,q,m,b7⟩ hz j;have Q:k<X.length:=E;have V:(Bm [vals.getD k undef] 0)=.agg X[k].cells.toArray:=by
  show vals.getD k undef=_;rw[wC,By hk,zO,hx k hk Q]
 rw[V];refine Bx.new (vs:=X[k].cells) rfl rfl (Spn.one _) λb5 W5 b8 g5 B5=>?_;refine Nz g5 hz j E' λW6 o=>?_;have z5:=g5.size;have z6:=o.size;have a1:=q.box.lt (P9 _);have ak:=B5.lt (P9 _);have B6:=(q.box.U_ g5).U' o E;have o6:AG I.heap.size 178 2 (λ_ r x=>r=Spn.cells x) W6 out (X.take k):=AG.U' (AG.U' (R':=λ_ r x=>r=Spn.cells x) q.row g5 C0 F_) o (λg i=>(q.hc g i).2.2.1) F_;apply AD (B6.cells 0 _ rfl);apply(B5.U' o E).GN rfl;have b9:(X.take k).length<=X.length:=by simp;omega
 refine FL Ej.elE o6 E (cs:=X[k].cells) (x:=X[k]) (Dj (v:=.agg X[k].cells.toArray) rfl B_ rfl rfl) rfl rfl (λ_ _ _ h=>by subst h;exact Spn.one _) N_ (by show _*16<=_;omega) L_ λa6 W9 o9 m9 n9=>?_;have ba:=AG.Az o6;obtain⟨al,an⟩:=o9.one;refine(B6.U' m9 λe=>(q.hc c e).1 rfl).st (q:=0) (B_:0<1) al an λav ax Y=>?_;have bb:=Y.size;have U:AK (λx=>x=c\/out.ownBlock=some x) W6 av:=(m9.mono λ_ _ e=>.inr e).trans (Y.mono λ_ _ e=>.inl e);refine⟨SK U E (λb hb=>by have:=(j b hb).1;omega) (λb _ e=>?_),a6,⟨ax,?_,λg i=>?_⟩,?_,E⟩;rcases e with rfl|e;exact⟨λh=>by have:=(j b h).2;omega,E,E⟩;obtain⟨h1,Z,h3,h4⟩:=q.hc b e;exact⟨h4,Z,h3⟩;have ay:X.take (k+1)=X.take k++[X[k]]:=by rw[Lc];simp[Q]
 rw [ay];exact AG.U' o9 Y (λg i e=>by
  rcases n9 g i with h | h;exact (q.hc g h).1 e;omega) F_
 rcases n9 g i with h|h;exact q.hc g h;refine⟨E,E,E,λhI=>by have:=(j g hI).1;omega⟩;refine((m.next g5 E').next o E).next U λx hx e=>?_
 rcases e with e|e;exact e;have:=(AG.Az q.row x e).1;omega;rintro O J ⟨out,q,m,hk⟩ _ _ hd;refine AD (q.box.cells 0 _ rfl) ⟨hd,?_⟩;have a7:AK (λb=>b=I.heap.size) J (J.putObj I.heap.size (.deferred none)):=AK.putObj _ _ _ rfl;rw[hv,Nr] at q;refine⟨AG.Bk (AG.U' q.row a7 (λg i=>(q.hc g i).2.1) F_) λg i=>?_,?_⟩;have:=(AG.Az q.row g i).1;omega;exact(g1.next m E).next a7 E
abbrev Il:f_:=λ_=>False
abbrev HQ:e_->V_->Spn->Prop:=λ_ r x=>r=Spn.cells x
abbrev HU(l:Z'):Nat:=Tr.sz Spn.kd.μ l
def vU(l:Z'):Tr.mk Spn.kd.μ l=0:=by
 induction l with
 |nil=>rfl
 |cons x l i=>rw[Tr.EB,i];rfl
def ni{l:Z'}(h:HU l<=1099511627776):FN Ej.toAvT l:=⟨h,by show Tr.mk Spn.kd.μ l<=_;rw[vU];omega⟩
def GH(l:Z'):HU l=(l.flatMap Spn.u).length:=Spn.FQ.sz l
def cy(l:Z')(i j:Nat):(Spn.kd.Au l i j).length<=l.length:=by
 induction l generalizing i j with
 |nil=>exact HK _
 |cons x l o=>
  simp[Kd.Au,Ad,Hn];have:=o (i-(Spn.kd.μ x).1) (j-(Spn.kd.μ x).1);split<;>simp<;>omega
def Pc{b bt N i j:Nat}{l:Z'}(h:Eu Ej.toAvT F Il W b bt l N)(hN:N<=109951162000)(V:i<=j)(Y:j<=HU l)(Z:HU l<=1099511627776)(hl:l.length<=109951162777) : AF prog 114 [g_ b,zI (i:Int),zI (j:Int)] (λv' w'=>∃rv,v'=.tuple #[rv,zI 0]/\AG W.heap.size 178 2 HQ w' rv (Spn.kd.Au l i j)/\AI W w') W:=by
 apply I' func114;apply AA (Mn L8 h);rintro _ w1 ⟨rfl,B⟩;have hb:Vr (i:Int) (j:Int) ((Tr.sz Ej.k.μ l:Nat):Int)=0:=by
  have:j<=Tr.sz Ej.k.μ l:=Y;unfold Vr;rw[Bp E,Bp E,Bp E]
 rw[hb,BH];refine AT (λ_=>?_) λe=>(e rfl).elim;apply AA (Fm L8 (h.U_ B));rintro _ _ ⟨rfl,rfl⟩;rename e_=>w1;obtain⟨A,T,h1,h2,h3,rfl,h5⟩:=(h.U_ B).FZ;apply AA (YU (g:=Ej) h1 E h2 h3 (ni Z) E E);rintro _ w3 ⟨cap,U,Rd,rfl,O,I,J,MU,o⟩;have ho:=cy T.toL i j;refine AA (Tn (X:=Spn.kd.Au T.toL i j) o C_ I (λm q1 q2=>?_) (λx hx=>(MU x hx).2) E) ?_;obtain⟨r,e1,e2⟩:=J m q1 q2;rw[e1,ZQ];have e3:r=Spn.cells (Spn.kd.Au T.toL i j)[m]:=e2;rw[e3];rintro rv w4 ⟨Q,g4⟩;have s1:=B.size;have s3:=O.size;exact⟨rv,rfl,AG.Bk Q λg hg=>by have:=(AG.Az Q g hg).1;omega,(B.trans O).trans g4⟩
def nY{L:Z'}(Q:BC S 2 HQ W v L)(J:∀s∈L,0<=s.id)(hl:L.length<=109951162777) : AF prog 320 [v,.func (.func 321) #[] #[]] (λv' w'=>v'=.bool false/\AI W w') W:=by
 apply G_ func320;have key:AF prog 343 [v,.func (.func 321) #[] #[]] (λv' w'=>v'=zI (-1)/\AI W w') W:=by
  refine G_ func343 ?_ (.y (.x (.y (.node [8] [(4,5),(8,18)] .nil .nil))));obtain⟨a,c,rfl,hm⟩:=Q.AO;have O:=Q.JR B_;rw[AP];apply AX (λvs Y=>∃i:Nat,i<=L.length/\vs=[zI i]/\AI W Y) (λvs _=>L.length-Di vs 0) ⟨0,Hw _,rfl,AK.refl _ _⟩;rintro vs Z ⟨i,hi,rfl,I⟩ _;simp only[Bh,JS];rw[As];refine AE (λU=>?_) λV=>⟨trivial,I⟩;have o:i<L.length:=E;obtain⟨p,r,rfl,_,hr,hc,rfl⟩:=O.get o;refine AW o (Ab (vs:=L[i].cells) rfl (λj u hu=>by rw[Addr.add_add];exact I.cell (hc j u hu) E_) ?_);apply Fa C_;apply H_ func321;refine Bx.box λb w2 hb X B=>?_;rw[AB,AH];apply AD (B.cells 0 _ rfl);rw[As];refine AE E λ_=>?_;rw[AB,AH];apply AD (B.cells 1 _ rfl);rw[As];have:=J L[i] (Q0 o);refine AE E λ_=>?_;rw[AR,AM E];exact⟨⟨i+1,o,rfl,I.trans X⟩,by rw[CL,CL];omega⟩
 apply AA key;rintro _ w1 ⟨rfl,I⟩;rw[DR];exact⟨rfl,I⟩
def Yx{l L:Z'}{i j:Nat}(h:HU l+HU L<=1099511627776)(B:i<=j)(Q:j<=HU l):HU (Spn.kd.Cw l i j L)+(j-i)=HU l+HU L/\HU ((Spn.kd.split l i).1.getLast?.toList++L++(Spn.kd.split (Spn.kd.split l i).2 (j-i)).2.head?.toList)<=HU l+HU L:=by
 have I:=tZ List.length (Spn.FQ.Cw l L B);rw[<-GH,Ad,Ad,K8,FB,<-GH,<-GH] at I;refine⟨E,?_⟩;have J:∀m:Z',HU m.getLast?.toList<=HU m:=λm=>by
  rcases tG m with rfl|⟨o,y,rfl⟩;exact HK _;simp[HU,Tr.sz]
 have O:∀m:Z',HU m.head?.toList<=HU m:=λm=>by
  cases m with
  |nil=>exact HK _
  |cons y m=>simp[HU,Tr.sz]
 have h1:=J (Spn.kd.split l i).1;have U:=O (Spn.kd.split (Spn.kd.split l i).2 (j-i)).2;unfold HU at *;rw[Tr.DI,Tr.DI];have V:Tr.sz Spn.kd.μ (Spn.kd.split l i).1+Tr.sz Spn.kd.μ (Spn.kd.split l i).2=Tr.sz Spn.kd.μ l:=(G1 (g:=Ej.toAvT) l i).1;have X:Tr.sz Spn.kd.μ (Spn.kd.split (Spn.kd.split l i).2 (j-i)).1+Tr.sz Spn.kd.μ (Spn.kd.split (Spn.kd.split l i).2 (j-i)).2=Tr.sz Spn.kd.μ (Spn.kd.split l i).2:=(G1 (g:=Ej.toAvT) (Spn.kd.split l i).2 (j-i)).1;omega
def ZV{b bt N i j:Nat}{l L:Z'}(h:Eu Ej.toAvT F Il W b bt l N)(hN:N+L.length<=109951162000)(J:i<=j)(Y:j<=HU l)(hs:HU l+HU L<=536870912)(Q:BC S 2 HQ W v L)(hS:∀x,S x->¬F x)(U:∀s∈L,0<=s.id) : AF prog 268 [g_ b,zI (i:Int),zI (j:Int),v] (λv' w'=>v'=zI 0/\∃F',(∀x,F x->F' x)/\(∀x,F' x->F x\/W.heap.size<=x)/\Eu Ej.toAvT F' Il w' b bt (Spn.kd.Cw l i j L) (N+L.length+4)/\AK F W w') W:=by
 refine O_ func268 ?_ (.y (.y (.y (.y (.y (.x (.y (.node [10,33] [(8,8),(10,10),(12,12),(33,45)] .nil .nil))))))));refine Dp (AS ?_);apply AA (nY Q U E);rintro _ w1 ⟨rfl,Z⟩;apply AS;have h1:=h.U_ Z;apply AA (Mn L8 h1);rintro _ w2 ⟨rfl,g2⟩;have hb:Vr (i:Int) (j:Int) ((Tr.sz Ej.k.μ l:Nat):Int)=0:=by
  have:j<=Tr.sz Ej.k.μ l:=Y;unfold Vr;rw[Bp E,Bp E,Bp E]
 rw[hb,BH];refine AT (λ_=>?_) λe=>(e rfl).elim;apply AA (RG L8 (h1.U_ g2));rintro _ w3 ⟨rfl,g3⟩;have Ln:Tr.sz Ej.k.μ l=HU l:=rfl;rw[Ln,A6,wrap64 E E,AR,wrap64 E E,A6,wrap64 E E];obtain⟨a,c,rfl,hm⟩:=Q.AO;have V:=Q.JR B_;rw[AP];apply AX (λvs W'=>∃k:Nat,k<=L.length/\vs=[zI ((536870912:Int)-HU l+j-i-HU (L.take k)),zI k]/\AI W W') (λvs _=>L.length-Di vs 1) ⟨0,Hw _,by simp[HU,Tr.sz],(Z.trans g2).trans g3⟩;rintro vs W1 ⟨k,hk,rfl,I⟩ _;simp only[Iu];refine HP (λa1=>?_) λa6=>?_;have o:k<L.length:=E;have X:L.take (k+1)=L.take k++[L[k]]:=by rw[Lc];simp[o]
 have a7:HU L=HU (L.take (k+1))+HU (L.drop (k+1)):=by unfold HU;rw[<-Tr.DI,QC]
 have O:HU (L.take (k+1))=HU (L.take k)+L[k].n:=by rw[X];unfold HU;rw[Tr.DI];simp[Tr.sz,Spn.kd]
 obtain⟨p,r,rfl,_,hr,hc,rfl⟩:=V.get o;refine AW o (Ab (vs:=L[k].cells) rfl (λj u hu=>by rw[Addr.add_add];exact I.cell (hc j u hu) E_) ?_);refine Bx.new (vs:=L[k].cells) rfl rfl (Spn.one _) λa8 w7 hb g7 B=>?_;rw[AB,AH];apply AD (B.cells 0 _ rfl);rw[BM];refine AE E λ_=>?_;rw[AB,AH];apply AD (B.cells 0 _ rfl);rw[A6,wrap64 E E,AR,AM E];refine⟨⟨k+1,o,?_,I.trans g7⟩,by rw[BE,BE];omega⟩;rw[O];congr 2;omega;have hW:=h.U_ I;apply AA (Fm L8 hW);rintro _ _ ⟨rfl,rfl⟩;rename e_=>W1;obtain⟨q1,q2⟩:=Yx (l:=l) (L:=L) (i:=i) (j:=j) E J Y;refine AA (L5 (jf (g:=Ej)) hW E (Q.U' I F_ B_ C0) hS J E (ni E) (ni (l:=Spn.kd.Cw l i j L) E) (ni (l:=(Spn.kd.split l i).1.getLast?.toList++L++(Spn.kd.split (Spn.kd.split l i).2 (j-i)).2.head?.toList) E)) ?_;rintro _ aa ⟨F',k1,k2,k3,k4⟩;have:=I.size;exact⟨trivial,F',k1,λx hx=>(k2 x hx).imp E_ E,k3,(I.mono E').trans k4⟩
def Rg{l:c_}(h:(CE l).length<=1099511627776):FN BO.toAvT l:=⟨by show Tr.sz Ck.kd.μ l<=_;rw[Io];exact h,by show Tr.mk Ck.kd.μ l<=_;rw[UH];exact vx (Fw _) h⟩
def MY{i j:Nat}{n:Nat}(o:i<=j)(B:j<=n):Vr (i:Int) (j:Int) (n:Int)=0:=by
 unfold Vr;rw[Bp E,Bp E,Bp E]
section
variable {F:f_}{W:e_}{b bt N:Nat}{l:c_}
def jC(h:Eu BO.toAvT F Il W b bt l N):AF prog 118 [g_ b] (λv' w'=>v'=zI ((CE l).length:Int)/\AI W w') W:=by
 apply AA (RG GZ h);rintro _ w ⟨rfl,g⟩;refine⟨?_,g⟩;rw[show Tr.sz BO.toAvT.k.μ l=(CE l).length from Io l]
def Oj(h:Eu BO.toAvT F Il W b bt l N):AF prog 140 [g_ b] (λv' w'=>v'=zI (Bj (CE l):Int)/\AI W w') W:=by
 apply H_ func140;refine Dp (AS ?_);apply AA (Fm GZ h);rintro _ _ ⟨rfl,rfl⟩;rename e_=>W;obtain⟨A,T,h1,i,B,rfl,I⟩:=h.FZ;apply WV;unfold dh;apply AJ;obtain⟨c,pl,fr,j⟩:=id h1;rw[AB,AH];apply AD (j.box.cells 4 _ rfl);apply AA (Ci h1 i);rintro _ J ⟨rfl,o⟩;refine Af (vs:=[_,_,_]) (by rfl) (Af (vs:=[_,_,_]) (by rfl) (Af (vs:=[_,_,_]) (by rfl) ⟨?_,o⟩));rw[show Tr.mk BO.toAvT.k.μ T.toL=Bj (CE T.toL) from UH _]
def Ni{i:Nat}(h:Eu BO.toAvT F Il W b bt l N)(hi:i<=(CE l).length)(o:(CE l).length<=1099511627776) : AF prog 185 [g_ b,zI (i:Int)] (λv' w'=>v'=.tuple #[zI (Bj ((CE l).take i):Int),zI 0]/\AI W w') W:=by
 apply G_ func185;apply AA (Mn GZ h);rintro _ B ⟨rfl,j⟩;rw[show Tr.sz BO.toAvT.k.μ l=(CE l).length from Io l,MY (HK _) hi,BH];refine AT (λ_=>?_) λe=>(e rfl).elim;apply AA (Fm GZ (h.U_ j));rintro _ _ ⟨rfl,rfl⟩;rename e_=>B;obtain⟨A,T,h1,I,O,rfl,Q⟩:=(h.U_ j).FZ;apply AA (WB h1 I E (Rg o));rintro _ U ⟨rfl,J⟩;exact⟨rfl,j.trans J⟩
def PK(rs:X_)(k:Nat):d_:=if Bj rs<k then .tuple #[.int .i64 0,.int .i64 5] else if k=0 then .tuple #[.int .i64 0,.int .i64 0] else match JB rs (k-1) with
 |some p=>.tuple #[.int .i64 ((p+1:Nat):Int),.int .i64 0]
 |none=>undef
def Ot{k:Nat}(h:Eu BO.toAvT F Il W b bt l N)(j:(CE l).length<=1099511627776) : AF prog 200 [g_ b,zI (k:Int)] (λv' w'=>v'=PK (CE l) k/\AI W w') W:=by
 refine G_ func200 ?_ (.y (.cut [] [(4,5),(8,22)] .nil .nil));have X:=Fw (CE l);refine AV (λ_ U=>AI W U/\0<k/\k<=Bj (CE l)) ?_ ?_;rintro _ o ⟨i,B,hk⟩ _;apply AA (Fm GZ (h.U_ i));rintro _ _ ⟨rfl,rfl⟩;rename e_=>o;obtain⟨k,rfl⟩:∃I,k=I+1:=⟨k-1,E⟩;obtain⟨p,hp,J⟩:=PW (l:=CE l) (k:=k) E;obtain⟨A,T,h1,O,Y,rfl,Z⟩:=(h.U_ i).FZ;rw[A6,wrap64 E E,(E:(((k+1:Nat):Int)-1)=(k:Int))];apply AA (mq h1 O E (Rg j) hp);rintro _ w2 ⟨rfl,Q⟩;refine Bv ?_;rw[AR,wrap64 E E];refine⟨?_,i.trans Q⟩;unfold PK;rw[Bp E,Bp E,yD,hp];rfl;refine Dp (AS ?_);rw[As];refine AE E λ_=>?_;apply AA (Oj h);rintro _ w1 ⟨rfl,i⟩;rw[BM];refine AE (λe=>⟨by unfold PK;rw[Cx E],i⟩) λe=>?_;rw[Aj];refine AE (λV=>⟨by unfold PK;rw[Bp E,Cx E],i⟩) λV=>?_;exact⟨i,E,E⟩
def jG(l:c_)(i j:Nat):CE (Ck.kd.Au l i j)=((CE l).take j).drop i:=JG.Au l i j
def Ud(t l:c_){i j:Nat}(o:i<=j):CE (Ck.kd.Cw t i j l)=(CE t).take i++CE l++(CE t).drop j:=JG.Cw t l o
def Rz(l L:c_)(i j:Nat):(CE ((Ck.kd.split l i).1.getLast?.toList++L++(Ck.kd.split (Ck.kd.split l i).2 (j-i)).2.head?.toList)).length<=(CE l).length+(CE L).length:=by
 have B:=tZ List.length (JG.split l i).1;have I:=tZ List.length (JG.split l i).2;have Q:=tZ List.length (JG.split (Ck.kd.split l i).2 (j-i)).2;have J:∀m:c_,(CE m.getLast?.toList).length<=(CE m).length:=λm=>by
  rcases tG m with rfl|⟨o,y,rfl⟩;exact HK _;simp[CE]
 have O:∀m:c_,(CE m.head?.toList).length<=(CE m).length:=λm=>by
  cases m with
  |nil=>exact HK _
  |cons y m=>simp[CE]
 have h1:=J (Ck.kd.split l i).1;have U:=O (Ck.kd.split (Ck.kd.split l i).2 (j-i)).2;have e:∀a b c:c_,(CE (a++b++c)).length=(CE a).length+(CE b).length+(CE c).length:=λa b c=>by simp[CE];omega
 rw[e];rw[K8] at B;rw[FB] at I Q;show(CE _).length+_+(CE _).length<=_;unfold CE at *;omega
def Zl{i j:Nat}(h:Eu BO.toAvT F Il W b bt l N)(hN:N<=109951162000)(o:i<=j)(Q:j<=(CE l).length)(U:(CE l).length<=1099511627776) : AF prog 212 [g_ b,zI (i:Int),zI (j:Int)] (λv' w'=>v'=zI 0/\∃F' I,(∀x,F x->F' x)/\(∀x,F' x->F x\/W.heap.size<=x)/\Eu BO.toAvT F' Il w' b bt I (N+4)/\CE I=(CE l).take i++(CE l).drop j/\AK F W w') W:=by
 apply I' func212;apply AA (Mn GZ h);rintro _ V ⟨rfl,B⟩;rw[show Tr.sz BO.toAvT.k.μ l=(CE l).length from Io l,MY o Q,BH];refine AT (λ_=>?_) λe=>(e rfl).elim;have J:=h.U_ B;apply AA (Fm GZ J);rintro _ _ ⟨rfl,rfl⟩;rename e_=>V;have O:=Ud l [] o;have ep:=Rz l [] i j;have e0:(CE []).length=0:=rfl;refine AA (L5 (jf (g:=BO)) (L:=[]) (S:=λ_=>False) J (by simp[gC];omega) BC.nil K_ o E (Rg U) (Rg (l:=Ck.kd.Cw l i j []) (by rw[O];simp[CE] at *;omega)) (Rg (l:=(Ck.kd.split l i).1.getLast?.toList++[]++(Ck.kd.split (Ck.kd.split l i).2 (j-i)).2.head?.toList) E)) ?_;rintro _ X ⟨F',k1,k2,Y,Z⟩;have:=B.size;refine⟨rfl,F',_,k1,λx hx=>(k2 x hx).imp E_ E,Y,?_,(B.mono E').trans Z⟩;show CE (Ck.kd.Cw l i j [])=_;rw[O];simp[CE]
def cN{i j:Nat}(h:Eu BO.toAvT F Il W b bt l N)(hN:N<=109951162000)(av:i<=j)(hj:j<=(CE l).length)(hs:(CE l).length<=1099511627776)(hl:l.length<=109951162777) : AF prog 113 [g_ b,zI (i:Int),zI (j:Int)] (λv' w'=>∃rv,v'=.tuple #[rv,zI 0]/\AG W.heap.size 21 1 CM w' rv (((CE l).take j).drop i)/\AI W w') W:=by
 refine P' func113 ?_ (.y (.y (.x (.y (.y (.dm [2,3,4] [0,0,2,7,15]))))));refine Bx.zero λc w1 hc g1 B=>?_;have b9:=B.lt B_;have h1:=h.U_ g1;have h0:=h;apply AA (Mn GZ h1);rintro _ w2 ⟨rfl,g2⟩;rw[show Tr.sz BO.toAvT.k.μ l=(CE l).length from Io l,MY av hj,BH];refine AT (λ_=>?_) λe=>(e rfl).elim;have hW:=h1.U_ g2;apply AA (Fm GZ hW);rintro _ _ ⟨rfl,rfl⟩;rename e_=>w2;obtain⟨A,T,t1,t2,t3,rfl,t5⟩:=hW.FZ;apply AA (YU (g:=BO) t1 E t2 t3 (Rg hs) E E);rintro _ Q ⟨cap,I,Rd,rfl,g6,ax,ay,MU,a7⟩;generalize hX:Ck.kd.Au T.toL i j=X at *;have b0:I.length=X.length:=by rw[<-hX];exact ax
 have a8:CE X=((CE T.toL).take j).drop i:=by rw[<-hX];exact jG _ _ _
 have hx:∀m (h1:m<I.length) (h2:m<X.length),I[m]=.agg X[m].cells.toArray:=λm q1 q2=>by
  subst hX;obtain⟨r,e1,e2⟩:=ay m q1 q2;rw[e1,ZQ];have e3:r=Ck.cells (Ck.kd.Au T.toL i j)[m]:=e2;rw[e3]
 have bk:(CE X).length<=1099511627776:=by rw[a8,FB,K8];omega
 have z1:=g1.size;have z2:=g2.size;have z6:=g6.size;refine Md ⟨True,_,cap,_,_,_,rfl,C_,a7,λk _=>rfl,?_⟩;refine⟨λk U W'=>∃out,nG 21 1 CM Q.heap.size c Q.heap.size U W' out (CE (X.take k))/\AK (λx=>x=c) Q W'/\k<=X.length,λ_ _ _=>False,⟨_,⟨(B.U_ g2).U_ g6,AG.nil,λg o=>nomatch o⟩,AK.refl _ _,Hw _⟩,?_,λx U b6 W W' h=>h.elim,?_,?_,?_,λx U W h=>h.elim⟩
 .rintro k U b6 W' bl ⟨out,q,m,hk⟩ hm J;have hn:∀x,x<Q.heap.size->¬((¬True/\U x)\/x=Q.heap.size\/x=Q.heap.size+1):=λx hx=>by rintro(⟨h,_⟩|h|h);exact h trivial;all_goals omega
  refine⟨out,⟨q.box.U' hm (hn c E),AG.U' q.row hm (λg o=>?_) F_,λg o=>?_⟩,m.next hm λx hx=>?_,hk⟩;obtain⟨_,h2,h3,_⟩:=q.hc g o;rintro(⟨h,_⟩|h|h);exact h trivial;exact h2 h;exact h3 h;obtain⟨h1,h2,h3,h4⟩:=q.hc g o;refine⟨h1,h2,h3,λh=>?_⟩;rcases(J g h).1 with h|h;exact h4 h;have:=(AG.Az q.row g o).2;omega;intro e;exact absurd e (hn x hx)
 rintro k U W' ⟨out,q,m,hk⟩ b hb hr;exact m.Ap b hb λe=>by
  subst e;rcases(MU b hr).1 with h|h|h;have:=h0.lt b (.inl h.1);omega;exact h.elim;omega
 rintro k U W' hk ⟨out,q,m,bp⟩ hz J;have V:k<X.length:=E;have Y:(Bm [I.getD k undef] 0)=.agg X[k].cells.toArray:=by
  show I.getD k undef=_;rw[wC,By hk,zO,hx k hk V]
 rw[Y];have b7:X.take (k+1)=X.take k++[X[k]]:=by rw[Lc];simp[V]
 have aa:CE (X.take (k+1))=CE (X.take k)++X[k].l:=by rw[b7];simp only[CE,u9,vr,yp,Ty]
 have ba:(CE (X.take k)).length+X[k].l.length<=(CE X).length:=by
  have e:CE X=CE (X.take (k+1))++CE (X.drop (k+1)):=by rw[CE,CE,CE,<-u9,QC]
  rw[e,aa,Ad,Ad];omega
 refine Bx.new (vs:=X[k].cells) (Ck.len _) rfl (Ck.one _) λb5 W5 bs g5 B5=>?_;refine Nz g5 hz J E' λW6 O=>?_;have z5:=g5.size;have c4:=O.size;have bb:=q.box.lt (P9 _);have b8:=B5.lt (by rw [Ck.len];omega);have o6:AG Q.heap.size 21 1 CM W6 out (CE (X.take k)):=AG.U' (AG.U' (R':=CM) q.row g5 C0 F_) O (λg o=>(q.hc g o).2.2.1) F_;have gd:AI W6 W6.drew:=AK.drew _ _;have zd:=gd.size;have Cd:=((q.box.U_ g5).U' O E).U_ gd;apply Ag (λk y=>(k=3/\out.ownBlock=some y)\/(k=4/\y=c));refine AU ⟨Cd.cells 0 _ rfl,λj hj e=>?_⟩ ?_;have ak:j ∈ [2]:=hj;simp at ak;subst ak;rcases e with e | e;exact absurd e.1 B_;exact absurd e.1 B_;refine DF (Ck.len _) (λj u hu=>⟨by rw [AH];exact ((B5.U' O E).U_ gd).cells j u hu,λj hj=>(wA (show j ∈ [] from hj)).elim⟩) ?_;apply AA (jZ X[k]);rintro xv W7 ⟨ox,g7⟩;refine ⟨g7.mono E',?_⟩;have z7:=g7.size;have o7:AG Q.heap.size 21 1 CM W7 out (CE (X.take k)):=AG.U' (AG.U' (R':=CM) o6 gd C0 F_) g7 C0 F_;obtain ⟨al,W8,r1,o8,r3,n8⟩:=AG.append (P:=prog) (ty:=46) Lg o7 (AG.sl ox) (λ_ _=>CM.one) E E L_ λ_ _ _ _ h=>h;apply AZ r1;have m8:=AK.BQ r3;have z8:=m8.size;refine ⟨m8.mono λ_ _ e=>.inl ⟨rfl,e⟩,?_⟩;obtain ⟨Z,a1⟩:=o8.one;refine (((Cd.U_ g7).U' m8 λe=>(q.hc c e).1 rfl)).st (q:=0) (B_:0 < 1) Z a1 λW9 C9 m9=>⟨m9.mono λ_ _ e=>.inr ⟨rfl,e⟩,?_⟩;have z9:=m9.size;have an:AK (λx=>x=c\/out.ownBlock=some x) W6 W9:=(((gd.trans g7).mono E').trans (m8.mono λ_ _ e=>.inr e)).trans (m9.mono λ_ _ e=>.inl e);refine ⟨SK an E (λb hb=>by have:=(J b hb).1;omega) (λb _ e=>?_),al,⟨C9,?_,λg o=>?_⟩,?_,E⟩;rcases e with rfl | e;exact ⟨λh=>by have:=(J b h).2;omega,E,E⟩;obtain ⟨h1,h2,h3,h4⟩:=q.hc b e;exact ⟨h4,h2,h3⟩;rw [aa];exact AG.U' o8 m9 (λg o e=>by
  rcases n8 g o with h | h;exact (q.hc g h).1 e;omega) F_
 rcases n8 g o with h|h;exact q.hc g h;refine⟨E,E,E,λhI=>by have:=(J g hI).1;omega⟩;refine((m.next g5 E').next O E).next an λx hx e=>?_
 rcases e with e|e;exact e;have:=(AG.Az q.row x e).1;omega;rintro U W' ⟨out,q,m,hk⟩ _ hz hd;apply AD (q.box.cells 0 _ rfl);obtain⟨Z,a1⟩:=q.row.one;refine q.box.st (q:=0) (B_:0<1) Z a1 λW1 C1 m1=>?_;refine⟨?_,?_⟩;rw[m1.Ap _ E E];exact hd;have a6:AK (λb=>b=Q.heap.size) W1 (W1.putObj Q.heap.size (.deferred none)):=AK.putObj _ _ _ rfl;refine AD ((C1.U' a6 E).cells 0 _ rfl) ⟨_,rfl,?_,?_⟩;rw[b0,Nr,a8] at q;refine AG.Bk (AG.U' (AG.U' (R':=CM) q.row m1 (λg o=>(q.hc g o).1) F_) a6 (λg o=>(q.hc g o).2.1) F_) λg o=>?_;have:=(AG.Az q.row g o).1;omega;exact((((g1.trans g2).trans g6).next m E).next m1 E).next a6 E
end
def Wz{t e k:Nat}{i:TypeInfo}{a:Option Addr}{n c l h m:Nat}(ht:P.underlying t=some (.slice e))(hi:P.info? e=some i)(hk:i.size=k)(h1:l<=h)(o:h<=m)(B:m<=c)(w:e_) : (Instr.sliceAt t (.slice a n c) (some (zI l)) (some (zI h)) (some (zI m))).run P w=.ok (sliced a l h m k) w:=by
 have j:P.elem t=e:=by simp[Program.elem,ht]
 rw[xb _ _ _ _ _ _ (by rw[j];exact ht),run_slice_lhm _ _ _ _ _ (by rw[j];exact ht) _ _ _ _ _ _ E E E E,j];simp[sizeOf,typeInfo,hi,hk]
def uo(i:d_)(k:Nat):d_:=match i with
 |.slice a n _=>sliced a (32*k) (min (32*k+32) n) (min (32*k+32) n) 1
 |_=>undef
def qx{o:d_}{l:X_}{k:Nat}(h:BC S 1 CM W o l)(hk:32*k<l.length):BC S 1 CM W (uo o k) ((l.drop (32*k)).take 32):=by
 obtain⟨a,c,rfl,h1,O,B⟩:=h;have i:((l.drop (32*k)).take 32).length=min (32*k+32) l.length-32*k:=by rw[K8,FB];omega
 refine⟨_,_,by rw[i];rfl,by rw[i];omega,E,λm x j=>?_⟩;rw[wY] at j;split at j;rw[wH] at j;obtain⟨p,r,rfl,I,hr,hc,J⟩:=B _ x j;rw[Bp E];refine⟨p.add (32*k*1),r,rfl,by rw[Av];exact I,hr,λy u hu=>?_,J⟩;rw[Addr.add_add,<-wx,<-wF];exact hc y u hu;cases j
def lZ{l:X_}(h1:Bx W e [sv])(Q:Bx W N [zI 32])(ho:BC S 1 CM W sv l)(hl:l.length<=1099511627776) : PL True prog 308 [g_ e,g_ N] (λk=>[uo sv k]) ((l.length+31)/32) (λb=>b=e\/b=N) W:=by
 intro yl J Jx w1 hg h0 U Y MU j;refine I' func308 ?_ (.y (.node [4] [(4,30)] (.y (.x (.x (.dm [3] [0,0,0,6,14,31,63])))) .nil));obtain⟨a,c,rfl,q1,q2,q3⟩:=ho;have l1:=h1.lt (P9 _);have l2:=Q.lt (P9 _);have ht:=underlying46;obtain⟨ti,hi,Z⟩:∃i,prog.info? 21=some i/\i.size=1:=⟨Tryz.t21,C_,by rfl⟩;apply AX (λvs B=>∃k:Nat,k<=(l.length+31)/32/\vs=[zI ((32*k:Nat):Int)]/\J k (λ_=>False) B) (λvs _=>l.length+32-Di vs 0) ⟨0,Hw _,rfl,h0⟩;rintro vs B ⟨k,hk,rfl,hJ⟩ _;rw[Bh,JS];have cell:∀{W2:e_} {k:Nat} {b:Nat} {v:d_},J k (λ_=>False) W2->(b=e\/b=N)->W.cell? ⟨b,0,none⟩=some v->W2.cell? ⟨b,0,none⟩=some v:=λV hb hc=>by
  rw[<-hc];exact xA (MU _ _ _ V _ (by rcases hb with rfl|rfl<;>omega) hb)
 apply AD (cell hJ (.inl rfl) (h1.cells 0 _ rfl));rw[AP,As];refine AE (λa1=>?_) λa6=>?_;rotate_left;obtain rfl:k=(l.length+31)/32:=E;exact⟨_,.inl hJ⟩;have gd:AI B B.drew:=AK.drew _ _;have o:J k (λ_=>False) B.drew:=U k _ _ _ _ hJ (gd.mono E') K_;apply Ag (λ_ _=>False);apply AU ⟨cell o (.inr rfl) (Q.cells 0 _ rfl),C0⟩;apply AU ⟨cell o (.inl rfl) (h1.cells 0 _ rfl),C0⟩;refine AZ (Gf ht hi Z E _) ⟨AK.refl _ _,?_⟩;unfold sliced;rw[AP,Iv];have e1:(if((l.length-32*k:Nat):Int)<(32:Int) then((l.length-32*k:Nat):Int) else(32:Int))=((min 32 (l.length-32*k):Nat):Int):=by split<;>omega
 rw[e1];apply AD (cell o (.inl rfl) (h1.cells 0 _ rfl));refine Cy E (Cy E ?_);apply AZ (Wz ht hi Z E (HK _) E _);refine .inr ⟨yl,rfl,?_⟩;have e2:32*k+min 32 (l.length-32*k)=min (32*k+32) l.length:=E;rw[e2];apply HD (j k _ B.drew E o);rintro vv W3 ⟨a7,X,_,⟨rfl,I⟩|⟨rfl,UF⟩⟩;rw[Aq];apply AS;apply AD (cell I (.inr rfl) (Q.cells 0 _ rfl));rw[AR,wrap64 E E];refine⟨⟨k+1,E,?_,I⟩,?_⟩;congr 2;rw[CL,CL];omega;rw[Aq];exact Ai ⟨_,.inr UF⟩
def kN{r:Int}(h:Dc r):AF prog 310 [.int .i32 r] (λv' w'=>v'=.bool true/\w'=w) w:=by
 apply H_ func310;unfold Dc at h;rw[DR];refine AE (λ_=>?_) E;rw[GI];refine AE (λ_=>?_) E;rw[As];refine AE (λ_=>⟨rfl,rfl⟩) λe=>?_;rw[BM];exact⟨by rw[TC E],rfl⟩
def nj{l:X_}(h:BC S 1 CM w v l)(hm:∀r∈l,Dc r) : AF prog 284 [v,.func (.func 309) #[] #[]] (λv' w'=>v'=.bool false/\w'=w) w:=by
 apply G_ func284;refine AA (K:=λv' w'=>v'=zI (-1)/\w'=w) ?_ ?_;refine G_ func329 ?_ (.y (.x (.y (.node [8] [(4,5),(8,18)] .nil .nil))));obtain⟨a,c,rfl,o⟩:=h.AO;simp[maxLen] at o;rw[AP];apply AX (λvs W=>∃i:Nat,i<=l.length/\vs=[zI i]/\W=w) (λvs _=>l.length-Di vs 0) ⟨0,Hw _,rfl,rfl⟩;rintro vs _ ⟨i,hi,rfl,rfl⟩ _;rename e_=>w;rw[Bh,JS,As];refine AE (λB=>?_) λI=>⟨rfl,rfl⟩;have j:i<l.length:=E;obtain⟨q,r,rfl,_,hr,hc,rfl⟩:=h.get j;refine AW j (AD (by have:=hc 0 _ rfl;exact this) ?_);apply Fa C_;apply H_ func309;apply AA (kN (hm _ (Q0 j)));rintro _ _ ⟨rfl,rfl⟩;rename e_=>w;rw[Aq];apply AS;rw[AR,AM E];exact⟨⟨i+1,j,rfl,rfl⟩,by rw[CL,CL];omega⟩;rintro _ _ ⟨rfl,rfl⟩;rw[DR];exact⟨rfl,rfl⟩
def rm{l:X_}(h:BC S 1 CM w v l)(hl:l.length<=32)(hm:∀r∈l,Dc r) : AF prog 266 [v] (λv' w'=>v'=.tuple #[.agg (Ck.cells ⟨l,hl⟩).toArray,zI 0]/\AI w w') w:=by
 apply H_ func266;refine Bx.zero λb2 w1 av g1 B2=>?_;have h1:=h.U_ g1 B_ C0;apply AA (nj h1 hm);rintro _ _ ⟨rfl,rfl⟩;rename e_=>w1;apply AS;obtain⟨a,c,rfl,hx⟩:=h1.AO;rw[AP,BM];refine AE E λ_=>?_;refine Bx.zero λB I ax g7 B4=>?_;have C2:Bx I b2 Ck.nil.cells:=B2.U_ g7;have C4:Bx I B Ck.nil.cells:=B4;have l2:=C2.lt (by rw[Ck.len];omega);have l4:=C4.lt (by rw[Ck.len];omega);have an:=B2.lt B_;have hu:=underlying46;have hs:(prog.info? 21).map (·.size)=some 1:=C_;have h7:=h1.U_ g7 B_ C0;rw[AB,AH];apply RJ;have EU:∀J,Bx J B (L7 Ck.nil.cells 0 (l.map (Value.int .i32)))->AK (λx=>x=B) I J->(BZ 32 (g_ B) λa1=>Cu a1 (zI (l.length:Int)) (λO=>DT 33 (g_ B) (λa6 a7=>Bu 33 (g_ b2) a6 (λQ=>DT 33 (g_ b2) (λU a8=>(λ(v':d_) (w':e_)=>v'=Value.tuple #[.agg (Ck.cells ⟨l,hl⟩).toArray,zI 0]/\AI w w') (Value.tuple #[U,(zI 0)]) a8) Q) a7) O) J):=λJ D4 Z=>by
  rw[AB,AH];refine D4.st (q:=32) (by rw[PY,Ck.len];omega) rfl rfl λO E4 V=>?_;rw[Ck.gE hl] at E4;apply E4.GN (Ck.len _);refine((C2.U' Z E).U' V E).Au (Ck.len _) (Ck.len _) (Ck.one _) λQ F2 aa=>?_;refine F2.GN (Ck.len _) ⟨rfl,?_⟩;exact(((g1.trans g7).next Z E).next V E).next aa E
 have X:(l.map (Value.int .i32)).length=min l.length 32:=by rw[FA];omega
 by_cases o:l=[];have hn:=run_copy_none I 46 46 3 21 (h_ B) a 32 32 l.length c hu hs (by rw[o];rfl);have ak:Bx I B (L7 Ck.nil.cells 0 (l.map (Value.int .i32))):=by rw[o];exact C4
 have e0:(goInt 0:d_)=zI (l.length:Int):=by rw[o];rfl
 rw[e0] at hn;exact AZ hn (EU I ak (AK.refl _ _));have Y:0<l.length:=wN.2 o;obtain⟨p,r',rfl,_,_,_,_⟩:=h7.get (i:=0) Y;refine C4.copy hu hs (us:=l.map (Value.int .i32)) X (.inr (by rw[FA,Ck.len];omega)) (λj v hv=>?_) (Ug _) λJ D4 Z=>?_;obtain⟨hj,rfl⟩:=Bq.1 hv;rw[FA] at hj;obtain⟨p',r2,ep,_,ay,al,rfl⟩:=h7.get hj;cases ep;have:=al 0 _ rfl;rw[wz];simpa using this;rw[FA];exact EU J D4 Z
def IS(rs:X_)(k:Nat):Ck:=⟨(rs.drop (32*k)).take 32,by rw[K8];omega⟩
def DO(rs:X_):c_:=(List.range ((rs.length+31)/32)).map (IS rs)
def RO(rs:X_):(DO rs).length=(rs.length+31)/32:=by simp[DO]
def Wf(rs:X_){k:Nat}(h:k<(DO rs).length):(DO rs)[k]=IS rs k:=by simp[DO]
def Wq(rs:X_):CE (DO rs)=rs:=by
 have key:∀n,CE ((List.range n).map (IS rs))=rs.take (32*n):=by
  intro n;induction n with
  |zero=>simp[CE]
  |succ n i=>
   rw[List.range_succ,S7,CE,u9];have j:List.flatMap Ck.l ((List.range n).map (IS rs))=rs.take (32*n):=i;rw[j];have o:List.flatMap Ck.l ([n].map (IS rs))=(rs.drop (32*n)).take 32:=by simp[IS]
   rw[o,(E:32*(n+1)=32*n+32),List.take_add]
 rw[DO,key,wM E]
def bN{b bt N i:Nat}{l:c_}(h:Eu BO.toAvT F Il W b bt l N)(hN:N<=100000000000)(hi:i<=(CE l).length)(hs:(CE l).length+rs.length<=536870912)(hv:BC S 1 CM W v rs)(hm:∀r∈rs,Dc r) : AF prog 195 [g_ b,zI (i:Int),v] (λv' w'=>v'=zI 0/\∃F' l',(∀x,F x->F' x)/\(∀x,F' x->F x\/W.heap.size<=x)/\Eu BO.toAvT F' Il w' b bt l' (N+(DO rs).length+4)/\CE l'=(CE l).take i++rs++(CE l).drop i/\AK F W w') W:=by
 refine P' func195 ?_ (.y (.y (.y (.y (.y (.y (.x (.dm [1,5] [0,1,0,0,0,31]))))))));have hF:=h.lt;refine Bx.zero λc6 w1 e2 g1 B6=>?_;refine Dp (AS ?_);refine Bx.zero λV w4 e3 g4 B7=>?_;have l6:=B6.lt B_;have l7:=B7.lt B_;have z1:=g1.size;have z4:=g4.size;refine AA (K:=λv' w'=>∃d1 d2,v'=.func (.func 308) #[] #[g_ d1,g_ d2]/\w4.heap.size<=d1/\w4.heap.size<=d2/\Bx w' d1 [v]/\Bx w' d2 [.int .i64 32]/\AI w4 w') ?_ ?_;apply G_ func265;obtain⟨a,c,rfl,o⟩:=hv.AO;refine ES rfl λd1 B bk g5 D1=>?_;refine ES rfl λd2 w6 bl g6 D2=>?_;have z5:=g5.size;apply AD (D2.cells 0 _ rfl);rw[As];refine AE E λ_=>?_;exact⟨d1,d2,rfl,E,E,D1.U_ g6,D2,g5.trans g6⟩;rintro _ B ⟨d1,d2,rfl,bk,bl,D1,D2,g5⟩;have z5:=g5.size;have a7:=(g1.trans g4).trans g5;have ax:=(hv.JR B_).U_ a7 B_ C0;have e4:=D1.lt (P9 _);have e5:=D2.lt (P9 _);have bp:=RO rs;refine Md ⟨True,_,[g_ d1,g_ d2],_,_,_,rfl,C_,lZ D1 D2 ax E,λk _=>rfl,?_⟩;refine⟨λk X U=>∃out,nG 249 33 (λ_ r x=>r=Ck.cells x) B.heap.size V B.heap.size X U out ((DO rs).take k)/\AK (λx=>x=V) B U/\k<=(DO rs).length,λ_ _ _=>False,⟨_,⟨B7.U_ g5,AG.nil,λg O=>nomatch O⟩,AK.refl _ _,Hw _⟩,?_,λx X bs W U h=>h.elim,?_,?_,?_,λx X W h=>h.elim⟩
 .rintro k X bs U e6 ⟨out,q,m,hk⟩ hm J;have hn:∀x,x<B.heap.size->¬((¬True/\X x)\/x=B.heap.size\/x=B.heap.size+1):=λx o=>by rintro(⟨h,_⟩|h|h);exact h trivial;all_goals omega
  refine⟨out,⟨q.box.U' hm (hn V E),AG.U' q.row hm (λg O=>?_) F_,λg O=>?_⟩,m.next hm λx o=>?_,hk⟩;obtain⟨_,h2,h3,_⟩:=q.hc g O;rintro(⟨h,_⟩|h|h);exact h trivial;exact h2 h;exact h3 h;obtain⟨h1,h2,h3,h4⟩:=q.hc g O;refine⟨h1,h2,h3,λh=>?_⟩;rcases(J g h).1 with h|h;exact h4 h;have:=(AG.Az q.row g O).2;omega;intro e;exact absurd e (hn x o)
 rintro k X U ⟨out,q,m,hk⟩ b hb hr;exact m.Ap b hb λe=>by rcases hr with hr|hr<;>omega
 rintro k X U hk ⟨out,q,m,e7⟩ hz J;have ay:32*k<rs.length:=E;have Y:k<(DO rs).length:=E;refine Nz l_ hz J E' λW6 Q=>?_;have e8:=Q.size;have e1:=q.box.lt (P9 _);have o6:AG B.heap.size 249 33 (λ_ r x=>r=Ck.cells x) W6 out ((DO rs).take k):=AG.U' q.row Q (λg O=>(q.hc g O).2.2.1) F_;have b0:BC (λb=>S b/\b<W.heap.size) 1 CM U v rs:=BC.mono ax C0 (λb hb hS=>m.Ap b hb λe=>by have:=hS.2;omega) B_ C0;have c4:BC (λb=>S b/\b<W.heap.size) 1 CM W6 v rs:=BC.mono b0 C0 (λb hb hS=>Q.Ap b hb λe=>by have:=hS.2;omega) B_ C0;apply AA (rm (qx c4 ay) (IS rs k).le λr hr=>hm r (aR (aO hr)));rintro _ w8 ⟨rfl,g8⟩;refine Bv ?_;have z8:=g8.size;show Cl _ _ (λt9 w9=>Bu 33 t9 (.agg (IS rs k).cells.toArray) _ w9) w8;refine Bx.new (vs:=(IS rs k).cells) (Ck.len _) rfl (Ck.one _) λb9 W9 e9 g9 B9=>?_;have z9:=g9.size;refine KU ?_;have C9:=((q.box.U' Q E).U_ g8).U_ g9;have o9:AG B.heap.size 249 33 (λ_ r x=>r=Ck.cells x) W9 out ((DO rs).take k):=AG.U' (AG.U' (R':=λ_ r x=>r=Ck.cells x) o6 g8 C0 F_) g9 C0 F_;have c8:=B9.lt (by rw[Ck.len];omega);apply AD (C9.cells 0 _ rfl);apply B9.GN (Ck.len _);have ea:((DO rs).take k).length<=rs.length:=by rw[K8];omega
 refine FL BO.elE o9 E (cs:=(IS rs k).cells) (x:=IS rs k) (Dj (v:=.agg (IS rs k).cells.toArray) rfl B_ rfl (Ck.len _)) (Ck.len _) rfl (λ_ _ _ h=>by subst h;exact Ck.one _) N_ (by show _*136<=_;omega) L_ λb6 ec b7 a8 b8=>?_;have ed:=a8.size;have ee:=AG.Az o9;obtain⟨c9,ca⟩:=b7.one;refine(C9.U' a8 λe=>(q.hc V e).1 rfl).st (q:=0) (B_:0<1) c9 ca λcc ch aa=>?_;have ef:=aa.size;have Z:AK (λx=>x=V\/out.ownBlock=some x) W6 cc:=(((g8.trans g9).mono E').trans (a8.mono λ_ _ e=>.inr e)).trans (aa.mono λ_ _ e=>.inl e);refine⟨SK Z E (λb hb=>by have:=(J b hb).1;omega) (λb _ e=>?_),b6,⟨ch,?_,λg O=>?_⟩,?_,E⟩;rcases e with rfl|e;exact⟨λh=>by have:=(J b h).2;omega,E,E⟩;obtain⟨h1,h2,h3,h4⟩:=q.hc b e;exact⟨h4,h2,h3⟩;have cu:(DO rs).take (k+1)=(DO rs).take k++[IS rs k]:=by rw[Lc,By Y,Wf rs Y];rfl
 rw [cu];exact AG.U' b7 aa (λg O e=>by
  rcases b8 g O with h | h;exact (q.hc g h).1 e;omega) F_
 rcases b8 g O with h|h;exact q.hc g h;refine⟨E,E,E,λhI=>by have:=(J g hI).1;omega⟩;refine(m.next Q E).next Z λx o e=>?_
 rcases e with e|e;exact e;have:=(AG.Az q.row x e).1;omega;rintro X U ⟨out,q,m,hk⟩ _ hz hd;rw[<-bp,Nr] at q;have gW:AK (λx=>x=V) B U:=m;have a1:¬F V:=λe=>by have:=hF V (.inl e);omega
 have h5:=(h.U_ a7).U' m λx o e=>by
  rcases o with o|o;exact a1 (e▸o);exact o
 have zW:=m.size;apply AA (Mn GZ h5);rintro _ eh ⟨rfl,ba⟩;rw[show Tr.sz BO.toAvT.k.μ l=(CE l).length from Io l,MY (HK _) hi,BH];refine AT (λ_=>?_) λe=>(e rfl).elim;obtain⟨a,c,rfl,o⟩:=hv.AO;rw[AP];apply AA (jC (h5.U_ ba));rintro _ ak ⟨rfl,cx⟩;rw[A6,wrap64 E E,BM];refine AE E λ_=>?_;have gd:AI ak ak.drew:=AK.drew _ _;have I:=(ba.trans cx).trans gd;have hO:=h5.U_ I;have o2:AG B.heap.size 249 33 (λ_ r x=>r=Ck.cells x) ak.drew out (DO rs):=AG.U' q.row I C0 F_;have zd:=I.size;apply Ag (λk y=>k=5/\F y);apply AA (Fm GZ hO);rintro _ ei ⟨rfl,dj⟩;subst dj;refine⟨AK.refl _ _,AU ⟨(q.box.U_ I).cells 0 _ rfl,λj hj e=>a1 e.2⟩ ?_⟩;have er:=Ud l (DO rs) (HK i);have ep:=Rz l (DO rs) i i;rw[Wq] at er ep;have dk:(CE (Ck.kd.Cw l i i (DO rs))).length<=1099511627776:=by rw[er];simp only[Ad,K8,FB];omega
 refine AA (L5 (jf (g:=BO)) (L:=DO rs) hO E o2.sl (λx o dr=>by have:=hF x (.inl dr);have:=o.1;omega) (HK i) E (Rg E) (Rg (l:=Ck.kd.Cw l i i (DO rs)) dk) (Rg (l:=(Ck.kd.split l i).1.getLast?.toList++DO rs++(Ck.kd.split (Ck.kd.split l i).2 (i-i)).2.head?.toList) E)) ?_;rintro _ ej ⟨F',k1,k2,k3,k4⟩;refine⟨k4.mono λ_ _ e=>⟨rfl,e⟩,?_⟩;have ek:=k4.size;have a6:¬F c6:=λe=>by have:=hF c6 (.inl e);omega
 refine(((((B6.U_ g4).U_ g5).U' m E).U_ I).U' k4 a6).st (q:=0) (B_:0<1) rfl rfl λbb E6 al=>?_;have an:¬F' c6:=λe=>by
  rcases k2 c6 e with h|h;exact a6 h;omega
 have dT:∀x,B.heap.size<=x->x<B.heap.size+1->¬F' x:=λx o en e=>by
  rcases k2 x e with h|h;have:=hF x (.inl h);omega;omega
 refine ⟨?_,?_⟩;rw [al.Ap _ E E,k4.Ap _ E λe=>by have:=hF _ (.inl e);omega,I.Ap _ E E_];exact hd;have av:AK (λb=>b=B.heap.size) bb (bb.putObj B.heap.size (.deferred none)):=AK.putObj _ _ _ rfl;refine AD ((E6.U' av E).cells 0 _ rfl) ⟨rfl,F',_,k1,λx o=>(k2 x o).imp E_ E,((k3.U' al λx o e=>by
   rcases o with o | o;exact an (e ▸ o);exact o).U' av λx o e=>by
   rcases o with o | o;exact dT x E E o;exact o),er,?_⟩
 exact((((a7.next m E).trans I).mono E').trans k4 |>.next al E).next av E
def Pe:Kd Nat where
 μ:=λ_=>(1,0)
 cut:=λx _=>(x,x)
 meld:=λ_ _=>none
def P6(q:Nat)(l:X')(i j:Nat):Pe.Au (q::l) i j=(if i<min j 1 then[q] else[])++Pe.Au l (i-1) (j-1):=by
 have e:∀p,Pe.part q i p=q:=λp=>by unfold Kd.part Pe;simp only;split<;>split<;>rfl
 simp[Kd.Au,e];rfl
def Yz(W:e_)(b A_ i:Nat):d_:=match W.cell? ⟨b,3,none⟩ with
 |some (.pointer (some c))=>match W.cell? c with
  |some (.slice (some p) _ _)=>(W.cell? (p.add (i*(A_+6)))).getD undef
  |_=>undef
 |_=>undef
section
variable {α:Type}{g:AvT α}
def XG{b i:Nat}{A:ArS α}{n:Nd α}(h:Ex g F C W b most A)(hi:A.f i=some n) : ∃(c:Nat) (p:Addr) (m k:Nat),W.cell? ⟨b,3,none⟩=some (g_ c)/\W.cell? ⟨c,0,none⟩=some (.slice (some p) m k)/\F b/\F c/\F p.block/\(∃r,g.R C W r n.x/\∀j u,(r++(Bs n++[.bool true]))[j]?=some u->W.cell? (p.add (i*(g.E+6)+j))=some u):=by
 obtain⟨c,pl,fr,B⟩:=h;obtain⟨Q,hp⟩:=ArS.Lw hi;obtain⟨Y,Z,I,_⟩:=B.ar.IE.sl.AO;have J:=B.ar.IE.sl;rw[I] at J;obtain⟨q,r,rfl,V,hr,hc,O⟩:=J.get Q;rw[(Bq.1 hp).2] at O;obtain⟨x,rfl,X⟩:=O;have o:=B.ar.cells 0 pl rfl;rw[I] at o;exact⟨c,q,_,_,B.box.cells 3 _ rfl,o,B.fb.1,B.ar.fc.1,(B.ar.pF q.block (by rw[I];exact V.2)).1.1,x,X,hc⟩
def qB{b i:Nat}{o:Int}{A:ArS α}{n:Nd α}(h:Ex g F C w b o A)(hi:A.f i=some n)(j:∀x,F x\/C x->W.heap[x]?=w.heap[x]?):Yz W b g.E i=Yz w b g.E i:=by
 obtain⟨c,p,m,k,h1,B,I,J,O,_⟩:=XG h hi;have Q:W.cell? ⟨b,3,none⟩=w.cell? ⟨b,3,none⟩:=xA (j b (.inl I));have U:W.cell? ⟨c,0,none⟩=w.cell? ⟨c,0,none⟩:=xA (j c (.inl J));have V:W.cell? (p.add (i*(g.E+6)))=w.cell? (p.add (i*(g.E+6))):=xA (by rw[Av];exact j _ (.inl O));simp[Yz,Q,h1,U,B,V]
end
section
variable {α:Type}{g:Av1 α}
def mN{b i:Nat}{A:ArS α}{n:Nd α}{K:d_->e_->Prop}(h:Ex g.toAvT F C W b most A)(hi:A.f i=some n) (hK:∀r bx w',AI W w'->W.heap.size<=bx->Bx w' bx (r++Bs n)->g.R C w' r n.x->r=[Yz W b g.E i]->K (g_ bx) w') : AF prog g.fat [g_ b,zI i] (λQ Y=>Cl g.tn g.toAvK.zN (λZ w2=>Bu (g.E+5) Z Q (λw3=>K Z w3) w2) Y) W:=by
 have key:AF prog g.fat [g_ b,zI i] (λv' w'=>∃r,v'=.agg (r++Bs n).toArray/\g.R C w' r n.x/\AI W w'/\r=[Yz W b g.E i]) W:=by
  apply g.ok.jz;unfold uX;refine Bx.zero λb4 Y a1 B B4=>?_;obtain⟨c,pl,fr,j⟩:=h;have I:=j.U' B C0;apply AJ;rw[AB,AH];apply AD (I.box.cells 3 _ rfl);apply AA (Yd I.ar hi);rintro _ w2 ⟨r,rfl,hr,g2,p,m,k,J,o⟩;refine Bv ?_;have hl:=Ba n hr;have ho:=J6 n hr;refine Bx.new hl Kq ho λb5 w3 a6 U B5=>?_;apply B5.GN hl;refine((B4.U_ g2).U_ U).Au hl (Kq) ho λw4 O m4=>?_;apply O.GN hl;refine⟨r,rfl,g.Bw (g.Bw hr U F_) m4 λy _ hy e=>by have:=j.ar.lt y (.inr hy);omega,((B.trans g2).trans U).next m4 E,?_⟩;have er:=gO hr;generalize g.toAvK.enc r=a at er;subst er;have e1:=j.box.cells 3 _ rfl;have V:=j.ar.cells 0 pl rfl;rw[J] at V;obtain⟨c',p',m',k',q1,q2,f1,f2,f3,_⟩:=XG (g:=g.toAvT) ⟨c,pl,fr,j⟩ hi;rw[e1] at q1;cases q1;rw[V] at q2;cases q2;have e4:W.cell? (p.add (i*(g.E+6)))=some a:=by
   have X:=j.ar.lt _ (.inl (j.ar.pF _ (by rw[J];rfl)).1);rw[<-(o a rfl)];exact(xA (by rw[Av];exact B.Ap _ X E_)).symm
  simp only[Yz,e1,V,e4];rfl
 apply AA key;rintro _ w4 ⟨r,rfl,hr,B,hv⟩;refine Bx.new (Ba n hr) Kq (J6 n hr) λb7 w5 a7 g7 B7=>?_;exact hK r b7 w5 (B.trans g7) (by have:=B.size;omega) B7 (g.Bw hr g7 F_) hv
def qN(t:Tr α):Tr.sz Pe.μ t.idx=Tr.sz g.k.μ t.toL:=by
 induction t with
 |nil=>rfl
 |node l i x r h1 j=>rw[Tr.idx,Tr.toL,Tr.DI,Tr.DI,Tr.CF,Tr.CF,h1,j,g.μ1];rfl
def Z5{b l N:Nat}{A:ArS α}{J:Nat->(f_)->e_->Prop}{Jx:(f_)->e_->Prop}{Z:Nat->V_}(hw:Ex g.toAvT F C w b most A)(hs:A.ps.length<=109951162777)(H:UX prog l J Jx w (λx=>F x\/C x) Z N) : ∀(t:Tr α) (i j k0:Nat) (Q:f_) (W:e_),Tr.Ac g.k.μ A.f t->FN g.toAvT t.toL->i<=1099511627776->j<=1099511627776->J k0 Q W->w.heap.size<=W.heap.size->(∀x,Q x->x<W.heap.size)->k0+(Pe.Au t.idx i j).length<=N->(∀m (hm:m<(Pe.Au t.idx i j).length),Z (k0+m)=[Yz w b g.E (Pe.Au t.idx i j)[m]])->AF prog g.fover [g_ b,zI t.root,zI (i:Int),zI (j:Int),.func (.yield l) #[] #[]] (VJ J Jx (k0+(Pe.Au t.idx i j).length) Q W) W:=by
 intro t;induction t with
 |nil=>
  intro i j k0 Q W _ _ _ _ hJ hz ak _ _;apply g.ok1.Au;unfold X5;simp[Tr.root];apply AV (λ_ _=>False) (λ_ _ h=>h.elim);rw[Aj];refine AE (λ_=>?_) λe=>(e rfl).elim;exact⟨HK _,λ_ _=>rfl,⟨rfl,rfl,rfl⟩,Q,λ_ h=>h,ak,.inl ⟨rfl,hJ⟩⟩
 |node lt q x a8 ea ec=>
  intro i j k0 Q W hh hb hi hj hJ hz ak hN U;obtain⟨hl,hr,hq⟩:=id hh;have eL:(Tr.node lt q x a8).toL=lt.toL++x::a8.toL:=rfl;have eI:(Tr.node lt q x a8).idx=lt.idx++q::a8.idx:=rfl;rw[eL] at hb;rw[eI] at hN U ⊢;have cc:(g.k.μ x).1=1:=by rw[g.μ1]
  have ch:Tr.sz Pe.μ lt.idx=Tr.sz g.k.μ lt.toL:=qN lt;have ed:=hb.1;simp[Tr.DI,Tr.CF] at ed;rw[Pe.WE,ch] at hN U ⊢;apply g.ok1.Au;unfold X5;simp only[Tr.root];refine AV (λ_ O=>O=W/\i<j) ?_ ?_;rotate_left;rw[Aj];refine AE E λ_=>?_;rw[DR];refine AE (λe=>?_) λe=>⟨rfl,E⟩;rw[Pe.GF _ (by omega:j<=i),Pe.GF _ (by omega:j-Tr.sz g.k.μ lt.toL<=i-Tr.sz g.k.μ lt.toL)];exact⟨HK _,I_,⟨rfl,rfl,rfl⟩,Q,M_,ak,.inl ⟨rfl,hJ⟩⟩;rintro _ O ⟨rfl,ej⟩ _;rename e_=>W;have FZ:∀{k Q O},J k Q O->w.heap.size<=O.heap.size->Ex g.toAvT F C O b most A:=λ{k Q O} h1 h2=>hw.heap (λy o=>H.MU k Q O h1 y (hw.lt y o) o) h2;refine mN (FZ hJ hz) hq λrc V w4 g4 ei B b9 cu=>?_;have b0:=g.rlen b9;rw[qB hw hq λy o=>H.MU k0 Q W hJ y (hw.lt y o) o] at cu;refine Iw (B.cells (g.E+0) _ (by rw[Am b0];rfl)) ?_;apply AA (Ci ((FZ hJ hz).U_ g4) hl);rintro _ w6 ⟨rfl,g6⟩;refine OI ?_;have ba:AI w6 w6.drew:=AK.drew _ _;have cx:=(g4.trans g6).trans ba;obtain⟨c,pl,fr,hT⟩:=(FZ hJ hz).U_ cx;have B6:=(B.U_ g6).U_ ba;apply Ag (λ_ _=>False);apply AJ;rw[AB,AH,AB,AH];apply AU ⟨hT.box.cells 0 _ rfl,C0⟩;rw[AB,AH];refine MN (g:=g.toAvT) (r:=rc) b0 (λj v hv=>⟨B6.cells j v (by rw[PF (Bq.1 hv).1];exact hv),C0⟩) ?_;apply BI (g.meas (C:=C) (x:=x) (g.Bw b9 (g6.trans ba) F_));rintro _ w7 ⟨rfl,g7⟩;refine⟨g7.mono E',?_⟩;refine Bv ?_;have al:=cx.trans g7;have B7:=B6.U_ g7;have e9:=B7.lt (by rw[Ba _ b9];omega);have an:∀y,(Q y\/y=V)->(Q y\/W.heap.size<=y)/\y<w7.heap.size:=λy o=>by
   rcases o with o|o;have:=ak y o;exact⟨.inl o,E⟩;exact⟨.inr (by omega),by omega⟩
  have dj:=H.hJ k0 Q (λy=>Q y\/y=V) W w7 hJ al an;have ee:∀y,Q y->w7.heap[y]?=W.heap[y]?:=λy o=>al.Ap y (ak y o) λh=>h;obtain⟨X1,bb⟩:∃X,X=Pe.Au lt.idx i j:=⟨_,rfl⟩;obtain⟨i',bk⟩:∃i',i'=i-Tr.sz g.k.μ lt.toL:=⟨_,rfl⟩;obtain⟨j',b6⟩:∃j',j'=j-Tr.sz g.k.μ lt.toL:=⟨_,rfl⟩;obtain⟨X2,bl⟩:∃X,X=(if i'<min j' (g.k.μ x).1 then[q] else[]):=⟨_,rfl⟩;obtain⟨X3,aa⟩:∃X,X=Pe.Au a8.idx (i'-(g.k.μ x).1) (j'-(g.k.μ x).1):=⟨_,rfl⟩;have eX:Pe.Au lt.idx i j++Pe.Au (q::a8.idx) (i-Tr.sz g.k.μ lt.toL) (j-Tr.sz g.k.μ lt.toL)=X1++(X2++X3):=by rw[bb,bl,aa,bk,b6,cc,P6]
  rw[eX] at hN U ⊢;simp[Ad] at hN;have bp:∀m (hm:m<X1.length),Z (k0+m)=[Yz w b g.E X1[m]]:=λm hm=>by
   rw[U m (by simp;omega)];simp[xi hm]
  have bs:∀m (hm:m<X2.length),Z (k0+X1.length+m)=[Yz w b g.E X2[m]]:=λm hm=>by
   have:=U (X1.length+m) (by simp;omega);rw[wx,this];simp[xL,xi hm]
  have c4:∀m (hm:m<X3.length),Z (k0+X1.length+X2.length+m)=[Yz w b g.E X3[m]]:=λm hm=>by
   have:=U (X1.length+(X2.length+m)) (by simp;omega);rw[(E:k0+X1.length+X2.length+m=k0+(X1.length+(X2.length+m))),this];simp[xL]
  let St:Nat->e_->Prop:=λk O=>∃I,(∀y,Q y->I y)/\I V/\(∀y,I y->y<O.heap.size)/\J k I O/\(w7.heap.size<=O.heap.size/\Quiet w7 O)/\(∀y,Q y\/y=V->O.heap[y]?=w7.heap[y]?)
  have done:∀{k O} (v:d_) (I:f_),(∀y,Q y->I y)->(∀y,I y->y<O.heap.size)->w7.heap.size<=O.heap.size/\Quiet w7 O->(∀y,Q y->O.heap[y]?=w7.heap[y]?)->((v=.bool true/\J k I O)\/(v=.bool false/\Jx I O))->VJ J Jx k Q W v O:=λv I h1 h2 h3 h4 h5=>
   ⟨E,λy o=>(h4 y o).trans (ee y o),Quiet.trans ⟨al.os,al.tape,al.output⟩ h3.2,I,h1,h2,h5⟩
  refine AV (λ_ O=>St (k0+X1.length) O) ?_ ?_;rotate_left;refine HP (λdk=>?_) λdr=>?_;refine Iw (B7.cells (g.E+0) _ (by rw[Am b0];rfl)) ?_;rw[Iv];have em:(if((Tr.sz g.k.μ lt.toL:Nat):Int)<(j:Int) then((Tr.sz g.k.μ lt.toL:Nat):Int) else(j:Int))=((min j (Tr.sz g.k.μ lt.toL):Nat):Int):=by split<;>omega
  rw[em];have a7:Pe.Au lt.idx i (min j (Tr.sz g.k.μ lt.toL))=X1:=by rw[bb,<-ch,Pe.Q8]
  refine AA (ea i (min j (Tr.sz g.k.μ lt.toL)) k0 (λy=>Q y\/y=V) w7 hl hb.KM.1 hi E dj E (λy o=>(an y o).2) (by rw[a7];omega) (λm hm=>?_)) ?_;have c6:m<X1.length:=by rw[<-a7];exact hm
  rw[bp m c6];simp[a7];rw[a7];rintro v W2 ⟨z1,z2,zq,I,q1,q2,q3⟩;rcases q3 with⟨rfl,c7⟩|⟨rfl,c7⟩;rw[Aq];exact AS ⟨I,λy o=>q1 y (.inl o),q1 V (.inr rfl),q2,c7,⟨z1,zq⟩,z2⟩;rw[Aq];exact Ai (done (.bool false) I (λy o=>q1 y (.inl o)) q2 ⟨z1,zq⟩ (λy o=>z2 y (.inl o)) (.inr ⟨rfl,c7⟩));have e0:X1=[]:=by rw[bb];exact SM Pe lt.idx j E
  rw[e0];exact⟨λy=>Q y\/y=V,λy o=>.inl o,.inr rfl,λy o=>(an y o).2,dj,⟨HK _,rfl,rfl,rfl⟩,I_⟩;rintro _ W8 ⟨av,a1,a2,a3,dT,z8,Y⟩ _;have B8:=B7.heap (Y V (.inr rfl));rw[A6,wrap64 E E,HS];have ef:(if(0:Int)>(i:Int)-((Tr.sz g.k.μ lt.toL:Nat):Int) then(0:Int) else(i:Int)-((Tr.sz g.k.μ lt.toL:Nat):Int))=(i':Int):=by rw[bk];split<;>omega
  rw[ef,A6,wrap64 E E,Iv];obtain⟨to,c8⟩:∃to:Int,to=(if(((g.k.μ x).1:Nat):Int)<(j:Int)-((Tr.sz g.k.μ lt.toL:Nat):Int) then(((g.k.μ x).1:Nat):Int) else(j:Int)-((Tr.sz g.k.μ lt.toL:Nat):Int)):=⟨_,rfl⟩;rw[<-c8];have b7:(i':Int)<to↔i'<min j' (g.k.μ x).1:=by rw[c8,b6];split<;>omega
  have e4:i'<min j' (g.k.μ x).1->to=((min j' (g.k.μ x).1:Nat):Int):=λh=>by rw[c8,b6];split<;>omega
  refine AV (λ_ O=>St (k0+X1.length+X2.length) O) ?_ ?_;rintro _ W9 ⟨e5,c1,c2,c3,e6,z9,a6⟩ _;apply Cy E;rw[GI];refine AE (λek=>?_) λen=>?_;have e3:X3=[]:=by rw[aa];exact Pe.GF _ E
  rw[e3];simp[Ty,Ad];exact done (.bool true) e5 c1 c3 z9 (λy o=>a6 y (.inl o)) (.inl ⟨rfl,by rw[<-wx];exact e6⟩);have B9:=B7.heap (a6 V (.inr rfl));refine Iw (B9.cells (g.E+1) _ (by rw[Am b0];rfl)) ?_;rw[A6,wrap64 E E,A6,wrap64 E E,HS];have e1:(if(0:Int)>(i:Int)-((Tr.sz g.k.μ lt.toL:Nat):Int)-(((g.k.μ x).1:Nat):Int) then(0:Int) else(i:Int)-((Tr.sz g.k.μ lt.toL:Nat):Int)-(((g.k.μ x).1:Nat):Int))=((i'-(g.k.μ x).1:Nat):Int):=by rw[bk];split<;>omega
  rw[e1,A6,wrap64 E E,A6,wrap64 E E];have e2:(j:Int)-((Tr.sz g.k.μ lt.toL:Nat):Int)-(((g.k.μ x).1:Nat):Int)=((j'-(g.k.μ x).1:Nat):Int):=by rw[b6];omega
  rw[e2];refine AA (ec (i'-(g.k.μ x).1) (j'-(g.k.μ x).1) (k0+X1.length+X2.length) e5 W9 hr hb.KM.2.cons.1 E E e6 E c3 (by rw[<-aa];omega) (λm hm=>?_)) ?_;have c6:m<X3.length:=by rw[aa];exact hm
  rw[c4 m c6];simp[aa];rw[<-aa];rintro v W2 ⟨u1,u2,uq,I,q1,q2,q3⟩;apply done v I (λy o=>q1 y (c1 y o)) q2 ⟨E,z9.2.trans uq⟩ (λy o=>(u2 y (c1 y o)).trans (a6 y (.inl o)));simp[Ad];rwa [<-wx,<-wx]
  .refine HP (λdk=>?_) λdr=>?_;rotate_left;have e2:X2=[]:=by rw[bl,Bp λe=>dr (b7.2 e)]
   rw[e2];exact⟨av,a1,a2,a3,dT,z8,Y⟩;have b8:=b7.1 dk;have eo:=e4 b8;have e2:X2=[q]:=by rw[bl,Cx b8]
   rw[cu] at B8;rw[AB,AH];apply AD (B8.cells 0 _ rfl);refine AV (λvs O=>vs=[Yz w b g.E q]/\O=W8) ?_ ?_;rotate_left;rw[As];exact AE E λ_=>⟨rfl,rfl⟩;rintro _ _ ⟨rfl,rfl⟩ _;rename e_=>W8;refine AV (λvs O=>vs=[Yz w b g.E q]/\O=W8) ?_ ?_;rotate_left;rw[BM];exact AE E λ_=>⟨rfl,rfl⟩;rintro _ c9 ⟨rfl,rfl⟩ _;rename e_=>c9;simp[Bh];refine .inr ⟨l,rfl,?_⟩;have e7:X2.length=1:=by rw[e2];rfl
   have ax:=bs 0 E;simp[ua,e2,zy] at ax;rw[<-ax];apply HD (H.mH _ av c9 E dT);rintro v eh ⟨y1,y2,yq,y3⟩;have ay:∀y,av y->eh.heap[y]?=c9.heap[y]?:=λy o=>y2 y o;have e8:=z8.2.trans yq;rcases y3 with⟨rfl,ca⟩|⟨rfl,ca⟩;rw[Aq];refine AS ⟨av,a1,a2,λy o=>by have:=a3 y o;omega,by rw[e7];exact ca,⟨E,e8⟩,λy o=>?_⟩;exact(ay y (by rcases o with o|rfl;exact a1 y o;exact a2)).trans (Y y o);rw[Aq];exact Ai (done (.bool false) av a1 (λy o=>by have:=a3 y o;omega) ⟨E,e8⟩ (λy o=>(ay y (a1 y o)).trans (Y y (.inl o))) (.inr ⟨rfl,ca⟩))
def TUU:Tr α->List (Nat×α)
 |.nil=>[]
 |.node l i x r=>TUU l++(i,x)::TUU r
def lO(t:Tr α):(TUU t).map (·.1)=t.idx:=by
 induction t with
 |nil=>rfl
 |node l i x r h1 j=>simp[TUU,Tr.idx,S7,S4,h1,j]
def lT(t:Tr α):(TUU t).map (·.2)=t.toL:=by
 induction t with
 |nil=>rfl
 |node l i x r h1 j=>simp[TUU,Tr.toL,S7,S4,h1,j]
def ZZ{f:Nat->Option (Nd α)}{μ:α->Nat×Nat}{t:Tr α}(h:Tr.Ac μ f t):∀p∈TUU t,∃n,f p.1=some n/\n.x=p.2:=by
 induction t with
 |nil=>intro p hp;simp[TUU] at hp
 |node l i x r h1 j=>
  obtain⟨a,b,c⟩:=h;intro p hp;simp[TUU,DN,I3] at hp;rcases hp with hp|rfl|hp;exact h1 a p hp;exact⟨_,c,rfl⟩;exact j b p hp
def ai{β:Type}:List β->Nat->Nat->List β
 |[],_,_=>[]
 |x::t,i,j=>(if i<min j 1 then[x] else[])++ai t (i-1) (j-1)
def YZ{β o:Type}(f:β->o)(l:List β)(i j:Nat):ai (l.map f) i j=(ai l i j).map f:=by
 induction l generalizing i j with
 |nil=>rfl
 |cons x l B=>simp[S4,ai,B,S7];split<;>rfl
def mo(l:List α)(i j:Nat):∀x∈ai l i j,x∈l:=by
 induction l generalizing i j with
 |nil=>intro x o;exact o
 |cons y l B=>
  intro x o;simp only[ai,DN] at o;rcases o with o|o;split at o;simp at o;simp[o];simp at o;exact aN _ (B _ _ x o)
def re(l:X')(i j:Nat):Pe.Au l i j=ai l i j:=by
 induction l generalizing i j with
 |nil=>rfl
 |cons x l o=>rw[P6,o];rfl
def sX(l:List α)(i j:Nat):g.k.Au l i j=ai l i j:=by
 induction l generalizing i j with
 |nil=>rfl
 |cons x l o=>
  simp only[Kd.Au,ai,o,g.μ1];congr 1;split;rename_i h;have e:g.k.part x i (min j 1)=x:=by unfold Kd.part;rw[g.μ1,Bp E,Bp (by simp only;omega)]
  rw[e];rfl
def nJ:dR g.toAvT:=by
 intro F C W b i j A T h hs V hu hb hi hj;apply g.ok.Au;unfold gk;refine ES rfl λb3 w1 a1 g1 X=>?_;refine ES rfl λb4 w2 a6 Y Z=>?_;refine ES rfl λb5 O a7 I B5=>?_;have o:=(g1.trans Y).trans I;have B:=h.U_ o;have q3:=X.lt (P9 _);have q4:=Z.lt (P9 _);have q5:=B5.lt (P9 _);have s3:=I.size;have Q:g.k.Au T.toL i j=(ai (TUU T) i j).map (·.2):=by rw[sX,<-lT,YZ]
 have eI:Pe.Au T.idx i j=(ai (TUU T) i j).map (·.1):=by rw[re,<-lO,YZ]
 refine⟨[g_ b3,g_ b4,g_ b5],(Pe.Au T.idx i j).map (Yz O b g.E),_,rfl,o,by rw[FA,eI,Q,FA,FA],λm m1 m2=>?_,λx U=>?_,TB B ((X.U_ Y).U_ I) (Z.U_ I) B5 λl J Jx w4 g4 H hJ hz=>?_⟩;have hm:m<(ai (TUU T) i j).length:=by rw[Q,FA] at m2;exact m2
 obtain⟨n,hn,U⟩:=ZZ V _ (mo _ i j _ (Q0 hm));obtain⟨c,p,m',k',e1,e2,_,_,_,r,hr,hc⟩:=XG B hn;refine⟨r,?_,?_⟩;simp[wz,eI];have e3:O.cell? (p.add ((ai (TUU T) i j)[m].1*(g.E+6)))=some (g.toAvK.enc r):=by
  have:=hc 0 (g.toAvK.enc r) (by rw[PF (by rw[g.rlen hr];exact g.Epos),gO hr];unfold AvK.enc;rw[g.one1];rfl);rwa [ua] at this
 simp only[Yz,e1,e2,e3];rfl;simp[Q,wz,<-U];exact hr;rcases U with e|e|e|e|e;exact⟨.inl e,B.lt x (.inl e)⟩;exact⟨.inr (.inl e),B.lt x (.inr e)⟩;exact⟨.inr (.inr E),E⟩;exact⟨.inr (.inr E),E⟩;exact⟨.inr (.inr E),E⟩;have H':UX prog l J Jx O (λx=>F x\/C x) _ _:=⟨H.hJ,H.UF,λk It W hJ b hb hr=>H.MU k It W hJ b hb (hr.elim .inl λh=>.inr (.inl h)),H.mH⟩;have key:=Z5 B hs H' T i j 0 (λ_=>False) w4 V hb hi hj hJ hz K_ (by rw[FA];omega) (λm hm=>?_);rw[FA];rw[wS] at key;exact key;simp[List.getD,hm]
end
def Yp{W0 Q:e_}{g c:Nat}{L M:List W_}{call:d_->Cont->e_->Prop}{Kend:e_->Prop}(a8:M.length=L.length)(hL:L.length<=109951162777)(hg:W0.heap.size<=g)(g1:AI W0 Q) (o:AG W0.heap.size 47 1 (Dr S) Q (.slice (h_ g) L.length c) L)(aa:∀b,S b->b≠g) (U:∀(j:Nat) (h1:j<L.length) (h2:j<M.length) (sv:d_) (W':e_) (K:Cont),AK (λb=>b=g) Q W'->CI S W' sv L[j]->(∀v' w',J7 W'.heap.size w' v' M[j]->AI W' w'->K v' w')->call sv K W') (hK:∀w',AG W0.heap.size 47 1 (Dr (λb=>W0.heap.size<=b/\b≠g)) w' (.slice (h_ g) L.length c) M->AK (λb=>b=g) Q w'->Kend w') : G8 [(zI 0)] (λvs V w2=>∀_:Env,Hm .i64 (Bm vs 0) (zI (L.length:Int)) λak=>Al ak (Lb 1 (.slice (h_ g) L.length c) (Bm vs 0) λal=>BV al (λan w3=>call an (λav w4=>Lb 1 (.slice (h_ g) L.length c) (Bm vs 0) λax=>Cu ax av (λw5=>DX .i64 (Bm vs 0) (zI 1) λay=>V [ay] w5) w4) w3) w2) (Kend w2)) Q:=by
 let Inv:Nat->e_->Prop:=λi W'=>AG W0.heap.size 47 1 (λ_ _ _=>True) W' (.slice (h_ g) L.length c) L/\AK (λb=>b=g) Q W'/\
  ∀j (h1:j<L.length) (h2:j<M.length),∃sv,W'.cell? ⟨g,j,none⟩=some sv/\Cv W' ⟨g,j,none⟩/\(j<i->CI (λb=>W0.heap.size<=b/\b≠g) W' sv M[j])/\(i<=j->CI S W' sv L[j])
 have Y:Inv 0 Q:=by
  refine⟨o.any,AK.refl _ _,λj h1 h2=>?_⟩;obtain⟨r,hr,b0,⟨sv,rfl,hs⟩,X⟩:=AG.cellsOf o h1;have e:∀x,j*1+x=j+x:=E;refine⟨sv,by have:=b0 0 sv rfl;rwa [e,ua] at this,by have:=X 0 B_;rwa [e,ua] at this,E,λ_=>hs⟩
 apply AX (λvs W'=>∃i:Nat,i<=L.length/\vs=[zI i]/\Inv i W') (λvs _=>L.length-Di vs 0) ⟨0,Hw _,rfl,Y⟩;rintro vs w2 ⟨i,hi,rfl,oA,mA,An⟩ _;rw[Bh,JS,As];have z2:=mA.size;have bs:=(AG.Az o g rfl).2;refine AE (λc4=>?_) λc6=>?_;have B:i<L.length:=E;obtain⟨sv,hc,X,_,b6⟩:=An i B E;apply AW B;rw[AH,xd];apply AD hc;refine U i B E sv w2 _ mA (b6 (HK _)) λv' w4 oS I=>?_;have z4:=I.size;obtain⟨Z,b7⟩:=oS.one;apply AW B;rw[AH,xd];apply Cv.st (X.U' I E_) Z b7;have b8:AG W0.heap.size 47 1 (λ_ _ _=>True) w4 (.slice (h_ g) L.length c) L:=AG.U' oA I C0 λ_ _ _ _=>trivial;have a1:=AG.OG b8 B (j:=0) B_ Z;rw[xd,ua] at a1;have m5:=O7 w4 g i v';rw[AR,AM E];refine⟨⟨i+1,B,rfl,a1,(mA.next I E').next m5 C0,λj h1 h2=>?_⟩,by rw[CL,CL];omega⟩;obtain⟨b9,ba,a6,bb,a7⟩:=An j h1 h2;have J:=I.cell ba E_;have O:=a6.U' I E_;by_cases e:j=i;subst e;refine⟨v',cO w4 _ v' J,O.set _ _,λ_=>?_,E⟩;refine BC.mono oS.sl (λb hb h=>⟨by have:=h.1;omega,λe=>by have:=h.1;omega⟩) (λb hb h=>m5.Ap b hb λe=>by have:=h.1;omega) B_ C0;refine⟨b9,by rw[Of w4 _ _ v' (by intro e2;simp only[Addr.mk.injEq] at e2;omega)];exact J,O.set _ _,λh=>?_,λh=>?_⟩;refine BC.mono (bb E) C0 (λb hb h=>?_) B_ C0;exact(m5.Ap b E λe=>h.2 e).trans (I.Ap b hb E_);refine BC.mono (a7 E) C0 (λb hb h=>?_) B_ C0;exact(m5.Ap b E λe=>aa b h e).trans (I.Ap b hb E_);have bk:i=L.length:=E;subst bk;refine hK w2 ?_ mA;refine AG.conv (AG.len oA M a8) λj hj r bl a7 bp=>?_;obtain⟨sv,hc,_,hd,_⟩:=An j E hj;obtain⟨u,rfl⟩:∃u,r=[u]:=aA7.1 bl;have:=bp 0 u rfl;rw[xd,ua,hc] at this;cases this;exact⟨_,rfl,hd E⟩
def Wb{L:List W_}(h:BC S 1 (Dr C) w v L)(hl:L.length*24<=140737488355328) : AF prog 244 [v] (λv' w'=>AG w.heap.size 47 1 (Dr λb=>C b/\b<w.heap.size) w' v' L/\AI w w') w:=by
 apply H_ func244;have I:BC S 1 (Dr λb=>C b/\b<w.heap.size) w v L:=BC.mono h C0 I_ B_ λr x i=>Bb.rsub i λy j hc=>⟨hc,j⟩;exact LH Bb.elE I hl (λ_ _ _ i=>Bb.rone i) (λJ U r y O hm j=>Bb.Bw j hm λb hb o Q=>by have:=o.2;omega) λv' w' h1 B=>And.intro h1 B
def Nh{L:List W_}(h:BC S 1 (Dr C) w v L)(hl:L.length<=5497558138)(V:∀x∈L,x.length*48<=140737488355328) : AF prog 181 [v] (λv' w'=>AG w.heap.size 47 1 (Dr λb=>w.heap.size<=b/\v'.ownBlock≠some b) w' v' L/\AI w w') w:=by
 refine H_ func181 ?_ (.y (.y (.x (.y (.node [9] [(4,4),(9,20)] .nil .nil)))));apply AA (Wb h E);rintro v1 Q ⟨o,B⟩;obtain⟨X,c1,rfl,Y,Z,hp,hn⟩:=AG.AO o;rw[AP];cases X with
 |none=>
  have:=hn rfl;subst this;apply AX (λvs i=>vs=[zI 0]/\i=Q) (λ_ _=>0) ⟨rfl,rfl⟩;rintro vs _ ⟨rfl,rfl⟩ _;rename e_=>Q;rw[Bh,JS,As];exact AE (λh=>by simp at h) λ_=>⟨AG.U' o l_ C0 λr y I=>by simp at I,B⟩
 |some p1=>
  obtain⟨g,rfl,J,a6,_⟩:=hp _ rfl;refine Yp (call:=λsv K U=>AF prog 102 [sv] K U) (Kend:=λi=>AG w.heap.size 47 1 (Dr λb=>w.heap.size<=b/\(Value.slice (h_ g) L.length c1).ownBlock≠some b) i (.slice (h_ g) L.length c1) L/\AI w i) (M:=L) rfl E J B o (λb hb e=>by have:=hb.2;omega) (λj q1 q2 sv U K hm O hK=>?_) λw' oM m=>⟨?_,B.next m E⟩;apply AA (GP O (V _ (Q0 q1)));rintro v' w' ⟨k1,k2⟩;exact hK v' w' k1 k2;refine AG.U' oM l_ C0 λr y _ I=>Bb.rsub I λb hb h=>⟨h.1,λe=>?_⟩;simp[Value.ownBlock,S5] at e;exact h.2 e.symm
def Vd{cap vals:V_}{Rd C:f_}{X:List W_}(hs:PL True prog N cap (λk=>[vals.getD k undef]) vals.length Rd W)(ak:En N=true)(hv:vals.length=X.length)(hx:∀m (h1:m<vals.length) (Y:m<X.length),CI C W vals[m] X[m])(MU:∀x,Rd x->x<W.heap.size)(hl:X.length<=5497558138) : AF prog 182 [.func (.func N) #[] cap.toArray] (λv' w'=>AG W.heap.size 47 1 (Dr λb=>C b/\b<W.heap.size) w' v' X/\AI W w') W:=by
 apply H_ func182;apply Q_ func245;refine ES rfl λc I hc g1 B=>?_;have b8:=B.lt (P9 _);have z1:=g1.size;have H8:∀{M:f_} {w2 w3:e_} {r:V_} {x:W_},AK M w2 w3->(∀b,b<W.heap.size->¬M b)->Dr (λb=>C b/\b<W.heap.size) w2 r x->Dr (λb=>C b/\b<W.heap.size) w3 r x:=λhm hn hy=>Bb.Bw hy hm λb _ hd=>hn b hd.2;have al:∀m (h1:m<vals.length) (Y:m<X.length),Dr (λb=>C b/\b<W.heap.size) I [vals[m]] X[m]:=λm q1 q2=>H8 (w2:=W) g1 C0 ⟨_,rfl,(hx m q1 q2).mono (λb hb h=>⟨h,hb⟩) I_ B_ C0⟩;refine Md ⟨True,N,cap,_,_,_,rfl,ak,hs.U_ g1,λk _=>rfl,?_⟩;refine⟨λk Q O=>∃out,nG 47 1 (Dr λb=>C b/\b<W.heap.size) I.heap.size c I.heap.size Q O out (X.take k)/\AK (λx=>x=c) I O/\k<=X.length,λ_ _ _=>False,⟨_,⟨B,AG.nil,λg i=>nomatch i⟩,AK.refl _ _,Hw _⟩,?_,λx Q an W O h=>h.elim,?_,?_,?_,λx Q W h=>h.elim⟩
 .rintro k Q an O b9 ⟨out,q,m,hk⟩ hm j;have a7:=q.box.lt (P9 _);have hn:∀x,x<I.heap.size->¬((¬True/\Q x)\/x=I.heap.size\/x=I.heap.size+1):=λx hx=>by rintro(⟨h,_⟩|h|h);exact h trivial;all_goals omega
  refine⟨out,⟨q.box.U' hm (hn c E),AG.U' q.row hm (λg i=>?_) λ_ _ _ h=>H8 hm (λb hb=>hn b E) h,λg i=>?_⟩,m.next hm λx hx=>?_,hk⟩;obtain⟨_,Y,h3,_⟩:=q.hc g i;rintro(⟨h,_⟩|h|h);exact h trivial;exact Y h;exact h3 h;obtain⟨h1,Y,h3,h4⟩:=q.hc g i;refine⟨h1,Y,h3,λh=>?_⟩;rcases(j g h).1 with h|h;exact h4 h;have:=(AG.Az q.row g i).2;omega;intro e;exact absurd e (hn x hx)
 rintro k Q O ⟨out,q,m,hk⟩ b hb hr;exact m.Ap b hb λe=>by have:=MU b hr;omega
 rintro k Q O hk ⟨out,q,m,ba⟩ hz j;have U:k<X.length:=E;have Z:(Bm [vals.getD k undef] 0)=vals[k]:=by
  show vals.getD k undef=_;rw[wC,By hk,zO]
 rw[Z];refine Nz l_ hz j E' λW6 o=>?_;have z6:=o.size;have zm:=m.size;have a7:=q.box.lt (P9 _);have B6:=q.box.U' o E;have o6:AG I.heap.size 47 1 (Dr λb=>C b/\b<W.heap.size) W6 out (X.take k):=AG.U' q.row o (λg i=>(q.hc g i).2.2.1) λ_ _ _ h=>H8 o E h;have a8:=H8 o E (H8 m E (al k hk U));apply AD (B6.cells 0 _ rfl);have bb:(X.take k).length<=X.length:=by simp;omega
 have a1:(vals[k]).cells=[vals[k]].toArray:=by
  obtain⟨sv,e,av⟩:=a8;cases e;obtain⟨a,c,e,_⟩:=av.AO;rw[e];rfl
 refine FL Bb.elE o6 E (cs:=[vals[k]]) (x:=X[k]) (Dj (v:=vals[k]) rfl B_ a1 rfl) rfl a8 (λ_ _ _ h=>Bb.rone h) (λw2 w3 r y bk hm hy=>H8 hm (λb hb e=>?_) hy) (by show _*24<=_;omega) L_ λaa W9 o9 m9 n9=>?_;rcases e with e|e;have:=(AG.Az o6 b e).1;omega;omega;obtain⟨ax,ay⟩:=o9.one;refine(B6.U' m9 λe=>(q.hc c e).1 rfl).st (q:=0) (B_:0<1) ax ay λb0 b6 J=>?_;have bl:=J.size;have V:AK (λx=>x=c\/out.ownBlock=some x) W6 b0:=(m9.mono λ_ _ e=>.inr e).trans (J.mono λ_ _ e=>.inl e);refine⟨SK V E (λb hb=>by have:=(j b hb).1;omega) (λb _ e=>?_),aa,⟨b6,?_,λg i=>?_⟩,?_,E⟩;rcases e with rfl|e;exact⟨λh=>by have:=(j b h).2;omega,E,E⟩;obtain⟨h1,Y,h3,h4⟩:=q.hc b e;exact⟨h4,Y,h3⟩;have b7:X.take (k+1)=X.take k++[X[k]]:=by rw[Lc];simp[U]
 rw [b7];exact AG.U' o9 J (λg i e=>by
  rcases n9 g i with h | h;exact (q.hc g h).1 e;omega) λ_ _ _ h=>H8 J E h
 rcases n9 g i with h|h;exact q.hc g h;refine⟨E,E,E,λhI=>by have:=(j g hI).1;omega⟩;refine(m.next o E).next V λx hx e=>?_
 rcases e with e|e;exact e;have:=(AG.Az q.row x e).1;omega;rintro Q O ⟨out,q,m,hk⟩ _ _ hd;refine AD (q.box.cells 0 _ rfl) ⟨hd,?_⟩;have a6:AK (λb=>b=I.heap.size) O (O.putObj I.heap.size (.deferred none)):=AK.putObj _ _ _ rfl;rw[hv,Nr] at q;refine⟨AG.Bk (AG.U' q.row a6 (λg i=>(q.hc g i).2.1) λ_ _ _ h=>H8 a6 E h) λg i=>?_,?_⟩;have:=(AG.Az q.row g i).1;omega;exact(g1.next m E).next a6 E
def Nl(l:List W_):Tr.sz Kj.μ l=l.length:=by
 induction l with
 |nil=>rfl
 |cons x l i=>rw[Tr.CF,i,Hn];show 1+l.length=_;omega
def qd(l:List W_):Tr.mk Kj.μ l=0:=by
 induction l with
 |nil=>rfl
 |cons x l i=>rw[Tr.EB,i];rfl
def N3{l:List W_}(h:l.length<=1099511627776):FN Bb.toAvT l:=⟨by show Tr.sz Kj.μ l<=_;rw[Nl];exact h,by show Tr.mk Kj.μ l<=_;rw[qd];omega⟩
def TA:Kj.HI (λx:W_=>[x]) where
 size:=I_
 cut1:=λ_ p h0 h1=>by simp at h1;omega
 melds:=λa b c h=>by cases h
def Up(l:List W_):l.flatMap (λx=>[x])=l:=D_
def jD(l:List W_)(i j:Nat):Kj.Au l i j=(l.take j).drop i:=by
 have:=TA.Au l i j;rwa [Up,Up] at this
def Mj(t l:List W_){i j:Nat}(o:i<=j):Kj.Cw t i j l=t.take i++l++t.drop j:=by
 have:=TA.Cw t l o;rwa [Up,Up,Up] at this
def Ex.sub{g:AvT α}{F C C':f_}{b:Nat}{o:Int}{A:ArS α}(h:Ex g F C W b o A)(hC:∀x,C x->C' x)(B:∀x,F x->¬C' x)(j:∀x,C' x->x<W.heap.size):Ex g F C' W b o A:=by
 obtain⟨c,pl,fr,i⟩:=h;exact⟨c,pl,fr,i.box,i.ar.sub hC (λx I=>B x I.1) j,i.fb.1,B b i.fb.1⟩
def Eu.sub{g:AvT α}{F C C':f_}{b bt N:Nat}{l:List α}(h:Eu g F C W b bt l N)(hC:∀x,C x->C' x)(j:∀x,F x->¬C' x)(i:∀x,C' x->x<W.heap.size):Eu g F C' W b bt l N:=by
 obtain⟨A,T,h1,r⟩:=h.FZ;exact⟨h.box,⟨A,T,h1.sub hC (λx o=>j x o.1) i,r⟩,h.fb.1,j b h.fb.1⟩
def tLe(o:Option α):o.toList.length<=1:=by cases o<;>simp
section
variable {F C:f_}{W:e_}{b bt N:Nat}{L:List W_}
def Tm{k m:Nat}(h:Eu Bb.toAvT F C W b bt L N)(hN:N<=109951162000)(o:k<=m)(hm:m<=L.length)(hl:L.length<=536870912)(hs:∀x∈L,x.length*48<=140737488355328) : AF prog 115 [g_ b,zI (k:Int),zI (m:Int)] (λv' w'=>∃(rv:d_) (W0:e_),v'=.tuple #[rv,zI 0]/\AI W W0/\AI W0 w'/\AG W0.heap.size 47 1 (Dr λb=>W0.heap.size<=b/\rv.ownBlock≠some b) w' rv ((L.take m).drop k)) W:=by
 apply I' func115;apply AA (Mn Gp h);rintro _ w1 ⟨rfl,U⟩;rw[show Tr.sz Bb.toAvT.k.μ L=L.length from Nl L,MY o hm,BH];refine AT (λ_=>?_) λe=>(e rfl).elim;have V:=h.U_ U;apply AA (Fm Gp V);rintro _ _ ⟨rfl,rfl⟩;rename e_=>w1;obtain⟨A,T,t1,t2,t3,rfl,t5⟩:=V.FZ;apply AA (nJ (g:=Bb) t1 E t2 t3 (N3 E) E E);rintro _ w3 ⟨cap,Z,Rd,rfl,g3,B,I,MU,i⟩;have J:Kj.Au T.toL k m=(T.toL.take m).drop k:=jD _ _ _;have a1:(Kj.Au T.toL k m).length<=536870912:=by rw[J,FB,K8];omega
 refine AA (Vd (C:=C) (X:=Kj.Au T.toL k m) i C_ B (λp q1 q2=>?_) (λx j=>(MU x j).2) E) ?_;obtain⟨r,e1,e2⟩:=I p q1 q2;obtain⟨sv,rfl,O⟩:Dr C w3 r (Kj.Au T.toL k m)[p]:=e2;rw[e1];exact O;rintro rv w4 ⟨o4,g4⟩;refine AA (Nh (AG.sl o4) E λx j=>hs x ?_) ?_;rw[J] at j;exact aO (aR j);rintro Q w5 ⟨Y,g5⟩;rw[J] at Y;exact⟨Q,w4,rfl,(U.trans g3).trans g4,g5,Y⟩
def Zj{S D:f_}{k:Nat}{R:List W_}(h:Eu Bb.toAvT F C W b bt L N)(hN:N<=100000000000)(hk:k<=L.length)(hl:L.length+R.length<=536870912)(U:BC S 1 (Dr D) W v R)(hs:∀x∈R,x.length*48<=140737488355328) : AF prog 194 [g_ b,zI (k:Int),v] (λv' w'=>v'=zI 0/\∃F' C',(∀x,F x->F' x)/\(∀x,C x->C' x)/\(∀x,F' x->F x\/W.heap.size<=x)/\(∀x,C' x->C x\/W.heap.size<=x)/\Eu Bb.toAvT F' C' w' b bt (L.take k++R++L.drop k) (N+R.length+4)/\AK F W w') W:=by
 apply I' func194;apply AA (Mn Gp h);rintro _ w1 ⟨rfl,B⟩;have o:∀M:List W_,Tr.sz Bb.toAvT.k.μ M=M.length:=Nl;rw[o,MY (HK _) hk,BH];refine AT (λ_=>?_) λe=>(e rfl).elim;obtain⟨a,c,rfl,_⟩:=U.AO;rw[AP];apply AA (RG Gp (h.U_ B));rintro _ Q ⟨rfl,V⟩;rw[o,A6,wrap64 E E,BM];refine AE E λ_=>?_;have X:=(h.U_ B).U_ V;apply AA (Fm Gp X);rintro _ w3 ⟨rfl,e3⟩;subst e3;rename e_=>Q;have j:=B.trans V;have I:BC (λb=>S b/\b<W.heap.size) 1 (Dr λb=>D b/\b<W.heap.size) Q (.slice a R.length c) R:=BC.mono (U.JR B_) C0 (λb hb _=>j.Ap b hb E_) B_ λr x i=>Bb.Bw (Bb.rsub i λy hy hd=>⟨hd,hy⟩) j F_;apply AA (Nh I E hs);rintro v4 w4 ⟨o4,Y⟩;have hF:=h.lt;have z1:=j.size;have z4:=Y.size
 let C':f_:=λx=>C x\/(Q.heap.size<=x/\x<w4.heap.size/\v4.ownBlock≠some x)
 have h4:Eu Bb.toAvT F C' w4 b bt L N:=(X.U_ Y).sub (λx i=>.inl i) (λx i e=>by
   rcases e with e|e
   .exact h.MP x i e
   .have:=hF x (.inl i);omega) λx e=>by
   rcases e with e|e
   .have:=hF x (.inr e);omega
   .exact e.2.1
 have a1:AG Q.heap.size 47 1 (Dr C') w4 v4 R:=AG.U' o4 (AK.refl (λ_=>False) _) (λ_ _ h=>h) λr y _ hy=>Bb.rsub hy λx hx hd=>.inr ⟨hd.1,hx,hd.2⟩
 have er:=Mj L R (HK k);have J:(Kj.Cw L k k R).length<=1099511627776:=by rw[er];simp only[Ad,K8,FB];omega
 refine AA (L5 (Yg (g:=Bb)) (L:=R) h4 E a1.sl (λx i O=>by have:=hF x (.inl O);have:=i.1;omega) (HK k) E (N3 E) (N3 (l:=Kj.Cw L k k R) J) (N3 (l:=(Kj.split L k).1.getLast?.toList++R++(Kj.split (Kj.split L k).2 (k - k)).2.head?.toList) (by
  have q1:=tLe (Kj.split L k).1.getLast?;have q2:=tLe (Kj.split (Kj.split L k).2 (k-k)).2.head?;simp only [Ad];omega))) ?_
 rintro _ w5 ⟨F',k1,k2,Z,k4⟩;have a6:Bb.toAvT.k.Cw L k k R=L.take k++R++L.drop k:=er;rw[a6] at Z;refine⟨rfl,F',C',k1,λx i=>.inl i,λx i=>(k2 x i).imp E_ E,λx i=>i.imp E_ E,Z,((j.trans Y).mono E').trans k4⟩
def bU{k m:Nat}(h:Eu Bb.toAvT F C W b bt L N)(Y:N<=100000000000)(i:k<=m)(hm:m<=L.length)(hl:L.length<=536870912) : AF prog 211 [g_ b,zI (k:Int),zI (m:Int)] (λv' w'=>v'=zI 0/\∃F',(∀x,F x->F' x)/\(∀x,F' x->F x\/W.heap.size<=x)/\Eu Bb.toAvT F' C w' b bt (L.take k++L.drop m) (N+4)/\AK F W w') W:=by
 apply I' func211;apply AA (Mn Gp h);rintro _ O ⟨rfl,o⟩;rw[show Tr.sz Bb.toAvT.k.μ L=L.length from Nl L,MY i hm,BH];refine AT (λ_=>?_) λe=>(e rfl).elim;have B:=h.U_ o;apply AA (Fm Gp B);rintro _ _ ⟨rfl,rfl⟩;rename e_=>O;have I:=Mj L [] i;rw[Ty] at I;have j:(Kj.Cw L k m []).length<=1099511627776:=by rw[I];simp only[Ad,K8,FB];omega
 refine AA (L5 (Yg (g:=Bb)) (L:=[]) (S:=λ_=>False) B (by simp only [gC];omega) BC.nil K_ i E (N3 E) (N3 (l:=Kj.Cw L k m []) j) (N3 (l:=(Kj.split L k).1.getLast?.toList++[]++(Kj.split (Kj.split L k).2 (m - k)).2.head?.toList) (by
  have q1:=tLe (Kj.split L k).1.getLast?;have q2:=tLe (Kj.split (Kj.split L k).2 (m-k)).2.head?;simp only [Ad,gC];omega))) ?_
 rintro _ Q ⟨F',k1,k2,J,U⟩;have z1:=o.size;have V:Bb.toAvT.k.Cw L k m []=L.take k++L.drop m:=I;rw[V] at J;exact⟨rfl,F',k1,λx X=>(k2 x X).imp E_ E,J,(o.mono E').trans U⟩
end
abbrev Gz(l:Z_):Prop:=l.Pairwise λa b=>a.key<b.key
abbrev Gr(l:W_):Prop:=l.Pairwise λa b=>a.key<b.key
def Lo(c:Chg):W_->W_
 |[]=>[]
 |a::s=>if a.key<c.key then a::Lo c s else[]
def GA(c:Chg):W_->W_
 |[]=>[]
 |a::s=>if a.key<c.key then GA c s else if a.key=c.key then s else a::s
def PJ(c:Chg):W_:=if c.Ak then[] else[⟨c.key,c.val⟩]
def CQ:W_->Z_->W_
 |s,[]=>s
 |s,c::p=>Lo c s++PJ c++CQ (GA c s) p
def JT{c:Chg}{x:Attr}(h:x∈Lo c p):x∈p/\x.key<c.key:=by
 induction p with
 |nil=>simp[Lo] at h
 |cons a p i=>
  simp only[Lo] at h;split at h;rcases I3.1 h with rfl|h;exact⟨D_,by assumption⟩;exact⟨by simp[(i h).1],(i h).2⟩;simp at h
def bj{c:Chg}{x:Attr}(h:x∈GA c p):x∈p:=by
 induction p with
 |nil=>simp[GA] at h
 |cons a p i=>
  simp[GA] at h;split at h;simp[i h];split at h;simp[h];exact h
def QW{c:Chg}(hp:Gr p){x:Attr}(h:x∈GA c p):c.key<x.key:=by
 induction p with
 |nil=>simp[GA] at h
 |cons a p i=>
  rw[Gr,we] at hp;simp[GA] at h;split at h;exact i hp.2 h;split at h;have:=hp.1 x h;omega;rcases I3.1 h with rfl|h;omega;have:=hp.1 x h;omega
def jF{c:Chg}(hp:Gr p):Gr (Lo c p):=by
 induction p with
 |nil=>exact List.Pairwise.nil
 |cons a p i=>
  rw[Gr,we] at hp;simp[Lo];split;exact we.2 ⟨λx j=>hp.1 x (JT j).1,i hp.2⟩;exact List.Pairwise.nil
def Si{c:Chg}(hp:Gr p):Gr (GA c p):=by
 induction p with
 |nil=>exact List.Pairwise.nil
 |cons a p j=>
  have i:=hp;rw[Gr,we] at hp;simp[GA];split;exact j hp.2;split;exact hp.2;exact i
def Pz{c:Chg}{x:Attr}(h:x∈PJ c):c.Ak=false/\x=⟨c.key,c.val⟩:=by
 unfold PJ at h;split at h;simp at h;rename_i i;exact⟨by simpa using i,by simpa using h⟩
def NY{s:W_}{p:Z_}{x:Attr}(h:x∈CQ s p):x∈s\/∃c∈p,c.Ak=false/\x=⟨c.key,c.val⟩:=by
 induction p generalizing s with
 |nil=>exact .inl h
 |cons c p i=>
  simp only[CQ] at h;rcases DN.1 h with h|h;rcases DN.1 h with h|h;exact .inl (JT h).1;exact .inr ⟨c,D_,Pz h⟩;rcases i h with h|⟨d,j,h⟩;exact .inl (bj h);exact .inr ⟨d,by simp[j],h⟩
def FY{s:W_}{p:Z_}(i:Gr s)(hp:Gz p):Gr (CQ s p):=by
 induction p generalizing s with
 |nil=>exact i
 |cons c p j=>
  rw[Gz,we] at hp;simp only[CQ];have o:∀x∈CQ (GA c s) p,c.key<x.key:=λx B=>by
   rcases NY B with h|⟨d,I,_,rfl⟩;exact QW i h;exact hp.1 d I
  refine aAM.2 ⟨aAM.2 ⟨jF i,?_,λa ha b hb=>?_⟩,j (Si i) hp.2,λa ha b hb=>?_⟩;unfold PJ;split;exact List.Pairwise.nil;exact zk _ _;obtain⟨_,rfl⟩:=Pz hb;exact(JT ha).2;have J:=o b hb;rcases DN.1 ha with h|h;have:=(JT h).2;omega;obtain⟨_,rfl⟩:=Pz h;exact J
def vg{key:α->Int}{l:List α}{ids:X_}(h:l.Pairwise λa b=>key a<key b)(hm:∀x∈l,key x∈ids):l.length<=ids.length:=by
 induction l generalizing ids with
 |nil=>simp
 |cons a l j=>
  rw[we] at h;have ha:=hm a D_;have:=j (ids:=ids.erase (key a)) h.2 λx i=>by
   rw[List.mem_erase_of_ne];exact hm x (by simp[i]);have:=h.1 x i;omega
  rw[aAs ha] at this;have:0<ids.length:=zx ha;simp[Hn];omega
def dX{key:α->Int}{l:List α}(h:∀i,1<=i->i<l.length->∀a b,l[i-1]?=some a->l[i]?=some b->key a<key b):l.Pairwise λa b=>key a<key b:=by
 rw[xM];intro i j hi o B;obtain⟨d,rfl⟩:∃d,j=i+1+d:=⟨j-i-1,E⟩;clear B;induction d with
 |zero=>exact h (i+1) E o _ _ D_ (By o)
 |succ d I=>
  have:=I E;have:=h (i+1+d+1) E o (l[i+1+d]'(E)) _ D_ (By o);simp[wx] at *;omega
def jo{key:α->Int}{l:List α}(h:l.Pairwise λa b=>key a<key b):∀i,1<=i->i<l.length->∀a b,l[i-1]?=some a->l[i]?=some b->key a<key b:=by
 intro i h1 j a b ha hb;rw[xM] at h;have:=h (i-1) i E j E;rw[By E] at ha;rw[By j] at hb;cases ha;cases hb;exact this
def Ao(o:Dop):Nat:=if o.kind=2 then o.AY.length else o.n.toNat
def CH(o:Dop):V':=if o.kind=2 then o.AY.map λr=>⟨2,0,[r],o.set,o.patch⟩ else List.replicate o.n.toNat ⟨o.kind,1,[],o.set,o.patch⟩
def Bi(x:V'):V':=x.flatMap CH
def Sv(a b:Int):IntKind.i64.wrap (IntKind.i64.wrap a+b)=IntKind.i64.wrap (a+b):=by
 simp only[IntKind.wrap,IntKind.bits,IntKind.signed];simp;omega
def K2{x:Int}(h0:0<=x)(h1:x<=1099511627776):IntKind.i64.wrap x=x:=by
 simp only[IntKind.wrap,IntKind.bits,IntKind.signed];simp;omega
def mf(s:MkS){a b:Int}(ha:0<=a)(hb:0<=b):KC (KC s a) b=KC s (a+b):=by
 unfold KC MS;rw[Bp E,Bp E,Bp E];simp[Sv,aAv]
def kP(s:MkS)(a b:X_)(set:W_):KD (KD s a set) b set=KD s (a++b) set:=by
 unfold KD;by_cases ha:a=[];subst ha;simp;by_cases hb:b=[];subst hb;simp[ha];rw[Bp ha,Bp hb,Bp (by simp[ha])];have e:Gh (Gh s.ins a set) b set=Gh s.ins (a++b) set:=by
  generalize s.ins=ins;unfold Gh;rcases tG ins with rfl|⟨i,o,rfl⟩;simp;simp[vq,R0,WJ,vz];by_cases e:o.set=set;simp[e];simp[e]
 simp[e]
def lQ(s:MkS){a b:Int}(ha:1<=a)(hb:1<=b)(j:a+b<=1099511627776)(p:Z_):GM (GM s a p) b p=GM s (a+b) p:=by
 unfold GM;rw[Bp E,Bp E,Bp E];simp only[BW,Int.lt_irrefl,xF,Ty];generalize s.done++(if 0<s.Ak then s.ins++[⟨3,s.Ak,[],[],[]⟩] else s.ins)=d;congr 1;unfold G0;rcases tG d with rfl|⟨i,o,rfl⟩;simp[K2 (E:0<=a+b) j];simp only[vq,R0,WJ,vz];by_cases e:o.kind=1/\o.patch=p;simp[e,Sv,aAv];simp[e,K2 (E:0<=a+b) j]
def iT(s:MkS)(n:Nat)(set:W_)(p:Z_):(List.replicate n (⟨3,1,[],set,p⟩:Dop)).foldl BX s=KC s n\/(n=0/\(List.replicate n (⟨3,1,[],set,p⟩:Dop)).foldl BX s=s):=by
 induction n generalizing s with
 |zero=>exact .inr ⟨rfl,rfl⟩
 |succ n i=>
  left;rw[wB,wP];have e:BX s ⟨3,1,[],set,p⟩=KC s 1:=by simp[BX]
  rw[e];rcases i (KC s 1) with h|⟨rfl,h⟩;rw[h,mf s B_ E];congr 1;omega;rw[h];rfl
def Y5(s:MkS)(n:Nat)(h1:1<=n)(o:n<=1099511627776)(set:W_)(p:Z_):(List.replicate n (⟨1,1,[],set,p⟩:Dop)).foldl BX s=GM s n p:=by
 induction n generalizing s with
 |zero=>omega
 |succ n i=>
  rw[wB,wP];have e:BX s ⟨1,1,[],set,p⟩=GM s 1 p:=by simp[BX]
  rw[e];by_cases j:n=0;subst j;rfl;rw[i _ E E,lQ s B_ E E];congr 1;omega
def sL(s:MkS)(rs:X_)(set:W_)(p:Z_):(rs.map λr=>(⟨2,0,[r],set,p⟩:Dop)).foldl BX s=KD s rs set:=by
 induction rs generalizing s with
 |nil=>simp[KD]
 |cons r rs i=>
  rw[S4,wP];have e:BX s ⟨2,0,[r],set,p⟩=KD s [r] set:=by simp[BX]
  rw[e,i,kP];rfl
structure Oh (o:Dop):Prop where
 k:o.kind=1\/o.kind=2\/o.kind=3
 Ct:1<=Ao o
 le:Ao o<=536870912
def Kz(o:Dop):(CH o).length=Ao o:=by unfold CH Ao;split<;>simp
def bu(s:MkS){o:Dop}(h:Oh o):(CH o).foldl BX s=BX s o:=by
 obtain⟨k,n,rs,set,p⟩:=o;obtain⟨h1,i,j⟩:=h;simp[Ao] at h1 i j;rcases h1 with rfl|rfl|rfl;simp[CH,(B_:¬(1:Int)=2)] at *;rw[Y5 _ _ i E];simp only[BX,yE];rw[(E:((n.toNat:Nat):Int)=n)];simp[CH];rw[sL];simp[BX];simp[CH,(B_:¬(3:Int)=2)] at *;rcases iT s n.toNat set p with h|⟨h,_⟩;rw[h];simp only[BX,(B_:¬(3:Int)=1),(B_:¬(3:Int)=2),xF];rw[(E:((n.toNat:Nat):Int)=n)];omega
def Fg(n:Nat)(o:Dop):Dop:=if o.kind=2 then⟨2,o.n,o.AY.take n,o.set,o.patch⟩ else⟨o.kind,n,o.AY,o.set,o.patch⟩
def EX(n:Nat)(o:Dop):Dop:=if o.kind=2 then⟨2,o.n,o.AY.drop n,o.set,o.patch⟩ else⟨o.kind,o.n-n,o.AY,o.set,o.patch⟩
def CX(n:Nat):V'->V'
 |[]=>[]
 |o::x=>if n<Ao o then EX n o::x else x
def Qk{n:Nat}{o:Dop}(h:n<=Ao o):CH (Fg n o)++CH (EX n o)=CH o:=by
 obtain⟨k,m,rs,set,p⟩:=o;by_cases e:k=2;subst e;simp[CH,Fg,EX,<-S7,QC];simp only[Ao,CH,Fg,EX,e,xF] at *;rw[<-yi.symm];congr 1;omega
def SE{n:Nat}{o:Dop}{x:V'}(h:n<=Ao o):Bi (o::x)=CH (Fg n o)++Bi (CX n (o::x)):=by
 simp [CX];split;simp [Bi,vr,<-Mp,Qk h];have e:n=Ao o:=E;have i:CH (EX n o)=[]:=ys.1 (by
  have:=tZ List.length (Qk h);simp[Ad,Kz] at this;have j:Ao (Fg n o)=n:=by
   obtain⟨k,m,rs,set,p⟩:=o;by_cases e:k=2;subst e;simp[Ao,Fg] at *;omega;simp[Ao,Fg,e] at *
  rw [Kz];omega)
 have:=Qk h;rw[i,Ty] at this;simp[Bi,vr,this]
def OS{n:Nat}{o:Dop}(h:n<=Ao o):Ao (EX n o)=Ao o-n:=by
 obtain⟨k,m,rs,set,p⟩:=o;by_cases e:k=2;subst e;simp[Ao,EX] at *;simp[Ao,EX,e] at *
def MC(n:Nat)(o:Dop):(Fg n o).kind=o.kind:=by unfold Fg;split<;>simp_all
def XC(n:Nat)(o:Dop):(EX n o).kind=o.kind:=by unfold EX;split<;>simp_all
def bP{o:Dop}(h:Oh o):Fg (Ao o) o=o:=by
 obtain⟨k,m,rs,set,p⟩:=o;obtain⟨_,i,_⟩:=h;by_cases e:k=2;subst e;simp[Fg,Ao];simp[Fg,Ao,e] at *;congr;omega
def HZ{o u:Dop}(h:u∈CH o):u.kind=o.kind/\u.set=o.set/\u.patch=o.patch:=by
 unfold CH at h;split at h;simp[i7] at h;obtain⟨r,_,rfl⟩:=h;exact⟨by simp_all,rfl,rfl⟩;rw[y5] at h;rw[h.2];exact⟨rfl,rfl,rfl⟩
def Aw(x:V'):Nat:=(x.map Ao).sum
def NJ{n:Nat}{o:Dop}{x:V'}(h:n<=Ao o):Aw (CX n (o::x))+n=Aw (o::x):=by
 simp[CX];split;simp[Aw,S4,wJ,OS h];omega;simp[Aw,S4,wJ];omega
def bQ(x:V'):(Bi x).length=Aw x:=by
 induction x with
 |nil=>rfl
 |cons o x i=>simp only[Bi,vr,Ad,Kz,Aw,S4,wJ] at *;omega
section
variable {one:Dop->Dop->V'}
end
def CR(ks:Y')(b:Bool)(p:Z_):Z_:=p.filter λc=>match Bg ks c.key with|some k=>decide (k.block=b)|none=>false
def NK(ks:Y')(set:W_)(p:Z_)(r:Int):W_:=CQ set (CR ks (decide (r=10)) p)
def Fv(o:Dop)(x:V'):Bi (o::x)=CH o++Bi x:=rfl
def Vp{o:Dop}{x:V'}(i:Oh o):∃c b,Bi (o::x)=c::b/\c.kind=o.kind:=by
 rw[Fv];have:=Kz o;have hp:=i.Ct;cases e:CH o with
 |nil=>rw[e] at this;simp at this;omega
 |cons c b=>exact⟨c,b++Bi x,rfl,(HZ (o:=o) (u:=c) (by simp[e])).1⟩
def PM(PS:W_->Prop)(PP:Z_->Prop)(o:Dop):Prop:=(o.kind=1/\o.AY=[]/\o.set=[]/\1<=o.n/\PP o.patch)\/(o.kind=3/\o.AY=[]/\o.set=[]/\o.patch=[]/\1<=o.n)\/ (o.kind=2/\(∀r∈o.AY,Dc r)/\o.n=0/\o.patch=[]/\o.AY≠[]/\PS o.set)
def EN(x y:V'):Aw (x++y)=Aw x+Aw y:=by simp[Aw]
def GD(o:Dop):Aw [o]=Ao o:=by simp[Aw]
def LY{x:V'}{o:Dop}(h:o∈x):Ao o<=Aw x:=by
 induction x with
 |nil=>simp at h
 |cons a x i=>
  simp only[Aw,S4,wJ] at *;rcases I3.1 h with rfl|h;omega;have:=i h;omega
def Y6(i:V')(b o:Dop):(i++[b]).set ((i++[b]).length-1) o=i++[o]:=by
 rw[wV _ _ D_];simp
section
variable {PS:W_->Prop}{PP:Z_->Prop}
def V9{g:Int}(h:∀o∈a,PM PS PP o/\o.kind=2):∀o∈BW a g,PM PS PP o:=by
 intro o i;unfold BW at i;split at i;rcases DN.1 i with j|j;exact(h o j).1;simp at j;subst j;exact .inr (.inl ⟨rfl,rfl,rfl,rfl,by simp only;omega⟩);exact(h o i).1
def TF(ins:V')(g:Int):Aw (BW ins g)=Aw ins+g.toNat:=by
 unfold BW;split;rw[EN,GD];simp[Ao];omega
structure H6 (PS:W_->Prop) (PP:Z_->Prop) (s:MkS) (t:Nat):Prop where
 done:∀o∈s.done,PM PS PP o
 ins:∀o∈s.ins,PM PS PP o/\o.kind=2
 Ak:0<=s.Ak
 FH:Aw s.done+Aw s.ins+s.Ak.toNat<=t
def LJ{s:MkS}{t:Nat}{o:Dop}(h:H6 PS PP s t)(j:PM PS PP o)(ht:t+Ao o<=1099511627776):H6 PS PP (BX s o) (t+Ao o):=by
 obtain⟨done,ins,Ak⟩:=s;obtain⟨h1,V,h3,h4⟩:=h;simp only at h1 V h3 h4;obtain⟨k,n,rs,set,p⟩:=o;rcases j with⟨O,I,Q,U,B⟩|⟨O,I,Q,U,B⟩|⟨O,I,Q,U,B,e6⟩;simp only at O I Q U B;subst O;subst I;subst Q;simp[Ao,(B_:¬(1:Int)=2)] at ht ⊢;simp[BX,GM,Bp (E:¬n<1)];have hd:∀o∈done++BW ins Ak,PM PS PP o:=λo j=>by
  rcases DN.1 j with h|h;exact h1 o h;exact V9 V o h
 have X:Aw (done++BW ins Ak)<=t:=by rw[EN,TF];omega
 generalize done++BW ins Ak=d at hd X ⊢;have new:H6 PS PP ⟨d++[⟨1,n,[],[],p⟩],[],0⟩ (t+n.toNat):=by
  refine⟨λo j=>?_,D_,D_,?_⟩;rcases DN.1 j with h|h;exact hd o h;simp at h;subst h;exact .inl ⟨rfl,rfl,rfl,U,B⟩;simp[EN,GD,Ao,(B_:¬(1:Int)=2)];simp[Aw];simp[Aw] at X;omega
 unfold G0;rcases tG d with rfl|⟨i,q,rfl⟩;exact new;simp only[vq,R0,WJ,vz] at *;by_cases e:q.kind=1/\q.patch=p;rw[Cx e];have Y:=hd q D_;obtain⟨kq,nq,rq,sq,pq⟩:=q;simp only at e;obtain⟨rfl,rfl⟩:=e;rcases Y with⟨J,Z,f3,f4,f5⟩|⟨J,_⟩|⟨J,_⟩;simp only at Z f3 f4;subst Z;subst f3;rw[EN,GD] at X;simp only[Ao,(B_:¬(1:Int)=2),xF] at X;dsimp only;rw[K2 E E,Y6];refine⟨λo j=>?_,D_,D_,?_⟩;rcases DN.1 j with h|h;exact hd o (by simp[h]);simp at h;subst h;exact .inl ⟨rfl,rfl,rfl,by simp only;omega,B⟩;simp[EN,GD,Ao,(B_:¬(1:Int)=2)];simp[Aw];simp[Aw] at X;omega;simp at J;simp at J;rw[Bp e];exact new;simp only at O I Q U B;subst O;subst I;subst Q;subst U;simp[Ao,(B_:¬(3:Int)=2)] at ht ⊢;simp[BX,(B_:¬(3:Int)=1),(B_:¬(3:Int)=2),KC];have:MS n 0=n:=by unfold MS;rw[Bp E]
 rw[this,K2 E E];exact⟨h1,V,by simp only;omega,by simp only;omega⟩;simp only at O I Q U B e6;subst O;subst Q;subst U;simp[Ao] at ht ⊢;simp[BX,(B_:¬(2:Int)=1),KD,Bp B];have new:H6 PS PP ⟨done,ins++[⟨2,0,rs,set,[]⟩],Ak⟩ (t+rs.length):=by
  refine⟨h1,λo j=>?_,h3,?_⟩;rcases DN.1 j with h|h;exact V o h;simp at h;subst h;exact⟨.inr (.inr ⟨rfl,I,rfl,rfl,B,e6⟩),rfl⟩;simp[EN,GD,Ao];omega
 unfold Gh;rcases tG ins with rfl|⟨i,q,rfl⟩;exact new;simp only[vq,R0,WJ,vz] at *;by_cases e:q.set=set;rw[Cx e];have Y:=V q D_;obtain⟨kq,nq,rq,sq,pq⟩:=q;simp only at e;subst e;obtain⟨Y,hk⟩:=Y;simp only at hk;subst hk;rcases Y with⟨J,_⟩|⟨J,_⟩|⟨J,Z,f3,f4,f5,f6⟩;simp at J;simp at J;simp only at Z f3 f4 f5 f6;subst f3;subst f4;rw[Y6];refine⟨h1,λo j=>?_,h3,?_⟩;rcases DN.1 j with h|h;exact V o (by simp[h]);simp at h;subst h;exact⟨.inr (.inr ⟨rfl,λr hr=>by rcases DN.1 hr with h|h;exact Z r h;exact I r h,rfl,rfl,by simp[B],f6⟩),rfl⟩;simp[EN,GD,Ao,Ad] at h4 ⊢;omega;rw[Bp e];exact new
def gL(x:V')(h:∀o∈x,PM PS PP o)(hb:Aw x<=1099511627776):H6 PS PP (BB x) (Aw x):=by
 induction x using LW with
 |h0=>exact⟨by simp[BB,MkS.z],by simp[BB,MkS.z],by simp[BB,MkS.z],by simp[BB,MkS.z,Aw]⟩
 |h1 x o i=>
  rw[EN,GD] at hb ⊢;have:=LJ (i (λo j=>h o (by simp[j])) E) (h o D_) hb;simpa[BB] using this
def OD(x:V')(h:∀o∈x,PM PS PP o)(hb:Aw x<=1099511627776):(∀o∈AL x,PM PS PP o)/\Aw (AL x)<=Aw x:=by
 obtain⟨h1,J,O,Q⟩:=gL x h hb;have j:∀o∈(BB x).done++BW (BB x).ins (BB x).Ak,PM PS PP o:=λo I=>by
  rcases DN.1 I with h|h;exact h1 o h;exact V9 J o h
 have B:Aw ((BB x).done++BW (BB x).ins (BB x).Ak)<=Aw x:=by rw[EN,TF];omega
 unfold AL Ra;generalize (BB x).done++BW (BB x).ins (BB x).Ak=d at j B;unfold FT;rcases tG d with rfl|⟨i,q,rfl⟩;exact⟨j,B⟩;simp only[vq,R0,WJ,vz,wK] at *;split;rw[EN] at B;exact⟨λo I=>j o (by simp[I]),E⟩;exact⟨j,B⟩
end
section
variable {ks:Y'}
def GK(ks:Y')(l:W_):Prop:=Gr l/\l.length<=64/\∀a∈l,EE a.val/\II ks a.key a.val
def Ei(ks:Y')(p:Z_):Prop:=Gz p/\p.length<=64/\∀c∈p,(c.Ak=true->c.val=BF.zero)/\(c.Ak=false->EE c.val/\II ks c.key c.val)/\Bg ks c.key≠none
def E7{l:W_}:Bl ks l=0↔GK ks l:=by
 unfold Bl;constructor;intro h;split at h;cases h;split at h;cases h;rename_i h1 j;refine⟨rT λi=>h1 (.inl λhr=>i (dX hr)),rT λi=>h1 (.inr (.inl E)),λa ha=>⟨rT λi=>h1 (.inr (.inr ⟨a,ha,i⟩)),rT λi=>j ⟨a,ha,i⟩⟩⟩;rintro⟨h1,j,o⟩;rw[Bp,Bp];rintro⟨a,ha,i⟩;exact i (o a ha).2;rintro(i|i|⟨a,ha,i⟩);exact i (jo h1);omega;exact i (o a ha).1
def Hi{l:Z_}:EL ks l=0↔Ei ks l:=by
 unfold EL;constructor;intro h;split at h;cases h;split at h;cases h;rename_i h1 B;refine⟨rT λi=>h1 (.inl λhr=>i (dX hr)),rT λi=>h1 (.inr (.inl E)),λa ha=>⟨λj=>rT λi=>h1 (.inr (.inr ⟨a,ha,.inl ⟨j,i⟩⟩)),λj=>⟨rT λi=>h1 (.inr (.inr ⟨a,ha,.inr ⟨j,i⟩⟩)),rT λi=>B ⟨a,ha,.inr ⟨j,i⟩⟩⟩,λi=>B ⟨a,ha,.inl i⟩⟩⟩;rintro⟨h1,B,o⟩;rw[Bp,Bp];rintro⟨a,ha,i|⟨j,i⟩⟩;exact(o a ha).2.2 i;exact i ((o a ha).2.1 j).2;rintro(i|i|⟨a,ha,⟨j,i⟩|⟨j,i⟩⟩);exact i (jo h1);omega;exact i ((o a ha).1 j);exact i ((o a ha).2.1 j).1
def Jb:GK ks []:=⟨List.Pairwise.nil,D_,D_⟩
def Ek:Ei ks []:=⟨List.Pairwise.nil,D_,D_⟩
def YN{id:Int}{k:DKey}(h:Bg ks id=some k):id∈ks.map DKey.id:=by
 have h1:=aAS h;simp at h1;exact i7.2 ⟨k,zU h,h1⟩
def UU{id:Int}(h:Bg ks id≠none):id∈ks.map DKey.id:=by
 cases e:Bg ks id with
 |none=>exact(h e).elim
 |some k=>exact YN e
def ij(o:ks.length<=64){s:W_}{p:Z_}(j:GK ks s)(hp:Gz p)(i:∀c∈p,c.Ak=false->EE c.val/\II ks c.key c.val):GK ks (CQ s p):=by
 have hm:∀a∈CQ s p,EE a.val/\II ks a.key a.val:=λa ha=>by
  rcases NY ha with h|⟨c,hc,B,rfl⟩;exact j.2.2 a h;exact i c hc B
 have hr:=FY j.1 hp;refine⟨hr,?_,hm⟩;have:=vg (key:=Attr.key) (ids:=ks.map DKey.id) hr λa ha=>by
  obtain⟨k,hk,_⟩:=(hm a ha).2;exact YN hk
 rw[FA] at this;omega
abbrev Ax(ks:Y')(o:Dop):Prop:=PM (GK ks) (Ei ks) o
def Ax.RU{o:Dop}(h:Ax ks o)(hl:Ao o<=536870912):Oh o:=by
 rcases h with⟨h1,_,_,i,_⟩|⟨h1,_,_,_,i⟩|⟨h1,_,_,_,i,_⟩;exact⟨.inl h1,by simp[Ao,h1,(B_:¬(1:Int)=2)];omega,hl⟩;exact⟨.inr (.inr h1),by simp[Ao,h1,(B_:¬(3:Int)=2)];omega,hl⟩;refine⟨.inr (.inl h1),?_,hl⟩;simp[Ao,h1];exact wN.2 i
def Ax.Mq{o:Dop}(h:Ax ks o)(hl:Ao o<=536870912):HT o/\GK ks o.set/\Ei ks o.patch:=by
 rcases h with⟨h1,B,i,j,I⟩|⟨h1,B,i,j,I⟩|⟨h1,B,i,j,I,J⟩;simp[Ao,h1,(B_:¬(1:Int)=2)] at hl;exact⟨.inl ⟨h1,B,i,j,E⟩,by rw[i];exact Jb,I⟩;simp[Ao,h1,(B_:¬(3:Int)=2)] at hl;exact⟨.inr (.inl ⟨h1,B,i,j,I,E⟩),by rw[i];exact Jb,by rw[j];exact Ek⟩;simp[Ao,h1] at hl;exact⟨.inr (.inr ⟨h1,B,i,j,wN.2 I,hl⟩),J,by rw[j];exact Ek⟩
def HT.Cs{o:Dop}(h:HT o)(O:GK ks o.set)(hp:Ei ks o.patch):Ax ks o/\Ao o<=536870912:=by
 rcases h with⟨h1,i,j,B,I⟩|⟨h1,i,j,B,I,J⟩|⟨h1,i,j,B,I,J⟩;exact⟨.inl ⟨h1,i,j,B,hp⟩,by simp[Ao,h1,(B_:¬(1:Int)=2)];omega⟩;exact⟨.inr (.inl ⟨h1,i,j,B,I⟩),by simp[Ao,h1,(B_:¬(3:Int)=2)];omega⟩;exact⟨.inr (.inr ⟨h1,i,j,B,by intro e;rw[e] at I;simp at I,O⟩),by simp[Ao,h1];exact J⟩
def Hs{x:V'}(h:CU ks x=0):∀o∈x,Ax ks o/\Ao o<=536870912:=by
 unfold CU at h;split at h;cases h;split at h;cases h;rename_i h1 B;intro o j;refine HT.Cs (rT λi=>h1 (.inl ⟨o,j,.inl i⟩)) (E7.1 (rT λi=>B ⟨o,j,.inl i⟩)) (Hi.1 (rT λi=>B ⟨o,j,.inr i⟩))
def J9{f:Dop->Int}(x:V')(h:∀o∈x,0<=f o/\f o<=Ao o)(hb:Aw x<=1099511627776):0<=Dn f x/\Dn f x<=Aw x:=by
 induction x using LW with
 |h0=>exact⟨by simp[Dn],by simp[Dn]⟩
 |h1 x o i=>
  rw[EN,GD] at hb ⊢;have i1:=i (λo ho=>h o (by simp[ho])) (by omega);have i2:=h o (by simp);have e:Dn f (x++[o])=IntKind.i64.wrap (Dn f x+f o):=by simp[Dn]
  rw[e,K2 E E];omega
def NH{x:V'}(h:∀o∈x,Ax ks o)(hb:Aw x<=536870912):CU ks x=0:=by
 have B:∀o∈x,HT o/\GK ks o.set/\Ei ks o.patch:=λo j=>Ax.Mq (h o j) (by have:=LY j;omega);have i:∀o∈x,0<=o.n:=λo j=>by
  rcases h o j with⟨_,_,_,I,_⟩|⟨_,_,_,_,I⟩|⟨_,_,I,_⟩<;>omega
 have ht:=J9 (f:=CO) x (λo j=>by
  have:=i o j;unfold CO Ao;split <;> omega) E
 have hm:=J9 (f:=CV) x (λo j=>by
  have:=i o j;unfold CV Ao PA;split;split <;> omega;split <;> omega) E
 unfold CU;rw[Bp,Bp];rintro⟨o,j,i|i⟩;exact i (E7.2 (B o j).2.1);exact i (Hi.2 (B o j).2.2);rintro(⟨o,j,i|i|i⟩|i|i);exact i (B o j).1;rw[E7.2 (B o j).2.1] at i;cases i;rw[Hi.2 (B o j).2.2] at i;cases i;omega;omega
def Z1{o u:Dop}(h:Ax ks o)(hu:u∈CH o):Ax ks u/\Ao u=1:=by
 rcases h with⟨h1,B,i,j,I⟩|⟨h1,B,i,j,I⟩|⟨h1,B,i,j,I,J⟩;simp only[CH,h1,(B_:¬(1:Int)=2),xF] at hu;rw[y5] at hu;rw[hu.2];exact⟨.inl ⟨rfl,rfl,i,by simp only;omega,I⟩,rfl⟩;simp only[CH,h1,(B_:¬(3:Int)=2),xF] at hu;rw[y5] at hu;rw[hu.2];exact⟨.inr (.inl ⟨rfl,rfl,i,j,by simp only;omega⟩),rfl⟩;simp[CH,h1,i7] at hu;obtain⟨r,hr,rfl⟩:=hu;exact⟨.inr (.inr ⟨rfl,by simpa using B r hr,rfl,j,D_,J⟩),by simp[Ao]⟩
def L9{x:V'}(h:∀o∈x,Ax ks o):∀u∈Bi x,Ax ks u/\Ao u=1:=by
 intro u hu;simp[Bi,xu] at hu;obtain⟨o,i,hu⟩:=hu;exact Z1 (h o i) hu
def IZ{x:V'}(h:∀o∈x,Ao o=1):Aw x=x.length:=by
 induction x with
 |nil=>rfl
 |cons o x i=>
  have:=i λo j=>h o (by simp[j]);simp only[Aw,S4,wJ,Hn] at *;rw[h o D_];omega
end
def tK{t e k bytes:Nat}{R:e_->V_->α->Prop}{v x:d_}{l m:List α}(I:Dg P t e k bytes)(h:AG w0.heap.size e k R w v l)(B:AI w0 w)(J:BC S k R w x m) (i:∀r y,R w r y->∀u∈r,u.oneCell'=true)(O:∀Q w2 r y,R Q r y->R w2 r y)(j:(l.length+m.length)*bytes<=140737488355328)(o:l.length+m.length<=maxLen) (U:∀v' w',AG w0.heap.size e k R w' v' (l++m)->AI w0 w'->K v' w'):runK P (Builtin.append_ #[t,t] t [v,x].toArray) K w:=by
 obtain⟨v',w',h1,V,X,_⟩:=AG.append (ty:=t) I h J i j B.size o λw' _ r y Y=>O _ _ _ _ Y;exact AZ h1 (U v' w' V (B.next (AK.BQ X) λb hb e=>by have:=(AG.Az h b e).1;omega))
def JA(WM:d_)(w4 W:e_)(ov:d_):Prop:=AK (λb=>WM.ownBlock=some b) w4 W/\∀b,ov.ownBlock=some b->WM.ownBlock=some b\/w4.heap.size<=b
section
variable {WM ov v':d_}{w w4 W W':e_}
def JA.start:JA ov w4 w4 ov:=⟨AK.refl _ _,J_⟩
def JA.U_(h:JA WM w4 W ov)(g:AI W W'):JA WM w4 W' ov:=⟨h.1.next g E',h.2⟩
def JA.push(h:JA WM w4 W ov)(m:AK (λb=>ov.ownBlock=some b) W W')(i:∀g,v'.ownBlock=some g->ov.ownBlock=some g\/W.heap.size<=g):JA WM w4 W' v':=
 ⟨h.1.next m λb hb e=>by rcases h.2 b e with e | e;exact e;omega,λb hb=>by
  rcases i b hb with e | e;exact h.2 b e;exact .inr (vx h.1.size e)⟩
def JA.g(h:JA WM w4 W ov)(g:AI w w4)(i:∀b,WM.ownBlock=some b->w.heap.size<=b):AI w W:=g.next h.1 λb hb e=>by have:=i b e;omega
end
def Nt{l:List α}{i:Nat}(h:i<l.length):l.drop i=l[i]::l.drop (i+1):=wT h
def UD{s:W_}{p:Z_}(hs:CI S w sv s)(hp:Eg S' w v p)(hb:s.length+p.length<=1099511627776) : AF prog 224 [sv,v] (λv' w'=>J7 w.heap.size w' v' (CQ s p)/\AI w w') w:=by
 refine G_ func224 ?_ (.y (.y (.y (.y (.x (.y (.node [5,6,11] [(5,6),(8,8),(11,70)] (.y (.y (.cut [5,6] [(5,6),(8,8),(13,69)] (.y (.x (.node [5,6] [(5,6),(15,58)] (.y (.x (.cut [5,6] [(5,6),(21,47)] (.z .D8 (.y (.x .D8))) .nil))) .nil))) .nil))) .nil)))))));obtain⟨sa,sc,rfl,_⟩:=hs.AO;obtain⟨pa,pc,rfl,_⟩:=hp.AO;rw[AP];apply AX (λvs W=>∃(k i:Nat) (I:d_) (out:W_),k<=p.length/\i<=s.length/\vs=[I,zI i,zI k]/\J7 w.heap.size W I out/\AI w W/\out.length+(s.length-i)+(p.length-k)<=s.length+p.length/\out++CQ (s.drop i) (p.drop k)=CQ s p) (λvs _=>p.length-Di vs 2) ⟨0,0,_,[],E,E,rfl,AG.nil,AK.refl _ _,D_,rfl⟩;rintro vs W ⟨k,i,WM,out,hk,hi,rfl,O,g,o,he⟩ _;simp only[Iu];refine HP (λa1=>?_) λav=>?_;have Q:k<p.length:=E;rw[Nt Q] at he;simp only[CQ] at he;refine AV (λvs W=>∃(i:Nat) (I:d_) (out:W_),i<=s.length/\vs=[I,zI i]/\J7 w.heap.size W I out/\AI w W/\out.length+(s.length-i)+(p.length-(k+1))<=s.length+p.length/\out++CQ (s.drop i) (p.drop (k+1))=CQ s p) ?_ ?_;rintro vs W ⟨i,I,out,hi,rfl,O,Z,o,he⟩ _;simp only[JS,wL];rw[AR,AM E];refine⟨⟨k+1,i,I,out,Q,hi,rfl,O,Z,o,he⟩,?_⟩;show p.length-((k+1:Nat):Int).toNat<p.length-(k:Int).toNat;omega;obtain⟨a,r,rfl,_,hr,hc,rfl⟩:=(hp.U_ g B_ C0).get Q;refine AW Q (Ab hr m_ ?_);refine BJ (vs:=p[k].cells) rfl rfl (EA.one (w:=W) (x:=p[k]) rfl) λb8 w4 cc ch g4 a8 _=>?_;have aa:=g.trans g4;have hB:∀b,WM.ownBlock=some b->w.heap.size<=b:=λb e=>(AG.Az O b e).1;have h8:WM.ownBlock≠some b8:=λe=>by have:=(AG.Az O b8 e).2;omega
 have ak:J7 w.heap.size w4 WM out:=AG.U' O g4 C0 F_;have put:∀(i:Nat) (I:d_) (out:W_) (W1:e_),J7 w.heap.size W1 I out->JA WM w4 W1 I->i<=s.length->out.length+(s.length-i)+(p.length-k)<=s.length+p.length->out++PJ p[k]++CQ (s.drop i) (p.drop (k+1))=CQ s p->
   (BZ 1 (g_ b8) λax=>BV ax (λay w8=>Nj ay λc7=>Al c7
    (BZ 0 (g_ b8) λb0=>BV b0 (λc9 w9=>BZ 2 (g_ b8) λb6=>DT 4 b6 (λca b7=>
     DW [(0,1),(1,4)] [(zI 0),(.int .u8 0),(zI 0),(.int .u64 0),(.string (ByteArray.mk #[]))] [(0,c9),(1,ca)] λb9=>
     Eb 116 5 1 [(zI 0),(.int .u8 0),(zI 0),(.int .u64 0),(.string (ByteArray.mk #[]))] [(0,b9)] (λba bb=>
     runK prog (Builtin.append_ #[47,47] 47 [I,ba].toArray) (λbk al=>
      ∃ (U:Nat) (V:d_) (B:W_),U<=s.length/\[bk,zI (i:Int)]=[V,zI (U:Int)]/\J7 w.heap.size al V B/\AI w al/\B.length+(s.length - U)+(p.length - (k+1))<=s.length+p.length/\B++CQ (s.drop U) (p.drop (k+1))=CQ s p) bb) b7) w9) w8)
    (∃ (U:Nat) (V:d_) (B:W_),U<=s.length/\[I,zI (i:Int)]=[V,zI (U:Int)]/\J7 w.heap.size w8 V B/\AI w w8/\B.length+(s.length - U)+(p.length - (k+1))<=s.length+p.length/\B++CQ (s.drop U) (p.drop (k+1))=CQ s p)) W1):=by
  intro i I out W1 O Z hi o he;have c8:∀j u,p[k].cells[j]?=some u->W1.cell? ((⟨b8,0,none⟩:Addr).add j)=some u:=λj u hu=>Z.1.cell (a8 j u hu) (by rw[Av];exact h8);rw[AB];apply AD (c8 1 _ rfl);rw[Aq];have X:=Z.g aa hB;cases hg:p[k].Ak with
  |true=>
   apply AS;rw[PJ,hg,Cx rfl,Ty] at he;exact⟨i,I,out,hi,rfl,O,X,E,he⟩
  |false=>
   apply Ai;rw[PJ,hg,Bp B_] at he;rw[AB];apply AD (c8 0 _ rfl);rw[AB];refine Ab (vs:=p[k].val.cells) rfl (λj u hu=>by rw[Addr.add_add];exact c8 (2+j) u (by rw[yf];exact hu)) ?_;refine⟨(⟨p[k].key,p[k].val⟩:Attr).cells.toArray,C_,?_⟩;refine ME (w0:=w) JI O X (cs:=(⟨p[k].key,p[k].val⟩:Attr).cells) (x:=⟨p[k].key,p[k].val⟩) C_ rfl rfl (λ_ _ _=>Ch.one) N_ E L_ λv' w' o' g'=>?_;exact⟨i,v',_,hi,rfl,o',g',by simp only[Ad,Hn,gC];omega,he⟩
 apply AX (λvs W=>∃(i:Nat) (I:d_) (out:W_),i<=s.length/\vs=[I,zI i]/\J7 w.heap.size W I out/\JA WM w4 W I/\out.length+(s.length-i)+(p.length-k)<=s.length+p.length/\out++(Lo p[k] (s.drop i)++PJ p[k]++CQ (GA p[k] (s.drop i)) (p.drop (k+1)))=CQ s p) (λvs _=>s.length-Di vs 1) ⟨i,WM,out,hi,rfl,ak,JA.start,o,he⟩;clear O ak o he hi;rintro vs W1 ⟨i,I,out,hi,rfl,O,Z,o,he⟩ _;have X:=Z.g aa hB;have c8:=Z.1.cell (a8 0 _ rfl) (by rw[Av];exact h8);simp only[JS,wL];rw[AP,As];refine AE (λhl=>?_) λav=>?_;have J:i<s.length:=E;rw[Nt J] at he;simp only[Lo,GA] at he;refine AV (λvs W=>∃(i:Nat),i<=s.length/\vs=[I,zI i]/\AI W1 W/\out.length+(s.length-i)+(p.length-k)<=s.length+p.length/\out++PJ p[k]++CQ (s.drop i) (p.drop (k+1))=CQ s p) ?_ ?_;rintro vs W2 ⟨U,bl,rfl,Y,a6,bp⟩ _;simp only[JS,wL];exact put U I out W2 (AG.U' O Y C0 F_) (Z.U_ Y) bl a6 bp;obtain⟨a,r,e,_,hr,hc,hx⟩:=(hs.U_ X B_ C0).get J;subst hx;cases e;apply DY (λW=>AI W1 W) (AK.drew _ _);apply AW J;rw[AB,Addr.add_add];apply BR (λW hW=>hW.cell (hc 0 _ rfl) E_);rw[AB];apply BR (λW hW=>hW.cell c8 E_);rw[As];intro W2 Y;have bs:J7 w.heap.size W2 I out:=AG.U' O Y C0 F_;refine AE (λa1=>?_) λan=>?_;rw[Cx a1,Cx a1] at he;refine AW J (Ab hr (λj u hu=>by rw[Addr.add_add];exact Y.cell (hc j u hu) E_) ?_);refine FL JI bs (X.trans Y).size (cs:=s[i].cells) (x:=s[i]) C_ rfl rfl (λ_ _ _=>Ch.one) N_ E L_ λv' w' o' m' a7=>?_;rw[AR,AM E];refine⟨⟨i+1,v',out++[s[i]],J,rfl,o',(Z.U_ Y).push m' a7,by simp only[Ad,Hn,gC];omega,by rw[<-he];simp⟩,by rw[BE,BE];omega⟩;rw[Bp an,Bp an] at he;apply DY (λW=>AI W2 W) (AK.drew _ _);apply AW J;rw[AB,Addr.add_add];apply BR (λW hW=>hW.cell (Y.cell (hc 0 _ rfl) E_) E_);rw[AB];apply BR (λW hW=>hW.cell (Y.cell c8 E_) E_);rw[Aj];intro W3 g7;refine AE (λc4=>?_) λc6=>?_;rw[Cx c4] at he;rw[AR,AM E];exact⟨i+1,J,rfl,Y.trans g7,E,by rw[<-he];simp⟩;rw[Bp c6] at he;exact⟨i,hi,rfl,Y.trans g7,o,by rw[Nt J,<-he];simp⟩;have e:s.drop i=[]:=xB E;rw[e] at he;simp only[Lo,GA,u7] at he;exact put i I out W1 O Z hi o (by rw[e,<-he];simp);obtain rfl:k=p.length:=E;rw[xq] at he;simp[CQ] at he;refine Ev (e:=116) (k:=5) (i:=Tryz.t116) C_ C_ C_ (hs.U_ g B_ C0) hi λv' a7=>?_;refine tK (w0:=w) JI O g a7 (λ_ _=>Ch.one (w:=W)) (λ_ _ _ _ h=>h) (by rw[FB];omega) (by simp[maxLen,FB];omega) λcu w' o' g'=>?_;rw[he] at o';exact⟨o',g'⟩
section
variable {F C:f_}{W:e_}{b bt N:Nat}{L:List W_}
def qS(h:Eu Bb.toAvT F C W b bt L N):AF prog 199 [g_ b] (λv' w'=>v'=zI (L.length:Int)/\AI W w') W:=by
 apply AA (RG Gp h);rintro _ w ⟨rfl,g⟩;refine⟨?_,g⟩;rw[show Tr.sz Bb.toAvT.k.μ L=L.length from Nl L]
def jc{k m:Nat}{p:Z_}(h:Eu Bb.toAvT F C W b bt L N)(hN:N<=100000000000)(I:k<=m)(hm:m<=L.length)(hl:L.length<=536870912)(hs:∀x∈L,x.length*48<=140737488355328)(hp:Eg S W v p)(hb:∀x∈L,x.length+p.length<=1099511627776) : AF prog 209 [g_ b,zI (k:Int),zI (m:Int),v] (λv' w'=>v'=zI 0/\∃F' C',(∀x,F x->F' x)/\(∀x,C x->C' x)/\(∀x,F' x->F x\/W.heap.size<=x)/\(∀x,C' x->C x\/W.heap.size<=x)/\Eu Bb.toAvT F' C' w' b bt (L.take k++((L.take m).drop k).map (λx=>CQ x p)++L.drop m) (N+L.length+4)/\AK F W w') W:=by
 refine O_ func209 ?_ (.y (.y (.y (.x (.y (.node [24] [(11,11),(24,36)] .nil .nil))))));apply AA (Tm h E I hm hl hs);rintro _ O ⟨Z,W0,rfl,gA,gB,o⟩;refine Bv ?_;refine KU ?_;have hF:=h.lt;have zA:=gA.size;have zB:=gB.size;have J:=gA.trans gB;generalize hX:(L.take m).drop k=X at *;have ax:X.length<=L.length:=by rw[<-hX,FB,K8];omega
 have a6:∀x∈X,x∈L:=λx i=>by rw[<-hX] at i;exact aO (aR i)
 have a7:=hp.JR B_;have EU:∀(B:e_) (D2:f_),(∀x,D2 x->W0.heap.size<=x/\Z.ownBlock≠some x)->AG W0.heap.size 47 1 (Dr D2) B Z (X.map λx=>CQ x p)->AK (λx=>Z.ownBlock=some x) O B->
   AF prog 183 [g_ b] (λa8 w6=>AF prog 264 [a8,zI (k:Int),zI (m:Int),Z] (λ_ w'=>(zI 0:d_)=zI 0/\∃F' C',(∀x,F x->F' x)/\(∀x,C x->C' x)/\(∀x,F' x->F x\/W.heap.size<=x)/\(∀x,C' x->C x\/W.heap.size<=x)/\Eu Bb.toAvT F' C' w' b bt (L.take k++X.map (λx=>CQ x p)++L.drop m) (N+L.length+4)/\AK F W w') w6) B:=by
  intro B D2 Q o2 m2;have z2:=m2.size;have U:=AG.Az o;have U2:=AG.Az o2
  let C':f_:=λx=>C x\/(D2 x/\x<B.heap.size)
  have h2:Eu Bb.toAvT F C B b bt L N:=(h.U_ J).U' m2 λx i e=>by
   have:=hF x i;have:=(U x e).1;omega
  have h4:Eu Bb.toAvT F C' B b bt L N:=h2.sub (λx i=>.inl i) (λx i e=>by
    rcases e with e|e
    .exact h.MP x i e
    .have:=hF x (.inl i);have:=(Q x e.1).1;omega) λx e=>by
    rcases e with e|e
    .have:=hF x (.inr e);omega
    .exact e.2
  have o4:AG W0.heap.size 47 1 (Dr C') B Z (X.map λx=>CQ x p):=AG.U' o2 l_ C0 λr y _ hy=>Bb.rsub hy λx i hd=>.inr ⟨hd,i⟩;have er:=Mj L (X.map λx=>CQ x p) I;have V:(X.map λx=>CQ x p).length=X.length:=FA _;have aa:(Kj.Cw L k m (X.map λx=>CQ x p)).length<=1099511627776:=by rw[er];simp only[Ad,K8,FB,V];omega
  apply AA (Fm Gp h4);rintro _ w3 ⟨rfl,e3⟩;subst e3;refine AA (L5 (Yg (g:=Bb)) (L:=X.map λx=>CQ x p) h4 E o4.sl (λx i ak=>by have:=hF x (.inl ak);have:=i.1;omega) I E (N3 E) (N3 (l:=Kj.Cw L k m (X.map λx=>CQ x p)) aa) (N3 (l:=(Kj.split L k).1.getLast?.toList++(X.map λx=>CQ x p)++(Kj.split (Kj.split L k).2 (m - k)).2.head?.toList) (by
   have q1:=tLe (Kj.split L k).1.getLast?;have q2:=tLe (Kj.split (Kj.split L k).2 (m - k)).2.head?;simp only [Ad,V];omega))) ?_
  rintro _ w5 ⟨F',k1,k2,k3,k4⟩;have ay:Bb.toAvT.k.Cw L k m (X.map λx=>CQ x p)=L.take k++X.map (λx=>CQ x p)++L.drop m:=er;rw[ay] at k3;obtain⟨A,T,t1,t2,t3,t4,t5⟩:=k3.FZ;refine⟨rfl,F',C',k1,λx i=>.inl i,λx i=>(k2 x i).imp E_ E,λx i=>i.imp E_ λh=>by have:=(Q x h.1).1;omega,⟨k3.box,⟨A,T,t1,t2,t3,t4,E⟩,k3.fb⟩,((J.next m2 λx i e=>by have:=(U x e).1;omega).mono E').trans k4⟩
 obtain⟨a1,c1,rfl,b0,b6,hq,hn⟩:=AG.AO o;rw[AP];cases a1 with
 |none=>
  have:=hn rfl;subst this;apply AX (λvs B=>vs=[zI 0]/\B=O) (λ_ _=>0) ⟨rfl,rfl⟩;rintro vs _ ⟨rfl,rfl⟩ _;rename e_=>O;rw[Bh,JS,As];exact AE (λh=>by simp at h) λ_=>EU O (λ_=>False) K_ (AG.U' (R':=Dr λ_=>False) o l_ C0 λr y hy _=>by simp at hy) (AK.refl _ _)
 |some p1=>
  obtain⟨g,rfl,al,b7,_⟩:=hq _ rfl;refine Yp (W0:=W0) (call:=λsv K W'=>AF prog 224 [sv,v] K W') (M:=X.map λx=>CQ x p) (FA _) E al gB o (λx i e=>i.2 (by rw[e];rfl)) (λj q1 q2 sv W' K Y an hK=>?_) λw' oM mm=>?_
  .have b8:=Y.size;have av:Eg (λx=>S x/\x<W.heap.size) W' v p:=BC.mono (BC.mono (R':=EA) (w':=O) a7 C0 (λx i _=>J.Ap x i E_) B_ C0) C0 (λx i hS=>Y.Ap x i λe=>by have:=hS.2;omega) B_ C0;apply AA (UD an av (hb _ (a6 _ (Q0 q1))));rintro v' w' ⟨k1,k2⟩;exact hK v' w' (by rw[wz];exact k1) k2
  .refine EU w' _ (λx i=>⟨i.1,λe=>?_⟩) oM (mm.mono λx _ e=>by subst e;rfl);simp only[Value.ownBlock,S5] at e;exact i.2 e.symm
end
def qq:AF prog 122 [] (λv' w'=>∃b,v'=g_ b/\W.heap.size<=b/\Bx w' b [.pointer none]/\AI W w') W:=by
 apply P_ func122;refine⟨[Value.pointer none].toArray,C_,?_⟩;exact Bx.box λb j hb i B=>⟨b,rfl,hb,B,i⟩
def pV:AF prog 123 [] (λv' w'=>∃b,v'=g_ b/\W.heap.size<=b/\Bx w' b [.pointer none]/\AI W w') W:=by
 apply P_ func123;refine⟨[Value.pointer none].toArray,C_,?_⟩;exact Bx.box λb j hb i B=>⟨b,rfl,hb,B,i⟩
def qC:AF prog 124 [] (λv' w'=>∃b,v'=g_ b/\W.heap.size<=b/\Bx w' b [.pointer none]/\AI W w') W:=by
 apply P_ func124;refine⟨[Value.pointer none].toArray,C_,?_⟩;exact Bx.box λb j hb i B=>⟨b,rfl,hb,B,i⟩
def WC{b:Nat}(o:Bx W b [.pointer none]) : AF prog 185 [g_ b,zI 0] (λv' w'=>v'=.tuple #[zI 0,zI 0]/\∃bt F,Eu BO.toAvT F Il w' b bt [] 0/\(∀x,F x->x=b\/W.heap.size<=x)/\AK (λx=>x=b) W w') W:=by
 apply G_ func185;refine AA (K:=λv' w'=>v'=zI 0/\∃bt F,Eu BO.toAvT F Il w' b bt [] 0/\(∀x,F x->x=b\/W.heap.size<=x)/\AK (λx=>x=b) W w') ?_ ?_;apply GZ.uh;unfold ke;refine Dp (AS ?_);rw[As];refine AE E λ_=>?_;rw[BM];refine AE E λ_=>?_;apply AA (dS (g:=BO.toAvT) (C:=Il) GZ o E_ K_);rintro _ i ⟨rfl,h⟩;rw[BM];exact AE E λ_=>⟨rfl,h⟩;rintro _ i ⟨rfl,bt,F,h,hF,B⟩;refine KU ?_;apply AA (Fm GZ h);rintro _ _ ⟨rfl,rfl⟩;rename e_=>i;obtain⟨A,T,I,J,Q,O,U⟩:=h.FZ;refine AA (WB (p:=0) I J (Hw _) (Rg (by rw[O];exact Hw _))) ?_;rintro _ V ⟨rfl,j⟩;refine⟨by rw[xj];rfl,bt,F,h.U_ j,hF,B.next j E'⟩
def Vj{S D:f_}{b:Nat}{R:List W_}(hB:Bx W b [.pointer none])(hl:R.length<=536870912)(Z:BC S 1 (Dr D) W v R)(Q:∀x,S x\/D x->x≠b)(hs:∀x∈R,x.length*48<=140737488355328) : AF prog 194 [g_ b,zI 0,v] (λv' w'=>v'=zI 0/\∃bt F' C',(∀x,F' x->x=b\/W.heap.size<=x)/\(∀x,C' x->W.heap.size<=x)/\Eu Bb.toAvT F' C' w' b bt R (R.length+4)/\AK (λx=>x=b) W w') W:=by
 apply I' func194;refine AA (K:=λv' w'=>v'=zI 0/\∃bt F,Eu Bb.toAvT F Il w' b bt [] 0/\(∀x,F x->x=b\/W.heap.size<=x)/\AK (λx=>x=b) W w') ?_ ?_
 .apply Gp.uh;unfold ke;refine Dp (AS ?_);rw[As];refine AE E λ_=>?_;rw[BM];refine AE E λ_=>?_;apply AA (dS (g:=Bb.toAvT) (C:=Il) Gp hB E_ K_);rintro _ w1 ⟨rfl,h⟩;rw[BM];exact AE E λ_=>⟨rfl,h⟩
 rintro _ w1 ⟨rfl,bt,F,h1,hF,m1⟩;refine KU ?_;obtain⟨a,c,rfl,_⟩:=Z.AO;have U:∀M:List W_,Tr.sz Bb.toAvT.k.μ M=M.length:=Nl;rw[AP];apply AA (RG Gp h1);rintro _ O ⟨rfl,g2⟩;rw[U,A6,wrap64 D_ D_,BM];refine AE (λe=>by simp only[gC] at e;omega) λ_=>?_;have V:=h1.U_ g2;apply AA (Fm Gp V);rintro _ w3 ⟨rfl,e3⟩;subst e3;rename e_=>O;have B:AK (λx=>x=b) W O:=m1.next g2 E';have X:BC (λx=>(S x/\x<W.heap.size)/\x≠b) 1 (Dr λx=>(D x/\x<W.heap.size)/\x≠b) O (.slice a R.length c) R:=BC.mono (Z.JR B_) (λx _ h=>⟨h,Q x (.inl h.1)⟩) (λx o h=>B.Ap x o λe=>Q x (.inl h.1) e) B_ λr x o=>Bb.Bw (Bb.rsub o λy hy J=>⟨⟨J,hy⟩,Q y (.inr J)⟩) B λy _ J e=>J.2 e;apply AA (Nh X E hs);rintro v4 w4 ⟨o4,g4⟩;have I:=V.lt;have z0:=hB.lt (P9 _);have z1:=m1.size;have z2:=g2.size;have z4:=g4.size
 let C':f_:=λx=>O.heap.size<=x/\x<w4.heap.size/\v4.ownBlock≠some x
 have h4:Eu Bb.toAvT F C' w4 b bt [] 0:=(V.U_ g4).sub K_ (λx o e=>by have:=I x (.inl o);have:=e.1;omega) λx e=>e.2.1;have er:=Mj [] R (HK 0);simp only [List.take_nil,List.drop_nil,u7,Ty] at er;have a1:AG O.heap.size 47 1 (Dr C') w4 v4 R:=AG.U' o4 (AK.refl (λ_=>False) _) (λ_ _ h=>h) λr y _ hy=>Bb.rsub hy λx hx hd=>⟨hd.1,hx,hd.2⟩;refine AA (L5 (Yg (g:=Bb)) (i:=0) (j:=0) (L:=R) h4 E a1.sl (λx o Y=>by have:=I x (.inl Y);have:=o.1;omega) (HK 0) E (N3 (l:=[]) D_) (N3 (l:=Kj.Cw [] 0 0 R) (by rw [er];omega)) (N3 (l:=(Kj.split [] 0).1.getLast?.toList++R++(Kj.split (Kj.split [] 0).2 (0 - 0)).2.head?.toList) (by
  have q1:=tLe (Kj.split [] 0).1.getLast?;have q2:=tLe (Kj.split (Kj.split [] 0).2 (0-0)).2.head?;simp only [Ad];omega))) ?_
 rintro _ w5 ⟨F',k1,k2,k3,k4⟩;have a6:Bb.toAvT.k.Cw [] 0 0 R=R:=er;rw[a6,wS] at k3;refine⟨rfl,bt,F',C',λx o=>?_,λx o=>by have:=o.1;omega,k3,(B.next g4 E').next k4 λx o e=>?_⟩
 .rcases k2 x o with e|e
  .exact(hF x e)
  .exact .inr E
 .rcases hF x e with e|e
  .exact e
  .omega
def GX(g o x:Nat):(⟨g,o,none⟩:Addr).add x=⟨g,o+x,none⟩:=by unfold Addr.add;split<;>simp_all
def Y8{g off:Nat}:∀(vs:V_) (q:Nat) (W:e_),(∀j,q<=j->j<q+vs.length->Cv W ⟨g,off+j,none⟩)->AK (λx=>x=g) W (FE W ⟨g,off,none⟩ q vs)/\(∀j u,vs[j]?=some u->(FE W ⟨g,off,none⟩ q vs).cell? ⟨g,off+q+j,none⟩=some u)/\(∀j,(j<off+q\/off+q+vs.length<=j)->(FE W ⟨g,off,none⟩ q vs).cell? ⟨g,j,none⟩=W.cell? ⟨g,j,none⟩)/\(∀a,Cv W a->Cv (FE W ⟨g,off,none⟩ q vs) a):=by
 intro vs;induction vs with
 |nil=>intro q W _;exact⟨AK.refl _ _,λj u hu=>by simp at hu,I_,λ_ h=>h⟩
 |cons x vs B=>
  intro q W hl;simp only[FE];rw[GX];obtain⟨J,O,o,Q⟩:=B (q+1) (W.setCell ⟨g,off+q,none⟩ x) λj h1 U=>(hl j (by omega) (by simp;omega)).set _ _;refine⟨(AK.setCell (M:=λx=>x=g) W ⟨g,off+q,none⟩ x rfl).trans J,λj u hu=>?_,λj I=>?_,λa ha=>Q a (ha.set _ _)⟩;cases j with
  |zero=>
   simp at hu;subst hu;obtain⟨V,i⟩:=pj.1 (hl q (HK _) D_).1;rw[o _ (.inl E)];exact cO _ _ _ i
  |succ j=>
   have:=O j u (by simpa using hu);rw[(E:off+q+(j+1)=off+(q+1)+j)];exact this
  simp only[Hn] at I;rw[o j E,Of _ _ _ _ (by intro e;simp only[Addr.mk.injEq] at e;omega)]
structure O8 {α:Type} (k:Nat) (cs:α->V_) (W:e_) (g:Nat) (L:List α):Prop where
 cells:∀m (h:m<L.length) j u,(cs L[m])[j]?=some u->W.cell? ⟨g,m*k+j,none⟩=some u
 Cb:∀m j,m<L.length->j<k->Cv W ⟨g,m*k+j,none⟩
section
variable {α:Type}{k:Nat}{cs:α->V_}{W W':e_}{g:Nat}{L:List α}
def O8.U'(h:O8 k cs W g L)(m:AK M W W')(o:¬M g):O8 k cs W' g L:=⟨λi hi j u hu=>m.cell (h.cells i hi j u hu) o,λi j hi B=>(h.Cb i j hi B).U' m o⟩
def O8.store{i:Nat}{x:α}{K:e_->Prop}(h:O8 k cs W g L)(hi:i<L.length)(hk:∀y,(cs y).length=k)(h1:∀v∈cs x,v.oneCell'=true) (I:∀W',O8 k cs W' g (L.set i x)->AK (λb=>b=g) W W'->K W'):Bu k (.pointer (some ⟨g,i*k,none⟩)) (.agg (cs x).toArray) K W:=by
 have lv:∀j,j<k->Cv W ((⟨g,i*k,none⟩:Addr).add j):=λj o=>by rw[GX];exact h.Cb i j hi o
 obtain⟨J,O,Q,U⟩:=Y8 (g:=g) (off:=i*k) (cs x) 0 W λj _ o=>h.Cb i j hi (by have:=hk x;omega);refine⟨_,cs x,rfl,rfl,hk x,h1,λj o=>lv j o,I _ ⟨λm hm j u hu=>?_,λm j hm o=>U _ (h.Cb m j (by simpa using hm) o)⟩ J⟩;rw[List.getElem_set] at hu;split at hu
 .rename_i e;subst e;have:=O j u hu;rwa [ua] at this
 .rename_i B;have V:m<L.length:=by simpa using hm
  have o:j<k:=by have:=(Bq.1 hu).1;rw[hk] at this;exact this
  rw[Q]
  .exact h.cells m V j u hu
  .rw[hk];rcases aAe B with e|e
   .right;have:(i+1)*k<=m*k:=wj _ e;rw[wF] at this;omega
   .left;have:(m+1)*k<=i*k:=wj _ e;rw[wF] at this;omega
def O8.of{B e n c:Nat}{R:e_->V_->α->Prop}(h:AG B e k R W (.slice (h_ g) n c) L)(hk:0<k)(o:∀r x,R W r x->r=cs x):O8 k cs W g L:=by
 refine⟨λm hm j u hu=>?_,λm j hm I=>?_⟩;obtain⟨An,h1,O,Q,U⟩:=id h;obtain⟨a,r,i,_,hr,hc,J⟩:=(AG.sl h).get hm;cases i;have:=hc j u (by rw[o _ _ J];exact hu);rwa [GX,wS] at this;obtain⟨V,i,_,hl⟩:=AG.Cb h hm I;cases i;rwa [GX,wS] at hl
end
def fj{zero:Array d_}{n:Nat}(o:0<zero.size)(h1:∀v∈zero.toList,v.oneCell'=true):∀v∈(Builtin.zeroCells zero n).toList,v.oneCell'=true:=by
 intro v j;simp[Builtin.zeroCells,Array.toList_map,i7] at j;obtain⟨i,_,rfl⟩:=j;apply h1 _;have:i%zero.size<zero.size:=aAF _ o;rw[zS zero _ this];exact Array.getElem_mem_toList this
def Rw{t e k:Nat}{i:TypeInfo}{zv:d_}{g off m c:Nat}(hu:P.underlying t=some (.slice e))(hi:P.info? e=some i)(I:i.zero=some zv)(hk:zv.cells.size=k)(J:0<k)(h1:∀v∈zv.cells.toList,v.oneCell'=true)(hm:0<m) (hl:∀j,j<m*k->Cv W ⟨g,off+j,none⟩):∃W',(Builtin.clear_ #[t] 0 [.slice (some ⟨g,off,none⟩) m c].toArray).run P W=.ok (.tuple #[]) W'/\AK (λx=>x=g) W W'/\∀j,j<off->W'.cell? ⟨g,j,none⟩=W.cell? ⟨g,j,none⟩:=by
 have hn:(Builtin.zeroCells zv.cells m).toList.length=m*k:=by rw[Array.length_toList,size_zeroCells,hk]
 have lv:∀j,0<=j->j<0+(Builtin.zeroCells zv.cells m).toList.length->Cv W ⟨g,off+j,none⟩:=λj _ B=>hl j E;obtain⟨O,_,Q,_⟩:=Y8 (g:=g) (off:=off) (Builtin.zeroCells zv.cells m).toList 0 W lv;have o:=RH (P:=P) (⟨g,off,none⟩:Addr) (Builtin.zeroCells zv.cells m).toList 0 W (fj E h1) (λj h0 B=>by rw[GX];exact lv j h0 B);refine⟨_,?_,O,λj B=>Q j (.inl E)⟩;have U:(zeroValue e).run P W=.ok zv W:=by simp[zeroValue,typeInfo,hi,I]
 obtain⟨m,rfl⟩:∃q,m=q+1:=⟨m-1,E⟩;simp[Builtin.clear_,run_underlying hu,U,o]
def SJ(G:e_->Prop)(j:d_)(i:Chg->Bool):Prop:=∀W c (K:Cont),G W->(∀W',AI W W'->K (.bool (i c)) W')->DD prog En j [.agg c.cells.toArray] K W
def YT{v J:d_}{p:Z_}{B:Chg->Bool}(h:Eg S w v p)(Q:SJ (AI w) J B) : AF prog 166 [v,J] (λv' w'=>AI w w'/\((v'=zI (-1)/\∀c∈p,B c=false)\/∃i:Nat,∃hi:i<p.length,v'=zI i/\B p[i]=true/\∀c∈p.take i,B c=false)) w:=by
 refine G_ func166 ?_ (.y (.x (.y (.node [8] [(4,5),(8,18)] .nil .nil))));obtain⟨a,c,rfl,hm⟩:=h.AO;simp[maxLen] at hm;rw[AP];apply AX (λvs W=>∃i:Nat,i<=p.length/\vs=[zI i]/\AI w W/\∀c∈p.take i,B c=false) (λvs _=>p.length-Di vs 0) ⟨0,Hw _,rfl,AK.refl _ _,D_⟩;rintro vs W ⟨i,hi,rfl,g,I⟩ _;rw[Bh,JS,As];refine AE (λU=>?_) λV=>?_;have o:i<p.length:=E;obtain⟨q,r,rfl,_,hr,hc,rfl⟩:=(h.U_ g B_ C0).get o;refine AW o (Ab hr m_ ?_);refine Q W p[i] _ g λX O=>?_;cases e:B p[i] with
 |true=>exact Ai ⟨g.trans O,.inr ⟨i,o,rfl,e,I⟩⟩
 |false=>
  apply AS;rw[AR,AM E];refine⟨⟨i+1,o,rfl,g.trans O,λc hc=>?_⟩,by rw[CL,CL];omega⟩;rw[Lc,By o] at hc;rcases DN.1 hc with hc|hc;exact I c hc;simp at hc;subst hc;exact e
 have:i=p.length:=E;subst this;exact⟨g,.inl ⟨rfl,λc hc=>I c (by rw[Nr];exact hc)⟩⟩
def Chg.len(c:Chg):c.cells.length=6:=rfl
def Yh{p:Z_}{o:Chg->Bool}(Z:AG B 63 6 EA w v p)(Ln:p.length<=1099511627776)(hf:SJ (AK (λb=>v.ownBlock=some b) w) sv o) : AF prog 103 [v,sv] (λv' w'=>Eg (λb=>v.ownBlock=some b) w' v' (p.filter λc=>!o c)/\AK (λb=>v.ownBlock=some b) w w') w:=by
 refine G_ func103 ?_ (.y (.y (.y (.x (.y (.node [5,6] [(5,7),(16,35)] .nil .nil))))));apply AA (YT (AG.sl Z) λW c K g hK=>hf W c K (g.mono E') hK);rintro _ w1 ⟨g1,⟨rfl,J⟩|⟨i0,O,rfl,hd,J⟩⟩;rw[Aj];refine AE (λ_=>?_) λe=>(e rfl).elim;rw[wy.2 λc hc=>by rw[J c hc];rfl];exact⟨BC.sub (AG.sl (AG.U' Z g1 (λ_ _ h=>h) λ_ _ _ h=>h)) (λb _ h=>h.2) B_ C0,g1.mono λ_ _ e=>e.elim⟩;rw[Aj];refine AE (λe=>absurd e (by omega)) λ_=>?_;obtain⟨a,c,rfl,aa,ak,hp,hn⟩:=AG.AO Z;cases a with
 |none=>rw[hn rfl] at O;simp at O
 |some q=>
 obtain⟨g,rfl,al,an,a8⟩:=hp q rfl;have a1:∀b,(Value.slice (h_ g) p.length c).ownBlock=some b↔b=g:=λb=>⟨λe=>by cases e;rfl,λe=>by subst e;rfl⟩;simp only[a1] at hf ⊢;rw[AR,AM E];refine AX (λvs W=>∃(i j:Nat) (L:Z_),i<j/\j<=p.length/\vs=[zI i,zI j]/\L.length=p.length/\O8 6 Chg.cells W g L/\L.take i=(p.take j).filter (λc=>!o c)/\L.drop j=p.drop j/\AK (λb=>b=g) w W) (λvs _=>p.length-Di vs 1)
  ⟨i0,i0+1,p,E,O,rfl,rfl,(O8.of Z B_ C0).U' g1 E_,?_,rfl,g1.mono E'⟩ ?_
 rw[Lc,By O,yS,wy.2 λc hc=>by rw[J c hc];rfl];simp[hd];rintro vs W ⟨i,j,L,av,hj,rfl,hL,hR,ht,U,hm⟩ _;simp only[Iu];rw[AP,As];refine AE (λV=>?_) λax=>?_;have I:j<p.length:=E;have a6:L[j]'(E)=p[j]:=by
  have e:=tZ List.head? U;rw[aAT,aAT,By E,By I] at e;exact r9 e
 apply AW I;rw[AH];refine Ab (vs:=p[j].cells) rfl (λq u hu=>by rw[GX];exact hR.cells j E q u (by rw[a6];exact hu)) ?_;refine BJ (vs:=p[j].cells) rfl rfl (EA.one (w:=W) (x:=p[j]) rfl) λb7 w4 ay b0 g4 X _=>?_;apply Ab (vs:=p[j].cells) rfl X;refine hf w4 p[j] _ (hm.next g4 E') λW5 g5=>?_;have R5:=(hR.U' g4 E_).U' g5 E_;have m5:=(hm.next g4 E').next g5 E'
 have et:(p.take (j+1)).filter (λc=>!o c)=(p.take j).filter (λc=>!o c)++if o p[j] then[] else[p[j]]:=by
  rw[Lc,By I,yS];cases e:o p[j]<;>simp[e]
 have Q:L.drop (j+1)=p.drop (j+1):=by have:=tZ (List.drop 1) U;simpa[yG] using this
 cases e:o p[j] with
 |true=>
  rw[Aq];apply AS;rw[AR,AM E];rw[e,Cx rfl,Ty] at et;refine⟨⟨i,j+1,L,by omega,I,rfl,hL,R5,by rw[et];exact ht,?_,m5⟩,by rw[BE,BE];omega⟩;exact Q
 |false=>
  rw[Aq];apply Ai;apply Ab (vs:=p[j].cells) rfl (λq u hu=>g5.cell (X q u hu) E_);apply AW E;rw[AH];refine R5.store (i:=i) (x:=p[j]) E Chg.len (EA.one (w:=W) (x:=p[j]) rfl) λW6 R6 m6=>?_;rw[AR,AR,AM E,AM E];rw[e,Bp B_] at et;refine⟨⟨i+1,j+1,L.set i p[j],E,I,rfl,by simp[hL],R6,?_,?_,m5.trans m6⟩,by rw[BE,BE];omega⟩;rw[et,<-ht,List.take_set,Lc,By E,wV _ _ (by simp;omega)];simp[u6 (E:i<=L.length)];rw[aAX E];exact Q
 obtain rfl:j=p.length:=E;rw[Nr] at ht;apply AZ (Gf (e:=63) (k:=6) (i:=Tryz.t63) C_ C_ C_ E W);have a7:sliced (some (⟨g,0,none⟩:Addr)) i p.length c 6=.slice (some ⟨g,i*6,none⟩) (p.length-i) (c-i):=by
  unfold sliced;rw[Bp E];simp[xE,AH]
 rw[a7];obtain⟨W2,hr,m2,h2⟩:=Rw (P:=prog) (t:=48) (e:=63) (k:=6) (i:=Tryz.t63) (zv:=.agg (⟨0,false,BF.zero⟩:Chg).cells.toArray) (W:=W) (g:=g) (off:=i*6) (m:=p.length-i) (c:=c-i) C_ C_ C_ C_ B_
  (λu hu=>EA.one (w:=W) (x:=⟨0,false,BF.zero⟩) rfl u (by simpa[Value.cells] using hu)) E λq hq=>by
   have:=hR.Cb (i+q/6) (q%6) E (aAF _ B_);rwa [(E:(i+q/6)*6+q%6=i*6+q)] at this
 apply AZ hr;apply AZ (Ga (e:=63) (k:=6) (i:=Tryz.t63) C_ C_ C_ E W2);refine⟨?_,hm.trans m2⟩;rw[<-ht];have V:(L.take i).length=i:=by simp;omega
 refine⟨_,_,by rw[V],E,E,λm x hx=>?_⟩;obtain⟨b6,Y⟩:=Bq.1 hx;rw[yc] at Y;subst Y;refine⟨⟨g,0,none⟩,_,rfl,rfl,rfl,λq u hu=>?_,rfl⟩;have hq:q<6:=(Bq.1 hu).1;rw[AH,h2 _ E];exact hR.cells m E q u hu
def YJ(ks:Y')(b:Bool)(c:Chg):Bool:=match Bg ks c.key with|some k=>decide (k.block=b)|none=>false
def gD{D:f_}{b:Bool}{c:Chg}(I:Cg D w sv ks)(J:w.cell? ⟨N,0,none⟩=some sv)(b5:w.cell? ⟨O,0,none⟩=some (.bool b)) : AF prog 207 [.agg c.cells.toArray,g_ N,g_ O] (λv' w'=>v'=.bool (!YJ ks b c)/\AI w w') w:=by
 apply I' func207;refine CN λb0 w1 Q U o B _=>?_;apply AD (o.cell J E_);rw[AB];apply AD (B 0 _ rfl);apply AA (Ks (I.U_ o) c.key);rintro _ w2 ⟨rfl,V⟩;refine Bv ?_;refine BJ (vs:=((Bg ks c.key).getD DKey.zero).cells) rfl rfl (IC.one (w:=w2) (x:=(Bg ks c.key).getD DKey.zero) rfl) λb4 w3 X Y Z j _=>?_;have i:=(o.trans V).trans Z;rw[Aq];unfold YJ;cases e:Bg ks c.key with
 |none=>exact Ai ⟨rfl,i⟩
 |some k=>
  rw[e] at j;apply AS;rw[AB];apply AD (j 1 _ rfl);apply AD (i.cell b5 E_);rw[WX];refine⟨?_,i⟩;show Value.bool (k.block != b)=.bool (!decide (k.block=b));cases k.block<;>cases b<;>rfl
def Kv{D S:f_}{b:Bool}{p:Z_}(hS:Cg D w sv ks)(hp:Eg S w v p)(hl:p.length<=1099511627776) : AF prog 135 [sv,v,.bool b] (λv' w'=>Eg (λx=>w.heap.size<=x) w' v' (CR ks b p)/\AI w w') w:=by
 apply I' func135;have U:sv.cells=#[sv]:=by
  obtain⟨b,m,kv,l,rfl,_⟩:=hS;rfl
 have V:Cg (λx=>D x/\x<w.heap.size) w sv ks:=hS.sub λx J h=>⟨h,J⟩;refine⟨U,EJ λO w1 a1 a6 o X _=>?_⟩;refine⟨rfl,EJ λQ I a7 a8 j Y _=>?_⟩;apply AA (Nv (hp.U_ (o.trans j) B_ C0) E);rintro v3 w3 ⟨o3,Z⟩;have c3:I.cell? ⟨O,0,none⟩=some sv:=by have:=j.cell (X 0 _ rfl) E_;rwa [AH] at this
 have c5:I.cell? ⟨Q,0,none⟩=some (.bool b):=by have:=Y 0 _ rfl;rwa [AH] at this
 have i:∀x,v3.ownBlock=some x->I.heap.size<=x:=λx e=>(AG.Az o3 x e).1;have B:=(o.trans j).trans Z;have tl:SJ (AK (λx=>v3.ownBlock=some x) w3) (.func (.func 207) #[] #[g_ O,g_ Q]) λc=>!YJ ks b c:=by
  intro W c K m hK;refine .inl ⟨_,[],[g_ O,g_ Q],rfl,C_,?_⟩;refine AA (gD ((V.U_ B).U' m λx _ J e=>?_) (m.cell (Z.cell c3 E_) λe=>?_) (m.cell (Z.cell c5 E_) λe=>?_)) ?_;have:=i _ e;have:=J.2;have:=(o.trans j).size;omega;have h:I.heap.size<=O:=i _ e;omega;have h:I.heap.size<=Q:=i _ e;omega;rintro _ W' ⟨rfl,g⟩;exact hK W' g
 apply AA (Yh o3 hl tl);rintro v4 w4 ⟨h4,m4⟩;have e:(p.filter λc=>!(!YJ ks b c))=CR ks b p:=by simp[aA8];rfl
 rw[e] at h4;refine⟨BC.sub h4 (λx _ e=>by have:=i x e;have:=(o.trans j).size;omega) B_ C0,?_⟩;exact B.next m4 λx J e=>by have:=i x e;have:=(o.trans j).size;omega
def jg{D S S':f_}{r:Int}{s:W_}{p:Z_}(hS:Cg D w sv ks)(hs:CI S w v s)(hp:Eg S' w fr p)(hl:s.length+p.length<=1099511627776) : AF prog 170 [sv,.agg #[.int .i32 r,v],fr] (λv' w'=>∃o,v'=.agg #[.int .i32 r,o]/\J7 w.heap.size w' o (NK ks s p r)/\AI w w') w:=by
 refine I' func170 ?_ (.y (.x (.dc [9,10,12] (k_ [0,1,0,4,0,0,0,64,192,496,1020,2047,4095]) [[9,10]])));refine CN (vs:=[.int .i32 r,v]) λb4 w1 a6 a7 g1 U _=>?_;refine EJ λb6 J a8 aa g2 ak V=>?_;have X:AI J J.drew:=AK.drew _ _;have zd:J.drew.heap.size=J.heap.size:=rfl;have B:=(g1.trans g2).trans X;have Y:∀j u,([.int .i32 r,v]:V_)[j]?=some u->J.drew.cell? ((⟨b4,0,none⟩:Addr).add j)=some u:=λj u hu=>X.cell (g2.cell (U j u hu) E_) E_;have ne:b4≠b6:=E;apply Ag (λk y=>k=12/\y=b6);rw[AB];refine AU ⟨Y 0 _ rfl,λj _ e=>by rw[Av] at e;exact ne e.2⟩ ?_;rw[AB];refine AU ⟨Y 1 _ rfl,λj _ e=>by rw[Av] at e;exact ne e.2⟩ ?_;rw[AB];refine AU ⟨Y 0 _ rfl,λj _ e=>by rw[Av] at e;exact ne e.2⟩ ?_;rw[Aj];apply AA (Kv (hS.U_ B) (hp.U_ B B_ C0) E);rintro v3 w3 ⟨h3,i⟩;refine⟨i.mono E',?_⟩;have al:(CR ks (decide (r=10)) p).length<=p.length:=xT _ _;apply AA (UD (hs.U_ (B.trans i) B_ C0) h3 E);rintro O w4 ⟨I,Q⟩;refine⟨Q.mono E',?_⟩;obtain⟨a4,k4,e4,_⟩:=AG.AO I;refine⟨#[.int .i32 r,O],by subst e4;kernel_rfl,?_⟩;have z3:=i.size;have z4:=Q.size;refine CJ (vs:=[.int .i32 r,O]) rfl (λu hu=>by simp at hu;rcases hu with rfl|rfl;rfl;exact(AG.one I).1) (λj hj=>(((V j hj).U' X E_).U' i E_).U' Q E_) λw5 Z a1 _=>?_;refine⟨Z.mono λx _ e=>⟨rfl,e⟩,?_⟩;refine Ab (vs:=[.int .i32 r,O]) rfl a1 ⟨O,rfl,?_,?_⟩;have:J7 w.heap.size w4 O (NK ks s p r):=I.Bk λg hg=>by have:=(AG.Az I g hg).1;have:=(B.trans i).size;omega
 refine AG.U' this Z (λg hg e=>?_) F_;have:=(AG.Az I g hg).1;omega;exact((B.trans i).trans Q).next Z E
def Xm(G:e_->Prop)(j:d_)(i:Attr->Bool):Prop:=∀W c (K:Cont),G W->(∀W',AI W W'->K (.bool (i c)) W')->DD prog En j [.agg c.cells.toArray] K W
def mw{v J:d_}{B:Attr->Bool}(h:CI S w v p)(Q:Xm (AI w) J B) : AF prog 156 [v,J] (λv' w'=>AI w w'/\((v'=zI (-1)/\∀c∈p,B c=false)\/∃i:Nat,∃hi:i<p.length,v'=zI i/\B p[i]=true/\∀c∈p.take i,B c=false)) w:=by
 refine G_ func156 ?_ (.y (.x (.y (.node [8] [(4,5),(8,18)] .nil .nil))));obtain⟨a,c,rfl,hm⟩:=h.AO;simp[maxLen] at hm;rw[AP];apply AX (λvs W=>∃i:Nat,i<=p.length/\vs=[zI i]/\AI w W/\∀c∈p.take i,B c=false) (λvs _=>p.length-Di vs 0) ⟨0,Hw _,rfl,AK.refl _ _,D_⟩;rintro vs W ⟨i,hi,rfl,g,I⟩ _;rw[Bh,JS,As];refine AE (λU=>?_) λV=>?_;have o:i<p.length:=E;obtain⟨q,r,rfl,_,hr,hc,rfl⟩:=(h.U_ g B_ C0).get o;refine AW o (Ab hr m_ ?_);refine Q W p[i] _ g λX O=>?_;cases e:B p[i] with
 |true=>exact Ai ⟨g.trans O,.inr ⟨i,o,rfl,e,I⟩⟩
 |false=>
  apply AS;rw[AR,AM E];refine⟨⟨i+1,o,rfl,g.trans O,λc hc=>?_⟩,by rw[CL,CL];omega⟩;rw[Lc,By o] at hc;rcases DN.1 hc with hc|hc;exact I c hc;simp at hc;subst hc;exact e
 have:i=p.length:=E;subst this;exact⟨g,.inl ⟨rfl,λc hc=>I c (by rw[Nr];exact hc)⟩⟩
def Attr.nV(c:Attr):c.cells.length=5:=rfl
def kC{o:Attr->Bool}(Z:AG B 116 5 Ch w v p)(Ln:p.length<=1099511627776)(hf:Xm (AK (λb=>v.ownBlock=some b) w) sv o) : AF prog 88 [v,sv] (λv' w'=>CI (λb=>v.ownBlock=some b) w' v' (p.filter λc=>!o c)/\AK (λb=>v.ownBlock=some b) w w') w:=by
 refine G_ func88 ?_ (.y (.y (.y (.x (.y (.node [5,6] [(5,7),(16,35)] .nil .nil))))));apply AA (mw (AG.sl Z) λW c K g hK=>hf W c K (g.mono E') hK);rintro _ w1 ⟨g1,⟨rfl,J⟩|⟨i0,O,rfl,hd,J⟩⟩;rw[Aj];refine AE (λ_=>?_) λe=>(e rfl).elim;rw[wy.2 λc hc=>by rw[J c hc];rfl];exact⟨BC.sub (AG.sl (AG.U' Z g1 (λ_ _ h=>h) λ_ _ _ h=>h)) (λb _ h=>h.2) B_ C0,g1.mono λ_ _ e=>e.elim⟩;rw[Aj];refine AE (λe=>absurd e (by omega)) λ_=>?_;obtain⟨a,c,rfl,aa,ak,hp,hn⟩:=AG.AO Z;cases a with
 |none=>rw[hn rfl] at O;simp at O
 |some q=>
 obtain⟨g,rfl,al,an,a8⟩:=hp q rfl;have a1:∀b,(Value.slice (h_ g) p.length c).ownBlock=some b↔b=g:=λb=>⟨λe=>by cases e;rfl,λe=>by subst e;rfl⟩;simp only[a1] at hf ⊢;rw[AR,AM E];refine AX (λvs W=>∃(i j:Nat) (L:W_),i<j/\j<=p.length/\vs=[zI i,zI j]/\L.length=p.length/\O8 5 Attr.cells W g L/\L.take i=(p.take j).filter (λc=>!o c)/\L.drop j=p.drop j/\AK (λb=>b=g) w W) (λvs _=>p.length-Di vs 1)
  ⟨i0,i0+1,p,E,O,rfl,rfl,(O8.of Z B_ C0).U' g1 E_,?_,rfl,g1.mono E'⟩ ?_
 rw[Lc,By O,yS,wy.2 λc hc=>by rw[J c hc];rfl];simp[hd];rintro vs W ⟨i,j,L,av,hj,rfl,hL,hR,ht,U,hm⟩ _;simp only[Iu];rw[AP,As];refine AE (λV=>?_) λax=>?_;have I:j<p.length:=E;have a6:L[j]'(E)=p[j]:=by
  have e:=tZ List.head? U;rw[aAT,aAT,By E,By I] at e;exact r9 e
 apply AW I;rw[AH];refine Ab (vs:=p[j].cells) rfl (λq u hu=>by rw[GX];exact hR.cells j E q u (by rw[a6];exact hu)) ?_;refine BJ (vs:=p[j].cells) rfl rfl (Ch.one (w:=W) (x:=p[j]) rfl) λb7 w4 ay b0 g4 X _=>?_;apply Ab (vs:=p[j].cells) rfl X;refine hf w4 p[j] _ (hm.next g4 E') λW5 g5=>?_;have R5:=(hR.U' g4 E_).U' g5 E_;have m5:=(hm.next g4 E').next g5 E'
 have et:(p.take (j+1)).filter (λc=>!o c)=(p.take j).filter (λc=>!o c)++if o p[j] then[] else[p[j]]:=by
  rw[Lc,By I,yS];cases e:o p[j]<;>simp[e]
 have Q:L.drop (j+1)=p.drop (j+1):=by have:=tZ (List.drop 1) U;simpa[yG] using this
 cases e:o p[j] with
 |true=>
  rw[Aq];apply AS;rw[AR,AM E];rw[e,Cx rfl,Ty] at et;refine⟨⟨i,j+1,L,by omega,I,rfl,hL,R5,by rw[et];exact ht,?_,m5⟩,by rw[BE,BE];omega⟩;exact Q
 |false=>
  rw[Aq];apply Ai;apply Ab (vs:=p[j].cells) rfl (λq u hu=>g5.cell (X q u hu) E_);apply AW E;rw[AH];refine R5.store (i:=i) (x:=p[j]) E Attr.nV (Ch.one (w:=W) (x:=p[j]) rfl) λW6 R6 m6=>?_;rw[AR,AR,AM E,AM E];rw[e,Bp B_] at et;refine⟨⟨i+1,j+1,L.set i p[j],E,I,rfl,by simp[hL],R6,?_,?_,m5.trans m6⟩,by rw[BE,BE];omega⟩;rw[et,<-ht,List.take_set,Lc,By E,wV _ _ (by simp;omega)];simp[u6 (E:i<=L.length)];rw[aAX E];exact Q
 obtain rfl:j=p.length:=E;rw[Nr] at ht;apply AZ (Gf (e:=116) (k:=5) (i:=Tryz.t116) C_ C_ C_ E W);have a7:sliced (some (⟨g,0,none⟩:Addr)) i p.length c 5=.slice (some ⟨g,i*5,none⟩) (p.length-i) (c-i):=by
  unfold sliced;rw[Bp E];simp[xE,AH]
 rw[a7];obtain⟨W2,hr,m2,h2⟩:=Rw (P:=prog) (t:=47) (e:=116) (k:=5) (i:=Tryz.t116) (zv:=.agg (⟨0,BF.zero⟩:Attr).cells.toArray) (W:=W) (g:=g) (off:=i*5) (m:=p.length-i) (c:=c-i) C_ C_ C_ C_ B_
  (λu hu=>Ch.one (w:=W) (x:=⟨0,BF.zero⟩) rfl u (by simpa[Value.cells] using hu)) E λq hq=>by
   have:=hR.Cb (i+q/5) (q%5) E (aAF _ B_);rwa [(E:(i+q/5)*5+q%5=i*5+q)] at this
 apply AZ hr;apply AZ (Ga (e:=116) (k:=5) (i:=Tryz.t116) C_ C_ C_ E W2);refine⟨?_,hm.trans m2⟩;rw[<-ht];have V:(L.take i).length=i:=by simp;omega
 refine⟨_,_,by rw[V],E,E,λm x hx=>?_⟩;obtain⟨b6,Y⟩:=Bq.1 hx;rw[yc] at Y;subst Y;refine⟨⟨g,0,none⟩,_,rfl,rfl,rfl,λq u hu=>?_,rfl⟩;have hq:q<5:=(Bq.1 hu).1;rw[AH,h2 _ E];exact hR.cells m E q u hu
def FU(ks:Y')(b:Bool)(c:Attr):Bool:=match Bg ks c.key with|some k=>decide (k.block=b)|none=>false
def Zh{D:f_}{b:Bool}{c:Attr}(I:Cg D w sv ks)(J:w.cell? ⟨N,0,none⟩=some sv)(b5:w.cell? ⟨O,0,none⟩=some (.bool b)) : AF prog 90 [.agg c.cells.toArray,g_ N,g_ O] (λv' w'=>v'=.bool (!FU ks b c)/\AI w w') w:=by
 apply I' func90;refine CN λb0 w1 Q U o B _=>?_;apply AD (o.cell J E_);rw[AB];apply AD (B 0 _ rfl);apply AA (Ks (I.U_ o) c.key);rintro _ w2 ⟨rfl,V⟩;refine Bv ?_;refine BJ (vs:=((Bg ks c.key).getD DKey.zero).cells) rfl rfl (IC.one (w:=w2) (x:=(Bg ks c.key).getD DKey.zero) rfl) λb4 w3 X Y Z j _=>?_;have i:=(o.trans V).trans Z;rw[Aq];unfold FU;cases e:Bg ks c.key with
 |none=>exact Ai ⟨rfl,i⟩
 |some k=>
  rw[e] at j;apply AS;rw[AB];apply AD (j 1 _ rfl);apply AD (i.cell b5 E_);rw[WX];refine⟨?_,i⟩;show Value.bool (k.block != b)=.bool (!decide (k.block=b));cases k.block<;>cases b<;>rfl
def Ce(ks:Y')(b:Bool)(l:W_):W_:=l.filter (FU ks b)
def Mw{D S:f_}{b:Bool}(hS:Cg D w sv ks)(hp:CI S w v p)(hl:p.length<=1099511627776) : AF prog 37 [sv,v,.bool b] (λv' w'=>CI (λx=>w.heap.size<=x) w' v' (Ce ks b p)/\AI w w') w:=by
 apply I' func37;have U:sv.cells=#[sv]:=by
  obtain⟨b,m,kv,l,rfl,_⟩:=hS;rfl
 have V:Cg (λx=>D x/\x<w.heap.size) w sv ks:=hS.sub λx J h=>⟨h,J⟩;refine⟨U,EJ λO w1 a1 a6 o X _=>?_⟩;refine⟨rfl,EJ λQ I a7 a8 j Y _=>?_⟩;apply AA (Se (hp.U_ (o.trans j) B_ C0) E);rintro v3 w3 ⟨o3,Z⟩;have c3:I.cell? ⟨O,0,none⟩=some sv:=by have:=j.cell (X 0 _ rfl) E_;rwa [AH] at this
 have c5:I.cell? ⟨Q,0,none⟩=some (.bool b):=by have:=Y 0 _ rfl;rwa [AH] at this
 have i:∀x,v3.ownBlock=some x->I.heap.size<=x:=λx e=>(AG.Az o3 x e).1;have B:=(o.trans j).trans Z;have tl:Xm (AK (λx=>v3.ownBlock=some x) w3) (.func (.func 90) #[] #[g_ O,g_ Q]) λc=>!FU ks b c:=by
  intro W c K m hK;refine .inl ⟨_,[],[g_ O,g_ Q],rfl,C_,?_⟩;refine AA (Zh ((V.U_ B).U' m λx _ J e=>?_) (m.cell (Z.cell c3 E_) λe=>?_) (m.cell (Z.cell c5 E_) λe=>?_)) ?_;have:=i _ e;have:=J.2;have:=(o.trans j).size;omega;have h:I.heap.size<=O:=i _ e;omega;have h:I.heap.size<=Q:=i _ e;omega;rintro _ W' ⟨rfl,g⟩;exact hK W' g
 apply AA (kC o3 hl tl);rintro v4 w4 ⟨h4,m4⟩;have e:(p.filter λc=>!(!FU ks b c))=Ce ks b p:=by simp[aA8];rfl
 rw[e] at h4;refine⟨BC.sub h4 (λx _ e=>by have:=i x e;have:=(o.trans j).size;omega) B_ C0,?_⟩;exact B.next m4 λx J e=>by have:=i x e;have:=(o.trans j).size;omega
def dI:Z'->Z'
 |[]=>[]
 |[s]=>[⟨s.n+1,s.id⟩]
 |s::t=>s::dI t
def HX(id:Int)(s:Z'×Option Int)(r:Int):Z'×Option Int:=
 (if r=10 then s.1++[⟨1,0⟩] else match s.2 with
  |some q=>if q=10 then s.1++[⟨1,id⟩] else dI s.1
  | none=>s.1++[⟨1,id⟩],some r)
def Cf(id:Int)(rs:X_):Z'×Option Int:=rs.foldl (HX id) ([],none)
def IA(id:Int)(r:Int):Int:=if r=10 then 0 else id
def Vg(l:Z')(s:Spn):dI (l++[s])=l++[⟨s.n+1,s.id⟩]:=by
 induction l with
 |nil=>rfl
 |cons x l i=>
  cases l with
  |nil=>rfl
  |cons y l=>rw[No,No,dI,<-No,i];rfl;simp
def MM(id:Int)(rs:X_)(r:Int):Cf id (rs++[r])=HX id (Cf id rs) r:=by simp[Cf]
def Q4(id:Int)(rs:X_):(Cf id rs).2=rs.getLast?:=by
 rcases tG rs with rfl|⟨o,y,rfl⟩;rfl;rw[vq,MM];simp[HX]
def RA(id:Int)(rs:X_):(Cf id rs).1.flatMap Spn.u=rs.map (IA id)/\(∀s∈(Cf id rs).1,0<s.n)/\(∀q,rs.getLast?=some q->∃l n,(Cf id rs).1=l++[⟨n,IA id q⟩]/\0<n)/\(rs=[]->(Cf id rs).1=[])/\(Cf id rs).1.length<=rs.length:=by
 have key:∀(n:Nat) (rs:X_),rs.length=n->(Cf id rs).1.flatMap Spn.u=rs.map (IA id)/\(∀s∈(Cf id rs).1,0<s.n)/\(∀q,rs.getLast?=some q->∃l n,(Cf id rs).1=l++[⟨n,IA id q⟩]/\0<n)/\(rs=[]->(Cf id rs).1=[])/\(Cf id rs).1.length<=rs.length:=by
  intro n;induction n with
  |zero=>
   intro rs h;obtain rfl:=ys.1 h;exact⟨rfl,λs i=>(nomatch i),λq I=>(nomatch I),λ_=>rfl,HK _⟩
  |succ n Y=>
   intro rs h;rcases tG rs with rfl|⟨o,r,rfl⟩;simp at h;rw[vq] at h ⊢;obtain⟨h1,O,Z,h4,U⟩:=Y o (by simpa using h);have B:∀j:Int,IA id r=j->((Cf id o).1++[(⟨1,j⟩:Spn)]).flatMap Spn.u=(o++[r]).map (IA id)/\(∀s∈(Cf id o).1++[(⟨1,j⟩:Spn)],0<s.n)/\(∀q,(o++[r]).getLast?=some q->∃l n,(Cf id o).1++[(⟨1,j⟩:Spn)]=l++[⟨n,IA id q⟩]/\0<n)/\(o++[r]=[]->(Cf id o).1++[(⟨1,j⟩:Spn)]=[])/\((Cf id o).1++[(⟨1,j⟩:Spn)]).length<=(o++[r]).length:=λj V=>by
    refine⟨by rw[u9,h1];simp[Spn.u,V],λs i=>?_,λq I=>?_,λe=>by simp at e,by simp;omega⟩;rcases DN.1 i with i|i;exact O s i;simp at i;subst i;exact Nat.one_pos;simp at I;subst I;exact⟨_,1,by rw[V],Nat.one_pos⟩
   rw[MM,HX];by_cases hr:r=10;simp only[Cx hr];exact B 0 (by simp[IA,hr]);simp only[Bp hr];rw[Q4 id o];cases hg:o.getLast? with
   |none=>exact B id (by simp[IA,hr])
   |some q=>
    by_cases I:q=10;simp only[Cx I];exact B id (by simp[IA,hr]);simp only[Bp I];obtain⟨l,m,e,hm⟩:=Z q hg;have Q:IA id q=id:=by simp[IA,I]
    have X:IA id r=id:=by simp[IA,hr]
    rw[Q] at e;rw[e] at h1 O U ⊢;rw[Vg];refine⟨?_,λs i=>?_,λq' J=>?_,λe=>by simp at e,by simp at U ⊢;omega⟩;rw[u9] at h1 ⊢;rw[S7,<-h1];simp[Spn.u,X,List.replicate_succ'];rcases DN.1 i with i|i;exact O s (by simp[i]);simp at i;subst i;exact P9 _;simp at J;subst J;exact⟨l,m+1,by rw[X],P9 _⟩
 exact key _ rs rfl
abbrev cW(sv:d_)(most:Int)(r s p t:Nat):V_:=[sv,zI most,g_ r,g_ s,g_ p,g_ t]
section
variable {W:e_}{b r s p t bt N:Nat}{sv:d_}{most:Int}{F:f_}{l:c_}
def Je{i:Nat}(j:Bx W b (cW sv most r s p t))(h:Eu BO.toAvT F Il W r bt l N)(hi:i<=(CE l).length)(o:(CE l).length<=1099511627776) : AF prog 116 [g_ b,zI (i:Int)] (λv' w'=>v'=zI (Bj ((CE l).take i):Int)/\AI W w') W:=by
 apply G_ func116;apply AJ;rw[AB,AH];apply AD (j.cells 2 _ rfl);apply AA (Ni h hi o);rintro _ I ⟨rfl,B⟩;exact Af (vs:=[_,_]) (by rfl) (Af (vs:=[_,_]) (by rfl) ⟨rfl,B⟩)
def FW(i:Bx W b (cW sv most r s p t)):AF prog 112 [g_ b] (λv' w'=>v'=.bool true/\w'=W) W:=by
 apply H_ func112;refine⟨_,rfl,?_⟩;apply Ai;apply AJ;rw[AB,AH];apply AD (i.cells 2 _ rfl);exact⟨_,rfl,rfl,rfl⟩
def dZ(i:Bx W b (cW sv most r s p t))(h:Eu BO.toAvT F Il W r bt l N) : AF prog 58 [g_ b] (λv' w'=>v'=zI ((CE l).length:Int)/\AI W w') W:=by
 apply H_ func58;apply AA (FW i);rintro _ _ ⟨rfl,rfl⟩;rename e_=>W;rw[Aq];apply AS;apply AJ;rw[AB,AH];apply AD (i.cells 2 _ rfl);exact jC h
def fX(i:Bx W b (cW sv most r s p t))(h:Eu BO.toAvT F Il W r bt l N) : AF prog 80 [g_ b] (λv' w'=>v'=zI (Bj (CE l):Int)/\AI W w') W:=by
 apply H_ func80;apply AA (FW i);rintro _ _ ⟨rfl,rfl⟩;rename e_=>W;rw[Aq];apply AS;apply AJ;rw[AB,AH];apply AD (i.cells 2 _ rfl);exact Oj h
def VR{k:Nat}(i:Bx W b (cW sv most r s p t))(h:Eu BO.toAvT F Il W r bt l N)(j:(CE l).length<=1099511627776) : AF prog 131 [g_ b,zI (k:Int)] (λv' w'=>v'=PK (CE l) k/\AI W w') W:=by
 apply G_ func131;apply AA (FW i);rintro _ _ ⟨rfl,rfl⟩;rename e_=>W;rw[Aq];apply AS;apply AJ;rw[AB,AH];apply AD (i.cells 2 _ rfl);have e:∃x y,PK (CE l) k=.tuple #[x,y]:=by
  unfold PK;split;exact⟨_,_,rfl⟩;split;exact⟨_,_,rfl⟩;rename_i h1 I;obtain⟨q,o,_⟩:=PW (l:=CE l) (k:=k-1) E;rw[o];exact⟨_,_,rfl⟩
 obtain⟨x,y,e⟩:=e;apply AA (Ot h j);rintro v J ⟨rfl,B⟩;rw[e];exact Af (vs:=[_,_]) (by rfl) (Af (vs:=[_,_]) (by rfl) ⟨rfl,B⟩)
end
def fz{S D:f_}{bl:W_}{id:Int}{Kend:V_->e_->Prop}(hv:BC S 1 CM W v rs)(hb:CI D W sv bl)(hl:rs.length<=1099511627) (hK:∀rv cv w',AG W.heap.size 178 2 HQ w' rv (Cf id rs).1->AG W.heap.size 47 1 (Dr λx=>D x/\x<W.heap.size) w' cv (List.replicate (Bj rs) bl)->(∀g,rv.ownBlock=some g->cv.ownBlock≠some g)->AI W w'->Kend [rv,cv,zI (rs.length:Int)] w') : G8 [i_,i_,(zI 0)] (λvs ak w5=>∀_:Env,Hm .i64 (Bm vs 2) (zI (rs.length:Int)) λc9=>Al c9 (D3 (λa7 w6=>∀_:Env,DX .i64 (Bm vs 2) (zI 1) λca=>ak [(Bm a7 0),(Bm a7 1),ca] w6) (λJ=>Lb 1 v (Bm vs 2) λcc=>BV cc (λch w7=>Ru .i32 ch (.int .i32 10) λcu=>Al cu (DW [(0,1),(1,1)] [(zI 0),(zI 0)] [(0,(zI 1))] λt46=>Eb 178 2 1 [(zI 0),(zI 0)] [(0,t46)] (λal w8=>runK prog (Builtin.append_ #[171,171] 171 [(Bm vs 0),al].toArray) (λcx w9=>Eb 47 1 1 [i_] [(0,sv)] (λdj dk=>runK prog (Builtin.append_ #[174,174] 174 [(Bm vs 1),dj].toArray) (λdr dT=>J [cx,dr] dT) dk) w9) w8) w7) (E3 (Bm vs 0) λe1=>Ec .i64 e1 (zI 1) λt55=>WO .i64 t55 (zI 0) λe2=>Al e2 (Ec .i64 (Bm vs 2) (zI 1) λe3=>Lb 1 v e3 λe4=>BV e4 (λe5 bk=>T0 .i32 e5 (.int .i32 10) λe6=>Al e6 (Lb 2 (Bm vs 0) t55 λe7=>BZ 0 e7 λe8=>BV e8 (λt70 e9=>DX .i64 t70 (zI 1) λea=>Lb 2 (Bm vs 0) t55 λec=>BZ 0 ec λed=>Cu ed ea (λee=>J [(Bm vs 0),(Bm vs 1)] ee) e9) bk) (DW [(0,1),(1,1)] [(zI 0),(zI 0)] [(0,(zI 1)),(1,zI id)] λt76=>Eb 178 2 1 [(zI 0),(zI 0)] [(0,t76)] (λt77 an=>runK prog (Builtin.append_ #[171,171] 171 [(Bm vs 0),t77].toArray) (λav ax=>J [av,(Bm vs 1)] ax) an) bk)) w7) (DW [(0,1),(1,1)] [(zI 0),(zI 0)] [(0,(zI 1)),(1,zI id)] λay=>Eb 178 2 1 [(zI 0),(zI 0)] [(0,ay)] (λb0 ef=>runK prog (Builtin.append_ #[171,171] 171 [(Bm vs 0),b0].toArray) (λb6 eh=>J [b6,(Bm vs 1)] eh) ef) w7))) w5)) (Kend vs w5)) W:=by
 obtain⟨a,c,rfl,_⟩:=hv.AO;have ei:=hv.JR B_;have ej:Dr (λx=>D x/\x<W.heap.size) W [sv] bl:=⟨_,rfl,hb.mono (λx hx h=>⟨h,hx⟩) I_ B_ C0⟩;have H8:∀{M:f_} {w2 w3:e_} {r:V_} {x:W_},AK M w2 w3->(∀b,b<W.heap.size->¬M b)->Dr (λb=>D b/\b<W.heap.size) w2 r x->Dr (λb=>D b/\b<W.heap.size) w3 r x:=λhm hn hy=>Bb.Bw hy hm λb _ hd=>hn b hd.2
 let St:X_->d_->d_->e_->Prop:=λq rv cv W'=>AG W.heap.size 178 2 HQ W' rv (Cf id q).1/\AG W.heap.size 47 1 (Dr λx=>D x/\x<W.heap.size) W' cv (List.replicate (Bj q) bl)/\(∀g,rv.ownBlock=some g->cv.ownBlock≠some g)/\AI W W'
 have ek:St (rs.take 0) i_ i_ W:=And.intro AG.nil (And.intro AG.nil (And.intro (λg Q=>by simp[Value.ownBlock] at Q) (AK.refl _ _)));apply AX (λvs W'=>∃(i:Nat) (rv cv:d_),i<=rs.length/\vs=[rv,cv,zI i]/\St (rs.take i) rv cv W') (λvs _=>rs.length-Di vs 2) ⟨0,_,_,Hw _,rfl,ek⟩;rintro vs W1 ⟨i,rv,cv,hi,rfl,o1,o2,V,g1⟩ _;simp only[Iu];have z1:=g1.size;refine HP (λew=>?_) λey=>?_;have X:i<rs.length:=E;have bp:rs.take (i+1)=rs.take i++[rs[i]]:=by rw[Lc];simp[X]
 have bs:=(RA id (rs.take i)).2.2.2.2;rw[K8] at bs;have en:=Fw (rs.take i);rw[K8] at en;have push:∀{Y:e_} {j:Int} {K:d_->e_->Prop},AI W1 Y->(∀o W3,AG W.heap.size 178 2 HQ W3 o ((Cf id (rs.take i)).1++[⟨1,j⟩])->AG W.heap.size 47 1 (Dr λx=>D x/\x<W.heap.size) W3 cv (List.replicate (Bj (rs.take i)) bl)->(∀g,o.ownBlock=some g->cv.ownBlock≠some g)->AI W W3->K o W3)->
   Eb 178 2 1 [(zI 0),(zI 0)] [(0,.agg (Spn.cells ⟨1,j⟩).toArray)] (λal w8=>runK prog (Builtin.append_ #[171,171] 171 [rv,al].toArray) K w8) Y:=λ{Y j K} g2 hk=>by
  have z2:=g2.size;have q1:AG W.heap.size 178 2 HQ Y rv (Cf id (rs.take i)).1:=AG.U' o1 g2 C0 F_;have q2:AG W.heap.size 47 1 (Dr λx=>D x/\x<W.heap.size) Y cv (List.replicate (Bj (rs.take i)) bl):=AG.U' o2 g2 C0 λ_ _ _ h=>H8 g2 C0 h;have c4:=AG.Az q1;refine FL Ej.elE q1 E (cs:=Spn.cells ⟨1,j⟩) (x:=(⟨1,j⟩:Spn)) (Dj (v:=.agg (Spn.cells ⟨1,j⟩).toArray) rfl B_ rfl rfl) rfl rfl (λ_ _ _ h=>by have h':=h;subst h';exact Spn.one _) N_ (by show _*16<=_;omega) L_ λo W3 o3 m3 n3=>?_;refine hk o W3 o3 (AG.U' q2 m3 (λg Q e=>V g e Q) λ_ _ _ h=>H8 m3 (λb hb e=>by have:=(c4 b e).1;omega) h) (λg Q e=>?_) ((g1.trans g2).next m3 λb hb e=>by have:=(c4 b e).1;omega);rcases n3 g Q with h|h;exact V g h e;have:=((AG.Az q2) g e).2;omega
 refine AV (λvs W'=>∃o O,vs=[o,O]/\St (rs.take (i+1)) o O W') ?_ ?_;rintro _ Y ⟨o,O,rfl,s1,s2,s3,s4⟩ _;simp only[JS,wL];rw[AR,AM E];exact⟨⟨i+1,o,O,X,rfl,s1,s2,s3,s4⟩,by show rs.length-Di [o,O,_] 2<rs.length-Di [rv,cv,_] 2;simp only[Di,Yv,Bh,JS,wL];omega⟩;have rd:∀{Y:e_} {q:Nat} {K:d_->e_->Prop} (hq:q<rs.length),AI W Y->K (.int .i32 rs[q]) Y->Lb 1 (.slice a rs.length c) (zI (q:Int)) (λt=>BV t K Y):=λ{Y q K} hq g hk=>by
  obtain⟨p,r,rfl,_,hr,hc,rfl⟩:=ei.get hq;exact AW hq (AD (by have:=hc 0 _ rfl;exact g.cell this E_) hk)
 apply rd X g1;rw[Aj];have b7:Bj (rs.take (i+1))=Bj (rs.take i)+(if rs[i]=10 then 1 else 0):=by
  rw[bp,Gg];by_cases e:rs[i]=(10:Int)<;>simp[Bj,e]
 have b8:(Cf id (rs.take (i+1))).1=(HX id (Cf id (rs.take i)) rs[i]).1:=by rw[bp,MM]
 have inl:(HX id (Cf id (rs.take i)) rs[i]).1=(Cf id (rs.take i)).1++[⟨1,id⟩]->¬rs[i]=10->
   DW [(0,1),(1,1)] [(zI 0),(zI 0)] [(0,(zI 1)),(1,zI id)] (λt76=>
    Eb 178 2 1 [(zI 0),(zI 0)] [(0,t76)] (λt77 an=>
    runK prog (Builtin.append_ #[171,171] 171 [rv,t77].toArray) (λav ax=>
    (λvs W'=>∃ o O,vs=[o,O]/\St (rs.take (i+1)) o O W') [av,cv] ax) an) W1):=λe Z=>by
  refine⟨(Spn.cells ⟨1,id⟩).toArray,C_,?_⟩;refine push (j:=id) (AK.refl _ _) λo W3 s1 s2 s3 s4=>⟨o,cv,rfl,by rw[b8,e];exact s1,by rw[b7,Bp Z,ua];exact s2,s3,s4⟩
 refine AE (λZ=>?_) λZ=>?_;have B:rs[i]=(10:Int):=Z;refine⟨(Spn.cells ⟨1,0⟩).toArray,C_,?_⟩;refine push (j:=0) (AK.refl _ _) λo W3 s1 s2 s3 s4=>?_;have zs:=s4.size;have a8:=AG.Az s2;have c6:sv.cells=[sv].toArray:=by
  obtain⟨a,c,e,_⟩:=hb.AO;rw[e];rfl
 refine FL Bb.elE s2 E (cs:=[sv]) (x:=bl) (Dj (v:=sv) rfl B_ c6 rfl) rfl (H8 s4 C0 ej) (λ_ _ _ h=>Bb.rone h) (λw2 w3 r y ez hm hy=>H8 hm (λb hb e=>by
  rcases e with e | e;have:=(a8 b e).1;omega;omega) hy) (by rw [wu];show _ * 24<=_;omega) (by rw [wu];simp [maxLen];omega) λO W4 o4 m4 n4=>?_
 refine⟨o,O,rfl,?_,?_,λg Q e=>?_,s4.next m4 λb hb e=>by have:=(a8 b e).1;omega⟩;rw[b8,HX,Cx B];exact AG.U' s1 m4 (λg Q e=>s3 g Q e) F_;rw[b7,Cx B,List.replicate_succ'];exact o4;rcases n4 g e with h|h;exact s3 g Q h;have:=((AG.Az s1) g Q).2;omega;have B:¬rs[i]=(10:Int):=Z;obtain⟨ra,rc,eo,eA,_,eB,eC⟩:=AG.AO o1;subst eo;rw[AP,A6,wrap64 E E,DR];have I:(HX id (Cf id (rs.take i)) rs[i]).1=match (rs.take i).getLast? with
   |some q=>if q=10 then(Cf id (rs.take i)).1++[⟨1,id⟩] else dI (Cf id (rs.take i)).1
   |none=>(Cf id (rs.take i)).1++[⟨1,id⟩]:=by rw[HX,Bp B,Q4 id (rs.take i)];first | done | (cases(rs.take i).getLast?<;>rfl)
 obtain⟨f1,f2,f3,f4,f5⟩:=RA id (rs.take i);refine AE (λaa=>?_) λet=>?_;have eI:0<i:=by
  rcases Nat.eq_zero_or_pos i with e|e;subst e;rw[f4 D_] at aa;simp at aa;exact e
 have a1:(rs.take i).getLast?=some rs[i-1]:=by
  rw[List.getLast?_take,Bp E,By E];rfl
 rw[a1] at I;simp only at I;rw[A6,wrap64 E E,(E:((i:Int)-1)=((i-1:Nat):Int))];apply rd E g1;rw[BH];refine AT (λe=>?_) λe=>?_;exact inl (by rw[I,Cx e]) B;obtain⟨L,n,eL,eN⟩:=f3 _ a1;have hq:IA id rs[i-1]=id:=by simp only[IA];exact Bp e
 rw[hq] at eL;have eR:n<=i:=by
  have:=tZ List.length f1;rw[eL] at this;simp[Spn.u] at this;omega
 have b9:(Cf id (rs.take i)).1.length=L.length+1:=by rw[eL];simp
 have a6:=o1;rw[b9] at a6 ⊢;rw[eL] at a6;have ep:=AG.sl a6;rw[(E:((L.length+1:Nat):Int)-1=((L.length:Nat):Int))];obtain⟨p,r,rfl,ba,hr,hc,er⟩:=ep.get (i:=L.length) D_;have c7:r=Spn.cells ⟨n,id⟩:=by have h':r=_:=er;rw[h'];simp
 subst c7;apply AW E;rw[AB,Addr.add_add];apply AD (v:=zI (n:Int)) (hc 0 _ rfl);rw[AR,wrap64 E E];apply AW E;rw[AB,Addr.add_add];refine TD (k:=2) (i:=L.length) (j:=0) (x':=(⟨n+1,id⟩:Spn)) a6 D_ B_ rfl rfl (λ_ _ _ _ h=>h) (λ_ _ r hr=>?_) λW' o' m'=>?_;have h':r=_:=hr;rw[h'];simp[Spn.cells,HQ];have eu:(Value.slice (some p) (L.length+1) rc).ownBlock=some p.block->W.heap.size<=p.block:=λe=>(AG.Az a6 _ e).1;have c8:(L++[(⟨n,id⟩:Spn)]).set L.length ⟨n+1,id⟩=L++[⟨n+1,id⟩]:=D_;rw[c8] at o';refine⟨_,_,rfl,?_,?_,λg Q=>V g ?_,?_⟩;rw[b8,I,Bp e,eL,Vg];exact o';rw[b7,Bp B,ua];exact AG.U' o2 m' (λg Q e=>V g (by rw[b9,e];exact ba.2) Q) λ_ _ _ h=>H8 m' (λb hb e=>by have:=ba.1;omega) h;rw[b9];exact Q;exact g1.next m' λb hb e=>by have:=ba.1;omega
 have hz:(Cf id (rs.take i)).1.length=0:=E;have bb:(rs.take i).getLast?=none:=by
  cases Q:(rs.take i).getLast? with
  |none=>rfl
  |some q=>
   obtain⟨L,n,eL,_⟩:=f3 q Q;rw[eL] at hz;simp at hz
 exact inl (by rw[I,bb]) B;obtain rfl:i=rs.length:=E;rw[Nr] at o1 o2;exact hK rv cv W1 o1 o2 V g1
section
open MapKept
def K0(d:TypeDesc)(w:e_)(b:Nat)(f:d_->Option d_):Prop:=∃j i,w.heap[b]?=some (.map j i)/\(∀x∈j.toList,IsKey d x.key)/\j.toList.Pairwise (λx y=>x.key≠y.key)/\∀k v,IsKey d k->(f k=some v↔∃x∈j.toList,x.key=k/\x.val=v)
def K0.lt{d:TypeDesc}{b:Nat}{f:d_->Option d_}(h:K0 d w b f):b<w.heap.size:=by
 obtain⟨i,c,hb,_⟩:=h;exact(wo.1 hb).1
def K0.U'{d:TypeDesc}{b:Nat}{f:d_->Option d_}(h:K0 d w b f)(hm:AK M w w')(hb:¬M b):K0 d w' b f:=by
 have hl:=h.lt;obtain⟨i,c,h1,j⟩:=h;exact⟨i,c,(hm.Ap b hl hb).trans h1,j⟩
def K0.make(d:TypeDesc)(w:e_):K0 d (w.alloc (.map #[] 0)) w.heap.size (λ_=>none):=⟨#[],0,(heap_alloc w _).1,D_,D_,λk v _=>D_⟩
def Vw{d:TypeDesc}{t kt et:TypeId}{z:d_}{b:Nat}{f:d_->Option d_}{k:d_}(ht:P.underlying t=some (.map kt et))(hk:P.underlying kt=some d)(hi:IsKey d k)(J:(zeroValue et).run P w=.ok z w)(h:K0 d w b f) : (Instr.lookup t (.map (some b)) k true).run P w=.ok (.tuple #[(f k).getD z,.bool (f k).isSome]) w:=by
 obtain⟨O,i,hb,o,hp,I⟩:=h;have hc:=λem=>ya (w:=w) hk hi em 9999;rcases findNow_spec hi O.toList 0 o with⟨h1,B⟩|⟨j,e,h1,B,Q⟩;have h0:f k=none:=by
  cases U:f k with
  |none=>rfl
  |some v=>obtain⟨x,V,e,_⟩:=(I k v hi).1 U;exact absurd e (B x V)
 simp[Instr.lookup,run_underlying ht,xO hb,hc,xz hk h1,J,Result.andThen,h0];have h0:=(I k e.val hi).2 ⟨e,wD B,Q,rfl⟩;simp[Instr.lookup,run_underlying ht,xO hb,hc,xz hk h1,Result.andThen,h0]
open Classical in
def VA{d:TypeDesc}{t kt et:TypeId}{b:Nat}{f:d_->Option d_}{k v:d_}(ht:P.underlying t=some (.map kt et))(hk:P.underlying kt=some d)(hi:IsKey d k)(h:K0 d w b f)(V:f k=none) : ∃w',(Instr.mapUpdate t (.map (some b)) k v).run P w=.ok () w'/\K0 d w' b (λI=>if I=k then some v else f I)/\AK (λx=>x=b) w w':=by
 obtain⟨X,o,hb,J,hp,Y⟩:=h;have hc:=λem=>ya (w:=w) hk hi em 9999;rcases findNow_spec hi X.toList 0 J with⟨h1,Q⟩|⟨j,e,h1,Q,h3⟩;refine⟨{ w with heap:=w.heap.setIfInBounds b (.map (X.push ⟨k,v,o⟩) (o+1)) },by simp[Instr.mapUpdate,run_underlying ht,xO hb,hc,xz hk h1,yy _ hb,Result.andThen],⟨_,_,(heap_set hb).1,?_,?_,?_⟩,⟨rfl,rfl,rfl,D_,λx _ i=>(heap_set hb).2 x i⟩⟩;intro x i;simp only[zt,DN,so] at i;rcases i with i|rfl;exact J x i;exact hi;rw[zt,aAM];exact⟨hp,D_,λx i y Z=>by simp at Z;subst Z;exact Q x i⟩;intro I v' U;simp only[zt,DN,so];by_cases e:I=k;subst e;rw[Cx rfl];constructor;intro e;cases e;exact⟨_,.inr rfl,rfl,rfl⟩;rintro⟨x,i|rfl,B,O⟩;exact absurd B (Q x i);rw[<-O];rw[Bp e,Y I v' U];constructor;rintro⟨x,i,B,O⟩;exact⟨x,.inl i,B,O⟩;rintro⟨x,i|rfl,B,O⟩;exact⟨x,i,B,O⟩;exact absurd B.symm e;rw[(Y k e.val hi).2 ⟨e,wD Q,h3,rfl⟩] at V;cases V
def N4{l:List α}{x:α}:x∈l.eraseIdx j↔∃i,i≠j/\l[i]?=some x:=by
 rw[List.mem_eraseIdx_iff_getElem?]
open Classical in
def WI{d:TypeDesc}{t kt et ty:TypeId}{b:Nat}{f:d_->Option d_}{k:d_}(ht:P.underlying t=some (.map kt et))(hk:P.underlying kt=some d)(hi:IsKey d k)(h:K0 d w b f) : ∃w',(Builtin.delete_ #[t,kt] ty #[.map (some b),k]).run P w=.ok (.tuple #[]) w'/\K0 d w' b (λB=>if B=k then none else f B)/\AK (λx=>x=b) w w':=by
 obtain⟨O,I,hb,X,hp,hf⟩:=h;have hc:=λem=>ya (w:=w) hk hi em 9999;rcases findNow_spec hi O.toList 0 X with⟨h1,h2⟩|⟨j,e,h1,h2,h3⟩;refine⟨{ w with heap:=w.heap.setIfInBounds b (.map O I) },by simp[Builtin.delete_,run_underlying ht,xO hb,hc,xz hk h1,yy _ hb,Result.andThen],⟨_,_,(heap_set hb).1,X,hp,?_⟩,⟨rfl,rfl,rfl,D_,λx _ o=>(heap_set hb).2 x o⟩⟩;intro B v' Y;show(if B=k then none else f B)=some v'↔_;by_cases e:B=k;subst e;rw[Cx rfl];exact⟨λh=>(by cases h),λ⟨x,o,Q,_⟩=>absurd Q (h2 x o)⟩;rw[Bp e];exact hf B v' Y;have hj:j<O.size:=by have:=(Bq.1 h2).1;simpa using this
 have a6:(O.eraseIdxIfInBounds (0+j)).toList=O.toList.eraseIdx j:=by
  unfold Array.eraseIdxIfInBounds;rw[aBg E];simp
 have U:(O.eraseIdxIfInBounds (0+j)).toList.Sublist O.toList:=by rw[a6];exact List.eraseIdx_sublist _ _
 have J:∀x,x∈(O.eraseIdxIfInBounds (0+j)).toList↔x∈O.toList/\x.key≠k:=by
  intro x;rw[a6,N4];constructor;rintro⟨i,aa,o⟩;refine⟨wD o,λV=>?_⟩;have a7:=(Bq.1 o).1;have a8:=(Bq.1 h2).1;have pw:=xM.1 hp;have ex:=(Bq.1 o).2;have ee:=(Bq.1 h2).2;rcases aAe aa with Z|Z;exact pw i j a7 a8 Z (by rw[ex,ee,V,h3]);exact pw j i a8 a7 Z (by rw[ex,ee,V,h3]);rintro⟨o,ak⟩;obtain⟨i,a1⟩:=wE.1 o;exact⟨i,λV=>ak (by subst V;rw[h2] at a1;cases a1;exact h3),a1⟩
 refine⟨{ w with heap:=w.heap.setIfInBounds b (.map (O.eraseIdxIfInBounds (0+j)) I) },by simp[Builtin.delete_,run_underlying ht,xO hb,hc,xz hk h1,yy _ hb,Result.andThen],⟨_,_,(heap_set hb).1,λx o=>X x (U.subset o),hp.sublist U,?_⟩,⟨rfl,rfl,rfl,D_,λx _ o=>(heap_set hb).2 x o⟩⟩;intro B v' Y;show(if B=k then none else f B)=some v'↔_;by_cases V:B=k;subst V;rw[Cx rfl];exact⟨λh=>(by cases h),λ⟨x,o,Q,_⟩=>absurd Q ((J x).1 o).2⟩;rw[Bp V,hf B v' Y];exact⟨λ⟨x,o,Q,e2⟩=>⟨x,(J x).2 ⟨o,λe3=>V (Q.symm.trans e3)⟩,Q,e2⟩,λ⟨x,o,Q,e2⟩=>⟨x,((J x).1 o).1,Q,e2⟩⟩
end
def Gn:Dg prog 42 5 1 1:=⟨Tryz.t5,.int .u8 0,C_,C_,C_,C_,C_,by rfl,B_⟩
def KF.one{r:V_}{x:Int}(h:KF w r x):∀u∈r,u.oneCell'=true:=by
 subst h;intro u hu;simp at hu;subst hu;rfl
abbrev Df(B:Nat)(w:e_)(v:d_)(l:X_):Prop:=AG B 5 1 KF w v l
def XE{x:Int}(h0:0<=x)(h1:x<256):IntKind.u8.wrap x=x:=by
 have i:(2:Int) ^ IntKind.u8.bits=256:=B_;simp only[IntKind.wrap,i,IntKind.signed,zL];rw[Bp B_];omega
def Qa{x:Int}:IntKind.u8.wrap x=x%256:=by
 have i:(2:Int) ^ IntKind.u8.bits=256:=B_;simp only[IntKind.wrap,i,IntKind.signed,zL];rw[Bp B_]
def sP:∀a:Nat,a<256->(a ||| 128)=a%128+128:=by decide +kernel
def YG{t:TypeId}{a:Int}(w:e_)(h0:0<=a)(h1:a<256):(ET .or t xo yo (.int .u8 a) (.int .u8 128)).run prog w=.ok (.int .u8 (a%128+128)) w:=by
 rw[(Ja w).1];have e:((BitVec.ofInt IntKind.u8.bits a ||| BitVec.ofInt IntKind.u8.bits 128).toNat:Int)=((a.toNat ||| 128:Nat):Int):=by
  show((BitVec.ofInt 8 a ||| BitVec.ofInt 8 128).toNat:Int)=_;rw[aBD,xC,xC];have e:((2 ^ 8:Nat):Int)=256:=B_;rw[e,xe h0 h1];rfl
 rw[e,sP _ E,XE E E];congr 2;omega
def VW{l:X_}(h:Cc S w v l)(hl:l.length<=1099511627776) : AF prog 334 [v] (λv' w'=>Df w.heap.size w' v' l/\AI w w') w:=by
 apply H_ func334;obtain⟨a,c,rfl,hm⟩:=h.AO;rw[Y1];cases a with
 |none=>
  have:l=[]:=by
   cases l with
   |nil=>rfl
   |cons x l=>obtain⟨p,r,e,_⟩:=h.get (i:=0) D_;cases e
  subst this;exact Ai ⟨AG.nil,AK.refl _ _⟩
 |some p=>
  apply AS;apply Jz;have o:AI w (w.alloc (.cells #[] 5)):=AK.alloc _ _ _;have B:Df w.heap.size (w.alloc (.cells #[] 5)) (.slice (h_ w.heap.size) 0 0) []:=AG.Xn (HK _);obtain⟨v',w',h1,I,J,O⟩:=AG.append (ty:=42) Gn B (h.U_ o (by decide) λ_ _ h=>h) (λ_ _=>KF.one) (by simp;omega) (by simp) (by simpa using hm) (λ_ _ _ _ h=>h);refine AZ h1 ⟨?_,o.next (AK.BQ J) ?_⟩;refine I.Bk λg j=>?_;rcases O g j with h|h;cases h;exact HK _;simp[aAG] at h;omega;intro b hb e;simp[Value.ownBlock,S5] at e;omega
def Mt{n:Int}(h:K (.int .u8 (n%256)) w):runK prog (convert 59 5 (.int .u64 n)) K w:=by
 apply AZ (Ee (k:=.u8) w C_ C_);rw[Qa];exact h
def NP{l:X_}{n:Nat}(h:Cc S w v l)(hl:l.length+20<=1099511627776)(J:n<18446744073709551616) : AF prog 297 [v,.int .u64 n] (λv' w'=>Df w.heap.size w' v' (l++uv n)/\AI w w') w:=by
 refine G_ func297 ?_ (.y (.y (.x (.node [0,1] [(0,1),(7,16)] .nil .nil))));apply AA (VW h (by omega));rintro v1 w1 ⟨O,Q⟩;refine AX (λvs W=>∃(f m:Nat) (pre:X_) (lv:d_),vs=[lv,.int .u64 m]/\uv n=pre++O6 f m/\m<128 ^ (f+1)/\m<18446744073709551616/\pre.length+f=9/\Df w.heap.size W lv (l++pre)/\AI w W) (λvs _=>Di vs 1)
  ⟨9,n,[],v1,rfl,rfl,by omega,J,rfl,by rw[Ty];exact O,Q⟩ ?_
 rintro vs W ⟨f,m,pre,lv,rfl,hu,hm,U,hf,I,g⟩ _;simp only[Iu];rw[BM];refine AE (λV=>?_) λX=>?_;cases f with
 |zero=>simp at hm;omega
 |succ f=>
  have i:O6 (f+1) m=((m%128+128:Nat):Int)::O6 f (m/128):=by
   simp only[O6];rw[Bp (by omega)]
  refine Mt (AZ (YG W (by omega) (by omega)) ?_);have Y:((m:Int)%256%128+128)=((m%128+128:Nat):Int):=by omega
  rw[Y];refine ME (w0:=w) Gn I g (cs:=[.int .u8 ((m%128+128:Nat):Int)]) (x:=((m%128+128:Nat):Int)) (by kernel_rfl) rfl rfl (λ_ _ _=>KF.one) (λ_ _ _ _ _ _ h=>h) (by simp only[Ad];omega) (by simp only[Ad,maxLen];omega) λv' w' o B=>?_;apply AZ (LP (n:=7) w' (by decide));have Z:((m:Int)).fdiv (2 ^ 7)=((m/128:Nat):Int):=by
   rw[xW _ (by decide)];show(m:Int)/128=_;omega
  rw[Z];refine⟨⟨f,m/128,pre++[((m%128+128:Nat):Int)],v',rfl,by rw[hu,i];simp,?_,by omega,by simp;omega,by rw[<-Mp];exact o,B⟩,?_⟩;rw[aA6] at hm;exact yd (by omega);show(((m/128:Nat):Int)).toNat<((m:Nat):Int).toNat;omega
 have j:O6 f m=[(m:Int)]:=by
  cases f with
  |zero=>rfl
  |succ f=>simp only[O6];rw[Cx (by omega)]
 apply Mt;rw[show((m:Int)%256)=m by omega];refine ME (w0:=w) Gn I g (cs:=[.int .u8 (m:Int)]) (x:=(m:Int)) (by kernel_rfl) rfl rfl (λ_ _ _=>KF.one) (λ_ _ _ _ _ _ h=>h) (by simp[Ad];omega) (by simp[Ad,maxLen];omega) λv' w' o B=>?_;refine⟨?_,B⟩;rw[hu,j,<-Mp];exact o
def Zm{t:TypeId}{a b:Int}(w:e_)(ha:LZ a)(hb:LZ b):(ET .xor t xo yo (.int .u64 a) (.int .u64 b)).run prog w=.ok (.int .u64 ((a.toNat ^^^ b.toNat:Nat):Int)) w:=by
 have j:(ET .xor t xo yo (.int .u64 a) (.int .u64 b)).run prog w=.ok (.int .u64 (IntKind.u64.wrap (BitVec.ofInt IntKind.u64.bits a ^^^ BitVec.ofInt IntKind.u64.bits b).toNat)) w:=by
  simp[ET,eqGuard,binOp,Op.intBits]
 rw[j];have e:((BitVec.ofInt IntKind.u64.bits a ^^^ BitVec.ofInt IntKind.u64.bits b).toNat:Int)=((a.toNat ^^^ b.toNat:Nat):Int):=by
  show((BitVec.ofInt 64 a ^^^ BitVec.ofInt 64 b).toNat:Int)=_;unfold LZ at ha hb;rw[BitVec.toNat_xor,xC,xC];have e:((2 ^ 64:Nat):Int)=18446744073709551616:=B_;rw[e,xe ha.1 ha.2,xe hb.1 hb.2]
 have i:a.toNat ^^^ b.toNat<2 ^ 64:=Nat.xor_lt_two_pow (by unfold LZ at ha;omega) (by unfold LZ at hb;omega);rw[e,Gc ⟨E,E⟩]
def HH{x:Int}:IntKind.u64.wrap x=x%18446744073709551616:=by
 have i:(2:Int) ^ IntKind.u64.bits=18446744073709551616:=B_;simp only[IntKind.wrap,i,IntKind.signed,zL];rw[Bp B_]
def qe{n:Int}(h0:-9223372036854775808<=n)(h1:n<=9223372036854775807) : AF prog 333 [zI n] (λv' w'=>v'=.int .u64 (H0 n:Nat)/\w'=w) w:=by
 apply H_ func333;apply AZ (Ee (k:=.u64) w C_ C_);apply AZ (Yl (n:=1) w B_);apply AZ (LP (n:=63) w B_);apply AZ (Ee (k:=.u64) w C_ C_);have o:LZ (IntKind.u64.wrap (IntKind.u64.wrap n*2 ^ 1)):=by
  rw[HH];exact⟨E,E⟩
 have B:LZ (IntKind.u64.wrap (n.fdiv (2 ^ 63))):=by
  rw[HH];exact⟨E,E⟩
 refine AZ (Zm w o B) ⟨?_,rfl⟩;congr 1;rw[HH,HH,HH,xW _ B_];have i:((2:Int) ^ 63)=9223372036854775808:=B_;have I:((2:Int) ^ 1)=2:=B_;rw[i,I];by_cases j:0<=n;have q:n/9223372036854775808=0:=E;rw[q];simp[Int.zero_emod,Int.toNat_zero,Nat.xor_zero];unfold H0;rw[Cx j];omega;have q:n/9223372036854775808=-1:=E;rw[q];have r:((-1:Int)%18446744073709551616).toNat=2 ^ 64-1:=B_;rw[r,Nat.xor_comm,Lib.xor_ones64 _ E];unfold H0;rw[Bp j];omega
def TQ{l:X_}{n:Int}(h:Cc S w v l)(hl:l.length+20<=1099511627776)(h0:-9223372036854775808<=n)(h1:n<=9223372036854775807) : AF prog 295 [v,zI n] (λv' w'=>Df w.heap.size w' v' (l++uv (H0 n))/\AI w w') w:=by
 apply G_ func295;apply AA (qe h0 h1);rintro _ _ ⟨rfl,rfl⟩;exact AA (NP h hl (IY h0 h1)) C0
def bV{l x:X_}(h:Cc S w v l)(j:Cc S' w xv x)(hl:l.length+x.length+40<=1099511627776) : AF prog 298 [v,xv] (λv' w'=>Df w.heap.size w' v' (l++(uv x.length++x))/\AI w w') w:=by
 apply G_ func298;obtain⟨a,c,rfl,_⟩:=j.AO;rw[AP];apply AZ (Ee (k:=.u64) w C_ C_);rw[Gc ⟨E,E⟩];apply AA (NP h E E);rintro U O ⟨o,i⟩;have I:(uv x.length).length<=10:=(Ca 9 x.length).2;obtain⟨v',w',h1,B,J,Q⟩:=AG.append (ty:=42) Gn o (j.U_ i B_ C0) (λ_ _=>KF.one) (by simp[Ad];omega) i.size (by simp[Ad,maxLen];omega) (λ_ _ _ _ h=>h);refine AZ h1 ⟨?_,i.next (AK.BQ J) λb hb e=>by have:=(AG.Az o b e).1;omega⟩;rw[Mp] at B;exact B
def dz{a:Attr}:(OF a).length<=50+a.val.s.size:=by
 have h1:=(Ca 9 (H0 a.key)).2;have i:=(Ca 9 a.val.kind.toNat).2;have j:=(Ca 9 (H0 a.val.n)).2;have o:=(Ca 9 a.val.f.toNat).2;have B:=(Ca 9 a.val.s.size).2;simp[OF,Ad,uv,DE];omega
def iP:∀{l:W_},(∀a∈l,a.val.s.size<=64)->(Ho l).length<=114*l.length:=by
 intro l;induction l with
 |nil=>intro _;simp[Ho]
 |cons a l i=>
  intro h;have h1:=@dz a;have o:=h a ub;have B:=i λx j=>h x (aN _ j);simp[Ho,vr,Ad,Hn] at *;omega
def Df.low{B i:Nat}{l:X_}(h:Df B w v l)(hb:i<=B):Df i w v l:=h.Bk λg j=>by have:=(AG.Az h g j).1;omega
def U2{l:W_}(h:CI S w v l)(hI:∀a∈l,PT a)(hs:∀a∈l,a.val.s.size<=64)(hl:l.length<=64) : AF prog 262 [v] (λv' w'=>v'=.string (GU l)/\AI w w') w:=by
 refine H_ func262 ?_ (.y (.y (.x (.y (.node [3,8] [(3,3),(5,5),(8,38)] .nil .nil)))));obtain⟨a,c,rfl,_⟩:=h.AO;rw[AP];refine AX (λvs W=>∃(i:Nat) (lv:d_),i<=l.length/\vs=[lv,zI i]/\Df w.heap.size W lv (Ho (l.take i))/\AI w W) (λvs _=>l.length-Di vs 1)
  ⟨0,_,Hw _,rfl,AG.nil,AK.refl _ _⟩ ?_
 rintro vs W ⟨i,lv,hi,rfl,X,g⟩ _;simp only[Iu];refine HP (λa8=>?_) λaa=>?_;have o:i<l.length:=E;have Y:=hI l[i] (Q0 o);have ak:=hs l[i] (Q0 o);have a7:(Ho (l.take i)).length<=114*i:=by
  have:=@iP (l.take i) λa ha=>hs a (aO ha);rw[K8] at this;omega
 have Z:Ho (l.take (i+1))=Ho (l.take i)++OF l[i]:=by
  have e:l.take (i+1)=l.take i++[l[i]]:=by rw[Lc,By o];rfl
  rw[e];unfold Ho;rw[u9];simp only[vr,yp,Ty]
 obtain⟨p,r,rfl,_,hr,hc,rfl⟩:=(h.U_ g B_ C0).get o;generalize l[i]=x at *;obtain⟨i1,i2,i3,i4,i5⟩:=Y;refine AW o (Ab hr m_ ?_);refine BJ (vs:=x.cells) rfl rfl (Ch.one (w:=w) (x:=x) rfl) λb5 W1 al an g5 B _=>?_;have q3:=B 3 _ rfl;have q4:=B 4 _ rfl;have J:=g.trans g5;have o1:Df w.heap.size W1 lv (Ho (l.take i)):=AG.U' X g5 C0 F_;rw[AB];apply AD (B 0 _ rfl);apply AA (TQ o1.sl E i1.1 i1.2);rintro v2 W2 ⟨o2,g2⟩;have I:∀n,(uv n).length<=10:=λn=>(Ca 9 n).2;have u1:=I (H0 x.key);have u2:=I x.val.kind.toNat;have u3:=I (H0 x.val.n);have u4:=I x.val.f.toNat;rw[AB,AB,Addr.add_add];apply AD (g2.cell (B 1 _ rfl) E_);apply AZ (Ee (k:=.u64) W2 C_ C_);rw[Gc ⟨i2.1,E⟩];have ek:(Value.int .u64 x.val.kind)=.int .u64 ((x.val.kind.toNat:Nat):Int):=by rw[Int.toNat_of_nonneg i2.1]
 rw[ek];refine AA (NP o2.sl (by simp only[Ad];omega) E) ?_;rintro v3 W3 ⟨o3,g3⟩;have O:=g2.trans g3;rw[AB,AB,Addr.add_add];apply AD (O.cell (B 2 _ rfl) E_);refine AA (TQ o3.sl (by simp only[Ad];omega) i3.1 i3.2) ?_;rintro v4 W4 ⟨o4,g4⟩;have Q:=O.trans g4;rw[AB,AB,Addr.add_add];apply AD (Q.cell q3 E_);have ef:(Value.int .u64 x.val.f)=.int .u64 ((x.val.f.toNat:Nat):Int):=by rw[Int.toNat_of_nonneg i4.1]
 rw[ef];refine AA (NP o4.sl (by simp only[Ad];omega) E) ?_;rintro v5 W5 ⟨o5,a1⟩;have U:=Q.trans a1;rw[AB,AB,Addr.add_add];apply AD (U.cell q4 E_);refine US E λv6 W6 g6 a6=>?_;have V:=U.trans g6;refine AA (bV (AG.U' (R':=KF) o5 g6 C0 F_).sl a6 (by simp only[Ad,DE];omega)) ?_;rintro v7 W7 ⟨o7,g7⟩;rw[AR,AM E];refine⟨⟨i+1,v7,o,rfl,?_,J.trans (V.trans g7)⟩,by rw[BE,BE];omega⟩;rw[Z];have e7:Ho (l.take i)++OF x=Ho (l.take i)++uv (H0 x.key)++uv x.val.kind.toNat++uv (H0 x.val.n)++uv x.val.f.toNat++(uv (CA x.val.s).length++CA x.val.s):=by
  rw[DE];simp only[OF,Mp]
 rw[e7];exact o7.low (vx J.size V.size);have:i=l.length:=E;subst this;rw[Nr] at X;exact AZ (LS X.sl (Nx hI)) ⟨rfl,g⟩
def Pb{D S:f_}{l:W_}(hS:Cg D w sv ks)(h:CI S w v l)(hT:DV w)(hI:∀a∈l,0<=a.val.f) : AF prog 34 [sv,v] (λv' w'=>v'=zI (Bl ks l)/\AI w w') w:=by
 classical
 refine G_ func34 ?_ (.y (.y (.y (.x (.y (.node [5,13] [(4,7),(13,46)] (.y (.y (.x (.y (.cut [18] [(18,37)] (.dm [16] [0,1,3,7,7,23,63,127,255,7,519,2047,4095,8191,16383,32767,65535,131071,262143,524287]) .nil))))) .nil))))));obtain⟨a,c,rfl,hm⟩:=h.AO;simp[maxLen] at hm;have a8:∀w',AI w w'->Nb l->zI 3=zI (Bl ks l)/\AI w w':=λw' g hb=>⟨by rw[Bl,Cx hb],g⟩;rw[AP,BM];refine AE (λh6=>a8 _ (AK.refl _ _) (.inr (.inl E))) λh6=>?_;rw[AP];refine AX (λvs W=>∃i:Nat,i<=l.length/\vs=[zI (if JE ks (l.take i) then 4 else 0),zI i]/\AI w W/\(∀a∈l.take i,EE a.val)/\Rf Attr.key l i) (λvs _=>l.length-Di vs 1)
  ⟨0,Hw _,by rw[Bp (by rintro⟨a,ha,_⟩;simp at ha)];rfl,AK.refl _ _,by simp,λj hj=>by omega⟩ ?_
 rintro vs W ⟨i,hi,rfl,g,hv,V⟩ _;simp only[Iu];refine HP (λba=>?_) λaa=>?_;have o:i<l.length:=E;obtain⟨p,r,rfl,_,hr,hc,rfl⟩:=(h.U_ g B_ C0).get o;refine AW o (Ab hr m_ ?_);refine BJ (vs:=l[i].cells) rfl rfl (Ch.one (w:=w) (x:=l[i]) rfl) λb7 Y bb bk g7 O _=>?_;have J:=g.trans g7;have a1:=hI l[i] (Q0 o);have e1:l.take (i+1)=l.take i++[l[i]]:=by rw[Lc,By o];rfl
 refine AV (λvs W2=>AI Y W2/\((vs=[.bool true]/\Nb l)\/(vs=[.bool false]/\EE l[i].val/\Rf Attr.key l (i+1)))) ?_ ?_;rintro vs W2 ⟨Z,ak⟩ _;rcases ak with⟨rfl,hb⟩|⟨rfl,I,Q⟩;exact Ai (a8 _ (J.trans Z) hb);apply AS;rw[AB];apply AD (Z.cell (O 0 _ rfl) E_);rw[AB];refine Ab (vs:=l[i].val.cells) rfl (λj u hu=>Z.cell (by rw[Addr.add_add];exact O (1+j) u (by rw[yf];exact hu)) E_) ?_;apply AA (Un (hS.U_ (J.trans Z)) (hT.U_ (J.trans Z)) a1);rintro _ W3 ⟨rfl,g3⟩;have a6:=(J.trans Z).trans g3;rw[Aq];have a7:∀a∈l.take (i+1),EE a.val:=λa ha=>by
  rw[e1] at ha;rcases DN.1 ha with ha|ha;exact hv a ha;simp at ha;subst ha;exact I
 by_cases B:II ks l[i].key l[i].val;rw[TC B];apply AS;rw[AR,AM E];refine⟨⟨i+1,o,?_,a6,a7,Q⟩,by rw[BE,BE];omega⟩;have e:JE ks (l.take (i+1))↔JE ks (l.take i):=by
  unfold JE;rw[e1];constructor;rintro⟨a,ha,hn⟩;rcases DN.1 ha with ha|ha;exact⟨a,ha,hn⟩;simp at ha;subst ha;exact absurd B hn;rintro⟨a,ha,hn⟩;exact⟨a,oJ _ ha,hn⟩
 simp[e];rw[WL B];apply Ai;rw[AR,AM E];refine⟨⟨i+1,o,?_,a6,a7,Q⟩,by rw[BE,BE];omega⟩;rw[Cx (show JE ks (l.take (i+1)) from⟨l[i],by rw[e1];exact py _ (so.2 rfl),B⟩)];apply Ag (λ_ _=>False);have gd:AI Y Y.drew:=AK.drew _ _;have X:Rf Attr.key l (i+1)->BZ 1 (.pointer (some (⟨b7,0,none⟩:Addr))) λal=>Hz (Zp [16] (k_ [0,1,3,7,7,23,63,127,255,7,519,2047,4095,8191,16383,32767,65535,131071,262143,524287]) (λ_ _=>False) Y.drew 15) 4 al λan=>
   AF prog 86 [an] (λav w9=>AK (λ_=>False) Y.drew w9/\Nj av λax=>(λvs W2=>AI Y W2/\((vs=[.bool true]/\Nb l)\/(vs=[.bool false]/\EE l[i].val/\Rf Attr.key l (i+1)))) [ax] w9) Y.drew:=by
  intro Q;rw[AB];refine DF (vs:=l[i].val.cells) rfl (λj u hu=>⟨gd.cell (by rw[Addr.add_add];exact O (1+j) u (by rw[yf];exact hu)) E_,C0⟩) ?_;apply AA (Te (hT.U_ (J.trans gd)) a1);rintro _ W3 ⟨rfl,g3⟩;refine⟨g3,?_⟩;rw[Aq];refine⟨gd.trans g3,?_⟩;by_cases I:EE l[i].val;exact .inr ⟨by rw[TC I];rfl,I,Q⟩;exact .inl ⟨by rw[WL I];rfl,.inr (.inr ⟨l[i],Q0 o,I⟩)⟩
 rw[BM];refine AE (λay=>?_) λay=>X (λj hj=>by omega);rw[A6,wrap64 E E,(E:((i:Int)-1)=((i-1:Nat):Int))];have U:i-1<l.length:=E;obtain⟨_,r2,e2,_,bl,b0,rfl⟩:=(h.U_ g B_ C0).get U;cases e2;apply AW U;rw[AB,Addr.add_add];apply AU ⟨(g7.trans gd).cell (b0 0 _ rfl) E_,C0⟩;rw[AB];apply AU ⟨gd.cell (O 0 _ rfl) E_,C0⟩;rw[DR];refine AE (λaa=>⟨gd,.inl ⟨rfl,.inl λhr=>?_⟩⟩) λb9=>X ?_;have:=hr i E o _ _ (By U) (By o);omega;intro j b6 bp x y hx hy;by_cases b8:j<i;exact V j b6 b8 x y hx hy;have:j=i:=E;subst this;rw[By U] at hx;rw[By o] at hy;cases hx;cases hy;omega;have:i=l.length:=E;subst this;rw[Nr] at hv;refine⟨?_,g⟩;have ok:¬Nb l:=by
  rintro(h|h|⟨a,ha,h⟩);exact h V;omega;exact h (hv a ha)
 rw[Nr,Bl,Bp ok]
def Xs(s:ByteArray):MapKept.IsKey .string (.string s):=trivial
def Tab.Lr{α:Type}(t:Tab α)(z:α)(id:Int):Option (Ent α):=if id=0 then some ⟨z,t.empty⟩ else if id<0 then none else match t.AQ[(id-1).toNat]? with
 |some p=>if p.held=0 then none else some p
 |none=>none
structure Tab.Small {α:Type} (t:Tab α) (n:Nat):Prop where
 pl:t.AQ.length<=n
 em:t.empty<=n
 he:∀p∈t.AQ,p.held<=n
def Tab.NG{t:Tab α}{z:α}{id:Int}{p:Ent α}(h:t.Lr z id=some p)(h0:id≠0):∃i:Nat,id=(i:Int)+1/\t.AQ[i]?=some p/\0<p.held:=by
 unfold Tab.Lr at h;rw[Bp h0] at h;split at h;cases h;cases hp:t.AQ[(id-1).toNat]? with
 |none=>rw[hp] at h;cases h
 |some q=>
  rw[hp] at h;simp only at h;split at h;cases h;cases h;exact⟨(id-1).toNat,E,hp,E⟩
def Tab.df{t:Tab α}{z:α}{i:Nat}{p:Ent α}(h:t.AQ[i]?=some p)(h0:0<p.held):t.Lr z ((i:Int)+1)=some p:=by
 unfold Tab.Lr;rw[Bp E,Bp E,(E:((i:Int)+1-1).toNat=i),h];simp only;rw[Bp E]
abbrev Xd:Nat:=265
def Im(C:f_):e_->V_->Ent W_->Prop:=λw r x=>∃sv,r=[sv,zI x.held]/\CI C w sv x.set
def Im.one{r:V_}{x:Ent W_}(h:Im C w r x):∀u∈r,u.oneCell'=true:=by
 obtain⟨sv,rfl,i⟩:=h;obtain⟨a,c,rfl,_⟩:=i.AO;intro u hu;simp at hu;rcases hu with rfl|rfl<;>rfl
def Im.U'{r:V_}{x:Ent W_}(h:Im C w r x)(hm:AK M w w')(hC:∀b,b<w.heap.size->C b->¬M b):Im C w' r x:=by
 obtain⟨sv,e,i⟩:=h;exact⟨sv,e,i.U' hm hC B_ C0⟩
def Im.sub{C C':f_}{r:V_}{x:Ent W_}(h:Im C w r x)(hC:∀b,b<w.heap.size->C b->C' b):Im C' w r x:=by
 obtain⟨sv,e,i⟩:=h;exact⟨sv,e,i.sub hC B_ C0⟩
abbrev Iq(ks:Y'):W_->Prop:=V6 λs=>Bl ks s=0
structure SKs where
 sv:d_
 ks:Y'
 S:f_
structure fG (F C:f_) (W:e_) (b:Nat) (ks:SKs) (t:Tab W_) (pl fr:d_) (bm:Nat):Prop where
 Iy:Cg ks.S W ks.sv ks.ks
 IE:AG 0 Xd 2 (Im C) W pl t.AQ
 Ns:AG 0 3 1 Q3 W fr (t.free.map λi:Nat=>(i:Int))
 map:∃f,K0 .string W bm f/\GC t f
 Rq:t.Inv (Iq ks.ks)
 fb:F b/\¬C b
 fm:F bm/\¬C bm/\bm≠b
 pF:∀g,pl.ownBlock=some g->F g/\¬C g/\g≠b/\g≠bm
 fF:∀g,fr.ownBlock=some g->F g/\¬C g/\g≠b/\g≠bm/\pl.ownBlock≠some g
 cf:∀x,C x->F x/\x<W.heap.size
 sf:∀x,ks.S x->¬F x/\x<W.heap.size
def fG.U'{b:Nat}{ks:SKs}{t:Tab W_}{pl fr:d_}(h:fG F C W b ks t pl fr c)(hm:AK M W W')(j:∀x,F x\/ks.S x->x≠b->¬M x):fG F C W' b ks t pl fr c:=by
 have hC:∀ x,x < W.heap.size->C x->¬ M x:=λx _ i=>j x (.inl (h.cf x i).1) λe=>h.fb.2 (e ▸ i);obtain ⟨f,B,hi⟩:=h.map;exact ⟨h.Iy.U' hm λx _ i=>j x (.inr i) λe=>(h.sf x i).1 (e ▸ h.fb.1),AG.U' h.IE hm (λg o=>j g (.inl (h.pF g o).1) (h.pF g o).2.2.1) λr x _ i=>i.U' hm hC,AG.U' h.Ns hm (λg o=>j g (.inl (h.fF g o).1) (h.fF g o).2.2.1) F_,⟨f,B.U' hm (j c (.inl h.fm.1) h.fm.2.2),hi⟩,h.Rq,h.fb,h.fm,h.pF,h.fF,
  λx i=>⟨(h.cf x i).1,Nn (h.cf x i).2 hm.size⟩,λx i=>⟨(h.sf x i).1,Nn (h.sf x i).2 hm.size⟩⟩
abbrev bC(sv pl fr:d_)(bm:Nat)(em:Nat):V_:=[sv,pl,fr,.map (some bm),zI em]
structure Qd (F C:f_) (W:e_) (b:Nat) (ks:SKs) (t:Tab W_) (pl fr:d_) (bm:Nat):Prop where
 cells:∀j v,(bC ks.sv pl fr bm t.empty)[j]?=some v->W.cell? ⟨b,j,none⟩=some v
 Cb:∀j,j<5->Cv W ⟨b,j,none⟩
 DS:fG F C W b ks t pl fr bm
def HF(F:f_)(W:e_)(b:Nat)(ks:SKs)(t:Tab W_):Prop:=∃C pl fr bm,Qd F C W b ks t pl fr bm
def Qd.U'{b:Nat}{ks:SKs}{t:Tab W_}{pl fr:d_}(h:Qd F C W b ks t pl fr e)(hm:AK M W W')(i:∀x,F x\/ks.S x->¬M x):Qd F C W' b ks t pl fr e:=⟨λj v o=>hm.cell (h.cells j v o) (i b (.inl h.DS.fb.1)),λj B=>(h.Cb j B).U' hm (i b (.inl h.DS.fb.1)),h.DS.U' hm λx I _=>i x I⟩
def HF.U'{b:Nat}{ks:SKs}{t:Tab W_}(h:HF F W b ks t)(hm:AK M W W')(i:∀x,F x\/ks.S x->¬M x):HF F W' b ks t:=by
 obtain⟨C,pl,fr,j,h⟩:=h;exact⟨C,pl,fr,j,h.U' hm i⟩
def HF.U_{b:Nat}{ks:SKs}{t:Tab W_}(h:HF F W b ks t)(g:AI W W'):HF F W' b ks t:=h.U' g C0
def Mi(F:f_)(w w':e_)(b:Nat)(ks:SKs)(t:Tab W_):Prop:=∃F',(∀x,F' x->F x\/w.heap.size<=x/\x<w'.heap.size)/\HF F' w' b ks t/\AK F w w'
def Mi.Ap{b:Nat}{ks:SKs}{t:Tab W_}(h:HF F w' b ks t)(hm:AK F w w'):Mi F w w' b ks t:=⟨F,J_,h,hm⟩
def HF.lt{b:Nat}{ks:SKs}{t:Tab W_}(h:HF F W b ks t):b<W.heap.size/\F b:=by
 obtain⟨C,pl,fr,i,h⟩:=h;exact⟨q8 W _ (h.cells 4 _ rfl),h.DS.fb.1⟩
def RX{m:Option Nat}(w:e_):(ET .neq 279 xo yo (.map m) (.map none)).run prog w=.ok (.bool (!m.isNone)) w:=by
 have e:(binOp .neq 279 (.map m) (.map none)).run prog w=.ok (.bool (!m.isNone)) w:=run_neq_map_nil w _ _ _ _ underlying279;simp[ET,eqGuard,e]
def V7{b:Nat}{ks:SKs}{t:Tab W_}(h:HF F W b ks t):AF prog 254 [g_ b] (λv' w'=>v'=.bool true/\w'=W) W:=by
 obtain⟨C,pl,fr,i,h⟩:=h;apply H_ func254;refine Dp (Ai (AJ ?_));rw[AB,AH];exact AD (h.cells 3 _ rfl) (AZ (RX W) ⟨rfl,rfl⟩)
def me{ks:SKs}(h:Cg ks.S w ks.sv ks.ks)(Q:∀x,ks.S x->x<w.heap.size) : AF prog 125 [ks.sv] (λv' w'=>AI w w'/\∃b,w.heap.size<=b/\v'=g_ b/\HF (λx=>w.heap.size<=x/\x<w'.heap.size) w' b ks (Tab.z _)) w:=by
 apply H_ func125;apply AZ (v:=.map (some w.heap.size)) (w':=w.alloc (.map #[] 0)) rfl;have U:AI w (w.alloc (.map #[] 0)):=AK.alloc _ _ _;have i:K0 .string (w.alloc (.map #[] 0)) w.heap.size (λ_=>none):=K0.make .string w;have B:(w.alloc (.map #[] 0)).heap.size=w.heap.size+1:=D_;generalize w.alloc (.map #[] 0)=w1 at U i B ⊢;obtain⟨sv,ks,S⟩:=ks;obtain⟨Y,_,_,_,rfl,_⟩:=id h;refine⟨(bC (g_ Y) i_ i_ w.heap.size 0).toArray,C_,?_⟩;refine CN (vs:=bC (g_ Y) i_ i_ w.heap.size 0) λb w2 hb Z V I J=>?_;have o:=U.trans V;refine⟨o,b,E,rfl,λ_=>False,i_,i_,w.heap.size,?_⟩;refine⟨λj v hv=>by have:=I j v hv;rwa [AH] at this,λj hj=>by have:=J j hj;rwa [AH] at this,?_⟩;refine⟨h.U_ o,AG.nil,AG.nil,⟨_,i.U' V E_,GC.z⟩,Tab.Inv.z _,⟨⟨E,E⟩,E_⟩,⟨⟨E,E⟩,E_,E⟩,(λg O=>nomatch O),(λg O=>nomatch O),K_,λx X=>⟨λe=>by have:=Q x X;omega,by have:=Q x X;omega⟩⟩
def RF{b:Nat}{ks:SKs}{t:Tab W_}{id:Int}(h:HF F W b ks t)(hs:t.AQ.length<=1099511627776)(h0:-9223372036854775808<=id)(h1:id<=9223372036854775807) :
  AF prog 186 [g_ b,.int .i64 id] (λv' w'=>AI W w'/\match t.Lr [] id with
   |some p=>∃sv,v'=.tuple #[.agg #[sv,.int .i64 p.held],.int .i64 0]/\sv.oneCell'=true/\CI F w' sv p.set
   | none=>v'=.tuple #[.agg #[i_,.int .i64 0],.int .i64 5]) W:=by
 refine G_ func186 ?_ (.y (.cut [] [(5,43)] .nil .nil));refine EJ λb4 w1 ax ay g4 _ a1=>?_;have a6:=h.U_ g4;obtain⟨C,pl,fr,bm,hR⟩:=h;have I:=hR.U' g4 C0;obtain⟨pa,pc,J,_⟩:=hR.DS.IE.sl.AO;have O:=I.DS.IE.sl;rw[J] at O;have box:∀(vs:V_) {Z:e_} {K:Cont},vs.length=2->(∀v∈vs,v.oneCell'=true)->AI w1 Z->(∀o,AI W o->K (.agg vs.toArray) o)->Bu 2 (g_ b4) (.agg vs.toArray) (λw=>DT 2 (g_ b4) K w) Z:=by
  intro vs Z K hn ho g' hK;refine CJ hn ho (λj hj=>(a1 j hj).U' g' E_) λo m hc _=>?_;exact Ab hn hc (hK _ ((g4.trans g').next m E))
 have no:t.Lr [] id=none->∀{o:e_},AI W o->AI W o/\match t.Lr [] id with
   |some p=>∃sv,Value.tuple #[.agg #[i_,.int .i64 0],.int .i64 5]=.tuple #[.agg #[sv,.int .i64 p.held],.int .i64 0]/\sv.oneCell'=true/\CI F o sv p.set
   |none=>Value.tuple #[.agg #[i_,.int .i64 0],.int .i64 5]=.tuple #[.agg #[i_,.int .i64 0],.int .i64 5]:=λe o g=>⟨g,by rw[e]⟩
 refine AV (λ_ Z=>AI w1 Z/\∃(i:Nat) (p:Ent W_),id=(i:Int)+1/\t.AQ[i]?=some p/\0<p.held) ?_ ?_;rintro _ W2 ⟨g2,i,p,rfl,hp,a7⟩ _;have hi:=(Bq.1 hp).1;have U:=(Bq.1 hp).2;apply AJ;rw[AB,AH];apply AD (g2.cell (I.cells 1 _ rfl) E_);rw[A6,wrap64 E E,(E:((i:Int)+1-1)=(i:Int)),J];obtain⟨q,r,rfl,_,hr,hc,Q⟩:=O.get hi;obtain⟨si,rfl,V⟩:=Q;refine AW hi (Ab hr (λj u hu=>by rw[Addr.add_add];exact g2.cell (hc j u hu) E_) ?_);obtain⟨sa,sc,rfl,_⟩:=V.AO;refine box [_,_] rfl n_ g2 λo B=>?_;rw[Tab.df hp a7];refine⟨B,_,by rw[U],rfl,?_⟩;have a8:CI C W (.slice sa t.AQ[i].set.length sc) t.AQ[i].set:=by
  obtain⟨q',r',e',_,b0,aa,s',e2,ak⟩:=(J▸hR.DS.IE.sl).get hi;cases e';have c0:=g4.cell (aa 0 s' (by rw[e2];rfl)) E_;have c1:=hc 0 _ rfl;rw[c0] at c1;cases c1;exact ak
 rw[<-U];exact(a8.sub (λx _ hx=>(hR.DS.cf x hx).1) B_ C0).U_ B B_ C0;apply AA (V7 a6);rintro _ _ ⟨rfl,rfl⟩;rename e_=>w1;rw[Aq];apply AS;rw[Aj];refine AE (λX=>?_) λX=>?_;apply AJ;rw[AB,AH];apply AD (I.cells 4 _ rfl);refine⟨#[i_,zI t.empty],C_,?_⟩;refine box [i_,zI t.empty] rfl n_ (AK.refl _ _) λo B=>?_;have ea:t.Lr [] id=some ⟨[],t.empty⟩:=by unfold Tab.Lr;rw[Cx X]
 rw[ea];exact⟨B,_,rfl,rfl,BC.nil⟩;refine HP (λal=>?_) λY=>?_;refine⟨#[i_,zI 0],C_,?_⟩;exact box [i_,zI 0] rfl n_ (AK.refl _ _) λo B=>no (by unfold Tab.Lr;rw[Bp X,Cx al]) B;have an:0<=id:=E;apply AJ;rw[AB,AH];apply AD (I.cells 1 _ rfl);rw[J,AP,BM];refine AE (λav=>?_) λb6=>?_;refine⟨#[i_,zI 0],C_,?_⟩;refine box [i_,zI 0] rfl n_ (AK.refl _ _) λo B=>no ?_ B;unfold Tab.Lr;rw[Bp X,Bp Y,i6 E];obtain⟨i,rfl⟩:∃i:Nat,id=(i:Int)+1:=⟨(id-1).toNat,E⟩;have hi:i<t.AQ.length:=E;apply AJ;rw[AB,AH];apply AD (I.cells 1 _ rfl);rw[A6,wrap64 E E,(E:((i:Int)+1-1)=(i:Int)),J];obtain⟨q,r,rfl,_,hr,hc,Q⟩:=O.get hi;obtain⟨si,rfl,V⟩:=Q;apply AW hi;rw[AB,Addr.add_add];apply AD (hc 1 _ rfl);rw[Aj];refine AE (λh0=>?_) λh0=>⟨AK.refl _ _,i,t.AQ[i],rfl,By hi,E⟩;refine⟨#[i_,zI 0],C_,?_⟩;refine box [i_,zI 0] rfl n_ (AK.refl _ _) λo B=>no ?_ B;unfold Tab.Lr;rw[Bp X,Bp Y,(E:((i:Int)+1-1).toNat=i),By hi];simp only;rw[Cx E]
def Tab.Hq{α:Type}(t:Tab α)(z:α)(id:Int):Tab α:=match t.Lr z id with
 |none=>t
 |some p=>if id=0 then { t with empty:=t.empty+1 } else t.Kt (id-1).toNat ⟨p.set,p.held+1⟩
def Tab.Dk{α:Type}(t:Tab α)(z:α)(id:Int):Tab α:=match t.Lr z id with
 |none=>t
 |some p=>if id=0 then { t with empty:=t.empty-1 } else if p.held=1 then t.drop z (id-1).toNat else t.Kt (id-1).toNat ⟨p.set,p.held-1⟩
def Pq{s:W_}(h:Iq ks s):s.length<=64/\∀a∈s,a.val.s.size<=64:=by
 classical
 have hb:¬Nb s:=λhb=>by
  have o:Bl ks s=0:=h.2.2;unfold Bl at o;rw[Cx hb] at o;cases o
 refine⟨aAJ λj=>hb (.inr (.inl j)),λa ha=>aAJ λj=>hb (.inr (.inr ⟨a,ha,λi=>?_⟩))⟩;rcases i with i|i|i|i;rw[i.2.1] at j;exact absurd j (by simp[HO,ByteArray.size]);rw[i.2] at j;exact absurd j (by simp[HO,ByteArray.size]);rw[i.2.1] at j;exact absurd j (by simp[HO,ByteArray.size]);have:=i.2.2.1;omega
def UB{b:Nat}{ks:SKs}{t:Tab W_}{pl fr:d_}(h:fG F C W b ks t pl fr e){id:Int}{p:Ent W_}(hp:t.Lr [] id=some p):p.set.length<=64:=by
 by_cases h0:id=0;unfold Tab.Lr at hp;rw[Cx h0] at hp;cases hp;simp;obtain⟨i,_,h1,j⟩:=Tab.NG hp h0;exact(Pq (h.Rq.ok i p h1 j)).1
def Yo{b:Nat}{ks:SKs}{t:Tab W_}{id:Int}(h:HF F W b ks t)(O:t.AQ.length<=1099511627776)(h0:-9223372036854775808<=id)(h1:id<=9223372036854775807) :
  AF prog 117 [g_ b,.int .i64 id] (λv' w'=>AI W w'/\match t.Lr [] id with
   |some p=>∃sv,v'=.tuple #[sv,.int .i64 0]/\J7 W.heap.size w' sv p.set
   | none=>v'=.tuple #[i_,.int .i64 5]) W:=by
 apply G_ func117;apply AA (RF h O h0 h1);rintro v1 w1 ⟨I,hm⟩;cases ha:t.Lr [] id with
 |none=>
  rw[ha] at hm;subst hm;refine Bv ?_;refine BJ (vs:=[i_,zI 0]) rfl rfl n_ λY Z _ _ B i _=>?_;rw[BH];exact AT M' λ_=>⟨I.trans B,rfl⟩
 |some p=>
  rw[ha] at hm;obtain⟨sv,rfl,Q,j⟩:=hm;refine Bv ?_;refine BJ (vs:=[sv,zI p.held]) rfl rfl (λu hu=>by simp at hu;rcases hu with rfl|rfl;exact Q;rfl) λY Z _ _ B i _=>?_;refine KU ?_;rw[AB];apply AD (i 0 _ rfl);obtain⟨C,pl,fr,bm,U⟩:=h;have hl:=UB U.DS ha;apply AA (GP (j.U_ B B_ C0) E);rintro v3 w3 ⟨J,V⟩;have o:=I.trans B;exact⟨o.trans V,v3,rfl,J.Bk λg X=>by have:=(AG.Az J g X).1;have:=o.size;omega⟩
def Pm{b:Nat}{ks:SKs}{t:Tab W_}{pl fr:d_}{bm i n:Nat}{p:Ent W_}{K:e_->Prop}{a:Addr}(h:Qd F C W b ks t pl fr bm)(hp:t.AQ[i]?=some p)(h0:0<p.held)(V:0<n)(B:pl=.slice (some a) t.AQ.length c) (hK:∀W',Qd F C W' b ks (t.Kt i ⟨p.set,n⟩) pl fr bm->AK F W W'->K W'):Cu (.pointer (some (a.add (i*2+1)))) (zI n) K W:=by
 have I:=h.DS.IE;rw[B] at I;have J:pl.ownBlock=some a.block:=by rw[B];rfl
 obtain ⟨X,f2,Y,f4⟩:=h.DS.pF _ J;have O:AK (λx=>x=a.block) W (W.setCell (a.add (i * 2+1)) (zI n)):=AK.setCell _ _ _ (by rw [Av]);have hC:∀ x,x < W.heap.size->C x->¬ x=a.block:=λx _ o e=>f2 (e ▸ o);obtain ⟨⟨u,hu⟩,hf,ho,hm⟩:=AG.store (R':=Im C) (u:=zI n) (x':=⟨p.set,n⟩) (j:=1) I ((Bq.1 hp).1) B_ rfl (λr y _ hr=>hr.U' O hC) (λr hr=>by
  obtain ⟨s,rfl,Z⟩:=hr;refine ⟨s,rfl,?_⟩;rw [(Bq.1 hp).2] at Z;exact Z.U' O hC B_ C0)
 refine OE rfl rfl hu hf (hK _ ?_ (hm.mono λx _ e=>by rw[e];exact X));obtain⟨f,Q,U⟩:=h.DS.map;refine⟨λj v hv=>hm.cell (h.cells j v hv) (λe=>Y e.symm),λj hj=>(h.Cb j hj).U' hm (λe=>Y e.symm),?_⟩;exact⟨h.DS.Iy.U' hm λx _ o e=>(h.DS.sf x o).1 (e▸X),by rw[B];exact ho,AG.U' h.DS.Ns hm (λg hg e=>(h.DS.fF g hg).2.2.2.2 (by rw[J,e])) F_,⟨f,Q.U' hm (λe=>f4 e.symm),U.Kt hp h0 V⟩,h.DS.Rq.Kt hp h0 V,h.DS.fb,h.DS.fm,h.DS.pF,h.DS.fF,λx o=>⟨(h.DS.cf x o).1,Nn (h.DS.cf x o).2 hm.size⟩,λx o=>⟨(h.DS.sf x o).1,Nn (h.DS.sf x o).2 hm.size⟩⟩
def Kw{b:Nat}{ks:SKs}{t:Tab W_}{pl fr:d_}{bm n:Nat}{K:e_->Prop}(h:Qd F C W b ks t pl fr bm) (o:∀W',Qd F C W' b ks { t with empty:=n } pl fr bm->AK F W W'->K W'):Cu (.pointer (some ⟨b,4,none⟩)) (zI n) K W:=by
 refine Fz h.cells (λj i=>h.Cb j i) (q:=4) (B_:4<5) rfl rfl λW' hm hc hl=>?_;refine o W' ⟨hc,λj i=>hl j i,?_⟩ (hm.mono λx _ e=>by rw[e];exact h.DS.fb.1);have:=h.DS.U' hm C0;exact⟨this.Iy,this.IE,this.Ns,this.map,⟨this.Rq.WZ,this.Rq.jy,this.Rq.KV,this.Rq.ok⟩,this.fb,this.fm,this.pF,this.fF,this.cf,this.sf⟩
def dE{b:Nat}{ks:SKs}{t:Tab W_}{id:Int}(h:HF F W b ks t)(U:t.Small 1099511627776)(h0:-9223372036854775808<=id)(h1:id<=9223372036854775807) : AF prog 269 [g_ b,zI id] (λv' w'=>v'=zI (if(t.Lr [] id).isSome then 0 else 5)/\Mi F W w' b ks (t.Hq [] id)) W:=by
 apply G_ func269;apply AA (RF h U.pl h0 h1);rintro v1 w1 ⟨g1,hm⟩;unfold Tab.Hq;cases ha:t.Lr [] id with
 |none=>
  rw[ha] at hm;subst hm;refine Bv ?_;refine BJ (vs:=[i_,zI 0]) rfl rfl n_ λb5 w2 _ _ V X _=>?_;rw[BH];have j:=g1.trans V;exact AT M' λ_=>⟨rfl,.Ap (h.U_ j) (j.mono E')⟩
 |some p=>
  rw[ha] at hm;obtain⟨sv,rfl,ho,a6⟩:=hm;refine Bv ?_;refine BJ (vs:=[sv,zI p.held]) rfl rfl (λu hu=>by simp at hu;rcases hu with rfl|rfl;exact ho;rfl) λb5 w2 _ _ V X _=>?_;have j:=g1.trans V;obtain⟨C,pl,fr,bm,hR⟩:=h;have o:=hR.U' j C0;refine KU ?_;rw[Aj];refine AE (λQ=>?_) λQ=>?_;apply AJ;rw[AB,AH];apply AD (o.cells 4 _ rfl);have:=U.em;rw[AR,wrap64 E E];apply AJ;rw[AB,AH];have Y:((t.empty:Int)+1)=((t.empty+1:Nat):Int):=E;rw[Y];refine Kw o λW' B I=>⟨rfl,?_⟩;dsimp only;rw[Cx Q];exact .Ap ⟨C,pl,fr,bm,B⟩ ((j.mono E').trans I);obtain⟨i,rfl,hp,Z⟩:=Tab.NG ha Q;have hi:=(Bq.1 hp).1;apply AJ;rw[AB,AH];apply AD (o.cells 1 _ rfl);obtain⟨pa,pc,J,_⟩:=o.DS.IE.sl.AO;have O:=o.DS.IE.sl;rw[J] at O;rw[A6,wrap64 E E,(E:((i:Int)+1-1)=(i:Int)),J];obtain⟨q,r,rfl,_,hr,hc,a1⟩:=O.get hi;obtain⟨si,rfl,a7⟩:=a1;apply AW hi;rw[AB,Addr.add_add];apply AD (hc 1 _ rfl);have a8:=U.he t.AQ[i] (Q0 hi);rw[AR,wrap64 E E];apply AW hi;rw[AB,Addr.add_add];have Y:((t.AQ[i].held:Int)+1)=((p.held+1:Nat):Int):=by rw[(Bq.1 hp).2];omega
  rw[Y];refine Pm o hp Z (n:=p.held+1) E J λW' B I=>⟨rfl,?_⟩;dsimp only;rw[Bp Q,wI];exact .Ap ⟨C,pl,fr,bm,B⟩ ((j.mono E').trans I)
structure FP (F C:f_) (W:e_) (b:Nat) (ks:SKs) (AQ:List (Ent W_)) (free:X') (em:Nat) (f:d_->Option d_) (pl fr:d_) (bm:Nat):Prop where
 cells:∀j v,(bC ks.sv pl fr bm em)[j]?=some v->W.cell? ⟨b,j,none⟩=some v
 Cb:∀j,j<5->Cv W ⟨b,j,none⟩
 Iy:Cg ks.S W ks.sv ks.ks
 IE:AG 0 Xd 2 (Im C) W pl AQ
 Ns:AG 0 3 1 Q3 W fr (free.map λi:Nat=>(i:Int))
 map:K0 .string W bm f
 fb:F b/\¬C b
 fm:F bm/\¬C bm/\bm≠b
 pF:∀g,pl.ownBlock=some g->F g/\¬C g/\g≠b/\g≠bm
 fF:∀g,fr.ownBlock=some g->F g/\¬C g/\g≠b/\g≠bm/\pl.ownBlock≠some g
 cf:∀x,C x->F x/\x<W.heap.size
 sf:∀x,ks.S x->¬F x/\x<W.heap.size
section
variable {F C M:f_}{W W':e_}{b:Nat}{ks:SKs}{t:Tab W_}{AQ:List (Ent W_)}{free:X'}{em:Nat}{f:d_->Option d_}{pl fr:d_}{bm:Nat}
def Qd.m(h:Qd F C W b ks t pl fr bm):∃f,FP F C W b ks t.AQ t.free t.empty f pl fr bm/\GC t f:=by
 obtain⟨f,i,hi⟩:=h.DS.map;exact⟨f,⟨h.cells,h.Cb,h.DS.Iy,h.DS.IE,h.DS.Ns,i,h.DS.fb,h.DS.fm,h.DS.pF,h.DS.fF,h.DS.cf,h.DS.sf⟩,hi⟩
def FP.r(h:FP F C W b ks t.AQ t.free t.empty f pl fr bm)(hi:GC t f)(i:t.Inv (Iq ks.ks)):Qd F C W b ks t pl fr bm:=⟨h.cells,h.Cb,h.Iy,h.IE,h.Ns,⟨f,h.map,hi⟩,i,h.fb,h.fm,h.pF,h.fF,h.cf,h.sf⟩
def FP.U'(h:FP F C W b ks AQ free em f pl fr bm)(hm:AK M W W')(o:∀x,F x\/ks.S x->¬M x):FP F C W' b ks AQ free em f pl fr bm:=by
 have hC:∀ x,x < W.heap.size->C x->¬ M x:=λx _ i=>o x (.inl (h.cf x i).1);exact ⟨λj v I=>hm.cell (h.cells j v I) (o b (.inl h.fb.1)),λj J=>(h.Cb j J).U' hm (o b (.inl h.fb.1)),h.Iy.U' hm λx _ i=>o x (.inr i),AG.U' h.IE hm (λg B=>o g (.inl (h.pF g B).1)) λr x _ i=>i.U' hm hC,AG.U' h.Ns hm (λg B=>o g (.inl (h.fF g B).1)) F_,
  h.map.U' hm (o bm (.inl h.fm.1)),h.fb,h.fm,h.pF,h.fF,λx i=>⟨(h.cf x i).1,Nn (h.cf x i).2 hm.size⟩,λx i=>⟨(h.sf x i).1,Nn (h.sf x i).2 hm.size⟩⟩
def FP.fI{B:d_->Option d_}(h:FP F C W b ks AQ free em f pl fr bm)(hm:AK (λx=>x=bm) W W')(I:K0 .string W' bm B):FP F C W' b ks AQ free em B pl fr bm:=by
 have hC:∀ x,x < W.heap.size->C x->¬ x=bm:=λx _ i e=>h.fm.2.1 (e ▸ i);have hb:¬ b=bm:=λe=>h.fm.2.2 e.symm;exact ⟨λj v J=>hm.cell (h.cells j v J) hb,λj O=>(h.Cb j O).U' hm hb,h.Iy.U' hm λx _ i e=>(h.sf x i).1 (e ▸ h.fm.1),AG.U' h.IE hm (λg o=>(h.pF g o).2.2.2) λr x _ i=>i.U' hm hC,AG.U' h.Ns hm (λg o=>(h.fF g o).2.2.2.1) F_,
  I,h.fb,h.fm,h.pF,h.fF,λx i=>⟨(h.cf x i).1,Nn (h.cf x i).2 hm.size⟩,λx i=>⟨(h.sf x i).1,Nn (h.sf x i).2 hm.size⟩⟩
def FP.MI{i:List (Ent W_)}{g:Nat}(h:FP F C W b ks AQ free em f pl fr bm)(I:pl.ownBlock=some g)(hm:AK (λx=>x=g) W W')(hp:AG 0 Xd 2 (Im C) W' pl i):FP F C W' b ks i free em f pl fr bm:=by
 obtain ⟨O,Y,J,Q⟩:=h.pF g I;exact ⟨λj v U=>hm.cell (h.cells j v U) (λe=>J e.symm),λj V=>(h.Cb j V).U' hm (λe=>J e.symm),h.Iy.U' hm (λx _ o e=>(h.sf x o).1 (e ▸ O)),hp,AG.U' h.Ns hm (λX B e=>(h.fF X B).2.2.2.2 (by rw [I,e])) F_,
  h.map.U' hm (λe=>Q e.symm),h.fb,h.fm,h.pF,h.fF,λx o=>⟨(h.cf x o).1,Nn (h.cf x o).2 hm.size⟩,λx o=>⟨(h.sf x o).1,Nn (h.sf x o).2 hm.size⟩⟩
def FP.oG{F':f_}{I:d_}{free':X'}{K:e_->Prop}{Mf:f_}(h:FP F C W b ks AQ free em f pl fr bm)(hm:AK Mf W W')(V:∀x,Mf x->fr.ownBlock=some x)(hF:∀x,F x->F' x)(X:∀x,F' x->F x\/W.heap.size<=x) (ho:AG 0 3 1 Q3 W' I (free'.map λi:Nat=>(i:Int)))(hn:∀g,I.ownBlock=some g->fr.ownBlock=some g\/W.heap.size<=g/\F' g)(Q:I.oneCell'=true)(Y:I.cells=#[I]) (hK:∀J,FP F' C J b ks AQ free' em f pl I bm->AK (λx=>x=b) W' J->K J):Cu (.pointer (some ⟨b,2,none⟩)) I K W':=by
 have hb:∀ x,Mf x->F x/\¬ C x/\x≠b/\x≠bm/\pl.ownBlock≠some x:=λx o=>h.fF x (V x o);have hC:∀ x,x < W.heap.size->C x->¬ Mf x:=λx _ o e=>(hb x e).2.1 o;refine Fz (vs:=bC ks.sv pl fr bm em) (λj v hv=>hm.cell (h.cells j v hv) λe=>(hb b e).2.2.1 rfl) (λj Z=>(h.Cb j Z).U' hm λe=>(hb b e).2.2.1 rfl) (q:=2) (B_:2 < 5) Q Y λJ B hc hl=>?_;have U:=q8 W _ (h.cells 4 _ rfl);have a1:∀ x,x < W'.heap.size->C x->¬ x=b:=λx _ o e=>h.fb.2 (e ▸ o);have a6:=h.map.lt;refine hK J ⟨hc,λj Z=>hl j Z,(h.Iy.U' hm λx _ o e=>(h.sf x o).1 (hb x e).1).U' B (λx _ o e=>(h.sf x o).1 (e ▸ h.fb.1)),AG.U' (AG.U' (R':=Im C) h.IE hm (λg O e=>(hb g e).2.2.2.2 O) λr x _ o=>o.U' hm hC) B (λg O=>(h.pF g O).2.2.1) λr x _ o=>o.U' B a1,AG.U' ho B (λg O e=>?_) F_,
  (h.map.U' hm λe=>(hb bm e).2.2.2.1 rfl).U' B h.fm.2.2,⟨hF _ h.fb.1,h.fb.2⟩,⟨hF _ h.fm.1,h.fm.2⟩,λg O=>⟨hF _ (h.pF g O).1,(h.pF g O).2⟩,λg O=>?_,λx o=>⟨hF _ (h.cf x o).1,Nn (h.cf x o).2 (vx hm.size B.size)⟩,λx o=>⟨λe=>(X x e).elim (h.sf x o).1 λe=>by have:=(h.sf x o).2;omega,Nn (h.sf x o).2 (vx hm.size B.size)⟩⟩ B
 subst e;rcases hn g O with e|⟨e,_⟩;exact(h.fF g e).2.2.1 rfl;have:g<W.heap.size:=U;omega;rcases hn g O with e|⟨e,e'⟩;have:=h.fF g e;exact⟨hF _ this.1,this.2⟩;refine⟨e',λhc=>by have:=(h.cf g hc).2;omega,λe2=>?_,E,λe2=>by have:=((AG.Az h.IE) g e2).2;omega⟩;have:b<W.heap.size:=U;omega
end
def jb{a:Addr}{n c i:Nat}{l:List (Ent W_)}{K:e_->Prop}(h:AG 0 Xd 2 (Im C) W (.slice (some a) n c) l)(hi:i<l.length)(hC:∀x,x<W.heap.size->C x->¬x=a.block) (hK:∀W',AG 0 Xd 2 (Im C) W' (.slice (some a) n c) (l.set i ⟨[],0⟩)->AK (λx=>x=a.block) W W'->K W'):Bu 2 (.pointer (some (a.add (i*2)))) (.agg #[i_,zI 0]) K W:=by
 have B:AK (λx=>x=a.block) W (W.setCell (a.add (i * 2+0)) i_):=AK.setCell _ _ _ (by rw [Av]);obtain ⟨⟨u1,O⟩,Q,U,_⟩:=AG.store (R':=Im C) (u:=i_) (x':=⟨[],l[i].held⟩) (j:=0) h hi (by decide) rfl (λr y _ hr=>hr.U' B hC) (λr hr=>by
  obtain ⟨s,rfl,V⟩:=hr;exact ⟨_,rfl,BC.nil⟩)
 have X:i<(l.set i ⟨[],l[i].held⟩).length:=by rw[q7];exact hi
 have o:AK (λx=>x=a.block) (W.setCell (a.add (i * 2+0)) i_) ((W.setCell (a.add (i * 2+0)) i_).setCell (a.add (i * 2+1)) (zI 0)):=AK.setCell _ _ _ (by rw [Av]);have I:∀ x,x < (W.setCell (a.add (i * 2+0)) i_).heap.size->C x->¬ x=a.block:=λx hx hc=>hC x (by simpa using hx) hc;obtain ⟨_,_,J,_⟩:=AG.store (R':=Im C) (u:=zI 0) (x':=⟨[],0⟩) (j:=1) U X (by decide) rfl (λr y _ hr=>hr.U' o I) (λr hr=>by
  obtain⟨s,rfl,V⟩:=hr;refine⟨s,rfl,?_⟩;have e:(l.set i ⟨[],l[i].held⟩)[i].set=[]:=by rw[yT]
  rw [e] at V;exact V.U' o I (by decide) λ_ _ h=>h)
 rw[aBk] at J;obtain⟨⟨u2,Y⟩,Z,_,_⟩:=AG.store (R':=λ_ _ (_:Ent W_)=>True) (u:=zI 0) (x':=⟨[],0⟩) (j:=1) h hi (by decide) rfl (λ_ _ _ _=>trivial) (λ_ _=>trivial);refine⟨_,[i_,zI 0],rfl,rfl,rfl,λu hu=>by simp at hu;rcases hu with rfl|rfl<;>rfl,λj hj=>?_,hK _ ?_ ?_⟩
 .rcases(show j=0\/j=1 by omega) with rfl|rfl
  .rw[Addr.add_add];exact⟨by rw[O];rfl,Q⟩
  .rw[Addr.add_add];exact⟨by rw[Y];rfl,Z⟩
 .simp only[FE,Addr.add_add];exact J
 .simp only[FE,Addr.add_add];exact B.trans o
def dy{b:Nat}{ks:SKs}{t:Tab W_}{id:Int}(h:HF F W b ks t)(hs:t.Small 1099511627)(h0:-9223372036854775808<=id)(h1:id<=9223372036854775807) : AF prog 197 [g_ b,zI id] (λv' w'=>v'=zI (if(t.Lr [] id).isSome then 0 else 5)/\Mi F W w' b ks (t.Dk [] id)) W:=by
 refine G_ func197 ?_ (.y (.y (.x (.y (.y (.y (.y (.y (.x (.x (.dm [6,7] [0,1,3,7,0,16,48,127])))))))))));have cc:=hs.pl;apply AA (RF h E h0 h1);rintro v1 w1 ⟨g1,hm⟩;unfold Tab.Dk;cases ha:t.Lr [] id with
 |none=>
  rw[ha] at hm;subst hm;refine Bv ?_;refine BJ (vs:=[i_,zI 0]) rfl rfl n_ λb5 w2 _ _ g2 a6 _=>?_;rw[BH];have B:=g1.trans g2;exact AT M' λ_=>⟨rfl,.Ap (h.U_ B) (B.mono E')⟩
 |some p=>
  rw[ha] at hm;obtain⟨si,rfl,ho,b0⟩:=hm;refine Bv ?_;refine BJ (vs:=[si,zI p.held]) rfl rfl (λu hu=>by simp at hu;rcases hu with rfl|rfl;exact ho;rfl) λb5 w2 _ _ g2 a6 _=>?_;have B:=g1.trans g2;obtain⟨C,pl,fr,bm,hR⟩:=h;have o:=hR.U' B C0;refine KU ?_;rw[Aj];refine AE (λhz=>?_) λhz=>?_;apply AJ;rw[AB,AH];apply AD (o.cells 4 _ rfl);have:=hs.em;rw[A6,HS,wrap64 E E];apply AJ;rw[AB,AH];have en:(if(0:Int)>(t.empty:Int)-1 then(0:Int) else(t.empty:Int)-1)=((t.empty-1:Nat):Int):=by split<;>omega
  rw[en];refine Kw o λW' a7 a8=>⟨rfl,?_⟩;dsimp only;rw[Cx hz];exact .Ap ⟨C,pl,fr,bm,a7⟩ ((B.mono E').trans a8);obtain⟨i,rfl,hp,Y⟩:=Tab.NG ha hz;have hi:=(Bq.1 hp).1;have ch:=hs.he t.AQ[i] (Q0 hi);obtain⟨pa,pc,I,_⟩:=o.DS.IE.sl.AO;rw[AB];apply AD (a6 1 _ rfl);rw[Aj];refine AE (λa1=>?_) λa1=>?_;have aa:p.held=1:=E;have J:=hR.DS.Rq.ok i p hp Y;obtain⟨bl,bp⟩:=Pq J;apply Ag (λk y=>k=7/\y=bm);have gd:AI w2 w2.drew:=AK.drew _ _;apply AJ;rw[AB,AH];refine AU ⟨gd.cell (o.cells 3 _ rfl) E_,λj hj e=>by obtain⟨rfl,_⟩:=e;exact absurd hj B_⟩ ?_;rw[AB];refine AU ⟨gd.cell (a6 0 _ rfl) E_,λj hj e=>by obtain⟨rfl,_⟩:=e;exact absurd hj B_⟩ ?_;apply AA (U2 ((b0.U_ g2 B_ C0).U_ gd B_ C0) J.2.1 bp bl);rintro _ w4 ⟨rfl,g4⟩;refine⟨g4.mono E',?_⟩;have b6:=gd.trans g4;have b7:=B.trans b6;have b8:=o.U' b6 C0;have O:=b8.DS.Rq;obtain⟨f,ak,b9⟩:=b8.m;obtain⟨w5,ba,al,Z⟩:=WI (P:=prog) (ty:=0) (t:=279) (kt:=9) underlying279 underlying9 (Xs (GU p.set)) ak.map;refine AZ ba ⟨Z.mono λx _ e=>⟨rfl,e⟩,?_⟩;have Q:=ak.fI Z al;apply AJ;rw[AB,AH];apply AD (Q.cells 1 _ rfl);rw[A6,wrap64 E E,(E:((i:Int)+1-1)=(i:Int))];refine⟨#[i_,zI 0],C_,?_⟩;have U:=Q.IE;rw[I] at U ⊢;obtain⟨q,r,rfl,hq,_,_,_⟩:=U.sl.get hi;apply AW hi;have an:pl.ownBlock=some q.block:=by rw[I];exact hq.2
  have bs:∀ x,x < w5.heap.size->C x->¬ x=q.block:=λx _ hx e=>(Q.pF _ an).2.1 (e ▸ hx);refine jb U hi bs λw6 c4 av=>?_;have V:=Q.MI an av (by rw [I];exact c4);apply AJ;rw [AB,AH];apply AD (V.cells 2 _ rfl);have cu:=Tab.ZH O;rw [A6,wrap64 E E,(E:((i:Int)+1 - 1)=(i:Int))];refine FL Uh V.Ns (Hw _) (cs:=[zI i]) (x:=(i:Int)) C_ rfl rfl (λ_ _ _=>Q3.one) N_ (by rw [FA];omega) (by rw [FA];simp [maxLen];omega) λc6 w7 X ax c7=>?_;apply AJ;rw [AB,AH];have ay:(t.free.map λi:Nat=>(i:Int))++[(i:Int)]=(t.free++[i]).map λi:Nat=>(i:Int):=D_;rw [ay] at X;have s7:=ax.size;refine FP.oG (F':=λx=>F x\/w6.heap.size<=x/\x < w7.heap.size) V ax M_ J_ (λ_ h=>h.imp id aAN) X (λg hg=>by
   rcases c7 g hg with e | e;exact .inl e;exact .inr ⟨e,.inr ⟨e,((AG.Az X) g hg).2⟩⟩) X.one.1 X.one.2 λw8 c8 bb=>⟨rfl,?_⟩
  dsimp only;rw[Bp hz,Cx aa,wI];have z4:=b7.size;have z5:=Z.size;have z6:=av.size;have z8:=bb.size;refine⟨_,λx hx=>?_,⟨C,pl,c6,bm,FP.r (t:=t.drop [] i) c8 (b9.drop O hp Y) (Tab.dw O hp Y [])⟩,?_⟩;rcases hx with hx|hx;exact .inl hx;exact .inr ⟨E,E⟩;refine(((((b7.mono E').trans (Z.mono λx _ e=>by rw[e];exact ak.fm.1)).trans (av.mono λx _ e=>by rw[e];exact(Q.pF _ an).1)).trans (ax.mono λx _ e=>(V.fF x e).1)).trans (bb.mono λx _ e=>by rw[e];exact V.fb.1));apply AJ;rw[AB,AH];apply AD (o.cells 1 _ rfl);have bk:=o.DS.IE.sl;rw[I] at bk;rw[A6,wrap64 E E,(E:((i:Int)+1-1)=(i:Int)),I];obtain⟨q,r,rfl,_,hr,hc,c9⟩:=bk.get hi;obtain⟨s2,rfl,cx⟩:=c9;apply AW hi;rw[AB,Addr.add_add];apply AD (hc 1 _ rfl);rw[A6,wrap64 E E];apply AW hi;rw[AB,Addr.add_add];have ca:p.held≠1:=λe=>a1 (by rw[e];rfl);have en:((t.AQ[i].held:Int)-1)=((p.held-1:Nat):Int):=by rw[(Bq.1 hp).2];omega
  rw[en];refine Pm o hp Y (n:=p.held-1) E I λW' a7 a8=>⟨rfl,?_⟩;dsimp only;rw[Bp hz,Bp ca,wI];exact .Ap ⟨C,pl,fr,bm,a7⟩ ((B.mono E').trans a8)
def dM:Dg prog 280 Xd 2 32:=⟨Tryz.t265,.agg #[i_,zI 0],C_,C_,C_,C_,C_,by rfl,B_⟩
section
variable {F C M:f_}{W W':e_}{b:Nat}{ks:SKs}{t:Tab W_}{AQ:List (Ent W_)}{free:X'}{em:Nat}{f:d_->Option d_}{pl fr:d_}{bm:Nat}
def FP.rj{F':f_}{I:d_}{i:List (Ent W_)}{K:e_->Prop}(h:FP F C W b ks AQ free em f pl fr bm)(hm:AK (λx=>pl.ownBlock=some x) W W')(hF:∀x,F x->F' x)(U:∀x,F' x->F x\/W.heap.size<=x) (ho:AG 0 Xd 2 (Im C) W' I i)(V:∀g,I.ownBlock=some g->pl.ownBlock=some g\/W.heap.size<=g/\F' g)(Q:I.oneCell'=true)(X:I.cells=#[I]) (hK:∀O,FP F' C O b ks i free em f I fr bm->AK (λx=>x=b) W' O->K O):Cu (.pointer (some ⟨b,1,none⟩)) I K W':=by
 have hb:∀ x,pl.ownBlock=some x->F x/\¬ C x/\x≠b/\x≠bm:=λx B=>h.pF x B;refine Fz (vs:=bC ks.sv pl fr bm em) (λj v hv=>hm.cell (h.cells j v hv) λe=>(hb b e).2.2.1 rfl) (λj Y=>(h.Cb j Y).U' hm λe=>(hb b e).2.2.1 rfl) (q:=1) (B_:1 < 5) Q X λO o hc hl=>?_;have a1:b < W.heap.size:=q8 W _ (h.cells 4 _ rfl);have Z:∀ x,x < W'.heap.size->C x->¬ x=b:=λx _ B e=>h.fb.2 (e ▸ B);have a6:=h.map.lt;refine hK O ⟨hc,λj Y=>hl j Y,(h.Iy.U' hm λx _ B e=>(h.sf x B).1 (hb x e).1).U' o (λx _ B e=>(h.sf x B).1 (e ▸ h.fb.1)),AG.U' ho o (λg J e=>?_) λr x _ B=>B.U' o Z,AG.U' (AG.U' (R':=Q3) h.Ns hm (λg J e=>(h.fF g J).2.2.2.2 e) F_) o (λg J=>(h.fF g J).2.2.1) F_,
  (h.map.U' hm λe=>(hb bm e).2.2.2 rfl).U' o h.fm.2.2,⟨hF _ h.fb.1,h.fb.2⟩,⟨hF _ h.fm.1,h.fm.2⟩,λg J=>?_,λg J=>⟨hF _ (h.fF g J).1,(h.fF g J).2.1,(h.fF g J).2.2.1,(h.fF g J).2.2.2.1,λe=>?_⟩,λx B=>⟨hF _ (h.cf x B).1,Nn (h.cf x B).2 (vx hm.size o.size)⟩,λx B=>⟨λe=>(U x e).elim (h.sf x B).1 λe=>by have:=(h.sf x B).2;omega,Nn (h.sf x B).2 (vx hm.size o.size)⟩⟩ o
 subst e;rcases V g J with e|⟨e,_⟩;exact(h.pF g e).2.2.1 rfl;omega;rcases V g J with e|⟨e,e'⟩;have:=h.pF g e;exact⟨hF _ this.1,this.2⟩;exact⟨e',λhc=>by have:=(h.cf g hc).2;omega,E,E⟩;rcases V g e with e|⟨e,_⟩;exact(h.fF g J).2.2.2.2 e;have:=((AG.Az h.Ns) g J).2;omega
def FP.kf{K:e_->Prop}{a:Addr}{c i n:Nat}{p:Ent W_}(h:FP F C W b ks AQ free em f pl fr bm)(hp:AQ[i]?=some p)(o:pl=.slice (some a) AQ.length c) (Q:∀W',FP F C W' b ks (AQ.set i ⟨p.set,n⟩) free em f pl fr bm->AK F W W'->K W'):Cu (.pointer (some (a.add (i*2+1)))) (zI n) K W:=by
 have B:=h.IE;rw[o] at B;have I:pl.ownBlock=some a.block:=by rw[o];rfl
 obtain ⟨U,V,f3,f4⟩:=h.pF _ I;have J:AK (λx=>x=a.block) W (W.setCell (a.add (i * 2+1)) (zI n)):=AK.setCell _ _ _ (by rw [Av]);have hC:∀ x,x < W.heap.size->C x->¬ x=a.block:=λx _ X e=>V (e ▸ X);obtain ⟨⟨u,hu⟩,Y,Z,hm⟩:=AG.store (R':=Im C) (u:=zI n) (x':=⟨p.set,n⟩) (j:=1) B ((Bq.1 hp).1) B_ rfl (λr y _ hr=>hr.U' J hC) (λr hr=>by
  obtain ⟨s,rfl,O⟩:=hr;refine ⟨s,rfl,?_⟩;rw [(Bq.1 hp).2] at O;exact O.U' J hC B_ C0)
 exact OE rfl rfl hu Y (Q _ (h.MI I hm (by rw[o];exact Z)) (hm.mono λx _ e=>by rw[e];exact U))
def FP.qR{K:e_->Prop}{a:Addr}{c i B:Nat}{p:Ent W_}{s:W_}(h:FP F C W b ks AQ free em f pl fr bm)(hp:AQ[i]?=some p)(O:pl=.slice (some a) AQ.length c)(Z:∀x,F x\/ks.S x->x<B)(V:J7 B W v s) (hK:∀W',FP (λx=>F x\/v.ownBlock=some x) (λx=>C x\/v.ownBlock=some x) W' b ks (AQ.set i ⟨s,p.held⟩) free em f pl fr bm->AK (λx=>x=a.block) W W'->K W'):Cu (.pointer (some (a.add (i*2+0)))) v K W:=by
 have Q:pl.ownBlock=some a.block:=by rw[O];rfl
 obtain⟨f1,f2,f3,f4⟩:=h.pF _ Q;have I:=AG.Az V;have nF:∀x,v.ownBlock=some x->¬F x:=λx o hF=>by have:=(I x o).1;have:=Z x (.inl hF);omega
 have U:FP (λx=>F x\/v.ownBlock=some x) (λx=>C x\/v.ownBlock=some x) W b ks AQ free em f pl fr bm:=
  ⟨h.cells,h.Cb,h.Iy,AG.U' h.IE l_ C0 λr x _ o=>o.sub λ_ _ h=>.inl h,h.Ns,h.map,⟨.inl h.fb.1,λe=>e.elim h.fb.2 λe=>nF _ e h.fb.1⟩,⟨.inl h.fm.1,λe=>e.elim h.fm.2.1 λe=>nF _ e h.fm.1,h.fm.2.2⟩,
   λg J=>⟨.inl (h.pF g J).1,λe=>e.elim (h.pF g J).2.1 λe=>nF _ e (h.pF g J).1,(h.pF g J).2.2⟩,λg J=>⟨.inl (h.fF g J).1,λe=>e.elim (h.fF g J).2.1 λe=>nF _ e (h.fF g J).1,(h.fF g J).2.2⟩,λx o=>o.elim (λo=>⟨.inl (h.cf x o).1,(h.cf x o).2⟩) λo=>⟨.inr o,(I x o).2⟩,λx o=>⟨λe=>e.elim (h.sf x o).1 λe=>by have:=(I x e).1;have:=Z x (.inr o);omega,(h.sf x o).2⟩⟩
 have X:=U.IE;rw [O] at X;have Y:AK (λx=>x=a.block) W (W.setCell (a.add (i * 2+0)) v):=AK.setCell _ _ _ (by rw [Av]);have hC:∀ x,x < W.heap.size->(C x\/v.ownBlock=some x)->¬ x=a.block:=λx _ o e=>(U.pF _ Q).2.1 (e ▸ o);obtain ⟨⟨u,hu⟩,hf,ho,hm⟩:=AG.store (R':=Im (λx=>C x\/v.ownBlock=some x)) (u:=v) (x':=⟨s,p.held⟩) (j:=0) X ((Bq.1 hp).1) B_ V.one.1 (λr y _ hr=>hr.U' Y hC) (λr hr=>by
  obtain ⟨s',rfl,_⟩:=hr;refine ⟨v,by rw [(Bq.1 hp).2];rfl,?_⟩;exact (AG.sl V).U' Y (λx _ o e=>hC x (I x o.2).2 (.inr o.2) e) B_ C0 |>.sub (λx _ o=>.inr o.2) B_ C0)
 exact OE V.one.1 V.one.2 hu hf (hK _ (U.MI Q hm (by rw[O];exact ho)) hm)
end
def Z4{b:Nat}{ks:SKs}{t:Tab W_}{f:d_->Option d_}{pl fr:d_}(h:FP F C W b ks t.AQ t.free t.empty f pl fr c)(hi:t.Inv (Iq ks.ks))(hs:t.Small 1099511627) : AF prog 263 [g_ b] (λv' w'=>∃ (i:Nat) (F':f_) (o:List (Ent W_)) (free':X') (O a7:d_),v'=zI ((i:Int)+1)/\FP F' C w' b ks o free' t.empty f O a7 c/\AK F W w'/\ (∀ x,F' x->F x\/W.heap.size<=x/\x < w'.heap.size)/\((t.free.getLast?=some i/\o=t.AQ/\free'=t.free.dropLast)\/(t.free=[]/\i=t.AQ.length/\o=t.AQ++[⟨[],0⟩]/\free'=[]))) W:=by
 apply H_ func263;have ax:=Tab.ZH hi;have av:=hs.pl;apply AJ;rw[AB,AH];apply AD (h.cells 2 _ rfl);obtain⟨fa,fc,B,Q,_,a8,aa⟩:=h.Ns.AO;rw[FA] at Q;rw[B,AP,A6,FA,wrap64 E E,DR];refine AE (λay=>?_) λb0=>?_;have V:0<t.free.length:=E;have U:=wN.1 V;obtain⟨i,hl⟩:∃i,t.free.getLast?=some i:=⟨_,xJ U⟩;cases fa with
 |none=>have:=aa rfl;rw[yk] at this;exact absurd this U
 |some q=>
  obtain⟨g,rfl,_,_,b6⟩:=a8 q rfl;have X:=h.Ns.sl;have I:=h.Ns;rw[B,FA] at X I;apply AJ;rw[AB,AH];apply AD (h.cells 2 _ rfl);rw[B,FA];have hj:t.free.length-1<(t.free.map λi:Nat=>(i:Int)).length:=by rw[FA];omega
  obtain⟨_,r,e1,_,hr,hc,rfl⟩:=X.get hj;cases e1;have ev:(t.free.map λi:Nat=>(i:Int))[t.free.length-1]=(i:Int):=by
   rw[wz];rw[xJ U,aA0] at hl;rw[r9 hl]
  rw[ev] at hc;have en:((t.free.length:Int)-1)=((t.free.length-1:Nat):Int):=E;rw[en];refine AW (E:t.free.length-1<t.free.length) (AD (hc 0 _ rfl) ?_);apply AJ;rw[AB,AH];apply AD (h.cells 2 _ rfl);rw[B,FA];apply AZ (Ga (e:=3) (k:=1) (i:=Tryz.t3) C_ C_ C_ E W);apply AJ;rw[AB,AH];have ht:=AG.take I (j:=t.free.length-1) (by rw[FA];omega);have ed:(t.free.map λi:Nat=>(i:Int)).take (t.free.length-1)=t.free.dropLast.map λi:Nat=>(i:Int):=by rw[zG,wR]
  rw[ed] at ht;refine FP.oG (F':=F) (free':=t.free.dropLast) (Mf:=λ_=>False) h (AK.refl _ _) K_ M_ J_ ht (λg' ak=>.inl ?_) rfl rfl λw' al an=>?_;rw[B];exact ak;rw[AR];obtain⟨p,hp,_⟩:=(hi.jy i).1 (xI hl);have:=(Bq.1 hp).1;rw[wrap64 E E];exact⟨i,F,t.AQ,t.free.dropLast,pl,_,rfl,al,an.mono λx _ e=>by rw[e];exact h.fb.1,λx J=>.inl J,.inl ⟨hl,rfl,rfl⟩⟩
 have Y:t.free=[]:=Kx E;apply AJ;rw [AB,AH];apply AD (h.cells 1 _ rfl);refine ⟨#[i_,zI 0],C_,?_⟩;refine FL dM h.IE (Hw _) (cs:=[i_,zI 0]) (x:=⟨[],0⟩) C_ rfl ⟨_,rfl,BC.nil⟩ (λ_ _ _=>Im.one) (λw1 w2 r y b7 hm hr=>hr.U' hm λx J hC e=>?_) E L_ λO w1 Z hm hn=>?_;rcases e with e | e;exact (h.pF x e).2.1 hC;have:=(h.cf x hC).2;omega;apply AJ;rw [AB,AH];refine FP.rj (F':=λx=>F x\/W.heap.size<=x/\x < w1.heap.size) h hm J_ (λ_ h=>h.imp id aAN) Z (λg hg=>by
  rcases hn g hg with e | e;exact .inl e;exact .inr ⟨e,.inr ⟨e,((AG.Az Z) g hg).2⟩⟩) Z.one.1 Z.one.2 λw2 a1 a6=>?_
 apply AJ;rw[AB,AH];apply AD (a1.cells 1 _ rfl);obtain⟨a2,c2,e2,_⟩:=Z.sl.AO;have z2:=a6.size;rw[e2,AP];refine⟨t.AQ.length,_,_,t.free,O,fr,D_,a1,(hm.mono λx _ e=>(h.pF x e).1).trans (a6.mono λx _ e=>by rw[e];exact h.fb.1),λx J=>?_,.inr ⟨Y,rfl,rfl,Y⟩⟩;rcases J with J|J;exact .inl J;exact .inr ⟨J.1,E⟩
def Tab.Oq{α:Type}(t:Tab α)(z s:α)(id:Int)(t':Tab α):Prop:=(s=z/\id=0/\t'={ t with empty:=t.empty+1 })\/(s≠z/\∃i n:Nat,t.AQ[i]?=some ⟨s,n⟩/\0<n/\id=(i:Int)+1/\t'=t.Kt i ⟨s,n+1⟩)\/ (s≠z/\(∀(i:Nat) (p:Ent α),t.AQ[i]?=some p->0<p.held->p.set≠s)/\id=((t.put s).1:Int)+1/\t'=(t.put s).2)
def YS{b:Nat}{ks:SKs}{t:Tab W_}{l:W_}(h:HF F W b ks t)(hs:t.Small 1099511627)(hv:CI S W v l)(hT:DV W)(hI:∀a∈l,PT a)(hF:∀x,F x->1+1<=x/\x<W.heap.size)(e7:∀x,S x->¬F x) : AF prog 193 [g_ b,v] (λv' w'=>(Bl ks.ks l≠0/\v'=.tuple #[zI 0,zI (Bl ks.ks l)]/\AI W w')\/ (Bl ks.ks l=0/\∃ id t',v'=.tuple #[zI id,zI 0]/\t.Oq [] l id t'/\Mi F W w' b ks t')) W:=by
 refine G_ func193 ?_ (.y (.y (.y (.y (.y (.y (.cut [8] [(8,8),(43,62)] (.y (.x (.y (.x (.dc [7,10] (k_ [0,1,3,7,0,16,0,64,255,511,1023]) [[7]]))))) .nil)))))));have dj:=hs.pl;have e8:∀ a ∈ l,0<=a.val.f:=λa ha=>(hI a ha).2.2.2.1.1;apply AA (V7 h);rintro _ _ ⟨rfl,rfl⟩;rename e_=>W;obtain ⟨C,pl,fr,bm,hR⟩:=h;rw [Aq];refine AS (AJ ?_);rw [AB,AH];apply AD (hR.cells 0 _ rfl);apply AA (Pb hR.DS.Iy hv hT e8);rintro _ w3 ⟨rfl,g3⟩;rw [BH];refine AT (λa7=>?_) λa7=>?_;rotate_left;exact .inl ⟨a7,rfl,g3⟩;have bk:=hR.U' g3 C0;obtain ⟨va,vc,rfl,_⟩:=hv.AO;rw [AP,Aj];refine AE (λhz=>?_) λhz=>?_;have hl:l=[]:=Kx E;apply AJ;rw [AB,AH];apply AD (bk.cells 4 _ rfl);have:=hs.em;rw [AR,wrap64 E E];apply AJ;rw [AB,AH];have en:((t.empty:Int)+1)=((t.empty+1:Nat):Int):=E;rw [en];refine Kw bk λW' e9 b0=>.inr ⟨a7,0,_,rfl,.inl ⟨hl,rfl,rfl⟩,?_⟩;exact .Ap ⟨C,pl,fr,bm,e9⟩ ((g3.mono E').trans b0);have hl:l≠[]:=λe=>hz (by rw [e];rfl);have V:Iq ks.ks l:=⟨hl,hI,a7⟩;obtain ⟨ea,ec⟩:=Pq V;apply AA (U2 (hv.U_ g3 B_ C0) hI ec ea);rintro _ w6 ⟨rfl,g6⟩;have b6:=g3.trans g6;have dk:=bk.U' g6 C0;have O:=dk.DS.Rq;obtain ⟨f,a8,Z⟩:=dk.m;apply AJ;rw [AB,AH];apply AD (a8.cells 3 _ rfl);apply AZ (Vw (P:=prog) (t:=279) (kt:=9) (et:=3) (z:=zI 0) underlying279 underlying9 (Xs (GU l)) (Fj C_ w6) a8.map);refine Bv ?_;refine AV (λvs w9=>∃ (i n:Nat) (F9 C9:f_) (o:List (Ent W_)) (J:X') (f9:d_->Option d_) (bl bp:d_),vs=[zI ((i:Int)+1)]/\FP F9 C9 w9 b ks o J t.empty f9 bl bp bm/\o[i]?=some ⟨l,n⟩/\n<=1099511627776/\i<=1099511627776/\
   AK F W w9/\(∀ x,F9 x->F x\/W.heap.size<=x/\x < w9.heap.size)/\t.Oq [] l ((i:Int)+1) ⟨o.set i ⟨l,n+1⟩,J,t.empty⟩/\GC ⟨o.set i ⟨l,n+1⟩,J,t.empty⟩ f9/\(⟨o.set i ⟨l,n+1⟩,J,t.empty⟩:Tab W_).Inv (Iq ks.ks)) ?_ ?_
 rintro vs w9 ⟨i,n,F9,C9,o,J,f9,bl,bp,rfl,b7,bs,ep,er,c4,dr,dT,c6,c7⟩ _;rw[Bh,JS];have hi:=(Bq.1 bs).1;apply AJ;rw[AB,AH];apply AD (b7.cells 1 _ rfl);obtain⟨pa,pc,X,_⟩:=b7.IE.sl.AO;have e1:=b7.IE.sl;rw[X] at e1;rw[A6,wrap64 E E,(E:((i:Int)+1-1)=(i:Int)),X];obtain⟨q,r,rfl,_,hr,hc,ed⟩:=e1.get hi;obtain⟨si,rfl,eu⟩:=ed;apply AW hi;rw[AB,Addr.add_add];apply AD (hc 1 _ rfl);have eh:o[i].held=n:=by rw[(Bq.1 bs).2]
 rw[AR,wrap64 E E];apply AW hi;rw[AB,Addr.add_add];have en:((o[i].held:Int)+1)=((n+1:Nat):Int):=E;rw[en];refine b7.kf bs X λW' ee b0=>.inr ⟨a7,_,_,rfl,dT,?_⟩;have s':=b0.size;refine⟨F9,λx Q=>?_,⟨C9,bl,bp,bm,ee.r c6 c7⟩,c4.next b0 λx Q e=>?_⟩;rcases dr x Q with h|h;exact .inl h;exact .inr ⟨h.1,E⟩;rcases dr x e with h|h;exact h;omega;rw[Aq];cases hf:f (.string (GU l)) with
 |some v=>
  obtain⟨i,n,hp,hn,rfl⟩:=Z.some O hI hf;have hi:=(Bq.1 hp).1;have e2:=hs.he t.AQ[i] (Q0 hi);have ef:=(Bq.1 hp).2;rw[ef] at e2;apply AS;exact⟨i,n,F,C,t.AQ,t.free,f,pl,fr,rfl,a8,hp,vx e2 B_,E,b6.mono E',λx Q=>.inl Q,.inr (.inl ⟨hl,i,n,hp,hn,rfl,rfl⟩),Z.Kt hp hn E,O.Kt hp hn E⟩
 |none=>
  apply Ai;have aa:=Z.none hf;apply AA (Z4 a8 O hs);rintro _ b8 ⟨i,F7,I,ak,c8,ei,rfl,a6,c9,ca,al⟩;have ew:=b6.size;have z7:=c9.size;have cc:∀x,F7 x->x<b8.heap.size:=λx Q=>by
   rcases ca x Q with h|h;have:=(hF x h).2;omega;exact h.2
  obtain⟨p,e3,ch,U⟩:∃p,I[i]?=some p/\p.held=0/\((t.put l).1=i/\(t.put l).2=⟨I.set i ⟨l,1⟩,ak,t.empty⟩):=by
   unfold Tab.put;rcases al with⟨h1,rfl,rfl⟩|⟨h1,rfl,rfl,rfl⟩;rw[h1];obtain⟨p,hp,ej⟩:=(O.jy i).1 (xI h1);exact⟨p,hp,ej,rfl,rfl⟩;rw[h1];refine⟨⟨[],0⟩,D_,rfl,rfl,?_⟩;simp
  have cu:=(Bq.1 e3).1;have ey:i<=1099511627:=by
   rcases al with⟨h1,rfl,_⟩|⟨_,rfl,_⟩;omega;exact dj
  apply Ag (λk y=>k=10/\c8.ownBlock=some y);have gd:AI b8 b8.drew:=AK.drew _ _;apply AJ;rw [AB,AH];refine AU ⟨gd.cell (a6.cells 1 _ rfl) E_,λj hj e=>by obtain ⟨rfl,_⟩:=e;exact absurd hj B_⟩ ?_;obtain ⟨pa,pc,X,_⟩:=a6.IE.sl.AO;have ba:=a6.IE.sl;rw [A6,wrap64 E E,(E:((i:Int)+1 - 1)=(i:Int))];apply AA (GP (((hv.U_ b6 B_ C0).U' c9 (λx _ Q hf=>e7 x Q hf) B_ C0).U_ gd B_ C0) E);rintro cv ez ⟨e4,cx⟩;refine ⟨cx.mono E',?_⟩;have bb:=gd.trans cx;rw [X] at ba ⊢;obtain ⟨q,r,rfl,hq,_,_,_⟩:=ba.get cu;apply AW cu;rw [AB,Addr.add_add];have zd:=gd.size;have eA:=cx.size;refine (a6.U' bb C0).qR (B:=b8.drew.heap.size) e3 X (λx Q=>by
   rcases Q with Q | Q;have:=cc x Q;omega;have:=(a6.sf x Q).2;omega) e4 λeB an av=>?_
  have ek:c8.ownBlock=some q.block:=by rw[X];exact hq.2
  refine⟨av.mono λx _ e=>⟨rfl,by rw[e];exact hq.2⟩,?_⟩;apply AJ;rw[AB,AH];apply AD (an.cells 3 _ rfl);obtain⟨eo,e5,b9,ax⟩:=VA (P:=prog) (t:=279) (kt:=9) (v:=zI ((i:Int)+1)) underlying279 underlying9 (Xs (GU l)) an.map hf;refine AZ (v:=undef) (w':=eo) (by simp only[td,e5,Result.andThen];rfl) ?_;obtain⟨a1,e6,_,_,_⟩:=Tab.Ht O V aa;have Y:=Z.put O V hf;rw[U.2] at a1 Y;rw[U.1] at Y;have ay:(I.set i ⟨l,p.held⟩).set i ⟨l,p.held+1⟩=I.set i ⟨l,1⟩:=by rw[aBk,ch]
  refine⟨i,p.held,_,_,_,ak,_,c8,ei,rfl,an.fI ax b9,by rw[sT cu],E,E,?_,?_,?_,?_,?_⟩;refine((((b6.mono E').trans c9).trans (bb.mono E')).next av λx Q e=>?_).next ax λx Q e=>?_
  have:=(a6.pF _ ek).1;rw[<-e] at this;rcases ca x this with h|h;exact h;omega;have:=a8.fm.1;rw[<-e] at this;exact this;have eC:=av.size;have eI:=ax.size;rintro x (Q|Q);rcases ca x Q with h|h;exact .inl h;exact .inr ⟨E,E⟩;have:=(AG.Az e4) x Q;exact .inr ⟨E,E⟩;rw[ay];exact .inr (.inr ⟨hl,aa,by rw[U.1],U.2.symm⟩);rw[ay];exact Y;rw[ay];exact a1
def Tab.Small.le{t:Tab α}{N N':Nat}(h:t.Small N)(i:N<=N'):t.Small N':=⟨vx h.pl i,vx h.em i,λp hp=>vx (h.he p hp) i⟩
def Tab.Has{α:Type}(t:Tab α)(z s:α)(id:Int)(n:Nat):Prop:=t.Lr z id=some ⟨s,n⟩/\0<n/\(id=0↔s=z)
def Tab.Has.zero{t:Tab α}{z s:α}{n:Nat}(h:t.Has z s 0 n):s=z/\t.empty=n:=by
 have h1:=h.1;unfold Tab.Lr at h1;rw[Cx rfl] at h1;cases h1;exact⟨rfl,rfl⟩
def Tab.Has.Ct{t:Tab α}{z s:α}{id:Int}{n:Nat}(h:t.Has z s id n)(h0:id≠0):∃i:Nat,id=(i:Int)+1/\t.AQ[i]?=some ⟨s,n⟩:=by
 obtain⟨i,e,hp,_⟩:=Tab.NG h.1 h0;exact⟨i,e,hp⟩
def Tab.Has.cV{t:Tab α}{z:α}(h:0<t.empty):t.Has z z 0 t.empty:=⟨by unfold Tab.Lr;rw[Cx rfl],h,D_⟩
def Tab.Has.YB{t:Tab α}{z s:α}{i n:Nat}(o:s≠z)(hp:t.AQ[i]?=some ⟨s,n⟩)(j:0<n):t.Has z s ((i:Int)+1) n:=⟨Tab.df hp j,j,⟨E,λh=>absurd h o⟩⟩
def Tab.Oq.oB[DecidableEq α]{t t':Tab α}{z x s:α}{k id:Int}{n:Nat}{G:α->Prop}(h:t.Oq z x k t')(hi:t.Inv G)(Q:x≠z->G x)(B:t.Has z s id n):t'.Has z s id (if x=s then n+1 else n)/\(x=s↔k=id):=by
 by_cases h0:id=0;subst h0;obtain⟨rfl,rfl⟩:=B.zero;rcases h with⟨rfl,rfl,rfl⟩|⟨J,i,n,hp,Y,rfl,rfl⟩|⟨J,O,rfl,rfl⟩;rw[Cx rfl];exact⟨Tab.Has.cV (t:={ t with empty:=t.empty+1 }) (P9 _),D_⟩;rw[Bp J];exact⟨Tab.Has.cV (t:=t.Kt i _) B.2.1,⟨λe=>absurd e J,E⟩⟩;rw[Bp J];obtain⟨_,_,_,_,U⟩:=Tab.Ht hi (Q J) O;refine⟨?_,⟨λe=>absurd e J,E⟩⟩;have:=Tab.Has.cV (t:=(t.put x).2) (z:=s) (by rw[U];exact B.2.1);rwa [U] at this;obtain⟨j,rfl,hp⟩:=B.Ct h0;have Ln:s≠z:=λe=>h0 (B.2.2.2 e);rcases h with⟨rfl,rfl,rfl⟩|⟨J,i,m,I,hm,rfl,rfl⟩|⟨J,O,rfl,rfl⟩;rw[Bp (yH Ln)];exact⟨Tab.Has.YB (t:={ t with empty:=t.empty+1 }) Ln hp B.2.1,⟨λe=>absurd e.symm Ln,E⟩⟩;by_cases e:x=s;subst e;have o:=hi.KV i j _ _ I hp hm B.2.1 rfl;subst o;rw[hp] at I;cases I;rw[Cx rfl];exact⟨Tab.Has.YB Ln (by show(t.AQ.set i _)[i]?=_;rw[sT ((Bq.1 hp).1)]) (P9 _),D_⟩;rw[Bp e];have o:i≠j:=λo=>by subst o;rw[hp] at I;cases I;exact e rfl
 exact⟨Tab.Has.YB Ln (by show(t.AQ.set i _)[j]?=_;rw[vu o];exact hp) B.2.1,⟨λh=>absurd h e,λh=>absurd E o⟩⟩;have e:x≠s:=λe=>O j _ hp B.2.1 e.symm;rw[Bp e];obtain⟨_,_,V,X,_⟩:=Tab.Ht hi (Q J) O;have o:j≠(t.put x).1:=λo=>by
  have:=V ⟨s,n⟩ (o▸hp);have:=B.2.1;simp only at *;omega
 exact⟨Tab.Has.YB Ln ((X j o).trans hp) B.2.1,⟨λh=>absurd h e,λh=>absurd E o⟩⟩
def Tab.Has.Dk{t:Tab α}{z s:α}{k id:Int}{n:Nat}(o:t.Has z s id n)(hk:k≠id\/1<n):(t.Dk z k).Has z s id (if k=id then n-1 else n):=by
 by_cases e:k=id;subst e;rw[Cx rfl];unfold Tab.Dk;rw[o.1];dsimp only;by_cases h0:k=0;subst h0;obtain⟨rfl,rfl⟩:=o.zero;rw[Cx rfl];exact Tab.Has.cV (t:={ t with empty:=t.empty-1 }) (by show 0<t.empty-1;omega);obtain⟨j,rfl,hp⟩:=o.Ct h0;rw[Bp h0,Bp E,(E:((j:Int)+1-1).toNat=j)];exact Tab.Has.YB (λe=>h0 (o.2.2.2 e)) (by show(t.AQ.set j _)[j]?=_;rw[sT ((Bq.1 hp).1)]) E;rw[Bp e];unfold Tab.Dk;cases ha:t.Lr z k with
 |none=>exact o
 |some p=>
  dsimp only;by_cases B:k=0;rw[Cx B];have h0:id≠0:=λh=>e (by rw[B,h]);obtain⟨j,rfl,hp⟩:=o.Ct h0;exact Tab.Has.YB (t:={ t with empty:=t.empty-1 }) (λe=>h0 (o.2.2.2 e)) hp o.2.1;rw[Bp B];obtain⟨i,rfl,hp,O⟩:=Tab.NG ha B;rw[(E:((i:Int)+1-1).toNat=i)];by_cases h0:id=0;subst h0;obtain⟨rfl,rfl⟩:=o.zero;split;exact Tab.Has.cV (t:=t.drop s i) o.2.1;exact Tab.Has.cV (t:=t.Kt i _) o.2.1;obtain⟨j,rfl,I⟩:=o.Ct h0;have J:i≠j:=λh=>e (by rw[h]);split;exact Tab.Has.YB (λe=>h0 (o.2.2.2 e)) (by show(t.AQ.set i _)[j]?=_;rw[vu J];exact I) o.2.1;exact Tab.Has.YB (λe=>h0 (o.2.2.2 e)) (by show(t.AQ.set i _)[j]?=_;rw[vu J];exact I) o.2.1
def JX{α:Type}[DecidableEq α](r:List (α×Int))(x:α):Nat:=(r.filter λp=>decide (p.1=x)).length
def V3[DecidableEq α](r:List (α×Int))(x y:α)(k:Int):JX (r++[(x,k)]) y=JX r y+if x=y then 1 else 0:=by
 unfold JX;rw[yS,Ad];by_cases h:x=y<;>simp[h]
def Gx[DecidableEq α](r:List (α×Int))(x y:α)(k:Int):JX ((x,k)::r) y=JX r y+if x=y then 1 else 0:=by
 unfold JX;by_cases h:x=y<;>simp[h]
def fO[DecidableEq α]{r:List (α×Int)}{p:α×Int}(h:p∈r):0<JX r p.1:=by
 unfold JX;exact zx (wO.2 ⟨h,D_⟩)
def QB[DecidableEq α]{r:List (α×Int)}{x:α}(h:0<JX r x):∃p∈r,p.1=x:=by
 unfold JX at h;obtain⟨p,hp⟩:=List.exists_mem_of_length_pos h;obtain⟨h1,i⟩:=wO.1 hp;exact⟨p,h1,by simpa using i⟩
structure Tab.ID {α:Type} [DecidableEq α] (t:Tab α) (z:α) (r:List (α×Int)):Prop where
 LF:∀p∈r,t.Has z p.1 p.2 (JX r p.1)
 pl:∀(i:Nat) (q:Ent α),t.AQ[i]?=some q->0<q.held->∃p∈r,p.1=q.set
 em:t.empty=JX r z
def Tab.ID.z[DecidableEq α](z:α):(Tab.z α).ID z []:=⟨λp hp=>(by cases hp),λi q j=>(by simp[Tab.z] at j),rfl⟩
def Tab.Has.qV{t:Tab α}{z x y:α}{k l:Int}{n m:Nat}{G:α->Prop}(hi:t.Inv G)(h1:t.Has z x k n)(o:t.Has z y l m):k=l↔x=y:=by
 constructor;rintro rfl;have:=h1.1.symm.trans o.1;cases this;rfl;rintro rfl;by_cases h0:k=0;have:=h1.2.2.1 h0;rw[h0,o.2.2.2 this];obtain⟨i,rfl,hp⟩:=h1.Ct h0;have B:l≠0:=λe=>h0 (h1.2.2.2 (o.2.2.1 e));obtain⟨j,rfl,I⟩:=o.Ct B;rw[hi.KV i j _ _ hp I h1.2.1 o.2.1 rfl]
def Tab.ID.WH[DecidableEq α]{t t':Tab α}{z x:α}{k:Int}{r:List (α×Int)}{G:α->Prop}(h:t.ID z r)(ha:t.Oq z x k t')(hi:t.Inv G)(O:x≠z->G x):t'.ID z (r++[(x,k)]):=by
 have Q:t'.Has z x k (JX r x+1):=by
  by_cases V:∃p∈r,p.1=x;obtain⟨p,hp,rfl⟩:=V;obtain⟨h1,Y⟩:=ha.oB hi O (h.LF p hp);rw[Cx rfl] at h1;rw[Y.1 rfl];exact h1;have h0:JX r x=0:=by
   refine Nat.eq_zero_of_not_pos λU=>V (QB U)
  rcases ha with⟨rfl,rfl,rfl⟩|⟨o,i,n,hp,X,rfl,rfl⟩|⟨o,B,rfl,rfl⟩;rw[<-h.em];exact Tab.Has.cV (t:={ t with empty:=t.empty+1 }) (P9 _);exact absurd (h.pl i _ hp X) V;rw[h0];obtain⟨_,h1,_⟩:=Tab.Ht hi (O o) B;exact Tab.Has.YB o h1 Nat.one_pos
 refine⟨λp hp=>?_,λi q J h0=>?_,?_⟩;rw[V3];rcases DN.1 hp with hp|hp;have:=(ha.oB hi O (h.LF p hp)).1;by_cases e:x=p.1;rw[Cx e] at this ⊢;exact this;rw[Bp e] at this ⊢;exact this;rw[so] at hp;subst hp;rw[Cx rfl];exact Q;rcases ha with⟨rfl,rfl,rfl⟩|⟨o,j,n,hp,X,rfl,rfl⟩|⟨o,B,rfl,rfl⟩;obtain⟨p,hp,e⟩:=h.pl i q J h0;exact⟨p,oJ _ hp,e⟩;have I:(t.AQ.set j ⟨x,n+1⟩)[i]?=some q:=J;by_cases e:i=j;subst e;rw[sT (Bq.1 hp).1] at I;cases I;exact⟨(x,(i:Int)+1),D_,rfl⟩;rw[vu (yH e)] at I;obtain⟨p,hp,e⟩:=h.pl i q I h0;exact⟨p,oJ _ hp,e⟩;obtain⟨_,h1,_,Z,_⟩:=Tab.Ht hi (O o) B;by_cases e:i=(t.put x).1;subst e;rw[h1] at J;cases J;exact⟨_,py _ (so.2 rfl),rfl⟩;rw[Z i e] at J;obtain⟨p,hp,e⟩:=h.pl i q J h0;exact⟨p,oJ _ hp,e⟩;rw[V3];rcases ha with⟨rfl,rfl,rfl⟩|⟨o,j,n,hp,X,rfl,rfl⟩|⟨o,B,rfl,rfl⟩;rw[Cx rfl,<-h.em];rw[Bp o];exact h.em;rw[Bp o];obtain⟨_,_,_,_,h4⟩:=Tab.Ht hi (O o) B;rw[h4];exact h.em
def Tab.ID.sQ[DecidableEq α]{t:Tab α}{z x:α}{k:Int}{r:List (α×Int)}{G:α->Prop}(h:t.ID z ((x,k)::r))(hi:t.Inv G)(a1:∀s,G s->s≠z):(t.Dk z k).ID z r:=by
 have O:=h.LF (x,k) ub;rw[Gx,Cx rfl] at O;refine⟨λp hp=>?_,λi q J h0=>?_,?_⟩;have I:=h.LF p (aN _ hp);rw[Gx] at I;have hu:=Tab.Has.qV hi O I;by_cases e:k=p.2;have ex:=hu.1 e;simp only at ex;rw[Cx ex] at I;have:=I.Dk (k:=k) (.inr (by have:=fO hp;omega));rw[Cx e,yD] at this;exact this;have ex:¬x=p.1:=λh'=>e (hu.2 h');rw[Bp ex,ua] at I;have:=I.Dk (k:=k) (.inl e);rw[Bp e] at this;exact this;have V:∃Y,t.AQ[i]?=some Y/\0<Y.held/\Y.set=q.set/\(q.set=x->0<JX r x):=by
  unfold Tab.Dk at J;rw[O.1] at J;dsimp only at J;by_cases B:k=0;rw[Cx B] at J;refine⟨q,J,h0,rfl,λe=>?_⟩;exact absurd (e.trans (O.2.2.1 B)) (a1 _ (hi.ok i q J h0));rw[Bp B] at J;obtain⟨j,rfl,X⟩:=O.Ct B;have Z:=(Bq.1 X).1;rw[(E:((j:Int)+1-1).toNat=j)] at J;by_cases Q:i=j;subst Q;split at J;have o:(t.AQ.set i ⟨z,0⟩)[i]?=some q:=J;rw[sT Z] at o;cases o;exact absurd h0 (aAK _);have o:(t.AQ.set i _)[i]?=some q:=J;rw[sT Z] at o;cases o;exact⟨_,X,P9 _,rfl,λ_=>by simp only at h0;omega⟩;have o:t.AQ[i]?=some q:=by
   split at J;have o:(t.AQ.set j ⟨z,0⟩)[i]?=some q:=J;rwa [vu (yH Q)] at o;have o:(t.AQ.set j _)[i]?=some q:=J;rwa [vu (yH Q)] at o
  exact⟨q,o,h0,rfl,λe=>absurd (hi.KV i j _ _ o X h0 O.2.1 e) Q⟩
 obtain⟨Y,o,a6,es,a7⟩:=V;obtain⟨p,hp,ep⟩:=h.pl i Y o a6;rcases I3.1 hp with rfl|hp;obtain⟨p',I,e'⟩:=QB (a7 (by rw[<-es,<-ep]));exact⟨p',I,by rw[e',<-es,<-ep]⟩;exact⟨p,hp,by rw[ep,es]⟩;have U:=h.em;rw[Gx] at U;unfold Tab.Dk;rw[O.1];dsimp only;by_cases B:k=0;rw[Cx B];rw[Cx (O.2.2.1 B)] at U;show t.empty-1=_;omega;rw[Bp B];rw[Bp (λe=>B (O.2.2.2 e))] at U;split<;>exact U
section
variable {α:Type}[DecidableEq α]{t t':Tab α}{z s:α}{f:Int->α}{h:Int->Nat}{id:Int}{G:α->Prop}
def Sg{r q:List (α×Int)}(hp:r.Perm q)(x:α):JX r x=JX q x:=(hp.filter _).length_eq
def Tab.ID.Ix{r q:List (α×Int)}(j:t.ID z r)(hp:r.Perm q):t.ID z q:=
 ⟨λp o=>by rw[<-Sg hp];exact j.LF p (hp.mem_iff.2 o),λi e h1 B=>by obtain⟨p,I,J⟩:=j.pl i e h1 B;exact⟨p,hp.mem_iff.1 I,J⟩,by rw[<-Sg hp];exact j.em⟩
omit [DecidableEq α] in
def Tab.gh{n:Nat}{x:α}{k:Int}(h:t.Has z x k n):(t.Hq z k).Has z x k (n+1)/\(∀(i:Nat) (q:Ent α),(t.Hq z k).AQ[i]?=some q->0<q.held->∃Q:Ent α,t.AQ[i]?=some Q/\0<Q.held/\Q.set=q.set)/\((t.Hq z k).empty=if k=0 then t.empty+1 else t.empty)/\ (∀{y l m},l≠k->t.Has z y l m->(t.Hq z k).Has z y l m):=by
 unfold Tab.Hq;rw[h.1];dsimp only;by_cases h0:k=0;subst h0;obtain⟨rfl,rfl⟩:=h.zero;rw[Cx rfl,Cx rfl];refine⟨Tab.Has.cV (t:={ t with empty:=t.empty+1 }) (P9 _),λi q U I=>⟨q,U,I,rfl⟩,rfl,λhl o=>?_⟩;obtain⟨j,rfl,hp⟩:=o.Ct hl;exact Tab.Has.YB (t:={ t with empty:=t.empty+1 }) (λe=>hl (o.2.2.2 e)) hp o.2.1;obtain⟨i,rfl,hp⟩:=h.Ct h0;have O:=(Bq.1 hp).1;rw[Bp h0,Bp h0,(E:((i:Int)+1-1).toNat=i)];refine⟨Tab.Has.YB (t:=t.Kt i ⟨x,n+1⟩) (λe=>h0 (h.2.2.2 e)) (by show(t.AQ.set i _)[i]?=_;rw[sT O]) (P9 _),λj q U I=>?_,rfl,λ{y l m} hl o=>?_⟩;have B:(t.AQ.set i ⟨x,n+1⟩)[j]?=some q:=U;by_cases e:i=j;subst e;rw[sT O] at B;cases B;exact⟨_,hp,h.2.1,rfl⟩;rw[vu e] at B;exact⟨q,B,I,rfl⟩;by_cases J:l=0;subst J;obtain⟨rfl,rfl⟩:=o.zero;exact Tab.Has.cV (t:=t.Kt i ⟨x,n+1⟩) o.2.1;obtain⟨j,rfl,V⟩:=o.Ct J;have X:i≠j:=λe=>hl (by rw[e]);exact Tab.Has.YB (t:=t.Kt i ⟨x,n+1⟩) (λe=>J (o.2.2.2 e)) (by show(t.AQ.set i _)[j]?=_;rw[vu X];exact V) o.2.1
def Tab.ID.Hq{r:List (α×Int)}(B:t.ID z r)(hi:t.Inv G){p:α×Int}(hp:p∈r):(t.Hq z p.2).ID z (p::r):=by
 obtain⟨x,k⟩:=p;have j:=B.LF _ hp;obtain⟨O,Q,V,X⟩:=Tab.gh j;simp only at O Q V X j ⊢;refine⟨λq o=>?_,λi q o I=>?_,?_⟩;rw[Gx];have J:q∈r:=by
  rcases I3.1 o with rfl|o;exact hp;exact o
 have U:=B.LF q J;have hu:=Tab.Has.qV hi j U;by_cases e:k=q.2;have ex:=hu.1 e;rw[Cx ex,<-ex,<-e];exact O;rw[Bp λh'=>e (hu.2 h'),ua];exact X (λe'=>e e'.symm) U;obtain⟨Y,h1,Z,h3⟩:=Q i q o I;obtain⟨p',h4,h5⟩:=B.pl i Y h1 Z;exact⟨p',aN _ h4,by rw[h5,h3]⟩;rw[Gx,V,B.em];by_cases h0:k=0;rw[Cx h0,Cx (j.2.2.1 h0)];rw[Bp h0,Bp λe=>h0 (j.2.2.2 e),ua]
def Tab.ID.su{r:List (α×Int)}(j:t.ID z r):(t.Hq z 0).ID z ((z,0)::r):=by
 have e:t.Hq z 0={ t with empty:=t.empty+1 }:=by unfold Tab.Hq Tab.Lr;simp
 rw[e];refine⟨λq o=>?_,λi q o I=>?_,?_⟩;rw[Gx];rcases I3.1 o with rfl|o;rw[Cx rfl,<-j.em];exact Tab.Has.cV (t:={ t with empty:=t.empty+1 }) (P9 _);have B:=j.LF q o;by_cases h0:q.2=0;have O:=B.2.2.1 h0;rw[h0,O,Cx rfl,<-j.em];exact Tab.Has.cV (t:={ t with empty:=t.empty+1 }) (P9 _);obtain⟨i,Q,hp⟩:=B.Ct h0;have J:q.1≠z:=λe=>h0 (B.2.2.2 e);rw[Bp (yH J),Q];exact Tab.Has.YB (t:={ t with empty:=t.empty+1 }) J hp B.2.1;obtain⟨U,V,X⟩:=j.pl i q o I;exact⟨U,aN _ V,X⟩;show t.empty+1=_;rw[Gx,Cx rfl,j.em]
def Tab.Ac(t:Tab α)(z:α)(f:Int->α)(h:Int->Nat):Prop:=f 0=z/\∃r:List (α×Int),t.ID z r/\(∀p∈r,p.1=f p.2)/\∀id,r.countP (λp=>decide (p.2=id))=h id
def Tab.Ac.mem(o:t.Ac z f h)(h0:0<h id):∃r:List (α×Int),t.ID z r/\(∀p∈r,p.1=f p.2)/\(∀id,r.countP (λp=>decide (p.2=id))=h id)/\(f id,id)∈r:=by
 obtain⟨_,r,h1,i,j⟩:=o;refine⟨r,h1,i,j,?_⟩;rw[<-j] at h0;obtain⟨p,hp,e⟩:=aAZ.1 h0;simp[S9] at e;have:=i p hp;rw[<-e,<-this];exact hp
def Tab.Ac.LF(i:t.Ac z f h)(h0:0<h id):∃n,t.Has z (f id) id n:=by
 obtain⟨r,h1,_,_,j⟩:=i.mem h0;exact⟨_,h1.LF _ j⟩
def Tab.Ac.Lr(i:t.Ac z f h)(h0:0<h id):∃n,t.Lr z id=some ⟨f id,n⟩:=by
 obtain⟨n,h1⟩:=i.LF h0;exact⟨n,h1.1⟩
def Tab.Ac.new(z:α):(Tab.z α).Ac z (λ_=>z) λ_=>0:=⟨rfl,[],Tab.ID.z z,λp hp=>(nomatch hp),I_⟩
def Tab.Ac.congr{h':Int->Nat}(i:t.Ac z f h)(e:∀x,h x=h' x):t.Ac z f h':=by
 obtain⟨h0,r,h1,j,o⟩:=i;exact⟨h0,r,h1,j,λx=>(o x).trans (e x)⟩
def Tab.Ac.Hq(o:t.Ac z f h)(hi:t.Inv G)(h0:0<h id\/id=0):(t.Hq z id).Ac z f λx=>h x+if x=id then 1 else 0:=by
 have I:=o.1;obtain⟨r,i,j,B⟩:∃r:List (α×Int),(∀p∈r,p.1=f p.2)/\(∀id,r.countP (λp=>decide (p.2=id))=h id)/\(t.Hq z id).ID z ((f id,id)::r):=by
  rcases h0 with h0|rfl;obtain⟨r,h1,i,j,B⟩:=o.mem h0;exact⟨r,i,j,h1.Hq hi B⟩;obtain⟨_,r,h1,i,j⟩:=o;exact⟨r,i,j,by rw[I];exact h1.su⟩
 refine⟨I,(f id,id)::r,B,λp hp=>?_,λx=>?_⟩;rcases I3.1 hp with rfl|hp;rfl;exact i p hp;rw[zR,j];by_cases e:x=id;subst e;simp;simp[e,yH e]
def Tab.Ac.free(j:t.Ac z f h)(hi:t.Inv G)(B:∀s,G s->s≠z)(h0:0<h id):(t.Dk z id).Ac z f λx=>h x-if x=id then 1 else 0:=by
 obtain⟨r,h1,I,J,O⟩:=j.mem h0;have hp:=List.perm_cons_erase O;refine⟨j.1,r.erase (f id,id),(h1.Ix hp).sQ hi B,λp i=>I p (List.mem_of_mem_erase i),λx=>?_⟩;have o:=J x;rw[hp.countP_eq,zR] at o;show _=h x-_;rw[<-o];by_cases e:x=id;subst e;simp;simp[e,yH e]
def Tab.Ac.WH(O:t.Ac z f h)(hi:t.Inv G)(ha:t.Oq z s id t')(Q:s≠z->G s):∃j:Int->α,t'.Ac z j (λx=>h x+if x=id then 1 else 0)/\j id=s/\(∀x,0<h x->j x=f x):=by
 obtain⟨o,r,h1,B,I⟩:=O;have i:=h1.WH ha hi Q;have key:∀p∈r,p.2=id->p.1=s:=by
  intro p hp e;have a:=i.LF p (oJ _ hp);rw[e] at a;have:=a.1.symm.trans (i.LF (s,id) (py _ (so.2 rfl))).1;cases this;rfl
 refine⟨λx=>if x=id then s else f x,⟨?_,r++[(s,id)],i,λp hp=>?_,λx=>?_⟩,D_,λx J=>?_⟩;show(if(0:Int)=id then s else f 0)=z;split;rename_i e;exact(i.LF (s,id) (py _ (so.2 rfl))).2.2.1 e.symm;exact o;rcases DN.1 hp with hp|hp;by_cases e:p.2=id;rw[key p hp e];simp[e];simp[e,B p hp];rw[so] at hp;subst hp;simp;rw[zh,I];by_cases e:x=id;subst e;simp;simp[e,yH e];by_cases e:x=id;subst e;rw[<-I] at J;obtain⟨p,hp,e⟩:=aAZ.1 J;simp[S9] at e;simp;rw[<-key p hp e,B p hp,e];simp[e]
end
end Go.Proofs.YtlmjclmngedmkaaGreatDoor
