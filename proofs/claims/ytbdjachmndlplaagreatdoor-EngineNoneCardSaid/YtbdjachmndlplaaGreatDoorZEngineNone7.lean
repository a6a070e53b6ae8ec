/- parts of the proof, written short by a program of ours -/
import Derived.Test.YtbdjachmndlplaaGreatDoorZEngineNone6
set_option maxRecDepth 100000
set_option linter.unusedSimpArgs false
set_option linter.unusedVariables false
set_option linter.defProp false
namespace Go.Proofs.YtbdjachmndlplaaGreatDoor
open Go Proofs.Tryz
variable {B N E:Nat}{w W:World}{F S C M:Nat->Prop}{v sv fr:Value}{most:Int}{α:Type}{d:List Attr}{rs:List Int}{ks:List DKey}{P:Program}
abbrev Gl:Nat->Prop:=λ_=>False
abbrev Ei:World->List Value->Spn->Prop:=λ_ r x=>r=Spn.cells x
abbrev FG(l:List Spn):Nat:=Tr.sz Spn.kd.μ l
def kL(l:List Spn):Tr.mk Spn.kd.μ l=0:=by
 induction l with
 |nil=>rfl
 |cons x l i=>rw[Tr.Cw,i];rfl
def cP{l:List Spn}(h:FG l<=1099511627776):EB DW.toAvT l:=⟨h,by show Tr.mk Spn.kd.μ l<=_;rw[kL];omega⟩
def Ed(l:List Spn):FG l=(l.flatMap Spn.u).length:=Spn.EE.sz l
def WS(l:List Spn)(i j:Nat):(Spn.kd.over l i j).length<=l.length:=by
 induction l generalizing i j with
 |nil=>exact K8 _
 |cons x l m=>
  simp only[Kd.over,BW,gD];have:=m (i-(Spn.kd.μ x).1) (j-(Spn.kd.μ x).1);split<;>simp<;>omega
def Lo{b bt N i j:Nat}{l:List Spn}(h:Dk DW.toAvT F Gl W b bt l N)(hN:N<=109951162000)(Q:i<=j)(U:j<=FG l)(V:FG l<=1099511627776)(hl:l.length<=109951162777) :
  AB prog 79 [.pointer (some ⟨b,0,none⟩),zI (i:Int),zI (j:Int)] (λv' w'=>∃rv,v'=.tuple #[rv,zI 0]/\AE W.heap.size 128 2 Ei w' rv (Spn.kd.over l i j)/\Grow W w') W:=by
 refine uS3 (dB 2138713 [] []) func79 (λ_ _ _ _ _=>⟨by conv=>lhs;reduce,by dsimp only[PI,AF],by kernel_rfl⟩) ?_;unfold uI;refine AA (Jp JI h) ?_;rintro _ Y ⟨rfl,q⟩;have hb:Q7 (i:Int) (j:Int) ((Tr.sz DW.k.μ l:Nat):Int)=0:=by
  have:j<=Tr.sz DW.k.μ l:=U;unfold Q7;rw[Bp (by omega),Bp (by omega),Bp (by omega)]
 rw[hb,BL];refine AW (λ_=>?_) λe=>(e rfl).elim;refine AA (ES JI (h.grow q)) ?_;rintro _ _ ⟨rfl,rfl⟩;rename World=>Y
 obtain⟨A,T,h1,Z,h3,rfl,h5⟩:=(h.grow q).EI;refine AA (TX (g:=DW) h1 (by omega) Z h3 (cP V) (by omega) (by omega)) ?_;rintro _ w3 ⟨cap,vals,Rd,rfl,J,B,I,JY,o⟩;have ho:=WS T.toL i j;refine AA (O4 (X:=Spn.kd.over T.toL i j) o (by kernel_rfl) B (λm q1 q2=>?_) (λx hx=>(JY x hx).2) (by omega)) ?_
 .obtain⟨r,e1,e2⟩:=I m q1 q2;rw[e1,UJ];have e3:r=Spn.cells (Spn.kd.over T.toL i j)[m]:=e2;rw[e3]
 rintro rv w4 ⟨O,g4⟩;have s1:=q.size;have s3:=J.size;exact⟨rv,rfl,AE.base O λg hg=>by have:=(AE.Aj O g hg).1;omega,(q.trans J).trans g4⟩
def cL{L:List Spn}(J:An S 2 Ei W v L)(q:∀s∈L,0<=s.id)(hl:L.length<=109951162777) :
  AB prog 348 [v,.func (.func 349) #[] #[]] (λv' w'=>v'=.bool false/\Grow W w') W:=by
 refine uS2 (dB 9 [] []) func348 (λ_ _ _ _=>⟨by conv=>lhs;reduce,by dsimp only[PI,AF],by kernel_rfl⟩) ?_;unfold uI;have key:AB prog 385 [v,.func (.func 349) #[] #[]] (λv' w'=>v'=zI (-1)/\Grow W w') W:=by
  refine uS2 (dB 35271513315417 [([8],[(4,5),(8,18)])] []) func385 (λ_ _ _ _=>⟨by conv=>lhs;reduce,by dsimp only[PI,AF],by kernel_rfl⟩) ?_;unfold uI;obtain⟨a,c,rfl,hm⟩:=J.shape;have I:=J.Gw (by decide);rw[AO];refine AU (λvs W'=>∃i:Nat,i<=L.length/\vs=[zI i]/\Grow W W') (λvs _=>L.length-Dh vs 0) ⟨0,Nn _,rfl,Mod.refl _ _⟩ ?_;rintro vs V ⟨i,hi,rfl,o⟩ _;simp only[BQ,Nr];rw[Ai];refine AD (λO=>?_) λQ=>⟨trivial,o⟩;have m:i<L.length:=by omega
  obtain⟨p,r,rfl,_,hr,hc,rfl⟩:=I.get m;refine AS m (AV (vs:=L[i].cells) rfl (λj u hu=>by rw[Addr.add_add];exact o.cell (hc j u hu) λh=>h) ?_);refine Ek (by kernel_rfl) ?_;refine uS1 (dB 9 [] []) func349 (λ_ _ _=>⟨by conv=>lhs;reduce,by dsimp only[PI,AF],by kernel_rfl⟩) ?_;unfold uI;refine Bx.box λb w2 hb U B=>?_;refine Az (B.cells 0 _ rfl) ?_;rw[Ai];refine AD (λe=>by omega) λ_=>?_;refine Az (B.cells 1 _ rfl) ?_;rw[Ai];have:=q L[i] (ku m);refine AD (λe=>by omega) λ_=>?_;rw[AM,AK (by omega)];exact⟨⟨i+1,m,rfl,o.trans U⟩,by rw[Bw,Bw];omega⟩
 refine AA key ?_;rintro _ X ⟨rfl,o⟩;rw[Cu];exact⟨rfl,o⟩
def Tv{l L:List Spn}{i j:Nat}(h:FG l+FG L<=1099511627776)(q:i<=j)(U:j<=FG l):FG (Spn.kd.Bl l i j L)+(j-i)=FG l+FG L/\FG ((Spn.kd.split l i).1.getLast?.toList++L++(Spn.kd.split (Spn.kd.split l i).2 (j-i)).2.head?.toList)<=FG l+FG L:=by
 have e:=Spn.EE.Bl l L q;have B:=lV List.length e;rw[<-Ed,BW,BW,Lc,Hy,<-Ed,<-Ed] at B;refine⟨by omega,?_⟩;have I:=FF (g:=DW.toAvT) l i;have J:=FF (g:=DW.toAvT) (Spn.kd.split l i).2 (j-i);have O:∀m:List Spn,FG m.getLast?.toList<=FG m:=λm=>by
  rcases lS m with rfl|⟨o,y,rfl⟩
  .exact K8 _
  .simp[FG,Tr.sz]
 have Q:∀m:List Spn,FG m.head?.toList<=FG m:=λm=>by
  cases m with
  |nil=>exact K8 _
  |cons y m=>simp[FG,Tr.sz]
 have h1:=O (Spn.kd.split l i).1;have V:=Q (Spn.kd.split (Spn.kd.split l i).2 (j-i)).2;unfold FG at *;rw[Tr.CI,Tr.CI];have X:Tr.sz Spn.kd.μ (Spn.kd.split l i).1+Tr.sz Spn.kd.μ (Spn.kd.split l i).2=Tr.sz Spn.kd.μ l:=I.1;have Y:Tr.sz Spn.kd.μ (Spn.kd.split (Spn.kd.split l i).2 (j-i)).1+Tr.sz Spn.kd.μ (Spn.kd.split (Spn.kd.split l i).2 (j-i)).2=Tr.sz Spn.kd.μ (Spn.kd.split l i).2:=J.1;omega
def UP{b bt N i j:Nat}{l L:List Spn}(h:Dk DW.toAvT F Gl W b bt l N)(hN:N+L.length<=109951162000)(q:i<=j)(X:j<=FG l)(hs:FG l+FG L<=536870912)(J:An S 2 Ei W v L)(hS:∀x,S x->¬F x)(O:∀s∈L,0<=s.id) :
  AB prog 285 [.pointer (some ⟨b,0,none⟩),zI (i:Int),zI (j:Int),v] (λv' w'=>v'=zI 0/\∃F',(∀x,F x->F' x)/\(∀x,F' x->F x\/W.heap.size<=x)/\Dk DW.toAvT F' Gl w' b bt (Spn.kd.Bl l i j L) (N+L.length+4)/\Mod F W w') W:=by
 refine uS4 (dB 5705999683207542206340700836953 [([10,33],[(8,8),(10,10),(12,12),(33,45)])] []) func285 (λ_ _ _ _ _ _=>⟨by conv=>lhs;reduce,by dsimp only[PI,AF],by kernel_rfl⟩) ?_;unfold uI;refine CY (AL ?_);refine AA (cL J O (by omega)) ?_;rintro _ w1 ⟨rfl,Y⟩;refine AL ?_;have h1:=h.grow Y;refine AA (Jp JI h1) ?_;rintro _ w2 ⟨rfl,Z⟩;have hb:Q7 (i:Int) (j:Int) ((Tr.sz DW.k.μ l:Nat):Int)=0:=by
  have:j<=Tr.sz DW.k.μ l:=X;unfold Q7;rw[Bp (by omega),Bp (by omega),Bp (by omega)]
 rw[hb,BL];refine AW (λ_=>?_) λe=>(e rfl).elim;refine AA (Mz JI (h1.grow Z)) ?_;rintro _ w3 ⟨rfl,g3⟩;have Iz:Tr.sz DW.k.μ l=FG l:=rfl;rw[Iz,Am,wrap64 (by omega) (by omega),AM,wrap64 (by omega) (by omega),Am,wrap64 (by omega) (by omega)];obtain⟨a,c,rfl,hm⟩:=J.shape;have Q:=J.Gw (by decide);rw[AO];have U:=(Y.trans Z).trans g3;refine AU (λvs W'=>∃k:Nat,k<=L.length/\vs=[zI ((536870912:Int)-FG l+j-i-FG (L.take k)),zI k]/\Grow W W') (λvs _=>L.length-Dh vs 1) ⟨0,Nn _,by simp[FG,Tr.sz],U⟩ ?_;rintro vs W1 ⟨k,hk,rfl,o⟩ _;simp only[FC];refine G9 (λa1=>?_) λa6=>?_
 .have m:k<L.length:=by omega
  have V:L.take (k+1)=L.take k++[L[k]]:=by rw[S5];simp[m]
  have a7:FG L=FG (L.take (k+1))+FG (L.drop (k+1)):=by unfold FG;rw[<-Tr.CI,TC]
  have I:FG (L.take (k+1))=FG (L.take k)+L[k].n:=by rw[V];unfold FG;rw[Tr.CI];simp[Tr.sz,Spn.kd]
  obtain⟨p,r,rfl,_,hr,hc,rfl⟩:=Q.get m;refine AS m (AV (vs:=L[k].cells) rfl (λj u hu=>by rw[Addr.add_add];exact o.cell (hc j u hu) λh=>h) ?_);refine Bx.new (vs:=L[k].cells) rfl rfl (Spn.one _) λa8 w7 hb g7 B=>?_;refine Az (B.cells 0 _ rfl) ?_;rw[BE];refine AD (λe=>by omega) λ_=>?_;refine Az (B.cells 0 _ rfl) ?_;rw[Am,wrap64 (by omega) (by omega),AM,AK (by omega)];refine⟨⟨k+1,m,?_,o.trans g7⟩,by rw[Ar,Ar];omega⟩;rw[I];congr 2
  omega
 .have hW:=h.grow o;refine AA (ES JI hW) ?_;rintro _ _ ⟨rfl,rfl⟩;rename World=>W1
  obtain⟨q1,q2⟩:=Tv (l:=l) (L:=L) (i:=i) (j:=j) (by omega) q X;refine AA (JF (ZB (g:=DW)) hW (by omega) (J.mod o (λ_ _ _ h=>h) (by decide) λ_ _ h=>h) hS q (by omega) (cP (by omega)) (cP (l:=Spn.kd.Bl l i j L) (by omega)) (cP (l:=(Spn.kd.split l i).1.getLast?.toList++L++(Spn.kd.split (Spn.kd.split l i).2 (j-i)).2.head?.toList) (by omega))) ?_;rintro _ ak ⟨F',k1,k2,k3,k4⟩;have:=o.size;exact⟨trivial,F',k1,λx hx=>(k2 x hx).imp (λh=>h) λh=>by omega,k3,(o.mono λ_ _ h=>h.elim).trans k4⟩
def Ng{l:List Ck}(h:(BR l).length<=1099511627776):EB Ap.toAvT l:=⟨by show Tr.sz Ck.kd.μ l<=_;rw[Gn];exact h,by show Tr.mk Ck.kd.μ l<=_;rw[PZ];exact lx (DL _) h⟩
def Jc{i j:Nat}{n:Nat}(m:i<=j)(o:j<=n):Q7 (i:Int) (j:Int) (n:Int)=0:=by
 unfold Q7;rw[Bp (by omega),Bp (by omega),Bp (by omega)]
section
variable {F:Nat->Prop}{W:World}{b bt N:Nat}{l:List Ck}
def Yf(h:Dk Ap.toAvT F Gl W b bt l N):AB prog 76 [.pointer (some ⟨b,0,none⟩)] (λv' w'=>v'=zI ((BR l).length:Int)/\Grow W w') W:=by
 refine AA (Mz En h) ?_;rintro _ w ⟨rfl,g⟩;refine⟨?_,g⟩;rw[show Tr.sz Ap.toAvT.k.μ l=(BR l).length from Gn l]
def Qe(h:Dk Ap.toAvT F Gl W b bt l N):AB prog 77 [.pointer (some ⟨b,0,none⟩)] (λv' w'=>v'=zI (BJ (BR l):Int)/\Grow W w') W:=by
 refine uS1 (dB 267353 [] []) func77 (λ_ _ _=>⟨by conv=>lhs;reduce,by dsimp only[PI,AF],by kernel_rfl⟩) ?_;unfold uI;refine CY (AL ?_);refine AA (ES En h) ?_;rintro _ _ ⟨rfl,rfl⟩;rename World=>W
 obtain⟨A,T,h1,i,o,rfl,q⟩:=h.EI;apply Rj;unfold Ww;refine AG ?_;obtain⟨c,pl,fr,j⟩:=id h1;refine Az (j.box.cells 4 _ rfl) ?_;refine AA (Bo h1 i) ?_;rintro _ B ⟨rfl,m⟩;refine Ae (vs:=[_,_,_]) (by rfl) (Ae (vs:=[_,_,_]) (by rfl) (Ae (vs:=[_,_,_]) (by rfl) ⟨?_,m⟩));rw[show Tr.mk Ap.toAvT.k.μ T.toL=BJ (BR T.toL) from PZ _]
def Kc{i:Nat}(h:Dk Ap.toAvT F Gl W b bt l N)(hi:i<=(BR l).length)(m:(BR l).length<=1099511627776) :
  AB prog 62 [.pointer (some ⟨b,0,none⟩),zI (i:Int)] (λv' w'=>v'=.tuple #[zI (BJ ((BR l).take i):Int),zI 0]/\Grow W w') W:=by
 refine uS2 (dB 2138713 [] []) func62 (λ_ _ _ _=>⟨by conv=>lhs;reduce,by dsimp only[PI,AF],by kernel_rfl⟩) ?_;unfold uI;refine AA (Jp En h) ?_;rintro _ o ⟨rfl,j⟩;rw[show Tr.sz Ap.toAvT.k.μ l=(BR l).length from Gn l,Jc (K8 _) hi,BL];refine AW (λ_=>?_) λe=>(e rfl).elim;refine AA (ES En (h.grow j)) ?_;rintro _ _ ⟨rfl,rfl⟩;rename World=>o
 obtain⟨A,T,h1,q,I,rfl,J⟩:=(h.grow j).EI;refine AA (RS h1 q (by omega) (Ng m)) ?_;rintro _ w2 ⟨rfl,B⟩;exact⟨rfl,j.trans B⟩
def La(rs:List Int)(k:Nat):Value:=if BJ rs<k then .tuple #[.int .i64 0,.int .i64 5] else if k=0 then .tuple #[.int .i64 0,.int .i64 0] else match G5 rs (k-1) with
 |some p=>.tuple #[.int .i64 ((p+1:Nat):Int),.int .i64 0]
 |none=>undef
def LN{k:Nat}(h:Dk Ap.toAvT F Gl W b bt l N)(j:(BR l).length<=1099511627776) :
  AB prog 63 [.pointer (some ⟨b,0,none⟩),zI (k:Int)] (λv' w'=>v'=La (BR l) k/\Grow W w') W:=by
 refine uS2 (dB 39669415024233 [([],[(4,5),(8,22)])] []) func63 (λ_ _ _ _=>⟨by conv=>lhs;reduce,by dsimp only[PI,AF],by kernel_rfl⟩) ?_;unfold uI;have O:=DL (BR l);refine AR (λ_ W'=>Grow W W'/\0<k/\k<=BJ (BR l)) ?_ ?_
 .rintro _ m ⟨i,o,hk⟩ _;refine AA (ES En (h.grow i)) ?_;rintro _ _ ⟨rfl,rfl⟩;rename World=>m
  obtain⟨k,rfl⟩:∃q,k=q+1:=⟨k-1,by omega⟩;obtain⟨p,hp,B⟩:=Lj (l:=BR l) (k:=k) (by omega);obtain⟨A,T,h1,I,Q,rfl,U⟩:=(h.grow i).EI;rw[Am,wrap64 (by omega) (by omega),show(((k+1:Nat):Int)-1)=(k:Int) by omega];refine AA (bh h1 I (by omega) (Ng j) hp) ?_;rintro _ w2 ⟨rfl,J⟩;refine BI ?_;rw[AM,wrap64 (by omega) (by omega)];refine⟨?_,i.trans J⟩;unfold La;rw[Bp (by omega),Bp (by omega),ph,hp];rfl
 .refine CY (AL ?_);rw[Ai];refine AD (λe=>by omega) λ_=>?_;refine AA (Qe h) ?_;rintro _ V ⟨rfl,i⟩;rw[BE];refine AD (λe=>⟨by unfold La;rw[DN (by omega)],i⟩) λe=>?_;rw[Aa];refine AD (λe0=>⟨by unfold La;rw[Bp (by omega),DN (by omega)],i⟩) λe0=>?_;exact⟨i,by omega,by omega⟩
def Ym(l:List Ck)(i j:Nat):BR (Ck.kd.over l i j)=((BR l).take j).drop i:=HB.over l i j
def Pu(t l:List Ck){i j:Nat}(m:i<=j):BR (Ck.kd.Bl t i j l)=(BR t).take i++BR l++(BR t).drop j:=HB.Bl t l m
def N0(l L:List Ck)(i j:Nat):(BR ((Ck.kd.split l i).1.getLast?.toList++L++(Ck.kd.split (Ck.kd.split l i).2 (j-i)).2.head?.toList)).length<=(BR l).length+(BR L).length:=by
 have q:=lV List.length (HB.split l i).1;have B:=lV List.length (HB.split l i).2;have a3:=lV List.length (HB.split (Ck.kd.split l i).2 (j-i)).2;have I:∀m:List Ck,(BR m.getLast?.toList).length<=(BR m).length:=λm=>by
  rcases lS m with rfl|⟨o,y,rfl⟩
  .exact K8 _
  .simp[BR]
 have J:∀m:List Ck,(BR m.head?.toList).length<=(BR m).length:=λm=>by
  cases m with
  |nil=>exact K8 _
  |cons y m=>simp[BR]
 have h1:=I (Ck.kd.split l i).1;have O:=J (Ck.kd.split (Ck.kd.split l i).2 (j-i)).2;have e:∀a b c:List Ck,(BR (a++b++c)).length=(BR a).length+(BR b).length+(BR c).length:=λa b c=>by simp[BR];omega
 rw[e];rw[Lc] at q;rw[Hy] at B a3;show(BR _).length+_+(BR _).length<=_;unfold BR at *;omega
def Uf{i j:Nat}(h:Dk Ap.toAvT F Gl W b bt l N)(Z:N<=109951162000)(m:i<=j)(J:j<=(BR l).length)(O:(BR l).length<=1099511627776) :
  AB prog 204 [.pointer (some ⟨b,0,none⟩),zI (i:Int),zI (j:Int)] (λv' w'=>v'=zI 0/\∃F' q,(∀x,F x->F' x)/\(∀x,F' x->F x\/W.heap.size<=x)/\Dk Ap.toAvT F' Gl w' b bt q (N+4)/\BR q=(BR l).take i++(BR l).drop j/\Mod F W w') W:=by
 refine uS3 (dB 18915929 [] []) func204 (λ_ _ _ _ _=>⟨by conv=>lhs;reduce,by dsimp only[PI,AF],by kernel_rfl⟩) ?_;unfold uI;refine AA (Jp En h) ?_;rintro _ Q ⟨rfl,o⟩;rw[show Tr.sz Ap.toAvT.k.μ l=(BR l).length from Gn l,Jc m J,BL];refine AW (λ_=>?_) λe=>(e rfl).elim;have B:=h.grow o;refine AA (ES En B) ?_;rintro _ _ ⟨rfl,rfl⟩;rename World=>Q
 have I:=Pu l [] m;have ep:=N0 l [] i j;have e0:(BR []).length=0:=rfl;refine AA (JF (ZB (g:=Ap)) (L:=[]) (S:=λ_=>False) B (by simp only[lX];omega) An.nil (λ_ h=>h.elim) m (by omega) (Ng O) (Ng (l:=Ck.kd.Bl l i j []) (by rw[I];simp[BR] at *;omega)) (Ng (l:=(Ck.kd.split l i).1.getLast?.toList++[]++(Ck.kd.split (Ck.kd.split l i).2 (j-i)).2.head?.toList) (by omega))) ?_;rintro _ U ⟨F',k1,k2,V,X⟩;have:=o.size;refine⟨rfl,F',_,k1,λx Y=>(k2 x Y).imp (λh=>h) λh=>by omega,V,?_,(o.mono λ_ _ h=>h.elim).trans X⟩;show BR (Ck.kd.Bl l i j [])=_;rw[I];simp[BR]
def WB{i j:Nat}(h:Dk Ap.toAvT F Gl W b bt l N)(hN:N<=109951162000)(ax:i<=j)(hj:j<=(BR l).length)(hs:(BR l).length<=1099511627776)(hl:l.length<=109951162777) :
  AB prog 78 [.pointer (some ⟨b,0,none⟩),zI (i:Int),zI (j:Int)] (λv' w'=>∃rv,v'=.tuple #[rv,zI 0]/\AE W.heap.size 21 1 Be w' rv (((BR l).take j).drop i)/\Grow W w') W:=by
 apply fC;unfold S78;refine Bx.zero λc w1 hc g1 B=>?_;have b8:=B.lt (by decide);have h1:=h.grow g1;have h0:=h;refine AA (Jp En h1) ?_;rintro _ w2 ⟨rfl,g2⟩;rw[show Tr.sz Ap.toAvT.k.μ l=(BR l).length from Gn l,Jc ax hj,BL];refine AW (λ_=>?_) λe=>(e rfl).elim;have hW:=h1.grow g2;refine AA (ES En hW) ?_;rintro _ _ ⟨rfl,rfl⟩;rename World=>w2
 obtain⟨A,T,t1,t2,t3,rfl,t5⟩:=hW.EI;refine AA (TX (g:=Ap) t1 (by omega) t2 t3 (Ng hs) (by omega) (by omega)) ?_;rintro _ O ⟨cap,vals,Rd,rfl,g6,ay,aZ,JY,a7⟩;generalize hX:Ck.kd.over T.toL i j=X at *;have b0:vals.length=X.length:=by rw[<-hX];exact ay
 have a8:BR X=((BR T.toL).take j).drop i:=by rw[<-hX];exact Ym _ _ _
 have Q:∀m (h1:m<vals.length) (h2:m<X.length),vals[m]=.agg X[m].cells.toArray:=λm q1 q2=>by
  subst hX;obtain⟨r,e1,e2⟩:=aZ m q1 q2;rw[e1,UJ];have e3:r=Ck.cells (Ck.kd.over T.toL i j)[m]:=e2;rw[e3]
 have bb:(BR X).length<=1099511627776:=by rw[a8,Hy,Lc];omega
 have z1:=g1.size;have z2:=g2.size;have z6:=g6.size;have B6:=(B.grow g2).grow g6;refine Jh ⟨True,_,cap,_,_,_,rfl,by kernel_rfl,a7,λk _=>rfl,?_⟩;refine⟨λk U W'=>∃out,Yi 21 1 Be O.heap.size c O.heap.size U W' out (BR (X.take k))/\Mod (λx=>x=c) O W'/\k<=X.length,λ_ _ _=>False,⟨_,⟨B6,AE.nil,λg o=>nomatch o⟩,Mod.refl _ _,Nn _⟩,?_,λx U b1 W W' h=>h.elim,?_,?_,?_,λx U W h=>h.elim⟩
 .rintro k U b1 W' bc ⟨out,q,m,hk⟩ hm I;have hn:∀x,x<O.heap.size->¬((¬True/\U x)\/x=O.heap.size\/x=O.heap.size+1):=λx Q=>by rintro(⟨h,_⟩|h|h);exact h trivial;all_goals omega
  refine⟨out,⟨q.box.mod hm (hn c (by omega)),AE.mod q.row hm (λg o=>?_) λ_ _ _ h=>h,λg o=>?_⟩,m.next hm λx Q=>?_,hk⟩
  .obtain⟨_,h2,h3,_⟩:=q.hc g o;rintro(⟨h,_⟩|h|h)
   .exact h trivial
   .exact h2 h
   .exact h3 h
  .obtain⟨h1,h2,h3,h4⟩:=q.hc g o;refine⟨h1,h2,h3,λh=>?_⟩;rcases(I g h).1 with h|h
   .exact h4 h
   .have:=(AE.Aj q.row g o).2;omega
  .intro e;exact absurd e (hn x Q)
 .rintro k U W' ⟨out,q,m,hk⟩ b hb hr;exact m.same b hb λe=>by
   subst e;rcases(JY b hr).1 with h|h|h
   .have:=h0.lt b (.inl h.1);omega
   .exact h.elim
   .omega
 .rintro k U W' hk ⟨out,q,m,bd⟩ hz I;have V:k<X.length:=by omega
  have Y:(nth [vals.getD k undef] 0)=.agg X[k].cells.toArray:=by
   show vals.getD k undef=_;rw[mP,Bq hk,pQ,Q k hk V]
  rw[Y];have b2:X.take (k+1)=X.take k++[X[k]]:=by rw[S5];simp[V]
  have ak:BR (X.take (k+1))=BR (X.take k)++X[k].l:=by rw[b2];simp only[BR,mf,mE,oq,lA]
  have b9:(BR (X.take k)).length+X[k].l.length<=(BR X).length:=by
   have e:BR X=BR (X.take (k+1))++BR (X.drop (k+1)):=by rw[BR,BR,BR,<-mf,TC]
   rw[e,ak,BW,BW];omega
  refine Bx.new (vs:=X[k].cells) (Ck.len _) rfl (Ck.one _) λb5 W5 bk g5 B5=>?_;refine Kn g5 hz I (λ_ _ h=>h.elim) λW6 J=>?_;have z5:=g5.size;have bl:=J.size;have ba:=q.box.lt (QC _);have b6:=B5.lt (by rw[Ck.len];omega);have C6:=(q.box.grow g5).mod J (by omega);have b7:=B5.mod J (by omega);have o6:AE O.heap.size 21 1 Be W6 out (BR (X.take k)):=AE.mod (AE.mod (R':=Be) q.row g5 (λ_ _ h=>h) λ_ _ _ h=>h) J (λg o=>(q.hc g o).2.2.1) λ_ _ _ h=>h;have gd:Grow W6 W6.drew:=Mod.drew _ _;have zd:=gd.size;have Cd:=C6.grow gd;have Bd:=b7.grow gd;refine AT (λk y=>(k=3/\out.ownBlock=some y)\/(k=4/\y=c)) ?_;refine AP ⟨Cd.cells 0 _ rfl,λj hj e=>?_⟩ ?_
  .have al:j∈[2]:=hj;simp only[S6] at al;subst al;rcases e with e|e
   .exact absurd e.1 (by decide)
   .exact absurd e.1 (by decide)
  refine CG (Ck.len _) (λj u hu=>⟨by rw[AI];exact Bd.cells j u hu,λj hj=>(l9 (show j∈[] from hj)).elim⟩) ?_;refine AA (Y7 X[k]) ?_;rintro xv W7 ⟨ox,g7⟩;refine⟨g7.mono λ_ _ h=>h.elim,?_⟩;have z7:=g7.size;have o7:AE O.heap.size 21 1 Be W7 out (BR (X.take k)):=AE.mod (AE.mod (R':=Be) o6 gd (λ_ _ h=>h) λ_ _ _ h=>h) g7 (λ_ _ h=>h) λ_ _ _ h=>h;obtain⟨an,W8,r1,o8,r3,n8⟩:=AE.append (P:=prog) (ty:=79) Is o7 (AE.sl ox) (λ_ _=>Be.one) (by omega) (by omega) (by simp only[maxLen];omega) λ_ _ _ _ h=>h;refine AX r1 ?_;have m8:=Mod.of_grownBy r3;have z8:=m8.size;refine⟨m8.mono λ_ _ e=>.inl ⟨rfl,e⟩,?_⟩;have C8:=((Cd.grow g7).mod m8 λe=>(q.hc c e).1 rfl);obtain⟨Z,a1⟩:=o8.one;refine C8.st (q:=0) (show 0<1 by decide) Z a1 λW9 C9 m9=>⟨m9.mono λ_ _ e=>.inr ⟨rfl,e⟩,?_⟩;have z9:=m9.size;have av:Mod (λx=>x=c\/out.ownBlock=some x) W6 W9:=(((gd.trans g7).mono λ_ _ h=>h.elim).trans (m8.mono λ_ _ e=>.inr e)).trans (m9.mono λ_ _ e=>.inl e);refine⟨N9 av (by omega) (λb hb=>by have:=(I b hb).1;omega) (λb _ e=>?_),an,⟨C9,?_,λg o=>?_⟩,?_,by omega⟩
  .rcases e with rfl|e
   .exact⟨λh=>by have:=(I b h).2;omega,by omega,by omega⟩
   .obtain⟨h1,h2,h3,h4⟩:=q.hc b e;exact⟨h4,h2,h3⟩
  .rw [ak];exact AE.mod o8 m9 (λg o e=>by
    rcases n8 g o with h|h
    .exact(q.hc g h).1 e
    .omega) λ_ _ _ h=>h
  .rcases n8 g o with h|h
   .exact q.hc g h
   .refine⟨by omega,by omega,by omega,λhI=>by have:=(I g hI).1;omega⟩
  .refine((m.next g5 λ_ _ h=>h.elim).next J λx Q e=>by omega).next av λx Q e=>?_;rcases e with e|e
   .exact e
   .have:=(AE.Aj q.row x e).1;omega
 .rintro U W' ⟨out,q,m,hk⟩ _ hz hd;refine AJ (q.box.cells 0 _ rfl) ?_;obtain⟨Z,a1⟩:=q.row.one;refine q.box.st (q:=0) (show 0<1 by decide) Z a1 λW1 C1 m1=>?_;refine⟨?_,?_⟩
  .rw[m1.same _ (by omega) (by omega)];exact hd
  have a6:Mod (λb=>b=O.heap.size) W1 (W1.putObj O.heap.size (.deferred none)):=Mod.putObj _ _ _ rfl;have C2:=C1.mod a6 (by omega);refine AJ (C2.cells 0 _ rfl) ⟨_,rfl,?_,?_⟩
  .rw[b0,S7,a8] at q;refine AE.base (AE.mod (AE.mod (R':=Be) q.row m1 (λg o=>(q.hc g o).1) λ_ _ _ h=>h) a6 (λg o=>(q.hc g o).2.1) λ_ _ _ h=>h) λg o=>?_;have:=(AE.Aj q.row g o).1;omega
  .exact((((g1.trans g2).trans g6).next m λx Q e=>by omega).next m1 λx Q e=>by omega).next a6 λx Q e=>by omega
end
def Rz{t e k:Nat}{i:TypeInfo}{a:Option Addr}{n c l h m:Nat}(ht:P.underlying t=some (.slice e))(hi:P.info? e=some i)(hk:i.size=k)(h1:l<=h)(o:h<=m)(q:m<=c)(w:World) :
  (Instr.sliceAt t (.slice a n c) (some (zI l)) (some (zI h)) (some (zI m))).run P w=.ok (sliced a l h m k) w:=by
 have j:P.elem t=e:=by simp[Program.elem,ht]
 rw[nS _ _ _ _ _ _ (by rw[j];exact ht),run_slice_lhm _ _ _ _ _ (by rw[j];exact ht) _ _ _ _ _ _ (by omega) (by omega) (by omega) (by omega),j];simp[sizeOf,typeInfo,hi,hk]
def jm(i:Value)(k:Nat):Value:=match i with
 |.slice a n _=>sliced a (32*k) (min (32*k+32) n) (min (32*k+32) n) 1
 |_=>undef
def fy{o:Value}{l:List Int}{k:Nat}(h:An S 1 Be W o l)(hk:32*k<l.length):An S 1 Be W (jm o k) ((l.drop (32*k)).take 32):=by
 obtain⟨a,c,rfl,h1,J,q⟩:=h;have i:((l.drop (32*k)).take 32).length=min (32*k+32) l.length-32*k:=by rw[Lc,Hy];omega
 refine⟨_,_,by rw[i];rfl,by rw[i];omega,by omega,λm x j=>?_⟩;rw[mT] at j;split at j
 .rw[mM] at j;obtain⟨p,r,rfl,B,hr,hc,I⟩:=q _ x j;rw[Bp (by omega)];refine⟨p.add (32*k*1),r,rfl,by rw[Ac];exact B,hr,λy u hu=>?_,I⟩;rw[Addr.add_add,<-mo,<-mC];exact hc y u hu
 .cases j
def aY{B:Value}{l:List Int}(h1:Bx W N [B])(I:Bx W E [zI 32])(ho:An S 1 Be W B l)(hl:l.length<=1099511627776) :
  Lb True prog 336 [.pointer (some ⟨N,0,none⟩),.pointer (some ⟨E,0,none⟩)] (λk=>[jm B k]) ((l.length+31)/32) (λb=>b=N\/b=E) W:=by
 intro yl J Jx w1 hg h0 O X JY j;refine uS3 (dB 1332220641 [([4],[(4,30)])] [(dC [3] [0,0,0,6,14,31,63] [])]) func336 (λ_ _ _ _ _=>⟨by conv=>lhs;reduce,by dsimp only[PI,AF],by kernel_rfl⟩) ?_;unfold uI;obtain⟨a,c,rfl,q1,q2,q3⟩:=ho;have l1:=h1.lt (QC _);have l2:=I.lt (QC _);have ht:=underlying79;obtain⟨ti,hi,Y⟩:∃i,prog.info? 21=some i/\i.size=1:=⟨Tryz.t21,by kernel_rfl,by rfl⟩;refine AU (λvs o=>∃k:Nat,k<=(l.length+31)/32/\vs=[zI ((32*k:Nat):Int)]/\J k (λ_=>False) o) (λvs _=>l.length+32-Dh vs 0) ⟨0,Nn _,rfl,h0⟩ ?_;rintro vs o ⟨k,hk,rfl,hJ⟩ _;rw[BQ,Nr];have cell:∀{Z:World} {k:Nat} {b:Nat} {v:Value},J k (λ_=>False) Z->(b=N\/b=E)->W.cell? ⟨b,0,none⟩=some v->Z.cell? ⟨b,0,none⟩=some v:=λQ hb hc=>by
  rw[<-hc];exact mi (JY _ _ _ Q _ (by rcases hb with rfl|rfl<;>omega) hb)
 refine AJ (cell hJ (.inl rfl) (h1.cells 0 _ rfl)) ?_;rw[AO,Ai];refine AD (λa6=>?_) λa7=>?_;rotate_left
 .obtain rfl:k=(l.length+31)/32:=by omega
  exact⟨_,.inl hJ⟩
 have a1:32*k<l.length:=by omega
 have gd:Grow o o.drew:=Mod.drew _ _;have m:J k (λ_=>False) o.drew:=O k _ _ _ _ hJ (gd.mono λ_ _ h=>h.elim) λb hb=>hb.elim;refine AT (λ_ _=>False) ?_;refine AP ⟨cell m (.inr rfl) (I.cells 0 _ rfl),λ_ _ e=>e⟩ ?_;refine AP ⟨cell m (.inl rfl) (h1.cells 0 _ rfl),λ_ _ e=>e⟩ ?_;refine AX (Es ht hi Y (by omega) _) ⟨Mod.refl _ _,?_⟩;unfold sliced;rw[AO,Hi];have e1:(if((l.length-32*k:Nat):Int)<(32:Int) then((l.length-32*k:Nat):Int) else(32:Int))=((min 32 (l.length-32*k):Nat):Int):=by split<;>omega
 rw[e1];refine AJ (cell m (.inl rfl) (h1.cells 0 _ rfl)) ?_;refine B0 (by omega) (B0 (by omega) ?_);refine AX (Rz ht hi Y (by omega) (K8 _) (by omega) _) ?_;refine .inr ⟨yl,rfl,?_⟩;have U:=j k _ o.drew (by omega) m;have e2:32*k+min 32 (l.length-32*k)=min (32*k+32) l.length:=by omega
 rw[e2];refine FO U ?_;rintro vv W3 ⟨a8,V,_,⟨rfl,q⟩|⟨rfl,PW⟩⟩
 .rw[Ah];refine AL ?_;refine AJ (cell q (.inr rfl) (I.cells 0 _ rfl)) ?_;rw[AM,wrap64 (by omega) (by omega)];refine⟨⟨k+1,by omega,?_,q⟩,?_⟩
  .congr 2
  .rw[Bw,Bw];omega
 .rw[Ah];exact AQ ⟨_,.inr PW⟩
def Zn{r:Int}(h:EK r):AB prog 338 [.int .i32 r] (λv' w'=>v'=.bool true/\w'=w) w:=by
 refine uS1 (dB 9 [] []) func338 (λ_ _ _=>⟨by conv=>lhs;reduce,by dsimp only[PI,AF],by kernel_rfl⟩) ?_;unfold uI;unfold EK at h;rw[Cu];refine AD (λ_=>?_) λe=>by omega
 rw[HT];refine AD (λ_=>?_) λe=>by omega
 rw[Ai];refine AD (λ_=>⟨rfl,rfl⟩) λe=>?_;rw[BE];exact⟨by rw[lq (by omega)],rfl⟩
def cQ{l:List Int}(h:An S 1 Be w v l)(hm:∀r∈l,EK r) :
  AB prog 314 [v,.func (.func 337) #[] #[]] (λv' w'=>v'=.bool false/\w'=w) w:=by
 refine uS2 (dB 9 [] []) func314 (λ_ _ _ _=>⟨by conv=>lhs;reduce,by dsimp only[PI,AF],by kernel_rfl⟩) ?_;unfold uI;refine AA (K:=λv' w'=>v'=zI (-1)/\w'=w) ?_ ?_
 .refine uS2 (dB 35271513315417 [([8],[(4,5),(8,18)])] []) func374 (λ_ _ _ _=>⟨by conv=>lhs;reduce,by dsimp only[PI,AF],by kernel_rfl⟩) ?_;unfold uI;obtain⟨a,c,rfl,m⟩:=h.shape;simp only[maxLen] at m;rw[AO];refine AU (λvs W=>∃i:Nat,i<=l.length/\vs=[zI i]/\W=w) (λvs _=>l.length-Dh vs 0) ⟨0,Nn _,rfl,rfl⟩ ?_;rintro vs _ ⟨i,hi,rfl,rfl⟩ _;rename World=>w
  rw[BQ,Nr,Ai];refine AD (λo=>?_) λB=>⟨rfl,rfl⟩;have j:i<l.length:=by omega
  obtain⟨q,r,rfl,_,hr,hc,rfl⟩:=h.get j;refine AS j (AJ (by have:=hc 0 _ rfl;exact this) ?_);refine Ek (by kernel_rfl) ?_;refine uS1 (dB 9 [] []) func337 (λ_ _ _=>⟨by conv=>lhs;reduce,by dsimp only[PI,AF],by kernel_rfl⟩) ?_;unfold uI;refine AA (Zn (hm _ (ku j))) ?_;rintro _ _ ⟨rfl,rfl⟩;rename World=>w
  rw[Ah];refine AL ?_;rw[AM,AK (by omega)];exact⟨⟨i+1,j,rfl,rfl⟩,by rw[Bw,Bw];omega⟩
 .rintro _ _ ⟨rfl,rfl⟩;rw[Cu];exact⟨rfl,rfl⟩
def gY{l:List Int}(h:An S 1 Be w v l)(hl:l.length<=32)(hm:∀r∈l,EK r) :
  AB prog 283 [v] (λv' w'=>v'=.tuple #[.agg (Ck.cells ⟨l,hl⟩).toArray,zI 0]/\Grow w w') w:=by
 refine uS1 (dB 78404392537 [] []) func283 (λ_ _ _=>⟨by conv=>lhs;reduce,by dsimp only[PI,AF],by kernel_rfl⟩) ?_;unfold uI;refine Bx.zero λZ w1 ax g1 B2=>?_;have h1:=h.grow g1 (by decide) λ_ _ h=>h;refine AA (cQ h1 hm) ?_;rintro _ _ ⟨rfl,rfl⟩;rename World=>w1
 refine AL ?_;obtain⟨a,c,rfl,hx⟩:=h1.shape;rw[AO,BE];refine AD (λe=>by omega) λ_=>?_;refine Bx.zero λb4 o ay X B4=>?_;have C2:Bx o Z Ck.nil.cells:=B2.grow X;have C4:Bx o b4 Ck.nil.cells:=B4;have l2:=C2.lt (by rw[Ck.len];omega);have l4:=C4.lt (by rw[Ck.len];omega);have z1:=g1.size;have z7:=X.size;have av:=B2.lt (by decide);have hu:=underlying79;have hs:(prog.info? 21).map (·.size)=some 1:=by kernel_rfl
 have h7:=h1.grow X (by decide) λ_ _ h=>h;rw[AH,AI];refine NC ?_;have fin:∀B,Bx B b4 (JH Ck.nil.cells 0 (l.map (Value.int .i32)))->Mod (λx=>x=b4) o B->(BC 32 (.pointer (some ⟨b4,0,none⟩)) λa1=>CB a1 (zI (l.length:Int)) (λI=>CX 33 (.pointer (some ⟨b4,0,none⟩)) (λa6 a7=>BP 33 (.pointer (some ⟨Z,0,none⟩)) a6 (λJ=>CX 33 (.pointer (some ⟨Z,0,none⟩)) (λO a8=>(λ(v':Value) (w':World)=>v'=Value.tuple #[.agg (Ck.cells ⟨l,hl⟩).toArray,zI 0]/\Grow w w') (Value.tuple #[O,(zI 0)]) a8) J) a7) I) B):=λB D4 Y=>by
  rw[AH,AI];refine D4.st (q:=32) (by rw[Ll,Ck.len];omega) rfl rfl λI E4 Q=>?_;rw[Ck.Xv hl] at E4;refine E4.Eg (Ck.len _) ?_;refine((C2.mod Y λe=>by omega).mod Q λe=>by omega).over (Ck.len _) (Ck.len _) (Ck.one _) λJ F2 ak=>?_;refine F2.Eg (Ck.len _) ⟨rfl,?_⟩;exact(((g1.trans X).next Y λy hy e=>by omega).next Q λy hy e=>by omega).next ak λy hy e=>by omega
 have U:(l.map (Value.int .i32)).length=min l.length 32:=by rw[I3];omega
 by_cases m:l=[]
 .have hn:=run_copy_none o 79 79 3 21 (some ⟨b4,0,none⟩) a 32 32 l.length c hu hs (by rw[m];rfl);have al:Bx o b4 (JH Ck.nil.cells 0 (l.map (Value.int .i32))):=by rw[m];exact C4
  have e0:(goInt 0:Value)=zI (l.length:Int):=by rw[m];rfl
  rw[e0] at hn;exact AX hn (fin o al (Mod.refl _ _))
 .have V:0<l.length:=mN.2 m;obtain⟨p,r',rfl,_,_,_,_⟩:=h7.get (i:=0) V;refine C4.copy hu hs (us:=l.map (Value.int .i32)) U (.inr (by rw[I3,Ck.len];omega)) (λj v hv=>?_) (Pw _) λB D4 Y=>?_
  .obtain⟨hj,rfl⟩:=Ad.1 hv;rw[I3] at hj;obtain⟨p',r2,ep,_,aZ,an,rfl⟩:=h7.get hj;cases ep;have:=an 0 _ rfl;rw[nA];simpa using this
  .rw[I3];exact fin B D4 Y
def piece(rs:List Int)(k:Nat):Ck:=⟨(rs.drop (32*k)).take 32,by rw[Lc];omega⟩
def pieces(rs:List Int):List Ck:=(List.range ((rs.length+31)/32)).map (piece rs)
def NJ(rs:List Int):(pieces rs).length=(rs.length+31)/32:=by simp[pieces]
def Rq(rs:List Int){k:Nat}(h:k<(pieces rs).length):(pieces rs)[k]=piece rs k:=by simp[pieces]
def Rt(rs:List Int):BR (pieces rs)=rs:=by
 have key:∀n,BR ((List.range n).map (piece rs))=rs.take (32*n):=by
  intro n;induction n with
  |zero=>simp[BR]
  |succ n i=>
   rw[List.range_succ,kZ,BR,mf];have j:List.flatMap Ck.l ((List.range n).map (piece rs))=rs.take (32*n):=i;rw[j];have m:List.flatMap Ck.l ([n].map (piece rs))=(rs.drop (32*n)).take 32:=by simp[piece]
   rw[m,show 32*(n+1)=32*n+32 by omega,List.take_add]
 rw[pieces,key,mU (by omega)]
def Vp{b bt N i:Nat}{l:List Ck}(h:Dk Ap.toAvT F Gl W b bt l N)(hN:N<=100000000000)(hi:i<=(BR l).length)(hs:(BR l).length+rs.length<=536870912)(hv:An S 1 Be W v rs)(hm:∀r∈rs,EK r) :
  AB prog 180 [.pointer (some ⟨b,0,none⟩),zI (i:Int),v] (λv' w'=>v'=zI 0/\∃F' l',(∀x,F x->F' x)/\(∀x,F' x->F x\/W.heap.size<=x)/\Dk Ap.toAvT F' Gl w' b bt l' (N+(pieces rs).length+4)/\BR l'=(BR l).take i++rs++(BR l).drop i/\Mod F W w') W:=by
 apply bo;unfold S180;have hF:=h.lt;refine Bx.zero λc6 w1 da g1 B6=>?_;refine CY (AL ?_);refine Bx.zero λU w4 dk g4 B7=>?_;have l6:=B6.lt (by decide);have l7:=B7.lt (by decide);have z1:=g1.size;have z4:=g4.size;have b8:=hv.Gw (by decide);refine AA (K:=λv' w'=>∃d1 d2,v'=.func (.func 336) #[] #[.pointer (some ⟨d1,0,none⟩),.pointer (some ⟨d2,0,none⟩)]/\w4.heap.size<=d1/\w4.heap.size<=d2/\Bx w' d1 [v]/\Bx w' d2 [zI 32]/\Grow w4 w') ?_ ?_
 .refine uS2 (dB 33369 [] []) func282 (λ_ _ _ _=>⟨by conv=>lhs;reduce,by dsimp only[PI,AF],by kernel_rfl⟩) ?_;unfold uI;obtain⟨a,c,rfl,o⟩:=hv.shape;refine Cg rfl λd1 B ba g5 D1=>?_;refine Cg rfl λd2 w6 bb g6 D2=>?_;have z5:=g5.size;refine AJ (D2.cells 0 _ rfl) ?_;rw[Ai];refine AD (λe=>by omega) λ_=>?_;exact⟨d1,d2,rfl,by omega,by omega,D1.grow g6,D2,g5.trans g6⟩
 rintro _ B ⟨d1,d2,rfl,ba,bb,D1,D2,g5⟩;have z5:=g5.size;have a6:=(g1.trans g4).trans g5;have ax:=b8.grow a6 (by decide) λ_ _ h=>h;have dr:=D1.lt (QC _);have dA:=D2.lt (QC _);have C7:=B7.grow g5;have bc:=NJ rs;refine Jh ⟨True,_,[.pointer (some ⟨d1,0,none⟩),.pointer (some ⟨d2,0,none⟩)],_,_,_,rfl,by kernel_rfl,aY D1 D2 ax (by omega),λk _=>rfl,?_⟩;refine⟨λk V W'=>∃out,Yi 184 33 (λ_ r x=>r=Ck.cells x) B.heap.size U B.heap.size V W' out ((pieces rs).take k)/\Mod (λx=>x=U) B W'/\k<=(pieces rs).length,λ_ _ _=>False,⟨_,⟨C7,AE.nil,λg O=>nomatch O⟩,Mod.refl _ _,Nn _⟩,?_,λx V bd W W' h=>h.elim,?_,?_,?_,λx V W h=>h.elim⟩
 .rintro k V bd W' dC ⟨out,q,m,hk⟩ hm J;have hn:∀x,x<B.heap.size->¬((¬True/\V x)\/x=B.heap.size\/x=B.heap.size+1):=λx o=>by rintro(⟨h,_⟩|h|h);exact h trivial;all_goals omega
  refine⟨out,⟨q.box.mod hm (hn U (by omega)),AE.mod q.row hm (λg O=>?_) λ_ _ _ h=>h,λg O=>?_⟩,m.next hm λx o=>?_,hk⟩
  .obtain⟨_,h2,h3,_⟩:=q.hc g O;rintro(⟨h,_⟩|h|h)
   .exact h trivial
   .exact h2 h
   .exact h3 h
  .obtain⟨h1,h2,h3,h4⟩:=q.hc g O;refine⟨h1,h2,h3,λh=>?_⟩;rcases(J g h).1 with h|h
   .exact h4 h
   .have:=(AE.Aj q.row g O).2;omega
  .intro e;exact absurd e (hn x o)
 .rintro k V W' ⟨out,q,m,hk⟩ b hb hr;exact m.same b hb λe=>by rcases hr with hr|hr<;>omega
 .rintro k V W' hk ⟨out,q,m,dT⟩ hz J;have ay:32*k<rs.length:=by omega
  have X:k<(pieces rs).length:=by omega
  refine Kn (Mod.refl (λ_=>False) _) hz J (λ_ _ h=>h.elim) λW6 Q=>?_;have e1:=Q.size;have cx:=q.box.lt (QC _);have C6:=q.box.mod Q (by omega);have o6:AE B.heap.size 184 33 (λ_ r x=>r=Ck.cells x) W6 out ((pieces rs).take k):=AE.mod q.row Q (λg O=>(q.hc g O).2.2.1) λ_ _ _ h=>h;have aZ:An (λb=>S b/\b<W.heap.size) 1 Be W' v rs:=An.mono ax (λ_ _ h=>h) (λb hb hS=>m.same b hb λe=>by have:=hS.2;omega) (by decide) λ_ _ h=>h;have bk:An (λb=>S b/\b<W.heap.size) 1 Be W6 v rs:=An.mono aZ (λ_ _ h=>h) (λb hb hS=>Q.same b hb λe=>by have:=hS.2;omega) (by decide) λ_ _ h=>h;refine AA (gY (fy bk ay) (piece rs k).le λr hr=>hm r (ky (lJ hr))) ?_;rintro _ w8 ⟨rfl,g8⟩;refine BI ?_;have z8:=g8.size;show Bt _ _ (λt9 w9=>BP 33 t9 (.agg (piece rs k).cells.toArray) _ w9) w8;refine Bx.new (vs:=(piece rs k).cells) (Ck.len _) rfl (Ck.one _) λb9 W9 e2 g9 B9=>?_;have z9:=g9.size;refine Ko ?_;have C9:=(C6.grow g8).grow g9;have o9:AE B.heap.size 184 33 (λ_ r x=>r=Ck.cells x) W9 out ((pieces rs).take k):=AE.mod (AE.mod (R':=λ_ r x=>r=Ck.cells x) o6 g8 (λ_ _ h=>h) λ_ _ _ h=>h) g9 (λ_ _ h=>h) λ_ _ _ h=>h;have bl:=B9.lt (by rw[Ck.len];omega);refine AJ (C9.cells 0 _ rfl) ?_;refine B9.Eg (Ck.len _) ?_;have e3:((pieces rs).take k).length<=rs.length:=by rw[Lc];omega
  refine Dp Ap.elE o9 (by omega) (cs:=(piece rs k).cells) (x:=piece rs k) (DD (v:=.agg (piece rs k).cells.toArray) rfl (by decide) rfl (Ck.len _)) (Ck.len _) rfl (λ_ _ _ h=>by subst h;exact Ck.one _) (λ_ _ _ _ _ _ h=>h) (by show _*136<=_;omega) (by simp only[maxLen];omega) λb0 e4 b1 a7 b2=>?_;have e5:=a7.size;have e6:=AE.Aj o9;have bp:=C9.mod a7 λe=>(q.hc U e).1 rfl;obtain⟨bs,bx⟩:=b1.one;refine bp.st (q:=0) (show 0<1 by decide) bs bx λbZ c4 a8=>?_;have e7:=a8.size;have Y:Mod (λx=>x=U\/out.ownBlock=some x) W6 bZ:=(((g8.trans g9).mono λ_ _ h=>h.elim).trans (a7.mono λ_ _ e=>.inr e)).trans (a8.mono λ_ _ e=>.inl e);refine⟨N9 Y (by omega) (λb hb=>by have:=(J b hb).1;omega) (λb _ e=>?_),b0,⟨c4,?_,λg O=>?_⟩,?_,by omega⟩
  .rcases e with rfl|e
   .exact⟨λh=>by have:=(J b h).2;omega,by omega,by omega⟩
   .obtain⟨h1,h2,h3,h4⟩:=q.hc b e;exact⟨h4,h2,h3⟩
  .have c8:(pieces rs).take (k+1)=(pieces rs).take k++[piece rs k]:=by rw[S5,Bq X,Rq rs X];rfl
   rw [c8];exact AE.mod b1 a8 (λg O e=>by
    rcases b2 g O with h|h
    .exact(q.hc g h).1 e
    .omega) λ_ _ _ h=>h
  .rcases b2 g O with h|h
   .exact q.hc g h
   .refine⟨by omega,by omega,by omega,λhI=>by have:=(J g hI).1;omega⟩
  .refine(m.next Q λx o e=>by omega).next Y λx o e=>?_;rcases e with e|e
   .exact e
   .have:=(AE.Aj q.row x e).1;omega
 .rintro V W' ⟨out,q,m,hk⟩ _ hz hd;rw[<-bc,S7] at q;have gW:Mod (λx=>x=U) B W':=m;have Z:¬F U:=λe=>by have:=hF U (.inl e);omega
  have h5:Dk Ap.toAvT F Gl W' b bt l N:=(h.grow a6).mod m λx o e=>by
   rcases o with o|o
   .exact Z (e▸o)
   .exact o
  have zW:=m.size;refine AA (Jp En h5) ?_;rintro _ e8 ⟨rfl,b6⟩;rw[show Tr.sz Ap.toAvT.k.μ l=(BR l).length from Gn l,Jc (K8 _) hi,BL];refine AW (λ_=>?_) λe=>(e rfl).elim;obtain⟨a,c,rfl,o⟩:=hv.shape;rw[AO];refine AA (Yf (h5.grow b6)) ?_;rintro _ ak ⟨rfl,c9⟩;rw[Am,wrap64 (by omega) (by omega),BE];refine AD (λe=>by omega) λ_=>?_;have gd:Grow ak ak.drew:=Mod.drew _ _;have I:=(b6.trans c9).trans gd;have hO:=h5.grow I;have q2:=q.box.grow I;have o2:AE B.heap.size 184 33 (λ_ r x=>r=Ck.cells x) ak.drew out (pieces rs):=AE.mod q.row I (λ_ _ h=>h) λ_ _ _ h=>h;have zd:=I.size;refine AT (λk y=>k=5/\F y) ?_;refine AA (ES En hO) ?_;rintro _ e9 ⟨rfl,ca⟩;subst ca;refine⟨Mod.refl _ _,AP ⟨q2.cells 0 _ rfl,λj hj e=>Z e.2⟩ ?_⟩;have er:=Pu l (pieces rs) (K8 i);have ep:=N0 l (pieces rs) i i;rw[Rt] at er ep;have cc:(BR (Ck.kd.Bl l i i (pieces rs))).length<=1099511627776:=by rw[er];simp only[BW,Lc,Hy];omega
  refine AA (JF (ZB (g:=Ap)) (L:=pieces rs) hO (by omega) o2.sl (λx o cd=>by have:=hF x (.inl cd);have:=o.1;omega) (K8 i) (by omega) (Ng (by omega)) (Ng (l:=Ck.kd.Bl l i i (pieces rs)) cc) (Ng (l:=(Ck.kd.split l i).1.getLast?.toList++pieces rs++(Ck.kd.split (Ck.kd.split l i).2 (i-i)).2.head?.toList) (by omega))) ?_;rintro _ ch ⟨F',k1,k2,k3,k4⟩;refine⟨k4.mono λ_ _ e=>⟨rfl,e⟩,?_⟩;have ea:=k4.size;have a1:¬F c6:=λe=>by have:=hF c6 (.inl e);omega
  have D6:Bx ch c6 [zI 0]:=((((B6.grow g4).grow g5).mod m (by omega)).grow I).mod k4 a1;refine D6.st (q:=0) (show 0<1 by decide) rfl rfl λb7 E6 al=>?_;have an:¬F' c6:=λe=>by
   rcases k2 c6 e with h|h
   .exact a1 h
   .omega
  have cu:∀x,B.heap.size<=x->x<B.heap.size+1->¬F' x:=λx o ec e=>by
   rcases k2 x e with h|h
   .have:=hF x (.inl h);omega
   .omega
  refine⟨?_,?_⟩
  .rw[al.same _ (by omega) (by omega),k4.same _ (by omega) λe=>by have:=hF _ (.inl e);omega,I.same _ (by omega) λh=>h];exact hd
  have av:Mod (λb=>b=B.heap.size) b7 (b7.putObj B.heap.size (.deferred none)):=Mod.putObj _ _ _ rfl;refine AJ ((E6.mod av (by omega)).cells 0 _ rfl) ⟨rfl,F',_,k1,λx o=>(k2 x o).imp (λh=>h) λh=>by omega,((k3.mod al λx o e=>by
    rcases o with o|o
    .exact an (e▸o)
    .exact o).mod av λx o e=>by
    rcases o with o|o
    .exact cu x (by omega) (by omega) o
    .exact o),er,?_⟩
  exact((((a6.next m λx o e=>by omega).trans I).mono λ_ _ h=>h.elim).trans k4 |>.next al λx o e=>by omega).next av λx o e=>by omega
def Lp:Kd Nat where
 μ:=λ_=>(1,0)
 cut:=λx _=>(x,x)
 meld:=λ_ _=>none
def L9(q:Nat)(l:List Nat)(i j:Nat):Lp.over (q::l) i j=(if i<min j 1 then[q] else[])++Lp.over l (i-1) (j-1):=by
 have e:∀p,Lp.part q i p=q:=λp=>by unfold Kd.part Lp;simp only;split<;>split<;>rfl
 simp only[Kd.over,e];rfl
def Tx(W:World)(b E i:Nat):Value:=match W.cell? ⟨b,3,none⟩ with
 |some (.pointer (some c))=>match W.cell? c with
  |some (.slice (some p) _ _)=>(W.cell? (p.add (i*(E+6)))).getD undef
  |_=>undef
 |_=>undef
section
variable {α:Type}{g:AvT α}
def R9{b i:Nat}{A:ArS α}{n:Nd α}(h:Dj g F C W b most A)(hi:A.f i=some n) :
  ∃(c:Nat) (p:Addr) (m k:Nat),W.cell? ⟨b,3,none⟩=some (.pointer (some ⟨c,0,none⟩))/\W.cell? ⟨c,0,none⟩=some (.slice (some p) m k)/\F b/\F c/\F p.block/\(∃r,g.R C W r n.x/\∀j u,(r++(BM n++[.bool true]))[j]?=some u->W.cell? (p.add (i*(g.E+6)+j))=some u):=by
 obtain⟨c,pl,fr,B⟩:=h;obtain⟨Q,hp⟩:=ArS.I9 hi;have U:=(Ad.1 hp).2;obtain⟨Z,pc,I,_⟩:=B.ar.GM.sl.shape;have J:=B.ar.GM.sl;rw[I] at J;obtain⟨q,r,rfl,X,hr,hc,O⟩:=J.get Q;rw[U] at O;obtain⟨x,rfl,Y⟩:=O;have o:=B.ar.cells 0 pl rfl;rw[I] at o;exact⟨c,q,_,_,B.box.cells 3 _ rfl,o,B.fb.1,B.ar.fc.1,(B.ar.pF q.block (by rw[I];exact X.2)).1.1,x,Y,hc⟩
def ei{b i:Nat}{o:Int}{A:ArS α}{n:Nd α}(h:Dj g F C w b o A)(hi:A.f i=some n)(j:∀x,F x\/C x->W.heap[x]?=w.heap[x]?):Tx W b g.E i=Tx w b g.E i:=by
 obtain⟨c,p,m,k,h1,q,B,I,J,_⟩:=R9 h hi;have O:W.cell? ⟨b,3,none⟩=w.cell? ⟨b,3,none⟩:=mi (j b (.inl B));have Q:W.cell? ⟨c,0,none⟩=w.cell? ⟨c,0,none⟩:=mi (j c (.inl I));have U:W.cell? (p.add (i*(g.E+6)))=w.cell? (p.add (i*(g.E+6))):=mi (by rw[Ac];exact j _ (.inl J));simp only[Tx,O,h1,Q,q,U]
end
section
variable {α:Type}{g:Av1 α}
def bG{b i:Nat}{A:ArS α}{n:Nd α}{K:Value->World->Prop}(h:Dj g.toAvT F C W b most A)(hi:A.f i=some n)
 (hK:∀r O w',Grow W w'->W.heap.size<=O->Bx w' O (r++BM n)->g.R C w' r n.x->r=[Tx W b g.E i]->K (.pointer (some ⟨O,0,none⟩)) w') :
  AB prog g.fat [.pointer (some ⟨b,0,none⟩),zI i] (λQ w1=>Bt g.tn g.toAvK.zN (λt7 w2=>BP (g.E+5) t7 Q (λw3=>K t7 w3) w2) w1) W:=by
 have key:AB prog g.fat [.pointer (some ⟨b,0,none⟩),zI i] (λv' w'=>∃r,v'=.agg (r++BM n).toArray/\g.R C w' r n.x/\Grow W w'/\r=[Tx W b g.E i]) W:=by
  apply g.ok.at_;unfold ja;refine Bx.zero λb4 w1 a1 q B4=>?_;obtain⟨c,pl,fr,j⟩:=h;have B:=j.mod q λ_ _ h=>h;refine AG ?_;refine Az (B.box.cells 3 _ rfl) ?_;refine AA (Tf B.ar hi) ?_;rintro _ w2 ⟨r,rfl,hr,g2,p,m,k,I,o⟩;refine BI ?_;have hl:=BA n hr;have ho:=Hn n hr;refine Bx.new hl IM ho λb5 w3 a6 U B5=>?_;refine B5.Eg hl ?_;have V:=(B4.grow g2).grow U;refine V.over hl (IM) ho λw4 J m4=>?_;refine J.Eg hl ?_;have X:Grow W w4:=((q.trans g2).trans U).next m4 λy hy e=>by omega
  refine⟨r,rfl,g.BO (g.BO hr U λ_ _ _ h=>h) m4 λy _ hy e=>by have:=j.ar.lt y (.inr hy);omega,X,?_⟩;have er:=X4 hr;generalize g.toAvK.enc r=a at er;subst er;have e1:=j.box.cells 3 _ rfl;have Y:=j.ar.cells 0 pl rfl;rw[I] at Y;have e3:=o a rfl;obtain⟨c',p',m',k',q1,q2,f1,f2,f3,_⟩:=R9 (g:=g.toAvT) ⟨c,pl,fr,j⟩ hi;rw[e1] at q1;cases q1;rw[Y] at q2;cases q2;have e4:W.cell? (p.add (i*(g.E+6)))=some a:=by
   have Z:p.block<W.heap.size:=j.ar.lt _ (.inl (j.ar.pF _ (by rw[I];rfl)).1);rw[<-e3];exact(mi (by rw[Ac];exact q.same _ Z λh=>h)).symm
  simp only[Tx,e1,Y,e4];rfl
 refine AA key ?_;rintro _ w4 ⟨r,rfl,hr,q,hv⟩;refine Bx.new (BA n hr) IM (Hn n hr) λb7 w5 a7 g7 B7=>?_;exact hK r b7 w5 (q.trans g7) (by have:=q.size;omega) B7 (g.BO hr g7 λ_ _ _ h=>h) hv
def fL(t:Tr α):Tr.sz Lp.μ t.idx=Tr.sz g.k.μ t.toL:=by
 induction t with
 |nil=>rfl
 |node l i x r h1 j=>rw[Tr.idx,Tr.toL,Tr.CI,Tr.CI,Tr.BS,Tr.BS,h1,j,g.μ1];rfl
def Uw{b l N:Nat}{A:ArS α}{J:Nat->(Nat->Prop)->World->Prop}{Jx:(Nat->Prop)->World->Prop}{Y:Nat->List Value}(hw:Dj g.toAvT F C w b most A)(hs:A.ps.length<=109951162777)(H:Pn prog l J Jx w (λx=>F x\/C x) Y N) :
  ∀(t:Tr α) (i j Z:Nat) (O:Nat->Prop) (W:World),Tr.Holds g.k.μ A.f t->EB g.toAvT t.toL->i<=1099511627776->j<=1099511627776->J Z O W->w.heap.size<=W.heap.size->(∀x,O x->x<W.heap.size)->Z+(Lp.over t.idx i j).length<=N->(∀m (hm:m<(Lp.over t.idx i j).length),Y (Z+m)=[Tx w b g.E (Lp.over t.idx i j)[m]])->
   AB prog g.fover [.pointer (some ⟨b,0,none⟩),zI t.root,zI (i:Int),zI (j:Int),.func (.yield l) #[] #[]] (Qg J Jx (Z+(Lp.over t.idx i j).length) O W) W:=by
 intro t;induction t with
 |nil=>
  intro i j Z O W _ _ _ _ hJ hz an _ _;apply g.ok1.over;unfold TB;simp only[Tr.root];refine AR (λ_ _=>False) (λ_ _ h=>h.elim) ?_;rw[Aa];refine AD (λ_=>?_) λe=>(e rfl).elim;exact⟨K8 _,λ_ _=>rfl,⟨rfl,rfl,rfl⟩,O,λ_ h=>h,an,.inl ⟨rfl,hJ⟩⟩
 |node lt q x a8 dB dC=>
  intro i j Z O W hh hb hi hj hJ hz an hN Q;obtain⟨hl,hr,hq⟩:=id hh;have eL:(Tr.node lt q x a8).toL=lt.toL++x::a8.toL:=rfl;have eI:(Tr.node lt q x a8).idx=lt.idx++q::a8.idx:=rfl;rw[eL] at hb;rw[eI] at hN Q ⊢;have c4:(g.k.μ x).1=1:=by rw[g.μ1]
  have c6:Tr.sz Lp.μ lt.idx=Tr.sz g.k.μ lt.toL:=fL lt;have dT:=hb.1;simp only[Tr.CI,Tr.BS] at dT;rw[Lp.RV,c6] at hN Q ⊢;apply g.ok1.over;unfold TB;simp only[Tr.root];refine AR (λ_ W'=>W'=W/\i<j) ?_ ?_;rotate_left
  .rw[Aa];refine AD (λe=>by omega) λ_=>?_;rw[Cu];refine AD (λe=>?_) λe=>⟨rfl,by omega⟩;rw[Lp.Ec _ (by omega:j<=i),Lp.Ec _ (by omega:j-Tr.sz g.k.μ lt.toL<=i-Tr.sz g.k.μ lt.toL)];exact⟨K8 _,λ_ _=>rfl,⟨rfl,rfl,rfl⟩,O,λ_ h=>h,an,.inl ⟨rfl,hJ⟩⟩
  rintro _ W' ⟨rfl,e9⟩ _;rename World=>W
  have EI:∀{k O W'},J k O W'->w.heap.size<=W'.heap.size->Dj g.toAvT F C W' b most A:=λ{k O W'} h1 h2=>hw.heap (λy o=>H.JY k O W' h1 y (hw.lt y o) o) h2;refine bG (EI hJ hz) hq λrc U w4 g4 e7 B b7 c7=>?_;have b0:=g.rlen b7;rw[ei hw hq λy o=>H.JY Z O W hJ y (hw.lt y o) o] at c7;have e4:=(EI hJ hz).grow g4;refine Az (B.cells (g.E+0) _ (by rw[AY b0];rfl)) ?_;refine AA (Bo e4 hl) ?_;rintro _ w6 ⟨rfl,g6⟩;refine K0 ?_;have b8:Grow w6 w6.drew:=Mod.drew _ _;have c8:=(g4.trans g6).trans b8;obtain⟨c,pl,fr,hT⟩:=(EI hJ hz).grow c8;have B6:=(B.grow g6).grow b8;refine AT (λ_ _=>False) ?_;refine AG ?_;rw[AH,AI,AH,AI];refine AP ⟨hT.box.cells 0 _ rfl,λ_ _ e=>e⟩ ?_;rw[AH,AI];refine JS (g:=g.toAvT) (r:=rc) b0 (λj v hv=>⟨B6.cells j v (by rw[Q0 (Ad.1 hv).1];exact hv),λ_ _ e=>e⟩) ?_;refine Ao (g.meas (C:=C) (x:=x) (g.BO b7 (g6.trans b8) λ_ _ _ h=>h)) ?_;rintro _ w7 ⟨rfl,g7⟩;refine⟨g7.mono λ_ _ h=>h.elim,?_⟩;refine BI ?_;have ak:=c8.trans g7;have B7:=B6.grow g7;have dA:=B7.lt (by rw[BA _ b7];omega);have ea:=ak.size;have av:∀y,(O y\/y=U)->(O y\/W.heap.size<=y)/\y<w7.heap.size:=λy o=>by
   rcases o with o|o
   .have:=an y o;exact⟨.inl o,by omega⟩
   .exact⟨.inr (by omega),by omega⟩
  have c9:=H.hJ Z O (λy=>O y\/y=U) W w7 hJ ak av;have e5:∀y,O y->w7.heap[y]?=W.heap[y]?:=λy o=>ak.same y (an y o) λh=>h;obtain⟨X1,b9⟩:∃X,X=Lp.over lt.idx i j:=⟨_,rfl⟩;obtain⟨i',ba⟩:∃i',i'=i-Tr.sz g.k.μ lt.toL:=⟨_,rfl⟩;obtain⟨j',b1⟩:∃j',j'=j-Tr.sz g.k.μ lt.toL:=⟨_,rfl⟩;obtain⟨X2,bb⟩:∃X,X=(if i'<min j' (g.k.μ x).1 then[q] else[]):=⟨_,rfl⟩;obtain⟨X3,al⟩:∃X,X=Lp.over a8.idx (i'-(g.k.μ x).1) (j'-(g.k.μ x).1):=⟨_,rfl⟩;have eX:Lp.over lt.idx i j++Lp.over (q::a8.idx) (i-Tr.sz g.k.μ lt.toL) (j-Tr.sz g.k.μ lt.toL)=X1++(X2++X3):=by rw[b9,bb,al,ba,b1,c4,L9]
  rw[eX] at hN Q ⊢;simp only[BW] at hN;have bc:∀m (hm:m<X1.length),Y (Z+m)=[Tx w b g.E X1[m]]:=λm hm=>by
   rw[Q m (by simp;omega)];simp[nX hm]
  have bd:∀m (hm:m<X2.length),Y (Z+X1.length+m)=[Tx w b g.E X2[m]]:=λm hm=>by
   have:=Q (X1.length+m) (by simp;omega);rw[mo,this];simp[nG,nX hm]
  have bk:∀m (hm:m<X3.length),Y (Z+X1.length+X2.length+m)=[Tx w b g.E X3[m]]:=λm hm=>by
   have:=Q (X1.length+(X2.length+m)) (by simp;omega);rw[show Z+X1.length+X2.length+m=Z+(X1.length+(X2.length+m)) by omega,this];simp[nG]
  let St:Nat->World->Prop:=λk W'=>∃I,(∀y,O y->I y)/\I U/\(∀y,I y->y<W'.heap.size)/\J k I W'/\(w7.heap.size<=W'.heap.size/\Quiet w7 W')/\(∀y,O y\/y=U->W'.heap[y]?=w7.heap[y]?)
  have done:∀{k W'} (v:Value) (I:Nat->Prop),(∀y,O y->I y)->(∀y,I y->y<W'.heap.size)->w7.heap.size<=W'.heap.size/\Quiet w7 W'->(∀y,O y->W'.heap[y]?=w7.heap[y]?)->((v=.bool true/\J k I W')\/(v=.bool false/\Jx I W'))->Qg J Jx k O W v W':=λv I h1 h2 h3 h4 h5=>
   ⟨by omega,λy o=>(h4 y o).trans (e5 y o),Quiet.trans ⟨ak.os,ak.tape,ak.output⟩ h3.2,I,h1,h2,h5⟩
  refine AR (λ_ W'=>St (Z+X1.length) W') ?_ ?_;rotate_left
  .refine G9 (λca=>?_) λcc=>?_
   .refine Az (B7.cells (g.E+0) _ (by rw[AY b0];rfl)) ?_;rw[Hi];have em:(if((Tr.sz g.k.μ lt.toL:Nat):Int)<(j:Int) then((Tr.sz g.k.μ lt.toL:Nat):Int) else(j:Int))=((min j (Tr.sz g.k.μ lt.toL):Nat):Int):=by split<;>omega
    rw[em];have a7:Lp.over lt.idx i (min j (Tr.sz g.k.μ lt.toL))=X1:=by rw[b9,<-c6,Lp.Ms]
    refine AA (dB i (min j (Tr.sz g.k.μ lt.toL)) Z (λy=>O y\/y=U) w7 hl hb.app.1 hi (by omega) c9 (by omega) (λy o=>(av y o).2) (by rw[a7];omega) (λm hm=>?_)) ?_
    .have bl:m<X1.length:=by rw[<-a7];exact hm
     rw[bc m bl];simp only[a7]
    rw[a7];rintro v W2 ⟨z1,z2,zq,I,q1,q2,q3⟩;rcases q3 with⟨rfl,bp⟩|⟨rfl,bp⟩
    .rw[Ah];exact AL ⟨I,λy o=>q1 y (.inl o),q1 U (.inr rfl),q2,bp,⟨z1,zq⟩,z2⟩
    .rw[Ah];exact AQ (done (.bool false) I (λy o=>q1 y (.inl o)) q2 ⟨z1,zq⟩ (λy o=>z2 y (.inl o)) (.inr ⟨rfl,bp⟩))
   .have e0:X1=[]:=by rw[b9];exact OA Lp lt.idx j (by omega)
    rw[e0];exact⟨λy=>O y\/y=U,λy o=>.inl o,.inr rfl,λy o=>(av y o).2,c9,⟨K8 _,rfl,rfl,rfl⟩,λ_ _=>rfl⟩
  rintro _ W8 ⟨ax,a1,a2,a3,cd,z8,V⟩ _;have B8:=B7.heap (V U (.inr rfl));rw[Am,wrap64 (by omega) (by omega),GC];have e6:(if(0:Int)>(i:Int)-((Tr.sz g.k.μ lt.toL:Nat):Int) then(0:Int) else(i:Int)-((Tr.sz g.k.μ lt.toL:Nat):Int))=(i':Int):=by rw[ba];split<;>omega
  rw[e6,Am,wrap64 (by omega) (by omega),Hi];obtain⟨to,bs⟩:∃to:Int,to=(if(((g.k.μ x).1:Nat):Int)<(j:Int)-((Tr.sz g.k.μ lt.toL:Nat):Int) then(((g.k.μ x).1:Nat):Int) else(j:Int)-((Tr.sz g.k.μ lt.toL:Nat):Int)):=⟨_,rfl⟩;rw[<-bs];have b2:(i':Int)<to↔i'<min j' (g.k.μ x).1:=by rw[bs,b1];split<;>omega
  have ch:i'<min j' (g.k.μ x).1->to=((min j' (g.k.μ x).1:Nat):Int):=λh=>by rw[bs,b1];split<;>omega
  refine AR (λ_ W'=>St (Z+X1.length+X2.length) W') ?_ ?_
  .rintro _ W9 ⟨cu,c1,c2,c3,cx,z9,a6⟩ _;refine B0 (by omega) ?_;rw[HT];refine AD (λec=>?_) λed=>?_
   .have e3:X3=[]:=by rw[al];exact Lp.Ec _ (by omega)
    rw[e3];simp only[lA,BW];exact done (.bool true) cu c1 c3 z9 (λy o=>a6 y (.inl o)) (.inl ⟨rfl,by rw[<-mo];exact cx⟩)
   .have B9:=B7.heap (a6 U (.inr rfl));refine Az (B9.cells (g.E+1) _ (by rw[AY b0];rfl)) ?_;rw[Am,wrap64 (by omega) (by omega),Am,wrap64 (by omega) (by omega),GC];have e1:(if(0:Int)>(i:Int)-((Tr.sz g.k.μ lt.toL:Nat):Int)-(((g.k.μ x).1:Nat):Int) then(0:Int) else(i:Int)-((Tr.sz g.k.μ lt.toL:Nat):Int)-(((g.k.μ x).1:Nat):Int))=((i'-(g.k.μ x).1:Nat):Int):=by rw[ba];split<;>omega
    rw[e1,Am,wrap64 (by omega) (by omega),Am,wrap64 (by omega) (by omega)];have e2:(j:Int)-((Tr.sz g.k.μ lt.toL:Nat):Int)-(((g.k.μ x).1:Nat):Int)=((j'-(g.k.μ x).1:Nat):Int):=by rw[b1];omega
    rw[e2];refine AA (dC (i'-(g.k.μ x).1) (j'-(g.k.μ x).1) (Z+X1.length+X2.length) cu W9 hr hb.app.2.cons.1 (by omega) (by omega) cx (by omega) c3 (by rw[<-al];omega) (λm hm=>?_)) ?_
    .have bl:m<X3.length:=by rw[al];exact hm
     rw[bk m bl];simp only[al]
    rw[<-al];rintro v W2 ⟨u1,u2,uq,I,q1,q2,q3⟩;refine done v I (λy o=>q1 y (c1 y o)) q2 ⟨by omega,z9.2.trans uq⟩ (λy o=>(u2 y (c1 y o)).trans (a6 y (.inl o))) ?_;simp only[BW];rwa [<-mo,<-mo]
  .refine G9 (λca=>?_) λcc=>?_;rotate_left
   .have e2:X2=[]:=by rw[bb,Bp λe=>cc (b2.2 e)]
    rw[e2];exact⟨ax,a1,a2,a3,cd,z8,V⟩
   have b6:=b2.1 ca;have ee:=ch b6;have e2:X2=[q]:=by rw[bb,DN b6]
   have ef:i'=0:=by omega
   have e8:to=1:=by omega
   rw[c7] at B8;refine Az (B8.cells 0 _ rfl) ?_;refine AR (λvs W'=>vs=[Tx w b g.E q]/\W'=W8) ?_ ?_;rotate_left
   .rw[Ai];exact AD (λe=>by omega) λ_=>⟨rfl,rfl⟩
   rintro _ _ ⟨rfl,rfl⟩ _;rename World=>W8
   refine AR (λvs W'=>vs=[Tx w b g.E q]/\W'=W8) ?_ ?_;rotate_left
   .rw[BE];exact AD (λe=>by omega) λ_=>⟨rfl,rfl⟩
   rintro _ bx ⟨rfl,rfl⟩ _;rename World=>bx
   simp only[BQ,Nr];have eh:=z8.1;refine .inr ⟨l,rfl,?_⟩;have da:X2.length=1:=by rw[e2];rfl
   have ay:=bd 0 (by omega);simp only[lf,e2,rK] at ay;rw[<-ay];refine FO (H.bD _ ax bx (by omega) cd) ?_;rintro v dk ⟨y1,y2,yq,y3⟩;have aZ:∀y,ax y->dk.heap[y]?=bx.heap[y]?:=λy o=>y2 y o;have dr:Quiet w7 dk:=z8.2.trans yq;rcases y3 with⟨rfl,bZ⟩|⟨rfl,bZ⟩
   .rw[Ah];refine AL ⟨ax,a1,a2,λy o=>by have:=a3 y o;omega,by rw[da];exact bZ,⟨by omega,dr⟩,λy o=>?_⟩;exact(aZ y (by rcases o with o|rfl;exact a1 y o;exact a2)).trans (V y o)
   .rw[Ah];exact AQ (done (.bool false) ax a1 (λy o=>by have:=a3 y o;omega) ⟨by omega,dr⟩ (λy o=>(aZ y (a1 y o)).trans (V y (.inl o))) (.inr ⟨rfl,bZ⟩))
def Ui:Tr α->List (Nat×α)
 |.nil=>[]
 |.node l i x r=>Ui l++(i,x)::Ui r
def aM(t:Tr α):(Ui t).map (·.1)=t.idx:=by
 induction t with
 |nil=>rfl
 |node l i x r h1 j=>simp only[Ui,Tr.idx,kZ,lO,h1,j]
def aS(t:Tr α):(Ui t).map (·.2)=t.toL:=by
 induction t with
 |nil=>rfl
 |node l i x r h1 j=>simp only[Ui,Tr.toL,kZ,lO,h1,j]
def US{f:Nat->Option (Nd α)}{μ:α->Nat×Nat}{t:Tr α}(h:Tr.Holds μ f t):∀p∈Ui t,∃n,f p.1=some n/\n.x=p.2:=by
 induction t with
 |nil=>intro p hp;simp[Ui] at hp
 |node l i x r h1 j=>
  obtain⟨a,b,c⟩:=h;intro p hp;simp only[Ui,By,Mp] at hp;rcases hp with hp|rfl|hp
  .exact h1 a p hp
  .exact⟨_,c,rfl⟩
  .exact j b p hp
def VW{β:Type}:List β->Nat->Nat->List β
 |[],_,_=>[]
 |x::t,i,j=>(if i<min j 1 then[x] else[])++VW t (i-1) (j-1)
def Tb{β m:Type}(f:β->m)(l:List β)(i j:Nat):VW (l.map f) i j=(VW l i j).map f:=by
 induction l generalizing i j with
 |nil=>rfl
 |cons x l o=>simp only[lO,VW,o,kZ];split<;>rfl
def bg(l:List α)(i j:Nat):∀x∈VW l i j,x∈l:=by
 induction l generalizing i j with
 |nil=>intro x m;exact m
 |cons y l o=>
  intro x m;simp only[VW,By] at m;rcases m with m|m
  .split at m
   .simp at m;simp[m]
   .simp at m
  .exact kx _ (o _ _ x m)
def gT(l:List Nat)(i j:Nat):Lp.over l i j=VW l i j:=by
 induction l generalizing i j with
 |nil=>rfl
 |cons x l m=>rw[L9,m];rfl
def iM(l:List α)(i j:Nat):g.k.over l i j=VW l i j:=by
 induction l generalizing i j with
 |nil=>rfl
 |cons x l m=>
  simp only[Kd.over,VW,m,g.μ1];congr 1
  split
  .rename_i h;have e:g.k.part x i (min j 1)=x:=by unfold Kd.part;rw[g.μ1,Bp (by omega),Bp (by simp only;omega)]
   rw[e]
  .rfl
def cC:Wi g.toAvT:=by
 intro F C W b i j A T h hs V hu hb hi hj;apply g.ok.over;unfold YE;refine Cg rfl λb3 w1 a1 X Y=>?_;refine Cg rfl λb4 w2 a6 I Z=>?_;refine Cg rfl λb5 O a7 B B5=>?_;have o:=(X.trans I).trans B;have q:=h.grow o;have s1:=X.size;have s2:=I.size;have q3:=Y.lt (QC _);have q4:=Z.lt (QC _);have q5:=B5.lt (QC _);have s3:=B.size;have Q:g.k.over T.toL i j=(VW (Ui T) i j).map (·.2):=by rw[iM,<-aS,Tb]
 have eI:Lp.over T.idx i j=(VW (Ui T) i j).map (·.1):=by rw[gT,<-aM,Tb]
 refine⟨[.pointer (some ⟨b3,0,none⟩),.pointer (some ⟨b4,0,none⟩),.pointer (some ⟨b5,0,none⟩)],(Lp.over T.idx i j).map (Tx O b g.E),_,rfl,o,by rw[I3,eI,Q,I3,I3],λm m1 m2=>?_,λx U=>?_,OY q ((Y.grow I).grow B) (Z.grow B) B5 λl J Jx w4 g4 H hJ hz=>?_⟩
 .have hm:m<(VW (Ui T) i j).length:=by rw[Q,I3] at m2;exact m2
  obtain⟨n,hn,U⟩:=US V _ (bg _ i j _ (ku hm));obtain⟨c,p,m',k',e1,e2,_,_,_,r,hr,hc⟩:=R9 q hn;have er:=X4 hr;refine⟨r,?_,?_⟩
  .simp only[nA,eI];have e3:O.cell? (p.add ((VW (Ui T) i j)[m].1*(g.E+6)))=some (g.toAvK.enc r):=by
    have:=hc 0 (g.toAvK.enc r) (by rw[Q0 (by rw[g.rlen hr];exact g.Epos),er];unfold AvK.enc;rw[g.one1];rfl);rwa [lf] at this
   simp only[Tx,e1,e2,e3];rfl
  .simp only[Q,nA,<-U];exact hr
 .rcases U with e|e|e|e|e
  .exact⟨.inl e,q.lt x (.inl e)⟩
  .exact⟨.inr (.inl e),q.lt x (.inr e)⟩
  .exact⟨.inr (.inr (by omega)),by omega⟩
  .exact⟨.inr (.inr (by omega)),by omega⟩
  .exact⟨.inr (.inr (by omega)),by omega⟩
 .have H':Pn prog l J Jx O (λx=>F x\/C x) _ _:=⟨H.hJ,H.PW,λk It W hJ b hb hr=>H.JY k It W hJ b hb (hr.elim .inl λh=>.inr (.inl h)),H.bD⟩;have key:=Uw q hs H' T i j 0 (λ_=>False) w4 V hb hi hj hJ hz (λ_ h=>h.elim) (by rw[I3];omega) (λm hm=>?_)
  .rw[I3];rw[mQ] at key;exact key
  .simp[List.getD,hm]
end
def Tp{W0 q:World}{g c:Nat}{L M:List (List Attr)}{call:Value->Cont->World->Prop}{Kend:World->Prop}(a6:M.length=L.length)(hL:L.length<=109951162777)(hg:W0.heap.size<=g)(g1:Grow W0 q)
 (o:AE W0.heap.size 64 1 (Ca F) q (.slice (some ⟨g,0,none⟩) L.length c) L)(a7:∀b,F b->b≠g)
 (O:∀(j:Nat) (h1:j<L.length) (h2:j<M.length) (sv:Value) (W':World) (K:Cont),Mod (λb=>b=g) q W'->Ba F W' sv L[j]->(∀v' w',Ho W'.heap.size w' v' M[j]->Grow W' w'->K v' w')->call sv K W')
 (hK:∀w',AE W0.heap.size 64 1 (Ca (λb=>W0.heap.size<=b/\b≠g)) w' (.slice (some ⟨g,0,none⟩) L.length c) M->Mod (λb=>b=g) q w'->Kend w') :
  FK [(zI 0)] (λvs Q w2=>∀_:Env,
   GI .i64 (nth vs 0) (zI (L.length:Int)) λa8=>
   AZ a8
   (Ip 1 (.slice (some ⟨g,0,none⟩) L.length c) (nth vs 0) λak=>
   Ay ak (λal w3=>
   call al (λan w4=>
   Ip 1 (.slice (some ⟨g,0,none⟩) L.length c) (nth vs 0) λav=>
   CB av an (λw5=>
   CW .i64 (nth vs 0) (zI 1) λax=>
   Q [ax] w5) w4) w3) w2)
   (Kend w2)) q:=by
 have z1:=g1.size
 let Inv:Nat->World->Prop:=λi W'=>AE W0.heap.size 64 1 (λ_ _ _=>True) W' (.slice (some ⟨g,0,none⟩) L.length c) L/\Mod (λb=>b=g) q W'/\
  ∀j (h1:j<L.length) (h2:j<M.length),∃sv,W'.cell? ⟨g,j,none⟩=some sv/\Live W' ⟨g,j,none⟩/\(j<i->Ba (λb=>W0.heap.size<=b/\b≠g) W' sv M[j])/\(i<=j->Ba F W' sv L[j])
 have V:Inv 0 q:=by
  refine⟨o.any,Mod.refl _ _,λj h1 h2=>?_⟩;obtain⟨r,hr,ay,⟨sv,rfl,hs⟩,U⟩:=AE.cellsOf o h1;have e:∀x,j*1+x=j+x:=λx=>by omega
  refine⟨sv,by have:=ay 0 sv rfl;rwa [e,lf] at this,by have:=U 0 (by decide);rwa [e,lf] at this,λh=>by omega,λ_=>hs⟩
 refine AU (λvs W'=>∃i:Nat,i<=L.length/\vs=[zI i]/\Inv i W') (λvs _=>L.length-Dh vs 0) ⟨0,Nn _,rfl,V⟩ ?_;rintro vs w2 ⟨i,hi,rfl,oA,mA,rows⟩ _;rw[BQ,Nr,Ai];have z2:=mA.size;have bb:g<q.heap.size:=(AE.Aj o g rfl).2;refine AD (λbc=>?_) λbd=>?_
 .have m:i<L.length:=by omega
  obtain⟨sv,hc,U,_,aZ⟩:=rows i m (by omega);refine AS m ?_;rw[AI,oI];refine AJ hc ?_;refine O i m (by omega) sv w2 _ mA (aZ (K8 _)) λv' w4 oS B=>?_;have z4:=B.size;obtain⟨X,b0⟩:=oS.one;refine AS m ?_;rw[AI,oI];refine Live.st (U.mod B λh=>h) X b0 ?_;have b1:AE W0.heap.size 64 1 (λ_ _ _=>True) w4 (.slice (some ⟨g,0,none⟩) L.length c) L:=AE.mod oA B (λ_ _ h=>h) λ_ _ _ _=>trivial;have Y:=AE.Kz b1 m (j:=0) (by decide) X;rw[oI,lf] at Y;have m5:=LW w4 g i v';rw[AM,AK (by omega)];refine⟨⟨i+1,m,rfl,Y,(mA.next B λ_ _ h=>h.elim).next m5 λ_ _ e=>e,λj h1 h2=>?_⟩,by rw[Bw,Bw];omega⟩;obtain⟨b2,b6,Z,b7,a1⟩:=rows j h1 h2;have I:=B.cell b6 λh=>h;have J:Live w4 ⟨g,j,none⟩:=Z.mod B λh=>h;by_cases e:j=i
  .subst e;refine⟨v',lM w4 _ v' I,J.set _ _,λ_=>?_,λh=>by omega⟩;refine An.mono oS.sl (λb hb h=>⟨by have:=h.1;omega,λe=>by have:=h.1;omega⟩) (λb hb h=>m5.same b hb λe=>by have:=h.1;omega) (by decide) λr x hx=>hx
  .refine⟨b2,by rw[S4 w4 _ _ v' (by intro e2;simp only[Addr.mk.injEq] at e2;omega)];exact I,J.set _ _,λh=>?_,λh=>?_⟩
   .refine An.mono (b7 (by omega)) (λb hb h=>h) (λb hb h=>?_) (by decide) λr x hx=>hx;exact(m5.same b (by omega) λe=>h.2 e).trans (B.same b hb λh=>h)
   .refine An.mono (a1 (by omega)) (λb hb h=>h) (λb hb h=>?_) (by decide) λr x hx=>hx;exact(m5.same b (by omega) λe=>a7 b h e).trans (B.same b hb λh=>h)
 .have b8:i=L.length:=by omega
  subst b8;refine hK w2 ?_ mA;refine AE.conv (AE.len oA M a6) λj hj r b9 a1 ba=>?_;obtain⟨sv,hc,_,hd,_⟩:=rows j (by omega) hj;obtain⟨u,rfl⟩:∃u,r=[u]:=List.length_eq_one_iff.1 b9;have:=ba 0 u rfl;rw[oI,lf,hc] at this;cases this;exact⟨_,rfl,hd (by omega)⟩
def Ro{L:List (List Attr)}(h:An S 1 (Ca C) w v L)(hl:L.length*24<=140737488355328) :
  AB prog 245 [v] (λv' w'=>AE w.heap.size 64 1 (Ca λb=>C b/\b<w.heap.size) w' v' L/\Grow w w') w:=by
 refine uS1 (dB 267353 [] []) func245 (λ_ _ _=>⟨by conv=>lhs;reduce,by dsimp only[PI,AF],by kernel_rfl⟩) ?_;unfold uI;have h':An S 1 (Ca λb=>C b/\b<w.heap.size) w v L:=An.mono h (λ_ _ h=>h) (λ_ _ _=>rfl) (by decide) λr x i=>Au.rsub i λy j hc=>⟨hc,j⟩;exact Ib Au.elE h' hl (λ_ _ _ i=>Au.rone i) (λq w2 r y B hm j=>Au.BO j hm λb hb m I=>by have:=m.2;omega) λv' w' h1 o=>And.intro h1 o
def Kb{L:List (List Attr)}(h:An S 1 (Ca C) w v L)(hl:L.length<=5497558138)(O:∀x∈L,x.length*48<=140737488355328) :
  AB prog 155 [v] (λv' w'=>AE w.heap.size 64 1 (Ca λb=>w.heap.size<=b/\v'.ownBlock≠some b) w' v' L/\Grow w w') w:=by
 refine uS1 (dB 551100924617 [([9],[(4,4),(9,20)])] []) func155 (λ_ _ _=>⟨by conv=>lhs;reduce,by dsimp only[PI,AF],by kernel_rfl⟩) ?_;unfold uI;refine AA (Ro h (by omega)) ?_;rintro v1 J ⟨i,o⟩;obtain⟨Q,c1,rfl,U,V,hp,X⟩:=AE.shape i;rw[AO];cases Q with
 |none=>
  have:=X rfl;subst this;refine AU (λvs w2=>vs=[zI 0]/\w2=J) (λ_ _=>0) ⟨rfl,rfl⟩ ?_;rintro vs _ ⟨rfl,rfl⟩ _;rename World=>J
  rw[BQ,Nr,Ai];exact AD (λh=>by simp at h) λ_=>⟨AE.mod i (Mod.refl (λ_=>False) _) (λ_ _ h=>h) λr y q=>by simp at q,o⟩
 |some p1=>
  obtain⟨g,rfl,B,Y,_⟩:=hp _ rfl;refine Tp (call:=λsv K W'=>AB prog 83 [sv] K W') (Kend:=λw2=>AE w.heap.size 64 1 (Ca λb=>w.heap.size<=b/\(Value.slice (some ⟨g,0,none⟩) L.length c1).ownBlock≠some b) w2 (.slice (some ⟨g,0,none⟩) L.length c1) L/\Grow w w2) (M:=L) rfl (by omega) B o i (λb hb e=>by have:=hb.2;omega) (λj Z q2 sv W' K hm I hK=>?_) λw' oM m=>⟨?_,o.next m λb hb e=>by omega⟩
  .refine AA (Eh I (O _ (ku Z))) ?_;rintro v' w' ⟨k1,k2⟩;exact hK v' w' k1 k2
  .refine AE.mod oM (Mod.refl (λ_=>False) _) (λ_ _ h=>h) λr y _ q=>Au.rsub q λb hb h=>⟨h.1,λe=>?_⟩;simp only[Value.ownBlock,gM] at e;exact h.2 e.symm
def Qv{cap vals:List Value}{Rd C:Nat->Prop}{X:List (List Attr)}(hs:Lb True prog N cap (λk=>[vals.getD k undef]) vals.length Rd W)(al:CS N=true)(hv:vals.length=X.length)(O:∀m (h1:m<vals.length) (Y:m<X.length),Ba C W vals[m] X[m])(JY:∀x,Rd x->x<W.heap.size)(hl:X.length<=5497558138) :
  AB prog 156 [.func (.func N) #[] cap.toArray] (λv' w'=>AE W.heap.size 64 1 (Ca λb=>C b/\b<W.heap.size) w' v' X/\Grow W w') W:=by
 refine uS1 (dB 9 [] []) func156 (λ_ _ _=>⟨by conv=>lhs;reduce,by dsimp only[PI,AF],by kernel_rfl⟩) ?_;unfold uI;apply aF;unfold S246;refine Cg rfl λc I hc g1 B=>?_;have b6:=B.lt (QC _);have z1:=g1.size;have GF:∀{M:Nat->Prop} {w2 w3:World} {r:List Value} {x:List Attr},Mod M w2 w3->(∀b,b<W.heap.size->¬M b)->Ca (λb=>C b/\b<W.heap.size) w2 r x->Ca (λb=>C b/\b<W.heap.size) w3 r x:=λhm hn hy=>Au.BO hy hm λb _ hd=>hn b hd.2;have an:∀m (h1:m<vals.length) (Y:m<X.length),Ca (λb=>C b/\b<W.heap.size) I [vals[m]] X[m]:=λm q1 q2=>GF (w2:=W) g1 (λ_ _ h=>h) ⟨_,rfl,(O m q1 q2).mono (λb hb h=>⟨h,hb⟩) (λ_ _ _=>rfl) (by decide) λ_ _ h=>h⟩;refine Jh ⟨True,N,cap,_,_,_,rfl,al,hs.grow g1,λk _=>rfl,?_⟩;refine⟨λk Q W'=>∃out,Yi 64 1 (Ca λb=>C b/\b<W.heap.size) I.heap.size c I.heap.size Q W' out (X.take k)/\Mod (λx=>x=c) I W'/\k<=X.length,λ_ _ _=>False,⟨_,⟨B,AE.nil,λg i=>nomatch i⟩,Mod.refl _ _,Nn _⟩,?_,λx Q av W W' h=>h.elim,?_,?_,?_,λx Q W h=>h.elim⟩
 .rintro k Q av W' b7 ⟨out,q,m,hk⟩ hm j;have a7:=q.box.lt (QC _);have hn:∀x,x<I.heap.size->¬((¬True/\Q x)\/x=I.heap.size\/x=I.heap.size+1):=λx O=>by rintro(⟨h,_⟩|h|h);exact h trivial;all_goals omega
  refine⟨out,⟨q.box.mod hm (hn c (by omega)),AE.mod q.row hm (λg i=>?_) λ_ _ _ h=>GF hm (λb hb=>hn b (by omega)) h,λg i=>?_⟩,m.next hm λx O=>?_,hk⟩
  .obtain⟨_,Y,h3,_⟩:=q.hc g i;rintro(⟨h,_⟩|h|h)
   .exact h trivial
   .exact Y h
   .exact h3 h
  .obtain⟨h1,Y,h3,h4⟩:=q.hc g i;refine⟨h1,Y,h3,λh=>?_⟩;rcases(j g h).1 with h|h
   .exact h4 h
   .have:=(AE.Aj q.row g i).2;omega
  .intro e;exact absurd e (hn x O)
 .rintro k Q W' ⟨out,q,m,hk⟩ b hb hr;exact m.same b hb λe=>by have:=JY b hr;omega
 .rintro k Q W' hk ⟨out,q,m,b8⟩ hz j;have U:k<X.length:=by omega
  have Z:(nth [vals.getD k undef] 0)=vals[k]:=by
   show vals.getD k undef=_;rw[mP,Bq hk,pQ]
  rw[Z];refine Kn (Mod.refl (λ_=>False) _) hz j (λ_ _ h=>h.elim) λW6 o=>?_;have z6:=o.size;have zm:=m.size;have a7:=q.box.lt (QC _);have B6:=q.box.mod o (by omega);have o6:AE I.heap.size 64 1 (Ca λb=>C b/\b<W.heap.size) W6 out (X.take k):=AE.mod q.row o (λg i=>(q.hc g i).2.2.1) λ_ _ _ h=>GF o (λb hb e=>by omega) h;have a8:=GF o (λb hb e=>by omega) (GF m (λb hb e=>by omega) (an k hk U));refine AJ (B6.cells 0 _ rfl) ?_;have b9:(X.take k).length<=X.length:=by simp;omega
  have a1:(vals[k]).cells=[vals[k]].toArray:=by
   obtain⟨sv,e,ax⟩:=a8;cases e;obtain⟨a,c,e,_⟩:=ax.shape;rw[e];rfl
  refine Dp Au.elE o6 (by omega) (cs:=[vals[k]]) (x:=X[k]) (DD (v:=vals[k]) rfl (by decide) a1 rfl) rfl a8 (λ_ _ _ h=>Au.rone h) (λw2 w3 r y ba hm hy=>GF hm (λb hb e=>?_) hy) (by show _*24<=_;omega) (by simp only[maxLen];omega) λak W9 o9 m9 n9=>?_
  .rcases e with e|e
   .have:=(AE.Aj o6 b e).1;omega
   .omega
  have z9:=m9.size;have bb:=AE.Aj o6;have B9:=B6.mod m9 λe=>(q.hc c e).1 rfl;obtain⟨ay,aZ⟩:=o9.one;refine B9.st (q:=0) (show 0<1 by decide) ay aZ λb0 b1 J=>?_;have bc:=J.size;have V:Mod (λx=>x=c\/out.ownBlock=some x) W6 b0:=(m9.mono λ_ _ e=>.inr e).trans (J.mono λ_ _ e=>.inl e);refine⟨N9 V (by omega) (λb hb=>by have:=(j b hb).1;omega) (λb _ e=>?_),ak,⟨b1,?_,λg i=>?_⟩,?_,by omega⟩
  .rcases e with rfl|e
   .exact⟨λh=>by have:=(j b h).2;omega,by omega,by omega⟩
   .obtain⟨h1,Y,h3,h4⟩:=q.hc b e;exact⟨h4,Y,h3⟩
  .have b2:X.take (k+1)=X.take k++[X[k]]:=by rw[S5];simp[U]
   rw [b2];exact AE.mod o9 J (λg i e=>by
    rcases n9 g i with h|h
    .exact(q.hc g h).1 e
    .omega) λ_ _ _ h=>GF J (λb hb e=>by omega) h
  .rcases n9 g i with h|h
   .exact q.hc g h
   .refine⟨by omega,by omega,by omega,λhI=>by have:=(j g hI).1;omega⟩
  .refine(m.next o λx O e=>by omega).next V λx O e=>?_;rcases e with e|e
   .exact e
   .have:=(AE.Aj q.row x e).1;omega
 .rintro Q W' ⟨out,q,m,hk⟩ _ _ hd;refine AJ (q.box.cells 0 _ rfl) ⟨hd,?_⟩;have a6:Mod (λb=>b=I.heap.size) W' (W'.putObj I.heap.size (.deferred none)):=Mod.putObj _ _ _ rfl;rw[hv,S7] at q;refine⟨AE.base (AE.mod q.row a6 (λg i=>(q.hc g i).2.1) λ_ _ _ h=>GF a6 (λb hb e=>by omega) h) λg i=>?_,?_⟩
  .have:=(AE.Aj q.row g i).1;omega
  exact(g1.next m λx O e=>by omega).next a6 λx O e=>by omega
def Kg(l:List (List Attr)):Tr.sz GY.μ l=l.length:=by
 induction l with
 |nil=>rfl
 |cons x l i=>rw[Tr.BS,i,gD];show 1+l.length=_;omega
def fW(l:List (List Attr)):Tr.mk GY.μ l=0:=by
 induction l with
 |nil=>rfl
 |cons x l i=>rw[Tr.Cw,i];rfl
def Kq{l:List (List Attr)}(h:l.length<=1099511627776):EB Au.toAvT l:=⟨by show Tr.sz GY.μ l<=_;rw[Kg];exact h,by show Tr.mk GY.μ l<=_;rw[fW];omega⟩
def OX:GY.FW (λx:List Attr=>[x]) where
 size:=λ_=>rfl
 cut1:=λ_ p h0 h1=>by simp at h1;omega
 melds:=λa b c h=>by cases h
def QD(l:List (List Attr)):l.flatMap (λx=>[x])=l:=by simp
def Yh(l:List (List Attr))(i j:Nat):GY.over l i j=(l.take j).drop i:=by
 have:=OX.over l i j;rwa [QD,QD] at this
def Jk(t l:List (List Attr)){i j:Nat}(m:i<=j):GY.Bl t i j l=t.take i++l++t.drop j:=by
 have:=OX.Bl t l m;rwa [QD,QD,QD] at this
def Dj.sub{g:AvT α}{F C C':Nat->Prop}{b:Nat}{m:Int}{A:ArS α}(h:Dj g F C W b m A)(hC:∀x,C x->C' x)(o:∀x,F x->¬C' x)(j:∀x,C' x->x<W.heap.size):Dj g F C' W b m A:=by
 obtain⟨c,pl,fr,i⟩:=h;exact⟨c,pl,fr,i.box,i.ar.sub hC (λx q=>o x q.1) j,i.fb.1,o b i.fb.1⟩
def Dk.sub{g:AvT α}{F C C':Nat->Prop}{b bt N:Nat}{l:List α}(h:Dk g F C W b bt l N)(hC:∀x,C x->C' x)(j:∀x,F x->¬C' x)(i:∀x,C' x->x<W.heap.size):Dk g F C' W b bt l N:=by
 obtain⟨A,T,h1,r⟩:=h.EI;exact⟨h.box,⟨A,T,h1.sub hC (λx m=>j x m.1) i,r⟩,h.fb.1,j b h.fb.1⟩
def toList_le(o:Option α):o.toList.length<=1:=by cases o<;>simp
section
variable {F C:Nat->Prop}{W:World}{b bt N:Nat}{L:List (List Attr)}
def O3{k m:Nat}(h:Dk Au.toAvT F C W b bt L N)(hN:N<=109951162000)(o:k<=m)(hm:m<=L.length)(hl:L.length<=536870912)(hs:∀x∈L,x.length*48<=140737488355328) :
  AB prog 80 [.pointer (some ⟨b,0,none⟩),zI (k:Int),zI (m:Int)] (λv' w'=>∃(rv:Value) (W0:World),v'=.tuple #[rv,zI 0]/\Grow W W0/\Grow W0 w'/\AE W0.heap.size 64 1 (Ca λb=>W0.heap.size<=b/\rv.ownBlock≠some b) w' rv ((L.take m).drop k)) W:=by
 refine uS3 (dB 2138713 [] []) func80 (λ_ _ _ _ _=>⟨by conv=>lhs;reduce,by dsimp only[PI,AF],by kernel_rfl⟩) ?_;unfold uI;refine AA (Jp E2 h) ?_;rintro _ w1 ⟨rfl,q⟩;rw[show Tr.sz Au.toAvT.k.μ L=L.length from Kg L,Jc o hm,BL];refine AW (λ_=>?_) λe=>(e rfl).elim;have U:=h.grow q;refine AA (ES E2 U) ?_;rintro _ _ ⟨rfl,rfl⟩;rename World=>w1
 obtain⟨A,T,t1,t2,t3,rfl,t5⟩:=U.EI;refine AA (cC (g:=Au) t1 (by omega) t2 t3 (Kq (by omega)) (by omega) (by omega)) ?_;rintro _ w3 ⟨cap,vals,Rd,rfl,V,B,I,JY,i⟩;have J:GY.over T.toL k m=(T.toL.take m).drop k:=Yh _ _ _;have a1:(GY.over T.toL k m).length<=536870912:=by rw[J,Hy,Lc];omega
 refine AA (Qv (C:=C) (X:=GY.over T.toL k m) i (by kernel_rfl) B (λp q1 q2=>?_) (λx j=>(JY x j).2) (by omega)) ?_
 .obtain⟨r,e1,e2⟩:=I p q1 q2;obtain⟨sv,rfl,O⟩:Ca C w3 r (GY.over T.toL k m)[p]:=e2;rw[e1];exact O
 rintro rv w4 ⟨o4,Y⟩;refine AA (Kb (AE.sl o4) (by omega) λx j=>hs x ?_) ?_
 .rw[J] at j;exact lJ (ky j)
 rintro Q w5 ⟨Z,g5⟩;have z1:=q.size;have z3:=V.size;have z4:=Y.size;rw[J] at Z;exact⟨Q,w4,rfl,(q.trans V).trans Y,g5,Z⟩
def Ud{S D:Nat->Prop}{k:Nat}{R:List (List Attr)}(h:Dk Au.toAvT F C W b bt L N)(hN:N<=100000000000)(hk:k<=L.length)(hl:L.length+R.length<=536870912)(X:An S 1 (Ca D) W v R)(hs:∀x∈R,x.length*48<=140737488355328) :
  AB prog 179 [.pointer (some ⟨b,0,none⟩),zI (k:Int),v] (λv' w'=>v'=zI 0/\∃F' C',(∀x,F x->F' x)/\(∀x,C x->C' x)/\(∀x,F' x->F x\/W.heap.size<=x)/\(∀x,C' x->C x\/W.heap.size<=x)/\Dk Au.toAvT F' C' w' b bt (L.take k++R++L.drop k) (N+R.length+4)/\Mod F W w') W:=by
 refine uS3 (dB 619840578137 [] []) func179 (λ_ _ _ _ _=>⟨by conv=>lhs;reduce,by dsimp only[PI,AF],by kernel_rfl⟩) ?_;unfold uI;refine AA (Jp E2 h) ?_;rintro _ w1 ⟨rfl,q⟩;have m:∀M:List (List Attr),Tr.sz Au.toAvT.k.μ M=M.length:=Kg;rw[m,Jc (K8 _) hk,BL];refine AW (λ_=>?_) λe=>(e rfl).elim;obtain⟨a,c,rfl,_⟩:=X.shape;rw[AO];refine AA (Mz E2 (h.grow q)) ?_;rintro _ w2 ⟨rfl,Y⟩;rw[m,Am,wrap64 (by omega) (by omega),BE];refine AD (λe=>by omega) λ_=>?_;have Z:=(h.grow q).grow Y;refine AA (ES E2 Z) ?_;rintro _ w3 ⟨rfl,e3⟩;subst e3;rename World=>w2
 have j:=q.trans Y;have B:An (λb=>S b/\b<W.heap.size) 1 (Ca λb=>D b/\b<W.heap.size) w2 (.slice a R.length c) R:=An.mono (X.Gw (by decide)) (λ_ _ h=>h) (λb hb _=>j.same b hb λh=>h) (by decide) λr x i=>Au.BO (Au.rsub i λy I o=>⟨o,I⟩) j λ_ _ _ h=>h;refine AA (Kb B (by omega) hs) ?_;rintro v4 w4 ⟨o4,J⟩;have a1:=j.size;have z4:=J.size;have hF:=h.lt
 let C':Nat->Prop:=λx=>C x\/(w2.heap.size<=x/\x<w4.heap.size/\v4.ownBlock≠some x)
 have h4:Dk Au.toAvT F C' w4 b bt L N:=(Z.grow J).sub (λx i=>.inl i) (λx i e=>by
   rcases e with e|e
   .exact h.JB x i e
   .have:=hF x (.inl i);omega) λx e=>by
   rcases e with e|e
   .have:=hF x (.inr e);omega
   .exact e.2.1
 have O:AE w2.heap.size 64 1 (Ca C') w4 v4 R:=AE.mod o4 (Mod.refl (λ_=>False) _) (λ_ _ h=>h) λr y _ I=>Au.rsub I λx i o=>.inr ⟨o.1,i,o.2⟩;have er:=Jk L R (K8 k);have Q:(GY.Bl L k k R).length<=1099511627776:=by rw[er];simp only[BW,Lc,Hy];omega
 refine AA (JF (Ti (g:=Au)) (L:=R) h4 (by omega) O.sl (λx i U=>by have:=hF x (.inl U);have:=i.1;omega) (K8 k) (by omega) (Kq (by omega)) (Kq (l:=GY.Bl L k k R) Q) (Kq (l:=(GY.split L k).1.getLast?.toList++R++(GY.split (GY.split L k).2 (k - k)).2.head?.toList) (by
  have q1:=toList_le (GY.split L k).1.getLast?;have q2:=toList_le (GY.split (GY.split L k).2 (k - k)).2.head?;simp only [BW];omega))) ?_
 rintro _ w5 ⟨F',k1,k2,k3,k4⟩;have V:Au.toAvT.k.Bl L k k R=L.take k++R++L.drop k:=er;rw[V] at k3;refine⟨rfl,F',C',k1,λx i=>.inl i,λx i=>(k2 x i).imp (λh=>h) λh=>by omega,λx i=>i.imp (λh=>h) λh=>by omega,k3,((j.trans J).mono λ_ _ h=>h.elim).trans k4⟩
def Vt{k m:Nat}(h:Dk Au.toAvT F C W b bt L N)(X:N<=100000000000)(i:k<=m)(hm:m<=L.length)(hl:L.length<=536870912) :
  AB prog 203 [.pointer (some ⟨b,0,none⟩),zI (k:Int),zI (m:Int)] (λv' w'=>v'=zI 0/\∃F',(∀x,F x->F' x)/\(∀x,F' x->F x\/W.heap.size<=x)/\Dk Au.toAvT F' C w' b bt (L.take k++L.drop m) (N+4)/\Mod F W w') W:=by
 refine uS3 (dB 18915929 [] []) func203 (λ_ _ _ _ _=>⟨by conv=>lhs;reduce,by dsimp only[PI,AF],by kernel_rfl⟩) ?_;unfold uI;refine AA (Jp E2 h) ?_;rintro _ O ⟨rfl,j⟩;rw[show Tr.sz Au.toAvT.k.μ L=L.length from Kg L,Jc i hm,BL];refine AW (λ_=>?_) λe=>(e rfl).elim;have I:=h.grow j;refine AA (ES E2 I) ?_;rintro _ _ ⟨rfl,rfl⟩;rename World=>O
 have o:=Jk L [] i;rw[lA] at o;have q:(GY.Bl L k m []).length<=1099511627776:=by rw[o];simp only[BW,Lc,Hy];omega
 refine AA (JF (Ti (g:=Au)) (L:=[]) (S:=λ_=>False) I (by simp only [lX];omega) An.nil (λ_ h=>h.elim) i (by omega) (Kq (by omega)) (Kq (l:=GY.Bl L k m []) q) (Kq (l:=(GY.split L k).1.getLast?.toList++[]++(GY.split (GY.split L k).2 (m - k)).2.head?.toList) (by
  have Y:=toList_le (GY.split L k).1.getLast?;have Z:=toList_le (GY.split (GY.split L k).2 (m - k)).2.head?;simp only [BW,lX];omega))) ?_
 rintro _ Q ⟨F',k1,k2,J,U⟩;have z1:=j.size;have B:Au.toAvT.k.Bl L k m []=L.take k++L.drop m:=o;rw[B] at J;exact⟨rfl,F',k1,λx V=>(k2 x V).imp (λh=>h) λh=>by omega,J,(j.mono λ_ _ h=>h.elim).trans U⟩
end
section
variable {F C:Nat->Prop}{W:World}{b bt N:Nat}{L:List (List Attr)}
def fQ(h:Dk Au.toAvT F C W b bt L N):AB prog 85 [.pointer (some ⟨b,0,none⟩)] (λv' w'=>v'=zI (L.length:Int)/\Grow W w') W:=by
 refine AA (Mz E2 h) ?_;rintro _ w ⟨rfl,g⟩;refine⟨?_,g⟩;rw[show Tr.sz Au.toAvT.k.μ L=L.length from Kg L]
def Y9{k m:Nat}{p:List Chg}(h:Dk Au.toAvT F C W b bt L N)(hN:N<=100000000000)(q:k<=m)(hm:m<=L.length)(hl:L.length<=536870912)(hs:∀x∈L,x.length*48<=140737488355328)(hp:EV S W v p)(hb:∀x∈L,x.length+p.length<=1099511627776) :
  AB prog 201 [.pointer (some ⟨b,0,none⟩),zI (k:Int),zI (m:Int),v] (λv' w'=>v'=zI 0/\∃F' C',(∀x,F x->F' x)/\(∀x,C x->C' x)/\(∀x,F' x->F x\/W.heap.size<=x)/\(∀x,C' x->C x\/W.heap.size<=x)/\Dk Au.toAvT F' C' w' b bt (L.take k++((L.take m).drop k).map (λx=>BZ x p)++L.drop m) (N+L.length+4)/\Mod F W w') W:=by
 refine uS4 (dB 162173663173452489 [([24],[(11,11),(24,36)])] []) func201 (λ_ _ _ _ _ _=>⟨by conv=>lhs;reduce,by dsimp only[PI,AF],by kernel_rfl⟩) ?_;unfold uI;refine AA (O3 h (by omega) q hm hl hs) ?_;rintro _ I ⟨rv,W0,rfl,gA,gB,o⟩;refine BI ?_;refine Ko ?_;have zA:=gA.size;have zB:=gB.size;have hF:=h.lt;have B:=gA.trans gB;generalize hX:(L.take m).drop k=X at *;have b0:X.length<=L.length:=by rw[<-hX,Hy,Lc];omega
 have a6:∀x∈X,x∈L:=λx i=>by rw[<-hX] at i;exact lJ (ky i)
 have a7:=hp.Gw (by decide);have fin:∀(w2:World) (Y:Nat->Prop),(∀x,Y x->W0.heap.size<=x/\rv.ownBlock≠some x)->AE W0.heap.size 64 1 (Ca Y) w2 rv (X.map λx=>BZ x p)->Mod (λx=>rv.ownBlock=some x) I w2->
   AB prog 157 [.pointer (some ⟨b,0,none⟩)] (λa8 w6=>AB prog 281 [a8,zI (k:Int),zI (m:Int),rv] (λ_ w'=>(zI 0:Value)=zI 0/\∃F' C',(∀x,F x->F' x)/\(∀x,C x->C' x)/\(∀x,F' x->F x\/W.heap.size<=x)/\(∀x,C' x->C x\/W.heap.size<=x)/\Dk Au.toAvT F' C' w' b bt (L.take k++X.map (λx=>BZ x p)++L.drop m) (N+L.length+4)/\Mod F W w') w6) w2:=by
  intro w2 Y J o2 m2;have z2:=m2.size;have O:=AE.Aj o;have aZ:=AE.Aj o2
  let C':Nat->Prop:=λx=>C x\/(Y x/\x<w2.heap.size)
  have h2:Dk Au.toAvT F C w2 b bt L N:=(h.grow B).mod m2 λx i e=>by
   have:=hF x i;have:=(O x e).1;omega
  have h4:Dk Au.toAvT F C' w2 b bt L N:=h2.sub (λx i=>.inl i) (λx i e=>by
    rcases e with e|e
    .exact h.JB x i e
    .have:=hF x (.inl i);have:=(J x e.1).1;omega) λx e=>by
    rcases e with e|e
    .have:=hF x (.inr e);omega
    .exact e.2
  have o4:AE W0.heap.size 64 1 (Ca C') w2 rv (X.map λx=>BZ x p):=AE.mod o2 (Mod.refl (λ_=>False) _) (λ_ _ h=>h) λr y _ hy=>Au.rsub hy λx i hd=>.inr ⟨hd,i⟩;have er:=Jk L (X.map λx=>BZ x p) q;have Q:(X.map λx=>BZ x p).length=X.length:=I3 _;have ak:(GY.Bl L k m (X.map λx=>BZ x p)).length<=1099511627776:=by rw[er];simp only[BW,Lc,Hy,Q];omega
  refine AA (ES E2 h4) ?_;rintro _ w3 ⟨rfl,e3⟩;subst e3;refine AA (JF (Ti (g:=Au)) (L:=X.map λx=>BZ x p) h4 (by omega) o4.sl (λx i al=>by have:=hF x (.inl al);have:=i.1;omega) q (by omega) (Kq (by omega)) (Kq (l:=GY.Bl L k m (X.map λx=>BZ x p)) ak) (Kq (l:=(GY.split L k).1.getLast?.toList++(X.map λx=>BZ x p)++(GY.split (GY.split L k).2 (m - k)).2.head?.toList) (by
   have q1:=toList_le (GY.split L k).1.getLast?;have q2:=toList_le (GY.split (GY.split L k).2 (m - k)).2.head?;simp only [BW,Q];omega))) ?_
  rintro _ w5 ⟨F',k1,k2,Z,k4⟩;have an:Au.toAvT.k.Bl L k m (X.map λx=>BZ x p)=L.take k++X.map (λx=>BZ x p)++L.drop m:=er;rw[an] at Z;obtain⟨A,T,t1,t2,t3,t4,t5⟩:=Z.EI;refine⟨rfl,F',C',k1,λx i=>.inl i,λx i=>(k2 x i).imp (λh=>h) λh=>by omega,λx i=>i.imp (λh=>h) λh=>by have:=(J x h.1).1;omega,⟨Z.box,⟨A,T,t1,t2,t3,t4,by omega⟩,Z.fb⟩,((B.next m2 λx i e=>by have:=(O x e).1;omega).mono λ_ _ h=>h.elim).trans k4⟩
 obtain⟨a1,c1,rfl,b1,b2,hq,hn⟩:=AE.shape o;rw[AO];cases a1 with
 |none=>
  have:=hn rfl;subst this;refine AU (λvs w2=>vs=[zI 0]/\w2=I) (λ_ _=>0) ⟨rfl,rfl⟩ ?_;rintro vs _ ⟨rfl,rfl⟩ _;rename World=>I
  rw[BQ,Nr,Ai];exact AD (λh=>by simp at h) λ_=>fin I (λ_=>False) (λ_ h=>h.elim) (AE.mod (R':=Ca λ_=>False) o (Mod.refl (λ_=>False) _) (λ_ _ h=>h) λr y hy _=>by simp at hy) (Mod.refl _ _)
 |some p1=>
  obtain⟨g,rfl,av,b6,_⟩:=hq _ rfl;refine Tp (W0:=W0) (call:=λsv K W'=>AB prog 142 [sv,v] K W') (M:=X.map λx=>BZ x p) (I3 _) (by omega) av gB o (λx i e=>i.2 (by rw[e];rfl)) (λj q1 q2 sv W' K U ax hK=>?_) λw' oM mm=>?_
  .have b7:=U.size;have ay:EV (λx=>S x/\x<W.heap.size) W' v p:=An.mono (An.mono (R':=Ef) (w':=I) a7 (λ_ _ h=>h) (λx i _=>B.same x i λh=>h) (by decide) λ_ _ h=>h) (λ_ _ h=>h) (λx i hS=>U.same x i λe=>by have:=hS.2;omega) (by decide) λ_ _ h=>h;refine AA (PT ax ay (hb _ (a6 _ (ku q1)))) ?_;rintro v' w' ⟨k1,k2⟩;exact hK v' w' (by rw[nA];exact k1) k2
  .refine fin w' _ (λx i=>⟨i.1,λe=>?_⟩) oM (mm.mono λx _ e=>by subst e;rfl);simp only[Value.ownBlock,gM] at e;exact i.2 e.symm
end
def fq:AB prog 97 [] (λv' w'=>∃b,v'=.pointer (some ⟨b,0,none⟩)/\W.heap.size<=b/\Bx w' b [.pointer none]/\Grow W w') W:=by
 refine uS0 (dB 9 [] []) func97 (λ_ _=>⟨by conv=>lhs;reduce,by dsimp only[PI,AF],by kernel_rfl⟩) ?_;unfold uI;refine⟨[Value.pointer none].toArray,by kernel_rfl,?_⟩;exact Bx.box λb j hb i B=>⟨b,rfl,hb,B,i⟩
def eH:AB prog 98 [] (λv' w'=>∃b,v'=.pointer (some ⟨b,0,none⟩)/\W.heap.size<=b/\Bx w' b [.pointer none]/\Grow W w') W:=by
 refine uS0 (dB 9 [] []) func98 (λ_ _=>⟨by conv=>lhs;reduce,by dsimp only[PI,AF],by kernel_rfl⟩) ?_;unfold uI;refine⟨[Value.pointer none].toArray,by kernel_rfl,?_⟩;exact Bx.box λb j hb i B=>⟨b,rfl,hb,B,i⟩
def fA:AB prog 99 [] (λv' w'=>∃b,v'=.pointer (some ⟨b,0,none⟩)/\W.heap.size<=b/\Bx w' b [.pointer none]/\Grow W w') W:=by
 refine uS0 (dB 9 [] []) func99 (λ_ _=>⟨by conv=>lhs;reduce,by dsimp only[PI,AF],by kernel_rfl⟩) ?_;unfold uI;refine⟨[Value.pointer none].toArray,by kernel_rfl,?_⟩;exact Bx.box λb j hb i B=>⟨b,rfl,hb,B,i⟩
def RT{b:Nat}(i:Bx W b [.pointer none]) :
  AB prog 62 [.pointer (some ⟨b,0,none⟩),zI 0] (λv' w'=>v'=.tuple #[zI 0,zI 0]/\∃bt F,Dk Ap.toAvT F Gl w' b bt [] 0/\(∀x,F x->x=b\/W.heap.size<=x)/\Mod (λx=>x=b) W w') W:=by
 refine uS2 (dB 2138713 [] []) func62 (λ_ _ _ _=>⟨by conv=>lhs;reduce,by dsimp only[PI,AF],by kernel_rfl⟩) ?_;unfold uI;have j:=i.lt (QC _);refine AA (K:=λv' w'=>v'=zI 0/\∃bt F,Dk Ap.toAvT F Gl w' b bt [] 0/\(∀x,F x->x=b\/W.heap.size<=x)/\Mod (λx=>x=b) W w') ?_ ?_
 .apply En.jh;unfold Zz;refine CY (AL ?_);rw[Ai];refine AD (λe=>by omega) λ_=>?_;rw[BE];refine AD (λe=>by omega) λ_=>?_;refine AA (Wj (g:=Ap.toAvT) (C:=Gl) En i (λh=>h) λ_ h=>h.elim) ?_;rintro _ m ⟨rfl,h⟩;rw[BE];exact AD (λe=>by omega) λ_=>⟨rfl,h⟩
 rintro _ m ⟨rfl,bt,F,h,hF,q⟩;refine Ko ?_;refine AA (ES En h) ?_;rintro _ _ ⟨rfl,rfl⟩;rename World=>m
 obtain⟨A,T,B,I,t3,t4,t5⟩:=h.EI;refine AA (RS (p:=0) B I (Nn _) (Ng (by rw[t4];exact Nn _))) ?_;rintro _ w2 ⟨rfl,o⟩;refine⟨by rw[nx];rfl,bt,F,h.grow o,hF,q.next o λ_ _ h=>h.elim⟩
def Qz{S D:Nat->Prop}{b:Nat}{R:List (List Attr)}(hB:Bx W b [.pointer none])(hl:R.length<=536870912)(hv:An S 1 (Ca D) W v R)(I:∀x,S x\/D x->x≠b)(hs:∀x∈R,x.length*48<=140737488355328) :
  AB prog 179 [.pointer (some ⟨b,0,none⟩),zI 0,v] (λv' w'=>v'=zI 0/\∃bt F' C',(∀x,F' x->x=b\/W.heap.size<=x)/\(∀x,C' x->W.heap.size<=x)/\Dk Au.toAvT F' C' w' b bt R (R.length+4)/\Mod (λx=>x=b) W w') W:=by
 refine uS3 (dB 619840578137 [] []) func179 (λ_ _ _ _ _=>⟨by conv=>lhs;reduce,by dsimp only[PI,AF],by kernel_rfl⟩) ?_;unfold uI;have a7:=hB.lt (QC _);refine AA (K:=λv' w'=>v'=zI 0/\∃bt F,Dk Au.toAvT F Gl w' b bt [] 0/\(∀x,F x->x=b\/W.heap.size<=x)/\Mod (λx=>x=b) W w') ?_ ?_
 .apply E2.jh;unfold Zz;refine CY (AL ?_);rw[Ai];refine AD (λe=>by omega) λ_=>?_;rw[BE];refine AD (λe=>by omega) λ_=>?_;refine AA (Wj (g:=Au.toAvT) (C:=Gl) E2 hB (λh=>h) λ_ h=>h.elim) ?_;rintro _ w1 ⟨rfl,h⟩;rw[BE];exact AD (λe=>by omega) λ_=>⟨rfl,h⟩
 rintro _ w1 ⟨rfl,bt,F,h1,hF,m1⟩;refine Ko ?_;obtain⟨a,c,rfl,_⟩:=hv.shape;have J:∀M:List (List Attr),Tr.sz Au.toAvT.k.μ M=M.length:=Kg;rw[AO];refine AA (Mz E2 h1) ?_;rintro _ w2 ⟨rfl,O⟩;rw[J,Am,wrap64 (by simp) (by simp),BE];refine AD (λe=>by simp only[lX] at e;omega) λ_=>?_;have Q:=h1.grow O;refine AA (ES E2 Q) ?_;rintro _ w3 ⟨rfl,e3⟩;subst e3;rename World=>w2
 have z1:=m1.size;have z2:=O.size;have o:Mod (λx=>x=b) W w2:=m1.next O λ_ _ h=>h.elim;have U:An (λx=>(S x/\x<W.heap.size)/\x≠b) 1 (Ca λx=>(D x/\x<W.heap.size)/\x≠b) w2 (.slice a R.length c) R:=An.mono (hv.Gw (by decide)) (λx _ h=>⟨h,I x (.inl h.1)⟩) (λx m h=>o.same x m λe=>I x (.inl h.1) e) (by decide) λr x m=>Au.BO (Au.rsub m λy V q=>⟨⟨q,V⟩,I y (.inr q)⟩) o λy _ q e=>q.2 e;refine AA (Kb U (by omega) hs) ?_;rintro v4 w4 ⟨o4,X⟩;have z4:=X.size;have B:=Q.lt
 let C':Nat->Prop:=λx=>w2.heap.size<=x/\x<w4.heap.size/\v4.ownBlock≠some x
 have h4:Dk Au.toAvT F C' w4 b bt [] 0:=(Q.grow X).sub (λx m=>m.elim) (λx m e=>by have:=B x (.inl m);have:=e.1;omega) λx e=>e.2.1;have Y:AE w2.heap.size 64 1 (Ca C') w4 v4 R:=AE.mod o4 (Mod.refl (λ_=>False) _) (λ_ _ h=>h) λr y _ V=>Au.rsub V λx m q=>⟨q.1,m,q.2⟩;have Z:=Jk [] R (K8 0);simp only [List.take_nil,List.drop_nil,lg,lA] at Z;refine AA (JF (Ti (g:=Au)) (i:=0) (j:=0) (L:=R) h4 (by omega) Y.sl (λx m a1=>by have:=B x (.inl a1);have:=m.1;omega) (K8 0) (by omega) (Kq (l:=[]) (by simp)) (Kq (l:=GY.Bl [] 0 0 R) (by rw [Z];omega)) (Kq (l:=(GY.split [] 0).1.getLast?.toList++R++(GY.split (GY.split [] 0).2 (0 - 0)).2.head?.toList) (by
  have q1:=toList_le (GY.split [] 0).1.getLast?;have q2:=toList_le (GY.split (GY.split [] 0).2 (0 - 0)).2.head?;simp only [BW];omega))) ?_
 rintro _ w5 ⟨F',k1,k2,k3,k4⟩;have a6:Au.toAvT.k.Bl [] 0 0 R=R:=Z;rw[a6,mQ] at k3;refine⟨rfl,bt,F',C',λx m=>?_,λx m=>by have:=m.1;omega,k3,(o.next X λ_ _ h=>h.elim).next k4 λx m e=>?_⟩
 .rcases k2 x m with e|e
  .exact(hF x e)
  .exact .inr (by omega)
 .rcases hF x e with e|e
  .exact e
  .omega
def FI(g o x:Nat):(⟨g,o,none⟩:Addr).add x=⟨g,o+x,none⟩:=by unfold Addr.add;split<;>simp_all
def T6{g off:Nat}:∀(vs:List Value) (q:Nat) (W:World),(∀j,q<=j->j<q+vs.length->Live W ⟨g,off+j,none⟩)->
  Mod (λx=>x=g) W (EN W ⟨g,off,none⟩ q vs)/\(∀j u,vs[j]?=some u->(EN W ⟨g,off,none⟩ q vs).cell? ⟨g,off+q+j,none⟩=some u)/\(∀j,(j<off+q\/off+q+vs.length<=j)->(EN W ⟨g,off,none⟩ q vs).cell? ⟨g,j,none⟩=W.cell? ⟨g,j,none⟩)/\(∀a,Live W a->Live (EN W ⟨g,off,none⟩ q vs) a):=by
 intro vs;induction vs with
 |nil=>intro q W _;exact⟨Mod.refl _ _,λj u hu=>by simp at hu,λ_ _=>rfl,λ_ h=>h⟩
 |cons x vs o=>
  intro q W hl;simp only[EN];rw[FI];have i:=hl q (K8 _) (by simp);obtain⟨i1,i2,i3,i4⟩:=o (q+1) (W.setCell ⟨g,off+q,none⟩ x) λj h1 I=>(hl j (by omega) (by simp;omega)).set _ _;refine⟨(Mod.setCell (M:=λx=>x=g) W ⟨g,off+q,none⟩ x rfl).trans i1,λj u hu=>?_,λj B=>?_,λa ha=>i4 a (ha.set _ _)⟩
  .cases j with
   |zero=>
    simp at hu;subst hu;obtain⟨J,m⟩:=lD.1 i.1;rw[i3 _ (.inl (by omega))];exact lM _ _ _ m
   |succ j=>
    have:=i2 j u (by simpa using hu);rw[show off+q+(j+1)=off+(q+1)+j by omega];exact this
  .simp only[gD] at B;rw[i3 j (by omega),S4 _ _ _ _ (by intro e;simp only[Addr.mk.injEq] at e;omega)]
structure Jw {α:Type} (k:Nat) (cs:α->List Value) (W:World) (g:Nat) (L:List α):Prop where
 cells:∀m (h:m<L.length) j u,(cs L[m])[j]?=some u->W.cell? ⟨g,m*k+j,none⟩=some u
 live:∀m j,m<L.length->j<k->Live W ⟨g,m*k+j,none⟩
section
variable {α:Type}{k:Nat}{cs:α->List Value}{W W':World}{g:Nat}{L:List α}
def Jw.mod(h:Jw k cs W g L)(m:Mod M W W')(o:¬M g):Jw k cs W' g L:=⟨λi hi j u hu=>m.cell (h.cells i hi j u hu) o,λi j hi q=>(h.live i j hi q).mod m o⟩
def Jw.store{i:Nat}{x:α}{K:World->Prop}(h:Jw k cs W g L)(hi:i<L.length)(hk:∀y,(cs y).length=k)(h1:∀v∈cs x,v.oneCell'=true)
 (I:∀W',Jw k cs W' g (L.set i x)->Mod (λb=>b=g) W W'->K W'):BP k (.pointer (some ⟨g,i*k,none⟩)) (.agg (cs x).toArray) K W:=by
 have lv:∀j,j<k->Live W ((⟨g,i*k,none⟩:Addr).add j):=λj o=>by rw[FI];exact h.live i j hi o
 obtain⟨J,O,Q,U⟩:=T6 (g:=g) (off:=i*k) (cs x) 0 W λj _ o=>h.live i j hi (by have:=hk x;omega);refine⟨_,cs x,rfl,rfl,hk x,h1,λj o=>lv j o,I _ ⟨λm hm j u hu=>?_,λm j hm o=>U _ (h.live m j (by simpa using hm) o)⟩ J⟩;rw[List.getElem_set] at hu;split at hu
 .rename_i e;subst e;have:=O j u hu;rwa [lf] at this
 .rename_i q;have B:m<L.length:=by simpa using hm
  have o:j<k:=by have:=(Ad.1 hu).1;rw[hk] at this;exact this
  rw[Q]
  .exact h.cells m B j u hu
  .rw[hk];rcases qi q with e|e
   .right;have:(i+1)*k<=m*k:=mV _ e;rw[mC] at this;omega
   .left;have:(m+1)*k<=i*k:=mV _ e;rw[mC] at this;omega
def Jw.of{B e n c:Nat}{R:World->List Value->α->Prop}(h:AE B e k R W (.slice (some ⟨g,0,none⟩) n c) L)(hk:0<k)(o:∀r x,R W r x->r=cs x):Jw k cs W g L:=by
 refine⟨λm hm j u hu=>?_,λm j hm q=>?_⟩
 .obtain⟨rows,h1,J,O,Q⟩:=id h;obtain⟨a,r,i,_,hr,hc,I⟩:=(AE.sl h).get hm;cases i;have:=hc j u (by rw[o _ _ I];exact hu);rwa [FI,mQ] at this
 .obtain⟨g',i,_,hl⟩:=AE.live h hm q;cases i;rwa [FI,mQ] at hl
end
def Xp{zero:Array Value}{n:Nat}(m:0<zero.size)(h1:∀v∈zero.toList,v.oneCell'=true):∀v∈(Builtin.zeroCells zero n).toList,v.oneCell'=true:=by
 intro v j;simp only[Builtin.zeroCells,Array.toList_map,lT] at j;obtain⟨i,_,rfl⟩:=j;refine h1 _ ?_;have:i%zero.size<zero.size:=qj _ m;rw[pS zero _ this];exact Array.getElem_mem_toList this
def Ny{t e k:Nat}{i:TypeInfo}{zv:Value}{g off m c:Nat}(hu:P.underlying t=some (.slice e))(hi:P.info? e=some i)(J:i.zero=some zv)(hk:zv.cells.size=k)(O:0<k)(h1:∀v∈zv.cells.toList,v.oneCell'=true)(hm:0<m)
 (hl:∀j,j<m*k->Live W ⟨g,off+j,none⟩):∃W',(Builtin.clear_ #[t] 0 [.slice (some ⟨g,off,none⟩) m c].toArray).run P W=.ok (.tuple #[]) W'/\Mod (λx=>x=g) W W'/\∀j,j<off->W'.cell? ⟨g,j,none⟩=W.cell? ⟨g,j,none⟩:=by
 have I:(Builtin.zeroCells zv.cells m).toList.length=m*k:=by rw[nj,qk,hk]
 have lv:∀j,0<=j->j<0+(Builtin.zeroCells zv.cells m).toList.length->Live W ⟨g,off+j,none⟩:=λj _ B=>hl j (by omega);obtain⟨Q,_,U,_⟩:=T6 (g:=g) (off:=off) (Builtin.zeroCells zv.cells m).toList 0 W lv;have o:=M0 (P:=P) (⟨g,off,none⟩:Addr) (Builtin.zeroCells zv.cells m).toList 0 W (Xp (by omega) h1) (λj h0 B=>by rw[FI];exact lv j h0 B);refine⟨_,?_,Q,λj B=>U j (.inl (by omega))⟩;have V:(zeroValue e).run P W=.ok zv W:=by simp[zeroValue,typeInfo,hi,J]
 obtain⟨m,rfl⟩:∃q,m=q+1:=⟨m-1,by omega⟩;simp[Builtin.clear_,run_underlying hu,V,o]
section
def XM(G:World->Prop)(j:Value)(i:Chg->Bool):Prop:=∀W c (K:Cont),G W->(∀W',Grow W W'->K (.bool (i c)) W')->Cs prog CS j [.agg c.cells.toArray] K W
def Z9{p:List Chg}{o:Chg->Bool}(h:EV S w v p)(J:XM (Grow w) sv o) :
  AB prog 305 [v,sv] (λv' w'=>Grow w w'/\((v'=zI (-1)/\∀c∈p,o c=false)\/∃i:Nat,∃hi:i<p.length,v'=zI i/\o p[i]=true/\∀c∈p.take i,o c=false)) w:=by
 refine uS2 (dB 35271513315417 [([8],[(4,5),(8,18)])] []) func305 (λ_ _ _ _=>⟨by conv=>lhs;reduce,by dsimp only[PI,AF],by kernel_rfl⟩) ?_;unfold uI;obtain⟨a,c,rfl,hm⟩:=h.shape;simp only[maxLen] at hm;rw[AO];refine AU (λvs W=>∃i:Nat,i<=p.length/\vs=[zI i]/\Grow w W/\∀c∈p.take i,o c=false) (λvs _=>p.length-Dh vs 0) ⟨0,Nn _,rfl,Mod.refl _ _,by simp⟩ ?_;rintro vs W ⟨i,hi,rfl,g,B⟩ _;rw[BQ,Nr,Ai];refine AD (λO=>?_) λQ=>?_
 .have m:i<p.length:=by omega
  obtain⟨q,r,rfl,_,hr,hc,rfl⟩:=(h.grow g (by decide) λ_ _ h=>h).get m;refine AS m (AV hr (λj u hu=>by rw[Addr.add_add];exact hc j u hu) ?_);refine J W p[i] _ g λW' g'=>?_;cases e:o p[i] with
  |true=>exact AQ ⟨g.trans g',.inr ⟨i,m,rfl,e,B⟩⟩
  |false=>
   refine AL ?_;rw[AM,AK (by omega)];refine⟨⟨i+1,m,rfl,g.trans g',λc hc=>?_⟩,by rw[Bw,Bw];omega⟩;rw[S5,Bq m] at hc;rcases By.1 hc with hc|hc
   .exact B c hc
   .simp at hc;subst hc;exact e
 .have:i=p.length:=by omega
  subst this;exact⟨g,.inl ⟨rfl,λc hc=>B c (by rw[S7];exact hc)⟩⟩
def Chg.len(c:Chg):c.cells.length=6:=rfl
def aT{p:List Chg}{o:Chg->Bool}(Z:AE B 56 6 Ef w v p)(Iz:p.length<=1099511627776)(hf:XM (Mod (λb=>v.ownBlock=some b) w) sv o) :
  AB prog 228 [v,sv] (λv' w'=>EV (λb=>v.ownBlock=some b) w' v' (p.filter λc=>!o c)/\Mod (λb=>v.ownBlock=some b) w w') w:=by
 refine uS2 (dB 83033191866362274505 [([5,6],[(5,7),(16,35)])] []) func228 (λ_ _ _ _=>⟨by conv=>lhs;reduce,by dsimp only[PI,AF],by kernel_rfl⟩) ?_;unfold uI;refine AA (Z9 (AE.sl Z) λW c K g hK=>hf W c K (g.mono λ_ _ e=>e.elim) hK) ?_;rintro _ w1 ⟨g1,⟨rfl,J⟩|⟨i0,O,rfl,hd,J⟩⟩
 .rw[Aa];refine AD (λ_=>?_) λe=>(e rfl).elim;rw[nQ.2 λc hc=>by rw[J c hc];rfl];exact⟨An.sub (AE.sl (AE.mod Z g1 (λ_ _ h=>h) λ_ _ _ h=>h)) (λb _ h=>h.2) (by decide) λ_ _ h=>h,g1.mono λ_ _ e=>e.elim⟩
 rw[Aa];refine AD (λe=>absurd e (by omega)) λ_=>?_;obtain⟨a,c,rfl,al,an,hp,hn⟩:=AE.shape Z;cases a with
 |none=>rw[hn rfl] at O;simp at O
 |some q=>
 obtain⟨g,rfl,av,a1,ak⟩:=hp q rfl;have a6:∀b,(Value.slice (some ⟨g,0,none⟩) p.length c).ownBlock=some b↔b=g:=λb=>⟨λe=>by cases e;rfl,λe=>by subst e;rfl⟩;simp only[a6] at hf ⊢;have R0:Jw 6 Chg.cells w g p:=Jw.of Z (by decide) λ_ _ h=>h;have R1:=R0.mod g1 λh=>h;rw[AM,AK (by omega)];refine AU (λvs W=>∃(i j:Nat) (L:List Chg),i<j/\j<=p.length/\vs=[zI i,zI j]/\L.length=p.length/\Jw 6 Chg.cells W g L/\L.take i=(p.take j).filter (λc=>!o c)/\L.drop j=p.drop j/\Mod (λb=>b=g) w W) (λvs _=>p.length-Dh vs 1)
  ⟨i0,i0+1,p,by omega,O,rfl,rfl,R1,?_,rfl,g1.mono λ_ _ e=>e.elim⟩ ?_
 .rw[S5,Bq O,oQ,nQ.2 λc hc=>by rw[J c hc];rfl];simp[hd]
 rintro vs W ⟨i,j,L,ax,hj,rfl,hL,hR,ht,U,hm⟩ _;simp only[FC];rw[AO,Ai];refine AD (λV=>?_) λay=>?_
 .have I:j<p.length:=by omega
  have a7:L[j]'(by omega)=p[j]:=by
   have e:=lV List.head? U;rw[qV,qV,Bq (by omega),Bq I] at e;exact lK e
  refine AS I ?_;rw[AI];refine AV (vs:=p[j].cells) rfl (λq u hu=>by rw[FI];exact hR.cells j (by omega) q u (by rw[a7];exact hu)) ?_;refine BH (vs:=p[j].cells) rfl rfl (Ef.one (w:=W) (x:=p[j]) rfl) λb7 w4 aZ b0 g4 X _=>?_;have b1:g<W.heap.size:=No a1 hm.size;refine AV (vs:=p[j].cells) rfl X ?_;refine hf w4 p[j] _ (hm.next g4 λ_ _ e=>e.elim) λW5 g5=>?_;have R5:=(hR.mod g4 λh=>h).mod g5 λh=>h;have m5:=(hm.next g4 λ_ _ e=>e.elim).next g5 λ_ _ e=>e.elim;have et:(p.take (j+1)).filter (λc=>!o c)=(p.take j).filter (λc=>!o c)++if o p[j] then[] else[p[j]]:=by
   rw[S5,Bq I,oQ];cases e:o p[j]<;>simp[e]
  have Q:L.drop (j+1)=p.drop (j+1):=by have:=lV (List.drop 1) U;simpa[oo] using this
  cases e:o p[j] with
  |true=>
   rw[Ah];refine AL ?_;rw[AM,AK (by omega)];rw[e,DN rfl,lA] at et;refine⟨⟨i,j+1,L,by omega,I,rfl,hL,R5,by rw[et];exact ht,?_,m5⟩,by rw[Ar,Ar];omega⟩;exact Q
  |false=>
   rw[Ah];refine AQ ?_;refine AV (vs:=p[j].cells) rfl (λq u hu=>g5.cell (X q u hu) λh=>h) ?_;refine AS (by omega) ?_;rw[AI];refine R5.store (i:=i) (x:=p[j]) (by omega) Chg.len (Ef.one (w:=W) (x:=p[j]) rfl) λW6 R6 m6=>?_;rw[AM,AM,AK (by omega),AK (by omega)];rw[e,Bp (by decide)] at et;refine⟨⟨i+1,j+1,L.set i p[j],by omega,I,rfl,by simp[hL],R6,?_,?_,m5.trans m6⟩,by rw[Ar,Ar];omega⟩
   .rw[et,<-ht,List.take_set,S5,Bq (by omega),mJ _ _ (by simp;omega)];simp[lQ (show i<=L.length by omega)]
   .rw[qY (by omega)];exact Q
 .obtain rfl:j=p.length:=by omega
  rw[S7] at ht;refine AX (Es (e:=56) (k:=6) (i:=Tryz.t56) (by kernel_rfl) (by kernel_rfl) (by kernel_rfl) (by omega) W) ?_;have a8:sliced (some (⟨g,0,none⟩:Addr)) i p.length c 6=.slice (some ⟨g,i*6,none⟩) (p.length-i) (c-i):=by
   unfold sliced;rw[Bp (by omega)];simp only[mw,AI]
  rw[a8];obtain⟨W2,hr,m2,h2⟩:=Ny (P:=prog) (t:=24) (e:=56) (k:=6) (i:=Tryz.t56) (zv:=.agg (⟨0,false,As.zero⟩:Chg).cells.toArray) (W:=W) (g:=g) (off:=i*6) (m:=p.length-i) (c:=c-i) (by kernel_rfl) (by kernel_rfl) (by kernel_rfl) (by kernel_rfl) (by decide)
   (λu hu=>Ef.one (w:=W) (x:=⟨0,false,As.zero⟩) rfl u (by simpa[Value.cells] using hu)) (by omega) λq hq=>by
    have:=hR.live (i+q/6) (q%6) (by omega) (qj _ (by decide));rwa [show(i+q/6)*6+q%6=i*6+q by omega] at this
  refine AX hr ?_;refine AX (Eo (e:=56) (k:=6) (i:=Tryz.t56) (by kernel_rfl) (by kernel_rfl) (by kernel_rfl) (by omega) W2) ?_;refine⟨?_,hm.trans m2⟩;rw[<-ht];have V:(L.take i).length=i:=by simp;omega
  refine⟨_,_,by rw[V],by omega,by omega,λm x hx=>?_⟩;obtain⟨b2,Y⟩:=Ad.1 hx;rw[ob] at Y;subst Y;refine⟨⟨g,0,none⟩,_,rfl,rfl,rfl,λq u hu=>?_,rfl⟩;have hq:q<6:=(Ad.1 hu).1;rw[AI,h2 _ (by omega)];exact hR.cells m (by omega) q u hu
def TK(ks:List DKey)(b:Bool)(c:Chg):Bool:=match BK ks c.key with|some k=>decide (k.block=b)|none=>false
def Xu{D:Nat->Prop}{b:Bool}{c:Chg}(q:CK D w sv ks)(B:w.cell? ⟨N,0,none⟩=some sv)(I:w.cell? ⟨E,0,none⟩=some (.bool b)) :
  AB prog 229 [.agg c.cells.toArray,.pointer (some ⟨N,0,none⟩),.pointer (some ⟨E,0,none⟩)] (λv' w'=>v'=.bool (!TK ks b c)/\Grow w w') w:=by
 refine uS3 (dB 73 [] []) func229 (λ_ _ _ _ _=>⟨by conv=>lhs;reduce,by dsimp only[PI,AF],by kernel_rfl⟩) ?_;unfold uI;refine DC λY Z J O m o _=>?_;refine AJ (m.cell B λh=>h) ?_;rw[AH];refine AJ (o 0 _ rfl) ?_;refine AA (IP (q.grow m) c.key) ?_;rintro _ w2 ⟨rfl,Q⟩;refine BI ?_;refine BH (vs:=((BK ks c.key).getD DKey.zero).cells) rfl rfl (Gv.one (w:=w2) (x:=(BK ks c.key).getD DKey.zero) rfl) λb4 w3 U V X j _=>?_;have i:=(m.trans Q).trans X;rw[Ah];unfold TK;cases e:BK ks c.key with
 |none=>exact AQ ⟨rfl,i⟩
 |some k=>
  rw[e] at j;refine AL ?_;rw[AH];refine AJ (j 1 _ rfl) ?_;refine AJ (i.cell I λh=>h) ?_;rw[Rl];refine⟨?_,i⟩;show Value.bool (k.block != b)=.bool (!decide (k.block=b));cases k.block<;>cases b<;>rfl
def KG{D S:Nat->Prop}{b:Bool}{p:List Chg}(X:CK D w sv ks)(hp:EV S w v p)(hl:p.length<=1099511627776) :
  AB prog 132 [sv,v,.bool b] (λv' w'=>EV (λx=>w.heap.size<=x) w' v' (CP ks b p)/\Grow w w') w:=by
 refine uS3 (dB 9 [] []) func132 (λ_ _ _ _ _=>⟨by conv=>lhs;reduce,by dsimp only[PI,AF],by kernel_rfl⟩) ?_;unfold uI;have I:sv.cells=#[sv]:=by
  obtain⟨b,m,kv,l,rfl,_⟩:=X;rfl
 have J:CK (λx=>D x/\x<w.heap.size) w sv ks:=X.sub λx B h=>⟨h,B⟩;refine⟨I,Bz λb3 w1 a1 a6 o O _=>?_⟩;refine⟨rfl,Bz λb5 w2 a7 a8 j Q _=>?_⟩;refine AA (OB (hp.grow (o.trans j) (by decide) λ_ _ h=>h) (by omega)) ?_;rintro v3 w3 ⟨Y,U⟩;have c3:w2.cell? ⟨b3,0,none⟩=some sv:=by have:=j.cell (O 0 _ rfl) λh=>h;rwa [AI] at this
 have c5:w2.cell? ⟨b5,0,none⟩=some (.bool b):=by have:=Q 0 _ rfl;rwa [AI] at this
 have i:∀x,v3.ownBlock=some x->w2.heap.size<=x:=λx e=>(AE.Aj Y x e).1;have q:=(o.trans j).trans U;have tl:XM (Mod (λx=>v3.ownBlock=some x) w3) (.func (.func 229) #[] #[.pointer (some ⟨b3,0,none⟩),.pointer (some ⟨b5,0,none⟩)]) λc=>!TK ks b c:=by
  intro W c K m hK;refine .inl ⟨_,[],[.pointer (some ⟨b3,0,none⟩),.pointer (some ⟨b5,0,none⟩)],rfl,by kernel_rfl,?_⟩;refine AA (Xu ((J.grow q).mod m λx _ B e=>?_) (m.cell (U.cell c3 λh=>h) λe=>?_) (m.cell (U.cell c5 λh=>h) λe=>?_)) ?_
  .have:=i _ e;have:=B.2;have:=(o.trans j).size;omega
  .have h:w2.heap.size<=b3:=i _ e;omega
  .have h:w2.heap.size<=b5:=i _ e;omega
  .rintro _ W' ⟨rfl,g⟩;exact hK W' g
 refine AA (aT Y hl tl) ?_;rintro v4 w4 ⟨Z,m4⟩;have e:(p.filter λc=>!(!TK ks b c))=CP ks b p:=by simp only[rI];rfl
 rw[e] at Z;refine⟨An.sub Z (λx _ e=>by have:=i x e;have:=(o.trans j).size;omega) (by decide) λ_ _ h=>h,?_⟩;exact q.next m4 λx B e=>by have:=i x e;have:=(o.trans j).size;omega
def ZC{D S S':Nat->Prop}{r:Int}{s:List Attr}{p:List Chg}(hS:CK D w sv ks)(hs:Ba S w v s)(hp:EV S' w fr p)(hl:s.length+p.length<=1099511627776) :
  AB prog 358 [sv,.agg #[.int .i32 r,v],fr] (λv' w'=>∃m,v'=.agg #[.int .i32 r,m]/\Ho w.heap.size w' m (Mk ks s p r)/\Grow w w') w:=by
 refine uS3 (dB 465 [] [(dC [9,10,12] [0,1,0,4,0,0,0,64,192,496,1020,2047,4095] [[9,10]])]) func358 (λ_ _ _ _ _=>⟨by conv=>lhs;reduce,by dsimp only[PI,AF],by kernel_rfl⟩) ?_;unfold uI;refine DC (vs:=[.int .i32 r,v]) λb4 w1 a1 a6 g1 I _=>?_;refine Bz λZ w2 a7 a8 g2 ak J=>?_;have O:Grow w2 w2.drew:=Mod.drew _ _;have zd:w2.drew.heap.size=w2.heap.size:=rfl;have o:=(g1.trans g2).trans O;have Q:∀j u,([.int .i32 r,v]:List Value)[j]?=some u->w2.drew.cell? ((⟨b4,0,none⟩:Addr).add j)=some u:=λj u hu=>O.cell (g2.cell (I j u hu) λh=>h) λh=>h;have ne:b4≠Z:=by omega
 refine AT (λk y=>k=12/\y=Z) ?_;rw[AH];refine AP ⟨Q 0 _ rfl,λj _ e=>by rw[Ac] at e;exact ne e.2⟩ ?_;rw[AH];refine AP ⟨Q 1 _ rfl,λj _ e=>by rw[Ac] at e;exact ne e.2⟩ ?_;rw[AH];refine AP ⟨Q 0 _ rfl,λj _ e=>by rw[Ac] at e;exact ne e.2⟩ ?_;rw[Aa];refine AA (KG (hS.grow o) (hp.grow o (by decide) λ_ _ h=>h) (by omega)) ?_;rintro v3 w3 ⟨h3,i⟩;refine⟨i.mono λ_ _ e=>e.elim,?_⟩;have al:(CP ks (decide (r=10)) p).length<=p.length:=nU _ _;refine AA (PT (hs.grow (o.trans i) (by decide) λ_ _ h=>h) h3 (by omega)) ?_;rintro v4 w4 ⟨q,B⟩;refine⟨B.mono λ_ _ e=>e.elim,?_⟩;have o1:=AE.one q;obtain⟨a4,k4,e4,_⟩:=AE.shape q;refine⟨#[.int .i32 r,v4],by subst e4;kernel_rfl,?_⟩;have z3:=i.size;have z4:=B.size;refine BB (vs:=[.int .i32 r,v4]) rfl (λu hu=>by simp at hu;rcases hu with rfl|rfl;rfl;exact o1.1) (λj hj=>(((J j hj).mod O λh=>h).mod i λh=>h).mod B λh=>h) λw5 U V _=>?_;refine⟨U.mono λx _ e=>⟨rfl,e⟩,?_⟩;refine AV (vs:=[.int .i32 r,v4]) rfl V ⟨v4,rfl,?_,?_⟩
 .have:Ho w.heap.size w4 v4 (Mk ks s p r):=q.base λg X=>by have:=(AE.Aj q g X).1;have:=(o.trans i).size;omega
  refine AE.mod this U (λg X e=>?_) λ_ _ _ h=>h;have:=(AE.Aj q g X).1;omega
 .exact((o.trans i).trans B).next U λx hx e=>by omega
def cz:EM:=dB 601122820861951255129 [] []
def S186(v0 v1 v2 v3:Value)(K:Cont)(w:World):Prop:=by
 refine' (?f:∀B R,PX prog CS K (di prog CS Tryz.f186 cz [v0,v1,v2,v3] w) B R->Prop) _ _ ⟨?a,?b⟩
 case a=>intro _;intros;conv=>lhs;reduce
 case b=>dsimp only[PI,AF];rfl
 exact λ_ R _=>R
variable {v0 v1 v2 v3 v4 v5 v6 v7 v8 v9:Value}{K:Cont}{w:World}
def bT(h:S186 v0 v1 v2 v3 K w):AB prog 186 [v0,v1,v2,v3] K w:=ck cz DV mixed func186 (by kernel_rfl) h (by kernel_rfl)
end
def Sh(G:World->Prop)(j:Value)(i:Attr->Bool):Prop:=∀W c (K:Cont),G W->(∀W',Grow W W'->K (.bool (i c)) W')->Cs prog CS j [.agg c.cells.toArray] K W
def bj{p:List Attr}{o:Attr->Bool}(h:Ba S w v p)(J:Sh (Grow w) sv o) :
  AB prog 326 [v,sv] (λv' w'=>Grow w w'/\((v'=zI (-1)/\∀c∈p,o c=false)\/∃i:Nat,∃hi:i<p.length,v'=zI i/\o p[i]=true/\∀c∈p.take i,o c=false)) w:=by
 refine uS2 (dB 35271513315417 [([8],[(4,5),(8,18)])] []) func326 (λ_ _ _ _=>⟨by conv=>lhs;reduce,by dsimp only[PI,AF],by kernel_rfl⟩) ?_;unfold uI;obtain⟨a,c,rfl,hm⟩:=h.shape;simp only[maxLen] at hm;rw[AO];refine AU (λvs W=>∃i:Nat,i<=p.length/\vs=[zI i]/\Grow w W/\∀c∈p.take i,o c=false) (λvs _=>p.length-Dh vs 0) ⟨0,Nn _,rfl,Mod.refl _ _,by simp⟩ ?_;rintro vs W ⟨i,hi,rfl,g,B⟩ _;rw[BQ,Nr,Ai];refine AD (λO=>?_) λQ=>?_
 .have m:i<p.length:=by omega
  obtain⟨q,r,rfl,_,hr,hc,rfl⟩:=(h.grow g (by decide) λ_ _ h=>h).get m;refine AS m (AV hr (λj u hu=>by rw[Addr.add_add];exact hc j u hu) ?_);refine J W p[i] _ g λW' g'=>?_;cases e:o p[i] with
  |true=>exact AQ ⟨g.trans g',.inr ⟨i,m,rfl,e,B⟩⟩
  |false=>
   refine AL ?_;rw[AM,AK (by omega)];refine⟨⟨i+1,m,rfl,g.trans g',λc hc=>?_⟩,by rw[Bw,Bw];omega⟩;rw[S5,Bq m] at hc;rcases By.1 hc with hc|hc
   .exact B c hc
   .simp at hc;subst hc;exact e
 .have:i=p.length:=by omega
  subst this;exact⟨g,.inl ⟨rfl,λc hc=>B c (by rw[S7];exact hc)⟩⟩
def Attr.cI(c:Attr):c.cells.length=5:=rfl
def ZZ{p:List Attr}{o:Attr->Bool}(Z:AE B 83 5 CR w v p)(Iz:p.length<=1099511627776)(hf:Sh (Mod (λb=>v.ownBlock=some b) w) sv o) :
  AB prog 279 [v,sv] (λv' w'=>Ba (λb=>v.ownBlock=some b) w' v' (p.filter λc=>!o c)/\Mod (λb=>v.ownBlock=some b) w w') w:=by
 refine uS2 (dB 83033191866362274505 [([5,6],[(5,7),(16,35)])] []) func279 (λ_ _ _ _=>⟨by conv=>lhs;reduce,by dsimp only[PI,AF],by kernel_rfl⟩) ?_;unfold uI;refine AA (bj (AE.sl Z) λW c K g hK=>hf W c K (g.mono λ_ _ e=>e.elim) hK) ?_;rintro _ w1 ⟨g1,⟨rfl,J⟩|⟨i0,O,rfl,hd,J⟩⟩
 .rw[Aa];refine AD (λ_=>?_) λe=>(e rfl).elim;rw[nQ.2 λc hc=>by rw[J c hc];rfl];exact⟨An.sub (AE.sl (AE.mod Z g1 (λ_ _ h=>h) λ_ _ _ h=>h)) (λb _ h=>h.2) (by decide) λ_ _ h=>h,g1.mono λ_ _ e=>e.elim⟩
 rw[Aa];refine AD (λe=>absurd e (by omega)) λ_=>?_;obtain⟨a,c,rfl,al,an,hp,hn⟩:=AE.shape Z;cases a with
 |none=>rw[hn rfl] at O;simp at O
 |some q=>
 obtain⟨g,rfl,av,a1,ak⟩:=hp q rfl;have a6:∀b,(Value.slice (some ⟨g,0,none⟩) p.length c).ownBlock=some b↔b=g:=λb=>⟨λe=>by cases e;rfl,λe=>by subst e;rfl⟩;simp only[a6] at hf ⊢;have R0:Jw 5 Attr.cells w g p:=Jw.of Z (by decide) λ_ _ h=>h;have R1:=R0.mod g1 λh=>h;rw[AM,AK (by omega)];refine AU (λvs W=>∃(i j:Nat) (L:List Attr),i<j/\j<=p.length/\vs=[zI i,zI j]/\L.length=p.length/\Jw 5 Attr.cells W g L/\L.take i=(p.take j).filter (λc=>!o c)/\L.drop j=p.drop j/\Mod (λb=>b=g) w W) (λvs _=>p.length-Dh vs 1)
  ⟨i0,i0+1,p,by omega,O,rfl,rfl,R1,?_,rfl,g1.mono λ_ _ e=>e.elim⟩ ?_
 .rw[S5,Bq O,oQ,nQ.2 λc hc=>by rw[J c hc];rfl];simp[hd]
 rintro vs W ⟨i,j,L,ax,hj,rfl,hL,hR,ht,U,hm⟩ _;simp only[FC];rw[AO,Ai];refine AD (λV=>?_) λay=>?_
 .have I:j<p.length:=by omega
  have a7:L[j]'(by omega)=p[j]:=by
   have e:=lV List.head? U;rw[qV,qV,Bq (by omega),Bq I] at e;exact lK e
  refine AS I ?_;rw[AI];refine AV (vs:=p[j].cells) rfl (λq u hu=>by rw[FI];exact hR.cells j (by omega) q u (by rw[a7];exact hu)) ?_;refine BH (vs:=p[j].cells) rfl rfl (CR.one (w:=W) (x:=p[j]) rfl) λb7 w4 aZ b0 g4 X _=>?_;have b1:g<W.heap.size:=No a1 hm.size;refine AV (vs:=p[j].cells) rfl X ?_;refine hf w4 p[j] _ (hm.next g4 λ_ _ e=>e.elim) λW5 g5=>?_;have R5:=(hR.mod g4 λh=>h).mod g5 λh=>h;have m5:=(hm.next g4 λ_ _ e=>e.elim).next g5 λ_ _ e=>e.elim;have et:(p.take (j+1)).filter (λc=>!o c)=(p.take j).filter (λc=>!o c)++if o p[j] then[] else[p[j]]:=by
   rw[S5,Bq I,oQ];cases e:o p[j]<;>simp[e]
  have Q:L.drop (j+1)=p.drop (j+1):=by have:=lV (List.drop 1) U;simpa[oo] using this
  cases e:o p[j] with
  |true=>
   rw[Ah];refine AL ?_;rw[AM,AK (by omega)];rw[e,DN rfl,lA] at et;refine⟨⟨i,j+1,L,by omega,I,rfl,hL,R5,by rw[et];exact ht,?_,m5⟩,by rw[Ar,Ar];omega⟩;exact Q
  |false=>
   rw[Ah];refine AQ ?_;refine AV (vs:=p[j].cells) rfl (λq u hu=>g5.cell (X q u hu) λh=>h) ?_;refine AS (by omega) ?_;rw[AI];refine R5.store (i:=i) (x:=p[j]) (by omega) Attr.cI (CR.one (w:=W) (x:=p[j]) rfl) λW6 R6 m6=>?_;rw[AM,AM,AK (by omega),AK (by omega)];rw[e,Bp (by decide)] at et;refine⟨⟨i+1,j+1,L.set i p[j],by omega,I,rfl,by simp[hL],R6,?_,?_,m5.trans m6⟩,by rw[Ar,Ar];omega⟩
   .rw[et,<-ht,List.take_set,S5,Bq (by omega),mJ _ _ (by simp;omega)];simp[lQ (show i<=L.length by omega)]
   .rw[qY (by omega)];exact Q
 .obtain rfl:j=p.length:=by omega
  rw[S7] at ht;refine AX (Es (e:=83) (k:=5) (i:=Tryz.t83) (by kernel_rfl) (by kernel_rfl) (by kernel_rfl) (by omega) W) ?_;have a8:sliced (some (⟨g,0,none⟩:Addr)) i p.length c 5=.slice (some ⟨g,i*5,none⟩) (p.length-i) (c-i):=by
   unfold sliced;rw[Bp (by omega)];simp only[mw,AI]
  rw[a8];obtain⟨W2,hr,m2,h2⟩:=Ny (P:=prog) (t:=64) (e:=83) (k:=5) (i:=Tryz.t83) (zv:=.agg (⟨0,As.zero⟩:Attr).cells.toArray) (W:=W) (g:=g) (off:=i*5) (m:=p.length-i) (c:=c-i) (by kernel_rfl) (by kernel_rfl) (by kernel_rfl) (by kernel_rfl) (by decide)
   (λu hu=>CR.one (w:=W) (x:=⟨0,As.zero⟩) rfl u (by simpa[Value.cells] using hu)) (by omega) λq hq=>by
    have:=hR.live (i+q/5) (q%5) (by omega) (qj _ (by decide));rwa [show(i+q/5)*5+q%5=i*5+q by omega] at this
  refine AX hr ?_;refine AX (Eo (e:=83) (k:=5) (i:=Tryz.t83) (by kernel_rfl) (by kernel_rfl) (by kernel_rfl) (by omega) W2) ?_;refine⟨?_,hm.trans m2⟩;rw[<-ht];have V:(L.take i).length=i:=by simp;omega
  refine⟨_,_,by rw[V],by omega,by omega,λm x hx=>?_⟩;obtain⟨b2,Y⟩:=Ad.1 hx;rw[ob] at Y;subst Y;refine⟨⟨g,0,none⟩,_,rfl,rfl,rfl,λq u hu=>?_,rfl⟩;have hq:q<5:=(Ad.1 hu).1;rw[AI,h2 _ (by omega)];exact hR.cells m (by omega) q u hu
def IA(ks:List DKey)(b:Bool)(c:Attr):Bool:=match BK ks c.key with|some k=>decide (k.block=b)|none=>false
def Ub{D:Nat->Prop}{b:Bool}{c:Attr}(q:CK D w sv ks)(B:w.cell? ⟨N,0,none⟩=some sv)(I:w.cell? ⟨E,0,none⟩=some (.bool b)) :
  AB prog 280 [.agg c.cells.toArray,.pointer (some ⟨N,0,none⟩),.pointer (some ⟨E,0,none⟩)] (λv' w'=>v'=.bool (!IA ks b c)/\Grow w w') w:=by
 refine uS3 (dB 73 [] []) func280 (λ_ _ _ _ _=>⟨by conv=>lhs;reduce,by dsimp only[PI,AF],by kernel_rfl⟩) ?_;unfold uI;refine DC λY Z J O m o _=>?_;refine AJ (m.cell B λh=>h) ?_;rw[AH];refine AJ (o 0 _ rfl) ?_;refine AA (IP (q.grow m) c.key) ?_;rintro _ w2 ⟨rfl,Q⟩;refine BI ?_;refine BH (vs:=((BK ks c.key).getD DKey.zero).cells) rfl rfl (Gv.one (w:=w2) (x:=(BK ks c.key).getD DKey.zero) rfl) λb4 w3 U V X j _=>?_;have i:=(m.trans Q).trans X;rw[Ah];unfold IA;cases e:BK ks c.key with
 |none=>exact AQ ⟨rfl,i⟩
 |some k=>
  rw[e] at j;refine AL ?_;rw[AH];refine AJ (j 1 _ rfl) ?_;refine AJ (i.cell I λh=>h) ?_;rw[Rl];refine⟨?_,i⟩;show Value.bool (k.block != b)=.bool (!decide (k.block=b));cases k.block<;>cases b<;>rfl
def CL(ks:List DKey)(b:Bool)(l:List Attr):List Attr:=l.filter (IA ks b)
def Js{D S:Nat->Prop}{b:Bool}{p:List Attr}(X:CK D w sv ks)(hp:Ba S w v p)(hl:p.length<=1099511627776) :
  AB prog 178 [sv,v,.bool b] (λv' w'=>Ba (λx=>w.heap.size<=x) w' v' (CL ks b p)/\Grow w w') w:=by
 refine uS3 (dB 9 [] []) func178 (λ_ _ _ _ _=>⟨by conv=>lhs;reduce,by dsimp only[PI,AF],by kernel_rfl⟩) ?_;unfold uI;have I:sv.cells=#[sv]:=by
  obtain⟨b,m,kv,l,rfl,_⟩:=X;rfl
 have J:CK (λx=>D x/\x<w.heap.size) w sv ks:=X.sub λx B h=>⟨h,B⟩;refine⟨I,Bz λb3 w1 a1 a6 o O _=>?_⟩;refine⟨rfl,Bz λb5 w2 a7 a8 j Q _=>?_⟩;refine AA (OJ (hp.grow (o.trans j) (by decide) λ_ _ h=>h) (by omega)) ?_;rintro v3 w3 ⟨Y,U⟩;have c3:w2.cell? ⟨b3,0,none⟩=some sv:=by have:=j.cell (O 0 _ rfl) λh=>h;rwa [AI] at this
 have c5:w2.cell? ⟨b5,0,none⟩=some (.bool b):=by have:=Q 0 _ rfl;rwa [AI] at this
 have i:∀x,v3.ownBlock=some x->w2.heap.size<=x:=λx e=>(AE.Aj Y x e).1;have q:=(o.trans j).trans U;have tl:Sh (Mod (λx=>v3.ownBlock=some x) w3) (.func (.func 280) #[] #[.pointer (some ⟨b3,0,none⟩),.pointer (some ⟨b5,0,none⟩)]) λc=>!IA ks b c:=by
  intro W c K m hK;refine .inl ⟨_,[],[.pointer (some ⟨b3,0,none⟩),.pointer (some ⟨b5,0,none⟩)],rfl,by kernel_rfl,?_⟩;refine AA (Ub ((J.grow q).mod m λx _ B e=>?_) (m.cell (U.cell c3 λh=>h) λe=>?_) (m.cell (U.cell c5 λh=>h) λe=>?_)) ?_
  .have:=i _ e;have:=B.2;have:=(o.trans j).size;omega
  .have h:w2.heap.size<=b3:=i _ e;omega
  .have h:w2.heap.size<=b5:=i _ e;omega
  .rintro _ W' ⟨rfl,g⟩;exact hK W' g
 refine AA (ZZ Y hl tl) ?_;rintro v4 w4 ⟨Z,m4⟩;have e:(p.filter λc=>!(!IA ks b c))=CL ks b p:=by simp only[rI];rfl
 rw[e] at Z;refine⟨An.sub Z (λx _ e=>by have:=i x e;have:=(o.trans j).size;omega) (by decide) λ_ _ h=>h,?_⟩;exact q.next m4 λx B e=>by have:=i x e;have:=(o.trans j).size;omega
def bump:List Spn->List Spn
 |[]=>[]
 |[s]=>[⟨s.n+1,s.id⟩]
 |s::t=>s::bump t
def Fg(id:Int)(s:List Spn×Option Int)(r:Int):List Spn×Option Int:=
 (if r=10 then s.1++[⟨1,0⟩] else match s.2 with
  |some q=>if q=10 then s.1++[⟨1,id⟩] else bump s.1
  | none=>s.1++[⟨1,id⟩],some r)
def rowOf(id:Int)(rs:List Int):List Spn×Option Int:=rs.foldl (Fg id) ([],none)
def GH(id:Int)(r:Int):Int:=if r=10 then 0 else id
def Qx(l:List Spn)(s:Spn):bump (l++[s])=l++[⟨s.n+1,s.id⟩]:=by
 induction l with
 |nil=>rfl
 |cons x l i=>
  cases l with
  |nil=>rfl
  |cons y l=>rw[Za,Za,bump,<-Za,i];rfl;simp
def JR(id:Int)(rs:List Int)(r:Int):rowOf id (rs++[r])=Fg id (rowOf id rs) r:=by simp[rowOf]
def Mo(id:Int)(rs:List Int):(rowOf id rs).2=rs.getLast?:=by
 rcases lS rs with rfl|⟨o,y,rfl⟩
 .rfl
 .rw[mB,JR];simp[Fg]
def Mu(id:Int)(rs:List Int):(rowOf id rs).1.flatMap Spn.u=rs.map (GH id)/\(∀s∈(rowOf id rs).1,0<s.n)/\(∀q,rs.getLast?=some q->∃l n,(rowOf id rs).1=l++[⟨n,GH id q⟩]/\0<n)/\(rs=[]->(rowOf id rs).1=[])/\(rowOf id rs).1.length<=rs.length:=by
 have key:∀(n:Nat) (rs:List Int),rs.length=n->(rowOf id rs).1.flatMap Spn.u=rs.map (GH id)/\(∀s∈(rowOf id rs).1,0<s.n)/\(∀q,rs.getLast?=some q->∃l n,(rowOf id rs).1=l++[⟨n,GH id q⟩]/\0<n)/\(rs=[]->(rowOf id rs).1=[])/\(rowOf id rs).1.length<=rs.length:=by
  intro n;induction n with
  |zero=>
   intro rs h;obtain rfl:=pn.1 h;exact⟨rfl,λs i=>(nomatch i),λq I=>(nomatch I),λ_=>rfl,K8 _⟩
  |succ n Y=>
   intro rs h;rcases lS rs with rfl|⟨o,r,rfl⟩
   .simp at h
   .rw[mB] at h ⊢;obtain⟨h1,O,Z,h4,U⟩:=Y o (by simpa using h);have hp:=Mo id o;have B:∀j:Int,GH id r=j->((rowOf id o).1++[(⟨1,j⟩:Spn)]).flatMap Spn.u=(o++[r]).map (GH id)/\(∀s∈(rowOf id o).1++[(⟨1,j⟩:Spn)],0<s.n)/\(∀q,(o++[r]).getLast?=some q->∃l n,(rowOf id o).1++[(⟨1,j⟩:Spn)]=l++[⟨n,GH id q⟩]/\0<n)/\(o++[r]=[]->(rowOf id o).1++[(⟨1,j⟩:Spn)]=[])/\((rowOf id o).1++[(⟨1,j⟩:Spn)]).length<=(o++[r]).length:=λj V=>by
     refine⟨by rw[mf,h1];simp[Spn.u,V],λs i=>?_,λq I=>?_,λe=>by simp at e,by simp;omega⟩
     .rcases By.1 i with i|i
      .exact O s i
      .simp at i;subst i;exact Nat.one_pos
     .simp at I;subst I;exact⟨_,1,by rw[V],Nat.one_pos⟩
    rw[JR,Fg];by_cases hr:r=10
    .simp only[DN hr];exact B 0 (by simp[GH,hr])
    .simp only[Bp hr];rw[hp];cases hg:o.getLast? with
     |none=>exact B id (by simp[GH,hr])
     |some q=>
      by_cases I:q=10
      .simp only[DN I];exact B id (by simp[GH,hr])
      .simp only[Bp I];obtain⟨l,m,e,hm⟩:=Z q hg;have Q:GH id q=id:=by simp[GH,I]
       have X:GH id r=id:=by simp[GH,hr]
       rw[Q] at e;rw[e] at h1 O U ⊢;rw[Qx];refine⟨?_,λs i=>?_,λq' J=>?_,λe=>by simp at e,by simp at U ⊢;omega⟩
       .rw[mf] at h1 ⊢;rw[kZ,<-h1];simp[Spn.u,X,rp]
       .rcases By.1 i with i|i
        .exact O s (by simp[i])
        .simp at i;subst i;exact QC _
       .simp at J;subst J;exact⟨l,m+1,by rw[X],QC _⟩
 exact key _ rs rfl
abbrev ZP(sv:Value)(most:Int)(r s p t:Nat):List Value:=[sv,zI most,.pointer (some ⟨r,0,none⟩),.pointer (some ⟨s,0,none⟩),.pointer (some ⟨p,0,none⟩),.pointer (some ⟨t,0,none⟩)]
section
variable {W:World}{b r s p t bt N:Nat}{sv:Value}{most:Int}{F:Nat->Prop}{l:List Ck}
def HU{i:Nat}(j:Bx W b (ZP sv most r s p t))(h:Dk Ap.toAvT F Gl W r bt l N)(hi:i<=(BR l).length)(m:(BR l).length<=1099511627776) :
  AB prog 81 [.pointer (some ⟨b,0,none⟩),zI (i:Int)] (λv' w'=>v'=zI (BJ ((BR l).take i):Int)/\Grow W w') W:=by
 refine uS2 (dB 73 [] []) func81 (λ_ _ _ _=>⟨by conv=>lhs;reduce,by dsimp only[PI,AF],by kernel_rfl⟩) ?_;unfold uI;refine AG ?_;refine Az (j.cells 2 _ rfl) ?_;refine AA (Kc h hi m) ?_;rintro _ q ⟨rfl,o⟩;exact Ae (vs:=[_,_]) (by rfl) (Ae (vs:=[_,_]) (by rfl) ⟨rfl,o⟩)
def FL(i:Bx W b (ZP sv most r s p t)):AB prog 61 [.pointer (some ⟨b,0,none⟩)] (λv' w'=>v'=.bool true/\w'=W) W:=by
 refine uS1 (dB 9 [] []) func61 (λ_ _ _=>⟨by conv=>lhs;reduce,by dsimp only[PI,AF],by kernel_rfl⟩) ?_;unfold uI;refine⟨_,rfl,?_⟩;refine AQ ?_;refine AG ?_;refine Az (i.cells 2 _ rfl) ?_;exact⟨_,rfl,rfl,rfl⟩
def Ws(i:Bx W b (ZP sv most r s p t))(h:Dk Ap.toAvT F Gl W r bt l N) :
  AB prog 38 [.pointer (some ⟨b,0,none⟩)] (λv' w'=>v'=zI ((BR l).length:Int)/\Grow W w') W:=by
 refine uS1 (dB 267353 [] []) func38 (λ_ _ _=>⟨by conv=>lhs;reduce,by dsimp only[PI,AF],by kernel_rfl⟩) ?_;unfold uI;refine AA (FL i) ?_;rintro _ _ ⟨rfl,rfl⟩;rename World=>W
 rw[Ah];refine AL ?_;refine AG ?_;refine Az (i.cells 2 _ rfl) ?_;exact Yf h
def Qm{k:Nat}(i:Bx W b (ZP sv most r s p t))(h:Dk Ap.toAvT F Gl W r bt l N)(j:(BR l).length<=1099511627776) :
  AB prog 27 [.pointer (some ⟨b,0,none⟩),zI (k:Int)] (λv' w'=>v'=La (BR l) k/\Grow W w') W:=by
 refine uS2 (dB 267353 [] []) func27 (λ_ _ _ _=>⟨by conv=>lhs;reduce,by dsimp only[PI,AF],by kernel_rfl⟩) ?_;unfold uI;refine AA (FL i) ?_;rintro _ _ ⟨rfl,rfl⟩;rename World=>W
 rw[Ah];refine AL ?_;refine AG ?_;refine Az (i.cells 2 _ rfl) ?_;have e:∃x y,La (BR l) k=.tuple #[x,y]:=by
  unfold La;split
  .exact⟨_,_,rfl⟩
  .split
   .exact⟨_,_,rfl⟩
   .rename_i h1 B;obtain⟨q,m,_⟩:=Lj (l:=BR l) (k:=k-1) (by omega);rw[m];exact⟨_,_,rfl⟩
 obtain⟨x,y,e⟩:=e;refine AA (LN h j) ?_;rintro v I ⟨rfl,o⟩;rw[e];exact Ae (vs:=[_,_]) (by rfl) (Ae (vs:=[_,_]) (by rfl) ⟨rfl,o⟩)
end
def Xt{S D:Nat->Prop}{v Q:Value}{id:Int}{Kend:List Value->World->Prop}(hv:An S 1 Be W v rs)(hb:Ba D W Q d)(hl:rs.length<=1099511627)
 (hK:∀rv cv w',AE W.heap.size 128 2 Ei w' rv (rowOf id rs).1->AE W.heap.size 64 1 (Ca λx=>D x/\x<W.heap.size) w' cv (List.replicate (BJ rs) d)->(∀g,rv.ownBlock=some g->cv.ownBlock≠some g)->Grow W w'->Kend [rv,cv,zI (rs.length:Int)] w') :
  FK [(.slice none 0 0),(.slice none 0 0),(zI 0)] (λvs ak w5=>∀_:Env,
   GI .i64 (nth vs 2) (zI (rs.length:Int)) λc4=>
   AZ c4
   (Cl (λa6 w6=>∀_:Env,
   CW .i64 (nth vs 2) (zI 1) λc6=>
   ak [(nth a6 0),(nth a6 1),c6] w6) (λJ=>
   Ip 1 v (nth vs 2) λc7=>
   Ay c7 (λc8 w7=>
   Nw .i32 c8 (.int .i32 10) λc9=>
   AZ c9
   (CV [(0,1),(1,1)] [(zI 0),(zI 0)] [(0,(zI 1))] λt46=>
   Dg 128 2 1 [(zI 0),(zI 0)] [(0,t46)] (λal w8=>
   runK prog (Builtin.append_ #[121,121] 121 [(nth vs 0),al].toArray) (λca w9=>
   Dg 64 1 1 [(.slice none 0 0)] [(0,Q)] (λcc cd=>
   runK prog (Builtin.append_ #[47,47] 47 [(nth vs 1),cc].toArray) (λch cu=>
   J [ca,ch] cu) cd) w9) w8) w7)
   (Dr (nth vs 0) λcx=>
   DR .i64 cx (zI 1) λt55=>
   Rh .i64 t55 (zI 0) λda=>
   AZ da
   (DR .i64 (nth vs 2) (zI 1) λdk=>
   Ip 1 v dk λdr=>
   Ay dr (λdA ba=>
   PH .i32 dA (.int .i32 10) λdB=>
   AZ dB
   (Ip 2 (nth vs 0) t55 λdC=>
   BC 0 dC λdT=>
   Ay dT (λt70 e1=>
   CW .i64 t70 (zI 1) λe2=>
   Ip 2 (nth vs 0) t55 λe3=>
   BC 0 e3 λe4=>
   CB e4 e2 (λe5=>
   J [(nth vs 0),(nth vs 1)] e5) e1) ba)
   (CV [(0,1),(1,1)] [(zI 0),(zI 0)] [(0,(zI 1)),(1,zI id)] λt76=>
   Dg 128 2 1 [(zI 0),(zI 0)] [(0,t76)] (λt77 an=>
   runK prog (Builtin.append_ #[121,121] 121 [(nth vs 0),t77].toArray) (λav ax=>
   J [av,(nth vs 1)] ax) an) ba)) w7)
   (CV [(0,1),(1,1)] [(zI 0),(zI 0)] [(0,(zI 1)),(1,zI id)] λay=>
   Dg 128 2 1 [(zI 0),(zI 0)] [(0,ay)] (λaZ e6=>
   runK prog (Builtin.append_ #[121,121] 121 [(nth vs 0),aZ].toArray) (λb0 e7=>
   J [b0,(nth vs 1)] e7) e6) w7))) w5))
   (Kend vs w5)) W:=by
 obtain⟨a,c,rfl,_⟩:=hv.shape;have e8:=hv.Gw (by decide);have e9:Ca (λx=>D x/\x<W.heap.size) W [Q] d:=⟨_,rfl,hb.mono (λx hx h=>⟨h,hx⟩) (λ_ _ _=>rfl) (by decide) λ_ _ h=>h⟩;have GF:∀{M:Nat->Prop} {w2 w3:World} {r:List Value} {x:List Attr},Mod M w2 w3->(∀b,b<W.heap.size->¬M b)->Ca (λb=>D b/\b<W.heap.size) w2 r x->Ca (λb=>D b/\b<W.heap.size) w3 r x:=λhm hn hy=>Au.BO hy hm λb _ hd=>hn b hd.2
 let St:List Int->Value->Value->World->Prop:=λq rv cv W'=>AE W.heap.size 128 2 Ei W' rv (rowOf id q).1/\AE W.heap.size 64 1 (Ca λx=>D x/\x<W.heap.size) W' cv (List.replicate (BJ q) d)/\(∀g,rv.ownBlock=some g->cv.ownBlock≠some g)/\Grow W W'
 have ea:St (rs.take 0) (.slice none 0 0) (.slice none 0 0) W:=And.intro AE.nil (And.intro AE.nil (And.intro (λg O=>by simp[Value.ownBlock] at O) (Mod.refl _ _)));refine AU (λvs W'=>∃(i:Nat) (rv cv:Value),i<=rs.length/\vs=[rv,cv,zI i]/\St (rs.take i) rv cv W') (λvs _=>rs.length-Dh vs 2) ⟨0,_,_,Nn _,rfl,ea⟩ ?_;rintro vs W1 ⟨i,rv,cv,hi,rfl,o1,o2,U,g1⟩ _;simp only[FC];have z1:=g1.size;refine G9 (λek=>?_) λen=>?_
 .have V:i<rs.length:=by omega
  have bb:rs.take (i+1)=rs.take i++[rs[i]]:=by rw[S5];simp[V]
  have bc:=(Mu id (rs.take i)).2.2.2.2;rw[Lc] at bc;have ec:=DL (rs.take i);rw[Lc] at ec;have push:∀{X:World} {j:Int} {K:Value->World->Prop},Grow W1 X->(∀m W3,AE W.heap.size 128 2 Ei W3 m ((rowOf id (rs.take i)).1++[⟨1,j⟩])->AE W.heap.size 64 1 (Ca λx=>D x/\x<W.heap.size) W3 cv (List.replicate (BJ (rs.take i)) d)->(∀g,m.ownBlock=some g->cv.ownBlock≠some g)->Grow W W3->K m W3)->
    Dg 128 2 1 [(zI 0),(zI 0)] [(0,.agg (Spn.cells ⟨1,j⟩).toArray)] (λal w8=>runK prog (Builtin.append_ #[121,121] 121 [rv,al].toArray) K w8) X:=λ{X j K} g2 hk=>by
   have z2:=g2.size;have q1:AE W.heap.size 128 2 Ei X rv (rowOf id (rs.take i)).1:=AE.mod o1 g2 (λ_ _ h=>h) λ_ _ _ h=>h;have q2:AE W.heap.size 64 1 (Ca λx=>D x/\x<W.heap.size) X cv (List.replicate (BJ (rs.take i)) d):=AE.mod o2 g2 (λ_ _ h=>h) λ_ _ _ h=>GF g2 (λ_ _ h=>h) h;have bd:=AE.Aj q1;have bk:=AE.Aj q2;refine Dp DW.elE q1 (by omega) (cs:=Spn.cells ⟨1,j⟩) (x:=(⟨1,j⟩:Spn)) (DD (v:=.agg (Spn.cells ⟨1,j⟩).toArray) rfl (by decide) rfl rfl) rfl rfl (λ_ _ _ h=>by have h':=h;subst h';exact Spn.one _) (λ_ _ _ _ _ _ h=>h) (by show _*16<=_;omega) (by simp only[maxLen];omega) λm W3 o3 m3 n3=>?_;refine hk m W3 o3 (AE.mod q2 m3 (λg O e=>U g e O) λ_ _ _ h=>GF m3 (λb hb e=>by have:=(bd b e).1;omega) h) (λg O e=>?_) ((g1.trans g2).next m3 λb hb e=>by have:=(bd b e).1;omega);rcases n3 g O with h|h
   .exact U g h e
   .have:=(bk g e).2;omega
  refine AR (λvs W'=>∃m I,vs=[m,I]/\St (rs.take (i+1)) m I W') ?_ ?_
  .rintro _ X ⟨m,I,rfl,s1,s2,s3,s4⟩ _;simp only[FC];rw[AM,AK (by omega)];exact⟨⟨i+1,m,I,V,rfl,s1,s2,s3,s4⟩,by show rs.length-Dh [m,I,_] 2<rs.length-Dh [rv,cv,_] 2;simp only[Dh,YL,BQ,Nr,List.tail_cons];omega⟩
  have rd:∀{X:World} {q:Nat} {K:Value->World->Prop} (hq:q<rs.length),Grow W X->K (.int .i32 rs[q]) X->Ip 1 (.slice a rs.length c) (zI (q:Int)) (λt=>Ay t K X):=λ{X q K} hq g hk=>by
   obtain⟨p,r,rfl,_,hr,hc,rfl⟩:=e8.get hq;exact AS hq (AJ (by have:=hc 0 _ rfl;exact g.cell this λh=>h) hk)
  refine rd V g1 ?_;rw[Aa];have b1:BJ (rs.take (i+1))=BJ (rs.take i)+(if rs[i]=10 then 1 else 0):=by
   rw[bb,ER];by_cases e:rs[i]=(10:Int)<;>simp[BJ,e]
  have b2:(rowOf id (rs.take (i+1))).1=(Fg id (rowOf id (rs.take i)) rs[i]).1:=by rw[bb,JR]
  have b6:=Mo id (rs.take i);have inl:(Fg id (rowOf id (rs.take i)) rs[i]).1=(rowOf id (rs.take i)).1++[⟨1,id⟩]->¬rs[i]=10->
    CV [(0,1),(1,1)] [(zI 0),(zI 0)] [(0,(zI 1)),(1,zI id)] (λt76=>
     Dg 128 2 1 [(zI 0),(zI 0)] [(0,t76)] (λt77 an=>
     runK prog (Builtin.append_ #[121,121] 121 [rv,t77].toArray) (λav ax=>
     (λvs W'=>∃ m I,vs=[m,I]/\St (rs.take (i+1)) m I W') [av,cv] ax) an) W1):=λe Y=>by
   refine⟨(Spn.cells ⟨1,id⟩).toArray,by kernel_rfl,?_⟩;refine push (j:=id) (Mod.refl _ _) λm W3 s1 s2 s3 s4=>⟨m,cv,rfl,by rw[b2,e];exact s1,by rw[b1,Bp Y,lf];exact s2,s3,s4⟩
  refine AD (λY=>?_) λY=>?_
  .have o:rs[i]=(10:Int):=Y;refine⟨(Spn.cells ⟨1,0⟩).toArray,by kernel_rfl,?_⟩;refine push (j:=0) (Mod.refl _ _) λm W3 s1 s2 s3 s4=>?_;have zs:=s4.size;have a7:=AE.Aj s2;have bp:=AE.Aj s1;have bs:Q.cells=[Q].toArray:=by
    obtain⟨a,c,e,_⟩:=hb.shape;rw[e];rfl
   refine Dp Au.elE s2 (by omega) (cs:=[Q]) (x:=d) (DD (v:=Q) rfl (by decide) bs rfl) rfl (GF s4 (λ_ _ h=>h) e9) (λ_ _ _ h=>Au.rone h) (λw2 w3 r y eo hm hy=>GF hm (λb hb e=>by
    rcases e with e|e
    .have:=(a7 b e).1;omega
    .omega) hy) (by rw [me];show _ * 24<=_;omega) (by rw [me];simp only [maxLen];omega) λI W4 o4 m4 n4=>?_
   refine⟨m,I,rfl,?_,?_,λg O e=>?_,s4.next m4 λb hb e=>by have:=(a7 b e).1;omega⟩
   .rw[b2,Fg,DN o];exact AE.mod s1 m4 (λg O e=>s3 g O e) λ_ _ _ h=>h
   .rw[b1,DN o,rp];exact o4
   .rcases n4 g e with h|h
    .exact s3 g O h
    .have:=(bp g O).2;omega
  .have o:¬rs[i]=(10:Int):=Y;obtain⟨ra,rc,ed,ep,_,er,et⟩:=AE.shape o1;subst ed;rw[AO,Am,wrap64 (by omega) (by omega),Cu];have B:(Fg id (rowOf id (rs.take i)) rs[i]).1=match (rs.take i).getLast? with
     |some q=>if q=10 then(rowOf id (rs.take i)).1++[⟨1,id⟩] else bump (rowOf id (rs.take i)).1
     |none=>(rowOf id (rs.take i)).1++[⟨1,id⟩]:=by rw[Fg,Bp o,b6];first | done | (cases(rs.take i).getLast?<;>rfl)
   obtain⟨f1,f2,f3,f4,f5⟩:=Mu id (rs.take i);refine AD (λa8=>?_) λeh=>?_
   .have eu:0<i:=by
     rcases Nat.eq_zero_or_pos i with e|e
     .subst e;rw[f4 (by simp)] at a8;simp at a8
     .exact e
    have Z:(rs.take i).getLast?=some rs[i-1]:=by
     rw[List.getLast?_take,Bp (by omega),Bq (by omega)];rfl
    rw[Z] at B;simp only at B;rw[Am,wrap64 (by omega) (by omega),show((i:Int)-1)=((i-1:Nat):Int) by omega];refine rd (by omega) g1 ?_;rw[BL];refine AW (λe=>?_) λe=>?_
    .exact inl (by rw[B,DN e]) o
    .obtain⟨L,n,eL,ew⟩:=f3 _ Z;have hq:GH id rs[i-1]=id:=by simp only[GH];exact Bp e
     rw[hq] at eL;have ey:n<=i:=by
      have:=lV List.length f1;rw[eL] at this;simp[Spn.u] at this;omega
     have b7:(rowOf id (rs.take i)).1.length=L.length+1:=by rw[eL];simp
     have a1:=o1;rw[b7] at a1 ⊢;rw[eL] at a1;have ee:=AE.sl a1;rw[show((L.length+1:Nat):Int)-1=((L.length:Nat):Int) by omega];obtain⟨p,r,rfl,b8,hr,hc,ef⟩:=ee.get (i:=L.length) (by simp);have bx:r=Spn.cells ⟨n,id⟩:=by have h':r=_:=ef;rw[h'];simp
     subst bx;refine AS (by omega) ?_;rw[AH,Addr.add_add];refine AJ (v:=zI (n:Int)) (hc 0 _ rfl) ?_;rw[AM,wrap64 (by omega) (by omega)];refine AS (by omega) ?_;rw[AH,Addr.add_add];refine OZ (k:=2) (i:=L.length) (j:=0) (x':=(⟨n+1,id⟩:Spn)) a1 (by simp) (by decide) rfl rfl (λ_ _ _ _ h=>h) (λ_ _ r hr=>?_) λW' o' m'=>?_
     .have h':r=_:=hr;rw[h'];simp[Spn.cells,Ei]
     .have ej:(Value.slice (some p) (L.length+1) rc).ownBlock=some p.block->W.heap.size<=p.block:=λe=>(AE.Aj a1 _ e).1;have bZ:(L++[(⟨n,id⟩:Spn)]).set L.length ⟨n+1,id⟩=L++[⟨n+1,id⟩]:=by simp
      rw[bZ] at o';refine⟨_,_,rfl,?_,?_,λg O=>U g ?_,?_⟩
      .rw[b2,B,Bp e,eL,Qx];exact o'
      .rw[b1,Bp o,lf];exact AE.mod o2 m' (λg O e=>U g (by rw[b7,e];exact b8.2) O) λ_ _ _ h=>GF m' (λb hb e=>by have:=b8.1;omega) h
      .rw[b7];exact O
      .exact g1.next m' λb hb e=>by have:=b8.1;omega
   .have hz:(rowOf id (rs.take i)).1.length=0:=by omega
    have b9:(rs.take i).getLast?=none:=by
     cases O:(rs.take i).getLast? with
     |none=>rfl
     |some q=>
      obtain⟨L,n,eL,_⟩:=f3 q O;rw[eL] at hz;simp at hz
    exact inl (by rw[B,b9]) o
 .obtain rfl:i=rs.length:=by omega
  rw[S7] at o1 o2;exact hK rv cv W1 o1 o2 U g1
end Go.Proofs.YtbdjachmndlplaaGreatDoor
