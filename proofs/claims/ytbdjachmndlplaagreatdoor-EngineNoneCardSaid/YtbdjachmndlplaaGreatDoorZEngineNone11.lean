/- parts of the proof, written short by a program of ours -/
import Derived.Test.YtbdjachmndlplaaGreatDoorZEngineNone10
import Derived.Lib.SlBytesConst
import Derived.Test.YtbdjachmndlplaaGreatDoorTie
import Derived.Test.YtbdjachmndlplaaGreatDoorCards
import Derived.WalkKit
import Derived.OpenShut
import Derived.ShutString
import Derived.ChangeOld
import Derived.ChangeVars
import Derived.JoinedOf
import Derived.SevenTiedAt
set_option maxRecDepth 100000
set_option linter.unusedSimpArgs false
set_option linter.unusedVariables false
set_option linter.defProp false
namespace Go.Proofs.YtbdjachmndlplaaGreatDoor
open Go Proofs.Tryz
variable {j:Nat}{w w0:World}{S:Nat->Prop}{v a0:Value}{vs cs:List Value}{P:Program}
section
section
variable {w0:World}{F:Nat->Prop}{W:World}{a:TxA}{σ:SKs}{most:Int}{d clip:List Cel}{N:Nat}{H:Hist}{e:EgA}{Ft Fh Fc:Nat->Prop}{cv:Value}
theorem XG{i:Int}(h:Gx .f w0 F W a σ most d N)(hi:i<0\/(d.length:Int)<=i) :
  AB prog 113 [.pointer (some ⟨a.b,0,none⟩),zI i] (λv' w'=>v'=.tuple #[.agg #[.int .i32 0,.slice none 0 0],zI 5]/\Grow W w') W:=by
 refine uS2 (dB 2296544954160217 [([],[(5,5),(12,20)])] []) func113 (λ_ _ _ _=>⟨by conv=>lhs;reduce,by dsimp only[PI,AF],by kernel_rfl⟩) ?_;unfold uI;refine Bx.zero λb q hb J B=>?_;have h1:=h.grow J;refine AA (FL h1.box.1) ?_;rintro _ _ ⟨rfl,rfl⟩;rename World=>q
 rw[Ah];refine AL ?_;have fin:∀(m:World) (K:Cont),Grow q m->(∀j,Grow W j->K (.agg #[.int .i32 0,.slice none 0 0]) j)->CV [(0,1),(1,1)] [.int .i32 0,.slice none 0 0] [] (λt=>BP 2 (.pointer (some ⟨b,0,none⟩)) t (λO=>CX 2 (.pointer (some ⟨b,0,none⟩)) (λQ w4=>K Q w4) O) m):=λm K o U=>by
  refine⟨#[.int .i32 0,.slice none 0 0],by kernel_rfl,?_⟩;refine(B.grow o).over (us:=[.int .i32 0,.slice none 0 0]) rfl rfl (λu hu=>by simp at hu;rcases hu with rfl|rfl<;>rfl) λj V X=>?_;exact V.Eg rfl (U j ((J.trans o).next X λx Y e=>by omega))
 refine AR (λ_ _=>False) (λ_ _ h=>h.elim) ?_;refine G9 (λe=>?_) λe=>?_
 .exact fin q _ (Mod.refl _ _) λj I=>⟨rfl,I⟩
 .refine AA (HD h1) ?_;rintro _ m ⟨rfl,o⟩;rw[Cu];exact AD (λ_=>fin m _ o λj I=>⟨rfl,I⟩) λe'=>by omega
def aP(n p i most:Int):Int:=if p<0\/n<p then 5 else if p=n then 6 else if most<n+i then 8 else 0
theorem SB{p i:Int}(h:NS w0 Ft Fh Fc W e cv σ most d clip H N)(B:d.length<=1099511627776)(hm:0<=i/\i<=1099511627776) :
  AB prog 51 [.pointer (some ⟨e.b,0,none⟩),zI p,zI i] (λv' w'=>v'=zI (aP d.length p i most)/\Grow W w') W:=by
 refine uS3 (dB 287042747861705 [([13],[(13,20)])] []) func51 (λ_ _ _ _ _=>⟨by conv=>lhs;reduce,by dsimp only[PI,AF],by kernel_rfl⟩) ?_;unfold uI;refine AG ?_;refine Az (h.box.cells 1 _ rfl) ?_;refine AA (HD h.tx) ?_;rintro _ q ⟨rfl,j⟩;have h1:=h.grow j;refine AR (λvs W'=>W'=q/\vs=[.bool (decide (p<0\/(d.length:Int)<p))]) ?_ ?_;rotate_left
 .rw[Ai];refine AD (λe=>⟨rfl,by simp[e]⟩) λe=>?_;rw[BE];exact⟨rfl,by simp[e]⟩
 rintro vs _ ⟨rfl,rfl⟩ _;simp only[BQ,Nr];unfold aP;refine AD (λe=>?_) λe=>?_
 .rw[DN e];exact⟨rfl,j⟩
 rw[Bp e,Aa];refine AD (λm=>?_) λm=>?_
 .rw[DN m];exact⟨rfl,j⟩
 rw[Bp m,AM,wrap64 (by omega) (by omega)];refine AG ?_;refine Az (h1.box.cells 3 _ rfl) ?_;rw[BE];refine AD (λo=>?_) λo=>?_
 .rw[DN o];exact⟨rfl,j⟩
 .rw[Bp o];exact⟨rfl,j⟩
def KC(d:List Cel)(i:Int):List Attr:=if 0<=i then match d[i.toNat]? with|some c=>if c.r=10 then[] else c.set|none=>[] else[]
theorem OQ{i:Int}(h:NS w0 Ft Fh Fc W e cv σ most d clip H N)(U:∀c∈d,Et σ.ks c.set)(V:d.length<=10000000)(X:N<=1000000000) :
  AB prog 55 [.pointer (some ⟨e.b,0,none⟩),zI i] (λv' w'=>Ba (λx=>W.heap.size<=x/\x<w'.heap.size) w' v' (KC d i)/\Grow W w') W:=by
 refine uS2 (dB 2138825 [] []) func55 (λ_ _ _ _=>⟨by conv=>lhs;reduce,by dsimp only[PI,AF],by kernel_rfl⟩) ?_;unfold uI;refine AG ?_;refine Az (h.box.cells 1 _ rfl) ?_;by_cases hi:i<0\/(d.length:Int)<=i
 .have e0:KC d i=[]:=by
   unfold KC;split
   .rw[lP (by omega)]
   .rfl
  refine AA (XG h.tx hi) ?_;rintro _ Y ⟨rfl,m⟩;refine Ae (vs:=[_,_]) rfl (Ae (vs:=[_,_]) rfl ?_);refine Bx.new (vs:=[.int .i32 0,.slice none 0 0]) rfl rfl (λu hu=>by simp at hu;rcases hu with rfl|rfl<;>rfl) λb o hb j B=>?_;rw[BL];refine AW (λe=>absurd e (by decide)) λ_=>?_;rw[e0];exact⟨An.nil,m.trans j⟩
 .obtain⟨n,rfl⟩:∃n:Nat,i=n:=⟨i.toNat,by omega⟩;have O:n<d.length:=by omega
  have e0:KC d n=if d[n].r=10 then[] else d[n].set:=by
   unfold KC;rw[DN (by omega),mH,Bq O]
  refine AA (cM h.tx O U V X) ?_;rintro _ Y ⟨_,rfl,⟨sv,rfl,Q⟩,m⟩;refine Ae (vs:=[_,_]) rfl (Ae (vs:=[_,_]) rfl ?_);obtain⟨sa,sc,q,_⟩:=id Q.shape;refine Bx.new (vs:=[.int .i32 d[n].r,sv]) rfl rfl (λu hu=>by subst q;simp at hu;rcases hu with rfl|rfl<;>rfl) λb o hb j B=>?_;have I:Ba (λx=>W.heap.size<=x/\x<o.heap.size) o sv d[n].set:=(Q.grow j (by decide) λ_ _ h=>h).sub (λx Z h=>⟨h.1,Z⟩) (by decide) λ_ _ h=>h;refine Ko ?_;refine Az (B.cells 0 _ rfl) ?_;rw[Aa,e0];refine AD (λJ=>?_) λJ=>?_
  .rw[DN J];exact⟨An.nil,m.trans j⟩
  .rw[Bp J,AH,AI];exact AJ (B.cells 1 _ rfl) ⟨I,m.trans j⟩
end
section
variable {w0:World}{F:Nat->Prop}{w:World}{a:TxA}{σ:SKs}{most:Int}{d clip:List Cel}{N:Nat}{H:Hist}{e:EgA}{Ft Fh Fc Rd:Nat->Prop}{cv:Value}{b3 b4 b5:Nat}
theorem ID(l:List Int){i j:Nat}(h:i<=j):BJ (l.take i)<=BJ (l.take j):=by
 have e:l.take i=(l.take j).take i:=by rw[nB,lQ h]
 have:=ER ((l.take j).take i) ((l.take j).drop i);rw[TC] at this;rw[e];omega
theorem RG{l:List Int}{i:Nat}(h:i<l.length)(hl:l.getLast?=some 10):BJ (l.take i)<BJ l:=by
 obtain⟨m,c,rfl⟩:∃m c,l=m++[c]:=by
  rcases lS l with h'|⟨m,c,h'⟩
  .rw[h'] at hl;cases hl
  .exact⟨m,c,by rw[h',mB]⟩
 rw[cq,kY] at hl;obtain rfl:c=10:=by simpa using hl
 rw[BW,nT] at h;have e:(m++[10]).take i=m.take i:=nR (by omega);rw[e,ER];have h1:BJ (m.take i)<=BJ m:=by have:=ID m (i:=i) (j:=m.length) (by omega);rwa [S7] at this
 have o:BJ [(10:Int)]=1:=rfl;omega
def N1(d:List Cel)(i:Nat):Nat:=BJ ((Al d).take i)
def ZR(d:List Cel)(i j:Nat):Nat:=BJ ((Al d).take (max i (j-1)))
theorem VG{i j:Nat}(h:NS w0 Ft Fh Fc w e cv σ most d clip H N)(B3:Bx w b3 [.pointer (some ⟨e.b,0,none⟩)])(B4:Bx w b4 [zI (i:Int)])(B5:Bx w b5 [zI (j:Int)])
 (hR:∀y,y<w.heap.size->(y<w0.heap.size\/Ft y\/σ.S y\/y=e.b\/y=b3\/y=b4\/y=b5)->Rd y)(h4:∀y,Rd y->y<w.heap.size)(hM:JW σ.ks d)(hi:i<d.length)(hj:j<=d.length)(hz:d.length<=10000000)(hN:N<=1000000000) :
  cG (λ_=>False) True prog 103 [.pointer (some ⟨b3,0,none⟩),.pointer (some ⟨b4,0,none⟩),.pointer (some ⟨b5,0,none⟩)]
   (λk o W a=>∃(p:Nat) (sv:Value) (set:List Attr),G5 (Al d) (N1 d i+k)=some p/\(Bb d)[N1 d i+k]?=some set/\a=[zI (p:Int),sv]/\Ba o W sv set) (ZR d i j+1-N1 d i) Rd w:=by
 intro yl J Jx w1 g1 h0 av bp JY Q;refine uS4 (dB 5033860046587 [([10],[(10,12),(40,63)])] [(dC [5] [0,1,3,7,0,31,63,127,127,255,1023] []),(dC [8] [0,1,3,7,0,0,32,112,255,511,1023,1023,2047,8191] [])]) func103 (λ_ _ _ _ _ _=>⟨by conv=>lhs;reduce,by dsimp only[PI,AF],by kernel_rfl⟩) ?_;unfold uI;have ax:=h.tx.hl;have ay:=h.tx.HN.2;have bZ:=h.tx.g.size;have aZ:=B3.lt (QC _);have b0:=B4.lt (QC _);have b1:=B5.lt (QC _);have b2:=h.box.lt (by simp);have R3:Rd b3:=hR b3 aZ (by simp);have R4:Rd b4:=hR b4 b0 (by simp);have R5:Rd b5:=hR b5 b1 (by simp);have Re:Rd e.b:=hR e.b b2 (by simp)
 let U:Nat->(Nat->Prop)->World->Prop:=λk o W=>J k o W/\Mod (λy=>¬Rd y) w W/\∀y,o y->y<W.heap.size
 have b6:U 0 (λ_=>False) w1:=⟨h0,g1.mono λ_ _ h=>h.elim,λy e=>e.elim⟩;have B:∀{k o W W'},U k o W->Grow W W'->U k (λy=>o y\/(W.heap.size<=y/\y<W'.heap.size)) W':=λ{k o W W'} ⟨j,m,il⟩ g=>by
  have zg:=g.size;exact⟨av k o _ W W' j (g.mono λ_ _ h=>h.elim) λy hy=>⟨hy.imp id qn,by rcases hy with h|h;have:=il y h;omega;exact h.2⟩,m.next g λ_ _ h=>h.elim,λy hy=>by rcases hy with h|h;have:=il y h;omega;exact h.2⟩
 have V:∀ {k o W},U k o W->Gx .f w0 Ft W e.t σ most d N:=λ{k o W} ⟨_,m,_⟩=>h.tx.mod m λx X=>⟨λhf=>X (hR x (ax x hf).2.1 (by simp [hf])),λhs=>X (hR x (ay x hs) (by simp [hs])),by
  rcases qf x w0.heap.size with hh|hh
  .exact(X (hR x (by omega) (by simp[hh]))).elim
  .exact hh⟩
 have Y:∀{k o W},U k o W->Bx W b3 [.pointer (some ⟨e.b,0,none⟩)]:=λ⟨_,m,_⟩=>B3.mod m λe=>e R3;have a6:∀{k o W},U k o W->Bx W b4 [zI (i:Int)]:=λ⟨_,m,_⟩=>B4.mod m λe=>e R4;have b7:∀{k o W},U k o W->Bx W b5 [zI (j:Int)]:=λ⟨_,m,_⟩=>B5.mod m λe=>e R5;have Z:∀{k o W},U k o W->Bx W e.b (iz σ.sv e most cv):=λ⟨_,m,_⟩=>h.box.mod m λe=>e Re;have b8:(Al d).length=d.length:=I3 _;have c4:N1 d i<=ZR d i j:=ID _ (Nat.le_max_left _ _);have c6:ZR d i j<BJ (Al d):=RG (by rw[b8];omega) hM.last;have b9:=DU d;have c7:=DL (Al d);have gd:Grow w1 w1.drew:=Mod.drew _ _;have s1:=B b6 gd;refine AT (λ_ _=>False) ?_;refine AP ⟨(Y s1).cells 0 _ rfl,λj hj e=>e⟩ ?_;refine AG ?_;rw[AH,AI];refine AP ⟨(Z s1).cells 1 _ rfl,λj hj e=>e⟩ ?_;refine AP ⟨(a6 s1).cells 0 _ rfl,λj hj e=>e⟩ ?_;refine AA (LL (V s1) (by omega) hz) ?_;rintro _ w2 ⟨rfl,g2⟩;refine⟨g2.mono λ_ _ h=>h.elim,?_⟩;refine Ae (vs:=[_,_]) rfl (Ae (vs:=[_,_]) rfl ?_);have s2:=B (B s1 g2) (Mod.drew (λ_=>False) _);refine AT (λ_ _=>False) ?_;refine AP ⟨(Y s2).cells 0 _ rfl,λj hj e=>e⟩ ?_;refine AG ?_;rw[AH,AI];refine AP ⟨(Z s2).cells 1 _ rfl,λj hj e=>e⟩ ?_;refine AP ⟨(a6 s2).cells 0 _ rfl,λj hj e=>e⟩ ?_;refine AP ⟨(b7 s2).cells 0 _ rfl,λj hj e=>e⟩ ?_;rw[Am,wrap64 (by omega) (by omega),GC];have ba:(if(j:Int)-1>(i:Int) then(j:Int)-1 else(i:Int))=((max i (j-1):Nat):Int):=by split<;>omega
 rw[ba];refine AA (LL (V s2) (by omega) hz) ?_;rintro _ w3 ⟨rfl,g3⟩;refine⟨g3.mono λ_ _ h=>h.elim,?_⟩;refine Ae (vs:=[_,_]) rfl (Ae (vs:=[_,_]) rfl ?_);have s3:=B s2 g3;refine AJ ((Y s3).cells 0 _ rfl) ?_;refine AG ?_;refine Az ((Z s3).cells 1 _ rfl) ?_;refine AA (Rr (V s3) hM.set hz hN) ?_;rintro pv w4 ⟨hp,g4⟩;have s4:=B s3 g4;generalize a7:(λy=>_\/(w3.heap.size<=y/\y<w4.heap.size))=I4 at s4;have a8:An I4 1 (Ca I4) w4 pv (Bb d):=by
  rw[<-a7];exact hp.sub (λx _ h=>.inr h) (by decide) λr x ⟨sv,e1,X⟩=>⟨sv,e1,X.sub (λx _ h=>.inr h) (by decide) λ_ _ h=>h⟩
 clear a7 hp;obtain⟨pa,pc,rfl,_⟩:=a8.shape;refine AU (λvs W=>∃(k:Nat) (o:Nat->Prop),k<=ZR d i j+1-N1 d i/\vs=[zI ((N1 d i+k:Nat):Int)]/\U k o W/\An o 1 (Ca o) W (.slice pa (Bb d).length pc) (Bb d)) (λvs _=>ZR d i j+1-Dh vs 0) ⟨0,I4,Nn _,rfl,s4,a8⟩ ?_;rintro vs W ⟨k,o,hk,rfl,I,bb⟩ _;simp only[BQ,Nr];rw[HT];refine AD (λbc=>?_) λbd=>?_;rotate_left
 .obtain rfl:k=ZR d i j+1-N1 d i:=by
   have bs:¬((N1 d i+k:Nat):Int)<=((ZR d i j:Nat):Int):=bd;omega
  exact⟨o,.inl I.1⟩
 have bx:N1 d i+k<=ZR d i j:=by
  have:((N1 d i+k:Nat):Int)<=((ZR d i j:Nat):Int):=bc;omega
 refine AJ ((Y I).cells 0 _ rfl) ?_;refine AG ?_;refine Az ((Z I).cells 1 _ rfl) ?_;rw[AM,wrap64 (by omega) (by omega),show(((N1 d i+k:Nat):Int)+1)=((N1 d i+k+1:Nat):Int) by omega];refine AA (Vj (V I) hz) ?_;rintro _ W5 ⟨rfl,g5⟩;obtain⟨p,ak,c8⟩:=Lj (l:=Al d) (k:=N1 d i+k) (by omega);have eo:La (Al d) (N1 d i+k+1)=.tuple #[zI ((p+1:Nat):Int),zI 0]:=by
  unfold La;rw[Bp (by omega),Bp (by omega),show N1 d i+k+1-1=N1 d i+k by omega,ak]
 rw[eo];refine Ae (vs:=[_,_]) rfl (Ae (vs:=[_,_]) rfl ?_);rw[Am,wrap64 (by omega) (by omega),show(((p+1:Nat):Int)-1)=(p:Int) by omega];have s5:=B I g5;have a1:N1 d i+k<(Bb d).length:=by omega
 have al:An o 1 (Ca o) W5 (.slice pa (Bb d).length pc) (Bb d):=bb.grow g5 (by decide) λr x ⟨sv,e1,X⟩=>⟨sv,e1,X.grow g5 (by decide) λ_ _ h=>h⟩;obtain⟨q,r,rfl,_,hr,hc,sv,rfl,bk⟩:=al.get a1;refine AS a1 (AJ (by have:=hc 0 _ rfl;exact this) ?_);have c9:=s5;refine .inr ⟨yl,rfl,FO (Q k _ W5 _ (by omega) s5.1 ⟨p,sv,(Bb d)[N1 d i+k],ak,Bq a1,rfl,bk.sub (λx _ h=>.inl h) (by decide) λ_ _ h=>h⟩) ?_⟩;rintro vv W6 ⟨ca,O,hq,⟨rfl,an⟩|⟨rfl,PW⟩⟩
 .have bl:=JY (k+1) _ W6 an;rw[Ah];refine AL ?_;rw[AM,AK (by omega)];refine⟨⟨k+1,_,by omega,rfl,⟨an,⟨hq.1.trans s5.2.1.os,hq.2.1.trans s5.2.1.tape,hq.2.2.trans s5.2.1.output,by have:=s5.2.1.size;omega,λb hb hn=>bl b hb (pL.1 hn)⟩,λy hy=>by have:=s5.2.2 y hy;omega⟩,?_⟩,by rw[Bw,Bw];omega⟩;exact An.mono al (λ_ _ h=>.inl h) (λb hb h=>O b (.inl h)) (by decide) λr x ⟨sv,e1,X⟩=>⟨sv,e1,An.mono X (λ_ _ h=>.inl h) (λb hb h=>O b (.inl h)) (by decide) λ_ _ h=>h⟩
 .rw[Ah];exact AQ ⟨_,.inr PW⟩
end
section
variable {w0:World}{F Ft Fh Fc:Nat->Prop}{W W':World}{e:EgA}{cv:Value}{σ:SKs}{most:Int}{d clip:List Cel}{H:Hist}{N:Nat}
theorem VJ{i j:Int}{m:Value}(h1:m.cells=#[m]) :
  AB prog 52 [m,zI i,zI j] (λv' w'=>∃b3 b4 b5,v'=.func (.func 103) #[] #[.pointer (some ⟨b3,0,none⟩),.pointer (some ⟨b4,0,none⟩),.pointer (some ⟨b5,0,none⟩)]/\Grow w w'/\Bx w' b3 [m]/\Bx w' b4 [zI i]/\Bx w' b5 [zI j]/\w.heap.size<=b3/\w.heap.size<=b4/\w.heap.size<=b5) w:=by
 refine uS3 (dB 9 [] []) func52 (λ_ _ _ _ _=>⟨by conv=>lhs;reduce,by dsimp only[PI,AF],by kernel_rfl⟩) ?_;unfold uI;refine Cg h1 λb3 X o I J=>?_;refine Cg rfl λb4 w2 O q Q=>?_;refine Cg rfl λb5 Y U B V=>?_;have Z:=I.size;have z2:=q.size;exact⟨b3,b4,b5,rfl,(I.trans q).trans B,J.grow (q.trans B),Q.grow B,V,o,by omega,by omega⟩
theorem VK{bv:Value}{b l:List Int}{p:Nat}{line:List Attr}{x:List Dop}(h:LX w0 F W e σ most d clip H N)(hT:EA w0)(hM:DocM σ.ks most d)(hC:∀c∈d,Ou σ.ks c)(dr:σ.ks.length<=64)(hK:∀k∈σ.ks,D8 k)
 (hb:Bv S W bv b)(dA:Bj b)(hr:Bf b=some l)(eI:b.length<=1000000)(eL:l.length<=1000000)(hp:p<d.length)(eC:(d.length:Int)+l.length<=most)(a7:(Bb d)[N1 d p]?=some line)(hn:ad σ.ks (KC d p)=[])(hx:x=BV (Fa σ.ks p l (KC d ((p:Int)-1)) line))
 (hI:∀o∈x,NT o)(hl:x.length<=1000)(hm:most<=2000)(dB:Aq (Fa σ.ks p l (KC d ((p:Int)-1)) line)<=68719476736)(hN:N+EO 4000 x<=1000000000)(dC:H.op=false)(hH:H.us.length<=H.max)(dT:H.max<=65536) :
  AB prog 20 [.pointer (some ⟨e.b,0,none⟩),zI (p:Int),bv] (λv' w'=>v'=zI (Cj σ.ks x d.length most)/\ZV w0 F W w' e σ most (Ds σ.ks most d x) clip (if Cj σ.ks x d.length most=0 then H.put x (BV (DG σ.ks d x)) else H) (N+EO 4000 x)/\DocM σ.ks most (Ds σ.ks most d x)) W:=by
 obtain⟨Ft,Fh,Fc,cv,h,hF⟩:=h;have a8:=h.lt;have b9:=h.tx.HN.2;have eN:=h.tx.g.size;have e1:=hM.le;apply Wz;unfold S20;refine Cg rfl λb3 Y eR g1 B3=>?_;refine Cg rfl λb4 W2 eX g2 B4=>?_;refine Bx.zero λb6 W3 fa g3 B6=>?_;have z1:=g1.size;have z2:=g2.size;have z3:=g3.size;have G3:=(g1.trans g2).trans g3;refine AJ ((B3.grow (g2.trans g3)).cells 0 _ rfl) ?_;refine AA (FA (h.grow G3).box) ?_;rintro _ _ ⟨rfl,rfl⟩;rename World=>W3
 refine AL ?_;have c6:Bv S W3 bv b:=hb.grow G3 (by decide) λ_ _ h=>h;refine AA (Qt c6 dA (hT.grow (h.grow G3).tx.g) (by omega)) ?_;rintro _ W8 ⟨g8,c7⟩;rw[hr] at c7;obtain⟨sl,rfl,o8⟩:=c7;refine Ae (vs:=[_,_]) rfl (Ae (vs:=[_,_]) rfl ?_);refine Bx.zero λb7 W9 fo g9 B7=>?_;have z8:=g8.size;have z9:=g9.size;obtain⟨e2,e3⟩:=o8.one;refine B7.st (q:=0) (show 0<1 by decide) e2 e3 λak ba Z=>?_;have fs:=Z.size;have c8:Grow W ak:=(G3.trans (g8.trans g9)).next Z λx hx e=>by omega
 have bb:Bx ak b3 [.pointer (some ⟨e.b,0,none⟩)]:=(B3.grow ((g2.trans g3).trans (g8.trans g9))).mod Z (by have:=B3.lt (QC _);omega);have ay:Bx ak b4 [zI (p:Int)]:=(B4.grow (g3.trans (g8.trans g9))).mod Z (by have:=B4.lt (QC _);omega);have e4:Bx ak b6 [zI 0]:=(B6.grow (g8.trans g9)).mod Z (by have:=B6.lt (QC _);omega);have fv:=B3.lt (QC _);have ga:=B4.lt (QC _);have gb:=B6.lt (QC _);have gf:=B7.lt (QC _);have e5:AE W3.heap.size 21 1 Be ak sl l:=AE.mod (AE.mod (R':=Be) o8 g9 (λ_ _ h=>h) λ_ _ _ h=>h) Z (λg hg e=>by have:=(AE.Aj o8 g hg).2;omega) λ_ _ _ h=>h;refine Ko ?_;refine AJ (bb.cells 0 _ rfl) ?_;refine AJ (ay.cells 0 _ rfl) ?_;refine AJ (ba.cells 0 _ rfl) ?_;obtain⟨sa,sc,rfl,_⟩:=AE.shape o8;rw[oy] at ba;rw[AO];refine AA (SB (h.grow c8) (by omega) ⟨by omega,by omega⟩) ?_;rintro _ gg ⟨rfl,J⟩;have ep:aP d.length p l.length most=0:=by
  unfold aP;rw[Bp (by omega),Bp (by omega),Bp (by omega)]
 rw [ep,BL];refine AW (λ_=>?_) λe=>(e rfl).elim;refine AJ ((bb.grow J).cells 0 _ rfl) ?_;refine AJ ((ay.grow J).cells 0 _ rfl) ?_;refine AJ ((ay.grow J).cells 0 _ rfl) ?_;refine AA (VJ rfl) ?_;rintro _ I ⟨c3,c4,c5,rfl,U,C3,C4,C5,gl,gm,gr⟩;have gv:=J.size;have z22:=U.size;have bc:=(c8.trans J).trans U;have e6:=h.grow bc;have e7:=(bb.grow J).grow U;have e8:=(ay.grow J).grow U;have e9:=(e4.grow J).grow U;have ea:=(ba.grow J).grow U;have ec:AE W3.heap.size 21 1 Be I (.slice sa l.length sc) l:=AE.mod e5 (J.trans U) (λ_ _ h=>h) λ_ _ _ h=>h;have gw:(Al d).length=d.length:=I3 _;refine ⟨_,True,_,_,_,_,_,rfl,by kernel_rfl,VG (Rd:=λy=>y < I.heap.size) e6 C3 C4 C5 (λy B _=>B) (λy B=>B) hM.g hp (by omega) (by omega) (by omega),λk _ _ a _ ⟨pp,sv,set,_,_,e,_⟩=>by rw [e];rfl,λb e=>e.elim,?_⟩;refine ⟨λk It Y=>k=0/\Mod (λy=>I.heap.size<=y) I Y/\∀ y,It y->I.heap.size<=y,
  λex It Y=>ex=.ret/\∃F',(∀y,F' y->(y=e.b\/Ft y\/Fh y\/Fc y)\/I.heap.size+2<=y)/\LX w0 F' Y e σ most (Ds σ.ks most d x) clip (if Cj σ.ks x d.length most=0 then H.put x (BV (DG σ.ks d x)) else H) (N+EO 4000 x)/\Bx Y b6 [zI (Cj σ.ks x d.length most)]/\DocM σ.ks most (Ds σ.ks most d x)/\Mod (λy=>(y=e.b\/Ft y\/Fh y\/Fc y)\/y=b6\/I.heap.size<=y) I Y,
  ⟨rfl,Mod.refl _ _,λ_ h=>h.elim⟩,?_,?_,?_,?_,?_,?_⟩
 .rintro k It ed Y W2 ⟨rfl,m,ee⟩ al V;have zm:=m.size;refine⟨rfl,m.next al λy B e=>?_,λy B=>?_⟩
  .rcases e with⟨e,_⟩|e|e
   .exact(e trivial).elim
   .omega
   .omega
  .rcases(V y B).1 with h|h
   .exact ee y h
   .omega
 .rintro ex It ed Y W2 ⟨rfl,F',f',hE,hB,hD,m⟩ al V;have bd:∀y,((¬True/\It y)\/y=I.heap.size\/y=I.heap.size+1)->y=I.heap.size\/y=I.heap.size+1:=λy e=>by
   rcases e with⟨e,_⟩|e|e
   .exact(e trivial).elim
   .exact .inl e
   .exact .inr e
  refine⟨rfl,F',f',hE.mod al λy B=>?_,hB.mod al λe=>?_,hD,m.next al λy B e=>?_⟩
  .have:=bd y B;refine⟨λhf=>?_,λhs=>by have:=b9 y hs;omega,by omega⟩;rcases f' y hf with hf|hf
   .have:=(a8 y hf).2;omega
   .omega
  .have:=bd _ e;omega
  .have:=bd _ e;exact .inr (.inr (by omega))
 .rintro k It Y ⟨rfl,m,_⟩ y B _;exact m.same y B λe=>by omega
 .rintro k It gA args hk ⟨pp,sv,set,gB,bk,rfl,ef⟩ ⟨rfl,c9,ca⟩ hz V;rw[lf] at bk;obtain rfl:set=line:=by rw[a7] at bk;exact(lK bk).symm
  refine Kn (Mod.refl (λ_=>False) _) hz V (λ_ _ h=>h.elim) λO an=>?_;have gW:=an.size;have h0:=c9.size;have m2:Mod (λy=>I.heap.size<=y) I O:=c9.next an λy B e=>by omega
  have bl:Ba It O sv set:=An.mod ef an (λy _ B e=>(V y B).2.2 e) (by decide) λ_ _ h=>h;have eh:Grow W O:=bc.next m2 λy B e=>by omega
  have gd:Grow O O.drew:=Mod.drew _ _;have cc:=eh.trans gd;have aZ:Mod (λy=>I.heap.size<=y) I O.drew:=m2.next gd λ_ _ h=>h.elim;have b0:=e7.mod aZ (by omega);have bp:=e8.mod aZ (by omega);have ej:=e9.mod aZ (by omega);have ek:=ea.mod aZ (by omega);have hd:=h.grow cc;refine AT (λk y=>(k=16/\(y=e.b\/Ft y\/Fh y\/Fc y))\/(k=17/\y=b6)) ?_;have no:∀{j:Nat} {y:Nat},j≠16->j≠17->¬((j=16/\(y=e.b\/Ft y\/Fh y\/Fc y))\/(j=17/\y=b6)):=λh1 h2 e=>e.elim (λe=>h1 e.1) λe=>h2 e.1;refine AP ⟨b0.cells 0 _ rfl,λj Q e=>by rcases e with⟨rfl,_⟩|⟨rfl,_⟩<;>exact absurd Q (by decide)⟩ ?_;refine AP ⟨b0.cells 0 _ rfl,λj Q e=>by rcases e with⟨rfl,_⟩|⟨rfl,_⟩<;>exact absurd Q (by decide)⟩ ?_;refine AG ?_;rw[AH,AI];refine AP ⟨hd.box.cells 0 _ rfl,λj Q e=>by rcases e with⟨rfl,_⟩|⟨rfl,_⟩<;>exact absurd Q (by decide)⟩ ?_;refine AP ⟨bp.cells 0 _ rfl,λj Q e=>by rcases e with⟨rfl,_⟩|⟨rfl,_⟩<;>exact absurd Q (by decide)⟩ ?_;refine AP ⟨ek.cells 0 _ rfl,λj Q e=>by rcases e with⟨rfl,_⟩|⟨rfl,_⟩<;>exact absurd Q (by decide)⟩ ?_;refine AP ⟨b0.cells 0 _ rfl,λj Q e=>by rcases e with⟨rfl,_⟩|⟨rfl,_⟩<;>exact absurd Q (by decide)⟩ ?_;refine AP ⟨bp.cells 0 _ rfl,λj Q e=>by rcases e with⟨rfl,_⟩|⟨rfl,_⟩<;>exact absurd Q (by decide)⟩ ?_;rw[Am,wrap64 (by omega) (by omega)];refine AA (OQ hd hM.g.set (by omega) (by omega)) ?_;rintro lv h3 ⟨en,a1⟩;refine⟨a1.mono λ_ _ h=>h.elim,?_⟩;refine AP ⟨b0.cells 0 _ rfl,λj Q e=>by rcases e with⟨rfl,_⟩|⟨rfl,_⟩<;>exact absurd Q (by decide)⟩ ?_;refine AP ⟨bp.cells 0 _ rfl,λj Q e=>by rcases e with⟨rfl,_⟩|⟨rfl,_⟩<;>exact absurd Q (by decide)⟩ ?_;refine AA (OQ (hd.grow a1) hM.g.set (by omega) (by omega)) ?_;rintro rv cd ⟨eo,a6⟩;refine⟨a6.mono λ_ _ h=>h.elim,?_⟩;have bs:=(hd.grow a1).grow a6;have av:∀i,(KC d i).length<=1000000:=λi=>by
   unfold KC;split
   .cases hg:d[i.toNat]? with
    |none=>exact Nn _
    |some c=>
     have hc:=hM.g.set c (ln hg);have:=hc.len;simp only;split
     .exact Nn _
     .omega
   .exact Nn _
  have ch:set.length<=1000000:=by
   have b8:=ln a7;simp only[Bb,lT,mg] at b8;obtain⟨c,⟨hc,_⟩,rfl⟩:=b8;have:=(hM.g.set c hc).len;omega
  have bx:=(gd.trans a1).trans a6;have rl:I6 (λy=>W3.heap.size<=y/\y<I.heap.size) I (.slice sa l.length sc) l:=(AE.sl ec).sub (λy B h=>⟨h.1,B⟩) (by decide) λ_ _ h=>h;have cu:I6 (λy=>W3.heap.size<=y/\y<I.heap.size) cd (.slice sa l.length sc) l:=An.grow (An.mod rl m2 (λy B h4 e=>by omega) (by decide) λ_ _ h=>h) bx (by decide) λ_ _ h=>h;refine AA (WT bs.tx.HN.1 cu (en.grow a6 (by decide) λ_ _ h=>h) eo (bl.grow bx (by decide) λ_ _ h=>h) (av _) (av _) ch hn dB) ?_;rintro xv er ⟨cx,ax⟩;refine⟨ax.mono λ_ _ h=>h.elim,?_⟩;rw[<-hx] at cx;have et:=bs.grow ax;have z25:=a1.size;have h5:=a6.size;have h6:=ax.size;have zd:=gd.size;have eu:Aq x<=1099511627776:=by have:=RJ (Fa σ.ks p l (KC d ((p:Int)-1)) set);rw[<-hx] at this;omega
  refine AA (U9 (S:=λy=>cd.heap.size<=y) et.i hT hM hC dr hK ((Em.reads cx).sub (λy _ B=>B.1) (by decide) λr o ho=>ho.mod (Mod.refl (λ_=>False) _) (λ_ _ _ h=>h) λy _ B=>B.1) (λy B e=>by have:=(bs.lt y e).2;omega) hI hl hm eu hN dC hH dT) ?_;rintro _ ew ⟨rfl,⟨F',f28,ey,b1⟩,da⟩;refine⟨b1.mono λy _ B=>.inl ⟨rfl,B⟩,?_⟩;have h7:=b1.size;have ez:Bx ew b6 [zI 0]:=((ej.grow (a1.trans a6)).grow ax).mod b1 λe=>by have:=(a8 _ e).2;omega
  refine ez.st (q:=0) (show 0<1 by decide) rfl rfl λeA dk b2=>?_;rw[oy] at dk;refine⟨b2.mono λy _ B=>.inr ⟨rfl,B⟩,?_⟩;have h8:=b2.size;have X:Mod (λy=>(y=e.b\/Ft y\/Fh y\/Fc y)\/y=b6) O eA:=(((bx.trans ax).mono λ_ _ h=>h.elim:Mod (λy=>(y=e.b\/Ft y\/Fh y\/Fc y)\/y=b6) O er).trans (b1.mono λy _ B=>.inl B)).trans (b2.mono λy _ B=>.inr B);refine⟨N9 X (by omega) (λy B=>by have:=(V y B).1;omega) λy B e=>?_,rfl,F',λy B=>?_,ey.mod b2 λy B=>?_,dk,da,?_⟩
  .have:y<I.heap.size:=by
    rcases e with e|e
    .have:=(a8 y e).2;omega
    .omega
   exact⟨λhi=>by have:=ca y hi;omega,by omega,by omega⟩
  .rcases f28 y B with e|e
   .exact .inl e
   .exact .inr (by omega)
  .subst B;refine⟨λhf=>?_,λhs=>by have:=b9 _ hs;omega,by omega⟩;rcases f28 _ hf with e|e
   .have:=(a8 _ e).2;omega
   .omega
  .refine(m2.mono λy _ B=>.inr (.inr B)).trans (X.mono λy _ B=>?_);rcases B with B|B
   .exact .inl B
   .exact .inr (.inl B)
 .rintro It Y ⟨e0,_⟩ _ _ _;have h9:N1 d p<=ZR d p p:=ID _ (Nat.le_max_left _ _);omega
 .rintro ex It Y ⟨rfl,F',f',hE,hB,hD,m⟩ V hz eB;have bZ:Mod (λy=>y=I.heap.size) Y (Y.putObj I.heap.size (.deferred none)):=Mod.putObj _ _ _ rfl;refine⟨eB,?_⟩;refine AJ ((hB.mod bZ (by omega)).cells 0 _ rfl) ?_;refine⟨rfl,ZV.more ⟨F',λy B=>?_,hE.mod bZ λy B=>?_,?_⟩ hF,hD⟩
  .rcases f' y B with e|e
   .exact .inl e
   .exact .inr (by omega)
  .subst B;refine⟨λhf=>?_,λhs=>by have:=b9 _ hs;omega,by omega⟩;rcases f' _ hf with e|e
   .have:=(a8 _ e).2;omega
   .omega
  .refine((bc.mono λ_ _ h=>h.elim:Mod (λy=>y=e.b\/Ft y\/Fh y\/Fc y) W I).next m λy B e'=>?_).next bZ λy B e'=>by omega
   rcases e' with e'|e'|e'
   .exact e'
   .omega
   .omega
end
theorem Yc{S : Nat -> Prop}{m : List DKey}{most mx : Int}(hk : TV S w v m)(hT : EA w0)(U : Grow w0 w) :
    AB prog 19 [v, zI most, zI mx] (λv' w' => Grow w w' /\
      ((1 <= most /\ most < 536870912 /\ 0 <= mx /\ mx <= 65536 /\ Ep m /\ ∃ (e : EgA) (sv : Value) (ks : List DKey) (C F : Nat -> Prop), v' = .tuple #[.pointer (some ⟨e.b, 0, none⟩), zI 0] /\ ks.Perm m /\ ks.Pairwise (λx y => x.id < y.id) /\ (∀ x, F x \/ C x -> w.heap.size <= x) /\ LX w0 F w' e ⟨sv, ks, C⟩ most [⟨10, []⟩] [] ⟨mx.toNat, [], [], false, []⟩ 24) \/
       (¬ (1 <= most /\ most < 536870912 /\ 0 <= mx /\ mx <= 65536 /\ Ep m) /\ ∃ c : Int, c ≠ 0 /\ v' = .tuple #[.pointer none, zI c]))) w := by
  refine uS3 (dB 4816203842666656699497 [([],[(6,7),(12,25)])] []) func19 (λ_ _ _ _ _=>⟨by conv=>lhs;reduce,by dsimp only[PI,AF],by kernel_rfl⟩) ?_;unfold uI;refine AR (λ_ W' => W' = w /\ 1 <= most /\ most<536870912 /\ 0 <= mx /\ mx <= 65536) ?_ ?_;rotate_left
  . rw[Ai]
    refine AD (λe => ⟨Mod.refl _ _, .inr ⟨by omega, 2, by decide, rfl⟩⟩) λh1 => ?_;rw[Cu];refine AD (λe => ⟨Mod.refl _ _, .inr ⟨by omega, 2, by decide, rfl⟩⟩) λV => ?_;rw[Ai];refine AD (λe => ⟨Mod.refl _ _, .inr ⟨by omega, 2, by decide, rfl⟩⟩) λh3 => ?_;rw[BE];exact AD (λe => ⟨Mod.refl _ _, .inr ⟨by omega, 2, by decide, rfl⟩⟩) λh4 => ⟨rfl, by omega, by omega, by omega, by omega⟩
  rintro _ _ ⟨rfl, q1, q2, q3, q4⟩ _;rename World => w
  refine AA (SV hk) ?_;rintro _ X ⟨q, hr⟩;rcases hr with⟨hM, sv, ks, rfl, hp, hs, hS⟩|⟨hn, rfl⟩;rotate_left
  . refine Ae (vs := [_, _]) rfl (Ae (vs := [_, _]) rfl ?_)
    rw[BL];exact AW (λe => absurd e (by decide)) λ_ => ⟨q, .inr ⟨λe => hn e.2.2.2.2, 3, by decide, rfl⟩⟩
  refine Ae (vs := [_, _]) rfl (Ae (vs := [_, _]) rfl ?_);rw[BL];refine AW (λ_ => ?_) λe => (e rfl).elim
  let σ : SKs := ⟨sv, ks, λx => w.heap.size <= x /\ x<X.heap.size⟩
  have o : CK σ.S X σ.sv σ.ks := hS.sub λx j h => ⟨h, j⟩;have z0 := U.size;have z1 := q.size;refine AA (XH (w0 := w0) (σ := σ) (most := most) o (λx j => j.2) hT (U.trans q)) ?_;rintro _ w2 ⟨I, V⟩;rcases V with⟨_, _, a, Ft, rfl, Y, hX⟩|⟨V, _⟩;rotate_left
  . omega
  refine Ae (vs := [_, _]) rfl (Ae (vs := [_, _]) rfl ?_);rw[BL];refine AW (λ_ => ?_) λe => (e rfl).elim;obtain⟨n, rfl⟩ : ∃n : Nat, mx = n := ⟨mx.toNat, by omega⟩;have z2 := I.size;refine AA (Z3 (mx := n) (ks := ⟨ks, σ.S⟩) (o.grow I) (λx j => by have := j.2; omega) (by omega)) ?_;rintro _ Q ⟨J, hb, a8, rfl, hH⟩;refine Ae (vs := [_, _]) rfl (Ae (vs := [_, _]) rfl ?_);rw[BL];refine AW (λ_ => ?_) λe => (e rfl).elim;have z3 := J.size;have a7 := (o.grow I).grow J;obtain⟨bs, _, _, _, Z, _⟩ := id hS;obtain rfl : sv = .pointer (some ⟨bs, 0, none⟩) := Z;refine⟨(iz (.pointer (some ⟨bs, 0, none⟩)) ⟨0, a, hb⟩ most (.slice none 0 0)).toArray, by kernel_rfl, ?_⟩;refine Bx.box λb w4 ak g4 B => ?_;have a1 : HL w0 (λx => w2.heap.size <= x /\ x<Q.heap.size) Q hb ⟨ks, σ.S⟩ ⟨n, [], [], false, []⟩ := ⟨hH, λx j => ⟨by omega, j.2⟩, ((U.trans q).trans I).trans J⟩;have a6 := hX.grow J;have O := hX.hl;have hR : NS w0 Ft (λx => w2.heap.size <= x /\ x<Q.heap.size) (λ_ => False) w4 ⟨b, a, hb⟩ (.slice none 0 0) σ most [⟨10, []⟩] [] ⟨n, [], [], false, []⟩ 24 :=
    ⟨B, a6.grow g4, a1.grow g4, An.nil, λx j => j.elim, ⟨by show w0.heap.size <= b; omega, λj => by have : b<X.heap.size := j.2; omega⟩, ⟨λj => by have : b<w2.heap.size := (O b j).2.1; omega, λj => by have : b<Q.heap.size := j.2; omega, λj => j⟩, λx j => ⟨λal => by have := (O x j).2.1; omega, λh => h⟩, λx j h => h⟩
  refine⟨((q.trans I).trans J).trans g4, .inl ⟨q1, q2, q3, q4, hM, ⟨b, a, hb⟩, _, ks, σ.S, _, rfl, hp, hs, ?_, by rw[mH]; exact hR.i⟩⟩;rintro x ((j|j|j|j)|j)
  . have : x = b := j
    omega
  . have := Y x j; omega
  . omega
  . exact j.elim
  . exact j.1
def CD:DKey:=⟨1,false,1,false,false,0⟩
def CA:List Dop:=[⟨2,0,[97,98],[],[]⟩]
def LP:List Cel:=[⟨97,[]⟩,⟨98,[]⟩,⟨10,[]⟩]
theorem P0:D8 CD:=by unfold D8;decide
theorem Wk:∀o∈CA,BX [CD] o:=by
 intro o i;simp only[CA,S6] at i;subst i;refine .inr (.inr ⟨rfl,λr hr=>.inl ?_,rfl,rfl,by simp,IW⟩);simp only[Mp,l9,nw] at hr;omega
theorem dV:total CA=2:=rfl
theorem eW:∀o∈CA,NT o:=λo i=>by
 simp only[CA,S6] at i;subst i;exact⟨λa ha=>(nomatch ha),λc hc=>(nomatch hc)⟩
theorem fP:Vo [CD] CA 1 100:=by
 have hm:DJ [CD] CA=0:=Xz Wk (by rw[dV];omega);refine⟨hm,λo i=>⟨Wk o i,?_⟩,by omega,by decide,?_,λo i=>?_,by decide⟩
 .have h1:=OI i;have j:=dV;omega
 .simp[CN,CA]
 .simp only[CA,S6] at i;subst i;intro _ h;exact absurd rfl h
theorem RD:Cj [CD] CA ((1:Nat):Int) 100=0:=(Dw (by decide)).2 fP
theorem WH:JW [CD] [⟨10,[]⟩]:=⟨λc hc=>by simp only[S6] at hc;subst hc;exact Et.nil,rfl⟩
theorem XK:BV (DG [CD] [⟨10,[]⟩] CA)=[⟨3,2,[],[],[]⟩]:=by decide +kernel
theorem ic:CA=BV (Fa [CD] ((0:Nat):Int) [97,98] (KC [⟨10,[]⟩] (((0:Nat):Int)-1)) []):=by decide +kernel
theorem Og{t:TypeId}{f:Nat×Nat}(h:vs[j]?=some v):(w.alloc (.cells vs.toArray t f)).cell? ((⟨w.heap.size,0,none⟩:Addr).add j)=some v:=by
 have i:(⟨w.heap.size,0,none⟩:Addr).add j=⟨w.heap.size,j,none⟩:=by unfold Addr.add;split<;>simp_all
 have e:(w.alloc (.cells vs.toArray t f)).heap[w.heap.size]?=some (.cells vs.toArray t f):=by
  show(w.heap.push _)[w.heap.size]?=_;simp
 rw[i];unfold World.cell?;rw[e];simp[h]
theorem Vk{t:TypeId}{f:Nat×Nat}{a b:Int}:Bv (λy=>y=w.heap.size) (w.alloc (.cells #[.int .u8 a,.int .u8 b] t f)) (.slice (some ⟨w.heap.size,0,none⟩) 2 2) [a,b]:=by
 refine⟨_,_,rfl,K8 _,by simp[maxLen],λi x m=>?_⟩;rcases i with _|_|i
 .cases m;refine⟨_,[.int .u8 a],rfl,rfl,rfl,λj u hu=>?_,rfl⟩;rcases j with _|j
  .cases hu;exact Og (vs:=[.int .u8 a,.int .u8 b]) (j:=0) rfl
  .exact(nomatch hu)
 .cases m;refine⟨_,[.int .u8 b],rfl,rfl,rfl,λj u hu=>?_,rfl⟩;rcases j with _|j
  .cases hu;exact Og (vs:=[.int .u8 a,.int .u8 b]) (j:=1) rfl
  .exact(nomatch hu)
 .exact(nomatch m)
theorem R2(V:EA w):AB prog 5 [] (λv w'=>v=.bool true/\Grow w w') w:=by
 refine uS0 (dB 18916169 [([],[(0,0),(10,38)])] []) func5 (λ_ _=>⟨by conv=>lhs;reduce,by dsimp only[PI,AF],by kernel_rfl⟩) ?_;unfold uI;refine⟨CD.cells.toArray,by kernel_rfl,?_⟩;refine JT (cs:=CD.cells) (by kernel_rfl) ?_;have X:=aJ (w:=w) [CD] (by simp);have e0:(([CD].map DKey.cells).flatten:List Value)=CD.cells:=by simp
 rw[e0] at X;have g1:Grow w (w.alloc (.cells CD.cells.toArray 60)):=Mod.alloc _ _ _;refine AA (Yc (most:=100) (mx:=10) (w0:=w) X V g1) ?_;have hM:Ep [CD]:=RF.2 ⟨by simp,λx m=>by simp only[S6] at m;subst m;exact P0,by unfold Nt;simp⟩;rintro _ w2 ⟨g2,⟨_,_,_,_,_,e,sv,ks,C,F,rfl,hp,_,hF,hE⟩|⟨hn,_⟩⟩;rotate_left
 .exact absurd ⟨by decide,by decide,by decide,by decide,hM⟩ hn
 obtain rfl:ks=[CD]:=List.perm_singleton.1 hp;rw[show(10:Int).toNat=10 from rfl] at hE;refine Ae (vs:=[_,_]) rfl (Ae (vs:=[_,_]) rfl ?_);have z1:=g1.size;have z2:=g2.size;have o:[CD].length<=64:=by decide
 have B:∀k∈[CD],D8 k:=λk hk=>by simp only[S6] at hk;subst hk;exact P0
 have b1:DocM [CD] 100 [⟨10,[]⟩]:=⟨WH,K8 _,by decide⟩;have Y:∀c∈([⟨10,[]⟩]:List Cel),Ou [CD] c:=λc hc=>by
  simp only[S6] at hc;subst hc;exact⟨.inl (by decide),λa ha=>(nomatch ha)⟩
 have J:Ds [CD] 100 [⟨10,[]⟩] CA=LP:=by unfold Ds;rw[DN (show Cj [CD] CA (([⟨10,[]⟩]:List Cel).length:Int) 100=0 from RD)];rfl
 obtain⟨i1,i2,i3,i4,i5⟩:=P1 (most:=100) B eW (by decide) WH Y (by decide) RD;rw[XK] at i1 i2 i3;have ed:CT [CD] [⟨10,[]⟩] CA=LP:=rfl;rw[ed] at i1 i2;have b2:iX (⟨CA,[⟨3,2,[],[],[]⟩]⟩:Grp).u:=⟨i3,by decide,by decide⟩;have b6:iX (⟨CA,[⟨3,2,[],[],[]⟩]⟩:Grp).d:=⟨eW,by decide,by decide⟩;have Z:Hist.put ⟨10,[],[],false,[]⟩ CA [⟨3,2,[],[],[]⟩]=⟨10,[⟨CA,[⟨3,2,[],[],[]⟩]⟩],[],false,[]⟩:=rfl;have q:EO 4000 CA=176100:=rfl;have I:EO 4000 [⟨3,2,[],[],[]⟩]=176100:=rfl;refine AR (λ_ W=>∃F',LX w F' W e ⟨sv,[CD],C⟩ 100 LP [] ⟨10,[⟨CA,[⟨3,2,[],[],[]⟩]⟩],[],false,[]⟩ 600000/\DocM [CD] 100 LP/\Grow w W/\∀x,F' x->w.heap.size<=x) ?_ ?_;rotate_left
 .refine Ko ?_;refine JT (cs:=[.int .u8 97,.int .u8 98]) (by kernel_rfl) ?_;refine AX (Lib.run_convert_bytes_const w2 23 5 #[.int .u8 97,.int .u8 98] 2 2 underlying23 underlying5) ?_;have gb:Grow w2 (w2.alloc (.cells #[.int .u8 97,.int .u8 98] 5 (2,2+1))):=Mod.alloc _ _ _;have hB:=Vk (w:=w2) (t:=5) (f:=(2,2+1)) (a:=97) (b:=98);show AB _ _ [_,_,.slice (some ⟨w2.heap.size,0,none⟩) 2 2] _ (w2.alloc (.cells #[.int .u8 97,.int .u8 98] 5 (2,2+1)));generalize w2.alloc (.cells #[.int .u8 97,.int .u8 98] 5 (2,2+1))=w3 at hB gb ⊢;refine AA (VK (p:=0) (b:=[97,98]) (l:=[97,98]) (line:=[]) (hE.grow gb) V b1 Y o B hB (λx m=>by simp at m;rcases m with rfl|rfl<;>decide) (by decide) (by decide) (by decide) (by decide) (by decide) rfl (show ad [CD] (KC [⟨10,[]⟩] ((0:Nat):Int))=[] from by decide +kernel) ic eW (by decide) (by decide) (show Aq (Fa [CD] ((0:Nat):Int) [97,98] (KC [⟨10,[]⟩] (((0:Nat):Int)-1)) [])<=68719476736 from by decide +kernel) (by rw[q];decide) rfl (by decide) (by decide)) ?_;rintro _ w4 ⟨rfl,a1,a6⟩;rw[DN (show Cj [CD] CA (([⟨10,[]⟩]:List Cel).length:Int) 100=0 from RD),J,XK,Z,q] at a1;rw[J] at a6;rw[show Cj [CD] CA (([⟨10,[]⟩]:List Cel).length:Int) 100=0 from RD,BL];refine AW (λ_=>?_) λe=>(e rfl).elim;obtain⟨F4,f4,h4,m4⟩:=a1;refine AA (Qi h4) ?_;rintro _ w5 ⟨rfl,g5⟩;refine Ko ?_;have h5:=h4.grow g5;refine AA (U0 h5 V a6 o B rfl (by decide) (by decide) (λg U=>by simp only[S6] at U;subst U;exact⟨b2,by rw[I];decide⟩) (by decide)) ?_;rintro _ w6 (⟨hu,_⟩|⟨l,g,hu,rfl,O,a7⟩)
  .cases hu
  have b7:l=[]/\g=⟨CA,[⟨3,2,[],[],[]⟩]⟩:=by
   have:[]++[(⟨CA,[⟨3,2,[],[],[]⟩]⟩:Grp)]=l++[g]:=hu;have:=List.append_inj' this rfl;exact⟨this.1.symm,by have:=this.2;simp at this;exact this.symm⟩
  obtain⟨rfl,rfl⟩:=b7;have a8:Ds [CD] 100 LP [⟨3,2,[],[],[]⟩]=[⟨10,[]⟩]:=by unfold Ds;rw[DN i1];exact i2
  rw [show Cj [CD] (⟨CA,[⟨3,2,[],[],[]⟩]⟩:Grp).u (LP.length:Int) 100=0 from i1,BL];refine AW (λ_=>?_) λe=>(e rfl).elim;rw [show Ds [CD] 100 LP (⟨CA,[⟨3,2,[],[],[]⟩]⟩:Grp).u=[⟨10,[]⟩] from a8] at O a7;rw [show EO 4000 (⟨CA,[⟨3,2,[],[],[]⟩]⟩:Grp).u=176100 from I] at O;obtain ⟨F6,f6,h6,m6⟩:=O;refine AA (Qi h6) ?_;rintro _ w7 ⟨rfl,g7⟩;refine Ko ?_;have h7:=h6.grow g7;refine AA (N6 h7 V a7 o B rfl (by decide) (by decide) (λg U=>by
   have ak:g ∈ [(⟨CA,[⟨3,2,[],[],[]⟩]⟩:Grp)]:=U;simp only [S6] at ak;subst ak;exact ⟨b6,by rw [show EO 4000 (⟨CA,[⟨3,2,[],[],[]⟩]⟩:Grp).d=176100 from q];decide⟩) (by decide)) ?_
  rintro _ w8 (⟨hu,_⟩|⟨l,g,hu,rfl,Q,al⟩)
  .cases hu
  have b8:l=[]/\g=⟨CA,[⟨3,2,[],[],[]⟩]⟩:=by
   have:[]++[(⟨CA,[⟨3,2,[],[],[]⟩]⟩:Grp)]=l++[g]:=hu;have:=List.append_inj' this rfl;exact⟨this.1.symm,by have:=this.2;simp at this;exact this.symm⟩
  obtain⟨rfl,rfl⟩:=b8;rw[show Cj [CD] (⟨CA,[⟨3,2,[],[],[]⟩]⟩:Grp).d (([⟨10,[]⟩]:List Cel).length:Int) 100=0 from RD,BL];refine AW (λ_=>?_) λe=>(e rfl).elim;rw[show Ds [CD] 100 [⟨10,[]⟩] (⟨CA,[⟨3,2,[],[],[]⟩]⟩:Grp).d=LP from J] at Q al;rw[show EO 4000 (⟨CA,[⟨3,2,[],[],[]⟩]⟩:Grp).d=176100 from q] at Q;obtain⟨F8,f8,h8,m8⟩:=Q;have z3:=gb.size;have z4:=m4.size;have z5:=g5.size;have z6:=m6.size;have z7:=g7.size;have an:∀x,F4 x->w.heap.size<=x:=λx m=>by
   rcases f4 x m with h|h
   .have:=hF x (.inl h);omega
   .omega
  have av:∀x,F6 x->w.heap.size<=x:=λx m=>by
   rcases f6 x m with h|h
   .exact an x h
   .omega
  have Ga:Grow w w3:=(g1.trans g2).trans gb;have Gb:Grow w w4:=Ga.next m4 λx m e=>by have:=hF x (.inl e);omega
  have Gc:Grow w w6:=(Gb.trans g5).next m6 λx m e=>by have:=an x e;omega
  refine⟨F8,h8.up (by decide),al,(Gc.trans g7).next m8 λx m e=>(by have:=av x e;omega),λx m=>?_⟩;rcases f8 x m with h|h
  .exact av x h
  .omega
 rintro _ W ⟨F',ax,ay,gW,hw⟩ _;refine AA (Ls ax ay.g.set (by decide) (by decide)) ?_;rintro cv w9 ⟨hc,g9⟩;have aZ:=hc.rd (K8 _);obtain⟨ca,cc,rfl,_⟩:=aZ.shape;rw[AO,Aa];refine AD (λ_=>?_) λe=>(e rfl).elim;obtain⟨p,r,rfl,_,hr,b9,bk,rfl,_⟩:=aZ.get (i:=1) (by decide);refine AS (j:=1) (by decide) ?_;rw[AH,Addr.add_add];refine AJ (by have:=b9 0 _ rfl;exact this) ?_;rw[Aa];refine AD (λ_=>?_) λe=>(e rfl).elim;have h9:=ax.grow g9;refine AA (N6 h9 V ay o B rfl (by decide) (by decide) (λg U=>(nomatch U)) (by decide)) ?_;rintro _ bl (⟨_,rfl,b0⟩|⟨l,g,hu,_⟩);rotate_left
 .have ba:([]:List Grp)=l++[g]:=hu;simp at ba
 rw[Aa];refine AD (λ_=>?_) λe=>(e rfl).elim;refine AA (Sa (h9.grow b0) rfl) ?_;rintro _ bp ⟨rfl,bs,bx,bb,bc⟩;rw[Aa];refine AD (λ_=>?_) λe=>(e rfl).elim;refine AA (Pp bb rfl) ?_;rintro _ bZ ⟨rfl,bd⟩;rw[Aa];exact⟨rfl,(((gW.trans g9).trans b0).next bc λx m e=>by have:=hw x e;omega).trans bd⟩
def kB:EM:=dB 10637109817102046508537588992178394201 [([21],[(2,2),(5,13),(21,99)]),([],[(2,2),(5,13),(23,98)]),([13],[(2,2),(13,13),(47,56)])] []
def S3(v0:Value)(K:Cont)(w:World):Prop:=by
 refine' (?f:∀B R,PX prog CS K (PG prog CS Tryz.f3 kB [v0] w) B R->Prop) _ _ ⟨?a,?b⟩
 case a=>intro _;intros;conv=>lhs;reduce
 case b=>dsimp only[PI,AF];rfl
 exact λ_ R _=>R
variable {v0 v1 v2 v3 v4 v5 v6 v7 v8 v9:Value}{K:Cont}{w:World}
theorem iP(h:S3 v0 K w):AB prog 3 [v0] K w:=Xa kB DV mixed func3 (by kernel_rfl) h (by kernel_rfl)
end
def JV(W:World)(g:Value):Prop:=g=.pointer none\/∃b,g=.pointer (some ⟨b,0,none⟩)/\Bx W b [.pointer none,.pointer none,.pointer none,zI 0,.slice none 0 0]
section
variable {W W':World}{g:Value}
theorem JV.grow(h:JV W g)(i:Grow W W'):JV W' g:=h.imp id λ⟨b,e,B⟩=>⟨b,e,B.grow i⟩
theorem BD(h:JV W g):AB prog 24 [g] (λv' w'=>v'=.bool true/\w'=W) W:=by
 refine uS1 (dB 9 [] []) func24 (λ_ _ _=>⟨by conv=>lhs;reduce,by dsimp only[PI,AF],by kernel_rfl⟩) ?_;unfold uI;rcases h with rfl|⟨b,rfl,B⟩
 .refine⟨none,rfl,?_⟩;exact AQ ⟨rfl,rfl⟩
 .refine CY (AL (AG ?_));rw[AH,AI];exact AJ (B.cells 1 _ rfl) ⟨none,rfl,rfl,rfl⟩
theorem Qs(h:JV W g):AB prog 6 [g] (λv' w'=>v'=.tuple #[zI 0,zI 0]/\Grow W w') W:=by
 refine uS1 (dB 267353 [] []) func6 (λ_ _ _=>⟨by conv=>lhs;reduce,by dsimp only[PI,AF],by kernel_rfl⟩) ?_;unfold uI;refine AA (BD h) ?_;rintro _ _ ⟨rfl,rfl⟩;exact AQ ⟨rfl,Mod.refl _ _⟩
theorem QA(h:JV W g):AB prog 7 [g,a0] (λv' w'=>v'=.tuple #[zI 0,zI 1]/\Grow W w') W:=by
 refine uS2 (dB 267353 [] []) func7 (λ_ _ _ _=>⟨by conv=>lhs;reduce,by dsimp only[PI,AF],by kernel_rfl⟩) ?_;unfold uI;refine AA (BD h) ?_;rintro _ _ ⟨rfl,rfl⟩;exact AQ ⟨rfl,Mod.refl _ _⟩
theorem NW(h:JV W g):AB prog 8 [g,a0] (λv' w'=>v'=.tuple #[zI 0,zI 1]/\Grow W w') W:=by
 apply hZ;unfold S8;refine AA (BD h) ?_;rintro _ _ ⟨rfl,rfl⟩;exact AQ ⟨rfl,Mod.refl _ _⟩
theorem Sm(h:JV W g):AB prog 28 [g,a0] (λv' w'=>v'=zI 1/\Grow W w') W:=by
 refine uS2 (dB 267353 [] []) func28 (λ_ _ _ _=>⟨by conv=>lhs;reduce,by dsimp only[PI,AF],by kernel_rfl⟩) ?_;unfold uI;refine AA (BD h) ?_;rintro _ _ ⟨rfl,rfl⟩;exact AQ ⟨rfl,Mod.refl _ _⟩
theorem Uo(h:JV W g):AB prog 29 [g,a0] (λv' w'=>v'=zI 1/\Grow W w') W:=by
 refine uS2 (dB 70084990041 [] []) func29 (λ_ _ _ _=>⟨by conv=>lhs;reduce,by dsimp only[PI,AF],by kernel_rfl⟩) ?_;unfold uI;refine AA (BD h) ?_;rintro _ _ ⟨rfl,rfl⟩;exact AQ ⟨rfl,Mod.refl _ _⟩
theorem RB{a0 i:Value}(h:JV W g):AB prog 30 [g,a0,i] (λv' w'=>v'=zI 1/\Grow W w') W:=by
 refine uS3 (dB 70081320025 [] []) func30 (λ_ _ _ _ _=>⟨by conv=>lhs;reduce,by dsimp only[PI,AF],by kernel_rfl⟩) ?_;unfold uI;refine AA (BD h) ?_;rintro _ _ ⟨rfl,rfl⟩;exact AQ ⟨rfl,Mod.refl _ _⟩
theorem RC{a0 i j:Value}(h:JV W g):AB prog 31 [g,a0,i,j] (λv' w'=>v'=zI 1/\Grow W w') W:=by
 refine uS4 (dB 75253185016301360217 [] []) func31 (λ_ _ _ _ _ _=>⟨by conv=>lhs;reduce,by dsimp only[PI,AF],by kernel_rfl⟩) ?_;unfold uI;refine AA (BD h) ?_;rintro _ _ ⟨rfl,rfl⟩;exact AQ ⟨rfl,Mod.refl _ _⟩
theorem MC{a0 i j:Value}(h:JV W g):AB prog 32 [g,a0,i,j] (λv' w'=>v'=zI 1/\Grow W w') W:=by
 apply dq;unfold S32;refine AA (BD h) ?_;rintro _ _ ⟨rfl,rfl⟩;exact AQ ⟨rfl,Mod.refl _ _⟩
theorem VC{a0 i j a3:Value}(h:JV W g):AB prog 33 [g,a0,i,j,a3] (λv' w'=>v'=zI 1/\Grow W w') W:=by
 apply eT;unfold S33;refine AA (BD h) ?_;rintro _ _ ⟨rfl,rfl⟩;exact AQ ⟨rfl,Mod.refl _ _⟩
theorem Ux{a0 i:Value}(h:JV W g):AB prog 34 [g,a0,i] (λv' w'=>v'=zI 1/\Grow W w') W:=by
 refine uS3 (dB 619840803929 [] []) func34 (λ_ _ _ _ _=>⟨by conv=>lhs;reduce,by dsimp only[PI,AF],by kernel_rfl⟩) ?_;unfold uI;refine AA (BD h) ?_;rintro _ _ ⟨rfl,rfl⟩;exact AQ ⟨rfl,Mod.refl _ _⟩
theorem Xq{a0 i:Value}(h:JV W g):AB prog 35 [g,a0,i] (λv' w'=>v'=zI 1/\Grow W w') W:=by
 refine uS3 (dB 18371397552968793 [] []) func35 (λ_ _ _ _ _=>⟨by conv=>lhs;reduce,by dsimp only[PI,AF],by kernel_rfl⟩) ?_;unfold uI;refine AA (BD h) ?_;rintro _ _ ⟨rfl,rfl⟩;exact AQ ⟨rfl,Mod.refl _ _⟩
theorem TG(h:JV W g):AB prog 36 [g,a0] (λv' w'=>v'=zI 1/\Grow W w') W:=by
 refine uS2 (dB 287042754057305 [] []) func36 (λ_ _ _ _=>⟨by conv=>lhs;reduce,by dsimp only[PI,AF],by kernel_rfl⟩) ?_;unfold uI;refine AA (BD h) ?_;rintro _ _ ⟨rfl,rfl⟩;exact AQ ⟨rfl,Mod.refl _ _⟩
theorem SY(h:JV W g):AB prog 23 [g] (λv' w'=>v'=zI 1/\Grow W w') W:=by
 refine uS1 (dB 267353 [] []) func23 (λ_ _ _=>⟨by conv=>lhs;reduce,by dsimp only[PI,AF],by kernel_rfl⟩) ?_;unfold uI;refine AA (BD h) ?_;rintro _ _ ⟨rfl,rfl⟩;exact AQ ⟨rfl,Mod.refl _ _⟩
theorem Wv(h:JV W g):AB prog 37 [g] (λv' w'=>v'=zI 1/\Grow W w') W:=by
 refine uS1 (dB 267353 [] []) func37 (λ_ _ _=>⟨by conv=>lhs;reduce,by dsimp only[PI,AF],by kernel_rfl⟩) ?_;unfold uI;refine AA (BD h) ?_;rintro _ _ ⟨rfl,rfl⟩;exact AQ ⟨rfl,Mod.refl _ _⟩
theorem VU(h:JV W g):AB prog 21 [g] (λv' w'=>v'=zI 1/\Grow W w') W:=by
 refine uS1 (dB 70084990041 [] []) func21 (λ_ _ _=>⟨by conv=>lhs;reduce,by dsimp only[PI,AF],by kernel_rfl⟩) ?_;unfold uI;refine AA (BD h) ?_;rintro _ _ ⟨rfl,rfl⟩;exact AQ ⟨rfl,Mod.refl _ _⟩
theorem V2(h:JV W g):AB prog 22 [g] (λv' w'=>v'=zI 1/\Grow W w') W:=by
 refine uS1 (dB 70084990041 [] []) func22 (λ_ _ _=>⟨by conv=>lhs;reduce,by dsimp only[PI,AF],by kernel_rfl⟩) ?_;unfold uI;refine AA (BD h) ?_;rintro _ _ ⟨rfl,rfl⟩;exact AQ ⟨rfl,Mod.refl _ _⟩
theorem Yy(h:JV W g):AB prog 10 [g] (λv' w'=>v'=zI 0/\Grow W w') W:=by
 refine uS1 (dB 267353 [] []) func10 (λ_ _ _=>⟨by conv=>lhs;reduce,by dsimp only[PI,AF],by kernel_rfl⟩) ?_;unfold uI;refine AA (BD h) ?_;rintro _ _ ⟨rfl,rfl⟩;exact AQ ⟨rfl,Mod.refl _ _⟩
theorem SE(h:JV W g):AB prog 11 [g] (λv' w'=>v'=zI 0/\Grow W w') W:=by
 refine uS1 (dB 267353 [] []) func11 (λ_ _ _=>⟨by conv=>lhs;reduce,by dsimp only[PI,AF],by kernel_rfl⟩) ?_;unfold uI;refine AA (BD h) ?_;rintro _ _ ⟨rfl,rfl⟩;exact AQ ⟨rfl,Mod.refl _ _⟩
theorem Sl(h:JV W g):AB prog 12 [g] (λv' w'=>v'=.slice none 0 0/\Grow W w') W:=by
 apply Yj;unfold S12;refine AA (BD h) ?_;rintro _ _ ⟨rfl,rfl⟩;exact AQ ⟨rfl,Mod.refl _ _⟩
theorem Uz(h:JV W g):AB prog 13 [g] (λv' w'=>v'=.slice none 0 0/\Grow W w') W:=by
 refine uS1 (dB 267353 [] []) func13 (λ_ _ _=>⟨by conv=>lhs;reduce,by dsimp only[PI,AF],by kernel_rfl⟩) ?_;unfold uI;refine AA (BD h) ?_;rintro _ _ ⟨rfl,rfl⟩;exact AQ ⟨rfl,Mod.refl _ _⟩
theorem S0(h:JV W g):AB prog 14 [g] (λv' w'=>v'=.slice none 0 0/\Grow W w') W:=by
 refine uS1 (dB 267353 [] []) func14 (λ_ _ _=>⟨by conv=>lhs;reduce,by dsimp only[PI,AF],by kernel_rfl⟩) ?_;unfold uI;refine AA (BD h) ?_;rintro _ _ ⟨rfl,rfl⟩;exact AQ ⟨rfl,Mod.refl _ _⟩
theorem Sf(h:JV W g):AB prog 15 [g] (λv' w'=>v'=.slice none 0 0/\Grow W w') W:=by
 refine uS1 (dB 32248921 [] [(dC [8,9] [0,1,3,7,0,16,48,112,240,511,1023,2047,2047,4095,16383] [])]) func15 (λ_ _ _=>⟨by conv=>lhs;reduce,by dsimp only[PI,AF],by kernel_rfl⟩) ?_;unfold uI;refine AA (BD h) ?_;rintro _ _ ⟨rfl,rfl⟩;exact AQ ⟨rfl,Mod.refl _ _⟩
theorem NL(h:JV W g):AB prog 16 [g] (λv' w'=>v'=.slice none 0 0/\Grow W w') W:=by
 refine uS1 (dB 267353 [] []) func16 (λ_ _ _=>⟨by conv=>lhs;reduce,by dsimp only[PI,AF],by kernel_rfl⟩) ?_;unfold uI;refine AA (BD h) ?_;rintro _ _ ⟨rfl,rfl⟩;exact AQ ⟨rfl,Mod.refl _ _⟩
theorem V5(h:JV W g):AB prog 17 [g] (λv' w'=>v'=.bool false/\Grow W w') W:=by
 refine uS1 (dB 9 [] []) func17 (λ_ _ _=>⟨by conv=>lhs;reduce,by dsimp only[PI,AF],by kernel_rfl⟩) ?_;unfold uI;refine AA (BD h) ?_;rintro _ _ ⟨rfl,rfl⟩;rw[Ah];exact AL ⟨rfl,Mod.refl _ _⟩
theorem VD{p:Int}{o:Value}(h:JV W g)(ht:o.oneCell'=true):AB prog 20 [g,zI p,o] (λv' w'=>v'=zI 1/\Grow W w') W:=by
 apply Wz;unfold S20;have J:g.cells=#[g]:=by rcases h with rfl|⟨b,rfl,_⟩<;>rfl
 refine Cg J λb3 W1 O B Q=>?_;refine Cg rfl λb4 W2 U i B4=>?_;refine Bx.zero λb6 V X I Y=>?_;have j:=(B.trans i).trans I;refine AJ ((Q.grow (i.trans I)).cells 0 _ rfl) ?_;refine AA (BD (h.grow j)) ?_;rintro _ _ ⟨rfl,rfl⟩;rename World=>V
 refine AQ ?_;refine Y.st (q:=0) (show 0<1 by decide) rfl rfl λW4 m Z=>?_;have z:=j.size;have z1:=(B.trans i).size;exact AJ (m.cells 0 _ rfl) ⟨rfl,j.next Z λx hx e=>by omega⟩
abbrev de(k i j key n:Int)(xv bv m:Value):List Value:=[zI k,zI i,zI j,zI key,zI n,xv,bv,m]
theorem VP{k i j key n:Int}{xv bv o:Value}(h:JV W g)(hb:bv.oneCell'=true):AB prog 9 [g,.agg (de k i j key n xv bv o).toArray] (λv' w'=>v'=zI 1/\Grow W w') W:=by
 refine uS2 (dB 47693157055837741623156825224870421794957339701849 [] []) func9 (λ_ _ _ _=>⟨by conv=>lhs;reduce,by dsimp only[PI,AF],by kernel_rfl⟩) ?_;unfold uI;refine Bx.box λb q I m B=>?_;have h1:=h.grow m;have fin:∀{v:Value} {w':World},v=zI 1/\Grow q w'->v=zI 1/\Grow W w':=λ⟨e,g⟩=>⟨e,m.trans g⟩;refine Az (B.cells 0 _ rfl) ?_;rw[Aa];refine AD (λ_=>?_) λ_=>?_
 .refine Az (B.cells 5 _ rfl) ?_;exact AA (Sm h1) λ_ _=>fin
 rw[Aa];refine AD (λ_=>?_) λ_=>?_
 .refine Az (B.cells 6 _ rfl) ?_;exact AA (Uo h1) λ_ _=>fin
 rw[Aa];refine AD (λ_=>?_) λ_=>?_
 .refine Az (B.cells 1 _ rfl) ?_;refine Az (B.cells 6 _ rfl) ?_;exact AA (VD h1 hb) λ_ _=>fin
 rw[Aa];refine AD (λ_=>?_) λ_=>?_
 .refine Az (B.cells 1 _ rfl) ?_;refine Az (B.cells 2 _ rfl) ?_;exact AA (RB h1) λ_ _=>fin
 rw[Aa];refine AD (λ_=>?_) λ_=>?_
 .refine Az (B.cells 1 _ rfl) ?_;refine Az (B.cells 2 _ rfl) ?_;refine Az (B.cells 7 _ rfl) ?_;exact AA (RC h1) λ_ _=>fin
 rw[Aa];refine AD (λ_=>?_) λ_=>?_
 .refine Az (B.cells 1 _ rfl) ?_;refine Az (B.cells 2 _ rfl) ?_;refine Az (B.cells 7 _ rfl) ?_;exact AA (MC h1) λ_ _=>fin
 rw[Aa];refine AD (λ_=>?_) λ_=>?_
 .refine Az (B.cells 1 _ rfl) ?_;refine Az (B.cells 2 _ rfl) ?_;refine Az (B.cells 3 _ rfl) ?_;refine Az (B.cells 4 _ rfl) ?_;exact AA (VC h1) λ_ _=>fin
 rw[Aa];refine AD (λ_=>?_) λ_=>?_
 .refine Az (B.cells 1 _ rfl) ?_;refine Az (B.cells 2 _ rfl) ?_;exact AA (Ux h1) λ_ _=>fin
 rw[Aa];refine AD (λ_=>?_) λ_=>?_
 .refine Az (B.cells 1 _ rfl) ?_;refine Az (B.cells 2 _ rfl) ?_;exact AA (Xq h1) λ_ _=>fin
 rw[Aa];refine AD (λ_=>?_) λ_=>?_
 .refine Az (B.cells 1 _ rfl) ?_;exact AA (TG h1) λ_ _=>fin
 rw[Aa];refine AD (λ_=>?_) λ_=>?_
 .exact AA (SY h1) λ_ _=>fin
 rw[Aa];refine AD (λ_=>?_) λ_=>?_
 .exact AA (Wv h1) λ_ _=>fin
 rw[Aa];refine AD (λ_=>?_) λ_=>?_
 .exact AA (VU h1) λ_ _=>fin
 exact AA (V2 h1) λ_ _=>fin
end
theorem VB{S D:Nat->Prop}{x:List Dop}(h:Ak S D w v x) :
  AB prog 18 [v] (λv' w'=>(∃z,v'=zI z)/\Grow w w') w:=by
 refine uS1 (dB 79247861939981377032505639625 [([3,4],[(3,81)]),([3,5],[(3,3),(5,5),(36,58)]),([3,6],[(3,3),(6,6),(59,81)])] []) func18 (λ_ _ _=>⟨by conv=>lhs;reduce,by dsimp only[PI,AF],by kernel_rfl⟩) ?_;unfold uI;obtain⟨a,c,rfl,hm⟩:=h.shape;simp only[maxLen] at hm;refine AU (λvs O=>∃(k:Nat) (z:Int),k<=x.length/\vs=[zI z,zI k]/\Grow w O) (λvs _=>x.length-Dh vs 1) ⟨0,0,Nn _,rfl,Mod.refl _ _⟩ ?_;rintro vs O ⟨k,z,hk,rfl,V⟩ _;simp only[FC];rw[AO,Ai];refine AD (λa6=>?_) λa7=>⟨⟨_,rfl⟩,V⟩;have m:k<x.length:=by omega
 obtain⟨p,r,rfl,_,hr,hc,rv,sv,pv,rfl,h1,h2,h3⟩:=(Ak.grow h V).get m;obtain⟨a1,c1,rfl,m1⟩:=h1.shape;obtain⟨a2,c2,rfl,m2⟩:=h2.shape;obtain⟨a3,c3,rfl,m3⟩:=h3.shape;simp only[maxLen] at m1 m2 m3;have cl:∀{W},Grow O W->∀j u,[Value.int .u8 x[k].kind,zI x[k].n,.slice a1 x[k].Ab.length c1,.slice a2 x[k].set.length c2,.slice a3 x[k].patch.length c3][j]?=some u->W.cell? ((p.add (k*5)).add j)=some u:=λB j u hu=>by rw[Addr.add_add];exact B.cell (hc j u hu) λh=>h
 refine Cv (λw2=>Grow O w2) (Mod.drew _ _) ?_;rw[AM];refine AS m ?_;rw[AH];refine Aw (λW B=>cl B 2 _ rfl) ?_;rw[AO,AM];refine AS m ?_;rw[AH];refine Aw (λW B=>cl B 3 _ rfl) ?_;rw[AO,AM];refine AS m ?_;rw[AH];refine Aw (λW B=>cl B 4 _ rfl) ?_;rw[AO,AM];intro w2 g2;refine AU (λvs w3=>∃(i:Nat) (z:Int),i<=x[k].set.length/\vs=[zI z,zI i]/\Grow O w3) (λvs _=>x[k].set.length-Dh vs 1) ⟨0,_,Nn _,rfl,g2⟩ ?_;rintro vs w3 ⟨i,z3,hi,rfl,Q⟩ _;simp only[FC];refine AS m ?_;rw[AH];refine AJ (cl Q 3 _ rfl) ?_;rw[AO,Ai];refine AD (λX=>?_) λY=>?_
 .have o:i<x[k].set.length:=by omega
  refine AS m ?_;rw[AH];refine AJ (cl Q 3 _ rfl) ?_;obtain⟨q,r',rfl,_,Z,I,J⟩:=(h2.grow Q (by decide) λ_ _ h=>h).get o;subst J;refine AS o ?_;rw[AH,AH,Addr.add_add,Addr.add_add];refine AJ (I 4 _ rfl) ?_;rw[Li,AM,AM,AK (by omega)];exact⟨⟨i+1,_,o,rfl,Q⟩,by rw[Ar,Ar];omega⟩
 .refine AU (λvs w4=>∃(i:Nat) (z:Int),i<=x[k].patch.length/\vs=[zI z,zI i]/\Grow O w4) (λvs _=>x[k].patch.length-Dh vs 1) ⟨0,_,Nn _,rfl,Q⟩ ?_;rintro vs w4 ⟨i,z4,hi,rfl,U⟩ _;simp only[FC];refine AS m ?_;rw[AH];refine AJ (cl U 4 _ rfl) ?_;rw[AO,Ai];refine AD (λX=>?_) λY=>?_
  .have o:i<x[k].patch.length:=by omega
   refine AS m ?_;rw[AH];refine AJ (cl U 4 _ rfl) ?_;obtain⟨q,r',rfl,_,Z,I,J⟩:=(h3.grow U (by decide) λ_ _ h=>h).get o;subst J;refine AS o ?_;rw[AH,AH,Addr.add_add,Addr.add_add];refine AJ (I 5 _ rfl) ?_;rw[Li,AM,AM,AK (by omega)];exact⟨⟨i+1,_,o,rfl,U⟩,by rw[Ar,Ar];omega⟩
  .rw[AM,AK (by omega)];exact⟨⟨k+1,_,m,rfl,V.trans U⟩,by rw[Ar,Ar];omega⟩
theorem VH{S D Sb X:Nat->Prop}{k i j key n:Int}{xv bv J:Value}{x:List Dop}{b:List Int}{p:List Chg}(hx:Ak S D w xv x)(hb:Bv Sb w bv b)(hp:EV X w J p) :
  AB prog 4 [.agg (de k i j key n xv bv J).toArray] (λv' w'=>(∃z,v'=zI z)/\Grow w w') w:=by
 refine uS1 (dB 550849353689 [([3,4],[(3,4),(16,32)])] [(dC [2] [0,1,3,0,8,24,63,0,128,384,1023,2047] [])]) func4 (λ_ _ _=>⟨by conv=>lhs;reduce,by dsimp only[PI,AF],by kernel_rfl⟩) ?_;unfold uI;refine Bx.box λb1 Y a1 Z B=>?_;have O:Grow Y Y.drew:=Mod.drew _ _;have I:=B.grow O;refine AT (λ_ _=>False) ?_;rw[AH,AI];refine AP ⟨I.cells 5 _ rfl,λj hj e=>e⟩ ?_;refine AA (VB (Ak.grow hx (Z.trans O))) ?_;rintro _ W2 ⟨⟨z,rfl⟩,Q⟩;refine⟨Q.mono λ_ _ h=>h.elim,?_⟩;have B2:=I.grow Q;have G2:=(Z.trans O).trans Q;rw[AH,AI];refine AP ⟨I.cells 6 _ rfl,λj hj e=>e⟩ ?_;obtain⟨ba,bc,rfl,_⟩:=hb.shape;rw[AO,AM,AH,AI];refine AP ⟨I.cells 7 _ rfl,λj hj e=>e⟩ ?_;have U:EV X W2 J p:=hp.grow G2 (by decide) λ_ _ h=>h;obtain⟨pa,pc,rfl,V⟩:=hp.shape;simp only[maxLen] at V;rw[AO,AM];refine AU (λvs W=>W=W2/\∃(m:Nat) (q:Int),m<=p.length/\vs=[zI q,zI m]) (λvs _=>p.length-Dh vs 1) ⟨rfl,0,_,Nn _,rfl⟩ ?_;rintro vs W ⟨rfl,m,q,hm,rfl⟩ _;simp only[FC];refine Az (B2.cells 7 _ rfl) ?_;rw[AO,Ai];refine AD (λa6=>?_) λa7=>⟨⟨q,rfl⟩,G2⟩;have o:m<p.length:=by omega
 refine Az (B2.cells 7 _ rfl) ?_;obtain⟨pp,r,rfl,_,hr,hc,rfl⟩:=U.get o;refine AS o ?_;rw[AH,AH,Addr.add_add,Addr.add_add];refine AJ (by have:=hc 5 _ rfl;exact this) ?_;refine⟨_,rfl,?_⟩;show CW .i64 (zI q) (zI ((p[m].val.s.size:Nat):Int)) _;rw[AM,AM,AK (by omega)];exact⟨⟨rfl,m+1,_,o,rfl⟩,by rw[Ar,Ar];omega⟩
theorem Na{S D Sb Sp:Nat->Prop}{k i j key n:Int}{xv bv pv:Value}{x:List Dop}{b:List Int}{p:List Chg}(hx:Ak S D w xv x)(hb:Bv Sb w bv b)(hp:EV Sp w pv p)(hT:EA w) :
  AB prog 3 [.agg (de k i j key n xv bv pv).toArray] (λv w'=>v=.bool true/\Grow w w') w:=by
 apply iP;unfold S3;refine Bx.box λQ W1 b7 g1 B=>?_;refine B.Eg rfl ?_;refine AA (VH (Ak.grow hx g1) (hb.grow g1 (by decide) λ_ _ h=>h) (hp.grow g1 (by decide) λ_ _ h=>h)) ?_;rintro _ W3 ⟨⟨z,rfl⟩,g3⟩;have G3:=g1.trans g3;have kn:∀{W:World},Grow w W->AB prog 5 [] (λv w'=>v=.bool true/\Grow w w') W:=λg=>AA (R2 (hT.grow g)) λ_ _ h=>⟨h.1,g.trans h.2⟩;rw[BE];refine AD (λ_=>kn G3) λ_=>?_;have B3:=B.grow g3;obtain⟨ba,bc,an,_⟩:=id hb.shape;have av:bv.oneCell'=true:=by rw[an];rfl
 refine Bx.zero λb3 W5 b8 g5 E5=>?_;refine JT (cs:=[.pointer none,.pointer (some ⟨b3,0,none⟩)]) (by kernel_rfl) ?_;have g6:Grow W5 (W5.alloc (.cells [Value.pointer none,.pointer (some ⟨b3,0,none⟩)].toArray 35)):=Mod.alloc _ _ _;have X:∀j v,[Value.pointer none,.pointer (some ⟨b3,0,none⟩)][j]?=some v->(W5.alloc (.cells [Value.pointer none,.pointer (some ⟨b3,0,none⟩)].toArray 35)).cell? ((⟨W5.heap.size,0,none⟩:Addr).add j)=some v:=λj v hv=>FQ hv;have b2:=B.lt (by simp);have z1:=g1.size;have z3:=g3.size;have z5:=g5.size;have z6:=g6.size;have b6:=E5.lt (by simp);generalize hq:W5.heap.size=q at *;generalize W5.alloc (.cells [Value.pointer none,.pointer (some ⟨b3,0,none⟩)].toArray 35)=W6 at g6 X z6 ⊢;have G6:=(G3.trans g5).trans g6;have B6:=(B3.grow g5).grow g6;have E6:=E5.grow g6;rw[show(Value.slice (some ⟨q,0,none⟩) 2 2)=.slice (some ⟨q,0,none⟩) (2:Nat) 2 from rfl,AO];refine AU (λvs W=>∃(m:Nat) (k':Int),m<=2/\vs=[zI m]/\Mod (λy=>y=Q) W6 W/\Bx W Q (de k' i j key n xv bv pv)) (λvs _=>2-Dh vs 0) ⟨0,k,by decide,rfl,Mod.refl _ _,B6⟩ ?_;rintro vs W ⟨m,k',hm,rfl,I,Y⟩ _;simp only[BQ,Nr];have GW:Grow w W:=G6.next I λy hy e=>by omega
 rw[Ai];refine AD (λb9=>?_) λbb=>kn GW;have a7:m<2:=by omega
 refine AR (λ_ W'=>∃k':Int,Mod (λy=>y=Q) W6 W'/\Bx W' Q (de k' i j key n xv bv pv)) ?_ ?_
 .rintro vs W' ⟨k2,m',B'⟩ _;rw[AM,AK (by omega)];exact⟨⟨m+1,k2,a7,rfl,m',B'⟩,by rw[Bw,Bw];omega⟩
 obtain⟨gv,ax,o⟩:∃gv,[Value.pointer none,.pointer (some ⟨b3,0,none⟩)][m]?=some gv/\∀W',Mod (λy=>y=Q) W6 W'->JV W' gv:=by
  rcases m with _|_|m
  .exact⟨_,rfl,λ_ _=>.inl rfl⟩
  .exact⟨_,rfl,λW' ay=>.inr ⟨b3,rfl,E6.mod ay (by omega)⟩⟩
  .omega
 refine AS a7 ?_;rw[oI];refine AJ (I.cell (X m gv ax) (by rw[Ac];show ¬q=Q;omega)) ?_;refine AA (Qs (o W I)) ?_;rintro _ aZ ⟨rfl,J⟩;refine Ae (vs:=[_,_]) rfl (Ae (vs:=[_,_]) rfl ?_);have Z:=I.next J λ_ _ h=>h.elim;refine Az ((Y.grow J).cells 1 _ rfl) ?_;refine AA (QA (o aZ Z)) ?_;rintro _ b0 ⟨rfl,V⟩;refine Ae (vs:=[_,_]) rfl (Ae (vs:=[_,_]) rfl ?_);have a1:=Z.next V λ_ _ h=>h.elim;refine Az (((Y.grow J).grow V).cells 1 _ rfl) ?_;refine AA (NW (o b0 a1)) ?_;rintro _ bd ⟨rfl,a6⟩;refine Ae (vs:=[_,_]) rfl (Ae (vs:=[_,_]) rfl ?_);have a8:=a1.next a6 λ_ _ h=>h.elim;have ak:=((Y.grow J).grow V).grow a6;refine AU (λvs W'=>∃(c:Nat) (k2:Int),c<=15/\vs=[zI c]/\Mod (λy=>y=Q) W6 W'/\Bx W' Q (de k2 i j key n xv bv pv)) (λvs _=>15-Dh vs 0) ⟨1,k',by decide,rfl,a8,ak⟩ ?_;clear I Y GW J Z V a1 a6 a8 ak;rintro vs W ⟨c,k2,hc,rfl,I,Y⟩ _;simp only[BQ,Nr];rw[HT];refine AD (λbk=>?_) λbl=>?_
 .rw[AH,AI];refine Y.st (q:=0) (show 0<8 by decide) rfl rfl λW1 B1 m1=>?_;have al:=I.trans m1;refine B1.Eg rfl ?_;refine AA (VP (k:=c) (o W1 al) av) ?_;rintro _ W2 ⟨rfl,g2⟩;refine Ko ?_;rw[AM,AK (by omega)];exact⟨⟨c+1,c,by omega,rfl,al.next g2 λ_ _ h=>h.elim,B1.grow g2⟩,by rw[Bw,Bw];omega⟩
 .refine Ko ?_;refine Ko ?_;have O:∀{U U':World},Mod (λy=>y=Q) W6 U->Grow U U'->Mod (λy=>y=Q) W6 U':=λm g=>m.next g λ_ _ h=>h.elim;have zz:IntKind.i64.wrap (0+0)=0:=by decide
  rw[AM,zz];refine AA (Yy (o W I)) ?_;rintro _ U1 ⟨rfl,u1⟩;rw[AM,zz];refine AA (SE (o _ (O I u1))) ?_;rintro _ U2 ⟨rfl,u2⟩;rw[AM,zz];refine AA (Sl (o _ (O (O I u1) u2))) ?_;rintro _ U3 ⟨rfl,u3⟩;rw[show(Value.slice none 0 0)=.slice none (0:Nat) 0 from rfl,AO,AM];show AB _ _ _ _ _;have ez:IntKind.i64.wrap (0+((0:Nat):Int))=0:=by decide
  rw[ez];have m3:=O (O (O I u1) u2) u3;refine AA (Uz (o _ m3)) ?_;rintro _ U4 ⟨rfl,u4⟩;rw[show(Value.slice none 0 0)=.slice none (0:Nat) 0 from rfl,AO,AM,ez];have m4:=O m3 u4;refine AA (S0 (o _ m4)) ?_;rintro _ U5 ⟨rfl,u5⟩;rw[show(Value.slice none 0 0)=.slice none (0:Nat) 0 from rfl,AO,AM,ez];have m5:=O m4 u5;refine AA (Sf (o _ m5)) ?_;rintro _ U6 ⟨rfl,u6⟩;rw[show(Value.slice none 0 0)=.slice none (0:Nat) 0 from rfl,AO,AM,ez];have m6:=O m5 u6;refine AA (NL (o _ m6)) ?_;rintro _ U7 ⟨rfl,u7⟩;rw[show(Value.slice none 0 0)=.slice none (0:Nat) 0 from rfl,AO,AM,ez,BL];refine AW (λ_=>?_) λe=>(e rfl).elim;have m7:=O m6 u7;refine AA (V5 (o _ m7)) ?_;rintro _ U8 ⟨rfl,u8⟩;exact AL ⟨k2,O m7 u8,(((((((Y.grow u1).grow u2).grow u3).grow u4).grow u5).grow u6).grow u7).grow u8⟩
section
open Go.ChangeShapes Go.WideShapes Go.ChangeAt Go.RowKit Go.Joins
structure jz where
 k:Int
 i:Int
 j:Int
 key:Int
 n:Int
 x:List Dop
 b:List Int
 p:List Chg
def kH(S:Nat->Prop):World->List Value->jz->Prop:=λw r o=>∃xv bv m,r=de o.k o.i o.j o.key o.n xv bv m/\Ak S S w xv o.x/\Bv S w bv o.b/\EV S w m o.p
variable {H:Type}{enc:TypeId×Value->H}{w:World}{base:Nat}{spare:Nat->Bool}{held:Bool}
theorem P3{n:Nat}{y:DataW H×List MemPlace}(h:DataW.trod enc prog w base spare held n 26 cs=some y):∃o:jz,(kH (λ_=>True) w cs o/\(∀d∈o.x,NT d)/\(∀b∈o.b,0<=b/\b<256)/\∀c∈o.p,c.key<=9223372036854775807/\Hg c.val)/\Aq o.x+JJ o.p<=Rows.uptoBulk y.1:=by
 have c0:prog.cellsOf 26=8:=by kernel_rfl
 have c1:prog.cellsOf 3=1:=by kernel_rfl
 have c2:prog.cellsOf 22=1:=by kernel_rfl
 have U:prog.cellsOf 23=1:=by kernel_rfl
 have V:prog.cellsOf 24=1:=by kernel_rfl
 obtain⟨xs,m,_,rfl,hl,j,i⟩:=p4 underlying26 h;match xs,j with
 |[X,Y,Z,y3,y4,y5,y6,y7],_=>
  have h0:DataW.trod enc prog w base spare held m 3 ((cs.drop 0).take (prog.cellsOf 3))=some X:=i 0 _ rfl;have h1:DataW.trod enc prog w base spare held m 3 ((cs.drop 1).take (prog.cellsOf 3))=some Y:=i 1 _ rfl;have q:DataW.trod enc prog w base spare held m 3 ((cs.drop 2).take (prog.cellsOf 3))=some Z:=i 2 _ rfl;have B:DataW.trod enc prog w base spare held m 3 ((cs.drop 3).take (prog.cellsOf 3))=some y3:=i 3 _ rfl;have I:DataW.trod enc prog w base spare held m 3 ((cs.drop 4).take (prog.cellsOf 3))=some y4:=i 4 _ rfl;have J:DataW.trod enc prog w base spare held m 22 ((cs.drop 5).take (prog.cellsOf 22))=some y5:=i 5 _ rfl;have O:DataW.trod enc prog w base spare held m 23 ((cs.drop 6).take (prog.cellsOf 23))=some y6:=i 6 _ rfl;have Q:DataW.trod enc prog w base spare held m 24 ((cs.drop 7).take (prog.cellsOf 24))=some y7:=i 7 _ rfl;rw[c0] at hl;rw[c1] at h0 h1 q B I;rw[c2] at J;rw[U] at O;rw[V] at Q;match cs,hl with
  |[a0,a1,a2,a3,a4,a5,a6,a7],_=>
   clear i;simp only[mz,nL,nx,nN] at h0 h1 q B I J O Q;obtain⟨k0,e0,_,_⟩:=mK underlying3 h0;obtain⟨k1,e1,_,_⟩:=mK underlying3 h1;obtain⟨k2,e2,_,_⟩:=mK underlying3 q;obtain⟨k3,e3,_,_⟩:=mK underlying3 B;obtain⟨k4,e4,_,_⟩:=mK underlying3 I;obtain⟨v5,l5,e5,⟨q5,i5⟩,m5⟩:=Nj J;obtain⟨v6,l6,e6,q6,i6⟩:=Nf O;obtain⟨v7,l7,e7,⟨q7,i7⟩,m7⟩:=Jy Q;cases e0;cases e1;cases e2;cases e3;cases e4;cases e5;cases e6;cases e7;refine⟨⟨k0,k1,k2,k3,k4,l5,l6,l7⟩,⟨⟨_,_,_,rfl,q5,q6,q7⟩,i5,i6,i7⟩,?_⟩;simp only[lO,mh,Rows.uptoBulk,Rows.uptoBulkAll];omega
end
section
open Go.ChangeShapes Go.WideShapes Go.ChangeAt Go.RowKit
set_option linter.unusedVariables false
theorem jJ:ownKnob prog.godebug=none:=by kernel_rfl
theorem laidOut:laidOutB prog=true:=by kernel_rfl
theorem KB(os:Os)(o:os.Started)(H:Type)(enc:TypeId×Value->H) :
  ReturnsInHanded {} Tryz.checked os 3 .any (λw args=>(Rows.engineNoneSpec.pre enc prog Tryz.f3 [] false w args/\laidMetH prog Rows.engineNoneRow.laid w)/\sizedMet enc prog Tryz.f3 (OpenSpec.ofChange Rows.engineNoneSpec) false w args)
   (Rows.engineNoneSpec.post enc prog Tryz.f3 false true false false):=by
 refine returnsInHanded_of_change_and (C:=Tryz.checked) (X:=λw _=>laidMetH prog Rows.engineNoneRow.laid w) (λ_ _ _ hh h=>h.of_heap hh) jJ o (by kernel_rfl) func3
  (ChangeSpec.witness_at (enc:=enc) (C:=Tryz.checked) (os:=os) (X:=λw _=>laidMetH prog Rows.engineNoneRow.laid w) false (N5 os) #[.agg #[zI 0,zI 0,zI 0,zI 0,zI 0,.slice none 0 0,.slice none 0 0,.slice none 0 0]] 8 rfl (by kernel_rfl) (by kernel_rfl) (by kernel_rfl) (by kernel_rfl) (by kernel_rfl) (NY os _)) ?_
 intro W base args ds gs before B hW _ _ hL _;have Y:=hW;obtain⟨p,q,O,hV,rfl,al,an⟩:=hW;have hA:DataW.TrodAll enc prog W 0 (λ_=>true) true Tryz.f3.params.toList args.toList ds p:=O;have I:∀(j:Nat) t v,Tryz.f3.params[j]?=some t->args[j]?=some v->Value.okWide prog W .any base t v:=B;rw[Tryz.params3] at hA I;have Q:EA W:=O5 hL;obtain⟨v0,av,d0,ax,p0,q0,Z,rfl,rfl,h0,r0⟩:=trodAll_cons hA;obtain⟨rfl,rfl,rfl⟩:=trodAll_nil r0;obtain rfl:args=#[v0]:=by cases args;simp_all
 obtain⟨rfl,rfl⟩:=trodVars_none hV;have a1:∀x∈p0,x.block<W.heap.size:=by obtain⟨m,hm⟩:=h0;exact DataW.trod_lt m _ _ _ hm
 obtain⟨J,a6⟩:=id h0;obtain⟨c0,rfl,_⟩:=okWide_struct underlying26 (I 0 26 v0 rfl rfl);obtain⟨U,⟨⟨a7,a8,ak,e0,s0⟩,_⟩,_⟩:=P3 (show DataW.trod enc prog W 0 _ true J 26 c0.toList=_ from a6);obtain rfl:c0=(de U.k U.i U.j U.key U.n a7 a8 ak).toArray:=by rw[<-e0]
 clear O B;refine(Na s0.1 s0.2.1 s0.2.2 Q).mono λe W' ⟨v,he,hv,hg⟩=>?_;subst he;subst hv;have V:Below W.heap.size W W':=Mod.below hg (K8 _) λ_ h=>h.elim;exact⟨_,rfl,_,_,_,[],_,[],Y,trodAll_mk1 (shut_bool underlying4 _),(trodAll_cons_mk (Below.trod laidOut (by kernel_rfl) (of_decide_eq_true (by kernel_rfl)) h0 V a1) trodAll_mk0),rfl,V.frame _,λh=>by cases h⟩
theorem iK{a0 a1 a2 a3 a4 a5 a6 a7 a8 a9 i j m o q B I J O Q U V a22 X Y a25 Z ak al an av ax:Bool}(h0:a0=true)(h1:a1=true)(h2:a2=true)(h3:a3=true)(h4:a4=true)(h5:a5=true)(h6:a6=true)(h7:a7=true)(h8:a8=true)(h9:a9=true)(ay:i=true)(aZ:j=true)(b0:m=true)(b1:o=true)(b2:q=true)(b6:B=true)(b7:I=true)(b8:J=true)(b9:O=true)(ba:Q=true)(bb:U=true)(bc:V=true)(bd:a22=true)(bk:X=true)(bl:Y=true)(bp:a25=true)(bs:Z=true)(bx:ak=true)(bZ:al=true)(c4:an=true)(c6:av=true)(c7:ax=true):(((((((((((((((((((((((((((((((a0&&a1)&&a2)&&a3)&&a4)&&a5)&&a6)&&a7)&&a8)&&a9)&&i)&&j)&&m)&&o)&&q)&&B)&&I)&&J)&&O)&&Q)&&U)&&V)&&a22)&&X)&&Y)&&a25)&&Z)&&ak)&&al)&&an)&&av)&&ax)=true:=by simp only[h0,h1,h2,h3,h4,h5,h6,h7,h8,h9,ay,aZ,b0,b1,b2,b6,b7,b8,b9,ba,bb,bc,bd,bk,bl,bp,bs,bx,bZ,c4,c6,c7];rfl
set_option maxHeartbeats 0 in
theorem Dm:prog.closure 3=[3,4,18,5,19,47,92,93,94,175,275,276,174,267,268,319,269,320,321,270,322,323,376,271,272,273,274,95,96,176,48,97,98,99,100,101,178,160,280,129,279,326,177,253,258,130,223,224,226,225,303,304,227,50,102,183,131,277,316,375,324,370,325,278,83,81,62,118,76,119,206,207,208,121,209,210,211,212,205,294,146,214,213,295,368,120,179,154,85,157,248,249,250,247,312,163,255,313,373,401,155,245,281,327,333,379,380,377,402,403,334,328,378,329,330,331,332,335,180,282,336,283,314,374,337,338,284,339,345,383,384,381,404,405,346,340,382,341,342,343,344,347,181,161,152,240,241,242,239,309,254,311,310,372,400,79,150,153,243,244,151,238,285,348,385,349,350,386,392,408,409,406,411,412,393,387,407,388,389,390,391,394,286,159,182,49,20,24,51,38,61,52,103,26,42,80,158,251,252,156,246,27,63,77,147,122,123,124,55,113,40,78,148,236,237,149,197,82,54,107,108,189,200,190,291,191,133,109,192,193,194,139,234,307,308,195,292,366,367,398,410,110,196,111,141,235,112,198,293,115,53,104,86,164,256,315,262,317,257,67,165,166,184,185,287,12,105,186,288,351,352,395,353,354,355,289,356,357,358,132,229,228,305,142,45,91,128,187,106,60,188,290,359,360,361,363,396,362,364,365,397,145,57,116,201,202,117,203,204,10,21,56,114,199,22,58,23,59,6,25,7,8,9,28,29,64,126,215,296,216,218,297,298,369,399,219,299,217,221,220,125,127,88,222,300,301,302,30,65,68,66,31,69,32,70,134,135,230,231,136,232,233,306,371,71,138,137,33,72,140,73,143,144,34,35,36,74,37,75,11,39,13,41,84,162,14,15,44,90,172,173,266,43,89,167,168,260,261,170,259,169,263,318,171,265,264,87,16,17,46]:=by kernel_rfl
set_option maxHeartbeats 0 in
theorem Jg:joinedFacts prog 3 Tryz.f3 Rows.engineNoneSpec Rows.engineNoneRow=true:=by
 unfold joinedFacts;refine iK ?_ ?_ ?_ ?_ ?_ ?_ ?_ ?_ ?_ ?a ?b ?c ?d ?_ ?_ ?_ ?_ ?_ ?_ ?_ ?_ ?_ ?_ ?_ ?_ ?_ ?_ ?_ ?_ ?_ ?_ ?_;case a=>unfold Program.inPlace;rw[Dm];as_aux_lemma=>kernel_rfl
 case b=>unfold Program.unfollowed;rw[Dm];as_aux_lemma=>kernel_rfl
 case c=>unfold Program.recurses Program.unfollowed;rw[Dm];as_aux_lemma=>kernel_rfl
 case d=>unfold Program.varsNamed;rw[Dm];as_aux_lemma=>kernel_rfl
 all_goals (as_aux_lemma=>kernel_rfl)
theorem LR:Rows.EngineNoneSaid:=
 OpenClaim.holds_of_wide 3 Tryz.f3 rfl rfl rfl rfl rfl rfl rfl ⟨rfl,rfl,rfl,rfl,rfl⟩ rfl rfl rfl rfl rfl (by kernel_rfl) func3 Jg
  (of_decide_eq_true (by kernel_rfl)) (by unfold Func.isWrapper;first|(rw[DN (by decide +kernel)];kernel_rfl)|(rw[Bp (by decide +kernel)];exact⟨rfl,rfl⟩))
  (λos i H enc _=>KB os i H enc)
theorem ZX{f:FuncId}{c:OpenClaim}(h:P.funcNamed c.func=some f)(i:c.start=.entering):c.goesBy P=P.goes f:=by
 unfold OpenClaim.goesBy Program.goesAt Program.goesFrom;rw[h,i];exact Bool.or_false _
theorem Gz : Tryz.prog.funcNamed "rubric/rubriclaw28.EngineNone" = some 3 := by kernel_rfl
set_option maxHeartbeats 0 in
theorem LZ:false=Rows.engineNoneRow.goesBy prog:=by
 rw[ZX (f:=3) Gz rfl];unfold Program.goes Program.unfollowed;rw[Dm]
 as_aux_lemma=>kernel_rfl
theorem K4:false=prog.looks []:=by kernel_rfl
theorem LY:prog.mainIs=some (Rows.engineNoneCard.stood.harness.1,Rows.engineNoneCard.stood.harness.2.toList):=by kernel_rfl
theorem Nu:Rows.engineNoneRow.wfByText (OpenSpec.ofChange Rows.engineNoneSpec)=true:=by kernel_rfl
theorem EngineNone_proved:Rows.EngineNoneCardSaid:=
 Claim7.holds_tied_plain_at .later [] [.data,.pinned] true Rows.engineNoneCard.stood.harness false
  LR (λ_ h=>by cases h) Nu (λ_ h=>by cases h) engineNone_row_tie rfl ⟨rfl,rfl⟩ LY rfl
  (λf fn o m=>by
   obtain rfl:f=3:=lK (Gz.symm.trans o) |>.symm;obtain rfl:fn=Tryz.f3:=(lK (func3.symm.trans m)).symm;exact ⟨K4,λj t ht=>by
    rw[Tryz.params3] at ht;have hm:t∈[26]:=by simpa using rQ ht
    have i:([26].all λu=>!prog.wantsStandIn u)=true:=by kernel_rfl
    exact (show prog.wantsStandIn t=false by simpa using mL.1 i t hm)⟩)
  LZ
#print axioms EngineNone_proved
end
end Go.Proofs.YtbdjachmndlplaaGreatDoor
