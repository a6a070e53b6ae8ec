/- parts of the proof, written short by a program of ours -/
import Derived.Test.YtmdhibffnkhcnaaGreatDoorZTextNormalUpto3
set_option linter.unusedSimpArgs false
set_option linter.unusedVariables false
namespace Go.Proofs.YtmdhibffnkhcnaaGreatDoor
open Go Proofs.Tryz
variable {i j c:Nat}{w W w' W':World}{F S C:Nat->Prop}{v:Value}{most:Int}{vs:List Value}{α:Type}{K:Cont}{P:Program}
section
variable {α:Type}{g:AvT α}
structure Xy (g:AvT α) (F C:Nat->Prop) (W w':World) (b:Nat) (rt:Int) (A:ArS α) (L:List α) (I:List Nat) (t':Tr α) (A':ArS α):Prop where
 EH:Dl g F C w' b rt A'
 mod:Mod (Fb F b) W w'
 toL:t'.toL=L
 idx:t'.idx.Perm I
 holds:Tr.Holds g.k.μ A'.f t'
 same:∀j,j∉I->A'.f j=A.f j
 len:A'.ps.length=A.ps.length
theorem Dg(A:ArS α)(i:Nat)(n:Nd α):(A.put i n).ps.length=A.ps.length:=by simp[ArS.put]
theorem EA.perm{l m:List α}(h:EA g l)(e:m=l):EA g m:=e▸h
theorem Hw{A:ArS α}{n m:Nd α}(hi:A.f i=some m)(h:j≠i):(A.put i n).f j=A.f j:=by rw[ArS.J1 hi,Tr.Da _ h]
theorem IT{A:ArS α}{m:Nd α}{l r:Tr α}{x:α}{μ:α->Nat×Nat}(hi:A.f i=some m)(hl:Tr.Holds μ A.f l)(hr:Tr.Holds μ A.f r)(j:i∉l.idx)(o:i∉r.idx):Tr.Holds μ (A.put i (Tr.EC μ (.node l i x r) x l.root r.root)).f (.node l i x r):=by
 rw[ArS.J1 hi];exact Tr.Holds.top μ hl hr j o
theorem Q4{b i j:Nat}{A:ArS α}{x y:α}{a c r:Tr α}(h:Dl g F C W b most A)(hs:A.ps.length<=109951162777)(hh:Tr.Holds g.k.μ A.f (.node (.node a j y c) i x r))(hu:Tr.GO (.node (.node a j y c) i x r))(hb:EA g (Tr.node (.node a j y c) i x r).toL) :
  AB prog g.flift [.pointer (some ⟨b,0,none⟩),.int .i64 i,.bool true] (fun v' w'=>v'=.int .i64 j/\∃A',Xy g F C W w' b most A (Tr.node (.node a j y c) i x r).toL (Tr.node (.node a j y c) i x r).idx (.node a j y (.node c i x r)) A') W:=by
 apply g.ok.lift;unfold Wx;obtain⟨⟨ha,hc,hj⟩,hr,hi⟩:=hh;obtain⟨u1,u2,u3,u4,u5⟩:=Tr.BD.1 hu;obtain⟨v1,v2,v3,v4,v5⟩:=Tr.BD.1 u1;have hL:(Tr.node (.node a j y c) i x r).toL=a.toL++y::(c.toL++x::r.toL):=by simp[Tr.toL]
 rw[hL] at hb;have a7:=hb.app.2.cons.1;have U:i≠j:=fun e=>u3 (by simp[Tr.idx,e]);have V:i∉c.idx:=fun e=>u3 (by simp[Tr.idx,e]);have a8:i∉a.idx:=fun e=>u3 (by simp[Tr.idx,e]);have ak:j∉r.idx:=u5 j (by simp[Tr.idx]);refine Dt h hi fun rc bx w1 g1 X B o=>?_;have O:=g.rlen o;refine As ?_;refine Bt (B.cells (g.E+0) _ (by rw[AZ O];rfl)) ?_;have h1:=h.grow g1;refine Dt h1 hj fun rd bd w2 g2 ay D Q=>?_;have S:=g.rlen Q;have B2:=B.grow g2;refine Bt (D.cells (g.E+1) _ (by rw[AZ S];rfl)) ?_;rw[AG,AH];have nF:∀{z:Nat},W.heap.size<=z->∀x,F x\/C x->x≠z:=fun hz x hx e=>by have:=h.lt x hx;omega
 have s1:=g1.size;refine B2.st (q:=g.E+0) (by rw[BI _ o];omega) rfl rfl fun w3 B3 m3=>?_;have b0:=B.lt (by rw[BI _ o];omega);have D3:=D.mod m3 fun e=>by omega
 rw[Cl O] at B3;refine B3.FZ (by rw[Bq,kC,O];rfl) ?_;have g3:Grow W w3:=(g1.trans g2).next m3 fun y I e=>by omega
 have h3:=h.grow g3;have Y:=g.BZ (g.BZ o g2 fun _ _ _ h=>h) m3 fun y _ I e=>nF X y (.inr I) e;refine AA (Gb (l:=c) (r:=r) (n:={ Tr.EC g.k.μ (.node (.node a j y c) i x r) x (Tr.node a j y c).root r.root with l:=c.root }) h3 hs hi Y rfl rfl hc hr v2 u2 a7) ?_;rintro _ w4 ⟨h4,m4⟩;have D4:=D3.mod m4 fun e=>nF (by omega) bd (.inl e.1) rfl;have J:(A.put i (Tr.EC g.k.μ (.node c i x r) x c.root r.root)).f=Tr.Eg A.f i (some (Tr.EC g.k.μ (.node c i x r) x c.root r.root)):=ArS.J1 hi;rw[AG,AH];refine D4.st (q:=g.E+1) (by rw[BI _ Q];omega) rfl rfl fun w5 D5 m5=>?_;rw[Cl S] at D5;refine D5.FZ (by rw[Bq,kC,S];rfl) ?_;have h5:=h4.mod m5 fun x hx e=>nF (by omega) x hx e;have Z:=g.BZ (g.BZ (g.BZ Q m3 fun y _ I e=>nF X y (.inr I) e) m4 fun y _ I e=>h.Is y e.1 I) m5 fun y _ I e=>nF (by omega) y (.inr I) e;have T:(A.put i (Tr.EC g.k.μ (.node c i x r) x c.root r.root)).f j=some (Tr.EC g.k.μ (.node a j y c) y a.root c.root):=by rw[J,Tr.Da _ (mW U)];exact hj
 have a1:Tr.Holds g.k.μ (A.put i (Tr.EC g.k.μ (.node c i x r) x c.root r.root)).f (.node c i x r):=by rw[J];exact Tr.Holds.top g.k.μ hc hr V u4
 have a6:Tr.Holds g.k.μ (A.put i (Tr.EC g.k.μ (.node c i x r) x c.root r.root)).f a:=by rw[J];exact ha.out g.k.μ _ a8
 have al:Tr.GO (.node c i x r):=Tr.BD.2 ⟨v2,u2,V,u4,fun q hq=>u5 q (by simp[Tr.idx,hq])⟩;have an:(A.put i (Tr.EC g.k.μ (.node c i x r) x c.root r.root)).ps.length<=109951162777:=by rw[Dg];exact hs
 refine AA (Gb (l:=a) (r:=.node c i x r) (n:={ Tr.EC g.k.μ (.node a j y c) y a.root c.root with r:=(i:Int) }) h5 an T Z rfl rfl a6 a1 v1 al hb) ?_;rintro _ w6 ⟨h6,m6⟩;have av:=ArS.J1 (n:=Tr.EC g.k.μ (.node a j y (.node c i x r)) y a.root (Tr.node c i x r).root) T;refine⟨rfl,_,h6,?_,by simp[Tr.toL],(Tr.UF a c r i j x y).2,?_,fun q hq=>?_,by rw[Dg,Dg]⟩
 .exact(((g3.mono fun _ _ h=>h.elim).trans m4).next m5 fun y I e=>by omega).trans m6
 .refine IT (x:=y) T a6 a1 v3 fun e=>?_;simp only[Tr.idx,DN,I3] at e;rcases e with e|e|e
  .exact v4 e
  .exact U e.symm
  .exact ak e
 .simp only[Tr.idx,DN,I3,qF] at hq;have ax:Tr.Eg (A.put i (Tr.EC g.k.μ (.node c i x r) x c.root r.root)).f j (some (Tr.EC g.k.μ (.node a j y (.node c i x r)) y a.root (Tr.node c i x r).root)) q=A.f q:=by rw[Tr.Da _ hq.1.2.1,J,Tr.Da _ hq.2.1]
  rw[<-ax];exact congrFun av q
theorem RY{b i j:Nat}{A:ArS α}{x y:α}{a c l:Tr α}(h:Dl g F C W b most A)(hs:A.ps.length<=109951162777)(hh:Tr.Holds g.k.μ A.f (.node l i x (.node a j y c)))(hu:Tr.GO (.node l i x (.node a j y c)))(hb:EA g (Tr.node l i x (.node a j y c)).toL) :
  AB prog g.flift [.pointer (some ⟨b,0,none⟩),.int .i64 i,.bool false] (fun v' w'=>v'=.int .i64 j/\∃A',Xy g F C W w' b most A (Tr.node l i x (.node a j y c)).toL (Tr.node l i x (.node a j y c)).idx (.node (.node l i x a) j y c) A') W:=by
 apply g.ok.lift;unfold Wx;obtain⟨hl,⟨ha,hc,hj⟩,hi⟩:=hh;obtain⟨u1,u2,u3,u4,u5⟩:=Tr.BD.1 hu;obtain⟨v1,v2,v3,v4,v5⟩:=Tr.BD.1 u2;have hL:(Tr.node l i x (.node a j y c)).toL=(l.toL++x::a.toL)++y::c.toL:=by simp[Tr.toL]
 rw[hL] at hb;have a7:=hb.app.1;have U:i≠j:=fun e=>u4 (by simp[Tr.idx,e]);have a8:i∉c.idx:=fun e=>u4 (by simp[Tr.idx,e]);have V:i∉a.idx:=fun e=>u4 (by simp[Tr.idx,e]);have ak:j∉l.idx:=fun e=>u5 j e (by simp[Tr.idx]);refine Dt h hi fun rc bx w1 g1 X B o=>?_;have O:=g.rlen o;refine AV ?_;refine Bt (B.cells (g.E+1) _ (by rw[AZ O];rfl)) ?_;have h1:=h.grow g1;refine Dt h1 hj fun rd bd w2 g2 ay D Q=>?_;have S:=g.rlen Q;have B2:=B.grow g2;refine Bt (D.cells (g.E+0) _ (by rw[AZ S];rfl)) ?_;rw[AG,AH];have nF:∀{z:Nat},W.heap.size<=z->∀x,F x\/C x->x≠z:=fun hz x hx e=>by have:=h.lt x hx;omega
 have s1:=g1.size;refine B2.st (q:=g.E+1) (by rw[BI _ o];omega) rfl rfl fun w3 B3 m3=>?_;have b0:=B.lt (by rw[BI _ o];omega);have D3:=D.mod m3 fun e=>by omega
 rw[Cl O] at B3;refine B3.FZ (by rw[Bq,kC,O];rfl) ?_;have g3:Grow W w3:=(g1.trans g2).next m3 fun y I e=>by omega
 have h3:=h.grow g3;have Y:=g.BZ (g.BZ o g2 fun _ _ _ h=>h) m3 fun y _ I e=>nF X y (.inr I) e;refine AA (Gb (l:=l) (r:=a) (n:={ Tr.EC g.k.μ (.node l i x (.node a j y c)) x l.root (Tr.node a j y c).root with r:=a.root }) h3 hs hi Y rfl rfl hl ha u1 v1 a7) ?_;rintro _ w4 ⟨h4,m4⟩;have D4:=D3.mod m4 fun e=>nF (by omega) bd (.inl e.1) rfl;have J:(A.put i (Tr.EC g.k.μ (.node l i x a) x l.root a.root)).f=Tr.Eg A.f i (some (Tr.EC g.k.μ (.node l i x a) x l.root a.root)):=ArS.J1 hi;rw[AG,AH];refine D4.st (q:=g.E+0) (by rw[BI _ Q];omega) rfl rfl fun w5 D5 m5=>?_;rw[Cl S] at D5;refine D5.FZ (by rw[Bq,kC,S];rfl) ?_;have h5:=h4.mod m5 fun x hx e=>nF (by omega) x hx e;have Z:=g.BZ (g.BZ (g.BZ Q m3 fun y _ I e=>nF X y (.inr I) e) m4 fun y _ I e=>h.Is y e.1 I) m5 fun y _ I e=>nF (by omega) y (.inr I) e;have T:(A.put i (Tr.EC g.k.μ (.node l i x a) x l.root a.root)).f j=some (Tr.EC g.k.μ (.node a j y c) y a.root c.root):=by rw[J,Tr.Da _ (mW U)];exact hj
 have a1:Tr.Holds g.k.μ (A.put i (Tr.EC g.k.μ (.node l i x a) x l.root a.root)).f (.node l i x a):=by rw[J];exact Tr.Holds.top g.k.μ hl ha u3 V
 have a6:Tr.Holds g.k.μ (A.put i (Tr.EC g.k.μ (.node l i x a) x l.root a.root)).f c:=by rw[J];exact hc.out g.k.μ _ a8
 have al:Tr.GO (.node l i x a):=Tr.BD.2 ⟨u1,v1,u3,V,fun q hq e=>u5 q hq (by simp[Tr.idx,e])⟩;have an:(A.put i (Tr.EC g.k.μ (.node l i x a) x l.root a.root)).ps.length<=109951162777:=by rw[Dg];exact hs
 refine AA (Gb (l:=.node l i x a) (r:=c) (n:={ Tr.EC g.k.μ (.node a j y c) y a.root c.root with l:=(i:Int) }) h5 an T Z rfl rfl a1 a6 al v2 hb) ?_;rintro _ w6 ⟨h6,m6⟩;have av:=ArS.J1 (n:=Tr.EC g.k.μ (.node (.node l i x a) j y c) y (Tr.node l i x a).root c.root) T;refine⟨rfl,_,h6,?_,by simp[Tr.toL],(Tr.We l a c j i y x).2,?_,fun q hq=>?_,by rw[Dg,Dg]⟩
 .exact(((g3.mono fun _ _ h=>h.elim).trans m4).next m5 fun y I e=>by omega).trans m6
 .refine IT (x:=y) T a1 a6 (fun e=>?_) v4;simp only[Tr.idx,DN,I3] at e;rcases e with e|e|e
  .exact ak e
  .exact U e.symm
  .exact v3 e
 .simp only[Tr.idx,DN,I3,qF] at hq;have ax:Tr.Eg (A.put i (Tr.EC g.k.μ (.node l i x a) x l.root a.root)).f j (some (Tr.EC g.k.μ (.node (.node l i x a) j y c) y (Tr.node l i x a).root c.root)) q=A.f q:=by rw[Tr.Da _ hq.2.2.2.1,J,Tr.Da _ hq.2.1]
  rw[<-ax];exact congrFun av q
theorem DH{f i:Nat->Option (Nd α)}{μ:α->Nat×Nat}{t:Tr α}{I:List Nat}(h:Tr.Holds μ f t)(o:∀j,j∉I->i j=f j)(B:∀j∈t.idx,j∉I):Tr.Holds μ i t:=h.frame μ fun j E=>o j (B j E)
theorem Gr{b i:Nat}{A:ArS α}{n m:Nd α}{l r:Tr α}(h:Dl g F C W b most A)(hs:A.ps.length<=109951162777)(hi:A.f i=some m)(U:g.R C W vs n.x)(el:n.l=l.root)(er:n.r=r.root)
 (hl:Tr.Holds g.k.μ A.f l)(hr:Tr.Holds g.k.μ A.f r)(hu:Tr.GO (.node l i n.x r))(hb:EA g (Tr.node l i n.x r).toL) :
  AB prog g.fbalance [.pointer (some ⟨b,0,none⟩),.int .i64 i,.agg (vs++BY n).toArray] (fun v' w'=>∃t' A',v'=.int .i64 t'.root/\Xy g F C W w' b most A (Tr.node l i n.x r).toL (Tr.node l i n.x r).idx t' A') W:=by
 apply g.ok.balance;unfold O8;obtain⟨u1,u2,u3,u4,u5⟩:=Tr.BD.1 hu;have O:=g.rlen U;have nF:∀{z:Nat},W.heap.size<=z->∀x,F x\/C x->x≠z:=fun hz x hx e=>by have:=h.lt x hx;omega
 refine Bx.box fun bx w1 Q g1 B=>?_;refine B.FZ (BI _ U) ?_;have h1:=h.grow g1;refine AA (Gb (l:=l) (r:=r) h1 hs hi (g.BZ U g1 fun _ _ _ h=>h) el er hl hr u1 u2 hb) ?_;rintro _ w3 ⟨h3,m3⟩;have b7:=g.BZ (g.BZ U g1 fun _ _ _ h=>h) m3 fun y _ X e=>h.Is y e.1 X;have B3:=B.mod m3 fun e=>nF Q bx (.inl e.1) rfl;have I:(A.put i (Tr.EC g.k.μ (.node l i n.x r) n.x l.root r.root)).ps.length<=109951162777:=by rw[Dg];exact hs
 have hT:=IT (x:=n.x) hi hl hr u3 u4;obtain⟨Y,Z,an⟩:=id hT;have V:∀j,j∉(Tr.node l i n.x r).idx->(A.put i (Tr.EC g.k.μ (.node l i n.x r) n.x l.root r.root)).f j=A.f j:=fun j hj=>Hw hi fun e=>hj (by simp[Tr.idx,e]);have J:=Dg A i (Tr.EC g.k.μ (.node l i n.x r) n.x l.root r.root);have ba:Mod (Fb F b) W w3:=(g1.mono fun _ _ h=>h.elim).trans m3;generalize A.put i (Tr.EC g.k.μ (.node l i n.x r) n.x l.root r.root)=A3 at h3 I hT Y Z an V J;refine AA (MZ h3 I an rfl rfl Y Z u1 u2) ?_;rintro _ w4 ⟨rfl,g4⟩;have h4:=h3.grow g4;have B4:=B3.grow g4;have av:=g.BZ b7 g4 fun _ _ _ h=>h;have ax:Mod (Fb F b) W w4:=ba.trans (g4.mono fun _ _ h=>h.elim);rw[BR];refine AF (fun bb=>?_) fun bn=>?_
 .obtain⟨a,j,y,c,rfl⟩:=Tr.Kl (t:=l) (by omega);refine Bt (B4.cells (g.E+0) _ (by rw[AZ O];rfl)) ?_;rw[el];obtain⟨ha,hc,hj⟩:=id Y;obtain⟨v1,v2,v3,v4,v5⟩:=Tr.BD.1 u1;refine AA (MZ h4 I hj rfl rfl ha hc v1 v2) ?_;rintro _ w6 ⟨rfl,g6⟩;have h6:=h4.grow g6;have B6:=B4.grow g6;have a1:Mod (Fb F b) W w6:=ax.trans (g6.mono fun _ _ h=>h.elim);refine H6 (fun bc=>?_) fun bd=>?_
  .obtain⟨p,q,z,s,rfl⟩:=Tr.Kl (t:=c) (by omega);refine Bt (B6.cells (g.E+0) _ (by rw[AZ O];rfl)) ?_;rw[el];refine AA (RY h6 I Y u1 hb.app.1) ?_;rintro _ w8 ⟨rfl,A8,S8⟩;have B8:=B6.mod S8.mod fun e=>nF Q bx (.inl e.1) rfl;rw[AG,AH];refine B8.st (q:=g.E+0) (by rw[BI _ U];omega) rfl rfl fun w9 B9 m9=>?_;rw[Cl O] at B9;refine B9.FZ (by rw[Bq,kC,O];rfl) ?_;have h9:=S8.EH.mod m9 fun x hx e=>nF Q x hx e;have a6:=g.BZ (g.BZ (g.BZ av g6 fun _ _ _ h=>h) S8.mod fun y _ X e=>h.Is y e.1 X) m9 fun y _ X e=>nF Q y (.inr X) e;have S:A8.f i=some _:=(S8.same i u3).trans an;have b8:Tr.Holds g.k.μ A8.f r:=DH Z S8.same fun j' ay e=>u5 j' e ay;have a7:A8.ps.length<=109951162777:=by rw[S8.len];exact I
   have a8:Tr.GO (Tr.node (.node (.node a j y p) q z s) i n.x r):=by
    have:(Tr.node (.node (.node a j y p) q z s) i n.x r).idx.Perm (Tr.node (.node a j y (.node p q z s)) i n.x r).idx:=S8.idx.append (l9 _);exact this.nodup_iff.2 hu
   obtain⟨x1,x2,x3,x4,x5⟩:=Tr.BD.1 a8;have ak:EA g (Tr.node (.node (.node a j y p) q z s) i n.x r).toL:=hb.perm (by rw[Tr.toL,S8.toL];rfl);refine AA (Gb (l:=.node (.node a j y p) q z s) (r:=r) (n:={ n with l:=(q:Int) }) h9 a7 S a6 rfl er S8.holds b8 x1 x2 ak) ?_;rintro _ bk ⟨b0,b3⟩;have al:(A8.put i (Tr.EC g.k.μ (.node (.node (.node a j y p) q z s) i n.x r) n.x (Tr.node (.node a j y p) q z s).root r.root)).ps.length<=109951162777:=by rw[Dg];exact a7
   refine AA (Q4 b0 al (IT S S8.holds b8 x3 x4) a8 ak) ?_;rintro _ b4 ⟨rfl,T,S12⟩;have o:(Tr.node (.node (.node a j y p) q z s) i n.x r).idx.Perm (Tr.node (.node a j y (.node p q z s)) i n.x r).idx:=S8.idx.append (l9 _);refine⟨_,T,rfl,S12.EH,?_,S12.toL.trans (by rw[Tr.toL,S8.toL];rfl),S12.idx.trans o,S12.holds,fun t ht=>?_,by rw[S12.len,Dg,S8.len,J]⟩
   .exact(((a1.trans S8.mod).next m9 fun y X e=>by omega).trans b3).trans S12.mod
   .have b5:t∉(Tr.node (.node (.node a j y p) q z s) i n.x r).idx:=fun e=>ht (o.mem_iff.1 e);have b6:t∉(Tr.node a j y (.node p q z s)).idx:=fun e=>ht (by rw[Tr.idx];exact i7 _ e);exact(((S12.same t b5).trans (Hw S fun e=>ht (by simp[Tr.idx,e]))).trans (S8.same t b6)).trans (V t ht)
  .refine AA (Q4 h6 I hT hu hb) ?_;rintro _ b4 ⟨rfl,T,S12⟩;exact⟨_,T,rfl,S12.EH,a1.trans S12.mod,S12.toL,S12.idx,S12.holds,fun t ht=>(S12.same t ht).trans (V t ht),by rw[S12.len,J]⟩
 refine H6 (fun bc=>?_) fun bd=>?_
 .obtain⟨a,j,y,c,rfl⟩:=Tr.Kl (t:=r) (by omega);refine Bt (B4.cells (g.E+1) _ (by rw[AZ O];rfl)) ?_;rw[er];obtain⟨ha,hc,hj⟩:=id Z;obtain⟨v1,v2,v3,v4,v5⟩:=Tr.BD.1 u2;refine AA (MZ h4 I hj rfl rfl ha hc v1 v2) ?_;rintro _ w6 ⟨rfl,g6⟩;have h6:=h4.grow g6;have B6:=B4.grow g6;have a1:Mod (Fb F b) W w6:=ax.trans (g6.mono fun _ _ h=>h.elim);rw[BR];refine AF (fun bb=>?_) fun bl=>?_
  .obtain⟨p,q,z,s,rfl⟩:=Tr.Kl (t:=a) (by omega);refine Bt (B6.cells (g.E+1) _ (by rw[AZ O];rfl)) ?_;rw[er];refine AA (Q4 h6 I Z u2 hb.app.2.cons.1) ?_;rintro _ w8 ⟨rfl,A8,S8⟩;have B8:=B6.mod S8.mod fun e=>nF Q bx (.inl e.1) rfl;rw[AG,AH];refine B8.st (q:=g.E+1) (by rw[BI _ U];omega) rfl rfl fun w9 B9 m9=>?_;rw[Cl O] at B9;refine B9.FZ (by rw[Bq,kC,O];rfl) ?_;have h9:=S8.EH.mod m9 fun x hx e=>nF Q x hx e;have a6:=g.BZ (g.BZ (g.BZ av g6 fun _ _ _ h=>h) S8.mod fun y _ X e=>h.Is y e.1 X) m9 fun y _ X e=>nF Q y (.inr X) e;have S:A8.f i=some _:=(S8.same i u4).trans an;have b9:Tr.Holds g.k.μ A8.f l:=DH Y S8.same fun j' ay e=>u5 j' ay e;have a7:A8.ps.length<=109951162777:=by rw[S8.len];exact I
   have o:(Tr.node l i n.x (.node p q z (.node s j y c))).idx.Perm (Tr.node l i n.x (.node (.node p q z s) j y c)).idx:=(l9 _).append (S8.idx.cons i);have a8:Tr.GO (Tr.node l i n.x (.node p q z (.node s j y c))):=o.nodup_iff.2 hu;obtain⟨x1,x2,x3,x4,x5⟩:=Tr.BD.1 a8;have ak:EA g (Tr.node l i n.x (.node p q z (.node s j y c))).toL:=hb.perm (by rw[Tr.toL,S8.toL];rfl);refine AA (Gb (l:=l) (r:=.node p q z (.node s j y c)) (n:={ n with r:=(q:Int) }) h9 a7 S a6 el rfl b9 S8.holds x1 x2 ak) ?_;rintro _ bk ⟨b0,b3⟩;have al:(A8.put i (Tr.EC g.k.μ (.node l i n.x (.node p q z (.node s j y c))) n.x l.root (Tr.node p q z (.node s j y c)).root)).ps.length<=109951162777:=by rw[Dg];exact a7
   refine AA (RY b0 al (IT S b9 S8.holds x3 x4) a8 ak) ?_;rintro _ b4 ⟨rfl,T,S12⟩;refine⟨_,T,rfl,S12.EH,?_,S12.toL.trans (by rw[Tr.toL,S8.toL];rfl),S12.idx.trans o,S12.holds,fun t ht=>?_,by rw[S12.len,Dg,S8.len,J]⟩
   .exact(((a1.trans S8.mod).next m9 fun y X e=>by omega).trans b3).trans S12.mod
   .have b5:t∉(Tr.node l i n.x (.node p q z (.node s j y c))).idx:=fun e=>ht (o.mem_iff.1 e);have b6:t∉(Tr.node (.node p q z s) j y c).idx:=fun e=>ht (by rw[Tr.idx];exact kB _ (fX _ e));exact(((S12.same t b5).trans (Hw S fun e=>ht (by simp[Tr.idx,e]))).trans (S8.same t b6)).trans (V t ht)
  .refine AA (RY h6 I hT hu hb) ?_;rintro _ b4 ⟨rfl,T,S12⟩;exact⟨_,T,rfl,S12.EH,a1.trans S12.mod,S12.toL,S12.idx,S12.holds,fun t ht=>(S12.same t ht).trans (V t ht),by rw[S12.len,J]⟩
 .exact⟨.node l i n.x r,A3,rfl,h4,ax,rfl,l9 _,hT,V,J⟩
end
section
variable {α:Type}{g:AvT α}
theorem Pv{b i:Nat}{A:ArS α}{n:Nd α}{l r:Tr α}
 (IL:∀ Y X xl T,l=Tr.node Y X xl T->T.Df < l.Df->∀ {W1:World} {S:ArS α},Dl g F C W1 b most S->S.ps.length<=109951162777->S.f i=some n->Tr.Holds g.k.μ S.f T->Tr.Holds g.k.μ S.f r->Tr.GO (.node T i n.x r)->EA g (Tr.node T i n.x r).toL->
   AB prog g.fjoin [.pointer (some ⟨b,0,none⟩),.int .i64 T.root,.int .i64 i,.int .i64 r.root] (fun v' w'=>∃ t' A',v'=.int .i64 t'.root/\Xy g F C W1 w' b most S (Tr.node T i n.x r).toL (Tr.node T i n.x r).idx t' A') W1)
 (IR:∀ Q U xr V,r=Tr.node Q U xr V->Q.Df < r.Df->∀ {W1:World} {S:ArS α},Dl g F C W1 b most S->S.ps.length<=109951162777->S.f i=some n->Tr.Holds g.k.μ S.f l->Tr.Holds g.k.μ S.f Q->Tr.GO (.node l i n.x Q)->EA g (Tr.node l i n.x Q).toL->
   AB prog g.fjoin [.pointer (some ⟨b,0,none⟩),.int .i64 l.root,.int .i64 i,.int .i64 Q.root] (fun v' w'=>∃ t' A',v'=.int .i64 t'.root/\Xy g F C W1 w' b most S (Tr.node l i n.x Q).toL (Tr.node l i n.x Q).idx t' A') W1)
 (h:Dl g F C W b most A)(hs:A.ps.length<=109951162777)(hi:A.f i=some n)(hl:Tr.Holds g.k.μ A.f l)(hr:Tr.Holds g.k.μ A.f r)(hu:Tr.GO (.node l i n.x r))(hb:EA g (Tr.node l i n.x r).toL) :
  AB prog g.fjoin [.pointer (some ⟨b,0,none⟩),.int .i64 l.root,.int .i64 i,.int .i64 r.root] (fun v' w'=>∃t' A',v'=.int .i64 t'.root/\Xy g F C W w' b most A (Tr.node l i n.x r).toL (Tr.node l i n.x r).idx t' A') W:=by
 apply g.ok.join;unfold bG;obtain⟨u1,u2,u3,u4,u5⟩:=Tr.BD.1 hu;have bd:=(Ey rfl hl u1).1;have bk:=(Ey rfl hr u2).1;have nF:∀{z:Nat},W.heap.size<=z->∀x,F x\/C x->x≠z:=fun hz x hx e=>by have:=h.lt x hx;omega
 refine AA (CB h hl) ?_;rintro _ w1 ⟨rfl,g1⟩;refine Kh ?_;refine AA (CB (h.grow g1) hr) ?_;rintro _ w2 ⟨rfl,g2⟩;refine Kh ?_;have a1:=g1.trans g2;have h2:=h.grow a1;have bl:=a1.size;refine CK (b:=1) (by omega) ?_;rw[BR];refine AF (fun b7=>?_) fun bn=>?_
 .obtain⟨Y,X,xl,T,rfl⟩:=Tr.Kl (t:=l) (by omega);obtain⟨b8,b9,ak⟩:=id hl;obtain⟨v1,v2,v3,v4,v5⟩:=Tr.BD.1 u1;refine Dt h2 ak fun rc bx w3 g3 al B J=>?_;have O:=g.rlen J;have h3:=h2.grow g3;refine Bt (B.cells (g.E+1) _ (by rw[AZ O];rfl)) ?_;have an:Tr.GO (.node T i n.x r):=Tr.BD.2 ⟨v2,u2,fun e=>u3 (by simp[Tr.idx,e]),u4,fun q j=>u5 q (by simp[Tr.idx,j])⟩;have hL:(Tr.node (.node Y X xl T) i n.x r).toL=Y.toL++xl::(T.toL++n.x::r.toL):=by simp[Tr.toL]
  have a6:=hb;rw[hL] at a6;refine AA (IL Y X xl T rfl (by simp only[Tr.Df];omega) h3 hs hi b9 hr an a6.app.2.cons.1) ?_;rintro _ w7 ⟨t1,S,rfl,I⟩;have o:W.heap.size<=bx:=by omega
  have B7:=B.mod I.mod fun e=>nF o bx (.inl e.1) rfl;rw[AG,AH];refine B7.st (q:=g.E+1) (by rw[BI _ J];omega) rfl rfl fun w8 B8 m8=>?_;rw[Cl O] at B8;refine B8.FZ (by rw[Bq,kC,O];rfl) ?_;have h8:=I.EH.mod m8 fun x hx e=>nF o x hx e;have a7:=g.BZ (g.BZ J I.mod fun y _ Z e=>h.Is y e.1 Z) m8 fun y _ Z e=>nF o y (.inr Z) e;have nI:∀q∈X::Y.idx,q∉(Tr.node T i n.x r).idx:=fun q j e=>by
   simp only[Tr.idx,DN,I3] at e j;rcases j with rfl|j
   .rcases e with e|e|e
    .exact v4 e
    .exact u3 (by simp[Tr.idx,e])
    .exact u5 q (by simp[Tr.idx]) e
   .rcases e with e|e|e
    .exact v5 q j e
    .exact u3 (by simp[Tr.idx,<-e,j])
    .exact u5 q (by simp[Tr.idx,j]) e
  have av:S.f X=some _:=(I.same X (nI X (by simp))).trans ak;have ax:Tr.Holds g.k.μ S.f Y:=DH b8 I.same fun q j=>nI q (by simp[j]);have a8:Tr.GO (.node Y X xl t1):=by
   refine Tr.BD.2 ⟨v1,I.idx.nodup_iff.2 an,v3,fun e=>nI X (by simp) (I.idx.mem_iff.1 e),fun q j e=>nI q (by simp[j]) (I.idx.mem_iff.1 e)⟩
  have perm:(Tr.node Y X xl t1).idx.Perm (Tr.node (.node Y X xl T) i n.x r).idx:=by
   simp only[Tr.idx,PF,WJ];exact(l9 _).append (I.idx.cons X)
  have eL:(Tr.node Y X xl t1).toL=(Tr.node (.node Y X xl T) i n.x r).toL:=by simp only[Tr.toL,I.toL,PF,WJ]
  refine AA (Gr (l:=Y) (r:=t1) (n:={ Tr.EC g.k.μ (.node Y X xl T) xl Y.root T.root with r:=t1.root }) h8 (by rw[I.len];exact hs) av a7 rfl rfl ax I.holds a8 (hb.perm eL)) ?_;rintro _ ba ⟨t2,A2,rfl,S2⟩;refine⟨t2,A2,rfl,S2.EH,?_,S2.toL.trans eL,S2.idx.trans perm,S2.holds,fun q j=>?_,by rw[S2.len,I.len]⟩
  .exact((((a1.trans g3).mono fun _ _ h=>h.elim).trans I.mod).next m8 fun y Z e=>by omega).trans S2.mod
  .refine(S2.same q fun e=>j (perm.mem_iff.1 e)).trans (I.same q fun e=>j ?_);simp only[Tr.idx,DN,I3] at e ⊢;rcases e with e|e|e
   .exact .inl (.inr (.inr e))
   .exact .inr (.inl e)
   .exact .inr (.inr e)
 refine CK (b:=1) (by omega) ?_;rw[BR];refine AF (fun b7=>?_) fun bc=>?_
 .obtain⟨Q,U,xr,V,rfl⟩:=Tr.Kl (t:=r) (by omega);obtain⟨ay,bb,b0⟩:=id hr;obtain⟨v1,v2,v3,v4,v5⟩:=Tr.BD.1 u2;refine Dt h2 b0 fun rc bx w3 g3 al B J=>?_;have O:=g.rlen J;have h3:=h2.grow g3;refine Bt (B.cells (g.E+0) _ (by rw[AZ O];rfl)) ?_;have b3:Tr.GO (.node l i n.x Q):=Tr.BD.2 ⟨u1,v1,u3,fun e=>u4 (by simp[Tr.idx,e]),fun q j e=>u5 q j (by simp[Tr.idx,e])⟩;have hL:(Tr.node l i n.x (.node Q U xr V)).toL=(l.toL++n.x::Q.toL)++xr::V.toL:=by simp[Tr.toL]
  have a6:=hb;rw[hL] at a6;refine AA (IR Q U xr V rfl (by simp only[Tr.Df];omega) h3 hs hi hl ay b3 a6.app.1) ?_;rintro _ w7 ⟨t1,S,rfl,I⟩;have o:W.heap.size<=bx:=by omega
  have B7:=B.mod I.mod fun e=>nF o bx (.inl e.1) rfl;rw[AG,AH];refine B7.st (q:=g.E+0) (by rw[BI _ J];omega) rfl rfl fun w8 B8 m8=>?_;rw[Cl O] at B8;refine B8.FZ (by rw[Bq,kC,O];rfl) ?_;have h8:=I.EH.mod m8 fun x hx e=>nF o x hx e;have a7:=g.BZ (g.BZ J I.mod fun y _ Z e=>h.Is y e.1 Z) m8 fun y _ Z e=>nF o y (.inr Z) e;have nI:∀q∈U::V.idx,q∉(Tr.node l i n.x Q).idx:=fun q j e=>by
   simp only[Tr.idx,DN,I3] at e j;rcases j with rfl|j
   .rcases e with e|e|e
    .exact u5 q e (by simp[Tr.idx])
    .exact u4 (by simp[Tr.idx,<-e])
    .exact v3 e
   .rcases e with e|e|e
    .exact u5 q e (by simp[Tr.idx,j])
    .exact u4 (by simp[Tr.idx,<-e,j])
    .exact v5 q e j
  have b4:S.f U=some _:=(I.same U (nI U (by simp))).trans b0;have b5:Tr.Holds g.k.μ S.f V:=DH bb I.same fun q j=>nI q (by simp[j]);have a8:Tr.GO (.node t1 U xr V):=by
   refine Tr.BD.2 ⟨I.idx.nodup_iff.2 b3,v2,fun e=>nI U (by simp) (I.idx.mem_iff.1 e),v4,fun q j e=>nI q (by simp[e]) (I.idx.mem_iff.1 j)⟩
  have perm:(Tr.node t1 U xr V).idx.Perm (Tr.node l i n.x (.node Q U xr V)).idx:=by
   have:(Tr.node l i n.x (.node Q U xr V)).idx=(Tr.node l i n.x Q).idx++U::V.idx:=by simp[Tr.idx]
   rw[this];exact I.idx.append (l9 _)
  have eL:(Tr.node t1 U xr V).toL=(Tr.node l i n.x (.node Q U xr V)).toL:=by rw[hL];simp only[Tr.toL,I.toL]
  refine AA (Gr (l:=t1) (r:=V) (n:={ Tr.EC g.k.μ (.node Q U xr V) xr Q.root V.root with l:=t1.root }) h8 (by rw[I.len];exact hs) b4 a7 rfl rfl I.holds b5 a8 (hb.perm eL)) ?_;rintro _ ba ⟨t2,A2,rfl,S2⟩;refine⟨t2,A2,rfl,S2.EH,?_,S2.toL.trans eL,S2.idx.trans perm,S2.holds,fun q j=>?_,by rw[S2.len,I.len]⟩
  .exact((((a1.trans g3).mono fun _ _ h=>h.elim).trans I.mod).next m8 fun y Z e=>by omega).trans S2.mod
  .refine(S2.same q fun e=>j (perm.mem_iff.1 e)).trans (I.same q fun e=>j ?_);simp only[Tr.idx,DN,I3] at e ⊢;rcases e with e|e|e
   .exact .inl e
   .exact .inr (.inl e)
   .exact .inr (.inr (.inl e))
 .refine Dt h2 hi fun rc bx w3 g3 al B J=>?_;have O:=g.rlen J;have o:W.heap.size<=bx:=by omega
  rw[AG,AH];refine B.st (q:=g.E+0) (by rw[BI _ J];omega) rfl rfl fun w4 B4 m4=>?_;rw[Cl O] at B4;rw[AG,AH];refine B4.st (q:=g.E+1) (by rw[Bq,kC,O];exact pO (show 1<5 by decide) _) rfl rfl fun w5 B5 m5=>?_;have eN:(rc++(BY n).set 0 (.int .i64 l.root)).set (g.E+1) (.int .i64 r.root)=rc++BY { n with l:=l.root,r:=r.root }:=by
   rw[lC _ _ (by omega),O,mf];rfl
  rw[eN] at B5;refine B5.FZ (by rw[BI _ J]) ?_;have g5:Grow W w5:=(((a1.trans g3).next m4 fun y Z e=>by omega)).next m5 fun y Z e=>by omega
  have b6:=g.BZ (g.BZ J m4 fun y _ Z e=>nF o y (.inr Z) e) m5 fun y _ Z e=>nF o y (.inr Z) e;refine AA (Gb (l:=l) (r:=r) (n:={ n with l:=l.root,r:=r.root }) (h.grow g5) hs hi b6 rfl rfl hl hr u1 u2 hb) ?_;rintro _ w6 ⟨h6,m6⟩;exact⟨.node l i n.x r,_,rfl,h6,(g5.mono fun _ _ h=>h.elim).trans m6,rfl,l9 _,IT (x:=n.x) hi hl hr u3 u4,fun q j=>Hw hi fun e=>j (by simp[Tr.idx,e]),Dg _ _ _⟩
structure Ends (g:AvT α) (F C:Nat->Prop) (W w':World) (b:Nat) (rt:Int) (A:ArS α) (t:Tr α) (t':Tr α) (j:Nat) (m:Nd α) (A':ArS α):Prop where
 EH:Dl g F C w' b rt A'
 mod:Mod (Fb F b) W w'
 idx:(j::t'.idx).Perm t.idx
 holds:Tr.Holds g.k.μ A'.f t'
 Qm:A'.f j=some m
 same:∀q,q∉t.idx->A'.f q=A.f q
 len:A'.ps.length=A.ps.length
theorem Ends.Ho{b:Nat}{i:Int}{A o:ArS α}{t t':Tr α}{m:Nd α}(h:Ends g F C W w' b i A t t' j m o)(hu:Tr.GO t):Tr.GO t'/\j∉t'.idx:=by
 have:=h.idx.nodup_iff.2 hu;rw[pI] at this;exact⟨this.2,this.1⟩
theorem Ub{b:Nat}:∀(t:Tr α) {W:World} {A:ArS α},t≠.nil->Dl g F C W b most A->A.ps.length<=109951162777->Tr.Holds g.k.μ A.f t->Tr.GO t->EA g t.toL->
  AB prog g.ffirst [.pointer (some ⟨b,0,none⟩),.int .i64 t.root] (fun v' w'=>∃(t':Tr α) (j:Nat) (m:Nd α) (A':ArS α),v'=.tuple #[.int .i64 t'.root,.int .i64 j]/\Ends g F C W w' b most A t t' j m A'/\t.toL=m.x::t'.toL) W:=by
 intro t;induction t with
 |nil=>intro W A hn;exact(hn rfl).elim
 |node l i x r X _=>
  intro W A _ h hs hh hu hb;obtain⟨hl,hr,hi⟩:=id hh;obtain⟨Y,u2,Z,u4,u5⟩:=Tr.BD.1 hu;apply g.ok.first;unfold Vu;have nF:∀{z:Nat},W.heap.size<=z->∀x,F x\/C x->x≠z:=fun hz x hx e=>by have:=h.lt x hx;omega
  refine Dt h hi fun rc bx w1 g1 Q B S=>?_;have J:=g.rlen S;have h1:=h.grow g1;refine Bt (B.cells (g.E+0) _ (by rw[AZ J];rfl)) ?_;rw[Al];refine AF (fun e=>?_) fun e=>?_
  .refine Bt (B.cells (g.E+1) _ (by rw[AZ J];rfl)) ?_;have el:l=.nil:=by
    cases l with
    |nil=>rfl
    |node a q z c=>simp only[Tr.EC,Tr.root] at e;omega
   subst el;exact⟨r,i,_,A,rfl,⟨h1,g1.mono fun _ _ h=>h.elim,l9 _,hr,hi,fun _ _=>rfl,rfl⟩,rfl⟩
  .refine Bt (B.cells (g.E+0) _ (by rw[AZ J];rfl)) ?_;have a1:l≠.nil:=fun e'=>by subst e';exact e rfl
   refine AA (X a1 h1 hs hl Y hb.app.1) ?_;rintro _ w7 ⟨T,j,m,A1,rfl,o,e1⟩;refine BV ?_;have B7:=B.mod o.mod fun e=>nF Q bx (.inl e.1) rfl;rw[AG,AH];refine B7.st (q:=g.E+0) (by rw[BI _ S];omega) rfl rfl fun w8 B8 m8=>?_;rw[Cl J] at B8;refine B8.FZ (by rw[Bq,kC,J];rfl) ?_;have h8:=o.EH.mod m8 fun x hx e=>nF Q x hx e;have U:=g.BZ (g.BZ S o.mod fun y _ V e=>h.Is y e.1 V) m8 fun y _ V e=>nF Q y (.inr V) e;have sub:∀q,q∈T.idx\/q=j->q∈l.idx:=fun q I=>o.idx.mem_iff.1 (by rcases I with I|rfl<;>simp[*]);have a6:A1.f i=some _:=(o.same i Z).trans hi;have a7:Tr.Holds g.k.μ A1.f r:=DH hr o.same fun q I e=>u5 q e I;have a8:Tr.GO (.node T i x r):=Tr.BD.2 ⟨(o.Ho Y).1,u2,fun e=>Z (sub i (.inl e)),u4,fun q I=>u5 q (sub q (.inl I))⟩;have ak:EA g (Tr.node T i x r).toL:=by
    have:(Tr.node l i x r).toL=m.x::(Tr.node T i x r).toL:=by simp only[Tr.toL,e1,WJ]
    rw[this] at hb;exact hb.cons.1
   refine AA (Gr (l:=T) (r:=r) (n:={ Tr.EC g.k.μ (.node l i x r) x l.root r.root with l:=T.root }) h8 (by rw[o.len];exact hs) a6 U rfl rfl o.holds a7 a8 ak) ?_;rintro _ al ⟨t2,A2,rfl,O⟩;have hj:j∉(Tr.node T i x r).idx:=fun e=>by
    simp only[Tr.idx,DN,I3] at e;rcases e with e|e|e
    .exact(o.Ho Y).2 e
    .exact Z (e▸sub j (.inr rfl))
    .exact u5 j (sub j (.inr rfl)) e
   refine⟨t2,j,m,A2,rfl,⟨O.EH,?_,?_,O.holds,(O.same j hj).trans o.Qm,fun q I=>?_,by rw[O.len,o.len]⟩,?_⟩
   .exact(((g1.mono fun _ _ h=>h.elim).trans o.mod).next m8 fun y V e=>by omega).trans O.mod
   .refine(O.idx.cons j).trans ?_;simp only[Tr.idx];exact(o.idx.append (l9 (i::r.idx)))
   .simp only[Tr.idx,DN,I3,qF] at I;refine(O.same q fun e=>?_).trans (o.same q I.1);simp only[Tr.idx,DN,I3] at e;rcases e with e|e|e
    .exact I.1 (sub q (.inl e))
    .exact I.2.1 e
    .exact I.2.2 e
   .rw[O.toL];simp only[Tr.toL,Tr.EC,e1,WJ]
theorem QQ{b:Nat}:∀(t:Tr α) {W:World} {A:ArS α},t≠.nil->Dl g F C W b most A->A.ps.length<=109951162777->Tr.Holds g.k.μ A.f t->Tr.GO t->EA g t.toL->
  AB prog g.flast [.pointer (some ⟨b,0,none⟩),.int .i64 t.root] (fun v' w'=>∃(t':Tr α) (j:Nat) (m:Nd α) (A':ArS α),v'=.tuple #[.int .i64 t'.root,.int .i64 j]/\Ends g F C W w' b most A t t' j m A'/\t.toL=t'.toL++[m.x]) W:=by
 intro t;induction t with
 |nil=>intro W A hn;exact(hn rfl).elim
 |node l i x r _ X=>
  intro W A _ h hs hh hu hb;obtain⟨hl,hr,hi⟩:=id hh;obtain⟨u1,Y,u3,Z,u5⟩:=Tr.BD.1 hu;apply g.ok.last;unfold bZ;have nF:∀{z:Nat},W.heap.size<=z->∀x,F x\/C x->x≠z:=fun hz x hx e=>by have:=h.lt x hx;omega
  refine Dt h hi fun rc bx w1 g1 S B T=>?_;have J:=g.rlen T;have h1:=h.grow g1;refine Bt (B.cells (g.E+1) _ (by rw[AZ J];rfl)) ?_;rw[Al];refine AF (fun e=>?_) fun e=>?_
  .refine Bt (B.cells (g.E+0) _ (by rw[AZ J];rfl)) ?_;have el:r=.nil:=by
    cases r with
    |nil=>rfl
    |node a q z c=>simp only[Tr.EC,Tr.root] at e;omega
   subst el;exact⟨l,i,_,A,rfl,⟨h1,g1.mono fun _ _ h=>h.elim,by simp only[Tr.idx];exact(List.perm_append_singleton i l.idx).symm,hl,hi,fun _ _=>rfl,rfl⟩,rfl⟩
  .refine Bt (B.cells (g.E+1) _ (by rw[AZ J];rfl)) ?_;have a1:r≠.nil:=fun e'=>by subst e';exact e rfl
   refine AA (X a1 h1 hs hr Y hb.app.2.cons.1) ?_;rintro _ w7 ⟨O,j,m,A1,rfl,o,e1⟩;refine BV ?_;have B7:=B.mod o.mod fun e=>nF S bx (.inl e.1) rfl;rw[AG,AH];refine B7.st (q:=g.E+1) (by rw[BI _ T];omega) rfl rfl fun w8 B8 m8=>?_;rw[Cl J] at B8;refine B8.FZ (by rw[Bq,kC,J];rfl) ?_;have h8:=o.EH.mod m8 fun x hx e=>nF S x hx e;have U:=g.BZ (g.BZ T o.mod fun y _ V e=>h.Is y e.1 V) m8 fun y _ V e=>nF S y (.inr V) e;have sub:∀q,q∈O.idx\/q=j->q∈r.idx:=fun q I=>o.idx.mem_iff.1 (by rcases I with I|rfl<;>simp[*]);have a6:A1.f i=some _:=(o.same i Z).trans hi;have a7:Tr.Holds g.k.μ A1.f l:=DH hl o.same fun q I=>u5 q I;have a8:Tr.GO (.node l i x O):=Tr.BD.2 ⟨u1,(o.Ho Y).1,u3,fun e=>Z (sub i (.inl e)),fun q I e=>u5 q I (sub q (.inl e))⟩;have ak:EA g (Tr.node l i x O).toL:=by
    have:(Tr.node l i x r).toL=(Tr.node l i x O).toL++[m.x]:=by simp only[Tr.toL,e1,PF,WJ]
    rw[this] at hb;exact hb.app.1
   refine AA (Gr (l:=l) (r:=O) (n:={ Tr.EC g.k.μ (.node l i x r) x l.root r.root with r:=O.root }) h8 (by rw[o.len];exact hs) a6 U rfl rfl a7 o.holds a8 ak) ?_;rintro _ al ⟨t2,A2,rfl,Q⟩;have hj:j∉(Tr.node l i x O).idx:=fun e=>by
    simp only[Tr.idx,DN,I3] at e;rcases e with e|e|e
    .exact u5 j e (sub j (.inr rfl))
    .exact Z (e▸sub j (.inr rfl))
    .exact(o.Ho Y).2 e
   refine⟨t2,j,m,A2,rfl,⟨Q.EH,?_,?_,Q.holds,(Q.same j hj).trans o.Qm,fun q I=>?_,by rw[Q.len,o.len]⟩,?_⟩
   .exact(((g1.mono fun _ _ h=>h.elim).trans o.mod).next m8 fun y V e=>by omega).trans Q.mod
   .refine(Q.idx.cons j).trans ?_;simp only[Tr.idx];have p1:(j::(l.idx++i::O.idx)).Perm (l.idx++i::(j::O.idx)):=by
     have q:=(List.perm_middle (a:=j) (l₁:=l.idx++[i]) (l₂:=O.idx)).symm;simpa using q
    exact p1.trans ((l9 _).append (o.idx.cons i))
   .simp only[Tr.idx,DN,I3,qF] at I;refine(Q.same q fun e=>?_).trans (o.same q I.2.2);simp only[Tr.idx,DN,I3] at e;rcases e with e|e|e
    .exact I.1 e
    .exact I.2.1 e
    .exact I.2.2 (sub q (.inl e))
   .rw[Q.toL];simp only[Tr.toL,Tr.EC,e1,PF,WJ]
theorem GA{b i:Nat}{S:Int}:∀(k:Nat) {W:World} {A:ArS α} {n:Nd α} {l r:Tr α},l.Df+r.Df<=k->Dl g F C W b S A->A.ps.length<=109951162777->A.f i=some n->Tr.Holds g.k.μ A.f l->Tr.Holds g.k.μ A.f r->Tr.GO (.node l i n.x r)->EA g (Tr.node l i n.x r).toL->
  AB prog g.fjoin [.pointer (some ⟨b,0,none⟩),.int .i64 l.root,.int .i64 i,.int .i64 r.root] (fun v' w'=>∃t' U,v'=.int .i64 t'.root/\Xy g F C W w' b S A (Tr.node l i n.x r).toL (Tr.node l i n.x r).idx t' U) W:=by
 intro k;induction k with
 |zero=>
  intro W A n l r hk h O hi hl hr hu hb;exact Pv (fun _ _ _ _ _ h=>by omega) (fun _ _ _ _ _ h=>by omega) h O hi hl hr hu hb
 |succ k T=>
  intro W A n l r hk h O hi hl hr hu hb;refine Pv (fun Y Z xl lr e Q=>?_) (fun rl ir xr rr e Q=>?_) h O hi hl hr hu hb
  .subst e;intro V X h1 j o B E I J;exact T (by simp only[Tr.Df] at hk;omega) h1 j o B E I J
  .subst e;intro V X h1 j o B E I J;exact T (by simp only[Tr.Df] at hk;omega) h1 j o B E I J
theorem Rr{b:Nat}{A:ArS α}{l r:Tr α}(h:Dl g F C W b most A)(U:A.ps.length<=109951162777)(hl:Tr.Holds g.k.μ A.f l)(hr:Tr.Holds g.k.μ A.f r)(hu:(l.idx++r.idx).Nodup)(hb:EA g (l.toL++r.toL)) :
  AB prog g.fconcat [.pointer (some ⟨b,0,none⟩),.int .i64 l.root,.int .i64 r.root] (fun v' w'=>∃t' X,v'=.int .i64 t'.root/\Xy g F C W w' b most A (l.toL++r.toL) (l.idx++r.idx) t' X) W:=by
 apply g.ok.concat;unfold Sa;rw[Al];obtain⟨I,Y,J⟩:=kE.1 hu;refine AF (fun e=>?_) fun e=>?_
 .have Z:l=.nil:=by
   cases l with
   |nil=>rfl
   |node a q z c=>simp only[Tr.root] at e;omega
  subst Z;exact⟨r,A,rfl,h,Mod.refl _ _,rfl,l9 _,hr,fun _ _=>rfl,rfl⟩
 .have O:l≠.nil:=fun e'=>by subst e';exact e rfl
  refine AA (QQ l O h U hl I hb.app.1) ?_;rintro _ w1 ⟨E,j,m,A1,rfl,i,e1⟩;refine BV ?_;have sub:∀q,q∈E.idx\/q=j->q∈l.idx:=fun q o=>i.idx.mem_iff.1 (by rcases o with o|rfl<;>simp[*]);have Q:Tr.Holds g.k.μ A1.f r:=DH hr i.same fun q o e=>J q e q o rfl;have S:Tr.GO (.node E j m.x r):=Tr.BD.2 ⟨(i.Ho I).1,Y,(i.Ho I).2,fun e=>J j (sub j (.inr rfl)) j e rfl,fun q o e=>J q (sub q (.inl o)) q e rfl⟩;have V:(Tr.node E j m.x r).toL=l.toL++r.toL:=by simp only[Tr.toL,e1,PF,WJ,kS]
  refine AA (GA (E.Df+r.Df) (Lc _) i.EH (by rw[i.len];exact U) i.Qm i.holds Q S (hb.perm V)) ?_;rintro _ w2 ⟨t2,A2,rfl,B⟩;have perm:(Tr.node E j m.x r).idx.Perm (l.idx++r.idx):=by
   simp only[Tr.idx];exact List.perm_middle.trans (i.idx.append (l9 r.idx))
  refine⟨t2,A2,rfl,B.EH,i.mod.trans B.mod,B.toL.trans V,B.idx.trans perm,B.holds,fun q o=>?_,by rw[B.len,i.len]⟩;exact(B.same q fun e=>o (perm.mem_iff.1 e)).trans (i.same q fun e=>o (i7 _ e))
def Hy(g:AvT α)(F C:Nat->Prop)(W w':World)(b:Nat)(i:Int)(A:ArS α):Prop:=∃F',(∀x,F x->F' x)/\(∀x,F' x->F x\/W.heap.size<=x)/\Dl g F' C w' b i A/\Mod (Fb F b) W w'
theorem Pk{b c:Nat}{B:Int}{A E:ArS α}{pl fr:Value}(h:bK g F C W b c B A pl fr)(ha:MF g (fun x=>F x/\x≠b) C W w' c E):Hy g F C W w' b B E:=by
 obtain⟨F',j,o,k1,k2,O,I⟩:=ha;have Q:=h.box.lt (Ty _);refine⟨fun x=>F' x\/x=b,fun x i=>?_,fun x i=>?_,⟨c,j,o,h.box.mod I fun e=>e.2 rfl,?_,.inr rfl,h.fb.2⟩,I⟩
 .by_cases e:x=b
  .exact .inr e
  .exact .inl (k1 x ⟨i,e⟩)
 .rcases i with i|rfl
  .exact(k2 x i).imp (fun h=>h.1) fun h=>h
  .exact .inl h.fb.1
 .have e:(fun x=>(F' x\/x=b)/\x≠b)=F':=by
   funext x
   refine propext ⟨fun i=>i.1.elim (fun h=>h) fun e=>(i.2 e).elim,fun i=>⟨.inl i,fun e=>?_⟩⟩;subst e;rcases k2 x i with J|J
   .exact J.2 rfl
   .omega
  rw[e];exact O
theorem Lx{b c i:Nat}{j:Int}{A:ArS α}{pl fr:Value}{n:Nd α}(h:bK g F C W b c j A pl fr)(hi:A.f i=some n)(o:A.ps.length<=109951162777) :
  AB prog g.aFree [.pointer (some ⟨c,0,none⟩),.int .i64 i] (fun v' w'=>Hy g F C W w' b j (A.free i)) W:=
 AA (XH h.ar hi o) fun _ _ ha=>Pk h ha
theorem Lb{b c:Nat}{i:Int}{A:ArS α}{pl fr:Value}{n:Nd α}{r:List Value}(h:bK g F C W b c i A pl fr)(hr:g.R C W r n.x)(j:A.ps.length<=109951162777) :
  AB prog g.aTake [.pointer (some ⟨c,0,none⟩),.agg (r++BY n).toArray] (fun v' w'=>v'=.int .i64 A.num/\Hy g F C W w' b i (A.take n)) W:=
 AA (Xq h.ar hr j) fun _ _ ha=>⟨ha.1,Pk h ha.2⟩
theorem Uj{b:Nat}:∀(t:Tr α) {F:Nat->Prop} {W:World} {A:ArS α},Dl g F C W b most A->A.ps.length<=109951162777->Tr.Holds g.k.μ A.f t->Tr.GO t->
  AB prog g.fdrop [.pointer (some ⟨b,0,none⟩),.int .i64 t.root] (fun _ w'=>∃V,Hy g F C W w' b most V/\(∀q,q∉t.idx->V.f q=A.f q)/\V.ps.length=A.ps.length) W:=by
 intro t;induction t with
 |nil=>
  intro F W A h U hh hu;apply g.ok.drop;unfold Xp;simp only[Tr.root];rw[Al];refine AF (fun _=>?_) fun e=>(e rfl).elim;exact⟨A,⟨F,fun _ h=>h,fun _ h=>.inl h,h,Mod.refl _ _⟩,fun _ _=>rfl,rfl⟩
 |node l i x r X Y=>
  intro F W A h U hh hu;obtain⟨hl,hr,hi⟩:=id hh;obtain⟨u1,u2,u3,u4,u5⟩:=Tr.BD.1 hu;apply g.ok.drop;unfold Xp;simp only[Tr.root];rw[Al];refine AF (fun e=>by omega) fun _=>?_;refine Dt h hi fun rc bx w1 Z ak B a6=>?_;have O:=g.rlen a6;have h1:=h.grow Z;refine Bt (B.cells (g.E+0) _ (by rw[AZ O];rfl)) ?_;refine AA (X h1 U hl u1) ?_;rintro _ w5 ⟨A1,T1,I,j⟩;obtain⟨F1,a1,a2,h5,m5⟩:=T1;have nb:¬F bx:=fun e=>by have:=h.lt bx (.inl e);omega
  have B5:=B.mod m5 fun e=>nb e.1;refine Bt (B5.cells (g.E+1) _ (by rw[AZ O];rfl)) ?_;have a7:Tr.Holds g.k.μ A1.f r:=DH hr I fun q J e=>u5 q e J;have a8:A1.f i=some _:=(I i u3).trans hi;refine AA (Y h5 (by rw[j];exact U) a7 u2) ?_;rintro _ w7 ⟨A2,T2,Q,o⟩;obtain⟨F2,b1,b2,h7,m7⟩:=T2;have S:A2.f i=some _:=(Q i u4).trans a8;obtain⟨c,pl,fr,hT⟩:=h7;refine AI ?_;refine Bt (hT.box.cells 3 _ rfl) ?_;refine AA (Lx hT S (by rw[o,j];exact U)) ?_;rintro _ w9 ⟨F3,c1,c2,h9,m9⟩;have s1:=Z.size;have s5:=m5.size;have s7:=m7.size;refine⟨A2.free i,⟨F3,fun x T=>c1 x (b1 x (a1 x T)),fun x T=>?_,h9,?_⟩,fun q J=>?_,by simp[ArS.free,o,j]⟩
  .rcases c2 x T with e|e
   .rcases b2 x e with e|e
    .rcases a2 x e with e|e
     .exact .inl e
     .exact .inr (by omega)
    .exact .inr (by omega)
   .exact .inr (by omega)
  .have k1:Mod (Fb F b) W w5:=(Z.mono fun _ _ h=>h.elim).trans m5;have k2:Mod (Fb F b) W w7:=k1.next m7 fun x T e=>by
    rcases a2 x e.1 with e'|e'
    .exact⟨e',e.2⟩
    .omega
   refine k2.next m9 fun x T e=>?_;rcases b2 x e.1 with e'|e'
   .rcases a2 x e' with e'|e'
    .exact⟨e',e.2⟩
    .omega
   .omega
  .simp only[Tr.idx,DN,I3,qF] at J;rw[ArS.RR S,Tr.Da _ J.2.1];exact(Q q J.2.2).trans (I q J.1)
theorem P5{b:Nat}{A:ArS α}{t:Tr α}(h:Dl g F C W b t.root A)(ht:Tr.Holds g.k.μ A.f t) :
  AB prog g.fSize [.pointer (some ⟨b,0,none⟩)] (fun v' w'=>v'=.int .i64 (Tr.sz g.k.μ t.toL)/\Grow W w') W:=by
 apply g.ok.size;unfold bA;obtain⟨c,pl,fr,i⟩:=id h;refine AI ?_;refine Bt (i.box.cells 4 _ rfl) ?_;refine AA (CB h ht) ?_;rintro _ w2 ⟨rfl,j⟩;exact CW (vs:=[_,_,_]) (by rfl) (CW (vs:=[_,_,_]) (by rfl) (CW (vs:=[_,_,_]) (by rfl) ⟨rfl,j⟩))
end
theorem Bx.iw{b q:Nat}(h:Bx W b vs)(B:q<vs.length)(u:Value):Bx (W.setCell ⟨b,q,none⟩ u) b (vs.set q u):=by
 refine⟨fun j v i=>?_,fun j E=>(h.live j (by simpa using E)).set _ _⟩;by_cases e:j=q
 .subst e;rw[kI B] at i;cases i;obtain⟨I,o⟩:=jV.1 (h.live j B).1;exact kJ _ _ _ o
 .rw[kh (mW e)] at i;rw[S4 _ _ _ _ (fun e'=>by simp only[Addr.mk.injEq] at e';exact e e'.2.1.symm)];exact h.cells j v i
theorem Bx.EW{b:Nat}:∀(us:List Value) (p:Nat) (W:World) (vs:List Value),Bx W b vs->p+us.length<=vs.length->Bx (EW W ⟨b,0,none⟩ p us) b (Iy vs p us)/\Mod (fun x=>x=b) W (EW W ⟨b,0,none⟩ p us):=by
 intro us;induction us with
 |nil=>intro p W vs h _;exact⟨h,Mod.refl _ _⟩
 |cons u us i=>
  intro p W vs h hl;rw[Vn] at hl;simp only[YtmdhibffnkhcnaaGreatDoor.EW,Iy,AH];obtain⟨h1,j⟩:=i (p+1) _ _ (h.iw (q:=p) (by omega) u) (by rw[kC];omega);exact⟨h1,(Mod.setCell (M:=fun x=>x=b) W ⟨b,p,none⟩ u rfl).trans j⟩
theorem Bx.part{b n:Nat}{vs us:List Value}{K:World->Prop}(h:Bx W b vs)(i:us.length=n)(hl:n<=vs.length)(h1:∀v∈us,v.oneCell'=true)(o:∀W',Bx W' b (Iy vs 0 us)->Mod (fun x=>x=b) W W'->K W'):Ac n (.pointer (some ⟨b,0,none⟩)) (.agg us.toArray) K W:=by
 obtain⟨B,E⟩:=Bx.EW us 0 W vs h (by omega);exact⟨_,us,rfl,rfl,i,h1,fun j I=>by rw[AH];exact h.live j (by omega),o _ B E⟩
theorem Fw{W0 W:World}{p q n:Nat}{o us vs:List Value}{J:World->Prop}(g:Grow W0 W)(hp:W0.heap.size<=p)(O:W0.heap.size<=q)(i:p≠q)(Q:Bx W p o)(S:Bx W q o)(I:o.length=n)(hu:us.length=n)(T:vs.length=n)(U:∀v∈us,v.oneCell'=true)(ov:∀v∈vs,v.oneCell'=true)(hJ:∀W',Grow W0 W'->Bx W' p us->Bx W' q vs->J W') :
  Ac n (.pointer (some ⟨p,0,none⟩)) (.agg us.toArray) (fun j=>Mod (fun y=>W0.heap.size<=y) W j/\Ac n (.pointer (some ⟨q,0,none⟩)) (.agg vs.toArray) (fun w2=>Mod (fun y=>W0.heap.size<=y) j w2/\J w2) j) W:=by
 refine Q.over hu I U fun j V B=>⟨B.mono fun x _ e=>by rw[e];exact hp,?_⟩;refine(S.mod B fun e=>i e.symm).over T I ov fun w2 X E=>⟨E.mono fun x _ e=>by rw[e];exact O,?_⟩;exact hJ w2 ((g.next B fun x Y e=>by omega).next E fun x Y e=>by omega) (V.mod E i) X
section
structure Wj (g:AvK):Prop where
 split:∀{v0 v1 v2 K w},RF g v0 v1 v2 K w->AB prog g.fsplit [v0,v1,v2] K w
 pick:∀{v0 v1 K w},bh g v0 v1 K w->AB prog g.fpick [v0,v1] K w
 melded:∀{v0 v1 K w},Sx g v0 v1 K w->AB prog g.fmelded [v0,v1] K w
 replace:∀{v0 v1 v2 v3 K w},QP g v0 v1 v2 v3 K w->AB prog g.fReplace [v0,v1,v2,v3] K w
 over:∀{v0 v1 v2 v3 v4 K w},VF g v0 v1 v2 v3 v4 K w->AB prog g.fover [v0,v1,v2,v3,v4] K w
structure AvN (α:Type) extends AvT α where
 one0:one=false
 okN:Wj toAvK
 cells:α->List Value
 Rc:∀{C w r x},R C w r x↔r=cells x
 cutc:∀{w x p},0<p->p<(k.μ x).1->(k.μ x).1<=1099511627776->BM prog Dh vc [.agg (cells x).toArray,.int .i64 (p:Int)] (fun v w'=>v=.tuple #[.agg (cells (k.cut x p).1).toArray,.agg (cells (k.cut x p).2).toArray]/\Grow w w') w
 meldc:∀{w x y},0<(k.μ x).1->(k.μ x).1<=1099511627776->(k.μ y).1<=1099511627776->BM prog Dh vd [.agg (cells x).toArray,.agg (cells y).toArray] (fun v w'=>Grow w w'/\∃r,r.length=E/\(∀u∈r,u.oneCell'=true)/\v=.tuple #[.agg r.toArray,.bool (k.meld x y).isSome]/\∀z,k.meld x y=some z->r=cells z) w
section
variable {α:Type}
def RW(g:AvT α):Prop:=∀{F C:Nat->Prop} {W:World} {b i:Nat} {j:Int} {A:ArS α} {n:Nd α},Dl g F C W b j A->A.ps.length<=109951162777->A.f i=some n->
 AB prog g.fpick [.pointer (some ⟨b,0,none⟩),.int .i64 i] (fun v' w'=>∃r,v'=g.toAvK.enc r/\g.R C w' r n.x/\Hy g F C W w' b j (A.free i)) W
def MA(g:AvT α):Prop:=∀{F C S:Nat->Prop} {W:World} {b:Nat} {i:Int} {A:ArS α} {v:Value} {l:List α},Dl g F C W b i A->BB S g.E (g.R C) W v l->l.length<=109951162777->EA g l->
 AB prog g.fmelded [.pointer (some ⟨b,0,none⟩),v] (fun v' w'=>AE W.heap.size g.te g.E (g.R C) w' v' (g.k.melded l)/\Grow W w') W
structure Q5 (g:AvT α) (F C:Nat->Prop) (W w':World) (b:Nat) (rt:Int) (A:ArS α) (t:Tr α) (p:Nat) (l r:Tr α) (A':ArS α):Prop where
 fy:Hy g F C W w' b rt A'
 l1:l.toL=(g.k.split t.toL p).1
 r1:r.toL=(g.k.split t.toL p).2
 hl:Tr.Holds g.k.μ A'.f l
 hr:Tr.Holds g.k.μ A'.f r
 Ho:(l.idx++r.idx).Nodup
 idx:∀q,q∈l.idx++r.idx->q∈t.idx\/A.f q=none
 same:∀q,q∉t.idx->q∉l.idx++r.idx->A'.f q=A.f q
 len:A'.ps.length<=A.ps.length+1
def OY(g:AvT α):Prop:=∀{C:Nat->Prop} {b:Nat} {i:Int} (t:Tr α) {F:Nat->Prop} {W:World} {A:ArS α} {p:Nat},Dl g F C W b i A->A.ps.length<=109951162776->Tr.Holds g.k.μ A.f t->Tr.GO t->EA g t.toL->p<=1099511627776->
 AB prog g.fsplit [.pointer (some ⟨b,0,none⟩),.int .i64 t.root,.int .i64 (p:Int)] (fun v' w'=>∃l r j,v'=.tuple #[.int .i64 l.root,.int .i64 r.root]/\Q5 g F C W w' b i A t p l r j) W
end
section
variable {α:Type}{g:AvT α}
theorem IP{b i p:Nat}{Q:Int}{A I:ArS α}{l r a c:Tr α}{x:α}{n:Nd α}(S:Q5 g F C W w' b Q A l p a c I)(hi:A.f i=some n)(hr:Tr.Holds g.k.μ A.f r)(hu:Tr.GO (.node l i x r)) :
  I.f i=some n/\Tr.Holds g.k.μ I.f r/\Tr.GO (.node c i x r)/\∀q∈a.idx,q∉(Tr.node c i x r).idx:=by
 obtain⟨Y,T,J,U,O⟩:=Tr.BD.1 hu;have E:∀q,(∃m,A.f q=some m)->q∉l.idx->q∉a.idx++c.idx:=fun q ⟨m,hm⟩ j e=>by
  rcases S.idx q e with e|e
  .exact j e
  .rw[hm] at e;cases e
 have o:=E i ⟨n,hi⟩ J;have B:∀q∈r.idx,q∉a.idx++c.idx:=fun q j=>E q (hr.has g.k.μ j) fun e=>O q e j;obtain⟨Z,V,X⟩:=kE.1 S.Ho;refine⟨(S.same i J o).trans hi,hr.frame g.k.μ fun q j=>S.same q (fun e=>O q e j) (B q j),Tr.BD.2 ⟨V,T,fun e=>o (kB _ e),U,fun q j e=>B q e (kB _ j)⟩,fun q j e=>?_⟩;simp only[Tr.idx,DN,I3] at e;rcases e with e|e|e
 .exact X q j q e rfl
 .exact o (e▸i7 _ j)
 .exact B q e (i7 _ j)
theorem Hk{b i p:Nat}{Q:Int}{A I:ArS α}{l r a c:Tr α}{x:α}{n:Nd α}(S:Q5 g F C W w' b Q A r p a c I)(hi:A.f i=some n)(hl:Tr.Holds g.k.μ A.f l)(hu:Tr.GO (.node l i x r)) :
  I.f i=some n/\Tr.Holds g.k.μ I.f l/\Tr.GO (.node l i x a)/\∀q∈c.idx,q∉(Tr.node l i x a).idx:=by
 obtain⟨T,Y,U,J,O⟩:=Tr.BD.1 hu;have E:∀q,(∃m,A.f q=some m)->q∉r.idx->q∉a.idx++c.idx:=fun q ⟨m,hm⟩ j e=>by
  rcases S.idx q e with e|e
  .exact j e
  .rw[hm] at e;cases e
 have o:=E i ⟨n,hi⟩ J;have B:∀q∈l.idx,q∉a.idx++c.idx:=fun q j=>E q (hl.has g.k.μ j) fun e=>O q j e;obtain⟨V,Z,X⟩:=kE.1 S.Ho;refine⟨(S.same i J o).trans hi,hl.frame g.k.μ fun q j=>S.same q (fun e=>O q j e) (B q j),Tr.BD.2 ⟨T,V,U,fun e=>o (i7 _ e),fun q j e=>B q j (i7 _ e)⟩,fun q j e=>?_⟩;simp only[Tr.idx,DN,I3] at e;rcases e with e|e|e
 .exact B q e (kB _ j)
 .exact o (e▸kB _ j)
 .exact X q e q j rfl
theorem FA(l:List α):∀p,Tr.sz g.k.μ (g.k.split l p).1+Tr.sz g.k.μ (g.k.split l p).2=Tr.sz g.k.μ l/\Tr.mk g.k.μ (g.k.split l p).1+Tr.mk g.k.μ (g.k.split l p).2=Tr.mk g.k.μ l:=by
 induction l with
 |nil=>intro p;simp[Kd.split,Tr.sz,Tr.mk]
 |cons x l i=>
  intro p;simp only[Kd.split];by_cases h0:p=0
  .rw[Io h0];simp[Tr.sz,Tr.mk]
  .rw[C3 h0];by_cases h1:(g.k.μ x).1<=p
   .rw[Io h1];obtain⟨j,o⟩:=i (p-(g.k.μ x).1);simp only[Tr.Ba,Tr.Cy];omega
   .rw[C3 h1];obtain⟨c1,c2,B⟩:=g.cutμ x p (by omega) (by omega);simp only[Tr.Ba,Tr.Cy];simp only[Tr.sz,Tr.mk,lM,mL];omega
theorem EA.split{l:List α}(h:EA g l)(p:Nat):EA g (g.k.split l p).1/\EA g (g.k.split l p).2:=by
 obtain⟨h1,i⟩:=FA (g:=g) l p;obtain⟨b1,b2⟩:=h;exact⟨⟨by omega,by omega⟩,by omega,by omega⟩
end
section
variable {α:Type}{g:AvN α}
theorem TB(r:List Value):g.toAvK.enc r=.agg r.toArray:=by unfold AvK.enc;rw[g.one0];rfl
theorem CQ(x:α):(g.cells x).length=g.E:=g.rlen (C:=fun _=>False) (w:=default) (g.Rc.2 rfl)
theorem cells_one(x:α):∀u∈g.cells x,u.oneCell'=true:=g.rone (C:=fun _=>False) (w:=default) (g.Rc.2 rfl)
theorem gj:RW g.toAvT:=by
 intro F C W b i rt A n h hs hi;apply g.okN.pick;unfold bh;refine Bx.zero fun T w1 B O U=>?_;have h1:=h.grow O;have key:=RN h1 hi;refine AA key ?_;rintro _ w2 ⟨r,rfl,hr,E⟩;have j:=g.rlen hr;refine Ag (g.field0 r (BY n) w2 j (g.rone hr) rfl) ?_;rw[TB];refine Bx.new j g.zlen (g.rone hr) fun b5 w5 a6 I B5=>?_;have h5:=(h1.grow E).grow I;obtain⟨c,pl,fr,V⟩:=h5;refine AI ?_;refine Bt (V.box.cells 3 _ rfl) ?_;refine AA (Lx V hi hs) ?_;rintro _ w7 ⟨F',a1,X,h7,J⟩;have a7:g.R C w7 r n.x:=g.Rc.2 (g.Rc.1 hr);have s4:=O.size;have s2:=E.size;have s5:=I.size;have s7:=J.size;have nF:∀{z:Nat},W.heap.size<=z->∀x,F x\/C x->x≠z:=fun hz x o e=>by have:=h.lt x o;omega
 have Q:=B5.mod J fun e=>nF (by omega) b5 (.inl e.1) rfl;have S:=((U.grow E).grow I).mod J fun e=>nF (by omega) T (.inl e.1) rfl;have Y:T<w1.heap.size:=U.lt (by rw[g.zlen];exact g.Epos);refine Q.FZ j ?_;refine S.over j g.zlen (g.rone hr) fun w9 B9 Z=>?_;refine B9.FZ j ?_;have h9:Dl g.toAvT F' C w9 b rt (A.free i):=h7.mod Z fun x o e=>by
  rcases o with o|o
  .rcases X x o with e'|e'
   .exact nF B x (.inl e') e
   .omega
  .exact nF B x (.inr o) e
 refine⟨r,(TB r).symm,g.Rc.2 (g.Rc.1 hr),F',a1,fun x o=>?_,h9,?_⟩
 .rcases X x o with e|e
  .exact .inl e
  .exact .inr (by omega)
 .exact((((O.trans E).trans I).mono fun _ _ h=>h.elim).trans J).next Z fun y hy e=>by omega
end
variable {α:Type}{g:AvN α}
theorem Gz{a c:Nat}{k:Value->Prop}(h:c<=a)(ha:a<=9223372036854775807)(hk:k (.int .i64 (a-c:Nat))):BW .i64 (.int .i64 a) (.int .i64 c) k:=by
 rw[Av,wrap64 (by omega) (by omega)];have e:((a:Int)-(c:Int))=((a-c:Nat):Int):=by omega
 rw[e];exact hk
theorem bg{r:List Value}(hr:r.length=g.E)(x:α):Instr.fill (fun i=>[(0,g.E),(g.E,1),(g.E+1,1),(g.E+2,1),(g.E+3,1),(g.E+4,1)][i]?) g.toAvK.zN.toArray [(0,.agg r.toArray)]=some (r++BY (⟨x,0,0,0,0,0⟩:Nd α)).toArray:=by
 have j:=g.zlen;rw[DB (l:=g.toAvK.zN) (vs:=r) (off:=0) (len:=g.E) rfl rfl hr (by rw[IB];omega),FR,AvK.zN,Hp (by omega)];rfl
theorem PX{b i:Nat}{j:Int}{A:ArS α}{n:Nd α}{l r:Tr α}(h:Dl g.toAvT F C W b j A)(o:A.ps.length<=109951162777)(hi:A.f i=some n)(hl:Tr.Holds g.k.μ A.f l)(hr:Tr.Holds g.k.μ A.f r)(hu:Tr.GO (.node l i n.x r))(hb:EA g.toAvT (Tr.node l i n.x r).toL) :
  AB prog g.fjoin [.pointer (some ⟨b,0,none⟩),.int .i64 l.root,.int .i64 i,.int .i64 r.root] (fun v' w'=>∃t' B,v'=.int .i64 t'.root/\Xy g.toAvT F C W w' b j A (Tr.node l i n.x r).toL (Tr.node l i n.x r).idx t' B) W:=
 GA (l.Df+r.Df) (Lc _) h o hi hl hr hu hb
theorem QA(A:ArS α)(n:Nd α):(A.take n).ps.length<=A.ps.length+1:=by
 unfold ArS.take;split<;>simp
set_option maxRecDepth 4000 in
theorem dA:OY g.toAvT:=by
 intro C b rt t;induction t with
 |nil=>
  intro F W A p h hs _ _ _ _;apply g.okN.split;unfold RF;simp only[Tr.root];rw[Al];refine AF (fun _=>?_) fun e=>(e rfl).elim;exact⟨.nil,.nil,A,rfl,⟨⟨F,fun _ h=>h,fun _ h=>.inl h,h,Mod.refl _ _⟩,rfl,rfl,trivial,trivial,mq,(fun q I=>nomatch I),fun _ _ _=>rfl,qZ _⟩⟩
 |node l i x r eB eC=>
  intro F W A p h hs hh hu hb hp;obtain⟨hl,hr,hi⟩:=id hh;obtain⟨u1,u2,u3,u4,u5⟩:=Tr.BD.1 hu;have V:=g.k.Mh l.toL r.toL x p;have bn:=hb.1;have bp:=hb.2;simp only[Tr.toL,Tr.CT,Tr.Ba] at bn;simp only[Tr.toL,Tr.Fy,Tr.Cy] at bp;have nF:∀{z:Nat},W.heap.size<=z->∀x,F x\/C x->x≠z:=fun hz x hx e=>by have:=h.lt x hx;omega
  apply g.okN.split;unfold RF;simp only[Tr.root];rw[Al];refine AF (fun e=>by omega) fun _=>?_;refine Dt h hi fun rc bx w3 T bs B ax=>?_;have a1:=g.rlen ax;have cx:=g.Rc.1 ax;have h3:=h.grow T;refine Bt (B.cells (g.E+0) _ (by rw[AZ a1];rfl)) ?_;refine AA (CB h3 hl) ?_;rintro _ w5 ⟨rfl,g5⟩;refine Kh ?_;have dk:Grow w5 w5.drew:=Mod.drew _ _;have dv:=(T.trans g5).trans dk;obtain⟨c,pl,fr,hT⟩:=id h;have ba:=hT.mod dv fun _ _ h=>h;have B5:=(B.grow g5).grow dk;refine Ai (fun _ _=>False) ?_;refine AI ?_;rw[AG,AH,AG,AH];refine AY ⟨ba.box.cells 0 _ rfl,fun _ _ e=>e⟩ ?_;rw[AG,AH];refine JI (g:=g.toAvT) (r:=rc) a1 (fun j v hv=>⟨B5.cells j v (by rw[Q0 (Bp.1 hv).1];exact hv),fun _ _ e=>e⟩) ?_;refine Az (g.meas (C:=C) (x:=x) (g.Rc.2 (g.Rc.1 ax))) ?_;rintro _ w6 ⟨rfl,g6⟩;refine⟨g6.mono fun _ _ h=>h.elim,?_⟩;refine BV ?_;have ay:=dv.trans g6;have hd:=ay.size;have h6:=h.grow ay;have B6:=B5.grow g6;rw[IJ];refine AF (fun hf=>?_) fun h2=>?_
  .have dT:p<=Tr.sz g.k.μ l.toL:=by omega
   rw[Io dT] at V;refine Bt (B6.cells (g.E+0) _ (by rw[AZ a1];rfl)) ?_;refine AA (eB h6 hs hl u1 hb.app.1 hp) ?_;rintro _ w8 ⟨a,c1,A1,rfl,o⟩;refine BV ?_;obtain⟨F1,k1,k2,h8,m8⟩:=o.fy;have B8:=B6.mod m8 fun e=>nF bs bx (.inl e.1) rfl;refine Bt (B8.cells (g.E+1) _ (by rw[AZ a1];rfl)) ?_;obtain⟨e1,e2,e3,e4⟩:=IP o hi hr hu;have c4:EA g.toAvT (Tr.node c1 i x r).toL:=by
    obtain⟨q1,q2⟩:=FA (g:=g.toAvT) l.toL p;constructor
    .simp only[Tr.toL,Tr.CT,Tr.Ba,o.r1];omega
    .simp only[Tr.toL,Tr.Fy,Tr.Cy,o.r1];omega
   have eI:=o.len;refine AA (GA (c1.Df+r.Df) (Lc _) h8 (by omega) e1 o.hr e2 e3 c4) ?_;rintro _ eL ⟨t2,A2,rfl,O⟩;have perm:=O.idx;have sm:∀q,q∈t2.idx↔q∈(Tr.node c1 i x r).idx:=fun q=>O.idx.mem_iff;have s8:=m8.size;refine⟨a,t2,A2,rfl,⟨⟨F1,k1,fun x hx=>(k2 x hx).imp (fun h=>h) fun h=>by omega,O.EH,((ay.mono fun _ _ h=>h.elim).trans m8).next O.mod fun x hx e=>?_⟩,?_,?_,o.hl.frame g.k.μ fun q I=>O.same q (e4 q I),O.holds,?_,fun q I=>?_,fun q a8 ak=>?_,by rw[O.len];omega⟩⟩
   .rcases k2 x e.1 with e'|e'
    .exact⟨e',e.2⟩
    .omega
   .rw[o.l1];simp only[Tr.toL,V]
   .rw[O.toL];simp only[Tr.toL,Tr.EC,o.r1,V]
   .exact kE.2 ⟨(kE.1 o.Ho).1,O.idx.nodup_iff.2 e3,fun q I q' b5 e=>e4 q I (e▸(sm q').1 b5)⟩
   .rcases DN.1 I with I|I
    .rcases o.idx q (i7 _ I) with e|e
     .exact .inl (by simp[Tr.idx,e])
     .exact .inr e
    .have:=(sm q).1 I;simp only[Tr.idx,DN,I3] at this ⊢;rcases this with e|e|e
     .rcases o.idx q (kB _ e) with e|e
      .exact .inl (.inl e)
      .exact .inr e
     .exact .inl (.inr (.inl e))
     .exact .inl (.inr (.inr e))
   .simp only[Tr.idx,DN,I3,qF] at a8;have b6:q∉(Tr.node c1 i x r).idx:=fun e=>ak (kB _ ((sm q).2 e));refine(O.same q b6).trans (o.same q a8.1 fun e=>?_);rcases DN.1 e with e|e
    .exact ak (i7 _ e)
    .exact b6 (by simp[Tr.idx,e])
  have c6:¬p<=Tr.sz g.k.μ l.toL:=by omega
  rw[C3 c6] at V;refine CK (by omega) ?_;rw[DX];refine AF (fun hg=>?_) fun h5=>?_
  .have e5:Tr.sz g.k.μ l.toL+(g.k.μ x).1<=p:=by omega
   rw[Io e5] at V;refine Bt (B6.cells (g.E+1) _ (by rw[AZ a1];rfl)) ?_;refine Gz (by omega) (by omega) (Gz (by omega) (by omega) ?_);refine AA (eC h6 hs hr u2 hb.app.2.cons.1 (p:=p-Tr.sz g.k.μ l.toL-(g.k.μ x).1) (by omega)) ?_;rintro _ w8 ⟨a,c1,A1,rfl,o⟩;refine BV ?_;obtain⟨F1,k1,k2,h8,m8⟩:=o.fy;have B8:=B6.mod m8 fun e=>nF bs bx (.inl e.1) rfl;refine Bt (B8.cells (g.E+0) _ (by rw[AZ a1];rfl)) ?_;obtain⟨e1,e2,e3,e4⟩:=Hk o hi hl hu;have c4:EA g.toAvT (Tr.node l i x a).toL:=by
    obtain⟨q1,q2⟩:=FA (g:=g.toAvT) r.toL (p-Tr.sz g.k.μ l.toL-(g.k.μ x).1);constructor
    .simp only[Tr.toL,Tr.CT,Tr.Ba,o.l1];omega
    .simp only[Tr.toL,Tr.Fy,Tr.Cy,o.l1];omega
   have eI:=o.len;refine AA (GA (l.Df+a.Df) (Lc _) h8 (by omega) e1 e2 o.hl e3 c4) ?_;rintro _ eL ⟨t2,A2,rfl,O⟩;have sm:∀q,q∈t2.idx↔q∈(Tr.node l i x a).idx:=fun q=>O.idx.mem_iff;have s8:=m8.size;refine⟨t2,c1,A2,rfl,⟨⟨F1,k1,fun x hx=>(k2 x hx).imp (fun h=>h) fun h=>by omega,O.EH,((ay.mono fun _ _ h=>h.elim).trans m8).next O.mod fun x hx e=>?_⟩,?_,?_,O.holds,o.hr.frame g.k.μ fun q I=>O.same q (e4 q I),?_,fun q I=>?_,fun q a8 ak=>?_,by rw[O.len];omega⟩⟩
   .rcases k2 x e.1 with e'|e'
    .exact⟨e',e.2⟩
    .omega
   .rw[O.toL];simp only[Tr.toL,Tr.EC,o.l1,V]
   .rw[o.r1];simp only[Tr.toL,V]
   .exact kE.2 ⟨O.idx.nodup_iff.2 e3,(kE.1 o.Ho).2.1,fun q I q' b5 e=>e4 q' b5 (e▸(sm q).1 I)⟩
   .rcases DN.1 I with I|I
    .have:=(sm q).1 I;simp only[Tr.idx,DN,I3] at this ⊢;rcases this with e|e|e
     .exact .inl (.inl e)
     .exact .inl (.inr (.inl e))
     .rcases o.idx q (i7 _ e) with e|e
      .exact .inl (.inr (.inr e))
      .exact .inr e
    .rcases o.idx q (kB _ I) with e|e
     .exact .inl (by simp[Tr.idx,e])
     .exact .inr e
   .simp only[Tr.idx,DN,I3,qF] at a8;have b6:q∉(Tr.node l i x a).idx:=fun e=>ak (i7 _ ((sm q).2 e));refine(O.same q b6).trans (o.same q a8.2.2 fun e=>?_);rcases DN.1 e with e|e
    .exact b6 (by simp[Tr.idx,e])
    .exact ak (kB _ e)
  have c7:¬Tr.sz g.k.μ l.toL+(g.k.μ x).1<=p:=by omega
  rw[C3 c7] at V;have c8:0<p-Tr.sz g.k.μ l.toL:=by omega
  have c9:p-Tr.sz g.k.μ l.toL<(g.k.μ x).1:=by omega
  generalize eN:p-Tr.sz g.k.μ l.toL=J at V c8 c9;have b0:Grow w6 w6.drew:=Mod.drew _ _;refine AT (fun vs W'=>∃a7 X,vs=[.pointer (some ⟨a7,0,none⟩),.pointer (some ⟨X,0,none⟩)]/\w6.drew.heap.size<=a7/\w6.drew.heap.size<=X/\Grow w6.drew W'/\Bx W' a7 (g.cells (g.k.cut x J).1)/\Bx W' X (g.cells (g.k.cut x J).2)) ?_ ?_;rotate_left
  .have al:∀{W':World},BM prog Dh g.vc [.agg (g.cells x).toArray,.int .i64 (J:Int)] (fun v w'=>v=.tuple #[.agg (g.cells (g.k.cut x J).1).toArray,.agg (g.cells (g.k.cut x J).2).toArray]/\Grow W' w') W':=g.cutc c8 c9 (by omega);have e6:=B6.grow b0;have e7:=hT.mod (ay.trans b0) fun _ _ h=>h;have h7:=e7.box.lt (Ty _);have eR:=e6.lt (by rw[BI _ ax];omega);have s6:=b0.size;refine Ai (fun _ y=>w6.drew.heap.size<=y) ?_;refine AI ?_;rw[AG,AH,AG,AH];refine AY ⟨e7.box.cells 1 _ rfl,fun _ _ e=>by simp only at e;omega⟩ ?_;rw[AG,AH];refine CU a1 (fun j v hv=>⟨by rw[AH];exact e6.cells j v (by rw[Q0 (Bp.1 hv).1];exact hv),fun _ _ e=>by rw[AH] at e;simp only at e;omega⟩) ?_;refine Gz (by omega) (by omega) ?_;rw[eN,cx];have Y:=CQ (g:=g) (g.k.cut x J).1;have a6:=CQ (g:=g) (g.k.cut x J).2;have b3:=cells_one (g:=g) (g.k.cut x J).1;have b4:=cells_one (g:=g) (g.k.cut x J).2;have gm:∀{W1 W2:World},Grow W1 W2->Mod (fun y=>w6.drew.heap.size<=y) W1 W2:=fun g=>g.mono fun _ _ h=>h.elim;have nb:∀{z:Nat} {W':World} {vs:List Value},Bx W' z vs->vs.length=g.E->z<W'.heap.size:=fun B' e=>B'.lt (by rw[e];exact g.Epos);have ng:∀{W1:World},Grow w6.drew W1->w6.drew.heap.size<=W1.heap.size:=fun g=>g.size;refine⟨?_,?_,?_⟩
   .refine Az al ?_;rintro _ w2 ⟨rfl,U⟩;refine⟨gm U,CW (vs:=[_,_]) (by rfl) (CW (vs:=[_,_]) (by rfl) ⟨?_,?_⟩)⟩
    .refine Bx.zero fun a7 w3 an T Q=>⟨gm T,?_⟩;refine Bx.zero fun X w4 av g4 S=>⟨gm g4,?_⟩;have k1:=nb Q g.zlen;have k2:=U.size;have k3:=T.size;exact Fw ((U.trans T).trans g4) (by omega) (by omega) (by omega) (Q.grow g4) S g.zlen Y a6 b3 b4 fun W' g' B1 B2=>⟨_,_,rfl,by omega,by omega,g',B1,B2⟩
    .refine Bx.zero fun X w3 av T S=>⟨gm T,?_⟩;refine Bx.zero fun a7 w4 an g4 Q=>⟨gm g4,?_⟩;have k1:=nb S g.zlen;have k2:=U.size;have k3:=T.size;exact Fw ((U.trans T).trans g4) (by omega) (by omega) (by omega) Q (S.grow g4) g.zlen Y a6 b3 b4 fun W' g' B1 B2=>⟨_,_,rfl,by omega,by omega,g',B1,B2⟩
   .refine Bx.zero fun a7 w1 an g1 Q=>⟨gm g1,?_,?_⟩
    .refine Az al ?_;rintro _ w2 ⟨rfl,U⟩;refine⟨gm U,BV ?_⟩;refine Bx.zero fun X w3 av T S=>⟨gm T,?_⟩;have k1:=nb Q g.zlen;have k2:=U.size;have k3:=g1.size;exact Fw ((g1.trans U).trans T) (by omega) (by omega) (by omega) ((Q.grow U).grow T) S g.zlen Y a6 b3 b4 fun W' g' B1 B2=>⟨_,_,rfl,by omega,by omega,g',B1,B2⟩
    .refine Bx.zero fun X w3 av T S=>⟨gm T,?_⟩;refine Az al ?_;rintro _ w2 ⟨rfl,U⟩;refine⟨gm U,BV ?_⟩;have k1:=nb Q g.zlen;have k2:=T.size;have k3:=g1.size;exact Fw ((g1.trans T).trans U) (by omega) (by omega) (by omega) ((Q.grow T).grow U) (S.grow U) g.zlen Y a6 b3 b4 fun W' g' B1 B2=>⟨_,_,rfl,by omega,by omega,g',B1,B2⟩
   .refine Bx.zero fun X w1 av g1 S=>⟨gm g1,?_,?_⟩
    .refine Az al ?_;rintro _ w2 ⟨rfl,U⟩;refine⟨gm U,BV ?_⟩;refine Bx.zero fun a7 w3 an T Q=>⟨gm T,?_⟩;have k1:=nb S g.zlen;have k2:=U.size;have k3:=g1.size;exact Fw ((g1.trans U).trans T) (by omega) (by omega) (by omega) Q ((S.grow U).grow T) g.zlen Y a6 b3 b4 fun W' g' B1 B2=>⟨_,_,rfl,by omega,by omega,g',B1,B2⟩
    .refine Bx.zero fun a7 w3 an T Q=>⟨gm T,?_⟩;refine Az al ?_;rintro _ w2 ⟨rfl,U⟩;refine⟨gm U,BV ?_⟩;have k1:=nb S g.zlen;have k2:=T.size;have k3:=g1.size;exact Fw ((g1.trans T).trans U) (by omega) (by omega) (by omega) (Q.grow U) ((S.grow T).grow U) g.zlen Y a6 b3 b4 fun W' g' B1 B2=>⟨_,_,rfl,by omega,by omega,g',B1,B2⟩
  rintro _ W1 ⟨a7,X,rfl,an,av,e8,Q,S⟩ _;have s6:=b0.size;have eX:Grow W W1:=(ay.trans b0).trans e8;have B1:=(B6.grow b0).grow e8;refine Ce (fun w'=>Grow W1 w') (Mod.drew _ _) ?_;rw[AG,AH];refine Au (fun w' g'=>g'.cell (B1.cells (g.E+0) _ (by rw[AZ a1];rfl)) fun h=>h) ?_;rw[AG,AH];refine Au (fun w' g'=>g'.cell (B1.cells (g.E+1) _ (by rw[AZ a1];rfl)) fun h=>h) ?_;intro W2 bb;have fa:=eX.trans bb;have B2:=B1.grow bb;have e9:=Q.grow bb;have ea:=S.grow bb;simp only[GJ];have Y:=CQ (g:=g) (g.k.cut x J).1;have a6:=CQ (g:=g) (g.k.cut x J).2;refine e9.FZ Y ?_;rw[AG,AH];refine B2.part Y (by rw[BI _ ax];omega) (cells_one (g:=g) (g.k.cut x J).1) fun W3 B3 m3=>?_;rw[Hp (by rw[Y,a1])] at B3;have fs:Grow W W3:=fa.next m3 fun y hy e=>by omega
  have h9:=B6.lt (by rw[BI _ ax];omega);have ca:Grow W3 W3.drew:=Mod.drew _ _;have b7:=fs.trans ca;have b8:=hT.mod b7 fun _ _ h=>h;have fv:=B3.grow ca;have ed:=(ea.mod m3 fun e=>by omega).grow ca;refine Ai (fun _ y=>Fb F b y) ?_;refine AI ?_;rw[AG,AH];refine AY ⟨b8.box.cells 3 _ rfl,fun _ _ e=>e.2 rfl⟩ ?_;refine CU (vs:=g.cells (g.k.cut x J).1++BY (Tr.EC g.k.μ (.node l i x r) x l.root r.root)) (by rw[Bq,Y];rfl) (fun j v hv=>⟨by rw[AH];exact fv.cells j v hv,fun _ _ e=>by rw[AH] at e;exact nF bs bx (.inl e.1) rfl⟩) ?_;refine AA (Su b8.ar hi (n:={ Tr.EC g.k.μ (.node l i x r) x l.root r.root with x:=(g.k.cut x J).1 }) (g.Rc.2 rfl)) ?_;rintro _ W4 ⟨ga,m4⟩;have b9:Mod (Fb F b) W3.drew W4:=m4.mono fun x _ e=>(b8.ar.pF x e).1;refine⟨b9,?_⟩;have h4:Dl g.toAvT F C W4 b rt (A.put i { Tr.EC g.k.μ (.node l i x r) x l.root r.root with x:=(g.k.cut x J).1 }):=⟨c,pl,fr,b8.box.mod b9 fun e=>e.2 rfl,ga,b8.fb⟩;have ee:(A.put i { Tr.EC g.k.μ (.node l i x r) x l.root r.root with x:=(g.k.cut x J).1 }).f i=some { Tr.EC g.k.μ (.node l i x r) x l.root r.root with x:=(g.k.cut x J).1 }:=by rw[ArS.J1 hi,Tr.KD]
  have ef:Tr.Holds g.k.μ (A.put i { Tr.EC g.k.μ (.node l i x r) x l.root r.root with x:=(g.k.cut x J).1 }).f l:=by rw[ArS.J1 hi];exact hl.out g.k.μ _ u3
  have eh:Tr.Holds g.k.μ (A.put i { Tr.EC g.k.μ (.node l i x r) x l.root r.root with x:=(g.k.cut x J).1 }).f r:=by rw[ArS.J1 hi];exact hr.out g.k.μ _ u4
  have cc:∀q,q≠i->(A.put i { Tr.EC g.k.μ (.node l i x r) x l.root r.root with x:=(g.k.cut x J).1 }).f q=A.f q:=fun q I=>Hw hi I;have gM:=Dg A i { Tr.EC g.k.μ (.node l i x r) x l.root r.root with x:=(g.k.cut x J).1 };generalize A.put i { Tr.EC g.k.μ (.node l i x r) x l.root r.root with x:=(g.k.cut x J).1 }=A4 at h4 ee ef eh cc gM;have bk:=ed.mod b9 fun e=>by have:=h.lt X (.inl e.1);omega
  have bc:Grow W4 W4.drew:=Mod.drew _ _;have ej:=h4.grow bc;have eA:=bk.lt (by rw[a6];exact g.Epos);refine Ai (fun _ y=>Fb F b y\/W4.drew.heap.size<=y) ?_;obtain⟨q1,q2,q3⟩:=g.cutμ x J c8 c9;have ek:Tr.GO (.node l i (g.k.cut x J).1 .nil):=Tr.BD.2 ⟨u1,mq,u3,(fun e=>nomatch e),fun q _ e=>nomatch e⟩;have gb:EA g.toAvT (Tr.node l i (g.k.cut x J).1 .nil).toL:=by
   constructor
   .simp only[Tr.toL,Tr.CT,Tr.Ba];simp only[Tr.sz,lM,mL] at bn ⊢;omega
   .simp only[Tr.toL,Tr.Fy,Tr.Cy];simp only[Tr.mk,lM,mL] at bp ⊢;omega
  refine AA (PX (l:=l) (r:=.nil) ej (by omega) ee ef trivial ek gb) ?_;rintro _ W5 ⟨t1,Z,rfl,o⟩;refine⟨o.mod.mono fun x _ e=>.inl e,?_⟩;have z4:=bc.size;obtain⟨c',hj,hn,ba⟩:=id o.EH;refine AI ?_;rw[AG,AH];obtain⟨cd,ho,hA,ch⟩:=id ej;have cn:=ba.box.cells 3 _ rfl;have gd:¬(Fb F b b\/W4.drew.heap.size<=b):=fun e=>by
   rcases e with e|e
   .exact e.2 rfl
   .have:=ch.box.lt (Ty _);omega
  have ec:cd=c':=by
   have e1:=o.mod.cell (ch.box.cells 3 _ rfl) fun e=>e.2 rfl;rw[cn] at e1;cases e1;rfl
  subst ec;refine AY ⟨ch.box.cells 3 _ rfl,fun _ _ e=>gd e⟩ ?_;refine CU a6 (fun j v hv=>⟨by rw [AH];exact bc.cell (bk.cells j v hv) fun h=>h,fun k _ e=>by
   rw[AH] at e;rcases e with e|e
   .have:=h.lt X (.inl e.1);omega
   .simp only at e;omega⟩) ?_
  refine⟨_,bg a6 (g.k.cut x J).2,?_⟩;have aX:=o.len;refine AA (Lb ba (n:=⟨(g.k.cut x J).2,0,0,0,0,0⟩) (g.Rc.2 rfl) (by omega)) ?_;rintro _ W6 ⟨rfl,F6,k1,k2,h6,m6⟩;have z5:=o.mod.size;have z6:=m6.size;refine⟨m6.mono fun x _ e=>.inl e,?_⟩;obtain⟨bd,en,tok⟩:=ArS.Ra (⟨(g.k.cut x J).2,0,0,0,0,0⟩:Nd α) o.EH.ok;have eo:Z.num∉(Tr.node l i (g.k.cut x J).1 .nil).idx->A4.f Z.num=none:=fun I=>(o.same _ I).symm.trans en;have cv:Z.num∉t1.idx:=fun e=>by
   obtain⟨m,hm⟩:=o.holds.has g.k.μ e;rw[en] at hm;cases hm
  have ep:Z.num∉(Tr.node l i (g.k.cut x J).1 .nil).idx:=fun e=>cv (o.idx.mem_iff.2 e);have gf:=eo ep;have gg:Z.num≠i:=fun e=>ep (by simp[Tr.idx,e]);have er:A.f Z.num=none:=(cc _ gg).symm.trans gf;have et:Z.num∉r.idx:=fun e=>by
   obtain⟨m,hm⟩:=hr.has g.k.μ e;rw[er] at hm;cases hm
  have gl:Tr.Holds g.k.μ Z.f r:=eh.frame g.k.μ fun q I=>o.same q fun e=>by
   simp only[Tr.idx,DN,I3,kV,mI] at e;rcases e with e|e
   .exact u5 q e I
   .exact u4 (e▸I)
  have gw:Tr.Holds g.k.μ (Z.take ⟨(g.k.cut x J).2,0,0,0,0,0⟩).f r:=by rw[bd];exact gl.out g.k.μ _ et
  have gA:(Z.take ⟨(g.k.cut x J).2,0,0,0,0,0⟩).f Z.num=some ⟨(g.k.cut x J).2,0,0,0,0,0⟩:=by rw[bd,Tr.KD]
  have dG:(Z.take ⟨(g.k.cut x J).2,0,0,0,0,0⟩).ps.length<=Z.ps.length+1:=QA _ _;have eu:Tr.GO (.node .nil Z.num (g.k.cut x J).2 r):=Tr.BD.2 ⟨mq,u2,(fun e=>nomatch e),et,fun q e=>nomatch e⟩;have gB:EA g.toAvT (Tr.node .nil Z.num (g.k.cut x J).2 r).toL:=by
   constructor
   .simp only[Tr.toL,Tr.CT,Tr.Ba];simp only[Tr.sz,lM,mL] at bn ⊢;omega
   .simp only[Tr.toL,Tr.Fy,Tr.Cy];simp only[Tr.mk,lM,mL] at bp ⊢;omega
  refine AA (PX (l:=.nil) (r:=r) h6 (by omega) gA trivial gw eu gB) ?_;rintro _ W7 ⟨t2,A7,rfl,O⟩;refine⟨O.mod.mono fun x _ e=>?_,?_⟩
  .rcases k2 x e.1 with e'|e'
   .exact .inl ⟨e',e.2⟩
   .exact .inr (by omega)
  have ew:∀q,q∈t1.idx↔q∈l.idx\/q=i:=fun q=>by rw[o.idx.mem_iff];simp[Tr.idx]
  have gW:∀q,q∈t2.idx↔q=Z.num\/q∈r.idx:=fun q=>by rw[O.idx.mem_iff];simp[Tr.idx]
  have bl:∀q∈t1.idx,q∉(Tr.node .nil Z.num (g.k.cut x J).2 r).idx:=fun q I e=>by
   simp only[Tr.idx,kS,I3] at e;rcases e with e|e
   .exact cv (e▸I)
   .rcases(ew q).1 I with e'|e'
    .exact u5 q e' e
    .exact u4 (e'▸e)
  have h0:Tr.Holds g.k.μ (Z.take ⟨(g.k.cut x J).2,0,0,0,0,0⟩).f t1:=by rw[bd];exact o.holds.out g.k.μ _ cv
  have z7:=b7.size;have z8:=b9.size;refine⟨t1,t2,A7,rfl,⟨⟨F6,k1,fun x hx=>(k2 x hx).imp (fun h=>h) fun h=>by omega,O.EH,?_⟩,?_,?_,h0.frame g.k.μ fun q I=>O.same q (bl q I),O.holds,?_,fun q I=>?_,fun q a8 ak=>?_,by rw[O.len];omega⟩⟩
  .have n1:Mod (Fb F b) W W4:=(b7.mono fun _ _ h=>h.elim).trans b9;have n2:=((n1.trans (bc.mono fun _ _ h=>h.elim)).trans o.mod).trans m6;refine n2.next O.mod fun x hx e=>?_;rcases k2 x e.1 with e'|e'
   .exact⟨e',e.2⟩
   .omega
  .rw[o.toL];simp only[Tr.toL,V]
  .rw[O.toL];simp only[Tr.toL,V,kS]
  .refine kE.2 ⟨o.idx.nodup_iff.2 ek,O.idx.nodup_iff.2 eu,fun q I q' b5 e=>?_⟩;subst e;exact bl q I (O.idx.mem_iff.1 b5)
  .rcases DN.1 I with I|I
   .rcases(ew q).1 I with e|e
    .exact .inl (by simp[Tr.idx,e])
    .exact .inl (by simp[Tr.idx,e])
   .rcases(gW q).1 I with e|e
    .exact .inr (e▸er)
    .exact .inl (by simp[Tr.idx,e])
  .simp only[Tr.idx,DN,I3,qF] at a8;have w1:q∉(Tr.node .nil Z.num (g.k.cut x J).2 r).idx:=fun e=>ak (kB _ (O.idx.mem_iff.2 e));have w2:q∉(Tr.node l i (g.k.cut x J).1 .nil).idx:=fun e=>ak (i7 _ (o.idx.mem_iff.2 e));have w3:q≠Z.num:=fun e=>w1 (by simp[Tr.idx,e]);have e2:(Z.take ⟨(g.k.cut x J).2,0,0,0,0,0⟩).f q=Z.f q:=by rw[bd,Tr.Da _ w3]
   exact((O.same q w1).trans (e2.trans (o.same q w2))).trans (cc q a8.2.1)
end
section
section
variable {α:Type}{g:AvT α}
theorem UC{out:List α}{x:α}(h:Tr.sz g.k.μ out+(g.k.μ x).1<=1099511627776):Tr.sz g.k.μ (g.k.CN out x)<=Tr.sz g.k.μ out+(g.k.μ x).1:=by
 unfold Kd.CN;by_cases h0:(g.k.μ x).1=0
 .rw[Io h0];omega
 .rw[C3 h0];rcases kb out with rfl|⟨o,y,rfl⟩
  .simp[Tr.sz]
  .rw[k6] at h ⊢;simp only[S5,X1,ki,k9];cases hm:g.k.meld y x with
   |none=>rw[Tr.CT,Tr.Ba];simp[Tr.sz]
   |some z=>
    have:=(g.meldμ _ _ _ hm).1;simp only[Tr.CT,Tr.Ba];omega
theorem Rl(l:List α)(h:Tr.sz g.k.μ l<=1099511627776):Tr.sz g.k.μ (g.k.melded l)<=Tr.sz g.k.μ l:=by
 have gen:∀(l out:List α),Tr.sz g.k.μ out+Tr.sz g.k.μ l<=1099511627776->Tr.sz g.k.μ (l.foldl g.k.CN out)<=Tr.sz g.k.μ out+Tr.sz g.k.μ l:=by
  intro l;induction l with
  |nil=>intro out _;simp[Tr.sz]
  |cons x l i=>
   intro out h;rw[Tr.Ba] at h ⊢;rw[lb];have h1:=UC (g:=g) (out:=out) (x:=x) (by omega);have j:=i (g.k.CN out x) (by omega);omega
 have:=gen l [] (by simpa[Tr.sz] using h);unfold Kd.melded;simpa[Tr.sz] using this
theorem cU{l:List α}{x:α}(h:x∈l):(g.k.μ x).1<=Tr.sz g.k.μ l:=by
 induction l with
 |nil=>simp at h
 |cons y l i=>
  rw[Tr.Ba];rcases I3.1 h with rfl|h
  .omega
  .have:=i h;omega
end
variable {α:Type}{g:AvN α}
theorem HR(k:Kd α)(l:List α):(k.melded l).length<=l.length:=by
 have gen:∀(l out:List α),(l.foldl k.CN out).length<=out.length+l.length:=by
  intro l;induction l with
  |nil=>intro out;simp
  |cons x l i=>
   intro out;rw[lb,Vn];have h1:=i (k.CN out x);have j:(k.CN out x).length<=out.length+1:=by
    unfold Kd.CN;split
    .omega
    .split
     .split
      .simp
      .simp
     .simp
   omega
 have:=gen l [];unfold Kd.melded;simpa using this
theorem Kv(k:Kd α)(l:List α)(x:α):k.melded (l++[x])=k.CN (k.melded l) x:=by
 unfold Kd.melded;rw[lH];rfl
theorem RS(k:Kd α)(j:∀x y z,k.meld x y=some z->0<(k.μ x).1->0<(k.μ z).1)(l:List α):∀x∈k.melded l,0<(k.μ x).1:=by
 have gen:∀(l out:List α),(∀x∈out,0<(k.μ x).1)->∀x∈l.foldl k.CN out,0<(k.μ x).1:=by
  intro l;induction l with
  |nil=>intro out h;exact h
  |cons y l B=>
   intro out h;rw[lb];refine B _ ?_;unfold Kd.CN;split
   .exact h
   .split
    .rename_i z E;have o:=mD E;split
     .rename_i q I;intro x i;rcases DN.1 i with i|i
      .exact h x (List.dropLast_subset _ i)
      .simp at i;subst i;exact j _ _ _ I (h _ o)
     .intro x i;rcases DN.1 i with i|i
      .exact h x i
      .simp at i;subst i;omega
    .intro x i;rcases DN.1 i with i|i
     .exact h x i
     .simp at i;subst i;omega
 exact gen l [] (by simp)
set_option maxRecDepth 4000 in
theorem af:MA g.toAvT:=by
 intro F C S W b rt A v l h hv hl hb;apply g.okN.melded;unfold Sx;obtain⟨va,vc,rfl,hm⟩:=hv.shape;have ec:=hb.1;have c9:=hv.GQ g.Epos;rw[AP];refine Ab (fun vs W'=>∃(i:Nat) (out:Value),i<=l.length/\vs=[out,.int .i64 i]/\AE W.heap.size g.te g.E (g.R C) W' out (g.k.melded (l.take i))/\Grow W W') (fun vs _=>l.length-Ds vs 1)
  ⟨0,_,Nn _,rfl,AE.nil,Mod.refl _ _⟩ ?_
 rintro vs W1 ⟨i,out,hi,rfl,ho,g1⟩ _;simp only[GJ];refine H6 (fun ed=>?_) fun ca=>?_;rotate_left
 .have:i=l.length:=by omega
  subst this;rw[Nr] at ho;exact⟨ho,g1⟩
 have J:i<l.length:=by omega
 obtain⟨p,r,rfl,hS,hr,hc,bd⟩:=c9.get J;have cc:=g.Rc.1 bd;subst cc;have Y:l.take (i+1)=l.take i++[l[i]]:=by rw[No];simp[J]
 have bk:Tr.sz g.k.μ (l.take i)+(g.k.μ l[i]).1<=Tr.sz g.k.μ l:=by
  have e:Tr.sz g.k.μ l=Tr.sz g.k.μ (l.take (i+1))+Tr.sz g.k.μ (l.drop (i+1)):=by rw[<-Tr.CT,S9]
  rw[Y,Tr.CT,Tr.Ba] at e;simp only[Tr.sz,lM,mL] at e ⊢;omega
 have I:g.k.melded (l.take (i+1))=g.k.CN (g.k.melded (l.take i)) l[i]:=by rw[Y,Kv]
 have cd:=Rl (g:=g.toAvT) (l.take i) (by omega);have an:=RS g.k (fun x y z hz h0=>by have:=(g.meldμ x y z hz).1;omega) (l.take i);have bl:=HR g.k (l.take i);rw[Mp,kY hi] at bl;generalize hx:l[i]=x at hr hc bd bk I;generalize g.k.melded (l.take i)=L at ho I cd an bl;have O:=CQ (g:=g) x;have ch:=cells_one (g:=g) x;refine AU J (Aj O (fun j u hu=>by rw[Addr.add_add];exact g1.cell (hc j u hu) fun h=>h) ?_);refine Bx.new O g.zlen ch fun b6 w4 ee g4 B6=>?_;have a8:Grow w4 w4.drew:=Mod.drew _ _;have bn:=(g1.trans g4).trans a8;obtain⟨c,pl,fr,hT⟩:=id h;have cn:=hT.mod bn fun _ _ h=>h;have bp:=B6.grow a8;have s1:=g1.size;have s4:=g4.size;have cv:=B6.lt (by rw[O];exact g.Epos);have ef:∀y,C y->y<W.heap.size:=fun y V=>h.lt y (.inr V);refine Ai (fun _ _=>False) ?_;refine AI ?_;rw[AG,AH,AG,AH];refine AY ⟨cn.box.cells 0 _ rfl,fun _ _ e=>e⟩ ?_;refine CU O (fun j v hv=>⟨by rw[AH];exact bp.cells j v hv,fun _ _ e=>e⟩) ?_;have cx:∀{w},BM prog Dh g.vm [.agg (g.cells x).toArray] (fun v w'=>v=.tuple #[.int .i64 (g.k.μ x).1,.int .i64 (g.k.μ x).2]/\Grow w w') w:=fun{w}=>by
  have:=g.meas (C:=C) (w:=w) (x:=x) (g.Rc.2 rfl);rwa [TB] at this
 refine Az cx ?_;rintro _ w5 ⟨rfl,g5⟩;refine⟨g5.mono fun _ _ h=>h.elim,?_⟩;refine BV ?_;have ak:=bn.trans g5;have b3:=bp.grow g5;have Z:AE W.heap.size g.te g.E (g.R C) w5 out L:=AE.mod ho ((g4.trans a8).trans g5) (fun _ _ h=>h) fun r y _ V=>g.Rc.2 (g.Rc.1 V);have eh:l.length<=109951162777:=hl;rw[Al];refine AF (fun h0=>?_) fun h0=>?_
 .have al:(g.k.μ x).1=0:=by omega
  rw[AR,AO (by omega)];refine⟨⟨i+1,out,J,rfl,?_,ak⟩,by rw[BL,BL];omega⟩;rw[I];unfold Kd.CN;rw[Io al];exact Z
 have al:(g.k.μ x).1≠0:=by omega
 refine AT (fun _ W'=>Grow W W'/\AE W.heap.size g.te g.E (g.R C) W' out L/\Bx W' b6 (g.cells x)/\g.k.CN L x=L++[x]) ?_ ?_
 .rintro _ W6 ⟨Q,a1,dk,em⟩ _;refine dk.FZ O ?_;have bs:=DW (v:=.agg (g.cells x).toArray) (vs:=g.cells x) g.zlen g.Epos rfl O;have dv:=g.eb_le;refine Dr g.elE a1 Q.size (cs:=g.cells x) (x:=x) bs O (g.Rc.2 rfl) (fun _ _ _ V=>g.rone V) (fun _ _ r y _ _ V=>g.Rc.2 (g.Rc.1 V)) ?_ (by simp only[maxLen];omega) fun v' w7 dT m7 ej=>?_
  .have:(L.length+1)*g.eb<=(L.length+1)*512:=nN _ dv;omega
  rw[AR,AO (by omega)];refine⟨⟨i+1,v',J,rfl,by rw[I,em];exact dT,Q.next m7 fun y V e=>by have:=(AE.BA a1 y e).1;omega⟩,by rw[BL,BL];omega⟩
 obtain⟨oa,oc,rfl,ek,eo,e1,e2⟩:=Z.shape;rw[AP,Av,wrap64 (by omega) (by omega),DX];refine AF (fun ca=>?_) fun e3=>?_;rotate_left
 .have e4:L=[]:=QC (by omega);refine⟨ak,Z,b3,?_⟩;unfold Kd.CN;rw[C3 al,e4];rfl
 have b4:0<L.length:=by omega
 obtain⟨o,y,a6⟩:∃o y,L=o++[y]:=⟨L.dropLast,L.getLast (lT.1 b4),(pJ _).symm⟩;have T:L.length=o.length+1:=by rw[a6];simp
 have a7:L.length-1<L.length:=by omega
 have e5:L[L.length-1]=y:=by
  have:L[L.length-1]?=some y:=by rw[T,a6];simp
  exact kK ((By a7).symm.trans this)
 have bx:y∈L:=by rw[a6];simp
 have B:g.k.CN L x=match g.k.meld y x with|some z=>o++[z]|none=>L++[x]:=by
  unfold Kd.CN;rw[C3 al,a6];simp only[S5,X1,ki,k9];cases g.k.meld y x<;>rfl
 cases oa with
 |none=>have:=e2 rfl;rw[this] at b4;simp at b4
 |some q=>
  obtain⟨gb,rfl,ep,er,et⟩:=e1 q rfl;have en:((L.length:Int)-1)=((L.length-1:Nat):Int):=by omega
  rw[en];have e3:gb≠b6:=fun e=>by
   have:=(AE.BA ho gb rfl).2;omega
  refine AT (fun vs W'=>∃U,vs=[.pointer (some ⟨U,0,none⟩),.bool (g.k.meld y x).isSome]/\Grow w5 W'/\∀z,g.k.meld y x=some z->Bx W' U (g.cells z)) ?_ ?_
  .rintro _ W6 ⟨U,rfl,Q,hz⟩ _;simp only[GJ];have a1:AE W.heap.size g.te g.E (g.R C) W6 (.slice (some ⟨gb,0,none⟩) L.length oc) L:=AE.mod Z Q (fun _ _ h=>h) fun r y _ V=>g.Rc.2 (g.Rc.1 V);have c4:=ak.trans Q;cases b5:g.k.meld y x with
   |none=>
    rw[b5] at B;exact AV ⟨c4,a1,b3.grow Q,B⟩
   |some z=>
    rw[b5] at B;refine As ?_;refine(hz z b5).FZ (CQ z) ?_;refine AU a7 ?_;have key:=AE.OF (R':=g.R C) (x':=z) (p:=0) (vs:=g.cells z) (K:=fun b7=>AX .i64 (.int .i64 (i:Int)) (.int .i64 1) fun c6=>(∃(i':Nat) (av:Value),i'<=l.length/\[Value.slice (some ⟨gb,0,none⟩) L.length oc,c6]=[av,.int .i64 (i':Int)]/\AE W.heap.size g.te g.E (g.R C) b7 av (g.k.melded (l.take i'))/\Grow W b7)/\l.length-Ds [Value.slice (some ⟨gb,0,none⟩) L.length oc,c6] 1<l.length-Ds [Value.slice (some ⟨gb,0,none⟩) L.length oc,.int .i64 (i:Int)] 1) a1 a7 (CQ z) (by omega) (cells_one z) (fun w' r y' _ _ e6=>g.Rc.2 (g.Rc.1 e6)) (fun w' r _ _ b8 _=>by rw[LI (by rw[CQ,b8])];exact g.Rc.2 rfl) fun b7 ax e7=>?_
    .rw[kg] at key;exact key
    .rw[AR,AO (by omega)];refine⟨⟨i+1,_,J,rfl,?_,c4.next e7 fun b' eu e=>by simp only at e;omega⟩,by rw[BL,BL];omega⟩;rw[I,B];have:L.set (L.length-1) z=o++[z]:=by rw[T,a6];simp
     rw[this] at ax;have el:(o++[z]).length=L.length:=by simp[T]
     exact ax
  .have X:Grow w5 w5.drew:=Mod.drew _ _;have e8:=hT.mod (ak.trans X) fun _ _ h=>h;have hd:=(AE.mod (R':=g.R C) Z X (fun _ _ h=>h) fun r y _ V=>g.Rc.2 (g.Rc.1 V)).sl;obtain⟨q',r',e',ew,b8,e9,c7⟩:=hd.get a7;cases e';have ay:=g.Rc.1 c7;rw[e5] at ay;subst ay;have s5:=X.size;have eA:=g5.size;have eB:=a8.size;have ea:=hT.box.lt (Ty _);have gm:∀{W1 W2:World},Grow W1 W2->Mod (fun y=>w5.drew.heap.size<=y) W1 W2:=fun g=>g.mono fun _ _ h=>h.elim;have eC:=cU (g:=g.toAvT) bx;have c8:∀{w},BM prog Dh g.vd [.agg (g.cells y).toArray,.agg (g.cells x).toArray] (fun v w'=>Grow w w'/\∃r,r.length=g.E/\(∀u∈r,u.oneCell'=true)/\v=.tuple #[.agg r.toArray,.bool (g.k.meld y x).isSome]/\∀z,g.k.meld y x=some z->r=g.cells z) w:=g.meldc (an y bx) (by omega) (by omega);refine Ai (fun _ y=>w5.drew.heap.size<=y) ?_;refine AI ?_;rw[AG,AH,AG,AH];refine AY ⟨e8.box.cells 2 _ rfl,fun _ _ e=>by simp only at e;omega⟩ ?_;refine AU a7 ?_;refine CU b8 (fun j v hv=>⟨by rw[Addr.add_add];exact e9 j v hv,fun _ _ e=>by rw[Addr.add_add,AH] at e;simp only at e;omega⟩) ?_;refine CU O (fun j v hv=>⟨by rw[AH];exact(b3.grow X).cells j v hv,fun _ _ e=>by rw[AH] at e;simp only at e;omega⟩) ?_;refine⟨?_,?_⟩
   .refine Az c8 ?_;rintro _ w6 ⟨Q,r,b9,ba,rfl,bb⟩;refine⟨gm Q,BV ?_⟩;refine Bx.zero fun U w7 b0 g7 bc=>⟨gm g7,?_⟩;refine bc.over b9 g.zlen ba fun w8 B8 m8=>⟨m8.mono fun x _ e=>by rw[e];have:=Q.size;omega,?_⟩;have s6:=Q.size;exact⟨U,rfl,((X.trans Q).trans g7).next m8 fun y V e=>by omega,fun z hz=>by rw[<-bb z hz];exact B8⟩
   .refine Bx.zero fun U w7 b0 g7 bc=>⟨gm g7,?_⟩;refine Az c8 ?_;rintro _ w6 ⟨Q,r,b9,ba,rfl,bb⟩;refine⟨gm Q,BV ?_⟩;refine(bc.grow Q).over b9 g.zlen ba fun w8 B8 m8=>⟨m8.mono fun x _ e=>by rw[e];exact b0,?_⟩;exact⟨U,rfl,((X.trans g7).trans Q).next m8 fun y V e=>by omega,fun z hz=>by rw[<-bb z hz];exact B8⟩
end
section
variable {α:Type}{g:AvT α}
theorem Hy.jL{F i C:Nat->Prop}{W j w2:World}{b:Nat}{o:Int}{B E:ArS α}{L:List α}{I:List Nat}{t:Tr α}(Q:∀x,F x->i x)(J:∀x,i x->F x\/W.heap.size<=x)(O:Mod (Fb F b) W j)(S:Xy g i C j w2 b o B L I t E):Mod (Fb F b) W w2:=
 O.next S.mod fun x T e=>by
  rcases J x e.1 with e'|e'
  .exact⟨e',e.2⟩
  .omega
structure im (g:AvT α) (F C:Nat->Prop) (W:World) (b:Nat) (rt:Int) (A:ArS α) (al bl L:List α) (a' b':Tr α) (mv:Value) (W':World) (A':ArS α) (F':Nat->Prop):Prop where
 k1:∀x,F x->F' x
 k2:∀x,F' x->F x\/W.heap.size<=x
 EH:Dl g F' C W' b rt A'
 mod:Mod (Fb F b) W W'
 ha:Tr.Holds g.k.μ A'.f a'
 hb:Tr.Holds g.k.μ A'.f b'
 Ho:(a'.idx++b'.idx).Nodup
 row:AE W.heap.size g.te g.E (g.R C) W' mv L
 nF:∀x,mv.ownBlock=some x->¬F' x
 ta:a'.toL=al
 tb:b'.toL=bl
 len:A'.ps.length<=A.ps.length+2
def Xo(g:AvT α)(F C:Nat->Prop)(W w':World)(b:Nat)(i:Int)(A:ArS α):Prop:=∃F',(∀x,F x->F' x)/\(∀x,F' x->F x\/W.heap.size<=x)/\Dl g F' C w' b i A/\Mod F W w'
def Re(g:AvT α):Prop:=∀{F C S:Nat->Prop} {W:World} {b i j:Nat} {A:ArS α} {T:Tr α} {v:Value} {L:List α},Dl g F C W b T.root A->A.ps.length+L.length<=109951162000->Tr.Holds g.k.μ A.f T->Tr.GO T->BB S g.E (g.R C) W v L->(∀x,S x->¬F x)->i<=j->j<=1099511627776->
 EA g T.toL->EA g (g.k.Bw T.toL i j L)->EA g ((g.k.split T.toL i).1.getLast?.toList++L++(g.k.split (g.k.split T.toL i).2 (j-i)).2.head?.toList)->
 AB prog g.fReplace [.pointer (some ⟨b,0,none⟩),.int .i64 (i:Int),.int .i64 (j:Int),v] (fun _ w'=>∃o B,o.toL=g.k.Bw T.toL i j L/\Xo g F C W w' b o.root B/\Tr.Holds g.k.μ B.f o/\Tr.GO o/\B.ps.length<=A.ps.length+L.length+4) W
theorem AE.G2{B e k:Nat}{b:Nat}{i:Int}{A:ArS α}{l:List α}(h:AE B e k (g.R C) W v l)(ht:Dl g F C W b i A)(hm:Mod (Fb F b) W W')(j:∀x,v.ownBlock=some x->¬F x):AE B e k (g.R C) W' v l:=
 AE.mod h hm (fun x o e=>j x o e.1) fun r y _ E=>g.BZ E hm fun z _ I e=>ht.Is z e.1 I
def iR(g:AvK)(KK:Value->Value->Value->World->Prop)(v0 v1 v2 v3:Value)(w:World):Prop:=
 AJ v0 fun t22=>
 AM 4 t22 fun T=>
 AL T (fun U w1=>
 AB prog g.fsplit [v0,U,v1] (fun B w2=>
 AQ 0 B fun j=>
 AQ 1 B fun V=>
 BW .i64 v2 v1 fun X=>
 AB prog g.fsplit [v0,V,X] (fun I w3=>
 AQ 0 I fun Y=>
 AQ 1 I fun o=>
 AB prog g.fdrop [v0,Y] (fun _t40 w4=>
 Ao (fun vs w5=>∀_:Env,
 runK prog (Builtin.append_ #[g.ts,g.ts] g.ts [(nth vs 1),v3].toArray) (fun O w6=>
 Ao (fun i w7=>∀_:Env,
 AB prog g.fmelded [v0,(nth i 1)] (fun t76 w8=>KK (nth vs 0) (nth i 0) t76 w8) w7) (fun Q=>
 EB .i64 o (.int .i64 (-1)) fun Z=>
 AD Z
 (AB prog g.ffirst [v0,o] (fun S a1=>
 AQ 0 S fun a6=>
 AQ 1 S fun t66=>
 AB prog g.fpick [v0,t66] (fun a7 a8=>
 Bg g.te g.E 1 g.zE [(0,a7)] (fun ak al=>
 runK prog (Builtin.append_ #[g.ts,g.ts] g.ts [O,ak].toArray) (fun an av=>
 Q [a6,an] av) al) a8) a1) w6)
 (Q [o,O] w6))) w5) (fun J=>
 EB .i64 j (.int .i64 (-1)) fun ax=>
 AD ax
 (AB prog g.flast [v0,j] (fun t46 ay=>
 AQ 0 t46 fun b0=>
 AQ 1 t46 fun b3=>
 AB prog g.fpick [v0,b3] (fun t53 b4=>
 Bg g.te g.E 1 g.zE [(0,t53)] (fun b5 b6=>
 runK prog (Builtin.append_ #[g.ts,g.ts] g.ts [(.slice none 0 0),b5].toArray) (fun t55 b7=>
 J [b0,t55] b7) b6) b4) ay) w4)
 (J [j,(.slice none 0 0)] w4))) w3) w2) w1) w
set_option maxRecDepth 4000 in
theorem QU{b i j:Nat}{A:ArS α}{T:Tr α}{L:List α}{KK:Value->Value->Value->World->Prop}(bp:OY g)(bs:RW g)(ee:MA g)(bx:∀l p,EA g l->EA g (g.k.split l p).1/\EA g (g.k.split l p).2)
 (h:Dl g F C W b T.root A)(hs:A.ps.length+L.length<=109951162000)(hh:Tr.Holds g.k.μ A.f T)(hu:Tr.GO T)(hv:BB S g.E (g.R C) W v L)(hS:∀x,S x->¬F x)(fa:i<=j)(hj:j<=1099511627776)
 (c4:EA g T.toL)(c6:EA g ((g.k.split T.toL i).1.getLast?.toList++L++(g.k.split (g.k.split T.toL i).2 (j-i)).2.head?.toList))
 (hK:∀J U mv W' A' F',im g F C W b T.root A (g.k.split T.toL i).1.dropLast (g.k.split (g.k.split T.toL i).2 (j-i)).2.tail (g.k.melded ((g.k.split T.toL i).1.getLast?.toList++L++(g.k.split (g.k.split T.toL i).2 (j-i)).2.head?.toList)) J U mv W' A' F'->KK (.int .i64 J.root) (.int .i64 U.root) mv W') :
  iR g.toAvK KK (.pointer (some ⟨b,0,none⟩)) (.int .i64 (i:Int)) (.int .i64 (j:Int)) v W:=by
 unfold iR;have ef:=h.lt;have V:∀y,C y->y<W.heap.size:=fun y X=>ef y (.inr X);obtain⟨c,pl,fr,hT⟩:=id h;refine AI ?_;refine Bt (hT.box.cells 4 _ rfl) ?_;refine AA (bp T h (by omega) hh hu c4 (p:=i) (by omega)) ?_;rintro _ w2 ⟨a,a1,A1,rfl,S1⟩;refine BV ?_;rw[Av,wrap64 (by omega) (by omega),show((j:Int)-(i:Int))=((j-i:Nat):Int) by omega];obtain⟨F1,x1,x2,h1,m1⟩:=S1.fy;obtain⟨n1,n2,n3⟩:=kE.1 S1.Ho;have l1:=S1.len;have b6:=bx T.toL i c4;refine AA (bp a1 h1 (by omega) S1.hr n2 (by rw[S1.r1];exact b6.2) (p:=j-i) (by omega)) ?_;rintro _ w3 ⟨gone,bt,A2,rfl,S2⟩;refine BV ?_;obtain⟨F2,y1,y2,h2,m2⟩:=S2.fy;obtain⟨o1,o2,o3⟩:=kE.1 S2.Ho;have l2:=S2.len;have eh:=bx (g.k.split T.toL i).2 (j-i) b6.2;have al:∀q∈a.idx,q∉a1.idx/\q∉gone.idx++bt.idx:=fun q I=>by
  have hr:q∉a1.idx:=fun e=>n3 q I q e rfl;refine⟨hr,fun e=>?_⟩;rcases S2.idx q e with e|e
  .exact hr e
  .obtain⟨m,hm⟩:=S1.hl.has g.k.μ I;rw[hm] at e;cases e
 have ej:Tr.Holds g.k.μ A2.f a:=S1.hl.frame g.k.μ fun q I=>S2.same q (al q I).1 (al q I).2;refine AA (Uj gone h2 (by omega) S2.hl o1) ?_;rintro _ w4 ⟨A3,T3,c7,l3⟩;obtain⟨F3,z1,z2,h3,m3⟩:=T3;have ek:Tr.Holds g.k.μ A3.f a:=ej.frame g.k.μ fun q I=>c7 q fun e=>(al q I).2 (i7 _ e);have c8:Tr.Holds g.k.μ A3.f bt:=S2.hr.frame g.k.μ fun q I=>c7 q fun e=>o3 q e q I rfl;have an:(a.idx++bt.idx).Nodup:=kE.2 ⟨n1,o2,fun q I q' a6 e=>(al q I).2 (kB _ (e▸a6))⟩;have s1:=m1.size;have s2:=m2.size;have s3:=m3.size;have c9:∀x,F x->F3 x:=fun x o=>z1 x (y1 x (x1 x o));have b7:∀x,F3 x->F x\/W.heap.size<=x:=fun x o=>by
  rcases z2 x o with e|e
  .rcases y2 x e with e|e
   .exact x2 x e
   .exact .inr (by omega)
  .exact .inr (by omega)
 have ca:Mod (Fb F b) W w4:=by
  refine(m1.next m2 fun x o e=>?_).next m3 fun x o e=>?_
  .rcases x2 x e.1 with e'|e'
   .exact⟨e',e.2⟩
   .omega
  .rcases y2 x e.1 with e'|e'
   .rcases x2 x e' with e'|e'
    .exact⟨e',e.2⟩
    .omega
   .omega
 have ea:a.toL=(g.k.split T.toL i).1:=S1.l1;have eb:bt.toL=(g.k.split (g.k.split T.toL i).2 (j-i)).2:=by rw[S2.r1,S1.r1]
 have cc:EA g a.toL:=by rw[ea];exact b6.1
 have cd:EA g bt.toL:=by rw[eb];exact eh.2
 rw [<-ea,<-eb] at c6 hK;have ch:=g.eb_le;have ay:∀ (w:World) (r:List Value) (y:α),g.R C w r y->∀ u ∈ r,u.oneCell'=true:=fun _ _ _ X=>g.rone X;have cn:∀ r:List Value,r.length=g.E->(g.toAvK.enc r).cells=r.toArray->Instr.fill (fun i=>some (i * g.E,g.E)) ((Array.range (1 * g.E)).map (g.zE.toArray[· % g.zE.toArray.size]!)) [(0,g.toAvK.enc r)]=some r.toArray:=fun r hr hc=>DW g.zlen g.Epos hc hr;refine AT (fun vs W'=>∃ (J:Tr α) (av:Value) (A4:ArS α) (F4:Nat->Prop),vs=[.int .i64 J.root,av]/\(∀ x,F x->F4 x)/\(∀ x,F4 x->F x\/W.heap.size<=x)/\Dl g F4 C W' b T.root A4/\Mod (Fb F b) W W'/\Tr.Holds g.k.μ A4.f J/\Tr.Holds g.k.μ A4.f bt/\(J.idx++bt.idx).Nodup/\
  AE W.heap.size g.te g.E (g.R C) W' av a.toL.getLast?.toList/\(∀ x,av.ownBlock=some x->¬ F4 x)/\J.toL=a.toL.dropLast/\A4.ps.length<=A.ps.length+2) ?_ ?_
 rotate_left
 .rw[Bm];refine AW (fun e=>?_) fun e=>?_
  .have el:a=.nil:=by
    cases a with
    |nil=>rfl
    |node x q z y=>simp only[Tr.root] at e;omega
   subst el;exact⟨.nil,_,A3,F3,rfl,c9,b7,h3,ca,trivial,c8,an,AE.nil,(fun _ o=>nomatch o),rfl,by omega⟩
  .have cv:a≠.nil:=fun e'=>by subst e';exact e rfl
   refine AA (QQ a cv h3 (by omega) ek n1 cc) ?_;rintro _ fs ⟨J,k,m,A4,rfl,E4,e4⟩;refine BV ?_;have l4:=E4.len;have b0:∀q,q∈J.idx\/q=k->q∈a.idx:=fun q I=>E4.idx.mem_iff.1 (by rcases I with I|rfl<;>simp[*]);refine AA (bs E4.EH (by omega) E4.Qm) ?_;rintro _ en ⟨r,rfl,hr,Y,u1,u2,h5,m5⟩;have a7:=g.rlen hr;have s4:=E4.mod.size;have s5:=m5.size;have a8:=ArS.RR E4.Qm;have b8:Tr.Holds g.k.μ (A4.free k).f J:=by rw[a8];exact E4.holds.out g.k.μ _ (E4.Ho n1).2
   have b9:Tr.Holds g.k.μ (A4.free k).f bt:=by
    rw[a8];refine(c8.frame g.k.μ fun q I=>E4.same q fun e=>(kE.1 an).2.2 q e q I rfl).out g.k.μ _ fun e=>?_;exact(kE.1 an).2.2 k (b0 k (.inr rfl)) k e rfl
   have ba:Mod (Fb F b) W en:=by
    have cx:∀x,x<W.heap.size->Fb F3 b x->Fb F b x:=fun x o e=>by
     rcases b7 x e.1 with e'|e'
     .exact⟨e',e.2⟩
     .omega
    exact(ca.next E4.mod cx).next m5 cx
   refine Dr (R:=g.R C) g.elE (AE.nil (B:=W.heap.size)) ba.size (cs:=r) (x:=m.x) (cn r a7 (g.rcell hr)) a7 hr ay (fun w1 w2 r y hw hm X=>g.BZ X hm fun z hz hC e=>?_) (by simp only[kl];omega) (by simp[maxLen]) fun av eo ho dk hn=>?_
   .rcases e with e|e
    .cases e
    .have:=V z hC;have:=ba.size;omega
   have ep:Dl g Y C eo b T.root (A4.free k):=h5.mod dk fun x o e=>nomatch e
   refine⟨J,av,A4.free k,Y,rfl,fun x o=>u1 x (c9 x o),fun x o=>?_,ep,ba.next dk (fun x o e=>nomatch e),b8,b9,?_,?_,fun x o hF=>?_,?_,?_⟩
   .rcases u2 x o with e|e
    .exact b7 x e
    .exact .inr (by omega)
   .refine kE.2 ⟨(E4.Ho n1).1,o2,fun q I q' a6 e=>?_⟩;exact(kE.1 an).2.2 q (b0 q (.inl I)) q' a6 e
   .rw[e4];simpa using ho
   .rcases hn x o with e|e
    .cases e
    .have:=h5.lt x (.inl hF);omega
   .rw[e4];simp
   .simp only[ArS.free,kC];omega
 rintro _ W5 ⟨J,av,A4,F4,rfl,f1,f2,h4,m4,dv,er,ak,ax,b3,ta,l4⟩ _;simp only[GJ];have et:BB (fun x=>S x/\x<W.heap.size) g.E (g.R C) W v L:=hv.GQ g.Epos;have eu:BB (fun x=>S x/\x<W.heap.size) g.E (g.R C) W5 v L:=BB.mod et m4 (fun x _ o e=>hS x o.1 e.1) g.Epos fun r y X=>g.BZ X m4 fun z _ hz e=>h.Is z e.1 hz;have fv:a.toL.getLast?.toList.length<=1:=by cases a.toL.getLast?<;>simp
 have e1:(a.toL.getLast?.toList.length+L.length) * g.eb<=(a.toL.getLast?.toList.length+L.length) * 512:=nN _ ch;obtain ⟨dT,w6,r6,bb,ew,eA⟩:=AE.append (P:=prog) (ty:=g.ts) g.elE ax eu (fun r y X=>g.rone X) (by omega) m4.size (by simp only [maxLen];omega) (fun w' eB r y X=>g.BZ X (Mod.of_grownBy eB) fun z hz hC e=>by
  have:=(AE.BA ax z e).1;have:=V z hC;omega)
 refine Ag r6 ?_;have m6:=Mod.of_grownBy ew;have h6:Dl g F4 C w6 b T.root A4:=h4.mod m6 fun x o e=>by
  rcases o with o|o
  .exact b3 x e o
  .have:=(AE.BA ax x e).1;have:=V x o;omega
 have bc:Mod (Fb F b) W w6:=m4.next m6 fun x o e=>by have:=(AE.BA ax x e).1;omega
 have O:∀x,dT.ownBlock=some x->¬F4 x:=fun x o hF=>by
  rcases eA x o with e|e
  .exact b3 x e hF
  .have:=h4.lt x (.inl hF);omega
 have eX:(a.toL.getLast?.toList++L).length<=L.length+1:=by rw[Bq];omega
 refine AT (fun vs W'=>∃ (U:Tr α) (Z:Value) (A5:ArS α) (Y:Nat->Prop),vs=[.int .i64 U.root,Z]/\(∀ x,F x->Y x)/\(∀ x,Y x->F x\/W.heap.size<=x)/\Dl g Y C W' b T.root A5/\Mod (Fb F b) W W'/\Tr.Holds g.k.μ A5.f J/\Tr.Holds g.k.μ A5.f U/\(J.idx++U.idx).Nodup/\
  AE W.heap.size g.te g.E (g.R C) W' Z (a.toL.getLast?.toList++L++bt.toL.head?.toList)/\(∀ x,Z.ownBlock=some x->¬ Y x)/\U.toL=bt.toL.tail/\A5.ps.length<=A.ps.length+2) ?_ ?_
 rotate_left
 .rw[Bm];obtain⟨_,ga,bd⟩:=kE.1 ak;refine AW (fun e=>?_) fun e=>?_
  .have el:bt=.nil:=by
    cases bt with
    |nil=>rfl
    |node x q z y=>simp only[Tr.root] at e;omega
   subst el;exact⟨.nil,_,A4,F4,rfl,f1,f2,h6,bc,dv,trivial,ak,by simpa[Tr.toL] using bb,O,rfl,l4⟩
  .have e3:bt≠.nil:=fun e'=>by subst e';exact e rfl
   refine AA (Ub bt e3 h6 (by omega) er o2 cd) ?_;rintro _ gb ⟨U,k,m,A5,rfl,E5,e5⟩;refine BV ?_;have l5:=E5.len;have b4:∀q,q∈U.idx\/q=k->q∈bt.idx:=fun q I=>E5.idx.mem_iff.1 (by rcases I with I|rfl<;>simp[*]);have e6:=AE.G2 (g:=g) bb h6 E5.mod O;refine AA (bs E5.EH (by omega) E5.Qm) ?_;rintro _ eC ⟨r,rfl,hr,Y,u1,u2,e7,bk⟩;have a7:=g.rlen hr;have s6:=E5.mod.size;have s7:=bk.size;have gd:=bc.size;have a8:=ArS.RR E5.Qm;have Q:=AE.G2 (g:=g) e6 E5.EH bk O;have b8:Tr.Holds g.k.μ (A5.free k).f J:=by
    rw[a8];refine(dv.frame g.k.μ fun q I=>E5.same q fun e=>bd q I q e rfl).out g.k.μ _ fun e=>?_;exact bd k e k (b4 k (.inr rfl)) rfl
   have b9:Tr.Holds g.k.μ (A5.free k).f U:=by rw[a8];exact E5.holds.out g.k.μ _ (E5.Ho o2).2
   have bl:Mod (Fb F b) W eC:=by
    have e8:∀x,x<W.heap.size->Fb F4 b x->Fb F b x:=fun x o e=>by
     rcases f2 x e.1 with e'|e'
     .exact⟨e',e.2⟩
     .omega
    exact(bc.next E5.mod e8).next bk e8
   have b5:∀x,dT.ownBlock=some x->¬Y x:=fun x o hF=>by
    rcases u2 x hF with e|e
    .exact O x o e
    .have:=(AE.BA bb x o).2;omega
   have e2:((a.toL.getLast?.toList++L).length+1)*g.eb<=((a.toL.getLast?.toList++L).length+1)*512:=nN _ ch;refine Dr (R:=g.R C) g.elE Q bl.size (cs:=r) (x:=m.x) (cn r a7 (g.rcell hr)) a7 hr ay (fun w1 w2 r y hw hm X=>g.BZ X hm fun z hz hC e=>?_) (by omega) (by simp only[maxLen];omega) fun Z eI ho e9 hn=>?_
   .rcases e with e|e
    .have:=(AE.BA Q z e).1;have:=V z hC;omega
    .have:=V z hC;have:=bl.size;omega
   have eL:Dl g Y C eI b T.root (A5.free k):=e7.mod e9 fun x o e=>by
    rcases o with o|o
    .exact b5 x e o
    .have:=(AE.BA Q x e).1;have:=V x o;omega
   refine⟨U,Z,A5.free k,Y,rfl,fun x o=>u1 x (f1 x o),fun x o=>?_,eL,bl.next e9 (fun x o e=>by have:=(AE.BA Q x e).1;omega),b8,b9,?_,?_,fun x o hF=>?_,?_,?_⟩
   .rcases u2 x o with e|e
    .exact f2 x e
    .exact .inr (by omega)
   .refine kE.2 ⟨(kE.1 ak).1,(E5.Ho o2).1,fun q I q' a6 e=>?_⟩;exact bd q I q' (b4 q' (.inl a6)) e
   .rw[e5];simpa using ho
   .rcases hn x o with e|e
    .exact b5 x e hF
    .have:=e7.lt x (.inl hF);omega
   .rw[e5];rfl
   .simp only[ArS.free,kC];omega
 rintro _ W7 ⟨U,Z,A5,Y,rfl,p1,p2,h7,m7,eN,eR,ec,ed,gf,tb,l7⟩ _;simp only[GJ];have gg:bt.toL.head?.toList.length<=1:=by cases bt.toL.head?<;>simp
 refine AA (ee h7 ed.sl (by rw[Bq];omega) c6) ?_;rintro mv w8 ⟨bn,g8⟩;have s7:=m7.size;refine hK J U mv w8 A5 Y ⟨p1,p2,h7.grow g8,m7.trans (g8.mono fun _ _ h=>h.elim),eN,eR,ec,AE.base bn fun x o=>by have:=(AE.BA bn x o).1;omega,fun x o hF=>?_,ta,tb,l7⟩;have:=(AE.BA bn x o).1;have:=h7.lt x (.inl hF);omega
end
section
variable {α:Type}
structure TH (g:AvT α) (F C:Nat->Prop) (W:World) (b:Nat) (rt:Int) (A:ArS α) (al bl M:List α) (b':Tr α) (mv:Value) (k:Nat) (t:Tr α) (W':World) (A':ArS α) (F':Nat->Prop):Prop where
 k1:∀x,F x->F' x
 k2:∀x,F' x->F x\/W.heap.size<=x
 EH:Dl g F' C W' b rt A'
 mod:Mod (Fb F b) W W'
 ht:Tr.Holds g.k.μ A'.f t
 hb:Tr.Holds g.k.μ A'.f b'
 Ho:(t.idx++b'.idx).Nodup
 row:AE W.heap.size g.te g.E (g.R C) W' mv M
 nF:∀x,mv.ownBlock=some x->¬F' x
 tt:t.toL=al++M.take k
 tb:b'.toL=bl
 len:A'.ps.length<=A.ps.length+2+k
theorem im.put{g:AvT α}{b:Nat}{i:Int}{A:ArS α}{j o M:List α}{B E:Tr α}{J:ArS α}{F':Nat->Prop}(h:im g F C W b i A j o M B E v W' J F'):TH g F C W b i A j o M E v 0 B W' J F':=
 ⟨h.k1,h.k2,h.EH,h.mod,h.ha,h.hb,h.Ho,h.row,h.nF,by rw[h.ta];simp,h.tb,by have:=h.len;omega⟩
theorem TH.done{g:AvT α}{b:Nat}{A:ArS α}{V X M:List α}{I t:Tr α}{j:ArS α}{F':Nat->Prop}{N:Nat}{L:List α}(h:TH g F C W b most A V X M I v M.length t W' j F')(hN:A.ps.length+M.length<=109951162500)(hL:V++M++X=L)(J:EA g L)(hM:M.length+2<=N)(hF:F b) :
  AB prog g.fconcat [.pointer (some ⟨b,0,none⟩),.int .i64 t.root,.int .i64 I.root] (fun O Q=>AJ (.pointer (some ⟨b,0,none⟩)) fun S=>AM 4 S fun T=>BC T O (fun U=>(fun(_:Value) w'=>∃B j,B.toL=L/\Xo g F C W w' b B.root j/\Tr.Holds g.k.μ j.f B/\Tr.GO B/\j.ps.length<=A.ps.length+N) (.tuple #[]) U) Q) W':=by
 have hl:=h.len;have Y:=h.tt;rw[Nr] at Y;have Z:t.toL++I.toL=L:=by rw[Y,h.tb,hL]
 refine AA (Rr h.EH (by omega) h.ht h.hb h.Ho (by rw[Z];exact J)) ?_;rintro _ w2 ⟨t2,A2,rfl,i⟩;obtain⟨c,pl,fr,E⟩:=i.EH;refine AI ?_;rw[AG,AH];refine E.box.st (q:=4) (show 4<5 by decide) rfl rfl fun w3 B3 m3=>?_;have m2:=Hy.jL h.k1 h.k2 h.mod i;refine⟨t2,A2,by rw[i.toL];exact Z,⟨F',h.k1,h.k2,⟨c,pl,fr,B3,?_,E.fb⟩,?_⟩,i.holds,i.idx.nodup_iff.2 h.Ho,by rw[i.len];omega⟩
 .exact E.ar.mod m3 fun x o e=>by
   rcases o with o|o
   .exact o.2 e
   .exact E.fb.2 (e▸o)
 .exact(m2.mono fun x _ e=>e.1).trans (m3.mono fun x _ e=>by rw[e];exact hF)
theorem TH.step{g:AvT α}{b:Nat}{A:ArS α}{I bl M:List α}{O t:Tr α}{k:Nat}{W' Q:World}{i:ArS α}{F' B:Nat->Prop}(h:TH g F C W b most A I bl M O v k t W' i F')(hk:k<M.length)(hN:A.ps.length+M.length<=109951162500)
 (q1:∀x,F' x->B x)(q2:∀x,B x->F' x\/W'.heap.size<=x)(h1:Dl g B C Q b most (i.take ⟨M[k],0,0,0,0,0⟩))(m1:Mod (Fb F' b) W' Q)(S:EA g (I++M)) :
  AB prog g.fjoin [.pointer (some ⟨b,0,none⟩),.int .i64 t.root,.int .i64 i.num,.int .i64 (-1)] (fun v2 W2=>∃Y A2,v2=.int .i64 Y.root/\Mod (Fb B b) Q W2/\TH g F C W b most A I bl M O v (k+1) Y W2 A2 B) Q:=by
 have hl:=h.len;obtain⟨E,T,tok⟩:=ArS.Ra (⟨M[k],0,0,0,0,0⟩:Nd α) h.EH.ok;obtain⟨u1,u2,u3⟩:=kE.1 h.Ho;have nt:i.num∉t.idx:=fun e=>by
  obtain⟨m,hm⟩:=h.ht.has g.k.μ e;rw[T] at hm;cases hm
 have nb:i.num∉O.idx:=fun e=>by
  obtain⟨m,hm⟩:=h.hb.has g.k.μ e;rw[T] at hm;cases hm
 have a1:Tr.Holds g.k.μ (i.take ⟨M[k],0,0,0,0,0⟩).f t:=by rw[E];exact h.ht.out g.k.μ _ nt
 have a6:Tr.Holds g.k.μ (i.take ⟨M[k],0,0,0,0,0⟩).f O:=by rw[E];exact h.hb.out g.k.μ _ nb
 have a7:(i.take ⟨M[k],0,0,0,0,0⟩).f i.num=some ⟨M[k],0,0,0,0,0⟩:=by rw[E,Tr.KD]
 have U:Tr.GO (.node t i.num M[k] .nil):=Tr.BD.2 ⟨u1,mq,nt,(fun e=>nomatch e),fun q _ e=>nomatch e⟩;have ax:=QA i (⟨M[k],0,0,0,0,0⟩:Nd α);have a8:M.take (k+1)=M.take k++[M[k]]:=by rw[No];simp[hk]
 have eL:(Tr.node t i.num M[k] .nil).toL=I++M.take (k+1):=by rw[a8];simp only[Tr.toL,h.tt,PF]
 have ak:EA g (Tr.node t i.num M[k] .nil).toL:=by
  rw[eL];have e:I++M=(I++M.take (k+1))++M.drop (k+1):=by rw[PF,S9]
  rw[e] at S;exact S.app.1
 refine AA (GA (l:=t) (r:=.nil) (t.Df+(Tr.nil:Tr α).Df) (Lc _) h1 (by omega) a7 a1 trivial U ak) ?_;rintro _ W2 ⟨Y,A2,rfl,j⟩;have s1:=h.mod.size;have s2:=m1.size;have w1:Mod (Fb F b) W Q:=h.mod.next m1 fun x o e=>by
  rcases h.k2 x e.1 with e'|e'
  .exact⟨e',e.2⟩
  .omega
 have V:∀q∈O.idx,q∉(Tr.node t i.num M[k] .nil).idx:=fun q J e=>by
  simp only[Tr.idx,DN,I3,kV,mI] at e;rcases e with e|e
  .exact u3 q e q J rfl
  .exact nb (e▸J)
 have an:∀x,x<W.heap.size->B x->F x:=fun x o e=>by
  rcases q2 x e with e|e
  .rcases h.k2 x e with e|e
   .exact e
   .omega
  .omega
 have X:∀x,v.ownBlock=some x->¬B x:=fun x o e=>by
  rcases q2 x e with e|e
  .exact h.nF x o e
  .have:=(AE.BA h.row x o).2;omega
 refine⟨Y,A2,rfl,j.mod,fun x o=>q1 x (h.k1 x o),fun x o=>?_,j.EH,w1.next j.mod fun x o e=>⟨an x o e.1,e.2⟩,j.holds,a6.frame g.k.μ fun q J=>j.same q (V q J),?_,AE.G2 (AE.G2 h.row h.EH m1 h.nF) h1 j.mod X,X,j.toL.trans eL,h.tb,by rw[j.len];omega⟩
 .rcases q2 x o with e|e
  .exact h.k2 x e
  .exact .inr (by omega)
 .exact kE.2 ⟨j.idx.nodup_iff.2 U,u2,fun q J q' av e=>V q' av (e▸j.idx.mem_iff.1 J)⟩
variable {g:AvN α}
theorem Vg(l:List α)(p:Nat)(h:EA g.toAvT l):EA g.toAvT (g.k.split l p).1/\EA g.toAvT (g.k.split l p).2:=h.split p
def jF(g:AvK)(v0:Value)(K:Cont):Value->Value->Value->World->Prop:=fun a0 b0 t76 w8=>Ae t76 fun t77=>
  Aq [a0,(.int .i64 0)] (fun i j w9=>∀_:Env,
  Bb .i64 (nth i 1) t77 fun O=>
  AD O
  (BQ g.E t76 (nth i 1) fun Q=>
  Af g.E Q (fun S T=>
  Am g.te g.zE (fun I U=>
  Ac g.E I S (fun o=>
  Ay [8,9] [[],[],[],[2],[2,3],[2,3,4],[],[6],[2,3,4,5,6,7],[0,1,2,3,4,5,6,7,8],[0,1,2,3,4,5,6,7,8,9]] o.drew (fun M St=>
  AJ v0 fun V=>
  AM 3 V fun X=>
  BF (St 5) X fun Y=>
  EM (St 6) g.E I fun Z=>
  Ah [(0,g.E),(g.E,1),(g.E+1,1),(g.E+2,1),(g.E+3,1),(g.E+4,1)] g.zN [(0,Z)] fun a1=>
  AB prog g.aTake [Y,a1] (fun a6 B=>
  Mod (M 8) o.drew B/\
  AB prog g.fjoin [v0,(nth i 0),a6,(.int .i64 (-1))] (fun a7 J=>
  Mod (M 9) B J/\
  AX .i64 (nth i 1) (.int .i64 1) fun a8=>
  j [a7,a8] J) B) o.drew)) U) T) w9)
  (AB prog g.fconcat [v0,(nth i 0),b0] (fun ak al=>
  AJ v0 fun an=>
  AM 4 an fun av=>
  BC av ak (fun ax=>K (.tuple #[]) ax) al) w9)) w8
theorem PQ(g:AvK)(v0 v1 v2 v3:Value)(K:Cont)(w:World):QP g v0 v1 v2 v3 K w=iR g (jF g v0 K) v0 v1 v2 v3 w:=rfl
set_option maxRecDepth 4000 in
theorem Xl:Re g.toAvT:=by
 intro F C S W b i j A T v L h hs Z hu hv hS a1 hj a6 E a7;apply g.okN.replace;rw[PQ];refine QU dA gj af Vg h hs Z hu hv hS a1 hj a6 a7 ?_;intro a' b' mv W8 A8 F8 P;unfold jF;have Q:=HR g.k ((g.k.split T.toL i).1.getLast?.toList++L++(g.k.split (g.k.split T.toL i).2 (j-i)).2.head?.toList);have b7:(g.k.split T.toL i).1.getLast?.toList.length<=1:=by cases(g.k.split T.toL i).1.getLast?<;>simp
 have b8:(g.k.split (g.k.split T.toL i).2 (j-i)).2.head?.toList.length<=1:=by cases(g.k.split (g.k.split T.toL i).2 (j-i)).2.head?<;>simp
 rw[Bq,Bq] at Q;have U:=P.put;have V:(g.k.split T.toL i).1.dropLast++g.k.melded ((g.k.split T.toL i).1.getLast?.toList++L++(g.k.split (g.k.split T.toL i).2 (j-i)).2.head?.toList)++(g.k.split (g.k.split T.toL i).2 (j-i)).2.tail=g.k.Bw T.toL i j L:=rfl;generalize (g.k.split T.toL i).1.dropLast=al at U V;generalize (g.k.split (g.k.split T.toL i).2 (j-i)).2.tail=bl at U V;generalize g.k.melded ((g.k.split T.toL i).1.getLast?.toList++L++(g.k.split (g.k.split T.toL i).2 (j-i)).2.head?.toList)=M at U V Q;have a8:EA g.toAvT (al++M):=by rw[<-V] at E;exact E.app.1
 obtain⟨ma,mc,ak,_⟩:=U.row.shape;subst ak;rw[AP];refine Ab (fun vs W'=>∃(k:Nat) (t:Tr α) (A':ArS α) (F':Nat->Prop),k<=M.length/\vs=[.int .i64 t.root,.int .i64 k]/\TH g.toAvT F C W b T.root A al bl M b' (.slice ma M.length mc) k t W' A' F') (fun vs _=>M.length-Ds vs 1) ⟨0,a',A8,F8,Nn _,rfl,U⟩ ?_;rintro vs W9 ⟨k,t,A9,F9,hk,rfl,O⟩ _;simp only[GJ];refine H6 (fun b9=>?_) fun ba=>?_
 .have o:k<M.length:=by omega
  obtain ⟨q,r,rfl,hq,hr,hc,an⟩:=O.row.sl.get o;have av:=g.Rc.1 an;subst av;have B:=CQ (g:=g) M[k];refine AU o (Aj B (fun j u hu=>by rw [Addr.add_add];exact hc j u hu) ?_);refine Bx.new B g.zlen (cells_one (g:=g) M[k]) fun ax I b6 ay X=>?_;have gd:Grow I I.drew:=Mod.drew _ _;have g9:=ay.trans gd;have b0:=O.EH.grow g9;obtain ⟨c,pl,fr,hR⟩:=id b0;have bb:=O.len;have Y:=X.lt (by rw [B];exact g.Epos);have sd:=gd.size;refine Ai (fun _ y=>Fb F9 b y\/I.drew.heap.size<=y) ?_;refine AI ?_;rw [AG,AH];refine AY ⟨hR.box.cells 3 _ rfl,fun _ _ e=>by
   rcases e with e|e
   .exact e.2 rfl
   .have:=hR.box.lt (Ty _);simp only at e;omega⟩ ?_
  refine CU B (fun j v hv=>⟨by rw [AH];exact (X.grow gd).cells j v hv,fun _ _ e=>by
   rw[AH] at e;rcases e with e|e
   .have:=O.EH.lt ax (.inl e.1);omega
   .simp only at e;omega⟩) ?_
  refine⟨_,bg B M[k],?_⟩;refine AA (Lb hR (n:=⟨M[k],0,0,0,0,0⟩) (g.Rc.2 rfl) (by omega)) ?_;rintro _ bc ⟨rfl,F1,q1,q2,b3,J⟩;have s9:=g9.size;have bd:=J.size;refine⟨J.mono fun x _ e=>.inl e,?_⟩;refine AA (TH.step O o (by omega) q1 (fun x hx=>(q2 x hx).imp (fun h=>h) fun h=>by omega) b3 ((g9.mono fun _ _ h=>h.elim).trans J) a8) ?_;rintro _ bk ⟨t2,A2,rfl,b4,b5⟩;refine⟨b4.mono fun x _ e=>?_,?_⟩
  .rcases q2 x e.1 with e'|e'
   .exact .inl ⟨e',e.2⟩
   .exact .inr e'
  rw[AR,AO (by omega)];exact⟨⟨k+1,t2,A2,F1,o,rfl,b5⟩,by rw[BL,BL];omega⟩
 .have:k=M.length:=by omega
  subst this;refine AA (TH.done O (N:=L.length+4) (by omega) V E (by omega) h.fb) ?_;intro bn bp Z;exact Z
end
section
structure bL (g:AvK):Prop where
 split:∀{v0 v1 v2 K w},O2 g v0 v1 v2 K w->AB prog g.fsplit [v0,v1,v2] K w
 pick:∀{v0 v1 K w},XT g v0 v1 K w->AB prog g.fpick [v0,v1] K w
 melded:∀{v0 v1 K w},Pz g v0 v1 K w->AB prog g.fmelded [v0,v1] K w
 replace:∀{v0 v1 v2 v3 K w},N5 g v0 v1 v2 v3 K w->AB prog g.fReplace [v0,v1,v2,v3] K w
 over:∀{v0 v1 v2 v3 v4 K w},Rp g v0 v1 v2 v3 v4 K w->AB prog g.fover [v0,v1,v2,v3,v4] K w
structure Av1 (α:Type) extends AvT α where
 one1:one=true
 ok1:bL toAvK
 μ1:∀x,k.μ x=(1,0)
 meld0:∀x y,k.meld x y=none
 meldc:∀{C w r s x y},R C w r x->R C w s y->BM prog Dh vd [toAvK.enc r,toAvK.enc s] (fun v w'=>Grow w w'/\∃u,v=.tuple #[u,.bool false]) w
variable {α:Type}{g:Av1 α}
theorem E1:g.E=1:=g.E1 g.one1
theorem WR{r:List Value}{x:α}(h:g.R C w r x):r=[g.toAvK.enc r]:=by
 have hl:=g.rlen h;rw[E1] at hl;unfold AvK.enc;rw[g.one1];match r,hl with
 |[a],_=>rfl
theorem iB:RW g.toAvT:=by
 intro F C W b i T A n h E hi;apply g.ok1.pick;unfold XT;refine AA (RN h hi) ?_;rintro _ w2 ⟨r,rfl,hr,j⟩;refine Ag (g.field0 r (BY n) w2 (g.rlen hr) (g.rone hr) rfl) ?_;obtain⟨c,pl,fr,o⟩:=h.grow j;refine AI ?_;refine Bt (o.box.cells 3 _ rfl) ?_;refine AA (Lx o hi E) ?_;rintro _ U ⟨F',I,J,O,B⟩;have s2:=j.size;exact⟨r,rfl,g.BZ hr B fun z _ Q e=>h.Is z e.1 Q,F',I,fun x S=>(J x S).imp (fun h=>h) fun h=>by omega,O,(j.mono fun _ _ h=>h.elim).trans B⟩
theorem gG{a:Value}(ha:a.cells=#[a])(x:α):Instr.fill (fun i=>[(0,g.E),(g.E,1),(g.E+1,1),(g.E+2,1),(g.E+3,1),(g.E+4,1)][i]?) g.toAvK.zN.toArray [(0,a)]=some ([a]++BY (⟨x,0,0,0,0,0⟩:Nd α)).toArray:=by
 have j:=g.zlen;rw[DB (l:=g.toAvK.zN) (vs:=[a]) (off:=0) (len:=g.E) rfl ha E1.symm (by rw[IB];omega),FR,AvK.zN,Hp (by rw[j,E1];rfl)];rfl
set_option maxRecDepth 4000 in
theorem YE:MA g.toAvT:=by
 intro F C S W b rt A v l h hv hl hb;apply g.ok1.melded;unfold Pz;obtain⟨va,vc,rfl,hm⟩:=hv.shape;have an:=hv.GQ g.Epos;have av:∀y,C y->y<W.heap.size:=fun y o=>h.lt y (.inr o);rw[AP];refine Ab (fun vs W'=>∃(i:Nat) (out:Value),i<=l.length/\vs=[out,.int .i64 i]/\AE W.heap.size g.te g.E (g.R C) W' out (g.k.melded (l.take i))/\Grow W W') (fun vs _=>l.length-Ds vs 1)
  ⟨0,_,Nn _,rfl,AE.nil,Mod.refl _ _⟩ ?_
 rintro vs W1 ⟨i,out,hi,rfl,ho,T⟩ _;simp only[GJ];refine H6 (fun bb=>?_) fun ax=>?_;rotate_left
 .have:i=l.length:=by omega
  subst this;rw[Nr] at ho;exact⟨ho,T⟩
 have B:i<l.length:=by omega
 obtain⟨p,r,rfl,hS,hr,hc,Q⟩:=an.get B;have V:l.take (i+1)=l.take i++[l[i]]:=by rw[No];simp[B]
 have j:g.k.melded (l.take (i+1))=g.k.CN (g.k.melded (l.take i)) l[i]:=by rw[V,Kv]
 have a6:=HR g.k (l.take i);rw[Mp,kY hi] at a6;generalize hx:l[i]=x at Q j;generalize g.k.melded (l.take i)=L at ho j a6;have ay:g.k.CN L x=L++[x]:=by
  unfold Kd.CN;rw[g.μ1,C3 (by decide)];cases L.getLast? with
  |none=>rfl
  |some y=>simp only[g.meld0]
 have er:=WR Q;have I:=g.BZ Q T fun _ _ _ h=>h;have J:=g.rcell Q;generalize g.toAvK.enc r=a at er J;subst er;have b0:W1.cell? (p.add (i*g.E))=some a:=T.cell (by have:=hc 0 a rfl;rwa [kg] at this) fun h=>h;refine AU B (AK b0 ?_);obtain⟨c,pl,fr,hT⟩:=id h;have b3:=hT.mod T fun _ _ h=>h;refine AI ?_;rw[AG,AH,AG,AH];refine AK (b3.box.cells 0 _ rfl) ?_;have b4:∀{w},Grow W1 w->BM prog Dh g.vm [a] (fun v w'=>v=.tuple #[.int .i64 1,.int .i64 0]/\Grow w w') w:=fun{w} gw=>by
  have:=g.meas (C:=C) (w:=w) (x:=x) (g.BZ I gw fun _ _ _ h=>h);rw[g.μ1,show g.toAvK.enc [a]=a by unfold AvK.enc;rw[g.one1];rfl] at this;exact this
 refine .inl (Az (b4 (Mod.refl _ _)) ?_);rintro _ w4 ⟨rfl,g4⟩;refine BV ?_;rw[Al];refine AF (fun e=>by cases e) fun _=>?_;have O:=T.trans g4;have kR:∀{w w':World} {r:List Value} {y:α},Grow W w->Grow w w'->g.R C w r y->g.R C w' r y:=fun _ gw o=>g.BZ o gw fun _ _ _ h=>h;have X:AE W.heap.size g.te g.E (g.R C) w4 out L:=AE.mod ho g4 (fun _ _ h=>h) fun r y _ o=>kR T g4 o;have bc:l.length<=109951162777:=hl;refine AT (fun _ W'=>Grow w4 W') ?_ ?_
 .rintro _ W6 g6 _;have Y:AE W.heap.size g.te g.E (g.R C) W6 out L:=AE.mod X g6 (fun _ _ h=>h) fun r y _ o=>kR O g6 o;have Z:=O.trans g6;have b5:=g.eb_le;have a7:=DW (v:=a) (vs:=[a]) g.zlen g.Epos J (by rw[E1];rfl);refine Dr g.elE Y Z.size (cs:=[a]) (x:=x) a7 (by rw[E1];rfl) (kR T (g4.trans g6) I) (fun _ _ _ o=>g.rone o) (fun w1 w2 r y hw hm o=>g.BZ o hm fun z hz hC e=>?_) ?_ (by simp only[maxLen];omega) fun v' w7 b6 m7 bd=>?_
  .have:=av z hC;rcases e with e|e
   .have:=(AE.BA Y z e).1;omega
   .have:=Z.size;omega
  .have:(L.length+1)*g.eb<=(L.length+1)*512:=nN _ b5;omega
  rw[AR,AO (by omega)];refine⟨⟨i+1,v',B,rfl,by rw[j,ay];exact b6,Z.next m7 fun y o e=>by have:=(AE.BA Y y e).1;omega⟩,by rw[BL,BL];omega⟩
 obtain⟨oa,oc,rfl,bk,bl,b7,b8⟩:=X.shape;rw[AP,Av,wrap64 (by omega) (by omega),DX];refine AF (fun ax=>?_) fun bn=>Mod.refl _ _;have a8:0<L.length:=by omega
 have ak:L.length-1<L.length:=by omega
 cases oa with
 |none=>have:=b8 rfl;rw[this] at a8;simp at a8
 |some q=>
  obtain⟨gb,rfl,bp,bs,bx⟩:=b7 q rfl;have en:((L.length:Int)-1)=((L.length-1:Nat):Int):=by omega
  rw[en];have gd:Grow w4 w4.drew:=Mod.drew _ _;have b9:=hT.mod (O.trans gd) fun _ _ h=>h;have hd:=(AE.mod (R':=g.R C) X gd (fun _ _ h=>h) fun r y _ o=>kR O gd o).sl;obtain⟨q',r',e',c4,c6,ba,U⟩:=hd.get ak;cases e';have al:=WR U;have a1:=fun{w:World} (gw:Grow w4.drew w)=>g.meldc (C:=C) (w:=w) (kR (O.trans gd) gw U) (kR T ((g4.trans gd).trans gw) I);rw[show g.toAvK.enc [a]=a by unfold AvK.enc;rw[g.one1];rfl] at a1;generalize g.toAvK.enc r'=a' at al a1;subst al;refine Ai (fun _ _=>False) ?_;refine AI ?_;rw[AG,AH,AG,AH];refine AY ⟨b9.box.cells 2 _ rfl,fun _ _ e=>e⟩ ?_;refine AU ak ?_;refine AY ⟨by have:=ba 0 a' rfl;rwa [kg] at this,fun _ _ e=>e⟩ ?_;refine Az (a1 (Mod.refl _ _)) ?_;rintro _ w8 ⟨g8,u,rfl⟩;refine⟨g8.mono fun _ _ h=>h.elim,BV ?_⟩;exact AV (gd.trans g8)
end
section
variable {α:Type}{g:Av1 α}
set_option maxRecDepth 4000 in
theorem cJ:OY g.toAvT:=by
 intro C b rt t;induction t with
 |nil=>
  intro F W A p h hs _ _ _ _;apply g.ok1.split;unfold O2;simp only[Tr.root];rw[Al];refine AF (fun _=>?_) fun e=>(e rfl).elim;exact⟨.nil,.nil,A,rfl,⟨⟨F,fun _ h=>h,fun _ h=>.inl h,h,Mod.refl _ _⟩,rfl,rfl,trivial,trivial,mq,(fun q I=>nomatch I),fun _ _ _=>rfl,qZ _⟩⟩
 |node l i x r ay b0=>
  intro F W A p h hs hh hu hb hp;obtain⟨hl,hr,hi⟩:=id hh;obtain⟨u1,u2,u3,u4,u5⟩:=Tr.BD.1 hu;have O:=g.k.Mh l.toL r.toL x p;have b3:=hb.1;have b4:=hb.2;simp only[Tr.toL,Tr.CT,Tr.Ba] at b3;simp only[Tr.toL,Tr.Fy,Tr.Cy] at b4;have nF:∀{z:Nat},W.heap.size<=z->∀x,F x\/C x->x≠z:=fun hz x X e=>by have:=h.lt x X;omega
  apply g.ok1.split;unfold O2;simp only[Tr.root];rw[Al];refine AF (fun e=>by omega) fun _=>?_;refine Dt h hi fun rc bx w3 g3 a8 B ak=>?_;have Q:=g.rlen ak;have h3:=h.grow g3;refine Bt (B.cells (g.E+0) _ (by rw[AZ Q];rfl)) ?_;refine AA (CB h3 hl) ?_;rintro _ w5 ⟨rfl,g5⟩;refine Kh ?_;have Y:Grow w5 w5.drew:=Mod.drew _ _;have al:=(g3.trans g5).trans Y;obtain⟨c,pl,fr,hT⟩:=id h;have b5:=hT.mod al fun _ _ h=>h;have B5:=(B.grow g5).grow Y;refine Ai (fun _ _=>False) ?_;refine AI ?_;rw[AG,AH,AG,AH];refine AY ⟨b5.box.cells 0 _ rfl,fun _ _ e=>e⟩ ?_;rw[AG,AH];refine JI (g:=g.toAvT) (r:=rc) Q (fun j v hv=>⟨B5.cells j v (by rw[Q0 (Bp.1 hv).1];exact hv),fun _ _ e=>e⟩) ?_;refine Az (g.meas (C:=C) (x:=x) (g.BZ ak ((g5.trans Y)) fun _ _ _ h=>h)) ?_;rintro _ w6 ⟨rfl,g6⟩;refine⟨g6.mono fun _ _ h=>h.elim,?_⟩;refine BV ?_;have V:=al.trans g6;have b9:=V.size;have h6:=h.grow V;have B6:=B5.grow g6;rw[IJ];refine AF (fun ba=>?_) fun b8=>?_
  .have an:p<=Tr.sz g.k.μ l.toL:=by omega
   rw[Io an] at O;refine Bt (B6.cells (g.E+0) _ (by rw[AZ Q];rfl)) ?_;refine AA (ay h6 hs hl u1 hb.app.1 hp) ?_;rintro _ w8 ⟨a,c1,A1,rfl,o⟩;refine BV ?_;obtain⟨F1,k1,k2,h8,Z⟩:=o.fy;have B8:=B6.mod Z fun e=>nF a8 bx (.inl e.1) rfl;refine Bt (B8.cells (g.E+1) _ (by rw[AZ Q];rfl)) ?_;obtain⟨e1,e2,e3,e4⟩:=IP o hi hr hu;have a1:EA g.toAvT (Tr.node c1 i x r).toL:=by
    obtain⟨q1,q2⟩:=FA (g:=g.toAvT) l.toL p;constructor
    .simp only[Tr.toL,Tr.CT,Tr.Ba,o.r1];omega
    .simp only[Tr.toL,Tr.Fy,Tr.Cy,o.r1];omega
   have b6:=o.len;refine AA (GA (c1.Df+r.Df) (Lc _) h8 (by omega) e1 o.hr e2 e3 a1) ?_;rintro _ b7 ⟨t2,A2,rfl,J⟩;have perm:=J.idx;have sm:∀q,q∈t2.idx↔q∈(Tr.node c1 i x r).idx:=fun q=>J.idx.mem_iff;have s8:=Z.size;refine⟨a,t2,A2,rfl,⟨⟨F1,k1,fun x X=>(k2 x X).imp (fun h=>h) fun h=>by omega,J.EH,((V.mono fun _ _ h=>h.elim).trans Z).next J.mod fun x X e=>?_⟩,?_,?_,o.hl.frame g.k.μ fun q I=>J.same q (e4 q I),J.holds,?_,fun q I=>?_,fun q S T=>?_,by rw[J.len];omega⟩⟩
   .rcases k2 x e.1 with e'|e'
    .exact⟨e',e.2⟩
    .omega
   .rw[o.l1];simp only[Tr.toL,O]
   .rw[J.toL];simp only[Tr.toL,Tr.EC,o.r1,O]
   .exact kE.2 ⟨(kE.1 o.Ho).1,J.idx.nodup_iff.2 e3,fun q I q' a6 e=>e4 q I (e▸(sm q').1 a6)⟩
   .rcases DN.1 I with I|I
    .rcases o.idx q (i7 _ I) with e|e
     .exact .inl (by simp[Tr.idx,e])
     .exact .inr e
    .have:=(sm q).1 I;simp only[Tr.idx,DN,I3] at this ⊢;rcases this with e|e|e
     .rcases o.idx q (kB _ e) with e|e
      .exact .inl (.inl e)
      .exact .inr e
     .exact .inl (.inr (.inl e))
     .exact .inl (.inr (.inr e))
   .simp only[Tr.idx,DN,I3,qF] at S;have U:q∉(Tr.node c1 i x r).idx:=fun e=>T (kB _ ((sm q).2 e));refine(J.same q U).trans (o.same q S.1 fun e=>?_);rcases DN.1 e with e|e
    .exact T (i7 _ e)
    .exact U (by simp[Tr.idx,e])
  have a7:¬p<=Tr.sz g.k.μ l.toL:=by omega
  rw[C3 a7] at O;refine CK (by omega) ?_;rw[DX];refine AF (fun bb=>?_) fun av=>?_
  .have ax:Tr.sz g.k.μ l.toL+(g.k.μ x).1<=p:=by omega
   rw[Io ax] at O;refine Bt (B6.cells (g.E+1) _ (by rw[AZ Q];rfl)) ?_;refine Gz (by omega) (by omega) (Gz (by omega) (by omega) ?_);refine AA (b0 h6 hs hr u2 hb.app.2.cons.1 (p:=p-Tr.sz g.k.μ l.toL-(g.k.μ x).1) (by omega)) ?_;rintro _ w8 ⟨a,c1,A1,rfl,o⟩;refine BV ?_;obtain⟨F1,k1,k2,h8,Z⟩:=o.fy;have B8:=B6.mod Z fun e=>nF a8 bx (.inl e.1) rfl;refine Bt (B8.cells (g.E+0) _ (by rw[AZ Q];rfl)) ?_;obtain⟨e1,e2,e3,e4⟩:=Hk o hi hl hu;have a1:EA g.toAvT (Tr.node l i x a).toL:=by
    obtain⟨q1,q2⟩:=FA (g:=g.toAvT) r.toL (p-Tr.sz g.k.μ l.toL-(g.k.μ x).1);constructor
    .simp only[Tr.toL,Tr.CT,Tr.Ba,o.l1];omega
    .simp only[Tr.toL,Tr.Fy,Tr.Cy,o.l1];omega
   have b6:=o.len;refine AA (GA (l.Df+a.Df) (Lc _) h8 (by omega) e1 e2 o.hl e3 a1) ?_;rintro _ b7 ⟨t2,A2,rfl,J⟩;have sm:∀q,q∈t2.idx↔q∈(Tr.node l i x a).idx:=fun q=>J.idx.mem_iff;have s8:=Z.size;refine⟨t2,c1,A2,rfl,⟨⟨F1,k1,fun x X=>(k2 x X).imp (fun h=>h) fun h=>by omega,J.EH,((V.mono fun _ _ h=>h.elim).trans Z).next J.mod fun x X e=>?_⟩,?_,?_,J.holds,o.hr.frame g.k.μ fun q I=>J.same q (e4 q I),?_,fun q I=>?_,fun q S T=>?_,by rw[J.len];omega⟩⟩
   .rcases k2 x e.1 with e'|e'
    .exact⟨e',e.2⟩
    .omega
   .rw[J.toL];simp only[Tr.toL,Tr.EC,o.l1,O]
   .rw[o.r1];simp only[Tr.toL,O]
   .exact kE.2 ⟨J.idx.nodup_iff.2 e3,(kE.1 o.Ho).2.1,fun q I q' a6 e=>e4 q' a6 (e▸(sm q).1 I)⟩
   .rcases DN.1 I with I|I
    .have:=(sm q).1 I;simp only[Tr.idx,DN,I3] at this ⊢;rcases this with e|e|e
     .exact .inl (.inl e)
     .exact .inl (.inr (.inl e))
     .rcases o.idx q (i7 _ e) with e|e
      .exact .inl (.inr (.inr e))
      .exact .inr e
    .rcases o.idx q (kB _ I) with e|e
     .exact .inl (by simp[Tr.idx,e])
     .exact .inr e
   .simp only[Tr.idx,DN,I3,qF] at S;have U:q∉(Tr.node l i x a).idx:=fun e=>T (i7 _ ((sm q).2 e));refine(J.same q U).trans (o.same q S.2.2 fun e=>?_);rcases DN.1 e with e|e
    .exact U (by simp[Tr.idx,e])
    .exact T (kB _ e)
  exfalso;have:=g.μ1 x;rw[this] at av;omega
def gF(g:AvK)(v0:Value)(K:Cont):Value->Value->Value->World->Prop:=fun a0 b0 t76 w8=>Ae t76 fun t77=>
  Aq [a0,(.int .i64 0)] (fun i j w9=>∀_:Env,
  Bb .i64 (nth i 1) t77 fun o=>
  AD o
  (BQ g.E t76 (nth i 1) fun B=>
  AL B (fun I J=>
  AJ v0 fun O=>
  AM 3 O fun Q=>
  AL Q (fun S T=>
  Ah [(0,g.E),(g.E,1),(g.E+1,1),(g.E+2,1),(g.E+3,1),(g.E+4,1)] g.zN [(0,I)] fun U=>
  AB prog g.aTake [S,U] (fun V X=>
  AB prog g.fjoin [v0,(nth i 0),V,(.int .i64 (-1))] (fun Y Z=>
  AX .i64 (nth i 1) (.int .i64 1) fun a1=>
  j [Y,a1] Z) X) T) J) w9)
  (AB prog g.fconcat [v0,(nth i 0),b0] (fun a6 a7=>
  AJ v0 fun a8=>
  AM 4 a8 fun ak=>
  BC ak a6 (fun al=>K (.tuple #[]) al) a7) w9)) w8
theorem Ox(g:AvK)(v0 v1 v2 v3:Value)(K:Cont)(w:World):N5 g v0 v1 v2 v3 K w=iR g (gF g v0 K) v0 v1 v2 v3 w:=rfl
set_option maxRecDepth 4000 in
theorem SL:Re g.toAvT:=by
 intro F C S W b i j A T v L h hs V hu hv hS X hj Y E Z;apply g.ok1.replace;rw[Ox];refine QU cJ iB YE (fun l p h=>h.split p) h hs V hu hv hS X hj Y Z ?_;intro a' b' mv W8 A8 F8 P;unfold gF;have J:=HR g.k ((g.k.split T.toL i).1.getLast?.toList++L++(g.k.split (g.k.split T.toL i).2 (j-i)).2.head?.toList);have an:(g.k.split T.toL i).1.getLast?.toList.length<=1:=by cases(g.k.split T.toL i).1.getLast?<;>simp
 have av:(g.k.split (g.k.split T.toL i).2 (j-i)).2.head?.toList.length<=1:=by cases(g.k.split (g.k.split T.toL i).2 (j-i)).2.head?<;>simp
 rw[Bq,Bq] at J;have O:=P.put;have Q:(g.k.split T.toL i).1.dropLast++g.k.melded ((g.k.split T.toL i).1.getLast?.toList++L++(g.k.split (g.k.split T.toL i).2 (j-i)).2.head?.toList)++(g.k.split (g.k.split T.toL i).2 (j-i)).2.tail=g.k.Bw T.toL i j L:=rfl;generalize (g.k.split T.toL i).1.dropLast=al at O Q;generalize (g.k.split (g.k.split T.toL i).2 (j-i)).2.tail=bl at O Q;generalize g.k.melded ((g.k.split T.toL i).1.getLast?.toList++L++(g.k.split (g.k.split T.toL i).2 (j-i)).2.head?.toList)=M at O Q J;have a1:EA g.toAvT (al++M):=by rw[<-Q] at E;exact E.app.1
 obtain⟨ma,mc,a6,_⟩:=O.row.shape;subst a6;rw[AP];refine Ab (fun vs W'=>∃(k:Nat) (t:Tr α) (A':ArS α) (F':Nat->Prop),k<=M.length/\vs=[.int .i64 t.root,.int .i64 k]/\TH g.toAvT F C W b T.root A al bl M b' (.slice ma M.length mc) k t W' A' F') (fun vs _=>M.length-Ds vs 1) ⟨0,a',A8,F8,Nn _,rfl,O⟩ ?_;rintro vs W9 ⟨k,t,A9,F9,hk,rfl,U⟩ _;simp only[GJ];refine H6 (fun ax=>?_) fun ay=>?_
 .have o:k<M.length:=by omega
  obtain⟨q,r,rfl,hq,hr,hc,I⟩:=U.row.sl.get o;have er:=WR I;have B:=g.rcell I;generalize g.toAvK.enc r=a at er B;subst er;have b0:=U.len;refine AU o (AK (by have:=hc 0 a rfl;rwa [kg] at this) ?_);obtain⟨c,pl,fr,hR⟩:=id U.EH;refine AI ?_;refine Bt (hR.box.cells 3 _ rfl) ?_;refine⟨_,gG B M[k],?_⟩;refine AA (Lb hR (n:=⟨M[k],0,0,0,0,0⟩) I (by omega)) ?_;rintro _ b3 ⟨rfl,F1,q1,q2,a7,a8⟩;refine AA (TH.step U o (by omega) q1 q2 a7 a8 a1) ?_;rintro _ b4 ⟨t2,A2,rfl,b5,ak⟩;rw[AR,AO (by omega)];exact⟨⟨k+1,t2,A2,F1,o,rfl,ak⟩,by rw[BL,BL];omega⟩
 .have:k=M.length:=by omega
  subst this;refine AA (TH.done U (N:=L.length+4) (by omega) Q E (by omega) h.fb) ?_;intro b6 b7 V;exact V
end
theorem AE.heap{B e k:Nat}{R R':World->List Value->α->Prop}{l:List α}(h:AE B e k R w v l)(O:∀g,v.ownBlock=some g->w'.heap[g]?=w.heap[g]?)(Q:∀r x,x∈l->R w r x->R' w' r x):AE B e k R' w' v l:=by
 obtain⟨rows,h1,S,T,U⟩:=h;refine⟨rows,⟨h1.1,?_⟩,S,T,fun i r x hr J=>Q r x (kx J) (U i r x hr J)⟩;rcases h1.2 with V|⟨g,o,E,rfl,hb,I,j⟩
 .exact .inl V
 .refine .inr ⟨g,o,E,rfl,hb,?_,j⟩;rw[O g rfl];exact I
theorem Bx.heap{b:Nat}(h:Bx W b vs)(i:W'.heap[b]?=W.heap[b]?):Bx W' b vs:=by
 refine⟨fun j v o=>(lO (w:=W) i).trans (h.cells j v o),fun j B=>?_⟩;obtain⟨h1,E⟩:=h.live j B;exact⟨by rw[lO (w:=W) i];exact h1,(qD i).trans E⟩
section
variable {α:Type}{g:AvT α}
theorem Ot.heap{r:List Value}{o:Option (Nd α)}(h:Ot g C w r o)(i:∀y,y<w.heap.size->C y->w'.heap[y]?=w.heap[y]?):Ot g C w' r o:=by
 cases o with
 |none=>exact h
 |some n=>obtain⟨x,rfl,j⟩:=h;exact⟨x,rfl,g.rheap j i⟩
theorem Ii.heap{A:ArS α}{pl fr:Value}(h:Ii g F C W c A pl fr)(B:∀x,F x\/C x->W'.heap[x]?=W.heap[x]?)(E:W.heap.size<=W'.heap.size):Ii g F C W' c A pl fr:=by
 have I:Bx W c [pl,fr]:=⟨h.cells,h.live⟩;have i:=I.heap (B c (.inl h.fc));exact⟨i.cells,i.live,AE.heap h.GR (fun x j=>B x (.inl (h.pF x j).1)) fun r o _ J=>J.heap fun y _ O=>B y (.inr O),AE.heap h.KE (fun x j=>B x (.inl (h.fF x j).1)) fun _ _ _ h=>h,h.ok,h.fc,h.pF,h.fF,h.Is,fun x j=>WL (h.lt x j) E⟩
theorem Dl.heap{b:Nat}{i:Int}{A:ArS α}(h:Dl g F C W b i A)(j:∀x,F x\/C x->W'.heap[x]?=W.heap[x]?)(o:W.heap.size<=W'.heap.size):Dl g F C W' b i A:=by
 obtain⟨c,pl,fr,h⟩:=h;exact⟨c,pl,fr,h.box.heap (j b (.inl h.fb.1)),h.ar.heap (fun x B=>j x (B.imp (fun h=>h.1) fun h=>h)) o,h.fb⟩
structure PD (P:Program) (l:Nat) (J:Nat->(Nat->Prop)->World->Prop) (Jx:(Nat->Prop)->World->Prop) (w:World) (Rd:Nat->Prop) (encs:Nat->List Value) (N:Nat):Prop where
 hJ:∀k It It' W W',J k It W->Grow W W'->(∀b,It' b->(It b\/W.heap.size<=b)/\b<W'.heap.size)->J k It' W'
 Rq:∀It It' W W',Jx It W->Grow W W'->(∀b,It' b->(It b\/W.heap.size<=b)/\b<W'.heap.size)->Jx It' W'
 J8:∀k It W,J k It W->∀b,b<w.heap.size->Rd b->W.heap[b]?=w.heap[b]?
 fz:∀k It W,k<N->J k It W->Li P l (encs k) (fun v W'=>W.heap.size<=W'.heap.size/\(∀b,It b->W'.heap[b]?=W.heap[b]?)/\Quiet W W'/\((v=.bool true/\J (k+1) It W')\/(v=.bool false/\Jx It W'))) W
def Px(J:Nat->(Nat->Prop)->World->Prop)(o:(Nat->Prop)->World->Prop)(k:Nat)(j:Nat->Prop)(W:World)(v:Value)(W':World):Prop:=
 W.heap.size<=W'.heap.size/\(∀b,j b->W'.heap[b]?=W.heap[b]?)/\Quiet W W'/\∃i,(∀b,j b->i b)/\(∀b,i b->b<W'.heap.size)/\((v=.bool true/\J k i W')\/(v=.bool false/\o i W'))
theorem PD.ofSeq{S:Nat}{E:List Value}{i:Nat->List Value}{N:Nat}
 (h:∀l J I o,Grow w o->PD P l J I w F i N->J 0 (fun _=>False) o->w.heap.size<=o.heap.size->AB P S (.func (.yield l) #[] #[]::E) (fun _ W'=>∃B,J N B W'\/I B W') o):K5 True P S E i N F w:=by
 intro l J I o U h0 hJ Rq J8 hr;refine h l J I o U ⟨fun k B j W W' h1 O Q=>hJ k B j W W' h1 (O.mono fun _ _ e=>e.elim) Q,fun B j W W' h1 O Q=>Rq B j W W' h1 (O.mono fun _ _ e=>e.elim) Q,J8,hr⟩ h0 U.size
end
section
variable {α:Type}{g:AvN α}
theorem NX(k:Kd α)(l:List α)(j:Nat)(h:Tr.sz k.μ l<=i):k.over l i j=[]:=by
 rw[<-k.MM,k.Ed _ (by omega)]
set_option maxRecDepth 4000 in
theorem gX{b l N:Nat}{A:ArS α}{J:Nat->(Nat->Prop)->World->Prop}{Jx:(Nat->Prop)->World->Prop}{U:Nat->List Value}(hw:Dl g.toAvT F C w b most A)(hs:A.ps.length<=109951162777)(H:PD prog l J Jx w (fun x=>F x\/C x) U N) :
  ∀(t:Tr α) (i j Y:Nat) (O:Nat->Prop) (W:World),Tr.Holds g.k.μ A.f t->EA g.toAvT t.toL->i<=1099511627776->j<=1099511627776->J Y O W->w.heap.size<=W.heap.size->(∀x,O x->x<W.heap.size)->Y+(g.k.over t.toL i j).length<=N->(∀m (hm:m<(g.k.over t.toL i j).length),U (Y+m)=[.agg (g.cells (g.k.over t.toL i j)[m]).toArray])->
   AB prog g.fover [.pointer (some ⟨b,0,none⟩),.int .i64 t.root,.int .i64 (i:Int),.int .i64 (j:Int),.func (.yield l) #[] #[]] (Px J Jx (Y+(g.k.over t.toL i j).length) O W) W:=by
 intro t;induction t with
 |nil=>
  intro i j Y O W _ _ _ _ hJ hz ax _ _;apply g.okN.over;unfold VF;simp only[Tr.root];refine AT (fun _ _=>False) (fun _ _ h=>h.elim) ?_;rw[Al];refine AF (fun _=>?_) fun e=>(e rfl).elim;exact⟨Lc _,fun _ _=>rfl,⟨rfl,rfl,rfl⟩,O,fun _ h=>h,ax,.inl ⟨rfl,hJ⟩⟩
 |node lt q x b8 ew eA=>
  intro i j Y O W hh hb hi hj hJ hz ax hN Q;obtain⟨hl,hr,hq⟩:=id hh;have eL:(Tr.node lt q x b8).toL=lt.toL++x::b8.toL:=rfl;rw[eL] at hb hN Q ⊢;have eB:=hb.1;simp only[Tr.CT,Tr.Ba] at eB;rw[g.k.Qd] at hN Q ⊢;apply g.okN.over;unfold VF;simp only[Tr.root];refine AT (fun _ W'=>W'=W/\i<j) ?_ ?_;rotate_left
  .rw[Al];refine AF (fun e=>by omega) fun _=>?_;rw[DX];refine AF (fun e=>?_) fun e=>⟨rfl,by omega⟩;rw[g.k.Ed _ (by omega:j<=i),g.k.Ed _ (by omega:j-Tr.sz g.k.μ lt.toL<=i-Tr.sz g.k.μ lt.toL)];exact⟨Lc _,fun _ _=>rfl,⟨rfl,rfl,rfl⟩,O,fun _ h=>h,ax,.inl ⟨rfl,hJ⟩⟩
  rintro _ W' ⟨rfl,gA⟩ _;rename World=>W
  have EH:∀{k O W'},J k O W'->w.heap.size<=W'.heap.size->Dl g.toAvT F C W' b most A:=fun{k O W'} h1 h2=>hw.heap (fun y o=>H.J8 k O W' h1 y (hw.lt y o) o) h2;refine Dt (EH hJ hz) hq fun rc S w4 g4 gf B c4=>?_;have b9:=g.rlen c4;have bn:=g.Rc.1 c4;have eC:=(EH hJ hz).grow g4;refine Bt (B.cells (g.E+0) _ (by rw[AZ b9];rfl)) ?_;refine AA (CB eC hl) ?_;rintro _ w6 ⟨rfl,g6⟩;refine Kh ?_;have e4:Grow w6 w6.drew:=Mod.drew _ _;have e5:=(g4.trans g6).trans e4;obtain⟨c,pl,fr,hT⟩:=(EH hJ hz).grow e5;have B6:=(B.grow g6).grow e4;refine Ai (fun _ _=>False) ?_;refine AI ?_;rw[AG,AH,AG,AH];refine AY ⟨hT.box.cells 0 _ rfl,fun _ _ e=>e⟩ ?_;rw[AG,AH];refine JI (g:=g.toAvT) (r:=rc) b9 (fun j v hv=>⟨B6.cells j v (by rw[Q0 (Bp.1 hv).1];exact hv),fun _ _ e=>e⟩) ?_;refine Az (g.meas (C:=C) (x:=x) (g.Rc.2 bn)) ?_;rintro _ w7 ⟨rfl,g7⟩;refine⟨g7.mono fun _ _ h=>h.elim,?_⟩;refine BV ?_;have al:=e5.trans g7;have B7:=B6.grow g7;have et:=B7.lt (by rw[BI _ c4];omega);have gB:=al.size;have ay:∀y,(O y\/y=S)->(O y\/W.heap.size<=y)/\y<w7.heap.size:=fun y o=>by
   rcases o with o|o
   .have:=ax y o;exact⟨.inl o,by omega⟩
   .exact⟨.inr (by omega),by omega⟩
  have e6:=H.hJ Y O (fun y=>O y\/y=S) W w7 hJ al ay;have eI:∀y,O y->w7.heap[y]?=W.heap[y]?:=fun y o=>al.same y (ax y o) fun h=>h;obtain⟨Z,c6⟩:∃X,X=g.k.over lt.toL i j:=⟨_,rfl⟩;obtain⟨V,c7⟩:∃V,V=i-Tr.sz g.k.μ lt.toL:=⟨_,rfl⟩;obtain⟨j',ba⟩:∃j',j'=j-Tr.sz g.k.μ lt.toL:=⟨_,rfl⟩;obtain⟨X2,c8⟩:∃X,X=(if V<min j' (g.k.μ x).1 then[g.k.part x V (min j' (g.k.μ x).1)] else[]):=⟨_,rfl⟩;obtain⟨X3,an⟩:∃X,X=g.k.over b8.toL (V-(g.k.μ x).1) (j'-(g.k.μ x).1):=⟨_,rfl⟩;have eX:g.k.over lt.toL i j++g.k.over (x::b8.toL) (i-Tr.sz g.k.μ lt.toL) (j-Tr.sz g.k.μ lt.toL)=Z++(X2++X3):=by rw[c6,c8,an,c7,ba];rfl
  rw[eX] at hN Q ⊢;simp only[Bq] at hN;have c9:∀m (hm:m<Z.length),U (Y+m)=[.agg (g.cells Z[m]).toArray]:=fun m hm=>by
   rw[Q m (by simp;omega)];simp[mK hm]
  have ca:∀m (hm:m<X2.length),U (Y+Z.length+m)=[.agg (g.cells X2[m]).toArray]:=fun m hm=>by
   have:=Q (Z.length+m) (by simp;omega);rw[mB,this];simp[ln,mK hm]
  have cc:∀m (hm:m<X3.length),U (Y+Z.length+X2.length+m)=[.agg (g.cells X3[m]).toArray]:=fun m hm=>by
   have:=Q (Z.length+(X2.length+m)) (by simp;omega);rw[show Y+Z.length+X2.length+m=Y+(Z.length+(X2.length+m)) by omega,this];simp[ln]
  let St:Nat->World->Prop:=fun k W'=>∃I,(∀y,O y->I y)/\I S/\(∀y,I y->y<W'.heap.size)/\J k I W'/\(w7.heap.size<=W'.heap.size/\Quiet w7 W')/\(∀y,O y\/y=S->W'.heap[y]?=w7.heap[y]?)
  have done:∀{k W'} (v:Value) (I:Nat->Prop),(∀y,O y->I y)->(∀y,I y->y<W'.heap.size)->w7.heap.size<=W'.heap.size/\Quiet w7 W'->(∀y,O y->W'.heap[y]?=w7.heap[y]?)->((v=.bool true/\J k I W')\/(v=.bool false/\Jx I W'))->Px J Jx k O W v W':=fun v I h1 h2 h3 h4 h5=>
   ⟨by omega,fun y o=>(h4 y o).trans (eI y o),Quiet.trans ⟨al.os,al.tape,al.output⟩ h3.2,I,h1,h2,h5⟩
  refine AT (fun _ W'=>St (Y+Z.length) W') ?_ ?_;rotate_left
  .refine H6 (fun e7=>?_) fun e8=>?_
   .refine Bt (B7.cells (g.E+0) _ (by rw[AZ b9];rfl)) ?_;rw[HY];have em:(if((Tr.sz g.k.μ lt.toL:Nat):Int)<(j:Int) then((Tr.sz g.k.μ lt.toL:Nat):Int) else(j:Int))=((min j (Tr.sz g.k.μ lt.toL):Nat):Int):=by split<;>omega
    rw[em];have ak:g.k.over lt.toL i (min j (Tr.sz g.k.μ lt.toL))=Z:=by rw[c6,g.k.MM]
    refine AA (ew i (min j (Tr.sz g.k.μ lt.toL)) Y (fun y=>O y\/y=S) w7 hl hb.app.1 hi (by omega) e6 (by omega) (fun y o=>(ay y o).2) (by rw[ak];omega) (fun m hm=>?_)) ?_
    .have cd:m<Z.length:=by rw[<-ak];exact hm
     rw[c9 m cd];simp only[ak]
    rw[ak];rintro v W2 ⟨z1,z2,zq,I,q1,q2,q3⟩;rcases q3 with⟨rfl,ch⟩|⟨rfl,ch⟩
    .rw[Ar];exact AV ⟨I,fun y o=>q1 y (.inl o),q1 S (.inr rfl),q2,ch,⟨z1,zq⟩,z2⟩
    .rw[Ar];exact As (done (.bool false) I (fun y o=>q1 y (.inl o)) q2 ⟨z1,zq⟩ (fun y o=>z2 y (.inl o)) (.inr ⟨rfl,ch⟩))
   .have e0:Z=[]:=by rw[c6];exact NX g.k lt.toL j (by omega)
    rw[e0];exact⟨fun y=>O y\/y=S,fun y o=>.inl o,.inr rfl,fun y o=>(ay y o).2,e6,⟨Lc _,rfl,rfl,rfl⟩,fun _ _=>rfl⟩
  rintro _ W8 ⟨a6,a1,a2,a3,cn,z8,T⟩ _;have B8:=B7.heap (T S (.inr rfl));rw[Av,wrap64 (by omega) (by omega),G1];have eN:(if(0:Int)>(i:Int)-((Tr.sz g.k.μ lt.toL:Nat):Int) then(0:Int) else(i:Int)-((Tr.sz g.k.μ lt.toL:Nat):Int))=(V:Int):=by rw[c7];split<;>omega
  rw[eN,Av,wrap64 (by omega) (by omega),HY];obtain⟨to,cv⟩:∃to:Int,to=(if(((g.k.μ x).1:Nat):Int)<(j:Int)-((Tr.sz g.k.μ lt.toL:Nat):Int) then(((g.k.μ x).1:Nat):Int) else(j:Int)-((Tr.sz g.k.μ lt.toL:Nat):Int)):=⟨_,rfl⟩;rw[<-cv];have bp:(V:Int)<to↔V<min j' (g.k.μ x).1:=by rw[cv,ba];split<;>omega
  have e9:V<min j' (g.k.μ x).1->to=((min j' (g.k.μ x).1:Nat):Int):=fun h=>by rw[cv,ba];split<;>omega
  refine AT (fun _ W'=>St (Y+Z.length+X2.length) W') ?_ ?_
  .rintro _ W9 ⟨ea,c1,c2,c3,ec,z9,a7⟩ _;refine CK (by omega) ?_;rw[IJ];refine AF (fun gW=>?_) fun h0=>?_
   .have e3:X3=[]:=by rw[an];exact g.k.Ed _ (by omega)
    rw[e3];simp only[kG,Bq];exact done (.bool true) ea c1 c3 z9 (fun y o=>a7 y (.inl o)) (.inl ⟨rfl,by rw[<-mB];exact ec⟩)
   .have B9:=B7.heap (a7 S (.inr rfl));refine Bt (B9.cells (g.E+1) _ (by rw[AZ b9];rfl)) ?_;rw[Av,wrap64 (by omega) (by omega),Av,wrap64 (by omega) (by omega),G1];have e1:(if(0:Int)>(i:Int)-((Tr.sz g.k.μ lt.toL:Nat):Int)-(((g.k.μ x).1:Nat):Int) then(0:Int) else(i:Int)-((Tr.sz g.k.μ lt.toL:Nat):Int)-(((g.k.μ x).1:Nat):Int))=((V-(g.k.μ x).1:Nat):Int):=by rw[c7];split<;>omega
    rw[e1,Av,wrap64 (by omega) (by omega),Av,wrap64 (by omega) (by omega)];have e2:(j:Int)-((Tr.sz g.k.μ lt.toL:Nat):Int)-(((g.k.μ x).1:Nat):Int)=((j'-(g.k.μ x).1:Nat):Int):=by rw[ba];omega
    rw[e2];refine AA (eA (V-(g.k.μ x).1) (j'-(g.k.μ x).1) (Y+Z.length+X2.length) ea W9 hr hb.app.2.cons.1 (by omega) (by omega) ec (by omega) c3 (by rw[<-an];omega) (fun m hm=>?_)) ?_
    .have cd:m<X3.length:=by rw[an];exact hm
     rw[cc m cd];simp only[an]
    rw[<-an];rintro v W2 ⟨u1,u2,uq,I,q1,q2,q3⟩;refine done v I (fun y o=>q1 y (c1 y o)) q2 ⟨by omega,z9.2.trans uq⟩ (fun y o=>(u2 y (c1 y o)).trans (a7 y (.inl o))) ?_;simp only[Bq];rwa [<-mB,<-mB]
  .refine H6 (fun e7=>?_) fun e8=>?_;rotate_left
   .have e2:X2=[]:=by rw[c8,C3 fun e=>e8 (bp.2 e)]
    rw[e2];exact⟨a6,a1,a2,a3,cn,z8,T⟩
   have b0:=bp.1 e7;have ed:=e9 b0;have e2:X2=[g.k.part x V (min j' (g.k.μ x).1)]:=by rw[c8,Io b0]
   generalize hP:min j' (g.k.μ x).1=P at b0 ed e2;have gl:P<=(g.k.μ x).1:=by omega
   have b3:=CQ (g:=g) x;rw[AG,AH];refine Aj (vs:=g.cells x) b3 (fun j v hv=>?_) ?_
   .rw[AH];refine B8.cells j v ?_;rw[show rc=g.cells x from bn,Q0 (Bp.1 hv).1];exact hv
   refine Bx.new b3 g.zlen (cells_one (g:=g) x) fun bb ee gm bc bd=>?_;have eu:=bd.lt (by rw[b3];exact g.Epos);have cx:∀{p:Nat} {w},0<p->p<(g.k.μ x).1->BM prog Dh g.vc [.agg (g.cells x).toArray,.int .i64 (p:Int)] (fun v w'=>v=.tuple #[.agg (g.cells (g.k.cut x p).1).toArray,.agg (g.cells (g.k.cut x p).2).toArray]/\Grow w w') w:=fun h1 h2=>g.cutc h1 h2 (by omega);have bs:∀{W'},Grow W8 W'->∃c pl fr,bK g.toAvT F C W' b c most A pl fr:=fun gg=>(EH cn (by omega)).grow gg;refine AT (fun _ W'=>Grow W8 W'/\Bx W' bb (g.cells (if P<(g.k.μ x).1 then(g.k.cut x P).1 else x))) ?_ ?_;rotate_left
   .rw[Ap];refine AF (fun h1=>?_) fun h1=>⟨bc,by rw[C3 (by omega)];exact bd⟩;have ef:P<(g.k.μ x).1:=by omega
    have gd:Grow ee ee.drew:=Mod.drew _ _;obtain⟨c',eR,fa,dk⟩:=bs (bc.trans gd);have zd:=gd.size;refine Ai (fun _ y=>y=bb) ?_;refine AI ?_;rw[AG,AH,AG,AH];refine AY ⟨dk.box.cells 1 _ rfl,fun k hk _=>nomatch (show k∈([]:List Nat) from hk)⟩ ?_;refine CU b3 (fun j v hv=>⟨by rw[AH];exact(bd.grow gd).cells j v hv,fun k hk _=>nomatch (show k∈([]:List Nat) from hk)⟩) ?_;rw[ed];refine Az (cx (by omega) ef) ?_;rintro _ fs ⟨rfl,a8⟩;refine⟨a8.mono fun _ _ h=>h.elim,BV ?_⟩;refine((bd.grow gd).grow a8).over (CQ _) b3 (cells_one _) fun fv dv b4=>⟨b4,?_⟩;have h6:=bc.size;exact⟨((bc.trans gd).trans a8).next b4 fun y o e=>by omega,by rw[Io ef];exact dv⟩
   rintro _ eh ⟨bk,bl⟩ _;have ej:∀x',x'=(if P<(g.k.μ x).1 then(g.k.cut x P).1 else x)->(g.k.μ x').1=P:=fun x' e=>by
    rw[e];split
    .exact(g.cutμ x P (by omega) (by assumption)).1
    .omega
   generalize ga:(if P<(g.k.μ x).1 then(g.k.cut x P).1 else x)=x' at bl ej;have gw:=ej x' rfl;have b5:g.k.part x V P=if 0<V then(g.k.cut x' V).2 else x':=by unfold Kd.part;rw[ga]
   refine AT (fun _ W'=>Grow W8 W'/\Bx W' bb (g.cells (g.k.part x V P))) ?_ ?_;rotate_left
   .rw[BR];refine AF (fun h1=>?_) fun h1=>⟨bk,by rw[b5,C3 (by omega)];exact bl⟩;have gd:Grow eh eh.drew:=Mod.drew _ _;obtain⟨c',eR,fa,dk⟩:=bs (bk.trans gd);have zd:=gd.size;have h7:=bk.size;have bx:=CQ (g:=g) x';refine Ai (fun _ y=>y=bb) ?_;refine AI ?_;rw[AG,AH,AG,AH];refine AY ⟨dk.box.cells 1 _ rfl,fun k hk _=>nomatch (show k∈([]:List Nat) from hk)⟩ ?_;refine CU bx (fun j v hv=>⟨by rw[AH];exact(bl.grow gd).cells j v hv,fun k hk _=>nomatch (show k∈([]:List Nat) from hk)⟩) ?_;refine Az (g.cutc (x:=x') (p:=V) (by omega) (by omega) (by omega)) ?_;rintro _ fs ⟨rfl,a8⟩;refine⟨a8.mono fun _ _ h=>h.elim,BV ?_⟩;refine((bl.grow gd).grow a8).over (CQ _) bx (cells_one _) fun fv dv b4=>⟨b4,?_⟩;exact⟨((bk.trans gd).trans a8).next b4 fun y o e=>by omega,by rw[b5,Io (by omega)];exact dv⟩
   rintro _ ek ⟨av,gb⟩ _;refine gb.FZ (CQ _) ?_;have h8:=av.size;have h9:=z8.1;have en:=H.hJ _ a6 a6 W8 ek cn av fun y o=>⟨.inl o,by have:=a3 y o;omega⟩;refine .inr ⟨l,rfl,?_⟩;have eo:X2.length=1:=by rw[e2];rfl
   have b6:=ca 0 (by omega);simp only[kg,e2,qG] at b6;rw[<-b6];refine Gm (H.fz _ a6 ek (by omega) en) ?_;rintro v ep ⟨y1,y2,yq,y3⟩;have b7:∀y,a6 y->ep.heap[y]?=W8.heap[y]?:=fun y o=>(y2 y o).trans (av.same y (a3 y o) fun h=>h);have er:Quiet w7 ep:=(z8.2.trans ⟨av.os,av.tape,av.output⟩).trans yq;rcases y3 with⟨rfl,dT⟩|⟨rfl,dT⟩
   .rw[Ar];refine AV ⟨a6,a1,a2,fun y o=>by have:=a3 y o;omega,by rw[eo];exact dT,⟨by omega,er⟩,fun y o=>?_⟩;exact(b7 y (by rcases o with o|rfl;exact a1 y o;exact a2)).trans (T y o)
   .rw[Ar];exact As (done (.bool false) a6 a1 (fun y o=>by have:=a3 y o;omega) ⟨by omega,er⟩ (fun y o=>(b7 y (a1 y o)).trans (T y (.inl o))) (.inr ⟨rfl,dT⟩))
end
section
variable {α:Type}
def VG(g:AvT α):Prop:=∀{F C:Nat->Prop} {W:World} {b i j:Nat} {A:ArS α} {T:Tr α},Dl g F C W b T.root A->A.ps.length<=109951162777->Tr.Holds g.k.μ A.f T->Tr.GO T->EA g T.toL->i<=1099511627776->j<=1099511627776->
 AB prog g.fOver [.pointer (some ⟨b,0,none⟩),.int .i64 (i:Int),.int .i64 (j:Int)] (fun v' w'=>∃ (o vals:List Value) (B:Nat->Prop),v'=.func (.func g.fOverf) #[] o.toArray/\Grow W w'/\vals.length=(g.k.over T.toL i j).length/\(∀ m (h1:m < vals.length) (E:m < (g.k.over T.toL i j).length),∃ r,vals[m]=g.toAvK.enc r/\g.R C w' r (g.k.over T.toL i j)[m])/\
  (∀ x,B x->(F x\/C x\/W.heap.size<=x)/\x < w'.heap.size)/\K5 True prog g.fOverf o (fun k=>[vals.getD k undef]) vals.length B w') W
theorem GN{t:TypeId}{x:Value}(j:x.cells=#[x])(h:∀b i,w.heap.size<=b->Grow w i->Bx i b [x]->K (.pointer (some ⟨b,0,none⟩)) i):GM t x K w:=
 ⟨j,Bx.zero h⟩
theorem Nx{g:AvT α}{b i j S U V:Nat}{A:ArS α}{T:Tr α}{E:Nat->List Value}{N:Nat}(h:Dl g F C w b T.root A)(B3:Bx w S [.pointer (some ⟨b,0,none⟩)])(B4:Bx w U [.int .i64 (i:Int)])(B5:Bx w V [.int .i64 (j:Int)])
 (Y:∀ l J X o,Grow w o->PD prog l J X w (fun x=>F x\/C x\/x=S\/x=U\/x=V) E N->J 0 (fun _=>False) o->w.heap.size<=o.heap.size->
   AB prog g.fover [.pointer (some ⟨b,0,none⟩),.int .i64 T.root,.int .i64 (i:Int),.int .i64 (j:Int),.func (.yield l) #[] #[]] (Px J X N (fun _=>False) o) o) :
  K5 True prog g.fOverf [.pointer (some ⟨S,0,none⟩),.pointer (some ⟨U,0,none⟩),.pointer (some ⟨V,0,none⟩)] E N (fun x=>F x\/C x\/x=S\/x=U\/x=V) w:=by
 refine PD.ofSeq fun l J X o g1 H hJ hz=>?_;apply g.ok.overf;unfold VJ;have Z:Grow o o.drew:=Mod.drew _ _;have B:=g1.trans Z;obtain⟨c,pl,fr,hT⟩:=h.grow B;have z:=Z.size;refine Ai (fun _ _=>True) ?_;have I:=B3.grow B;have a1:=B4.grow B;have a6:=B5.grow B;refine AY ⟨I.cells 0 _ rfl,fun k hk _=>nomatch (show k∈([]:List Nat) from hk)⟩ ?_;refine AY ⟨I.cells 0 _ rfl,fun k hk _=>nomatch (show k∈([]:List Nat) from hk)⟩ ?_;refine AI ?_;rw[AG,AH];refine AY ⟨hT.box.cells 4 _ rfl,fun k hk _=>nomatch (show k∈([]:List Nat) from hk)⟩ ?_;refine AY ⟨a1.cells 0 _ rfl,fun k hk _=>nomatch (show k∈([]:List Nat) from hk)⟩ ?_;refine AY ⟨a6.cells 0 _ rfl,fun k hk _=>nomatch (show k∈([]:List Nat) from hk)⟩ ?_;have a7:=H.hJ 0 (fun _=>False) (fun _=>False) o o.drew hJ Z fun _ h=>h.elim;refine AA (Y l J X o.drew B H a7 (by omega)) ?_;rintro v w2 ⟨a8,_,hq,O,_,_,Q⟩;refine⟨⟨hq.1,hq.2.1,hq.2.2,a8,fun x _ hx=>(hx trivial).elim⟩,?_⟩;rcases Q with⟨_,Q⟩|⟨_,Q⟩
 .exact⟨O,.inl Q⟩
 .exact⟨O,.inr Q⟩
theorem SC{g:AvN α}:VG g.toAvT:=by
 intro F C W b i j A T h V X hu hb hi Y;apply g.ok.over;unfold Wc;refine GN rfl fun Z w1 a1 O Q=>?_;refine GN rfl fun b4 w2 a6 I S=>?_;refine GN rfl fun b5 w3 a7 B U=>?_;have o:=(O.trans I).trans B;have E:=h.grow o;have s1:=O.size;have s2:=I.size;refine⟨[.pointer (some ⟨Z,0,none⟩),.pointer (some ⟨b4,0,none⟩),.pointer (some ⟨b5,0,none⟩)],(g.k.over T.toL i j).map fun x=>.agg (g.cells x).toArray,_,rfl,o,by rw[Es],fun m h1 h2=>⟨g.cells (g.k.over T.toL i j)[m],by rw[TB,lV],g.Rc.2 rfl⟩,fun x hx=>?_,Nx E ((Q.grow I).grow B) (S.grow B) U fun l J Jx w4 g4 H hJ hz=>?_⟩
 .have q3:=Q.lt (Ty _);have q4:=S.lt (Ty _);have q5:=U.lt (Ty _);have s3:=B.size;rcases hx with e|e|e|e|e
  .exact⟨.inl e,E.lt x (.inl e)⟩
  .exact⟨.inr (.inl e),E.lt x (.inr e)⟩
  .exact⟨.inr (.inr (by omega)),by omega⟩
  .exact⟨.inr (.inr (by omega)),by omega⟩
  .exact⟨.inr (.inr (by omega)),by omega⟩
 .have H':PD prog l J Jx w3 (fun x=>F x\/C x) _ _:=⟨H.hJ,H.Rq,fun k It W hJ b hb hr=>H.J8 k It W hJ b hb (hr.elim .inl fun h=>.inr (.inl h)),H.fz⟩;have key:=gX E V H' T i j 0 (fun _=>False) w4 X hb hi Y hJ hz (fun _ h=>h.elim) (by rw[Es];omega) (fun m hm=>?_)
  .rw[Es];rw[lp] at key;exact key
  .simp[List.getD,hm]
end
end Go.Proofs.YtmdhibffnkhcnaaGreatDoor
