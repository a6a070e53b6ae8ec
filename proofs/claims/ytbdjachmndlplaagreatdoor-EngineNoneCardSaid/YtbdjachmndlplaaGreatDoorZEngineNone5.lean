/- parts of the proof, written short by a program of ours -/
import Derived.Test.YtbdjachmndlplaaGreatDoorZEngineNone4
set_option maxRecDepth 100000
set_option linter.unusedSimpArgs false
set_option linter.unusedVariables false
set_option linter.defProp false
namespace Go.Proofs.YtbdjachmndlplaaGreatDoor
open Go Proofs.Tryz
variable {j c N:Nat}{w W W' w':World}{F S C F':Nat->Prop}{v:Value}{most:Int}{vs:List Value}{α:Type}{K:Cont}{P:Program}
section
variable {α:Type}{g:AvT α}
def Qd{b i:Nat}{A:ArS α}{n:Nd α}{l r:Tr α}
 (IL:∀ Z Y xl U,l=Tr.node Z Y xl U->U.De < l.De->∀ {W1:World} {Q:ArS α},Dj g F C W1 b most Q->Q.ps.length<=109951162777->Q.f i=some n->Tr.Holds g.k.μ Q.f U->Tr.Holds g.k.μ Q.f r->Tr.GB (.node U i n.x r)->EB g (Tr.node U i n.x r).toL->
   AB prog g.fjoin [.pointer (some ⟨b,0,none⟩),zI U.root,zI i,zI r.root] (λv' w'=>∃ t' A',v'=zI t'.root/\ZW g F C W1 w' b most Q (Tr.node U i n.x r).toL (Tr.node U i n.x r).idx t' A') W1)
 (IR:∀ O V xr X,r=Tr.node O V xr X->O.De < r.De->∀ {W1:World} {Q:ArS α},Dj g F C W1 b most Q->Q.ps.length<=109951162777->Q.f i=some n->Tr.Holds g.k.μ Q.f l->Tr.Holds g.k.μ Q.f O->Tr.GB (.node l i n.x O)->EB g (Tr.node l i n.x O).toL->
   AB prog g.fjoin [.pointer (some ⟨b,0,none⟩),zI l.root,zI i,zI O.root] (λv' w'=>∃ t' A',v'=zI t'.root/\ZW g F C W1 w' b most Q (Tr.node l i n.x O).toL (Tr.node l i n.x O).idx t' A') W1)
 (h:Dj g F C W b most A)(hs:A.ps.length<=109951162777)(hi:A.f i=some n)(hl:Tr.Holds g.k.μ A.f l)(hr:Tr.Holds g.k.μ A.f r)(hu:Tr.GB (.node l i n.x r))(hb:EB g (Tr.node l i n.x r).toL) :
  AB prog g.fjoin [.pointer (some ⟨b,0,none⟩),zI l.root,zI i,zI r.root] (λv' w'=>∃t' A',v'=zI t'.root/\ZW g F C W w' b most A (Tr.node l i n.x r).toL (Tr.node l i n.x r).idx t' A') W:=by
 apply g.ok.join;unfold cZ;obtain⟨u1,u2,u3,u4,u5⟩:=Tr.Av.1 hu;have bd:=(E0 rfl hl u1).1;have bk:=(E0 rfl hr u2).1;have nF:∀{z:Nat},W.heap.size<=z->∀x,F x\/C x->x≠z:=λhz x hx e=>by have:=h.lt x hx;omega
 refine AA (Bo h hl) ?_;rintro _ w1 ⟨rfl,g1⟩;refine K0 ?_;refine AA (Bo (h.grow g1) hr) ?_;rintro _ w2 ⟨rfl,g2⟩;refine K0 ?_;have a1:=g1.trans g2;have h2:=h.grow a1;have bl:=a1.size;refine B0 (b:=1) (by omega) ?_;rw[BE];refine AD (λb7=>?_) λbp=>?_
 .obtain⟨Z,Y,xl,U,rfl⟩:=Tr.K3 (t:=l) (by omega);obtain⟨b8,b9,ak⟩:=id hl;obtain⟨v1,v2,v3,v4,v5⟩:=Tr.Av.1 u1;refine Dt h2 ak λrc bx w3 g3 al B I=>?_;have J:=g.rlen I;have h3:=h2.grow g3;refine Az (B.cells (g.E+1) _ (by rw[AY J];rfl)) ?_;have an:Tr.GB (.node U i n.x r):=Tr.Av.2 ⟨v2,u2,λe=>u3 (by simp[Tr.idx,e]),u4,λq j=>u5 q (by simp[Tr.idx,j])⟩;have hL:(Tr.node (.node Z Y xl U) i n.x r).toL=Z.toL++xl::(U.toL++n.x::r.toL):=by simp[Tr.toL]
  have a6:=hb;rw[hL] at a6;refine AA (IL Z Y xl U rfl (by simp only[Tr.De];omega) h3 hs hi b9 hr an a6.app.2.cons.1) ?_;rintro _ w7 ⟨t1,Q,rfl,o⟩;have m:W.heap.size<=bx:=by omega
  have B7:=B.mod o.mod λe=>nF m bx (.inl e.1) rfl;rw[AH,AI];refine B7.st (q:=g.E+1) (by rw[BA _ I];omega) rfl rfl λw8 B8 m8=>?_;rw[Ci J] at B8;refine B8.Eg (by rw[BW,lG,J];rfl) ?_;have h8:=o.EI.mod m8 λx hx e=>nF m x hx e;have a7:=g.BO (g.BO I o.mod λy _ hy e=>h.JB y e.1 hy) m8 λy _ hy e=>nF m y (.inr hy) e;have nI:∀q∈Y::Z.idx,q∉(Tr.node U i n.x r).idx:=λq j e=>by
   simp only[Tr.idx,By,Mp] at e j;rcases j with rfl|j
   .rcases e with e|e|e
    .exact v4 e
    .exact u3 (by simp[Tr.idx,e])
    .exact u5 q (by simp[Tr.idx]) e
   .rcases e with e|e|e
    .exact v5 q j e
    .exact u3 (by simp[Tr.idx,<-e,j])
    .exact u5 q (by simp[Tr.idx,j]) e
  have av:Q.f Y=some _:=(o.same Y (nI Y (by simp))).trans ak;have ax:Tr.Holds g.k.μ Q.f Z:=DH b8 o.same λq j=>nI q (by simp[j]);have a8:Tr.GB (.node Z Y xl t1):=by
   refine Tr.Av.2 ⟨v1,o.idx.nodup_iff.2 an,v3,λe=>nI Y (by simp) (o.idx.mem_iff.1 e),λq j e=>nI q (by simp[j]) (o.idx.mem_iff.1 e)⟩
  have perm:(Tr.node Z Y xl t1).idx.Perm (Tr.node (.node Z Y xl U) i n.x r).idx:=by
   simp only[Tr.idx,P9,Za];exact(nK _).append (o.idx.cons Y)
  have eL:(Tr.node Z Y xl t1).toL=(Tr.node (.node Z Y xl U) i n.x r).toL:=by simp only[Tr.toL,o.toL,P9,Za]
  refine AA (Gj (l:=Z) (r:=t1) (n:={ Tr.EC g.k.μ (.node Z Y xl U) xl Z.root U.root with r:=t1.root }) h8 (by rw[o.len];exact hs) av a7 rfl rfl ax o.holds a8 (hb.perm eL)) ?_;rintro _ ba ⟨t2,A2,rfl,S2⟩;refine⟨t2,A2,rfl,S2.EI,?_,S2.toL.trans eL,S2.idx.trans perm,S2.holds,λq j=>?_,by rw[S2.len,o.len]⟩
  .exact((((a1.trans g3).mono λ_ _ h=>h.elim).trans o.mod).next m8 λy hy e=>by omega).trans S2.mod
  .refine(S2.same q λe=>j (perm.mem_iff.1 e)).trans (o.same q λe=>j ?_);simp only[Tr.idx,By,Mp] at e ⊢;rcases e with e|e|e
   .exact .inl (.inr (.inr e))
   .exact .inr (.inl e)
   .exact .inr (.inr e)
 refine B0 (b:=1) (by omega) ?_;rw[BE];refine AD (λb7=>?_) λbc=>?_
 .obtain⟨O,V,xr,X,rfl⟩:=Tr.K3 (t:=r) (by omega);obtain⟨ay,bb,aZ⟩:=id hr;obtain⟨v1,v2,v3,v4,v5⟩:=Tr.Av.1 u2;refine Dt h2 aZ λrc bx w3 g3 al B I=>?_;have J:=g.rlen I;have h3:=h2.grow g3;refine Az (B.cells (g.E+0) _ (by rw[AY J];rfl)) ?_;have b0:Tr.GB (.node l i n.x O):=Tr.Av.2 ⟨u1,v1,u3,λe=>u4 (by simp[Tr.idx,e]),λq j e=>u5 q j (by simp[Tr.idx,e])⟩;have hL:(Tr.node l i n.x (.node O V xr X)).toL=(l.toL++n.x::O.toL)++xr::X.toL:=by simp[Tr.toL]
  have a6:=hb;rw[hL] at a6;refine AA (IR O V xr X rfl (by simp only[Tr.De];omega) h3 hs hi hl ay b0 a6.app.1) ?_;rintro _ w7 ⟨t1,Q,rfl,o⟩;have m:W.heap.size<=bx:=by omega
  have B7:=B.mod o.mod λe=>nF m bx (.inl e.1) rfl;rw[AH,AI];refine B7.st (q:=g.E+0) (by rw[BA _ I];omega) rfl rfl λw8 B8 m8=>?_;rw[Ci J] at B8;refine B8.Eg (by rw[BW,lG,J];rfl) ?_;have h8:=o.EI.mod m8 λx hx e=>nF m x hx e;have a7:=g.BO (g.BO I o.mod λy _ hy e=>h.JB y e.1 hy) m8 λy _ hy e=>nF m y (.inr hy) e;have nI:∀q∈V::X.idx,q∉(Tr.node l i n.x O).idx:=λq j e=>by
   simp only[Tr.idx,By,Mp] at e j;rcases j with rfl|j
   .rcases e with e|e|e
    .exact u5 q e (by simp[Tr.idx])
    .exact u4 (by simp[Tr.idx,<-e])
    .exact v3 e
   .rcases e with e|e|e
    .exact u5 q e (by simp[Tr.idx,j])
    .exact u4 (by simp[Tr.idx,<-e,j])
    .exact v5 q e j
  have b1:Q.f V=some _:=(o.same V (nI V (by simp))).trans aZ;have b2:Tr.Holds g.k.μ Q.f X:=DH bb o.same λq j=>nI q (by simp[j]);have a8:Tr.GB (.node t1 V xr X):=by
   refine Tr.Av.2 ⟨o.idx.nodup_iff.2 b0,v2,λe=>nI V (by simp) (o.idx.mem_iff.1 e),v4,λq j e=>nI q (by simp[e]) (o.idx.mem_iff.1 j)⟩
  have perm:(Tr.node t1 V xr X).idx.Perm (Tr.node l i n.x (.node O V xr X)).idx:=by
   have:(Tr.node l i n.x (.node O V xr X)).idx=(Tr.node l i n.x O).idx++V::X.idx:=by simp[Tr.idx]
   rw[this];exact o.idx.append (nK _)
  have eL:(Tr.node t1 V xr X).toL=(Tr.node l i n.x (.node O V xr X)).toL:=by rw[hL];simp only[Tr.toL,o.toL]
  refine AA (Gj (l:=t1) (r:=X) (n:={ Tr.EC g.k.μ (.node O V xr X) xr O.root X.root with l:=t1.root }) h8 (by rw[o.len];exact hs) b1 a7 rfl rfl o.holds b2 a8 (hb.perm eL)) ?_;rintro _ ba ⟨t2,A2,rfl,S2⟩;refine⟨t2,A2,rfl,S2.EI,?_,S2.toL.trans eL,S2.idx.trans perm,S2.holds,λq j=>?_,by rw[S2.len,o.len]⟩
  .exact((((a1.trans g3).mono λ_ _ h=>h.elim).trans o.mod).next m8 λy hy e=>by omega).trans S2.mod
  .refine(S2.same q λe=>j (perm.mem_iff.1 e)).trans (o.same q λe=>j ?_);simp only[Tr.idx,By,Mp] at e ⊢;rcases e with e|e|e
   .exact .inl e
   .exact .inr (.inl e)
   .exact .inr (.inr (.inl e))
 .refine Dt h2 hi λrc bx w3 g3 al B I=>?_;have J:=g.rlen I;have m:W.heap.size<=bx:=by omega
  rw[AH,AI];refine B.st (q:=g.E+0) (by rw[BA _ I];omega) rfl rfl λw4 B4 m4=>?_;rw[Ci J] at B4;rw[AH,AI];refine B4.st (q:=g.E+1) (by rw[BW,lG,J];exact qZ (show 1<5 by decide) _) rfl rfl λw5 B5 m5=>?_;have eN:(rc++(BM n).set 0 (zI l.root)).set (g.E+1) (zI r.root)=rc++BM { n with l:=l.root,r:=r.root }:=by
   rw[mJ _ _ (by omega),J,nz];rfl
  rw[eN] at B5;refine B5.Eg (by rw[BA _ I]) ?_;have g5:Grow W w5:=(((a1.trans g3).next m4 λy hy e=>by omega)).next m5 λy hy e=>by omega
  have b6:=g.BO (g.BO I m4 λy _ hy e=>nF m y (.inr hy) e) m5 λy _ hy e=>nF m y (.inr hy) e;refine AA (GQ (l:=l) (r:=r) (n:={ n with l:=l.root,r:=r.root }) (h.grow g5) hs hi b6 rfl rfl hl hr u1 u2 hb) ?_;rintro _ w6 ⟨h6,m6⟩;exact⟨.node l i n.x r,_,rfl,h6,(g5.mono λ_ _ h=>h.elim).trans m6,rfl,nK _,Ig (x:=n.x) hi hl hr u3 u4,λq j=>IF hi λe=>j (by simp[Tr.idx,e]),Df _ _ _⟩
structure Ends (g:AvT α) (F C:Nat->Prop) (W w':World) (b:Nat) (rt:Int) (A:ArS α) (t:Tr α) (t':Tr α) (j:Nat) (m:Nd α) (A':ArS α):Prop where
 EI:Dj g F C w' b rt A'
 mod:Mod (Fb F b) W w'
 idx:(j::t'.idx).Perm t.idx
 holds:Tr.Holds g.k.μ A'.f t'
 Rn:A'.f j=some m
 same:∀q,q∉t.idx->A'.f q=A.f q
 len:A'.ps.length=A.ps.length
def Ends.H0{b:Nat}{i:Int}{A o:ArS α}{t t':Tr α}{m:Nd α}(h:Ends g F C W w' b i A t t' j m o)(hu:Tr.GB t):Tr.GB t'/\j∉t'.idx:=by
 have:=h.idx.nodup_iff.2 hu;rw[rO] at this;exact⟨this.2,this.1⟩
def V3{b:Nat}:∀(t:Tr α) {W:World} {A:ArS α},t≠.nil->Dj g F C W b most A->A.ps.length<=109951162777->Tr.Holds g.k.μ A.f t->Tr.GB t->EB g t.toL->
  AB prog g.ffirst [.pointer (some ⟨b,0,none⟩),zI t.root] (λv' w'=>∃(t':Tr α) (j:Nat) (m:Nd α) (A':ArS α),v'=.tuple #[zI t'.root,zI j]/\Ends g F C W w' b most A t t' j m A'/\t.toL=m.x::t'.toL) W:=by
 intro t;induction t with
 |nil=>intro W A hn;exact(hn rfl).elim
 |node l i x r Z _=>
  intro W A _ h hs hh hu hb;obtain⟨hl,hr,hi⟩:=id hh;obtain⟨u1,u2,u3,u4,u5⟩:=Tr.Av.1 hu;apply g.ok.first;unfold Xc;have nF:∀{z:Nat},W.heap.size<=z->∀x,F x\/C x->x≠z:=λhz x hx e=>by have:=h.lt x hx;omega
  refine Dt h hi λrc bx w1 g1 Q B U=>?_;have J:=g.rlen U;have h1:=h.grow g1;refine Az (B.cells (g.E+0) _ (by rw[AY J];rfl)) ?_;rw[Aa];refine AD (λe=>?_) λe=>?_
  .refine Az (B.cells (g.E+1) _ (by rw[AY J];rfl)) ?_;have el:l=.nil:=by
    cases l with
    |nil=>rfl
    |node a q z c=>simp only[Tr.EC,Tr.root] at e;omega
   subst el;exact⟨r,i,_,A,rfl,⟨h1,g1.mono λ_ _ h=>h.elim,nK _,hr,hi,λ_ _=>rfl,rfl⟩,rfl⟩
  .refine Az (B.cells (g.E+0) _ (by rw[AY J];rfl)) ?_;have a1:l≠.nil:=λe'=>by subst e';exact e rfl
   refine AA (Z a1 h1 hs hl u1 hb.app.1) ?_;rintro _ w7 ⟨V,j,m,A1,rfl,o,e1⟩;refine BI ?_;have B7:=B.mod o.mod λe=>nF Q bx (.inl e.1) rfl;rw[AH,AI];refine B7.st (q:=g.E+0) (by rw[BA _ U];omega) rfl rfl λw8 B8 m8=>?_;rw[Ci J] at B8;refine B8.Eg (by rw[BW,lG,J];rfl) ?_;have h8:=o.EI.mod m8 λx hx e=>nF Q x hx e;have X:=g.BO (g.BO U o.mod λy _ Y e=>h.JB y e.1 Y) m8 λy _ Y e=>nF Q y (.inr Y) e;have sub:∀q,q∈V.idx\/q=j->q∈l.idx:=λq I=>o.idx.mem_iff.1 (by rcases I with I|rfl<;>simp[*]);have a6:A1.f i=some _:=(o.same i u3).trans hi;have a7:Tr.Holds g.k.μ A1.f r:=DH hr o.same λq I e=>u5 q e I;have a8:Tr.GB (.node V i x r):=Tr.Av.2 ⟨(o.H0 u1).1,u2,λe=>u3 (sub i (.inl e)),u4,λq I=>u5 q (sub q (.inl I))⟩;have ak:EB g (Tr.node V i x r).toL:=by
    have:(Tr.node l i x r).toL=m.x::(Tr.node V i x r).toL:=by simp only[Tr.toL,e1,Za]
    rw[this] at hb;exact hb.cons.1
   refine AA (Gj (l:=V) (r:=r) (n:={ Tr.EC g.k.μ (.node l i x r) x l.root r.root with l:=V.root }) h8 (by rw[o.len];exact hs) a6 X rfl rfl o.holds a7 a8 ak) ?_;rintro _ al ⟨t2,A2,rfl,O⟩;have hj:j∉(Tr.node V i x r).idx:=λe=>by
    simp only[Tr.idx,By,Mp] at e;rcases e with e|e|e
    .exact(o.H0 u1).2 e
    .exact u3 (e▸sub j (.inr rfl))
    .exact u5 j (sub j (.inr rfl)) e
   refine⟨t2,j,m,A2,rfl,⟨O.EI,?_,?_,O.holds,(O.same j hj).trans o.Rn,λq I=>?_,by rw[O.len,o.len]⟩,?_⟩
   .exact(((g1.mono λ_ _ h=>h.elim).trans o.mod).next m8 λy Y e=>by omega).trans O.mod
   .refine(O.idx.cons j).trans ?_;simp only[Tr.idx];exact(o.idx.append (nK (i::r.idx)))
   .simp only[Tr.idx,By,Mp,rJ] at I;refine(O.same q λe=>?_).trans (o.same q I.1);simp only[Tr.idx,By,Mp] at e;rcases e with e|e|e
    .exact I.1 (sub q (.inl e))
    .exact I.2.1 e
    .exact I.2.2 e
   .rw[O.toL];simp only[Tr.toL,Tr.EC,e1,Za]
def RH{b:Nat}:∀(t:Tr α) {W:World} {A:ArS α},t≠.nil->Dj g F C W b most A->A.ps.length<=109951162777->Tr.Holds g.k.μ A.f t->Tr.GB t->EB g t.toL->
  AB prog g.flast [.pointer (some ⟨b,0,none⟩),zI t.root] (λv' w'=>∃(t':Tr α) (j:Nat) (m:Nd α) (A':ArS α),v'=.tuple #[zI t'.root,zI j]/\Ends g F C W w' b most A t t' j m A'/\t.toL=t'.toL++[m.x]) W:=by
 intro t;induction t with
 |nil=>intro W A hn;exact(hn rfl).elim
 |node l i x r _ Z=>
  intro W A _ h hs hh hu hb;obtain⟨hl,hr,hi⟩:=id hh;obtain⟨u1,u2,u3,u4,u5⟩:=Tr.Av.1 hu;apply g.ok.last;unfold dR;have nF:∀{z:Nat},W.heap.size<=z->∀x,F x\/C x->x≠z:=λhz x hx e=>by have:=h.lt x hx;omega
  refine Dt h hi λrc bx w1 g1 U B V=>?_;have J:=g.rlen V;have h1:=h.grow g1;refine Az (B.cells (g.E+1) _ (by rw[AY J];rfl)) ?_;rw[Aa];refine AD (λe=>?_) λe=>?_
  .refine Az (B.cells (g.E+0) _ (by rw[AY J];rfl)) ?_;have el:r=.nil:=by
    cases r with
    |nil=>rfl
    |node a q z c=>simp only[Tr.EC,Tr.root] at e;omega
   subst el;exact⟨l,i,_,A,rfl,⟨h1,g1.mono λ_ _ h=>h.elim,by simp only[Tr.idx];exact(List.perm_append_singleton i l.idx).symm,hl,hi,λ_ _=>rfl,rfl⟩,rfl⟩
  .refine Az (B.cells (g.E+1) _ (by rw[AY J];rfl)) ?_;have a1:r≠.nil:=λe'=>by subst e';exact e rfl
   refine AA (Z a1 h1 hs hr u2 hb.app.2.cons.1) ?_;rintro _ w7 ⟨O,j,m,A1,rfl,o,e1⟩;refine BI ?_;have B7:=B.mod o.mod λe=>nF U bx (.inl e.1) rfl;rw[AH,AI];refine B7.st (q:=g.E+1) (by rw[BA _ V];omega) rfl rfl λw8 B8 m8=>?_;rw[Ci J] at B8;refine B8.Eg (by rw[BW,lG,J];rfl) ?_;have h8:=o.EI.mod m8 λx hx e=>nF U x hx e;have X:=g.BO (g.BO V o.mod λy _ Y e=>h.JB y e.1 Y) m8 λy _ Y e=>nF U y (.inr Y) e;have sub:∀q,q∈O.idx\/q=j->q∈r.idx:=λq I=>o.idx.mem_iff.1 (by rcases I with I|rfl<;>simp[*]);have a6:A1.f i=some _:=(o.same i u4).trans hi;have a7:Tr.Holds g.k.μ A1.f l:=DH hl o.same λq I=>u5 q I;have a8:Tr.GB (.node l i x O):=Tr.Av.2 ⟨u1,(o.H0 u2).1,u3,λe=>u4 (sub i (.inl e)),λq I e=>u5 q I (sub q (.inl e))⟩;have ak:EB g (Tr.node l i x O).toL:=by
    have:(Tr.node l i x r).toL=(Tr.node l i x O).toL++[m.x]:=by simp only[Tr.toL,e1,P9,Za]
    rw[this] at hb;exact hb.app.1
   refine AA (Gj (l:=l) (r:=O) (n:={ Tr.EC g.k.μ (.node l i x r) x l.root r.root with r:=O.root }) h8 (by rw[o.len];exact hs) a6 X rfl rfl a7 o.holds a8 ak) ?_;rintro _ al ⟨t2,A2,rfl,Q⟩;have hj:j∉(Tr.node l i x O).idx:=λe=>by
    simp only[Tr.idx,By,Mp] at e;rcases e with e|e|e
    .exact u5 j e (sub j (.inr rfl))
    .exact u4 (e▸sub j (.inr rfl))
    .exact(o.H0 u2).2 e
   refine⟨t2,j,m,A2,rfl,⟨Q.EI,?_,?_,Q.holds,(Q.same j hj).trans o.Rn,λq I=>?_,by rw[Q.len,o.len]⟩,?_⟩
   .exact(((g1.mono λ_ _ h=>h.elim).trans o.mod).next m8 λy Y e=>by omega).trans Q.mod
   .refine(Q.idx.cons j).trans ?_;simp only[Tr.idx];have p1:(j::(l.idx++i::O.idx)).Perm (l.idx++i::(j::O.idx)):=by
     have q:=(List.perm_middle (a:=j) (l₁:=l.idx++[i]) (l₂:=O.idx)).symm;simpa using q
    exact p1.trans ((nK _).append (o.idx.cons i))
   .simp only[Tr.idx,By,Mp,rJ] at I;refine(Q.same q λe=>?_).trans (o.same q I.2.2);simp only[Tr.idx,By,Mp] at e;rcases e with e|e|e
    .exact I.1 e
    .exact I.2.1 e
    .exact I.2.2 (sub q (.inl e))
   .rw[Q.toL];simp only[Tr.toL,Tr.EC,e1,P9,Za]
def Fu{b i:Nat}{Q:Int}:∀(k:Nat) {W:World} {A:ArS α} {n:Nd α} {l r:Tr α},l.De+r.De<=k->Dj g F C W b Q A->A.ps.length<=109951162777->A.f i=some n->Tr.Holds g.k.μ A.f l->Tr.Holds g.k.μ A.f r->Tr.GB (.node l i n.x r)->EB g (Tr.node l i n.x r).toL->
  AB prog g.fjoin [.pointer (some ⟨b,0,none⟩),zI l.root,zI i,zI r.root] (λv' w'=>∃t' V,v'=zI t'.root/\ZW g F C W w' b Q A (Tr.node l i n.x r).toL (Tr.node l i n.x r).idx t' V) W:=by
 intro k;induction k with
 |zero=>
  intro W A n l r hk h J hi hl hr hu hb;exact Qd (λ_ _ _ _ _ h=>by omega) (λ_ _ _ _ _ h=>by omega) h J hi hl hr hu hb
 |succ k U=>
  intro W A n l r hk h J hi hl hr hu hb;refine Qd (λZ il xl lr e O=>?_) (λrl ir xr rr e O=>?_) h J hi hl hr hu hb
  .subst e;intro X Y h1 j m o q B I;exact U (by simp only[Tr.De] at hk;omega) h1 j m o q B I
  .subst e;intro X Y h1 j m o q B I;exact U (by simp only[Tr.De] at hk;omega) h1 j m o q B I
def TD{b:Nat}{X:Int}{A:ArS α}{l r:Tr α}(h:Dj g F C W b X A)(Y:A.ps.length<=109951162777)(hl:Tr.Holds g.k.μ A.f l)(hr:Tr.Holds g.k.μ A.f r)(hu:(l.idx++r.idx).Nodup)(hb:EB g (l.toL++r.toL)) :
  AB prog g.fconcat [.pointer (some ⟨b,0,none⟩),zI l.root,zI r.root] (λv' w'=>∃t' A',v'=zI t'.root/\ZW g F C W w' b X A (l.toL++r.toL) (l.idx++r.idx) t' A') W:=by
 apply g.ok.concat;unfold Tt;rw[Aa];obtain⟨J,u2,O⟩:=lI.1 hu;refine AD (λe=>?_) λe=>?_
 .have el:l=.nil:=by
   cases l with
   |nil=>rfl
   |node a q z c=>simp only[Tr.root] at e;omega
  subst el;exact⟨r,A,rfl,h,Mod.refl _ _,rfl,nK _,hr,λ_ _=>rfl,rfl⟩
 .have Q:l≠.nil:=λe'=>by subst e';exact e rfl
  refine AA (RH l Q h Y hl J hb.app.1) ?_;rintro _ w1 ⟨I,j,m,A1,rfl,i,e1⟩;refine BI ?_;have sub:∀q,q∈I.idx\/q=j->q∈l.idx:=λq o=>i.idx.mem_iff.1 (by rcases o with o|rfl<;>simp[*]);have U:Tr.Holds g.k.μ A1.f r:=DH hr i.same λq o e=>O q e q o rfl;have V:Tr.GB (.node I j m.x r):=Tr.Av.2 ⟨(i.H0 J).1,u2,(i.H0 J).2,λe=>O j (sub j (.inr rfl)) j e rfl,λq o e=>O q (sub q (.inl o)) q e rfl⟩;have Z:(Tr.node I j m.x r).toL=l.toL++r.toL:=by simp only[Tr.toL,e1,P9,Za,lg]
  refine AA (Fu (I.De+r.De) (K8 _) i.EI (by rw[i.len];exact Y) i.Rn i.holds U V (hb.perm Z)) ?_;rintro _ w2 ⟨t2,A2,rfl,B⟩;have perm:(Tr.node I j m.x r).idx.Perm (l.idx++r.idx):=by
   simp only[Tr.idx];exact List.perm_middle.trans (i.idx.append (nK r.idx))
  refine⟨t2,A2,rfl,B.EI,i.mod.trans B.mod,B.toL.trans Z,B.idx.trans perm,B.holds,λq o=>?_,by rw[B.len,i.len]⟩;exact(B.same q λe=>o (perm.mem_iff.1 e)).trans (i.same q λe=>o (lC _ e))
def IG(g:AvT α)(F C:Nat->Prop)(W w':World)(b:Nat)(i:Int)(A:ArS α):Prop:=∃F',(∀x,F x->F' x)/\(∀x,F' x->F x\/W.heap.size<=x)/\Dj g F' C w' b i A/\Mod (Fb F b) W w'
def QR{b c:Nat}{o:Int}{A q:ArS α}{pl fr:Value}(h:cm g F C W b c o A pl fr)(ha:Mh g (λx=>F x/\x≠b) C W w' c q):IG g F C W w' b o q:=by
 obtain⟨F',j,m,k1,k2,I,B⟩:=ha;have J:=h.box.lt (QC _);refine⟨λx=>F' x\/x=b,λx i=>?_,λx i=>?_,⟨c,j,m,h.box.mod B λe=>e.2 rfl,?_,.inr rfl,h.fb.2⟩,B⟩
 .by_cases e:x=b
  .exact .inr e
  .exact .inl (k1 x ⟨i,e⟩)
 .rcases i with i|rfl
  .exact(k2 x i).imp (λh=>h.1) λh=>h
  .exact .inl h.fb.1
 .have e:(λx=>(F' x\/x=b)/\x≠b)=F':=by
   funext x
   refine propext ⟨λi=>i.1.elim (λh=>h) λe=>(i.2 e).elim,λi=>⟨.inl i,λe=>?_⟩⟩;subst e;rcases k2 x i with h'|h'
   .exact h'.2 rfl
   .omega
  rw[e];exact I
def MM{b c i:Nat}{j:Int}{A:ArS α}{pl fr:Value}{n:Nd α}(h:cm g F C W b c j A pl fr)(hi:A.f i=some n)(m:A.ps.length<=109951162777) :
  AB prog g.aFree [.pointer (some ⟨c,0,none⟩),zI i] (λv' w'=>IG g F C W w' b j (A.free i)) W:=
 AA (Yd h.ar hi m) λ_ _ ha=>QR h ha
def L5{b c:Nat}{i:Int}{A:ArS α}{pl fr:Value}{n:Nd α}{r:List Value}(h:cm g F C W b c i A pl fr)(hr:g.R C W r n.x)(j:A.ps.length<=109951162777) :
  AB prog g.aTake [.pointer (some ⟨c,0,none⟩),.agg (r++BM n).toArray] (λv' w'=>v'=zI A.num/\IG g F C W w' b i (A.take n)) W:=
 AA (ZI h.ar hr j) λ_ _ ha=>⟨ha.1,QR h ha.2⟩
def WC{b:Nat}:∀(t:Tr α) {F:Nat->Prop} {W:World} {A:ArS α},Dj g F C W b most A->A.ps.length<=109951162777->Tr.Holds g.k.μ A.f t->Tr.GB t->
  AB prog g.fdrop [.pointer (some ⟨b,0,none⟩),zI t.root] (λ_ w'=>∃X,IG g F C W w' b most X/\(∀q,q∉t.idx->X.f q=A.f q)/\X.ps.length=A.ps.length) W:=by
 intro t;induction t with
 |nil=>
  intro F W A h V hh hu;apply g.ok.drop;unfold ZF;simp only[Tr.root];rw[Aa];refine AD (λ_=>?_) λe=>(e rfl).elim;exact⟨A,⟨F,λ_ h=>h,λ_ h=>.inl h,h,Mod.refl _ _⟩,λ_ _=>rfl,rfl⟩
 |node l i x r Y Z=>
  intro F W A h V hh hu;obtain⟨hl,hr,hi⟩:=id hh;obtain⟨u1,u2,u3,u4,u5⟩:=Tr.Av.1 hu;apply g.ok.drop;unfold ZF;simp only[Tr.root];rw[Aa];refine AD (λe=>by omega) λ_=>?_;refine Dt h hi λrc bx w1 g1 ak B a6=>?_;have J:=g.rlen a6;have h1:=h.grow g1;refine Az (B.cells (g.E+0) _ (by rw[AY J];rfl)) ?_;refine AA (Y h1 V hl u1) ?_;rintro _ w5 ⟨A1,T1,o,j⟩;obtain⟨F1,a1,a2,h5,m5⟩:=T1;have nb:¬F bx:=λe=>by have:=h.lt bx (.inl e);omega
  have B5:=B.mod m5 λe=>nb e.1;refine Az (B5.cells (g.E+1) _ (by rw[AY J];rfl)) ?_;have a7:Tr.Holds g.k.μ A1.f r:=DH hr o λq I e=>u5 q e I;have a8:A1.f i=some _:=(o i u3).trans hi;refine AA (Z h5 (by rw[j];exact V) a7 u2) ?_;rintro _ w7 ⟨A2,T2,O,m⟩;obtain⟨F2,b1,b2,h7,m7⟩:=T2;have Q:A2.f i=some _:=(O i u4).trans a8;obtain⟨c,pl,fr,hT⟩:=h7;refine AG ?_;refine Az (hT.box.cells 3 _ rfl) ?_;refine AA (MM hT Q (by rw[m,j];exact V)) ?_;rintro _ w9 ⟨F3,c1,c2,h9,m9⟩;have s1:=g1.size;have s5:=m5.size;have s7:=m7.size;refine⟨A2.free i,⟨F3,λx U=>c1 x (b1 x (a1 x U)),λx U=>?_,h9,?_⟩,λq I=>?_,by simp[ArS.free,m,j]⟩
  .rcases c2 x U with e|e
   .rcases b2 x e with e|e
    .rcases a2 x e with e|e
     .exact .inl e
     .exact .inr (by omega)
    .exact .inr (by omega)
   .exact .inr (by omega)
  .have k1:Mod (Fb F b) W w5:=(g1.mono λ_ _ h=>h.elim).trans m5;have k2:Mod (Fb F b) W w7:=k1.next m7 λx U e=>by
    rcases a2 x e.1 with e'|e'
    .exact⟨e',e.2⟩
    .omega
   refine k2.next m9 λx U e=>?_;rcases b2 x e.1 with e'|e'
   .rcases a2 x e' with e'|e'
    .exact⟨e',e.2⟩
    .omega
   .omega
  .simp only[Tr.idx,By,Mp,rJ] at I;rw[ArS.SO Q,Tr.Da _ I.2.1];exact(O q I.2.2).trans (o q I.1)
def Qp{b:Nat}{A:ArS α}{t:Tr α}(h:Dj g F C W b t.root A)(ht:Tr.Holds g.k.μ A.f t) :
  AB prog g.fSize [.pointer (some ⟨b,0,none⟩)] (λv' w'=>v'=zI (Tr.sz g.k.μ t.toL)/\Grow W w') W:=by
 apply g.ok.size;unfold cW;obtain⟨c,pl,fr,i⟩:=id h;refine AG ?_;refine Az (i.box.cells 4 _ rfl) ?_;refine AA (Bo h ht) ?_;rintro _ w2 ⟨rfl,j⟩;exact Ae (vs:=[_,_,_]) (by rfl) (Ae (vs:=[_,_,_]) (by rfl) (Ae (vs:=[_,_,_]) (by rfl) ⟨rfl,j⟩))
end
def Bx.je{b q:Nat}(h:Bx W b vs)(o:q<vs.length)(u:Value):Bx (W.setCell ⟨b,q,none⟩ u) b (vs.set q u):=by
 refine⟨λj v i=>?_,λj B=>(h.live j (by simpa using B)).set _ _⟩;by_cases e:j=q
 .subst e;rw[lL o] at i;cases i;obtain⟨I,m⟩:=lD.1 (h.live j o).1;exact lM _ _ _ m
 .rw[lY (oF e)] at i;rw[S4 _ _ _ _ (λe'=>by simp only[Addr.mk.injEq] at e';exact e e'.2.1.symm)];exact h.cells j v i
def Bx.EN{b:Nat}:∀(us:List Value) (p:Nat) (W:World) (vs:List Value),Bx W b vs->p+us.length<=vs.length->Bx (EN W ⟨b,0,none⟩ p us) b (JH vs p us)/\Mod (λx=>x=b) W (EN W ⟨b,0,none⟩ p us):=by
 intro us;induction us with
 |nil=>intro p W vs h _;exact⟨h,Mod.refl _ _⟩
 |cons u us i=>
  intro p W vs h hl;rw[gD] at hl;simp only[YtbdjachmndlplaaGreatDoor.EN,JH,AI];obtain⟨h1,j⟩:=i (p+1) _ _ (h.je (q:=p) (by omega) u) (by rw[lG];omega);exact⟨h1,(Mod.setCell (M:=λx=>x=b) W ⟨b,p,none⟩ u rfl).trans j⟩
def Bx.part{b n:Nat}{vs us:List Value}{K:World->Prop}(h:Bx W b vs)(i:us.length=n)(hl:n<=vs.length)(h1:∀v∈us,v.oneCell'=true)(m:∀W',Bx W' b (JH vs 0 us)->Mod (λx=>x=b) W W'->K W'):BP n (.pointer (some ⟨b,0,none⟩)) (.agg us.toArray) K W:=by
 obtain⟨o,q⟩:=Bx.EN us 0 W vs h (by omega);exact⟨_,us,rfl,rfl,i,h1,λj B=>by rw[AI];exact h.live j (by omega),m _ o q⟩
def Fl{W0 W:World}{p q n:Nat}{m us vs:List Value}{J:World->Prop}(g:Grow W0 W)(hp:W0.heap.size<=p)(O:W0.heap.size<=q)(i:p≠q)(Q:Bx W p m)(U:Bx W q m)(I:m.length=n)(hu:us.length=n)(V:vs.length=n)(X:∀v∈us,v.oneCell'=true)(ov:∀v∈vs,v.oneCell'=true)(hJ:∀W',Grow W0 W'->Bx W' p us->Bx W' q vs->J W') :
  BP n (.pointer (some ⟨p,0,none⟩)) (.agg us.toArray) (λj=>Mod (λy=>W0.heap.size<=y) W j/\BP n (.pointer (some ⟨q,0,none⟩)) (.agg vs.toArray) (λw2=>Mod (λy=>W0.heap.size<=y) j w2/\J w2) j) W:=by
 refine Q.over hu I X λj Y o=>⟨o.mono λx _ e=>by rw[e];exact hp,?_⟩;refine(U.mod o λe=>i e.symm).over V I ov λw2 Z B=>⟨B.mono λx _ e=>by rw[e];exact O,?_⟩;exact hJ w2 ((g.next o λx hx e=>by omega).next B λx hx e=>by omega) (Y.mod B i) Z
section
structure YI (g:AvK):Prop where
 split:∀{v0 v1 v2 K w},SC g v0 v1 v2 K w->AB prog g.fsplit [v0,v1,v2] K w
 pick:∀{v0 v1 K w},dZ g v0 v1 K w->AB prog g.fpick [v0,v1] K w
 melded:∀{v0 v1 K w},UC g v0 v1 K w->AB prog g.fmelded [v0,v1] K w
 replace:∀{v0 v1 v2 v3 K w},RE g v0 v1 v2 v3 K w->AB prog g.fReplace [v0,v1,v2,v3] K w
 over:∀{v0 v1 v2 v3 v4 K w},Wh g v0 v1 v2 v3 v4 K w->AB prog g.fover [v0,v1,v2,v3,v4] K w
structure AvN (α:Type) extends AvT α where
 one0:one=false
 okN:YI toAvK
 cells:α->List Value
 Rc:∀{C w r x},R C w r x↔r=cells x
 cutc:∀{w x p},0<p->p<(k.μ x).1->(k.μ x).1<=1099511627776->BF prog CS vc [.agg (cells x).toArray,zI (p:Int)] (λv w'=>v=.tuple #[.agg (cells (k.cut x p).1).toArray,.agg (cells (k.cut x p).2).toArray]/\Grow w w') w
 meldc:∀{w x y},0<(k.μ x).1->(k.μ x).1<=1099511627776->(k.μ y).1<=1099511627776->BF prog CS vd [.agg (cells x).toArray,.agg (cells y).toArray] (λv w'=>Grow w w'/\∃r,r.length=E/\(∀u∈r,u.oneCell'=true)/\v=.tuple #[.agg r.toArray,.bool (k.meld x y).isSome]/\∀z,k.meld x y=some z->r=cells z) w
section
variable {α:Type}
def SX(g:AvT α):Prop:=∀{F C:Nat->Prop} {W:World} {b i:Nat} {j:Int} {A:ArS α} {n:Nd α},Dj g F C W b j A->A.ps.length<=109951162777->A.f i=some n->
 AB prog g.fpick [.pointer (some ⟨b,0,none⟩),zI i] (λv' w'=>∃r,v'=g.toAvK.enc r/\g.R C w' r n.x/\IG g F C W w' b j (A.free i)) W
def MW(g:AvT α):Prop:=∀{F C S:Nat->Prop} {W:World} {b:Nat} {i:Int} {A:ArS α} {v:Value} {l:List α},Dj g F C W b i A->An S g.E (g.R C) W v l->l.length<=109951162777->EB g l->
 AB prog g.fmelded [.pointer (some ⟨b,0,none⟩),v] (λv' w'=>AE W.heap.size g.te g.E (g.R C) w' v' (g.k.melded l)/\Grow W w') W
structure Rv (g:AvT α) (F C:Nat->Prop) (W w':World) (b:Nat) (rt:Int) (A:ArS α) (t:Tr α) (p:Nat) (l r:Tr α) (A':ArS α):Prop where
 gN:IG g F C W w' b rt A'
 l1:l.toL=(g.k.split t.toL p).1
 r1:r.toL=(g.k.split t.toL p).2
 hl:Tr.Holds g.k.μ A'.f l
 hr:Tr.Holds g.k.μ A'.f r
 H0:(l.idx++r.idx).Nodup
 idx:∀q,q∈l.idx++r.idx->q∈t.idx\/A.f q=none
 same:∀q,q∉t.idx->q∉l.idx++r.idx->A'.f q=A.f q
 len:A'.ps.length<=A.ps.length+1
def O6(g:AvT α):Prop:=∀{C:Nat->Prop} {b:Nat} {i:Int} (t:Tr α) {F:Nat->Prop} {W:World} {A:ArS α} {p:Nat},Dj g F C W b i A->A.ps.length<=109951162776->Tr.Holds g.k.μ A.f t->Tr.GB t->EB g t.toL->p<=1099511627776->
 AB prog g.fsplit [.pointer (some ⟨b,0,none⟩),zI t.root,zI (p:Int)] (λv' w'=>∃l r j,v'=.tuple #[zI l.root,zI r.root]/\Rv g F C W w' b i A t p l r j) W
end
section
variable {α:Type}{g:AvT α}
def IZ{b i p:Nat}{A J:ArS α}{l r a c:Tr α}{x:α}{n:Nd α}(S:Rv g F C W w' b most A l p a c J)(hi:A.f i=some n)(hr:Tr.Holds g.k.μ A.f r)(hu:Tr.GB (.node l i x r)) :
  J.f i=some n/\Tr.Holds g.k.μ J.f r/\Tr.GB (.node c i x r)/\∀q∈a.idx,q∉(Tr.node c i x r).idx:=by
 obtain⟨u1,V,O,X,Q⟩:=Tr.Av.1 hu;have I:∀q,(∃m,A.f q=some m)->q∉l.idx->q∉a.idx++c.idx:=λq ⟨m,hm⟩ j e=>by
  rcases S.idx q e with e|e
  .exact j e
  .rw[hm] at e;cases e
 have o:=I i ⟨n,hi⟩ O;have B:∀q∈r.idx,q∉a.idx++c.idx:=λq j=>I q (hr.has g.k.μ j) λe=>Q q e j;obtain⟨n1,Y,Z⟩:=lI.1 S.H0;refine⟨(S.same i O o).trans hi,hr.frame g.k.μ λq j=>S.same q (λe=>Q q e j) (B q j),Tr.Av.2 ⟨Y,V,λe=>o (lE _ e),X,λq j e=>B q e (lE _ j)⟩,λq j e=>?_⟩;simp only[Tr.idx,By,Mp] at e;rcases e with e|e|e
 .exact Z q j q e rfl
 .exact o (e▸lC _ j)
 .exact B q e (lC _ j)
def Hr{b i p:Nat}{A J:ArS α}{l r a c:Tr α}{x:α}{n:Nd α}(S:Rv g F C W w' b most A r p a c J)(hi:A.f i=some n)(hl:Tr.Holds g.k.μ A.f l)(hu:Tr.GB (.node l i x r)) :
  J.f i=some n/\Tr.Holds g.k.μ J.f l/\Tr.GB (.node l i x a)/\∀q∈c.idx,q∉(Tr.node l i x a).idx:=by
 obtain⟨V,u2,X,O,Q⟩:=Tr.Av.1 hu;have I:∀q,(∃m,A.f q=some m)->q∉r.idx->q∉a.idx++c.idx:=λq ⟨m,hm⟩ j e=>by
  rcases S.idx q e with e|e
  .exact j e
  .rw[hm] at e;cases e
 have o:=I i ⟨n,hi⟩ O;have B:∀q∈l.idx,q∉a.idx++c.idx:=λq j=>I q (hl.has g.k.μ j) λe=>Q q j e;obtain⟨Y,n2,Z⟩:=lI.1 S.H0;refine⟨(S.same i O o).trans hi,hl.frame g.k.μ λq j=>S.same q (λe=>Q q j e) (B q j),Tr.Av.2 ⟨V,Y,X,λe=>o (lC _ e),λq j e=>B q j (lC _ e)⟩,λq j e=>?_⟩;simp only[Tr.idx,By,Mp] at e;rcases e with e|e|e
 .exact B q e (lE _ j)
 .exact o (e▸lE _ j)
 .exact Z q e q j rfl
def FF(l:List α):∀p,Tr.sz g.k.μ (g.k.split l p).1+Tr.sz g.k.μ (g.k.split l p).2=Tr.sz g.k.μ l/\Tr.mk g.k.μ (g.k.split l p).1+Tr.mk g.k.μ (g.k.split l p).2=Tr.mk g.k.μ l:=by
 induction l with
 |nil=>intro p;simp[Kd.split,Tr.sz,Tr.mk]
 |cons x l i=>
  intro p;simp only[Kd.split];by_cases h0:p=0
  .rw[DN h0];simp[Tr.sz,Tr.mk]
  .rw[Bp h0];by_cases h1:(g.k.μ x).1<=p
   .rw[DN h1];obtain⟨i1,i2⟩:=i (p-(g.k.μ x).1);simp only[Tr.BS,Tr.Cw];omega
   .rw[Bp h1];obtain⟨c1,c2,j⟩:=g.cutμ x p (by omega) (by omega);simp only[Tr.BS,Tr.Cw];simp only[Tr.sz,Tr.mk,mh,oG];omega
def EB.split{l:List α}(h:EB g l)(p:Nat):EB g (g.k.split l p).1/\EB g (g.k.split l p).2:=by
 obtain⟨h1,i⟩:=FF (g:=g) l p;obtain⟨j,m⟩:=h;exact⟨⟨by omega,by omega⟩,by omega,by omega⟩
end
section
variable {α:Type}{g:AvN α}
def UJ(r:List Value):g.toAvK.enc r=.agg r.toArray:=by unfold AvK.enc;rw[g.one0];rfl
def CF(x:α):(g.cells x).length=g.E:=g.rlen (C:=λ_=>False) (w:=default) (g.Rc.2 rfl)
def cells_one(x:α):∀u∈g.cells x,u.oneCell'=true:=g.rone (C:=λ_=>False) (w:=default) (g.Rc.2 rfl)
def iC:SX g.toAvT:=by
 intro F C W b i rt A n h hs hi;apply g.okN.pick;unfold dZ;refine Bx.zero λb4 w1 o J U=>?_;have h1:=h.grow J;have key:=SI h1 hi;refine AA key ?_;rintro _ w2 ⟨r,rfl,hr,q⟩;have j:=g.rlen hr;refine AX (g.field0 r (BM n) w2 j (g.rone hr) rfl) ?_;rw[UJ];refine Bx.new j g.zlen (g.rone hr) λb5 w5 a6 B B5=>?_;have h5:=(h1.grow q).grow B;obtain⟨c,pl,fr,V⟩:=h5;refine AG ?_;refine Az (V.box.cells 3 _ rfl) ?_;refine AA (MM V hi hs) ?_;rintro _ w7 ⟨F',a1,X,h7,I⟩;have a7:g.R C w7 r n.x:=g.Rc.2 (g.Rc.1 hr);have s4:=J.size;have s2:=q.size;have s5:=B.size;have s7:=I.size;have nF:∀{z:Nat},W.heap.size<=z->∀x,F x\/C x->x≠z:=λhz x m e=>by have:=h.lt x m;omega
 have O:=B5.mod I λe=>nF (by omega) b5 (.inl e.1) rfl;have Q:=((U.grow q).grow B).mod I λe=>nF (by omega) b4 (.inl e.1) rfl;have Y:b4<w1.heap.size:=U.lt (by rw[g.zlen];exact g.Epos);refine O.Eg j ?_;refine Q.over j g.zlen (g.rone hr) λw9 B9 Z=>?_;refine B9.Eg j ?_;have h9:Dj g.toAvT F' C w9 b rt (A.free i):=h7.mod Z λx m e=>by
  rcases m with m|m
  .rcases X x m with e'|e'
   .exact nF o x (.inl e') e
   .omega
  .exact nF o x (.inr m) e
 refine⟨r,(UJ r).symm,g.Rc.2 (g.Rc.1 hr),F',a1,λx m=>?_,h9,?_⟩
 .rcases X x m with e|e
  .exact .inl e
  .exact .inr (by omega)
 .exact((((J.trans q).trans B).mono λ_ _ h=>h.elim).trans I).next Z λy hy e=>by omega
end
variable {α:Type}{g:AvN α}
def Gr{a c:Nat}{k:Value->Prop}(h:c<=a)(ha:a<=9223372036854775807)(hk:k (zI (a-c:Nat))):DR .i64 (zI a) (zI c) k:=by
 rw[Am,wrap64 (by omega) (by omega)];have e:((a:Int)-(c:Int))=((a-c:Nat):Int):=by omega
 rw[e];exact hk
def dY{r:List Value}(hr:r.length=g.E)(x:α):Instr.fill (λi=>[(0,g.E),(g.E,1),(g.E+1,1),(g.E+2,1),(g.E+3,1),(g.E+4,1)][i]?) g.toAvK.zN.toArray [(0,.agg r.toArray)]=some (r++BM (⟨x,0,0,0,0,0⟩:Nd α)).toArray:=by
 have j:=g.zlen;rw[DB (l:=g.toAvK.zN) (vs:=r) (off:=0) (len:=g.E) rfl rfl hr (by rw[IM];omega),FX,AvK.zN,H6 (by omega)];rfl
def QE{b i:Nat}{j:Int}{A:ArS α}{n:Nd α}{l r:Tr α}(h:Dj g.toAvT F C W b j A)(m:A.ps.length<=109951162777)(hi:A.f i=some n)(hl:Tr.Holds g.k.μ A.f l)(hr:Tr.Holds g.k.μ A.f r)(hu:Tr.GB (.node l i n.x r))(hb:EB g.toAvT (Tr.node l i n.x r).toL) :
  AB prog g.fjoin [.pointer (some ⟨b,0,none⟩),zI l.root,zI i,zI r.root] (λv' w'=>∃t' o,v'=zI t'.root/\ZW g.toAvT F C W w' b j A (Tr.node l i n.x r).toL (Tr.node l i n.x r).idx t' o) W:=
 Fu (l.De+r.De) (K8 _) h m hi hl hr hu hb
def Qu(A:ArS α)(n:Nd α):(A.take n).ps.length<=A.ps.length+1:=by
 unfold ArS.take;split<;>simp
def eK:O6 g.toAvT:=by
 intro C b rt t;induction t with
 |nil=>
  intro F W A p h hs _ _ _ _;apply g.okN.split;unfold SC;simp only[Tr.root];rw[Aa];refine AD (λ_=>?_) λe=>(e rfl).elim;exact⟨.nil,.nil,A,rfl,⟨⟨F,λ_ h=>h,λ_ h=>.inl h,h,Mod.refl _ _⟩,rfl,rfl,trivial,trivial,om,(λq I=>nomatch I),λ_ _ _=>rfl,rk _⟩⟩
 |node l i x r ew ey=>
  intro F W A p h hs hh hu hb hp;obtain⟨hl,hr,hi⟩:=id hh;obtain⟨u1,u2,u3,u4,u5⟩:=Tr.Av.1 hu;have Y:=g.k.NP l.toL r.toL x p;have bs:=hb.1;have bZ:=hb.2;simp only[Tr.toL,Tr.CI,Tr.BS] at bs;simp only[Tr.toL,Tr.Fo,Tr.Cw] at bZ;have nF:∀{z:Nat},W.heap.size<=z->∀x,F x\/C x->x≠z:=λhz x hx e=>by have:=h.lt x hx;omega
  apply g.okN.split;unfold SC;simp only[Tr.root];rw[Aa];refine AD (λe=>by omega) λ_=>?_;refine Dt h hi λrc bx w3 V c4 B ay=>?_;have a6:=g.rlen ay;have dk:=g.Rc.1 ay;have h3:=h.grow V;refine Az (B.cells (g.E+0) _ (by rw[AY a6];rfl)) ?_;refine AA (Bo h3 hl) ?_;rintro _ w5 ⟨rfl,g5⟩;refine K0 ?_;have dr:Grow w5 w5.drew:=Mod.drew _ _;have dA:=(V.trans g5).trans dr;obtain⟨c,pl,fr,hT⟩:=id h;have bb:=hT.mod dA λ_ _ h=>h;have B5:=(B.grow g5).grow dr;refine AT (λ_ _=>False) ?_;refine AG ?_;rw[AH,AI,AH,AI];refine AP ⟨bb.box.cells 0 _ rfl,λ_ _ e=>e⟩ ?_;rw[AH,AI];refine JS (g:=g.toAvT) (r:=rc) a6 (λj v hv=>⟨B5.cells j v (by rw[Q0 (Ad.1 hv).1];exact hv),λ_ _ e=>e⟩) ?_;refine Ao (g.meas (C:=C) (x:=x) (g.Rc.2 (g.Rc.1 ay))) ?_;rintro _ w6 ⟨rfl,g6⟩;refine⟨g6.mono λ_ _ h=>h.elim,?_⟩;refine BI ?_;have aZ:=dA.trans g6;have gB:=aZ.size;have h6:=h.grow aZ;have B6:=B5.grow g6;rw[HT];refine AD (λgW=>?_) λgr=>?_
  .have dB:p<=Tr.sz g.k.μ l.toL:=by omega
   rw[DN dB] at Y;refine Az (B6.cells (g.E+0) _ (by rw[AY a6];rfl)) ?_;refine AA (ew h6 hs hl u1 hb.app.1 hp) ?_;rintro _ w8 ⟨a,c1,A1,rfl,o⟩;refine BI ?_;obtain⟨F1,k1,k2,h8,m8⟩:=o.gN;have B8:=B6.mod m8 λe=>nF c4 bx (.inl e.1) rfl;refine Az (B8.cells (g.E+1) _ (by rw[AY a6];rfl)) ?_;obtain⟨e1,e2,e3,e4⟩:=IZ o hi hr hu;have c6:EB g.toAvT (Tr.node c1 i x r).toL:=by
    obtain⟨q1,q2⟩:=FF (g:=g.toAvT) l.toL p;constructor
    .simp only[Tr.toL,Tr.CI,Tr.BS,o.r1];omega
    .simp only[Tr.toL,Tr.Fo,Tr.Cw,o.r1];omega
   have ez:=o.len;refine AA (Fu (c1.De+r.De) (K8 _) h8 (by omega) e1 o.hr e2 e3 c6) ?_;rintro _ eA ⟨t2,A2,rfl,O⟩;have perm:=O.idx;have sm:∀q,q∈t2.idx↔q∈(Tr.node c1 i x r).idx:=λq=>O.idx.mem_iff;have s8:=m8.size;refine⟨a,t2,A2,rfl,⟨⟨F1,k1,λx hx=>(k2 x hx).imp (λh=>h) λh=>by omega,O.EI,((aZ.mono λ_ _ h=>h.elim).trans m8).next O.mod λx hx e=>?_⟩,?_,?_,o.hl.frame g.k.μ λq I=>O.same q (e4 q I),O.holds,?_,λq I=>?_,λq ak al=>?_,by rw[O.len];omega⟩⟩
   .rcases k2 x e.1 with e'|e'
    .exact⟨e',e.2⟩
    .omega
   .rw[o.l1];simp only[Tr.toL,Y]
   .rw[O.toL];simp only[Tr.toL,Tr.EC,o.r1,Y]
   .exact lI.2 ⟨(lI.1 o.H0).1,O.idx.nodup_iff.2 e3,λq I q' b6 e=>e4 q I (e▸(sm q').1 b6)⟩
   .rcases By.1 I with I|I
    .rcases o.idx q (lC _ I) with e|e
     .exact .inl (by simp[Tr.idx,e])
     .exact .inr e
    .have:=(sm q).1 I;simp only[Tr.idx,By,Mp] at this ⊢;rcases this with e|e|e
     .rcases o.idx q (lE _ e) with e|e
      .exact .inl (.inl e)
      .exact .inr e
     .exact .inl (.inr (.inl e))
     .exact .inl (.inr (.inr e))
   .simp only[Tr.idx,By,Mp,rJ] at ak;have b7:q∉(Tr.node c1 i x r).idx:=λe=>al (lE _ ((sm q).2 e));refine(O.same q b7).trans (o.same q ak.1 λe=>?_);rcases By.1 e with e|e
    .exact al (lC _ e)
    .exact b7 (by simp[Tr.idx,e])
  have c7:¬p<=Tr.sz g.k.μ l.toL:=by omega
  rw[Bp c7] at Y;refine B0 (by omega) ?_;rw[Cu];refine AD (λh0=>?_) λgv=>?_
  .have dC:Tr.sz g.k.μ l.toL+(g.k.μ x).1<=p:=by omega
   rw[DN dC] at Y;refine Az (B6.cells (g.E+1) _ (by rw[AY a6];rfl)) ?_;refine Gr (by omega) (by omega) (Gr (by omega) (by omega) ?_);refine AA (ey h6 hs hr u2 hb.app.2.cons.1 (p:=p-Tr.sz g.k.μ l.toL-(g.k.μ x).1) (by omega)) ?_;rintro _ w8 ⟨a,c1,A1,rfl,o⟩;refine BI ?_;obtain⟨F1,k1,k2,h8,m8⟩:=o.gN;have B8:=B6.mod m8 λe=>nF c4 bx (.inl e.1) rfl;refine Az (B8.cells (g.E+0) _ (by rw[AY a6];rfl)) ?_;obtain⟨e1,e2,e3,e4⟩:=Hr o hi hl hu;have c6:EB g.toAvT (Tr.node l i x a).toL:=by
    obtain⟨q1,q2⟩:=FF (g:=g.toAvT) r.toL (p-Tr.sz g.k.μ l.toL-(g.k.μ x).1);constructor
    .simp only[Tr.toL,Tr.CI,Tr.BS,o.l1];omega
    .simp only[Tr.toL,Tr.Fo,Tr.Cw,o.l1];omega
   have ez:=o.len;refine AA (Fu (l.De+a.De) (K8 _) h8 (by omega) e1 e2 o.hl e3 c6) ?_;rintro _ eA ⟨t2,A2,rfl,O⟩;have sm:∀q,q∈t2.idx↔q∈(Tr.node l i x a).idx:=λq=>O.idx.mem_iff;have s8:=m8.size;refine⟨t2,c1,A2,rfl,⟨⟨F1,k1,λx hx=>(k2 x hx).imp (λh=>h) λh=>by omega,O.EI,((aZ.mono λ_ _ h=>h.elim).trans m8).next O.mod λx hx e=>?_⟩,?_,?_,O.holds,o.hr.frame g.k.μ λq I=>O.same q (e4 q I),?_,λq I=>?_,λq ak al=>?_,by rw[O.len];omega⟩⟩
   .rcases k2 x e.1 with e'|e'
    .exact⟨e',e.2⟩
    .omega
   .rw[O.toL];simp only[Tr.toL,Tr.EC,o.l1,Y]
   .rw[o.r1];simp only[Tr.toL,Y]
   .exact lI.2 ⟨O.idx.nodup_iff.2 e3,(lI.1 o.H0).2.1,λq I q' b6 e=>e4 q' b6 (e▸(sm q).1 I)⟩
   .rcases By.1 I with I|I
    .have:=(sm q).1 I;simp only[Tr.idx,By,Mp] at this ⊢;rcases this with e|e|e
     .exact .inl (.inl e)
     .exact .inl (.inr (.inl e))
     .rcases o.idx q (lC _ e) with e|e
      .exact .inl (.inr (.inr e))
      .exact .inr e
    .rcases o.idx q (lE _ I) with e|e
     .exact .inl (by simp[Tr.idx,e])
     .exact .inr e
   .simp only[Tr.idx,By,Mp,rJ] at ak;have b7:q∉(Tr.node l i x a).idx:=λe=>al (lC _ ((sm q).2 e));refine(O.same q b7).trans (o.same q ak.2.2 λe=>?_);rcases By.1 e with e|e
    .exact b7 (by simp[Tr.idx,e])
    .exact al (lE _ e)
  have c8:¬Tr.sz g.k.μ l.toL+(g.k.μ x).1<=p:=by omega
  rw[Bp c8] at Y;have c9:0<p-Tr.sz g.k.μ l.toL:=by omega
  have ca:p-Tr.sz g.k.μ l.toL<(g.k.μ x).1:=by omega
  generalize eB:p-Tr.sz g.k.μ l.toL=J at Y c9 ca;have b0:Grow w6 w6.drew:=Mod.drew _ _;refine AR (λvs W'=>∃a8 Z,vs=[.pointer (some ⟨a8,0,none⟩),.pointer (some ⟨Z,0,none⟩)]/\w6.drew.heap.size<=a8/\w6.drew.heap.size<=Z/\Grow w6.drew W'/\Bx W' a8 (g.cells (g.k.cut x J).1)/\Bx W' Z (g.cells (g.k.cut x J).2)) ?_ ?_;rotate_left
  .have an:∀{W':World},BF prog CS g.vc [.agg (g.cells x).toArray,zI (J:Int)] (λv w'=>v=.tuple #[.agg (g.cells (g.k.cut x J).1).toArray,.agg (g.cells (g.k.cut x J).2).toArray]/\Grow W' w') W':=g.cutc c9 ca (by omega);have dT:=B6.grow b0;have e5:=hT.mod (aZ.trans b0) λ_ _ h=>h;have gw:=e5.box.lt (QC _);have eC:=dT.lt (by rw[BA _ ay];omega);have s6:=b0.size;refine AT (λ_ y=>w6.drew.heap.size<=y) ?_;refine AG ?_;rw[AH,AI,AH,AI];refine AP ⟨e5.box.cells 1 _ rfl,λ_ _ e=>by simp only at e;omega⟩ ?_;rw[AH,AI];refine CG a6 (λj v hv=>⟨by rw[AI];exact dT.cells j v (by rw[Q0 (Ad.1 hv).1];exact hv),λ_ _ e=>by rw[AI] at e;simp only at e;omega⟩) ?_;refine Gr (by omega) (by omega) ?_;rw[eB,dk];have a1:=CF (g:=g) (g.k.cut x J).1;have a7:=CF (g:=g) (g.k.cut x J).2;have b1:=cells_one (g:=g) (g.k.cut x J).1;have b2:=cells_one (g:=g) (g.k.cut x J).2;have gm:∀{W1 W2:World},Grow W1 W2->Mod (λy=>w6.drew.heap.size<=y) W1 W2:=λg=>g.mono λ_ _ h=>h.elim;have nb:∀{z:Nat} {W':World} {vs:List Value},Bx W' z vs->vs.length=g.E->z<W'.heap.size:=λB' e=>B'.lt (by rw[e];exact g.Epos);have ng:∀{W1:World},Grow w6.drew W1->w6.drew.heap.size<=W1.heap.size:=λg=>g.size;refine⟨?_,?_,?_⟩
   .refine Ao an ?_;rintro _ w2 ⟨rfl,X⟩;refine⟨gm X,Ae (vs:=[_,_]) (by rfl) (Ae (vs:=[_,_]) (by rfl) ⟨?_,?_⟩)⟩
    .refine Bx.zero λa8 w3 av V Q=>⟨gm V,?_⟩;refine Bx.zero λZ w4 ax g4 U=>⟨gm g4,?_⟩;have k1:=nb Q g.zlen;have k2:=X.size;have k3:=V.size;exact Fl ((X.trans V).trans g4) (by omega) (by omega) (by omega) (Q.grow g4) U g.zlen a1 a7 b1 b2 λW' g' B1 B2=>⟨_,_,rfl,by omega,by omega,g',B1,B2⟩
    .refine Bx.zero λZ w3 ax V U=>⟨gm V,?_⟩;refine Bx.zero λa8 w4 av g4 Q=>⟨gm g4,?_⟩;have k1:=nb U g.zlen;have k2:=X.size;have k3:=V.size;exact Fl ((X.trans V).trans g4) (by omega) (by omega) (by omega) Q (U.grow g4) g.zlen a1 a7 b1 b2 λW' g' B1 B2=>⟨_,_,rfl,by omega,by omega,g',B1,B2⟩
   .refine Bx.zero λa8 w1 av g1 Q=>⟨gm g1,?_,?_⟩
    .refine Ao an ?_;rintro _ w2 ⟨rfl,X⟩;refine⟨gm X,BI ?_⟩;refine Bx.zero λZ w3 ax V U=>⟨gm V,?_⟩;have k1:=nb Q g.zlen;have k2:=X.size;have k3:=g1.size;exact Fl ((g1.trans X).trans V) (by omega) (by omega) (by omega) ((Q.grow X).grow V) U g.zlen a1 a7 b1 b2 λW' g' B1 B2=>⟨_,_,rfl,by omega,by omega,g',B1,B2⟩
    .refine Bx.zero λZ w3 ax V U=>⟨gm V,?_⟩;refine Ao an ?_;rintro _ w2 ⟨rfl,X⟩;refine⟨gm X,BI ?_⟩;have k1:=nb Q g.zlen;have k2:=V.size;have k3:=g1.size;exact Fl ((g1.trans V).trans X) (by omega) (by omega) (by omega) ((Q.grow V).grow X) (U.grow X) g.zlen a1 a7 b1 b2 λW' g' B1 B2=>⟨_,_,rfl,by omega,by omega,g',B1,B2⟩
   .refine Bx.zero λZ w1 ax g1 U=>⟨gm g1,?_,?_⟩
    .refine Ao an ?_;rintro _ w2 ⟨rfl,X⟩;refine⟨gm X,BI ?_⟩;refine Bx.zero λa8 w3 av V Q=>⟨gm V,?_⟩;have k1:=nb U g.zlen;have k2:=X.size;have k3:=g1.size;exact Fl ((g1.trans X).trans V) (by omega) (by omega) (by omega) Q ((U.grow X).grow V) g.zlen a1 a7 b1 b2 λW' g' B1 B2=>⟨_,_,rfl,by omega,by omega,g',B1,B2⟩
    .refine Bx.zero λa8 w3 av V Q=>⟨gm V,?_⟩;refine Ao an ?_;rintro _ w2 ⟨rfl,X⟩;refine⟨gm X,BI ?_⟩;have k1:=nb U g.zlen;have k2:=V.size;have k3:=g1.size;exact Fl ((g1.trans V).trans X) (by omega) (by omega) (by omega) (Q.grow X) ((U.grow V).grow X) g.zlen a1 a7 b1 b2 λW' g' B1 B2=>⟨_,_,rfl,by omega,by omega,g',B1,B2⟩
  rintro _ W1 ⟨a8,Z,rfl,av,ax,e6,Q,U⟩ _;have s6:=b0.size;have eI:Grow W W1:=(aZ.trans b0).trans e6;have B1:=(B6.grow b0).grow e6;refine Cv (λw'=>Grow W1 w') (Mod.drew _ _) ?_;rw[AH,AI];refine Aw (λw' g'=>g'.cell (B1.cells (g.E+0) _ (by rw[AY a6];rfl)) λh=>h) ?_;rw[AH,AI];refine Aw (λw' g'=>g'.cell (B1.cells (g.E+1) _ (by rw[AY a6];rfl)) λh=>h) ?_;intro W2 bc;have eL:=eI.trans bc;have B2:=B1.grow bc;have e7:=Q.grow bc;have e8:=U.grow bc;simp only[FC];have a1:=CF (g:=g) (g.k.cut x J).1;have a7:=CF (g:=g) (g.k.cut x J).2;refine e7.Eg a1 ?_;rw[AH,AI];refine B2.part a1 (by rw[BA _ ay];omega) (cells_one (g:=g) (g.k.cut x J).1) λW3 B3 m3=>?_;rw[H6 (by rw[a1,a6])] at B3;have eN:Grow W W3:=eL.next m3 λy hy e=>by omega
  have gA:=B6.lt (by rw[BA _ ay];omega);have cc:Grow W3 W3.drew:=Mod.drew _ _;have b8:=eN.trans cc;have b9:=hT.mod b8 λ_ _ h=>h;have eR:=B3.grow cc;have e9:=(e8.mod m3 λe=>by omega).grow cc;refine AT (λ_ y=>Fb F b y) ?_;refine AG ?_;rw[AH,AI];refine AP ⟨b9.box.cells 3 _ rfl,λ_ _ e=>e.2 rfl⟩ ?_;refine CG (vs:=g.cells (g.k.cut x J).1++BM (Tr.EC g.k.μ (.node l i x r) x l.root r.root)) (by rw[BW,a1];rfl) (λj v hv=>⟨by rw[AI];exact eR.cells j v hv,λ_ _ e=>by rw[AI] at e;exact nF c4 bx (.inl e.1) rfl⟩) ?_;refine AA (UA b9.ar hi (n:={ Tr.EC g.k.μ (.node l i x r) x l.root r.root with x:=(g.k.cut x J).1 }) (g.Rc.2 rfl)) ?_;rintro _ W4 ⟨eX,m4⟩;have ba:Mod (Fb F b) W3.drew W4:=m4.mono λx _ e=>(b9.ar.pF x e).1;refine⟨ba,?_⟩;have h4:Dj g.toAvT F C W4 b rt (A.put i { Tr.EC g.k.μ (.node l i x r) x l.root r.root with x:=(g.k.cut x J).1 }):=⟨c,pl,fr,b9.box.mod ba λe=>e.2 rfl,eX,b9.fb⟩;have ea:(A.put i { Tr.EC g.k.μ (.node l i x r) x l.root r.root with x:=(g.k.cut x J).1 }).f i=some { Tr.EC g.k.μ (.node l i x r) x l.root r.root with x:=(g.k.cut x J).1 }:=by rw[ArS.KI hi,Tr.KW]
  have ed:Tr.Holds g.k.μ (A.put i { Tr.EC g.k.μ (.node l i x r) x l.root r.root with x:=(g.k.cut x J).1 }).f l:=by rw[ArS.KI hi];exact hl.out g.k.μ _ u3
  have ee:Tr.Holds g.k.μ (A.put i { Tr.EC g.k.μ (.node l i x r) x l.root r.root with x:=(g.k.cut x J).1 }).f r:=by rw[ArS.KI hi];exact hr.out g.k.μ _ u4
  have ch:∀q,q≠i->(A.put i { Tr.EC g.k.μ (.node l i x r) x l.root r.root with x:=(g.k.cut x J).1 }).f q=A.f q:=λq I=>IF hi I;have jL:=Df A i { Tr.EC g.k.μ (.node l i x r) x l.root r.root with x:=(g.k.cut x J).1 };generalize A.put i { Tr.EC g.k.μ (.node l i x r) x l.root r.root with x:=(g.k.cut x J).1 }=A4 at h4 ea ed ee ch jL;have bl:=e9.mod ba λe=>by have:=h.lt Z (.inl e.1);omega
  have bd:Grow W4 W4.drew:=Mod.drew _ _;have ef:=h4.grow bd;have eu:=bl.lt (by rw[a7];exact g.Epos);refine AT (λ_ y=>Fb F b y\/W4.drew.heap.size<=y) ?_;obtain⟨q1,q2,q3⟩:=g.cutμ x J c9 ca;have eh:Tr.GB (.node l i (g.k.cut x J).1 .nil):=Tr.Av.2 ⟨u1,om,u3,(λe=>nomatch e),λq _ e=>nomatch e⟩;have fa:EB g.toAvT (Tr.node l i (g.k.cut x J).1 .nil).toL:=by
   constructor
   .simp only[Tr.toL,Tr.CI,Tr.BS];simp only[Tr.sz,mh,oG] at bs ⊢;omega
   .simp only[Tr.toL,Tr.Fo,Tr.Cw];simp only[Tr.mk,mh,oG] at bZ ⊢;omega
  refine AA (QE (l:=l) (r:=.nil) ef (by omega) ea ed trivial eh fa) ?_;rintro _ W5 ⟨t1,A5,rfl,o⟩;refine⟨o.mod.mono λx _ e=>.inl e,?_⟩;have z4:=bd.size;obtain⟨c',h2,h5,bb⟩:=id o.EI;refine AG ?_;rw[AH,AI];obtain⟨cd,h7,h9,cu⟩:=id ef;have cx:=bb.box.cells 3 _ rfl;have fo:¬(Fb F b b\/W4.drew.heap.size<=b):=λe=>by
   rcases e with e|e
   .exact e.2 rfl
   .have:=cu.box.lt (QC _);omega
  have ec:cd=c':=by
   have e1:=o.mod.cell (cu.box.cells 3 _ rfl) λe=>e.2 rfl;rw[cx] at e1;cases e1;rfl
  subst ec;refine AP ⟨cu.box.cells 3 _ rfl,λ_ _ e=>fo e⟩ ?_;refine CG a7 (λj v hv=>⟨by rw [AI];exact bd.cell (bl.cells j v hv) λh=>h,λk _ e=>by
   rw[AI] at e;rcases e with e|e
   .have:=h.lt Z (.inl e.1);omega
   .simp only at e;omega⟩) ?_
  refine⟨_,dY a7 (g.k.cut x J).2,?_⟩;have cI:=o.len;refine AA (L5 bb (n:=⟨(g.k.cut x J).2,0,0,0,0,0⟩) (g.Rc.2 rfl) (by omega)) ?_;rintro _ W6 ⟨rfl,F6,k1,k2,h6,m6⟩;have z5:=o.mod.size;have z6:=m6.size;refine⟨m6.mono λx _ e=>.inl e,?_⟩;obtain⟨bk,ej,tok⟩:=ArS.Se (⟨(g.k.cut x J).2,0,0,0,0,0⟩:Nd α) o.EI.ok;have ek:A5.num∉(Tr.node l i (g.k.cut x J).1 .nil).idx->A4.f A5.num=none:=λI=>(o.same _ I).symm.trans ej;have da:A5.num∉t1.idx:=λe=>by
   obtain⟨m,hm⟩:=o.holds.has g.k.μ e;rw[ej] at hm;cases hm
  have en:A5.num∉(Tr.node l i (g.k.cut x J).1 .nil).idx:=λe=>da (o.idx.mem_iff.2 e);have fs:=ek en;have fv:A5.num≠i:=λe=>en (by simp[Tr.idx,e]);have eo:A.f A5.num=none:=(ch _ fv).symm.trans fs;have ep:A5.num∉r.idx:=λe=>by
   obtain⟨m,hm⟩:=hr.has g.k.μ e;rw[eo] at hm;cases hm
  have ga:Tr.Holds g.k.μ A5.f r:=ee.frame g.k.μ λq I=>o.same q λe=>by
   simp only[Tr.idx,By,Mp,l9,nw] at e;rcases e with e|e
   .exact u5 q e I
   .exact u4 (e▸I)
  have gb:Tr.Holds g.k.μ (A5.take ⟨(g.k.cut x J).2,0,0,0,0,0⟩).f r:=by rw[bk];exact ga.out g.k.μ _ ep
  have gd:(A5.take ⟨(g.k.cut x J).2,0,0,0,0,0⟩).f A5.num=some ⟨(g.k.cut x J).2,0,0,0,0,0⟩:=by rw[bk,Tr.KW]
  have gZ:(A5.take ⟨(g.k.cut x J).2,0,0,0,0,0⟩).ps.length<=A5.ps.length+1:=Qu _ _;have er:Tr.GB (.node .nil A5.num (g.k.cut x J).2 r):=Tr.Av.2 ⟨om,u2,(λe=>nomatch e),ep,λq e=>nomatch e⟩;have gf:EB g.toAvT (Tr.node .nil A5.num (g.k.cut x J).2 r).toL:=by
   constructor
   .simp only[Tr.toL,Tr.CI,Tr.BS];simp only[Tr.sz,mh,oG] at bs ⊢;omega
   .simp only[Tr.toL,Tr.Fo,Tr.Cw];simp only[Tr.mk,mh,oG] at bZ ⊢;omega
  refine AA (QE (l:=.nil) (r:=r) h6 (by omega) gd trivial gb er gf) ?_;rintro _ W7 ⟨t2,A7,rfl,O⟩;refine⟨O.mod.mono λx _ e=>?_,?_⟩
  .rcases k2 x e.1 with e'|e'
   .exact .inl ⟨e',e.2⟩
   .exact .inr (by omega)
  have et:∀q,q∈t1.idx↔q∈l.idx\/q=i:=λq=>by rw[o.idx.mem_iff];simp[Tr.idx]
  have gg:∀q,q∈t2.idx↔q=A5.num\/q∈r.idx:=λq=>by rw[O.idx.mem_iff];simp[Tr.idx]
  have bp:∀q∈t1.idx,q∉(Tr.node .nil A5.num (g.k.cut x J).2 r).idx:=λq I e=>by
   simp only[Tr.idx,lg,Mp] at e;rcases e with e|e
   .exact da (e▸I)
   .rcases(et q).1 I with e'|e'
    .exact u5 q e' e
    .exact u4 (e'▸e)
  have gl:Tr.Holds g.k.μ (A5.take ⟨(g.k.cut x J).2,0,0,0,0,0⟩).f t1:=by rw[bk];exact o.holds.out g.k.μ _ da
  have z7:=b8.size;have z8:=ba.size;refine⟨t1,t2,A7,rfl,⟨⟨F6,k1,λx hx=>(k2 x hx).imp (λh=>h) λh=>by omega,O.EI,?_⟩,?_,?_,gl.frame g.k.μ λq I=>O.same q (bp q I),O.holds,?_,λq I=>?_,λq ak al=>?_,by rw[O.len];omega⟩⟩
  .have n1:Mod (Fb F b) W W4:=(b8.mono λ_ _ h=>h.elim).trans ba;have n2:=((n1.trans (bd.mono λ_ _ h=>h.elim)).trans o.mod).trans m6;refine n2.next O.mod λx hx e=>?_;rcases k2 x e.1 with e'|e'
   .exact⟨e',e.2⟩
   .omega
  .rw[o.toL];simp only[Tr.toL,Y]
  .rw[O.toL];simp only[Tr.toL,Y,lg]
  .refine lI.2 ⟨o.idx.nodup_iff.2 eh,O.idx.nodup_iff.2 er,λq I q' b6 e=>?_⟩;subst e;exact bp q I (O.idx.mem_iff.1 b6)
  .rcases By.1 I with I|I
   .rcases(et q).1 I with e|e
    .exact .inl (by simp[Tr.idx,e])
    .exact .inl (by simp[Tr.idx,e])
   .rcases(gg q).1 I with e|e
    .exact .inr (e▸eo)
    .exact .inl (by simp[Tr.idx,e])
  .simp only[Tr.idx,By,Mp,rJ] at ak;have w1:q∉(Tr.node .nil A5.num (g.k.cut x J).2 r).idx:=λe=>al (lE _ (O.idx.mem_iff.2 e));have w2:q∉(Tr.node l i (g.k.cut x J).1 .nil).idx:=λe=>al (lC _ (o.idx.mem_iff.2 e));have w3:q≠A5.num:=λe=>w1 (by simp[Tr.idx,e]);have e2:(A5.take ⟨(g.k.cut x J).2,0,0,0,0,0⟩).f q=A5.f q:=by rw[bk,Tr.Da _ w3]
   exact((O.same q w1).trans (e2.trans (o.same q w2))).trans (ch q ak.2.1)
end
section
section
variable {α:Type}{g:AvT α}
def Va{out:List α}{x:α}(h:Tr.sz g.k.μ out+(g.k.μ x).1<=1099511627776):Tr.sz g.k.μ (g.k.CC out x)<=Tr.sz g.k.μ out+(g.k.μ x).1:=by
 unfold Kd.CC;by_cases h0:(g.k.μ x).1=0
 .rw[DN h0];omega
 .rw[Bp h0];rcases lS out with rfl|⟨o,y,rfl⟩
  .simp[Tr.sz]
  .rw[mB] at h ⊢;simp only[cq,kY,lu,mW];cases hm:g.k.meld y x with
   |none=>rw[Tr.CI,Tr.BS];simp[Tr.sz]
   |some z=>
    have:=(g.meldμ _ _ _ hm).1;simp only[Tr.CI,Tr.BS];omega
def Ss(l:List α)(h:Tr.sz g.k.μ l<=1099511627776):Tr.sz g.k.μ (g.k.melded l)<=Tr.sz g.k.μ l:=by
 have gen:∀(l out:List α),Tr.sz g.k.μ out+Tr.sz g.k.μ l<=1099511627776->Tr.sz g.k.μ (l.foldl g.k.CC out)<=Tr.sz g.k.μ out+Tr.sz g.k.μ l:=by
  intro l;induction l with
  |nil=>intro out _;simp[Tr.sz]
  |cons x l i=>
   intro out h;rw[Tr.BS] at h ⊢;rw[mr];have h1:=Va (g:=g) (out:=out) (x:=x) (by omega);have j:=i (g.k.CC out x) (by omega);omega
 have:=gen l [] (by simpa[Tr.sz] using h);unfold Kd.melded;simpa[Tr.sz] using this
def eF{l:List α}{x:α}(h:x∈l):(g.k.μ x).1<=Tr.sz g.k.μ l:=by
 induction l with
 |nil=>simp at h
 |cons y l i=>
  rw[Tr.BS];rcases Mp.1 h with rfl|h
  .omega
  .have:=i h;omega
end
variable {α:Type}{g:AvN α}
def HX(k:Kd α)(l:List α):(k.melded l).length<=l.length:=by
 have gen:∀(l out:List α),(l.foldl k.CC out).length<=out.length+l.length:=by
  intro l;induction l with
  |nil=>intro out;simp
  |cons x l i=>
   intro out;rw[mr,gD];have h1:=i (k.CC out x);have j:(k.CC out x).length<=out.length+1:=by
    unfold Kd.CC;split
    .omega
    .split
     .split
      .simp
      .simp
     .simp
   omega
 have:=gen l [];unfold Kd.melded;simpa using this
def LK(k:Kd α)(l:List α)(x:α):k.melded (l++[x])=k.CC (k.melded l) x:=by
 unfold Kd.melded;rw[mY];rfl
def SP(k:Kd α)(j:∀x y z,k.meld x y=some z->0<(k.μ x).1->0<(k.μ z).1)(l:List α):∀x∈k.melded l,0<(k.μ x).1:=by
 have gen:∀(l out:List α),(∀x∈out,0<(k.μ x).1)->∀x∈l.foldl k.CC out,0<(k.μ x).1:=by
  intro l;induction l with
  |nil=>intro out h;exact h
  |cons y l o=>
   intro out h;rw[mr];refine o _ ?_;unfold Kd.CC;split
   .exact h
   .split
    .rename_i z B;have m:=nP B;split
     .rename_i q I;intro x i;rcases By.1 i with i|i
      .exact h x (List.dropLast_subset _ i)
      .simp at i;subst i;exact j _ _ _ I (h _ m)
     .intro x i;rcases By.1 i with i|i
      .exact h x i
      .simp at i;subst i;omega
    .intro x i;rcases By.1 i with i|i
     .exact h x i
     .simp at i;subst i;omega
 exact gen l [] (by simp)
def cN:MW g.toAvT:=by
 intro F C S W b rt A v l h hv hl hb;apply g.okN.melded;unfold UC;obtain⟨va,vc,rfl,hm⟩:=hv.shape;have e8:=hb.1;have c9:=hv.Gw g.Epos;rw[AO];refine AU (λvs W'=>∃(i:Nat) (out:Value),i<=l.length/\vs=[out,zI i]/\AE W.heap.size g.te g.E (g.R C) W' out (g.k.melded (l.take i))/\Grow W W') (λvs _=>l.length-Dh vs 1)
  ⟨0,_,Nn _,rfl,AE.nil,Mod.refl _ _⟩ ?_
 rintro vs W1 ⟨i,out,hi,rfl,ho,g1⟩ _;simp only[FC];refine G9 (λe9=>?_) λca=>?_;rotate_left
 .have:i=l.length:=by omega
  subst this;rw[S7] at ho;exact⟨ho,g1⟩
 have I:i<l.length:=by omega
 obtain⟨p,r,rfl,hS,hr,hc,bd⟩:=c9.get I;have cc:=g.Rc.1 bd;subst cc;have Y:l.take (i+1)=l.take i++[l[i]]:=by rw[S5];simp[I]
 have bk:Tr.sz g.k.μ (l.take i)+(g.k.μ l[i]).1<=Tr.sz g.k.μ l:=by
  have e:Tr.sz g.k.μ l=Tr.sz g.k.μ (l.take (i+1))+Tr.sz g.k.μ (l.drop (i+1)):=by rw[<-Tr.CI,TC]
  rw[Y,Tr.CI,Tr.BS] at e;simp only[Tr.sz,mh,oG] at e ⊢;omega
 have B:g.k.melded (l.take (i+1))=g.k.CC (g.k.melded (l.take i)) l[i]:=by rw[Y,LK]
 have cd:=Ss (g:=g.toAvT) (l.take i) (by omega);have an:=SP g.k (λx y z hz h0=>by have:=(g.meldμ x y z hz).1;omega) (l.take i);have bl:=HX g.k (l.take i);rw[Lc,lQ hi] at bl;generalize hx:l[i]=x at hr hc bd bk B;generalize g.k.melded (l.take i)=L at ho B cd an bl;have J:=CF (g:=g) x;have ch:=cells_one (g:=g) x;refine AS I (AV J (λj u hu=>by rw[Addr.add_add];exact g1.cell (hc j u hu) λh=>h) ?_);refine Bx.new J g.zlen ch λb6 w4 ea g4 B6=>?_;have a8:Grow w4 w4.drew:=Mod.drew _ _;have bp:=(g1.trans g4).trans a8;obtain⟨c,pl,fr,hT⟩:=id h;have cu:=hT.mod bp λ_ _ h=>h;have bs:=B6.grow a8;have s1:=g1.size;have s4:=g4.size;have cx:=B6.lt (by rw[J];exact g.Epos);have ec:∀y,C y->y<W.heap.size:=λy V=>h.lt y (.inr V);refine AT (λ_ _=>False) ?_;refine AG ?_;rw[AH,AI,AH,AI];refine AP ⟨cu.box.cells 0 _ rfl,λ_ _ e=>e⟩ ?_;refine CG J (λj v hv=>⟨by rw[AI];exact bs.cells j v hv,λ_ _ e=>e⟩) ?_;have da:∀{w},BF prog CS g.vm [.agg (g.cells x).toArray] (λv w'=>v=.tuple #[zI (g.k.μ x).1,zI (g.k.μ x).2]/\Grow w w') w:=λ{w}=>by
  have:=g.meas (C:=C) (w:=w) (x:=x) (g.Rc.2 rfl);rwa [UJ] at this
 refine Ao da ?_;rintro _ w5 ⟨rfl,g5⟩;refine⟨g5.mono λ_ _ h=>h.elim,?_⟩;refine BI ?_;have ak:=bp.trans g5;have b0:=bs.grow g5;have Z:AE W.heap.size g.te g.E (g.R C) w5 out L:=AE.mod ho ((g4.trans a8).trans g5) (λ_ _ h=>h) λr y _ V=>g.Rc.2 (g.Rc.1 V);have ed:l.length<=109951162777:=hl;rw[Aa];refine AD (λh0=>?_) λh0=>?_
 .have al:(g.k.μ x).1=0:=by omega
  rw[AM,AK (by omega)];refine⟨⟨i+1,out,I,rfl,?_,ak⟩,by rw[Ar,Ar];omega⟩;rw[B];unfold Kd.CC;rw[DN al];exact Z
 have al:(g.k.μ x).1≠0:=by omega
 refine AR (λ_ W'=>Grow W W'/\AE W.heap.size g.te g.E (g.R C) W' out L/\Bx W' b6 (g.cells x)/\g.k.CC L x=L++[x]) ?_ ?_
 .rintro _ W6 ⟨O,a1,dk,em⟩ _;refine dk.Eg J ?_;have bx:=DD (v:=.agg (g.cells x).toArray) (vs:=g.cells x) g.zlen g.Epos rfl J;have dr:=g.eb_le;refine Dp g.elE a1 O.size (cs:=g.cells x) (x:=x) bx J (g.Rc.2 rfl) (λ_ _ _ V=>g.rone V) (λ_ _ r y _ _ V=>g.Rc.2 (g.Rc.1 V)) ?_ (by simp only[maxLen];omega) λv' w7 dA m7 ee=>?_
  .have:(L.length+1)*g.eb<=(L.length+1)*512:=oj _ dr;omega
  rw[AM,AK (by omega)];refine⟨⟨i+1,v',I,rfl,by rw[B,em];exact dA,O.next m7 λy V e=>by have:=(AE.Aj a1 y e).1;omega⟩,by rw[Ar,Ar];omega⟩
 obtain⟨oa,oc,rfl,ef,eh,dB,dC⟩:=Z.shape;rw[AO,Am,wrap64 (by omega) (by omega),Cu];refine AD (λca=>?_) λdT=>?_;rotate_left
 .have e1:L=[]:=Of (by omega);refine⟨ak,Z,b0,?_⟩;unfold Kd.CC;rw[Bp al,e1];rfl
 have b1:0<L.length:=by omega
 obtain⟨o,y,a6⟩:∃o y,L=o++[y]:=⟨L.dropLast,L.getLast (mN.1 b1),(qT _).symm⟩;have Q:L.length=o.length+1:=by rw[a6];simp
 have a7:L.length-1<L.length:=by omega
 have e2:L[L.length-1]=y:=by
  have:L[L.length-1]?=some y:=by rw[Q,a6];simp
  exact lK ((Bq a7).symm.trans this)
 have bZ:y∈L:=by rw[a6];simp
 have m:g.k.CC L x=match g.k.meld y x with|some z=>o++[z]|none=>L++[x]:=by
  unfold Kd.CC;rw[Bp al,a6];simp only[cq,kY,lu,mW];cases g.k.meld y x<;>rfl
 cases oa with
 |none=>have:=dC rfl;rw[this] at b1;simp at b1
 |some q=>
  obtain⟨gb,rfl,ej,ek,eo⟩:=dB q rfl;have en:((L.length:Int)-1)=((L.length-1:Nat):Int):=by omega
  rw[en];have dT:gb≠b6:=λe=>by
   have:=(AE.Aj ho gb rfl).2;omega
  refine AR (λvs W'=>∃U,vs=[.pointer (some ⟨U,0,none⟩),.bool (g.k.meld y x).isSome]/\Grow w5 W'/\∀z,g.k.meld y x=some z->Bx W' U (g.cells z)) ?_ ?_
  .rintro _ W6 ⟨U,rfl,O,hz⟩ _;simp only[FC];have a1:AE W.heap.size g.te g.E (g.R C) W6 (.slice (some ⟨gb,0,none⟩) L.length oc) L:=AE.mod Z O (λ_ _ h=>h) λr y _ V=>g.Rc.2 (g.Rc.1 V);have c4:=ak.trans O;cases b2:g.k.meld y x with
   |none=>
    rw[b2] at m;exact AL ⟨c4,a1,b0.grow O,m⟩
   |some z=>
    rw[b2] at m;refine AQ ?_;refine(hz z b2).Eg (CF z) ?_;refine AS a7 ?_;have key:=AE.Oq (R':=g.R C) (x':=z) (p:=0) (vs:=g.cells z) (K:=λb7=>CW .i64 (zI (i:Int)) (zI 1) λc6=>(∃(i':Nat) (av:Value),i'<=l.length/\[Value.slice (some ⟨gb,0,none⟩) L.length oc,c6]=[av,zI (i':Int)]/\AE W.heap.size g.te g.E (g.R C) b7 av (g.k.melded (l.take i'))/\Grow W b7)/\l.length-Dh [Value.slice (some ⟨gb,0,none⟩) L.length oc,c6] 1<l.length-Dh [Value.slice (some ⟨gb,0,none⟩) L.length oc,zI (i:Int)] 1) a1 a7 (CF z) (by omega) (cells_one z) (λw' r y' _ _ e3=>g.Rc.2 (g.Rc.1 e3)) (λw' r _ _ b8 _=>by rw[Lm (by rw[CF,b8])];exact g.Rc.2 rfl) λb7 ax e4=>?_
    .rw[lf] at key;exact key
    .rw[AM,AK (by omega)];refine⟨⟨i+1,_,I,rfl,?_,c4.next e4 λb' ep e=>by simp only at e;omega⟩,by rw[Ar,Ar];omega⟩;rw[B,m];have:L.set (L.length-1) z=o++[z]:=by rw[Q,a6];simp
     rw[this] at ax;have el:(o++[z]).length=L.length:=by simp[Q]
     exact ax
  .have X:Grow w5 w5.drew:=Mod.drew _ _;have e5:=hT.mod (ak.trans X) λ_ _ h=>h;have hd:=(AE.mod (R':=g.R C) Z X (λ_ _ h=>h) λr y _ V=>g.Rc.2 (g.Rc.1 V)).sl;obtain⟨q',r',e',er,b8,e6,c7⟩:=hd.get a7;cases e';have ay:=g.Rc.1 c7;rw[e2] at ay;subst ay;have s5:=X.size;have et:=g5.size;have eu:=a8.size;have e7:=hT.box.lt (QC _);have gm:∀{W1 W2:World},Grow W1 W2->Mod (λy=>w5.drew.heap.size<=y) W1 W2:=λg=>g.mono λ_ _ h=>h.elim;have ew:=eF (g:=g.toAvT) bZ;have c8:∀{w},BF prog CS g.vd [.agg (g.cells y).toArray,.agg (g.cells x).toArray] (λv w'=>Grow w w'/\∃r,r.length=g.E/\(∀u∈r,u.oneCell'=true)/\v=.tuple #[.agg r.toArray,.bool (g.k.meld y x).isSome]/\∀z,g.k.meld y x=some z->r=g.cells z) w:=g.meldc (an y bZ) (by omega) (by omega);refine AT (λ_ y=>w5.drew.heap.size<=y) ?_;refine AG ?_;rw[AH,AI,AH,AI];refine AP ⟨e5.box.cells 2 _ rfl,λ_ _ e=>by simp only at e;omega⟩ ?_;refine AS a7 ?_;refine CG b8 (λj v hv=>⟨by rw[Addr.add_add];exact e6 j v hv,λ_ _ e=>by rw[Addr.add_add,AI] at e;simp only at e;omega⟩) ?_;refine CG J (λj v hv=>⟨by rw[AI];exact(b0.grow X).cells j v hv,λ_ _ e=>by rw[AI] at e;simp only at e;omega⟩) ?_;refine⟨?_,?_⟩
   .refine Ao c8 ?_;rintro _ w6 ⟨O,r,b9,ba,rfl,bb⟩;refine⟨gm O,BI ?_⟩;refine Bx.zero λU w7 aZ g7 bc=>⟨gm g7,?_⟩;refine bc.over b9 g.zlen ba λw8 B8 m8=>⟨m8.mono λx _ e=>by rw[e];have:=O.size;omega,?_⟩;have s6:=O.size;exact⟨U,rfl,((X.trans O).trans g7).next m8 λy V e=>by omega,λz hz=>by rw[<-bb z hz];exact B8⟩
   .refine Bx.zero λU w7 aZ g7 bc=>⟨gm g7,?_⟩;refine Ao c8 ?_;rintro _ w6 ⟨O,r,b9,ba,rfl,bb⟩;refine⟨gm O,BI ?_⟩;refine(bc.grow O).over b9 g.zlen ba λw8 B8 m8=>⟨m8.mono λx _ e=>by rw[e];exact aZ,?_⟩;exact⟨U,rfl,((X.trans g7).trans O).next m8 λy V e=>by omega,λz hz=>by rw[<-bb z hz];exact B8⟩
end
section
variable {α:Type}{g:AvT α}
def IG.kK{F i C:Nat->Prop}{W j w2:World}{b:Nat}{m:Int}{o q:ArS α}{L:List α}{I:List Nat}{t:Tr α}(O:∀x,F x->i x)(B:∀x,i x->F x\/W.heap.size<=x)(J:Mod (Fb F b) W j)(S:ZW g i C j w2 b m o L I t q):Mod (Fb F b) W w2:=
 J.next S.mod λx Q e=>by
  rcases B x e.1 with e'|e'
  .exact⟨e',e.2⟩
  .omega
structure jY (g:AvT α) (F C:Nat->Prop) (W:World) (b:Nat) (rt:Int) (A:ArS α) (al bl L:List α) (a' b':Tr α) (mv:Value) (W':World) (A':ArS α) (F':Nat->Prop):Prop where
 k1:∀x,F x->F' x
 k2:∀x,F' x->F x\/W.heap.size<=x
 EI:Dj g F' C W' b rt A'
 mod:Mod (Fb F b) W W'
 ha:Tr.Holds g.k.μ A'.f a'
 hb:Tr.Holds g.k.μ A'.f b'
 H0:(a'.idx++b'.idx).Nodup
 row:AE W.heap.size g.te g.E (g.R C) W' mv L
 nF:∀x,mv.ownBlock=some x->¬F' x
 ta:a'.toL=al
 tb:b'.toL=bl
 len:A'.ps.length<=A.ps.length+2
def ZE(g:AvT α)(F C:Nat->Prop)(W w':World)(b:Nat)(i:Int)(A:ArS α):Prop:=∃F',(∀x,F x->F' x)/\(∀x,F' x->F x\/W.heap.size<=x)/\Dj g F' C w' b i A/\Mod F W w'
def Sg(g:AvT α):Prop:=∀{F C S:Nat->Prop} {W:World} {b i j:Nat} {A:ArS α} {T:Tr α} {v:Value} {L:List α},Dj g F C W b T.root A->A.ps.length+L.length<=109951162000->Tr.Holds g.k.μ A.f T->Tr.GB T->An S g.E (g.R C) W v L->(∀x,S x->¬F x)->i<=j->j<=1099511627776->
 EB g T.toL->EB g (g.k.Bl T.toL i j L)->EB g ((g.k.split T.toL i).1.getLast?.toList++L++(g.k.split (g.k.split T.toL i).2 (j-i)).2.head?.toList)->
 AB prog g.fReplace [.pointer (some ⟨b,0,none⟩),zI (i:Int),zI (j:Int),v] (λ_ w'=>∃m o,m.toL=g.k.Bl T.toL i j L/\ZE g F C W w' b m.root o/\Tr.Holds g.k.μ o.f m/\Tr.GB m/\o.ps.length<=A.ps.length+L.length+4) W
def AE.GF{B e k:Nat}{b:Nat}{i:Int}{A:ArS α}{l:List α}(h:AE B e k (g.R C) W v l)(ht:Dj g F C W b i A)(hm:Mod (Fb F b) W W')(j:∀x,v.ownBlock=some x->¬F x):AE B e k (g.R C) W' v l:=
 AE.mod h hm (λx m e=>j x m e.1) λr y _ o=>g.BO o hm λz _ q e=>ht.JB z e.1 q
def ix(g:AvK)(KK:Value->Value->Value->World->Prop)(v0 v1 v2 v3:Value)(w:World):Prop:=
 Af v0 λt22=>
 BC 4 t22 λQ=>
 Ay Q (λU w1=>
 AB prog g.fsplit [v0,U,v1] (λo w2=>
 Ag 0 o λj=>
 Ag 1 o λV=>
 DR .i64 v2 v1 λX=>
 AB prog g.fsplit [v0,V,X] (λq w3=>
 Ag 0 q λY=>
 Ag 1 q λm=>
 AB prog g.fdrop [v0,Y] (λ_t40 w4=>
 Cl (λvs w5=>∀_:Env,
 runK prog (Builtin.append_ #[g.ts,g.ts] g.ts [(nth vs 1),v3].toArray) (λB w6=>
 Cl (λi w7=>∀_:Env,
 AB prog g.fmelded [v0,(nth i 1)] (λt76 w8=>KK (nth vs 0) (nth i 0) t76 w8) w7) (λI=>
 PH .i64 m (zI (-1)) λZ=>
 AZ Z
 (AB prog g.ffirst [v0,m] (λO a1=>
 Ag 0 O λa6=>
 Ag 1 O λt66=>
 AB prog g.fpick [v0,t66] (λa7 a8=>
 Dg g.te g.E 1 g.zE [(0,a7)] (λak al=>
 runK prog (Builtin.append_ #[g.ts,g.ts] g.ts [B,ak].toArray) (λan av=>
 I [a6,an] av) al) a8) a1) w6)
 (I [m,B] w6))) w5) (λJ=>
 PH .i64 j (zI (-1)) λax=>
 AZ ax
 (AB prog g.flast [v0,j] (λt46 ay=>
 Ag 0 t46 λaZ=>
 Ag 1 t46 λb0=>
 AB prog g.fpick [v0,b0] (λt53 b1=>
 Dg g.te g.E 1 g.zE [(0,t53)] (λb2 b6=>
 runK prog (Builtin.append_ #[g.ts,g.ts] g.ts [(.slice none 0 0),b2].toArray) (λt55 b7=>
 J [aZ,t55] b7) b6) b1) ay) w4)
 (J [j,(.slice none 0 0)] w4))) w3) w2) w1) w
def RL{b i j:Nat}{A:ArS α}{T:Tr α}{L:List α}{KK:Value->Value->Value->World->Prop}(bs:O6 g)(bx:SX g)(e9:MW g)(bZ:∀l p,EB g l->EB g (g.k.split l p).1/\EB g (g.k.split l p).2)
 (h:Dj g F C W b T.root A)(hs:A.ps.length+L.length<=109951162000)(hh:Tr.Holds g.k.μ A.f T)(hu:Tr.GB T)(hv:An S g.E (g.R C) W v L)(hS:∀x,S x->¬F x)(eI:i<=j)(hj:j<=1099511627776)
 (c4:EB g T.toL)(c6:EB g ((g.k.split T.toL i).1.getLast?.toList++L++(g.k.split (g.k.split T.toL i).2 (j-i)).2.head?.toList))
 (hK:∀J U mv W' A' F',jY g F C W b T.root A (g.k.split T.toL i).1.dropLast (g.k.split (g.k.split T.toL i).2 (j-i)).2.tail (g.k.melded ((g.k.split T.toL i).1.getLast?.toList++L++(g.k.split (g.k.split T.toL i).2 (j-i)).2.head?.toList)) J U mv W' A' F'->KK (zI J.root) (zI U.root) mv W') :
  ix g.toAvK KK (.pointer (some ⟨b,0,none⟩)) (zI (i:Int)) (zI (j:Int)) v W:=by
 unfold ix;have ec:=h.lt;have V:∀y,C y->y<W.heap.size:=λy X=>ec y (.inr X);obtain⟨c,pl,fr,hT⟩:=id h;refine AG ?_;refine Az (hT.box.cells 4 _ rfl) ?_;refine AA (bs T h (by omega) hh hu c4 (p:=i) (by omega)) ?_;rintro _ w2 ⟨a,a1,A1,rfl,S1⟩;refine BI ?_;rw[Am,wrap64 (by omega) (by omega),show((j:Int)-(i:Int))=((j-i:Nat):Int) by omega];obtain⟨F1,x1,x2,h1,m1⟩:=S1.gN;obtain⟨n1,n2,n3⟩:=lI.1 S1.H0;have l1:=S1.len;have b6:=bZ T.toL i c4;refine AA (bs a1 h1 (by omega) S1.hr n2 (by rw[S1.r1];exact b6.2) (p:=j-i) (by omega)) ?_;rintro _ w3 ⟨gone,bt,A2,rfl,S2⟩;refine BI ?_;obtain⟨F2,y1,y2,h2,m2⟩:=S2.gN;obtain⟨o1,o2,o3⟩:=lI.1 S2.H0;have l2:=S2.len;have ed:=bZ (g.k.split T.toL i).2 (j-i) b6.2;have al:∀q∈a.idx,q∉a1.idx/\q∉gone.idx++bt.idx:=λq I=>by
  have hr:q∉a1.idx:=λe=>n3 q I q e rfl;refine⟨hr,λe=>?_⟩;rcases S2.idx q e with e|e
  .exact hr e
  .obtain⟨m,hm⟩:=S1.hl.has g.k.μ I;rw[hm] at e;cases e
 have ee:Tr.Holds g.k.μ A2.f a:=S1.hl.frame g.k.μ λq I=>S2.same q (al q I).1 (al q I).2;refine AA (WC gone h2 (by omega) S2.hl o1) ?_;rintro _ w4 ⟨A3,T3,c7,l3⟩;obtain⟨F3,z1,z2,h3,m3⟩:=T3;have ef:Tr.Holds g.k.μ A3.f a:=ee.frame g.k.μ λq I=>c7 q λe=>(al q I).2 (lC _ e);have c8:Tr.Holds g.k.μ A3.f bt:=S2.hr.frame g.k.μ λq I=>c7 q λe=>o3 q e q I rfl;have an:(a.idx++bt.idx).Nodup:=lI.2 ⟨n1,o2,λq I q' a6 e=>(al q I).2 (lE _ (e▸a6))⟩;have s1:=m1.size;have s2:=m2.size;have s3:=m3.size;have c9:∀x,F x->F3 x:=λx o=>z1 x (y1 x (x1 x o));have b7:∀x,F3 x->F x\/W.heap.size<=x:=λx o=>by
  rcases z2 x o with e|e
  .rcases y2 x e with e|e
   .exact x2 x e
   .exact .inr (by omega)
  .exact .inr (by omega)
 have ca:Mod (Fb F b) W w4:=by
  refine(m1.next m2 λx o e=>?_).next m3 λx o e=>?_
  .rcases x2 x e.1 with e'|e'
   .exact⟨e',e.2⟩
   .omega
  .rcases y2 x e.1 with e'|e'
   .rcases x2 x e' with e'|e'
    .exact⟨e',e.2⟩
    .omega
   .omega
 have ea:a.toL=(g.k.split T.toL i).1:=S1.l1;have eb:bt.toL=(g.k.split (g.k.split T.toL i).2 (j-i)).2:=by rw[S2.r1,S1.r1]
 have cc:EB g a.toL:=by rw[ea];exact b6.1
 have cd:EB g bt.toL:=by rw[eb];exact ed.2
 rw [<-ea,<-eb] at c6 hK;have ch:=g.eb_le;have ay:∀ (w:World) (r:List Value) (y:α),g.R C w r y->∀ u ∈ r,u.oneCell'=true:=λ_ _ _ X=>g.rone X;have cu:∀ r:List Value,r.length=g.E->(g.toAvK.enc r).cells=r.toArray->Instr.fill (λi=>some (i * g.E,g.E)) ((Array.range (1 * g.E)).map (g.zE.toArray[· % g.zE.toArray.size]!)) [(0,g.toAvK.enc r)]=some r.toArray:=λr hr hc=>DD g.zlen g.Epos hc hr;refine AR (λvs W'=>∃ (J:Tr α) (av:Value) (A4:ArS α) (F4:Nat->Prop),vs=[zI J.root,av]/\(∀ x,F x->F4 x)/\(∀ x,F4 x->F x\/W.heap.size<=x)/\Dj g F4 C W' b T.root A4/\Mod (Fb F b) W W'/\Tr.Holds g.k.μ A4.f J/\Tr.Holds g.k.μ A4.f bt/\(J.idx++bt.idx).Nodup/\
  AE W.heap.size g.te g.E (g.R C) W' av a.toL.getLast?.toList/\(∀ x,av.ownBlock=some x->¬ F4 x)/\J.toL=a.toL.dropLast/\A4.ps.length<=A.ps.length+2) ?_ ?_
 rotate_left
 .rw[BL];refine AW (λe=>?_) λe=>?_
  .have el:a=.nil:=by
    cases a with
    |nil=>rfl
    |node x q z y=>simp only[Tr.root] at e;omega
   subst el;exact⟨.nil,_,A3,F3,rfl,c9,b7,h3,ca,trivial,c8,an,AE.nil,(λ_ o=>nomatch o),rfl,by omega⟩
  .have cx:a≠.nil:=λe'=>by subst e';exact e rfl
   refine AA (RH a cx h3 (by omega) ef n1 cc) ?_;rintro _ eL ⟨J,k,m,A4,rfl,E4,e4⟩;refine BI ?_;have l4:=E4.len;have aZ:∀q,q∈J.idx\/q=k->q∈a.idx:=λq I=>E4.idx.mem_iff.1 (by rcases I with I|rfl<;>simp[*]);refine AA (bx E4.EI (by omega) E4.Rn) ?_;rintro _ eh ⟨r,rfl,hr,Y,u1,u2,h5,m5⟩;have a7:=g.rlen hr;have s4:=E4.mod.size;have s5:=m5.size;have a8:=ArS.SO E4.Rn;have b8:Tr.Holds g.k.μ (A4.free k).f J:=by rw[a8];exact E4.holds.out g.k.μ _ (E4.H0 n1).2
   have b9:Tr.Holds g.k.μ (A4.free k).f bt:=by
    rw[a8];refine(c8.frame g.k.μ λq I=>E4.same q λe=>(lI.1 an).2.2 q e q I rfl).out g.k.μ _ λe=>?_;exact(lI.1 an).2.2 k (aZ k (.inr rfl)) k e rfl
   have ba:Mod (Fb F b) W eh:=by
    have da:∀x,x<W.heap.size->Fb F3 b x->Fb F b x:=λx o e=>by
     rcases b7 x e.1 with e'|e'
     .exact⟨e',e.2⟩
     .omega
    exact(ca.next E4.mod da).next m5 da
   refine Dp (R:=g.R C) g.elE (AE.nil (B:=W.heap.size)) ba.size (cs:=r) (x:=m.x) (cu r a7 (g.rcell hr)) a7 hr ay (λw1 w2 r y hw hm X=>g.BO X hm λz hz hC e=>?_) (by simp only[lX];omega) (by simp[maxLen]) λav ej ho dk hn=>?_
   .rcases e with e|e
    .cases e
    .have:=V z hC;have:=ba.size;omega
   have ek:Dj g Y C ej b T.root (A4.free k):=h5.mod dk λx o e=>nomatch e
   refine⟨J,av,A4.free k,Y,rfl,λx o=>u1 x (c9 x o),λx o=>?_,ek,ba.next dk (λx o e=>nomatch e),b8,b9,?_,?_,λx o hF=>?_,?_,?_⟩
   .rcases u2 x o with e|e
    .exact b7 x e
    .exact .inr (by omega)
   .refine lI.2 ⟨(E4.H0 n1).1,o2,λq I q' a6 e=>?_⟩;exact(lI.1 an).2.2 q (aZ q (.inl I)) q' a6 e
   .rw[e4];simpa using ho
   .rcases hn x o with e|e
    .cases e
    .have:=h5.lt x (.inl hF);omega
   .rw[e4];simp
   .simp only[ArS.free,lG];omega
 rintro _ W5 ⟨J,av,A4,F4,rfl,f1,f2,h4,m4,dr,en,ak,ax,b0,ta,l4⟩ _;simp only[FC];have eo:An (λx=>S x/\x<W.heap.size) g.E (g.R C) W v L:=hv.Gw g.Epos;have ep:An (λx=>S x/\x<W.heap.size) g.E (g.R C) W5 v L:=An.mod eo m4 (λx _ o e=>hS x o.1 e.1) g.Epos λr y X=>g.BO X m4 λz _ hz e=>h.JB z e.1 hz;have eN:a.toL.getLast?.toList.length<=1:=by cases a.toL.getLast?<;>simp
 have e1:(a.toL.getLast?.toList.length+L.length) * g.eb<=(a.toL.getLast?.toList.length+L.length) * 512:=oj _ ch;obtain ⟨dA,w6,r6,bb,er,et⟩:=AE.append (P:=prog) (ty:=g.ts) g.elE ax ep (λr y X=>g.rone X) (by omega) m4.size (by simp only [maxLen];omega) (λw' eu r y X=>g.BO X (Mod.of_grownBy eu) λz hz hC e=>by
  have:=(AE.Aj ax z e).1;have:=V z hC;omega)
 refine AX r6 ?_;have m6:=Mod.of_grownBy er;have h6:Dj g F4 C w6 b T.root A4:=h4.mod m6 λx o e=>by
  rcases o with o|o
  .exact b0 x e o
  .have:=(AE.Aj ax x e).1;have:=V x o;omega
 have bc:Mod (Fb F b) W w6:=m4.next m6 λx o e=>by have:=(AE.Aj ax x e).1;omega
 have O:∀x,dA.ownBlock=some x->¬F4 x:=λx o hF=>by
  rcases et x o with e|e
  .exact b0 x e hF
  .have:=h4.lt x (.inl hF);omega
 have eC:(a.toL.getLast?.toList++L).length<=L.length+1:=by rw[BW];omega
 refine AR (λvs W'=>∃ (U:Tr α) (Z:Value) (A5:ArS α) (Y:Nat->Prop),vs=[zI U.root,Z]/\(∀ x,F x->Y x)/\(∀ x,Y x->F x\/W.heap.size<=x)/\Dj g Y C W' b T.root A5/\Mod (Fb F b) W W'/\Tr.Holds g.k.μ A5.f J/\Tr.Holds g.k.μ A5.f U/\(J.idx++U.idx).Nodup/\
  AE W.heap.size g.te g.E (g.R C) W' Z (a.toL.getLast?.toList++L++bt.toL.head?.toList)/\(∀ x,Z.ownBlock=some x->¬ Y x)/\U.toL=bt.toL.tail/\A5.ps.length<=A.ps.length+2) ?_ ?_
 rotate_left
 .rw[BL];obtain⟨_,eR,bd⟩:=lI.1 ak;refine AW (λe=>?_) λe=>?_
  .have el:bt=.nil:=by
    cases bt with
    |nil=>rfl
    |node x q z y=>simp only[Tr.root] at e;omega
   subst el;exact⟨.nil,_,A4,F4,rfl,f1,f2,h6,bc,dr,trivial,ak,by simpa[Tr.toL] using bb,O,rfl,l4⟩
  .have dB:bt≠.nil:=λe'=>by subst e';exact e rfl
   refine AA (V3 bt dB h6 (by omega) en o2 cd) ?_;rintro _ eX ⟨U,k,m,A5,rfl,E5,e5⟩;refine BI ?_;have l5:=E5.len;have b1:∀q,q∈U.idx\/q=k->q∈bt.idx:=λq I=>E5.idx.mem_iff.1 (by rcases I with I|rfl<;>simp[*]);have dC:=AE.GF (g:=g) bb h6 E5.mod O;refine AA (bx E5.EI (by omega) E5.Rn) ?_;rintro _ ew ⟨r,rfl,hr,Y,u1,u2,dT,bk⟩;have a7:=g.rlen hr;have s6:=E5.mod.size;have s7:=bk.size;have fa:=bc.size;have a8:=ArS.SO E5.Rn;have Q:=AE.GF (g:=g) dC E5.EI bk O;have b8:Tr.Holds g.k.μ (A5.free k).f J:=by
    rw[a8];refine(dr.frame g.k.μ λq I=>E5.same q λe=>bd q I q e rfl).out g.k.μ _ λe=>?_;exact bd k e k (b1 k (.inr rfl)) rfl
   have b9:Tr.Holds g.k.μ (A5.free k).f U:=by rw[a8];exact E5.holds.out g.k.μ _ (E5.H0 o2).2
   have bl:Mod (Fb F b) W ew:=by
    have e3:∀x,x<W.heap.size->Fb F4 b x->Fb F b x:=λx o e=>by
     rcases f2 x e.1 with e'|e'
     .exact⟨e',e.2⟩
     .omega
    exact(bc.next E5.mod e3).next bk e3
   have b2:∀x,dA.ownBlock=some x->¬Y x:=λx o hF=>by
    rcases u2 x hF with e|e
    .exact O x o e
    .have:=(AE.Aj bb x o).2;omega
   have e2:((a.toL.getLast?.toList++L).length+1)*g.eb<=((a.toL.getLast?.toList++L).length+1)*512:=oj _ ch;refine Dp (R:=g.R C) g.elE Q bl.size (cs:=r) (x:=m.x) (cu r a7 (g.rcell hr)) a7 hr ay (λw1 w2 r y hw hm X=>g.BO X hm λz hz hC e=>?_) (by omega) (by simp only[maxLen];omega) λZ ey ho e6 hn=>?_
   .rcases e with e|e
    .have:=(AE.Aj Q z e).1;have:=V z hC;omega
    .have:=V z hC;have:=bl.size;omega
   have ez:Dj g Y C ey b T.root (A5.free k):=dT.mod e6 λx o e=>by
    rcases o with o|o
    .exact b2 x e o
    .have:=(AE.Aj Q x e).1;have:=V x o;omega
   refine⟨U,Z,A5.free k,Y,rfl,λx o=>u1 x (f1 x o),λx o=>?_,ez,bl.next e6 (λx o e=>by have:=(AE.Aj Q x e).1;omega),b8,b9,?_,?_,λx o hF=>?_,?_,?_⟩
   .rcases u2 x o with e|e
    .exact f2 x e
    .exact .inr (by omega)
   .refine lI.2 ⟨(lI.1 ak).1,(E5.H0 o2).1,λq I q' a6 e=>?_⟩;exact bd q I q' (b1 q' (.inl a6)) e
   .rw[e5];simpa using ho
   .rcases hn x o with e|e
    .exact b2 x e hF
    .have:=dT.lt x (.inl hF);omega
   .rw[e5];rfl
   .simp only[ArS.free,lG];omega
 rintro _ W7 ⟨U,Z,A5,Y,rfl,p1,p2,h7,m7,eA,eB,e7,e8,fo,tb,l7⟩ _;simp only[FC];have fs:bt.toL.head?.toList.length<=1:=by cases bt.toL.head?<;>simp
 refine AA (e9 h7 e8.sl (by rw[BW];omega) c6) ?_;rintro mv w8 ⟨bp,g8⟩;have s7:=m7.size;refine hK J U mv w8 A5 Y ⟨p1,p2,h7.grow g8,m7.trans (g8.mono λ_ _ h=>h.elim),eA,eB,e7,AE.base bp λx o=>by have:=(AE.Aj bp x o).1;omega,λx o hF=>?_,ta,tb,l7⟩;have:=(AE.Aj bp x o).1;have:=h7.lt x (.inl hF);omega
end
section
variable {α:Type}
structure UR (g:AvT α) (F C:Nat->Prop) (W:World) (b:Nat) (rt:Int) (A:ArS α) (al bl M:List α) (b':Tr α) (mv:Value) (k:Nat) (t:Tr α) (W':World) (A':ArS α) (F':Nat->Prop):Prop where
 k1:∀x,F x->F' x
 k2:∀x,F' x->F x\/W.heap.size<=x
 EI:Dj g F' C W' b rt A'
 mod:Mod (Fb F b) W W'
 ht:Tr.Holds g.k.μ A'.f t
 hb:Tr.Holds g.k.μ A'.f b'
 H0:(t.idx++b'.idx).Nodup
 row:AE W.heap.size g.te g.E (g.R C) W' mv M
 nF:∀x,mv.ownBlock=some x->¬F' x
 tt:t.toL=al++M.take k
 tb:b'.toL=bl
 len:A'.ps.length<=A.ps.length+2+k
def jY.put{g:AvT α}{b:Nat}{i:Int}{A:ArS α}{j m M:List α}{o q:Tr α}{B:Value}{I:ArS α}(h:jY g F C W b i A j m M o q B W' I F'):UR g F C W b i A j m M q B 0 o W' I F':=
 ⟨h.k1,h.k2,h.EI,h.mod,h.ha,h.hb,h.H0,h.row,h.nF,by rw[h.ta];simp,h.tb,by have:=h.len;omega⟩
def UR.done{g:AvT α}{b:Nat}{A:ArS α}{Y Z M:List α}{I t:Tr α}{j:ArS α}{L:List α}(h:UR g F C W b most A Y Z M I v M.length t W' j F')(hN:A.ps.length+M.length<=109951162500)(hL:Y++M++Z=L)(J:EB g L)(hM:M.length+2<=N)(hF:F b) :
  AB prog g.fconcat [.pointer (some ⟨b,0,none⟩),zI t.root,zI I.root] (λO Q=>Af (.pointer (some ⟨b,0,none⟩)) λU=>BC 4 U λV=>CB V O (λX=>(λ(_:Value) w'=>∃o j,o.toL=L/\ZE g F C W w' b o.root j/\Tr.Holds g.k.μ j.f o/\Tr.GB o/\j.ps.length<=A.ps.length+N) (.tuple #[]) X) Q) W':=by
 have hl:=h.len;have hT:=h.tt;rw[S7] at hT;have eL:t.toL++I.toL=L:=by rw[hT,h.tb,hL]
 refine AA (TD h.EI (by omega) h.ht h.hb h.H0 (by rw[eL];exact J)) ?_;rintro _ w2 ⟨t2,A2,rfl,i⟩;obtain⟨c,pl,fr,B⟩:=i.EI;refine AG ?_;rw[AH,AI];refine B.box.st (q:=4) (show 4<5 by decide) rfl rfl λw3 B3 m3=>?_;have m2:=IG.kK h.k1 h.k2 h.mod i;refine⟨t2,A2,by rw[i.toL];exact eL,⟨F',h.k1,h.k2,⟨c,pl,fr,B3,?_,B.fb⟩,?_⟩,i.holds,i.idx.nodup_iff.2 h.H0,by rw[i.len];omega⟩
 .exact B.ar.mod m3 λx m e=>by
   rcases m with m|m
   .exact m.2 e
   .exact B.fb.2 (e▸m)
 .exact(m2.mono λx _ e=>e.1).trans (m3.mono λx _ e=>by rw[e];exact hF)
def UR.step{g:AvT α}{b:Nat}{A:ArS α}{J bl M:List α}{Q t:Tr α}{k:Nat}{i:ArS α}{F' B:Nat->Prop}(h:UR g F C W b most A J bl M Q v k t W' i F')(hk:k<M.length)(hN:A.ps.length+M.length<=109951162500)
 (q1:∀x,F' x->B x)(q2:∀x,B x->F' x\/W'.heap.size<=x)(h1:Dj g B C w b most (i.take ⟨M[k],0,0,0,0,0⟩))(m1:Mod (Fb F' b) W' w)(V:EB g (J++M)) :
  AB prog g.fjoin [.pointer (some ⟨b,0,none⟩),zI t.root,zI i.num,zI (-1)] (λv2 W2=>∃t2 A2,v2=zI t2.root/\Mod (Fb B b) w W2/\UR g F C W b most A J bl M Q v (k+1) t2 W2 A2 B) w:=by
 have hl:=h.len;obtain⟨I,X,tok⟩:=ArS.Se (⟨M[k],0,0,0,0,0⟩:Nd α) h.EI.ok;obtain⟨u1,u2,u3⟩:=lI.1 h.H0;have nt:i.num∉t.idx:=λe=>by
  obtain⟨m,hm⟩:=h.ht.has g.k.μ e;rw[X] at hm;cases hm
 have nb:i.num∉Q.idx:=λe=>by
  obtain⟨m,hm⟩:=h.hb.has g.k.μ e;rw[X] at hm;cases hm
 have a6:Tr.Holds g.k.μ (i.take ⟨M[k],0,0,0,0,0⟩).f t:=by rw[I];exact h.ht.out g.k.μ _ nt
 have a7:Tr.Holds g.k.μ (i.take ⟨M[k],0,0,0,0,0⟩).f Q:=by rw[I];exact h.hb.out g.k.μ _ nb
 have a8:(i.take ⟨M[k],0,0,0,0,0⟩).f i.num=some ⟨M[k],0,0,0,0,0⟩:=by rw[I,Tr.KW]
 have Y:Tr.GB (.node t i.num M[k] .nil):=Tr.Av.2 ⟨u1,om,nt,(λe=>nomatch e),λq _ e=>nomatch e⟩;have ay:=Qu i (⟨M[k],0,0,0,0,0⟩:Nd α);have ak:M.take (k+1)=M.take k++[M[k]]:=by rw[S5];simp[hk]
 have eL:(Tr.node t i.num M[k] .nil).toL=J++M.take (k+1):=by rw[ak];simp only[Tr.toL,h.tt,P9]
 have an:EB g (Tr.node t i.num M[k] .nil).toL:=by
  rw[eL];have e:J++M=(J++M.take (k+1))++M.drop (k+1):=by rw[P9,TC]
  rw[e] at V;exact V.app.1
 refine AA (Fu (l:=t) (r:=.nil) (t.De+(Tr.nil:Tr α).De) (K8 _) h1 (by omega) a8 a6 trivial Y an) ?_;rintro _ W2 ⟨t2,A2,rfl,j⟩;have s1:=h.mod.size;have s2:=m1.size;have w1:Mod (Fb F b) W w:=h.mod.next m1 λx o e=>by
  rcases h.k2 x e.1 with e'|e'
  .exact⟨e',e.2⟩
  .omega
 have Z:∀q∈Q.idx,q∉(Tr.node t i.num M[k] .nil).idx:=λq O e=>by
  simp only[Tr.idx,By,Mp,l9,nw] at e;rcases e with e|e
  .exact u3 q e q O rfl
  .exact nb (e▸O)
 have av:∀x,x<W.heap.size->B x->F x:=λx o e=>by
  rcases q2 x e with e|e
  .rcases h.k2 x e with e|e
   .exact e
   .omega
  .omega
 have a1:∀x,v.ownBlock=some x->¬B x:=λx o e=>by
  rcases q2 x e with e|e
  .exact h.nF x o e
  .have:=(AE.Aj h.row x o).2;omega
 refine⟨t2,A2,rfl,j.mod,λx o=>q1 x (h.k1 x o),λx o=>?_,j.EI,w1.next j.mod λx o e=>⟨av x o e.1,e.2⟩,j.holds,a7.frame g.k.μ λq O=>j.same q (Z q O),?_,AE.GF (AE.GF h.row h.EI m1 h.nF) h1 j.mod a1,a1,j.toL.trans eL,h.tb,by rw[j.len];omega⟩
 .rcases q2 x o with e|e
  .exact h.k2 x e
  .exact .inr (by omega)
 .exact lI.2 ⟨j.idx.nodup_iff.2 Y,u2,λq O q' ax e=>Z q' ax (e▸j.idx.mem_iff.1 O)⟩
variable {g:AvN α}
def XR(l:List α)(p:Nat)(h:EB g.toAvT l):EB g.toAvT (g.k.split l p).1/\EB g.toAvT (g.k.split l p).2:=h.split p
def jw(g:AvK)(v0:Value)(K:Cont):Value->Value->Value->World->Prop:=λa0 b0 t76 w8=>Dr t76 λt77=>
  FK [a0,(zI 0)] (λi j w9=>∀_:Env,
  GI .i64 (nth i 1) t77 λI=>
  AZ I
  (Ip g.E t76 (nth i 1) λJ=>
  CX g.E J (λO Q=>
  Bt g.te g.zE (λq U=>
  BP g.E q O (λm=>
  CM [8,9] [[],[],[],[2],[2,3],[2,3,4],[],[6],[2,3,4,5,6,7],[0,1,2,3,4,5,6,7,8],[0,1,2,3,4,5,6,7,8,9]] m.drew (λM St=>
  Af v0 λV=>
  BC 3 V λX=>
  DQ (St 5) X λY=>
  GD (St 6) g.E q λZ=>
  CV [(0,g.E),(g.E,1),(g.E+1,1),(g.E+2,1),(g.E+3,1),(g.E+4,1)] g.zN [(0,Z)] λa1=>
  AB prog g.aTake [Y,a1] (λa6 o=>
  Mod (M 8) m.drew o/\
  AB prog g.fjoin [v0,(nth i 0),a6,(zI (-1))] (λa7 B=>
  Mod (M 9) o B/\
  CW .i64 (nth i 1) (zI 1) λa8=>
  j [a7,a8] B) o) m.drew)) U) Q) w9)
  (AB prog g.fconcat [v0,(nth i 0),b0] (λak al=>
  Af v0 λan=>
  BC 4 an λav=>
  CB av ak (λax=>K (.tuple #[]) ax) al) w9)) w8
def Pz(g:AvK)(v0 v1 v2 v3:Value)(K:Cont)(w:World):RE g v0 v1 v2 v3 K w=ix g (jw g v0 K) v0 v1 v2 v3 w:=rfl
def ZB:Sg g.toAvT:=by
 intro F C S W b i j A T v L h hs Z hu hv hS a1 hj a6 B a7;apply g.okN.replace;rw[Pz];refine RL eK iC cN XR h hs Z hu hv hS a1 hj a6 a7 ?_;intro a' b' mv W8 A8 F8 P;unfold jw;have Q:=HX g.k ((g.k.split T.toL i).1.getLast?.toList++L++(g.k.split (g.k.split T.toL i).2 (j-i)).2.head?.toList);have b7:(g.k.split T.toL i).1.getLast?.toList.length<=1:=by cases(g.k.split T.toL i).1.getLast?<;>simp
 have b8:(g.k.split (g.k.split T.toL i).2 (j-i)).2.head?.toList.length<=1:=by cases(g.k.split (g.k.split T.toL i).2 (j-i)).2.head?<;>simp
 rw[BW,BW] at Q;have U:=P.put;have V:(g.k.split T.toL i).1.dropLast++g.k.melded ((g.k.split T.toL i).1.getLast?.toList++L++(g.k.split (g.k.split T.toL i).2 (j-i)).2.head?.toList)++(g.k.split (g.k.split T.toL i).2 (j-i)).2.tail=g.k.Bl T.toL i j L:=rfl;generalize (g.k.split T.toL i).1.dropLast=al at U V;generalize (g.k.split (g.k.split T.toL i).2 (j-i)).2.tail=bl at U V;generalize g.k.melded ((g.k.split T.toL i).1.getLast?.toList++L++(g.k.split (g.k.split T.toL i).2 (j-i)).2.head?.toList)=M at U V Q;have a8:EB g.toAvT (al++M):=by rw[<-V] at B;exact B.app.1
 obtain⟨ma,mc,ak,_⟩:=U.row.shape;subst ak;rw[AO];refine AU (λvs W'=>∃(k:Nat) (t:Tr α) (A':ArS α) (F':Nat->Prop),k<=M.length/\vs=[zI t.root,zI k]/\UR g.toAvT F C W b T.root A al bl M b' (.slice ma M.length mc) k t W' A' F') (λvs _=>M.length-Dh vs 1) ⟨0,a',A8,F8,Nn _,rfl,U⟩ ?_;rintro vs W9 ⟨k,t,A9,F9,hk,rfl,O⟩ _;simp only[FC];refine G9 (λb9=>?_) λba=>?_
 .have m:k<M.length:=by omega
  obtain ⟨q,r,rfl,hq,hr,hc,an⟩:=O.row.sl.get m;have av:=g.Rc.1 an;subst av;have o:=CF (g:=g) M[k];refine AS m (AV o (λj u hu=>by rw [Addr.add_add];exact hc j u hu) ?_);refine Bx.new o g.zlen (cells_one (g:=g) M[k]) λax I b6 ay X=>?_;have gd:Grow I I.drew:=Mod.drew _ _;have g9:=ay.trans gd;have aZ:=O.EI.grow g9;obtain ⟨c,pl,fr,hR⟩:=id aZ;have bb:=O.len;have Y:=X.lt (by rw [o];exact g.Epos);have sd:=gd.size;refine AT (λ_ y=>Fb F9 b y\/I.drew.heap.size<=y) ?_;refine AG ?_;rw [AH,AI];refine AP ⟨hR.box.cells 3 _ rfl,λ_ _ e=>by
   rcases e with e|e
   .exact e.2 rfl
   .have:=hR.box.lt (QC _);simp only at e;omega⟩ ?_
  refine CG o (λj v hv=>⟨by rw [AI];exact (X.grow gd).cells j v hv,λ_ _ e=>by
   rw[AI] at e;rcases e with e|e
   .have:=O.EI.lt ax (.inl e.1);omega
   .simp only at e;omega⟩) ?_
  refine⟨_,dY o M[k],?_⟩;refine AA (L5 hR (n:=⟨M[k],0,0,0,0,0⟩) (g.Rc.2 rfl) (by omega)) ?_;rintro _ bc ⟨rfl,F1,q1,q2,b0,J⟩;have s9:=g9.size;have bd:=J.size;refine⟨J.mono λx _ e=>.inl e,?_⟩;refine AA (UR.step O m (by omega) q1 (λx hx=>(q2 x hx).imp (λh=>h) λh=>by omega) b0 ((g9.mono λ_ _ h=>h.elim).trans J) a8) ?_;rintro _ bk ⟨t2,A2,rfl,b1,b2⟩;refine⟨b1.mono λx _ e=>?_,?_⟩
  .rcases q2 x e.1 with e'|e'
   .exact .inl ⟨e',e.2⟩
   .exact .inr e'
  rw[AM,AK (by omega)];exact⟨⟨k+1,t2,A2,F1,m,rfl,b2⟩,by rw[Ar,Ar];omega⟩
 .have:k=M.length:=by omega
  subst this;refine AA (UR.done O (N:=L.length+4) (by omega) V B (by omega) h.fb) ?_;intro bp bs Z;exact Z
end
section
structure cy (g:AvK):Prop where
 split:∀{v0 v1 v2 K w},Pd g v0 v1 v2 K w->AB prog g.fsplit [v0,v1,v2] K w
 pick:∀{v0 v1 K w},Yt g v0 v1 K w->AB prog g.fpick [v0,v1] K w
 melded:∀{v0 v1 K w},Qj g v0 v1 K w->AB prog g.fmelded [v0,v1] K w
 replace:∀{v0 v1 v2 v3 K w},Oe g v0 v1 v2 v3 K w->AB prog g.fReplace [v0,v1,v2,v3] K w
 over:∀{v0 v1 v2 v3 v4 K w},TB g v0 v1 v2 v3 v4 K w->AB prog g.fover [v0,v1,v2,v3,v4] K w
structure Av1 (α:Type) extends AvT α where
 one1:one=true
 ok1:cy toAvK
 μ1:∀x,k.μ x=(1,0)
 meld0:∀x y,k.meld x y=none
 meldc:∀{C w r s x y},R C w r x->R C w s y->BF prog CS vd [toAvK.enc r,toAvK.enc s] (λv w'=>Grow w w'/\∃u,v=.tuple #[u,.bool false]) w
variable {α:Type}{g:Av1 α}
def E1:g.E=1:=g.E1 g.one1
def X4{r:List Value}{x:α}(h:g.R C w r x):r=[g.toAvK.enc r]:=by
 have hl:=g.rlen h;rw[E1] at hl;unfold AvK.enc;rw[g.one1];match r,hl with
 |[a],_=>rfl
def iS:SX g.toAvT:=by
 intro F C W b i U A n h q hi;apply g.ok1.pick;unfold Yt;refine AA (SI h hi) ?_;rintro _ w2 ⟨r,rfl,hr,j⟩;refine AX (g.field0 r (BM n) w2 (g.rlen hr) (g.rone hr) rfl) ?_;obtain⟨c,pl,fr,m⟩:=h.grow j;refine AG ?_;refine Az (m.box.cells 3 _ rfl) ?_;refine AA (MM m hi q) ?_;rintro _ V ⟨F',B,I,J,o⟩;have X:=j.size;exact⟨r,rfl,g.BO hr o λz _ O e=>h.JB z e.1 O,F',B,λx Q=>(I x Q).imp (λh=>h) λh=>by omega,J,(j.mono λ_ _ h=>h.elim).trans o⟩
def gP{a:Value}(ha:a.cells=#[a])(x:α):Instr.fill (λi=>[(0,g.E),(g.E,1),(g.E+1,1),(g.E+2,1),(g.E+3,1),(g.E+4,1)][i]?) g.toAvK.zN.toArray [(0,a)]=some ([a]++BM (⟨x,0,0,0,0,0⟩:Nd α)).toArray:=by
 have j:=g.zlen;rw[DB (l:=g.toAvK.zN) (vs:=[a]) (off:=0) (len:=g.E) rfl ha E1.symm (by rw[IM];omega),FX,AvK.zN,H6 (by rw[j,E1];rfl)];rfl
def Zj:MW g.toAvT:=by
 intro F C S W b rt A v l h hv hl hb;apply g.ok1.melded;unfold Qj;obtain⟨va,vc,rfl,hm⟩:=hv.shape;have an:=hv.Gw g.Epos;have av:∀y,C y->y<W.heap.size:=λy m=>h.lt y (.inr m);rw[AO];refine AU (λvs W'=>∃(i:Nat) (out:Value),i<=l.length/\vs=[out,zI i]/\AE W.heap.size g.te g.E (g.R C) W' out (g.k.melded (l.take i))/\Grow W W') (λvs _=>l.length-Dh vs 1)
  ⟨0,_,Nn _,rfl,AE.nil,Mod.refl _ _⟩ ?_
 rintro vs W1 ⟨i,out,hi,rfl,ho,Q⟩ _;simp only[FC];refine G9 (λbb=>?_) λax=>?_;rotate_left
 .have:i=l.length:=by omega
  subst this;rw[S7] at ho;exact⟨ho,Q⟩
 have o:i<l.length:=by omega
 obtain⟨p,r,rfl,hS,hr,hc,O⟩:=an.get o;have V:l.take (i+1)=l.take i++[l[i]]:=by rw[S5];simp[o]
 have j:g.k.melded (l.take (i+1))=g.k.CC (g.k.melded (l.take i)) l[i]:=by rw[V,LK]
 have a6:=HX g.k (l.take i);rw[Lc,lQ hi] at a6;generalize hx:l[i]=x at O j;generalize g.k.melded (l.take i)=L at ho j a6;have ay:g.k.CC L x=L++[x]:=by
  unfold Kd.CC;rw[g.μ1,Bp (by decide)];cases L.getLast? with
  |none=>rfl
  |some y=>simp only[g.meld0]
 have er:=X4 O;have B:=g.BO O Q λ_ _ _ h=>h;have I:=g.rcell O;generalize g.toAvK.enc r=a at er I;subst er;have aZ:W1.cell? (p.add (i*g.E))=some a:=Q.cell (by have:=hc 0 a rfl;rwa [lf] at this) λh=>h;refine AS o (AJ aZ ?_);obtain⟨c,pl,fr,hT⟩:=id h;have b0:=hT.mod Q λ_ _ h=>h;refine AG ?_;rw[AH,AI,AH,AI];refine AJ (b0.box.cells 0 _ rfl) ?_;have b1:∀{w},Grow W1 w->BF prog CS g.vm [a] (λv w'=>v=.tuple #[zI 1,zI 0]/\Grow w w') w:=λ{w} gw=>by
  have:=g.meas (C:=C) (w:=w) (x:=x) (g.BO B gw λ_ _ _ h=>h);rw[g.μ1,show g.toAvK.enc [a]=a by unfold AvK.enc;rw[g.one1];rfl] at this;exact this
 refine .inl (Ao (b1 (Mod.refl _ _)) ?_);rintro _ w4 ⟨rfl,g4⟩;refine BI ?_;rw[Aa];refine AD (λe=>by cases e) λ_=>?_;have J:=Q.trans g4;have kR:∀{w w':World} {r:List Value} {y:α},Grow W w->Grow w w'->g.R C w r y->g.R C w' r y:=λ_ gw m=>g.BO m gw λ_ _ _ h=>h;have X:AE W.heap.size g.te g.E (g.R C) w4 out L:=AE.mod ho g4 (λ_ _ h=>h) λr y _ m=>kR Q g4 m;have bc:l.length<=109951162777:=hl;refine AR (λ_ W'=>Grow w4 W') ?_ ?_
 .rintro _ W6 g6 _;have Y:AE W.heap.size g.te g.E (g.R C) W6 out L:=AE.mod X g6 (λ_ _ h=>h) λr y _ m=>kR J g6 m;have Z:=J.trans g6;have b2:=g.eb_le;have a7:=DD (v:=a) (vs:=[a]) g.zlen g.Epos I (by rw[E1];rfl);refine Dp g.elE Y Z.size (cs:=[a]) (x:=x) a7 (by rw[E1];rfl) (kR Q (g4.trans g6) B) (λ_ _ _ m=>g.rone m) (λw1 w2 r y hw hm m=>g.BO m hm λz hz hC e=>?_) ?_ (by simp only[maxLen];omega) λv' w7 b6 m7 bd=>?_
  .have:=av z hC;rcases e with e|e
   .have:=(AE.Aj Y z e).1;omega
   .have:=Z.size;omega
  .have:(L.length+1)*g.eb<=(L.length+1)*512:=oj _ b2;omega
  rw[AM,AK (by omega)];refine⟨⟨i+1,v',o,rfl,by rw[j,ay];exact b6,Z.next m7 λy m e=>by have:=(AE.Aj Y y e).1;omega⟩,by rw[Ar,Ar];omega⟩
 obtain⟨oa,oc,rfl,bk,bl,b7,b8⟩:=X.shape;rw[AO,Am,wrap64 (by omega) (by omega),Cu];refine AD (λax=>?_) λbp=>Mod.refl _ _;have a8:0<L.length:=by omega
 have ak:L.length-1<L.length:=by omega
 cases oa with
 |none=>have:=b8 rfl;rw[this] at a8;simp at a8
 |some q=>
  obtain⟨gb,rfl,bs,bx,bZ⟩:=b7 q rfl;have en:((L.length:Int)-1)=((L.length-1:Nat):Int):=by omega
  rw[en];have gd:Grow w4 w4.drew:=Mod.drew _ _;have b9:=hT.mod (J.trans gd) λ_ _ h=>h;have hd:=(AE.mod (R':=g.R C) X gd (λ_ _ h=>h) λr y _ m=>kR J gd m).sl;obtain⟨q',r',e',c4,c6,ba,U⟩:=hd.get ak;cases e';have al:=X4 U;have a1:=λ{w:World} (gw:Grow w4.drew w)=>g.meldc (C:=C) (w:=w) (kR (J.trans gd) gw U) (kR Q ((g4.trans gd).trans gw) B);rw[show g.toAvK.enc [a]=a by unfold AvK.enc;rw[g.one1];rfl] at a1;generalize g.toAvK.enc r'=a' at al a1;subst al;refine AT (λ_ _=>False) ?_;refine AG ?_;rw[AH,AI,AH,AI];refine AP ⟨b9.box.cells 2 _ rfl,λ_ _ e=>e⟩ ?_;refine AS ak ?_;refine AP ⟨by have:=ba 0 a' rfl;rwa [lf] at this,λ_ _ e=>e⟩ ?_;refine Ao (a1 (Mod.refl _ _)) ?_;rintro _ w8 ⟨g8,u,rfl⟩;refine⟨g8.mono λ_ _ h=>h.elim,BI ?_⟩;exact AL (gd.trans g8)
end
section
variable {α:Type}{g:Av1 α}
def dy:O6 g.toAvT:=by
 intro C b rt t;induction t with
 |nil=>
  intro F W A p h hs _ _ _ _;apply g.ok1.split;unfold Pd;simp only[Tr.root];rw[Aa];refine AD (λ_=>?_) λe=>(e rfl).elim;exact⟨.nil,.nil,A,rfl,⟨⟨F,λ_ h=>h,λ_ h=>.inl h,h,Mod.refl _ _⟩,rfl,rfl,trivial,trivial,om,(λq o=>nomatch o),λ_ _ _=>rfl,rk _⟩⟩
 |node l i x r ay aZ=>
  intro F W A p h hs hh hu hb hp;obtain⟨hl,hr,hi⟩:=id hh;obtain⟨u1,u2,u3,u4,u5⟩:=Tr.Av.1 hu;have J:=g.k.NP l.toL r.toL x p;have b0:=hb.1;have b1:=hb.2;simp only[Tr.toL,Tr.CI,Tr.BS] at b0;simp only[Tr.toL,Tr.Fo,Tr.Cw] at b1;have nF:∀{z:Nat},W.heap.size<=z->∀x,F x\/C x->x≠z:=λhz x Y e=>by have:=h.lt x Y;omega
  apply g.ok1.split;unfold Pd;simp only[Tr.root];rw[Aa];refine AD (λe=>by omega) λ_=>?_;refine Dt h hi λrc bx w3 g3 a8 B ak=>?_;have O:=g.rlen ak;have h3:=h.grow g3;refine Az (B.cells (g.E+0) _ (by rw[AY O];rfl)) ?_;refine AA (Bo h3 hl) ?_;rintro _ w5 ⟨rfl,g5⟩;refine K0 ?_;have Z:Grow w5 w5.drew:=Mod.drew _ _;have al:=(g3.trans g5).trans Z;obtain⟨c,pl,fr,hT⟩:=id h;have b2:=hT.mod al λ_ _ h=>h;have B5:=(B.grow g5).grow Z;refine AT (λ_ _=>False) ?_;refine AG ?_;rw[AH,AI,AH,AI];refine AP ⟨b2.box.cells 0 _ rfl,λ_ _ e=>e⟩ ?_;rw[AH,AI];refine JS (g:=g.toAvT) (r:=rc) O (λj v hv=>⟨B5.cells j v (by rw[Q0 (Ad.1 hv).1];exact hv),λ_ _ e=>e⟩) ?_;refine Ao (g.meas (C:=C) (x:=x) (g.BO ak ((g5.trans Z)) λ_ _ _ h=>h)) ?_;rintro _ w6 ⟨rfl,g6⟩;refine⟨g6.mono λ_ _ h=>h.elim,?_⟩;refine BI ?_;have X:=al.trans g6;have b9:=X.size;have h6:=h.grow X;have B6:=B5.grow g6;rw[HT];refine AD (λba=>?_) λb8=>?_
  .have an:p<=Tr.sz g.k.μ l.toL:=by omega
   rw[DN an] at J;refine Az (B6.cells (g.E+0) _ (by rw[AY O];rfl)) ?_;refine AA (ay h6 hs hl u1 hb.app.1 hp) ?_;rintro _ w8 ⟨a,c1,A1,rfl,m⟩;refine BI ?_;obtain⟨F1,k1,k2,h8,m8⟩:=m.gN;have B8:=B6.mod m8 λe=>nF a8 bx (.inl e.1) rfl;refine Az (B8.cells (g.E+1) _ (by rw[AY O];rfl)) ?_;obtain⟨e1,e2,e3,e4⟩:=IZ m hi hr hu;have a1:EB g.toAvT (Tr.node c1 i x r).toL:=by
    obtain⟨q1,q2⟩:=FF (g:=g.toAvT) l.toL p;constructor
    .simp only[Tr.toL,Tr.CI,Tr.BS,m.r1];omega
    .simp only[Tr.toL,Tr.Fo,Tr.Cw,m.r1];omega
   have b6:=m.len;refine AA (Fu (c1.De+r.De) (K8 _) h8 (by omega) e1 m.hr e2 e3 a1) ?_;rintro _ b7 ⟨t2,A2,rfl,I⟩;have perm:=I.idx;have sm:∀q,q∈t2.idx↔q∈(Tr.node c1 i x r).idx:=λq=>I.idx.mem_iff;have s8:=m8.size;refine⟨a,t2,A2,rfl,⟨⟨F1,k1,λx Y=>(k2 x Y).imp (λh=>h) λh=>by omega,I.EI,((X.mono λ_ _ h=>h.elim).trans m8).next I.mod λx Y e=>?_⟩,?_,?_,m.hl.frame g.k.μ λq o=>I.same q (e4 q o),I.holds,?_,λq o=>?_,λq Q U=>?_,by rw[I.len];omega⟩⟩
   .rcases k2 x e.1 with e'|e'
    .exact⟨e',e.2⟩
    .omega
   .rw[m.l1];simp only[Tr.toL,J]
   .rw[I.toL];simp only[Tr.toL,Tr.EC,m.r1,J]
   .exact lI.2 ⟨(lI.1 m.H0).1,I.idx.nodup_iff.2 e3,λq o q' a6 e=>e4 q o (e▸(sm q').1 a6)⟩
   .rcases By.1 o with o|o
    .rcases m.idx q (lC _ o) with e|e
     .exact .inl (by simp[Tr.idx,e])
     .exact .inr e
    .have:=(sm q).1 o;simp only[Tr.idx,By,Mp] at this ⊢;rcases this with e|e|e
     .rcases m.idx q (lE _ e) with e|e
      .exact .inl (.inl e)
      .exact .inr e
     .exact .inl (.inr (.inl e))
     .exact .inl (.inr (.inr e))
   .simp only[Tr.idx,By,Mp,rJ] at Q;have V:q∉(Tr.node c1 i x r).idx:=λe=>U (lE _ ((sm q).2 e));refine(I.same q V).trans (m.same q Q.1 λe=>?_);rcases By.1 e with e|e
    .exact U (lC _ e)
    .exact V (by simp[Tr.idx,e])
  have a7:¬p<=Tr.sz g.k.μ l.toL:=by omega
  rw[Bp a7] at J;refine B0 (by omega) ?_;rw[Cu];refine AD (λbb=>?_) λav=>?_
  .have ax:Tr.sz g.k.μ l.toL+(g.k.μ x).1<=p:=by omega
   rw[DN ax] at J;refine Az (B6.cells (g.E+1) _ (by rw[AY O];rfl)) ?_;refine Gr (by omega) (by omega) (Gr (by omega) (by omega) ?_);refine AA (aZ h6 hs hr u2 hb.app.2.cons.1 (p:=p-Tr.sz g.k.μ l.toL-(g.k.μ x).1) (by omega)) ?_;rintro _ w8 ⟨a,c1,A1,rfl,m⟩;refine BI ?_;obtain⟨F1,k1,k2,h8,m8⟩:=m.gN;have B8:=B6.mod m8 λe=>nF a8 bx (.inl e.1) rfl;refine Az (B8.cells (g.E+0) _ (by rw[AY O];rfl)) ?_;obtain⟨e1,e2,e3,e4⟩:=Hr m hi hl hu;have a1:EB g.toAvT (Tr.node l i x a).toL:=by
    obtain⟨q1,q2⟩:=FF (g:=g.toAvT) r.toL (p-Tr.sz g.k.μ l.toL-(g.k.μ x).1);constructor
    .simp only[Tr.toL,Tr.CI,Tr.BS,m.l1];omega
    .simp only[Tr.toL,Tr.Fo,Tr.Cw,m.l1];omega
   have b6:=m.len;refine AA (Fu (l.De+a.De) (K8 _) h8 (by omega) e1 e2 m.hl e3 a1) ?_;rintro _ b7 ⟨t2,A2,rfl,I⟩;have sm:∀q,q∈t2.idx↔q∈(Tr.node l i x a).idx:=λq=>I.idx.mem_iff;have s8:=m8.size;refine⟨t2,c1,A2,rfl,⟨⟨F1,k1,λx Y=>(k2 x Y).imp (λh=>h) λh=>by omega,I.EI,((X.mono λ_ _ h=>h.elim).trans m8).next I.mod λx Y e=>?_⟩,?_,?_,I.holds,m.hr.frame g.k.μ λq o=>I.same q (e4 q o),?_,λq o=>?_,λq Q U=>?_,by rw[I.len];omega⟩⟩
   .rcases k2 x e.1 with e'|e'
    .exact⟨e',e.2⟩
    .omega
   .rw[I.toL];simp only[Tr.toL,Tr.EC,m.l1,J]
   .rw[m.r1];simp only[Tr.toL,J]
   .exact lI.2 ⟨I.idx.nodup_iff.2 e3,(lI.1 m.H0).2.1,λq o q' a6 e=>e4 q' a6 (e▸(sm q).1 o)⟩
   .rcases By.1 o with o|o
    .have:=(sm q).1 o;simp only[Tr.idx,By,Mp] at this ⊢;rcases this with e|e|e
     .exact .inl (.inl e)
     .exact .inl (.inr (.inl e))
     .rcases m.idx q (lC _ e) with e|e
      .exact .inl (.inr (.inr e))
      .exact .inr e
    .rcases m.idx q (lE _ o) with e|e
     .exact .inl (by simp[Tr.idx,e])
     .exact .inr e
   .simp only[Tr.idx,By,Mp,rJ] at Q;have V:q∉(Tr.node l i x a).idx:=λe=>U (lC _ ((sm q).2 e));refine(I.same q V).trans (m.same q Q.2.2 λe=>?_);rcases By.1 e with e|e
    .exact V (by simp[Tr.idx,e])
    .exact U (lE _ e)
  exfalso;have:=g.μ1 x;rw[this] at av;omega
def gO(g:AvK)(v0:Value)(K:Cont):Value->Value->Value->World->Prop:=λa0 b0 t76 w8=>Dr t76 λt77=>
  FK [a0,(zI 0)] (λi j w9=>∀_:Env,
  GI .i64 (nth i 1) t77 λm=>
  AZ m
  (Ip g.E t76 (nth i 1) λo=>
  Ay o (λq B=>
  Af v0 λI=>
  BC 3 I λJ=>
  Ay J (λO Q=>
  CV [(0,g.E),(g.E,1),(g.E+1,1),(g.E+2,1),(g.E+3,1),(g.E+4,1)] g.zN [(0,q)] λU=>
  AB prog g.aTake [O,U] (λV X=>
  AB prog g.fjoin [v0,(nth i 0),V,(zI (-1))] (λY Z=>
  CW .i64 (nth i 1) (zI 1) λa1=>
  j [Y,a1] Z) X) Q) B) w9)
  (AB prog g.fconcat [v0,(nth i 0),b0] (λa6 a7=>
  Af v0 λa8=>
  BC 4 a8 λak=>
  CB ak a6 (λal=>K (.tuple #[]) al) a7) w9)) w8
def PV(g:AvK)(v0 v1 v2 v3:Value)(K:Cont)(w:World):Oe g v0 v1 v2 v3 K w=ix g (gO g v0 K) v0 v1 v2 v3 w:=rfl
def Ti:Sg g.toAvT:=by
 intro F C S W b i j A T v L h hs V hu hv hS X hj Y B Z;apply g.ok1.replace;rw[PV];refine RL dy iS Zj (λl p h=>h.split p) h hs V hu hv hS X hj Y Z ?_;intro a' b' mv W8 A8 F8 P;unfold gO;have J:=HX g.k ((g.k.split T.toL i).1.getLast?.toList++L++(g.k.split (g.k.split T.toL i).2 (j-i)).2.head?.toList);have an:(g.k.split T.toL i).1.getLast?.toList.length<=1:=by cases(g.k.split T.toL i).1.getLast?<;>simp
 have av:(g.k.split (g.k.split T.toL i).2 (j-i)).2.head?.toList.length<=1:=by cases(g.k.split (g.k.split T.toL i).2 (j-i)).2.head?<;>simp
 rw[BW,BW] at J;have O:=P.put;have Q:(g.k.split T.toL i).1.dropLast++g.k.melded ((g.k.split T.toL i).1.getLast?.toList++L++(g.k.split (g.k.split T.toL i).2 (j-i)).2.head?.toList)++(g.k.split (g.k.split T.toL i).2 (j-i)).2.tail=g.k.Bl T.toL i j L:=rfl;generalize (g.k.split T.toL i).1.dropLast=al at O Q;generalize (g.k.split (g.k.split T.toL i).2 (j-i)).2.tail=bl at O Q;generalize g.k.melded ((g.k.split T.toL i).1.getLast?.toList++L++(g.k.split (g.k.split T.toL i).2 (j-i)).2.head?.toList)=M at O Q J;have a1:EB g.toAvT (al++M):=by rw[<-Q] at B;exact B.app.1
 obtain⟨ma,mc,a6,_⟩:=O.row.shape;subst a6;rw[AO];refine AU (λvs W'=>∃(k:Nat) (t:Tr α) (A':ArS α) (F':Nat->Prop),k<=M.length/\vs=[zI t.root,zI k]/\UR g.toAvT F C W b T.root A al bl M b' (.slice ma M.length mc) k t W' A' F') (λvs _=>M.length-Dh vs 1) ⟨0,a',A8,F8,Nn _,rfl,O⟩ ?_;rintro vs W9 ⟨k,t,A9,F9,hk,rfl,U⟩ _;simp only[FC];refine G9 (λax=>?_) λay=>?_
 .have m:k<M.length:=by omega
  obtain⟨q,r,rfl,hq,hr,hc,I⟩:=U.row.sl.get m;have er:=X4 I;have o:=g.rcell I;generalize g.toAvK.enc r=a at er o;subst er;have aZ:=U.len;refine AS m (AJ (by have:=hc 0 a rfl;rwa [lf] at this) ?_);obtain⟨c,pl,fr,hR⟩:=id U.EI;refine AG ?_;refine Az (hR.box.cells 3 _ rfl) ?_;refine⟨_,gP o M[k],?_⟩;refine AA (L5 hR (n:=⟨M[k],0,0,0,0,0⟩) I (by omega)) ?_;rintro _ b0 ⟨rfl,F1,q1,q2,a7,a8⟩;refine AA (UR.step U m (by omega) q1 q2 a7 a8 a1) ?_;rintro _ b1 ⟨t2,A2,rfl,b2,ak⟩;rw[AM,AK (by omega)];exact⟨⟨k+1,t2,A2,F1,m,rfl,ak⟩,by rw[Ar,Ar];omega⟩
 .have:k=M.length:=by omega
  subst this;refine AA (UR.done U (N:=L.length+4) (by omega) Q B (by omega) h.fb) ?_;intro b6 b7 V;exact V
end
def AE.heap{B e k:Nat}{R R':World->List Value->α->Prop}{l:List α}(h:AE B e k R w v l)(I:∀g,v.ownBlock=some g->w'.heap[g]?=w.heap[g]?)(J:∀r x,x∈l->R w r x->R' w' r x):AE B e k R' w' v l:=by
 obtain⟨rows,h1,O,Q,U⟩:=h;refine⟨rows,⟨h1.1,?_⟩,O,Q,λi r x hr q=>J r x (ln q) (U i r x hr q)⟩;rcases h1.2 with V|⟨g,cap,m,rfl,hb,o,j⟩
 .exact .inl V
 .refine .inr ⟨g,cap,m,rfl,hb,?_,j⟩;rw[I g rfl];exact o
def Bx.heap{b:Nat}(h:Bx W b vs)(i:W'.heap[b]?=W.heap[b]?):Bx W' b vs:=by
 refine⟨λj v m=>(mi (w:=W) i).trans (h.cells j v m),λj o=>?_⟩;obtain⟨h1,q⟩:=h.live j o;exact⟨by rw[mi (w:=W) i];exact h1,(rE i).trans q⟩
section
variable {α:Type}{g:AvT α}
def PN.heap{r:List Value}{o:Option (Nd α)}(h:PN g C w r o)(i:∀y,y<w.heap.size->C y->w'.heap[y]?=w.heap[y]?):PN g C w' r o:=by
 cases o with
 |none=>exact h
 |some n=>obtain⟨x,rfl,j⟩:=h;exact⟨x,rfl,g.rheap j i⟩
def Ix.heap{A:ArS α}{pl fr:Value}(h:Ix g F C W c A pl fr)(m:∀x,F x\/C x->W'.heap[x]?=W.heap[x]?)(q:W.heap.size<=W'.heap.size):Ix g F C W' c A pl fr:=by
 have B:Bx W c [pl,fr]:=⟨h.cells,h.live⟩;have i:=B.heap (m c (.inl h.fc));exact⟨i.cells,i.live,AE.heap h.GM (λx j=>m x (.inl (h.pF x j).1)) λr o _ I=>I.heap λy _ J=>m y (.inr J),AE.heap h.Kj (λx j=>m x (.inl (h.fF x j).1)) λ_ _ _ h=>h,h.ok,h.fc,h.pF,h.fF,h.JB,λx j=>No (h.lt x j) q⟩
def Dj.heap{b:Nat}{i:Int}{A:ArS α}(h:Dj g F C W b i A)(j:∀x,F x\/C x->W'.heap[x]?=W.heap[x]?)(m:W.heap.size<=W'.heap.size):Dj g F C W' b i A:=by
 obtain⟨c,pl,fr,h⟩:=h;exact⟨c,pl,fr,h.box.heap (j b (.inl h.fb.1)),h.ar.heap (λx o=>j x (o.imp (λh=>h.1) λh=>h)) m,h.fb⟩
structure Pn (P:Program) (l:Nat) (J:Nat->(Nat->Prop)->World->Prop) (Jx:(Nat->Prop)->World->Prop) (w:World) (Rd:Nat->Prop) (encs:Nat->List Value) (N:Nat):Prop where
 hJ:∀k It It' W W',J k It W->Grow W W'->(∀b,It' b->(It b\/W.heap.size<=b)/\b<W'.heap.size)->J k It' W'
 PW:∀It It' W W',Jx It W->Grow W W'->(∀b,It' b->(It b\/W.heap.size<=b)/\b<W'.heap.size)->Jx It' W'
 JY:∀k It W,J k It W->∀b,b<w.heap.size->Rd b->W.heap[b]?=w.heap[b]?
 bD:∀k It W,k<N->J k It W->Kf P l (encs k) (λv W'=>W.heap.size<=W'.heap.size/\(∀b,It b->W'.heap[b]?=W.heap[b]?)/\Quiet W W'/\((v=.bool true/\J (k+1) It W')\/(v=.bool false/\Jx It W'))) W
def Qg(J:Nat->(Nat->Prop)->World->Prop)(m:(Nat->Prop)->World->Prop)(k:Nat)(j:Nat->Prop)(W:World)(v:Value)(W':World):Prop:=
 W.heap.size<=W'.heap.size/\(∀b,j b->W'.heap[b]?=W.heap[b]?)/\Quiet W W'/\∃i,(∀b,j b->i b)/\(∀b,i b->b<W'.heap.size)/\((v=.bool true/\J k i W')\/(v=.bool false/\m i W'))
def Pn.ofSeq{i:Nat->List Value}{Rd:Nat->Prop}
 (h:∀l J q m,Grow w m->Pn P l J q w Rd i N->J 0 (λ_=>False) m->w.heap.size<=m.heap.size->AB P c (.func (.yield l) #[] #[]::vs) (λ_ W'=>∃o,J N o W'\/q o W') m):Lb True P c vs i N Rd w:=by
 intro l J q m Q h0 hJ PW JY hr;refine h l J q m Q ⟨λk o j W W' h1 B I=>hJ k o j W W' h1 (B.mono λ_ _ e=>e.elim) I,λo j W W' h1 B I=>PW o j W W' h1 (B.mono λ_ _ e=>e.elim) I,JY,hr⟩ h0 Q.size
end
section
variable {α:Type}{g:AvN α}
def OA(k:Kd α)(l:List α){i:Nat}(j:Nat)(h:Tr.sz k.μ l<=i):k.over l i j=[]:=by
 rw[<-k.Ms,k.Ec _ (by omega)]
def gp{b l N:Nat}{A:ArS α}{J:Nat->(Nat->Prop)->World->Prop}{Jx:(Nat->Prop)->World->Prop}{Y:Nat->List Value}(hw:Dj g.toAvT F C w b most A)(hs:A.ps.length<=109951162777)(H:Pn prog l J Jx w (λx=>F x\/C x) Y N) :
  ∀(t:Tr α) (i j k0:Nat) (O:Nat->Prop) (W:World),Tr.Holds g.k.μ A.f t->EB g.toAvT t.toL->i<=1099511627776->j<=1099511627776->J k0 O W->w.heap.size<=W.heap.size->(∀x,O x->x<W.heap.size)->k0+(g.k.over t.toL i j).length<=N->(∀m (hm:m<(g.k.over t.toL i j).length),Y (k0+m)=[.agg (g.cells (g.k.over t.toL i j)[m]).toArray])->
   AB prog g.fover [.pointer (some ⟨b,0,none⟩),zI t.root,zI (i:Int),zI (j:Int),.func (.yield l) #[] #[]] (Qg J Jx (k0+(g.k.over t.toL i j).length) O W) W:=by
 intro t;induction t with
 |nil=>
  intro i j k0 O W _ _ _ _ hJ hz ax _ _;apply g.okN.over;unfold Wh;simp only[Tr.root];refine AR (λ_ _=>False) (λ_ _ h=>h.elim) ?_;rw[Aa];refine AD (λ_=>?_) λe=>(e rfl).elim;exact⟨K8 _,λ_ _=>rfl,⟨rfl,rfl,rfl⟩,O,λ_ h=>h,ax,.inl ⟨rfl,hJ⟩⟩
 |node lt q x b8 er et=>
  intro i j k0 O W hh hb hi hj hJ hz ax hN Q;obtain⟨hl,hr,hq⟩:=id hh;have eL:(Tr.node lt q x b8).toL=lt.toL++x::b8.toL:=rfl;rw[eL] at hb hN Q ⊢;have eu:=hb.1;simp only[Tr.CI,Tr.BS] at eu;rw[g.k.RV] at hN Q ⊢;apply g.okN.over;unfold Wh;simp only[Tr.root];refine AR (λ_ W'=>W'=W/\i<j) ?_ ?_;rotate_left
  .rw[Aa];refine AD (λe=>by omega) λ_=>?_;rw[Cu];refine AD (λe=>?_) λe=>⟨rfl,by omega⟩;rw[g.k.Ec _ (by omega:j<=i),g.k.Ec _ (by omega:j-Tr.sz g.k.μ lt.toL<=i-Tr.sz g.k.μ lt.toL)];exact⟨K8 _,λ_ _=>rfl,⟨rfl,rfl,rfl⟩,O,λ_ h=>h,ax,.inl ⟨rfl,hJ⟩⟩
  rintro _ W' ⟨rfl,ga⟩ _;rename World=>W
  have EI:∀{k O W'},J k O W'->w.heap.size<=W'.heap.size->Dj g.toAvT F C W' b most A:=λ{k O W'} h1 h2=>hw.heap (λy o=>H.JY k O W' h1 y (hw.lt y o) o) h2;refine Dt (EI hJ hz) hq λrc U w4 g4 fa B c4=>?_;have b9:=g.rlen c4;have bp:=g.Rc.1 c4;have ew:=(EI hJ hz).grow g4;refine Az (B.cells (g.E+0) _ (by rw[AY b9];rfl)) ?_;refine AA (Bo ew hl) ?_;rintro _ w6 ⟨rfl,g6⟩;refine K0 ?_;have dB:Grow w6 w6.drew:=Mod.drew _ _;have dC:=(g4.trans g6).trans dB;obtain⟨c,pl,fr,hT⟩:=(EI hJ hz).grow dC;have B6:=(B.grow g6).grow dB;refine AT (λ_ _=>False) ?_;refine AG ?_;rw[AH,AI,AH,AI];refine AP ⟨hT.box.cells 0 _ rfl,λ_ _ e=>e⟩ ?_;rw[AH,AI];refine JS (g:=g.toAvT) (r:=rc) b9 (λj v hv=>⟨B6.cells j v (by rw[Q0 (Ad.1 hv).1];exact hv),λ_ _ e=>e⟩) ?_;refine Ao (g.meas (C:=C) (x:=x) (g.Rc.2 bp)) ?_;rintro _ w7 ⟨rfl,g7⟩;refine⟨g7.mono λ_ _ h=>h.elim,?_⟩;refine BI ?_;have al:=dC.trans g7;have B7:=B6.grow g7;have eo:=B7.lt (by rw[BA _ c4];omega);have gb:=al.size;have ay:∀y,(O y\/y=U)->(O y\/W.heap.size<=y)/\y<w7.heap.size:=λy o=>by
   rcases o with o|o
   .have:=ax y o;exact⟨.inl o,by omega⟩
   .exact⟨.inr (by omega),by omega⟩
  have dT:=H.hJ k0 O (λy=>O y\/y=U) W w7 hJ al ay;have ey:∀y,O y->w7.heap[y]?=W.heap[y]?:=λy o=>al.same y (ax y o) λh=>h;obtain⟨X1,c6⟩:∃X,X=g.k.over lt.toL i j:=⟨_,rfl⟩;obtain⟨Z,c7⟩:∃Z,Z=i-Tr.sz g.k.μ lt.toL:=⟨_,rfl⟩;obtain⟨j',ba⟩:∃j',j'=j-Tr.sz g.k.μ lt.toL:=⟨_,rfl⟩;obtain⟨X2,c8⟩:∃X,X=(if Z<min j' (g.k.μ x).1 then[g.k.part x Z (min j' (g.k.μ x).1)] else[]):=⟨_,rfl⟩;obtain⟨X3,an⟩:∃X,X=g.k.over b8.toL (Z-(g.k.μ x).1) (j'-(g.k.μ x).1):=⟨_,rfl⟩;have eX:g.k.over lt.toL i j++g.k.over (x::b8.toL) (i-Tr.sz g.k.μ lt.toL) (j-Tr.sz g.k.μ lt.toL)=X1++(X2++X3):=by rw[c6,c8,an,c7,ba];rfl
  rw[eX] at hN Q ⊢;simp only[BW] at hN;have c9:∀m (hm:m<X1.length),Y (k0+m)=[.agg (g.cells X1[m]).toArray]:=λm hm=>by
   rw[Q m (by simp;omega)];simp[nX hm]
  have ca:∀m (hm:m<X2.length),Y (k0+X1.length+m)=[.agg (g.cells X2[m]).toArray]:=λm hm=>by
   have:=Q (X1.length+m) (by simp;omega);rw[mo,this];simp[nG,nX hm]
  have cc:∀m (hm:m<X3.length),Y (k0+X1.length+X2.length+m)=[.agg (g.cells X3[m]).toArray]:=λm hm=>by
   have:=Q (X1.length+(X2.length+m)) (by simp;omega);rw[show k0+X1.length+X2.length+m=k0+(X1.length+(X2.length+m)) by omega,this];simp[nG]
  let St:Nat->World->Prop:=λk W'=>∃I,(∀y,O y->I y)/\I U/\(∀y,I y->y<W'.heap.size)/\J k I W'/\(w7.heap.size<=W'.heap.size/\Quiet w7 W')/\(∀y,O y\/y=U->W'.heap[y]?=w7.heap[y]?)
  have done:∀{k W'} (v:Value) (I:Nat->Prop),(∀y,O y->I y)->(∀y,I y->y<W'.heap.size)->w7.heap.size<=W'.heap.size/\Quiet w7 W'->(∀y,O y->W'.heap[y]?=w7.heap[y]?)->((v=.bool true/\J k I W')\/(v=.bool false/\Jx I W'))->Qg J Jx k O W v W':=λv I h1 h2 h3 h4 h5=>
   ⟨by omega,λy o=>(h4 y o).trans (ey y o),Quiet.trans ⟨al.os,al.tape,al.output⟩ h3.2,I,h1,h2,h5⟩
  refine AR (λ_ W'=>St (k0+X1.length) W') ?_ ?_;rotate_left
  .refine G9 (λe4=>?_) λe5=>?_
   .refine Az (B7.cells (g.E+0) _ (by rw[AY b9];rfl)) ?_;rw[Hi];have em:(if((Tr.sz g.k.μ lt.toL:Nat):Int)<(j:Int) then((Tr.sz g.k.μ lt.toL:Nat):Int) else(j:Int))=((min j (Tr.sz g.k.μ lt.toL):Nat):Int):=by split<;>omega
    rw[em];have ak:g.k.over lt.toL i (min j (Tr.sz g.k.μ lt.toL))=X1:=by rw[c6,g.k.Ms]
    refine AA (er i (min j (Tr.sz g.k.μ lt.toL)) k0 (λy=>O y\/y=U) w7 hl hb.app.1 hi (by omega) dT (by omega) (λy o=>(ay y o).2) (by rw[ak];omega) (λm hm=>?_)) ?_
    .have cd:m<X1.length:=by rw[<-ak];exact hm
     rw[c9 m cd];simp only[ak]
    rw[ak];rintro v W2 ⟨z1,z2,zq,I,q1,q2,q3⟩;rcases q3 with⟨rfl,ch⟩|⟨rfl,ch⟩
    .rw[Ah];exact AL ⟨I,λy o=>q1 y (.inl o),q1 U (.inr rfl),q2,ch,⟨z1,zq⟩,z2⟩
    .rw[Ah];exact AQ (done (.bool false) I (λy o=>q1 y (.inl o)) q2 ⟨z1,zq⟩ (λy o=>z2 y (.inl o)) (.inr ⟨rfl,ch⟩))
   .have e0:X1=[]:=by rw[c6];exact OA g.k lt.toL j (by omega)
    rw[e0];exact⟨λy=>O y\/y=U,λy o=>.inl o,.inr rfl,λy o=>(ay y o).2,dT,⟨K8 _,rfl,rfl,rfl⟩,λ_ _=>rfl⟩
  rintro _ W8 ⟨a6,a1,a2,a3,cu,z8,V⟩ _;have B8:=B7.heap (V U (.inr rfl));rw[Am,wrap64 (by omega) (by omega),GC];have ez:(if(0:Int)>(i:Int)-((Tr.sz g.k.μ lt.toL:Nat):Int) then(0:Int) else(i:Int)-((Tr.sz g.k.μ lt.toL:Nat):Int))=(Z:Int):=by rw[c7];split<;>omega
  rw[ez,Am,wrap64 (by omega) (by omega),Hi];obtain⟨to,cx⟩:∃to:Int,to=(if(((g.k.μ x).1:Nat):Int)<(j:Int)-((Tr.sz g.k.μ lt.toL:Nat):Int) then(((g.k.μ x).1:Nat):Int) else(j:Int)-((Tr.sz g.k.μ lt.toL:Nat):Int)):=⟨_,rfl⟩;rw[<-cx];have bs:(Z:Int)<to↔Z<min j' (g.k.μ x).1:=by rw[cx,ba];split<;>omega
  have e6:Z<min j' (g.k.μ x).1->to=((min j' (g.k.μ x).1:Nat):Int):=λh=>by rw[cx,ba];split<;>omega
  refine AR (λ_ W'=>St (k0+X1.length+X2.length) W') ?_ ?_
  .rintro _ W9 ⟨e7,c1,c2,c3,e8,z9,a7⟩ _;refine B0 (by omega) ?_;rw[HT];refine AD (λgf=>?_) λgl=>?_
   .have e3:X3=[]:=by rw[an];exact g.k.Ec _ (by omega)
    rw[e3];simp only[lA,BW];exact done (.bool true) e7 c1 c3 z9 (λy o=>a7 y (.inl o)) (.inl ⟨rfl,by rw[<-mo];exact e8⟩)
   .have B9:=B7.heap (a7 U (.inr rfl));refine Az (B9.cells (g.E+1) _ (by rw[AY b9];rfl)) ?_;rw[Am,wrap64 (by omega) (by omega),Am,wrap64 (by omega) (by omega),GC];have e1:(if(0:Int)>(i:Int)-((Tr.sz g.k.μ lt.toL:Nat):Int)-(((g.k.μ x).1:Nat):Int) then(0:Int) else(i:Int)-((Tr.sz g.k.μ lt.toL:Nat):Int)-(((g.k.μ x).1:Nat):Int))=((Z-(g.k.μ x).1:Nat):Int):=by rw[c7];split<;>omega
    rw[e1,Am,wrap64 (by omega) (by omega),Am,wrap64 (by omega) (by omega)];have e2:(j:Int)-((Tr.sz g.k.μ lt.toL:Nat):Int)-(((g.k.μ x).1:Nat):Int)=((j'-(g.k.μ x).1:Nat):Int):=by rw[ba];omega
    rw[e2];refine AA (et (Z-(g.k.μ x).1) (j'-(g.k.μ x).1) (k0+X1.length+X2.length) e7 W9 hr hb.app.2.cons.1 (by omega) (by omega) e8 (by omega) c3 (by rw[<-an];omega) (λm hm=>?_)) ?_
    .have cd:m<X3.length:=by rw[an];exact hm
     rw[cc m cd];simp only[an]
    rw[<-an];rintro v W2 ⟨u1,u2,uq,I,q1,q2,q3⟩;refine done v I (λy o=>q1 y (c1 y o)) q2 ⟨by omega,z9.2.trans uq⟩ (λy o=>(u2 y (c1 y o)).trans (a7 y (.inl o))) ?_;simp only[BW];rwa [<-mo,<-mo]
  .refine G9 (λe4=>?_) λe5=>?_;rotate_left
   .have e2:X2=[]:=by rw[c8,Bp λe=>e5 (bs.2 e)]
    rw[e2];exact⟨a6,a1,a2,a3,cu,z8,V⟩
   have aZ:=bs.1 e4;have e9:=e6 aZ;have e2:X2=[g.k.part x Z (min j' (g.k.μ x).1)]:=by rw[c8,DN aZ]
   generalize hP:min j' (g.k.μ x).1=P at aZ e9 e2;have fo:P<=(g.k.μ x).1:=by omega
   have b0:=CF (g:=g) x;rw[AH,AI];refine AV (vs:=g.cells x) b0 (λj v hv=>?_) ?_
   .rw[AI];refine B8.cells j v ?_;rw[show rc=g.cells x from bp,Q0 (Ad.1 hv).1];exact hv
   refine Bx.new b0 g.zlen (cells_one (g:=g) x) λbb ea fs bc bd=>?_;have ep:=bd.lt (by rw[b0];exact g.Epos);have da:∀{p:Nat} {w},0<p->p<(g.k.μ x).1->BF prog CS g.vc [.agg (g.cells x).toArray,zI (p:Int)] (λv w'=>v=.tuple #[.agg (g.cells (g.k.cut x p).1).toArray,.agg (g.cells (g.k.cut x p).2).toArray]/\Grow w w') w:=λh1 h2=>g.cutc h1 h2 (by omega);have bx:∀{W'},Grow W8 W'->∃c pl fr,cm g.toAvT F C W' b c most A pl fr:=λgg=>(EI cu (by omega)).grow gg;refine AR (λ_ W'=>Grow W8 W'/\Bx W' bb (g.cells (if P<(g.k.μ x).1 then(g.k.cut x P).1 else x))) ?_ ?_;rotate_left
   .rw[Ai];refine AD (λh1=>?_) λh1=>⟨bc,by rw[Bp (by omega)];exact bd⟩;have ec:P<(g.k.μ x).1:=by omega
    have gd:Grow ea ea.drew:=Mod.drew _ _;obtain⟨c',eA,eB,dk⟩:=bx (bc.trans gd);have zd:=gd.size;refine AT (λ_ y=>y=bb) ?_;refine AG ?_;rw[AH,AI,AH,AI];refine AP ⟨dk.box.cells 1 _ rfl,λk hk _=>nomatch (show k∈([]:List Nat) from hk)⟩ ?_;refine CG b0 (λj v hv=>⟨by rw[AI];exact(bd.grow gd).cells j v hv,λk hk _=>nomatch (show k∈([]:List Nat) from hk)⟩) ?_;rw[e9];refine Ao (da (by omega) ec) ?_;rintro _ eC ⟨rfl,a8⟩;refine⟨a8.mono λ_ _ h=>h.elim,BI ?_⟩;refine((bd.grow gd).grow a8).over (CF _) b0 (cells_one _) λeI dr b1=>⟨b1,?_⟩;have gm:=bc.size;exact⟨((bc.trans gd).trans a8).next b1 λy o e=>by omega,by rw[DN ec];exact dr⟩
   rintro _ ed ⟨bk,bl⟩ _;have ee:∀x',x'=(if P<(g.k.μ x).1 then(g.k.cut x P).1 else x)->(g.k.μ x').1=P:=λx' e=>by
    rw[e];split
    .exact(g.cutμ x P (by omega) (by assumption)).1
    .omega
   generalize eN:(if P<(g.k.μ x).1 then(g.k.cut x P).1 else x)=x' at bl ee;have fv:=ee x' rfl;have b2:g.k.part x Z P=if 0<Z then(g.k.cut x' Z).2 else x':=by unfold Kd.part;rw[eN]
   refine AR (λ_ W'=>Grow W8 W'/\Bx W' bb (g.cells (g.k.part x Z P))) ?_ ?_;rotate_left
   .rw[BE];refine AD (λh1=>?_) λh1=>⟨bk,by rw[b2,Bp (by omega)];exact bl⟩;have gd:Grow ed ed.drew:=Mod.drew _ _;obtain⟨c',eA,eB,dk⟩:=bx (bk.trans gd);have zd:=gd.size;have gr:=bk.size;have bZ:=CF (g:=g) x';refine AT (λ_ y=>y=bb) ?_;refine AG ?_;rw[AH,AI,AH,AI];refine AP ⟨dk.box.cells 1 _ rfl,λk hk _=>nomatch (show k∈([]:List Nat) from hk)⟩ ?_;refine CG bZ (λj v hv=>⟨by rw[AI];exact(bl.grow gd).cells j v hv,λk hk _=>nomatch (show k∈([]:List Nat) from hk)⟩) ?_;refine Ao (g.cutc (x:=x') (p:=Z) (by omega) (by omega) (by omega)) ?_;rintro _ eC ⟨rfl,a8⟩;refine⟨a8.mono λ_ _ h=>h.elim,BI ?_⟩;refine((bl.grow gd).grow a8).over (CF _) bZ (cells_one _) λeI dr b1=>⟨b1,?_⟩;exact⟨((bk.trans gd).trans a8).next b1 λy o e=>by omega,by rw[b2,DN (by omega)];exact dr⟩
   rintro _ ef ⟨av,eR⟩ _;refine eR.Eg (CF _) ?_;have gv:=av.size;have gw:=z8.1;have eh:=H.hJ _ a6 a6 W8 ef cu av λy o=>⟨.inl o,by have:=a3 y o;omega⟩;refine .inr ⟨l,rfl,?_⟩;have ej:X2.length=1:=by rw[e2];rfl
   have b6:=ca 0 (by omega);simp only[lf,e2,rK] at b6;rw[<-b6];refine FO (H.bD _ a6 ef (by omega) eh) ?_;rintro v ek ⟨y1,y2,yq,y3⟩;have b7:∀y,a6 y->ek.heap[y]?=W8.heap[y]?:=λy o=>(y2 y o).trans (av.same y (a3 y o) λh=>h);have en:Quiet w7 ek:=(z8.2.trans ⟨av.os,av.tape,av.output⟩).trans yq;rcases y3 with⟨rfl,dA⟩|⟨rfl,dA⟩
   .rw[Ah];refine AL ⟨a6,a1,a2,λy o=>by have:=a3 y o;omega,by rw[ej];exact dA,⟨by omega,en⟩,λy o=>?_⟩;exact(b7 y (by rcases o with o|rfl;exact a1 y o;exact a2)).trans (V y o)
   .rw[Ah];exact AQ (done (.bool false) a6 a1 (λy o=>by have:=a3 y o;omega) ⟨by omega,en⟩ (λy o=>(b7 y (a1 y o)).trans (V y (.inl o))) (.inr ⟨rfl,dA⟩))
end
section
variable {α:Type}
def Wi(g:AvT α):Prop:=∀{F C:Nat->Prop} {W:World} {b i j:Nat} {A:ArS α} {T:Tr α},Dj g F C W b T.root A->A.ps.length<=109951162777->Tr.Holds g.k.μ A.f T->Tr.GB T->EB g T.toL->i<=1099511627776->j<=1099511627776->
 AB prog g.fOver [.pointer (some ⟨b,0,none⟩),zI (i:Int),zI (j:Int)] (λv' w'=>∃ (cap vals:List Value) (Rd:Nat->Prop),v'=.func (.func g.fOverf) #[] cap.toArray/\Grow W w'/\vals.length=(g.k.over T.toL i j).length/\(∀ m (h1:m < vals.length) (o:m < (g.k.over T.toL i j).length),∃ r,vals[m]=g.toAvK.enc r/\g.R C w' r (g.k.over T.toL i j)[m])/\
  (∀ x,Rd x->(F x\/C x\/W.heap.size<=x)/\x < w'.heap.size)/\Lb True prog g.fOverf cap (λk=>[vals.getD k undef]) vals.length Rd w') W
def Cg{t:TypeId}{x:Value}(j:x.cells=#[x])(h:∀b i,w.heap.size<=b->Grow w i->Bx i b [x]->K (.pointer (some ⟨b,0,none⟩)) i):KH t x K w:=
 ⟨j,Bx.zero h⟩
def OY{g:AvT α}{b i j b3 b4 b5:Nat}{A:ArS α}{T:Tr α}{q:Nat->List Value}(h:Dj g F C w b T.root A)(B3:Bx w b3 [.pointer (some ⟨b,0,none⟩)])(B4:Bx w b4 [zI (i:Int)])(B5:Bx w b5 [zI (j:Int)])
 (U:∀ l J Q m,Grow w m->Pn prog l J Q w (λx=>F x\/C x\/x=b3\/x=b4\/x=b5) q N->J 0 (λ_=>False) m->w.heap.size<=m.heap.size->
   AB prog g.fover [.pointer (some ⟨b,0,none⟩),zI T.root,zI (i:Int),zI (j:Int),.func (.yield l) #[] #[]] (Qg J Q N (λ_=>False) m) m) :
  Lb True prog g.fOverf [.pointer (some ⟨b3,0,none⟩),.pointer (some ⟨b4,0,none⟩),.pointer (some ⟨b5,0,none⟩)] q N (λx=>F x\/C x\/x=b3\/x=b4\/x=b5) w:=by
 refine Pn.ofSeq λl J Q m g1 H hJ hz=>?_;apply g.ok.overf;unfold Wn;have V:Grow m m.drew:=Mod.drew _ _;have o:=g1.trans V;obtain⟨c,pl,fr,hT⟩:=h.grow o;have z:=V.size;refine AT (λ_ _=>True) ?_;have B:=B3.grow o;have X:=B4.grow o;have Y:=B5.grow o;refine AP ⟨B.cells 0 _ rfl,λk hk _=>nomatch (show k∈([]:List Nat) from hk)⟩ ?_;refine AP ⟨B.cells 0 _ rfl,λk hk _=>nomatch (show k∈([]:List Nat) from hk)⟩ ?_;refine AG ?_;rw[AH,AI];refine AP ⟨hT.box.cells 4 _ rfl,λk hk _=>nomatch (show k∈([]:List Nat) from hk)⟩ ?_;refine AP ⟨X.cells 0 _ rfl,λk hk _=>nomatch (show k∈([]:List Nat) from hk)⟩ ?_;refine AP ⟨Y.cells 0 _ rfl,λk hk _=>nomatch (show k∈([]:List Nat) from hk)⟩ ?_;have Z:=H.hJ 0 (λ_=>False) (λ_=>False) m m.drew hJ V λ_ h=>h.elim;refine AA (U l J Q m.drew o H Z (by omega)) ?_;rintro v w2 ⟨a1,_,hq,I,_,_,O⟩;refine⟨⟨hq.1,hq.2.1,hq.2.2,a1,λx _ hx=>(hx trivial).elim⟩,?_⟩;rcases O with⟨_,O⟩|⟨_,O⟩
 .exact⟨I,.inl O⟩
 .exact⟨I,.inr O⟩
def TX{g:AvN α}:Wi g.toAvT:=by
 intro F C W b i j A T h X Y hu hb hi Z;apply g.ok.over;unfold YE;refine Cg rfl λb3 w1 a1 O Q=>?_;refine Cg rfl λb4 w2 a6 I U=>?_;refine Cg rfl λb5 w3 a7 q V=>?_;have o:=(O.trans I).trans q;have B:=h.grow o;have s1:=O.size;have s2:=I.size;refine⟨[.pointer (some ⟨b3,0,none⟩),.pointer (some ⟨b4,0,none⟩),.pointer (some ⟨b5,0,none⟩)],(g.k.over T.toL i j).map λx=>.agg (g.cells x).toArray,_,rfl,o,by rw[I3],λm h1 h2=>⟨g.cells (g.k.over T.toL i j)[m],by rw[UJ,nA],g.Rc.2 rfl⟩,λx hx=>?_,OY B ((Q.grow I).grow q) (U.grow q) V λl J Jx w4 g4 H hJ hz=>?_⟩
 .have q3:=Q.lt (QC _);have q4:=U.lt (QC _);have q5:=V.lt (QC _);have s3:=q.size;rcases hx with e|e|e|e|e
  .exact⟨.inl e,B.lt x (.inl e)⟩
  .exact⟨.inr (.inl e),B.lt x (.inr e)⟩
  .exact⟨.inr (.inr (by omega)),by omega⟩
  .exact⟨.inr (.inr (by omega)),by omega⟩
  .exact⟨.inr (.inr (by omega)),by omega⟩
 .have H':Pn prog l J Jx w3 (λx=>F x\/C x) _ _:=⟨H.hJ,H.PW,λk It W hJ b hb hr=>H.JY k It W hJ b hb (hr.elim .inl λh=>.inr (.inl h)),H.bD⟩;have key:=gp B X H' T i j 0 (λ_=>False) w4 Y hb hi Z hJ hz (λ_ h=>h.elim) (by rw[I3];omega) (λm hm=>?_)
  .rw[I3];rw[mQ] at key;exact key
  .simp[List.getD,hm]
end
end Go.Proofs.YtbdjachmndlplaaGreatDoor
