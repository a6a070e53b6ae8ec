/- parts of the proof -/
import Derived.Test.YtlmjclmngedmkaaGreatDoorZZZ3
set_option linter.all false
set_option maxRecDepth 100000
namespace Go.Proofs.YtlmjclmngedmkaaGreatDoor
open Go Proofs.Tryz
variable {c B N:Nat}{w W W' w0:e_}{S F C M S':f_}{v sv fr:d_}{most:Int}{cs args:V_}{a:V'}{α:Type}{ks:Y'}{rs:X_}{K:Cont}{d:Y_}{q:Z_}{P:Program}{yo xo:Operand}{σ:SKs}{H:Z'}
def Eu.up{g:AvT α}{b bt N N':Nat}{l:List α}(h:Eu g F C W b bt l N)(i:N<=N'):Eu g F C W b bt l N':=by
 obtain⟨A,T,h1,j,o,B,I⟩:=h.FZ;exact⟨h.box,⟨A,T,h1,j,o,B,vx I i⟩,h.fb⟩
def MT{α:Type}(e:Bool)(g:AvT α)(F C:f_)(W:e_)(b:Nat)(l:List α)(N:Nat):Prop:=(∃bt,Eu g F C W b bt l N)\/(e=true/\Bx W b [.pointer none]/\l=[]/\(∀x,F x↔x=b)/\∀x,¬C x)
section
variable {α:Type}{e:Bool}{g:AvT α}{F C M:f_}{W W':e_}{b N N':Nat}{l:List α}
def MT.U'(h:MT e g F C W b l N)(hm:AK M W W')(i:∀x,F x\/C x->¬M x):MT e g F C W' b l N:=by
 rcases h with⟨J,h⟩|⟨h1,o,B,j,I⟩;exact .inl ⟨J,h.U' hm i⟩;exact .inr ⟨h1,o.U' hm (i b (.inl ((j b).2 rfl))),B,j,I⟩
def MT.up(h:MT e g F C W b l N)(i:N<=N'):MT e g F C W b l N':=by
 rcases h with⟨j,h⟩|h;exact .inl ⟨j,h.up i⟩;exact .inr h
def MT.lt(h:MT e g F C W b l N):∀x,F x\/C x->x<W.heap.size:=by
 rcases h with⟨J,h⟩|⟨h1,j,I,o,B⟩;exact h.lt;rintro x (i|i);rw[(o x).1 i];exact j.lt (P9 _);exact(B x i).elim
def MT.t(h:MT false g F C W b l N):∃bt,Eu g F C W b bt l N:=h.resolve_right λh=>nomatch h.1
def MT.fb(h:MT e g F C W b l N):F b:=by
 rcases h with⟨I,h⟩|⟨h1,j,o,i,B⟩;exact h.fb.1;exact(i b).2 rfl
end
structure TxA where
 b:Nat
 r:Nat
 s:Nat
 p:Nat
 t:Nat
structure TxK where
 r:Bool
 s:Bool
 p:Bool
structure TxG where
 r:f_
 s:f_
 p:f_
 c:f_
 t:f_
abbrev TxK.f:TxK:=⟨false,false,false⟩
structure UN (k:TxK) (w0:e_) (EV:Nat->Nat) (G:TxG) (F:f_) (W:e_) (a:TxA) (σ:SKs) (most:Int) (l1:c_) (l2:Z') (L:List W_) (t:Tab W_) (N:Nat):Prop where
 box:Bx W a.b (cW σ.sv most a.r a.s a.p a.t)
 Jk:MT k.r BO.toAvT G.r Il W a.r l1 N
 Fy:MT k.s Ej.toAvT G.s Il W a.s l2 N
 PD:MT k.p Bb.toAvT G.p G.c W a.p L N
 bW:HF G.t W a.t σ t
 Iy:Cg σ.S W σ.sv σ.ks
 cb:EV a.b=0
 cr:∀x,G.r x->EV x=1
 cs:∀x,G.s x->EV x=2
 cp:∀x,G.p x\/G.c x->EV x=3
 ct:∀x,G.t x->EV x=4
 cS:∀x,σ.S x->EV x=5/\x<W.heap.size
 lo:∀x,(x=a.b\/G.r x\/G.s x)\/(G.p x\/G.c x)\/G.t x->F x
 hl:∀x,F x->w0.heap.size<=x/\x<W.heap.size/\¬σ.S x
 g:AI w0 W
section
variable {k:TxK}{w0:e_}{EV:Nat->Nat}{G:TxG}{F M:f_}{W W':e_}{a:TxA}{σ:SKs}{most:Int}{l1 jt:c_}{l2 cG:Z'}{L L':List W_}{t t':Tab W_}{N N' c:Nat}
def UN.frame(h:UN k w0 EV G F W a σ most l1 l2 L t N)(h1:1<=c)(O:c<=4)(hm:AK M W W')(o:∀x,M x->EV x=c/\F x)(B:N<=N') : Bx W' a.b (cW σ.sv most a.r a.s a.p a.t)/\(c≠1->MT k.r BO.toAvT G.r Il W' a.r l1 N')/\(c≠2->MT k.s Ej.toAvT G.s Il W' a.s l2 N')/\(c≠3->MT k.p Bb.toAvT G.p G.c W' a.p L N')/\(c≠4->HF G.t W' a.t σ t)/\Cg σ.S W' σ.sv σ.ks/\AI w0 W'/\ (∀{j:Nat->Nat},(j=λx=>if x<W.heap.size then EV x else c)->j a.b=0/\(∀x,G.r x->j x=1)/\(∀x,G.s x->j x=2)/\(∀x,G.p x\/G.c x->j x=3)/\(∀x,G.t x->j x=4)/\(∀x,σ.S x->j x=5/\x<W'.heap.size)/\∀{X Y:f_},(∀x,X x->EV x=c)->(∀x,Y x->X x\/W.heap.size<=x)->∀x,Y x->j x=c):=by
 have z:=hm.size;have JR:∀x,F x->x<W.heap.size:=λx i=>(h.hl x i).2.1;refine⟨h.box.U' hm λe=>by have:=(o _ e).1;have:=h.cb;omega,λhc=>(h.Jk.U' hm λx i e=>?_).up B,λhc=>(h.Fy.U' hm λx i e=>?_).up B,λhc=>(h.PD.U' hm λx i e=>?_).up B,λhc=>h.bW.U' hm λx i e=>?_,h.Iy.U' hm λx _ i e=>?_,h.g.next hm λx i e=>?_,?_⟩;have:=(o _ e).1;rcases i with i|i;have:=h.cr x i;omega;exact i.elim;have:=(o _ e).1;rcases i with i|i;have:=h.cs x i;omega;exact i.elim;have:=(o _ e).1;have:=h.cp x i;omega;have:=(o _ e).1;rcases i with i|i;have:=h.ct x i;omega;have:=(h.cS x i).1;omega;have:=(o _ e).1;have:=(h.cS x i).1;omega;have:=(h.hl _ (o x e).2).1;omega;rintro j rfl;have key:∀x,F x->(if x<W.heap.size then EV x else c)=EV x:=λx i=>Cx (JR x i);refine⟨by show ite _ _ _=0;rw[key _ (h.lo _ (.inl (.inl rfl)))];exact h.cb,λx i=>by show ite _ _ _=1;rw[key _ (h.lo _ (.inl (.inr (.inl i))))];exact h.cr x i,λx i=>by show ite _ _ _=2;rw[key _ (h.lo _ (.inl (.inr (.inr i))))];exact h.cs x i,λx i=>by show ite _ _ _=3;rw[key _ (h.lo _ (.inr (.inl i)))];exact h.cp x i,λx i=>by show ite _ _ _=4;rw[key _ (h.lo _ (.inr (.inr i)))];exact h.ct x i,λx i=>?_,λI J x i=>?_⟩;have:=h.cS x i;exact⟨by show ite _ _ _=5;rw[Cx this.2];exact this.1,E⟩;show ite _ _ _=c;split;rcases J x i with e|e;exact I x e;omega;rfl
def UN.kI{j:f_}{e:Bool}(h:UN k w0 EV G F W a σ most l1 l2 L t N)(hm:AK G.r W W')(hF:∀x,j x->G.r x\/W.heap.size<=x)(B:MT e BO.toAvT j Il W' a.r jt N')(I:N<=N') : ∃o,UN { k with r:=e } w0 o { G with r:=j } (λx=>F x\/j x) W' a σ most jt l2 L t N':=by
 obtain⟨J,f2,O,Q,U,f6,V,X⟩:=h.frame (c:=1) B_ B_ hm (λx i=>⟨h.cr x i,h.lo x (.inl (.inr (.inl i)))⟩) I;obtain⟨Y,g2,Z,g4,g5,g6,g7⟩:=X rfl;have z:=hm.size;have z0:=h.g.size;have hS:∀x,σ.S x->x<W.heap.size:=λx i=>(h.cS x i).2;refine⟨_,J,B,O B_,Q B_,U B_,f6,Y,g7 h.cr hF,Z,g4,g5,g6,λx i=>?_,λx i=>?_,V⟩;rcases i with(i|i|i)|i;exact .inl (h.lo x (.inl (.inl i)));exact .inr i;exact .inl (h.lo x (.inl (.inr (.inr i))));exact .inl (h.lo x (.inr i));have up:F x->w0.heap.size<=x/\x<W'.heap.size/\¬σ.S x:=λi=>by have:=h.hl x i;exact⟨this.1,E,this.2.2⟩
 rcases i with i|i;exact up i;rcases hF x i with e|e;exact up (h.lo x (.inl (.inr (.inl e))));exact⟨E,B.lt x (.inl i),λe=>by have:=hS x e;omega⟩
def UN.iL{j:f_}{e:Bool}(h:UN k w0 EV G F W a σ most l1 l2 L t N)(hm:AK G.s W W')(hF:∀x,j x->G.s x\/W.heap.size<=x)(B:MT e Ej.toAvT j Il W' a.s cG N')(I:N<=N') : ∃o,UN { k with s:=e } w0 o { G with s:=j } (λx=>F x\/j x) W' a σ most l1 cG L t N':=by
 obtain⟨J,O,f3,Q,U,f6,V,X⟩:=h.frame (c:=2) B_ B_ hm (λx i=>⟨h.cs x i,h.lo x (.inl (.inr (.inr i)))⟩) I;obtain⟨Y,Z,g3,g4,g5,g6,g7⟩:=X rfl;have z:=hm.size;have z0:=h.g.size;have hS:∀x,σ.S x->x<W.heap.size:=λx i=>(h.cS x i).2;refine⟨_,J,O B_,B,Q B_,U B_,f6,Y,Z,g7 h.cs hF,g4,g5,g6,λx i=>?_,λx i=>?_,V⟩;rcases i with(i|i|i)|i;exact .inl (h.lo x (.inl (.inl i)));exact .inl (h.lo x (.inl (.inr (.inl i))));exact .inr i;exact .inl (h.lo x (.inr i));have up:F x->w0.heap.size<=x/\x<W'.heap.size/\¬σ.S x:=λi=>by have:=h.hl x i;exact⟨this.1,E,this.2.2⟩
 rcases i with i|i;exact up i;rcases hF x i with e|e;exact up (h.lo x (.inl (.inr (.inr e))));exact⟨E,B.lt x (.inl i),λe=>by have:=hS x e;omega⟩
def UN.lh{j o:f_}{e:Bool}(h:UN k w0 EV G F W a σ most l1 l2 L t N)(hm:AK G.p W W')(hF:∀x,j x\/o x->(G.p x\/G.c x)\/W.heap.size<=x)(I:MT e Bb.toAvT j o W' a.p L' N')(J:N<=N') : ∃B,UN { k with p:=e } w0 B { G with p:=j,c:=o } (λx=>F x\/j x\/o x) W' a σ most l1 l2 L' t N':=by
 obtain⟨O,Q,U,f4,V,f6,X,Y⟩:=h.frame (c:=3) B_ B_ hm (λx i=>⟨h.cp x (.inl i),h.lo x (.inr (.inl (.inl i)))⟩) J;obtain⟨Z,g2,g3,g4,g5,g6,g7⟩:=Y rfl;have z:=hm.size;have z0:=h.g.size;have hS:∀x,σ.S x->x<W.heap.size:=λx i=>(h.cS x i).2;refine⟨_,O,Q B_,U B_,I,V B_,f6,Z,g2,g3,g7 h.cp hF,g5,g6,λx i=>?_,λx i=>?_,X⟩;rcases i with i|i|i;exact .inl (h.lo x (.inl i));exact .inr i;exact .inl (h.lo x (.inr (.inr i)));have up:F x->w0.heap.size<=x/\x<W'.heap.size/\¬σ.S x:=λi=>by have:=h.hl x i;exact⟨this.1,E,this.2.2⟩
 rcases i with i|i;exact up i;rcases hF x i with e|e;exact up (h.lo x (.inr (.inl e)));exact⟨E,I.lt x i,λe=>by have:=hS x e;omega⟩
def UN.qn{j:f_}(h:UN k w0 EV G F W a σ most l1 l2 L t N)(hm:AK G.t W W')(hF:∀x,j x->G.t x\/W.heap.size<=x/\x<W'.heap.size)(B:HF j W' a.t σ t')(I:N<=N') : ∃o,UN k w0 o { G with t:=j } (λx=>F x\/j x) W' a σ most l1 l2 L t' N':=by
 obtain⟨J,O,Q,U,f5,f6,V,X⟩:=h.frame (c:=4) B_ B_ hm (λx i=>⟨h.ct x i,h.lo x (.inr (.inr i))⟩) I;obtain⟨Y,Z,g3,g4,g5,g6,g7⟩:=X rfl;have z:=hm.size;have z0:=h.g.size;have hS:∀x,σ.S x->x<W.heap.size:=λx i=>(h.cS x i).2;refine⟨_,J,O B_,Q B_,U B_,B,f6,Y,Z,g3,g4,g7 h.ct (λx i=>(hF x i).imp id aAN),g6,λx i=>?_,λx i=>?_,V⟩;rcases i with i|i|i;exact .inl (h.lo x (.inl i));exact .inl (h.lo x (.inr (.inl i)));exact .inr i;have up:F x->w0.heap.size<=x/\x<W'.heap.size/\¬σ.S x:=λi=>by have:=h.hl x i;exact⟨this.1,E,this.2.2⟩
 rcases i with i|i;exact up i;rcases hF x i with e|e;exact up (h.lo x (.inr (.inr e)));exact⟨E,e.2,λe=>by have:=hS x e;omega⟩
def UN.U'(h:UN k w0 EV G F W a σ most l1 l2 L t N)(hm:AK M W W')(j:∀x,M x->¬F x/\¬σ.S x/\w0.heap.size<=x):UN k w0 EV G F W' a σ most l1 l2 L t N:=by
 have z:=hm.size;exact ⟨h.box.U' hm λe=>(j _ e).1 (h.lo _ (.inl (.inl rfl))),h.Jk.U' hm λx i e=>(j x e).1 (i.elim (λi=>h.lo x (.inl (.inr (.inl i)))) λi=>i.elim),h.Fy.U' hm λx i e=>(j x e).1 (i.elim (λi=>h.lo x (.inl (.inr (.inr i)))) λi=>i.elim),h.PD.U' hm λx i e=>(j x e).1 (h.lo x (.inr (.inl i))),
  h.bW.U' hm λx i e=>i.elim (λi=>(j x e).1 (h.lo x (.inr (.inr i)))) (j x e).2.1,h.Iy.U' hm λx _ i e=>(j x e).2.1 i,h.cb,h.cr,h.cs,h.cp,h.ct,λx i=>⟨(h.cS x i).1,by have:=(h.cS x i).2;omega⟩,h.lo,λx i=>⟨(h.hl x i).1,by have:=(h.hl x i).2.1;omega,(h.hl x i).2.2⟩,h.g.next hm λx i e=>by have:=(j x e).2.2;omega⟩
end
def KZ(k:TxK)(w0:e_)(F:f_)(W:e_)(a:TxA)(σ:SKs)(most:Int)(rs:X_)(l2:Z')(L:List W_)(t:Tab W_)(N:Nat):Prop:=∃EV G l1,CE l1=rs/\UN k w0 EV G F W a σ most l1 l2 L t N
def EY(k:TxK)(w0:e_)(F:f_)(W W':e_)(a:TxA)(σ:SKs)(most:Int)(rs:X_)(l2:Z')(L:List W_)(t:Tab W_)(N:Nat):Prop:=∃F',(∀x,F' x->F x\/W.heap.size<=x)/\KZ k w0 F' W' a σ most rs l2 L t N/\AK F W W'
section
variable {k:TxK}{w0:e_}{F M:f_}{W W':e_}{a:TxA}{σ:SKs}{most:Int}{rs:X_}{l2:Z'}{L:List W_}{t:Tab W_}{N:Nat}
def KZ.Jk(h:KZ k w0 F W a σ most rs l2 L t N):∃l1 Fr,CE l1=rs/\MT k.r BO.toAvT Fr Il W a.r l1 N/\(∀x,Fr x->F x/\x≠a.b)/\∀{W' j jt N' e},AK Fr W W'->(∀x,j x->Fr x\/W.heap.size<=x)->MT e BO.toAvT j Il W' a.r jt N'->N<=N'->EY { k with r:=e } w0 F W W' a σ most (CE jt) l2 L t N':=by
 obtain⟨EV,G,l1,h1,o⟩:=h;have up:∀x,G.r x->F x:=λx i=>o.lo x (.inl (.inr (.inl i)));refine⟨l1,G.r,h1,o.Jk,λx i=>⟨up x i,λe=>by have I:=o.cr x i;have U:=o.cb;rw[e] at I;omega⟩,λ{W' j jt N' e} hm hF J O=>?_⟩;obtain⟨B,Q⟩:=o.kI hm hF J O;exact⟨_,λx i=>i.elim .inl λi=>(hF x i).imp (up x) id,⟨B,_,jt,rfl,Q⟩,hm.mono λx _ i=>up x i⟩
def KZ.Fy(h:KZ k w0 F W a σ most rs l2 L t N):∃B,MT k.s Ej.toAvT B Il W a.s l2 N/\(∀x,B x->F x)/\∀{W' i cG N' e},AK B W W'->(∀x,i x->B x\/W.heap.size<=x)->MT e Ej.toAvT i Il W' a.s cG N'->N<=N'->EY { k with s:=e } w0 F W W' a σ most rs cG L t N':=by
 obtain⟨EV,G,l1,h1,I⟩:=h;have up:∀x,G.s x->F x:=λx j=>I.lo x (.inl (.inr (.inr j)));refine⟨G.s,I.Fy,up,λ{W' i cG N' e} hm hF J O=>?_⟩;obtain⟨o,Q⟩:=I.iL hm hF J O;exact⟨_,λx j=>j.elim .inl λj=>(hF x j).imp (up x) id,⟨o,_,l1,h1,Q⟩,hm.mono λx _ j=>up x j⟩
def KZ.PD(h:KZ k w0 F W a σ most rs l2 L t N):∃I J,MT k.p Bb.toAvT I J W a.p L N/\(∀x,I x\/J x->F x)/\∀{W' i j L' N' e},AK I W W'->(∀x,i x\/j x->(I x\/J x)\/W.heap.size<=x)->MT e Bb.toAvT i j W' a.p L' N'->N<=N'->EY { k with p:=e } w0 F W W' a σ most rs l2 L' t N':=by
 obtain⟨EV,G,l1,h1,O⟩:=h;have up:∀x,G.p x\/G.c x->F x:=λx o=>O.lo x (.inr (.inl o));refine⟨G.p,G.c,O.PD,up,λ{W' i j L' N' e} hm hF Q U=>?_⟩;obtain⟨B,V⟩:=O.lh hm hF Q U;exact⟨_,λx o=>o.elim .inl λo=>(hF x o).imp (up x) id,⟨B,_,l1,h1,V⟩,hm.mono λx _ o=>up x (.inl o)⟩
def KZ.bW(h:KZ k w0 F W a σ most rs l2 L t N):∃Ft,HF Ft W a.t σ t/\(∀x,Ft x->F x)/\∀{W' t'},Mi Ft W W' a.t σ t'->EY k w0 F W W' a σ most rs l2 L t' N:=by
 obtain⟨EV,G,l1,h1,o⟩:=h;have up:∀x,G.t x->F x:=λx i=>o.lo x (.inr (.inr i));refine⟨G.t,o.bW,up,λ{W' t'} B=>?_⟩;obtain⟨I,hF,J,hm⟩:=B;obtain⟨j,O⟩:=o.qn hm hF J (HK _);exact⟨_,λx i=>i.elim .inl λi=>(hF x i).imp (up x) aAN,⟨j,_,l1,h1,O⟩,hm.mono λx _ i=>up x i⟩
def KZ.box(h:KZ k w0 F W a σ most rs l2 L t N):Bx W a.b (cW σ.sv most a.r a.s a.p a.t)/\F a.b:=by
 obtain⟨EV,G,l1,h1,i⟩:=h;exact⟨i.box,i.lo _ (.inl (.inl rfl))⟩
def KZ.Iy(h:KZ k w0 F W a σ most rs l2 L t N):Cg σ.S W σ.sv σ.ks/\∀x,σ.S x->x<W.heap.size:=by
 obtain⟨EV,G,l1,h1,i⟩:=h;exact⟨i.Iy,λx j=>(i.cS x j).2⟩
def KZ.hl(h:KZ k w0 F W a σ most rs l2 L t N):∀x,F x->w0.heap.size<=x/\x<W.heap.size/\¬σ.S x:=by
 obtain⟨EV,G,l1,h1,i⟩:=h;exact i.hl
def KZ.g(h:KZ k w0 F W a σ most rs l2 L t N):AI w0 W:=by
 obtain⟨EV,G,l1,h1,i⟩:=h;exact i.g
def KZ.U'(h:KZ k w0 F W a σ most rs l2 L t N)(hm:AK M W W')(i:∀x,M x->¬F x/\¬σ.S x/\w0.heap.size<=x):KZ k w0 F W' a σ most rs l2 L t N:=by
 obtain⟨EV,G,l1,h1,j⟩:=h;exact⟨EV,G,l1,h1,j.U' hm i⟩
def KZ.U_(h:KZ k w0 F W a σ most rs l2 L t N)(hm:AI W W'):KZ k w0 F W' a σ most rs l2 L t N:=h.U' hm K_
def KZ.Ap(h:KZ k w0 F W a σ most rs l2 L t N)(hm:AI W W'):EY k w0 F W W' a σ most rs l2 L t N:=⟨F,J_,h.U_ hm,hm.mono E'⟩
def KZ.Ym(h:KZ .f w0 F W a σ most rs l2 L t N):∃l1 Fr bt,CE l1=rs/\Eu BO.toAvT Fr Il W a.r bt l1 N/\(∀x,Fr x->F x/\x≠a.b)/\∀{W' i jt N'},AK Fr W W'->(∀x,i x->Fr x\/W.heap.size<=x)->Eu BO.toAvT i Il W' a.r bt jt N'->N<=N'->EY .f w0 F W W' a σ most (CE jt) l2 L t N':=by
 obtain⟨l1,Fr,h1,j,o,B⟩:=h.Jk;obtain⟨bt,j⟩:=j.t;exact⟨l1,Fr,bt,h1,j,o,λhm hF I J=>B (e:=false) hm hF (.inl ⟨bt,I⟩) J⟩
def KZ.eF(h:KZ .f w0 F W a σ most rs l2 L t N):∃i bt,Eu Ej.toAvT i Il W a.s bt l2 N/\(∀x,i x->F x)/\∀{W' j cG N'},AK i W W'->(∀x,j x->i x\/W.heap.size<=x)->Eu Ej.toAvT j Il W' a.s bt cG N'->N<=N'->EY .f w0 F W W' a σ most rs cG L t N':=by
 obtain⟨i,o,B,I⟩:=h.Fy;obtain⟨bt,o⟩:=o.t;exact⟨i,bt,o,B,λhm hF J O=>I (e:=false) hm hF (.inl ⟨bt,J⟩) O⟩
def KZ.Yr(h:KZ .f w0 F W a σ most rs l2 L t N):∃i j bt,Eu Bb.toAvT i j W a.p bt L N/\(∀x,i x\/j x->F x)/\∀{W' o B L' N'},AK i W W'->(∀x,o x\/B x->(i x\/j x)\/W.heap.size<=x)->Eu Bb.toAvT o B W' a.p bt L' N'->N<=N'->EY .f w0 F W W' a σ most rs l2 L' t N':=by
 obtain⟨i,j,I,J,O⟩:=h.PD;obtain⟨bt,I⟩:=I.t;exact⟨i,j,bt,I,J,λhm hF Q U=>O (e:=false) hm hF (.inl ⟨bt,Q⟩) U⟩
def EY.next{j:TxK}{o:e_}{i:X_}{L':List W_}{t':Tab W_}{N':Nat}(hF:∀x,S x->F x\/W.heap.size<=x)(hm:AK F W o)(h:EY j w0 S o W' a σ most i H L' t' N'):EY j w0 F W W' a σ most i H L' t' N':=by
 obtain⟨I,h1,J,O⟩:=h;have z:=hm.size;refine⟨I,λx B=>?_,J,hm.next O λx B e=>?_⟩;rcases h1 x B with e|e;exact hF x e;exact .inr E;rcases hF x e with e|e;exact e;omega
def EY.step{i:e_}(g:AI W i)(h:EY k w0 F i W' a σ most rs l2 L t N):EY k w0 F W W' a σ most rs l2 L t N:=EY.next J_ (g.mono E') h
def EY.up{N':Nat}(h:EY k w0 F W W' a σ most rs l2 L t N)(j:N<=N'):EY k w0 F W W' a σ most rs l2 L t N':=by
 obtain⟨I,h1,⟨EV,G,l1,o,i⟩,B⟩:=h;exact⟨I,h1,⟨EV,G,l1,o,i.box,i.Jk.up j,i.Fy.up j,i.PD.up j,i.bW,i.Iy,i.cb,i.cr,i.cs,i.cp,i.ct,i.cS,i.lo,i.hl,i.g⟩,B⟩
end
section
variable {α:Type}[DecidableEq α]{t t':Tab α}{z s:α}{f:Int->α}{h:Int->Nat}{id:Int}{G:α->Prop}
def Tab.Ac.idle(i:t.Ac z f h)(h0:0<h id\/id=0):0<=id/\id<=t.AQ.length:=by
 rcases h0 with h0|rfl;rotate_left;omega;obtain⟨n,h1⟩:=i.LF h0;by_cases o:id=0;omega;obtain⟨j,rfl,hp⟩:=h1.Ct o;have:=(Bq.1 hp).1;omega
omit [DecidableEq α] in
def Tab.kK:(t.Hq z id).AQ.length=t.AQ.length:=by
 unfold Tab.Hq;cases t.Lr z id with
 |none=>rfl
 |some p=>
  dsimp only;split;rfl;show(t.AQ.set _ _).length=_;rw[q7]
omit [DecidableEq α] in
def Tab.QP:(t.Dk z id).AQ.length=t.AQ.length:=by
 unfold Tab.Dk;cases t.Lr z id with
 |none=>rfl
 |some p=>
  dsimp only;split;rfl;split<;>(show(t.AQ.set _ _).length=_;rw[q7])
omit [DecidableEq α] in
def Tab.Oq.pl(ha:t.Oq z s id t'):t'.AQ.length<=t.AQ.length+1:=by
 rcases ha with⟨_,_,rfl⟩|⟨_,i,n,hp,j,_,rfl⟩|⟨_,_,_,rfl⟩;exact aBT _;show(t.AQ.set _ _).length<=_;rw[q7];omega;unfold Tab.put;cases t.free.getLast? with
 |some i=>show(t.AQ.set _ _).length<=_;rw[q7];omega
 |none=>show(t.AQ++[_]).length<=_;rw[Ad,xD];omega
def Y9{r:List (α×Int)}(i:t.ID z r)(hi:t.Inv G)(I:∀p∈r,p.1=f p.2){p:α×Int}(hp:p∈r):JX r p.1=r.countP λq=>decide (q.2=p.2):=by
 unfold JX;rw[List.countP_eq_length_filter];congr 1;refine List.filter_congr λq j=>?_;have hu:=Tab.Has.qV hi (i.LF q j) (i.LF p hp);by_cases e:q.2=p.2;simp[e,hu.1 e];have o:¬q.1=p.1:=λB=>e (hu.2 B);simp[e,o]
def Tab.Ac.OT(J:t.Ac z f h)(hi:t.Inv G)(hG:∀s,G s->s≠z){H:Nat}(X:∀x,h x<=H)(hp:t.AQ.length<=H):t.Small H:=by
 obtain⟨_,r,h1,Y,Z⟩:=J;refine⟨hp,?_,λq hq=>?_⟩;rw[h1.em];refine aAJ λO=>?_;obtain⟨p,o,e⟩:=QB (r:=r) (x:=z) E;rw[<-e,Y9 h1 hi Y o,Z] at O;have:=X p.2;omega;refine aAJ λO=>?_;obtain⟨i,Q,e⟩:=yg.1 hq;have B:t.AQ[i]?=some q:=by rw[By Q,e]
 obtain⟨p,o,e'⟩:=h1.pl i q B E;have J:=h1.LF p o;have U:p.2≠0:=λe0=>hG _ (hi.ok i q B E) (e'▸J.2.2.1 e0);obtain⟨j,hj,I⟩:=J.Ct U;have V:=hi.KV i j q _ B I E J.2.1 e'.symm;subst V;rw[B] at I;have:q.held=JX r p.1:=by cases I;rfl
 rw[Y9 h1 hi Y o,Z] at this;have:=X p.2;omega
end
namespace Spn
def V5(x:Int)(p:Option Int)(l:X_):rn x p l<=l.length:=by
 induction l generalizing p with
 |nil=>exact HK _
 |cons y l i=>
  rw[rn,Hn];have:=i (some y);split<;>omega
def QF{x:Int}{p:Option Int}{l:X_}(i:x∈l)(hp:p≠some x):0<rn x p l:=by
 induction l generalizing p with
 |nil=>cases i
 |cons y l j=>
  rw[rn];by_cases e:y=x
  .rw[Cx ⟨e,hp⟩];omega
  .have h1:x∈l:=(I3.1 i).resolve_left λh=>e h.symm;have:=j (p:=some y) h1 (λh=>e (r9 h));omega
def pn{x:Int}{p:Option Int}{l:X_}(h:0<rn x p l):x∈l:=by
 induction l generalizing p with
 |nil=>simp[rn] at h
 |cons y l i=>
  rw[rn] at h;by_cases e:y=x
  .exact I3.2 (.inl e.symm)
  .rw[Bp λh=>e h.1] at h;exact aN _ (i (p:=some y) (by omega))
def ln(s:Spn){i j:Nat}(o:i<j)(I:j<=s.n):kd.part s i j=⟨j-i,s.id⟩:=by
 have B:(kd.μ s).1=s.n:=rfl;unfold Kd.part;rw[B];by_cases h:j<s.n
 .rw[Cx h];by_cases h0:0<i
  .rw[Cx h0];rfl
  .rw[Bp h0,show i=0 by omega];rfl
 .rw[Bp h,show j=s.n by omega];by_cases h0:0<i
  .rw[Cx h0];rfl
  .rw[Bp h0,show i=0 by omega];rfl
def Zq{l:Z'}:∀{p:Option Int} (_:KQ p l) (i j:Nat),KQ (if i=0 then p else none) (kd.Au l i j):=by
 induction l with
 |nil=>intro p _ i j;exact trivial
 |cons s l B=>
  intro p h i j;obtain⟨h1,J,I⟩:=h;have O:(kd.μ s).1=s.n:=rfl;rw[Kd.Au,O];by_cases o:i<min j s.n
  .rw[Cx o,ln s o (Nat.min_le_right _ _)];have:=B I (i-s.n) (j-s.n);rw[Cx (by omega)] at this;refine⟨by show 0<min j s.n-i;omega,?_,this⟩;split
   .exact J
   .simp
  .rw[Bp o,u7];by_cases Q:j<=i
   .rw[Kd.GF _ _ (by omega)];exact trivial
   .have:=Qi (B I (i-s.n) (j-s.n));rw[Bp (by omega)];exact this
def JU{p:Option Int}{l:Z'}(h:KQ p l)(i j:Nat):KQ none (kd.Au l i j):=Qi (Zq h i j)
def IX{p:Option Int}{l:Z'}(h:KQ p l):l.length<=(l.flatMap u).length:=by
 induction l generalizing p with
 |nil=>exact HK _
 |cons s l i=>
  have:=i h.2.2;have:=h.1;rw[vr,Ad,u,wu,Hn];omega
def Z3{l:Z'}{x:Int}(h:x∈l.flatMap u):∃s∈l,s.id=x:=by
 obtain⟨s,i,j⟩:=xu.1 h;exact⟨s,i,(y5.1 j).2.symm⟩
def SB{l:Z'}{s:Spn}(i:s∈l)(j:0<s.n):s.id∈l.flatMap u:=xu.2 ⟨s,i,y5.2 ⟨by omega,rfl⟩⟩
abbrev Er(l:Z')(x:Int):Nat:=l.countP λs=>decide (s.id=x)
structure vn (l2 row:Z') (i j:Nat):Prop where
 Ap:∀x,rn x none ((kd.Cw l2 i j row).flatMap u)+Er (kd.Au l2 (i-1) (min (j+1) (l2.flatMap u).length)) x=rn x none (l2.flatMap u)+Er (kd.Au (kd.Cw l2 i j row) (i-1) (min (j+1) (l2.flatMap u).length-(j-i)+(row.flatMap u).length)) x
 mem:∀x,0<Er (kd.Au (kd.Cw l2 i j row) (i-1) (min (j+1) (l2.flatMap u).length-(j-i)+(row.flatMap u).length)) x->x∈l2.flatMap u\/x∈row.flatMap u
 len:(kd.Au l2 (i-1) (min (j+1) (l2.flatMap u).length)).length<=(l2.flatMap u).length/\(kd.Au (kd.Cw l2 i j row) (i-1) (min (j+1) (l2.flatMap u).length-(j-i)+(row.flatMap u).length)).length<=(l2.flatMap u).length+(row.flatMap u).length
def dG(P Q R:List α){a b:Nat}(ha:a=P.length)(hb:b=P.length+Q.length):((P++Q++R).take b).drop a=Q:=by
 subst ha hb;rw[y9 (by rw[Ad]),yW rfl]
def vQ(row:Z'){i j:Nat}(hp:KQ none H)(X:i<=j)(hj:j<=(H.flatMap u).length):vn H row i j:=by
 have Y:=K4 i j row hp;have eu:(kd.Cw H i j row).flatMap u=(H.flatMap u).take i++row.flatMap u++(H.flatMap u).drop j:=FQ.Cw H row X;generalize I:H.flatMap u=o at *;generalize J:row.flatMap u=V at *
 let P:=o.take (i-1)
 let O:=(o.take i).drop (i-1)
 let B:=(o.take j).drop i
 let Q:=(o.drop j).take 1
 let R:=(o.drop j).drop 1
 have eA:o.take i=P++O:=by
  have:=(QC (i-1) (o.take i)).symm;rwa [xH,u6 (by omega)] at this
 have eC:o.drop j=Q++R:=(QC 1 _).symm;have eB:o=o.take i++B++o.drop j:=by
  have h1:=(QC i (o.take j)).symm;rw[xH,u6 X] at h1;rw[<-h1,QC]
 have e1:o=P++(O++B++Q)++R:=by
  conv=>lhs;rw[eB,eA,eC]
  simp only[Mp]
 have e2:(kd.Cw H i j row).flatMap u=P++(O++V++Q)++R:=by
  rw[eu,eA,eC];simp only[Mp]
 have Z:P.length=i-1:=by show(o.take (i-1)).length=_;rw[K8];omega
 have lA:O.length=i-(i-1):=by show((o.take i).drop (i-1)).length=_;rw[FB,K8];omega
 have lB:B.length=j-i:=by show((o.take j).drop i).length=_;rw[FB,K8];omega
 have lC:Q.length=min 1 (o.length-j):=by show((o.drop j).take 1).length=_;rw[K8,FB]
 have lR:R.length=o.length-j-1:=by show((o.drop j).drop 1).length=_;rw[FB,FB]
 have u1:(kd.Au H (i-1) (min (j+1) o.length)).flatMap u=O++B++Q:=by
  rw[FQ.Au,I];have:=dG P (O++B++Q) R (b:=min (j+1) o.length) Z.symm (by rw[Ad,Ad,Z,lA,lB,lC];omega);rw[<-e1] at this;exact this
 have u2:(kd.Au (kd.Cw H i j row) (i-1) (min (j+1) o.length-(j-i)+V.length)).flatMap u=O++V++Q:=by
  rw[FQ.Au,e2];exact dG _ _ _ Z.symm (by rw[Ad,Ad,Z,lA,lC];omega)
 have c1:=λx=>dK x none _ (JU hp (i-1) (min (j+1) o.length));have c2:=λx=>dK x none _ (JU Y (i-1) (min (j+1) o.length-(j-i)+V.length));have n1:=IX (JU hp (i-1) (min (j+1) o.length));have n2:=IX (JU Y (i-1) (min (j+1) o.length-(j-i)+V.length));rw[u1] at n1;rw[u2] at n2;refine⟨λx=>?_,λx hx=>?_,?_,?_⟩
 .rw[J,I,Er,Er,c1,c2,u1,u2,e2];have:=ag x P (O++B++Q) (O++V++Q) R (λU=>?_) (λU=>?_)
  .rw[<-e1] at this;omega
  .have:P.length≠0:=λh=>U (Kx h);cases hA:O with
   |nil=>rw[hA] at lA;simp at lA;omega
   |cons y A2=>simp
  .have:R.length≠0:=λh=>U (Kx h);have hC:Q≠[]:=λh=>by rw[h] at lC;simp at lC;omega
   exact⟨by simp[R0,xJ hC],by simp[hC],by simp[hC]⟩
 .rw[J,I,Er,c2,u2] at hx;have hm:=pn hx;rw[I,J];rcases DN.1 hm with hm|hm
  .rcases DN.1 hm with hm|hm
   .exact .inl (aO (aR hm))
   .exact .inr hm
  .exact .inl (aR (aO hm))
 .rw[I];have:=tZ List.length e1;simp only[Ad] at this n1;omega
 .rw[I,J];simp only[Ad] at n2;omega
end Spn
def HF.Rq{b:Nat}{ks:SKs}{t:Tab W_}(h:HF F W b ks t):t.Inv (Iq ks.ks):=by
 obtain⟨C,pl,fr,j,i⟩:=h;exact i.DS.Rq
def Iq.ne:∀s,Iq ks s->s≠[]:=λ_ h=>h.1
section
variable {k:TxK}{w0:e_}{F:f_}{W:e_}{a:TxA}{σ:SKs}{most:Int}{rs:X_}{l2:Z'}{L:List W_}{t:Tab W_}{N:Nat}
def OL{op:Tab W_->Int->Tab W_}{row:Z'}{P:Nat->Tab W_->Prop}{Kend:e_->Prop} (call:∀{Ft W t id},HF Ft W a.t σ t->t.Small 1099511627->0<=id->id<=1099511627->AF prog c [g_ a.t,zI id] (λ_ w'=>Mi Ft W w' a.t σ (op t id)) W) (rd:BC S 2 HQ W v row)(hS:∀x,S x->¬F x)(hl:row.length<=1099511627776) (o:∀(m:Nat) (hm:m<row.length) t,P m t->t.Inv (Iq σ.ks)->t.Small 1099511627/\0<=row[m].id/\row[m].id<=1099511627/\P (m+1) (op t row[m].id)) (h:KZ k w0 F W a σ most rs l2 L t N)(h0:P 0 t) (hK:∀W' t',EY k w0 F W W' a σ most rs l2 L t' N->P row.length t'->Kend W') : G8 [(zI 0)] (λvs B J=>∀_:Env,Hm .i64 (Bm vs 0) (zI (row.length:Int)) λZ=>Al Z (Lb 2 v (Bm vs 0) λa1=>DT 2 a1 (λa6 a7=>Cl 178 [(zI 0),(zI 0)] (λO a8=>Bu 2 O a6 (λI=>DK [6] (k_ [0,1,3,7,0,16,63]) I.drew (λM St=>Ar (g_ a.b) λaa=>BZ 5 aa λak=>Ea (St 3) ak λal=>BZ 1 O λan=>Ea (St 5) an λav=>AF prog c [al,av] (λ_t87 Q=>AK (M 6) I.drew Q/\ DX .i64 (Bm vs 0) (zI 1) λax=>B [ax] Q) I.drew)) a8) a7) J) (Kend J)) W:=by
 obtain⟨ra,rc,rfl,_⟩:=rd.AO;have U:=rd.JR B_;apply AX (λvs W'=>∃(m:Nat) (t':Tab W_),m<=row.length/\vs=[zI m]/\EY k w0 F W W' a σ most rs l2 L t' N/\P m t') (λvs _=>row.length-Di vs 0) ⟨0,t,Hw _,rfl,h.Ap (AK.refl _ _),h0⟩;rintro vs W1 ⟨m,t1,hm,rfl,⟨F1,f1,h1,m1⟩,hP⟩ _;simp only[Bh,JS];refine HP (λb7=>?_) λb8=>?_;rotate_left;obtain rfl:m=row.length:=E;exact hK W1 t1 ⟨F1,f1,h1,m1⟩ hP;have i:m<row.length:=E;obtain⟨p,r,rfl,_,hr,hc,ay⟩:=U.get i;have V:r=row[m].cells:=ay;subst V;obtain⟨p',r',e',b0,_⟩:=U.get i;cases e';refine AW i (Ab (vs:=row[m].cells) rfl (λj u hu=>by rw[Addr.add_add];exact m1.cell (hc j u hu) λe=>hS _ b0.1 (by rw[Av] at e;exact e)) ?_);refine Bx.new (vs:=row[m].cells) rfl rfl (Spn.one _) λb5 W2 b9 g2 B5=>?_;have gd:AI W2 W2.drew:=AK.drew _ _;have h2:=h1.U_ (g2.trans gd);obtain⟨hB,ba⟩:=h2.box;obtain⟨Ft,hT,bb,put⟩:=h2.bW;have X:∀x,F1 x->x≠b5:=λx Y e=>by have:=(h1.hl x Y).2.1;omega
 apply Ag (λq y=>q=6/\F1 y);apply AJ;rw[AB,AH];refine AU ⟨hB.cells 5 _ rfl,λj hj e=>by obtain⟨rfl,_⟩:=e;exact absurd hj B_⟩ ?_;rw[AB,AH];apply AU ⟨(B5.U_ gd).cells 1 _ rfl,λj hj e=>X _ e.2 rfl⟩;obtain⟨q1,q2,q3,q4⟩:=o m i t1 hP hT.Rq;apply AA (call hT q1 q2 q3);rintro _ W3 hA;obtain⟨F3,f3,h3,m3⟩:=put hA;refine⟨m3.mono λx _ Y=>⟨rfl,Y⟩,?_⟩;rw[AR,AM E];have b6:AK F W W2.drew:=m1.next (g2.trans gd) E';refine⟨⟨m+1,_,i,rfl,EY.next (λx Y=>(f1 x Y)) b6 ⟨F3,f3,h3,m3⟩,q4⟩,by rw[CL,CL];omega⟩
end
def lD{e:Bool}{b N:Nat}{l:Z'}(h:MT e Ej.toAvT F Il W b l N) : AF prog 236 [g_ b] (λv' w'=>v'=zI (HU l:Int)/\∃bt F',Eu Ej.toAvT F' Il w' b bt l N/\(∀x,F' x->F x\/W.heap.size<=x)/\AK F W w') W:=by
 rcases h with⟨bt,h⟩|⟨_,j,rfl,i,I⟩;apply AA (RG L8 h);rintro _ w ⟨rfl,g⟩;exact⟨rfl,bt,F,h.U_ g,J_,g.mono E'⟩;apply AA (dS (g:=Ej.toAvT) (C:=Il) L8 j E_ K_);rintro _ w ⟨rfl,bt,F',k1,k2,o⟩;exact⟨rfl,bt,F',k1.up (Hw _),λx B=>(k2 x B).imp (λe=>(i x).2 e) id,o.mono λx _ e=>(i x).2 e⟩
namespace Spn
def QJ(l:Z'){m:Nat}(hm:m<l.length)(x:Int):Er (l.take (m+1)) x=Er (l.take m) x+if x=l[m].id then 1 else 0:=by
 have i:l.take (m+1)=l.take m++[l[m]]:=by rw[Lc];simp[hm]
 rw[Er,Er,i,zh,zR,List.countP_nil];by_cases e:x=l[m].id
 .rw[Cx e,Cx (by simp[e])]
 .rw[Bp e,Bp (by simp[yH e])]
def Oa(l:Z')(m:Nat)(x:Int):Er (l.take m) x<=Er l x:=by
 have:Er l x=Er (l.take m) x+Er (l.drop m) x:=by rw[Er,Er,Er,<-zh,QC]
 omega
def Tt{l:Z'}{s:Spn}(h:s∈l):0<Er l s.id:=aAZ.2 ⟨s,h,by simp⟩
def Q6(l:Z')(x:Int):Er l x<=l.length:=List.countP_le_length
end Spn
section
variable {k:TxK}{w0:e_}{F:f_}{W:e_}{a:TxA}{σ:SKs}{most:Int}{rs:X_}{l2:Z'}{L:List W_}{t:Tab W_}{N:Nat}
def ae{f:Int->W_}{h:Int->Nat}{i:Z'}{M:Nat}(J:M<=1000000000)(o:∀s∈i,0<h s.id\/s.id=0)(hb:∀x,h x+i.length<=1000000000)(ks:Y') : ∀(m:Nat) (hm:m<i.length) (t:Tab W_),(t.Ac [] f (λx=>h x+Spn.Er (i.take m) x)/\t.AQ.length=M)->t.Inv (Iq ks)->t.Small 1099511627/\0<=i[m].id/\i[m].id<=1099511627/\((t.Hq [] i[m].id).Ac [] f (λx=>h x+Spn.Er (i.take (m+1)) x)/\(t.Hq [] i[m].id).AQ.length=M):=by
 rintro m hm t ⟨B,hp⟩ hi;have O:=o i[m] (Q0 hm);have j:0<h i[m].id+Spn.Er (i.take m) i[m].id\/i[m].id=0:=E;obtain⟨I,Q⟩:=B.idle j;refine⟨(B.OT hi Iq.ne (H:=1000000000) (λx=>?_) E).le E,I,E,(B.Hq hi j).congr λx=>?_,by rw[Tab.kK];exact hp⟩;have:=Spn.Oa i m x;have:=Spn.Q6 i x;have:=hb x;omega;rw[Spn.QJ i hm];omega
def Sz{f:Int->W_}{h:Int->Nat}{Ol:Z'}{M:Nat}(I:M<=1000000000)(j:∀x,Spn.Er Ol x<=h x)(hb:∀x,h x<=1000000000)(ks:Y') : ∀(m:Nat) (hm:m<Ol.length) (t:Tab W_),(t.Ac [] f (λx=>h x-Spn.Er (Ol.take m) x)/\t.AQ.length=M)->t.Inv (Iq ks)->t.Small 1099511627/\0<=Ol[m].id/\Ol[m].id<=1099511627/\((t.Dk [] Ol[m].id).Ac [] f (λx=>h x-Spn.Er (Ol.take (m+1)) x)/\(t.Dk [] Ol[m].id).AQ.length=M):=by
 rintro m hm t ⟨o,hp⟩ hi;have h1:=Spn.QJ Ol hm Ol[m].id;rw[Cx rfl] at h1;have J:=Spn.Oa Ol (m+1) Ol[m].id;have O:=j Ol[m].id;have i:0<h Ol[m].id-Spn.Er (Ol.take m) Ol[m].id:=E;obtain⟨B,Q⟩:=o.idle (.inl i);refine⟨(o.OT hi Iq.ne (H:=1000000000) (λx=>?_) E).le E,B,E,(o.free hi Iq.ne i).congr λx=>?_,by rw[Tab.QP];exact hp⟩;have:=hb x;omega;rw[Spn.QJ Ol hm];omega
def Zb{id:Int}(i:HF S W a.t σ t)(j:t.Small 1099511627)(h0:0<=id)(h1:id<=1099511627):AF prog 269 [g_ a.t,zI id] (λ_ w'=>Mi S W w' a.t σ (t.Hq [] id)) W:=AA (dE i (j.le E) E E) λ_ _ h=>h.2
def Nq{id:Int}(i:HF S W a.t σ t)(j:t.Small 1099511627)(h0:0<=id)(h1:id<=1099511627):AF prog 197 [g_ a.t,zI id] (λ_ w'=>Mi S W w' a.t σ (t.Dk [] id)) W:=AA (dy i j E E) λ_ _ h=>h.2
def ON{row:Z'}{i j:Nat}{f:Int->W_}{ex:Int->Nat} (h:KZ k w0 F W a σ most rs l2 L t N)(hp:Spn.KQ none l2)(hh:t.Ac [] f λx=>Spn.rn x none (l2.flatMap Spn.u)+ex x) (a1:i<=j)(hj:j<=(l2.flatMap Spn.u).length)(hv:BC S 2 HQ W v row)(hS:∀x,S x->¬F x) (O:∀s∈row,0<s.n/\(0<ex s.id\/s.id=0))(hz:(l2.flatMap Spn.u).length+(row.flatMap Spn.u).length<=100000000)(bs:∀x,ex x<=100000000)(hN:N<=1000000000)(a7:t.AQ.length<=1000000000) : AF prog 196 [g_ a.b,zI (i:Int),zI (j:Int),v] (λv' w'=>v'=.tuple #[]/\∃t',EY { k with s:=false } w0 F W w' a σ most rs (Spn.kd.Cw l2 i j row) L t' (N+row.length+4)/\t'.Ac [] f (λx=>Spn.rn x none ((Spn.kd.Cw l2 i j row).flatMap Spn.u)+ex x)/\t'.AQ.length=t.AQ.length) W:=by
 refine O_ func196 ?_ (.y (.y (.y (.y (.z (.y (.node [9,56] [(9,9),(13,13),(56,64)] .nil .nil)) (.y (.z (.y (.node [77] [(17,17),(77,88)] (.y (.y (.x (.y (.dm [6] [0,1,3,7,0,16,63]))))) .nil)) (.y (.node [91] [(19,19),(91,102)] (.y (.y (.x (.y (.dm [6] [0,1,3,7,0,16,63]))))) .nil)))))))));obtain⟨w1,w2,w3,w4⟩:=Spn.vQ row hp a1 hj;have dr:row.length<=(row.flatMap Spn.u).length:=by
  clear hv hz w1 w2 w3 w4;induction row with
  |nil=>exact HK _
  |cons s row ih=>
   have:=(O s D_).1;have:=ih λs X=>O s (by simp[X]);rw[vr,Ad,Spn.u,wu,Hn];omega
 have dT:=Spn.IX hp;have e0:(if(0:Int)>(i:Int)-1 then(0:Int) else(i:Int)-1)=((i-1:Nat):Int):=by split<;>omega
 have c4:∀x,Spn.rn x none (l2.flatMap Spn.u)<=(l2.flatMap Spn.u).length:=λx=>Spn.V5 x none _;have a8:=GH l2;have aa:=GH row;have ak:∀s∈row,0<=s.id:=λs X=>(hh.idle (id:=s.id) (by have:=(O s X).2;omega)).1;have cx:=(Yx (l:=l2) (L:=row) E a1 E).1;generalize hn:(l2.flatMap Spn.u).length=n at *;generalize e1:(row.flatMap Spn.u).length=nr at *;rw[A6,HS,wrap64 E E,e0,AR,wrap64 E E];apply AJ;rw[AB,AH];apply AD (h.box.1.cells 3 _ rfl);obtain⟨Fs,I,J,put⟩:=h.Fy;apply AA (lD I);rintro _ W1 ⟨rfl,bt,e2,al,Z,m1⟩;obtain⟨F1,f1,h1,M1⟩:=put (e:=false) m1 Z (.inl ⟨bt,al⟩) (HK _);clear I put J Z al;have c6:BC (λx=>S x/\x<W.heap.size) 2 HQ W1 v row:=(hv.JR B_).U' M1 (λx _ o e=>hS x o.1 e) B_ C0;have an:∀x,S x/\x<W.heap.size->¬F1 x:=λx o e=>by
  rcases f1 x e with e|e;exact hS x o.1 e;omega
 have av:(if(HU l2:Int)<(j:Int)+1 then(HU l2:Int) else(j:Int)+1)=((min (j+1) n:Nat):Int):=by rw[a8];split<;>omega
 rw[Iv,av];apply AJ;rw[AB,AH];apply AD (h1.box.1.cells 3 _ rfl);obtain⟨Fs,I,J,put⟩:=h1.Fy;obtain⟨bt,I⟩:=I.t;apply AA (Pc (i:=i-1) (j:=min (j+1) n) I E E E E E);rintro _ W2 ⟨wv,rfl,oW,g2⟩;refine Bv ?_;generalize dj:Spn.kd.Au l2 (i-1) (min (j+1) n)=Ol at *;have h2:=h1.U_ g2;apply AJ;rw[AB,AH];apply AD (h2.box.1.cells 3 _ rfl);clear I put J;obtain⟨Fs,I,J,put⟩:=h2.Fy;obtain⟨bt,I⟩:=I.t;have ax:=c6.U_ g2 B_ C0;apply AA (ZV I (L:=row) E a1 E E ax (λx o e=>an x o (J x e)) ak);rintro _ W3 ⟨_,e3,k1,k2,k3,k4⟩;obtain⟨F3,f3,h3,M3⟩:=put (e:=false) k4 k2 (.inl ⟨bt,k3⟩) (N':=N+row.length+4) E;clear I put J k1 k2 k3;generalize c7:Spn.kd.Cw l2 i j row=l3 at *;have z3:=M3.size;have U:=AG.Az oW;have V:∀x,F1 x->x<W1.heap.size:=λx o=>(h1.hl x o).2.1;have ay:∀x,wv.ownBlock=some x->¬F3 x:=λx o e=>by
  have:=U x o;rcases f3 x e with e|e;have:=V x e;omega;omega
 have b0:=AG.U' (R':=HQ) oW M3 (λx o e=>by have:=U x o;have:=V x e;omega) F_;have b6:BC (λx=>S x/\x<W.heap.size) 2 HQ W3 v row:=ax.U' M3 (λx _ o e=>an x o e) B_ C0;have b7:=AG.sl b0;obtain⟨ra,rc,ev,_⟩:=b6.AO;obtain⟨wa,wc,ew,_⟩:=b7.AO;have c8:((min (j+1) n:Nat):Int)+((i:Int)-(j:Int))=((min (j+1) n-(j-i):Nat):Int):=E;rw[A6,wrap64 E E,AR,wrap64 E E,c8];subst ev;rw[AP];apply AX (λvs W'=>∃m:Nat,m<=row.length/\vs=[zI ((min (j+1) n-(j-i)+HU (row.take m):Nat):Int),zI m]/\AI W3 W') (λvs _=>row.length-Di vs 1) ⟨0,Hw _,by simp[HU,Tr.sz],AK.refl _ _⟩;rintro vs W4 ⟨m,hm,rfl,g4⟩ _;simp only[Iu];refine HP (λe4=>?_) λe5=>?_;have Q:m<row.length:=E;have c9:row.take (m+1)=row.take m++[row[m]]:=by rw[Lc];simp[Q]
 have e6:HU row=HU (row.take (m+1))+HU (row.drop (m+1)):=by unfold HU;rw[<-Tr.DI,QC]
 have b8:HU (row.take (m+1))=HU (row.take m)+row[m].n:=by rw[c9];unfold HU;rw[Tr.DI];simp[Tr.sz,Spn.kd]
 obtain⟨p,r,rfl,e7,hr,hc,rfl⟩:=b6.get Q;refine AW Q (Ab (vs:=row[m].cells) rfl (λj u hu=>by rw[Addr.add_add];exact g4.cell (hc j u hu) E_) ?_);refine Bx.new (vs:=row[m].cells) rfl rfl (Spn.one _) λe8 w7 hb g7 B=>?_;rw[AB,AH];apply AD (B.cells 0 _ rfl);rw[AR,wrap64 E E,AR,AM E];refine⟨⟨m+1,Q,?_,g4.trans g7⟩,by rw[BE,BE];omega⟩;rw[b8];congr 2;omega;obtain rfl:m=row.length:=E;rw[Nr,aa];have h4:=h3.U_ g4;have z4:=g4.size;apply AJ;rw[AB,AH];apply AD (h4.box.1.cells 3 _ rfl);obtain⟨Fs,I,J,put⟩:=h4.Fy;obtain⟨bt,I⟩:=I.t;have bp:l3.length<=HU l3:=by rw[GH,<-c7];exact Spn.IX (Spn.K4 i j row hp)
 apply AA (Pc (i:=i-1) (j:=min (j+1) n-(j-i)+nr) I E E E E E);rintro _ W5 ⟨nv,rfl,oN,g5⟩;clear I put J;refine Bv ?_;generalize dk:Spn.kd.Au l3 (i-1) (min (j+1) n-(j-i)+nr)=Y at *;have h5:=h4.U_ g5;have z5:=g5.size;have a6:∀x,F3 x->x<W3.heap.size:=λx o=>(h3.hl x o).2.1;have b9:=AG.sl oN;obtain⟨na,nc,en,_⟩:=b9.AO;subst en;rw[AP];have ba:∀x,Spn.rn x none (l2.flatMap Spn.u)+ex x+Y.length<=1000000000:=λx=>by have:=c4 x;have:=bs x;omega
 refine OL (P:=λm t=>t.Ac [] f (λx=>(Spn.rn x none (l2.flatMap Spn.u)+ex x)+Spn.Er (Y.take m) x)/\t.AQ.length=_) (λhT X h0 h1=>Zb hT X h0 h1) b9 (λx o e=>by have:=(AG.Az oN) x o.2;have:=a6 x e;omega) E
  (ae a7 (λs X=>?_) ba σ.ks) h5 ⟨hh.congr λx=>by simp[Spn.Er],rfl⟩ ?_
 rcases w2 s.id (Spn.Tt X) with e | e;have:=Spn.QF (p:=none) e D_;omega;obtain ⟨s',ca,e'⟩:=Spn.Z3 e;have:=(O s' ca).2;rw [e'] at this;omega;rintro W6 t6 ⟨F6,f6,h6,M6⟩ ⟨bb,bk⟩;rw [Nr] at bb;have z6:=M6.size;have cc:=AG.U' (R':=HQ) b0 (g4.trans g5) C0 F_;subst ew;rw [AP];refine OL (P:=λm t=>t.Ac [] f (λx=>(Spn.rn x none (l2.flatMap Spn.u)+ex x+Spn.Er Y x) - Spn.Er (Ol.take m) x)/\t.AQ.length=_) (λhT X h0 h1=>Nq hT X h0 h1) (AG.sl (AG.U' (R':=HQ) cc M6 (λx o e=>ay x o e) F_)) (λx o e=>by
   rcases f6 x e with e | e;exact ay x o.2 e;have:=U x o.2;omega) E
  (Sz (bk▸a7) (λx=>by have:=w1 x;omega) (λx=>by have:=ba x;have:=Spn.Q6 Y x;omega) σ.ks) h6 ⟨bb.congr λx=>by simp[Spn.Er],rfl⟩ ?_
 rintro W7 t7 ch ⟨bl,cu⟩;rw[Nr] at bl;refine⟨trivial,t7,?_,bl.congr λx=>by have:=w1 x;omega,cu.trans bk⟩;refine EY.next f1 M1 (EY.step g2 (EY.next f3 M3 (EY.step (g4.trans g5) (EY.next f6 M6 ?_))));exact ch
end
def CS(d:Y_):List W_:=(d.filter λc=>decide (c.r=10)).map (·.set)
abbrev BA(d:Y_):X_:=d.map Cel.r
def GO(ks:Y')(set:W_)(r:Int):Cel:=⟨r,Ce ks (decide (r=10)) set⟩
def E0(x y:Y_):CS (x++y)=CS x++CS y:=by simp[CS]
def Eh(d:Y_):(CS d).length=Bj (BA d):=by
 induction d with
 |nil=>rfl
 |cons c d i=>
  have e:CS (c::d)=(if c.r=10 then[c.set] else[])++CS d:=by by_cases h:c.r=10<;>simp[CS,h]
  have j:Bj (BA (c::d))=(if c.r=10 then 1 else 0)+Bj (BA d):=by
   have:BA (c::d)=[c.r]++BA d:=rfl;rw[this,Gg];by_cases h:c.r=10<;>simp[Bj,h]
  rw[e,j,Ad,i];split<;>rfl
def El(d:Y_)(i:Nat):CS (d.take i)=(CS d).take (Bj ((BA d).take i))/\CS (d.drop i)=(CS d).drop (Bj ((BA d).take i)):=by
 have h:=E0 (d.take i) (d.drop i);rw[QC] at h;have hl:(CS (d.take i)).length=Bj ((BA d).take i):=by rw[Eh,BA,wR]
 rw[h];exact⟨(y9 hl).symm,(yW hl).symm⟩
def nk(ks:Y')(set:W_)(rs:X_):CS (rs.map (GO ks set))=List.replicate (Bj rs) (Ce ks true set):=by
 induction rs with
 |nil=>rfl
 |cons r rs i=>
  have e:r::rs=[r]++rs:=rfl;rw[e,S7,E0,i,Gg];by_cases h:r=10;subst h;rw[<-yi];simp[CS,GO,Bj];simp[CS,GO,Bj,h]
def sH(ks:Y')(set:W_)(rs:X_):BA (rs.map (GO ks set))=rs:=by
 simp[BA,GO,Function.comp_def]
def sJ(f:Int->W_)(z:List (Cel×Int)):Prop:=∀p∈z,(p.1.r=10->p.2=0)/\(p.1.r≠10->f p.2=p.1.set)
def IM(k:TxK)(w0:e_)(F:f_)(W:e_)(a:TxA)(σ:SKs)(most:Int)(d:Y_)(N:Nat):Prop:=∃(z:List (Cel×Int)) (l2:Z') (t:Tab W_) (f:Int->W_),z.map Prod.fst=d/\KZ k w0 F W a σ most (BA d) l2 (CS d) t N/\Spn.KQ none l2/\l2.flatMap Spn.u=z.map Prod.snd/\t.Ac [] f (λx=>Spn.rn x none (z.map Prod.snd))/\sJ f z/\t.AQ.length<=N
def PC(k:TxK)(w0:e_)(F:f_)(W W':e_)(a:TxA)(σ:SKs)(most:Int)(d:Y_)(N:Nat):Prop:=∃F',(∀x,F' x->F x\/W.heap.size<=x)/\IM k w0 F' W' a σ most d N/\AK F W W'
def XW{e:Bool}{b N i:Nat}{l:c_}(h:MT e BO.toAvT F Il W b l N)(hi:i<=(CE l).length)(o:(CE l).length<=1099511627776) : AF prog 185 [g_ b,zI (i:Int)] (λv' w'=>v'=.tuple #[zI (Bj ((CE l).take i):Int),zI 0]/\∃bt F',Eu BO.toAvT F' Il w' b bt l N/\(∀x,F' x->F x\/W.heap.size<=x)/\AK F W w') W:=by
 rcases h with⟨bt,h⟩|⟨_,B,rfl,j,O⟩;apply AA (Ni h hi o);rintro _ w ⟨rfl,g⟩;exact⟨rfl,bt,F,h.U_ g,J_,g.mono E'⟩;obtain rfl:i=0:=by simpa using hi
 apply AA (WC B);rintro _ w ⟨rfl,bt,F',k1,k2,I⟩;exact⟨rfl,bt,F',k1.up (Hw _),λx J=>(k2 x J).imp (λe=>(j x).2 e) id,I.mono λx _ e=>(j x).2 e⟩
def XM{e:Bool}{F C S D:f_}{b N k:Nat}{L R:List W_}(h:MT e Bb.toAvT F C W b L N)(U:N<=100000000000)(hk:k<=L.length)(hl:L.length+R.length<=536870912)(J:BC S 1 (Dr D) W v R)(V:∀x,S x\/D x->x≠b)(O:∀x∈R,x.length*48<=140737488355328) : AF prog 194 [g_ b,zI (k:Int),v] (λv' w'=>∃bt F' C',(∀x,F' x\/C' x->(F x\/C x)\/W.heap.size<=x)/\Eu Bb.toAvT F' C' w' b bt (L.take k++R++L.drop k) (N+R.length+4)/\AK F W w') W:=by
 rcases h with ⟨bt,h⟩ | ⟨_,X,rfl,Q,Y⟩;apply AA (Zj h U hk hl J O);rintro _ w ⟨rfl,F',C',_,_,j,o,B,I⟩;exact ⟨bt,F',C',λx i=>by
  rcases i with i | i;exact (j x i).imp .inl id;exact (o x i).imp .inr id,B,I⟩
 obtain rfl:k=0:=by simpa using hk
 apply AA (Vj X (by simpa using hl) J V O);rintro _ w ⟨rfl,bt,F',C',j,o,B,I⟩;refine⟨bt,F',C',λx i=>?_,?_,I.mono λx _ e=>(Q x).2 e⟩;rcases i with i|i;exact(j x i).imp (λe=>.inl ((Q x).2 e)) id;exact .inr (o x i);have e:([]:List W_).take 0++R++([]:List W_).drop 0=R:=D_;rw[e];exact B.up E
section
variable {k:TxK}{w0:e_}{F:f_}{W:e_}{a:TxA}{σ:SKs}{most:Int}{rs:X_}{l2:Z'}{L:List W_}{t:Tab W_}{N:Nat}{d:Y_}
def jH{e:Bool}{Fr:f_}{i N:Nat}{l:c_}{b r s p t:Nat}(j:Bx W b (cW sv most r s p t))(h:MT e BO.toAvT Fr Il W r l N)(hi:i<=(CE l).length)(o:(CE l).length<=1099511627776) : AF prog 116 [g_ b,zI (i:Int)] (λv' w'=>v'=zI (Bj ((CE l).take i):Int)/\∃bt F',Eu BO.toAvT F' Il w' r bt l N/\(∀x,F' x->Fr x\/W.heap.size<=x)/\AK Fr W w') W:=by
 apply G_ func116;apply AJ;rw[AB,AH];apply AD (j.cells 2 _ rfl);apply AA (XW h hi o);rintro _ B ⟨rfl,h1⟩;exact Af (vs:=[_,_]) (by rfl) (Af (vs:=[_,_]) (by rfl) ⟨rfl,h1⟩)
def Ut{at':Nat}{set:W_}(h:IM k w0 F W a σ most d N)(hT:DV w0)(dk:at'<=d.length)(hr:Jl S W v rs)(hs:CI S W sv set)(aa:∀x,S x->¬F x) (hm:∀r∈rs,Dc r)(a6:Bl σ.ks (Ce σ.ks false set)=0)(hI:∀x∈set,PT x)(eC:set.length<=64)(hz:d.length+rs.length<=10000000)(hN:N+4*rs.length+20<=1000000000) : AF prog 126 [g_ a.b,zI (at':Int),v,sv] (λv' w'=>v'=.tuple #[]/\PC .f w0 F W w' a σ most (d.take at'++rs.map (GO σ.ks set)++d.drop at') (N+4*rs.length+20)) W:=by
 obtain⟨z,l2,t,f,b6,hM,hp,hu,hh,dr,eI⟩:=h;have dT:z.length=d.length:=by rw[<-b6,FA]
 have b7:(BA d).length=d.length:=FA _;refine O_ func126 ?_ (.z (.dm [9,10] [0,1,3,7,0,16,48,112,0,496,1023,2047,4095,4095,8191,32767]) (.y (.y (.y (.z (.y (.node [11,12,37] [(11,14),(37,79)] (.y (.y (.cut [11,12] [(11,14),(39,78)] .nil .nil))) .nil)) (.x (.dm [6,8] [0,1,3,7,0,0,48,0,255])))))));have gd:AI W W.drew:=AK.drew _ _;have Y:=hM.U_ gd;apply Ag (λq y=>q=10/\F y);apply AJ;rw[AB,AH];refine AU ⟨Y.box.1.cells 5 _ rfl,λj hj e=>by obtain⟨rfl,_⟩:=e;exact absurd hj B_⟩ ?_;apply AJ;rw[AB,AH];refine AU ⟨Y.box.1.cells 0 _ rfl,λj hj e=>by obtain⟨rfl,_⟩:=e;exact absurd hj B_⟩ ?_;apply AA (Mw (b:=false) Y.Iy.1 (hs.U_ gd B_ C0) E);rintro eL W1 ⟨e4,g1⟩;refine⟨g1.mono E',?_⟩;have ak:=gd.trans g1;have b8:=Y.U_ g1;have zd:=gd.size;have z1:=g1.size;obtain⟨Ft,al,b9,put⟩:=b8.bW;have ba:=hM.hl;have e5:t.Small 1099511627:=(hh.OT al.Rq Iq.ne (H:=1000000000) (λx=>by have:=Spn.V5 x none (z.map Prod.snd);rw[FA] at this;omega) E).le E;refine AA (YS al e5 e4 (hT.U_ b8.g) (λx o=>hI x ((wO.1 o).1)) (λx o=>?_) (λx o e=>?_)) ?_;have:=ba x (b9 x o);have:=hT.size;exact⟨E,E⟩;have:=ba x (b9 x e);omega;rintro _ W2 (⟨h0,_⟩|⟨_,id,t2,rfl,a7,hA⟩);exact absurd a6 h0;obtain⟨F2,f2,Q,M2⟩:=put hA;clear put;refine⟨M2.mono λx _ o=>⟨rfl,o⟩,?_⟩;refine Bv ?_;obtain⟨f',e6,bb,e7⟩:=hh.WH al.Rq a7 λZ=>⟨Z,λx o=>hI x ((wO.1 o).1),a6⟩;have ew:=a7.pl;apply AJ;rw[AB,AH];apply AD (Q.box.1.cells 0 _ rfl);have z2:=M2.size;have e8:CI (λx=>S x/\x<W.heap.size) W2 sv set:=((hs.JR B_).U_ ak B_ C0).U' M2 (λx _ o e=>aa x o.1 e) B_ C0;apply AA (Mw (b:=true) Q.Iy.1 e8 E);rintro eN W3 ⟨e9,g3⟩;have z3:=g3.size;have an:Jl (λx=>S x/\x<W.heap.size) W3 v rs:=(((hr.JR B_).U_ ak B_ C0).U' M2 (λx _ o e=>aa x o.1 e) B_ C0).U_ g3 B_ C0;obtain⟨ra,rc,ea,_⟩:=an.AO;have bk:E3 v=E3 (.slice ra rs.length rc):=by rw[ea]
 rw[bk,AP];refine fz an e9 E λrow cv W5 oR oC Z g5=>?_;simp only[Iu];have z5:=g5.size;have O:=AG.Az oR;have bl:=AG.Az oC;have ec:Jl (λx=>S x/\x<W.heap.size) W5 v rs:=an.U_ g5 B_ C0;have J:AI W5 W5.drew:=AK.drew _ _;have eR:=J.size;have U:=((Q.U_ g3).U_ g5).U_ J;obtain⟨l1,Fr,av,hO,ed,put⟩:=U.Jk;have bp:at'<=(CE l1).length:=by rw[av,BA,FA];exact dk
 have eV:(CE l1).length=d.length:=by rw[av,BA,FA]
 apply Ag (λq y=>(q=6/\Fr y)\/(q=8/\(F2 y\/W5.heap.size<=y)));apply AJ;rw [AB,AH];refine AU ⟨U.box.1.cells 4 _ rfl,λj hj e=>by
  rcases e with ⟨rfl,e⟩ | ⟨rfl,_⟩;exact (ed _ e).2 rfl;exact absurd hj B_⟩ ?_
 apply AA (jH U.box.1 hO bp E);rintro _ W6 ⟨rfl,ee,eX,ef,bs,m6⟩;refine⟨m6.mono λx _ o=>.inl ⟨rfl,o⟩,?_⟩;obtain⟨F6,f6,c4,M6⟩:=put (e:=false) m6 bs (.inl ⟨ee,ef⟩) (HK _);clear put;rw[av] at c4 ⊢;have z6:=M6.size;obtain⟨Fp,Cp,hO,eh,put⟩:=c4.PD;have B:∀x,F2 x->x<W2.heap.size:=λx o=>(Q.hl x o).2.1;have ei:AG W3.heap.size 47 1 (Dr λx=>W2.heap.size<=x/\x<W3.heap.size) W6 cv (List.replicate (Bj rs) (Ce σ.ks true set)):=
  AG.U' (AG.U' (R':=Dr λx=>W2.heap.size<=x/\x<W3.heap.size) oC J C0 λr y _ hy=>Bb.Bw hy J F_) M6 (λx o e=>by have:=bl x o;have:=B x e;omega) λr y _ hy=>Bb.Bw hy M6 λx _ o e=>by have:=B x e;omega
 have fo:a.p<W2.heap.size:=by
  obtain⟨fs,fv,c6,ey,_⟩:=Q.PD;exact c6.lt _ (.inl c6.fb)
 refine AA (XM (k:=Bj ((BA d).take at')) hO E (by rw [Eh];exact xg _ (yK _ _)) (by rw [Eh,wu];have h1:=Fw (BA d);have h2:=Fw rs;rw [b7] at h1;omega) (AG.sl ei) (λx o e=>by
   subst e;rcases o with o|o;have:=o.1;omega;omega) (λx o=>by
   rw [List.eq_of_mem_replicate o];have:(Ce σ.ks true set).length<=set.length:=xT _ _;omega)) ?_
 rintro _ W7 ⟨ej,fx,ga,ek,c7,m7⟩;rw[wu] at c7;have a1:∀x,F6 x->F2 x\/W5.heap.size<=x:=λx o=>(f6 x o).imp E_ E;refine⟨m7.mono λx _ o=>.inr ⟨rfl,a1 x (eh x (.inl o))⟩,?_⟩;have gb:=Fw rs;obtain⟨F7,f7,c8,M7⟩:=put (e:=false) m7 ek (.inl ⟨ej,c7.up (N':=N+rs.length+4) E⟩) E;clear put;have z7:=M7.size;have V:∀x,F7 x->F2 x\/W5.heap.size<=x:=λx o=>by
  rcases f7 x o with e|e;exact a1 x e;exact .inr E
 have X:∀x,S x/\x<W.heap.size->¬F2 x:=λx o e=>by
  rcases f2 x e with e|e;exact aa x o.1 e;omega
 have c9:∀x,S x/\x<W.heap.size->¬F6 x:=λx o e=>by
  rcases a1 x e with e|e;exact X x o e;omega
 have ez:∀x,S x/\x<W.heap.size->¬F7 x:=λx o e=>by
  rcases V x e with e|e;exact X x o e;omega
 apply AJ;rw[AB,AH];apply AD (c8.box.1.cells 2 _ rfl);obtain⟨l7,gf,ca,hO,eA,put⟩:=c8.Jk;obtain⟨en,hO⟩:=hO.t;have eB:(CE l7).length=d.length:=by rw[ca,BA,FA]
 have eo:Jl (λx=>S x/\x<W.heap.size) W7 v rs:=((ec.U_ J B_ C0).U' M6 (λx _ o e=>X x o e) B_ C0).U' M7 (λx _ o e=>c9 x o e) B_ C0;apply AA (bN hO E E E eo hm);rintro _ W8 ⟨rfl,gg,l8,_,k2,k3,k4,k5⟩;have gl:=RO rs;obtain⟨F8,f8,cc,M8⟩:=put (e:=false) k5 k2 (.inl ⟨en,k3.up (N':=N+2*rs.length+8) E⟩) E;clear put;rw[k4,ca] at cc;have z8:=M8.size;obtain⟨r1,r2,_,_,r5⟩:=RA id rs;have r6:=tZ List.length r1;rw[FA] at r6;have ep:=tZ List.length hu;rw[FA,dT] at ep;have er:AG W3.heap.size 178 2 HQ W8 row (Cf id rs).1:=
  AG.U' (R':=HQ) (AG.U' (R':=HQ) (AG.U' (R':=HQ) (AG.U' (R':=HQ) oR J C0 F_) M6 (λx o e=>by have:=O x o;have:=B x e;omega) F_) M7 (λx o e=>by
   have:=O x o;rcases a1 x e with e | e;have:=B x e;omega;omega) F_) M8 (λx o e=>by
   have:=O x o;rcases V x e with e | e;have:=B x e;omega;omega) F_
 have ch:∀s∈(Cf id rs).1,s.id=id\/s.id=0:=λs hs=>by
  have:=Spn.SB hs (r2 s hs);rw[r1] at this;obtain⟨r,_,e⟩:=i7.1 this;rw[<-e];unfold IA;split;exact .inr rfl;exact .inl rfl
 refine AA (ON (f:=f') (ex:=λx=>if x=id then 1 else 0) (i:=at') (j:=at') cc hp (e6.congr λx=>by rw[hu]) (HK _) E (AG.sl er) (λx o e=>?_) (λs hs=>⟨r2 s hs,?_⟩) E (λx=>by split<;>omega) E E) ?_;have:=O x o.2;rcases f8 x e with e|e;rcases V x e with e|e;have:=B x e;omega;omega;omega;rcases ch s hs with e|e;exact .inl (by rw[Cx e];omega);exact .inr e;rintro _ W9 ⟨rfl,t9,⟨F9,f9,cu,M9⟩,ax,gm⟩;apply AJ;rw[AB,AH];apply AD (cu.box.1.cells 5 _ rfl);obtain⟨gp,ay,_,put⟩:=cu.bW;have b0:((Spn.kd.Cw l2 at' at' (Cf id rs).1).flatMap Spn.u)=(z.map Prod.snd).take at'++rs.map (IA id)++(z.map Prod.snd).drop at':=by rw[Spn.FQ.Cw l2 _ (HK at'),hu,r1]
 have et:=tZ List.length b0;simp only[Ad,K8,FB,FA] at et;have a8:0<Spn.rn id none ((Spn.kd.Cw l2 at' at' (Cf id rs).1).flatMap Spn.u)+(if id=id then 1 else 0):=by rw[Cx rfl];omega
 obtain⟨q1,q2⟩:=ax.idle (.inl a8);refine AA (Nq ay ((ax.OT ay.Rq Iq.ne (H:=1000000000) (λx=>by have:=Spn.V5 x none ((Spn.kd.Cw l2 at' at' (Cf id rs).1).flatMap Spn.u);split<;>omega) E).le E) q1 E) ?_;rintro _ gq cx;have eu:=EY.step ak (EY.next f2 M2 (EY.step (g3.trans (g5.trans J)) (EY.next f6 M6 (EY.next f7 M7 (EY.next f8 M8 (EY.next f9 M9 (put cx)))))));have dj:=ax.free ay.Rq Iq.ne a8;obtain⟨F',w1,w2,w3⟩:=eu.up (N':=N+4*rs.length+20) E;refine⟨trivial,F',w1,⟨z.take at'++rs.map (λr=>(GO σ.ks set r,IA id r))++z.drop at',Spn.kd.Cw l2 at' at' (Cf id rs).1,_,f',?_,?_,Spn.K4 at' at' _ hp,?_,dj.congr λx=>?_,?_,?_⟩,w3⟩;rw[S7,S7,wR,wk,b6,xn];rfl;have e1:BA (d.take at'++rs.map (GO σ.ks set)++d.drop at')=(BA d).take at'++rs++(BA d).drop at':=by
  rw[BA,S7,S7,wR,wk];show _++BA _++_=_;rw[sH]
 have e2:CS (d.take at'++rs.map (GO σ.ks set)++d.drop at')=(CS d).take (Bj ((BA d).take at'))++List.replicate (Bj rs) (Ce σ.ks true set)++(CS d).drop (Bj ((BA d).take at')):=by
  rw[E0,E0,nk,(El d at').1,(El d at').2]
 rw[e1,e2];exact w2;rw[b0,S7,S7,wR,wk,xn];rfl;have e3:(z.take at'++rs.map (λr=>(GO σ.ks set r,IA id r))++z.drop at').map Prod.snd=(Spn.kd.Cw l2 at' at' (Cf id rs).1).flatMap Spn.u:=by rw[b0,S7,S7,wR,wk,xn];rfl
 rw[e3];split<;>omega;intro p I;have JR:∀p∈z,(p.1.r=10->p.2=0)/\(p.1.r≠10->f' p.2=p.1.set):=λp I=>by
  obtain⟨o1,o2⟩:=dr p I;refine⟨o1,λZ=>?_⟩;rw[e7,o2 Z];exact Spn.QF (i7.2 ⟨p,I,rfl⟩) D_
 rcases DN.1 I with I|I;rcases DN.1 I with I|I;exact JR p (aO I);obtain⟨r,_,rfl⟩:=i7.1 I;refine⟨λe=>?_,λe=>?_⟩;have e':r=10:=e;simp[IA,e'];have e':r≠10:=e;simp[IA,e',GO,bb];exact JR p (aR I);rw[Tab.QP];omega
end
def AG.N5{B e k:Nat}{R:e_->V_->α->Prop}{x:α}(o:B<=w.heap.size)(j:cs.length=k)(h1:∀u∈cs,u.oneCell'=true)(I:R (w.alloc (.cells cs.toArray e)) cs x) : AG B e k R (w.alloc (.cells cs.toArray e)) (.slice (h_ w.heap.size) 1 1) [x]:=by
 refine⟨[cs],⟨by simp[j],.inr ⟨w.heap.size,1,cs.toArray,rfl,o,zu w _,D_,by simp[maxLen],by simp[j],by simp[<-j]⟩⟩,rfl,λr hr=>?_,λi r y hr J=>?_⟩;simp at hr;subst hr;exact⟨j,h1⟩;have hi:i=0:=by have:=(Bq.1 hr).1;simp at this;exact this
 subst hi;cases hr;cases J;exact I
section
section
variable {k:TxK}{w0:e_}{F:f_}{W:e_}{a:TxA}{σ:SKs}{most:Int}{N:Nat}{d:Y_}
def jL{i j:Nat}(h:IM .f w0 F W a σ most d N)(B:i<=j)(hj:j<=d.length)(hz:d.length<=10000000)(hN:N+20<=1000000000) : AF prog 139 [g_ a.b,zI (i:Int),zI (j:Int)] (λv' w'=>v'=.tuple #[]/\PC .f w0 F W w' a σ most (d.take i++d.drop j) (N+20)) W:=by
 obtain⟨z,l2,t,f,U,hM,hp,hu,hh,V,ba⟩:=h;have aa:z.length=d.length:=by rw[<-U,FA]
 have J:(BA d).length=d.length:=FA _;refine I' func139 ?_ (.x (.dm [6,9,10] [0,1,3,7,0,0,48,0,0,496,1023]));have gd:AI W W.drew:=AK.drew _ _;have I:=hM.U_ gd;obtain⟨l1,Fr,bt,X,O,bb,_⟩:=I.Ym;have ak:(CE l1).length=d.length:=by rw[X,J]
 apply Ag (λq y=>q=10/\F y);apply AJ;rw [AB,AH];refine AU ⟨I.box.1.cells 4 _ rfl,λj hj e=>by obtain ⟨rfl,_⟩:=e;exact absurd hj B_⟩ ?_;apply AA (Je I.box.1 O (i:=i) E E);rintro _ W1 ⟨rfl,g1⟩;refine ⟨g1.mono E',?_⟩;have Y:=I.U_ g1;apply AA (Je Y.box.1 (O.U_ g1) (i:=j) E E);rintro _ W2 ⟨rfl,g2⟩;refine ⟨g2.mono E',?_⟩;have al:=Y.U_ g2;rw [X] at ak ⊢;obtain ⟨Fp,Cp,bp,O,an,put⟩:=al.Yr;have av:Bj ((BA d).take i)<=Bj ((BA d).take j):=xg _ (by
  rw [<-u6 B,<-xH];exact yK _ _)
 have ax:Bj ((BA d).take j)<=Bj (BA d):=xg _ (yK _ _);have bk:=Fw (BA d);refine AA (bU O E av (by rw [Eh];exact ax) (by rw [Eh];omega)) ?_;rintro _ W3 ⟨rfl,bl,_,k2,Z,m3⟩;obtain ⟨F3,f3,a1,M3⟩:=put m3 (λx Q=>by
  rcases Q with Q | Q;exact (k2 x Q).imp .inl E_;exact .inl (.inr Q)) Z E
 clear put O Z;refine⟨m3.mono λx _ Q=>⟨rfl,an x (.inl Q)⟩,?_⟩;apply AJ;rw[AB,AH];apply AD (a1.box.1.cells 2 _ rfl);obtain⟨l3,bs,br,a6,O,b8,put⟩:=a1.Ym;have b9:(CE l3).length=d.length:=by rw[a6,J]
 apply AA (Zl O E B E E);rintro _ W4 ⟨rfl,c4,l4,_,k2,Z,k4,m4⟩;obtain⟨F4,f4,a7,M4⟩:=put m4 k2 Z E;clear put O Z;rw[k4,a6] at a7;have ay:=tZ List.length hu;rw[FA,aa] at ay;refine AA (ON (f:=f) (ex:=λ_=>0) (row:=[]) (S:=λ_=>False) a7 hp (hh.congr λx=>by rw[hu];rfl) B E BC.nil K_ (λs hs=>nomatch hs) (by rw[yp,gC];omega) (λx=>Hw _) E E) ?_;rintro _ W5 ⟨rfl,t5,b0,b6,c6⟩;have a8:=EY.step (gd.trans (g1.trans g2)) (EY.next f3 M3 (EY.next f4 M4 b0));obtain⟨F',w1,w2,w3⟩:=a8.up (N':=N+20) D_;have b7:((Spn.kd.Cw l2 i j []).flatMap Spn.u)=(z.map Prod.snd).take i++(z.map Prod.snd).drop j:=by rw[Spn.FQ.Cw l2 _ B,hu];simp
 have e3:(z.take i++z.drop j).map Prod.snd=(Spn.kd.Cw l2 i j []).flatMap Spn.u:=by rw[b7,S7,wR,wk]
 refine⟨rfl,F',w1,⟨z.take i++z.drop j,_,_,f,?_,?_,Spn.K4 i j [] hp,e3.symm,b6.congr λx=>?_,λp o=>?_,E⟩,w3⟩;rw[S7,wR,wk,U];have e1:BA (d.take i++d.drop j)=(BA d).take i++(BA d).drop j:=by rw[BA,S7,wR,wk]
 have e2:CS (d.take i++d.drop j)=(CS d).take (Bj ((BA d).take i))++(CS d).drop (Bj ((BA d).take j)):=by rw[E0,(El d i).1,(El d j).2]
 rw[e1,e2];exact w2;rw[e3];rfl;rcases DN.1 o with o|o;exact V p (aO o);exact V p (aR o)
end
def sS:Dc 10:=.inl E
def fy:Bl ks []=0:=by
 classical
 unfold Bl;rw[Bp,Bp];rintro⟨a,ha,_⟩;cases ha;rintro(h|h|⟨a,ha,_⟩);exact h λi h1 j=>by simp at j
 simp at h;cases ha
def eH(hS:Cg σ.S W σ.sv σ.ks)(I:∀x,σ.S x->x<W.heap.size)(hT:DV w0)(g:AI w0 W) : AF prog 64 [σ.sv,zI most] (λv' w'=>AI W w'/\((1<=most/\most<536870912/\∃a F,v'=.tuple #[g_ a.b,zI 0]/\(∀x,F x->W.heap.size<=x)/\IM .f w0 F w' a σ most [⟨10,[]⟩] 24)\/((most<1\/536870912<=most)/\v'=.tuple #[.pointer none,zI 2]))) W:=by
 refine G_ func64 ?_ (.y (.cut [] [(4,5),(7,12)] .nil .nil));refine AV (λ_ W'=>W'=W/\1<=most/\most<536870912) ?_ ?_;rotate_left;rw[As];refine AE (λh1=>⟨AK.refl _ _,.inr ⟨.inl h1,rfl⟩⟩) λh1=>?_;rw[DR];exact AE (λU=>⟨AK.refl _ _,.inr ⟨.inr U,rfl⟩⟩) λU=>⟨rfl,E,E⟩;rintro _ _ ⟨rfl,a1,a6⟩ _;rename e_=>W;apply AA qq;rintro _ W1 ⟨r,rfl,hr,B1,g1⟩;apply AA pV;rintro _ W2 ⟨s,rfl,hs,B2,g2⟩;apply AA qC;rintro _ W3 ⟨p,rfl,hp,B3,g3⟩;have aa:=B1.lt (P9 _);have ak:=B2.lt (P9 _);have al:=B3.lt (P9 _);have V:=(g1.trans g2).trans g3;refine AA (me (hS.U_ V) λx j=>by have:=I x j;omega) ?_;rintro _ W4 ⟨Y,tb,an,rfl,X⟩;have a7:∃bs,σ.sv=g_ bs:=by
  obtain⟨bs,_,_,_,e,_⟩:=id hS;exact⟨bs,e⟩
 have J:Instr.fill (λi=>[(0,1),(1,1),(2,1),(3,1),(4,1),(5,1)][i]?) [Value.pointer none,zI 0,.pointer none,.pointer none,.pointer none,.pointer none].toArray [(0,σ.sv),(1,zI most),(2,g_ r),(3,g_ s),(4,g_ p),(5,g_ tb)]=some (cW σ.sv most r s p tb).toArray:=by
  obtain⟨bs,e⟩:=a7;rw[e];kernel_rfl
 refine⟨_,J,?_⟩;refine Bx.box λb o hb Q B5=>?_;have z5:=Q.size;have av:=B5.lt (P9 _);have O:=(V.trans Y).trans Q;have ax:=X.lt;have hM:IM ⟨true,true,true⟩ w0 (λx=>W.heap.size<=x/\x<o.heap.size) o ⟨b,r,s,p,tb⟩ σ most [] 0:=by
  refine⟨[],[],Tab.z _,λ_=>[],rfl,⟨λx=>if x=b then 0 else if x=r then 1 else if x=s then 2 else if x=p then 3 else if x<W.heap.size then 5 else 4,⟨λx=>x=r,λx=>x=s,λx=>x=p,λ_=>False,λx=>W3.heap.size<=x/\x<W4.heap.size⟩,[],rfl,?_⟩,trivial,rfl,Tab.Ac.new _,(λp hp=>nomatch hp),Hw _⟩;refine⟨B5,.inr ⟨rfl,B1.U_ (((g2.trans g3).trans Y).trans Q),rfl,λx=>yY,M_⟩,.inr ⟨rfl,(B2.U_ (g3.trans Y)).U_ Q,rfl,λx=>yY,M_⟩,.inr ⟨rfl,(B3.U_ Y).U_ Q,rfl,λx=>yY,M_⟩,X.U_ Q,hS.U_ O,Cx rfl,?_,?_,?_,?_,?_,?_,?_,g.trans O⟩;rintro x rfl;rw[Bp E,Cx rfl];rintro x rfl;rw[Bp E,Bp E,Cx rfl];rintro x (rfl|h);rw[Bp E,Bp E,Bp E,Cx rfl];exact h.elim;rintro x ⟨h1,U⟩;rw[Bp E,Bp E,Bp E,Bp E,Bp E];intro x j;have:=I x j;rw[Bp E,Bp E,Bp E,Bp E,Cx this];exact⟨rfl,E⟩;rintro x ((h|h|h)|(h|h)|h);have h':x=b:=h;exact⟨E,E⟩;have h':x=r:=h;exact⟨E,E⟩;have h':x=s:=h;exact⟨E,E⟩;have h':x=p:=h;exact⟨E,E⟩;exact h.elim;exact⟨by have:=h.1;omega,by have:=h.2;omega⟩;rintro x ⟨h1,U⟩;have:=g.size;exact⟨E,U,λh=>by have:=I x h;omega⟩
 apply GY (cs:=[.int .i32 10]) C_;have o6:AG o.heap.size 21 1 CM (o.alloc (.cells [Value.int .i32 10].toArray 21)) (.slice (h_ o.heap.size) 1 1) [10]:=AG.N5 (HK _) rfl (λu hu=>by simp at hu;subst hu;rfl) rfl;have B:=AG.sl o6;have Z:AI o (o.alloc (.cells [Value.int .i32 10].toArray 21)):=AK.alloc _ _ _;generalize o.alloc (.cells [Value.int .i32 10].toArray 21)=W6 at B o6 Z ⊢;obtain⟨z',l2,t,f,e1,e2,e3⟩:=hM;have a8:IM ⟨true,true,true⟩ w0 (λx=>W.heap.size<=x/\x<o.heap.size) W6 ⟨b,r,s,p,tb⟩ σ most [] 0:=⟨z',l2,t,f,e1,e2.U_ Z,e3⟩;have q1:([10]:X_).length=1:=rfl;have q2:Ce σ.ks false []=[]:=rfl;have key:=Ut (at':=0) (rs:=[10]) (set:=[]) a8 hT (HK _) B BC.nil (λx j e=>by have:=e.2;have:=j.1;omega) (λr hr=>by rw[so] at hr;rw[hr];exact sS) (by rw[q2];exact fy) (λx j=>nomatch j) (Hw _) (by rw[q1,gC];omega) (by rw[q1];omega);apply AA key;rintro _ W7 ⟨rfl,F7,f7,h7,m7⟩;have z6:=Z.size;refine⟨(O.trans Z).next m7 λx j e=>by have:=e.1;omega,.inl ⟨a1,a6,⟨b,r,s,p,tb⟩,F7,rfl,λx j=>?_,?_⟩⟩;rcases f7 x j with e|e;exact e.1;omega;exact h7
def ue{α β j:Type}(g:α->j):∀(A:List α) (B:List β),A.length=B.length->(A.zipWith (λa b=>(g a,b)) B).map Prod.fst=A.map g/\(A.zipWith (λa b=>(g a,b)) B).map Prod.snd=B/\∀q∈A.zipWith (λa b=>(g a,b)) B,∃(k:Nat) (a:α) (b:β),A[k]?=some a/\B[k]?=some b/\q=(g a,b):=by
 intro A;induction A with
 |nil=>
  intro B h;have:B=[]:=Kx h.symm;subst this;exact⟨rfl,rfl,λq i=>nomatch i⟩
 |cons a A o=>
  intro B h;cases B with
  |nil=>simp at h
  |cons b B=>
   obtain⟨h1,I,J⟩:=o B (by simpa using h);refine⟨by simp[aAA,S4,h1],by simp[aAA,S4,I],λq i=>?_⟩;rw[aAA] at i;rcases I3.1 i with rfl|i;exact⟨0,a,b,rfl,rfl,rfl⟩;obtain⟨k,O,Q,U,V,X⟩:=J q i;exact⟨k+1,O,Q,U,V,X⟩
def aS{P:Int->Int->Prop}:∀{row done:Z'},done.length=row.length->(∀(q:Nat) (s s':Spn),row[q]?=some s->done[q]?=some s'->s'.n=s.n/\P s.id s'.id)->(done.flatMap Spn.u).length=(row.flatMap Spn.u).length/\∀(k:Nat) (x y:Int),(row.flatMap Spn.u)[k]?=some x->(done.flatMap Spn.u)[k]?=some y->P x y:=by
 intro row;induction row with
 |nil=>
  intro done h _;have:done=[]:=Kx h;subst this;exact⟨rfl,λk x y h=>by simp at h⟩
 |cons s row B=>
  intro done h hr;cases done with
  |nil=>simp at h
  |cons s' done=>
   obtain⟨I,J⟩:=hr 0 s s' rfl rfl;obtain⟨h1,O⟩:=B (done:=done) (by simpa using h) λq a b ha hb=>hr (q+1) a b ha hb;have l1:(Spn.u s).length=s.n:=by rw[Spn.u,wu]
   have o:(Spn.u s').length=s.n:=by rw[Spn.u,wu,I]
   refine⟨by rw[vr,vr,Ad,Ad,h1,l1,o],λk x y i j=>?_⟩;rw[vr] at i j;by_cases hk:k<s.n;rw[PF E,Spn.u,yL,Cx hk] at i;rw[PF E,Spn.u,yL,Cx E] at j;cases i;cases j;exact J;rw[qz E,l1] at i;rw[qz E,o] at j;exact O _ x y i j
section
variable {k:TxK}{w0:e_}{F:f_}{W:e_}{a:TxA}{σ:SKs}{most:Int}{N:Nat}{d:Y_}
def X7{i j:Nat}{p:Z_}(h:IM .f w0 F W a σ most d N)(hT:DV w0)(a7:i<=j)(hj:j<=d.length)(hp:Eg S W v p)(ej:∀x,S x->¬F x)(gf:p.length<=64) (Q:∀c∈(d.take j).drop i,c.r≠10/\Bl σ.ks (CQ c.set p)=0/\∀x∈CQ c.set p,PT x)(hz:d.length<=10000000)(hN:N+(j-i)+20<=1000000000) : AF prog 210 [g_ a.b,zI (i:Int),zI (j:Int),v] (λv' w'=>v'=.tuple #[]/\PC .f w0 F W w' a σ most (d.take i++((d.take j).drop i).map (λc=>(⟨c.r,CQ c.set p⟩:Cel))++d.drop j) (N+(j-i)+20)) W:=by
 obtain⟨z,l2,t,f,a8,hM,aa,hu,hh,c4,gg⟩:=h;have ak:z.length=d.length:=by rw[<-a8,FA]
 have dr:=tZ List.length hu;rw[FA,ak] at dr;refine O_ func210 ?_ (.y (.z (.y (.node [27] [(10,12),(27,58)] (.y (.y (.x (.y (.z (.dm [9] [0,1,3,7,0,0,48,112,240,511,1023,2047,2047,4095,16383]) (.dc [8,9,15] (k_ [0,0,0,4,12,28,0,0,192,508,1020,2044,2044,4095,12287,28671]) [[8,9]])))))) .nil)) (.y (.y (.node [66] [(14,14),(66,77)] (.y (.y (.x (.y (.dm [6] [0,1,3,7,0,16,63]))))) .nil)))));apply AJ;rw[AB,AH];apply AD (hM.box.1.cells 3 _ rfl);obtain⟨Fs,bt,hO,gl,_⟩:=hM.eF;have fo:HU l2=d.length:=by rw[GH,dr]
 have gm:=Spn.IX aa;apply AA (Pc (i:=i) (j:=j) hO E a7 E E E);rintro _ W1 ⟨rv,rfl,oR,g1⟩;refine Bv ?_;have c6:=Spn.JU aa i j;have al:(Spn.kd.Au l2 i j).flatMap Spn.u=((z.map Prod.snd).take j).drop i:=by rw[Spn.FQ.Au,hu]
 have ek:=Spn.IX c6;rw[al,FB,K8,FA,ak] at ek;generalize Spn.kd.Au l2 i j=row at *;clear hO;have dT:∀s∈row,0<Spn.rn s.id none (z.map Prod.snd)/\Bl σ.ks (CQ (f s.id) p)=0/\∀x∈CQ (f s.id) p,PT x:=λs U=>by
  have h1:=Spn.SB U (Spn.NI c6 s U);rw[al] at h1;have h2:s.id∈((z.take j).drop i).map Prod.snd:=by rw[wk,wR];exact h1
  obtain⟨q,B,e⟩:=i7.1 h2;have en:q.1∈(d.take j).drop i:=by rw[<-a8,<-wR,<-wk];exact i7.2 ⟨q,B,rfl⟩
  obtain⟨c1,c2,c3⟩:=Q _ en;have:=(c4 q (aO (aR B))).2 c1;rw[<-e,this];exact⟨Spn.QF (aO (aR (e▸h1))) D_,c2,c3⟩
 have z1:=g1.size;have I:=AG.Az oR;have eo:Eg (λx=>S x/\x<W.heap.size) W1 v p:=BC.U_ (hp.JR B_) g1 B_ C0;obtain⟨ra,rc,ep,_⟩:=AG.AO oR;have e4:E3 rv=E3 (.slice ra row.length rc):=by rw[ep]
 rw [e4,AP];refine AX (λvs W'=>∃ (m:Nat) (done:Z') (t':Tab W_) (f':Int->W_) (F':f_),m<=row.length/\vs=[zI m]/\done.length=m/\
   (∀x,F' x->F x\/W1.heap.size<=x)/\KZ .f w0 F' W' a σ most (BA d) l2 (CS d) t' N/\AK (λx=>F x\/rv.ownBlock=some x) W1 W'/\
   AG W.heap.size 178 2 HQ W' rv (done++row.drop m)/\(∀(q:Nat) (s s':Spn),row[q]?=some s->done[q]?=some s'->s'.n=s.n/\f' s'.id=CQ (f s.id) p)/\
   t'.Ac [] f' (λx=>Spn.rn x none (z.map Prod.snd)+Spn.Er done x)/\(∀ x,0 < Spn.rn x none (z.map Prod.snd)->f' x=f x)/\t'.AQ.length<=N+m) (λvs _=>row.length - Di vs 0)
  ⟨0,[],t,f,F,Hw _,rfl,rfl,J_,hM.U_ g1,AK.refl _ _,by simpa using oR,λq s s' _ h=>by simp at h,hh.congr λx=>by simp[Spn.Er],I_,E⟩ ?_
 rintro vs W2 ⟨m,done,t2,f2,F2,hm,rfl,V,an,c7,M2,o2,Y,Z,c8,fs⟩ _;simp only[Bh,JS];rw[As];have z2:=M2.size;have b0:=AG.Az o2;have J:∀x,rv.ownBlock=some x->¬F2 x:=λx o e=>by
  have h1:=I x o;rcases an x e with e|e;have:=hM.hl x e;omega;omega
 have er:Eg (λx=>S x/\x < W.heap.size) W2 v p:=BC.U' eo M2 (λx _ o e=>by
  rcases e with e | e;exact ej x o.1 e;have:=I x e;omega) B_ C0
 have av:(done++row.drop m).length=row.length:=by rw[Ad,FB,V];omega
 obtain⟨qa,qc,e5,_⟩:=AG.AO o2;rw[av] at e5;refine AE (λfv=>?_) λgp=>?_;have X:m<row.length:=E;have b6:(done++row.drop m)[m]'(E)=row[m]:=by
  rw[xL E];simp[V]
 obtain⟨i1,i2,i3⟩:=dT row[m] (Q0 X);have gd:AI W2 W2.drew:=AK.drew _ _;have a1:=c7.U_ gd;apply Ag (λ_ _=>False);apply AJ;rw[AB,AH];apply AU ⟨a1.box.1.cells 5 _ rfl,C0⟩;have et:=AG.sl o2;subst e5;obtain⟨p0,r0,e0,a6,gq,c9,e6⟩:=et.get (i:=m) E;cases e0;have ca:r0=Spn.cells row[m]:=by rw[<-b6];exact e6
 subst ca;apply AW X;rw[AB,Addr.add_add];refine AU ⟨by have:=gd.cell (c9 1 _ rfl) E_;exact this,C0⟩ ?_;obtain⟨Ft,e7,gr,_⟩:=a1.bW;have e8:0<Spn.rn row[m].id none (z.map Prod.snd)+Spn.Er done row[m].id:=E;obtain⟨d1,d2⟩:=Z.idle (.inl e8);obtain⟨cn,b7⟩:=Z.Lr e8;apply AA (Yo e7 E E E);rintro v3 W3 ⟨g3,e9⟩;rw[b7] at e9;obtain⟨gu,rfl,o3⟩:=e9;have b8:=c8 _ i1;simp only[b8] at o3;refine⟨g3.mono E',?_⟩;refine Bv ?_;have fx:(f row[m].id).length<=64:=by
  obtain⟨C,pl,fr,bm,hR⟩:=e7;have:=UB hR.DS b7;simpa[b8] using this
 have cc:AI W3 W3.drew:=AK.drew _ _;have b9:=(a1.U_ g3).U_ cc;have ax:=(gd.trans g3).trans cc;have gv:=ax.size;apply Ag (λq y=>(q=9/\F2 y)\/(q=15/\y=p0.block));apply AJ;rw [AB,AH];refine AU ⟨b9.box.1.cells 5 _ rfl,λj hj e=>by
  rcases e with ⟨rfl,_⟩ | ⟨rfl,_⟩;exact absurd hj B_;exact absurd hj B_⟩ ?_
 apply AA (UD ((AG.sl o3).U_ cc B_ C0) (BC.U_ er ax B_ C0) E);rintro nv W4 ⟨o4,g4⟩;refine ⟨g4.mono E',?_⟩;have ea:=b9.U_ g4;have z4:=g4.size;obtain ⟨gw,ch,ba,put⟩:=ea.bW;have bb:=c7.hl;have eu:t2.Small 1099511627:=(Z.OT ch.Rq Iq.ne (H:=1000000000) (λx=>by
  have h1:=Spn.V5 x none (z.map Prod.snd);rw [FA] at h1;have h2:=Spn.Q6 done x;omega) E).le E
 refine AA (YS ch eu (AG.sl o4) (hT.U_ ea.g) i3 (λx o=>?_) (λx o e=>?_)) ?_;have:=bb x (ba x o);have:=hT.size;exact⟨E,E⟩;have:=bb x (ba x e);have:=o.1;omega;rintro _ W5 (⟨h0,_⟩|⟨_,id,t5,rfl,bk,hA⟩);exact absurd i2 h0;obtain⟨F5,f5,ay,M5⟩:=put hA;clear put;refine⟨M5.mono λx _ o=>.inl ⟨rfl,o⟩,?_⟩;refine Bv ?_;obtain⟨f',cu,ec,bl⟩:=Z.WH ch.Rq bk λcx=>⟨cx,i3,i2⟩;have ga:=bk.pl;have o5:=AG.U' (R':=HQ) (AG.U' (R':=HQ) o2 (ax.trans g4) C0 F_) M5 (λx o e=>J x o e) F_;apply AW X;rw[AB,Addr.add_add];rw[<-av] at o5;refine TD (k:=2) (i:=m) (j:=1) (x':=(⟨row[m].n,id⟩:Spn)) o5 E B_ rfl rfl (λ_ _ _ _ h=>h) (λ_ _ r hr=>?_) λW6 o6 m6=>?_;have h':=hr;rw[h',b6];rfl;refine⟨m6.mono λx _ e=>.inr ⟨rfl,e⟩,?_⟩;rw[AR,AM E];have z5:=M5.size;have gb:=ay.hl;have ed:¬F5 p0.block:=λe=>by
  have:=b0 _ a6.2;rcases f5 _ e with e|e;exact(J _ a6.2) e;omega
 have dj:(done++row.drop m).set m (⟨row[m].n,id⟩:Spn)=(done++[⟨row[m].n,id⟩])++row.drop (m+1):=by
  rw[List.set_append,Bp E,V,zz,wT X,yw,Mp];rfl
 rw[dj,av] at o6;have ew:¬σ.S p0.block:=λe=>by
  have h1:=(hM.Iy.2 _ e);have:=I _ a6.2;omega
 have ey:w0.heap.size<=p0.block:=by have:=hM.g.size;have:=I _ a6.2;omega
 refine⟨⟨m+1,done++[⟨row[m].n,id⟩],t5,f',F5,X,rfl,by simp[V],λx o=>?_,ay.U' m6 λx e=>by rw[e];exact⟨ed,ew,ey⟩,?_,o6,λq s s' U O=>?_,cu.congr λx=>?_,λx o=>?_,E⟩,by rw[CL,CL];omega⟩;rcases f5 x o with e|e;exact an x e;exact .inr E;refine((M2.next (ax.trans g4) E').next M5 λx o e=>?_).next m6 λx o e=>?_
 rcases an x e with e|e;exact .inl e;omega;rw[e];exact .inr a6.2;by_cases B:q<done.length;rw[PF B] at O;obtain⟨e1,e2⟩:=Y q s s' U O;refine⟨e1,?_⟩;rw[bl,e2];have:=Spn.Tt (wD O);omega;rw[qz E] at O;have ez:q-done.length=0:=by
  have:=(Bq.1 O).1;simpa using this
 rw[ez] at O;cases O;have eA:q=m:=E;subst eA;rw[By X] at U;cases U;exact⟨rfl,ec⟩;rw[Spn.Er,Spn.Er,zh,zR,List.countP_nil];by_cases e:x=id;rw[Cx e,Cx (by simp[e])];omega;rw[Bp e,Bp (by simp[yH e])];omega;rw[bl x E,c8 x o];obtain rfl:m=row.length:=E;rw[xq,Ty] at o2 av;obtain⟨r1,r2⟩:=aS (P:=λx y=>f2 y=CQ (f x) p) V Y;have ee:(row.flatMap Spn.u).length=j-i:=by rw[al,FB,K8,FA,ak];omega
 have dk:∀s∈done,0<s.n:=λs U=>by
  obtain⟨q,B,e⟩:=yg.1 U;obtain⟨e1,_⟩:=Y q row[q] s (By E) (by rw[By B,e]);rw[e1];exact Spn.NI c6 _ (Q0 _)
 refine AA (ON (f:=f2) (ex:=λx=>Spn.Er done x) (row:=done) (i:=i) (j:=j) c7 aa (Z.congr λx=>by rw[hu]) a7 E (AG.sl o2) (λx o e=>J x o.2 e) (λs U=>⟨dk s U,.inl (Spn.Tt U)⟩) E (λx=>by have:=Spn.Q6 done x;omega) E E) ?_;rintro _ W5 ⟨rfl,t5,⟨F5,f5,ay,M5⟩,cu,eB⟩;have ef:((Spn.kd.Cw l2 i j done).flatMap Spn.u)=(z.map Prod.snd).take i++done.flatMap Spn.u++(z.map Prod.snd).drop j:=by rw[Spn.FQ.Cw l2 _ a7,hu]
 have eC:=tZ List.length ef;simp only[Ad,K8,FB,FA] at eC;have eI:(row.length:Int)=(done.length:Int):=by rw[V]
 rw [AP,eI];refine OL (P:=λm t=>t.Ac [] f2 (λx=>(Spn.rn x none ((Spn.kd.Cw l2 i j done).flatMap Spn.u)+Spn.Er done x) - Spn.Er (done.take m) x)/\t.AQ.length=_) (λhT U h0 h1=>Nq hT U h0 h1) (AG.sl (AG.U' (R':=HQ) o2 M5 (λx o e=>J x o e) F_)) (λx o e=>by
   rcases f5 x e with e | e;exact J x o.2 e;have:=b0 x o.2;omega) E
  (Sz (h:=λx=>Spn.rn x none ((Spn.kd.Cw l2 i j done).flatMap Spn.u)+Spn.Er done x) (M:=t2.AQ.length) E E (λx=>by have:=Spn.V5 x none ((Spn.kd.Cw l2 i j done).flatMap Spn.u);have:=Spn.Q6 done x;omega) σ.ks) ay ⟨cu.congr λx=>by simp[Spn.Er],eB⟩ ?_
 rintro W6 t6 ⟨F6,f6,h6,M6⟩ ⟨eh,gx⟩;rw[Nr] at eh;have eL:AK F W W2:=by
  refine(g1.mono E').next M2 λx o e=>?_
  rcases e with e|e;exact e;have:=I x e;omega
 have eN:=EY.next (W:=W) (F:=F) (λx o=>(an x o).imp E_ E) eL (EY.next f5 M5 ⟨F6,f6,h6,M6⟩);obtain⟨F',w1,w2,w3⟩:=eN.up (N':=N+(j-i)+20) E
 let zm:=(z.take j).drop i
 have eR:zm.length=(done.flatMap Spn.u).length:=by
  show((z.take j).drop i).length=_;rw[FB,K8,r1,ee,ak];omega
 obtain⟨y1,y2,y3⟩:=ue (λq:Cel×Int=>(⟨q.1.r,CQ q.1.set p⟩:Cel)) zm (done.flatMap Spn.u) eR;have bp:zm.map Prod.fst=(d.take j).drop i:=by
  show((z.take j).drop i).map Prod.fst=_;rw[wk,wR,a8]
 have eV:zm.map (λq:Cel×Int=>(⟨q.1.r,CQ q.1.set p⟩:Cel))=((d.take j).drop i).map (λc=>(⟨c.r,CQ c.set p⟩:Cel)):=by
  rw[<-bp,xn];rfl
 have e3:(z.take i++zm.zipWith (λq y=>((⟨q.1.r,CQ q.1.set p⟩:Cel),y)) (done.flatMap Spn.u)++z.drop j).map Prod.snd=(Spn.kd.Cw l2 i j done).flatMap Spn.u:=by
  rw[ef,S7,S7,wR,wk,y2]
 have bs:d=d.take i++(d.take j).drop i++d.drop j:=by
  have h1:=(QC i (d.take j)).symm;rw[xH,u6 a7] at h1;rw[<-h1,QC]
 refine⟨trivial,F',w1,⟨z.take i++zm.zipWith (λq y=>((⟨q.1.r,CQ q.1.set p⟩:Cel),y)) (done.flatMap Spn.u)++z.drop j,_,t6,f2,?_,?_,Spn.K4 i j done aa,e3.symm,eh.congr λx=>?_,λq B=>?_,E⟩,w3⟩;rw[S7,S7,wR,wk,y1,eV,a8];have e1:BA (d.take i++((d.take j).drop i).map (λc=>(⟨c.r,CQ c.set p⟩:Cel))++d.drop j)=BA d:=by
  conv=>rhs;rw[bs]
  simp[BA,S7,xn];rfl
 have e2:CS (d.take i++((d.take j).drop i).map (λc=>(⟨c.r,CQ c.set p⟩:Cel))++d.drop j)=CS d:=by
  conv=>rhs;rw[bs]
  rw[E0,E0,E0,E0];have n1:CS ((d.take j).drop i)=[]:=by
   unfold CS;rw[yk,xY];intro c hc;simpa using(Q c hc).1
  have n2:CS (((d.take j).drop i).map (λc=>(⟨c.r,CQ c.set p⟩:Cel)))=[]:=by
   unfold CS;rw[yk,xY];intro c hc;obtain⟨c',eX,rfl⟩:=i7.1 hc;simpa using(Q c' eX).1
  rw[n1,n2]
 rw[e1,e2];exact w2;rw[e3];omega;have JR:∀q∈z,(q.1.r=10->q.2=0)/\(q.1.r≠10->f2 q.2=q.1.set):=λq B=>by
  obtain⟨o1,o2⟩:=c4 q B;exact⟨o1,λcx=>by rw[c8 q.2 (Spn.QF (i7.2 ⟨q,B,rfl⟩) D_),o2 cx]⟩
 rcases DN.1 B with B|B;rcases DN.1 B with B|B;exact JR q (aO B);obtain⟨kk,q0,y,ha,hb,rfl⟩:=y3 q B;have ei:=wD ha;have c9:q0.1∈(d.take j).drop i:=by rw[<-bp];exact i7.2 ⟨q0,ei,rfl⟩
 obtain⟨c1,_⟩:=Q _ c9;refine⟨λe=>absurd e c1,λ_=>?_⟩;have o:(row.flatMap Spn.u)[kk]?=some q0.2:=by
  rw[al,<-wR,<-wk,vy,ha];rfl
 have:=r2 kk q0.2 y o hb;rw[this,(c4 q0 (aO (aR ei))).2 c1];exact JR q (aR B)
end
def FM(ks:Y')(s:W_):Prop:=GK ks s/\∀x∈s,PT x
def Jq(ks:Y')(p:Z_):Prop:=Ei ks p/\∀c∈p,PT ⟨c.key,c.val⟩
def FM.nil:FM ks []:=⟨Jb,λx i=>nomatch i⟩
def Jq.nil:Jq ks []:=⟨Ek,λx i=>nomatch i⟩
def FM.len{s:W_}(h:FM ks s):s.length<=64:=h.1.2.1
def FM.part{s:W_}(h:FM ks s)(b:Bool):FM ks (Ce ks b s):=⟨⟨zM _ h.1.1,vx (xT _ _) h.1.2.1,λx i=>h.1.2.2 x (wO.1 i).1⟩,λx i=>h.2 x (wO.1 i).1⟩
def Jq.part{p:Z_}(h:Jq ks p)(b:Bool):Jq ks (CR ks b p):=⟨⟨zM _ h.1.1,vx (xT _ _) h.1.2.1,λx i=>h.1.2.2 x (wO.1 i).1⟩,λx i=>h.2 x (wO.1 i).1⟩
def FM.KM(i:ks.length<=64){s:W_}{p:Z_}(h:FM ks s)(hp:Jq ks p):FM ks (CQ s p):=by
 refine⟨ij i h.1 hp.1.1 λc hc o=>(hp.1.2.2 c hc).2.1 o,λx j=>?_⟩;rcases NY j with j|⟨c,hc,_,rfl⟩;exact h.2 x j;exact hp.2 c hc
def CD(ks:Y')(p:Z_)(c:Cel):Cel:=⟨c.r,NK ks c.set p c.r⟩
def Rk(d:Y_)(i j:Nat)(g:Cel->Cel):Y_:=d.take i++((d.take j).drop i).map g++d.drop j
def Tl(d:Y_){i j:Nat}(g:Cel->Cel)(o:i<=j)(J:j<=d.length)(k:Nat):(Rk d i j g)[k]?=if i<=k/\k<j then d[k]?.map g else d[k]?:=by
 unfold Rk;have l1:(d.take i).length=i:=by rw[K8];omega
 have I:(((d.take j).drop i).map g).length=j-i:=by rw[FA,FB,K8];omega
 by_cases h1:k<i;rw[Bp E,Mp,PF E,wY,Cx h1];by_cases B:k<j;rw[Cx ⟨E,B⟩,PF (by rw[Ad];omega),qz E,l1,vy,wH,wY,Cx E,(E:i+(k-i)=k)];rw[Bp E,qz (by rw[Ad];omega),Ad,l1,I,wH,(E:j+(k-(i+(j-i)))=k)]
def YM(d:Y_){i j:Nat}(o:i<=j):d=d.take i++(d.take j).drop i++d.drop j:=by
 have h1:=(QC i (d.take j)).symm;rw[xH,u6 o] at h1;rw[<-h1,QC]
def eM(d:Y_){i j:Nat}(g:Cel->Cel)(o:i<=j)(B:∀c,(g c).r=c.r):BA (Rk d i j g)=BA d:=by
 conv=>rhs;rw[YM d o]
 unfold Rk;simp[BA,S7,xn];congr 2;exact yj λc _=>B c
def jU(d:Y_){i j:Nat}(g:Cel->Cel)(o:i<=j)(B:∀c∈(d.take j).drop i,g c=c):Rk d i j g=d:=by
 conv=>rhs;rw[YM d o]
 unfold Rk;rw[yj (g:=id) (λc hc=>B c hc),List.map_id]
def ko{b:X_}(h:(10:Int)∈b):∃q,JB b 0=some q/\b[q]?=some 10/\∀k,k<q->b[k]?≠some 10:=by
 induction b with
 |nil=>cases h
 |cons r b i=>
  rw[JD];by_cases e:r=10;rw[Cx e];exact⟨0,rfl,by rw[e];rfl,E⟩;rw[Bp e];obtain⟨q,h1,j,o⟩:=i ((I3.1 h).resolve_left λh=>e h.symm);refine⟨q+1,by rw[h1];rfl,by simpa using j,λk hk=>?_⟩;cases k with
  |zero=>simpa using e
  |succ k=>simpa using o k E
def mi{p:Nat}(hp:p<rs.length)(hl:rs.getLast?=some 10):∃q,JB rs (Bj (rs.take p))=some q/\p<=q/\q<rs.length/\rs[q]?=some 10/\(∀k,p<=k->k<q->rs[k]?≠some 10)/\Bj (rs.take p)+1<=Bj rs/\Bj (rs.take (q+1))=Bj (rs.take p)+1:=by
 have V:rs.drop p≠[]:=λe=>by have:=tZ List.length e;rw[FB] at this;simp at this;omega
 have hm:(10:Int)∈rs.drop p:=by
  have:(rs.drop p).getLast?=some 10:=by
   rw[y7,Bp E];exact hl
  exact xI this
 obtain⟨q,h1,o,I⟩:=ko hm;have lt:(rs.take p).length=p:=by rw[K8];omega
 have e:=Px (rs.take p) (rs.drop p) (Bj (rs.take p));rw[QC,Bp E,zz,h1,lt] at e;have hq:=(Bq.1 o).1;rw[FB] at hq;have hn:Bj rs=Bj (rs.take p)+Bj (rs.drop p):=by rw[<-Gg,QC]
 have hp0:0<Bj (rs.drop p):=List.count_pos_iff.2 hm
 rw[wH] at o;have i:∀k,p<=k->k<q+p->rs[k]?≠some 10:=λk a b=>by
  have:=I (k-p) E;rw[wH,(E:p+(k-p)=k)] at this;exact this
 refine⟨q+p,e,E,E,by rw[(E:q+p=p+q)];exact o,i,E,?_⟩;have J:rs.take (q+p+1)=rs.take p++((rs.take (q+p)).drop p++[10]):=by
  have B:=(QC p (rs.take (q+p))).symm;rw[xH,u6 E] at B;have O:rs[q+p]?=some 10:=by rw[(E:q+p=p+q)];exact o
  rw[Lc,O];generalize (rs.take (q+p)).drop p=M at B ⊢;rw[B];simp
 have Q:Bj ((rs.take (q+p)).drop p)=0:=by
  refine aAi.2 λj=>?_;obtain⟨k,hk,e⟩:=yg.1 j;have U:k<q:=by rw[FB,K8] at hk;omega
  apply i (p+k) E E;rw[List.getElem_drop,yc] at e;rw[By E,e]
 rw[J,Gg,Gg,Q];rfl
def cR(d:Y_)(g:Cel->Cel){g':W_->W_}(j:∀c,(g c).r=c.r)(h:∀c,c.r=10->(g c).set=g' c.set):CS (d.map g)=(CS d).map g':=by
 induction d with
 |nil=>rfl
 |cons c d o=>
  have e:∀(c:Cel) (d:Y_),CS (c::d)=(if c.r=10 then[c.set] else[])++CS d:=λc d=>by by_cases h:c.r=10<;>simp[CS,h]
  rw[S4,e,e,o,j,S7];split;rename_i i;rw[h c i];rfl;rfl
def jK(d:Y_){i j:Nat}(o:i<=j)(g:Cel->Cel){g':W_->W_}(B:∀c,(g c).r=c.r)(h:∀c,c.r=10->(g c).set=g' c.set) : CS (Rk d i j g)=(CS d).take (Bj ((BA d).take i))++(((CS d).take (Bj ((BA d).take j))).drop (Bj ((BA d).take i))).map g'++(CS d).drop (Bj ((BA d).take j)):=by
 unfold Rk;rw[E0,E0,(El d i).1,(El d j).2,cR _ g B h,(El (d.take j) i).2,(El d j).1,show BA (d.take j)=(BA d).take j from wR,xH,u6 o]
structure Hy (ks:Y') (d:Y_):Prop where
 set:∀c∈d,FM ks c.set
 Jr:(BA d).getLast?=some 10
def IM.up{k:TxK}{a:TxA}{N N':Nat}(h:IM k w0 F W a σ most d N)(j:N<=N'):IM k w0 F W a σ most d N':=by
 obtain⟨z,U,t,f,h1,o,B,I,J,O,V⟩:=h;obtain⟨EV,G,l1,Q,i⟩:=o;exact⟨z,U,t,f,h1,⟨EV,G,l1,Q,i.box,i.Jk.up j,i.Fy.up j,i.PD.up j,i.bW,i.Iy,i.cb,i.cr,i.cs,i.cp,i.ct,i.cS,i.lo,i.hl,i.g⟩,B,I,J,O,E⟩
def IM.U_{k:TxK}{a:TxA}(h:IM k w0 F W a σ most d N)(g:AI W W'):IM k w0 F W' a σ most d N:=by
 obtain⟨z,o,t,f,h1,i,j⟩:=h;exact⟨z,o,t,f,h1,i.U_ g,j⟩
def IM.U'{k:TxK}{a:TxA}(h:IM k w0 F W a σ most d N)(hm:AK M W W')(i:∀x,M x->¬F x/\¬σ.S x/\w0.heap.size<=x):IM k w0 F W' a σ most d N:=by
 obtain⟨z,B,t,f,h1,j,o⟩:=h;exact⟨z,B,t,f,h1,j.U' hm i,o⟩
def IM.hl{k:TxK}{a:TxA}(h:IM k w0 F W a σ most d N):∀x,F x->w0.heap.size<=x/\x<W.heap.size/\¬σ.S x:=by
 obtain⟨z,o,t,f,h1,i,j⟩:=h;exact i.hl
def IM.box{k:TxK}{a:TxA}(h:IM k w0 F W a σ most d N):Bx W a.b (cW σ.sv most a.r a.s a.p a.t)/\F a.b:=by
 obtain⟨z,o,t,f,h1,i,j⟩:=h;exact i.box
def IM.Iy{k:TxK}{a:TxA}(h:IM k w0 F W a σ most d N):Cg σ.S W σ.sv σ.ks/\∀x,σ.S x->x<W.heap.size:=by
 obtain⟨z,o,t,f,h1,i,j⟩:=h;exact i.Iy
def IM.g{k:TxK}{a:TxA}(h:IM k w0 F W a σ most d N):AI w0 W:=by
 obtain⟨z,o,t,f,h1,i,j⟩:=h;exact i.g
def IM.Jk{a:TxA}(h:IM .f w0 F W a σ most d N):∃l1 Fr bt,CE l1=BA d/\Eu BO.toAvT Fr Il W a.r bt l1 N:=by
 obtain⟨z,I,t,f,h1,i,B⟩:=h;obtain⟨l1,Fr,bt,j,o,_⟩:=i.Ym;exact⟨l1,Fr,bt,j,o⟩
def PC.next{k:TxK}{W i W':e_}{a:TxA}(hF:∀x,S x->F x\/W.heap.size<=x)(hm:AK F W i)(h:PC k w0 S i W' a σ most d N):PC k w0 F W W' a σ most d N:=by
 obtain⟨o,h1,B,I⟩:=h;have z:=hm.size;refine⟨o,λx j=>?_,B,hm.next I λx j e=>?_⟩
 .rcases h1 x j with e|e
  .exact hF x e
  .exact .inr E
 .rcases hF x e with e|e
  .exact e
  .omega
def PC.step{k:TxK}{W i W':e_}{a:TxA}(g:AI W i)(h:PC k w0 F i W' a σ most d N):PC k w0 F W W' a σ most d N:=PC.next J_ (g.mono E') h
def PC.up{k:TxK}{a:TxA}{N N':Nat}(h:PC k w0 F W W' a σ most d N)(i:N<=N'):PC k w0 F W W' a σ most d N':=by
 obtain⟨B,h1,j,o⟩:=h;exact⟨B,h1,j.up i,o⟩
def Jo(ks:Y')(p:Z_)(c:Cel):Cel:=if c.r=10 then⟨10,CQ c.set (CR ks true p)⟩ else c
def QV(ks:Y')(p:Z_)(c:Cel):(Jo ks p c).r=c.r:=by unfold Jo;split<;>simp_all
def MD(ks:Y')(p:Z_)(d:Y_)(i j m:Nat):Y_:=d.mapIdx λk c=>if i<=k/\k<m then CD ks p c else if i<=k/\k<j then Jo ks p c else c
def HE(ks:Y')(p:Z_)(d:Y_)(i j m k:Nat):(MD ks p d i j m)[k]?=d[k]?.map λc=>if i<=k/\k<m then CD ks p c else if i<=k/\k<j then Jo ks p c else c:=by
 rw[MD,List.getElem?_mapIdx]
def fq(ks:Y')(p:Z_)(d:Y_)(i j m:Nat):(MD ks p d i j m).length=d.length:=List.length_mapIdx
def Sh(ks:Y')(p:Z_)(d:Y_){i j:Nat}(o:i<=j)(B:j<=d.length):MD ks p d i j i=Rk d i j (Jo ks p):=by
 refine wm λk=>?_;rw[HE,Tl d _ o B];by_cases h:i<=k/\k<j;rw[Cx h];simp[h,(E:¬k<i),and_false,aAz];rw[Bp h];simp only[h,xF,(E:¬(i<=k/\k<i)),Option.map_id_fun'];rfl
def Sq(ks:Y')(p:Z_)(d:Y_){i j:Nat}(o:i<=j)(B:j<=d.length):MD ks p d i j j=Rk d i j (CD ks p):=by
 refine wm λk=>?_;rw[HE,Tl d _ o B];by_cases h:i<=k/\k<j;rw[Cx h];simp[h,aAz];rw[Bp h];simp only[h,xF,Option.map_id_fun'];rfl
def kH(ks:Y')(p:Z_)(d:Y_)(i j m:Nat):BA (MD ks p d i j m)=BA d:=by
 refine wm λk=>?_;rw[BA,BA,vy,vy,HE,Option.map_map];congr 1;funext c;show Cel.r (ite _ _ _)=c.r;split;rfl;split;exact QV ks p c;rfl
def aw{p:Z_}{i j m q:Nat}(U:i<=m)(V:m<=j)(hj:j<=d.length)(X:m<=q)(Y:(BA d)[q]?=some 10)(I:∀k,m<=k->k<q->(BA d)[k]?≠some 10) : Rk (MD ks p d i j m) m (min q j) (λc=>⟨c.r,CQ c.set (CR ks false p)⟩)=MD ks p d i j (min (q+1) j):=by
 have hr:∀k,(BA d)[k]?=d[k]?.map Cel.r:=λk=>vy;refine wm λk=>?_;rw[Tl _ _ E (by rw[fq];omega),HE,HE];cases Z:d[k]? with
 |none=>simp
 |some c=>
  simp[xE];have o:=hr k;rw[Z,xE] at o;by_cases h1:m<=k/\k<min q j;have B:c.r≠10:=λe=>I k h1.1 E (by rw[o,e]);rw[Cx h1,Bp E,Cx E,Cx E];congr 1;simp[Jo,Bp B,CD,NK,WL B];rw[Bp h1];by_cases O:i<=k/\k<m;rw[Cx O,Cx E];rw[Bp O];by_cases Q:i<=k/\k<min (q+1) j;have J:k=q:=E;subst J;have he:c.r=10:=by rw[Y] at o;exact(r9 o).symm
  rw[Cx E,Cx Q];simp[Jo,CD,NK,he,decide_true];rw[Bp Q]
section
variable {w0:e_}{F:f_}{W:e_}{a:TxA}{σ:SKs}{most:Int}{N:Nat}{d:Y_}
def jP{i j:Nat}{p:Z_}(h:IM .f w0 F W a σ most d N)(hT:DV w0)(hG:Hy σ.ks d)(bk:σ.ks.length<=64)(o:i<=j)(hj:j<=d.length)(hp:Eg S W v p)(bl:∀x,S x->¬F x)(a8:Jq σ.ks p) (hz:d.length<=10000000)(hN:N+22*d.length+50<=1000000000) : AF prog 138 [g_ a.b,zI (i:Int),zI (j:Int),v] (λv' w'=>v'=.tuple #[]/\PC .f w0 F W w' a σ most (Rk d i j (CD σ.ks p)) (N+22*d.length+50)) W:=by
 have an:(BA d).length=d.length:=FA _;have bs:=a8.1.2.1;refine O_ func138 ?_ (.cut [] [(8,8),(14,34)] (.y (.y (.x (.dm [6,9,11] [0,1,3,7,0,0,48,0,0,496,0,2047])))) (.y (.y (.node [10] [(10,13),(42,74)] (.cut [] [(42,49)] .nil (.x (.dc [6,8] (k_ [0,1,3,7,0,0,48,112,255,511,1023,1023,2047,8191]) [[6]]))) .nil))));refine AV (λ_ W1=>PC .f w0 F W W1 a σ most (MD σ.ks p d i j i) (N+d.length+4)) ?_ ?_
 .rintro _ W1 ⟨F1,f1,h1,M1⟩ _;have c4:Eg (λx=>S x/\x<W.heap.size) W1 v p:=BC.U' (hp.JR B_) M1 (λx _ B e=>bl x B.1 e) B_ C0;apply AJ;rw[AB,AH];apply AD (h1.box.1.cells 0 _ rfl);apply AA (Kv (b:=false) h1.Iy.1 c4 E);rintro iv W2 ⟨ee,g2⟩;have h2:=h1.U_ g2;have Z:=h1.hl;have z1:=M1.size;have z2:=g2.size;have av:=ee.JR B_;have eh:∀x,F1 x->F x\/W.heap.size<=x:=f1
  obtain⟨va,vc,c6,_⟩:=av.AO;have J:E3 iv=E3 (.slice va (CR σ.ks false p).length vc):=by rw[c6]
  have M2:AK F W W2:=M1.next g2 E';have a1:=a8.part false;refine AX (λvs W'=>∃m F',i<=m/\m<=d.length/\vs=[zI (m:Int)]/\(∀x,F' x->F1 x\/W2.heap.size<=x)/\IM .f w0 F' W' a σ most (MD σ.ks p d i j (min m j)) (N+d.length+4+21*(min m j-i))/\AK F1 W2 W'/\(m<=j\/True)) (λvs _=>d.length+1-Di vs 0)
   ⟨i,F1,HK _,E,rfl,J_,by rw[u6 o,zz];exact h2,AK.refl _ _,.inr trivial⟩ ?_
  rintro vs W3 ⟨m,F3,c7,ef,rfl,f3,U,M3,_⟩ _;simp only[Bh,JS];have z3:=M3.size;have EU:min m j=j\/CR σ.ks false p=[]->PC .f w0 F W W3 a σ most (Rk d i j (CD σ.ks p)) (N+22*d.length+50):=λe=>by
   have ed:MD σ.ks p d i j (min m j)=Rk d i j (CD σ.ks p):=by
    rcases e with e|e
    .rw[e,Sq _ _ _ o hj]
    .rw[<-Sq _ _ _ o hj];refine wm λk=>?_;rw[HE,HE];congr 1;funext c;have c8:Jo σ.ks p c=CD σ.ks p c:=by
      unfold Jo CD NK;by_cases hc:c.r=10
      .rw[Cx hc,hc];rfl
      .rw[Bp hc,WL hc,e];rfl
     rw[c8];by_cases q1:i<=k/\k<j
     .rw[Cx q1,Cx q1];split<;>rfl
     .rw[Bp q1,Bp q1,Bp E]
   rw[ed] at U;exact PC.next eh M2 ((PC.up ⟨F3,f3,U,M3⟩ E))
  refine AV (λ_ W'=>W'=W3/\m<j) ?_ ?_;rotate_left
  .rw[J,AP,BM];refine AE (λc9=>?_) λca=>?_
   .rw[As];refine AE (λax=>⟨rfl,E⟩) λcc=>⟨trivial,EU (.inl E)⟩
   .exact⟨trivial,EU (.inr (Kx E))⟩
  rintro _ _ ⟨rfl,ei⟩ _;rename e_=>W3;have ay:min m j=m:=E;rw[ay] at U;generalize hD:MD σ.ks p d i j m=D at U;have hDl:D.length=d.length:=by rw[<-hD,fq]
  have hnl:=Fw (BA d);have aa:BA D=BA d:=by rw[<-hD,kH]
  have gd:AI W3 W3.drew:=AK.drew _ _;have ak:=U.U_ gd;obtain⟨l1,Fr,bt,O,hO⟩:=ak.Jk;have ej:(CE l1).length=d.length:=by rw[O,aa,an]
  obtain⟨q,n1,n2,n3,n4,n5,n6,n7⟩:=mi (rs:=BA d) (p:=m) E hG.Jr;apply Ag (λ_ _=>False);apply AJ;rw[AB,AH];apply AU ⟨ak.box.1.cells 2 _ rfl,C0⟩;apply AA (Je ak.box.1 hO (i:=m) E E);rintro _ W4 ⟨rfl,g4⟩;refine⟨g4.mono E',?_⟩;rw[O,aa,AR,wrap64 E E,(E:((Bj ((BA d).take m):Int)+1)=((Bj ((BA d).take m)+1:Nat):Int))];apply AA (Ot (hO.U_ g4) (k:=Bj ((BA d).take m)+1) E);rintro _ W5 ⟨rfl,g5⟩;refine⟨g5.mono E',?_⟩;have b0:PK (CE l1) (Bj ((BA d).take m)+1)=.tuple #[zI ((q+1:Nat):Int),zI 0]:=by
   rw[O,aa];unfold PK;rw[Bp E,Bp E,yD,n1]
  rw[b0];refine Bv ?_;have ch:(if(j:Int)<((q+1:Nat):Int)-1 then(j:Int) else((q+1:Nat):Int)-1)=((min q j:Nat):Int):=by split<;>omega
  rw[A6,wrap64 E E,Iv,ch,As];have Q:=(gd.trans g4).trans g5;have z5:=Q.size;have lt3:=U.hl;have step:=aw (ks:=σ.ks) (p:=p) c7 E hj n2 n4 n5;have cu:min (q+1) j=(if q<j then q+1 else j):=by split<;>omega
  refine AE (λax=>?_) λcc=>?_
  .have cx:Eg (λx=>W1.heap.size<=x/\x < W2.heap.size) W5 iv (CR σ.ks false p):=BC.U_ (BC.U' av M3 (λx _ B e=>by have:=(Z x e).2.1;omega) B_ C0) Q B_ C0;refine AA (X7 (i:=m) (j:=min q j) (U.U_ Q) hT E E cx (λx B e=>by
     rcases f3 x e with e|e
     .have:=(Z x e).2.1;omega
     .omega) a1.1.2.1 (λc hc=>?_) E E) ?_
   .obtain⟨k,hk⟩:=wE.1 hc;have dj:=(Bq.1 hk).1;rw[FB,K8] at dj;rw[wH,wY,Cx E,<-hD,HE] at hk;cases V:d[m+k]? with
    |none=>rw[V] at hk;simp at hk
    |some c0=>
     rw[V,xE,Bp E,Cx E] at hk;have b6:c0.r≠10:=λe=>n5 (m+k) E E (by rw[BA,vy,V,xE,e]);have dk:c=c0:=by have:=r9 hk;rw[<-this,Jo,Bp b6]
     subst dk;have hs:=(hG.set c (wD V)).KM bk a1;exact⟨b6,E7.2 hs.1,hs.2⟩
   rintro _ W6 ⟨rfl,F6,f6,h6,M6⟩;have e6:D.take m++((D.take (min q j)).drop m).map (λc=>(⟨c.r,CQ c.set (CR σ.ks false p)⟩:Cel))++D.drop (min q j)=MD σ.ks p d i j (min (q+1) j):=by rw[<-hD];exact step
   rw[e6] at h6;refine⟨⟨q+1,F6,E,E,rfl,λx B=>?_,h6.up E,?_,.inr trivial⟩,by rw[CL,CL];omega⟩
   .rcases f6 x B with e|e
    .exact f3 x e
    .exact .inr E
   .refine(M3.next Q E').next M6 λx B e=>?_
    rcases f3 x e with e|e
    .exact e
    .omega
  .have dr:q=m:=E;have e6:D=MD σ.ks p d i j (min (q+1) j):=by
    rw[<-step,dr,u6 E,hD];refine(jU _ _ (HK _) λc hc=>?_).symm;simp at hc
   rw[e6] at U;refine⟨⟨q+1,F3,E,E,rfl,f3,(U.U_ Q).up E,M3.next Q E',.inr trivial⟩,by rw[CL,CL];omega⟩
 .apply AJ;rw[AB,AH];apply AD (h.box.1.cells 0 _ rfl);apply AA (Kv (b:=true) h.Iy.1 hp E);rintro bv W1 ⟨b7,g1⟩;have h1:=h.U_ g1;have ek:=a8.part true;obtain⟨va,vc,dT,_⟩:=b7.AO;have J:E3 bv=E3 (.slice va (CR σ.ks true p).length vc):=by rw[dT]
  rw[J,AP,BM];refine AE (λc9=>?_) λca=>?_;rotate_left
  .have e0:CR σ.ks true p=[]:=Kx E;have ed:MD σ.ks p d i j i=d:=by
    rw[Sh _ _ _ o hj];refine jU d _ o λc hc=>?_;unfold Jo;rw[e0];split
    .rename_i b8;rw[<-b8];rfl
    .rfl
   rw[ed];exact⟨F,J_,h1.up E,g1.mono E'⟩
  have gd:AI W1 W1.drew:=AK.drew _ _;have X:=h1.U_ gd;obtain ⟨l1,Fr,bt,O,hO⟩:=X.Jk;have hrl:(CE l1).length=d.length:=by rw[O,an]
  apply Ag (λq y=>q=11/\F y);apply AJ;rw [AB,AH];refine AU ⟨X.box.1.cells 4 _ rfl,λj hj e=>by obtain ⟨rfl,_⟩:=e;exact absurd hj B_⟩ ?_;apply AA (Je X.box.1 hO (i:=i) E E);rintro _ W2 ⟨rfl,g2⟩;refine ⟨g2.mono E',?_⟩;have h2:=X.U_ g2;apply AA (Je h2.box.1 (hO.U_ g2) (i:=j) E E);rintro _ W3 ⟨rfl,g3⟩;refine ⟨g3.mono E',?_⟩;have b9:=(gd.trans g2).trans g3;have U:=h2.U_ g3;obtain ⟨z,l2,t,f,e3,hM,e4,hu,hh,al,bs⟩:=U;obtain ⟨Fp,Cp,bp,e5,e7,put⟩:=hM.Yr;rw [O];have e8:Bj ((BA d).take i)<=Bj ((BA d).take j):=xg _ (by
   rw [<-u6 o,<-xH];exact yK _ _)
  have e9:Bj ((BA d).take j)<=Bj (BA d):=xg _ (yK _ _);have hk3:=Fw (BA d);have hb4:=ek.1.2.1;have ba:∀x∈CS d,x.length<=64:=λx B=>by
   obtain⟨c,hc,rfl⟩:=i7.1 B;exact(hG.set c (wO.1 hc).1).len
  have ea:=BC.U_ b7 b9 B_ C0;refine AA (jc e5 E e8 (by rw [Eh];exact e9) (by rw [Eh];omega) (λx B=>by have:=ba x B;omega) ea (λx B=>by have:=ba x B;omega)) ?_;rintro _ W4 ⟨rfl,en,eo,_,_,k3,k4,k5,m4⟩;rw [Eh] at k5;obtain ⟨F4,f4,bb,M4⟩:=put m4 (λx B=>by
   rcases B with B|B
   .exact(k3 x B).imp .inl E_
   .exact (k4 x B).imp .inr E_) k5 E
  refine⟨m4.mono λx _ B=>⟨rfl,e7 x (.inl B)⟩,?_⟩;have a6:=jK d o (Jo σ.ks p) (g':=λx=>CQ x (CR σ.ks true p)) (QV σ.ks p) (λc hc=>by unfold Jo;rw[Cx hc]);rw[<-a6] at bb;have a7:=eM d (Jo σ.ks p) o (QV σ.ks p);rw[Sh _ _ _ o hj];refine PC.step (g1.trans b9) ⟨F4,f4,⟨z.take i++((z.take j).drop i).map (λq=>(Jo σ.ks p q.1,q.2))++z.drop j,l2,t,f,?_,?_,e4,?_,hh.congr λx=>?_,λq Y=>?_,E⟩,M4⟩
  .clear a6 a7;subst e3;unfold Rk;simp only[S7,xn,wR,wk,Function.comp_def]
  .rw[a7];obtain⟨EV,G,l4,e1,I⟩:=bb;exact⟨EV,G,l4,e1,I.box,I.Jk.up E,I.Fy.up E,I.PD.up E,I.bW,I.Iy,I.cb,I.cr,I.cs,I.cp,I.ct,I.cS,I.lo,I.hl,I.g⟩
  .have e1:(z.take i++((z.take j).drop i).map (λq:Cel×Int=>(Jo σ.ks p q.1,q.2))++z.drop j).map Prod.snd=z.map Prod.snd:=by
    have h1:=(QC i (z.take j)).symm;rw[xH,u6 o] at h1;conv=>rhs;rw[<-QC j z,h1]
    simp only[S7,xn];rfl
   rw[e1,hu]
  .have e1:(z.take i++((z.take j).drop i).map (λq:Cel×Int=>(Jo σ.ks p q.1,q.2))++z.drop j).map Prod.snd=z.map Prod.snd:=by
    have h1:=(QC i (z.take j)).symm;rw[xH,u6 o] at h1;conv=>rhs;rw[<-QC j z,h1]
    simp only[S7,xn];rfl
   rw[e1]
  .rcases DN.1 Y with Y|Y
   .rcases DN.1 Y with Y|Y
    .exact al q (aO Y)
    .obtain⟨q0,ec,rfl⟩:=i7.1 Y;obtain⟨o1,o2⟩:=al q0 (aO (aR ec));refine⟨λe=>o1 (by rw[<-QV σ.ks p];exact e),λe=>?_⟩;have e':q0.1.r≠10:=by rw[<-QV σ.ks p];exact e
     show f q0.2=(Jo σ.ks p q0.1).set;rw[o2 e',Jo,Bp e']
   .exact al q (aR Y)
end
def Z7{r:Int}:AF prog 85 [.int .i32 r] (λv' w'=>v'=.bool (decide (Dc r))/\w'=w) w:=by
 apply H_ func85;have key:∀{b:Bool},(b=true↔Dc r)->Value.bool b=.bool (decide (Dc r))/\w=w:=λh=>⟨by congr 1;rw[xk,h,S9],rfl⟩;unfold Dc at key ⊢;rw[GI];refine AE (λh0=>?_) λh0=>?_;rw[As];refine AE (λh1=>key (by simp;omega)) λh1=>?_;rw[As];refine AE (λi=>?_) λi=>key (by simp;omega);rw[GI];exact AE (λj=>key (by simp;omega)) λj=>key (by simp;omega);rw[As];refine AE (λi=>?_) λi=>key (by simp;omega);rw[GI];exact AE (λj=>key (by simp;omega)) λj=>key (by simp;omega)
def Qu{r:Int}:AF prog 33 [.int .i32 r] (λv' w'=>v'=.bool (decide (Dc r))/\w'=w) w:=by
 apply H_ func33;exact Z7
def aT{l:X_}(h:Jl S w v l) : AF prog 284 [v,.func (.func 285) #[] #[]] (λv' w'=>v'=.bool (!decide (∀r∈l,Dc r))/\w'=w) w:=by
 apply G_ func284;refine AA (K:=λv' w'=>w'=w/\((v'=zI (-1)/\∀r∈l,Dc r)\/∃i:Nat,v'=zI i/\¬∀r∈l,Dc r)) ?_ ?_;refine G_ func329 ?_ (.y (.x (.y (.node [8] [(4,5),(8,18)] .nil .nil))));obtain⟨a,c,rfl,hm⟩:=h.AO;simp[maxLen] at hm;rw[AP];apply AX (λvs W=>∃i:Nat,i<=l.length/\vs=[zI i]/\W=w/\∀c∈l.take i,Dc c) (λvs _=>l.length-Di vs 0) ⟨0,Hw _,rfl,rfl,D_⟩;rintro vs _ ⟨i,hi,rfl,rfl,j⟩ _;rename e_=>w;rw[Bh,JS,As];refine AE (λI=>?_) λJ=>?_;have o:i<l.length:=E;obtain⟨q,r,rfl,_,hr,hc,rfl⟩:=h.get o;refine AW o (AD (by have:=hc 0 _ rfl;exact this) ?_);apply Fa C_;apply H_ func285;apply AA Qu;rintro _ _ ⟨rfl,rfl⟩;rename e_=>w;rw[Aq];by_cases B:Dc l[i];rw[TC B];apply AS;rw[AR,AM E];refine⟨⟨i+1,o,rfl,rfl,λc hc=>?_⟩,by rw[CL,CL];omega⟩;rw[Lc,By o] at hc;rcases DN.1 hc with hc|hc;exact j c hc;simp at hc;subst hc;exact B;rw[WL B];exact Ai ⟨rfl,.inr ⟨i,rfl,λj=>B (j _ (Q0 o))⟩⟩;have:i=l.length:=E;subst this;exact⟨rfl,.inl ⟨rfl,λc hc=>j c (by rw[Nr];exact hc)⟩⟩;rintro _ _ ⟨rfl,⟨rfl,j⟩|⟨i,rfl,O⟩⟩;rw[DR];exact⟨by rw[TC j];rfl,rfl⟩;rw[DR];exact⟨by rw[WL O,TC (by omega:(i:Int) ≥ 0)];rfl,rfl⟩
def OZ(o:Dop):Prop:=(o.kind=1/\o.AY=[]/\o.set=[])\/(o.kind=3/\o.AY=[]/\o.set=[]/\o.patch=[])\/(o.kind=2/\o.n=0/\o.patch=[]/\∀r∈o.AY,Dc r)
instance (o:Dop):Decidable (OZ o):=by unfold OZ;infer_instance
def La(o:Dop):HT o↔OZ o/\1<=PA o/\PA o<=536870912:=by
 unfold HT OZ PA;constructor;rintro(⟨h1,i,j,I,B⟩|⟨h1,i,j,I,B,J⟩|⟨h1,i,j,I,B,J⟩);exact⟨.inl ⟨h1,i,j⟩,by rw[h1,Bp B_];exact I,by rw[h1,Bp B_];exact B⟩;exact⟨.inr (.inl ⟨h1,i,j,I⟩),by rw[h1,Bp B_];exact B,by rw[h1,Bp B_];exact J⟩;exact⟨.inr (.inr ⟨h1,j,I,i⟩),by rw[Cx h1];omega,by rw[Cx h1];omega⟩;rintro⟨⟨h1,i,j⟩|⟨h1,i,j,I⟩|⟨h1,i,j,I⟩,B,J⟩;rw[h1,Bp B_] at B J;exact .inl ⟨h1,i,j,B,J⟩;rw[h1,Bp B_] at B J;exact .inr (.inl ⟨h1,i,j,I,B,J⟩);rw[Cx h1] at B J;exact .inr (.inr ⟨h1,I,i,j,E,E⟩)
def cU{D:f_}{r:V_}{o:Dop}(h:CW D w r o) : AF prog 223 [.agg r.toArray] (λv w'=>v=.bool (decide (OZ o))/\AI w w') w:=by
 refine H_ func223 ?_ (.y (.cut [3] [(3,13)] .nil .nil));obtain ⟨rv,sv,Z,rfl,h1,Q,U⟩:=h;refine CN λb j _ hz g hc _=>?_;obtain ⟨a1,c1,rfl,m1⟩:=h1.AO;obtain ⟨a2,c2,rfl,m2⟩:=Q.AO;obtain ⟨a3,c3,rfl,m3⟩:=U.AO;have key:∀ {x:Bool},(x=true↔OZ o)->Value.bool x=.bool (decide (OZ o))/\AI w j:=λh=>⟨by congr 1;rw [xk,h,S9],g⟩;unfold OZ at key ⊢;refine AV (λvs Y=>Y=j/\vs=[.bool (decide (¬ (o.AY=[]/\o.set=[])))]) ?_ ?_;rotate_left;rw [AB];apply AD (hc 2 _ rfl);rw [AP,BM];refine AE (λe=>?_) λe=>?_;refine ⟨rfl,?_⟩;rw [TC];rintro ⟨V,_⟩;rw [V] at e;simp at e;have X:o.AY=[]:=Kx E;rw [AB];apply AD (hc 3 _ rfl);rw [AP,BM];refine ⟨rfl,?_⟩;congr 2;rw [xX];constructor;rintro B ⟨_,I⟩;rw [I] at B;simp at B;intro B;have:o.set≠[]:=λI=>B ⟨X,I⟩;have:=wN.2 this;omega;rintro _ _ ⟨rfl,rfl⟩ _;rename e_=>j;rw [Bh,JS,AB];apply AD (hc 0 _ rfl);rw [Aj];refine AE (λk1=>?_) λk1=>?_;rw [Aq];apply key;simp only [k1,decide_not,aA8,S9];constructor;exact λh=>.inl ⟨trivial,h⟩;rintro (h | h | h);exact h.2;omega;omega;rw [Aj];refine AE (λJ=>?_) λJ=>?_;rw [Aq];by_cases i:o.AY=[]/\o.set=[];rw [show (!decide ¬ (o.AY=[]/\o.set=[]))=true by simp [i]];apply Ai;rw [AB];apply AD (hc 4 _ rfl);rw [AP,Aj];apply key;rw [S9,X9];constructor;exact λh=>.inr (.inl ⟨J,i.1,i.2,h⟩);rintro (h | h | h);omega;exact h.2.2.2;omega;rw [show (!decide ¬ (o.AY=[]/\o.set=[]))=false by simp [i]];refine AS (key ?_);simp only [yR,aBb];rintro (h | h | h);omega;exact i ⟨h.2.1,h.2.2.1⟩;omega;rw [Aj];refine AE (λk2=>?_) λk2=>key (by simp only [yR,aBb];rintro (h | h | h) <;> omega);rw [AB];apply AD (hc 1 _ rfl);rw [Aj];refine AE (λO=>?_) λO=>key (by simp only [yR,aBb];rintro (h | h | h) <;> omega);rw [AB];apply AD (hc 4 _ rfl);rw [AP,Aj];refine AE (λhp=>?_) λhp=>key (by
  simp only [yR,aBb];rintro (h | h | h);omega;omega;exact hp (X9.2 h.2.2.1))
 rw[X9] at hp;rw[AB];apply AD (hc 2 _ rfl);apply AA (aT (h1.U_ g B_ C0));rintro _ _ ⟨rfl,rfl⟩;rename e_=>j;rw[Aq,aA8];apply key;rw[S9];constructor;exact λh=>.inr (.inr ⟨k2,O,hp,h⟩);rintro(h|h|h);omega;omega;exact h.2.2.2
def QS{D:f_}{r:V_}{o:Dop}(h:CW D w r o) : AF prog 110 [.agg r.toArray] (λv w'=>v=zI (PA o)/\AI w w') w:=by
 apply H_ func110;obtain⟨U,sv,i,rfl,h1,j,B⟩:=h;obtain⟨I,c1,rfl,J⟩:=h1.AO;refine CN λb O _ Q g hc _=>?_;rw[AB];apply AD (hc 0 _ rfl);rw[Aj];refine AE (λk1=>?_) λk1=>?_;rw[AB];apply AD (hc 2 _ rfl);rw[AP];exact⟨by rw[PA,Cx k1],g⟩;rw[AB];apply AD (hc 1 _ rfl);exact⟨by rw[PA,Bp k1],g⟩
def LR{S D:f_}{x:V'}(h:Ae S D w v x) : AF prog 54 [v] (λv' w'=>v'=zI (Dn CO x)/\AI w w') w:=by
 refine H_ func54 ?_ (.y (.y (.x (.y (.node [3,8] [(3,3),(5,5),(8,19)] .nil .nil)))));obtain⟨a,c,rfl,hm⟩:=h.AO;simp[maxLen] at hm;rw[AP];apply AX (λvs J=>∃k:Nat,k<=x.length/\vs=[zI (Dn CO (x.take k)),zI k]/\AI w J) (λvs _=>x.length-Di vs 1) ⟨0,Hw _,rfl,AK.refl _ _⟩;rintro vs J ⟨k,hk,rfl,g⟩ _;simp only[Iu];refine HP (λQ=>?_) λU=>?_;have i:k<x.length:=E;obtain⟨p,r,rfl,V,hr,hc,o⟩:=(Ae.U_ h g).get i;refine AW i (Ab hr m_ ?_);refine BJ hr rfl o.one λb w2 hb X O B _=>?_;obtain⟨rv,sv,Y,rfl,h1,Z,h3⟩:=o;rw[AB];apply AD (B 0 _ rfl);rw[BH];refine AT (λe=>?_) λe=>?_;rw[AR,AM E];refine⟨⟨k+1,i,?_,g.trans O⟩,by rw[BE,BE];omega⟩;rw[Hb i,CO,Cx e,aBj];have:IntKind.i64.wrap (Dn CO (x.take k))=Dn CO (x.take k):=by
  by_cases h0:k=0;subst h0;simp[Dn];rfl;obtain⟨I,rfl⟩:∃I,k=I+1:=⟨k-1,E⟩;rw[Hb E];have:=Pn (Dn CO (x.take I)+CO x[I]);rw[wrap64 E E]
 rw[this];rw[AB];apply AD (B 1 _ rfl);rw[AR,AR,AM E];refine⟨⟨k+1,i,?_,g.trans O⟩,by rw[BE,BE];omega⟩;rw[Hb i,CO,Bp e];have:k=x.length:=E;subst this;rw[Nr];exact⟨rfl,g⟩
def OJ{S D:f_}{x:V'}(h:Ae S D w v x) : AF prog 55 [v] (λv' w'=>v'=zI (Dn CV x)/\AI w w') w:=by
 refine H_ func55 ?_ (.y (.y (.x (.y (.node [3,8] [(3,3),(5,5),(8,19)] .nil .nil)))));obtain⟨a,c,rfl,hm⟩:=h.AO;simp[maxLen] at hm;rw[AP];apply AX (λvs O=>∃k:Nat,k<=x.length/\vs=[zI (Dn CV (x.take k)),zI k]/\AI w O) (λvs _=>x.length-Di vs 1) ⟨0,Hw _,rfl,AK.refl _ _⟩;rintro vs O ⟨k,hk,rfl,g⟩ _;simp only[Iu];refine HP (λQ=>?_) λU=>?_;have i:k<x.length:=E;obtain⟨p,r,rfl,X,hr,hc,o⟩:=(Ae.U_ h g).get i;refine AW i (Ab hr m_ ?_);refine BJ hr rfl o.one λb w2 hb Y J B _=>?_;obtain⟨rv,sv,Z,rfl,h1,h2,h3⟩:=id o;rw[AB];apply AD (B 0 _ rfl);rw[BH];refine AT (λe=>?_) λe=>?_;rw[AR,AM E];refine⟨⟨k+1,i,?_,g.trans J⟩,by rw[BE,BE];omega⟩;rw[Hb i,CV,Cx e,aBj];have:IntKind.i64.wrap (Dn CV (x.take k))=Dn CV (x.take k):=by
  by_cases h0:k=0;subst h0;simp[Dn];rfl;obtain⟨I,rfl⟩:∃I,k=I+1:=⟨k-1,E⟩;rw[Hb E];have:=Pn (Dn CV (x.take I)+CV x[I]);rw[wrap64 E E]
 rw[this];apply Ab hr B;apply AA (QS (o.U' (D':=D) J F_ C0));rintro _ w3 ⟨rfl,V⟩;rw[AR,AR,AM E];refine⟨⟨k+1,i,?_,(g.trans J).trans V⟩,by rw[BE,BE];omega⟩;rw[Hb i,CV,Bp e];have:k=x.length:=E;subst this;rw[Nr];exact⟨rfl,g⟩
def T9{p q:Prop}[Decidable p][Decidable q]{a b:α}(h:p↔q):(if p then a else b)=if q then a else b:=by
 by_cases hp:p;rw[Cx hp,Cx (h.1 hp)];rw[Bp hp,Bp λi=>hp (h.2 i)]
def Wv(c:Chg):Prop:=(c.Ak=true/\c.val≠BF.zero)\/(c.Ak=false/\¬EE c.val)
def oF(ks:Y')(c:Chg):Prop:=Bg ks c.key=none\/(c.Ak=false/\¬II ks c.key c.val)
open Classical in
def QZ{D S:f_}{p:Z_}(hS:Cg D w sv ks)(h:Eg S w v p)(hT:DV w)(hI:∀c∈p,0<=c.val.f) : AF prog 71 [sv,v] (λv' w'=>v'=zI (EL ks p)/\AI w w') w:=by
 refine G_ func71 ?_ (.y (.y (.y (.x (.y (.node [5,15] [(4,9),(15,75)] (.y (.y (.cut [5] [(4,9),(17,74)] (.y (.y (.cut [27] [(27,57)] (.cut [27] [(27,40)] .D8 .nil) .nil))) .nil))) .nil))))));obtain⟨a,c,rfl,hm⟩:=h.AO;simp only[maxLen] at hm;have av:∀w',AI w w'->Pw p->zI 3=zI (EL ks p)/\AI w w':=λw' g hb=>⟨by rw[EL,Cx hb],g⟩;rw[AP,BM];refine AE (λh6=>av _ (AK.refl _ _) (.inr (.inl E))) λh6=>?_;rw[AP];refine AX (λvs W=>∃i:Nat,i<=p.length/\vs=[zI (if JY ks (p.take i) then 4 else 0),zI i]/\AI w W/\(∀a∈p.take i,¬Wv a)/\Rf Chg.key p i) (λvs _=>p.length-Di vs 1)
  ⟨0,Hw _,by rw[Bp (by rintro⟨a,ha,_⟩;simp at ha)];rfl,AK.refl _ _,by simp,λj hj=>by omega⟩ ?_
 rintro vs W ⟨i,hi,rfl,g,hv,a7⟩ _;simp only[Iu];refine HP (λb0=>?_) λa8=>?_;rotate_left
 .have:i=p.length:=E;subst this;rw[Nr] at hv ⊢;refine⟨?_,g⟩;have J:¬Pw p:=by
   rintro(U|U|⟨c,hc,U⟩)
   .exact U a7
   .omega
   .exact hv c hc U
  unfold EL;rw[Bp J]
 have B:i<p.length:=E;have V:=Q0 B;have ak:=hI p[i] V;have e1:p.take (i+1)=p.take i++[p[i]]:=by rw[Lc,By B];rfl
 have X:JY ks (p.take (i+1))↔JY ks (p.take i)\/oF ks p[i]:=by
  unfold JY oF;rw[e1];constructor
  .rintro⟨a,ha,U⟩;rcases DN.1 ha with ha|ha
   .exact .inl ⟨a,ha,U⟩
   .simp at ha;subst ha;exact .inr U
  .rintro(⟨a,ha,U⟩|U)
   .exact⟨a,oJ _ ha,U⟩
   .exact⟨p[i],py _ (so.2 rfl),U⟩
 refine AV (λvs W2=>AI w W2/\vs=[zI (if JY ks (p.take (i+1)) then 4 else 0)]/\¬Wv p[i]/\Rf Chg.key p (i+1)) ?_ ?_
 .rintro vs W2 ⟨g2,rfl,J,hr⟩ _;simp only[Iu];rw[AR,AM E];refine⟨⟨i+1,B,rfl,g2,λa ha=>?_,hr⟩,by rw[BE,BE];omega⟩;rw[e1] at ha;rcases DN.1 ha with ha|ha
  .exact hv a ha
  .simp at ha;subst ha;exact J
 obtain⟨q,r,rfl,_,hr,hc,rfl⟩:=(h.U_ g B_ C0).get B;refine AW B (Ab hr m_ ?_);refine BJ (vs:=p[i].cells) rfl rfl (EA.one (w:=w) (x:=p[i]) rfl) λb7 W1 b6 b9 g7 al _=>?_;rw[AB];apply AD (al 0 _ rfl);apply AA (Ks (hS.U_ (g.trans g7)) p[i].key);rintro _ W2 ⟨rfl,g2⟩;refine Bv ?_;refine BJ (vs:=((Bg ks p[i].key).getD DKey.zero).cells) rfl rfl (IC.one (w:=W2) (x:=(Bg ks p[i].key).getD DKey.zero) rfl) λb8 W3 ba bb g3 _ _=>?_;have I:=((g.trans g7).trans g2).trans g3;have Y:∀j u,p[i].cells[j]?=some u->W3.cell? ((⟨b7,0,none⟩:Addr).add j)=some u:=λj u hu=>(g2.trans g3).cell (al j u hu) E_;have Z:p[i].cells[1]?=some (.bool p[i].Ak):=rfl;have aa:∀j u,p[i].val.cells[j]?=some u->p[i].cells[2+j]?=some u:=λj u hu=>by rw[yf];exact hu
 refine AV (λvs W4=>AI W3 W4/\((vs=[.bool true]/\Pw p)\/(vs=[.bool false]/\¬Wv p[i]/\Rf Chg.key p (i+1)))) ?_ ?_
 .rintro vs W4 ⟨o,⟨rfl,hb⟩|⟨rfl,J,O⟩⟩ _
  .exact Ai (av _ (I.trans o) hb)
  apply AS;rw[Aq];cases hk:Bg ks p[i].key with
  |none=>
   refine Ai ⟨I.trans o,?_,J,O⟩;rw[Cx (X.2 (.inr (.inl hk)))]
  |some k=>
   apply AS;rw[AB];apply AD (o.cell (Y 1 _ Z) E_);rw[Aq];cases hg:p[i].Ak with
   |true=>
    refine AS ⟨I.trans o,?_,J,O⟩;congr 2;apply T9;rw[X];constructor
    .exact .inl
    .rintro(h|h|h)
     .exact h
     .rw[hk] at h;cases h
     .rw[hg] at h;cases h.1
   |false=>
    apply Ai;rw[AB];apply AD (o.cell (Y 0 _ rfl) E_);rw[AB];refine Ab (vs:=p[i].val.cells) rfl (λj u hu=>o.cell (by rw[Addr.add_add];exact Y (2+j) u (aa j u hu)) E_) ?_;apply AA (Un (hS.U_ (I.trans o)) (hT.U_ (I.trans o)) ak);rintro _ W5 ⟨rfl,g5⟩;rw[Aq];by_cases Q:II ks p[i].key p[i].val
    .rw[TC Q];refine AS ⟨(I.trans o).trans g5,?_,J,O⟩;congr 2;apply T9;rw[X];constructor
     .exact .inl
     .rintro(h|h|h)
      .exact h
      .rw[hk] at h;cases h
      .exact(h.2 Q).elim
    .rw[WL Q];refine Ai ⟨(I.trans o).trans g5,?_,J,O⟩;rw[Cx (X.2 (.inr (.inr ⟨hg,Q⟩)))]
 refine AV (λvs W4=>AI W3 W4/\((vs=[.bool true]/\Pw p)\/(vs=[.bool false]/\Rf Chg.key p (i+1)))) ?_ ?_
 .rintro vs W4 ⟨o,⟨rfl,hb⟩|⟨rfl,O⟩⟩ _
  .exact Ai ⟨o,.inl ⟨rfl,hb⟩⟩
  apply AS;rw[AB];apply AD (o.cell (Y 1 _ Z) E_);cases hg:p[i].Ak with
  |true=>
   apply Ai;rw[AB];refine Ab (vs:=p[i].val.cells) rfl (λj u hu=>o.cell (by rw[Addr.add_add];exact Y (2+j) u (aa j u hu)) E_) ?_;refine⟨BF.zero.cells.toArray,C_,?_⟩;apply AZ (QI _ _ p[i].val BF.zero W4);by_cases hz:p[i].val=BF.zero
   .rw[TC hz];apply AS;rw[AB];apply AD (o.cell (Y 1 _ Z) E_);rw[Aq,hg];refine AS ⟨o,.inr ⟨rfl,?_,O⟩⟩;rintro(h|h)
    .exact h.2 hz
    .rw[hg] at h;cases h.1
   .rw[WL hz];exact Ai ⟨o,.inl ⟨rfl,.inr (.inr ⟨p[i],V,.inl ⟨hg,hz⟩⟩)⟩⟩
  |false=>
   apply AS;rw[AB];apply AD (o.cell (Y 1 _ Z) E_);rw[Aq,hg];apply Ai;rw[AB];refine Ab (vs:=p[i].val.cells) rfl (λj u hu=>o.cell (by rw[Addr.add_add];exact Y (2+j) u (aa j u hu)) E_) ?_;apply AA (Te (hT.U_ (I.trans o)) ak);rintro _ W5 ⟨rfl,g5⟩;rw[Aq];refine⟨o.trans g5,?_⟩;by_cases a1:EE p[i].val
   .refine .inr ⟨by rw[TC a1];rfl,?_,O⟩;rintro(h|h)
    .rw[hg] at h;cases h.1
    .exact h.2 a1
   .exact .inl ⟨by rw[WL a1];rfl,.inr (.inr ⟨p[i],V,.inr ⟨hg,a1⟩⟩)⟩
 apply DY (λW=>AI W3 W) (AK.drew _ _);rw[BM];refine AE (λax=>?_) λax W4 o=>⟨o,.inr ⟨rfl,λj hj=>by omega⟩⟩;rw[A6,wrap64 E E,(E:((i:Int)-1)=((i-1:Nat):Int))];have a6:i-1<p.length:=E;obtain⟨_,r2,e2,_,bk,ay,rfl⟩:=(h.U_ I B_ C0).get a6;cases e2;apply AW a6;rw[AB,Addr.add_add];apply BR (λW hW=>hW.cell (ay 0 _ rfl) E_);rw[AB];apply BR (λW hW=>hW.cell (Y 0 _ rfl) E_);rw[DR];intro W4 o;by_cases a8:p[i-1].key ≥ p[i].key
 .rw[TC a8];refine⟨o,.inl ⟨rfl,.inl λan=>?_⟩⟩;have:=an i E B _ _ (By a6) (By B);omega
 .rw[WL a8];refine⟨o,.inr ⟨rfl,λj h1 h2 a b ha hb=>?_⟩⟩;by_cases e:j=i
  .subst e;rw[By a6] at ha;rw[By B] at hb;cases ha;cases hb;omega
  .exact a7 j h1 E a b ha hb
def oj(o:Dop):Prop:=(∀a∈o.set,0<=a.val.f)/\∀c∈o.patch,0<=c.val.f
open Classical in
noncomputable def Lm(ks:Y')(o:Dop):Int:=if ¬HT o then 3 else if Bl ks o.set≠0 then Bl ks o.set else EL ks o.patch
open Classical in
def mQ{A_ D:f_}{r:V_}{o:Dop}(Y:Cg A_ w sv ks)(h:CW D w r o)(Z:DV w)(hI:oj o) : AF prog 163 [sv,.agg r.toArray] (λv w'=>v=zI (Lm ks o)/\AI w w') w:=by
 refine G_ func163 ?_ (.y (.cut [] [(4,4),(6,18)] .nil .nil));refine CN λb w1 _ O g hc _=>?_;have I:r.length=5:=by obtain⟨_,_,_,rfl,_⟩:=h;rfl
 have h1:=h.U' (D':=D) g F_ C0;refine AV (λvs X=>AI w1 X/\HT o) ?_ ?_;rintro vs X ⟨i,J⟩ _;obtain⟨rv,uv,pv,rfl,q1,q2,q3⟩:=h1.U' (D':=D) i F_ C0;rw[AB];apply AD (i.cell (hc 3 _ rfl) E_);apply AA (Pb (Y.U_ (g.trans i)) q2 (Z.U_ (g.trans i)) hI.1);rintro _ w3 ⟨rfl,B⟩;rw[BH];have e0:Lm ks o=if Bl ks o.set≠0 then Bl ks o.set else EL ks o.patch:=by rw[Lm,Bp (aAw J)]
 refine AT (λO=>?_) λO=>⟨by rw[e0,Cx O],(g.trans i).trans B⟩;rw[AB];apply AD ((i.trans B).cell (hc 4 _ rfl) E_);apply AA (QZ (Y.U_ ((g.trans i).trans B)) (q3.U_ B B_ C0) (Z.U_ ((g.trans i).trans B)) hI.2);rintro _ w4 ⟨rfl,Q⟩;exact⟨by rw[e0,Bp (aAw O)],((g.trans i).trans B).trans Q⟩;have U:∀w',AI w1 w'->¬HT o->zI 3=zI (Lm ks o)/\AI w w':=λw' g' hn=>⟨by rw[Lm,Cx hn],g.trans g'⟩;apply Ab I hc;apply AA (cU h1);rintro _ X ⟨rfl,i⟩;rw[Aq];refine AT (λhp=>?_) λhp=>U _ i λJ=>hp ((La o).1 J).1;apply Ab I (λj u hu=>i.cell (hc j u hu) E_);apply AA (QS (h1.U' (D':=D) i F_ C0));rintro _ w3 ⟨rfl,B⟩;rw[As];refine AE (λhl=>U _ (i.trans B) λJ=>by have:=((La o).1 J).2.1;omega) λhl=>?_;apply Ab I (λj u hu=>(i.trans B).cell (hc j u hu) E_);apply AA (QS (h1.U' (D':=D) (i.trans B) F_ C0));rintro _ w4 ⟨rfl,Q⟩;rw[BM];refine AE (λV=>U _ ((i.trans B).trans Q) λJ=>by have:=((La o).1 J).2.2;omega) λV=>⟨(i.trans B).trans Q,(La o).2 ⟨hp,E,E⟩⟩
def RR(ks:Y'):Bl ks []=0:=E7.2 Jb
def Xu(ks:Y'):EL ks []=0:=Hi.2 Ek
def fC(ks:Y')(l:W_):Bl ks l=0\/Bl ks l=3\/Bl ks l=4:=by
 unfold Bl;split;exact .inr (.inl rfl);split;exact .inr (.inr rfl);exact .inl rfl
def jI(ks:Y')(l:Z_):EL ks l=0\/EL ks l=3\/EL ks l=4:=by
 unfold EL;split;exact .inr (.inl rfl);split;exact .inr (.inr rfl);exact .inl rfl
def je(ks:Y')(o:Dop):(Lm ks o=3↔¬HT o\/Bl ks o.set=3\/EL ks o.patch=3)/\(Lm ks o=0\/Lm ks o=3\/Lm ks o=4)/\(Lm ks o≠3->(Lm ks o=0↔Bl ks o.set=0/\EL ks o.patch=0)):=by
 by_cases i:HT o;have B:Bl ks o.set=0\/EL ks o.patch=0:=by
  rcases i with⟨_,_,h,_⟩|⟨_,_,h,_⟩|⟨_,_,_,h,_⟩;left;rw[h];exact RR ks;left;rw[h];exact RR ks;right;rw[h];exact Xu ks
 unfold Lm;rw[Bp (aAw i)];by_cases j:Bl ks o.set=0;rw[Bp (aAw j)];exact⟨⟨λh=>.inr (.inr h),λh=>by rcases h with h|h|h;exact(h i).elim;omega;exact h⟩,jI ks o.patch,λ_=>⟨λh=>⟨j,h⟩,λh=>h.2⟩⟩;rw[Cx j];refine⟨⟨λh=>.inr (.inl h),λh=>by rcases h with h|h|h;exact(h i).elim;exact h;omega⟩,fC ks o.set,λ_=>⟨λh=>⟨h,E⟩,λh=>h.1⟩⟩;unfold Lm;rw[Cx i];exact⟨⟨λ_=>.inl i,I_⟩,.inr (.inl rfl),λh=>(h rfl).elim⟩
open Classical in
def Km{A_ S D:f_}{x:V'}(hS:Cg A_ w sv ks)(h:Ae S D w v x)(hT:DV w)(hI:∀o∈x,oj o) : AF prog 97 [sv,v] (λv' w'=>v'=zI (CU ks x)/\AI w w') w:=by
 refine G_ func97 ?_ (.y (.y (.x (.y (.node [5,11] [(4,5),(7,8),(11,26)] .nil .nil)))));have I:=h;obtain⟨a,c,rfl,hm⟩:=h.AO;simp[maxLen] at hm;have X:∀w',AI w w'->WT ks x->zI 3=zI (CU ks x)/\AI w w':=λw' g hb=>⟨by rw[CU,Cx hb],g⟩;rw[AP];refine AX (λvs w1=>∃k:Nat,k<=x.length/\vs=[zI (if Kp ks (x.take k) then 4 else 0),zI k]/\AI w w1/\∀o∈x.take k,Lm ks o≠3) (λvs _=>x.length-Di vs 1)
  ⟨0,Hw _,by rw[Bp (by rintro⟨a,ha,_⟩;simp at ha)];rfl,AK.refl _ _,D_⟩ ?_
 rintro vs w1 ⟨k,hk,rfl,g,J⟩ _;simp only[Iu];refine HP (λa8=>?_) λaa=>?_;have i:k<x.length:=E;have U:=Q0 i;obtain⟨p,r,rfl,_,hr,hc,Z⟩:=(Ae.U_ h g).get i;refine AW i (Ab hr m_ ?_);refine BJ hr rfl Z.one λb w2 hb hz Q a6 _=>?_;apply Ab hr a6;apply AA (mQ (hS.U_ (g.trans Q)) (Z.U' (D':=D) Q F_ C0) (hT.U_ (g.trans Q)) (hI _ U));rintro _ w3 ⟨rfl,g3⟩;have V:=(g.trans Q).trans g3;obtain⟨m1,m2,m3⟩:=je ks x[k];rw[Aj];refine AE (λY=>?_) λY=>?_;rw[Y];exact X _ V (.inl ⟨_,U,m1.1 Y⟩);have e1:x.take (k+1)=x.take k++[x[k]]:=by rw[Lc,By i];rfl
 have O:∀o∈x.take (k+1),Lm ks o≠3:=λo I=>by
  rw[e1] at I;rcases DN.1 I with I|I;exact J o I;simp at I;subst I;exact Y
 have a1:Kp ks (x.take (k+1))↔Kp ks (x.take k)\/Lm ks x[k]≠0:=by
  unfold Kp;rw[e1];constructor;rintro⟨a,ha,B⟩;rcases DN.1 ha with ha|ha;exact .inl ⟨a,ha,B⟩;simp at ha;subst ha;exact .inr λh0=>by have:=(m3 Y).1 h0;rcases B with B|B;exact B this.1;exact B this.2
  rintro(⟨a,ha,B⟩|B);exact⟨a,oJ _ ha,B⟩;refine⟨x[k],py _ (so.2 rfl),?_⟩;by_cases hz:Bl ks x[k].set=0;exact .inr λh0=>B ((m3 Y).2 ⟨hz,h0⟩);exact .inl hz
 rw[BH];refine AT (λh0=>?_) λh0=>?_;rw[AR,AM E];refine⟨⟨k+1,i,?_,V,O⟩,by rw[BE,BE];omega⟩;congr 2;apply T9;rw[a1];exact⟨.inl,λh'=>by rcases h' with h'|h';exact h';exact(h' h0).elim⟩;rw[AR,AM E];refine⟨⟨k+1,i,?_,V,O⟩,by rw[BE,BE];omega⟩;rw[Cx (a1.2 (.inr h0))];congr 2;omega;have:k=x.length:=E;subst this;rw[Nr] at J ⊢;apply AA (LR (Ae.U_ I g));rintro _ w2 ⟨rfl,Q⟩;rw[BM];refine AE (λh1=>X _ (g.trans Q) (.inr (.inl h1))) λh1=>?_;apply AA (OJ (Ae.U_ I (g.trans Q)));rintro _ w3 ⟨rfl,g3⟩;rw[BM];refine AE (λh2=>X _ ((g.trans Q).trans g3) (.inr (.inr h2))) λh2=>?_;refine⟨?_,(g.trans Q).trans g3⟩;have a7:¬WT ks x:=by
  rintro(⟨o,I,B⟩|B|B);exact J o I ((je ks o).1.2 B);exact h1 B;exact h2 B
 unfold CU;rw[Bp a7]
def UP{l:X_}(h:Jl S w v l):AF prog 221 [v] (λv' w'=>v'=zI (Bj l:Int)/\w'=w) w:=by
 refine H_ func221 ?_ (.y (.y (.x (.y (.node [3,8] [(3,3),(5,5),(8,16)] .nil .nil)))));obtain⟨a,c,rfl,hm⟩:=h.AO;simp[maxLen] at hm;rw[AP];apply AX (λvs w'=>∃i:Nat,i<=l.length/\vs=[zI (Bj (l.take i):Int),zI i]/\w'=w) (λvs _=>l.length-Di vs 1) ⟨0,Hw _,rfl,rfl⟩;rintro vs _ ⟨i,hi,rfl,rfl⟩ _;rename e_=>w;simp only[Iu];refine HP (λB=>?_) λI=>?_;have j:i<l.length:=E;obtain⟨p,r,rfl,_,hr,hc,rfl⟩:=h.get j;refine AW j (AD (hc 0 _ rfl) ?_);rw[Aj];have e:Bj (l.take (i+1))=Bj (l.take i)+if l[i]=10 then 1 else 0:=by
  have:l.take (i+1)=l.take i++[l[i]]:=by rw[Lc];simp[j]
  rw[this,Gg];by_cases o:l[i]=(10:Int)<;>simp[Bj,o]
 have hb:=Fw (l.take i);rw[K8] at hb;refine AE (λo=>?_) λo=>?_;rw[AR,AR,AM E,AM E];refine⟨⟨i+1,j,?_,rfl⟩,by rw[BE,BE];omega⟩;rw[e,Cx o];rw[AR,AM E];refine⟨⟨i+1,j,?_,rfl⟩,by rw[BE,BE];omega⟩;rw[e,Bp o];rfl;obtain rfl:i=l.length:=E;rw[Nr];exact⟨rfl,trivial⟩
def Ax.tf{o:Dop}(h:Ax ks o):CO o=(Ao o:Int)-o.AY.length/\CV o=(Ao o:Int)-(if o.kind=3 then o.n else 0)/\0<=CO o/\CO o<=Ao o/\0<=CV o/\CV o<=Ao o:=by
 unfold CO CV Ao PA;rcases h with⟨h1,i,j,B,I⟩|⟨h1,i,j,B,I⟩|⟨h1,i,j,B,I,J⟩;rw[h1,i];simp;omega;rw[h1,i];simp;omega;rw[h1];simp
def Bt(n:Int):Int->V'->Prop
 |_,[]=>True
 |p,o::x=>if o.kind=2 then p≠n/\Bt n p x else if o.kind=3 then p+o.n≠n/\Bt n (p+o.n) x else Bt n (p+o.n) x
def Cr(ks:Y')(o:Dop):Prop:=o.kind=2->o.set≠[]->(0<(Ce ks true o.set).length\/0<Bj o.AY)->(Ce ks true o.set).length=o.set.length/\Bj o.AY=o.AY.length
open Classical in
noncomputable def BY(ks:Y')(x:V')(n most:Int):Int:=if CU ks x≠0 then CU ks x else if n<1\/most<n\/n<Dn CO x then 5 else if ¬Bt n 0 x then 6 else if ¬(∀o∈x,Cr ks o) then 7 else if most<n-Dn CO x+Dn CV x then 8 else 0
open Classical in
def kQ{S D:f_}{x:V'}{n:Int}(h:Ae S D w v x)(hg:∀o∈x,Ax ks o/\Ao o<=536870912)(hl:x.length<=1048576) : AF prog 158 [v,zI n] (λv' w'=>v'=.bool (decide (Bt n 0 x))/\AI w w') w:=by
 refine G_ func158 ?_ (.y (.y (.y (.x (.y (.node [5,10] [(4,5),(7,7),(10,33)] (.y (.y (.x (.y (.cut [] [(4,4),(14,28)] .nil .nil))))) .nil))))));obtain⟨a,c,rfl,hm⟩:=h.AO;rw[AP];apply AX (λvs w'=>∃(i p:Nat),i<=x.length/\vs=[zI (p:Int),zI i]/\p<=i*536870912/\AI w w'/\(Bt n 0 x↔Bt n p (x.drop i))) (λvs _=>x.length-Di vs 1) ⟨0,0,Hw _,rfl,Hw _,AK.refl _ _,yY⟩;rintro vs w1 ⟨i,p,hi,rfl,hp,g,B⟩ _;simp only[Iu];refine HP (λa1=>?_) λa6=>?_;rotate_left;obtain rfl:i=x.length:=E;rw[xq] at B;exact⟨by rw[TC (B.2 trivial)],g⟩;have I:i<x.length:=E;obtain⟨q,r,rfl,hS,hr,hc,V⟩:=(Ae.U_ h g).get I;refine AW I (Ab hr m_ ?_);refine BJ hr rfl V.one λb w2 hb hz g2 O _=>?_;obtain⟨rv,sv,pv,rfl,h1,h2,h3⟩:=id V;rw[wT I,Bt] at B;obtain⟨Y,X⟩:=hg x[i] (Q0 I);have J:=g.trans g2;have Z:x[i].kind≠2->0<=x[i].n/\x[i].n<=536870912:=λhk=>by
  rcases Y with⟨h1,_,_,h4,_⟩|⟨h1,_,_,_,h4⟩|⟨h1,_⟩;rw[Ao,Bp hk] at X;omega;rw[Ao,Bp hk] at X;omega;exact absurd h1 hk
 refine AV (λ_ w'=>x[i].kind≠2/\w'=w2/\(Bt n 0 x↔Bt n ((p:Int)+x[i].n) (x.drop (i+1)))) ?_ ?_;rintro _ _ ⟨hk,rfl,Q⟩ _;obtain⟨n1,n2⟩:=Z hk;rw[AB];apply AD (O 1 _ rfl);rw[AR,wrap64 E E,AR,AM E];refine⟨⟨i+1,p+x[i].n.toNat,I,?_,E,J,?_⟩,by rw[BE,BE];omega⟩;rw[(E:(p:Int)+x[i].n=((p+x[i].n.toNat:Nat):Int))];rw[Q,(E:(p:Int)+x[i].n=((p+x[i].n.toNat:Nat):Int))];rw[AB];apply AD (O 0 _ rfl);rw[Aj];refine AE (λhk=>?_) λhk=>?_;rw[Cx hk] at B;rw[Aj];refine AE (λe=>⟨by rw[WL λh=>(B.1 h).1 e],J⟩) λe=>?_;rw[AR,AM E];refine⟨⟨i+1,p,I,rfl,?_,J,B.trans ⟨λh=>h.2,λh=>⟨e,h⟩⟩⟩,by rw[BE,BE];omega⟩;exact vx hp (wj _ (aBT i));rw[Bp hk] at B;obtain⟨n1,n2⟩:=Z hk;rw[Aj];refine AE (λU=>?_) λU=>?_;rw[Cx U] at B;rw[AB];apply AD (O 1 _ rfl);rw[AR,wrap64 E E,Aj];refine AE (λe=>⟨by rw[WL λh=>(B.1 h).1 e],J⟩) λe=>?_;exact⟨hk,rfl,B.trans ⟨λh=>h.2,λh=>⟨e,h⟩⟩⟩;rw[Bp U] at B;exact⟨hk,rfl,B⟩
open Classical in
def mC{A_ S D:f_}{x:V'}(hS:Cg A_ w sv ks)(h:Ae S D w v x)(hb:∀o∈x,o.set.length<=64) : AF prog 159 [sv,v] (λv' w'=>v'=.bool (decide (∀o∈x,Cr ks o))/\AI w w') w:=by
 refine G_ func159 ?_ (.y (.x (.y (.node [11] [(4,4),(6,8),(11,52)] (.y (.y (.cut [] [(4,4),(6,8),(13,51)] (.y (.cut [] [(15,23)] .nil (.x (.dc [3,7] (k_ [0,0,2,7,15,0,32,111,255,511]) [[3]])))) .nil))) .nil))));obtain⟨a,c,rfl,hm⟩:=h.AO;simp[maxLen] at hm;rw[AP];apply AX (λvs w'=>∃(i:Nat),i<=x.length/\vs=[zI i]/\AI w w'/\∀o∈x.take i,Cr ks o) (λvs _=>x.length-Di vs 0) ⟨0,Hw _,rfl,AK.refl _ _,λo J=>by simp at J⟩;rintro vs w1 ⟨i,hi,rfl,g,V⟩ _;simp only[Bh,JS];refine HP (λbl=>?_) λbp=>?_;rotate_left;obtain rfl:i=x.length:=E;rw[Nr] at V;exact⟨by rw[TC V],g⟩;have B:i<x.length:=E;refine AV (λ_ w'=>Cr ks x[i]/\AI w1 w') ?_ ?_;rintro _ w' ⟨hp,g'⟩ _;rw[AR,AM E];refine⟨⟨i+1,B,rfl,g.trans g',λo J=>?_⟩,by rw[CL,CL];omega⟩;rw[Lc,By B] at J;rcases DN.1 J with J|J;exact V o J;simp at J;subst J;exact hp;obtain⟨q,r,rfl,bs,hr,hc,a1⟩:=(Ae.U_ h g).get B;refine AW B (Ab hr m_ ?_);refine BJ hr rfl a1.one λb w2 c4 hz g2 I _=>?_;obtain⟨rv,al,pv,rfl,h1,h2,h3⟩:=id a1;have c6:=hb x[i] (Q0 B);obtain⟨ra,rc,an,av⟩:=h1.AO;obtain⟨sa,sc,a6,_⟩:=h2.AO;simp only[maxLen] at av;refine AV (λ_ w'=>w'=w2/\x[i].kind=2/\x[i].set≠[]) ?_ ?_;rotate_left;rw[AB];apply AD (I 0 _ rfl);rw[BH];refine AT (λhk=>?_) λhk=>⟨λh=>absurd h hk,g2⟩;rw[AB];apply AD (I 3 _ rfl);rw[a6,AP,Aj];refine AE (λe=>⟨λ_ X=>absurd (Kx E) X,g2⟩) λe=>⟨rfl,hk,λh=>e (by rw[h];rfl)⟩;rintro _ _ ⟨rfl,hk,X⟩ _;rename e_=>w2;have Y:AI w2 w2.drew:=AK.drew _ _;apply Ag (λ_ _=>False);rw[AB];apply AU ⟨Y.cell (I 3 _ rfl) E_,C0⟩;apply AA (Mw (b:=true) (((hS.U_ g).U_ g2).U_ Y) ((h2.U_ g2 B_ C0).U_ Y B_ C0) E);rintro bv w3 ⟨ax,g3⟩;obtain⟨ba,bc,rfl,_⟩:=ax.AO;refine⟨g3.mono E',?_⟩;rw[AP,AB];apply AU ⟨Y.cell (I 2 _ rfl) E_,C0⟩;apply AA (UP (((h1.U_ g2 B_ C0).U_ Y B_ C0).U_ g3 B_ C0));rintro _ _ ⟨rfl,rfl⟩;rename e_=>w3;refine⟨AK.refl _ _,?_⟩;have Z:=(g2.trans Y).trans g3;have O:=g.trans Z;have a7:∀(j:Nat) (v:d_),[Value.int .u8 x[i].kind,zI x[i].n,rv,al,pv][j]?=some v->w3.cell? ((⟨b,0,none⟩:Addr).add j)=some v:=λj v hv=>g3.cell (Y.cell (I j v hv) E_) E_;have c7:(Ce ks true x[i].set).length<=x[i].set.length:=xT _ _;have c8:=Fw x[i].AY;have ak:(0<(Ce ks true x[i].set).length\/0<Bj x[i].AY)->((Ce ks true x[i].set).length<x[i].set.length\/Bj x[i].AY<x[i].AY.length)->¬∀o∈x,Cr ks o:=λh1 h2 a8=>by
  have:=a8 x[i] (Q0 B) hk X h1;omega
 have Q:(0<(Ce ks true x[i].set).length\/0<Bj x[i].AY)->
   BZ 3 (g_ b) (λay=>BV ay (λb0 w9=>E3 b0 λb6=>Hm .i64 (zI ((Ce ks true x[i].set).length:Int)) b6 λb7=>Al b7 (Value.bool false=.bool (decide (∀ o ∈ x,Cr ks o))/\AI w w9)
    (BZ 2 (g_ b) λbk=>BV bk (λb8 aa=>E3 b8 λb9=>Hm .i64 (zI (Bj x[i].AY:Int)) b9 λbb=>Al bb (Value.bool false=.bool (decide (∀ o ∈ x,Cr ks o))/\AI w aa) (Cr ks x[i]/\AI w1 aa)) w9)) w3):=λU=>by
  rw[AB];apply AD (a7 3 _ rfl);rw[a6,AP,As];refine AE (λe=>⟨by rw[WL (ak U (.inl E))],O⟩) λe1=>?_;rw[AB];apply AD (a7 2 _ rfl);rw[an,AP,As];refine AE (λe=>⟨by rw[WL (ak U (.inr E))],O⟩) λe2=>⟨λ_ _ _=>⟨E,E⟩,Z⟩
 rw[BM];refine AE (λe=>Q (.inl E)) λe1=>?_;rw[BM];refine AE (λe=>Q (.inr E)) λe2=>⟨λ_ _ h=>by omega,Z⟩
def UL{A_ S D:f_}{x:V'}{n:Nat}(hS:Cg A_ w sv ks)(h:Ae S D w v x)(hT:DV w)(hI:∀o∈x,oj o)(hl:x.length<=1048576)(hn:n<=1099511627776) : AF prog 94 [sv,v,zI (n:Int),zI most] (λv' w'=>v'=zI (BY ks x n most)/\AI w w') w:=by
 classical
 refine O_ func94 ?_ (.y (.y (.x (.cut [16] [(16,29)] .nil .nil))));apply AA (Km hS h hT hI);rintro _ w1 ⟨rfl,X⟩;unfold BY;rw [BH];refine AT (λhm=>?_) λhm=>⟨by rw [Cx hm],X⟩;rw [Bp (by simpa using hm)];have B:=Hs hm;obtain ⟨_,t1,t2⟩:=Gm (f:=CO) (m:=536870912) B_ x (λo i=>by
  obtain ⟨_,_,h1,U,_⟩:=(B o i).1.tf;have:=(B o i).2;exact ⟨h1,E⟩) E
 obtain ⟨_,u1,u2⟩:=Gm (f:=CV) (m:=536870912) B_ x (λo i=>by
  obtain ⟨_,_,_,_,h1,U⟩:=(B o i).1.tf;have:=(B o i).2;exact ⟨h1,E⟩) E
 have h1:=Ae.U_ h X;refine AV (λvs w'=>vs=[.bool (decide ((n:Int)<1\/most<n\/(n:Int)<Dn CO x))]/\AI w1 w') ?_ ?_;rotate_left;rw[As];refine AE (λe=>⟨by rw[TC (.inl e)],AK.refl _ _⟩) λe1=>?_;rw[BM];refine AE (λe=>⟨by rw[TC (.inr (.inl e))],AK.refl _ _⟩) λe2=>?_;apply AA (LR h1);rintro _ w2 ⟨rfl,V⟩;rw[BM];refine⟨?_,V⟩;congr 2;exact xX.2 ⟨λh=>.inr (.inr h),λh=>by rcases h with h|h|h;exact absurd h e1;exact absurd h e2;exact h⟩;rintro _ w2 ⟨rfl,V⟩ _;rw[Bh,JS];have J:=X.trans V;have U:=Ae.U_ h1 V;refine AE (λe=>⟨by rw[Cx e],J⟩) λe=>?_;rw[Bp e];apply AA (kQ (n:=n) U B hl);rintro _ w3 ⟨rfl,g3⟩;rw[Aq];have j:=J.trans g3;refine AT (λY=>?_) λY=>⟨by rw[Cx Y],j⟩;rw[Bp (λh=>h Y)];have I:=Ae.U_ U g3;refine AA (mC (hS.U_ j) I λo i=>?_) ?_;rcases(B o i).1 with⟨_,_,I,_⟩|⟨_,_,I,_⟩|⟨_,_,_,_,_,h6⟩;rw[I];simp;rw[I];simp;exact h6.2.1;rintro _ w4 ⟨rfl,g4⟩;rw[Aq];have O:=j.trans g4;refine AT (λZ=>?_) λZ=>⟨by rw[Cx Z],O⟩;rw[Bp (λh=>h Z)];have h4:=Ae.U_ I g4;apply AA (LR h4);rintro _ w5 ⟨rfl,g5⟩;rw[A6,wrap64 E E];apply AA (OJ (Ae.U_ h4 g5));rintro _ w6 ⟨rfl,g6⟩;rw[AR,wrap64 E E,BM];have Q:=(O.trans g5).trans g6;refine AE (λe=>⟨by rw[Cx e],Q⟩) λe=>⟨by rw[Bp e],Q⟩
def Ji(r:Int):X_:=if r<128 then[r] else if r<2048 then[192+r/64,128+r%64] else if r<65536 then[224+r/4096,128+r/64%64,128+r%64] else[240+r/262144,128+r/4096%64,128+r/64%64,128+r%64]
def Ez(l:X_):X_:=l.flatMap Ji
def Vm(r:Int):1<=(Ji r).length/\(Ji r).length<=4:=by
 unfold Ji;split;simp;split;simp;split<;>simp
def bG{r:Int}(h:Dc r):∀x∈Ji r,0<=x/\x<256:=by
 unfold Dc at h;unfold Ji;intro x i;split at i;simp at i;omega;split at i;simp at i;omega;split at i;simp at i;omega;simp at i;omega
def MJ(v:BF):X_:=uv v.kind.toNat++(if v.kind=1\/v.kind=2 then uv (H0 v.n) else if v.kind=3 then uv v.f.toNat else if v.kind=4 then uv v.s.size++CA v.s else[])
def FI(a:Attr):X_:=uv a.key.toNat++MJ a.val
def Ew(c:Chg):X_:=uv c.key.toNat++(if c.Ak then uv 0 else MJ c.val)
def Lt{α:Type}(f:α->X_)(l:List α):X_:=uv l.length++l.flatMap f
def QM(b:X_):X_:=uv b.length++b
def Ey(o:Dop):X_:=uv o.kind.toNat++(if o.kind=1 then uv o.n.toNat++Lt Ew o.patch else if o.kind=2 then QM (Ez o.AY)++Lt FI o.set else if o.kind=3 then uv o.n.toNat else[])
def Ui(x:V'):X_:=Lt Ey x
def Ub(v:BF):Prop:=((v.kind=1\/v.kind=2)/\(-9223372036854775808<=v.n/\v.n<=9223372036854775807)/\v.f=0/\v.s=⟨#[]⟩)\/(v.kind=3/\v.n=0/\(0<=v.f/\v.f<18446744073709551616)/\v.s=⟨#[]⟩)\/(v.kind=4/\v.n=0/\v.f=0/\v.s.size<9223372036854775808)
def Sl(k:Int):Prop:=0<=k/\k<9223372036854775808
def bM(a:Attr):Prop:=Sl a.key/\Ub a.val
def ab(c:Chg):Prop:=Sl c.key/\((c.Ak=true/\c.val=BF.zero)\/(c.Ak=false/\Ub c.val))
def Wm{α:Type}(R:α->Prop)(l:List α):Prop:=l.length<9223372036854775808/\∀x∈l,R x
def oh(m:Int)(o:Dop):Prop:=(o.kind=1/\(0<=o.n/\o.n<=m)/\o.AY=[]/\o.set=[]/\Wm ab o.patch)\/(o.kind=2/\o.n=0/\(∀r∈o.AY,Dc r)/\(Ez o.AY).length<9223372036854775808/\Wm bM o.set/\o.patch=[])\/(o.kind=3/\(0<=o.n/\o.n<=m)/\o.AY=[]/\o.set=[]/\o.patch=[])
abbrev TO:Dop->Prop:=oh 536870912
def Ub.kind{v:BF}(h:Ub v):1<=v.kind/\v.kind<=4:=by
 rcases h with⟨h,_⟩|⟨h,_⟩|⟨h,_⟩<;>omega
def TO.kind{m:Int}{o:Dop}(h:oh m o):1<=o.kind/\o.kind<=3:=by
 rcases h with⟨h,_⟩|⟨h,_⟩|⟨h,_⟩<;>omega
def gN(v:BF):X_:=if v.kind=1\/v.kind=2 then uv (H0 v.n) else if v.kind=3 then uv v.f.toNat else if v.kind=4 then uv v.s.size++CA v.s else[]
def mR(v:BF):MJ v=uv v.kind.toNat++gN v:=rfl
section
variable {b:X_}{p q r s:Nat}{bad vK vL vJ:Bool}
def hC(c:Bool×BF):X_:=if c.1 then uv 0 else MJ c.2
def jd(o:Dop):X_:=if o.kind=1 then uv o.n.toNat++Lt Ew o.patch else if o.kind=2 then QM (Ez o.AY)++Lt FI o.set else if o.kind=3 then uv o.n.toNat else[]
def de(o:Dop):Ey o=uv o.kind.toNat++jd o:=rfl
variable {m:Nat}
end
def HR(v:BF):Prop:=(-9223372036854775808<=v.n/\v.n<=9223372036854775807)/\(0<=v.f/\v.f<18446744073709551616)
def IH(o:Dop):Prop:=(∀a∈o.set,a.key<=9223372036854775807/\HR a.val)/\∀c∈o.patch,c.key<=9223372036854775807/\HR c.val
def IH.o{o:Dop}(h:IH o):oj o:=⟨λa ha=>(h.1 a ha).2.2.1,λc hc=>(h.2 c hc).2.2.1⟩
variable {ks:Y'}
abbrev vE(ks:Y')(l:W_):Prop:=GK ks l/\∀a∈l,a.key<=9223372036854775807/\HR a.val
abbrev vH(ks:Y')(p:Z_):Prop:=Ei ks p/\∀c∈p,c.key<=9223372036854775807/\HR c.val
abbrev Kl(ks:Y')(o:Dop):Prop:=PM (vE ks) (vH ks) o
def Kl.k{o:Dop}(h:Kl ks o):Ax ks o:=by
 rcases h with⟨h1,i,j,B,I⟩|h|⟨h1,i,j,B,I,J⟩;exact .inl ⟨h1,i,j,B,I.1⟩;exact .inr (.inl h);exact .inr (.inr ⟨h1,i,j,B,I,J.1⟩)
def Kl.b{o:Dop}(h:Kl ks o):IH o:=by
 rcases h with⟨h1,I,i,j,B⟩|⟨h1,I,i,j,B⟩|⟨h1,I,i,j,B,J⟩;exact⟨by rw[i];simp,B.2⟩;exact⟨by rw[i];simp,by rw[j];simp⟩;exact⟨J.2,by rw[j];simp⟩
def Ax.b{o:Dop}(h:Ax ks o)(hb:IH o):Kl ks o:=by
 rcases h with⟨h1,i,j,B,I⟩|h|⟨h1,i,j,B,I,J⟩;exact .inl ⟨h1,i,j,B,I,hb.2⟩;exact .inr (.inl h);exact .inr (.inr ⟨h1,i,j,B,I,J,hb.1⟩)
def EE.YE{v:BF}(h:EE v)(hi:HR v):Ub v:=by
 rcases h with⟨h1,i,j⟩|⟨h1,i⟩|⟨h1,i,_⟩|⟨h1,i,j,_⟩;exact .inl ⟨.inl h1,hi.1,by rw[i],by rw[i];rfl⟩;exact .inl ⟨.inr h1,hi.1,by rw[i],by rw[i];rfl⟩;exact .inr (.inl ⟨h1,by rw[i],hi.2,by rw[i];rfl⟩);exact .inr (.inr ⟨h1,by rw[i],by rw[i],E⟩)
def VQ(hk:∀k∈ks,0<=k.id){id:Int}(h:Bg ks id≠none):0<=id:=by
 obtain⟨k,h1,i⟩:=i7.1 (UU h);rw[<-i];exact hk k h1
def GK.YE(hk:∀k∈ks,0<=k.id){l:W_}(h:vE ks l):Wm bM l:=
 ⟨by have:=h.1.2.1;omega,λa ha=>by
  obtain ⟨h1,k,i,_⟩:=h.1.2.2 a ha;have j:=h.2 a ha;exact ⟨⟨VQ hk (by rw [i];simp),E⟩,h1.YE j.2⟩⟩
def Ei.YE(hk:∀k∈ks,0<=k.id){l:Z_}(h:vH ks l):Wm ab l:=
 ⟨by have:=h.1.2.1;omega,λc hc=>by
  obtain ⟨h1,j,o⟩:=h.1.2.2 c hc;have B:=h.2 c hc;refine ⟨⟨VQ hk o,E⟩,?_⟩;cases i:c.Ak;exact .inr ⟨rfl,(j i).1.YE B.2⟩;exact .inl ⟨rfl,h1 i⟩⟩
def Wo:∀l:X_,(Ez l).length<=l.length*4:=by
 intro l;induction l with
 |nil=>simp[Ez]
 |cons r l i=>
  have:=(Vm r).2;have e:Ez (r::l)=Ji r++Ez l:=rfl;rw[e,Ad,Hn];omega
def Kl.YE(hk:∀k∈ks,0<=k.id){o:Dop}(h:Kl ks o)(hl:Ao o<=536870912):TO o:=by
 unfold Ao at hl;rcases h with⟨h1,i,j,B,I⟩|⟨h1,i,j,B,I⟩|⟨h1,i,j,B,I,J⟩;rw[Bp E] at hl;exact .inl ⟨h1,E,i,j,Ei.YE hk I⟩;rw[Bp E] at hl;exact .inr (.inr ⟨h1,E,i,j,B⟩);rw[Cx h1] at hl;exact .inr (.inl ⟨h1,j,i,by have:=Wo o.AY;omega,GK.YE hk J,B⟩)
def Ax.QR{o:Dop}(h:Ax ks o)(hl:Ao o<=536870912):GG o:=by
 unfold Ao at hl;rcases h with⟨h1,B,i,j,I⟩|⟨h1,B,i,j,I⟩|⟨h1,B,i,j,I,J⟩;rw[Bp E] at hl;exact .inl ⟨h1,B,i,j,E⟩;rw[Bp E] at hl;exact .inr (.inl ⟨h1,B,i,j,I,E⟩);exact .inr (.inr ⟨h1,i,j,I⟩)
def Ax.tm{o:Dop}(h:Ax ks o):CO o=(Ao o:Int)-o.AY.length/\CV o=(Ao o:Int)-(if o.kind=3 then o.n else 0)/\0<=CO o/\CO o<=Ao o/\0<=CV o/\CV o<=Ao o:=by
 unfold CO CV Ao PA;rcases h with⟨h1,i,j,B,I⟩|⟨h1,i,j,B,I⟩|⟨h1,i,j,B,I,J⟩;rw[h1,i];simp;omega;rw[h1,i];simp;omega;rw[h1];simp
def rV{x:V'}(h:∀o∈x,Ax ks o/\Ao o<=536870912)(hl:x.length<=1048576):Dn CO x=(Aw x:Int)-BN x/\Dn CV x=(Aw x:Int)-De x:=by
 have j:=(Gm (f:=CO) (m:=536870912) B_ x (λo i=>by have:=(h o i).1.tm;have:=(h o i).2;omega) E).1;have B:=(Gm (f:=CV) (m:=536870912) B_ x (λo i=>by have:=(h o i).1.tm;have:=(h o i).2;omega) E).1;rw[j,B];clear j B hl;induction x with
 |nil=>simp[Aw,BN,De]
 |cons o x I=>
  obtain⟨J,O⟩:=I λo i=>h o (by simp[i]);have:=(h o D_).1.tm;simp[S4,wJ,Aw,BN,De] at J O ⊢;push_cast;omega
def SZ{x:V'}(h:∀o∈x,Ax ks o/\Ao o<=536870912)(ht:Dn CO x<=536870912)(hm:Dn CV x<=536870912):CU ks x=0:=by
 have B:∀o∈x,HT o/\GK ks o.set/\Ei ks o.patch:=λo j=>Ax.Mq (h o j).1 (h o j).2;unfold CU;rw[Bp,Bp];rintro⟨o,j,i|i⟩;exact i (E7.2 (B o j).2.1);exact i (Hi.2 (B o j).2.2);rintro(⟨o,j,i|i|i⟩|i|i);exact i (B o j).1;rw[E7.2 (B o j).2.1] at i;cases i;rw[Hi.2 (B o j).2.2] at i;cases i;omega;omega
def gR{x:V'}(h:CU ks x=0):Dn CO x<=536870912/\Dn CV x<=536870912:=by
 unfold CU at h;split at h;cases h;rename_i h1;exact⟨rT λi=>h1 (.inr (.inl E)),rT λi=>h1 (.inr (.inr E))⟩
def Sw{x:V'}(h:∀o∈x,Ax ks o):((BN x:Int)+De x<=Aw x)/\0<=De x:=by
 induction x with
 |nil=>simp[Aw,BN,De]
 |cons o x O=>
  have:=O λo j=>h o (by simp[j]);have j:=h o D_;simp[S4,wJ,Aw,BN,De,Ao] at this ⊢;push_cast;rcases j with⟨h1,i,B,I,J⟩|⟨h1,i,B,I,J⟩|⟨h1,i,B,I,J,Q⟩;rw[h1,i];simp;omega;rw[h1,i];simp;omega;rw[h1];simp;omega
def qG{x:V'}(h:∀o∈x,Ax ks o){z:Dop}(I:z∈x):(z.kind≠2->(Ao z:Int)+BN x<=Aw x)/\(z.kind=2->(Ao z:Int)+De x<=Aw x):=by
 induction x with
 |nil=>simp at I
 |cons o x U=>
  have Q:∀o∈x,Ax ks o:=λo j=>h o (by simp[j]);have hr:=Sw Q;have j:=h o D_;have B:=j.tm;have i:(o.AY.length:Int)<=Ao o/\(if o.kind=3 then o.n else 0)<=Ao o/\0<=(if o.kind=3 then o.n else 0)/\(o.kind≠2->o.AY.length=0)/\(o.kind=2->(if o.kind=3 then o.n else 0)=0):=by
   have:=B.2.2.1;have:=B.2.2.2.2.1;refine⟨E,E,?_,λe=>?_,λe=>by rw[e];rfl⟩;split;rcases j with⟨h1,_⟩|⟨_,_,_,_,V⟩|⟨h1,_⟩<;>omega;omega;rcases j with⟨_,J,_⟩|⟨_,J,_⟩|⟨h1,_⟩;rw[J];rfl;rw[J];rfl;exact(e h1).elim
  simp[S4,wJ,Aw,BN,De] at hr ⊢;push_cast;rcases I3.1 I with rfl|I;refine⟨λe=>?_,λe=>?_⟩;have:=i.2.2.2.1 e;omega;have:=i.2.2.2.2 e;omega;have O:=U Q I;simp[Aw,BN,De] at O;refine⟨λe=>?_,λe=>?_⟩;have:=O.1 e;omega;have:=O.2 e;omega
def K3(hk:∀k∈ks,0<=k.id){x:V'}(h:CU ks x=0)(hb:∀o∈x,IH o)(hl:x.length<=1048576) : CU ks (AL x)=0/\(∀z∈AL x,Kl ks z/\Ao z<=536870912)/\Wm TO (AL x)/\AL (AL x)=AL x/\(AL x).length<=x.length:=by
 have B:=Hs h;obtain⟨e1,e2⟩:=rV B hl;obtain⟨m1,m2⟩:=gR h;have X:=Sw λo j=>(B o j).1;have Q:∀o∈x,GG o:=λo j=>(B o j).1.QR (B o j).2;obtain⟨J,n2⟩:=OD x (λo j=>(B o j).1.b (hb o j)) E;obtain⟨U,V,Y⟩:=Hx x Q E;have O:∀z∈AL x,Ao z<=536870912:=by
  intro z i;have hr:=qG (λo j=>Kl.k (J o j)) i;rw[U,V] at hr;by_cases e:z.kind=2;have:=hr.2 e;omega;have:=hr.1 e;omega
 have I:∀z∈AL x,Ax ks z/\Ao z<=536870912:=λz i=>⟨Kl.k (J z i),O z i⟩;obtain⟨Z,f2⟩:=rV I E;rw[U] at Z;rw[V] at f2;exact⟨SZ I E E,λz i=>⟨J z i,O z i⟩,⟨E,λz i=>Kl.YE hk (J z i) (O z i)⟩,Xr x Q E,Y⟩
end
def BD(ks:Y'):Y_->V'->Y_
 |d,[]=>d
 |d,o::x=>if o.kind=1 then(d.take o.n.toNat).map (CD ks o.patch)++BD ks (d.drop o.n.toNat) x else if o.kind=2 then o.AY.map (λr=>(⟨r,o.set⟩:Cel))++BD ks d x else BD ks (d.drop o.n.toNat) x
def TW(ks:Y'):Y_->V'->Y_
 |d,[]=>d
 |d,o::x=>if o.kind=1 then(d.take o.n.toNat).map (CD ks o.patch)++TW ks (d.drop o.n.toNat) x else if o.kind=2 then TW ks d x else TW ks (d.drop o.n.toNat) x
def Ah:V'->Nat
 |[]=>0
 |o::x=>(if o.kind=2 then 0 else o.n.toNat)+Ah x
def Bf:V'->Nat
 |[]=>0
 |o::x=>(if o.kind=3 then 0 else if o.kind=2 then o.AY.length else o.n.toNat)+Bf x
def NA{x:V'}(j:∀o∈x,Ax ks o/\Ao o<=536870912)(hl:x.length<=1048576):Dn CO x=Ah x/\Dn CV x=Bf x:=by
 have B:∀o∈x,0<=CO o/\CO o<=536870912:=λo i=>by
  obtain⟨h1,J⟩:=j o i;obtain⟨_,_,a,b,_⟩:=h1.tf;exact⟨a,E⟩
 have I:∀o∈x,0<=CV o/\CV o<=536870912:=λo i=>by
  obtain⟨h1,J⟩:=j o i;obtain⟨_,_,_,_,a,b⟩:=h1.tf;exact⟨a,E⟩
 rw[(Gm (m:=536870912) B_ x B E).1,(Gm (m:=536870912) B_ x I E).1];clear hl B I;induction x with
 |nil=>exact⟨rfl,rfl⟩
 |cons o x O=>
  obtain⟨Q,U⟩:=O λo i=>j o (by simp[i]);obtain⟨h1,_⟩:=j o D_;rw[S4,wJ,Q,S4,wJ,U,Ah,Bf,CO,CV,PA];rcases h1 with⟨k,_,_,V,_⟩|⟨k,_,_,_,V⟩|⟨k,_⟩;simp[k,(B_:¬(1:Int)=2),(B_:¬(1:Int)=3)];omega;simp[k,(B_:¬(3:Int)=2),yE];omega;simp only[k,(B_:¬(2:Int)=3),xF,yE];omega
structure Dv (ks:Y') (x:V') (n:Nat) (most:Int):Prop where
 may:CU ks x=0
 Cs:∀o∈x,Ax ks o/\Ao o<=536870912
 Ct:1<=n/\(n:Int)<=most
 Gv:Ah x<=n
 EU:Bt n 0 x
 pl:∀o∈x,Cr ks o
 most:(n:Int)-Ah x+Bf x<=most
def Br{x:V'}{n:Nat}(hl:x.length<=1048576):BY ks x n most=0↔Dv ks x n most:=by
 classical
 unfold BY;constructor;intro h;split at h;rename_i hm;exact absurd h hm;rename_i hm;have i:CU ks x=0:=by simpa using hm
 have J:=Hs i;obtain⟨j,o⟩:=NA J hl;split at h;cases h;rename_i B;split at h;cases h;rename_i I;split at h;cases h;rename_i O;split at h;cases h;rename_i Q;rw[j] at B Q;rw[o] at Q;exact⟨i,J,⟨E,E⟩,E,yM.1 I,yM.1 O,E⟩;rintro⟨h1,U,V,X,B,I,O⟩;obtain⟨j,o⟩:=NA U hl;rw[Bp (by simp[h1]),Bp (by rw[j];omega),Bp (λh=>h B),Bp (λh=>h I),Bp (by rw[j,o];omega)]
def PT.of(B:∀k∈ks,Cq k){k:Int}{v:BF}(h1:Bg ks k≠none)(j:EE v\/v=BF.zero)(o:HR v):PT ⟨k,v⟩:=by
 obtain⟨y,I,e⟩:=i7.1 (UU h1);have i:=B y I;have k1:=i.1;have k2:=i.2.1;rw[e] at k1 k2;refine⟨⟨?_,?_⟩,?_,o.1,o.2,?_⟩;show _<=k;omega;show k<=_;omega;show 0<=v.kind/\v.kind<256;rcases j with(⟨h,_⟩|⟨h,_⟩|⟨h,_⟩|⟨h,_⟩)|h;rw[h];decide;rw[h];decide;rw[h];decide;rw[h];decide;rw[h];decide;show v.s.size<_;rcases j with(⟨_,h,_⟩|⟨_,h⟩|⟨_,h,_⟩|⟨_,_,h,_⟩)|h;rw[h];simp[HO,ByteArray.size];rw[h];simp[HO,ByteArray.size];rw[h];simp[HO,ByteArray.size];omega;rw[h];simp[BF.zero,HO,ByteArray.size]
def FM.of(i:∀k∈ks,Cq k){s:W_}(h:GK ks s)(j:∀a∈s,HR a.val):FM ks s:=by
 refine⟨h,λa ha=>?_⟩;obtain⟨h1,k,o,_⟩:=h.2.2 a ha;exact PT.of i (by rw[o];simp) (.inl h1) (j a ha)
def Jq.of(j:∀k∈ks,Cq k){p:Z_}(h:Ei ks p)(o:∀c∈p,HR c.val):Jq ks p:=by
 refine⟨h,λc hc=>?_⟩;obtain⟨h1,B,I⟩:=h.2.2 c hc;refine PT.of j I ?_ (o c hc);cases i:c.Ak with
 |true=>exact .inr (h1 i)
 |false=>exact .inl (B i).1
def ug(B:∀k∈ks,Cq k){o:Dop}(h:Ax ks o)(I:(∀a∈o.set,HR a.val)/\∀c∈o.patch,HR c.val):FM ks o.set/\Jq ks o.patch:=by
 rcases h with⟨_,_,i,_,J⟩|⟨_,_,i,j,_⟩|⟨_,_,_,j,_,O⟩;exact⟨by rw[i];exact FM.nil,Jq.of B J I.2⟩;exact⟨by rw[i];exact FM.nil,by rw[j];exact Jq.nil⟩;exact⟨FM.of B O I.1,by rw[j];exact Jq.nil⟩
def Og{o:Dop}(hk:o.kind=2)(U:GK ks o.set)(hp:Cr ks o):o.AY.map (GO ks o.set)=o.AY.map λr=>(⟨r,o.set⟩:Cel):=by
 by_cases I:o.set=[];rw[I];rfl;refine yj λr hr=>?_;unfold GO;have j:∀a∈o.set,∃k,Bg ks a.key=some k:=λa ha=>by
  obtain⟨_,k,h,_⟩:=U.2.2 a ha;exact⟨k,h⟩
 by_cases J:0<(Ce ks true o.set).length\/0<Bj o.AY;obtain⟨V,X⟩:=hp hk I J;have Q:Ce ks true o.set=o.set:=wy.2 (List.length_filter_eq_length_iff.1 V);have Y:∀r∈o.AY,r=10:=λr hr=>by
  have:=(List.count_eq_length.1 X) r hr;exact this.symm
 rw[Y r hr,TC rfl,Q];have h1:(Ce ks true o.set).length=0:=E;have Z:Bj o.AY=0:=E;have O:r≠10:=λe=>aAi.1 Z (e▸hr);have Q:Ce ks false o.set=o.set:=wy.2 λa ha=>by
  obtain⟨k,hk⟩:=j a ha;have B:=xY.1 (Kx h1) a ha;unfold FU at B ⊢;rw[hk] at B ⊢;have i:¬decide (k.block=true)=true:=B;show decide (k.block=false)=true;cases hb:k.block with
  |true=>rw[hb] at i;exact absurd rfl i
  |false=>rfl
 rw[WL O,Q]
def gY{n:Nat}:∀{x:V'} {d:Y_},(∀o∈x,Ax ks o)->Ah x<=d.length->d.length<=n->Bt n ((n:Int)-d.length) x->(BA d).getLast?=some 10->(BA (TW ks d x)).getLast?=some 10:=by
 intro x;induction x with
 |nil=>intro d _ _ _ _ h;exact h
 |cons o x J=>
  intro d X ht Y j hl;have O:=X o D_;have B:∀o∈x,Ax ks o:=λo Z=>X o (by simp[Z]);rw[Ah] at ht;rw[Bt] at j;rw[TW];have i:∀m:Nat,m<d.length->(BA (d.drop m)).getLast?=some 10:=λm hm=>by
   rw[BA,wk,y7,Bp (by rw[FA];omega)];exact hl
  rcases O with⟨k,_,_,n1,_⟩|⟨k,_,_,_,n1⟩|⟨k,_⟩;rw[Cx k];rw[Bp E] at ht;rw[Bp E,Bp E] at j;by_cases hm:o.n.toNat<d.length;have:=J B (d:=d.drop o.n.toNat) (by rw[FB];omega) (by rw[FB];omega) (by rw[FB,(E:(n:Int)-((d.length-o.n.toNat:Nat):Int)=(n:Int)-d.length+o.n)];exact j) (i _ hm);rw[BA,S7,R0];rw[BA] at this;rw[this];rfl;have Q:x=[]:=by
   cases x with
   |nil=>rfl
   |cons o' x=>
    exfalso;have I:=B o' D_;rw[Ah] at ht;rw[Bt] at j;rcases I with⟨U,_,_,V,_⟩|⟨U,_,_,_,V⟩|⟨U,_⟩;rw[Bp E] at ht;omega;rw[Bp E] at ht;omega;rw[Cx U] at j;exact j.1 E
  subst Q;rw[TW,xB E,Ty,wM E,BA,xn];exact hl;rw[Bp E,Bp E];rw[Bp E] at ht;rw[Bp E,Cx k] at j;have hm:o.n.toNat<d.length:=E;exact J B (by rw[FB];omega) (by rw[FB];omega) (by rw[FB,(E:(n:Int)-((d.length-o.n.toNat:Nat):Int)=(n:Int)-d.length+o.n)];exact j.2) (i _ hm);rw[Bp E,Cx k];rw[Cx k] at ht j;exact J B E Y j.2 hl
def mg:∀{x:V'} {d:Y_},(TW ks d x).length<=d.length:=by
 intro x;induction x with
 |nil=>intro d;exact HK _
 |cons o x i=>
  intro d;rw[TW];split;rw[Ad,FA,K8];have:=i (d:=d.drop o.n.toNat);rw[FB] at this;omega;split;exact i;have:=i (d:=d.drop o.n.toNat);rw[FB] at this;omega
def IV:∀{x:V'} {d:Y_},(∀o∈x,Ax ks o)->Ah x<=d.length->(BD ks d x).length+Ah x=d.length+Bf x:=by
 intro x;induction x with
 |nil=>intro d _ _;rfl
 |cons o x j=>
  intro d B ht;have i:∀o∈x,Ax ks o:=λo I=>B o (by simp[I]);rw[Ah] at ht ⊢;rw[BD,Bf];rcases B o D_ with⟨k,_,_,J,_⟩|⟨k,_,_,_,J⟩|⟨k,_⟩;simp only[k,(B_:¬(1:Int)=2),(B_:¬(1:Int)=3),yE,xF] at ht ⊢;rw[Ad,FA,K8];have:=j i (d:=d.drop o.n.toNat) (by rw[FB];omega);rw[FB] at this;omega;simp[k,(B_:¬(3:Int)=2),(B_:¬(3:Int)=1),xF] at ht ⊢;have:=j i (d:=d.drop o.n.toNat) (by rw[FB];omega);rw[FB] at this;omega;simp only[k,(B_:¬(2:Int)=3),(B_:¬(2:Int)=1),yE,xF] at ht ⊢;rw[Ad,FA];have:=j i (d:=d) E;omega
def Hy.Rk(o:ks.length<=64){p:Z_}(h:Hy ks d)(hp:Jq ks p){i j:Nat}(B:i<=j):Hy ks (Rk d i j (CD ks p)):=by
 refine⟨λc hc=>?_,by rw[eM d (CD ks p) B I_];exact h.Jr⟩;unfold Go.Proofs.YtlmjclmngedmkaaGreatDoor.Rk at hc;rcases DN.1 hc with hc|hc;rcases DN.1 hc with hc|hc;exact h.set c (aO hc);obtain⟨c0,I,rfl⟩:=i7.1 hc;exact(h.set c0 (aO (aR I))).KM o (hp.part _);exact h.set c (aR hc)
def Tw{a b:Y_}(hb:b≠[]):(BA (a++b)).getLast?=(BA b).getLast?:=by
 rw[BA,S7,R0];cases h:(b.map Cel.r).getLast? with
 |none=>rw[xK,yk] at h;exact absurd h hb
 |some x=>rfl
def om{b:Y_}(h:(BA b).getLast?=some 10):b≠[]:=λe=>by rw[e] at h;cases h
def CK(B:Nat)(x:V'):Nat:=2*x.length*(22*B+50)
def DG:V'->Nat
 |[]=>0
 |o::x=>(if o.kind=2 then o.AY.length else 0)+DG x
def FD:∀x:V',DG x<=Bf x/\Bf x<=DG x+Ah x:=by
 intro x;induction x with
 |nil=>exact⟨HK _,HK _⟩
 |cons o x j=>
  rw[DG,Bf,Ah];by_cases i:o.kind=2;rw[Cx i,Bp E,Cx i,Cx i];omega;rw[Bp i,Bp i,Bp i];split<;>omega
section
variable {w0:e_}{F:f_}{W:e_}{a:TxA}{σ:SKs}{most:Int}{N:Nat}{d:Y_}
def Xx{S D:f_}{x:V'}(h:IM .f w0 F W a σ most d N)(hT:DV w0)(hG:Hy σ.ks d)(bl:σ.ks.length<=64)(hK:∀k∈σ.ks,Cq k)(hx:Ae S D W v x)(al:∀y,S y\/D y->¬F y)(hI:∀o∈x,IH o) (hl:x.length<=1048576)(ec:d.length<=B)(hB:Dv σ.ks x d.length most->d.length+DG x<=B)(ed:B<=1000000)(hN:N+CK B x<=1000000000) : AF prog 79 [g_ a.b,v] (λv' w'=>v'=zI (BY σ.ks x d.length most)/\PC .f w0 F W w' a σ most (if BY σ.ks x d.length most=0 then BD σ.ks d x else d) (N+CK B x)/\(BY σ.ks x d.length most=0->Hy σ.ks (BD σ.ks d x))) W:=by
 refine G_ func79 ?_ (.y (.y (.z (.x (.dm [6,11] [0,1,3,7,0,0,32,0,128,384,896,2047,4095])) (.y (.z (.y (.node [6,31] [(6,6),(8,8),(31,61)] .nil .nil)) (.y (.x (.y (.node [6,64] [(6,6),(10,10),(64,90)] (.y (.y (.x (.y (.cut [6] [(6,6),(68,74)] .nil .nil))))) .nil)))))))));apply AA (FW h.box.1);rintro _ _ ⟨rfl,rfl⟩;rename e_=>W;rw[Aq];apply AS;have gd:AI W W.drew:=AK.drew _ _;have hd:=h.U_ gd;apply Ag (λ_ _=>False);apply AJ;rw[AB,AH];apply AU ⟨hd.box.1.cells 0 _ rfl,C0⟩;obtain⟨l1,Fr,bt,cc,hO⟩:=hd.Jk;apply AA (dZ hd.box.1 hO);rintro _ W1 ⟨rfl,g1⟩;have ch:(CE l1).length=d.length:=by rw[cc,BA,FA]
 rw[ch];refine⟨g1.mono E',?_⟩;apply AJ;rw[AB,AH];apply AU ⟨hd.box.1.cells 1 _ rfl,C0⟩;have h1:=hd.U_ g1;have bp:=gd.trans g1;have cu:Ae (λy=>S y/\y<W.heap.size) (λy=>D y/\y<W.heap.size) W v x:=BC.sub hx (λy hy hs=>⟨hs,hy⟩) B_ λr o ho=>ho.U' l_ F_ λy hy hd=>⟨hd,hy⟩;have bs:=Ae.U_ cu bp;apply AA (UL h1.Iy.1 bs (hT.U_ h1.g) (λo ho=>(hI o ho).o) hl E);rintro _ W2 ⟨rfl,g2⟩;refine⟨g2.mono E',?_⟩;have b8:=bp.trans g2;have h2:=h1.U_ g2;have b9:=Ae.U_ bs g2;rw[BH];refine AT (λe0=>?_) λe0=>⟨rfl,by rw[Bp e0];exact PC.up ⟨F,J_,h2,b8.mono E'⟩ E,λe=>absurd e e0⟩;rw[Cx e0,e0];have hF:=(Br hl).1 e0;have hB:=hB hF;have ay:∀o∈x,Ax σ.ks o:=λo ho=>(hF.Cs o ho).1;have c4:∀o∈x,FM σ.ks o.set/\Jq σ.ks o.patch:=λo ho=>ug hK (ay o ho) ⟨λa ha=>((hI o ho).1 a ha).2,λc hc=>((hI o ho).2 c hc).2⟩;obtain⟨va,vc,rfl,hm⟩:=b9.AO;simp[maxLen] at hm;rw[AP];have ee:=b8.size;have b6:∀{F':f_} {W':e_},(∀y,F' y->F y\/W2.heap.size<=y)->∀y,(S y/\y<W.heap.size)\/(D y/\y<W.heap.size)->¬F' y:=λcx y hy e=>by
  rcases cx y e with e|e;exact al y (hy.imp aAN aAN) e;rcases hy with hy|hy;have:=hy.2;omega;have:=hy.2;omega
 let G:Nat:=22*B+50
 have dj:CK B x=2*x.length*G:=rfl;have b7:∀i,i<=x.length->i*G<=x.length*G:=λi hi=>wj _ hi;have X:∀i,(i+1)*G=i*G+G:=λi=>by rw[wF,Nat.one_mul]
 have dk:2*x.length*G=x.length*G+x.length*G:=by rw[Nat.mul_assoc,Nat.two_mul]
 refine AX (λvs W'=>∃ (i:Nat) (I J:Y_) (F':f_),i<=x.length/\vs=[zI (I.length:Int),zI i]/\(∀ y,F' y->F y\/W2.heap.size<=y)/\IM .f w0 F' W' a σ most (I++J) (N+i * G)/\AK F W2 W'/\Hy σ.ks (I++J)/\
   I++TW σ.ks J (x.drop i)=TW σ.ks d x/\Ah (x.drop i)<=J.length/\J.length<=d.length/\Bt d.length ((d.length:Int) - J.length) (x.drop i)/\I.length+J.length<=d.length) (λvs _=>x.length - Di vs 1)
  ⟨0,[],d,F,Hw _,rfl,J_,h2.up E,AK.refl _ _,hG,rfl,hF.Gv,HK _,by rw[y8];exact hF.EU,D_⟩ ?_
 rintro vs W3 ⟨i,I,J,F3,hi,rfl,f3,h3,M3,U,Q,a1,an,V,Y⟩ _;simp only[Iu];rw[As];have z3:=M3.size;have b0:Ae (λy=>S y/\y<W.heap.size) (λy=>D y/\y<W.heap.size) W3 (.slice va x.length vc) x:=Ae.U' b9 M3 (λy _ hy e=>al y (.inl hy.1) e) (λy _ hy e=>al y (.inr hy.1) e);refine AE (λdr=>?_) λdT=>?_;have O:i<x.length:=E;have ba:=b7 (i+1) O;rw[X] at ba;obtain⟨q,r,rfl,hS,hr,hc,a7⟩:=b0.get O;refine AW O (Ab hr m_ ?_);refine BJ hr rfl a7.one λb W4 hb e6 g4 Z _=>?_;obtain⟨rv,sv,pv,rfl,o1,o2,o3⟩:=id a7;have h4:=h3.U_ g4;have z4:=g4.size;rw[wT O] at Q a1 V;rw[Ah] at a1;rw[Bt] at V;rw[TW] at Q;have aa:=Q0 O;have ak:AK F W2 W4:=M3.next g4 E';have bb:∀{W5:e_},AK F3 W4 W5->∀(j:Nat) (u:d_),[Value.int .u8 x[i].kind,zI x[i].n,rv,sv,pv][j]?=some u->W5.cell? ((⟨b,0,none⟩:Addr).add j)=some u:=λhm j u hu=>hm.cell (Z j u hu) λe=>by rw[Av] at e;have:=(h3.hl _ e).2.1;simp only at this;omega
 have YO:∀{W5:e_},AK F3 W4 W5->AK F W2 W5:=λhm=>ak.next hm λy hy e=>by
  rcases f3 y e with e|e;exact e;omega
 rw[AB];apply AD (Z 0 _ rfl);rw[Aj];rcases ay x[i] aa with⟨k,e1,e2,n1,e4⟩|⟨k,e1,e2,e3,n1⟩|⟨k,e1,e2,e3,e4,e5⟩;refine AE (λ_=>?_) λe=>absurd k e;rw[Bp E] at a1;rw[Bp E,Bp E] at V;rw[Cx k] at Q;have en:x[i].n=(x[i].n.toNat:Int):=E;generalize hn:x[i].n.toNat=n at *;rw[AB];apply AD (Z 1 _ rfl);rw[en,AR,wrap64 E E,(E:((I.length:Int)+(n:Int))=((I.length+n:Nat):Int)),AB];apply AD (Z 4 _ rfl);have c6:=(c4 x[i] aa).2;refine AA (jP (i:=I.length) (j:=I.length+n) h4 hT U bl E (by rw[Ad];omega) (o3.U_ g4 B_ C0) (λy hy=>(b6 (W':=W4) f3) y (.inr hy)) c6 (by rw[Ad];omega) (by rw[Ad];show N+i*G+22*_+50<=_;have:G=22*B+50:=rfl;omega)) ?_;rintro _ W5 ⟨rfl,F5,f5,h5,M5⟩;rw[AB];apply AD (bb M5 1 _ rfl);rw[en,AR,wrap64 E E,(E:((I.length:Int)+(n:Int))=((I.length+n:Nat):Int)),AR,AM E];have av:Rk (I++J) I.length (I.length+n) (CD σ.ks x[i].patch)=(I++(J.take n).map (CD σ.ks x[i].patch))++J.drop n:=by
  unfold Rk;rw[y9 rfl,yP,wM E,(E:I.length+n-I.length=n),yW rfl,yQ,xB E,(E:I.length+n-I.length=n),u7]
 have c7:=U.Rk bl c6 (i:=I.length) (j:=I.length+n) E;rw[av] at h5 c7;have ll:(I++(J.take n).map (CD σ.ks x[i].patch)).length=I.length+n:=by rw[Ad,FA,K8];omega
 refine⟨⟨i+1,I++(J.take n).map (CD σ.ks x[i].patch),J.drop n,F5,O,by rw[ll],λy hy=>?_,h5.up ?_,YO M5,c7,by rw[Mp];exact Q,by rw[FB];omega,by rw[FB];omega,?_,by rw[ll,FB];omega⟩,by rw[BE,BE];omega⟩;rcases f5 y hy with e|e;exact f3 y e;exact .inr E;rw[X,Ad];show _<=N+(i*G+(22*B+50));omega;rw[FB,(E:(d.length:Int)-((J.length-n:Nat):Int)=(d.length:Int)-J.length+x[i].n)];exact V;refine AE E λ_=>?_;rw[Aj];refine AE (λ_=>?_) λe=>absurd k e;rw[Bp E] at a1;rw[Bp E,Cx k] at V;rw[Bp E,Bp E] at Q;have en:x[i].n=(x[i].n.toNat:Int):=E;generalize hn:x[i].n.toNat=n at *;have a8:n<J.length:=E;rw[AB];apply AD (Z 1 _ rfl);rw[en,AR,wrap64 E E,(E:((I.length:Int)+(n:Int))=((I.length+n:Nat):Int))];refine AA (jL (i:=I.length) (j:=I.length+n) h4 E (by rw[Ad];omega) (by rw[Ad];omega) (by have:G=22*B+50:=rfl;omega)) ?_;rintro _ W5 ⟨rfl,F5,f5,h5,M5⟩;rw[AR,AM E];have av:(I++J).take I.length++(I++J).drop (I.length+n)=I++J.drop n:=by
  rw[y9 rfl,yQ,xB E,(E:I.length+n-I.length=n),u7]
 rw[av] at h5;have bk:J≠[]:=λe=>by rw[e] at a8;simp at a8
 have MU:J.drop n≠[]:=λe=>by have:=tZ List.length e;rw[FB] at this;simp at this;omega
 have c8:=U.Jr;rw[Tw bk] at c8;refine⟨⟨i+1,I,J.drop n,F5,O,rfl,λy hy=>?_,h5.up ?_,YO M5,⟨λc hc=>U.set c ?_,?_⟩,Q,by rw[FB];omega,by rw[FB];omega,?_,by rw[FB];omega⟩,by rw[BE,BE];omega⟩;rcases f5 y hy with e|e;exact f3 y e;exact .inr E;rw[X];show _<=N+(i*G+(22*B+50));omega;rcases DN.1 hc with hc|hc;exact oJ _ hc;exact py _ (aR hc);rw[Tw MU,BA,wk,y7,Bp (by rw[FA];omega)];exact c8;rw[FB,(E:(d.length:Int)-((J.length-n:Nat):Int)=(d.length:Int)-J.length+x[i].n)];exact V.2;refine AE E λ_=>?_;rw[Aj];refine AE E λ_=>?_;rw[Cx k] at a1 V;rw[Bp E,Cx k] at Q;rw[AR,AM E];exact⟨⟨i+1,I,J,F3,O,rfl,f3,h4.up (by rw[X];omega),ak,U,Q,E,an,V.2,Y⟩,by rw[BE,BE];omega⟩;obtain rfl:i=x.length:=E;rw[xq,TW] at Q;rw[Q] at h3 U;clear Q a1 an V Y;have e7:∀y:V',∀o∈y,o.kind=2->o.AY.length<=DG y:=by
  intro y;induction y with
  |nil=>intro o ho;cases ho
  |cons o' y ih=>
   intro o ho hk;rw[DG];rcases I3.1 ho with rfl|ho;rw[Cx hk];omega;have:=ih o ho hk;omega
 rw [AP];refine AX (λvs W'=>∃ (i:Nat) (I J:Y_) (F':f_),i<=x.length/\vs=[zI (I.length:Int),zI i]/\(∀ y,F' y->F y\/W2.heap.size<=y)/\IM .f w0 F' W' a σ most (I++TW σ.ks J (x.drop i)) (N+x.length * G+i * G)/\AK F W2 W'/\Hy σ.ks (I++TW σ.ks J (x.drop i))/\
   I++BD σ.ks J (x.drop i)=BD σ.ks d x/\Ah (x.drop i)<=J.length/\J.length<=d.length/\Bt d.length ((d.length:Int) - J.length) (x.drop i)/\(J≠[]->(BA J).getLast?=some 10)/\I.length+J.length+DG (x.drop i)<=d.length+DG x) (λvs _=>x.length - Di vs 1)
  ⟨0,[],d,F3,Hw _,rfl,f3,h3.up E,M3,U,rfl,hF.Gv,HK _,by rw[y8];exact hF.EU,λ_=>hG.Jr,D_⟩ ?_
 clear b0 U h3 f3 M3 z3;rintro vs W3 ⟨i,I,J,F3,hi,rfl,f3,h3,M3,U,Q,a1,an,V,a6,Y⟩ _;simp only[JS,wL];rw[As];have z3:=M3.size;have b0:Ae (λy=>S y/\y<W.heap.size) (λy=>D y/\y<W.heap.size) W3 (.slice va x.length vc) x:=Ae.U' b9 M3 (λy _ hy e=>al y (.inl hy.1) e) (λy _ hy e=>al y (.inr hy.1) e);refine AE (λdr=>?_) λdT=>?_;rotate_left;obtain rfl:i=x.length:=E;rw[xq] at h3 Q U;rw[TW] at h3 U;rw[BD] at Q;rw[Q] at h3 U;refine⟨trivial,PC.next J_ (b8.mono E') (PC.up ⟨F3,f3,h3,M3⟩ (by rw[dj,dk];omega)),λ_=>U⟩;have O:i<x.length:=E;have ba:=b7 (i+1) O;rw[X] at ba;obtain⟨q,r,rfl,hS,hr,hc,a7⟩:=b0.get O;refine AW O (Ab hr m_ ?_);refine BJ hr rfl a7.one λb W4 hb e6 g4 Z _=>?_;obtain⟨rv,sv,pv,rfl,o1,o2,o3⟩:=id a7;have h4:=h3.U_ g4;have z4:=g4.size;rw[wT O] at Q a1 V h4 U Y;rw[Ah] at a1;rw[DG] at Y;rw[Bt] at V;rw[TW] at h4 U;rw[BD] at Q;have aa:=Q0 O;have ak:AK F W2 W4:=M3.next g4 E';rcases ay x[i] aa with⟨k,e1,e2,n1,e4⟩|⟨k,e1,e2,e3,n1⟩|⟨k,e1,e2,e3,e4,e5⟩;simp only[k,(B_:¬(1:Int)=2),(B_:¬(1:Int)=3),yE,xF] at a1 Y V h4 U Q;have en:x[i].n=(x[i].n.toNat:Int):=E;generalize hn:x[i].n.toNat=n at *;have ll:(I++(J.take n).map (CD σ.ks x[i].patch)).length=I.length+n:=by rw[Ad,FA,K8];omega
 refine AV (λvs W'=>vs=[zI ((I.length+n:Nat):Int)]/\W'=W4) ?_ ?_;rintro _ _ ⟨rfl,rfl⟩ _;rw[AB];apply AD (Z 0 _ rfl);rw[Aj];refine AE E λ_=>?_;rw[JS,AR,AM E];refine⟨⟨i+1,I++(J.take n).map (CD σ.ks x[i].patch),J.drop n,F3,O,by rw[ll],f3,by rw[Mp];exact h4.up (by rw[X];omega),ak,by rw[Mp];exact U,by rw[Mp];exact Q,by rw[FB];omega,by rw[FB];omega,?_,λc9=>?_,by rw[ll,FB];omega⟩,by rw[BE,BE];omega⟩;rw[FB,(E:(d.length:Int)-((J.length-n:Nat):Int)=(d.length:Int)-J.length+x[i].n)];exact V;have a8:n<J.length:=Nat.lt_of_not_le λe=>c9 (xB e);rw[BA,wk,y7,Bp (by rw[FA];omega)];exact a6 λe=>by rw[e] at a8;simp at a8
 rw[AB];apply AD (Z 0 _ rfl);rw[Aj];refine AE (λ_=>?_) λe=>absurd k e;rw[AB];apply AD (Z 1 _ rfl);rw[en,AR,wrap64 E E];exact⟨by rw[(E:((I.length:Int)+(n:Int))=((I.length+n:Nat):Int))],rfl⟩;simp only[k,(B_:¬(3:Int)=2),(B_:¬(3:Int)=1),yE,xF] at a1 Y V h4 U Q;have en:x[i].n=(x[i].n.toNat:Int):=E;generalize hn:x[i].n.toNat=n at *;have a8:n<J.length:=E;refine AV (λvs W'=>vs=[zI (I.length:Int)]/\W'=W4) ?_ ?_;rintro _ _ ⟨rfl,rfl⟩ _;rw[AB];apply AD (Z 0 _ rfl);rw[Aj];refine AE E λ_=>?_;rw[JS,AR,AM E];refine⟨⟨i+1,I,J.drop n,F3,O,rfl,f3,h4.up (by rw[X];omega),ak,U,Q,by rw[FB];omega,by rw[FB];omega,?_,λc9=>?_,by rw[FB];omega⟩,by rw[BE,BE];omega⟩;rw[FB,(E:(d.length:Int)-((J.length-n:Nat):Int)=(d.length:Int)-J.length+x[i].n)];exact V.2;rw[BA,wk,y7,Bp (by rw[FA];omega)];exact a6 λe=>by rw[e] at a8;simp at a8
 rw[AB];apply AD (Z 0 _ rfl);rw[Aj];exact AE E λ_=>⟨rfl,rfl⟩;simp[k,(B_:¬(2:Int)=3),(B_:¬(2:Int)=1),xF] at a1 Y V h4 U Q;obtain⟨sG,_⟩:=c4 x[i] aa;have ea:=e7 x x[i] aa k;have bk:J≠[]:=λe=>V.1 (by rw[e];simp);have ax:=gY (ks:=σ.ks) (n:=d.length) (x:=x.drop (i+1)) (d:=J) (λo ho=>ay o (aR ho)) E an V.2 (a6 bk);have ef:=mg (ks:=σ.ks) (x:=x.drop (i+1)) (d:=J);obtain⟨ra,rc,e8,e9⟩:=o1.AO;simp only[maxLen] at e9;refine AV (λvs W'=>vs=[zI (I.length:Int)]/\W'=W4) ?_ ?_;rintro _ _ ⟨rfl,rfl⟩ _;rename e_=>W4;rw[AB];apply AD (Z 0 _ rfl);rw[Aj];refine AE (λ_=>?_) λe=>absurd k e;rw[AB];apply AD (Z 2 _ rfl);rw[AB];apply AD (Z 3 _ rfl);rw[JS];refine AA (Ut (at':=I.length) (S:=λy=>D y/\y<W.heap.size) h4 hT (by rw[Ad];omega) (o1.U_ g4 B_ C0) (o2.U_ g4 B_ C0) (λy hy=>(b6 (W':=W4) f3) y (.inr hy)) e1 (E7.2 (sG.part false).1) sG.2 sG.len (by rw[Ad];omega) (by have:G=22*B+50:=rfl;omega)) ?_;rintro _ W5 ⟨rfl,F5,f5,h5,M5⟩;rw[AB];refine AD (M5.cell (Z 2 _ rfl) λe=>by rw[Av] at e;have:=(h3.hl _ e).2.1;simp only at this;omega) ?_;rw[e8,AP,AR,wrap64 E E,(E:((I.length:Int)+(x[i].AY.length:Int))=((I.length+x[i].AY.length:Nat):Int)),AR,AM E];have ca:(I++TW σ.ks J (x.drop (i+1))).take I.length++x[i].AY.map (GO σ.ks x[i].set)++(I++TW σ.ks J (x.drop (i+1))).drop I.length=(I++x[i].AY.map λr=>(⟨r,x[i].set⟩:Cel))++TW σ.ks J (x.drop (i+1)):=by
  rw[y9 rfl,yW rfl,Og k sG.1 (hF.pl x[i] aa)]
 rw[ca] at h5;have ll:(I++x[i].AY.map λr=>(⟨r,x[i].set⟩:Cel)).length=I.length+x[i].AY.length:=by rw[Ad,FA]
 refine⟨⟨i+1,I++x[i].AY.map λr=>(⟨r,x[i].set⟩:Cel),J,F5,O,by rw[ll],λy hy=>?_,h5.up ?_,?_,⟨λc hc=>?_,?_⟩,by rw[Mp];exact Q,E,an,V.2,a6,by rw[ll];omega⟩,by rw[BE,BE];omega⟩;rcases f5 y hy with e|e;exact f3 y e;exact .inr E;rw[X];show _<=N+x.length*G+(i*G+(22*B+50));omega;refine ak.next M5 λy hy e=>?_;rcases f3 y e with e|e;exact e;omega;rcases DN.1 hc with hc|hc;rcases DN.1 hc with hc|hc;exact U.set c (oJ _ hc);obtain⟨r,_,rfl⟩:=i7.1 hc;exact sG;exact U.set c (py _ hc);rw[Tw (om ax)];exact ax;rw[AB];apply AD (Z 0 _ rfl);rw[Aj];exact AE E λ_=>⟨rfl,rfl⟩
end
def HG(A B:Nat)(W:e_)(ov:d_)(l:Y_):Prop:=∃D:f_,AG B 69 2 (Hp D) W ov l/\∀x,D x->A<=x/\x<W.heap.size/\ov.ownBlock≠some x
def HG.nil{A B:Nat}:HG A B W i_ []:=⟨λ_=>False,AG.nil,K_⟩
def HG.U_{A B:Nat}{l:Y_}(h:HG A B W v l)(g:AI W W'):HG A B W' v l:=by
 obtain⟨D,h1,j⟩:=h;have:=g.size;exact⟨D,AG.U' h1 g C0 λr x _ i=>i.U' g F_ C0,λx i=>⟨(j x i).1,by have:=(j x i).2.1;omega,(j x i).2.2⟩⟩
def HG.U'{A B:Nat}{l:Y_}(h:HG A B W v l)(g:AK M W W')(o:∀x,M x->x<A/\x<B):HG A B W' v l:=by
 obtain⟨D,h1,j⟩:=h;have:=g.size;exact⟨D,AG.U' h1 g (λx i e=>by have:=(AG.Az h1 x i).1;have:=(o x e).2;omega) λr x _ i=>i.U' g (λb _ hb e=>by have:=(j b hb).1;have:=(o b e).1;omega) C0,λx i=>⟨(j x i).1,by have:=(j x i).2.1;omega,(j x i).2.2⟩⟩
def HG.rd{A B:Nat}{l:Y_}(h:HG A B W v l)(j:A<=B):BS (λx=>A<=x/\x<W.heap.size) (λx=>A<=x/\x<W.heap.size) W v l:=by
 obtain⟨D,h1,o⟩:=h;exact BC.sub (AG.sl h1) (λx i h=>⟨by have:=h.1;omega,i⟩) B_ λr x i=>i.U' l_ F_ λb hb h=>⟨(o b h).1,hb⟩
def Np{A B:Nat}{l:Y_}{c:Cel}{D':f_}(h:HG A B W fr l)(X:B<=W.heap.size)(U:CI D' W sv c.set)(I:∀x,D' x->A<=x/\x<W.heap.size/\fr.ownBlock≠some x)(hl:l.length<=1099511627776) (Y:∀i W',HG A B W' i (l++[c])->AK (λb=>fr.ownBlock=some b) W W'->(∀g,i.ownBlock=some g->fr.ownBlock=some g\/W.heap.size<=g)->K i W') : Eb 69 2 1 [(.int .i32 0),i_] [(0,.agg #[.int .i32 c.r,sv])] (λs V=>runK prog (Builtin.append_ #[23,23] 23 [fr,s].toArray) K V) W:=by
 obtain⟨D,h1,Z⟩:=h;obtain⟨sa,sc,J,_⟩:=U.AO;have hb:∀x,(D x\/D' x)->A<=x/\x<W.heap.size/\fr.ownBlock≠some x:=λx j=>j.elim (Z x) (I x);have O:AG B 69 2 (Hp λx=>D x\/D' x) W fr l:=AG.U' h1 l_ C0 λr x _ j=>j.U' l_ F_ λ_ _ h=>.inl h;have a1:sv.cells=#[sv]:=by rw[J];rfl
 refine FL VN O X (cs:=[.int .i32 c.r,sv]) (x:=c) (Dj (v:=.agg #[.int .i32 c.r,sv]) rfl B_ rfl rfl) rfl ⟨sv,rfl,U.sub (λ_ _ h=>.inr h) B_ C0⟩ (λ_ _ _ h=>h.one) (λV w2 r y hz hm hy=>hy.U' hm (λb _ j e=>?_) C0) E L_ λi W' o m n=>?_;obtain⟨_,t2,Q⟩:=hb b j;rcases e with e|e;exact Q e;omega;refine Y i W' ⟨_,o,λx j=>?_⟩ m n;obtain⟨t1,t2,Q⟩:=hb x j;have zm:=m.size;refine⟨t1,E,λe=>?_⟩;rcases n x e with e|e;exact Q e;omega
def Eu.qM{g:AvT α}{b bt N:Nat}{l:List α}(h:Eu g F C W b bt l N):l.length<=N:=by
 obtain⟨A,T,h1,i,j,rfl,o⟩:=h.FZ;have B:=Ha (A:=A) rfl i j;have I:=Tr.YY T;omega
def aK(c:Cel)(d:Y_):CS (c::d)=(if c.r=10 then[c.set] else[])++CS d:=by by_cases h:c.r=10<;>simp[CS,h]
section
variable {w0:e_}{F:f_}{W:e_}{a:TxA}{σ:SKs}{most:Int}{N:Nat}{d:Y_}
def J0{i j:Nat}(h:IM .f w0 F W a σ most d N)(cx:i<=j)(hj:j<=d.length)(hG:∀c∈d,FM σ.ks c.set)(hz:d.length<=10000000)(hN:N<=1000000000) : AF prog 57 [g_ a.b,zI (i:Int),zI (j:Int)] (λv' w'=>∃cv,v'=.tuple #[cv,zI 0]/\HG W.heap.size W.heap.size w' cv ((d.take j).drop i)/\AI W w') W:=by
 have h0:=h;obtain⟨z,l2,t,f,eN,hM,eR,hu,hh,hd,j8⟩:=h;have eV:z.length=d.length:=by rw[<-eN,FA]
 have e5:(BA d).length=d.length:=FA _;have eX:=tZ List.length hu;rw[FA,eV] at eX;refine I' func57 ?_ (.y (.y (.y (.y (.y (.z (.dm [6,9,10] [0,1,3,7,0,0,48,0,0,496,1023,2047,4095,4095,8191,32767]) (.y (.x (.y (.node [12,14,62] [(12,12),(14,14),(16,19),(62,102)] (.y (.y (.x (.y (.z (.dm [6] [0,1,3,7,0,16,63,127,255,255,511,2047]) (.y (.node [12,14,78] [(12,12),(14,14),(19,19),(78,101)] (.y (.y (.x (.cut [19] [(19,19),(80,87)] (.dt [6,8,9] (k_ [0,0,2,7,15,0,32,127,0,511]) [[6]] (.op 0 (.op 1 (.op 2 (.op 3 (.op 4 (.op 5 (.br (.op 6 (.op 7 (.op 8 (.op 9 .nil)))) (.op 8 (.op 6 (.op 7 (.op 9 .nil)))))))))))) (.cut [12] [(12,12),(88,96)] (.y (.x (.dt [4,6] (k_ [0,1,3,0,8,7,39,127]) [] (.op 0 (.op 1 (.op 2 (.op 3 (.op 5 (.br (.op 4 (.op 6 (.op 7 .nil))) (.op 6 (.op 4 (.op 7 .nil)))))))))))) .nil))))) .nil))))))) .nil))))))))));apply AA (FW hM.box.1);rintro _ _ ⟨rfl,rfl⟩;rename e_=>W;rw[Aq];apply AS;apply AJ;rw[AB,AH];apply AD (hM.box.1.cells 2 _ rfl);obtain⟨l1,Fr,br,ea,dj,_,_⟩:=hM.Ym;have j9:(CE l1).length=d.length:=by rw[ea,e5]
 have ix:=dj.qM;apply AA (cN (i:=i) (j:=j) dj E cx E E E);rintro _ W1 ⟨lv,rfl,oL,g1⟩;rw[ea] at oL;refine Bv ?_;refine KU ?_;have ec:=hM.U_ g1;apply AJ;rw[AB,AH];apply AD (ec.box.1.cells 3 _ rfl);obtain⟨Fs,bs,hf,_,_⟩:=ec.eF;have iy:HU l2=d.length:=by rw[GH,eX]
 have k0:=Spn.IX eR;apply AA (Pc (i:=i) (j:=j) hf E cx E E E);rintro _ W2 ⟨rv,rfl,oR,g2⟩;refine Bv ?_;have fo:=Spn.JU eR i j;have fs:(Spn.kd.Au l2 i j).flatMap Spn.u=((z.map Prod.snd).take j).drop i:=by rw[Spn.FQ.Au,hu]
 have ak:((Spn.kd.Au l2 i j).flatMap Spn.u).length=j-i:=by rw[fs,FB,K8,FA,eV];omega
 have ed:=Spn.IX fo;rw [ak] at ed;generalize Spn.kd.Au l2 i j=row at *;have gd:AI W2 W2.drew:=AK.drew _ _;have b6:=(ec.U_ g2).U_ gd;apply Ag (λ_ _=>False);apply AJ;rw [AB,AH];apply AU ⟨b6.box.1.cells 4 _ rfl,C0⟩;have fv:=(g1.trans g2).trans gd;apply AA (Je b6.box.1 (dj.U_ fv) (i:=i) E E);rintro _ W3 ⟨rfl,g3⟩;refine ⟨g3.mono E',?_⟩;have fx:=b6.U_ g3;apply AA (Je fx.box.1 ((dj.U_ fv).U_ g3) (i:=j) E E);rintro _ W4 ⟨rfl,g4⟩;refine ⟨g4.mono E',?_⟩;have ga:=fx.U_ g4;rw [ea];obtain ⟨Fp,Cp,bp,ho,_,_⟩:=ga.Yr;have hs:Bj ((BA d).take i)<=Bj ((BA d).take j):=xg _ (by
  rw [<-u6 cx,<-xH];exact yK _ _)
 have hv:Bj ((BA d).take j)<=Bj (BA d):=xg _ (yK _ _);have k3:=Fw (BA d);refine AA (Tm ho E hs (by rw [Eh];exact hv) (by rw [Eh];omega) (λx B=>by
  obtain ⟨c,hc,rfl⟩:=i7.1 B;have:=(hG c (wO.1 hc).1).len;omega)) ?_
 rintro _ V ⟨pv,Wp,rfl,gA,gB,oP⟩;have ee:=gA.trans gB;refine⟨ee.mono E',?_⟩;refine Bv ?_;have gb:=(gd.trans g3).trans g4;have b7:=gb.trans ee;have z1:=g1.size;have z2:=g2.size;have k4:=gb.size;have zA:=gA.size;have zB:=gB.size;have gf:((CS d).take (Bj ((BA d).take j))).drop (Bj ((BA d).take i))=CS ((d.take j).drop i):=by
  rw[(El (d.take j) i).2,(El d j).1,show BA (d.take j)=(BA d).take j from wR,xH,u6 cx]
 rw[gf] at oP;have hP:BC (λx=>W.heap.size<=x/\x<V.heap.size) 1 (Dr λx=>W.heap.size<=x/\x<V.heap.size) V pv (CS ((d.take j).drop i)):=
  BC.sub (AG.sl oP) (λx B h=>⟨by have:=h.1;omega,B⟩) B_ λr x B=>Bb.rsub B λy hy h=>⟨by have:=h.1;omega,hy⟩
 have hA:BC (λx=>W.heap.size<=x/\x<V.heap.size) 1 CM V lv (((BA d).take j).drop i):=BC.U_ (BC.sub (AG.sl oL) (λx B h=>⟨h.1,by have:=g2.size;have:=b7.size;omega⟩) B_ C0) (g2.trans b7) B_ C0;have gg:BC (λx=>W.heap.size<=x/\x<V.heap.size) 2 HQ V rv row:=BC.U_ (BC.sub (AG.sl oR) (λx B h=>⟨by have:=h.1;omega,by have:=b7.size;omega⟩) B_ C0) b7 B_ C0;clear oP oL oR
 let EI:Nat->Nat:=λm=>((row.take m).flatMap Spn.u).length
 have b8:∀(m:Nat) (hm:m<row.length) (q:Nat),q<row[m].n->∃c,d[i+(EI m+q)]?=some c/\(c.r≠10->f row[m].id=c.set)/\i+(EI m+q)<j/\0<Spn.rn row[m].id none (z.map Prod.snd):=by
  intro m hm q hq;have e1:(row.flatMap Spn.u)[EI m+q]?=some row[m].id:=by
   have:row=row.take m++(row[m]::row.drop (m+1)):=by rw[<-wT hm,QC]
   conv=>lhs;rw[this]
   rw[u9,qz (by show EI m<=_;omega),show EI m+q-((row.take m).flatMap Spn.u).length=q by show EI m+q-EI m=q;omega,vr,PF (by rw[Spn.u,wu];exact hq),Spn.u,yL,Cx hq]
  have ef:=(Bq.1 e1).1;rw[fs,wH,wY,Cx (by rw[ak] at ef;omega),vy] at e1;rw[ak] at ef;cases dk:z[i+(EI m+q)]? with
  |none=>rw[dk] at e1;cases e1
  |some p=>
   rw[dk,xE,S5] at e1;have hp:=wD dk;refine⟨p.1,by rw[<-eN,vy,dk];rfl,λhB=>?_,E,?_⟩;rw[<-e1];exact(hd p hp).2 hB;rw[<-e1];exact Spn.QF (i7.2 ⟨p,hp,rfl⟩) D_
 have b9:∀m (hm:m<row.length),EI (m+1)=EI m+row[m].n:=λm hm=>by
  show((row.take (m+1)).flatMap Spn.u).length=_;rw[Lc,By hm,u9,Ad];simp[Spn.u,EI]
 have eh:EI row.length=j-i:=by show((row.take row.length).flatMap Spn.u).length=_;rw[Nr,ak]
 let GS:Nat->d_->d_->e_->Prop:=λe pv ov W'=>AI V W'/\HG W.heap.size V.heap.size W' ov ((d.take (i+e)).drop i)/\BC (λx=>W.heap.size<=x/\x<V.heap.size) 1 (Dr λx=>W.heap.size<=x/\x<V.heap.size) W' pv (CS ((d.take j).drop (i+e)))
 obtain⟨qa,qc,gl,_⟩:=gg.AO;have gm:E3 rv=E3 (.slice qa row.length qc):=by rw[gl]
 rw[gm,AP];refine AX (λvs W'=>∃(m:Nat) (pv ov:d_),m<=row.length/\vs=[pv,ov,zI m]/\GS (EI m) pv ov W') (λvs _=>row.length-Di vs 2) ⟨0,pv,_,Hw _,rfl,AK.refl _ _,by show HG _ _ _ _ ((d.take (i+0)).drop i);rw[ua,List.drop_take_self];exact HG.nil,hP⟩ ?_;rintro vs W6 ⟨m,hD,gp,hm,rfl,g6,o6,p6⟩ _;simp only[Iu];refine HP (λef=>?_) λk5=>?_;rotate_left;obtain rfl:m=row.length:=E;rw[eh,(E:i+(j-i)=j)] at o6;obtain⟨D,q1,q2⟩:=o6;exact⟨gp,rfl,⟨D,q1.Bk λg hg=>by have:=(AG.Az q1 g hg).1;omega,q2⟩,((g1.trans g2).trans b7).trans g6⟩;have a7:m<row.length:=E;have hE:=gg.U_ g6 B_ C0;subst gl;obtain⟨p,r,rfl,_,hr,hc,rfl⟩:=hE.get a7;refine AW a7 (Ab (vs:=row[m].cells) rfl m_ ?_);refine Bx.new (vs:=row[m].cells) rfl rfl (Spn.one _) λk6 W7 j0 g7 hI=>?_;have gq:AI W7 W7.drew:=AK.drew _ _;have ei:=g7.trans gq;have gr:=(ga.U_ ee).U_ (g6.trans ei);have e6:=hI.U_ gq;obtain⟨_,_,_,_,al⟩:=b8 m a7 0 (Spn.NI fo row[m] (Q0 a7));apply Ag (λ_ _=>False);apply AJ;rw[AB,AH];apply AU ⟨gr.box.1.cells 5 _ rfl,C0⟩;rw[AB,AH];apply AU ⟨e6.cells 1 _ rfl,C0⟩;obtain⟨Ft,gu,_,_⟩:=gr.bW;obtain⟨d1,d2⟩:=hh.idle (.inl al);obtain⟨cn,e7⟩:=hh.Lr al;apply AA (Yo gu E E E);rintro v8 W8 ⟨g8,gv⟩;rw[e7] at gv;obtain⟨k7,rfl,o8⟩:=gv;simp only at o8;refine⟨g8.mono E',?_⟩;refine Bv ?_;have j1:(f row[m].id).length<=64:=by
  obtain⟨C,pl,fr,bm,hR⟩:=gu;exact UB hR.DS e7
 rw[AB,AH];apply AD ((e6.U_ g8).cells 0 _ rfl);have dr:=ei.trans g8;have k8:=ei.size;have z8:=g8.size;have k9:j<=10000000:=E;have j2:EI m+row[m].n<=j-i:=by
  have:=b9 m a7;have h2:EI (m+1)<=EI row.length:=by
   show((row.take (m+1)).flatMap Spn.u).length<=((row.take row.length).flatMap Spn.u).length;rw[Nr];conv=>rhs;rw[<-QC (m+1) row,u9,Ad]
   omega
  omega
 refine AX (λvs W'=>∃(q:Nat) (pv ov:d_),q<=row[m].n/\vs=[pv,ov,zI q]/\GS (EI m+q) pv ov W'/\AK (λx=>x<W6.heap.size) W8 W'/\∀g,ov.ownBlock=some g->g<W6.heap.size\/W8.heap.size<=g) (λvs _=>row[m].n-Di vs 2) ⟨0,hD,gp,Hw _,rfl,⟨g6.trans dr,o6.U_ dr,BC.U_ p6 dr B_ λr x B=>Bb.Bw B dr F_⟩,AK.refl _ _,λg hg=>by obtain⟨D6,o,_⟩:=o6;exact .inl (AG.Az o g hg).2⟩ ?_;rintro vs W9 ⟨q,ej,dT,hq,rfl,⟨e2,o9,p9⟩,ek,ba⟩ _;simp only[JS,wL];refine HP (λj3=>?_) λj4=>?_;rotate_left;obtain rfl:q=row[m].n:=E;rw[AR,AM E];refine⟨⟨m+1,ej,dT,a7,rfl,?_⟩,by rw[Ri,Ri];omega⟩;rw[b9 m a7];exact⟨e2,o9,p9⟩;have gw:q<row[m].n:=E;obtain⟨c,b0,hK,ka,_⟩:=b8 m a7 q gw;generalize he:EI m+q=e at *;have j5:c∈d:=wD b0;have hL:(((BA d).take j).drop i)[e]?=some c.r:=by rw[wH,wY,Cx E,BA,vy,b0];rfl
 have en:(((BA d).take j).drop i).length=j-i:=by rw[FB,K8,e5];omega
 have eo:(d.take j).drop (i+e)=c::(d.take j).drop (i+(e+1)):=by
  rw[wT (by rw[K8];omega),yc];rw[By ((Bq.1 b0).1)] at b0;rw[r9 b0];rfl
 have ep:(d.take (i+(e+1))).drop i=(d.take (i+e)).drop i++[c]:=by
  rw[(E:i+(e+1)=i+e+1),Lc,b0,yQ,show i-(d.take (i+e)).length=0 by rw[K8];omega];rfl
 rw[eo,aK] at p9;have kc:=e2.size;have e8:((d.take (i+e)).drop i).length=e:=by rw[FB,K8];omega
 obtain⟨D9,er,hQ⟩:=o9;obtain⟨oa,oc,hS,_⟩:=AG.AO er;have an:=AG.Az er;have hT:HG W.heap.size V.heap.size W9 dT ((d.take (i+e)).drop i):=⟨D9,er,hQ⟩;have gx:=hA.U_ e2 B_ C0;obtain⟨la,lc,gy,_⟩:=gx.AO;rw[en] at gy;have et:(q:Int)+1<=9223372036854775807:=E;refine AV (λvs W'=>∃b J D',vs=[g_ b]/\Bx W' b [.int .i32 c.r,J]/\W9.heap.size<=b/\AI W9 W'/\CI D' W' J (f row[m].id)/\(∀x,D' x->W9.heap.size<=x/\x<W'.heap.size)) ?_ ?_;rotate_left;have bb:AI W9 W9.drew:=AK.drew _ _;have kk:=bb.size;have gW:=(((AG.sl o8).JR B_).U' ek (λx _ B Q=>by have:=B.1.1;omega) B_ C0).U_ bb B_ C0;have hV:E3 dT=E3 (.slice oa e oc):=by rw[hS,e8]
 apply Ag (λn y=>n=9/\W9.heap.size<=y);rw[hV,AP];subst gy;obtain⟨pl,rl,rfl,h3,_,hW,h4⟩:=gx.get (i:=e) (by rw[en];omega);have eu:rl=[.int .i32 c.r]:=by
  have h':rl=_:=h4;rw[h'];congr 2;have:=By (l:=((BA d).take j).drop i) (i:=e) (by rw[en];omega);rw[hL] at this;exact(r9 this).symm
 subst eu;apply AW E;refine AU ⟨bb.cell (by have:=hW 0 _ rfl;exact this) E_,λn hn Q=>by have h1:=Q.2;have h2:=h3.2;rw [Av] at h1;omega⟩ ?_;constructor;apply AA (GP gW E);rintro J a8 ⟨aa,U⟩;refine ⟨U.mono E',?_⟩;obtain ⟨ca,cc,bk,_⟩:=AG.AO aa;refine ⟨#[.int .i32 c.r,J],by rw [bk];kernel_rfl,?_⟩;refine Bx.zero λb a1 hb a6 X=>⟨a6.mono E',?_⟩;have h5:=U.size;have e3:=a6.size;refine X.Au (us:=[.int .i32 c.r,J]) rfl rfl (λu hu=>by simp [I3,wA,xx] at hu;rcases hu with rfl | rfl;rfl;rw [bk];rfl) λbl ew O=>⟨O.mono λx _ Q=>⟨rfl,E⟩,?_⟩;have ey:AG W9.drew.heap.size 116 5 Ch a1 J (f row[m].id):=AG.U' (R':=Ch) aa a6 C0 F_;have c4:=AG.Az aa;have c6:AG W9.drew.heap.size 116 5 Ch bl J (f row[m].id):=AG.U' (R':=Ch) ey O (λx B Q=>by have:=c4 x B;omega) F_;have h6:=O.size;exact ⟨b,J,_,rfl,ew,E,((bb.trans U).trans a6).next O E,AG.sl c6,λx B=>by have:=c4 x B.2;omega⟩;refine Bx.zero λb a1 hb a6 X=>⟨a6.mono E',?_⟩;apply AA (GP (gW.U_ a6 B_ C0) E);rintro J a8 ⟨aa,U⟩;refine ⟨U.mono E',?_⟩;obtain ⟨ca,cc,bk,_⟩:=AG.AO aa;refine ⟨#[.int .i32 c.r,J],by rw [bk];kernel_rfl,?_⟩;have h5:=U.size;have e3:=a6.size;have j6:=X.lt (P9 _);refine (X.U_ U).Au (us:=[.int .i32 c.r,J]) rfl rfl (λu hu=>by simp only [I3,wA,xx] at hu;rcases hu with rfl | rfl;rfl;rw [bk];rfl) λbl ew O=>⟨O.mono λx _ Q=>⟨rfl,E⟩,?_⟩;have c4:=AG.Az aa;have c6:AG a1.heap.size 116 5 Ch bl J (f row[m].id):=AG.U' (R':=Ch) aa O (λx B Q=>by have:=c4 x B;omega) F_;have h6:=O.size;exact ⟨b,J,_,rfl,ew,E,((bb.trans a6).trans U).next O E,AG.sl c6,λx B=>by have:=c4 x B.2;omega⟩;rintro _ a8 ⟨b,J,D',rfl,ez,hb,U,eA,hX⟩ _;rw [JS];have h5:=U.size;have e4:BC (λx=>W.heap.size<=x/\x < V.heap.size) 1 (Dr λx=>W.heap.size<=x/\x < V.heap.size) a8 ej ((if c.r=10 then [c.set] else [])++CS ((d.take j).drop (i+(e+1)))):=BC.U_ p9 U B_ λr x B=>Bb.Bw B U F_;refine AV (λvs W'=>∃ Y c7 eB,vs=[Y]/\Bx W' b [.int .i32 c.r,c7]/\AK (λx=>x=b) a8 W'/\CI eB W' c7 c.set/\(∀ x,eB x->W.heap.size<=x/\x < W'.heap.size/\(x < V.heap.size\/W9.heap.size<=x))/\
   BC (λx=>W.heap.size<=x/\x < V.heap.size) 1 (Dr λx=>W.heap.size<=x/\x < V.heap.size) W' Y (CS ((d.take j).drop (i+(e+1))))) ?_ ?_
 rintro _ a1 ⟨Y,c7,eB,rfl,X,I,eC,h7,c8⟩ _;rw[JS];have e3:=I.size;have c9:AI W9 a1:=U.next I E;have ey:HG W.heap.size V.heap.size a1 dT ((d.take (i+e)).drop i):=hT.U_ c9;apply X.GN rfl;refine Np ey E eC (λx B=>?_) (by rw[e8];omega) λhY bl c6 O ia=>?_;have:=h7 x B;refine⟨this.1,this.2.1,λQ=>?_⟩;have:=an x Q;omega;rw[AR,AM et];have h8:AI V bl:=(e2.trans c9).next O λx B Q=>by have:=an x Q;omega
 have kn:=ek.size;have h6:=O.size;refine⟨⟨q+1,Y,hY,gw,rfl,?_,?_⟩,by rw[Ri,Ri];omega⟩;rw[(E:EI m+(q+1)=e+1)];refine⟨?_,by rw[ep];exact c6,BC.U' c8 O (λx _ B Q=>by have:=an x Q;omega) B_ λr x B=>Bb.Bw B O λy _ hy Q=>by have:=an y Q;omega⟩;exact h8;refine⟨(ek.next c9 E').next O λx B Q=>?_,λg hg=>?_⟩;rcases ba x Q with h|h;exact h;omega;rcases ia g hg with h|h;exact ba g h;exact .inr E
 .rw[AB,AH];apply AD (ez.cells 0 _ rfl);rw[Aj];refine AE (λeI=>?_) λeI=>?_;rotate_left;have av:c.r≠10:=eI;rw[Bp av,u7] at e4;rw[<-hK av];exact⟨ej,J,D',rfl,ez,AK.refl _ _,eA,λx B=>by have:=hX x B;exact⟨E,this.2,.inr this.1⟩,e4⟩;have av:c.r=10:=eI;rw[Cx av] at e4;have Z:AI a8 a8.drew:=AK.drew _ _;have j7:=Z.size;have ax:=BC.U_ e4 Z B_ λr x B=>Bb.Bw B Z F_;obtain⟨pa,pc,ib,_⟩:=ax.AO;subst ib;obtain⟨pp,rr,rfl,ih,_,il,eL,rfl,ir⟩:=ax.get (i:=0) D_;have ch:CI (λx=>W.heap.size<=x/\x<V.heap.size) a8.drew eL c.set:=ir;have e9:=ez.U_ Z;obtain⟨kq,kt,ay,_⟩:=ch.AO;apply Ag (λn y=>n=6/\y=b);apply AW D_;refine AU ⟨by have:=il 0 _ rfl;exact this,λn hn Q=>by have h1:=Q.2;have h2:=ih.2;rw[Av] at h1;omega⟩ ?_;rw[AB,AH];have iv:([c.set]++CS ((d.take j).drop (i+(e+1)))).length=(CS ((d.take j).drop (i+(e+1)))).length+1:=D_;constructor;refine Ev (e:=47) (k:=1) (i:=Tryz.t47) (j:=1) C_ C_ C_ ax D_ λY c8=>⟨AK.refl _ _,?_⟩;have cu:BC (λx=>W.heap.size<=x/\x<V.heap.size) 1 (Dr λx=>W.heap.size<=x/\x<V.heap.size) a8.drew Y (CS ((d.take j).drop (i+(e+1)))):=c8;refine e9.st (q:=1) (B_:1<2) (by rw[ay];rfl) (by rw[ay];rfl) λa1 X I=>⟨I.mono λx _ Q=>⟨rfl,Q⟩,?_⟩;have e3:=I.size;refine⟨Y,eL,_,rfl,X,(Z.mono E').trans I,ch.U' I (λx _ B Q=>by have:=B.2;omega) B_ C0,λx B=>⟨B.1,by have:=B.2;omega,.inl B.2⟩,BC.U' cu I (λx _ B Q=>by have:=B.2;omega) B_ λr x B=>Bb.Bw B I λy _ hy Q=>by have:=hy.2;omega⟩;refine e9.st (q:=1) (B_:1<2) (by rw[ay];rfl) (by rw[ay];rfl) λa1 X I=>⟨I.mono λx _ Q=>⟨rfl,Q⟩,?_⟩;have e3:=I.size;have h9:=BC.U' ax I (λx _ B Q=>by have:=B.2;omega) B_ λr x B=>Bb.Bw B I λy _ hy Q=>by have:=hy.2;omega
  refine Ev (e:=47) (k:=1) (i:=Tryz.t47) (j:=1) C_ C_ C_ h9 D_ λY c8=>⟨AK.refl _ _,?_⟩;have cu:BC (λx=>W.heap.size<=x/\x<V.heap.size) 1 (Dr λx=>W.heap.size<=x/\x<V.heap.size) a1 Y (CS ((d.take j).drop (i+(e+1)))):=c8;refine⟨Y,eL,_,rfl,X,(Z.mono E').trans I,ch.U' I (λx _ B Q=>by have:=B.2;omega) B_ C0,λx B=>⟨B.1,by have:=B.2;omega,.inl B.2⟩,cu⟩
end
section
variable {w0:e_}{F:f_}{W:e_}{a:TxA}{σ:SKs}{most:Int}{N:Nat}{d:Y_}
def Oo{i:Nat}(h:IM .f w0 F W a σ most d N)(hi:i<=d.length)(J:d.length<=10000000) : AF prog 129 [g_ a.b,zI (i:Int)] (λv' w'=>v'=.tuple #[zI (Bj ((BA d).take i):Int),zI 0]/\AI W w') W:=by
 apply G_ func129;apply AA (FW h.box.1);rintro _ _ ⟨rfl,rfl⟩;rename e_=>W;rw[Aq];apply AS;apply AJ;rw[AB,AH];apply AD (h.box.1.cells 2 _ rfl);obtain⟨l1,Fr,Q,j,o⟩:=h.Jk;have B:(CE l1).length=d.length:=by rw[j,BA,FA]
 apply AA (Ni (i:=i) o E E);rintro _ O ⟨rfl,I⟩;rw[j];exact Af (vs:=[_,_]) (by rfl) (Af (vs:=[_,_]) (by rfl) ⟨rfl,I⟩)
def GV(h:IM .f w0 F W a σ most d N):AF prog 58 [g_ a.b] (λv' w'=>v'=zI (d.length:Int)/\AI W w') W:=by
 obtain⟨l1,Fr,B,i,o⟩:=h.Jk;have j:(CE l1).length=d.length:=by rw[i,BA,FA]
 have:=dZ h.box.1 o;rwa [j] at this
def bF{k:Nat}(h:IM .f w0 F W a σ most d N)(B:d.length<=10000000):AF prog 131 [g_ a.b,zI (k:Int)] (λv' w'=>v'=PK (BA d) k/\AI W w') W:=by
 obtain⟨l1,Fr,I,i,j⟩:=h.Jk;have o:(CE l1).length=d.length:=by rw[i,BA,FA]
 have:=VR (k:=k) h.box.1 j E;rwa [i] at this
def Wl(h:IM .f w0 F W a σ most d N)(X:∀c∈d,FM σ.ks c.set)(hz:d.length<=10000000)(hN:N<=1000000000) : AF prog 130 [g_ a.b] (λv' w'=>BC (λx=>W.heap.size<=x/\x<w'.heap.size) 1 (Dr λx=>W.heap.size<=x/\x<w'.heap.size) w' v' (CS d)/\AI W w') W:=by
 obtain ⟨z,l2,t,f,Y,O,Z,hu,hh,a1,a6⟩:=h;have Q:(BA d).length=d.length:=FA _;refine H_ func130 ?_ (.y (.y (.x (.dm [8,9] [0,1,3,7,0,16,48,112,240,511,1023,2047,2047,4095,16383]))));apply AA (FW O.box.1);rintro _ _ ⟨rfl,rfl⟩;rename e_=>W;rw [Aq];apply AS;have I:AI W W.drew:=AK.drew _ _;have i:=O.U_ I;apply Ag (λ_ _=>False);apply AJ;rw [AB,AH];apply AU ⟨i.box.1.cells 4 _ rfl,C0⟩;apply AJ;rw [AB,AH];apply AU ⟨i.box.1.cells 4 _ rfl,C0⟩;obtain ⟨Fp,Cp,bp,j,_,_⟩:=i.Yr;apply AA (qS j);rintro _ W1 ⟨rfl,B⟩;refine ⟨B.mono E',?_⟩;have a7:=Fw (BA d);have a8:=Eh d;refine AA (Tm (k:=0) (m:=(CS d).length) (j.U_ B) E (Hw _) (HK _) E (λx o=>by
  obtain ⟨c,hc,rfl⟩:=i7.1 o;have:=(X c (wO.1 hc).1).len;omega)) ?_
 rintro _ W2 ⟨pv,Wp,rfl,J,U,V⟩;refine⟨(J.trans U).mono E',?_⟩;refine Bv ?_;have z0:=I.size;have z1:=B.size;have zA:=J.size;rw[Nr,xP] at V;exact⟨BC.sub (AG.sl V) (λx o h=>⟨by have:=h.1;omega,o⟩) B_ λr x o=>Bb.rsub o λy hy h=>⟨by have:=h.1;omega,hy⟩,(I.trans B).trans (J.trans U)⟩
def nZ{i:Nat}(h:IM .f w0 F W a σ most d N)(hi:i<d.length)(hG:∀c∈d,FM σ.ks c.set)(hz:d.length<=10000000)(hN:N<=1000000000) : AF prog 134 [g_ a.b,zI (i:Int)] (λv' w'=>∃r,v'=.tuple #[.agg r.toArray,zI 0]/\Hp (λx=>W.heap.size<=x/\x<w'.heap.size) w' r d[i]/\AI W w') W:=by
 refine G_ func134 ?_ (.y (.y (.cut [] [(5,5),(12,20)] .nil .nil)));refine Bx.zero λb Y hb Q B=>?_;have h1:=h.U_ Q;apply AA (FW h1.box.1);rintro _ _ ⟨rfl,rfl⟩;rename e_=>Y;rw[Aq];apply AS;refine AV (λ_ W'=>AI Y W') ?_ ?_;rotate_left;rw[As];refine AE E λ_=>?_;apply AA (GV h1);rintro _ Z ⟨rfl,I⟩;rw[DR];exact AE E λ_=>I;rintro _ Z I _;rw[AR,wrap64 E E,(E:((i:Int)+1)=((i+1:Nat):Int))];apply AA (J0 (i:=i) (j:=i+1) (h1.U_ I) E E hG hz hN);rintro _ W3 ⟨cv,rfl,J,g3⟩;refine Bv ?_;refine KU ?_;have e1:(d.take (i+1)).drop i=[d[i]]:=by
  rw[Lc,By hi,yQ,xB (by rw[K8];omega),show i-(d.take i).length=0 by rw[K8];omega];rfl
 rw[e1] at J;have O:=J.rd (HK _);obtain⟨ca,cc,U,_⟩:=O.AO;subst U;obtain⟨p,r,rfl,_,hr,hc,V⟩:=O.get (i:=0) D_;have o:Hp (λx=>Z.heap.size<=x/\x<W3.heap.size) W3 r d[i]:=V;apply AW D_;refine Ab hr m_ ?_;have z1:=Q.size;have z2:=I.size;have a1:=B.lt (P9 _);refine((B.U_ I).U_ g3).Au hr rfl o.one λW4 B4 X=>?_;apply B4.GN hr;have z4:=X.size;refine⟨r,rfl,o.U' X (λx _ hx e=>by have:=hx.1;omega) λx hx h=>⟨by have:=h.1;omega,by have:=h.2;omega⟩,?_⟩;exact((Q.trans I).trans g3).next X E
end
noncomputable def CC(ks:Y')(most:Int)(d:Y_)(x:V'):Y_:=if BY ks x d.length most=0 then BD ks d x else d
structure FV (ks:Y') (most:Int) (d:Y_):Prop where
 g:Hy ks d
 Ct:1<=d.length
 le:(d.length:Int)<=most
def VY(h:1<=most):FV ks most [⟨10,[]⟩]:=⟨⟨λc hc=>by simp at hc;subst hc;exact FM.nil,rfl⟩,HK _,h⟩
section
variable {w0:e_}{F:f_}{W:e_}{a:TxA}{σ:SKs}{most:Int}{N:Nat}{d:Y_}
def SH{x:V'}(h:IM .f w0 F W a σ most d N)(U:DV w0)(O:FV σ.ks most d)(i:σ.ks.length<=64)(V:∀k∈σ.ks,Cq k)(X:Ae S S W v x)(j:∀y,S y->¬F y)(Y:∀o∈x,IH o)(hl:x.length<=1048576)(I:d.length<=B)(Z:Dv σ.ks x d.length most->d.length+DG x<=B)(J:B<=1000000)(hN:N+CK B x<=1000000000) : AF prog 79 [g_ a.b,v] (λv' w'=>v'=zI (BY σ.ks x d.length most)/\PC .f w0 F W w' a σ most (CC σ.ks most d x) (N+CK B x)/\FV σ.ks most (CC σ.ks most d x)) W:=by
 apply AA (Xx (B:=B) h U O.g i V X (λy hy=>j y (hy.elim id id)) Y E I Z J hN);rintro _ w' ⟨rfl,h1,h2⟩;refine⟨rfl,h1,?_⟩;unfold CC;split;rename_i e;have hF:=(Br E).1 e;have:=IV (ks:=σ.ks) (x:=x) (d:=d) (λo ho=>(hF.Cs o ho).1) hF.Gv;have:=hF.most;have Q:=h2 e;refine⟨Q,?_,E⟩;have:BD σ.ks d x≠[]:=om Q.Jr;exact wN.2 this;exact O
def Z6{x:V'}(h:IM .f w0 F W a σ most d N)(O:DV w0)(I:FV σ.ks most d)(i:σ.ks.length<=64)(Q:∀k∈σ.ks,Cq k)(U:Ae S S W v x)(j:∀y,S y->¬F y)(V:∀o∈x,IH o)(hl:x.length<=1048576)(hm:most<=2000)(X:N+CK 4000 x<=1000000000) : AF prog 79 [g_ a.b,v] (λv' w'=>v'=zI (BY σ.ks x d.length most)/\PC .f w0 F W w' a σ most (CC σ.ks most d x) (N+CK 4000 x)/\FV σ.ks most (CC σ.ks most d x)) W:=by
 have J:=I.le;exact SH (B:=4000) h O I i Q U j V hl E (λhF=>by
  have:=(FD x).1;have:=hF.most;have:=hF.Gv;omega) E X
end
structure MW (ks:Y') (n:Int) (x y:V'):Prop where
 BD:∀d z,BD ks d (x++z)=BD ks d (y++z)
 Gv:Ah x=Ah y
 qj:Bf x=Bf y
 nn:(∀o∈x,0<=o.n)->∀o∈y,0<=o.n
 pl:(∀o∈x,Cr ks o)->∀o∈y,Cr ks o
 EU:∀p z,(∀o∈x,0<=o.n)->0<=p->p+Ah (x++z)<=n->Bt n p (x++z)->Bt n p (y++z)
def GQ(x y:V'):Ah (x++y)=Ah x+Ah y:=by
 induction x with
 |nil=>simp[Ah]
 |cons o x i=>rw[No,Ah,Ah,i];omega
def I9(x y:V'):Bf (x++y)=Bf x+Bf y:=by
 induction x with
 |nil=>simp[Bf]
 |cons o x i=>rw[No,Bf,Bf,i];omega
section
variable {ks:Y'}{n:Int}{x y w z:V'}
def MW.refl(x:V'):MW ks n x x:=⟨I_,rfl,rfl,E_,E_,λ_ _ _ _ _ h=>h⟩
def MW.trans(h:MW ks n x y)(h':MW ks n y z):MW ks n x z:=
 ⟨λd u=>(h.BD d u).trans (h'.BD d u),h.Gv.trans h'.Gv,h.qj.trans h'.qj,λe=>h'.nn (h.nn e),λe=>h'.pl (h.pl e),λp u e h0 hp i=>h'.EU p u (h.nn e) h0 (by rw[GQ] at hp ⊢;rw[<-h.Gv];exact hp) (h.EU p u e h0 hp i)⟩
def MW.cons(o:Dop)(h:MW ks n x y):MW ks n (o::x) (o::y):=by
 refine⟨λd u=>?_,?_,?_,λe=>?_,λe=>?_,λp u e h0 hp i=>?_⟩;show Go.Proofs.YtlmjclmngedmkaaGreatDoor.BD ks d (o::(x++u))=Go.Proofs.YtlmjclmngedmkaaGreatDoor.BD ks d (o::(y++u));rw[Go.Proofs.YtlmjclmngedmkaaGreatDoor.BD,Go.Proofs.YtlmjclmngedmkaaGreatDoor.BD,h.BD,h.BD];rw[Ah,Ah,h.Gv];rw[Bf,Bf,h.qj];intro q j;rcases I3.1 j with rfl|j;exact e _ D_;exact h.nn (λr hr=>e r (by simp[hr])) q j;intro q j;rcases I3.1 j with rfl|j;exact e _ D_;exact h.pl (λr hr=>e r (by simp[hr])) q j;have B:∀q∈x,0<=q.n:=λq j=>e q (by simp[j]);have J:=e o D_;rw[No,Bt] at i ⊢;rw[No,Ah] at hp;by_cases k2:o.kind=2;rw[Cx k2] at i hp ⊢;exact⟨i.1,h.EU p u B h0 E i.2⟩;rw[Bp k2] at i hp ⊢;by_cases I:o.kind=3;rw[Cx I] at i ⊢;exact⟨i.1,h.EU _ u B E E i.2⟩;rw[Bp I] at i ⊢;exact h.EU _ u B E E i
def MW.pre(w:V')(h:MW ks n x y):MW ks n (w++x) (w++y):=by
 induction w with
 |nil=>exact h
 |cons o w i=>exact i.cons o
def MW.KM(h:MW ks n x y)(w:V'):MW ks n (x++w) (y++w):=by
 refine⟨λd u=>?_,?_,?_,λe=>?_,λe=>?_,λp u e h0 hp j=>?_⟩;rw[Mp,Mp];exact h.BD d _;rw[GQ,GQ,h.Gv];rw[I9,I9,h.qj];intro q i;rcases DN.1 i with i|i;exact h.nn (λr hr=>e r (by simp[hr])) q i;exact e _ (by simp[i]);intro q i;rcases DN.1 i with i|i;exact h.pl (λr hr=>e r (by simp[hr])) q i;exact e _ (by simp[i]);rw[Mp] at hp j ⊢;exact h.EU p _ (λq i=>e q (by simp[i])) h0 hp j
def kp{a b:Int}(ha:0<=a)(hb:0<=b)(p:Z_)(r1 B:X_)(j I:W_):MW ks n [⟨1,a,r1,j,p⟩,⟨1,b,B,I,p⟩] [⟨1,a+b,r1,j,p⟩]:=by
 have e:(a+b).toNat=a.toNat+b.toNat:=E;refine⟨λd u=>?_,?_,?_,λh q i=>?_,λh q i hk=>?_,λq u h h0 hp o=>?_⟩;simp only[No,u7,Go.Proofs.YtlmjclmngedmkaaGreatDoor.BD,yE,e];rw[<-Mp,<-S7,List.take_add,yG];simp[Ah,e];simp[Bf,e];simp at i;subst i;show 0<=a+b;omega;simp at i;subst i;exact absurd hk (B_:¬(1:Int)=2);simp[No,u7,Bt,(B_:¬(1:Int)=2),(B_:¬(1:Int)=3)] at o ⊢;rw[<-aAv];exact o
def lJ{a b:Int}(ha:0<=a)(hb:0<=b)(r1 I:X_)(j J:W_)(o O:Z_):MW ks n [⟨3,a,r1,j,o⟩,⟨3,b,I,J,O⟩] [⟨3,a+b,r1,j,o⟩]:=by
 have e:(a+b).toNat=a.toNat+b.toNat:=E;refine⟨λd u=>?_,?_,?_,λh q i=>?_,λh q i hk=>?_,λq u h h0 hp B=>?_⟩;simp[No,u7,Go.Proofs.YtlmjclmngedmkaaGreatDoor.BD,(B_:¬(3:Int)=1),(B_:¬(3:Int)=2),e,yG];simp[Ah,e];simp[Bf];simp at i;subst i;show 0<=a+b;omega;simp at i;subst i;exact absurd hk (B_:¬(3:Int)=2);simp[No,u7,Bt,(B_:¬(3:Int)=2),yE] at B ⊢;rw[<-aAv];exact B.2
def nE(r1 i:X_)(s:W_)(B O:Int)(I Q:Z_):MW ks n [⟨2,B,r1,s,I⟩,⟨2,O,i,s,Q⟩] [⟨2,B,r1++i,s,I⟩]:=by
 refine⟨λd u=>?_,?_,?_,λh q j=>?_,λh q j hk J hb=>?_,λq u h h0 hp U=>?_⟩;simp[No,u7,Go.Proofs.YtlmjclmngedmkaaGreatDoor.BD,(B_:¬(2:Int)=1),S7,Mp];simp[Ah];simp[Bf];simp at j;subst j;exact h ⟨2,B,r1,s,I⟩ D_;simp at j;subst j;have h1:=h ⟨2,B,r1,s,I⟩ D_ rfl J;have V:=h ⟨2,O,i,s,Q⟩ D_ rfl J;simp only[Gg,Ad] at hb ⊢;have X:0<s.length:=wN.2 J;have Y:0<(Ce ks true s).length->(Ce ks true s).length=s.length/\Bj r1=r1.length:=λe=>h1 (.inl e);have g2:0<(Ce ks true s).length->(Ce ks true s).length=s.length/\Bj i=i.length:=λe=>V (.inl e);have k1:0<Bj r1->(Ce ks true s).length=s.length/\Bj r1=r1.length:=λe=>h1 (.inr e);have k2:0<Bj i->(Ce ks true s).length=s.length/\Bj i=i.length:=λe=>V (.inr e);have o:0<(Ce ks true s).length:=by
  rcases hb with e|e;exact e;by_cases Z:0<Bj r1;have:=(k1 Z).1;omega;have:=(k2 E).1;omega
 exact⟨(Y o).1,E⟩;simp only[No,u7,Bt,yE] at U ⊢;exact U.2
def jO{g:Int}(B:1<=g)(i:Dop)(hi:i.kind=2)(r:X_)(s:W_)(q:Z_):MW ks n [⟨3,g,r,s,q⟩,i] [i,⟨3,g,r,s,q⟩]:=by
 refine⟨λd u=>?_,?_,?_,λh q j=>h q (by simp at j ⊢;exact j.symm),λh q j=>h q (by simp at j ⊢;exact j.symm),λp u h h0 hp o=>?_⟩;simp[No,u7,Go.Proofs.YtlmjclmngedmkaaGreatDoor.BD,hi,(B_:¬(3:Int)=1),(B_:¬(3:Int)=2),(B_:¬(2:Int)=1),yE];simp[Ah,hi];simp[Bf,hi];simp only[No,u7,Bt,Ah,hi,(B_:¬(3:Int)=2),xF,yE] at o hp ⊢;exact⟨E,o.1,o.2.2⟩
def Sj(i:V')(b o:Dop):(i++[b]).set ((i++[b]).length-1) o=i++[o]:=by
 rw[Ad,xD,yD,wV _ _ (HK _),zz];rfl
def QG(l:V'):l=[]\/∃i b,l=i++[b]:=by
 rcases tG l with h|⟨i,b,h⟩;exact .inl h;exact .inr ⟨i,b,by rw[h,vq]⟩
def km{c:V'}{m:Int}(p:Z_)(hm:0<=m)(hc:∀o∈c,0<=o.n/\o.n+m<=4611686018427387904):MW ks n (c++[⟨1,m,[],[],p⟩]) (G0 c m p):=by
 unfold G0;rcases QG c with rfl|⟨i,b,rfl⟩;exact MW.refl _;rw[R0];simp only[WJ,vz];split;rename_i h;obtain⟨j,B⟩:=hc b D_;rw[Sj,wrap64 E E];obtain⟨k,bn,br,J,I⟩:=b;obtain⟨rfl,rfl⟩:=h;have:=(kp (ks:=ks) (n:=n) j hm I br [] J []).pre i;rw[Mp];exact this;exact MW.refl _
def Yn(h:Gj a)(rs:X_)(s:W_):MW ks n (a++[⟨2,0,rs,s,[]⟩]) (Gh a rs s):=by
 unfold Gh;cases h with
 |nil=>exact MW.refl _
 |H5 i r t h hr j=>
  rw[R0];simp only[WJ,vz];split;rename_i e;rw[Sj,Mp,<-e];exact(nE r rs t 0 0 [] []).pre i;exact MW.refl _
def Gj.zero(h:Gj a):∀o∈a,o.n=0:=by
 induction h with
 |nil=>simp
 |H5 i rs set h hr I B=>
  intro o j;rcases DN.1 j with j|j;exact B o j;simp at j;subst j;rfl
def Yy{g:Int}(h:Gj a)(j:0<=g):∀o∈BW a g,0<=o.n:=by
 intro o i;unfold BW at i;split at i;rcases DN.1 i with i|i;have:=h.zero o i;omega;simp at i;subst i;exact j;have:=h.zero o i;omega
def Fl.vf{d:V'}(h:Fl d):∀o∈d,0<=o.n:=by
 induction h with
 |nil=>simp
 |H5 d ins Ak m p h hi j hb I hp B=>
  intro o i;simp only[DN,so] at i;rcases i with(i|i)|rfl;exact B o i;exact Yy hi j o i;show 0<=m;omega
def kT{l:V'}(h:∀o∈l,0<=o.n){o:Dop}(i:o∈l):o.n<=Gi l:=by
 induction l with
 |nil=>simp at i
 |cons q l j=>
  have e:Gi (q::l)=q.n+Gi l:=by simp[Gi]
  have h1:=h q D_;have I:0<=Gi l:=by
   clear j i;have B:∀o∈l,0<=o.n:=λo i=>h o (by simp[i]);clear h e h1;induction l with
   |nil=>simp[Gi]
   |cons r l j=>
    have e:Gi (r::l)=r.n+Gi l:=by simp[Gi]
    have:=B r D_;have:=j λo i=>B o (by simp[i]);omega
  rcases I3.1 i with rfl|i;omega;have:=j (λo i=>h o (by simp[i])) i;omega
def fe{s:MkS}{t:Int}(h:VH s t){o:Dop}(Q:GG o)(ht:t+o.n<=4611686018427387904):MW ks n (s.done++BW s.ins s.Ak++[o]) ((BX s o).done++BW (BX s o).ins (BX s o).Ak):=by
 obtain⟨done,ins,Ak⟩:=s;obtain⟨h1,B,J,U⟩:=h;simp only at h1 B J U ⊢;obtain⟨k,m,rs,set,p⟩:=o;have i:∀l:V',BW l 0=l:=λl=>by unfold BW;rw[Bp B_]
 have X:=h1.nn;rcases Q with⟨rfl,rfl,rfl,k1,k2⟩|⟨rfl,rfl,rfl,rfl,k1,k2⟩|⟨rfl,rfl,rfl,k1⟩;simp only at k1 k2 ht;have e:BX ⟨done,ins,Ak⟩ ⟨1,m,[],[],p⟩=⟨G0 (done++BW ins Ak) m p,[],0⟩:=by
  unfold BX GM;rw[Cx rfl,Bp (by simp only;omega)]
 rw[e];simp only[i,Ty];have I:∀q∈done++BW ins Ak,0<=q.n:=λq j=>by
  rcases DN.1 j with j|j;exact h1.vf q j;exact Yy B J q j
 refine km p E λq j=>⟨I q j,?_⟩;have:=kT I j;rw[Dq,JQ B J] at this;omega;simp only at k1 k2 ht;have e:BX ⟨done,ins,Ak⟩ ⟨3,m,[],[],[]⟩=⟨done,ins,Ak+m⟩:=by
  unfold BX KC;rw[Bp (B_:¬(3:Int)=1),Bp (B_:¬(3:Int)=2)];show MkS.mk done ins (IntKind.i64.wrap (Ak+MS m 0))=_;rw[show MS m 0=m by unfold MS;split<;>omega,wrap64 E E]
 rw[e];simp only;have V:BW ins (Ak+m)=ins++[⟨3,Ak+m,[],[],[]⟩]:=by unfold BW;rw[Cx E]
 rw[V];by_cases O:0<Ak;rw[show BW ins Ak=ins++[⟨3,Ak,[],[],[]⟩] by unfold BW;rw[Cx O],Mp,Mp];exact((lJ J E [] [] [] [] [] []).pre ins).pre done;obtain rfl:Ak=0:=E;rw[i,Int.zero_add,Mp];exact MW.refl _;simp only at k1 ht;have e:BX ⟨done,ins,Ak⟩ ⟨2,0,rs,set,[]⟩=⟨done,Gh ins rs set,Ak⟩:=by
  unfold BX KD;rw[Bp (B_:¬(2:Int)=1),Cx rfl,Bp k1]
 rw[e];simp only;by_cases O:0<Ak;rw[show BW ins Ak=ins++[⟨3,Ak,[],[],[]⟩] by unfold BW;rw[Cx O],show BW (Gh ins rs set) Ak=Gh ins rs set++[⟨3,Ak,[],[],[]⟩] by unfold BW;rw[Cx O],Mp,Mp];apply MW.trans (((jO E ⟨2,0,rs,set,[]⟩ rfl [] [] []).pre ins).pre done);have:=((Yn (ks:=ks) (n:=n) B rs set).KM [⟨3,Ak,[],[],[]⟩]).pre done;rw[Mp] at this;exact this;obtain rfl:Ak=0:=E;rw[i,i,Mp];exact(Yn B rs set).pre done
def kM{x:V'}(h:∀o∈x,GG o)(hl:x.length<=1048576):∀k,k<=x.length->MW ks n (x.take k) ((BB (x.take k)).done++BW (BB (x.take k)).ins (BB (x.take k)).Ak):=by
 intro k;induction k with
 |zero=>intro _;exact MW.refl _
 |succ k J=>
  intro hk;have i:k<x.length:=E;have B:∀q∈x.take k,GG q:=λq O=>h q (aO O);have j:(x.take k).length=k:=by rw[K8];omega
  have Q:=LX (x.take k) B;have I:=h x[k] (Q0 i);have U:=I.nn;have ex:x.take (k+1)=x.take k++[x[k]]:=by rw[Lc,By i];rfl
  have e:BB (x.take (k+1))=BX (BB (x.take k)) x[k]:=by rw[ex];unfold BB;rw[wG];rfl
  rw[e,ex];refine MW.trans ((J E).KM [x[k]]) (fe (LU (x.take k) B E) I ?_);rw[j] at Q;have:(k:Int)*536870912<=1048576*536870912:=aAI E B_;omega
def kF{a b:V'}(h:∀d,BD ks d a=BD ks d b)(w:V'):∀d,BD ks d (w++a)=BD ks d (w++b):=by
 induction w with
 |nil=>exact h
 |cons o w i=>intro d;rw[No,No,BD,BD,i,i]
def cC(c:Cel):CD ks [] c=c:=by
 obtain⟨r,s⟩:=c;unfold CD NK CR;simp[List.filter_nil];cases s<;>rfl
def jr:∀{w:V'} {p:Int},Bt n p (w++a)->Bt n p w:=by
 intro w;induction w with
 |nil=>intro p _;trivial
 |cons o w i=>
  intro p h;rw[No,Bt] at h;rw[Bt];split;rename_i k;rw[Cx k] at h;exact⟨h.1,i h.2⟩;rename_i k;rw[Bp k] at h;split;rename_i j;rw[Cx j] at h;exact⟨h.1,i h.2⟩;rename_i j;rw[Bp j] at h;exact i h
def NM{x:V'}(h:∀o∈x,GG o)(hl:x.length<=1048576)(ht:(Ah x:Int)<=n)(U:Bt n 0 x)(hp:∀o∈x,Cr ks o) : (∀d,BD ks d (AL x)=BD ks d x)/\Ah (AL x)<=Ah x/\Ah x+Bf (AL x)=Ah (AL x)+Bf x/\Bt n 0 (AL x)/\∀o∈AL x,Cr ks o:=by
 have A_:=kM (ks:=ks) (n:=n) h hl x.length (HK _);rw[Nr] at A_;have j:∀o∈x,0<=o.n:=λo B=>(h o B).nn.1;have I:∀d,BD ks d ((BB x).done++BW (BB x).ins (BB x).Ak)=BD ks d x:=λd=>by have:=A_.BD d [];rw[Ty,Ty] at this;exact this.symm
 have J:Bt n 0 ((BB x).done++BW (BB x).ins (BB x).Ak):=by
  have:=A_.EU 0 [] j (aAL _) (by rw[Ty];omega) (by rw[Ty];exact U);rwa [Ty] at this
 have Q:=A_.Gv;have V:=A_.qj;have O:=A_.pl hp;unfold AL Ra;generalize (BB x).done++BW (BB x).ins (BB x).Ak=c at *;rcases QG c with rfl|⟨i,b,rfl⟩;show(∀d,BD ks d []=BD ks d x)/\Ah []<=Ah x/\Ah x+Bf []=Ah []+Bf x/\Bt n 0 []/\∀o∈([]:V'),Cr ks o;exact⟨I,E,E,J,O⟩;unfold FT;rw[R0];simp only[WJ,vz];split;rename_i hb;rw[wK];refine⟨λd=>?_,?_,?_,jr J,λo B=>O o (by simp[B])⟩;rw[<-I d];have:=kF (ks:=ks) (a:=[]) (b:=[b]) (λd=>?_) i d;rw[Ty] at this;exact this;rw[BD,BD,Cx hb.1,hb.2,BD,show CD ks []=id from funext cC,List.map_id,QC];rw[GQ] at Q;omega;rw[GQ,Ah,Ah,Bp E] at Q;rw[I9,Bf,Bf,Bp E,Bp E] at V;omega;exact⟨I,E,E,J,O⟩
end
def Ii.lt{b:Nat}{s:MkS}(h:Ii F W b s):Ii (λx=>F x/\x<W.heap.size) W b s:=by
 obtain⟨dv,X,C,j,h⟩:=h;refine⟨dv,X,C,j,h.c0,h.c1,h.c2,h.lv,⟨h.fb,q8 W _ h.c0⟩,h.nb,λx o=>⟨⟨(h.cf x o).1,(h.cf x o).2⟩,(h.cf x o).2⟩,h.done,λg B=>⟨⟨(h.dF g B).1,(AG.Az h.done g B).2⟩,(h.dF g B).2⟩,?_⟩;rcases h.ins with h0|⟨g,c,Y,U,Z,V,e4,e5,e6,e7,e8,e9,I,J,O,i,Q⟩;exact .inl h0;exact .inr ⟨g,c,Y,U,Z,V,⟨e4,(AG.Az V g (by rw[U];rfl)).2⟩,e5,e6,e7,⟨e8,i⟩,e9,I,J,O,i,Q⟩
def DB(a:Attr):Chg:=⟨a.key,false,a.val⟩
def Bz(c:Cel):Dop:=⟨2,0,[c.r],c.set,[]⟩
def Z8{a:Attr}:AF prog 157 [.agg a.cells.toArray] (λv w'=>v=.agg (DB a).cells.toArray/\AI w w') w:=by
 apply H_ func157;refine Bx.box (vs:=a.cells) λY Z I o J=>?_;refine Bx.zero λb2 X O B Q=>?_;have i:=J.U_ B;rw[AB,AH];apply AD (i.cells 0 _ rfl);rw[AB,AH];refine Ab (vs:=a.val.cells) rfl (λj u hu=>by rw[<-AH,Addr.add_add,AH];exact i.cells (1+j) u (by rw[yf];exact hu)) ?_;refine⟨(DB a).cells.toArray,by rfl,?_⟩;refine Q.Au (us:=(DB a).cells) rfl rfl (EA.one (w:=X) (x:=DB a) rfl) λw3 U V=>?_;refine U.GN rfl ⟨rfl,?_⟩;have:=o.size;exact(o.trans B).next V E
def dN{set:W_}(h:CI S w sv set)(hl:set.length<=1000000) : AF prog 93 [i_,sv] (λv w'=>AG w.heap.size 63 6 EA w' v (set.map DB)/\AI w w') w:=by
 refine G_ func93 ?_ (.y (.y (.y (.z (.y (.node [5,6,13] [(5,6),(8,8),(13,76)] (.y (.y (.x (.y (.cut [5,6] [(5,6),(17,41)] (.node [5,6] [(5,6),(17,41)] (.cut [] [(17,30)] (.x .D8) .nil) .nil) (.x (.cut [55] [(42,55)] .D8 (.x (.x (.x .D8)))))))))) .nil)) (.x (.y (.node [5,81] [(5,5),(10,10),(81,91)] .nil .nil)))))));obtain⟨pa,ca,rfl,_⟩:=h.AO;rw[AP];apply AX (λvs W=>∃(k:Nat) (B:d_),k<=set.length/\vs=[B,zI 0,zI k]/\AG w.heap.size 63 6 EA W B ((set.take k).map DB)/\AI w W) (λvs _=>set.length-Di vs 2) ⟨0,_,Hw _,rfl,AG.nil,AK.refl _ _⟩;rintro vs W ⟨k,B,hk,rfl,U,g⟩ _;simp only[Iu];refine HP (λa6=>?_) λa7=>?_;rotate_left;obtain rfl:k=set.length:=E;rw[Nr] at U;refine Ev (e:=116) (k:=5) (i:=Tryz.t116) (j:=0) (S:=λ_=>True) (R:=Ch) (l:=[]) C_ C_ C_ (BC.nil) (HK _) λv' V=>?_;obtain⟨a',c',rfl,_⟩:=V.AO;rw[AP];apply AX (λvs I=>vs=[B,zI 0]/\W=I) (λ_ _=>0) ⟨rfl,rfl⟩;rintro vs _ ⟨rfl,rfl⟩ _;simp only[JS,wL];rw[As];exact AE (λe=>absurd e D_) λ_=>⟨U,g⟩;have o:k<set.length:=E;obtain⟨p,r,rfl,_,hr,hc,rfl⟩:=(h.U_ g B_ C0).get o;refine AW o (Ab hr m_ ?_);refine Bx.new (vs:=set[k].cells) rfl rfl (Ch.one (w:=W) (x:=set[k]) rfl) λb8 Q a8 g4 B8=>?_;have X:AG w.heap.size 63 6 EA Q B ((set.take k).map DB):=AG.U' U g4 C0 F_;refine AV (λvs I=>vs=[B,zI 0]/\AI Q I) ?_ ?_;rotate_left;apply AX (λvs I=>vs=[B,zI 0]/\AI Q I) (λ_ _=>0) ⟨rfl,AK.refl _ _⟩;rintro vs Y ⟨rfl,Z⟩ _;simp only[JS,wL];apply AV (λ_ _=>False) E';apply DY (λw'=>AI Y w') (AK.drew _ _);rw[show(i_)=.slice none (0:Nat) 0 from rfl,AP,As];refine AE (λe=>absurd e D_) λ_=>?_;exact λw' O=>⟨trivial,Z.trans O⟩;rintro vs Y ⟨rfl,Z⟩ _;simp only[JS,wL];refine AV (λvs I=>vs=[.bool false]/\AI Q I) ?_ ?_;rotate_left;apply DY (λw'=>AI Y w') (AK.drew _ _);rw[show(i_)=.slice none (0:Nat) 0 from rfl,AP,As];refine AE (λe=>absurd e D_) λ_=>?_;exact λw' O=>⟨rfl,Z.trans O⟩;rintro vs W6 ⟨rfl,g6⟩ _;simp only[JS];apply AS;apply(B8.U_ g6).GN rfl;apply AA Z8;rintro _ W7 ⟨rfl,g7⟩;have J:=g6.trans g7;have a1:AG w.heap.size 63 6 EA W7 B ((set.take k).map DB):=AG.U' X J C0 F_;refine ME (w0:=w) QQ a1 ((g.trans g4).trans J) (cs:=(DB set[k]).cells) (x:=DB set[k]) C_ rfl rfl (λ_ _ _=>EA.one) N_ (by simp only[FA,K8];omega) (by simp only[maxLen,FA,K8];omega) λv' w' o' O=>?_;rw[AR,AM E];refine⟨⟨k+1,v',o,rfl,?_,O⟩,by rw[Ri,Ri];omega⟩;rw[Lc,By o,S7];exact o'
def JK(x:V')(o:Dop):BB (x++[o])=BX (BB x) o:=by unfold BB;rw[wG];rfl
def ik{b B:Nat}(h:Ii (λy=>B<=y) w b MkS.z)(hd:BS S S w v d)(hS:∀y,S y->y<B)(hB:B<=w.heap.size)(hm:Aa (d.map Bz)<=68719476736) : AF prog 92 [g_ b,v] (λ_ w'=>Ii (λy=>B<=y) w' b (BB (d.map Bz))/\AK (λy=>B<=y) w w') w:=by
 refine G_ func92 ?_ (.y (.node [8] [(5,5),(8,19)] .nil .nil));obtain⟨a,c,rfl,_⟩:=hd.AO;have an:d.length<=Aa (d.map Bz):=by have:=Bo (d.map Bz);rwa [FA] at this
 rw[AP];apply AX (λvs W=>∃k:Nat,k<=d.length/\vs=[zI k]/\Ii (λy=>B<=y) W b (BB ((d.map Bz).take k))/\AK (λy=>B<=y) w W) (λvs _=>d.length-Di vs 0) ⟨0,Hw _,rfl,h,AK.refl _ _⟩;rintro vs W ⟨k,hk,rfl,hI,g⟩ _;rw[Bh,JS,As];refine AE (λav=>?_) λax=>?_;rotate_left;obtain rfl:k=d.length:=E;rw[wM (by rw[FA];exact HK _)] at hI;exact⟨hI,g⟩;have J:k<d.length:=E;have a1:BS S S W (.slice a d.length c) d:=BC.U' hd g (λx _ Y e=>by have:=hS x Y;omega) B_ λr x Y=>Y.U' g (λy _ i e=>by have:=hS y i;omega) C0;obtain⟨p,r,rfl,_,hr,hc,Q⟩:=a1.get J;refine AW J (Ab hr m_ ?_);refine Bx.new (vs:=r) hr rfl (Hp.one Q) λb5 I ay Z B5=>?_;have U:=hI.U' Z C0;obtain⟨a6,rfl,a7⟩:=Hp.U' (D':=S) Q Z F_ C0;rw[AB,AH];apply AD (B5.cells 0 _ rfl);apply GY (Dj (v:=.int .i32 d[k].r) (vs:=[.int .i32 d[k].r]) (k:=1) rfl B_ rfl rfl);have O:AI I (I.alloc (.cells [Value.int .i32 d[k].r].toArray 21)):=AK.alloc _ _ _;have ho:AG I.heap.size 21 1 CM (I.alloc (.cells [Value.int .i32 d[k].r].toArray 21)) (.slice (h_ I.heap.size) 1 1) [d[k].r]:=AG.N5 (HK _) rfl (λu hu=>by simp at hu;subst hu;rfl) rfl;have b0:=U.U' O C0;rw[AB,AH];apply AD ((B5.U_ O).cells 1 _ rfl);have b6:=Z.size;have b7:=g.size;have b8:=O.size;have V:Bz d[k]∈d.map Bz:=i7.2 ⟨d[k],Q0 J,rfl⟩;have a8:=EP V;have b9:=Fu ((d.map Bz).take k);have al:=Jc (d.map Bz) k;have ba:=Bo (BB ((d.map Bz).take k)).ins;simp[Co,Bz] at a8;have bb:d[k].set.length<=Eo d[k].set:=by rw[LL];omega
 have aa:Ii (λy=>B<=y/\y<I.heap.size) (I.alloc (.cells [Value.int .i32 d[k].r].toArray 21)) b (BB ((d.map Bz).take k)):=((U.lt).U' O C0);have ak:Jl (λy=>S y\/y=I.heap.size) (I.alloc (.cells [Value.int .i32 d[k].r].toArray 21)) (.slice (h_ I.heap.size) 1 1) [d[k].r]:=BC.sub (AG.sl ho) (λx Y h=>.inr (by have:=h.2;simp[Value.ownBlock,S5] at this;exact this.symm)) B_ C0;have X:CI (λy=>S y\/y=I.heap.size) (I.alloc (.cells [Value.int .i32 d[k].r].toArray 21)) a6 d[k].set:=(a7.U_ O B_ C0).sub (λ_ _ h=>.inl h) B_ C0;refine AA (Hd aa ak X (λy i e=>by rcases i with i|i;have:=hS y i;omega;omega) E (λo ho=>?_) D_ E) ?_;have h1:=EP ho;simp[Co] at h1;simp;omega;rintro _ W3 ⟨h3,m3⟩;rw[AR,AM E];refine⟨⟨k+1,J,rfl,?_,?_⟩,by rw[CL,CL];omega⟩;rw[Lc,By (by rw[FA];exact J),wz];show Ii _ _ _ (BB ((d.map Bz).take k++[Bz d[k]]));rw[JK];exact h3.sub λy i=>by rcases i with i|i<;>omega
 exact((g.trans (Z.mono E')).trans (O.mono E')).trans (m3.mono λy _ i=>i.1)
def Dt(d:Y_):V':=match d.getLast? with|some c=>d.dropLast.map Bz++[⟨1,1,[],[],c.set.map DB⟩]|none=>[]
def TK(hd:BS S S w v d)(hp:0<d.length)(hm:Aa (d.map Bz)<=1000000000)(hs:∀c∈d,c.set.length<=64) : AF prog 38 [v] (λv' w'=>CZ w.heap.size w' v' (AL (Dt d))/\AI w w') w:=by
 apply H_ func38;have Z:BS (λb=>S b/\b<w.heap.size) (λb=>S b/\b<w.heap.size) w v d:=hd.sub (λb hb h=>⟨h,hb⟩) B_ λr x o=>o.U' l_ F_ λb hb h=>⟨h,hb⟩;obtain⟨i,c,rfl⟩:∃i c,d=i++[c]:=by
  rcases tG d with h|⟨i,b,h⟩;rw[h] at hp;simp at hp;exact⟨i,b,by rw[h,vq]⟩
 have a1:(i++[c]).length=i.length+1:=D_;have ax:(i++[c]).length<=1000000000:=by have:=Bo ((i++[c]).map Bz);rw[FA] at this;omega
 apply AA LC;rintro _ w1 ⟨g1,b,a6,ay,rfl,a7⟩;have J:Ii (λy=>w.heap.size<=y) w1 b MkS.z:=a7.sub λy I=>by rw[I];exact a6
 obtain⟨a,cp,rfl,_⟩:=hd.AO;rw[AP,A6,wrap64 E E,show(((i++[c]).length:Int)-1)=(i.length:Int) by rw[a1];omega,DR];refine AE (λ_=>?_) λe=>(e E).elim;have O:=Z.U_ g1;refine RQ (e:=69) (k:=2) (i:=Tryz.t69) C_ C_ C_ O (j:=i.length) E λv' Q=>?_;rw[List.take_left] at Q;have b0:Aa (i.map Bz)+Co (Bz c)=Aa ((i++[c]).map Bz):=by simp[Aa]
 apply AA (ik (B:=w.heap.size) J Q (λy I=>I.2) g1.size E);rintro _ w2 ⟨a8,Y⟩;have aa:BS (λb=>S b/\b<w.heap.size) (λb=>S b/\b<w.heap.size) w2 (.slice a (i++[c]).length cp) (i++[c]):=BC.U' O Y (λx _ o e=>by have:=o.2;omega) B_ λr x o=>o.U' Y (λy _ I e=>by have:=I.2;omega) C0;obtain⟨p,r,rfl,_,hr,hc,b6,rfl,U⟩:=aa.get (i:=i.length) E;have ec:(i++[c])[i.length]'(E)=c:=D_;rw[ec] at hc U;apply AW E;rw[AB,Addr.add_add];apply AD (hc 1 _ rfl);have b7:=hs c D_;apply AA (dN U E);rintro pv w3 ⟨ho,g3⟩;have z2:=Y.size;have z3:=g3.size;have ak:Ii (λy=>w.heap.size<=y/\y<w2.heap.size) w3 b (BB (i.map Bz)):=a8.lt.U' g3 C0;have b8:=Fu (i.map Bz);have b9:=Bo (BB (i.map Bz)).done;have ba:=Bo (BB (i.map Bz)).ins;refine AA (EO (n:=1) (p:=c.set.map DB) (S:=λy=>w2.heap.size<=y) ak ((AG.sl ho).sub (λx o h=>h.1) B_ C0) (λx o e=>by have:=e.2;omega) E (by rw[FA];omega)) ?_;rintro _ w4 ⟨V,m4⟩;have z4:=m4.size;have al:GM (BB (i.map Bz)) 1 (c.set.map DB)=BB (Dt (i++[c])):=by
  have e1:Dt (i++[c])=i.map Bz++[⟨1,1,[],[],c.set.map DB⟩]:=by
   unfold Dt;rw[R0,wK];rfl
  rw[e1,JK];rfl
 rw[al] at V;have an:FK (c.set.map DB)=Eo c.set:=by
  unfold FK Eo;rw[xn];rfl
 have bb:Aa (Dt (i++[c]))<=1000000000:=by
  have e1:Dt (i++[c])=i.map Bz++[⟨1,1,[],[],c.set.map DB⟩]:=by
   unfold Dt;rw[R0,wK];rfl
  have e2:Aa (Dt (i++[c]))=Aa (i.map Bz)+Co ⟨1,1,[],[],c.set.map DB⟩:=by rw[e1];simp[Aa]
  rw[e2];have e3:Co ⟨1,1,[],[],c.set.map DB⟩=1+Eo c.set:=by simp only[Co,an,Eo];simp
  have e4:Co (Bz c)=1+1+Eo c.set:=by simp[Co,Bz,FK]
  omega
 have av:=Fu (Dt (i++[c]));apply AA (Kh V E);rintro v5 w5 ⟨X,g5⟩;refine⟨AG.U' (AG.Bk X λg hg=>by have:=(AG.Az X g hg).1;omega) l_ C0 λr x _ o=>o.U' l_ F_ λy _ I=>⟨E,I.2⟩,?_⟩;exact(((g1.next Y E).trans g3).next m4 λx o e=>by have:=e.1;omega).trans g5
def gV{s:W_}{m:Nat}(h:∀a∈s,a.val.s.size<=m):Eo s<=s.length*(m+1):=by
 induction s with
 |nil=>exact Hw _
 |cons a s i=>
  have e:Eo (a::s)=Gl a+Eo s:=by simp[Eo]
  have h1:=h a D_;have j:=i λb hb=>h b (by simp[hb]);rw[e,Hn,wF,Gl];omega
def FM.size{s:W_}(h:FM ks s):Eo s<=4160:=by
 have h1:=gV λa ha=>by
  obtain⟨_,_,i⟩:=h.1;have h0:HO.size=0:=rfl;rcases(i a ha).1 with⟨_,e,_⟩|⟨_,e⟩|⟨_,e,_⟩|⟨_,_,e,_⟩;rw[e];show HO.size<=64;omega;rw[e];show HO.size<=64;omega;rw[e];show HO.size<=64;omega;exact e
 have:=h.len;omega
def VB(h:∀c∈d,FM ks c.set):Aa (d.map Bz)<=d.length*4162:=by
 induction d with
 |nil=>exact Hw _
 |cons c d i=>
  have e:Aa ((c::d).map Bz)=Co (Bz c)+Aa (d.map Bz):=by simp[Aa]
  have h1:=(h c D_).size;have o:=i λb hb=>h b (by simp[hb]);have j:Co (Bz c)=1+1+Eo c.set:=by simp[Co,Bz,FK]
  rw[e,j,Hn,wF];omega
section
variable {w0:e_}{F:f_}{W:e_}{a:TxA}{σ:SKs}{most:Int}{N:Nat}{d:Y_}
def U3(h:IM .f w0 F W a σ most d N)(J:FV σ.ks most d)(hm:d.length<=100000)(U:N<=1000000000) : AF prog 63 [g_ a.b] (λv' w'=>CZ W.heap.size w' v' (AL (Dt d))/\AI W w') W:=by
 have B:=J.g.set;apply H_ func63;apply AA (FW h.box.1);rintro _ _ ⟨rfl,rfl⟩;rename e_=>W;rw[Aq];apply AS;apply AA (GV h);rintro _ W1 ⟨rfl,I⟩;apply AA (J0 (i:=0) (j:=d.length) (h.U_ I) (Hw _) (HK _) B E U);rintro _ W2 ⟨cv,rfl,o,O⟩;rw[Nr,xP] at o;refine Bv ?_;have V:=VB B;apply AA (TK (o.rd (HK _)) J.Ct E λc hc=>(B c hc).len);rintro v W3 ⟨Q,X⟩;have z1:=I.size;have z2:=O.size;refine⟨?_,(I.trans O).trans X⟩;exact AG.U' (AG.Bk Q λg Y=>by have:=(AG.Az Q g Y).1;omega) l_ C0 λr x _ Z=>Z.U' l_ F_ λy _ hy=>⟨E,hy.2⟩
end
def OB{x:V'}(hk:∀k∈ks,Cq k)(I:∀o∈x,IH o)(hl:x.length<=1048576)(h:BY ks x d.length most=0) : BY ks (AL x) d.length most=0/\BD ks d (AL x)=BD ks d x/\(∀o∈AL x,IH o)/\(AL x).length<=x.length:=by
 have hF:=(Br E).1 h;have J:∀o∈x,GG o:=λo i=>(hF.Cs o i).1.QR (hF.Cs o i).2;obtain⟨B,O,_,_,Q⟩:=K3 (λk j=>by have:=(hk k j).1;omega) hF.may I E;obtain⟨U,V,Z,X,Y⟩:=NM (ks:=ks) (n:=d.length) J E (by have:=hF.Gv;omega) hF.EU hF.pl;refine⟨(Br E).2 ⟨B,Hs B,hF.Ct,vx V hF.Gv,X,Y,?_⟩,U d,λo i=>(O o i).1.b,Q⟩;have:=hF.most;omega
def LO(s:W_)(k:Int):Option BF:=(s.find? λa=>decide (a.key=k)).map (·.val)
def PN(p:Z_)(k:Int):Option Chg:=p.find? λc=>decide (c.key=k)
def E2{s:W_}{k:Int}(h:∀a∈s,a.key≠k):LO s k=none:=by
 unfold LO;rw[aAh.2 λa ha=>by simpa using h a ha];rfl
def ER{a:Attr}{s:W_}{k:Int}:LO (a::s) k=if a.key=k then some a.val else LO s k:=by
 unfold LO;rw[aBB];by_cases h:a.key=k;simp[h];simp[h]
def Yq:∀{s t:W_},Gr s->Gr t->(∀k,LO s k=LO t k)->s=t:=by
 intro s;induction s with
 |nil=>
  intro t _ _ h;cases t with
  |nil=>rfl
  |cons b t=>have:=h b.key;rw[ER,Cx rfl] at this;cases this
 |cons a s V=>
  intro t X ht h;obtain⟨ha,I⟩:=we.1 X;cases t with
  |nil=>have:=h a.key;rw[ER,Cx rfl] at this;cases this
  |cons b t=>
   obtain⟨hb,J⟩:=we.1 ht;have o:=h a.key;have B:=h b.key;rw[ER,ER,Cx rfl] at o;rw[ER,ER,Cx rfl] at B;have hk:b.key=a.key:=by
    by_cases e:b.key=a.key;exact e;rw[Bp e] at o;rw[Bp (λj=>e j.symm)] at B;have h1:∃x∈t,x.key=a.key:=by
     refine rT λO=>?_;rw[E2 λx i j=>O ⟨x,i,j⟩] at o;cases o
    have Y:∃x∈s,x.key=b.key:=by
     refine rT λO=>?_;rw[E2 λx i j=>O ⟨x,i,j⟩] at B;cases B
    obtain⟨x,i,ex⟩:=h1;obtain⟨y,Z,ey⟩:=Y;have:=hb x i;have:=ha y Z;omega
   rw[Cx hk] at o;have U:=r9 o;have Q:a=b:=by cases a;cases b;simp only at hk U;rw[hk,U]
   subst Q;rw[V I J λk=>?_];have:=h k;rw[ER,ER] at this;by_cases e:a.key=k;subst e;rw[E2 λx i j=>by have:=ha x i;omega,E2 λx i j=>by have:=hb x i;omega];rwa [Bp e,Bp e] at this
def Yw(a b:W_)(k:Int):LO (a++b) k=(LO a k).or (LO b k):=by
 unfold LO;rw[List.find?_append];cases List.find? (λx=>decide (x.key=k)) a<;>simp
def kj{c:Chg}{k:Int}(hk:k<c.key):∀{s:W_},Gr s->LO (Lo c s) k=LO s k:=by
 intro s;induction s with
 |nil=>intro _;rfl
 |cons a s j=>
  intro h;obtain⟨ha,o⟩:=we.1 h;rw[Lo];split;rw[ER,ER,j o];rename_i h1;rw[E2 (s:=[]) D_,E2 λx i=>?_];rcases I3.1 i with rfl|i;omega;have:=ha x i;omega
def eK{c:Chg}{k:Int}(hk:c.key<k):∀{s:W_},LO (GA c s) k=LO s k:=by
 intro s;induction s with
 |nil=>rfl
 |cons a s i=>
  rw[GA];split;rename_i h1;rw[i,ER,Bp E];split;rename_i h1 j;rw[ER,Bp E];rfl
def HN{c:Chg}{p:Z_}{k:Int}:PN (c::p) k=if c.key=k then some c else PN p k:=by
 unfold PN;rw[aBB];by_cases h:c.key=k<;>simp[h]
def RI{p:Z_}{k:Int}(h:∀c∈p,c.key≠k):PN p k=none:=by
 unfold PN;exact aAh.2 λa ha=>by simpa using h a ha
def mj{c:Chg}{k:Int}:LO (PJ c) k=if c.key=k then(if c.Ak then none else some c.val) else none:=by
 unfold PJ;by_cases i:c.Ak;rw[Cx i];split<;>simp[LO];rw[Bp i,ER];show(if c.key=k then some c.val else LO [] k)=_;split<;>simp[LO]
def I6:∀{p:Z_} {s:W_},Gr s->Gz p->∀k,LO (CQ s p) k=match PN p k with|some c=>if c.Ak then none else some c.val|none=>LO s k:=by
 intro p;induction p with
 |nil=>intro s _ _ k;rfl
 |cons c p B=>
  intro s j hp k;obtain⟨hc,o⟩:=we.1 hp;rw[CQ,Yw,Yw,B (Si j) o,HN,mj];rcases Int.lt_trichotomy k c.key with h|h|h;rw[kj h j,Bp E,Bp E,RI λx i=>by have:=hc x i;omega];simp[aBZ];rw[E2 (s:=GA c s) λx i=>by have:=QW j i;omega,aBZ];subst h;rw[E2 (s:=Lo c s) λx i=>by have:=(JT i).2;omega,Cx rfl,Cx rfl,RI λx i=>by have:=hc x i;omega];simp[Option.none_or];rw[E2 (s:=GA c s) λx i=>by have:=QW j i;omega,aBZ];rw[E2 (s:=Lo c s) λx i=>by have:=(JT i).2;omega,Bp E,Bp E,eK h];simp[Option.none_or]
def IF(s:W_)(c:Chg):Option Chg:=match LO s c.key with|some v=>if c.Ak=true\/v≠c.val then some ⟨c.key,false,v⟩ else none|none=>if c.Ak then none else some ⟨c.key,true,BF.zero⟩
def Ep(s:W_)(p:Z_):Z_:=p.filterMap (IF s)
def Ka{s:W_}{c i:Chg}(h:IF s c=some i):i.key=c.key:=by
 unfold IF at h;split at h<;>split at h<;>cases h<;>rfl
def P0{s:W_}{p:Z_}(h:Gz p):Gz (Ep s p):=by
 unfold Ep;show(List.filterMap (IF s) p).Pairwise λa b=>a.key<b.key;rw[List.pairwise_filterMap];refine List.Pairwise.imp ?_ h;intro a b i j ha o hb;rw[Ka ha,Ka hb];exact i
def lu{s:W_}{k:Int}:∀{p:Z_},Gz p->PN (Ep s p) k=(PN p k).bind (IF s):=by
 intro p;induction p with
 |nil=>intro _;rfl
 |cons c p j=>
  intro h;obtain⟨hc,hp⟩:=we.1 h;have e:Ep s (c::p)=match IF s c with|some i=>i::Ep s p|none=>Ep s p:=by
   unfold Ep;rw[List.filterMap_cons];cases IF s c<;>rfl
  rw[e,HN];by_cases hk:c.key=k;rw[Cx hk];show _=IF s c;cases hi:IF s c with
  |some i=>
   show PN (i::Ep s p) k=some i;rw[HN,Cx (by rw[Ka hi,hk])]
  |none=>
   show PN (Ep s p) k=none;rw[j hp,RI λx o=>by have:=hc x o;omega];rfl
  rw[Bp hk];cases hi:IF s c with
  |some i=>
   show PN (i::Ep s p) k=_;rw[HN,Bp (by rw[Ka hi];exact hk),j hp]
  |none=>exact j hp
def lb{p:Z_}{k:Int}{c:Chg}(h:PN p k=some c):c.key=k:=by
 have:=aAS h;simpa using this
def lq{s:W_}{p:Z_}(j:Gr s)(hp:Gz p):CQ (CQ s p) (Ep s p)=s:=by
 refine Yq (FY (FY j hp) (P0 hp)) j λk=>?_;rw[I6 (FY j hp) (P0 hp),lu hp,I6 j hp];cases hl:PN p k with
 |none=>rfl
 |some c=>
  show(match IF s c with|some c=>if c.Ak then none else some c.val|none=>if c.Ak then none else some c.val)=LO s k;unfold IF;rw[lb hl];cases B:LO s k with
  |some v=>
   show(match (if c.Ak=true\/v≠c.val then some (⟨k,false,v⟩:Chg) else none) with|some c=>if c.Ak then none else some c.val|none=>if c.Ak then none else some c.val)=some v;split;rename_i h;split at h;cases h;rfl;cases h;rename_i h;split at h;cases h;rename_i o;have h1:c.Ak=false:=by cases i:c.Ak with|false=>rfl|true=>exact(o (.inl i)).elim
   rw[h1,rT λe=>o (.inr e)];rfl
  |none=>
   show(match (if c.Ak=true then none else some (⟨k,true,BF.zero⟩:Chg)) with|some c=>if c.Ak then none else some c.val|none=>if c.Ak then none else some c.val)=none;by_cases i:c.Ak=true;rw[Cx i];show(if c.Ak=true then none else some c.val)=none;rw[Cx i];rw[Bp i];rfl
def GL(ks:Y')(c:Cel):Prop:=Dc c.r/\∀a∈c.set,FU ks (decide (c.r=10)) a=true
def L6(ks:Y')(p:Z_)(c:Cel):Dop:=⟨1,1,[],[],Ep c.set (CR ks (decide (c.r=10)) p)⟩
def CY(ks:Y'):Y_->V'->V'
 |_,[]=>[]
 |d,o::x=>if o.kind=2 then⟨3,o.AY.length,[],[],[]⟩::CY ks d x else(d.take o.n.toNat).map (if o.kind=3 then Bz else L6 ks o.patch)++CY ks (d.drop o.n.toNat) x
section
variable {ks:Y'}
def aH{b:Bool}{s:W_}{p:Z_}:CR ks b (Ep s (CR ks b p))=Ep s (CR ks b p):=by
 have key:∀c∈Ep s (CR ks b p),∃i∈CR ks b p,c.key=i.key:=λc hc=>by
  unfold Ep at hc;obtain⟨i,h1,j⟩:=aAc.1 hc;exact⟨i,h1,Ka j⟩
 generalize Ep s (CR ks b p)=q at *;unfold CR at key ⊢;refine wy.2 λc hc=>?_;obtain⟨i,o,e⟩:=key c hc;rw[e];exact(wO.1 o).2
def jT{p:Z_}{c:Cel}(o:Gr c.set)(hp:Gz p):CD ks (L6 ks p c).patch (CD ks p c)=c:=by
 obtain⟨r,s⟩:=c;show(⟨r,CQ (CQ s (CR ks (decide (r=10)) p)) (CR ks (decide (r=10)) (Ep s (CR ks (decide (r=10)) p)))⟩:Cel)=⟨r,s⟩;have i:Gr s:=o;have j:Gz (CR ks (decide (r=10)) p):=zM _ hp;rw[aH,lq i j]
def ly(l e:Y_)(y:V'):BD ks e (l.map Bz++y)=l++BD ks e y:=by
 induction l with
 |nil=>rfl
 |cons c l i=>
  rw[S4,No,BD,Bp (show ¬(Bz c).kind=1 from(by decide:¬(2:Int)=1)),Cx (show(Bz c).kind=2 from rfl),i];rfl
def kU{p:Z_}(hp:Gz p)(l:Y_)(hl:∀c∈l,Gr c.set)(e:Y_)(y:V'):BD ks (l.map (CD ks p)++e) (l.map (L6 ks p)++y)=l++BD ks e y:=by
 induction l with
 |nil=>rfl
 |cons c l i=>
  rw[S4,S4,No,No,BD,Cx (show(L6 ks p c).kind=1 from rfl)];show[CD ks (L6 ks p c).patch (CD ks p c)]++BD ks (l.map (CD ks p)++e) (l.map (L6 ks p)++y)=_;rw[jT (hl c D_) hp,i λc hc=>hl c (by simp[hc])];rfl
def lL(l:Y_):Ah (l.map Bz)=0/\Bf (l.map Bz)=l.length:=by
 induction l with
 |nil=>exact⟨rfl,rfl⟩
 |cons c l i=>
  rw[S4,Ah,Bf,i.1,i.2];exact⟨rfl,by show 1+l.length=l.length+1;omega⟩
def mh(p:Z_)(l:Y_):Ah (l.map (L6 ks p))=l.length/\Bf (l.map (L6 ks p))=l.length:=by
 induction l with
 |nil=>exact⟨rfl,rfl⟩
 |cons c l i=>
  rw[S4,Ah,Bf,i.1,i.2];exact⟨by show 1+l.length=l.length+1;omega,by show 1+l.length=l.length+1;omega⟩
def On{o:Dop}{x:V'}(k:o.kind=1):Ah (o::x)=o.n.toNat+Ah x/\Bf (o::x)=o.n.toNat+Bf x/\CY ks d (o::x)=(d.take o.n.toNat).map (L6 ks o.patch)++CY ks (d.drop o.n.toNat) x/\BD ks d (o::x)=(d.take o.n.toNat).map (CD ks o.patch)++BD ks (d.drop o.n.toNat) x:=
 ⟨by rw[Ah,Bp E],by rw[Bf,Bp E,Bp E],by rw[CY,Bp E,Bp E],by rw[BD,Cx k]⟩
def Oi{o:Dop}{x:V'}(k:o.kind=3):Ah (o::x)=o.n.toNat+Ah x/\Bf (o::x)=Bf x/\CY ks d (o::x)=(d.take o.n.toNat).map Bz++CY ks (d.drop o.n.toNat) x/\BD ks d (o::x)=BD ks (d.drop o.n.toNat) x:=
 ⟨by rw[Ah,Bp E],by rw[Bf,Cx k,wS],by rw[CY,Bp E,Cx k],by rw[BD,Bp E,Bp E]⟩
def Oz{o:Dop}{x:V'}(k:o.kind=2):Ah (o::x)=Ah x/\Bf (o::x)=o.AY.length+Bf x/\CY ks d (o::x)=⟨3,o.AY.length,[],[],[]⟩::CY ks d x/\BD ks d (o::x)=o.AY.map (λr=>(⟨r,o.set⟩:Cel))++BD ks d x:=
 ⟨by rw[Ah,Cx k,wS],by rw[Bf,Bp E,Cx k],by rw[CY,Cx k],by rw[BD,Bp E,Cx k]⟩
def rA:∀{x:V'} {d:Y_},(∀o∈x,Ax ks o)->Ah x<=d.length->Ah (CY ks d x)=Bf x/\Bf (CY ks d x)=Ah x/\(CY ks d x).length<=x.length+Ah x:=by
 intro x;induction x with
 |nil=>intro d _ _;exact⟨rfl,rfl,HK _⟩
 |cons o x Q=>
  intro d X ht;have j:∀o∈x,Ax ks o:=λo Z=>X o (by simp[Z]);rcases X o D_ with⟨k,_,_,n1,_⟩|⟨k,_,_,_,n1⟩|⟨k,_⟩;obtain⟨i,B,I,_⟩:=On (ks:=ks) (x:=x) (d:=d) k;rw[i] at ht;obtain⟨J,O,Y⟩:=Q j (d:=d.drop o.n.toNat) (by rw[FB];omega);obtain⟨U,V⟩:=mh (ks:=ks) o.patch (d.take o.n.toNat);rw[i,B,I,GQ,I9,U,V,J,O,Ad,FA,K8,Hn];exact⟨E,E,E⟩;obtain⟨i,B,I,_⟩:=Oi (ks:=ks) (x:=x) (d:=d) k;rw[i] at ht;obtain⟨J,O,Y⟩:=Q j (d:=d.drop o.n.toNat) (by rw[FB];omega);obtain⟨U,V⟩:=lL (d.take o.n.toNat);rw[i,B,I,GQ,I9,U,V,J,O,Ad,FA,K8,Hn];exact⟨E,E,E⟩;obtain⟨i,B,I,_⟩:=Oz (ks:=ks) (x:=x) (d:=d) k;rw[i] at ht;obtain⟨J,O,Y⟩:=Q j ht;rw[i,B,I,Hn,Hn,Ah,Bf,J,O];exact⟨rfl,wS _,E⟩
def qI:∀{x:V'} {d:Y_},(∀o∈x,Ax ks o)->(∀c∈d,Gr c.set)->Ah x<=d.length->BD ks (BD ks d x) (CY ks d x)=d:=by
 intro x;induction x with
 |nil=>intro d _ _ _;rfl
 |cons o x O=>
  intro d Q J ht;have i:∀o∈x,Ax ks o:=λo U=>Q o (by simp[U]);rcases Q o D_ with⟨k,_,_,V,hp⟩|⟨k,_,_,_,V⟩|⟨k,_⟩;obtain⟨j,_,B,I⟩:=On (ks:=ks) (x:=x) (d:=d) k;rw[j] at ht;rw[I,B,kU hp.1 _ λc hc=>J c (aO hc),O i (λc hc=>J c (aR hc)) (by rw[FB];omega),QC];obtain⟨j,_,B,I⟩:=Oi (ks:=ks) (x:=x) (d:=d) k;rw[j] at ht;rw[I,B,ly,O i (λc hc=>J c (aR hc)) (by rw[FB];omega),QC];obtain⟨j,_,B,I⟩:=Oz (ks:=ks) (x:=x) (d:=d) k;rw[j] at ht;rw[I,B,BD,Bp (B_:¬(3:Int)=1),Bp (B_:¬(3:Int)=2)];show BD ks (List.drop ((o.AY.length:Int).toNat) _) _=_;rw[wI,yW (FA _),O i J ht]
def PV{n:Nat}:∀{x:V'} {d:Y_},(∀o∈x,Ax ks o)->Ah x<=d.length->0<d.length->Bt n ((n:Int)-d.length) x->0<(BD ks d x).length:=by
 intro x;induction x with
 |nil=>intro d _ _ h _;exact h
 |cons o x I=>
  intro d B ht V i;have j:∀o∈x,Ax ks o:=λo J=>B o (by simp[J]);rw[Bt] at i;rcases B o D_ with⟨k,_,_,O,_⟩|⟨k,_,_,_,O⟩|⟨k,_,_,_,hr,_⟩;rw[(On k).2.2.2,Ad,FA,K8];omega;obtain⟨Q,_,_,U⟩:=Oi (ks:=ks) (x:=x) (d:=d) k;rw[Q] at ht;rw[Bp E,Cx k] at i;rw[U];refine I j (by rw[FB];omega) (by rw[FB];omega) ?_;rw[FB,(E:(n:Int)-((d.length-o.n.toNat:Nat):Int)=(n:Int)-d.length+o.n)];exact i.2;rw[(Oz k).2.2.2,Ad,FA];have:=wN.2 hr;omega
def nW{m:Int}{p:Int}(hp:p≠m)(l:Y_){y:V'}(h:Bt m p y):Bt m p (l.map Bz++y):=by
 induction l with
 |nil=>exact h
 |cons c l i=>rw[S4,No,Bt,Cx (show(Bz c).kind=2 from rfl)];exact⟨hp,i⟩
def kW{m:Int}(l:Y_){y:V'}:∀{p:Int},Bt m (p+l.length) y->Bt m p (l.map (L6 ks q)++y):=by
 induction l with
 |nil=>intro p h;rw[gC] at h;simpa using h
 |cons c l i=>
  intro p h;rw[S4,No,Bt,Bp (show ¬(L6 ks q c).kind=2 from(by decide:¬(1:Int)=2)),Bp (show ¬(L6 ks q c).kind=3 from(by decide:¬(1:Int)=3))];apply i;show Bt m (p+1+_) y;rw[Hn] at h;rw[(E:p+1+(l.length:Int)=p+((l.length+1:Nat):Int))];exact h
def kY{n m:Nat}:∀{x:V'} {d:Y_},(∀o∈x,Ax ks o)->Ah x<=d.length->Bt n ((n:Int)-d.length) x->Bt m ((m:Int)-(BD ks d x).length) (CY ks d x):=by
 intro x;induction x with
 |nil=>intro d _ _ _;trivial
 |cons o x V=>
  intro d X ht j;have i:∀o∈x,Ax ks o:=λo Y=>X o (by simp[Y]);rw[Bt] at j;rcases X o D_ with⟨k,_,_,Z,_⟩|⟨k,_,_,_,Z⟩|⟨k,_,_,_,hr,_⟩;obtain⟨B,_,I,J⟩:=On (ks:=ks) (x:=x) (d:=d) k;rw[B] at ht;rw[Bp E,Bp E] at j;have hi:=V i (d:=d.drop o.n.toNat) (by rw[FB];omega) (by rw[FB,(E:(n:Int)-((d.length-o.n.toNat:Nat):Int)=(n:Int)-d.length+o.n)];exact j);rw[J,I];apply kW _;rw[Ad,FA,K8,(E:(m:Int)-((min o.n.toNat d.length+(BD ks (d.drop o.n.toNat) x).length:Nat):Int)+((min o.n.toNat d.length:Nat):Int)=(m:Int)-(BD ks (d.drop o.n.toNat) x).length)];exact hi;obtain⟨B,_,I,J⟩:=Oi (ks:=ks) (x:=x) (d:=d) k;rw[B] at ht;rw[Bp E,Cx k] at j;have O:Bt n ((n:Int)-(d.drop o.n.toNat).length) x:=by rw[FB,(E:(n:Int)-((d.length-o.n.toNat:Nat):Int)=(n:Int)-d.length+o.n)];exact j.2
  have Q:Ah x<=(d.drop o.n.toNat).length:=by rw[FB];omega
  have U:=PV i Q (by rw[FB];omega) O;rw[J,I];exact nW E _ (V i (d:=d.drop o.n.toNat) Q O);obtain⟨B,_,I,J⟩:=Oz (ks:=ks) (x:=x) (d:=d) k;rw[B] at ht;rw[Cx k] at j;have U:=PV i ht E j.2;rw[J,I,Bt,Bp (B_:¬(3:Int)=2),Cx rfl,Ad,FA];show(m:Int)-((o.AY.length+(BD ks d x).length:Nat):Int)+(o.AY.length:Int)≠m/\Bt m ((m:Int)-((o.AY.length+(BD ks d x).length:Nat):Int)+(o.AY.length:Int)) (CY ks d x);rw[(E:(m:Int)-((o.AY.length+(BD ks d x).length:Nat):Int)+(o.AY.length:Int)=(m:Int)-(BD ks d x).length)];exact⟨E,V i ht j.2⟩
def mE{s:W_}{k:Int}{v:BF}(h:LO s k=some v):∃a∈s,a.key=k/\a.val=v:=by
 unfold LO at h;obtain⟨a,h1,i⟩:=y0.1 h;exact⟨a,zU h1,by have:=aAS h1;simpa using this,i⟩
def lS{s:W_}{p:Z_}(j:FM ks s)(hp:Jq ks p):Ei ks (Ep s p)/\∀c∈Ep s p,c.key<=9223372036854775807/\HR c.val:=by
 have key:∀c∈Ep s p,((c.Ak=true->c.val=BF.zero)/\(c.Ak=false->EE c.val/\II ks c.key c.val)/\Bg ks c.key≠none)/\c.key<=9223372036854775807/\HR c.val:=by
  intro c hc;unfold Ep at hc;obtain⟨o,h1,i⟩:=aAc.1 hc;have B:=(hp.1.2.2 o h1).2.2;have hb:=(hp.2 o h1).1.2;unfold IF at i;split at i;rename_i v O;obtain⟨a,ha,Q,ev⟩:=mE O;split at i;cases i;have I:=j.1.2.2 a ha;have J:=j.2 a ha;rw[Q,ev] at I;exact⟨⟨λe=>(nomatch e),λ_=>I,B⟩,hb,by rw[<-ev];exact⟨J.2.2.1,J.2.2.2.1⟩⟩;cases i;split at i;cases i;cases i;exact⟨⟨I_,λe=>(nomatch e),B⟩,hb,(by decide:(-9223372036854775808:Int)<=0/\(0:Int)<=9223372036854775807),(by decide:(0:Int)<=0/\(0:Int)<18446744073709551616)⟩
 exact⟨⟨P0 hp.1.1,vx (zV _ _) hp.1.2.1,λc hc=>(key c hc).1⟩,λc hc=>(key c hc).2⟩
def Vs{p:Z_}(h:Ei ks p):FK p<=4160:=by
 have h1:∀l:Z_,(∀c∈l,c.val.s.size<=64)->FK l<=l.length*65:=λl=>by
  induction l with
  |nil=>intro _;exact Hw _
  |cons c l j=>
   intro hl;have e:FK (c::l)=KO c+FK l:=by simp[FK]
   have o:=hl c D_;have B:=j λb hb=>hl b (by simp[hb]);rw[e,Hn,wF,KO];omega
 have h0:HO.size=0:=rfl;have:=h1 p λc hc=>by
  obtain⟨a,b,_⟩:=h.2.2 c hc;cases i:c.Ak with
  |true=>rw[a i];show HO.size<=64;omega
  |false=>
   rcases(b i).1 with⟨_,e,_⟩|⟨_,e⟩|⟨_,e,_⟩|⟨_,_,e,_⟩;rw[e];show HO.size<=64;omega;rw[e];show HO.size<=64;omega;rw[e];show HO.size<=64;omega;exact e
 have:=h.2.1;omega
def dU{l:V'}(h:∀o∈l,Co o<=4162):Aa l<=l.length*4162:=by
 induction l with
 |nil=>exact Hw _
 |cons o l i=>
  have e:Aa (o::l)=Co o+Aa l:=by simp[Aa]
  have j:=h o D_;have B:=i λb hb=>h b (by simp[hb]);rw[e,Hn,wF];omega
def Ux{b:Bool}{a:Attr}(h:FU ks b a=true):FU ks (!b) a=false:=by
 unfold FU at h ⊢;split;rename_i k e;rw[e] at h;simp[S9] at h;rw[h];cases b<;>rfl;rfl
def Zu{c:Cel}(h:GL ks c):Cr ks (Bz c):=by
 intro _ B o;have i:=h.2;by_cases e:c.r=10;rw[TC e] at i;show(Ce ks true c.set).length=c.set.length/\Bj [c.r]=1;rw[e];exact⟨by unfold Ce;rw[wy.2 i],rfl⟩;rw[WL e] at i;exfalso;have I:Ce ks true c.set=[]:=xY.2 λa ha=>by rw[show FU ks true a=false from Ux (i a ha)];decide
 have J:Bj [c.r]=0:=aAi.2 λhm=>e (so.1 hm).symm;rcases o with h|h;have j:0<(Ce ks true c.set).length:=h;rw[I] at j;exact absurd j B_;have j:0<Bj [c.r]:=h;rw[J] at j;exact absurd j B_
def mM:∀{x:V'} {d:Y_},(∀o∈x,Ax ks o/\Ao o<=536870912)->(∀o∈x,Jq ks o.patch)->(∀c∈d,FM ks c.set/\GL ks c)->∀o∈CY ks d x,(Ax ks o/\Ao o<=536870912)/\IH o/\Cr ks o/\Co o<=4162:=by
 intro x;induction x with
 |nil=>intro d _ _ _ o I;cases I
 |cons o x Q=>
  intro d V hp J;have j:∀o∈x,Ax ks o/\Ao o<=536870912:=λo I=>V o (by simp[I]);have B:∀o∈x,Jq ks o.patch:=λo I=>hp o (by simp[I]);obtain⟨U,O⟩:=V o D_;intro q i;rcases U with⟨k,_,_,Y,_⟩|⟨k,_,_,_,Y⟩|⟨k,_,_,_,hr,_⟩;rw[(On k).2.2.1] at i;rcases DN.1 i with i|i;obtain⟨c,hc,rfl⟩:=i7.1 i;obtain⟨X,Z⟩:=lS (J c (aO hc)).1 ((hp o D_).part (decide (c.r=10)));exact⟨⟨.inl ⟨rfl,rfl,rfl,aAL 1,X⟩,by show(1:Nat)<=_;decide⟩,⟨λa ha=>(nomatch ha),Z⟩,λe=>absurd e (B_:¬(1:Int)=2),by have:=Vs X;show 1+0+0+FK (Ep c.set (CR ks (decide (c.r=10)) o.patch))<=_;omega⟩;exact Q j B (λc hc=>J c (aR hc)) q i;rw[(Oi k).2.2.1] at i;rcases DN.1 i with i|i;obtain⟨c,hc,rfl⟩:=i7.1 i;obtain⟨c1,c2⟩:=J c (aO hc);exact⟨⟨.inr (.inr ⟨rfl,λr hr=>by rw[so.1 hr];exact c2.1,rfl,rfl,by simp[Bz],c1.1⟩),by show(1:Nat)<=_;decide⟩,⟨λa ha=>⟨(c1.2 a ha).1.2,(c1.2 a ha).2.2.1,(c1.2 a ha).2.2.2.1⟩,λc hc=>(nomatch hc)⟩,Zu c2,by have:=c1.size;show 1+1+Eo c.set+0<=_;omega⟩;exact Q j B (λc hc=>J c (aR hc)) q i;rw[(Oz k).2.2.1] at i;rcases I3.1 i with rfl|i;have h1:=wN.2 hr;have h2:o.AY.length<=536870912:=by rw[Ao,Cx k] at O;exact O
  refine⟨⟨.inr (.inl ⟨rfl,rfl,rfl,rfl,by show(1:Int)<=(o.AY.length:Int);omega⟩),?_⟩,⟨λa ha=>(nomatch ha),λc hc=>(nomatch hc)⟩,λe=>absurd e (B_:¬(3:Int)=2),by show 1+0+0+0<=_;decide⟩;show((o.AY.length:Int)).toNat<=_;omega;exact Q j B J q i
def M0:∀{x:V'} {d:Y_},(∀o∈x,Ax ks o/\Cr ks o)->(∀c∈d,GL ks c)->∀c∈BD ks d x,GL ks c:=by
 intro x;induction x with
 |nil=>intro d _ h;exact h
 |cons o x J=>
  intro d V I c hc;have i:∀o∈x,Ax ks o/\Cr ks o:=λo X=>V o (by simp[X]);obtain⟨O,Q⟩:=V o D_;rcases O with⟨k,_,_,Y,_⟩|⟨k,_,_,_,Y⟩|⟨k,U,_,_,hr,Z⟩;rw[(On k).2.2.2] at hc;rcases DN.1 hc with hc|hc;obtain⟨c0,h0,rfl⟩:=i7.1 hc;obtain⟨h1,h2⟩:=I c0 (aO h0);refine⟨h1,λa ha=>?_⟩;rcases NY ha with ha|⟨e,he,_,rfl⟩;exact h2 a ha;exact(wO.1 he).2;exact J i (λc hc=>I c (aR hc)) c hc;rw[(Oi k).2.2.2] at hc;exact J i (λc hc=>I c (aR hc)) c hc;rw[(Oz k).2.2.2] at hc;rcases DN.1 hc with hc|hc;obtain⟨r,j,rfl⟩:=i7.1 hc;refine⟨U r j,λa ha=>?_⟩;have B:=ha;rw[<-(tZ Cel.set (List.map_inj_left.1 (Og k Z Q) r j))] at B;exact(wO.1 B).2;exact J i I c hc
def SP{x:V'}(O:∀k∈ks,Cq k)(Q:∀o∈x,IH o)(hl:x.length<=10000)(U:Hy ks d)(Z:∀c∈d,GL ks c)(a1:d.length<=10000)(a6:Bf x<=100000)(h:BY ks x d.length most=0) : BY ks (AL (CY ks d x)) (BD ks d x).length most=0/\BD ks (BD ks d x) (AL (CY ks d x))=d/\(∀o∈AL (CY ks d x),IH o)/\(AL (CY ks d x)).length<=x.length+d.length/\Aa (CY ks d x)<=100000000:=by
 have hF:=(Br E).1 h;have B:∀o∈x,Ax ks o:=λo j=>(hF.Cs o j).1;have hp:∀o∈x,Jq ks o.patch:=λo j=>(ug O (B o j) ⟨λa ha=>((Q o j).1 a ha).2,λc hc=>((Q o j).2 c hc).2⟩).2;have i:=mM (d:=d) hF.Cs hp λc hc=>⟨U.set c hc,Z c hc⟩;obtain⟨t1,t2,t3⟩:=rA B hF.Gv;have V:=IV B hF.Gv;have I:=hF.most;have X:=hF.Ct;have Y:=hF.Gv;have a7:=PV (n:=d.length) B hF.Gv E (by rw[y8];exact hF.EU);have a8:(CY ks d x).length<=x.length+d.length:=E;obtain⟨s1,s2⟩:=NA (λo j=>(i o j).1) E;have J:BY ks (CY ks d x) (BD ks d x).length most=0:=by
  refine(Br E).2 ⟨SZ (λo j=>(i o j).1) (by rw[s1];omega) (by rw[s2];omega),λo j=>(i o j).1,⟨E,E⟩,E,?_,λo j=>(i o j).2.2.1,E⟩;have:=kY (n:=d.length) (m:=(BD ks d x).length) B hF.Gv (by rw[y8];exact hF.EU);rwa [y8] at this
 obtain⟨n1,n2,n3,n4⟩:=OB O (λo j=>(i o j).2.1) E J;exact⟨n1,by rw[n2];exact qI B (λc hc=>(U.set c hc).1.1) hF.Gv,n3,E,by have:=dU λo j=>(i o j).2.2.2;omega⟩
end
def kG{n:Nat}(i:n<9223372036854775808)(h:K (.int .u64 n) w):runK prog (convert 3 136 (zI n)) K w:=by
 apply AZ (Ee (k:=.u64) w C_ C_);rw[Gc ⟨E,E⟩];exact h
def lG{n:Nat}(i:n<9223372036854775808)(h:K (zI n) w):runK prog (convert 136 3 (.int .u64 n)) K w:=by
 apply AZ (Ee (k:=.i64) w C_ C_);rw[wrap64 E E];exact h
def rH{r:Nat}{t:TypeId}(h:K (.int .u64 ((r/2:Nat):Int)) w):runK prog (ET .shr t xo yo (.int .u64 r) (.int .u64 1)) K w:=by
 apply AZ (LP (n:=1) w B_);rw[xW _ B_];exact h
def bD{a:Attr}{k:Int}:AF prog 324 [.agg a.cells.toArray,zI k] (λv' w'=>v'=zI (NS a.key k)/\AI w w') w:=by
 apply G_ func324;refine Bx.box (vs:=a.cells) λb j hb i B=>?_;rw[AB,AH];apply AD (B.cells 0 _ rfl);apply AA cj;rintro _ _ ⟨rfl,rfl⟩;exact⟨rfl,i⟩
def iD{s:W_}{k:Int}(h:CI S w v s)(hs:Gr s)(hl:s.length<=1000000) : AF prog 274 [v,zI k] (λv' w'=>AI w w'/\∃(i:Nat) (b:Bool),v'=.tuple #[zI i,.bool b]/\((b=true/\∃hi:i<s.length,s[i].key=k)\/(b=false/\∀a∈s,a.key≠k))) w:=by
 apply G_ func274;refine AA (K:=λv' w'=>AI w w'/\∃(i:Nat) (b:Bool),v'=.tuple #[zI i,.bool b]/\((b=true/\∃hi:i<s.length,s[i].key=k)\/(b=false/\∀a∈s,a.key≠k))) ?_ ?_;rotate_left;rintro _ w' ⟨g,i,b,rfl,h'⟩;exact Af (vs:=[_,_]) (by rfl) (Af (vs:=[_,_]) (by rfl) ⟨g,i,b,rfl,h'⟩);refine I' func323 ?_ (.y (.y (.y (.x (.node [9,10] [(9,11),(15,34)] .nil .nil)))));obtain⟨a,c,rfl,_⟩:=h.AO;have B:∀i j (hi:i<s.length) (V:j<s.length),i<j->s[i].key<s[j].key:=λi j hi V Q=>xM.1 hs i j hi V Q;have fn:∀{W:e_} {i:Nat} {K:Cont} (hi:i<s.length),AI w W->(∀J,AI w J->K (zI (NS s[i].key k)) J)->Lb 5 (.slice a s.length c) (zI (i:Int)) λt=>DT 5 t (λt' w5=>DD prog En (.func (.func 324) #[] #[]) [t',zI k] K w5) W:=λ{W i K} hi g hK=>by
  obtain⟨p,r,rfl,_,hr,hc,rfl⟩:=(h.U_ g B_ C0).get hi;refine AW hi (Ab hr m_ ?_);apply Fa C_;apply AA bD;rintro _ J ⟨rfl,O⟩;exact hK J (g.trans O)
 rw[AP];apply AX (λvs W=>∃(i j:Nat),i<=j/\j<=s.length/\vs=[zI i,zI j]/\AI w W/\(∀m (hm:m<s.length),m<i->s[m].key<k)/\(∀m (hm:m<s.length),j<=m->k<=s[m].key)) (λvs _=>Di vs 1-Di vs 0) ⟨0,s.length,Hw _,HK _,rfl,AK.refl _ _,λm _ h=>absurd h (aBC _),E⟩;rintro vs W ⟨i,j,Q,V,rfl,g,lo,U⟩ _;simp only[Iu];refine HP (λX=>?_) λa7=>?_;rw[AR,wrap64 E E,(E:((i:Int)+(j:Int))=((i+j:Nat):Int))];refine kG E (rH (lG E ?_));have Y:i<=(i+j)/2:=E;have a8:(i+j)/2<j:=E;generalize (i+j)/2=m at *;have I:m<s.length:=E;refine fn I g λJ O=>?_;rw[As];unfold NS;refine AE (λe=>?_) λe=>?_;have hk:s[m].key<k:=by
  by_cases h1:s[m].key<k;exact h1;rw[Bp h1] at e;split at e<;>omega
 rw[AR,AM E];refine⟨⟨m+1,j,E,V,rfl,O,λq Z a1=>?_,U⟩,by rw[BE,CL,BE,CL];omega⟩;rcases zT q m with o|o;have:=B q m Z I o;omega;obtain rfl:q=m:=E;exact hk;have hk:k<=s[m].key:=by
  by_cases h1:s[m].key<k;rw[Cx h1] at e;omega;omega
 refine⟨⟨i,m,Y,E,rfl,O,lo,λq Z a1=>?_⟩,by rw[BE,CL,BE,CL];omega⟩;rcases zT m q with o|o;have:=B m q I Z o;omega;obtain rfl:q=m:=E;exact hk;obtain rfl:i=j:=E;rw[As];refine AE (λX=>?_) λa6=>⟨g,i,false,rfl,.inr ⟨rfl,λb hb=>?_⟩⟩;have jw:i<s.length:=E;refine fn jw g λJ O=>?_;rw[Aj];refine⟨O,i,_,rfl,?_⟩;have h1:=U i jw (HK _);unfold NS;rw[Bp E];by_cases e:s[i].key=k;rw[Bp E];exact .inl ⟨rfl,jw,e⟩;rw[Cx E];refine .inr ⟨rfl,λb hb=>?_⟩;obtain⟨m,hm,rfl⟩:=yg.1 hb;rcases zT m i with o|o;have:=lo m hm o;omega;rcases zT i m with h3|h3;have:=B i m jw hm h3;omega;obtain rfl:m=i:=E;exact e;obtain⟨m,hm,rfl⟩:=yg.1 hb;have:=lo m hm E;omega
def qQ{s:W_}{k:Int}(h:CI S w v s)(U:Gr s)(hl:s.length<=1000000) : AF prog 204 [v,zI k] (λv' w'=>AI w w'/\v'=.tuple #[.agg ((LO s k).getD BF.zero).cells.toArray,.bool (LO s k).isSome]) w:=by
 apply G_ func204;refine Bx.zero λb w1 hb V B=>?_;apply AA (iD (h.U_ V B_ C0) U hl);rintro _ w2 ⟨X,i,t,rfl,hr⟩;refine Bv ?_;have Y:=B.U_ X;have o:=V.trans X;have EU:∀{W:e_} {x:BF} {K:Cont},AK (λy=>y=b) w2 W->Bx W b x.cells->(∀J,AI w J->K (.agg x.cells.toArray) J)->DT 4 (g_ b) K W:=λ{W x K} m I Z=>I.GN rfl (Z W (o.next m E));rw[Aq];rcases hr with⟨rfl,hi,hk⟩|⟨rfl,hn⟩;apply AS;have e:LO s k=some s[i].val:=by
  unfold LO;have:s.find? (λa=>decide (a.key=k))=some s[i]:=by
   rw[List.find?_eq_some_iff_getElem];refine⟨by simp[hk],i,hi,rfl,λj hj=>?_⟩;have:=xM.1 U j i E hi hj;simp[wQ];omega
  rw[this];rfl
 rw[e];obtain⟨a,c,rfl,_⟩:=h.AO;obtain⟨p,r,rfl,_,hr,hc,rfl⟩:=(h.U_ o B_ C0).get hi;apply AW hi;rw[AB,Addr.add_add];refine Ab (vs:=s[i].val.cells) rfl (λj u hu=>by rw[Addr.add_add,wx];exact hc (1+j) u (by rw[yf];exact hu)) ?_;refine Y.Au (us:=s[i].val.cells) rfl rfl (BF.one _) λw3 I O=>?_;exact EU O I λJ Q=>⟨Q,rfl⟩;apply Ai;rw[E2 hn];refine⟨BF.zero.cells.toArray,by rfl,?_⟩;refine Y.Au (us:=BF.zero.cells) rfl rfl (BF.one _) λw3 I O=>?_;exact EU O I λJ Q=>⟨Q,rfl⟩
def kx{s:W_}{p:Z_}(h:CI S w sv s)(hp:Eg S' w fr p)(hs:Gr s)(hl:s.length<=1000000)(an:p.length<=1000000) : AF prog 160 [sv,fr] (λv' w'=>AG w.heap.size 63 6 EA w' v' (Ep s p)/\AI w w') w:=by
 refine G_ func160 ?_ (.y (.y (.x (.y (.node [5,12] [(5,5),(7,9),(12,56)] (.y (.y (.cut [5] [(5,5),(7,9),(14,55)] (.y (.y (.cut [23] [(23,34)] .nil .nil))) .nil))) .nil)))));obtain⟨pa,pc,rfl,_⟩:=hp.AO;have a6:∀k,(Ep s (p.take k)).length<=k:=λk=>by
  unfold Ep;have h1:=zV (IF s) (p.take k);rw[K8] at h1;omega
 rw[AP];apply AX (λvs W=>∃(k:Nat) (U:d_),k<=p.length/\vs=[U,zI k]/\AG w.heap.size 63 6 EA W U (Ep s (p.take k))/\AI w W) (λvs _=>p.length-Di vs 1) ⟨0,_,Hw _,rfl,AG.nil,AK.refl _ _⟩;rintro vs W ⟨k,U,hk,rfl,ho,g⟩ _;simp only[Iu];refine HP (λav=>?_) λax=>?_;rotate_left;obtain rfl:k=p.length:=E;rw[Nr] at ho;exact⟨ho,g⟩;have J:k<p.length:=E;have B:Ep s (p.take (k+1))=Ep s (p.take k)++(IF s p[k]).toList:=by
  unfold Ep;rw[Lc,By J,List.filterMap_append];cases e:IF s p[k]<;>simp[e]
 refine AV (λvs W'=>∃o,vs=[o]/\AG w.heap.size 63 6 EA W' o (Ep s (p.take (k+1)))/\AI w W') ?_ ?_;rintro vs W' ⟨o,rfl,a7,g'⟩ _;simp only[JS];rw[AR,AM E];exact⟨⟨k+1,o,J,rfl,a7,g'⟩,by rw[BE,BE];omega⟩;obtain⟨q,r,rfl,_,hr,hc,rfl⟩:=(hp.U_ g B_ C0).get J;refine AW J (Ab hr m_ ?_);refine Bx.new (vs:=p[k].cells) rfl rfl (EA.one (w:=W) (x:=p[k]) rfl) λb7 w4 ay g4 B7=>?_;rw[AB,AH];apply AD (B7.cells 0 _ rfl);have X:=g.trans g4;apply AA (qQ (h.U_ X B_ C0) hs hl);rintro _ w5 ⟨g5,rfl⟩;refine Bv ?_;refine Bx.new (vs:=((LO s p[k].key).getD BF.zero).cells) rfl rfl (BF.one _) λb8 Y b0 g6 B8=>?_;have V:=g5.trans g6;have Z:=X.trans V;have I:=B7.U_ V;have a1:AG w.heap.size 63 6 EA Y U (Ep s (p.take k)):=AG.U' ho (g4.trans V) C0 F_;have b6:=a6 k;have push:∀{O:e_} {K:Cont} {BK:List (Nat×d_)} (c:Chg),AI Y O->Instr.fill (λi=>some (i*6,6)) ((Array.range (1*6)).map ([zI 0,.bool false,.int .u8 0,zI 0,.int .u64 0,.string (ByteArray.mk #[])].toArray[· % [zI 0,.bool false,.int .u8 0,zI 0,.int .u64 0,.string (ByteArray.mk #[])].toArray.size]!)) BK=some c.cells.toArray->IF s p[k]=some c->
   (∀v' w',(∃o,[v']=[o]/\AG w.heap.size 63 6 EA w' o (Ep s (p.take (k+1)))/\AI w w')->K v' w')->
   Eb 63 6 1 [zI 0,.bool false,.int .u8 0,zI 0,.int .u64 0,.string (ByteArray.mk #[])] BK (λa8 aa=>runK prog (Builtin.append_ #[48,48] 48 [U,a8].toArray) K aa) O:=λ{O K BK} c gw hf hc hK=>by
  have ak:AG w.heap.size 63 6 EA O U (Ep s (p.take k)):=AG.U' a1 gw C0 F_;refine ME (w0:=w) QQ ak (Z.trans gw) (cs:=c.cells) (x:=c) hf rfl rfl (λ_ _ _=>EA.one) N_ E L_ λv' w' o' g'=>hK v' w' ⟨v',rfl,?_,g'⟩;rw[B,hc];exact o'
 have Ap:IF s p[k]=none->∀{O:e_},AI Y O->∃o,[U]=[o]/\AG w.heap.size 63 6 EA O o (Ep s (p.take (k+1)))/\AI w O:=λhn {O} gw=>⟨U,rfl,by rw[B,hn,Option.toList_none,Ty];exact AG.U' a1 gw C0 F_,Z.trans gw⟩;refine AV (λvs W'=>∃t:Bool,vs=[.bool t]/\Y=W'/\(t=true↔∃v,LO s p[k].key=some v/\(p[k].Ak=true\/v≠p[k].val))) ?_ ?_;rotate_left;cases Q:LO s p[k].key with
 |none=>exact AS ⟨false,rfl,rfl,⟨λe=>(nomatch e),λ⟨_,e,_⟩=>(nomatch e)⟩⟩
 |some v=>
  rw[Q] at B8;apply Ai;rw[AB,AH];apply AD (I.cells 1 _ rfl);cases hg:p[k].Ak with
  |true=>exact Ai ⟨true,rfl,rfl,⟨λ_=>⟨v,rfl,.inl rfl⟩,I_⟩⟩
  |false=>
   apply AS;apply B8.GN rfl;rw [AB,AH];refine Ab (vs:=p[k].val.cells) rfl (λj u hu=>by rw [GX];exact I.cells (2+j) u (by rw [yf];exact hu)) ?_;refine AZ (QI _ _ v p[k].val Y) ⟨_,rfl,rfl,?_⟩;rw [zH,wQ];exact ⟨λe=>⟨v,rfl,.inr e⟩,λ⟨u,e1,e2⟩=>by
    cases e1;rcases e2 with e2 | e2;cases e2;exact e2⟩
 rintro _ _ ⟨t,rfl,rfl,ht⟩ _;simp only[JS];cases t with
 |true=>
  apply Ai;obtain⟨v,Q,al⟩:=ht.1 rfl;rw[Q] at B8;rw[AB,AH];apply AD (I.cells 0 _ rfl);apply B8.GN rfl;refine⟨(⟨p[k].key,false,v⟩:Chg).cells.toArray,by rfl,?_⟩;refine push ⟨p[k].key,false,v⟩ (AK.refl _ _) C_ ?_ C0;unfold IF;rw[Q];exact Cx al
 |false=>
  apply AS;rw[Aq];cases Q:LO s p[k].key with
  |some v=>
   refine AS (Ap ?_ (AK.refl _ _));unfold IF;rw[Q];exact Bp λe=>by have:=ht.2 ⟨v,Q,e⟩;cases this
  |none=>
   apply Ai;rw[AB,AH];apply AD (I.cells 1 _ rfl);rw[Aq];cases hg:p[k].Ak with
   |true=>
    refine AS (Ap ?_ (AK.refl _ _));unfold IF;rw[Q];exact Cx hg
   |false=>
    apply Ai;rw[AB,AH];apply AD (I.cells 0 _ rfl);refine⟨(⟨p[k].key,true,BF.zero⟩:Chg).cells.toArray,by rfl,?_⟩;refine push ⟨p[k].key,true,BF.zero⟩ (AK.refl _ _) C_ ?_ C0;unfold IF;rw[Q];exact Bp (by rw[hg];decide)
def Um{ok:Nat->Bool}{g:Nat}(i:ok g=true)(h:AF P g (args++cs) K w):DD P ok (.func (.func g) #[] cs.toArray) args K w:=.inl ⟨g,[],cs,rfl,i,by simpa using h⟩
section
variable {S D A_:f_}{v sv:d_}{d:Y_}{ks:Y'}{w:e_}
def mT{p:Cel->Bool}{J:d_}(h:BS S D w v d)(Q:∀W r c (K:Cont),c∈d->AI w W->Hp D W r c->(∀W',AI W W'->K (.bool (p c)) W')->DD prog En J [.agg r.toArray] K W) : AF prog 31 [v,J] (λv' w'=>v'=.bool (d.any p)/\AI w w') w:=by
 apply G_ func31;refine AA (K:=λv' w'=>AI w w'/\∃z:Int,v'=zI z/\(0<=z↔d.any p=true)) ?_ ?_;rotate_left
 .rintro _ w' ⟨g,z,rfl,U⟩;rw[DR];exact⟨tZ Value.bool (by rw[xk,decide_eq_true_iff];exact U),g⟩
 refine G_ func84 ?_ (.y (.x (.y (.node [8] [(4,5),(8,18)] .nil .nil))));obtain⟨a,c,rfl,B⟩:=h.AO;simp only[maxLen] at B;rw[AP];apply AX (λvs W=>∃i:Nat,i<=d.length/\vs=[zI i]/\AI w W/\(d.take i).any p=false) (λvs _=>d.length-Di vs 0) ⟨0,Hw _,rfl,AK.refl _ _,rfl⟩;rintro vs W ⟨i,hi,rfl,g,I⟩ _;rw[Bh,JS,As];refine AE (λV=>?_) λX=>?_;rotate_left
 .obtain rfl:i=d.length:=E;rw[Nr] at I;exact⟨g,-1,rfl,by rw[I];simp⟩
 have o:i<d.length:=E;obtain⟨q,r,rfl,_,hr,hc,Y⟩:=(h.U_ g).get o;refine AW o (Ab hr m_ ?_);refine Q W r d[i] _ (Q0 o) g Y λW' O=>?_;cases hp:p d[i] with
 |true=>exact Ai ⟨g.trans O,i,rfl,⟨λ_=>yO.2 ⟨_,Q0 o,hp⟩,E⟩⟩
 |false=>
  apply AS;rw[AR,AM E];exact⟨⟨i+1,o,rfl,g.trans O,by rw[Lc,By o,List.any_append,I];simp[hp]⟩,by rw[CL,CL];omega⟩
structure VS (ks:Y') (d:Y_):Prop where
 len:1<=d.length/\d.length<=536870912
 tD:∀c∈d,Dc c.r/\GK ks c.set
 Jr:(BA d).getLast?=some 10
 part:∀c∈d,Ce ks (!decide (c.r=10)) c.set=[]
def RP(hS:Cg A_ w sv ks)(h:BS S D w v d)(hT:DV w)(hI:∀c∈d,∀a∈c.set,0<=a.val.f) : AF prog 7 [sv,v] (λv' w'=>AI w w'/\((VS ks d/\v'=zI 0)\/(¬VS ks d/\∃c:Int,c≠0/\v'=zI c))) w:=by
 classical
 refine G_ func7 ?_ (.y (.y (.x (.cut [7] [(7,15)] .nil .nil))));have a7:sv.cells=#[sv]:=by
  obtain⟨b,m,kv,l,rfl,_⟩:=hS;rfl
 have a8:v.cells=#[v]:=by
  obtain⟨a,c,rfl,_⟩:=h.AO;rfl
 have U:d.length<=maxLen:=by
  obtain⟨a,c,rfl,U⟩:=h.AO;exact U
 simp only[maxLen] at U;refine ES a7 λb2 w1 ay g1 B2=>?_;refine ES a8 λb3 w2 b0 g2 Z=>?_;have o:=g1.trans g2;have a1:=B2.U_ g2;have any:∀{p:Cel->Bool} {f:Nat} {W:e_} {K:Cont},En f=true->AI w2 W->(∀W r c (K:Cont),c∈d->AI w2 W->Hp D W r c->(∀O,AI W O->K (.bool (p c)) O)->AF prog f [.agg r.toArray,g_ b2] K W)->(∀O,AI w2 O->K (.bool (d.any p)) O)->DD prog En (.func (.func 30) #[] #[g_ b3]) [.func (.func f) #[] #[g_ b2]] K W:=λ{p f W K} aa g hf Q=>by
  apply Um (cs:=[g_ b3]) C_;apply G_ func30;apply AD ((Z.U_ g).cells 0 _ rfl);refine AA (mT (p:=p) (h.U_ (o.trans g)) λO r c K' hc g' hr ak=>?_) ?_
  .exact Um (cs:=[g_ b2]) aa (hf O r c K' hc (g.trans g') hr ak)
  .rintro _ O ⟨rfl,g'⟩;exact Q O (g.trans g')
 have no:∀{p:Cel->Bool} {c0:Int} {W:e_},AI w2 W->(∀c∈d,p c=true->¬VS ks d)->c0≠0->d.any p=true->AI w W/\((VS ks d/\zI c0=zI 0)\/(¬VS ks d/\∃c:Int,c≠0/\zI c0=zI c)):=λg hp hc ha=>by
  obtain⟨c,al,an⟩:=yO.1 ha;exact⟨o.trans g,.inr ⟨hp c al an,_,hc,rfl⟩⟩
 refine AV (λvs W=>w2=W/\vs=[.bool (decide (d.length<1\/536870912<d.length))]) ?_ ?_;rotate_left
 .apply AD (Z.cells 0 _ rfl);obtain⟨a,c,rfl,_⟩:=h.AO;rw[AP,As];refine AE (λe=>⟨rfl,by rw[TC (.inl E)]⟩) λe1=>?_;apply AD (Z.cells 0 _ rfl);rw[AP,BM];refine⟨rfl,?_⟩;have e:((536870912:Int)<(d.length:Int))↔(d.length<1\/536870912<d.length):=⟨λe=>.inr E,E⟩;rw[xX.2 e]
 rintro _ _ ⟨rfl,rfl⟩ _;rw[Bh,JS];refine AE (λe=>⟨o,.inr ⟨λhm=>by have:=hm.len;omega,3,B_,rfl⟩⟩) λax=>?_;refine any (p:=λc=>decide (¬Dc c.r\/Bl ks c.set=3)) C_ (AK.refl _ _) (λW r c K hc g hr Q=>?_) λw3 g3=>?_
 .apply G_ func32;refine Bx.box (vs:=r) λb W1 hb j B=>?_;obtain⟨V,rfl,hs⟩:=hr.U' j F_ C0;rw[AB,AH];apply AD (B.cells 0 _ rfl);apply AA Qu;rintro _ _ ⟨rfl,rfl⟩;rename e_=>W1;rw[Aq];refine AT (λhm=>?_) λhm=>?_;rotate_left
  .have:=Q _ j;rwa [TC (.inl hm)] at this
  have J:=g.trans j;apply AD ((a1.U_ J).cells 0 _ rfl);rw[AB,AH];apply AD (B.cells 1 _ rfl);apply AA (Pb (hS.U_ (o.trans J)) hs (hT.U_ (o.trans J)) (hI c hc));rintro _ W2 ⟨rfl,I⟩;rw[Aj];have:=Q _ (j.trans I);rwa [xX.2 (show(¬Dc c.r\/Bl ks c.set=3)↔Bl ks c.set=3 from⟨λe=>e.elim (λe=>(e hm).elim) id,.inr⟩)] at this
 cases ha:d.any (λc=>decide (¬Dc c.r\/Bl ks c.set=3)) with
 | true=>exact Ai (no g3 (λc hc e hm=>by
   obtain⟨h1,h2⟩:=hm.tD c hc;rcases xf e with e|e
   .exact e h1
   .rw [E7.2 h2] at e;cases e) B_ ha)
 |false=>
 apply AS;refine any (p:=λc=>!decide (Bl ks c.set=0)) C_ g3 (λW r c K hc g hr Q=>?_) λw4 Y=>?_
 .apply G_ func35;refine Bx.box (vs:=r) λb W1 hb j B=>?_;obtain⟨V,rfl,hs⟩:=hr.U' j F_ C0;have J:=g.trans j;apply AD ((a1.U_ J).cells 0 _ rfl);rw[AB,AH];apply AD (B.cells 1 _ rfl);apply AA (Pb (hS.U_ (o.trans J)) hs (hT.U_ (o.trans J)) (hI c hc));rintro _ W2 ⟨rfl,I⟩;rw[BH];exact Q _ (j.trans I)
 cases hb:d.any (λc=>!decide (Bl ks c.set=0)) with
 |true=>exact Ai (no Y (λc hc e hm=>by simp[E7.2 (hm.tD c hc).2] at e) B_ hb)
 |false=>
 apply AS;have a6:∀c∈d,Dc c.r/\GK ks c.set:=λc hc=>by
  have h1:=yX.1 ha c hc;have h2:=yX.1 hb c hc;simp only[S9,aAu,yM] at h1;simp only[zH,wQ,yM] at h2;exact⟨h1.1,E7.1 h2⟩
 apply AD ((Z.U_ Y).cells 0 _ rfl);apply AD ((Z.U_ Y).cells 0 _ rfl);obtain⟨i,hi,el⟩:∃i,∃hi:i<d.length,d.length=i+1:=⟨d.length-1,E,E⟩;have hL:(BA d).getLast?=some d[i].r:=by
  rw[BA,aAl,FA,vy,(E:d.length-1=i),By hi];rfl
 obtain⟨a,c,rfl,_⟩:=h.AO;rw[AP,A6,wrap64 E E,(E:((d.length:Int)-1)=(i:Int))];obtain⟨q,r,rfl,_,hr,hc,V,rfl,_⟩:=(h.U_ (o.trans Y)).get hi;apply AW hi;rw[AB,Addr.add_add];apply AD (hc 0 _ rfl);rw[BH];refine AT (λX=>?_) λX=>⟨o.trans Y,.inr ⟨λhm=>X (by have:=hm.Jr;rw[hL] at this;exact r9 this),6,B_,rfl⟩⟩;refine any (p:=λc=>decide ((0:Int)<(Ce ks (!decide (c.r=10)) c.set).length)) C_ Y (λW r c K hc g hr Q=>?_) λw5 g5=>?_
 .apply G_ func36;refine Bx.box (vs:=r) λb W1 hb j B=>?_;obtain⟨V,rfl,hs⟩:=hr.U' j F_ C0;have J:=g.trans j;have hk:=(a6 _ hc).2.2.1;apply AD ((a1.U_ J).cells 0 _ rfl);rw[AB,AH];apply AD (B.cells 1 _ rfl);rw[AB,AH];apply AD (B.cells 0 _ rfl);rw[BH];apply AA (Mw (hS.U_ (o.trans J)) hs E);rintro pv W2 ⟨av,I⟩;obtain⟨pa,pc,rfl,_⟩:=av.AO;rw[AP,BM];exact Q _ (j.trans I)
 cases hq:d.any (λc=>decide ((0:Int)<(Ce ks (!decide (c.r=10)) c.set).length)) with
 |true=>exact Ai (no g5 (λc hc e hm=>by rw[hm.part c hc] at e;simp at e) B_ hq)
 |false=>
 refine AS ⟨o.trans g5,.inl ⟨⟨E,a6,by rw[hL,X],λc hc=>?_⟩,rfl⟩⟩;have h1:=yX.1 hq c hc;simp only[S9] at h1;exact Kx E
def bf(j:Cg A_ w sv ks)(h:BS S D w v d)(o:DV w)(i:Hy ks d)(hC:∀c∈d,GL ks c)(hp:1<=d.length)(hl:d.length<=536870912) : AF prog 7 [sv,v] (λv' w'=>v'=zI 0/\AI w w') w:=by
 apply AA (RP j h o λc hc a ha=>((i.set c hc).2 a ha).2.2.2.1.1);rintro _ w' ⟨g,⟨_,rfl⟩|⟨B,_⟩⟩;exact⟨rfl,g⟩;exact(B ⟨⟨hp,hl⟩,λc hc=>⟨(hC c hc).1,(i.set c hc).1⟩,i.Jr,λc hc=>xY.2 λa ha=>by rw[Ux ((hC c hc).2 a ha)];decide⟩).elim
def VS.vN(h:VS ks d)(i:∀k∈ks,Cq k)(j:∀c∈d,∀a∈c.set,HR a.val):Hy ks d/\∀c∈d,GL ks c:=by
 refine⟨⟨λc hc=>FM.of i (h.tD c hc).2 (j c hc),h.Jr⟩,λc hc=>⟨(h.tD c hc).1,λa ha=>?_⟩⟩;have h1:=xY.1 (h.part c hc) a ha;obtain⟨k,hk,_⟩:=((h.tD c hc).2.2.2 a ha).2;unfold FU at h1 ⊢;rw[hk] at h1 ⊢;revert h1;cases k.block<;>cases decide (c.r=10)<;>simp
end
end Go.Proofs.YtlmjclmngedmkaaGreatDoor
