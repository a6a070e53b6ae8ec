/- parts of the proof, written short by a program of ours -/
import Derived.Test.YtmdhibffnkhcnaaGreatDoorZTextNormalUpto11
import Derived.Test.YtmdhibffnkhcnaaGreatDoorRows
import Derived.Lib.LaidU8
import Derived.Lib.LaidIn
import Derived.LaidHandle
import Derived.LaidMore
import Derived.MakeChecks
import Derived.Test.YtmdhibffnkhcnaaGreatDoorTie
import Derived.Test.YtmdhibffnkhcnaaGreatDoorCards
import Derived.WalkKit
import Derived.OpenShut
import Derived.ShutString
import Derived.ChangeOld
import Derived.ChangeVars
import Derived.JoinedOf
import Derived.JoinedCond
import Derived.Deep.DeepHandedRow
import Derived.SevenTiedAt
set_option linter.unusedSimpArgs false
set_option linter.unusedVariables false
namespace Go.Proofs.YtmdhibffnkhcnaaGreatDoor
open Go Proofs.Tryz
variable {B:Nat}{w W W' w0:World}{F S C:Nat->Prop}{v fr sv:Value}{most:Int}{cs:List Value}{α:Type}{a:List Dop}{ks:List DKey}{K:Cont}{d:List Cel}
structure JO (ks:List DKey) (n:Int) (x y:List Dop):Prop where
 FW:∀d z,FW ks d (x++z)=FW ks d (y++z)
 Tg:Co x=Co y
 hZ:EJ x=EJ y
 nn:(∀o∈x,0<=o.n)->∀o∈y,0<=o.n
 pl:(∀o∈x,ES ks o)->∀o∈y,ES ks o
 fin:∀p z,(∀o∈x,0<=o.n)->0<=p->p+Co (x++z)<=n->Db n p (x++z)->Db n p (y++z)
theorem Hr(x y:List Dop):Co (x++y)=Co x+Co y:=by
 induction x with
 |nil=>simp[Co]
 |cons o x i=>rw[WJ,Co,Co,i];omega
theorem Lh(x y:List Dop):EJ (x++y)=EJ x+EJ y:=by
 induction x with
 |nil=>simp[EJ]
 |cons o x i=>rw[WJ,EJ,EJ,i];omega
section
variable {ks:List DKey}{n:Int}{x y w z:List Dop}
theorem JO.refl(x:List Dop):JO ks n x x:=⟨fun _ _=>rfl,rfl,rfl,fun h=>h,fun h=>h,fun _ _ _ _ _ h=>h⟩
theorem JO.trans(h:JO ks n x y)(i:JO ks n y z):JO ks n x z:=
 ⟨fun d u=>(h.FW d u).trans (i.FW d u),h.Tg.trans i.Tg,h.hZ.trans i.hZ,fun e=>i.nn (h.nn e),fun e=>i.pl (h.pl e),fun p u e h0 hp j=>i.fin p u (h.nn e) h0 (by rw[Hr] at hp ⊢;rw[<-h.Tg];exact hp) (h.fin p u e h0 hp j)⟩
theorem JO.cons(o:Dop)(h:JO ks n x y):JO ks n (o::x) (o::y):=by
 refine⟨fun d u=>?_,?_,?_,fun e=>?_,fun e=>?_,fun p u e h0 hp i=>?_⟩
 .show Go.Proofs.YtmdhibffnkhcnaaGreatDoor.FW ks d (o::(x++u))=Go.Proofs.YtmdhibffnkhcnaaGreatDoor.FW ks d (o::(y++u));rw[Go.Proofs.YtmdhibffnkhcnaaGreatDoor.FW,Go.Proofs.YtmdhibffnkhcnaaGreatDoor.FW,h.FW,h.FW]
 .rw[Co,Co,h.Tg]
 .rw[EJ,EJ,h.hZ]
 .intro q j;rcases I3.1 j with rfl|j
  .exact e _ (by simp)
  .exact h.nn (fun r hr=>e r (by simp[hr])) q j
 .intro q j;rcases I3.1 j with rfl|j
  .exact e _ (by simp)
  .exact h.pl (fun r hr=>e r (by simp[hr])) q j
 .have e':∀q∈x,0<=q.n:=fun q j=>e q (by simp[j]);have E:=e o (by simp);rw[WJ,Db] at i ⊢;rw[WJ,Co] at hp;by_cases k2:o.kind=2
  .rw[Io k2] at i hp ⊢;exact⟨i.1,h.fin p u e' h0 (by omega) i.2⟩
  .rw[C3 k2] at i hp ⊢;by_cases B:o.kind=3
   .rw[Io B] at i ⊢;exact⟨i.1,h.fin _ u e' (by omega) (by omega) i.2⟩
   .rw[C3 B] at i ⊢;exact h.fin _ u e' (by omega) (by omega) i
theorem JO.pre(w:List Dop)(h:JO ks n x y):JO ks n (w++x) (w++y):=by
 induction w with
 |nil=>exact h
 |cons o w i=>exact i.cons o
theorem JO.app(h:JO ks n x y)(w:List Dop):JO ks n (x++w) (y++w):=by
 refine⟨fun d u=>?_,?_,?_,fun e=>?_,fun e=>?_,fun p u e h0 hp j=>?_⟩
 .rw[PF,PF];exact h.FW d _
 .rw[Hr,Hr,h.Tg]
 .rw[Lh,Lh,h.hZ]
 .intro q i;rcases DN.1 i with i|i
  .exact h.nn (fun r hr=>e r (by simp[hr])) q i
  .exact e _ (by simp[i])
 .intro q i;rcases DN.1 i with i|i
  .exact h.pl (fun r hr=>e r (by simp[hr])) q i
  .exact e _ (by simp[i])
 .rw[PF] at hp j ⊢;exact h.fin p _ (fun q i=>e q (by simp[i])) h0 hp j
theorem Yj{a b:Int}(ha:0<=a)(hb:0<=b)(p:List Chg)(r1 o:List Int)(s1 s2:List Attr):JO ks n [⟨1,a,r1,s1,p⟩,⟨1,b,o,s2,p⟩] [⟨1,a+b,r1,s1,p⟩]:=by
 have e:(a+b).toNat=a.toNat+b.toNat:=by omega
 refine⟨fun d u=>?_,?_,?_,fun h q i=>?_,fun h q i hk=>?_,fun q u h h0 hp j=>?_⟩
 .simp only[WJ,kS,Go.Proofs.YtmdhibffnkhcnaaGreatDoor.FW,km,e];rw[<-PF,<-S7,List.take_add,nT]
 .simp[Co,e]
 .simp[EJ,e]
 .simp only[P9] at i;subst i;show 0<=a+b;omega
 .simp only[P9] at i;subst i;exact absurd hk (show ¬(1:Int)=2 by decide)
 .simp only[WJ,kS,Db,show ¬(1:Int)=2 by decide,show ¬(1:Int)=3 by decide,kZ] at j ⊢;rw[<-Int.add_assoc];exact j
theorem Yw{a b:Int}(ha:0<=a)(hb:0<=b)(r1 B:List Int)(s1 s2:List Attr)(j E:List Chg):JO ks n [⟨3,a,r1,s1,j⟩,⟨3,b,B,s2,E⟩] [⟨3,a+b,r1,s1,j⟩]:=by
 have e:(a+b).toNat=a.toNat+b.toNat:=by omega
 refine⟨fun d u=>?_,?_,?_,fun h q i=>?_,fun h q i hk=>?_,fun q u h h0 hp o=>?_⟩
 .simp only[WJ,kS,Go.Proofs.YtmdhibffnkhcnaaGreatDoor.FW,show ¬(3:Int)=1 by decide,show ¬(3:Int)=2 by decide,kZ,e,nT]
 .simp[Co,e]
 .simp[EJ]
 .simp only[P9] at i;subst i;show 0<=a+b;omega
 .simp only[P9] at i;subst i;exact absurd hk (show ¬(3:Int)=2 by decide)
 .simp only[WJ,kS,Db,show ¬(3:Int)=2 by decide,kZ,km] at o ⊢;rw[<-Int.add_assoc];exact o.2
theorem aG(r1 i:List Int)(s:List Attr)(B J:Int)(E O:List Chg):JO ks n [⟨2,B,r1,s,E⟩,⟨2,J,i,s,O⟩] [⟨2,B,r1++i,s,E⟩]:=by
 refine⟨fun d u=>?_,?_,?_,fun h q o=>?_,fun h q o hk I hb=>?_,fun q u h h0 hp Q=>?_⟩
 .simp only[WJ,kS,Go.Proofs.YtmdhibffnkhcnaaGreatDoor.FW,show ¬(2:Int)=1 by decide,kZ,km,S7,PF]
 .simp[Co]
 .simp[EJ]
 .simp only[P9] at o;subst o;exact h ⟨2,B,r1,s,E⟩ (by simp)
 .simp only[P9] at o;subst o;have h1:=h ⟨2,B,r1,s,E⟩ (by simp) rfl I;have S:=h ⟨2,J,i,s,O⟩ (by simp) rfl I;simp only[FD,Bq] at hb ⊢;have T:0<s.length:=lT.2 I;have U:0<(Cw ks true s).length->(Cw ks true s).length=s.length/\Bc r1=r1.length:=fun e=>h1 (.inl e);have V:0<(Cw ks true s).length->(Cw ks true s).length=s.length/\Bc i=i.length:=fun e=>S (.inl e);have k1:0<Bc r1->(Cw ks true s).length=s.length/\Bc r1=r1.length:=fun e=>h1 (.inr e);have k2:0<Bc i->(Cw ks true s).length=s.length/\Bc i=i.length:=fun e=>S (.inr e);have j:0<(Cw ks true s).length:=by
   rcases hb with e|e
   .exact e
   .by_cases X:0<Bc r1
    .have:=(k1 X).1;omega
    .have:=(k2 (by omega)).1;omega
  have Y:=U j;have Z:=V j;exact⟨Y.1,by omega⟩
 .simp only[WJ,kS,Db,km] at Q ⊢;exact Q.2
theorem XV{g:Int}(B:1<=g)(i:Dop)(hi:i.kind=2)(r:List Int)(s:List Attr)(q:List Chg):JO ks n [⟨3,g,r,s,q⟩,i] [i,⟨3,g,r,s,q⟩]:=by
 refine⟨fun d u=>?_,?_,?_,fun h q j=>h q (by simp at j ⊢;exact j.symm),fun h q j=>h q (by simp at j ⊢;exact j.symm),fun p u h h0 hp o=>?_⟩
 .simp only[WJ,kS,Go.Proofs.YtmdhibffnkhcnaaGreatDoor.FW,hi,show ¬(3:Int)=1 by decide,show ¬(3:Int)=2 by decide,show ¬(2:Int)=1 by decide,kZ,km]
 .simp[Co,hi]
 .simp[EJ,hi]
 .simp only[WJ,kS,Db,Co,hi,show ¬(3:Int)=2 by decide,kZ,km] at o hp ⊢;exact⟨by omega,o.1,o.2.2⟩
theorem Nl(i:List Dop)(b o:Dop):(i++[b]).set ((i++[b]).length-1) o=i++[o]:=by
 rw[Bq,mu,oT,lC _ _ (Lc _),oB];rfl
theorem Ln(l:List Dop):l=[]\/∃i b,l=i++[b]:=by
 rcases kb l with h|⟨i,b,h⟩
 .exact .inl h
 .exact .inr ⟨i,b,by rw[h,k6]⟩
theorem Yg{c:List Dop}{m:Int}(p:List Chg)(hm:0<=m)(hc:∀o∈c,0<=o.n/\o.n+m<=4611686018427387904):JO ks n (c++[⟨1,m,[],[],p⟩]) (FO c m p):=by
 unfold FO;rcases Ln c with rfl|⟨i,b,rfl⟩
 .exact JO.refl _
 .rw[S5];simp only[X1,ki];split
  .rename_i h;obtain⟨j,B⟩:=hc b (by simp);rw[Nl,wrap64 (by omega) (by omega)];obtain⟨k,J,br,E,I⟩:=b;obtain⟨rfl,rfl⟩:=h;have:=(Yj (ks:=ks) (n:=n) j hm I br [] E []).pre i;rw[PF];exact this
  .exact JO.refl _
theorem SU(h:Ev a)(rs:List Int)(s:List Attr):JO ks n (a++[⟨2,0,rs,s,[]⟩]) (Fg a rs s):=by
 unfold Fg;cases h with
 |nil=>exact JO.refl _
 |snoc i r t h hr j=>
  rw[S5];simp only[X1,ki];split
  .rename_i e;rw[Nl,PF,<-e];exact(aG r rs t 0 0 [] []).pre i
  .exact JO.refl _
theorem Ev.zero(h:Ev a):∀o∈a,o.n=0:=by
 induction h with
 |nil=>simp
 |snoc i rs set h hr E B=>
  intro o j;rcases DN.1 j with j|j
  .exact B o j
  .simp only[P9] at j;subst j;rfl
theorem Se{g:Int}(h:Ev a)(j:0<=g):∀o∈BH a g,0<=o.n:=by
 intro o i;unfold BH at i;split at i
 .rcases DN.1 i with i|i
  .have:=h.zero o i;omega
  .simp only[P9] at i;subst i;exact j
 .have:=h.zero o i;omega
theorem EN.jQ{d:List Dop}(h:EN d):∀o∈d,0<=o.n:=by
 induction h with
 |nil=>simp
 |snoc d ins gone m p h hi j hb E hp B=>
  intro o i;simp only[DN,P9] at i;rcases i with(i|i)|rfl
  .exact B o i
  .exact Se hi j o i
  .show 0<=m;omega
theorem YN{l:List Dop}(h:∀o∈l,0<=o.n){o:Dop}(i:o∈l):o.n<=Et l:=by
 induction l with
 |nil=>simp at i
 |cons q l j=>
  have e:Et (q::l)=q.n+Et l:=by simp[Et]
  have h1:=h q (by simp);have E:0<=Et l:=by
   clear j i;have B:∀o∈l,0<=o.n:=fun o i=>h o (by simp[i]);clear h e h1;induction l with
   |nil=>simp[Et]
   |cons r l j=>
    have e:Et (r::l)=r.n+Et l:=by simp[Et]
    have:=B r (by simp);have:=j fun o i=>B o (by simp[i]);omega
  rcases I3.1 i with rfl|i
  .omega
  .have:=j (fun o i=>h o (by simp[i])) i;omega
theorem V8{s:Gw}{t:Int}(h:Canon s t){o:Dop}(O:FN o)(ht:t+o.n<=4611686018427387904):JO ks n (s.done++BH s.ins s.gone++[o]) ((CC s o).done++BH (CC s o).ins (CC s o).gone):=by
 obtain⟨done,ins,gone⟩:=s;obtain⟨h1,B,I,Q⟩:=h;simp only at h1 B I Q ⊢;obtain⟨k,m,rs,set,p⟩:=o;have i:∀l:List Dop,BH l 0=l:=fun l=>by unfold BH;rw[C3 (by decide)]
 have T:=h1.nn;rcases O with⟨rfl,rfl,rfl,k1,k2⟩|⟨rfl,rfl,rfl,rfl,k1,k2⟩|⟨rfl,rfl,rfl,k1⟩
 .simp only at k1 k2 ht;have e:CC ⟨done,ins,gone⟩ ⟨1,m,[],[],p⟩=⟨FO (done++BH ins gone) m p,[],0⟩:=by
   unfold CC LA;rw[Io rfl,C3 (by simp only;omega)]
  rw[e];simp only[i,kG];have E:∀q∈done++BH ins gone,0<=q.n:=fun q j=>by
   rcases DN.1 j with j|j
   .exact h1.jQ q j
   .exact Se B I q j
  refine Yg p (by omega) fun q j=>⟨E q j,?_⟩;have:=YN E j;rw[Cr,HG B I] at this;omega
 .simp only at k1 k2 ht;have e:CC ⟨done,ins,gone⟩ ⟨3,m,[],[],[]⟩=⟨done,ins,gone+m⟩:=by
   unfold CC Qf;rw[C3 (show ¬(3:Int)=1 by decide),C3 (show ¬(3:Int)=2 by decide)];show Gw.mk done ins (IntKind.i64.wrap (gone+J7 m 0))=_;rw[show J7 m 0=m by unfold J7;split<;>omega,wrap64 (by omega) (by omega)]
  rw[e];simp only;have S:BH ins (gone+m)=ins++[⟨3,gone+m,[],[],[]⟩]:=by unfold BH;rw[Io (by omega)]
  rw[S];by_cases J:0<gone
  .rw[show BH ins gone=ins++[⟨3,gone,[],[],[]⟩] by unfold BH;rw[Io J],PF,PF];exact((Yw I (by omega) [] [] [] [] [] []).pre ins).pre done
  .obtain rfl:gone=0:=by omega
   rw[i,Int.zero_add,PF];exact JO.refl _
 .simp only at k1 ht;have e:CC ⟨done,ins,gone⟩ ⟨2,0,rs,set,[]⟩=⟨done,Fg ins rs set,gone⟩:=by
   unfold CC Md;rw[C3 (show ¬(2:Int)=1 by decide),Io rfl,C3 k1]
  rw[e];simp only;by_cases J:0<gone
  .rw[show BH ins gone=ins++[⟨3,gone,[],[],[]⟩] by unfold BH;rw[Io J],show BH (Fg ins rs set) gone=Fg ins rs set++[⟨3,gone,[],[],[]⟩] by unfold BH;rw[Io J],PF,PF];refine JO.trans (((XV (by omega) ⟨2,0,rs,set,[]⟩ rfl [] [] []).pre ins).pre done) ?_;have:=((SU (ks:=ks) (n:=n) B rs set).app [⟨3,gone,[],[],[]⟩]).pre done;rw[PF] at this;exact this
  .obtain rfl:gone=0:=by omega
   rw[i,i,PF];exact(SU B rs set).pre done
theorem YG{x:List Dop}(h:∀o∈x,FN o)(hl:x.length<=1048576):∀k,k<=x.length->JO ks n (x.take k) ((BP (x.take k)).done++BH (BP (x.take k)).ins (BP (x.take k)).gone):=by
 intro k;induction k with
 |zero=>intro _;exact JO.refl _
 |succ k I=>
  intro hk;have i:k<x.length:=by omega
  have B:∀q∈x.take k,FN q:=fun q J=>h q (kO J);have j:(x.take k).length=k:=by rw[Mp];omega
  have hc:=IU (x.take k) B (by omega);have O:=IY (x.take k) B;have E:=h x[k] (gC i);have Q:=E.nn;have ex:x.take (k+1)=x.take k++[x[k]]:=by rw[No,By i];rfl
  have e:BP (x.take (k+1))=CC (BP (x.take k)) x[k]:=by rw[ex];unfold BP;rw[lH];rfl
  rw[e,ex];refine JO.trans ((I (by omega)).app [x[k]]) (V8 hc E ?_);rw[j] at O;have:(k:Int)*536870912<=1048576*536870912:=oz (by omega) (by decide);omega
theorem YA{a b:List Dop}(h:∀d,FW ks d a=FW ks d b)(w:List Dop):∀d,FW ks d (w++a)=FW ks d (w++b):=by
 induction w with
 |nil=>exact h
 |cons o w i=>intro d;rw[WJ,WJ,FW,FW,i,i]
theorem Uc(c:Cel):Dv ks [] c=c:=by
 obtain⟨r,s⟩:=c;unfold Dv P8 Gf;simp only[List.filter_nil];cases s<;>rfl
theorem Xt:∀{w:List Dop} {p:Int},Db n p (w++a)->Db n p w:=by
 intro w;induction w with
 |nil=>intro p _;trivial
 |cons o w i=>
  intro p h;rw[WJ,Db] at h;rw[Db];split
  .rename_i k;rw[Io k] at h;exact⟨h.1,i h.2⟩
  .rename_i k;rw[C3 k] at h;split
   .rename_i j;rw[Io j] at h;exact⟨h.1,i h.2⟩
   .rename_i j;rw[C3 j] at h;exact i h
theorem Zq{x:List Dop}(h:∀o∈x,FN o)(hl:x.length<=1048576)(ht:(Co x:Int)<=n)(S:Db n 0 x)(hp:∀o∈x,ES ks o) :
  (∀d,FW ks d (CG x)=FW ks d x)/\Co (CG x)<=Co x/\Co x+EJ (CG x)=Co (CG x)+EJ x/\Db n 0 (CG x)/\∀o∈CG x,ES ks o:=by
 have E:=YG (ks:=ks) (n:=n) h hl x.length (Lc _);rw[Nr] at E;have j:∀o∈x,0<=o.n:=fun o B=>(h o B).nn.1;have I:∀d,FW ks d ((BP x).done++BH (BP x).ins (BP x).gone)=FW ks d x:=fun d=>by have:=E.FW d [];rw[kG,kG] at this;exact this.symm
 have J:Db n 0 ((BP x).done++BH (BP x).ins (BP x).gone):=by
  have:=E.fin 0 [] j (Int.le_refl _) (by rw[kG];omega) (by rw[kG];exact S);rwa [kG] at this
 have Q:=E.Tg;have T:=E.hZ;have O:=E.pl hp;unfold CG RC;generalize (BP x).done++BH (BP x).ins (BP x).gone=c at *;rcases Ln c with rfl|⟨i,b,rfl⟩
 .show(∀d,FW ks d []=FW ks d x)/\Co []<=Co x/\Co x+EJ []=Co []+EJ x/\Db n 0 []/\∀o∈([]:List Dop),ES ks o;exact⟨I,by omega,by omega,J,O⟩
 .unfold EG;rw[S5];simp only[X1,ki];split
  .rename_i hb;rw[k9];refine⟨fun d=>?_,?_,?_,Xt J,fun o B=>O o (by simp[B])⟩
   .rw[<-I d];have:=YA (ks:=ks) (a:=[]) (b:=[b]) (fun d=>?_) i d
    .rw[kG] at this;exact this
    .rw[FW,FW,Io hb.1,hb.2,FW,show Dv ks []=id from funext Uc,List.map_id,S9]
   .rw[Hr] at Q;omega
   .rw[Hr,Co,Co,C3 (by omega)] at Q;rw[Lh,EJ,EJ,C3 (by omega),C3 (by omega)] at T;omega
  .exact⟨I,by omega,by omega,J,O⟩
end
theorem KF.lt{b:Nat}{s:Gw}(h:KF F W b s):KF (fun x=>F x/\x<W.heap.size) W b s:=by
 obtain⟨T,U,C,j,h⟩:=h;have hb:b<W.heap.size:=kT W _ h.c0;refine⟨T,U,C,j,h.c0,h.c1,h.c2,h.lv,⟨h.fb,hb⟩,h.nb,fun x o=>⟨⟨(h.cf x o).1,(h.cf x o).2⟩,(h.cf x o).2⟩,h.done,fun g B=>⟨⟨(h.dF g B).1,(AE.BA h.done g B).2⟩,(h.dF g B).2⟩,?_⟩;rcases h.ins with h0|⟨g,c,V,Q,X,S,Y,Z,e6,e7,e8,e9,E,I,J,i,O⟩
 .exact .inl h0
 .exact .inr ⟨g,c,V,Q,X,S,⟨Y,(AE.BA S g (by rw[Q];rfl)).2⟩,Z,e6,e7,⟨e8,i⟩,e9,E,I,J,i,O⟩
def Ew(a:Attr):Chg:=⟨a.key,false,a.val⟩
def Di(c:Cel):Dop:=⟨2,0,[c.r],c.set,[]⟩
theorem Tm{a:Attr}:AB prog 190 [.agg a.cells.toArray] (fun v w'=>v=.agg (Ew a).cells.toArray/\Grow w w') w:=by
 apply X6;refine Bx.box (vs:=a.cells) fun b1 T E o I=>?_;refine Bx.zero fun b2 w2 J B O=>?_;have i:=I.grow B;refine Bt (i.cells 0 _ rfl) ?_;rw[AG,AH];refine Aj (vs:=a.val.cells) rfl (fun j u hu=>by rw[<-AH,Addr.add_add,AH];exact i.cells (1+j) u (by rw[pR];exact hu)) ?_;refine⟨(Ew a).cells.toArray,by rfl,?_⟩;refine O.over (us:=(Ew a).cells) rfl rfl (Ep.one (w:=w2) (x:=Ew a) rfl) fun U Q S=>?_;refine Q.FZ rfl ⟨rfl,?_⟩;have:=o.size;exact(o.trans B).next S fun x V e=>by omega
theorem VA{set:List Attr}(h:Cf S w sv set)(hl:set.length<=1000000) :
  AB prog 123 [.slice none 0 0,sv] (fun v w'=>AE w.heap.size 133 6 Ep w' v (set.map Ew)/\Grow w w') w:=by
 apply ZG;obtain⟨pa,ca,rfl,_⟩:=h.shape;rw[AP];refine Ab (fun vs W=>∃(k:Nat) (ov:Value),k<=set.length/\vs=[ov,.int .i64 0,.int .i64 k]/\AE w.heap.size 133 6 Ep W ov ((set.take k).map Ew)/\Grow w W) (fun vs _=>set.length-Ds vs 2) ⟨0,_,Nn _,rfl,AE.nil,Mod.refl _ _⟩ ?_;rintro vs W ⟨k,ov,hk,rfl,E,g⟩ _;simp only[GJ];refine H6 (fun Y=>?_) fun Z=>?_;rotate_left
 .obtain rfl:k=set.length:=by omega
  rw[Nr] at E;refine Hq (e:=79) (k:=5) (i:=Tryz.t79) (j:=0) (S:=fun _=>True) (R:=DD) (l:=[]) (by kernel_rfl) (by kernel_rfl) (by kernel_rfl) (BB.nil) (Lc _) fun v' I=>?_;obtain⟨a',c',rfl,_⟩:=I.shape;rw[AP];refine Ab (fun vs W'=>vs=[ov,.int .i64 0]/\W=W') (fun _ _=>0) ⟨rfl,rfl⟩ ?_;rintro vs _ ⟨rfl,rfl⟩ _;simp only[GJ];rw[Ap];exact AF (fun e=>absurd e (by simp)) fun _=>⟨E,g⟩
 have o:k<set.length:=by omega
 obtain⟨p,r,rfl,_,hr,hc,rfl⟩:=(h.grow g (by decide) fun _ _ h=>h).get o;refine AU o (Aj hr (fun j u hu=>by rw[Addr.add_add];exact hc j u hu) ?_);refine Bx.new (vs:=set[k].cells) rfl rfl (DD.one (w:=W) (x:=set[k]) rfl) fun b8 w4 a1 V B8=>?_;have J:=g.trans V;have O:AE w.heap.size 133 6 Ep w4 ov ((set.take k).map Ew):=AE.mod E V (fun _ _ h=>h) fun _ _ _ h=>h;refine AT (fun vs W'=>vs=[ov,.int .i64 0]/\Grow w4 W') ?_ ?_;rotate_left
 .refine Ab (fun vs W'=>vs=[ov,.int .i64 0]/\Grow w4 W') (fun _ _=>0) ⟨rfl,Mod.refl _ _⟩ ?_;rintro vs Q ⟨rfl,T⟩ _;simp only[GJ];refine AT (fun _ _=>False) (fun _ _ h=>h.elim) ?_;refine Ce (fun w'=>Grow Q w') (Mod.drew _ _) ?_;rw[show(Value.slice none 0 0)=.slice none (0:Nat) 0 from rfl,AP,Ap];refine AF (fun e=>absurd e (by simp)) fun _=>?_;exact fun w' g'=>⟨trivial,T.trans g'⟩
 rintro vs Q ⟨rfl,T⟩ _;simp only[GJ];refine AT (fun vs W'=>vs=[.bool false]/\Grow w4 W') ?_ ?_;rotate_left
 .refine Ce (fun w'=>Grow Q w') (Mod.drew _ _) ?_;rw[show(Value.slice none 0 0)=.slice none (0:Nat) 0 from rfl,AP,Ap];refine AF (fun e=>absurd e (by simp)) fun _=>?_;exact fun w' g'=>⟨rfl,T.trans g'⟩
 rintro vs W6 ⟨rfl,X⟩ _;simp only[B0,Of];refine AV ?_;refine(B8.grow X).FZ rfl ?_;refine AA Tm ?_;rintro _ W7 ⟨rfl,g7⟩;have B:=X.trans g7;have U:AE w.heap.size 133 6 Ep W7 ov ((set.take k).map Ew):=AE.mod O B (fun _ _ h=>h) fun _ _ _ h=>h;refine Lm (w0:=w) Ph U (J.trans B) (cs:=(Ew set[k]).cells) (x:=Ew set[k]) (by kernel_rfl) rfl rfl (fun _ _ _=>Ep.one) (fun _ _ _ _ _ _ h=>h) (by simp only[Es,Mp];omega) (by simp only[maxLen,Es,Mp];omega) fun v' w' o' g'=>?_;rw[AR,AO (by omega)];refine⟨⟨k+1,v',o,rfl,?_,g'⟩,by rw[Tn,Tn];omega⟩;rw[No,By o,S7];exact o'
theorem Nf(x:List Dop)(o:Dop):BP (x++[o])=CC (BP x) o:=by unfold BP;rw[lH];rfl
theorem XD{b B:Nat}(h:KF (fun y=>B<=y) w b Gw.z)(hd:Jk S S w v d)(Y:∀y,S y->y<B)(hB:B<=w.heap.size)(hm:Aw (d.map Di)<=68719476736) :
  AB prog 122 [.pointer (some ⟨b,0,none⟩),v] (fun _ w'=>KF (fun y=>B<=y) w' b (BP (d.map Di))/\Mod (fun y=>B<=y) w w') w:=by
 apply Yr;obtain⟨a,c,rfl,_⟩:=hd.shape;have ax:d.length<=Aw (d.map Di):=by have:=CZ (d.map Di);rwa [Es] at this
 rw[AP];refine Ab (fun vs W=>∃k:Nat,k<=d.length/\vs=[.int .i64 k]/\KF (fun y=>B<=y) W b (BP ((d.map Di).take k))/\Mod (fun y=>B<=y) w W) (fun vs _=>d.length-Ds vs 0) ⟨0,Nn _,rfl,h,Mod.refl _ _⟩ ?_;rintro vs W ⟨k,hk,rfl,Z,g⟩ _;rw[B0,Of,Ap];refine AF (fun ay=>?_) fun b0=>?_;rotate_left
 .obtain rfl:k=d.length:=by omega
  rw[lN (by rw[Es];exact Lc _)] at Z;exact⟨Z,g⟩
 have I:k<d.length:=by omega
 have a1:Jk S S W (.slice a d.length c) d:=BB.mod hd g (fun x _ V e=>by have:=Y x V;omega) (by decide) fun r x V=>V.mod g (fun y _ i e=>by have:=Y y i;omega) fun _ _ h=>h;obtain⟨p,r,rfl,_,hr,hc,O⟩:=a1.get I;refine AU I (Aj hr (fun j u hu=>by rw[Addr.add_add];exact hc j u hu) ?_);refine Bx.new (vs:=r) hr rfl (M0.one O) fun b5 E b3 X B5=>?_;have Q:=Z.mod X fun _ _ h=>h;obtain⟨a6,rfl,a7⟩:=M0.mod (D':=S) O X (fun _ _ _ h=>h) fun _ _ h=>h;refine Bt (B5.cells 0 _ rfl) ?_;refine GL (DW (v:=.int .i32 d[k].r) (vs:=[.int .i32 d[k].r]) (k:=1) rfl (by decide) rfl rfl) ?_;have J:Grow E (E.alloc (.cells [Value.int .i32 d[k].r].toArray 21)):=Mod.alloc _ _ _;have ho:AE E.heap.size 21 1 Bo (E.alloc (.cells [Value.int .i32 d[k].r].toArray 21)) (.slice (some ⟨E.heap.size,0,none⟩) 1 1) [d[k].r]:=AE.OW (Lc _) rfl (fun u hu=>by simp at hu;subst hu;rfl) rfl;have a8:=B5.grow J;have b4:=Q.mod J fun _ _ h=>h;refine Bt (a8.cells 1 _ rfl) ?_;have b6:=X.size;have b7:=g.size;have b8:=J.size;have T:Di d[k]∈d.map Di:=kQ.2 ⟨d[k],gC I,rfl⟩;have ak:=HB T;have b9:=OB ((d.map Di).take k);have av:=KC (d.map Di) k;have ba:=CZ (BP ((d.map Di).take k)).ins;simp only[DR,Di] at ak;have bb:d[k].set.length<=GX d[k].set:=by rw[LD];omega
 have al:KF (fun y=>B<=y/\y<E.heap.size) (E.alloc (.cells [Value.int .i32 d[k].r].toArray 21)) b (BP ((d.map Di).take k)):=((Q.lt).mod J fun _ _ h=>h);have an:KR (fun y=>S y\/y=E.heap.size) (E.alloc (.cells [Value.int .i32 d[k].r].toArray 21)) (.slice (some ⟨E.heap.size,0,none⟩) 1 1) [d[k].r]:=BB.sub (AE.sl ho) (fun x V h=>.inr (by have:=h.2;simp only[Value.ownBlock,i6] at this;exact this.symm)) (by decide) fun _ _ h=>h;have U:Cf (fun y=>S y\/y=E.heap.size) (E.alloc (.cells [Value.int .i32 d[k].r].toArray 21)) a6 d[k].set:=(a7.grow J (by decide) fun _ _ h=>h).sub (fun _ _ h=>.inl h) (by decide) fun _ _ h=>h;refine AA (Nk al an U (fun y i e=>by rcases i with i|i;have:=Y y i;omega;omega) (by omega) (fun o ho=>?_) (by simp) (by omega)) ?_
 .have h1:=HB ho;simp only[DR] at h1;simp only[mu];omega
 rintro _ W3 ⟨h3,m3⟩;rw[AR,AO (by omega)];refine⟨⟨k+1,I,rfl,?_,?_⟩,by rw[DG,DG];omega⟩
 .rw[No,By (by rw[Es];exact I),lV];show KF _ _ _ (BP ((d.map Di).take k++[Di d[k]]));rw[Nf];exact h3.sub fun y i=>by rcases i with i|i<;>omega
 .exact((g.trans (X.mono fun _ _ h=>h.elim)).trans (J.mono fun _ _ h=>h.elim)).trans (m3.mono fun y _ i=>i.1)
def Ms(d:List Cel):List Dop:=match d.getLast? with|some c=>d.dropLast.map Di++[⟨1,1,[],[],c.set.map Ew⟩]|none=>[]
theorem Ud(hd:Jk S S w v d)(hp:0<d.length)(hm:Aw (d.map Di)<=1000000000)(hs:∀c∈d,c.set.length<=64) :
  AB prog 66 [v] (fun v' w'=>Iu w.heap.size w' v' (CG (Ms d))/\Grow w w') w:=by
 apply cL;have Y:Jk (fun b=>S b/\b<w.heap.size) (fun b=>S b/\b<w.heap.size) w v d:=hd.sub (fun b hb h=>⟨h,hb⟩) (by decide) fun r x o=>o.mod (Mod.refl (fun _=>False) _) (fun _ _ _ h=>h) fun b hb h=>⟨h,hb⟩;obtain⟨i,c,rfl⟩:∃i c,d=i++[c]:=by
  rcases kb d with h|⟨i,b,h⟩
  .rw[h] at hp;simp at hp
  .exact⟨i,b,by rw[h,k6]⟩
 have Z:(i++[c]).length=i.length+1:=by simp
 have ax:(i++[c]).length<=1000000000:=by have:=CZ ((i++[c]).map Di);rw[Es] at this;omega
 refine AA Xn ?_;rintro _ w1 ⟨V,b,a1,ay,rfl,a6⟩;have I:KF (fun y=>w.heap.size<=y) w1 b Gw.z:=a6.sub fun y E=>by rw[E];exact a1
 obtain⟨a,cp,rfl,_⟩:=hd.shape;rw[AP,Av,wrap64 (by omega) (by omega),show(((i++[c]).length:Int)-1)=(i.length:Int) by rw[Z];omega,DX];refine AF (fun _=>?_) fun e=>(e (by omega)).elim;have J:=Y.grow V;refine Qg (e:=45) (k:=2) (i:=Tryz.t45) (by kernel_rfl) (by kernel_rfl) (by kernel_rfl) J (j:=i.length) (by omega) fun v' O=>?_;rw[List.take_left] at O;have b0:Aw (i.map Di)+DR (Di c)=Aw ((i++[c]).map Di):=by simp[Aw]
 refine AA (XD (B:=w.heap.size) I O (fun y E=>E.2) V.size (by omega)) ?_;rintro _ w2 ⟨a7,X⟩;have a8:Jk (fun b=>S b/\b<w.heap.size) (fun b=>S b/\b<w.heap.size) w2 (.slice a (i++[c]).length cp) (i++[c]):=BB.mod J X (fun x _ o e=>by have:=o.2;omega) (by decide) fun r x o=>o.mod X (fun y _ E e=>by have:=E.2;omega) fun _ _ h=>h;obtain⟨p,r,rfl,_,hr,hc,b3,rfl,Q⟩:=a8.get (i:=i.length) (by omega);have ec:(i++[c])[i.length]'(by omega)=c:=by simp
 rw[ec] at hc Q;refine AU (by omega) ?_;rw[AG,Addr.add_add];refine AK (hc 1 _ rfl) ?_;have b4:=hs c (by simp);refine AA (VA Q (by omega)) ?_;rintro pv w3 ⟨ho,g3⟩;have z1:=V.size;have z2:=X.size;have z3:=g3.size;have ak:KF (fun y=>w.heap.size<=y/\y<w2.heap.size) w3 b (BP (i.map Di)):=a7.lt.mod g3 fun _ _ h=>h;have b5:=OB (i.map Di);have b6:=CZ (BP (i.map Di)).done;have b7:=CZ (BP (i.map Di)).ins;refine AA (Nc (n:=1) (p:=c.set.map Ew) (S:=fun y=>w2.heap.size<=y) ak ((AE.sl ho).sub (fun x o h=>h.1) (by decide) fun _ _ h=>h) (fun x o e=>by have:=e.2;omega) (by omega) (by rw[Es];omega)) ?_;rintro _ w4 ⟨T,m4⟩;have z4:=m4.size;have al:LA (BP (i.map Di)) 1 (c.set.map Ew)=BP (Ms (i++[c])):=by
  have e1:Ms (i++[c])=i.map Di++[⟨1,1,[],[],c.set.map Ew⟩]:=by
   unfold Ms;rw[S5,k9];rfl
  rw[e1,Nf];rfl
 rw[al] at T;have an:KJ (c.set.map Ew)=GX c.set:=by
  unfold KJ GX;rw[mH];rfl
 have b8:Aw (Ms (i++[c]))<=1000000000:=by
  have e1:Ms (i++[c])=i.map Di++[⟨1,1,[],[],c.set.map Ew⟩]:=by
   unfold Ms;rw[S5,k9];rfl
  have e2:Aw (Ms (i++[c]))=Aw (i.map Di)+DR ⟨1,1,[],[],c.set.map Ew⟩:=by rw[e1];simp[Aw]
  rw[e2];have e3:DR ⟨1,1,[],[],c.set.map Ew⟩=1+GX c.set:=by simp only[DR,an,GX];simp
  have e4:DR (Di c)=1+1+GX c.set:=by simp[DR,Di,KJ]
  omega
 have av:=OB (Ms (i++[c]));refine AA (Vf T (by omega)) ?_;rintro v5 w5 ⟨U,g5⟩;refine⟨AE.mod (AE.base U fun g hg=>by have:=(AE.BA U g hg).1;omega) (Mod.refl (fun _=>False) _) (fun _ _ h=>h) fun r x _ o=>o.mod (Mod.refl (fun _=>False) _) (fun _ _ _ h=>h) fun y _ E=>⟨by omega,E.2⟩,?_⟩
 .exact(((V.next X fun x o e=>by omega).trans g3).next m4 fun x o e=>by have:=e.1;omega).trans g5
theorem WV{s:List Attr}{m:Nat}(h:∀a∈s,a.val.s.size<=m):GX s<=s.length*(m+1):=by
 induction s with
 |nil=>exact Nn _
 |cons a s i=>
  have e:GX (a::s)=K0 a+GX s:=by simp[GX]
  have h1:=h a (by simp);have j:=i fun b hb=>h b (by simp[hb]);rw[e,Vn,ku,K0];omega
theorem ET.size{s:List Attr}(h:ET ks s):GX s<=4160:=by
 have h1:GX s<=s.length*65:=WV fun a ha=>by
  obtain⟨_,_,i⟩:=h.1;have h0:Fo.size=0:=rfl;rcases(i a ha).1 with⟨_,e,_⟩|⟨_,e⟩|⟨_,e,_⟩|⟨_,_,e,_⟩
  .rw[e];show Fo.size<=64;omega
  .rw[e];show Fo.size<=64;omega
  .rw[e];show Fo.size<=64;omega
  .exact e
 have:=h.len;omega
theorem V2(h:∀c∈d,ET ks c.set):Aw (d.map Di)<=d.length*4162:=by
 induction d with
 |nil=>exact Nn _
 |cons c d i=>
  have e:Aw ((c::d).map Di)=DR (Di c)+Aw (d.map Di):=by simp[Aw]
  have h1:=(h c (by simp)).size;have o:=i fun b hb=>h b (by simp[hb]);have j:DR (Di c)=1+1+GX c.set:=by simp[DR,Di,KJ]
  rw[e,j,Vn,ku];omega
section
variable {w0:World}{F:Nat->Prop}{W:World}{a:TxA}{σ:SKs}{most:Int}{N:Nat}{d:List Cel}
theorem L0(h:GP .f w0 F W a σ most d N)(B:DocM σ.ks most d)(hm:most<=2000)(Q:N<=1000000000) :
  AB prog 26 [.pointer (some ⟨a.b,0,none⟩)] (fun v' w'=>Iu W.heap.size w' v' (CG (Ms d))/\Grow W w') W:=by
 have S:=B.le;have E:=B.g.set;apply ck;refine AA (FH h.box.1) ?_;rintro _ _ ⟨rfl,rfl⟩;rename World=>W
 rw[Ar];refine AV ?_;refine AA (Vz h) ?_;rintro _ Z ⟨rfl,I⟩;have h1:=h.grow I;refine AA (Rb (i:=0) (j:=d.length) h1 (Nn _) (Lc _) E (by omega) Q) ?_;rintro _ W2 ⟨cv,rfl,o,J⟩;rw[Nr,lh] at o;refine BV ?_;have T:=V2 E;refine AA (Ud (o.rd (Lc _)) B.pos (by omega) fun c hc=>(E c hc).len) ?_;rintro v W3 ⟨O,U⟩;have z1:=I.size;have z2:=J.size;refine⟨?_,(I.trans J).trans U⟩;exact AE.mod (AE.base O fun g V=>by have:=(AE.BA O g V).1;omega) (Mod.refl (fun _=>False) _) (fun _ _ h=>h) fun r x _ X=>X.mod (Mod.refl (fun _=>False) _) (fun _ _ _ h=>h) fun y _ Y=>⟨by omega,Y.2⟩
end
theorem T6{x:List Dop}(hk:∀k∈ks,EZ k)(I:∀o∈x,Ml o)(hl:x.length<=1048576)(h:Ej ks x d.length most=0) :
  Ej ks (CG x) d.length most=0/\FW ks d (CG x)=FW ks d x/\(∀o∈CG x,Ml o)/\(CG x).length<=x.length:=by
 have i:=(Fv (by omega)).1 h;have J:∀o∈x,FN o:=fun o j=>(i.Fc o j).1.bM (i.Fc o j).2;obtain⟨E,O,_,_,Q⟩:=XW (fun k B=>by have:=(hk k B).1;omega) i.may I (by omega);obtain⟨S,T,X,U,V⟩:=Zq (ks:=ks) (n:=d.length) J (by omega) (by have:=i.Tg;omega) i.fin i.pl;refine⟨(Fv (by omega)).2 ⟨E,Jr E,i.pos,k8 T i.Tg,U,V,?_⟩,S d,fun o j=>(O o j).1.b,Q⟩;have:=i.most;omega
structure Pf (w0:World) (B:Nat) (F1 F2:Nat->Prop) (W:World) (a1 a2:TxA) (σ1 σ2:SKs) (most:Int) (d:List Cel) (N:Nat):Prop where
 x:GP .f w0 F1 W a1 σ1 most d N
 y:GP .f w0 F2 W a2 σ2 most d N
 m:DocM σ1.ks most d
 e:σ2.ks=σ1.ks
 s1:∀z,σ1.S z->z<B
 s2:∀z,σ2.S z->z<B
 b1:∀z,F1 z->B<=z
 b2:∀z,F2 z->B<=z
 o:∀z,F1 z->¬F2 z
 w:B<=W.heap.size
theorem Pf.grow{E I:Nat->Prop}{J O:TxA}{i j:SKs}{N:Nat}(h:Pf w0 B E I W J O i j most d N)(g:Grow W W'):Pf w0 B E I W' J O i j most d N:=
 ⟨h.x.grow g,h.y.grow g,h.m,h.e,h.s1,h.s2,h.b1,h.b2,h.o,k8 h.w g.size⟩
theorem Pf.step{a1 a2:TxA}{j J:SKs}{N:Nat}{x:List Dop}(h:Pf w0 B F C W a1 a2 j J most d N)(hT:E2 w0)(U:j.ks.length<=64)(hK:∀k∈j.ks,EZ k)
 (hx:BE S S W v x)(hS:∀z,S z->z<w0.heap.size)(hI:∀o∈x,Ml o)(hl:x.length<=100)(hm:most<=2000)(hN:N+Gj<=1000000000)
 (hk:∀ (W':World) (E:Nat->Prop),Grow w0 W'->BE S S W' v x->(∀ {S':Nat->Prop} {v':Value} {y:List Dop} {V:World} {K':Cont},Grow W' V->BE S' S' V v' y->(∀ z,S' z->¬ C z)->(∀ o ∈ y,Ml o)->y.length<=100->G9 j.ks most d y=G9 j.ks most d x->
    (∀ (W3:World) (O:Nat->Prop),Pf w0 B E O W3 a1 a2 j J most (G9 j.ks most d x) (N+Gj)->K' (.int .i64 (Ej j.ks y d.length most)) W3)->AB prog 12 [.pointer (some ⟨a2.b,0,none⟩),v'] K' V)->(∀ z,C z->z < W'.heap.size)->K (.int .i64 (Ej j.ks x d.length most)) W') :
  AB prog 12 [.pointer (some ⟨a1.b,0,none⟩),v] K W:=by
 have I:=h.x.hl;have X:=h.y.hl;refine AA (PJ h.x hT h.m U hK hx (fun z i e=>by have:=(I z e).1;have:=hS z i;omega) hI hl hm hN) ?_;rintro _ W' ⟨rfl,⟨E,f1,h1,m1⟩,a8⟩;have z1:=m1.size;have i:=h.w;refine hk W' E h1.g (hx.mod m1 (fun z _ i e=>by have:=(I z e).1;have:=hS z i;omega) fun z _ i e=>by have:=(I z e).1;have:=hS z i;omega) (fun{S' v' y V K'} g2 hy ak al an Q av=>?_) fun z i=>by have:=(X z i).2.1;omega
 have Y:=h1.grow g2;have z2:=g2.size;have Z:GP .f w0 C V a2 J most d N:=(h.y.mod m1 fun z i=>⟨h.o z i,fun e=>by have:=h.s2 z e;have:=h.b1 z i;omega,(I z i).1⟩).grow g2;refine AA (PJ Z hT (by rw[h.e];exact h.m) (by rw[h.e];exact U) (by rw[h.e];exact hK) hy ak al an hm hN) ?_;rintro _ W3 ⟨rfl,⟨O,f2,h3,m3⟩,ax⟩;rw[h.e,Q] at h3;rw[h.e];have a6:=Z.hl;have a7:=Y.hl;have o2:∀z,E z->¬C z:=fun z i e=>by
  rcases f1 z i with i|i
  .exact h.o z i e
  .have:=(X z e).2.1;omega
 refine av W3 O ⟨Y.mod m3 fun z i=>⟨fun e=>o2 z e i,fun e=>by have:=h.s1 z e;have:=h.b2 z i;omega,(a6 z i).1⟩,h3,a8,h.e,h.s1,h.s2,fun z i=>?_,fun z i=>?_,fun z i e=>?_,by have:=m3.size;omega⟩
 .rcases f1 z i with i|i
  .exact h.b1 z i
  .omega
 .rcases f2 z i with i|i
  .exact h.b2 z i
  .omega
 .rcases f2 z e with e|e
  .exact o2 z i e
  .have:=(a7 z i).2.1;omega
theorem NM{an:List DKey}{l:List To}(hk:NS S w fr an)(hl:Jt F w sv l)(hT:E2 w)
 (hI:∀s∈l,(∀o∈s.x,Ml o)/\Aw s.x<=1048576) :
  AB prog 6 [fr,.int .i64 most,sv] (fun v w'=>v=.bool true/\Grow w w') w:=by
 classical
 apply iH;have kn:∀{I},Grow w I->AB prog 10 [] (fun v w'=>v=.bool true/\Grow w w') I:=fun hg=>AA (Ru (hT.grow hg)) fun v w' ⟨e,h⟩=>⟨e,hg.trans h⟩;have av:=hl.GQ;refine AA (L5 hk) ?_;rintro _ I ⟨g1,hr⟩;rcases hr with⟨ax,lv,ks,rfl,J,_,hS⟩|⟨_,rfl⟩;rotate_left
 .refine BV ?_;refine AT (fun _ _=>False) (fun _ _ h=>h.elim) ?_;rw[Bm];exact AW (fun e=>by cases e) fun _=>kn g1
 refine BV ?_;obtain⟨ay,b0,_⟩:=MT.1 ax;have b3:ks.length<=64:=by rw[J.length_eq];exact ay
 have hK:∀k∈ks,EZ k:=fun k hk=>b0 k (J.mem_iff.1 hk);have Y:De (fun b=>w.heap.size<=b/\b<I.heap.size) I lv ks:=hS.sub fun b hb h=>⟨h,hb⟩;refine AT (fun _ w'=>Grow w w'/\Grow I w'/\Ws most l/\l.length≠0) ?_ ?_;rotate_left
 .refine Qn ?_;refine AA (Sy (hl.mod g1 fun _ _ _ h=>h) fun s hs=>by have:=(hI s hs).2;omega) ?_;rintro _ w2 ⟨rfl,g2⟩;rw[Ar];refine AW (fun ht=>?_) fun _=>kn (g1.trans g2);obtain⟨bp,bs,b4,_⟩:=hl.shape;have Z:Ae sv=Ae (.slice bp l.length bs):=by rw[b4]
  rw[Z,AP,Al];exact AF (fun _=>kn (g1.trans g2)) fun e=>⟨g1.trans g2,g2,ht,fun e'=>e (by rw[e'];rfl)⟩
 rintro _ w2 ⟨b5,a6,⟨cv,O,b6⟩,bx⟩ _;refine AA (RL (most:=most) (Y.grow a6) hT b5) ?_;rintro v3 w3 ⟨g3,h3⟩;have Q:=b5.trans g3;have b7:=a6.trans g3;rcases h3 with⟨b8,c4,a1,F1,rfl,b9,a7⟩|⟨cx,rfl⟩;rotate_left
 .refine BV ?_;refine AA (RL (most:=most) (Y.grow b7) hT Q) ?_;rintro v4 w4 ⟨g4,h4⟩;rcases h4 with⟨b8,c4,_⟩|⟨_,rfl⟩
  .omega
  refine BV ?_;refine AT (fun _ _=>False) (fun _ _ h=>h.elim) ?_;rw[Bm];exact AW (fun e=>by cases e) fun _=>kn (Q.trans g4)
 refine BV ?_;refine AA (RL (most:=most) (Y.grow b7) hT Q) ?_;rintro v4 w4 ⟨g4,h4⟩;have dk:=Q.trans g4;rcases h4 with⟨_,_,a2,F2,rfl,a8,ba⟩|⟨dv,rfl⟩;rotate_left
 .omega
 refine BV ?_;have z1:=g1.size;have dT:=a6.size;have z3:=g3.size;have bb:=a7.hl;have j:Pf w I.heap.size F1 F2 w4 a1 a2 ⟨lv,ks,fun x=>(w.heap.size<=x/\x<I.heap.size)/\x<w2.heap.size⟩ ⟨lv,ks,fun x=>(w.heap.size<=x/\x<I.heap.size)/\x<w3.heap.size⟩ most [⟨10,[]⟩] 24:=
  ⟨a7.grow g4,ba,Wg b8,rfl,fun z E=>E.1.2,fun z E=>E.1.2,fun z E=>by have:=b9 z E;omega,fun z E=>by have:=a8 z E;omega,fun z E e=>by have:=(bb z E).2.1;have:=a8 z e;omega,by have:=g4.size;omega⟩
 refine AT (fun _ w'=>w4=w') ?_ ?_;rotate_left
 .refine Qn ?_;rw[Bm];exact AW (fun _=>rfl) fun e=>(e rfl).elim
 rintro _ _ rfl _;obtain⟨la,lc,bc,_⟩:=av.shape;have bd:Ae sv=Ae (.slice la l.length lc):=by rw[bc]
 have e1:0<l.length:=Nat.pos_of_ne_zero bx;rw[bd,AP,Av,wrap64 (by omega) (by omega),show((l.length:Int)-1)=((l.length-1:Nat):Int) by omega];subst bc;have e2:(Gj:Nat)=17610000:=rfl;have row:∀{W:World} {i:Nat} {K:Cont},i<l.length->Grow w W->(∀xv,(hi:i<l.length)->BE (fun b=>F b/\b<w.heap.size) (fun b=>F b/\b<w.heap.size) W xv l[i].x->K xv W)->BQ 3 (.slice la l.length lc) (.int .i64 (i:Int)) fun t=>AM 0 t fun t=>AL t K W:=fun{W i K} hi g c6=>by
  obtain⟨p,r,rfl,_,hr,hc,xv,rfl,hx⟩:=(av.mod g fun _ _ _ h=>h).get hi;refine AU hi ?_;rw[AG,Addr.add_add];exact AK (hc 0 _ rfl) (c6 _ hi hx)
 refine Ab (fun vs W'=>∃(i:Nat) (F1 F2:Nat->Prop),i<=l.length-1/\vs=[.int .i64 i]/\Pf w I.heap.size F1 F2 W' a1 a2 ⟨lv,ks,fun x=>(w.heap.size<=x/\x<I.heap.size)/\x<w2.heap.size⟩ ⟨lv,ks,fun x=>(w.heap.size<=x/\x<I.heap.size)/\x<w3.heap.size⟩ most (VY ks most [⟨10,[]⟩] (l.take i)) (24+i*Gj)) (fun vs _=>l.length-1-Ds vs 0) ⟨0,F1,F2,Nn _,rfl,⟨j.x.up (by omega),j.y.up (by omega),j.m,j.e,j.s1,j.s2,j.b1,j.b2,j.o,j.w⟩⟩ ?_;clear j a7 ba b9 a8 bb;rintro vs W ⟨i,F1,F2,hi,rfl,h2⟩ _;simp only[B0,Of];have gW:=h2.x.g;have e3:i*Gj+Gj<=30*Gj:=by
  have:(i+1)*Gj<=30*Gj:=lF _ (by omega);rw[ku,qX] at this;exact this
 refine H6 (fun e4=>?_) fun e5=>?_
 .have B:i<l.length:=by omega
  have c7:VY ks most [⟨10,[]⟩] (l.take (i+1))=G9 ks most (VY ks most [⟨10,[]⟩] (l.take i)) l[i].x:=by
   unfold VY;rw[No,By B,lH];rfl
  refine row B gW fun xv _ hx=>?_;obtain⟨q1,_⟩:=hI l[i] (gC B);have q2:=b6 l[i] (gC B);have c8:=N3 l[i].x;refine h2.step hT b3 hK hx (fun z E=>E.2) q1 (by omega) O (by omega) fun W1 bk ak bl al V=>?_;refine row B ak fun e6 _ c9=>?_;refine al (Mod.refl _ _) c9 (fun z E e=>by have:=h2.b2 z e;have:=E.2;omega) q1 (by omega) rfl fun W3 bn h3=>?_;rw[AR,AO (by omega)];refine⟨⟨i+1,bk,bn,by omega,rfl,?_⟩,by rw[DG,DG];omega⟩;rw[c7,ku,qX,<-mB];exact h3
 have e7:i=l.length-1:=by omega
 have B:i<l.length:=by omega
 generalize VY ks most [⟨10,[]⟩] (l.take i)=d at h2;rw[AP,Av,wrap64 (by omega) (by omega),show((l.length:Int)-1)=(i:Int) by omega];refine row B gW fun xv _ hx=>?_;obtain⟨q1,_⟩:=hI l[i] (gC B);have q2:=b6 l[i] (gC B);have c8:=N3 l[i].x;refine h2.step hT b3 hK hx (fun z E=>E.2) q1 (by omega) O (by omega) fun W1 bk ak bl al V=>?_;rw[Bm];refine AW (fun X=>?_) fun _=>kn ak;obtain⟨n1,n2,n3,n4⟩:=T6 hK q1 (by omega) X;refine AA (Zg bl (by omega)) ?_;rintro zv W2 ⟨E,ca⟩;have cc:G9 ks most d (CG l[i].x)=G9 ks most d l[i].x:=by
  unfold G9;rw[Io n1,Io X,n2]
 refine al ca E.reads (fun z cd e=>by have:=V z e;have:=cd.1;omega) n3 (by omega) cc fun W3 bn h3=>?_;rw[Al];refine AF (fun _=>?_) fun e=>(e n1).elim;have U:24+i*Gj+Gj<=1000000000:=by omega
 refine AA (L0 h3.x h3.m O U) ?_;rintro v5 W5 ⟨ch,g5⟩;have h5:=h3.grow g5;refine AA (L0 h5.y (by rw[h5.e];exact h5.m) O U) ?_;rintro v6 W6 ⟨cn,g6⟩;refine AA (RM (BE.grow ch.reads g6) cn.reads) ?_;rintro _ W7 ⟨rfl,g7⟩;rw[kj rfl];refine As ?_;have h7:=(h5.grow g6).grow g7;refine AA (KN h7.x U) ?_;rintro _ W8 ⟨rfl,g8⟩;have h8:=h7.grow g8;refine AA (KN h8.y U) ?_;rintro _ W9 ⟨rfl,g9⟩;rw[Al];exact AF (fun _=>kn (h8.x.g.trans g9)) fun e=>(e rfl).elim
section
open Go.ChangeShapes Go.Joins
variable {H:Type}{enc:TypeId×Value->H}{w:World}{base:Nat}{spare:Nat->Bool}{held:Bool}
theorem gM{l:List α}(h:l.length=4):∃a b c d,l=[a,b,c,d]:=by
 match l,h with|[a,b,c,d],_=>exact⟨a,b,c,d,rfl⟩
theorem aX{l:List α}(h:l.length=5):∃a b c d e,l=[a,b,c,d,e]:=by
 match l,h with|[a,b,c,d,e],_=>exact⟨a,b,c,d,e,rfl⟩
theorem dG{l:List α}(h:l.length=6):∃a b c d e f,l=[a,b,c,d,e,f]:=by
 match l,h with|[a,b,c,d,e,f],_=>exact⟨a,b,c,d,e,f,rfl⟩
theorem WM(l m:List (DataW H)):Rows.uptoBulkAll (l++m)=Rows.uptoBulkAll l+Rows.uptoBulkAll m:=by
 induction l with
 |nil=>simp[Rows.uptoBulkAll]
 |cons d l i=>simp only[WJ,Rows.uptoBulkAll,i];omega
theorem BB.HA{t e k:Nat}{R:World->List Value->α->Prop}{μ:α->Nat}{fuel:Nat}{x:DataW H×List MemPlace}(ht:prog.underlying t=some (.slice e))(hk:prog.cellsOf e=k)
 (O:∀n o y,DataW.trod enc prog w base spare held n e o=some y->∃x,R w o x/\μ x<=Rows.uptoBulk y.1)(h:DataW.trod enc prog w base spare held fuel t cs=some x) :
  ∃v l,cs=[v]/\BB (fun _=>True) k R w v l/\(l.map μ).sum+1<=Rows.uptoBulk x.1:=by
 rcases Go.Deep.open_slice ht h with⟨rfl,rfl⟩|⟨a,len,Q,m,n,D,Pl,rfl,hb,hl,hm,S,rfl,I⟩
 .exact⟨_,[],rfl,BB.nil,by simp[Rows.uptoBulk]⟩
 .have Z:len<=m:=by rw[S];split<;>omega
  have one:∀i,i<len->∃(o:List Value) (x:α),o.length=k/\(∀j u,o[j]?=some u->w.cell? (a.add (i*k+j))=some u)/\R w o x/\μ x<=Rows.uptoBulk (D i):=by
   intro i hi;obtain⟨o,h1,J⟩:=I i (by omega);obtain⟨x,T,U⟩:=O n o _ J;obtain⟨_,B,hc⟩:=World.cells?_some h1;rw[hk] at B hc;refine⟨o,x,B,fun j u hu=>?_,T,U⟩;have hj:j<k:=by rw[<-B];exact(Bp.1 hu).1
   have:=hc j hj;rw[Addr.add_add] at this;rw[this];exact hu
  have build:∀q,q<=len->∃l:List α,l.length=q/\(l.map μ).sum<=Rows.uptoBulkAll ((List.range q).map D)/\∀i x,l[i]?=some x->∃o:List Value,o.length=k/\(∀j u,o[j]?=some u->w.cell? (a.add (i*k+j))=some u)/\R w o x:=by
   intro q;induction q with
   |zero=>exact fun _=>⟨[],rfl,by simp[Rows.uptoBulkAll],fun i x h=>by simp at h⟩
   |succ q ih=>
    intro hq;obtain⟨l,h1,hs,J⟩:=ih (by omega);obtain⟨o,x,V,X,Y,h6⟩:=one q (by omega);refine⟨l++[x],by simp[h1],?_,fun i y E=>?_⟩
    .rw[List.range_succ,S7 (f:=D),WM];simp only[S7,my,kL,lM,lX,mL,Rows.uptoBulkAll];omega
    by_cases hi:i<q
    .rw[Q0 (by omega)] at E;exact J i y E
    .have:i=q:=by have:=(Bp.1 E).1;simp[h1] at this;omega
     subst this;rw[kH (by omega)] at E;simp[h1] at E;subst E;exact⟨o,V,X,Y⟩
  obtain⟨l,h1,hs,J⟩:=build len (Lc _);subst h1;refine⟨_,l,rfl,⟨a,Q,rfl,hl,hm,fun i x T=>?_⟩,?_⟩
  .obtain⟨o,V,X,Y⟩:=J i x T;exact⟨a,o,rfl,trivial,V,X,Y⟩
  .simp only[Rows.uptoBulk];omega
theorem Jj{n:Nat}{y:DataW H×List MemPlace}(h:DataW.trod enc prog w base spare held n 77 cs=some y):∃x:BK,cs=x.cells/\x.s.size+1<=Rows.uptoBulk y.1:=by
 have c2:prog.cellsOf 77=4:=by kernel_rfl
 have E:prog.cellsOf 5=1:=by kernel_rfl
 have I:prog.cellsOf 2=1:=by kernel_rfl
 have J:prog.cellsOf 75=1:=by kernel_rfl
 have O:prog.cellsOf 9=1:=by kernel_rfl
 obtain⟨z0,z1,z2,z3,m',rfl,hl,i,j,o,B⟩:=trod_struct4 underlying77 h;rw[c2] at hl;simp only[E,I,J,O] at i j o B;match cs,hl with
 |[a0,a1,a2,a3],_=>
  simp only[lh,mC,mX,lZ] at i j o B;obtain⟨Q,S,e0,_⟩:=lG underlying5 i;obtain⟨k1,T,U,_⟩:=lG underlying2 j;obtain⟨k2,V,X,_⟩:=lG underlying75 o;obtain⟨Y,Z,e3,_⟩:=DataW.trod_string underlying9 B;cases S;cases T;cases V;cases Z;subst e0;subst U;subst X;subst e3;refine⟨⟨Q,k1,k2,Y⟩,rfl,?_⟩;simp only[Rows.uptoBulk,Rows.uptoBulkAll,mO,ByteArray.size_data];omega
theorem NF{n:Nat}{y:DataW H×List MemPlace}(h:DataW.trod enc prog w base spare held n 79 cs=some y):∃x:Attr,DD w cs x/\K0 x<=Rows.uptoBulk y.1:=by
 have c0:prog.cellsOf 79=5:=by kernel_rfl
 have c1:prog.cellsOf 3=1:=by kernel_rfl
 have c2:prog.cellsOf 77=4:=by kernel_rfl
 obtain⟨j,o,m,rfl,hl,h0,h1⟩:=trod_struct2 underlying79 h;rw[c0] at hl;simp only[c1,c2] at h0 h1;match cs,hl with
 |[a0,B,E,a3,a4],_=>
  simp only[lh,mC,mX,lZ] at h0 h1;obtain⟨k,e0,_,_⟩:=lG underlying3 h0;obtain⟨v,i,I⟩:=Jj h1;cases e0;cases i;refine⟨⟨k,v⟩,rfl,?_⟩;simp only[K0,Rows.uptoBulk,Rows.uptoBulkAll];omega
theorem Ol{n:Nat}{y:DataW H×List MemPlace}(h:DataW.trod enc prog w base spare held n 133 cs=some y):∃x:Chg,Ep w cs x/\Ta x<=Rows.uptoBulk y.1:=by
 have c0:prog.cellsOf 133=6:=by kernel_rfl
 have c1:prog.cellsOf 3=1:=by kernel_rfl
 have c2:prog.cellsOf 77=4:=by kernel_rfl
 have B:prog.cellsOf 4=1:=by kernel_rfl
 obtain⟨xs,m,_,rfl,hl,i,j⟩:=nm underlying133 h;match xs,i with
 |[E,I,J],_=>
  have h0:DataW.trod enc prog w base spare held m 3 ((cs.drop 0).take (prog.cellsOf 3))=some E:=j 0 _ rfl;have h1:DataW.trod enc prog w base spare held m 4 ((cs.drop 1).take (prog.cellsOf 4))=some I:=j 1 _ rfl;have o:DataW.trod enc prog w base spare held m 77 ((cs.drop 2).take (prog.cellsOf 77))=some J:=j 2 _ rfl;rw[c0] at hl;rw[c1] at h0;rw[B] at h1;rw[c2] at o;obtain⟨a0,S,T,a3,a4,a5,rfl⟩:=dG hl
  .clear j;simp only[lh,mC,mX,lZ] at h0 h1 o;obtain⟨k,e0,_,_⟩:=lG underlying3 h0;obtain⟨b,O,_⟩:=pL underlying4 h1;obtain⟨v,Q,U⟩:=Jj o;cases e0;cases O;cases Q;refine⟨⟨k,b,v⟩,rfl,?_⟩;simp only[Ta,kL,lM,Rows.uptoBulk,Rows.uptoBulkAll];omega
theorem Mw{n:Nat}{y:DataW H×List MemPlace}(h:DataW.trod enc prog w base spare held n 21 cs=some y):∃x:Int,Bo w cs x/\1<=Rows.uptoBulk y.1:=by
 obtain⟨k,rfl,e,_⟩:=lG underlying21 h;subst e;exact⟨k,rfl,by simp[Rows.uptoBulk]⟩
theorem LR{n:Nat}{y:DataW H×List MemPlace}(h:DataW.trod enc prog w base spare held n 80 cs=some y):∃v l,cs=[v]/\KR (fun _=>True) w v l/\l.length+1<=Rows.uptoBulk y.1:=by
 obtain⟨v,l,e,h1,i⟩:=BB.HA (μ:=fun _:Int=>1) underlying80 (by kernel_rfl) (fun _ _ _ h=>Mw h) h;refine⟨v,l,e,h1,?_⟩;have:(l.map fun _=>1).sum=l.length:=by clear h1 i;induction l with|nil=>rfl|cons a l j=>simp only[kL,lX,Vn,j];omega
 omega
theorem OH{n:Nat}{y:DataW H×List MemPlace}(h:DataW.trod enc prog w base spare held n 65 cs=some y):∃x:DKey,G0 w cs x/\1<=Rows.uptoBulk y.1:=by
 have c0:prog.cellsOf 65=6:=by kernel_rfl
 have c1:prog.cellsOf 3=1:=by kernel_rfl
 have c2:prog.cellsOf 5=1:=by kernel_rfl
 have o:prog.cellsOf 4=1:=by kernel_rfl
 obtain⟨xs,m,_,rfl,hl,j,i⟩:=nm underlying65 h;match xs,j with
 |[O,Q,S,T,U,V],_=>
  have h0:DataW.trod enc prog w base spare held m 3 ((cs.drop 0).take (prog.cellsOf 3))=some O:=i 0 _ rfl;have h1:DataW.trod enc prog w base spare held m 4 ((cs.drop 1).take (prog.cellsOf 4))=some Q:=i 1 _ rfl;have B:DataW.trod enc prog w base spare held m 5 ((cs.drop 2).take (prog.cellsOf 5))=some S:=i 2 _ rfl;have E:DataW.trod enc prog w base spare held m 4 ((cs.drop 3).take (prog.cellsOf 4))=some T:=i 3 _ rfl;have I:DataW.trod enc prog w base spare held m 4 ((cs.drop 4).take (prog.cellsOf 4))=some U:=i 4 _ rfl;have J:DataW.trod enc prog w base spare held m 3 ((cs.drop 5).take (prog.cellsOf 3))=some V:=i 5 _ rfl;rw[c0] at hl;rw[c1] at h0;rw[o] at h1;rw[c2] at B;rw[o] at E;rw[o] at I;rw[c1] at J;obtain⟨a0,a1,a2,a3,a4,a5,rfl⟩:=dG hl
  .clear i;simp only[lh,mC,mX,lZ] at h0 h1 B E I J;obtain⟨X,e0,_,_⟩:=lG underlying3 h0;obtain⟨k1,Y,_⟩:=pL underlying4 h1;obtain⟨k2,Z,_,_⟩:=lG underlying5 B;obtain⟨k3,e3,_⟩:=pL underlying4 E;obtain⟨k4,e4,_⟩:=pL underlying4 I;obtain⟨k5,e5,_,_⟩:=lG underlying3 J;cases e0;cases Y;cases Z;cases e3;cases e4;cases e5;refine⟨⟨X,k1,k2,k3,k4,k5⟩,rfl,?_⟩;simp only[Rows.uptoBulk];omega
theorem NK{n:Nat}{y:DataW H×List MemPlace}(h:DataW.trod enc prog w base spare held n 22 cs=some y):∃v l,cs=[v]/\NS (fun _=>True) w v l/\l.length+1<=Rows.uptoBulk y.1:=by
 obtain⟨v,l,e,h1,i⟩:=BB.HA (μ:=fun _:DKey=>1) underlying22 (by kernel_rfl) (fun _ _ _ h=>OH h) h;refine⟨v,l,e,h1,?_⟩;have:(l.map fun _=>1).sum=l.length:=by clear h1 i;induction l with|nil=>rfl|cons a l j=>simp only[kL,lX,Vn,j];omega
 omega
end
section
open Go.ChangeShapes Go.Joins
variable {H:Type}{enc:TypeId×Value->H}{w:World}{base:Nat}{spare:Nat->Bool}{held:Bool}
theorem OD{n:Nat}{y:DataW H×List MemPlace}(h:DataW.trod enc prog w base spare held n 22 cs=some y):∃v l,cs=[v]/\NS (fun _=>True) w v l:=by
 obtain⟨v,l,e,h1,_⟩:=NK h;exact⟨v,l,e,h1⟩
end
section
open Go.ChangeShapes Go.WideShapes Go.ChangeAt Go.RowKit Go.Joins
def VX : List (String × DataW Unit) := [("unicode/utf8.acceptRanges", Rows.laid_unicode_utf8_acceptRanges), ("unicode/utf8.first", Rows.laid_unicode_utf8_first)]
theorem Tf:Rows.laid_unicode_utf8_first=Lib.tabData .u8 (Pinned.utf8FirstZ.map Int.ofNat):=by kernel_rfl
theorem Vt:(List.range 256).all (fun j=>decide (128<=j->(Pinned.utf8FirstZ.map Int.ofNat)[j]?=some (firstT j)))=true:=by decide +kernel
theorem YS:Rows.laid_unicode_utf8_acceptRanges (H:=Unit)=.agg ((List.range 16).map fun i=>.agg ([accLo i,accHi i].map fun z=>.lit (.int .u8 z))):=by kernel_rfl
theorem OV(h:laidMetH prog VX W):E2 W:=by
 rw[ph _ _ _ (by kernel_rfl)] at h;have Y:=Lib.laidMet.reads h (.head _);have Z:=Lib.laidMet.reads h (.tail _ (.head _));have hf:∀j:Nat,128<=j->j<256->W.cell? ⟨1,j,none⟩=some (.int .u8 (firstT j)):=by
  intro j T U;obtain⟨g,t,cs,fuel,p,J,I,o,O⟩:=Z
  obtain rfl := kK ((show Tryz.prog.globalNamed "unicode/utf8.first" = some 1 by kernel_rfl).symm.trans J)
  obtain rfl:=kK ((show(prog.globals[1]?).map (·.type)=some 381 by kernel_rfl).symm.trans I);rw[Tf] at O;have B:=Lib.cells_of_tab underlying381 underlying5 (by kernel_rfl) (by kernel_rfl) O;have:=qJ J o j;rw[this,<-lJ,B];have ha:=kU.1 Vt j (ly.2 U);rw[S6] at ha;rw[kr,ha T];rfl
 have Q:∀j:Nat,j<16->W.cell? ⟨2,j*2,none⟩=some (.int .u8 (accLo j))/\W.cell? ⟨2,j*2+1,none⟩=some (.int .u8 (accHi j)):=by
  intro i hi;obtain⟨g,t,cs,fuel,p,J,I,o,O⟩:=Y
  obtain rfl := kK ((show Tryz.prog.globalNamed "unicode/utf8.acceptRanges" = some 2 by kernel_rfl).symm.trans J)
  obtain rfl:=kK ((show(prog.globals[2]?).map (·.type)=some 384 by kernel_rfl).symm.trans I);rw[YS] at O;obtain⟨V,d,q,S,he⟩:=Lib.array_elem underlying384 O i hi;simp only[kr,List.getElem?_range hi,mF,i6] at S;subst S;have c2:prog.cellsOf 383=2:=by kernel_rfl
  rw [c2] at he;have B:=Lib.ints_of_struct underlying383 (fun j f E=>by
   match j,E with
   |0,E=>simp at E;subst E;exact⟨underlying5,rfl,by kernel_rfl⟩
   |1,E=>simp at E;subst E;exact⟨underlying5,rfl,by kernel_rfl⟩
   | j+2,E=>simp at E) (by rw [c2];rfl) he
  have e0:=kM (·[0]?) B;have X:=kM (·[1]?) B;simp at e0 X;have w0:=qJ J o (i*2);have w1:=qJ J o (i*2+1);rw[w0,w1,<-lJ,<-lJ];exact⟨by simpa using e0,by simpa using X⟩
 have:=kT W _ (Q 0 (by decide)).1;exact⟨this,hf,Q⟩
noncomputable def NV(os:Os):World:=
 let w0:=World.holding prog os ⟨#[],#[],[]⟩
 let put (h:Array Obj) (g:Nat) (cs:Array Value):Array Obj:=h.modify g fun
  |.cells _ t frozen=>.cells cs t frozen
  |o=>o
 let h1:=put w0.heap 1 (Pinned.utf8FirstZ.map fun(z:Nat)=>Value.int .u8 (Int.ofNat z)).toArray
 let j:=put h1 2 ((List.range 16).flatMap fun i=>[Value.int .u8 (accLo i),Value.int .u8 (accHi i)]).toArray
 { w0 with heap:=j }
theorem Mr(os:Os)(args:Array Value):laidMetH prog VX ((NV os).forCall (fun _ _=>0) ⟨#[],args,[]⟩).memory:=by
 rw[ph _ _ _ (by kernel_rfl)];exact(LaidIn.of_run (l:=VX) [2,1] 8 (by kernel_rfl) (by kernel_rfl) (by kernel_rfl) (by kernel_rfl)).met
def jP(v:BK):Prop:=(0<=v.kind/\v.kind<256)/\(-9223372036854775808<=v.n/\v.n<=9223372036854775807)/\(0<=v.f/\v.f<18446744073709551616)/\v.s.size<18446744073709551616
variable {H:Type}{enc:TypeId×Value->H}{w:World}{base:Nat}{spare:Nat->Bool}{held:Bool}
theorem H7{k:IntKind}{n:Int}(h:(Lit.int k n).wf=true):k.min<=n/\n<=k.max:=by
 simpa[Lit.wf] using h
theorem Jd{n:Nat}{y:DataW H×List MemPlace}(h:DataW.trod enc prog w base spare held n 77 cs=some y):∃x:BK,cs=x.cells/\jP x:=by
 have c2:prog.cellsOf 77=4:=by kernel_rfl
 have V:prog.cellsOf 5=1:=by kernel_rfl
 have X:prog.cellsOf 2=1:=by kernel_rfl
 have Y:prog.cellsOf 75=1:=by kernel_rfl
 have Z:prog.cellsOf 9=1:=by kernel_rfl
 obtain⟨z0,z1,z2,z3,m',_,hl,i,j,o,B⟩:=trod_struct4 underlying77 h;rw[c2] at hl;simp only[V,X,Y,Z] at i j o B;match cs,hl with
 |[a1,a2,a3,a4],_=>
  simp only[lh,mC,mX,lZ] at i j o B;obtain⟨I,f0,_,w0⟩:=lG underlying5 i;obtain⟨k1,f1,_,w1⟩:=lG underlying2 j;obtain⟨k2,f2,_,w2⟩:=lG underlying75 o;obtain⟨E,f3,_,J⟩:=DataW.trod_string underlying9 B;cases f0;cases f1;cases f2;cases f3;refine⟨⟨I,k1,k2,E⟩,rfl,?_⟩;have O:=H7 w0;have r1:=H7 w1;have Q:=H7 w2;have S:IntKind.u8.min=0/\IntKind.u8.max=255:=by decide
  have T:IntKind.i64.min=-9223372036854775808/\IntKind.i64.max=9223372036854775807:=by decide
  have U:IntKind.u64.min=0/\IntKind.u64.max=18446744073709551615:=by decide
  rw[S.1,S.2] at O;rw[T.1,T.2] at r1;rw[U.1,U.2] at Q;have r3:E.size<=9223372036854775807:=by
   simp only[Lit.wf,maxLen] at J;simpa using J
  exact⟨⟨O.1,show I<256 by omega⟩,r1,⟨Q.1,show k2<18446744073709551616 by omega⟩,show E.size<18446744073709551616 by omega⟩
end
theorem BB.strip{k:Nat}{R:World->List Value->α->Prop}{P:α->Prop}{l:List α}(h:BB S k (fun w r x=>R w r x/\P x) w v l):BB S k R w v l/\∀x∈l,P x:=by
 obtain⟨a,c,e,h1,E,B⟩:=h;refine⟨⟨a,c,e,h1,E,fun i x j=>?_⟩,fun x j=>?_⟩
 .obtain⟨p,r,I,J,O,Q,o⟩:=B i x j;exact⟨p,r,I,J,O,Q,o.1⟩
 .obtain⟨i,hi⟩:=lY.1 j;obtain⟨_,_,_,_,_,_,o⟩:=B i x hi;exact o.2
section
open Go.ChangeShapes Go.WideShapes Go.ChangeAt Go.RowKit Go.Joins
variable {H:Type}{enc:TypeId×Value->H}{w:World}{base:Nat}{spare:Nat->Bool}{held:Bool}
theorem Mz{n:Nat}{y:DataW H×List MemPlace}(h:DataW.trod enc prog w base spare held n 79 cs=some y):∃x:Attr,cs=x.cells/\Mk x:=by
 have c0:prog.cellsOf 79=5:=by kernel_rfl
 have c1:prog.cellsOf 3=1:=by kernel_rfl
 have c2:prog.cellsOf 77=4:=by kernel_rfl
 obtain⟨B,E,m,_,hl,h0,h1⟩:=trod_struct2 underlying79 h;rw[c0] at hl;simp only[c1,c2] at h0 h1;match cs,hl with
 |[a0,I,J,a3,a4],_=>
  simp only[lh,mC,mX,lZ] at h0 h1;obtain⟨k,e0,_,w0⟩:=lG underlying3 h0;obtain⟨x,ex,o⟩:=Jd h1;cases e0;have i:=H7 w0;have j:IntKind.i64.min=-9223372036854775808/\IntKind.i64.max=9223372036854775807:=by decide
  rw[j.1,j.2] at i;refine⟨⟨k,x⟩,?_,i,o⟩;show _=Value.int .i64 k::x.cells;rw[<-ex]
end
section
open Go.ChangeShapes Go.WideShapes Go.ChangeAt Go.RowKit Go.Joins
variable {H:Type}{enc:TypeId×Value->H}{w:World}{base:Nat}{spare:Nat->Bool}{held:Bool}
theorem TJ{x y:Attr}(h:x.cells=y.cells):x=y:=by
 obtain⟨k,v,n,f,s⟩:=x;obtain⟨i,v',j,o,B⟩:=y;simp only[Attr.cells,BK.cells,mE,Value.int.injEq,oO,ob,p4] at h;obtain⟨rfl,rfl,rfl,rfl,rfl⟩:=h;rfl
theorem val_inj{x y:BK}(h:x.cells=y.cells):x=y:=by
 obtain⟨v,n,f,s⟩:=x;obtain⟨v',i,j,o⟩:=y;simp only[BK.cells,mE,Value.int.injEq,oO,ob,p4] at h;obtain⟨rfl,rfl,rfl,rfl⟩:=h;rfl
theorem Zb{μ:α->Nat}{l:List α}{a:α}(h:a∈l):μ a<=(l.map μ).sum:=by
 induction l with
 |nil=>cases h
 |cons b l i=>
  simp only[kL,lX];rcases I3.1 h with rfl|h
  .omega
  .have:=i h;omega
end
section
open Go.ChangeShapes Go.WideShapes Go.ChangeAt Go.RowKit Go.Joins
variable {H:Type}{enc:TypeId×Value->H}{w:World}{base:Nat}{spare:Nat->Bool}{held:Bool}
theorem NA{n:Nat}{y:DataW H×List MemPlace}(h:DataW.trod enc prog w base spare held n 79 cs=some y):∃x:Attr,(DD w cs x/\(x.key<=9223372036854775807/\Il x.val))/\K0 x<=Rows.uptoBulk y.1:=by
 obtain⟨x,e,i⟩:=Mz h;obtain⟨x',e',hm⟩:=NF h;have j:cs=x'.cells:=e';have:x=x':=TJ (e.symm.trans j);subst this;exact⟨x,⟨e,i.1.2,⟨i.2.2.1,i.2.2.2.1⟩⟩,hm⟩
theorem OL{n:Nat}{y:DataW H×List MemPlace}(h:DataW.trod enc prog w base spare held n 133 cs=some y):∃x:Chg,(Ep w cs x/\(x.key<=9223372036854775807/\Il x.val))/\Ta x<=Rows.uptoBulk y.1:=by
 have c2:prog.cellsOf 77=4:=by kernel_rfl
 obtain⟨x,e,hm⟩:=Ol h;obtain⟨xs,m,_,_,hl,i,j⟩:=nm underlying133 h;match xs,i with
 |[E,S,I],_=>
  have o:DataW.trod enc prog w base spare held m 77 ((cs.drop 2).take (prog.cellsOf 77))=some I:=j 2 _ rfl;rw[c2] at o;obtain⟨v,ev,B⟩:=Jd o;have e':cs=x.cells:=e;subst e';have:v=x.val:=val_inj (ev.symm.trans (by rfl));subst this;have c1:prog.cellsOf 3=1:=by kernel_rfl
  have h0:DataW.trod enc prog w base spare held m 3 ((x.cells.drop 0).take (prog.cellsOf 3))=some E:=j 0 _ rfl;rw[c1] at h0;obtain⟨k,J,_,O⟩:=lG underlying3 h0;have hk:x.key=k:=by
   have:[Value.int .i64 x.key]=[.int .i64 k]:=J;simpa using this
  have hr:=(H7 O).2;have Q:IntKind.i64.max=9223372036854775807:=by decide
  rw[Q] at hr;exact⟨x,⟨rfl,by omega,⟨B.2.1,B.2.2.1⟩⟩,hm⟩
theorem Ov{n:Nat}{y:DataW H×List MemPlace}(h:DataW.trod enc prog w base spare held n 43 cs=some y):∃v l,cs=[v]/\(Cf (fun _=>True) w v l/\∀a∈l,a.key<=9223372036854775807/\Il a.val)/\GX l+1<=Rows.uptoBulk y.1:=by
 obtain⟨v,l,e,hl,hm⟩:=BB.HA (k:=5) (μ:=K0) (R:=fun(w:World) r (x:Attr)=>DD w r x/\(x.key<=9223372036854775807/\Il x.val)) underlying43 (by kernel_rfl) (fun _ _ _ h=>NA h) h;exact⟨v,l,e,hl.strip,hm⟩
theorem OQ{n:Nat}{y:DataW H×List MemPlace}(h:DataW.trod enc prog w base spare held n 81 cs=some y):∃v l,cs=[v]/\(FY (fun _=>True) w v l/\∀a∈l,a.key<=9223372036854775807/\Il a.val)/\KJ l+1<=Rows.uptoBulk y.1:=by
 obtain⟨v,l,e,hl,hm⟩:=BB.HA (k:=6) (μ:=Ta) (R:=fun(w:World) r (x:Chg)=>Ep w r x/\(x.key<=9223372036854775807/\Il x.val)) underlying81 (by kernel_rfl) (fun _ _ _ h=>OL h) h;exact⟨v,l,e,hl.strip,hm⟩
set_option maxRecDepth 20000 in
theorem OP{n:Nat}{y:DataW H×List MemPlace}(h:DataW.trod enc prog w base spare held n 83 cs=some y):∃x:Dop,(Ca (fun _=>True) w cs x/\Ml x)/\DR x<=Rows.uptoBulk y.1:=by
 have c0:prog.cellsOf 83=5:=by kernel_rfl
 have c1:prog.cellsOf 3=1:=by kernel_rfl
 have c2:prog.cellsOf 5=1:=by kernel_rfl
 have J:prog.cellsOf 80=1:=by kernel_rfl
 have O:prog.cellsOf 43=1:=by kernel_rfl
 have Q:prog.cellsOf 81=1:=by kernel_rfl
 obtain⟨xs,m,_,rfl,hl,j,i⟩:=nm underlying83 h;match xs,j with
 |[S,T,U,V,X],_=>
  have h0:DataW.trod enc prog w base spare held m 5 ((cs.drop 0).take (prog.cellsOf 5))=some S:=i 0 _ rfl;have h1:DataW.trod enc prog w base spare held m 3 ((cs.drop 1).take (prog.cellsOf 3))=some T:=i 1 _ rfl;have o:DataW.trod enc prog w base spare held m 80 ((cs.drop 2).take (prog.cellsOf 80))=some U:=i 2 _ rfl;have B:DataW.trod enc prog w base spare held m 43 ((cs.drop 3).take (prog.cellsOf 43))=some V:=i 3 _ rfl;have E:DataW.trod enc prog w base spare held m 81 ((cs.drop 4).take (prog.cellsOf 81))=some X:=i 4 _ rfl;rw[c0] at hl;rw[c2] at h0;rw[c1] at h1;rw[J] at o;rw[O] at B;rw[Q] at E;obtain⟨a0,a1,Y,a3,a4,rfl⟩:=aX hl
  .clear i;simp only[lh,mC,mX,lZ] at h0 h1 o B E;obtain⟨k,e0,_,_⟩:=lG underlying5 h0;obtain⟨n,Z,_,_⟩:=lG underlying3 h1;obtain⟨rv,rl,e2,hr,b2⟩:=LR o;obtain⟨sv,sl,e3,⟨hs,i3⟩,b3⟩:=Ov B;obtain⟨pv,I,e4,⟨hp,i4⟩,b4⟩:=OQ E;cases e0;cases Z;cases e2;cases e3;cases e4;refine⟨⟨k,n,rl,sl,I⟩,⟨⟨Y,a3,a4,rfl,hr,hs,hp⟩,i3,i4⟩,?_⟩;simp only[DR,kL,lM,Rows.uptoBulk,Rows.uptoBulkAll];omega
theorem NB{n:Nat}{y:DataW H×List MemPlace}(h:DataW.trod enc prog w base spare held n 34 cs=some y):∃v l,cs=[v]/\(BE (fun _=>True) (fun _=>True) w v l/\∀o∈l,Ml o)/\Aw l+1<=Rows.uptoBulk y.1:=by
 obtain⟨v,l,e,hl,hm⟩:=BB.HA (k:=5) (μ:=DR) (R:=fun(w:World) r (x:Dop)=>Ca (fun _=>True) w r x/\Ml x) underlying34 (by kernel_rfl) (fun _ _ _ h=>OP h) h;exact⟨v,l,e,hl.strip,hm⟩
end
section
open Go.ChangeShapes Go.WideShapes Go.ChangeAt Go.RowKit Go.Joins
variable {H:Type}{enc:TypeId×Value->H}{w:World}{base:Nat}{spare:Nat->Bool}{held:Bool}
set_option maxRecDepth 20000 in
theorem OM{n:Nat}{y:DataW H×List MemPlace}(h:DataW.trod enc prog w base spare held n 36 cs=some y):∃x:To,(TX (fun _=>True) w cs x/\∀o∈x.x,Ml o)/\Aw x.x<=Rows.uptoBulk y.1:=by
 have c0:prog.cellsOf 36=3:=by kernel_rfl
 have c1:prog.cellsOf 3=1:=by kernel_rfl
 have c2:prog.cellsOf 34=1:=by kernel_rfl
 obtain⟨xs,m,_,rfl,hl,i,j⟩:=nm underlying36 h;match xs,i with
 |[E,I,J],_=>
  have h0:DataW.trod enc prog w base spare held m 34 ((cs.drop 0).take (prog.cellsOf 34))=some E:=j 0 _ rfl;have h1:DataW.trod enc prog w base spare held m 3 ((cs.drop 1).take (prog.cellsOf 3))=some I:=j 1 _ rfl;have B:DataW.trod enc prog w base spare held m 3 ((cs.drop 2).take (prog.cellsOf 3))=some J:=j 2 _ rfl;rw[c0] at hl;rw[c2] at h0;rw[c1] at h1 B;match cs,hl with
  |[a0,V,X],_=>
   clear j;simp only[lh,mC,mX,lZ] at h0 h1 B;obtain⟨v1,l1,O,⟨Q,S⟩,Y⟩:=NB h0;obtain⟨k1,T,_,_⟩:=lG underlying3 h1;obtain⟨k2,U,_,_⟩:=lG underlying3 B;cases O;cases T;cases U;refine⟨⟨l1,k1,k2⟩,⟨⟨_,rfl,Q⟩,S⟩,?_⟩;simp only[kL,lM,Rows.uptoBulk,Rows.uptoBulkAll];omega
theorem Mu{n:Nat}{y:DataW H×List MemPlace}(h:DataW.trod enc prog w base spare held n 23 cs=some y):∃v l,cs=[v]/\Jt (fun _=>True) w v l/\∀s∈l,(∀o∈s.x,Ml o)/\Aw s.x<=Rows.uptoBulk y.1:=by
 obtain⟨v,l,e,hl,hm⟩:=BB.HA (k:=3) (μ:=fun x:To=>Aw x.x) (R:=fun(w:World) r (x:To)=>TX (fun _=>True) w r x/\∀o∈x.x,Ml o) underlying23 (by kernel_rfl) (fun _ _ _ h=>OM h) h;obtain⟨h1,j⟩:=hl.strip;refine⟨v,l,e,h1,fun x i=>⟨j x i,?_⟩⟩;have:=Zb (μ:=fun x:To=>Aw x.x) i;omega
end
section
open Go.ChangeShapes Go.WideShapes Go.ChangeAt Go.RowKit
set_option linter.unusedVariables false
theorem iX:ownKnob prog.godebug=none:=by kernel_rfl
theorem laidOut:laidOutB prog=true:=by kernel_rfl
set_option maxRecDepth 100000 in
theorem Jf(os:Os)(o:os.Started)(H:Type)(enc:TypeId×Value->H)(F0:Stop.Interp) :
  ReturnsInHanded {} Tryz.checked os 6 .any ((Rows.OpenSpec.upto Rows.textNormalSpec).preRow enc prog Tryz.f6 [] false Rows.textNormalUptoRow.laid) (((Rows.OpenSpec.upto Rows.textNormalSpec).at F0).post enc prog Tryz.f6 false true false false):=by
 refine returnsInHanded_of_row (C:=Tryz.checked) (s:=(Rows.OpenSpec.upto Rows.textNormalSpec)) iX o (by kernel_rfl) func6
  (witness_row_at (enc:=enc) (C:=Tryz.checked) (s:=(Rows.OpenSpec.upto Rows.textNormalSpec)) false (NV os) #[.slice none 0 0,.int .i64 0,.slice none 0 0] rfl (by kernel_rfl) (by kernel_rfl) (by kernel_rfl)
   ⟨⟨(OpenSpec.pre_some (k:=Rows.uptoSmall) rfl [] false _ _).2 ⟨_,_,_,DataW.Whole_of_whole (fuel:=8) (x:=([.nil,.lit (.int .i64 0),.nil],[],[])) (by kernel_rfl),by kernel_rfl,by kernel_rfl⟩,Mr os _⟩,sizedMet_of_sizedB (fuel:=8) (by kernel_rfl)⟩) ?_
 intro W base args ds gs before B hW _ O _ hL _ _;have Q:=hW;obtain⟨p,q,I,hV,rfl,a6,a7⟩:=hW;have hA:DataW.TrodAll enc prog W 0 (fun _=>true) true Tryz.f6.params.toList args.toList ds p:=I;have i:∀(j:Nat) t v,Tryz.f6.params[j]?=some t->args[j]?=some v->Value.okWide prog W .any base t v:=B;rw[Tryz.params6] at hA i;have J:E2 W:=OV hL;obtain⟨v0,a8,d0,ak,p0,q0,S,rfl,rfl,h0,r0⟩:=trodAll_cons hA;obtain⟨v1,al,d1,an,p1,q1,rfl,rfl,rfl,h1,r1⟩:=trodAll_cons r0;obtain⟨v2,av,d2,ax,p2,q2,rfl,rfl,rfl,T,r2⟩:=trodAll_cons r1;obtain⟨rfl,rfl,rfl⟩:=trodAll_nil r2;obtain rfl:args=#[v0,v1,v2]:=by cases args;simp_all
 obtain⟨rfl,rfl⟩:=trodVars_none hV;have hk:=om (O _ rfl);simp only[kG,Rows.uptoBulkAll] at hk;have U:∀x∈p0,x.block<W.heap.size:=by obtain⟨m,hm⟩:=h0;exact DataW.trod_lt m _ _ _ hm
 obtain⟨V,X⟩:=id h0;obtain⟨u0,l0,e0,s0⟩:=OD X;try dsimp only at s0
 obtain⟨a0,n0,c0,rfl⟩:=okWide_slice underlying22 (i 0 22 v0 rfl rfl);simp only[Value.cells,mE,p4] at e0;subst e0;obtain⟨x1,rfl,rfl,rfl,w1⟩:=open_int underlying3 (i 1 3 v1 rfl rfl) h1;have Y:∀x∈p2,x.block<W.heap.size:=by obtain⟨m,hm⟩:=T;exact DataW.trod_lt m _ _ _ hm
 obtain⟨Z,a1⟩:=id T;obtain⟨u2,l2,e2,s2⟩:=Mu a1;try dsimp only at s2
 obtain⟨a2,n2,c2,rfl⟩:=okWide_slice underlying23 (i 2 23 v2 rfl rfl);simp only[Value.cells,mE,p4] at e2;subst e2;clear I B;refine((NM s0 s2.1 J (fun s hs=>⟨(s2.2 s hs).1,k8 (s2.2 s hs).2 (by omega)⟩))).mono fun e W' ⟨v,he,hv,hg⟩=>?_;subst he;subst hv;have E:Below W.heap.size W W':=Mod.below hg (Lc _) fun _ h=>h.elim;exact⟨_,rfl,_,_,_,[],_,[],Q,trodAll_mk1 (shut_bool underlying4 _),(qK (Below.trod laidOut (by kernel_rfl) (om (by kernel_rfl)) h0 E U) (qK (shut_int underlying3 w1) (qK (Below.trod laidOut (by kernel_rfl) (om (by kernel_rfl)) T E Y) trodAll_mk0))),rfl,E.frame _,fun h=>by cases h⟩
theorem gv{a0 a1 a2 a3 a4 a5 a6 a7 a8 a9 i j o B E I J O Q S T U a22 V X a25 Y Z ak al an av:Bool}(h0:a0=true)(h1:a1=true)(h2:a2=true)(h3:a3=true)(h4:a4=true)(h5:a5=true)(h6:a6=true)(h7:a7=true)(h8:a8=true)(h9:a9=true)(ax:i=true)(ay:j=true)(b0:o=true)(b3:B=true)(b4:E=true)(b5:I=true)(b6:J=true)(b7:O=true)(b8:Q=true)(b9:S=true)(ba:T=true)(bb:U=true)(bc:a22=true)(bd:V=true)(bk:X=true)(bl:a25=true)(bn:Y=true)(bp:Z=true)(bs:ak=true)(bx:al=true)(c4:an=true)(c6:av=true):(((((((((((((((((((((((((((((((a0&&a1)&&a2)&&a3)&&a4)&&a5)&&a6)&&a7)&&a8)&&a9)&&i)&&j)&&o)&&B)&&E)&&I)&&J)&&O)&&Q)&&S)&&T)&&U)&&a22)&&V)&&X)&&a25)&&Y)&&Z)&&ak)&&al)&&an)&&av)=true:=by simp only[h0,h1,h2,h3,h4,h5,h6,h7,h8,h9,ax,ay,b0,b3,b4,b5,b6,b7,b8,b9,ba,bb,bc,bd,bk,bl,bn,bp,bs,bx,c4,c6];rfl
set_option maxHeartbeats 0 in
theorem Jm:joinedFacts prog 6 Tryz.f6 (Rows.OpenSpec.upto Rows.textNormalSpec).bare Rows.textNormalUptoRow=true:=by
 unfold joinedFacts;refine gv ?_ ?_ ?_ ?_ ?_ ?_ ?_ ?_ ?_ ?_ ?_ ?_ ?_ ?_ ?_ ?_ ?_ ?_ ?_ ?_ ?_ ?_ ?_ ?_ ?_ ?_ ?_ ?_ ?_ ?_ ?_ ?_ ;all_goals (as_aux_lemma=>kernel_rfl)
theorem K2:Rows.TextNormalUptoSaid:=
 OpenClaim.holds_of_cond 6 Tryz.f6 rfl rfl rfl rfl rfl rfl rfl ⟨rfl,rfl,rfl,rfl,rfl⟩ rfl rfl rfl rfl rfl (by kernel_rfl) func6 Jm
  (om (by kernel_rfl)) (by unfold Func.isWrapper;first|(rw[Io (by decide +kernel)];kernel_rfl)|(rw[C3 (by decide +kernel)];exact⟨rfl,rfl⟩))
  (fun os i H enc _ j=>Jf os i H enc j)
theorem TextNormalUpto_proved:Rows.TextNormalUptoCardSaid:=
 Claim7.holds_tied_plain_at .later [] [.data,.pinned] true Rows.textNormalUptoCard.stood.harness false
  K2 (fun _ h=>by cases h) (by kernel_rfl) (fun _ h=>by cases h) textNormalUpto_row_tie rfl ⟨rfl,rfl⟩ (by kernel_rfl) rfl
  (fun f fn B o=>by
   obtain rfl : f = 6 := kK ((show Tryz.prog.funcNamed "rubric/rubriclaw25.TextNormal" = some 6 by kernel_rfl).symm.trans B) |>.symm
   obtain rfl:fn=Tryz.f6:=(kK (func6.symm.trans o)).symm;exact ⟨by kernel_rfl,fun j t ht=>by
    rw[Tryz.params6] at ht;have hm:t∈[22,3,23]:=by simpa using qM ht
    have i:([22,3,23].all fun u=>!prog.wantsStandIn u)=true:=by kernel_rfl
    exact (show prog.wantsStandIn t=false by simpa using kU.1 i t hm)⟩)
  (by kernel_rfl)
#print axioms TextNormalUpto_proved
end
end Go.Proofs.YtmdhibffnkhcnaaGreatDoor
