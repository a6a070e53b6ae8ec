/- TopMerges (Upto) is proved as stated. No conditions. -/
import Derived.Test.YtlmjclmngedmkaaGreatDoorZZZ5
import Derived.Test.YtlmjclmngedmkaaGreatDoorRows
import Derived.Test.YtlmjclmngedmkaaGreatDoorTie
import Derived.Test.YtlmjclmngedmkaaGreatDoorCards
set_option linter.all false
set_option maxRecDepth 100000
namespace Go.Proofs.YtlmjclmngedmkaaGreatDoor
open Go Proofs.Tryz
variable {j N:Nat}{w W W':e_}{S F M S':f_}{v xv:d_}{most A:Int}{cs vs:V_}{α:Type}{ks:Y'}{K:Cont}{d:Y_}{q:Z_}{σ:SKs}
section
variable {ks:Y'}{f:Bool}{n:Int}
theorem aC(s:W_)(q:Z_){y:V'}:∀(k:Nat) {p:Int},Bt n (p+k) y->p+k<=n->(1<=k->p+k≠n)->Bt n p (List.replicate k ⟨3,1,[],s,q⟩++y):=by
 intro k;induction k with
 |zero=>intro p h _ _;simpa using h
 |succ k i=>
  intro p h j o;rw[wB,No,Bt,Bp (c:=(3:Int)=2) B_,Cx rfl];refine⟨by show p+1≠n;omega,i (p:=p+1) ?_ E E⟩;rw[(E:p+1+(k:Int)=p+((k+1:Nat):Int))];exact h
theorem Z0(s:W_)(q:Z_){y:V'}:∀(k:Nat) {p:Int},Bt n (p+k) y->Bt n p (List.replicate k ⟨1,1,[],s,q⟩++y):=by
 intro k;induction k with
 |zero=>intro p h;simpa using h
 |succ k i=>
  intro p h;rw[wB,No,Bt,Bp (c:=(1:Int)=2) B_,Bp (c:=(1:Int)=3) B_];apply i (p:=p+1);rw[(E:p+1+(k:Int)=p+((k+1:Nat):Int))];exact h
theorem bo(s:W_)(q:Z_){y:V'}{p:Int}(hp:p≠n)(h:Bt n p y):∀(rs:X_),Bt n p (rs.map (λr=>(⟨2,0,[r],s,q⟩:Dop))++y):=by
 intro rs;induction rs with
 |nil=>exact h
 |cons r rs i=>rw[S4,No,Bt,Cx rfl];exact⟨hp,i⟩
theorem Xi:∀{x:V'} {p:Int},(∀o∈x,Oh o)->p+Ah x<=n->Bt n p x->Bt n p (Bi x):=by
 intro x;induction x with
 |nil=>intro p _ _ h;exact h
 |cons o x j=>
  intro p h ht i;have O:=h o D_;have B:∀y∈x,Oh y:=λy U=>h y (by simp[U]);have Q:=O.Ct;rw[Fv];rw[Bt] at i;rw[Ah] at ht;by_cases k2:o.kind=2;rw[Cx k2] at i ht;have e:CH o=o.AY.map λr=>⟨2,0,[r],o.set,o.patch⟩:=by unfold CH;rw[Cx k2]
  rw[e];exact bo _ _ i.1 (j B E i.2) _;rw[Bp k2] at i ht;have I:(Ao o:Int)=o.n:=by unfold Ao at *;rw[Bp k2] at *;omega
  have V:Ao o=o.n.toNat:=by unfold Ao;rw[Bp k2]
  rw[Kg k2];by_cases J:o.kind=3;rw[Cx J] at i;rw[J];refine aC _ _ _ (by rw[I];exact j B E i.2) E λ_=>by rw[I];exact i.1
  rw[Bp J] at i;have k1:o.kind=1:=by rcases O.k with h|h|h<;>simp_all
  rw[k1];exact Z0 _ _ _ (by rw[I];exact j B E i)
theorem Xg{o u:Dop}(h:Cr ks o)(hu:u∈CH o):Cr ks u:=by
 obtain⟨k1,k2,I⟩:=HZ hu;intro hk j hp;have i:o.kind=2:=by rw[<-k1];exact hk
 rw[k2] at j hp ⊢;unfold CH at hu;rw[Cx i] at hu;obtain⟨r,hr,rfl⟩:=i7.1 hu;have h1:Bj [r]=if r=10 then 1 else 0:=by by_cases e:r=10<;>simp[Bj,e]
 have hc:r=10->0<Bj o.AY:=λe=>by rw[e] at hr;exact List.count_pos_iff.2 hr
 have B:=h i j (by
  rcases hp with hp | hp;exact .inl hp;right;simp [h1] at hp;split at hp;rename_i e;exact hc e;omega)
 refine⟨B.1,?_⟩;show Bj [r]=1;rw[h1,Cx];have:=(List.count_eq_length.1 B.2 r hr);omega
theorem Nc{p q:Z_}(h:Ei ks p):Ei ks (KH p q):=
 ⟨h.1.filter _,vx (xT _ _) h.2.1,λc hc=>h.2.2 c ((wO.1 hc).1)⟩
theorem cm:∀(j:Nat) {a b:V'} {z:Dop},a.length+b.length<=j->(∀o∈b,o.kind=1->Ei ks o.patch)->(∀o∈b,One o)->z∈Cz f a b->z∈b\/z=Ic\/∃p,z=KT p/\Ei ks p/\∀c∈p,∃o∈b,c∈o.patch:=by
 intro j;induction j with
 |zero=>
  intro a b z U _ _ i;have hb:b=[]:=Kx E;subst hb;rw[DJ] at i;cases i
 |succ j J=>
  intro a b z U O V i;cases b with
  |nil=>rw[DJ] at i;cases i
  |cons v b=>
   have X:=V v (by simp);have Y:v.kind=2\/v.kind=3\/v.kind=1:=by rcases X with⟨k,_⟩|⟨k,_⟩<;>omega
   have B:∀o∈b,One o:=λo Q=>V o (by simp[Q]);have I:∀o∈b,o.kind=1->Ei ks o.patch:=λo Q=>O o (by simp[Q]);have up:(z∈b\/z=Ic\/∃p,z=KT p/\Ei ks p/\∀c∈p,∃o∈b,c∈o.patch)->z∈v::b\/z=Ic\/∃p,z=KT p/\Ei ks p/\∀c∈p,∃o∈v::b,c∈o.patch:=by
    rintro(h|h|⟨p,h1,Z,h3⟩);exact .inl (by simp[h]);exact .inr (.inl h);exact .inr (.inr ⟨p,h1,Z,λc hc=>by obtain⟨o,Q,h⟩:=h3 c hc;exact⟨o,by simp[Q],h⟩⟩)
   simp[Hn] at U;cases a with
   |nil=>
    rw[Cz] at i;rcases I3.1 i with rfl|i;rcases Y with k|k|k;rw[Cx k];exact .inl D_;rw[Bp (c:=v.kind=2) E,Cx k];exact .inr (.inl rfl);rw[Bp (c:=v.kind=2) E,Bp (c:=v.kind=3) E];exact .inr (.inr ⟨_,rfl,O v D_ k,λc hc=>⟨v,D_,hc⟩⟩);exact up (J (by simp;omega) I B i)
   |cons u a=>
    simp[Hn] at U;rw[Cz] at i;split at i;rcases I3.1 i with rfl|i;exact .inr (.inr ⟨_,rfl,Ek,λc hc=>by cases hc⟩);exact J (by simp[Hn];omega) O V i;split at i;rcases I3.1 i with rfl|i;exact .inl D_;exact up (J (by simp[Hn];omega) I B i);split at i;exact up (J E I B i);split at i;rcases I3.1 i with rfl|i;exact .inr (.inl rfl);exact up (J E I B i);rename_i k2 k3 k4;have k:v.kind=1:=E;rcases I3.1 i with rfl|i;refine .inr (.inr ⟨_,rfl,?_,?_⟩);split;exact Nc (O v D_ k);exact O v D_ k;intro c hc;refine⟨v,D_,?_⟩;split at hc;exact(wO.1 hc).1;exact hc;exact up (J E I B i)
theorem eD:∀(j:Nat) {a b:V'},a.length+b.length<=j->(Cz f a b).length<=a.length+b.length:=by
 intro j;induction j with
 |zero=>
  intro a b o;have hb:b=[]:=Kx (by omega);subst hb;rw[DJ];exact Hw _
 |succ j i=>
  intro a b o;cases b with
  |nil=>rw[DJ];exact Hw _
  |cons v b=>
   simp[Hn] at o;cases a with
   |nil=>
    rw[Cz];have:=i (a:=[]) (b:=b) (by simp;omega);simp[Hn,gC,wS] at this ⊢;omega
   |cons u a=>
    simp[Hn] at o;rw[Cz];have B:=i (a:=a) (b:=v::b) (by simp[Hn];omega);have I:=i (a:=u::a) (b:=b) (by simp[Hn];omega);have J:=i (a:=a) (b:=b) E;simp[Hn] at B I
    repeat' split
    all_goals (simp[Hn];omega)
end
section
variable {ks:Y'}{f:Bool}
theorem aF{x:V'}{n:Nat}(hm:CU ks x=0)(h1:1<=n)(B:(n:Int)<=most)(I:Ah x<=n)(i:Bt n 0 x)(hp:∀o∈x,Cr ks o)(hl:x.length<=1048576) :
  BY ks x n most=if most<(n:Int)-Ah x+Bf x then 8 else 0:=by
 by_cases hc:most<(n:Int)-Ah x+Bf x;obtain⟨j,J⟩:=NA (Hs hm) hl;unfold BY;rw[Bp (by rw[hm];simp),Bp (by rw[j];omega),Bp (by simp[i]),Bp (by simpa using hp),Cx (by rw[j,J];exact hc),Cx hc];rw[Bp hc];exact(Br hl).2 ⟨hm,Hs hm,⟨h1,B⟩,I,i,hp,E⟩
theorem Dv.RU{x:V'}{n:Nat}{m:Int}(h:Dv ks x n m):∀o∈x,Oh o:=λo i=>(h.Cs o i).1.RU (h.Cs o i).2
theorem Xl{o:Dop}(h:Ax ks o)(h1:Ao o=1):One o/\Gz o.patch:=by
 rcases h with⟨k,_,_,i,hp⟩|⟨k,_,_,hp,i⟩|⟨k,_,_,hp,_⟩;refine⟨.inr ⟨.inl k,?_⟩,hp.1⟩;unfold Ao at h1;rw[Bp E] at h1;omega;refine⟨.inr ⟨.inr k,?_⟩,by rw[hp];exact List.Pairwise.nil⟩;unfold Ao at h1;rw[Bp E] at h1;omega;refine⟨.inl ⟨k,?_⟩,by rw[hp];exact List.Pairwise.nil⟩;unfold Ao at h1;rw[Cx k] at h1;exact aA7.1 h1
structure rZ (ks:Y') (x X:V') (n:Nat):Prop where
 one:∀o∈X,One o/\Gz o.patch
 Cs:∀o∈X,Ax ks o
 Gv:Ah X<=n
 EU:G7 n X
 pl:∀o∈X,Cr ks o
 len:X.length=Aw x
 qj:EI X n=n-Ah x+Bf x
theorem Dv.CH{x:V'}{n:Nat}{m:Int}(h:Dv ks x n m):rZ ks x (Bi x) n:=by
 have j:=L9 (ks:=ks) λo i=>(h.Cs o i).1;obtain⟨B,I⟩:=SS x h.RU;have h1:∀o∈Bi x,One o/\Gz o.patch:=λo i=>Xl (j o i).1 (j o i).2;have ht:Ah (Bi x)<=n:=by rw[B];exact h.Gv
 have J:=Xi (n:=n) (p:=0) h.RU (by have:=h.Gv;omega) h.EU;refine⟨h1,λo i=>(j o i).1,ht,?_,λu hu=>?_,bQ x,by unfold EI;rw[B,I]⟩;have:=(Yt (n:=n) (m:=n) (λo i=>(h1 o i).1) ht).1;rw[y8] at this;exact this J;unfold Bi at hu;obtain⟨o,i,hu⟩:=xu.1 hu;exact Xg (h.pl o i) hu
def BL(f:Bool)(a b:V'):V':=Cz f (Bi a) (Bi b)
theorem Y7{a b:V'}(fa:Dv ks a d.length most)(fb:Dv ks b d.length A) :
  (∀z∈BL f a b,Ax ks z/\Ao z=1)/\(BL f a b).length<=Aw a+Aw b/\Ah (BL f a b)<=(BD ks d a).length/\Bt (BD ks d a).length 0 (BL f a b)/\(∀z∈BL f a b,Cr ks z)/\1<=(BD ks d a).length/\
   ∀z∈BL f a b,(∀s∈z.set,∃o∈b,s∈o.set)/\∀c∈z.patch,∃o∈b,c∈o.patch:=by
 have O:=fa.CH;have Q:=fb.CH;have j:(BD ks d a).length=EI (Bi a) d.length:=by
  have:=IV (ks:=ks) (x:=a) (d:=d) (λo i=>(fa.Cs o i).1) fa.Gv;rw[O.qj];have:=fa.Gv;omega
 obtain ⟨Z,t2⟩:=tF (f:=f) _ (Bi a) (Bi b) d.length (HK _) (λo i=>(O.one o i).1) (λo i=>(Q.one o i).1) O.EU Q.EU O.Gv Q.Gv;have B:=λz (J:z ∈ BL f a b)=>cm (ks:=ks) (f:=f) _ (a:=Bi a) (b:=Bi b) (z:=z) (HK _) (λo i k=>by
  rcases Q.Cs o i with ⟨_,_,_,_,hp⟩ | ⟨k',_⟩ | ⟨k',_⟩;exact hp;omega;omega) (λo i=>(Q.one o i).1) J
 have I:∀z∈BL f a b,Ax ks z/\Ao z=1:=λz J=>by
  rcases B z J with h|rfl|⟨p,rfl,hp,_⟩;exact(L9 (ks:=ks) λo i=>(fb.Cs o i).1) z h;exact⟨.inr (.inl ⟨rfl,rfl,rfl,rfl,B_⟩),rfl⟩;exact⟨.inl ⟨rfl,rfl,rfl,aAL 1,hp⟩,rfl⟩
 refine⟨I,?_,by rw[j];exact Z,?_,λz J=>?_,?_,λz J=>?_⟩;have:=eD (f:=f) _ (a:=Bi a) (b:=Bi b) (HK _);rw[O.len,Q.len] at this;exact this;have:=(Yt (n:=((BD ks d a).length:Int)) (x:=BL f a b) (m:=(BD ks d a).length) (λz J=>(Xl (I z J).1 (I z J).2).1) (by rw[j];exact Z)).2 (by rw[j];exact t2);rwa [y8] at this;rcases B z J with h|rfl|⟨p,rfl,hp,_⟩;exact Q.pl z h;intro k;exact absurd k B_;intro k;exact absurd k (by show ¬(1:Int)=2;decide);rw[j];exact P8 (λo i=>(O.one o i).1) O.EU O.Gv fa.Ct.1;rcases B z J with h|rfl|⟨p,rfl,hp,hc⟩;unfold Bi at h;obtain⟨o,i,hu⟩:=xu.1 h;obtain⟨_,k2,V⟩:=HZ hu;exact⟨λs U=>⟨o,i,by rw[<-k2];exact U⟩,λc hc=>⟨o,i,by rw[<-V];exact hc⟩⟩;exact⟨λs U=>(nomatch U),λc hc=>(nomatch hc)⟩;refine⟨λs U=>(nomatch U),λc X=>?_⟩;obtain⟨o,i,h⟩:=hc c X;unfold Bi at i;obtain⟨o',Y,hu⟩:=xu.1 i;obtain⟨_,_,V⟩:=HZ hu;exact⟨o',Y,by rw[<-V];exact h⟩
theorem aY{a b:V'}{Y Z most:Int}(hK:∀k∈ks,Cq k)(fa:Dv ks a d.length Y)(fb:Dv ks b d.length Z)(U:∀o∈b,IH o)(ht:Aw a+Aw b<=1048576)(j:((BD ks d a).length:Int)<=most) :
  BY ks (AL (BL f a b)) (BD ks d a).length most=(if most<((BD ks (BD ks d a) (BL f a b)).length:Int) then 8 else 0)/\(∀e,BD ks e (AL (BL f a b))=BD ks e (BL f a b))/\(∀o∈AL (BL f a b),IH o)/\(AL (BL f a b)).length<=Aw a+Aw b/\CU ks (AL (BL f a b))=0:=by
 obtain⟨B,p2,p3,p4,p5,p6,p7⟩:=Y7 (f:=f) fa fb;have V:=IZ λz I=>(B z I).2;have J:∀o∈BL f a b,IH o:=λo i=>by
  obtain⟨q1,q2⟩:=p7 o i;refine⟨λs hs=>?_,λc hc=>?_⟩;obtain⟨x,O,h⟩:=q1 s hs;exact(U x O).1 s h;obtain⟨x,O,h⟩:=q2 c hc;exact(U x O).2 c h
 obtain⟨X,n2,_,_,n5⟩:=K3 (λk Q=>by have:=(hK k Q).1;omega) (NH (λz I=>(B z I).1) E) J E;obtain⟨e1,e2,e3,e4,e5⟩:=NM (ks:=ks) (n:=(BD ks d a).length) (λo i=>(B o i).1.QR (by rw[(B o i).2];decide)) E E p4 p5;have hl:=IV (ks:=ks) (x:=BL f a b) (d:=BD ks d a) (λo i=>(B o i).1) p3;refine⟨?_,e1,λo i=>(n2 o i).1.b,E,X⟩;rw[aF X p6 j E e4 e5 E];have:(most<((BD ks d a).length:Int)-Ah (AL (BL f a b))+Bf (AL (BL f a b)))↔most<((BD ks (BD ks d a) (BL f a b)).length:Int):=E;by_cases hc:most<((BD ks (BD ks d a) (BL f a b)).length:Int);rw[Cx hc,Cx (this.2 hc)];rw[Bp hc,Bp λe=>hc (this.1 e)]
theorem aI{a b:V'}{i j:Int}(o:∀c∈d,Gr c.set)(fa:Dv ks a d.length i)(fb:Dv ks b d.length j) :
  BD ks (BD ks d a) (BL true a b)=BD ks (BD ks d b) (BL false b a):=by
 have:=hZ (ks:=ks) _ (Bi a) (Bi b) d (HK _) fa.CH.one fb.CH.one o fa.CH.Gv fb.CH.Gv;rw[Le a d fa.RU,Le b d fb.RU] at this;exact this
end
theorem VK(o:Dop)(x:V'):Aw (o::x)=Ao o+Aw x:=by simp[Aw]
theorem iw:∀x:V',Aw x=Ah x+DG x:=by
 intro x;induction x with
 |nil=>rfl
 |cons o x i=>
  rw[VK,Ah,DG,i,Ao];split<;>omega
theorem CP(o:Dop)(x:V'):BN (o::x)=o.AY.length+BN x:=by simp[BN]
theorem L0:∀x:V',DG x<=BN x/\x.length+BN x<=Aa x:=by
 intro x;induction x with
 |nil=>exact⟨HK _,HK _⟩
 |cons o x i=>
  rw[DG,CP,Hn];simp[Aa,S4,wJ,Co] at i ⊢;split<;>omega
theorem Wu(o:Dop):BN (CH o)<=o.AY.length:=by
 by_cases k:o.kind=2;unfold CH;rw[Cx k];have:∀rs:X_,BN (rs.map λr=>(⟨2,0,[r],o.set,o.patch⟩:Dop))=rs.length:=by
  intro rs;induction rs with
  |nil=>rfl
  |cons r rs i=>rw[S4,CP,i];simp[Hn,gC];omega
 exact ye (this o.AY);rw[Kg k];have:∀n,BN (List.replicate n (⟨o.kind,1,[],o.set,o.patch⟩:Dop))=0:=by
  intro n;induction n with
  |zero=>rfl
  |succ n i=>rw[wB,CP,i,gC]
 rw[this];exact Hw _
theorem U5:∀x:V',BN (Bi x)<=BN x:=by
 intro x;induction x with
 |nil=>exact HK _
 |cons o x i=>
  have e:Bi (o::x)=CH o++Bi x:=rfl;have:=Wu o;rw[e,Du,CP];omega
theorem Xa{f:Bool}:∀(j:Nat) {a b:V'},a.length+b.length<=j->BN (Cz f a b)<=BN b:=by
 intro j;induction j with
 |zero=>
  intro a b o;have hb:b=[]:=Kx E;subst hb;rw[DJ];exact Hw _
 |succ j i=>
  intro a b o;have I:(Ic:Dop).AY.length=0:=rfl;have B:∀p,(KT p).AY.length=0:=λ_=>rfl;cases b with
  |nil=>rw[DJ];exact Hw _
  |cons v b=>
   simp[Hn] at o;cases a with
   |nil=>
    rw[Cz];have:=i (a:=[]) (b:=b) (by simp;omega);rw[CP,CP]
    repeat' split
    all_goals first|omega|(rw[I];omega)|(rw[B];omega)
   |cons u a=>
    simp[Hn] at o;rw[Cz];have J:=i (a:=a) (b:=v::b) (by simp[Hn];omega);have O:=i (a:=u::a) (b:=b) (by simp[Hn];omega);have Q:=i (a:=a) (b:=b) E;rw[CP] at J;rw[CP v b];split;rw[CP,B];omega;split;rw[CP];omega;split;omega;split;rw[CP,I];omega;rw[CP,B];omega
section
variable {ks:Y'}{f:Bool}{d:Y_}{a b:V'}{most:Int}
structure Qr (ks:Y') (f:Bool) (d:Y_) (a b:V') (most:Int):Prop where
 fa:Dv ks (AL a) d.length most
 fb:Dv ks (AL b) d.length most
 da:BD ks d (AL a)=BD ks d a
 db:BD ks d (AL b)=BD ks d b
 FH:Aw (AL a)+Aw (AL b)<=4600
 Cs:∀z∈BL f (AL a) (AL b),Ax ks z
 pS:Aw (BL f (AL a) (AL b))<=4600
 UR:BY ks (AL (BL f (AL a) (AL b))) (BD ks d a).length most=if most<((BD ks (BD ks d a) (BL f (AL a) (AL b))).length:Int) then 8 else 0
 KM:∀e,BD ks e (AL (BL f (AL a) (AL b)))=BD ks e (BL f (AL a) (AL b))
 tY:∀o∈AL (BL f (AL a) (AL b)),IH o
 len:(AL (BL f (AL a) (AL b))).length+a.length+b.length<=4600
 may:CU ks (AL (BL f (AL a) (AL b)))=0
 ins:(BD ks d a).length+DG (AL (BL f (AL a) (AL b)))<=4300
 YB:Bf (AL (BL f (AL a) (AL b)))<=9000
theorem RC(V:∀k∈ks,Cq k)(fa:Dv ks a d.length most)(fb:Dv ks b d.length most)(Ia:∀o∈a,IH o)(Ib:∀o∈b,IH o)(aa:d.length<=300)(hm:Aa a+Aa b<=4000):Qr ks f d a b most:=by
 obtain⟨_,ma⟩:=L0 a;obtain⟨_,mb⟩:=L0 b;obtain⟨X,i,ak,al⟩:=OB V Ia E ((Br E).2 fa);obtain⟨Y,Z,a1,an⟩:=OB V Ib E ((Br E).2 fb);have J:=(Br E).1 X;have O:=(Br E).1 Y;have Mq:∀{x:V'} {n:Nat} {m:Int},Dv ks x n m->∀o∈x,GG o:=λh o Q=>(h.Cs o Q).1.QR (h.Cs o Q).2;obtain⟨ra,_,_⟩:=Hx a (Mq fa) E;obtain⟨rb,_,_⟩:=Hx b (Mq fb) E;have ia:=(L0 (AL a)).1;have ib:=(L0 (AL b)).1;have ta:=J.Gv;have tb:=O.Gv;have a7:Aw (AL a)+Aw (AL b)+a.length+b.length<=4600:=by rw[iw,iw];omega
 obtain⟨U,p2,p3,p4,p5,p6,p7⟩:=Y7 (f:=f) J O;have av:=IZ λz B=>(U z B).2;have ax:=IV (ks:=ks) (x:=a) (d:=d) (λo Q=>(fa.Cs o Q).1) fa.Gv;have j:((BD ks d (AL a)).length:Int)<=most:=by
  rw[i];have:=fa.most;have:=fa.Gv;omega
 obtain⟨q1,q2,q3,q4,q5⟩:=aY (f:=f) V J O a1 E j;have I:∀z∈BL f (AL a) (AL b),GG z:=λz B=>(U z B).1.QR (by rw[(U z B).2];decide);obtain⟨rp,_,_⟩:=Hx _ I E;have i1:=(L0 (AL (BL f (AL a) (AL b)))).1;have r1:BN (BL f (AL a) (AL b))<=BN b:=by
  have h1:=Xa (f:=f) _ (a:=Bi (AL a)) (b:=Bi (AL b)) (HK _);have h2:=U5 (AL b);unfold BL;omega
 have ay:=L0 a;have b0:=(FD a).2;have a8:=fa.Gv;have b6:=(FD (AL (BL f (AL a) (AL b)))).2;have b7:(BD ks d a).length<=300+BN a:=E;have a6:Ah (AL (BL f (AL a) (AL b)))<=(BD ks d (AL a)).length:=by
  obtain⟨_,e2,_⟩:=NM (ks:=ks) (n:=(BD ks d (AL a)).length) I E E p4 p5;omega
 rw[i] at q1 a6;exact⟨J,O,i,Z,E,λz B=>(U z B).1,E,q1,q2,q3,E,q5,E,E⟩
theorem Wg(i:∀c∈d,Gr c.set)(h:Qr ks f d a b most):BD ks (BD ks d a) (BL true (AL a) (AL b))=BD ks (BD ks d b) (BL false (AL b) (AL a)):=by
 have:=aI i h.fa h.fb;rwa [h.da,h.db] at this
end
def Hg(f:Nat->Bool):Nat->Nat
 |0=>0
 |n+1=>Hg f n+(f n).toNat
theorem Po(f:Nat->Bool):∀n,Hg f (n+1)=(f 0).toNat+Hg (λj=>f (j+1)) n
 |0=>by simp[Hg]
 |n+1=>by rw[Hg,Po f n,Hg];omega
theorem MK{f g:Nat->Bool}:∀n,(∀j,j<n->f j=g j)->Hg f n=Hg g n
 |0,_=>rfl
 |n+1,h=>by rw[Hg,Hg,MK n λj i=>h j E,h n E]
theorem fH:∀(n:Nat) (l m:List Bool),l.length<=n->m.length<=n->Iz l m=Hg (λj=>l.getD j false||m.getD j false) n:=by
 intro n;induction n with
 |zero=>
  intro l m hl hm;obtain rfl:=Kx (Nat.le_zero.1 hl);obtain rfl:=Kx (Nat.le_zero.1 hm);simp[Iz,Hg]
 |succ n i=>
  intro l m hl hm;rw[Po];cases l with
  |nil=>cases m with
   |nil=>have:=i [] [] (Hw _) (Hw _);simpa[Iz] using this
   |cons q m=>have:=i [] m (Hw _) (by simpa using hm);simpa[Iz] using this
  |cons p l=>cases m with
   |nil=>have:=i l [] (by simpa using hl) (Hw _);simpa[Iz] using this
   |cons q m=>have:=i l m (by simpa using hl) (by simpa using hm);simpa[Iz] using this
theorem ig:∀x y:V',Ds (x++y)=Ds x++Ds y:=by
 intro x y;induction x with
 |nil=>rfl
 |cons o x i=>
  rw[No,Ds,Ds];split;exact i;rw[i];rfl
theorem YV:∀x:V',(∀o∈x,One o)->(Ds x).length=Ah x:=by
 intro x;induction x with
 |nil=>intro _;rfl
 |cons o x i=>
  intro h;have:=i λo j=>h o (by simp[j]);rw[Ds,Ah];rcases h o D_ with⟨k,_⟩|⟨k,B⟩;rw[Cx k,Cx k];omega;rw[Bp E,Bp E,Hn,B,this];show _=1+_;omega
theorem V8:∀x:V',Dl (Bi x)=DG x:=by
 intro x;induction x with
 |nil=>rfl
 |cons o x i=>
  have e:Bi (o::x)=CH o++Bi x:=rfl;rw[e,(Uf o (Bi x)).2,i,DG]
def FX(x:V'):List Bool:=Ds (Bi x)
theorem aJ(x:V')(o:Dop):FX (x++[o])=FX x++(if o.kind=2 then[] else List.replicate (Ao o) (decide (o.kind=3))):=by
 unfold FX;have e:Bi (x++[o])=Bi x++(CH o++[]):=by unfold Bi;rw[u9];rfl
 rw[e,ig,(Uf o []).1,show Ds []=[] from rfl,Ty]
section
variable {ks:Y'}
theorem Hh{x:V'}(h:∀o∈x,Ax ks o):DG x=BN x:=by
 induction x with
 |nil=>rfl
 |cons o x i=>
  rw[DG,CP,i λo j=>h o (by simp[j])];split;rfl;rename_i k;rcases h o D_ with⟨_,e,_⟩|⟨_,e,_⟩|⟨B,_⟩;rw[e];rfl;rw[e];rfl;exact(k B).elim
theorem kX:∀(x:V') (D:Y_),(∀o∈x,One o)->(∀o∈x,∀r∈o.AY,0<=r)->Ah x<=D.length->∀r:Int,r<0->(r∈(BD ks D x).map Cel.r↔∃j:Nat,(D.map Cel.r)[j]?=some r/\(Ds x)[j]?≠some true):=by
 intro x;induction x with
 |nil=>
  intro D _ _ _ r _;rw[Ff,wE];exact⟨λ⟨j,h⟩=>⟨j,h,by simp[Ds]⟩,λ⟨j,h,_⟩=>⟨j,h⟩⟩
 |cons v x Y=>
  intro D h1 hr ht r B;have J:∀o∈x,One o:=λo V=>h1 o (by simp[V]);have O:∀o∈x,∀r∈o.AY,0<=r:=λo V=>hr o (by simp[V]);rcases h1 v D_ with⟨k,Z,Q⟩|⟨k,X⟩;rw[Ah,Cx k] at ht;have h0:=hr v D_ Z (by rw[Q];simp);rw[Fe k Q,Ds,Cx k,S4,I3,<-Y D J O E r B];exact⟨λh=>h.elim (λe=>by simp only at e;omega) id,.inr⟩;have k2:v.kind≠2:=E;rw[Ah,Bp k2,X] at ht;cases D with
  |nil=>have i1:(1:Int).toNat=1:=rfl;simp only[gC] at ht;omega
  |cons c D=>
   simp[Hn] at ht;have U:=Y D J O E r B;rw[Ds,Bp k2];rcases k with k|k;rw[HA k X,S4,I3,U,WL (p:=v.kind=3) E];constructor;rintro(e|⟨j,i,I⟩);exact⟨0,by rw[e];rfl,D_⟩;exact⟨j+1,by simpa using i,by simpa using I⟩;rintro⟨j,i,I⟩;cases j with
   |zero=>simp[S4,S5] at i;exact .inl i.symm
   |succ j=>exact .inr ⟨j,by simpa using i,by simpa using I⟩
   rw[HJ k X,U,TC (p:=v.kind=3) k];constructor;rintro⟨j,i,I⟩;exact⟨j+1,by simpa using i,by simpa using I⟩;rintro⟨j,i,I⟩;cases j with
   |zero=>simp at I
   |succ j=>exact⟨j,by simpa using i,by simpa using I⟩
def D0(n:Nat):Y_:=(List.range n).map λ(j:Nat)=>(⟨-(j:Int)-1,[]⟩:Cel)
theorem lX{x:V'}{n:Nat}(h1:∀o∈x,One o)(hr:∀o∈x,∀r∈o.AY,0<=r)(ht:Ah x<=n)(O:j<n):(Ds x)[j]?=some true↔¬(-(j:Int)-1)∈(BD ks (D0 n) x).map Cel.r:=by
 have B:(D0 n).length=n:=by simp[D0]
 have J:∀i:Nat,((D0 n).map Cel.r)[i]?=if i<n then some (-(i:Int)-1) else none:=λi=>by
  by_cases h:i<n;simp[D0,h];simp[D0,h]
 rw[kX x (D0 n) h1 hr (by rw[B];exact ht) _ E];constructor;rintro h ⟨i,I,Q⟩;rw[J] at I;split at I;simp[S5] at I;have:i=j:=E;subst this;exact Q h;cases I;intro h;apply rT;intro e;exact h ⟨j,by rw[J,Cx O],e⟩
theorem VC{x:V'}{n:Nat}{m:Int}(h:Dv ks x n m)(I:j<n):(FX x)[j]?=some true↔¬(-(j:Int)-1)∈(BD ks (D0 n) x).map Cel.r:=by
 have B:=h.CH;rw[<-Le x (D0 n) h.RU];refine lX (λo i=>(B.one o i).1) (λo i r hr=>?_) B.Gv I;rcases B.Cs o i with⟨_,e,_⟩|⟨_,e,_⟩|⟨_,e,_⟩;rw[e] at hr;cases hr;rw[e] at hr;cases hr;have:=e r hr;unfold Dc at this;omega
theorem Me{x:V'}{n:Nat}{m:Int}(h:Dv ks x n m):(FX x).length<=n:=by
 have j:=h.CH;have:=YV (Bi x) λo i=>(j.one o i).1;unfold FX;rw[this];exact j.Gv
theorem Uv(l:List Bool)(j:Nat):l.getD j false=true↔l[j]?=some true:=by
 rw[wC];cases l[j]? with
 |none=>simp
 |some b=>simp
theorem SO{x y:V'}{n:Nat}{m I:Int}(o:Dv ks x n m)(B:Dv ks y n I)(h:∀e,BD ks e x=BD ks e y)(j:Nat):(FX x).getD j false=(FX y).getD j false:=by
 rw[xk,Uv,Uv];rcases zT j n with i|i;rw[VC o i,VC B i,h];have h1:=Me o;have J:=Me B;rw[i6 E,i6 E]
theorem Wi{a b:V'}(fa:Dv ks a d.length most)(fb:Dv ks b d.length most)(B:Qr ks true d a b most)(hl:a.length<=1048576/\b.length<=1048576) :
  (BD ks (BD ks d a) (BL true (AL a) (AL b))).length+Hg (λj=>(FX a).getD j false||(FX b).getD j false) d.length=d.length+DG a+DG b:=by
 have I:∀{x:V'},Dv ks x d.length most->x.length<=1048576->(∀e,BD ks e (AL x)=BD ks e x)/\BN (AL x)=BN x:=λ{x} h hl=>by
  have J:∀o∈x,GG o:=λo i=>(h.Cs o i).1.QR (h.Cs o i).2;obtain⟨U,_⟩:=NM (ks:=ks) (n:=d.length) J hl (by have:=h.Gv;omega) h.EU h.pl;exact⟨U,(Hx x J E).1⟩
 obtain⟨V,X⟩:=I fa hl.1;obtain⟨Y,Z⟩:=I fb hl.2;have O:=B.fa.CH;have Q:=B.fb.CH;have h:=kb (ks:=ks) _ (Bi (AL a)) (Bi (AL b)) d (HK _) (λo i=>(O.one o i).1) (λo i=>(Q.one o i).1) O.Gv Q.Gv;change _+Iz (FX (AL a)) (FX (AL b))=_ at h;rw[Le _ d B.fa.RU,B.da,V8,V8,Hh (λo i=>(B.fa.Cs o i).1),Hh (λo i=>(B.fb.Cs o i).1),X,Z,<-Hh (λo i=>(fa.Cs o i).1),<-Hh (λo i=>(fb.Cs o i).1),fH d.length _ _ (Me B.fa) (Me B.fb)] at h;rw[MK (g:=λj=>(FX (AL a)).getD j false||(FX (AL b)).getD j false) d.length λj _=>by rw[SO B.fa fa V,SO B.fb fb Y]];exact h
end
theorem bZ(l:List Bool)(m j:Nat):(l++List.replicate (m+1) true).getD j false=if j=l.length+m then true else(l++List.replicate m true).getD j false:=by
 simp only[wC,yF,yL];by_cases h1:j<l.length;rw[Cx h1,Cx h1,Bp E];rw[Bp h1,Bp h1];by_cases i:j=l.length+m;rw[Cx i,Cx E];rfl;rw[Bp i];by_cases o:j-l.length<m;rw[Cx o,Cx E];rw[Bp o,Bp E]
theorem getD_none(l:List Bool)(m j:Nat):(l++List.replicate m false).getD j false=l.getD j false:=by
 simp[wC,yF,yL];by_cases h1:j<l.length;rw[Cx h1];rw[Bp h1,i6 E];split<;>rfl
def Jd(f:Nat->Bool)(n:Nat):V_:=(List.range n).map λj=>zI ((f j).toNat:Int)
theorem KY(f:Nat->Bool)(n:Nat):(Jd f n).length=n:=by simp[Jd]
theorem Q5(f:Nat->Bool){n j:Nat}(i:j<n):(Jd f n)[j]?=some (zI ((f j).toNat:Int)):=by simp[Jd,i]
theorem dA(f:Nat->Bool)(n j:Nat):(Jd f n).set j (zI 1)=Jd (λi=>if i=j then true else f i) n:=by
 refine wm λi=>?_;rw[xy];by_cases hi:i<n;rw[Q5 _ hi,Q5 _ hi,KY];by_cases h:j=i;rw[Cx h,Cx E,Cx h.symm];rfl;rw[Bp h,Bp (yH h)];rw[i6 (by rw[KY];omega),i6 (by rw[KY];omega)];simp only[KY];split;rw[Bp E];rfl
theorem Hj{f g:Nat->Bool}(n:Nat)(h:∀j,f j=g j):Jd f n=Jd g n:=by rw[funext h]
theorem Bx.alloc{t:TypeId}:Bx (w.alloc (.cells vs.toArray t)) w.heap.size vs:=
 ⟨λj v i=>by have:=Fi (w:=w) (t:=t) i;rwa [AH] at this,λj o=>⟨by rw[zF];simp[o],zi ..⟩⟩
theorem gI(n:Nat):Go.madeCells #[zI 0] n=(Jd (λ_=>false) n).toArray:=by
 apply Array.ext';simp[Go.madeCells,Jd,Nat.mod_one]
theorem js{x:V'}(h:∀o∈x,Ax ks o/\Ao o<=536870912):(FX x).length=Ah x:=by
 have j:=L9 (ks:=ks) λo i=>(h o i).1;have i:∀o∈x,Oh o:=λo i=>(h o i).1.RU (h o i).2;unfold FX;rw[YV _ λo i=>(Xl (j o i).1 (j o i).2).1,(SS x i).1]
theorem gS{H:Hist}{x y:V'}(h:H.us.length<=H.max)(hm:H.max<=65536)(c:Bool):(bif c then H.put x y else H).op=H.op/\(bif c then H.put x y else H).us.length<=(bif c then H.put x y else H).max/\(bif c then H.put x y else H).max<=65536:=by
 cases c with
 |false=>exact⟨rfl,h,hm⟩
 |true=>exact⟨rfl,(SU (g:=⟨x,y⟩) h).1,hm⟩
theorem Wx(I:∀k∈ks,Cq k):∀{x:V'},(∀o∈x,Ax ks o)->(∀o∈x,IH o)->Aa x<=x.length*8400+BN x:=by
 intro x;induction x with
 |nil=>intro _ _;exact Hw _
 |cons o x J=>
  intro B i;have h1:=J (λo j=>B o (by simp[j])) λo j=>i o (by simp[j]);obtain⟨O,Q⟩:=ug I (B o D_) ⟨λa ha=>((i o D_).1 a ha).2,λc hc=>((i o D_).2 c hc).2⟩;have U:=O.size;have V:=Vs Q.1;have e:Aa (o::x)=Co o+Aa x:=by simp[Aa]
  rw[e,CP,Hn,wF];unfold Co;omega
structure Ls (w W:e_) (e:EgA) (σ:SKs) (most:Int) (d:Y_) (H:Hist) (N:Nat) (F:f_):Prop where
 i:MF w F W e σ most d [] H N
 m:FV σ.ks most d
 op:H.op=false
 us:H.us.length<=H.max
 mx:H.max<=65536
 lt:∀x,F x->w.heap.size<=x/\x<W.heap.size
 sc:∀x,σ.S x->x<W.heap.size
theorem Ls.U_{e:EgA}{H:Hist}(h:Ls w W e σ most d H N F)(g:AI W W'):Ls w W' e σ most d H N F:=
 ⟨h.i.U_ g,h.m,h.op,h.us,h.mx,λx j=>⟨(h.lt x j).1,Nn (h.lt x j).2 g.size⟩,λx j=>Nn (h.sc x j) g.size⟩
theorem Ls.of{e:EgA}{d o:Y_}{H j:Hist}{N N':Nat}(h:Ls w W e σ most d H N F)(I:AI w W)(hJ:YA w F W W' e σ most o [] j N')(Q:FV σ.ks most o)(op:j.op=false)(us:j.us.length<=j.max)(mx:j.max<=65536) :
  ∃F',Ls w W' e σ most o j N' F'/\(∀x,F' x->F x\/W.heap.size<=x)/\AK F W W'/\AI w W':=by
 obtain⟨U,J,h1,B⟩:=hJ;obtain⟨V,X,Y,Z,O,hF⟩:=h1;have z:=I.size;have zm:=B.size;refine⟨λx=>U x/\x<W'.heap.size,⟨⟨V,X,Y,Z,O,λx i=>⟨hF x i,(O.lt x i).2⟩⟩,Q,op,us,mx,λx i=>⟨?_,i.2⟩,λx i=>by have:=h.sc x i;omega⟩,λx i=>J x i.1,B,I.next B λx i e=>by have:=(h.lt x e).1;omega⟩;rcases J x i.1 with e|e;exact(h.lt x e).1;omega
theorem Ls.U'{e:EgA}{H:Hist}(h:Ls w W e σ most d H N F)(m:AK M W W')(o:∀x,M x->¬F x/\¬σ.S x/\w.heap.size<=x):Ls w W' e σ most d H N F:=
 ⟨h.i.U' m o,h.m,h.op,h.us,h.mx,λx j=>⟨(h.lt x j).1,Nn (h.lt x j).2 m.size⟩,λx j=>Nn (h.sc x j) m.size⟩
theorem LM{e:EgA}{H:Hist}{x:V'}(h:Ls w W e σ most d H N F)(Q:AI w W)(U:DV w)(hC:∀c∈d,GL σ.ks c)(B:σ.ks.length<=64)(V:∀k∈σ.ks,Cq k)(j:most<=536870912)
 (X:Ae S S W xv x)(I:∀y,S y->¬F y)(Y:∀o∈x,IH o)(hl:x.length<=10000)(J:d.length<=4300)(hi:Dv σ.ks x d.length most->d.length+DG x<=4300)(O:Aa x<=1099511627776)(Z:N+CK 4300 x<=1000000000) :
  AF prog 9 [g_ e.b,xv] (λv' w'=>v'=zI (BY σ.ks x d.length most)/\AI w w'/\∃F' H',(∀x,F' x->F x\/W.heap.size<=x)/\AK F W w'/\Ls w w' e σ most (CC σ.ks most d x) H' (N+CK 4300 x) F') W:=by
 apply AA (QY h.i U h.m hC B V X I Y hl j J hi B_ O Z h.op h.us h.mx);rintro _ w' ⟨rfl,hJ,hM⟩;have hp:=gS (x:=x) (y:=AL (CY σ.ks d x)) h.us h.mx (decide (BY σ.ks x d.length most=0));rw[h.op] at hp;have e:(bif decide (BY σ.ks x d.length most=0) then H.put x (AL (CY σ.ks d x)) else H)=if BY σ.ks x d.length most=0 then H.put x (AL (CY σ.ks d x)) else H:=by
  by_cases h0:BY σ.ks x d.length most=0;rw[Cx h0,TC h0];rfl;rw[Bp h0,WL h0];rfl
 rw[e] at hp;obtain⟨F',h1,h2,h3,h4⟩:=h.of Q hJ hM hp.1 hp.2.1 hp.2.2;exact⟨rfl,h4,F',_,h2,h3,h1⟩
theorem SA{v:BF}(h:Ub v):Bn (MJ v):=by
 have hk:=h.kind;intro z i;unfold MJ at i;rcases DN.1 i with i|i;exact EC E z i;rcases h with⟨h1,j,_⟩|⟨h1,_,j,_⟩|⟨h1,_,_,j⟩;rw[Cx h1] at i;exact EC (IY j.1 j.2) z i;rw[Bp E,Cx h1] at i;exact EC E z i;rw[Bp E,Bp E,Cx h1] at i;rcases DN.1 i with i|i;exact EC E z i;exact Oy _ z i
theorem OR{f:α->X_}{R:α->Prop}(h:∀a,R a->Bn (f a)){l:List α}(hl:Wm R l):Bn (Lt f l):=by
 intro z i;unfold Lt at i;rcases DN.1 i with i|i;exact EC (by have:=hl.1;omega) z i;obtain⟨a,ha,i⟩:=xu.1 i;exact h a (hl.2 a ha) z i
theorem V2{k:Int}(h:Sl k):Bn (uv k.toNat):=λz i=>EC (by unfold Sl at h;omega) z i
theorem Wk{a:Attr}(h:bM a):Bn (FI a):=λz i=>by
 rcases DN.1 i with i|i;exact V2 h.1 z i;exact SA h.2 z i
theorem Wj{a:Chg}(h:ab a):Bn (Ew a):=λz i=>by
 rcases DN.1 i with i|i;exact V2 h.1 z i;rcases h.2 with⟨j,_⟩|⟨j,o⟩;rw[j] at i;exact EC (n:=0) E z i;rw[j] at i;exact SA o z i
theorem Wy{l:X_}(h:∀r∈l,Dc r):Bn (Ez l):=λz i=>by
 obtain⟨a,ha,i⟩:=xu.1 i;exact bG (h a ha) z i
theorem XK{o:Dop}(h:TO o):Bn (Ey o):=λz i=>by
 have hk:=TO.kind h;unfold Ey at i;rcases DN.1 i with i|i;exact EC E z i;rcases h with⟨h1,I,B,J,j⟩|⟨h1,I,B,J,j,O⟩|⟨h1,I,B,J,j⟩;rw[Cx h1] at i;rcases DN.1 i with i|i;exact EC E z i;exact OR (λa (h:ab a)=>Wj h) j z i;rw[Bp E,Cx h1] at i;rcases DN.1 i with i|i;unfold QM at i;rcases DN.1 i with i|i;exact EC E z i;exact Wy B z i;exact OR (λa (h:bM a)=>Wk h) j z i;rw[Bp E,Bp E,Cx h1] at i;exact EC E z i
theorem aD{x:V'}(h:Wm TO x):Bn (Ui x):=OR (λa (h:TO a)=>XK h) h
structure G9 (W:e_) (g:Nat) (vs:V_):Prop where
 cells:∀j u,vs[j]?=some u->W.cell? ⟨g,j,none⟩=some u
 Cb:∀j,j<vs.length->Cv W ⟨g,j,none⟩
section
variable {W W':e_}{g:Nat}{vs:V_}
theorem G9.U'(h:G9 W g vs)(m:AK M W W')(i:¬M g):G9 W' g vs:=⟨λj u hu=>m.cell (h.cells j u hu) i,λj o=>(h.Cb j o).U' m i⟩
theorem G9.st{u:d_}{K:e_->Prop}(h:G9 W g vs)(B:j<vs.length)(h1:u.oneCell'=true)(I:u.cells=#[u])(J:∀W',G9 W' g (vs.set j u)->AK (λz=>z=g) W W'->K W') :
  BZ j (g_ g) λq=>Cu q u K W:=by
 rw[AB,AH];refine(h.Cb j B).st h1 I (J _ ⟨λi y o=>?_,λi hi=>(h.Cb i (by simpa using hi)).set _ _⟩ (AK.setCell _ _ _ rfl));rw[xy] at o;split at o;rename_i e;subst e;first|(rw[Cx B] at o;cases o)|cases o
 exact cO _ _ _ (h.cells j _ (By B));rename_i e;rw[Of _ _ _ _ (by intro O;simp only[Addr.mk.injEq] at O;omega)];exact h.cells i y o
theorem G9.ld{n:Nat}(h:G9 W g vs)(i:vs.length=n)(o:K (.agg vs.toArray) W):DT n (g_ g) K W:=
 Ab i (λj u hu=>by rw[AH];exact h.cells j u hu) o
theorem G9.rK{n:Nat}{us:V_}{K:e_->Prop}(h:G9 W g vs)(B:vs.length=n)(hu:us.length=n)(h1:∀v∈us,v.oneCell'=true)(o:∀W',G9 W' g us->AK (λz=>z=g) W W'->K W') :
  Bu n (g_ g) (.agg us.toArray) K W:=
 CJ hu h1 (λj i=>by rw[AH];exact h.Cb j E) λW' m hc hl=>o W' ⟨λj u i=>by have:=hc j u i;rwa [AH] at this,λj i=>hl _ (h.Cb j E)⟩ m
theorem G9.new{t:TypeId}(o:∀g W',g=W.heap.size->W'.heap.size=W.heap.size+1->AI W W'->G9 W' g vs->K (g_ g) W'):Cl t vs K W:=by
 obtain⟨us,e,i⟩:=CN (t:=t) (vs:=vs) (K:=K) (w:=W) λb B h1 i I J O=>o b B h1 i I ⟨λj u hu=>by have:=J j u hu;rwa [AH] at this,λj Q=>by have:=O j Q;rwa [AH] at this⟩;have:us=vs:=by
  simpa using(tZ Array.toList (Value.agg.inj e)).symm
 subst this;exact i
end
section
variable {S:f_}{W W':e_}{c:Nat}{bv:d_}{b:X_}{p q:Nat}{bad:Bool}
variable (hb:∀x∈b,0<=x/\x<256)(hl:b.length<=1099511627776)
include hb hl
end
theorem AG.oX{B e k:Nat}{R:e_->V_->α->Prop}(j:B<=w.heap.size){r:V_}{x:α}(hr:r.length=k)(h1:∀u∈r,u.oneCell'=true)(o:R (w.alloc (.cells r.toArray e)) r x) :
  AG B e k R (w.alloc (.cells r.toArray e)) (.slice (h_ w.heap.size) 1 1) [x]:=by
 refine⟨[r],?_,rfl,λI h=>?_,λi I y h J=>?_⟩;exact⟨by simp[hr],.inr ⟨w.heap.size,1,r.toArray,rfl,j,(MapKept.heap_alloc w _).1,HK _,by simp[maxLen],by simp[hr],by simp[<-hr]⟩⟩;rw[so.1 h];exact⟨hr,h1⟩;cases i with
 |zero=>cases h;cases J;exact o
 |succ i=>simp at h
structure Om (S D:f_) (W:e_) (b:Nat) (sv:d_) (u:V'):Prop where
 bx:G9 W b [sv]
 rd:Ae S D W sv u
 lt:∀y,S y\/D y->y<W.heap.size/\y≠b
 RU:∀o∈u,Oh o
def Lv(W:e_)(b:Nat):Nat:=match W.cell? ⟨b,0,none⟩ with
 |some (.slice (some p) (n+1) _)=>(n+1)*2147483648+(match W.cell? (p.add 1) with | some (.int _ z)=>z.toNat%2147483648 | _=>0)
 |_=>0
def JN:V'->Nat
 |[]=>0
 |o::r=>(r.length+1)*2147483648+o.n.toNat%2147483648
theorem MQ(o:Dop)(r:V'):JN r<JN (o::r):=by
 cases r with
 |nil=>simp[JN,gC];omega
 |cons a r=>simp[JN,Hn];have:=aAF a.n.toNat (B_:2147483648>0);omega
section
variable {S D M:f_}{W W':e_}{b:Nat}{sv:d_}{u:V'}
theorem Om.VX(h:Om S D W b sv u):Lv W b=JN u:=by
 obtain⟨a,c,rfl,_⟩:=h.rd.AO;unfold Lv;rw[h.bx.cells 0 _ rfl];cases u with
 |nil=>cases a<;>rfl
 |cons o r=>
  obtain⟨p,q,rfl,_,I,hc,j⟩:=h.rd.get (i:=0) D_;obtain⟨O,B,J,rfl,_⟩:=j;have h1:=hc 1 _ rfl;simp only[yx,wS] at h1;simp only[Hn,JN];rw[h1];rfl
theorem Om.U'(h:Om S D W b sv u)(m:AK M W W')(hb:¬M b)(j:∀y,S y->¬M y)(o:∀y,D y->¬M y):Om S D W' b sv u:=
 ⟨h.bx.U' m hb,Ae.U' h.rd m (λy _ i=>j y i) λy _ i=>o y i,λy i=>⟨Nn (h.lt y i).1 m.size,(h.lt y i).2⟩,h.RU⟩
theorem Om.U_(h:Om S D W b sv u)(g:AI W W'):Om S D W' b sv u:=h.U' g E_ C0 C0
theorem Li(h:Om S D W b sv u):AF prog 44 [g_ b] (λv' w'=>v'=.bool (decide (u=[]))/\w'=W) W:=by
 apply H_ func44;obtain⟨a,c,rfl,_⟩:=h.rd.AO;apply AJ;rw[AB,AH];apply AD (h.bx.cells 0 _ rfl);rw[AP,Aj];refine⟨?_,rfl⟩;congr 1;rw[xX];cases u with
 |nil=>simp
 |cons o r=>simp;omega
theorem Ny(h:Om S D W b sv u):AF prog 45 [g_ b] (λv' w'=>v'=.int .u8 (R8 u)/\w'=W) W:=by
 apply H_ func45;apply AA (Li h);rintro _ _ ⟨rfl,rfl⟩;rename e_=>W;cases u with
 |nil=>
  rw[TC rfl];exact Ai ⟨rfl,rfl⟩
 |cons o r=>
  rw[WL D_];refine AS (AJ ?_);obtain⟨a,c,rfl,_⟩:=h.rd.AO;rw[AB,AH];apply AD (h.bx.cells 0 _ rfl);obtain⟨p,q,rfl,_,B,hc,J,sv,I,rfl,_⟩:=h.rd.get (i:=0) D_;apply AW (j:=0) D_;rw[AB,Addr.add_add];exact AD (hc 0 _ rfl) ⟨rfl,rfl⟩
def JP(n:Nat):V'->Nat
 |[]=>n
 |o::_=>min n (Ao o)
theorem SN(h:Om S D W b sv u)(hk:∀o r,u=o::r->o.kind≠2)(n:Nat):AF prog 49 [g_ b,zI n] (λv' w'=>v'=zI (JP n u:Nat)/\w'=W) W:=by
 apply G_ func49;apply AA (Li h);rintro _ _ ⟨rfl,rfl⟩;rename e_=>W;cases u with
 |nil=>
  rw[TC rfl];exact Ai ⟨rfl,rfl⟩
 |cons o r=>
  rw[WL D_];refine AS (AJ ?_);obtain⟨a,c,rfl,_⟩:=h.rd.AO;rw[AB,AH];apply AD (h.bx.cells 0 _ rfl);obtain⟨p,q,rfl,_,B,hc,J,sv,I,rfl,_⟩:=h.rd.get (i:=0) D_;apply AW (j:=0) D_;rw[AB,Addr.add_add];apply AD (hc 1 _ rfl);rw[Iv];refine⟨?_,rfl⟩;simp[zy,JP];rw[(iX (h.RU o D_) (hk o r rfl)).1];congr 1;split<;>omega
abbrev tO:V_:=[.int .u8 0,zI 0,i_,i_,i_]
theorem U6{o:Dop}(h:Om S D W b sv (o::u)):AF prog 47 [g_ b] (λv' w'=>∃r a1,v'=.agg r.toArray/\CW D w' r o/\Om S D w' b a1 u/\AK (λy=>y=b) W w') W:=by
 apply H_ func47;refine G9.new λg2 w1 ak al g1 b2=>AJ ?_;have an:b<W.heap.size:=q8 W _ (h.bx.cells 0 _ rfl);have h1:=h.U_ g1;obtain⟨a,c,rfl,_⟩:=h1.rd.AO;rw[AB,AH];apply AD (h1.bx.cells 0 _ rfl);obtain⟨p,q,rfl,_,Q,hc,U⟩:=h1.rd.get (i:=0) D_;apply AW (j:=0) D_;refine Ab Q m_ ?_;refine BJ Q rfl U.one λb3 w5 av ax V a6 a7=>AJ ?_;have h5:=h1.U_ V;have a8:G9 w5 b3 q:=⟨λj u hu=>by have:=a6 j u hu;rwa [AH] at this,λj hj=>by have:=a7 j hj;rwa [AH] at this⟩;have X:CW D w5 q o:=U.U' V F_ C0;rw[AB,AH];apply AD (h5.bx.cells 0 _ rfl);refine Ev (j:=1) (e:=50) (k:=5) (i:=Tryz.t50) C_ C_ C_ h5.rd D_ λv' Y=>AJ ?_;have Z:v'.oneCell'=true/\v'.cells=#[v']:=by obtain⟨a',c',rfl,_⟩:=Y.AO;exact⟨rfl,rfl⟩
 have s1:=g1.size;have s5:=V.size;refine h5.bx.st (j:=0) D_ Z.1 Z.2 λw8 b8 O=>?_;have s8:=O.size;have nD:∀y,D y->y≠b:=λy B=>(h.lt y (.inr B)).2;have nS:∀y,S y->y≠b:=λy B=>(h.lt y (.inl B)).2;have J:CW D w8 q o:=X.U' O (λy _ B e=>nD y B e) C0;apply(a8.U' O E).ld Q;refine((b2.U' V E_).U' O E).rK rfl Q J.one λay aa I=>?_;have b0:=I.size;have lt:∀y,S y\/D y->y<W.heap.size:=λy B=>(h.lt y B).1;refine aa.ld Q ⟨q,v',rfl,J.U' I (λy _ B e=>by have:=lt y (.inr B);omega) C0,⟨b8.U' I E,?_,λy B=>⟨by have:=lt y B;omega,(h.lt y B).2⟩,λx hx=>h.RU x (by simp[hx])⟩,?_⟩;have e1:=Ae.U' Y O (λy _ B e=>nS y B e) λy _ B e=>nD y B e;exact Ae.U' e1 I (λy _ B e=>by have:=lt y (.inl B);omega) λy _ B e=>by have:=lt y (.inr B);omega
 exact(((g1.trans V).mono λ_ _ e=>e.elim:AK (λy=>y=b) W w5).trans O).next I E
theorem MZ{o:Dop}{r:V'}(h:Oh o)(k:o.kind≠2){n:Nat}(h1:1<=n):JN (CX n (o::r))<JN (o::r):=by
 simp[CX];split;have e:=iX h k;have hl:=h.le;simp[JN,EX,k];omega;exact MQ o r
theorem gQ{o:Dop}(h:Oh o)(k:o.kind≠2){n:Nat}(i:n<Ao o):Oh (EX n o):=⟨by rw[XC];exact h.k,by rw[OS E];omega,by rw[OS E];have:=h.le;omega⟩
theorem SY(h:Om S D W b sv u)(hk:∀o r,u=o::r->o.kind≠2){n:Nat}(ez:1<=n)(eA:n<=536870912)(hn:∀o r,u=o::r->n<=Ao o)(e9:u.length<=1099511627776) :
  AF prog 50 [g_ b,zI n] (λv' w'=>∃ r o S' O,v'=.agg r.toArray/\CW D w' r o/\Om S' D w' b O (CX n u)/\(∀ y,S' y->S y\/W.heap.size<=y)/\AK (λy=>y=b) W w'/\
   ((u=[]/\o=⟨1,n,[],[],[]⟩)\/∃ o1 u1,u=o1 :: u1/\o=Fg n o1)) W:=by
 refine G_ func50 ?_ (.y (.y (.y (.y (.y (.y (.cut [] [(36,46)] (.dt [2,7,8,11] (k_ [0,0,2,0,8,24,56,120,254,511,1023,2047]) [[2,7,8]] (.op 0 (.op 1 (.op 3 (.op 4 (.op 5 (.op 6 (.br (.op 2 (.op 7 (.op 8 (.op 9 (.op 10 (.op 11 .nil)))))) (.op 7 (.op 2 (.op 8 (.op 9 (.op 10 (.op 11 .nil)))))))))))))) .nil)))))));refine G9.new λg4 w1 eB eC g1 b4=>?_;have eI:b<W.heap.size:=q8 W _ (h.bx.cells 0 _ rfl);have lt:∀y,S y\/D y->y<W.heap.size:=λy I=>(h.lt y I).1;have nb:∀y,S y\/D y->y≠b:=λy I=>(h.lt y I).2;have h1:=h.U_ g1;have s1:=g1.size;apply AA (Li h1);rintro _ _ ⟨rfl,rfl⟩;rename e_=>w1;cases u with
 |nil=>
  rw[TC rfl];refine Ai ⟨#[.int .u8 1,zI n,i_,i_,i_],C_,?_⟩;refine b4.rK (n:=5) (us:=[.int .u8 1,zI n,i_,i_,i_]) rfl rfl (by simp[Value.oneCell']) λw3 b3 m3=>?_;exact b3.ld (n:=5) rfl ⟨_,⟨1,n,[],[],[]⟩,S,sv,rfl,⟨_,_,_,rfl,BC.nil,BC.nil,BC.nil⟩,h1.U' m3 E (λy I e=>by have:=lt y (.inl I);omega) (λy I e=>by have:=lt y (.inr I);omega),λy I=>.inl I,(g1.mono λ_ _ e=>e.elim:AK (λy=>y=b) W w1).next m3 E,.inl ⟨rfl,rfl⟩⟩
 |cons o r=>
  rw[WL D_];refine AS (AJ ?_);have ho:=h.RU o D_;have k2:=hk o r rfl;have en:=(iX ho k2).1;have eL:=hn o r rfl;have eN:=ho.le;obtain⟨a,c,rfl,_⟩:=h1.rd.AO;rw[AB,AH];apply AD (h1.bx.cells 0 _ rfl);obtain⟨p,q,rfl,_,hq,hc,ba⟩:=h1.rd.get (i:=0) D_;apply AW (j:=0) D_;refine Ab hq m_ ?_;have a1:=ba.one;refine BJ hq rfl a1 λb5 w7 eR eV g7 c7 c8=>?_;have h7:=h1.U_ g7;have s7:=g7.size;have b7:G9 w7 b5 q:=⟨λj u hu=>by have:=c7 j u hu;rwa [AH] at this,λj hj=>by have:=c8 j hj;rwa [AH] at this⟩;have al:CW D w7 q o:=ba.U' g7 F_ C0;have c9:=b4.U' g7 E_;clear c7 c8 ba hc;have sh:=al;obtain⟨Z,O,V,rfl,_⟩:=sh;rw[AB,AH];apply AD (b7.cells 1 _ rfl);rw[Aj];have ca:=g1.trans g7;refine AE (λe=>?_) λe=>?_;have e1:n=Ao o:=E;apply AJ;rw[AB,AH];apply AD (h7.bx.cells 0 _ rfl);refine Ev (j:=1) (e:=50) (k:=5) (i:=Tryz.t50) C_ C_ C_ h7.rd D_ λv' a6=>AJ ?_;have cc:v'.oneCell'=true/\v'.cells=#[v']:=by obtain⟨a',c',rfl,_⟩:=a6.AO;exact⟨rfl,rfl⟩
  refine h7.bx.st (j:=0) D_ cc.1 cc.2 λw8 b8 m8=>?_;have s8:=m8.size;apply(b7.U' m8 E).ld (n:=5) rfl;refine(c9.U' m8 E).rK (n:=5) rfl rfl a1 λeX ea an=>?_;have fo:=an.size;have e2:Ae S D w8 v' r:=Ae.U' a6 m8 (λy _ I e=>nb y (.inl I) e) λy _ I e=>nb y (.inr I) e;have e3:CX n (o::r)=r:=by simp[CX,e1]
  rw [e3];exact ea.ld (n:=5) rfl ⟨_,o,S,v',rfl,(al.U' m8 (λy _ I e=>nb y (.inr I) e) C0).U' an (λy _ I e=>by have:=lt y (.inr I);omega) C0,⟨b8.U' an E,Ae.U' e2 an (λy _ I e=>by have:=lt y (.inl I);omega) λy _ I e=>by have:=lt y (.inr I);omega,λy I=>⟨by have:=lt y I;omega,nb y I⟩,λx hx=>h.RU x (by simp [hx])⟩,λy I=>.inl I,
   ((ca.mono λ_ _ e=>e.elim:AK (λy=>y=b) W w7).trans m8).next an E,.inr ⟨o,r,rfl,by rw [e1,bP ho]⟩⟩
  have ch:n<Ao o:=E;apply b7.ld (n:=5) rfl;refine BJ (n:=5) rfl rfl a1 λb6 cu fs fv a7 cx dj=>?_;have dk:G9 cu b6 [.int .u8 o.kind,zI o.n,Z,O,V]:=⟨λj u hu=>by have:=cx j u hu;rwa [AH] at this,λj hj=>by have:=dj j hj;rwa [AH] at this⟩;clear cx dj;have fx:=a7.size;rw[AB,AH];apply AD (dk.cells 1 _ rfl);rw[A6,wrap64 E E];refine dk.st (j:=1) D_ rfl rfl λJ ec a8=>?_;have gf:=a8.size;have ed:Om S D J b _ (o::r):=(h7.U_ a7).U' a8 E (λy I e=>by have:=lt y (.inl I);omega) λy I e=>by have:=lt y (.inr I);omega
  have bb:=(al.U' a7 F_ C0).U' a8 (λy _ I e=>by have:=lt y (.inr I);omega) C0;have ee:AK (λy=>y=b) W J:=((ca.trans a7).mono λ_ _ e=>e.elim:AK (λy=>y=b) W cu).next a8 E
  refine AV (λ_ W'=>∃S' sw,Om S' D W' b sw (EX n o::r)/\(∀y,S' y->J.heap.size<=y)/\CW D W' [.int .u8 o.kind,zI o.n,Z,O,V] o/\G9 W' b5 [.int .u8 o.kind,zI o.n,Z,O,V]/\G9 W' g4 tO/\AK (λy=>y=b) W W') ?_ ?_;rintro _ W' ⟨S',sw,ht,bk,dr,ef,eh,hM⟩ _;refine ef.st (j:=1) D_ rfl rfl λei ej av=>?_;have gl:=av.size;have dT:G9 ei b5 [.int .u8 o.kind,zI n,Z,O,V]:=ej;apply dT.ld (n:=5) rfl;have e4:∀v∈[Value.int .u8 o.kind,zI n,Z,O,V],v.oneCell'=true:=λv hv=>by
   have h3:∀v∈[Z,O,V],v.oneCell'=true:=λv hv=>a1 v (by simp[I3] at hv ⊢;exact .inr (.inr hv));rcases I3.1 hv with rfl|hv;rfl;rcases I3.1 hv with rfl|hv;rfl;exact h3 v hv
  refine(eh.U' av E).rK (n:=5) rfl rfl e4 λek eo bl=>?_;have gm:b5<J.heap.size/\g4<J.heap.size:=E;have oo:CW D ek [.int .u8 o.kind,zI n,Z,O,V] (Fg n o):=by
   have:=(dr.U' av (λy _ I e=>by have:=lt y (.inr I);omega) C0).U' bl (λy _ I e=>by have:=lt y (.inr I);omega) C0;obtain⟨_,_,_,e0,d1,d2,d3⟩:=this;cases e0;rw[show Fg n o=⟨o.kind,n,o.AY,o.set,o.patch⟩ by simp[Fg,k2]];exact⟨_,_,_,rfl,d1,d2,d3⟩
  have e3:CX n (o::r)=EX n o::r:=by simp[CX,ch]
  rw [e3];exact eo.ld (n:=5) rfl ⟨_,_,S',sw,rfl,oo,(ht.U' av E (λy I e=>by have:=bk y I;omega) (λy I e=>by have:=lt y (.inr I);omega)).U' bl E (λy I e=>by have:=bk y I;omega) (λy I e=>by have:=lt y (.inr I);omega),λy I=>.inr (by have:=bk y I;omega),(hM.next av E).next bl E,.inr ⟨o,r,rfl,rfl⟩⟩;have gd:AI J J.drew:=AK.drew _ _;have gp:J.drew.heap.size=J.heap.size:=rfl;have hd:=ed.U_ gd;have ax:=bb.U' gd F_ C0;apply Ag (λk y=>(k=11/\y=b)\/(k=8/\J.heap.size<=y));refine DF (vs:=[_,_,_,_,_]) rfl (λj u hu=>⟨by rw [AH];exact gd.cell (ec.cells j u hu) E_,λj' _ e=>by rw [Av] at e;have:b6=b\/J.heap.size<=b6:=e.imp (λh=>h.2) λh=>h.2;omega⟩) ?_;apply AJ;rw [AB,AH];refine AU ⟨hd.bx.cells 0 _ rfl,λj hj e=>by
   rcases e with ⟨rfl,_⟩ | ⟨_,e⟩;exact absurd hj B_;have:J.heap.size<=b:=e;omega⟩ ?_
  have bp:∀{W'},AI J.drew W'->CW D W' [.int .u8 o.kind,zI (o.n-n),Z,O,V] (EX n o):=λ{W'} g=>by
   have:=ax.U' g F_ C0;obtain⟨_,_,_,e0,d1,d2,d3⟩:=this;cases e0;rw[show EX n o=⟨o.kind,o.n-n,o.AY,o.set,o.patch⟩ by simp[EX,k2]];exact⟨_,_,_,rfl,d1,d2,d3⟩
  have b9:∀{aa bs:d_} {W1:e_},AI J.drew W1->AG J.heap.size 50 5 (CW D) W1 aa [EX n o]->Ae S D W1 bs r->
    runK prog (Builtin.append_ #[24,24] 24 [aa,bs].toArray) (λep Q=>AK (λy=>(8=11/\y=b)\/(8=8/\J.heap.size<=y)) W1 Q/\Ar (g_ b) λew=>BZ 0 ew λey=>Cu ey ep (λX=>AK (λy=>(11=11/\y=b)\/(11=8/\J.heap.size<=y)) Q X/\
     (∃ S' sw,Om S' D X b sw (EX n o :: r)/\(∀ y,S' y->J.heap.size<=y)/\CW D X [.int .u8 o.kind,zI o.n,Z,O,V] o/\G9 X b5 [.int .u8 o.kind,zI o.n,Z,O,V]/\G9 X g4 tO/\AK (λy=>y=b) W X)) Q) W1:=by
   intro aa bs W1 gg e5 er;have sg:=gg.size;have ak:∀y,aa.ownBlock=some y->J.heap.size<=y:=λy I=>(AG.Az e5 y I).1;simp[Hn] at e9;obtain⟨c4,Q,et,c6,gb,gq⟩:=AG.append (ty:=24) HC e5 er (λ_ _=>CW.one) (by simp[Hn,gC];omega) E (by simp[Hn,gC,maxLen];omega) λw' hg r y I=>I.U' (AK.BQ hg) (λz _ hz e=>by have:=ak z e;have:=lt z (.inr hz);omega) C0;have U:=AK.BQ gb;have gr:=U.size;have gu:=(gd.trans gg).next U λz hz e=>by have:=ak z e;omega
   have ay:=AG.one c6;have e6:∀z,c4.ownBlock=some z->J.heap.size<=z/\z<Q.heap.size:=λz hz=>AG.Az c6 z hz;refine AZ et ⟨U.mono λz _ e=>.inr ⟨rfl,ak z e⟩,AJ ?_⟩;have e7:aa.ownBlock≠some b:=λe=>by have:=ak b e;omega
   refine((hd.bx.U' gg E_).U' U e7).st (j:=0) D_ ay.1 ay.2 λX eu Y=>?_;have gv:=Y.size;have e8:∀y,y<Q.heap.size->D y->¬y=b:=λy _ I=>nb y (.inr I);have nw:∀{x:Nat},x<J.heap.size->aa.ownBlock≠some x:=λhx e=>by have:=ak _ e;omega
   refine⟨Y.mono λz _ e=>.inl ⟨rfl,e⟩,λy=>J.heap.size<=y/\y<Q.heap.size,c4,⟨eu,?_,λy I=>?_,λx hx=>?_⟩,λy I=>I.1,?_,?_,?_,?_⟩;have e1:Ae (λy=>J.heap.size<=y/\y<Q.heap.size) D Q c4 (EX n o::r):=BC.sub (AG.sl c6) (λz _ hz=>e6 z hz.2) B_ C0;exact Ae.U' e1 Y E e8;rcases I with I|I;omega;exact⟨by have:=lt y (.inr I);omega,nb y (.inr I)⟩;rcases I3.1 hx with rfl|hx;exact gQ ho k2 ch;exact h.RU x (by simp[hx]);exact((ax.U' gg F_ C0).U' U (λy _ I=>nw (by have:=lt y (.inr I);omega)) C0).U' Y e8 C0;exact(((((b7.U' a7 E_).U' a8 E).U' gd E_).U' gg E_).U' U (nw E)).U' Y E;exact(((((c9.U' a7 E_).U' a8 E).U' gd E_).U' gg E_).U' U (nw E)).U' Y E;exact((ee.trans ((gd.trans gg).mono E')).next U λy I e=>by have:=ak y e;omega).trans Y
  have b0:Instr.fill (λi=>some (i*5,5)) ((Array.range (1*5)).map (tO.toArray[· % tO.toArray.size]!)) [(0,.agg [Value.int .u8 o.kind,zI (o.n-n),Z,O,V].toArray)]=some [Value.int .u8 o.kind,zI (o.n-n),Z,O,V].toArray:=by
   obtain⟨_,_,_,e0,d1,d2,d3⟩:=ax;cases e0;obtain⟨_,_,rfl,_⟩:=d1.AO;obtain⟨_,_,rfl,_⟩:=d2.AO;obtain⟨_,_,rfl,_⟩:=d3.AO;kernel_rfl
  have CH:∀v∈[Value.int .u8 o.kind,zI (o.n-n),Z,O,V],v.oneCell'=true:=(bp (AK.refl _ _)).one;refine⟨?_,?_⟩;refine GY b0 ⟨AK.alloc _ _ _,?_⟩;have ga:AI J.drew (J.drew.alloc (.cells [Value.int .u8 o.kind,zI (o.n-n),Z,O,V].toArray 50)):=AK.alloc _ _ _;exact Ev (j:=1) (e:=50) (k:=5) (i:=Tryz.t50) C_ C_ C_ (hd.U_ ga).rd D_ λv' a6=>⟨AK.refl _ _,b9 ga (AG.oX (B:=J.heap.size) (e:=50) (k:=5) (R:=CW D) (w:=J.drew) (x:=EX n o) (HK _) rfl CH (bp ga)) a6⟩;refine Ev (j:=1) (e:=50) (k:=5) (i:=Tryz.t50) C_ C_ C_ hd.rd D_ λv' a6=>⟨AK.refl _ _,?_⟩;refine GY b0 ⟨AK.alloc _ _ _,?_⟩;have ga:AI J.drew (J.drew.alloc (.cells [Value.int .u8 o.kind,zI (o.n-n),Z,O,V].toArray 50)):=AK.alloc _ _ _;exact b9 ga (AG.oX (B:=J.heap.size) (e:=50) (k:=5) (R:=CW D) (w:=J.drew) (x:=EX n o) (HK _) rfl CH (bp ga)) (Ae.U_ a6 ga)
end
theorem UT{v o:d_}{p:Z_}{j:Chg->Bool}(h:Eg S w v p)(B:SJ (AI w) o j) :
  AF prog 106 [v,o] (λv' w'=>v'=.bool (p.any j)/\AI w w') w:=by
 apply G_ func106;apply AA (YT h B);rintro _ O ⟨g,⟨rfl,I⟩|⟨i,hi,rfl,J,_⟩⟩;rw[DR];refine⟨?_,g⟩;rw[show p.any j=false from yX.2 λc hc=>by rw[I c hc];decide];rfl;rw[DR];refine⟨?_,g⟩;rw[show p.any j=true from yO.2 ⟨p[i],Q0 hi,J⟩,TC E]
theorem Zv{k:Int}{d:Chg}{b:Nat}(h:w.cell? ⟨b,0,none⟩=some (zI k)) :
  AF prog 107 [.agg d.cells.toArray,g_ b] (λv' w'=>v'=.bool (decide (d.key=k))/\AI w w') w:=by
 apply G_ func107;refine CN λI J o B j i _=>?_;rw[AB];apply AD (i 0 _ rfl);rw[AB,AH];apply AD (j.cell h E_);rw[Aj];exact⟨rfl,j⟩
theorem im{B:d_}{c:Chg}{b:Nat}(J:Eg S w B q)(h:w.cell? ⟨b,0,none⟩=some B) :
  AF prog 105 [.agg c.cells.toArray,g_ b] (λv' w'=>v'=.bool (q.any λd=>decide (d.key=c.key))/\AI w w') w:=by
 apply G_ func105;refine CN λi I O Q j o _=>?_;apply AD (j.cell h E_);have c0:I.cell? ⟨i,0,none⟩=some (zI c.key):=by have:=o 0 _ rfl;rwa [AH] at this
 have U:SJ (AI I) (.func (.func 107) #[] #[g_ i]) λd=>decide (d.key=c.key):=by
  intro W d K m V;refine .inl ⟨_,[],[g_ i],rfl,C_,?_⟩;apply AA (Zv (m.cell c0 E_));rintro _ Y ⟨rfl,g⟩;exact V Y g
 apply AA (UT (J.U_ j B_ C0) U);rintro _ Z ⟨rfl,X⟩;exact⟨rfl,j.trans X⟩
theorem iO{X j:d_}{p q:Z_}(hp:Eg S w X p)(Y:Eg S' w j q)(hl:p.length<=1099511627776) :
  AF prog 52 [X,j] (λv' w'=>Eg (λx=>w.heap.size<=x) w' v' (KH p q)/\AI w w') w:=by
 apply G_ func52;have J:j.cells=#[j]:=by obtain⟨a,c,rfl,_⟩:=Y.AO;rfl
 have O:Eg (λx=>S' x/\x<w.heap.size) w j q:=Y.sub (λx B h=>⟨h,B⟩) B_ C0;refine⟨J,EJ λI Q a1 a6 U V _=>?_⟩;apply AA (Nv (hp.U_ U B_ C0) E);rintro v3 w3 ⟨Z,g3⟩;have c3:Q.cell? ⟨I,0,none⟩=some j:=by have:=V 0 _ rfl;rwa [AH] at this
 have i:∀x,v3.ownBlock=some x->Q.heap.size<=x:=λx e=>(AG.Az Z x e).1;have o:=U.trans g3;have s1:=U.size;have tl:SJ (AK (λx=>v3.ownBlock=some x) w3) (.func (.func 105) #[] #[g_ I]) λc=>q.any λd=>decide (d.key=c.key):=by
  intro W c K m hK;refine .inl ⟨_,[],[g_ I],rfl,C_,?_⟩;refine AA (im ((O.U_ o B_ C0).U' m (λx _ B e=>?_) B_ C0) (m.cell (g3.cell c3 E_) λe=>?_)) ?_;have:=i _ e;have:=B.2;omega;have h:Q.heap.size<=I:=i _ e;omega;rintro _ W' ⟨rfl,g⟩;exact hK W' g
 apply AA (Yh Z hl tl);rintro v4 w4 ⟨h4,m4⟩;refine⟨BC.sub h4 (λx _ e=>by have:=i x e;omega) B_ C0,?_⟩;exact o.next m4 λx B e=>by have:=i x e;omega
section
variable {ks:Y'}
theorem cE{o:Dop}{n:Nat}(h:Ax ks o)(B:n<Ao o):Ax ks (EX n o):=by
 rcases h with⟨k1,k2,i,j,I⟩|⟨k1,k2,i,j,I⟩|⟨k1,k2,i,j,I,J⟩;unfold EX;simp[Ao,(E:o.kind≠2)] at B;rw[Bp E];exact .inl ⟨k1,k2,i,by simp only;omega,I⟩;unfold EX;simp[Ao,(E:o.kind≠2)] at B;rw[Bp E];exact .inr (.inl ⟨k1,k2,i,j,by simp only;omega⟩);unfold EX;rw[Cx k1];simp[Ao,k1] at B;refine .inr (.inr ⟨rfl,λr hr=>k2 r (aR hr),i,j,?_,J⟩);intro e;have:=tZ List.length e;simp at this;omega
theorem OV{n:Nat}{x:V'}(h:∀o∈x,Ax ks o):∀o∈CX n x,Ax ks o:=by
 cases x with
 |nil=>intro o i;simp[CX] at i
 |cons a x=>
  intro o i;simp[CX] at i;split at i;rcases I3.1 i with rfl|i;exact cE (h a D_) (by assumption);exact h o (by simp[i]);exact h o (by simp[i])
end
section
variable {w W0 W W' We:e_}{Sx Dx Sy Dy F:f_}{b c d:Nat}{u v:V'}{s s':MkS}
end
section
variable {ks:Y'}
theorem Qj(o:Dop)(x:V'):Aw (o::x)=Ao o+Aw x:=by simp[Aw]
theorem WU{o:Dop}{x:V'}:CX (Ao o) (o::x)=x:=by simp[CX]
end
theorem mr{a0 j i a3 a4:d_}:(Instr.field 50 (.agg #[a0,j,i,a3,a4]) 2).run prog w=.ok i w:=C_
theorem lx{A_ S D S' D':f_}{sv xv yv:d_}{x y:V'}(j:Cg A_ w sv ks)(I:Ae S D w xv x)(J:Ae S' D' w yv y)(B:DV w)(O:∀o∈x,oj o)(Q:∀o∈y,oj o)(mx:CU ks x=0)(U:CU ks y=0) :
  AF prog 41 [sv,xv,yv] (λv' w'=>v'=zI 0/\AI w w') w:=by
 apply I' func41;apply AA (Km j I B O);rintro _ X ⟨rfl,i⟩;apply AA (Km (j.U_ i) (Ae.U_ J i) (B.U_ i) Q);rintro _ Y ⟨rfl,V⟩;rw[mx,U,Aj];exact AE (λ_=>⟨rfl,i.trans V⟩) λe=>(e rfl).elim
structure TI (w W:e_) (b c d:Nat) (Dx Dy F Sx Sy:f_) (WQ YF:d_) (u v:V') (s:MkS):Prop where
 mm:Ii F W b s
 fl:∀z,F z->z<W.heap.size/\w.heap.size<=z
 rx:Om Sx Dx W c WQ u
 ry:Om Sy Dy W d YF v
 nf:∀z,(Sx z\/Dx z\/z=c)\/(Sy z\/Dy z\/z=d)->¬F z
 nx:∀z,Sx z\/Dx z\/z=c->z≠d
 ny:∀z,Sy z\/Dy z\/z=d->z≠c
 g:AI w W
 lo:w.heap.size<=c/\w.heap.size<=d
section
variable {w W W':e_}{b c d:Nat}{Dx Dy F Sx Sy F1 S1:f_}{WQ YF WR:d_}{u v u1 v1:V'}{s s':MkS}
theorem Om.box(h:Om Sx Dx W c WQ u):c<W.heap.size:=q8 W _ (h.bx.cells 0 _ rfl)
theorem TI.U_(h:TI w W b c d Dx Dy F Sx Sy WQ YF u v s)(g:AI W W'):TI w W' b c d Dx Dy F Sx Sy WQ YF u v s:=
 ⟨h.mm.U' g C0,λz i=>⟨Nn (h.fl z i).1 g.size,(h.fl z i).2⟩,h.rx.U_ g,h.ry.U_ g,h.nf,h.nx,h.ny,h.g.trans g,h.lo⟩
theorem TI.told(h:TI w W b c d Dx Dy F Sx Sy WQ YF u v s)(q:Ii F1 W' b s')(hF:∀z,F1 z->F z\/W.heap.size<=z)(m:AK F W W'):TI w W' b c d Dx Dy (λz=>F1 z/\z<W'.heap.size) Sx Sy WQ YF u v s':=by
 have j:=h.g.size;refine⟨q.cut,λz i=>⟨i.2,?_⟩,h.rx.U' m (h.nf c (.inl (.inr (.inr rfl)))) (λz i=>h.nf z (.inl (.inl i))) λz i=>h.nf z (.inl (.inr (.inl i))),h.ry.U' m (h.nf d (.inr (.inr (.inr rfl)))) (λz i=>h.nf z (.inr (.inl i))) λz i=>h.nf z (.inr (.inr (.inl i))),λz i e=>?_,h.nx,h.ny,h.g.next m λz i e=>by have:=(h.fl z e).2;omega,h.lo⟩;rcases hF z i.1 with e|e;exact(h.fl z e).2;omega;rcases hF z e.1 with e|e;exact h.nf z i e;have h1:=h.rx.box;have o:=h.ry.box;rcases i with(i|i|i)|(i|i|i);have:=(h.rx.lt z (.inl i)).1;omega;have:=(h.rx.lt z (.inr i)).1;omega;omega;have:=(h.ry.lt z (.inl i)).1;omega;have:=(h.ry.lt z (.inr i)).1;omega;omega
theorem TI.oq(h:TI w W b c d Dx Dy F Sx Sy WQ YF u v s)(m:AK (λz=>z=c) W W')(r:Om S1 Dx W' c WR u1)(j:∀z,S1 z->Sx z\/W.heap.size<=z):TI w W' b c d Dx Dy F S1 Sy WR YF u1 v s:=by
 have o:=h.ry.box;refine⟨h.mm.U' m λz i e=>h.nf z (.inl (.inr (.inr e))) i,λz i=>⟨Nn (h.fl z i).1 m.size,(h.fl z i).2⟩,r,h.ry.U' m (λe=>h.ny d (.inr (.inr rfl)) e) (λz i e=>h.ny z (.inl i) e) λz i e=>h.ny z (.inr (.inl i)) e,λz i e=>?_,λz i e=>?_,h.ny,h.g.next m λz i e=>by have:=h.lo.1;omega,h.lo⟩;rcases i with(i|i)|i;rcases j z i with i|i;exact h.nf z (.inl (.inl i)) e;have:=(h.fl z e).1;omega;exact h.nf z (.inl (.inr i)) e;exact h.nf z (.inr i) e;rcases i with i|i;rcases j z i with i|i;exact h.nx z (.inl i) e;omega;exact h.nx z (.inr i) e
theorem TI.pG(h:TI w W b c d Dx Dy F Sx Sy WQ YF u v s)(m:AK (λz=>z=d) W W')(r:Om S1 Dy W' d WR v1)(j:∀z,S1 z->Sy z\/W.heap.size<=z):TI w W' b c d Dx Dy F Sx S1 WQ WR u v1 s:=by
 have o:=h.rx.box;refine⟨h.mm.U' m λz i e=>h.nf z (.inr (.inr (.inr e))) i,λz i=>⟨Nn (h.fl z i).1 m.size,(h.fl z i).2⟩,h.rx.U' m (λe=>h.nx c (.inr (.inr rfl)) e) (λz i e=>h.nx z (.inl i) e) λz i e=>h.nx z (.inr (.inl i)) e,r,λz i e=>?_,h.nx,λz i e=>?_,h.g.next m λz i e=>by have:=h.lo.2;omega,h.lo⟩;rcases i with i|(i|i);exact h.nf z (.inl i) e;rcases j z i with i|i;exact h.nf z (.inr (.inl i)) e;have:=(h.fl z e).1;omega;exact h.nf z (.inr (.inr i)) e;rcases i with i|i;rcases j z i with i|i;exact h.ny z (.inl i) e;omega;exact h.ny z (.inr i) e
end
section
variable {ks:Y'}
theorem RN{s:MkS}{t n:Nat}{p:Z_}(h:H6 (GK ks) (Ei ks) s t)(hp:Ei ks p)(i:1<=n)(ht:t+n<=16777216):H6 (GK ks) (Ei ks) (GM s n p) (t+n):=by
 have:=LJ h (o:=⟨1,n,[],[],p⟩) (.inl ⟨rfl,rfl,rfl,by simp only;omega,hp⟩) (by simp[Ao];omega);simpa[BX,Ao] using this
theorem di{s:MkS}{t n:Nat}(h:H6 (GK ks) (Ei ks) s t)(i:1<=n)(ht:t+n<=16777216):H6 (GK ks) (Ei ks) (KC s n) (t+n):=by
 have:=LJ h (o:=⟨3,n,[],[],[]⟩) (.inr (.inl ⟨rfl,rfl,rfl,rfl,by simp only;omega⟩)) (by simp[Ao];omega);simpa[BX,Ao] using this
theorem Ax.uy{o:Dop}(h:Ax ks o):Ei ks o.patch:=by
 rcases h with⟨_,_,_,_,h⟩|⟨_,_,_,h,_⟩|⟨_,_,_,h,_,_⟩;exact h;rw[h];exact Ek;rw[h];exact Ek
end
section
variable {ks:Y'}
theorem O9{u:V'}(h:∀o∈u,Oh o)(k:∀a r,u=a::r->a.kind≠2){n:Nat}(h1:1<=n):JN (CX n u)<=JN u:=by
 cases u with
 |nil=>exact HK _
 |cons a r=>exact Nat.le_of_lt (MZ (h a D_) (k a r rfl) h1)
theorem Jh{A_ S D S' D':f_}{sv xv yv:d_}{x y:V'}{f:Bool}(hS:Cg A_ w sv ks)(hx:Ae S D w xv x)(hy:Ae S' D' w yv y)(hT:DV w)(ix:∀o∈x,oj o)(iy:∀o∈y,oj o)(mx:CU ks x=0)(my:CU ks y=0)
 (bx:Aa x<=68719476736)(cc:Aa y<=68719476736)(gx:∀o∈AL x,Ax ks o)(gy:∀o∈AL y,Ax ks o)(hb:Aw (AL x)+Aw (AL y)<=16777216)
 (hp:∀z∈BL f (AL x) (AL y),Ax ks z)(ew:Aw (BL f (AL x) (AL y))<=16777216) :
  AF prog 10 [sv,xv,yv,.bool f] (λv' w'=>∃zv,v'=.tuple #[zv,zI 0]/\CZ w.heap.size w' zv (AL (BL f (AL x) (AL y)))/\AI w w') w:=by
 refine O_ func10 ?_ (.y (.y (.y (.y (.y (.x (.node [] [(14,17),(35,103)] (.y (.x (.cut [38] [(38,49)] .nil .nil))) .nil)))))));apply AA (lx hS hx hy hT ix iy mx my);rintro _ w1 ⟨rfl,g1⟩;refine KU ?_;apply AA LC;rintro _ w2 ⟨g2,b,ey,eB,rfl,ch⟩;apply AA (Tu (Ae.U_ hx (g1.trans g2)) bx);rintro av w3 ⟨oa,g3⟩;have cu:=(AG.sl oa).AO;obtain⟨aa,ac,cx,_⟩:=cu;refine⟨#[av],by subst cx;kernel_rfl,?_⟩;refine CN (vs:=[av]) λc w4 hc dj g4 b8 b9=>?_;apply AA (Tu (Ae.U_ hy (((g1.trans g2).trans g3).trans g4)) cc);rintro bv w5 ⟨ob,g5⟩;have dk:=(AG.sl ob).AO;obtain⟨ba,bc,dr,_⟩:=dk;refine⟨#[bv],by subst dr;kernel_rfl,?_⟩;refine CN (vs:=[bv]) λd w6 hd eC g6 bb bk=>?_;have s1:=g1.size;have s2:=g2.size;have s3:=g3.size;have s4:=g4.size;have s5:=g5.size;have s6:=g6.size;have ak:=(g4.trans g5).trans g6;generalize AL x=X at *;generalize AL y=Y at *;have Q:∀{q:V'} {o:Dop},o∈q->Ao o<=Aw q:=λh=>LY h;have rx:Om (λz=>w2.heap.size<=z/\z<w3.heap.size) (λz=>w2.heap.size<=z/\z<w3.heap.size) w6 c av X:=
  ⟨⟨λj u hu=>by have:=(g5.trans g6).cell (b8 j u hu) E_;rwa [AH] at this,λj hj=>by have:=(b9 j hj).U' (g5.trans g6) E_;rwa [AH] at this⟩,Ae.U_ (CZ.reads oa) ak,λz i=>by have:w2.heap.size<=z/\z<w3.heap.size:=i.elim id id;omega,λo J=>Ax.RU (gx o J) (by have:=Q J;omega)⟩
 have ry:Om (λz=>w4.heap.size<=z/\z<w5.heap.size) (λz=>w4.heap.size<=z/\z<w5.heap.size) w6 d bv Y:=
  ⟨⟨λj u hu=>by have:=bb j u hu;rwa [AH] at this,λj hj=>by have:=bk j hj;rwa [AH] at this⟩,Ae.U_ (CZ.reads ob) g6,λz i=>by have:w4.heap.size<=z/\z<w5.heap.size:=i.elim id id;omega,λo J=>Ax.RU (gy o J) (by have:=Q J;omega)⟩
 have ti:TI w w6 b c d (λz=>w2.heap.size<=z/\z<w3.heap.size) (λz=>w4.heap.size<=z/\z<w5.heap.size) (λz=>z=b) (λz=>w2.heap.size<=z/\z<w3.heap.size) (λz=>w4.heap.size<=z/\z<w5.heap.size) av bv X Y MkS.z:=by
  refine⟨ch.U' (g3.trans ak) C0,λz i=>by subst i;omega,rx,ry,λz i e=>?_,λz i e=>?_,λz i e=>?_,((g1.trans g2).trans g3).trans ak,E⟩;subst e;rcases i with(i|i|i)|(i|i|i);have:=i.1;omega;have:=i.1;omega;omega;have:=i.1;omega;have:=i.1;omega;omega;rcases i with i|i|i;have:=i.2;omega;have:=i.2;omega;omega;rcases i with i|i|i;have:=i.1;omega;have:=i.1;omega;omega
 clear rx ry b8 b9 bb bk;have dT:H6 (GK ks) (Ei ks) MkS.z 0:=⟨by simp[MkS.z],by simp[MkS.z],by simp[MkS.z],by simp[MkS.z,Aw]⟩;generalize (λz=>w2.heap.size<=z/\z<w3.heap.size)=Dx at ti;generalize (λz=>w4.heap.size<=z/\z<w5.heap.size)=Dy at ti;refine AX (λvs W=>∃(u v:V') (s:MkS) (F Sx Sy:f_) (WQ YF:d_) (t:Nat),vs=[]/\TI w W b c d Dx Dy F Sx Sy WQ YF u v s/\H6 (GK ks) (Ei ks) s t/\t+Aw u+Aw v<=Aw X+Aw Y/\(∀o∈u,Ax ks o)/\(∀o∈v,Ax ks o)/\Sr f s u v=Sr f MkS.z X Y)
  (λ_ W=>Lv W c+Lv W d) ⟨X,Y,MkS.z,_,_,_,_,_,0,rfl,ti,dT,E,gx,gy,rfl⟩ ?_
 rintro _ W ⟨u,v,s,F,Sx,Sy,WQ,YF,t,rfl,h,hs,bl,gu,gv,I⟩ _;apply AA (Li h.ry);rintro _ _ ⟨rfl,rfl⟩;rename e_=>W;rw[Aq];obtain⟨q1,q2,q3⟩:=hs.vi E;have gW:=h.g.size;cases v with
 |nil=>
  rw[TC rfl];apply AS;rw[mZ] at I;apply AA (Kh h.mm q1);rintro zv w7 ⟨oz,g7⟩;have ez:Ra s=AL (BL f X Y):=by rw[I];rfl
  rw[ez] at oz;obtain⟨c1,c2⟩:=OD _ hp E;have U:∀o∈AL (BL f X Y),0<=o.n:=λo J=>by rcases c1 o J with⟨_,_,_,h4,_⟩|⟨_,_,_,_,h4⟩|⟨_,_,h4,_⟩<;>omega
  have eI:=J9 (f:=CO) (AL (BL f X Y)) (λo J=>by have:=U o J;unfold CO Ao;split<;>omega) E;have eL:=J9 (f:=CV) (AL (BL f X Y)) (λo J=>by have:=U o J;unfold CV Ao PA;split<;>(split<;>omega)) E;apply AA (LR (CZ.sl oz));rintro _ w8 ⟨rfl,g8⟩;rw[BM];refine AE E λ_=>?_;apply AA (OJ (Ae.U_ (CZ.sl oz) g8));rintro _ w9 ⟨rfl,g9⟩;rw[BM];refine AE E λ_=>?_;refine⟨zv,rfl,?_,((h.g.trans g7).trans g8).trans g9⟩;have o9:=CZ.U_ oz (g8.trans g9) F_;unfold CZ at o9 ⊢;refine AG.Bk (AG.U' o9 l_ C0 λr o _ J=>J.U' l_ F_ λz _ i=>⟨E,i.2⟩) λz i=>by have:=(AG.Az o9 z i).1;omega
 |cons o v=>
  rw[WL D_];apply Ai;have J:=gv o D_;have eN:=Q (D_:o∈o::v);have op:=Ax.RU J E;refine AV (λvs W'=>W'=W/\vs=[.bool (decide (R8 u=2/\(f=true\/o.kind≠2)))]) ?_ ?_;rotate_left;apply AA (Ny h.rx);rintro _ _ ⟨rfl,rfl⟩;rename e_=>W;rw[Aj];refine AE (λk=>?_) λk=>⟨rfl,by rw[WL λe=>k e.1]⟩;refine My (λef=>⟨rfl,by rw[TC ⟨k,.inl ef⟩]⟩) λef=>?_;apply AA (Ny h.ry);rintro _ _ ⟨rfl,rfl⟩;rw[BH];refine⟨rfl,?_⟩;by_cases e:o.kind=2;rw[WL (p:=R8 u=2/\(f=true\/o.kind≠2)) λh=>h.2.elim (λh=>by rw[h] at ef;cases ef) λh=>h e,TC (p:=R8 (o::v)=2) e];rfl;rw[TC (p:=R8 u=2/\(f=true\/o.kind≠2)) ⟨k,.inr e⟩,WL (p:=R8 (o::v)=2) e];rfl;rintro _ _ ⟨rfl,rfl⟩ _;rename e_=>W;rw[Bh,JS];have r0:Lv W c+Lv W d=JN u+JN (o::v):=by rw[h.rx.VX,h.ry.VX]
  refine AE (λhk=>?_) λhk=>?_;obtain⟨a,V,rfl⟩:∃a V,u=a::V:=by
   cases u with
   |nil=>exact absurd hk.1 B_
   |cons a V=>exact⟨a,V,rfl⟩
  have ka:a.kind=2:=hk.1;have ha:=gu a D_;have eR:=Q (D_:a∈a::V);rw[rU (Ax.RU ha E) ka op hk.2] at I;rw[Qj a V] at bl;apply AA (U6 h.rx);rintro _ W1 ⟨r,e5,rfl,hr,al,m1⟩;have h1:=h.oq m1 al λz i=>.inl i;obtain⟨rv,rs,rp,rfl,d1,d2,d3⟩:=hr;apply AZ mr;obtain⟨ra,rc,rfl,_⟩:=d1.AO;rw[AP];have la:Ao a=a.AY.length:=by simp[Ao,ka]
  apply AA (EO h1.mm (S:=λ_=>False) (p:=[]) BC.nil K_ E D_);rintro _ W2 ⟨q,m⟩;have Z:=h1.told q M_ m;rw [<-la] at Z;refine ⟨⟨V,o :: v,_,_,_,_,_,_,t+Ao a,rfl,Z,RN hs Ek (Ax.m ha).2 E,E,λx hx=>gu x (by simp [hx]),gv,I⟩,?_⟩;have:=MQ a V;rw [Z.rx.VX,Z.ry.VX,r0];omega;apply AA (Ny h.ry);rintro _ _ ⟨rfl,rfl⟩;rename e_=>W;rw [Aj];refine AE (λk2=>?_) λk2=>?_;have B:o.kind=2:=k2;rw [tB op B λa r e=>⟨Ax.RU (gu a (by rw [e];simp)) (by have:=Q (show a ∈ u by rw [e];simp);omega),λka=>by
   cases f with
   |false=>rfl
   | true=>exact (hk ⟨by rw [e];exact ka,.inl rfl⟩).elim⟩] at I
  rw[Qj o v] at bl;apply AA (U6 h.ry);rintro _ W1 ⟨r,e5,rfl,hr,e6,m1⟩;have an:=hr.one;obtain⟨rv,rs,rp,rfl,d1,d2,d3⟩:=hr;refine BJ (n:=5) rfl rfl an λeV W2 en eo ax a6 _=>?_;have Z:=(h.pG m1 e6 λz i=>.inl i).U_ ax;rw[AB];apply AD (a6 2 _ rfl);rw[AB];apply AD (a6 3 _ rfl);have lo:Ao o=o.AY.length:=by simp[Ao,B]
  have ep:=(Ax.Mq J E).2.1.2.1;refine AA (Hd Z.mm (d1.U_ ax B_ C0) (d2.U_ ax B_ C0) (λz i=>Z.nf z (.inr (.inr (.inl i)))) E (λo' e7=>by have:=q3 o' e7;omega) E E) ?_;rintro _ W3 ⟨q,m⟩;have h3:=Z.told q M_ m;have es:BX s o=KD s o.AY o.set:=by rw[BX,Bp E,Cx B]
  rw[es] at I;refine⟨⟨u,v,_,_,_,_,_,_,t+Ao o,rfl,h3,by rw[<-es];exact LJ hs J E,E,gu,λx hx=>gv x (by simp[hx]),I⟩,?_⟩;have:=MQ o v;rw[h3.rx.VX,h3.ry.VX,r0];omega;have B:=k2;have ku:∀a r,u=a::r->a.kind≠2:=λa r e ka=>hk ⟨by rw[e];exact ka,.inr B⟩;have ou:∀a∈u,Oh a:=λa ha=>Ax.RU (gu a ha) (by have:=Q ha;omega);refine AA (SN h.ry (λa r e=>by cases e;exact B) 536870912) ?_;rintro _ _ ⟨rfl,rfl⟩;rename e_=>W;apply AA (SN h.rx ku _);rintro _ _ ⟨rfl,rfl⟩;rename e_=>W;have er:=op.le;have e8:=op.Ct;obtain⟨n,U⟩:∃n:Nat,n=JP (JP 536870912 (o::v)) u:=⟨_,rfl⟩;rw[<-U];have e9:JP 536870912 (o::v)=Ao o:=by simp[JP];omega
  rw[e9] at U;have O:1<=n:=by
   cases u with
   |nil=>simp[JP] at U;omega
   |cons a r=>have:=(ou a D_).Ct;simp[JP] at U;omega
  have bp:n<=Ao o:=by
   cases u with
   |nil=>simp[JP] at U;omega
   |cons a r=>simp[JP] at U;omega
  have bs:∀a r,u=a::r->n<=Ao a:=λa r e=>by subst e;simp[JP] at U;omega
  have eX:=(Ph gu).2;have fo:=(Ph gv).2;apply AA (SY h.rx ku O E bs E);rintro _ W1 ⟨r1,o1,S1,WR,rfl,an,al,ea,m1,ec⟩;have h1:=h.oq m1 al ea;refine AA (SY h1.ry (λa r e=>by cases e;exact B) O E (λa r e=>by cases e;exact bp) E) ?_;rintro _ W2 ⟨r2,o2,S2,ed,rfl,ay,ee,eh,m2,⟨e,_⟩|⟨o',v',e,rfl⟩⟩;cases e;cases e;have Z:=h1.pG m2 ee eh;have a1:=an.U' m2 (λz _ i e=>h.nx z (.inr (.inl i)) e) C0;have tv:=NJ (x:=v) bp;obtain⟨A,eA,kA,pA,tu⟩:∃A:Dop,Sr f s u (o::v)=Sr f (KW f s A o n) (CX n u) (CX n (o::v))/\o1.kind=A.kind/\o1.patch=A.patch/\(Ei ks A.patch/\Aw (CX n u)<=Aw u/\(A.kind=1\/A.kind=3)):=by
   rcases ec with⟨rfl,rfl⟩|⟨a,V,rfl,rfl⟩;simp[JP] at U;subst U;refine⟨⟨1,Ao o,[],[],[]⟩,?_,rfl,rfl,Ek,HK _,.inl rfl⟩;rw[eS op B,WU];rfl;simp[JP] at U;have ka:=ku a V rfl;have c4:=ou a D_;have ta:=NJ (x:=V) (bs a V rfl);refine⟨a,fQ c4 op ka B E,MC n a,?_,(gu a D_).uy,E,?_⟩;unfold Fg;split<;>rfl;rcases c4.k with k|k|k;exact .inl k;exact(ka k).elim;exact .inr k
  rw[eA] at I;have c6:t+n+Aw (CX n u)+Aw (CX n (o::v))<=Aw X+Aw Y:=by have:=tu.2.1;omega
  have c7:=MC n o;have ei:(Fg n o).patch=o.patch:=by unfold Fg;split<;>rfl
  have l1:r1.length=5:=by obtain⟨_,_,_,rfl,_⟩:=a1;rfl
  have l2:r2.length=5:=by obtain⟨_,_,_,rfl,_⟩:=ay;rfl
  refine G9.new λfs W3 fv fx c8 c9=>G9.new λga W4 gb dj b0 ca=>?_;have gd:=c8.size;have gf:=b0.size;refine(c9.U' b0 E_).rK (n:=5) rfl l1 a1.one λW5 ej m5=>?_;have gg:=m5.size;refine(ca.U' m5 E).rK (n:=5) rfl l2 ay.one λW6 b6 m6=>?_;have a7:=ej.U' m6 E;have b7:=((c8.trans b0).next m5 E).next m6 E
  have h6:=Z.U_ b7;obtain⟨gl,et,gp,rfl,_,_,x3⟩:=a1.U' (D':=Dx) b7 F_ C0;obtain⟨gq,eu,gr,rfl,_,_,y3⟩:=ay.U' (D':=Dy) b7 F_ C0;rw[pA] at x3;rw[ei] at y3;have gw:∀z,Dx z->¬F z:=λz i=>Z.nf z (.inl (.inr (.inl i)));have ek:∀z,Dy z->¬F z:=λz i=>Z.nf z (.inr (.inr (.inl i)));have EU:∀{s':MkS} {F':f_} {W7:e_},TI w W7 b c d Dx Dy F' S1 S2 WR ed (CX n u) (CX n (o::v)) s'->H6 (GK ks) (Ei ks) s' (t+n)->s'=KW f s A o n->
    (∃(u v:V') (s:MkS) (F Sx Sy:f_) (WQ YF:d_) (t:Nat),([]:V_)=[]/\TI w W7 b c d Dx Dy F Sx Sy WQ YF u v s/\H6 (GK ks) (Ei ks) s t/\t+Aw u+Aw v<=Aw X+Aw Y/\(∀o∈u,Ax ks o)/\(∀o∈v,Ax ks o)/\Sr f s u v=Sr f MkS.z X Y)/\Lv W7 c+Lv W7 d<Lv W c+Lv W d:=by
   rintro s' F' W7 h7 gm rfl;refine⟨⟨_,_,_,_,_,_,_,_,t+n,rfl,h7,gm,c6,OV gu,OV gv,I⟩,?_⟩;have e1:=O9 ou ku O;have e2:=MZ (r:=v) op B O;rw[h7.rx.VX,h7.ry.VX,r0];omega
  have a8:s.done.length+s.ins.length+2<=1099511627776:=E;rw[AB,AH];apply AD (a7.cells 0 _ rfl);rw[Aj];refine AE (λe3=>?_) λe3=>?_;rw[kA] at e3;exact EU h6 ⟨hs.done,hs.ins,hs.Ak,by have:=hs.FH;omega⟩ (by unfold KW;rw[Cx e3]);rw[kA] at e3;rw[AB,AH];apply AD (b6.cells 0 _ rfl);rw[Aj];refine AE (λe4=>?_) λe4=>?_;rw[c7] at e4;apply AA (LG h6.mm);rintro _ W7 ⟨q,m⟩;exact EU (h6.told q (λz i=>.inl i) m) (di hs O E) (by unfold KW;rw[Bp e3,Cx e4]);rw[c7] at e4;have pK:=J.uy;refine My (λef=>?_) λef=>?_;rw[AB,AH];apply AD (b6.cells 4 _ rfl);rw[AB,AH];apply AD (a7.cells 4 _ rfl);have pl:=pK.2.1;apply AA (iO y3 x3 E);rintro lv W7 ⟨hl,g7⟩;have h7:=h6.U_ g7;have gA:=(Nc (q:=A.patch) pK).2.1;refine AA (EO h7.mm hl (λz i e=>by have:=(h6.fl z e).1;omega) a8 E) ?_;rintro _ W8 ⟨q,m⟩;exact EU (h7.told q M_ m) (RN hs (Nc pK) O E) (by unfold KW;rw[Bp e3,Bp e4,Cx ef]);rw[AB,AH];apply AD (b6.cells 4 _ rfl);have pl:=pK.2.1;apply AA (EO h6.mm y3 ek a8 E);rintro _ W8 ⟨q,m⟩;exact EU (h6.told q M_ m) (RN hs pK O E) (by unfold KW;rw[Bp e3,Bp e4,Bp (by rw[ef];decide)])
end
theorem bK{A_ S D Sa Da Sb Db:f_}{sv dv av bv:d_}{a b:V'}(hS:Cg A_ w sv ks)(hd:BS S D w dv d)(ha:Ae Sa Da w av a)(hb:Ae Sb Db w bv b)(hT:DV w)(hK:∀k∈ks,Cq k)
 (hG:Hy ks d)(hC:∀c∈d,GL ks c)(a1:Hy ks (BD ks d a))(Ia:∀o∈a,IH o)(Ib:∀o∈b,IH o)(fa:Dv ks a d.length most)(fb:Dv ks b d.length most)(aa:d.length<=300)(hm:Aa a+Aa b<=4000)(Q:most<=536870912)(j:Qr ks true d a b most) :
  AF prog 11 [sv,dv,av,bv,zI most] (λv' w'=>AI w w'/\((most < ((BD ks (BD ks d a) (BL true (AL a) (AL b))).length:Int)/\∃ ov,v'=.tuple #[ov,zI 8])\/
   (¬ most < ((BD ks (BD ks d a) (BL true (AL a) (AL b))).length:Int)/\∃ ov,v'=.tuple #[ov,zI 0]/\BS (λy=>w.heap.size<=y/\y < w'.heap.size) (λy=>w.heap.size<=y/\y < w'.heap.size) w' ov (BD ks (BD ks d a) (BL true (AL a) (AL b)))))) w:=by
 have B:∀{x:V'},Dv ks x d.length most->Dv ks x d.length 536870912:=λh=>⟨h.may,h.Cs,⟨h.Ct.1,E⟩,h.Gv,h.EU,h.pl,aAb h.most Q⟩;obtain⟨ak,al⟩:=L0 a;obtain⟨an,ax⟩:=L0 b;have ay:=(FD a).2;have b0:=(FD b).2;have b6:=fa.Gv;have b7:=fb.Gv;have b8:=IV (ks:=ks) (x:=a) (d:=d) (λo i=>(fa.Cs o i).1) fa.Gv;have a7:=fa.Ct;have a6:=PV (n:=d.length) (λo i=>(fa.Cs o i).1) fa.Gv E (by rw[y8];exact fa.EU);have b9:((BD ks d a).length:Int)<=most:=by have:=fa.most;omega
 apply R_ func11;apply AA (LN (most:=536870912) hS hd ha hT hG hC Ia E E E fa.may fa.Ct.1);rintro _ w1 ⟨U,⟨_,xv,rfl,hx⟩|⟨e,_⟩⟩;rotate_left;exact(e ((Br E).2 (B fa))).elim;refine Af (vs:=[_,_]) rfl (Af (vs:=[_,_]) rfl ?_);refine KU ?_;apply AA (LN (most:=536870912) (hS.U_ U) (hd.U_ U) (Ae.U_ hb U) (hT.U_ U) hG hC Ib E E E fb.may fb.Ct.1);rintro _ w2 ⟨g2,⟨_,yv,rfl,_⟩|⟨e,_⟩⟩;rotate_left;exact(e ((Br E).2 (B fb))).elim;refine Af (vs:=[_,_]) rfl (Af (vs:=[_,_]) rfl ?_);refine KU ?_;have I:=U.trans g2;refine AA (Jh (f:=true) (hS.U_ I) (Ae.U_ ha I) (Ae.U_ hb I) (hT.U_ I) (λo i=>(Ia o i).o) (λo i=>(Ib o i).o) fa.may fb.may E E (λo i=>(j.fa.Cs o i).1) (λo i=>(j.fb.Cs o i).1) (by have:=j.FH;omega) j.Cs (by have:=j.pS;omega)) ?_;rintro _ w3 ⟨pv,rfl,hp,g3⟩;refine Af (vs:=[_,_]) rfl (Af (vs:=[_,_]) rfl ?_);refine KU ?_;have J:=I.trans g3;have V:=(hx.U_ (g2.trans g3)).rd (HK _);obtain⟨oa,oc,rfl,_⟩:=id V.AO;have ba:=j.YB;have a8:=j.len;rw[AP,HS,Bp E];apply AA (LN (most:=most) (hS.U_ J) V (CZ.reads hp) (hT.U_ J) a1 (M0 (λo i=>⟨(fa.Cs o i).1,fa.pl o i⟩) hC) j.tY E E E j.may a6);have O:=j.UR;have z3:=J.size;rintro _ w4 ⟨g4,⟨h0,zv,rfl,hz⟩|⟨h0,zv,rfl⟩⟩;rw[O] at h0;have X:¬most<((BD ks (BD ks d a) (BL true (AL a) (AL b))).length:Int):=λe=>by rw[Cx e] at h0;cases h0
 rw[j.KM] at hz;have Y:=hz.rd (HK _);obtain⟨za,zc,rfl,_⟩:=id Y.AO;refine Af (vs:=[_,_]) rfl (Af (vs:=[_,_]) rfl ?_);rw[Aj];refine AE (λ_=>?_) λe=>(e rfl).elim;rw[AP,BM];refine AE (λe=>(X e).elim) λ_=>?_;refine KU ?_;exact⟨J.trans g4,.inr ⟨X,_,rfl,Y.sub (λy _ h=>⟨E,h.2⟩) B_ λr c hc=>hc.U' l_ F_ λy _ h=>⟨E,h.2⟩⟩⟩;have Z:most<((BD ks (BD ks d a) (BL true (AL a) (AL b))).length:Int):=by
  apply rT;intro h;rw[O,Bp h] at h0;exact h0 rfl
 rw[O,Cx Z];refine Af (vs:=[_,_]) rfl (Af (vs:=[_,_]) rfl ?_);rw[Aj];refine AE M' λ_=>?_;rw[BH];refine AT M' λ_=>?_;exact⟨J.trans g4,.inl ⟨Z,_,rfl⟩⟩
theorem kr{D D':f_}{r O:V_}{a b:Cel}(ha:Hp D w r a)(hb:Hp D' w O b) :
  AF prog 60 [.agg r.toArray,.agg O.toArray] (λv w'=>v=.bool (decide (a=b))/\AI w w') w:=by
 apply G_ func60;have U:∀w',AI w w'->a≠b->Value.bool false=.bool (decide (a=b))/\AI w w':=λw' g V=>⟨by rw[WL V],g⟩;obtain⟨sv,rfl,h1⟩:=ha;obtain⟨X,rfl,I⟩:=hb;refine CN λb1 w1 _ _ Y j _=>CN λb2 w2 _ _ J o _=>?_;have i:=Y.trans J;simp only[AB];refine AD (J.cell (j 0 _ rfl) E_) (AD (o 0 _ rfl) ?_);rw[Aj];refine AE (λB=>?_) λB=>U _ i λe=>B (by rw[e]);refine AD (J.cell (j 1 _ rfl) E_) (AD (o 1 _ rfl) ?_);apply AA (Vz (h1.U_ i B_ C0) (I.U_ i B_ C0));rintro v3 w3 ⟨rfl,Z⟩;refine⟨?_,i.trans Z⟩;congr 1;rw[xX];constructor;intro Q;cases a;cases b;simp only at B Q;subst B;subst Q;rfl;intro e;rw[e]
theorem cz{S S' D D':f_}{a b:d_}{l m:Y_}(ha:BS S D w a l)(hb:BS S' D' w b m) :
  AF prog 59 [a,b,.func (.func 60) #[] #[]] (λv w'=>v=.bool (decide (l=m))/\AI w w') w:=by
 refine I' func59 ?_ (.y (.y (.x (.y (.node [17] [(6,9),(17,31)] .nil .nil)))));obtain⟨pa,ca,rfl,V⟩:=ha.AO;obtain⟨pb,cb,rfl,X⟩:=hb.AO;simp only[maxLen] at V X;have no:∀w',AI w w'->l≠m->Value.bool false=.bool (decide (l=m))/\AI w w':=λw' g hn=>⟨by rw[WL hn],g⟩;rw[AP,AP,BH];refine AT (λo=>?_) λo=>no _ (AK.refl _ _) λe=>o (by rw[e]);rw[AP];apply AX (λvs Y=>∃k:Nat,k<=l.length/\vs=[zI k]/\AI w Y/\l.take k=m.take k) (λvs _=>l.length-Di vs 0) ⟨0,Hw _,rfl,AK.refl _ _,rfl⟩;rintro vs Y ⟨k,hk,rfl,O,ht⟩ _;rw[Bh,JS,As];refine AE (λa7=>?_) λa8=>?_
 .have i:k<l.length:=E;have B:k<m.length:=E;obtain⟨p,r,rfl,_,hr,hc,ho⟩:=(BS.U_ ha O).get i;obtain⟨p',r',rfl,_,I,Z,Q⟩:=(BS.U_ hb O).get B;refine AW i (Ab hr m_ ?_);refine BJ (vs:=r) hr rfl ho.one λb1 w2 aa ak g2 a1 _=>?_;refine AW B (Ab I (λj u hu=>by rw[Addr.add_add];exact g2.cell (Z j u hu) E_) ?_);refine BJ (vs:=r') I rfl Q.one λb2 w3 al an g3 a6 _=>?_;apply Ab hr (λj u hu=>g3.cell (a1 j u hu) E_);apply Ab I a6;have J:AI Y w3:=g2.trans g3;apply Fa C_;apply AA (kr (ho.U' (D':=D) J F_ C0) (Q.U' (D':=D') J F_ C0));rintro v4 w4 ⟨rfl,g4⟩;have U:=J.trans g4;rw[Aq];refine AT (λhe=>?_) λhe=>no _ (O.trans U) λe=>he (by subst e;rfl);rw[AR,AM E];refine⟨⟨k+1,i,rfl,O.trans U,?_⟩,by rw[CL,CL];omega⟩;rw[Lc,Lc,ht,By i,By B,he]
 .have:k=l.length:=E;subst this;rw[Nr,(E:l.length=m.length),Nr] at ht;exact⟨by rw[TC ht],O⟩
theorem Ve{S S' D D':f_}{a b:d_}{l m:Y_}(ha:BS S D w a l)(hb:BS S' D' w b m) :
  AF prog 13 [a,b] (λv w'=>v=.bool (decide (l=m))/\AI w w') w:=by
 apply G_ func13;exact cz ha hb
def KP(a b:V')(i:Nat)(j:Nat):Bool:=(decide (0<i)&&(FX a).getD j false)||(decide (1<i)&&(FX b).getD j false)
def IQ(d:Y_)(a b:V')(i:Nat):Nat:=d.length+(if 0<i then DG a else 0)+(if 1<i then DG b else 0)
theorem ZI(x:V')(o:Dop):DG (x++[o])=DG x+if o.kind=2 then o.AY.length else 0:=by
 induction x with
 |nil=>simp[DG]
 |cons a x i=>rw[No,DG,DG,i];omega
theorem ZO(x:V')(k:Nat):DG (x.take k)<=DG x:=by
 induction x generalizing k with
 |nil=>simp
 |cons a x i=>
  cases k with
  |zero=>exact Hw _
  |succ k=>rw[wX,DG,DG];have:=i k;omega
theorem bR(x:V')(k:Nat):Ah (x.take k)<=Ah x:=by
 induction x generalizing k with
 |nil=>simp
 |cons a x i=>
  cases k with
  |zero=>exact Hw _
  |succ k=>rw[wX,Ah,Ah];have:=i k;omega
theorem YI(f:Nat->Bool):∀n,Hg f n<=n
 |0=>HK _
 |n+1=>by
  rw[Hg];have:=YI f n;have:(f n).toNat<=1:=by cases f n<;>decide
  omega
set_option maxHeartbeats 4000000 in
theorem Tv{Sk Sd Sa Sb:f_}{kv dv av bv:d_}{gv:Y'}{a b:V'}(hk:Mh Sk w kv gv)(gw:BS Sd Sd w dv d)(gx:Ae Sa Sa w av a)(gy:Ae Sb Sb w bv b)(hT:DV w)
 (Id:∀c∈d,∀x∈c.set,HR x.val)(Ia:∀o∈a,IH o)(Ib:∀o∈b,IH o)(ma:Aa a<=1048576)(mb:Aa b<=1048576)(j8:-9223372036854775808<=most/\most<=9223372036854775807) :
  AF prog 3 [kv,dv,av,bv,zI most] (λv w'=>v=.bool true/\AI w w') w:=by
 classical
 refine R_ func3 ?_ (.y (.y (.y (.cut [] [(10,10),(48,56)] .nil (.y (.y (.cut [] [(10,10),(71,89)] .nil (.y (.y (.cut [] [(10,10),(104,109)] .nil (.y (.y (.cut [] [(10,10),(125,140)] .nil (.y (.y (.cut [] [(10,10),(146,165)] (.x (.dt [2,3,8,13,14,16,17] (k_ [0,0,2,7,15,31,63,63,255,511,1023,2047,4095,8191,16383,4095,49151,114687,262143,524287]) [[2,3],[2,3,8]] (.op 0 (.op 1 (.op 2 (.op 3 (.op 4 (.op 5 (.op 6 (.op 7 (.op 8 (.op 9 (.op 10 (.op 11 (.op 12 (.op 15 (.op 13 (.br (.op 14 (.op 16 (.op 17 (.op 18 (.op 19 .nil))))) (.op 16 (.br (.op 14 (.op 17 (.op 18 (.op 19 .nil)))) (.op 17 (.op 14 (.op 18 (.op 19 .nil)))))))))))))))))))))))) (.y (.y (.z (.y (.node [26,174] [(26,26),(29,30),(32,33),(174,217)] (.y (.y (.x (.y (.y (.y (.node [26,30,179] [(26,26),(30,30),(32,33),(179,216)] (.y (.y (.x (.y (.cut [26] [(26,26),(33,33),(183,211)] (.y (.y (.y (.y (.x (.y (.node [33] [(33,33),(195,211)] (.cut [] [(195,206)] .nil .nil) .nil))))))) .nil))))) .nil))))))) .nil)) (.x (.y (.node [26,220] [(26,26),(34,34),(220,229)] .nil .nil))))))))))))))))))))));have kn:∀{w1},AI w w1->AF prog 5 [] (λv w'=>v=.bool true/\AI w w') w1:=λhg=>AA (iC (hT.U_ hg)) λv w' ⟨e,h⟩=>⟨e,hg.trans h⟩;have hd:BS (λy=>y<w.heap.size) (λy=>y<w.heap.size) w dv d:=gw.sub (λb hb h=>hb) B_ λr c hc=>hc.U' l_ F_ λy O h=>O;have ha:Ae (λy=>y<w.heap.size) (λy=>y<w.heap.size) w av a:=BC.sub gx (λb hb h=>hb) B_ λr o I=>I.U' l_ F_ λy O h=>O;have hb:Ae (λy=>y<w.heap.size) (λy=>y<w.heap.size) w bv b:=BC.sub gy (λb hb h=>hb) B_ λr o I=>I.U' l_ F_ λy O h=>O;clear gw gx gy;obtain⟨aa,ac,rfl,mD⟩:=id ha.AO;obtain⟨ba,bc,rfl,mF⟩:=id hb.AO;apply GY (cs:=[.slice aa a.length ac,.slice ba b.length bc]) C_;have gr:AI w (w.alloc (.cells [Value.slice aa a.length ac,.slice ba b.length bc].toArray 24)):=AK.alloc _ _ _;have eL:∀j v,[Value.slice aa a.length ac,.slice ba b.length bc][j]?=some v->(w.alloc (.cells [Value.slice aa a.length ac,.slice ba b.length bc].toArray 24)).cell? ((⟨w.heap.size,0,none⟩:Addr).add j)=some v:=λj v hv=>Fi hv;have h0:=eL 0 _ rfl;have h1:=eL 1 _ rfl;rw[AH] at h0;rw[GX] at h1;apply AA (VO (g:=w.heap.size) (hk.U_ gr B_ C0) (hd.U_ gr) (Ae.U_ ha gr) (Ae.U_ hb gr) h0 h1 E E);clear h0 h1 eL;rintro _ w2 ⟨⟨t,rfl,ht⟩,g2⟩;have e3:=gr.trans g2;clear gr g2;rw[Aq];cases t with
 |false=>exact Ai (kn e3)
 |true=>
 apply AS;obtain⟨j9,e4,hm⟩:=ht rfl;clear ht;apply AA (Qe (hk.U_ e3 B_ C0));rintro _ w4 ⟨g4,⟨gA,sv,ks,rfl,Q,gB,hS⟩|⟨_,rfl⟩⟩;rotate_left
 .refine Af (vs:=[_,_]) rfl (Af (vs:=[_,_]) rfl ?_);apply AV (λ_ _=>False) E';rw[BH];exact AT (λe=>absurd e B_) λ_=>kn (e3.trans g4)
 refine Af (vs:=[_,_]) rfl (Af (vs:=[_,_]) rfl ?_);have bp:=e3.trans g4;obtain⟨_,k0,_⟩:=NT.1 gA;have hK:∀k∈ks,Cq k:=λk hk=>k0 k (Q.mem_iff.1 hk);have an:ks.length<=64:=by rw[Q.length_eq];exact j9
 replace hS:Cg (λb=>b<w4.heap.size) w4 sv ks:=hS.sub λb hb h=>hb;refine AV (λ_ W=>AI w W/\w4.heap.size<=W.heap.size/\Cg (λb=>b<w4.heap.size) W sv ks/\VS ks d) ?_ ?_;rotate_left
 .refine KU ?_;apply AA (RP hS (hd.U_ bp) (hT.U_ bp) λc hc x B=>(Id c hc x B).2.1);rintro _ w5 ⟨g5,⟨k4,rfl⟩|⟨_,c,hc,rfl⟩⟩
  .rw[BH];exact AT (λ_=>⟨bp.trans g5,g5.size,hS.U_ g5,k4⟩) λe=>(e rfl).elim
  rw[BH];exact AT (λe=>(hc e).elim) λ_=>kn (bp.trans g5)
 clear hS bp g4;rintro _ W ⟨gW,z4,hS,h3⟩ _;obtain⟨hG,hC⟩:=h3.vN hK Id;have h4:∀{W:e_},AI w W->AF prog 8 [kv,dv,zI most] (λv' w'=>AI W w'/\∃p t,v'=.tuple #[p,.bool t]/\(t=true->∃(e:EgA) (sv:d_) (C F:f_) (H:Hist) (N:Nat),p=g_ e.b/\(∀x,F x\/C x->W.heap.size<=x)/\Ls w w' e ⟨sv,ks,C⟩ most d H N F/\most<536870912/\N<=6000000)) W:=λ{W} gW=>by
  refine AA (sr (w0:=w) (hk.U_ gW B_ C0) (hd.U_ gW) hT gW (λeN eR bs=>by
   obtain rfl:eN=ks:=Ox (eR.trans Q.symm) bs gB;exact ⟨hG,hC⟩) h3.len.1 e4) ?_
  rintro _ w' ⟨g,⟨p,rfl⟩|⟨e,b7,eN,C,F,H,N,rfl,eR,bs,h5,hE,hM,ax,hN,k5,k6,k7,_⟩⟩
  .exact⟨g,_,_,rfl,M'⟩
  obtain rfl:eN=ks:=Ox (eR.trans Q.symm) bs gB;refine⟨g,_,_,rfl,λ_=>?_⟩;obtain⟨Ft,Fh,Fc,cv,hR,k8⟩:=hE;exact⟨e,b7,C,λx=>F x/\x<w'.heap.size,H,N,rfl,λx B=>h5 x (B.imp aAN id),⟨⟨Ft,Fh,Fc,cv,hR,λx B=>⟨k8 x B,(hR.lt x B).2⟩⟩,hM,k5,k6,k7,λx B=>⟨by have:=h5 x (.inl B.1);have:=gW.size;omega,B.2⟩,λx B=>hR.tx.Iy.2 x B⟩,ax,hN⟩
 apply AA (h4 gW);rintro _ w6 ⟨g6,p1,t1,rfl,h6⟩;refine Af (vs:=[_,_]) rfl (Af (vs:=[_,_]) rfl ?_);have h7:=gW.trans g6;apply AA (h4 h7);rintro _ w7 ⟨g7,p2,t2,rfl,h9⟩;refine Af (vs:=[_,_]) rfl (Af (vs:=[_,_]) rfl ?_);have e5:=h7.trans g7;have hf:=hS.U_ (g6.trans g7);obtain ⟨lR,mc⟩:=L0 a;obtain ⟨ml,mu⟩:=L0 b;refine AV (λ_ W=>∃ (e1 e2:EgA) (WR Y:d_) (C1 C2 F1 F2:f_) (H1 H2:Hist) (N1 N2:Nat),p1=g_ e1.b/\p2=g_ e2.b/\AI w W/\Cg (λb=>b < w4.heap.size) W sv ks/\Dv ks a d.length most/\Dv ks b d.length most/\most < 536870912/\N1<=6000000+CK 4300 a/\N2<=6000000+CK 4300 b/\
   Ls w W e1 ⟨WR,ks,C1⟩ most (BD ks d a) H1 N1 F1/\Ls w W e2 ⟨Y,ks,C2⟩ most (BD ks d b) H2 N2 F2/\(∀ x,F1 x->¬ F2 x/\¬ C2 x)/\(∀ x,F2 x->¬ C1 x)/\∀ x,F1 x\/F2 x->w4.heap.size<=x) ?_ ?_
 rotate_left
 .rw[Aq];cases t1 with
  |false=>exact Ai (kn e5)
  |true=>
  apply AS;rw[Aq];cases t2 with
  |false=>exact Ai (kn e5)
  |true=>
  apply AS;obtain⟨e1,WR,C1,F1,H1,N1,rfl,er,O1,ax,eV⟩:=h6 rfl;obtain⟨e2,Y,C2,F2,H2,N2,rfl,Z,O2,_,eX⟩:=h9 rfl;have c4:∀x,F1 x->x<w6.heap.size:=λx B=>(O1.lt x B).2;have hh:∀x,C1 x->x<w6.heap.size:=λx B=>O1.sc x B;have hj:=O1.U_ g7;refine AA (LM hj e5 hT hC an hK E (Ae.U_ ha e5) (λy O e=>by have:=(hj.lt y e).1;omega) Ia E E E E (by unfold CK;omega)) ?_;rintro _ w8 ⟨rfl,fo,c6,fs,f1,m1,a8⟩;rw[BH];refine AT (λe0=>?_) λ_=>kn fo;have fa:Dv ks a d.length most:=(Br E).1 e0;have es:CC ks most d a=BD ks d a:=by unfold CC;rw[Cx e0]
  replace a8:Ls w w8 e1 ⟨WR,ks,C1⟩ most (BD ks d a) fs (N1+CK 4300 a) c6:=by rw[<-es];exact a8
  have b8:=O2.U' m1 λx B=>⟨λe=>by have:=c4 x B;have:=Z x (.inl e);omega,λe=>by have:=c4 x B;have:=Z x (.inr e);omega,(O1.lt x B).1⟩;have z8:=m1.size;refine AA (LM b8 fo hT hC an hK E (Ae.U_ hb fo) (λy O e=>by have:=(b8.lt y e).1;omega) Ib E E E E (by unfold CK;omega)) ?_;rintro _ w9 ⟨rfl,b9,e6,fv,f2,m2,bb⟩;rw[BH];refine AT (λhq=>?_) λ_=>kn b9;have fb:Dv ks b d.length most:=(Br E).1 hq;have k9:CC ks most d b=BD ks d b:=by unfold CC;rw[Cx hq]
  replace bb:Ls w w9 e2 ⟨Y,ks,C2⟩ most (BD ks d b) fv (N2+CK 4300 b) e6:=by rw[<-k9];exact bb
  have hs:∀x,c6 x->x<w8.heap.size:=λx B=>(a8.lt x B).2;have c7:∀x,F2 x->w6.heap.size<=x/\x<w7.heap.size:=λx B=>⟨Z x (.inl B),(O2.lt x B).2⟩;have ka:∀x,C2 x->w6.heap.size<=x/\x<w7.heap.size:=λx B=>⟨Z x (.inr B),O2.sc x B⟩;have dj:∀x,c6 x->¬e6 x/\¬C2 x:=λx B=>by
   have h8:=hs x B;refine⟨λe=>?_,λe=>?_⟩
   .rcases f2 x e with e|e
    .have:=c7 x e;rcases f1 x B with h|h
     .have:=c4 x h;omega
     omega
    omega
   have:=ka x e;rcases f1 x B with h|h
   .have:=c4 x h;omega
   omega
  refine⟨e1,e2,WR,Y,C1,C2,c6,e6,fs,fv,_,_,rfl,rfl,b9,(hf.U' m1 λy O h e=>?_).U' m2 λy O h e=>?_,fa,fb,ax,Nat.add_le_add_right eV _,Nat.add_le_add_right eX _,a8.U' m2 λx B=>⟨λe=>?_,λe=>?_,(b8.lt x B).1⟩,bb,dj,λx B e=>?_,λx B=>?_⟩
  .have kc:y<w4.heap.size:=h;have:=er y (.inl e);omega
  .have kc:y<w4.heap.size:=h;have:=Z y (.inl e);have:=g6.size;omega
  .have:=c7 x B;rcases f1 x e with h|h
   .have:=c4 x h;omega
   omega
  .have:=c7 x B;have:=hh x e;omega
  .have:=hh x e;rcases f2 x B with h|h
   .have:=c7 x h;omega
   have:=g7.size;omega
  have:=g6.size;have:=g7.size;rcases B with B|B
  .rcases f1 x B with h|h
   .have:=er x (.inl h);omega
   omega
  rcases f2 x B with h|h
  .have:=c7 x h;omega
  omega
 clear h6 h9 hf hS;rintro _ W ⟨e1,e2,WR,Y,C1,C2,F1,F2,H1,H2,N1,N2,rfl,rfl,gW,hS,fa,fb,ax,eV,eX,O1,O2,dj,kk,hA⟩ _;have P1:Qr ks true d a b most:=RC hK fa fb Ia Ib e4 hm;have P2:Qr ks false d b a most:=RC hK fb fa Ib Ia e4 E;have hZ:=Wg (λc hc=>(hG.set c hc).1.1) P1;have n0:=FD a;have n1:=FD b;have n2:=fa.Gv;have n5:=fb.Gv;refine AA (Jh (f:=true) hS (Ae.U_ ha gW) (Ae.U_ hb gW) (hT.U_ gW) (λo I=>(Ia o I).o) (λo I=>(Ib o I).o) fa.may fb.may E E (λo I=>(P1.fa.Cs o I).1) (λo I=>(P1.fb.Cs o I).1) (by have:=P1.FH;omega) P1.Cs (by have:=P1.pS;omega)) ?_;rintro _ w9 ⟨pv,rfl,hB,g9⟩;refine Af (vs:=[_,_]) rfl (Af (vs:=[_,_]) rfl ?_);have b9:=gW.trans g9;refine AA (Jh (f:=false) (hS.U_ g9) (Ae.U_ hb b9) (Ae.U_ ha b9) (hT.U_ b9) (λo I=>(Ib o I).o) (λo I=>(Ia o I).o) fb.may fa.may E E (λo I=>(P2.fa.Cs o I).1) (λo I=>(P2.fb.Cs o I).1) (by have:=P2.FH;omega) P2.Cs (by have:=P2.pS;omega)) ?_;rintro _ hD ⟨qv,rfl,hI,ga⟩;refine Af (vs:=[_,_]) rfl (Af (vs:=[_,_]) rfl ?_);refine AV (λ_ W'=>W'=hD) ?_ ?_;rotate_left
 .refine KU ?_;rw[BH];exact AT I_ λe=>(e rfl).elim
 rintro _ W' rfl _;rename e_=>hD;have ay:=g9.trans ga;have z9:=g9.size;have n9:=ga.size;have eu:=Ae.U_ (CZ.reads hB) ga;have ew:=CZ.reads hI;have L1:=P1.len;have L2:=P2.len;have I1:=P1.ins;have I2:=P2.ins;have Q1:=FD (AL (BL true (AL a) (AL b)));have Q2:=FD (AL (BL false (AL b) (AL a)));have md:∀{f:Bool} {x y:V'},Qr ks f d x y most->Aa (AL (BL f (AL x) (AL y)))<=1099511627776:=λ{f x y} P=>by
  have hg:=λo I=>(Hs P.may o I).1;have h1:=Wx hK hg P.tY;have h2:=Hh hg;have:=P.len;have:=P.ins;omega
 have gf:∀x,F1 x->x<W.heap.size:=λx B=>(O1.lt x B).2;have hL:∀x,F2 x->x<W.heap.size:=λx B=>(O2.lt x B).2;have kq:=O1.m.g;have hP:=M0 (λo I=>⟨(fa.Cs o I).1,fa.pl o I⟩) hC;have c8:N1+CK 4300 (AL (BL true (AL a) (AL b)))<=1000000000:=by
  unfold CK at eV ⊢;omega
 have c9:N2+CK 4300 (AL (BL false (AL b) (AL a)))<=1000000000:=by
  unfold CK at eX ⊢;omega
 refine AA (LM (O1.U_ ay) (gW.trans ay) hT hP an hK E eu (λy O e=>by have:=gf y e;have:=O.1;omega) P1.tY E E (λ_=>I1) (md P1) c8) ?_;rintro _ kt ⟨rfl,hQ,c6,fs,f1,m1,a8⟩;have b8:=(O2.U_ ay).U' m1 λx B=>⟨(dj x B).1,(dj x B).2,(O1.lt x B).1⟩;have ey:Ae _ _ kt qv _:=ew.U' m1 (λy _ O e=>by have:=gf y e;have:=O.1;omega) λy _ O e=>by have:=gf y e;have:=O.1;omega
 have ez:=(hS.U_ ay).U' m1 λy O h e=>by
  have h':y<w4.heap.size:=h;have:=hA y (.inl e);omega
 have na:=m1.size;refine AA (LM b8 hQ hT (M0 (λo I=>⟨(fb.Cs o I).1,fb.pl o I⟩) hC) an hK E ey (λy O e=>by have:=hL y e;have:=O.1;omega) P2.tY E E (λ_=>I2) (md P2) c9) ?_;rintro _ nc ⟨rfl,a1,e6,fv,f2,m2,bb⟩;have hV:=a8.U' m2 λx B=>⟨λe=>by
  rcases f1 x e with h|h
  .exact(dj x h).1 B
  have:=hL x B;omega,kk x B,(O2.lt x B).1⟩
 have eA:=ez.U' m2 λy O h e=>by
  have h':y<w4.heap.size:=h;have:=hA y (.inr e);omega
 apply AA (bK eA (hd.U_ a1) (Ae.U_ ha a1) (Ae.U_ hb a1) (hT.U_ a1) hK hG hC kq Ia Ib fa fb e4 hm E P1);have ca:=P1.UR;have cc:=P2.UR;rw[<-hZ] at cc;rintro _ gg ⟨e7,hr⟩;have ch:=a1.trans e7;have bk:=hV.U_ e7;have e8:=bb.U_ e7;generalize hz:BD ks (BD ks d a) (BL true (AL a) (AL b))=z at *;rcases hr with⟨hW,ov,rfl⟩|⟨hX,ov,rfl,hY⟩
 .rw[Cx hW] at ca cc;refine Af (vs:=[_,_]) rfl (Af (vs:=[_,_]) rfl ?_);have e9:BY (⟨WR,ks,C1⟩:SKs).ks (AL (BL true (AL a) (AL b))) (BD ks d a).length most=8:=ca;have ea:BY (⟨Y,ks,C2⟩:SKs).ks (AL (BL false (AL b) (AL a))) (BD ks d b).length most=8:=cc;rw[e9,ea];refine AV (λ_ W'=>W'=gg) ?_ ?_;rotate_left
  .refine KU ?_;refine KU ?_;rw[BH];refine AT (λe=>absurd e B_) λ_=>?_;rw[BH];exact AT I_ λe=>(e rfl).elim
  rintro _ W' rfl _;rw[BH];exact AT (λe=>absurd e B_) λ_=>kn ch
 rw[Bp hX] at ca cc;refine Af (vs:=[_,_]) rfl (Af (vs:=[_,_]) rfl ?_);have e9:BY (⟨WR,ks,C1⟩:SKs).ks (AL (BL true (AL a) (AL b))) (BD ks d a).length most=0:=ca;have ea:BY (⟨Y,ks,C2⟩:SKs).ks (AL (BL false (AL b) (AL a))) (BD ks d b).length most=0:=cc;rw[e9,ea];have s1:CC (⟨WR,ks,C1⟩:SKs).ks most (BD ks d a) (AL (BL true (AL a) (AL b)))=z:=by unfold CC;rw[Cx e9];exact(P1.KM _).trans hz
 have s2:CC (⟨Y,ks,C2⟩:SKs).ks most (BD ks d b) (AL (BL false (AL b) (AL a)))=z:=by unfold CC;rw[Cx ea];exact(P2.KM _).trans hZ.symm
 rw[s1] at bk;rw[s2] at e8;refine AV (λ_ W'=>W'=gg) ?_ ?_;rotate_left
 .refine KU ?_;refine KU ?_;rw[BH];exact AT I_ λe=>(e rfl).elim
 rintro _ W' rfl _;rename e_=>gg;refine KU ?_;clear hV bb a8 b8 ez eA ey ew eu hB hI f1 f2 m1 m2 s1 s2;have gl:Dv ks (AL (BL true (AL a) (AL b))) (BD ks d a).length most:=(Br E).1 ca;have ia:=λo I=>(gl.Cs o I).1;have nd:z.length<=4300:=by
  have h1:=IV (ks:=ks) ia gl.Gv;rw[(P1.KM _).trans hz] at h1;omega
 have ec:∀c∈z,GL ks c:=by
  have h1:=M0 (λo I=>⟨ia o I,gl.pl o I⟩) hP;rwa [(P1.KM _).trans hz] at h1
 have ed:=bk.m.g;have X:Bn (Ui (AL (AL (Dt z)))):=by
  obtain⟨q1,q2,q3,q4,q5⟩:=QH hK ed ec E;obtain⟨_,_,ib,_,_⟩:=K3 (λk hk=>by have:=(hK k hk).1;omega) (ZD hK ed ec E) q3 E;exact aD ib
 have ng:=e7.size;apply AA (Jf bk.i ed.set E c8);rintro mv ih ⟨il,ee⟩;have ef:=il.rd (HK _);obtain⟨np,nq,ir,_⟩:=id ef.AO;subst ir;have iv:=ch.trans ee;refine AV (λ_ W'=>AI w W') ?_ ?_;rotate_left
 .have gd:AI ih ih.drew:=AK.drew _ _;have gq:∀{U V:e_},AI U V->AK (λ_=>False) U V:=E_;apply Ag (λ_ _=>False);have ix:=ee.trans gd;apply AA (Jf (e8.U_ ix).i ed.set E c9);rintro nr nu ⟨iy,cu⟩;refine⟨cu,?_⟩;apply AA (Ve ((ef.U_ gd).U_ cu) (iy.rd (HK _)));rintro _ nv ⟨rfl,eh⟩;refine⟨eh,?_⟩;rw[TC rfl,Aq];apply AS;apply AA (Ve (((ef.U_ gd).U_ cu).U_ eh) (((hY.U_ ee).U_ gd).U_ (cu.trans eh)));rintro _ nw ⟨rfl,j0⟩;refine⟨j0,?_⟩;rw[TC rfl,Aq];apply AS;have ej:=ix.trans ((cu.trans eh).trans j0);apply AA (Qn (bk.U_ ej).i hT (bk.U_ ej).m ec hK E c8);rintro b1 ek ⟨ku,gm⟩;refine⟨gm,?_⟩;have j1:=(e8.U_ ej).U_ gm;have b0:∀{K:Cont},(∀b2 ak,Df ek.heap.size ak b2 (Ui (AL (AL (Dt z))))->AI ek ak->K b2 ak)->AF prog 14 [g_ e2.b] K ek:=λkz=>by
   apply AA (Qn j1.i hT j1.m ec hK E c9);rintro b2 ak ⟨bl,a6⟩;exact kz b2 ak bl a6
  have st1:∀{W:e_},AI ek W->(convert 42 9 b1).run prog W=.ok (.string (Ow (Ui (AL (AL (Dt z)))))) W:=λg=>LS ((AG.sl ku).U_ g B_ C0) X;refine⟨AZ (st1 (AK.refl _ _)) ⟨AK.refl _ _,b0 λb2 ak bl a6=>⟨a6,AZ (LS (AG.sl bl) X) ⟨AK.refl _ _,?_⟩⟩⟩,b0 λb2 ak bl a6=>⟨a6,AZ (st1 a6) ⟨AK.refl _ _,AZ (LS (AG.sl bl) X) ⟨AK.refl _ _,?_⟩⟩,AZ (LS (AG.sl bl) X) ⟨AK.refl _ _,AZ (st1 a6) ⟨AK.refl _ _,?_⟩⟩⟩⟩;all_goals
   rw[fk];exact AT (λ_=>((ch.trans ej).trans gm).trans a6) λe=>(e rfl).elim
 clear ee iv ef il;rintro _ a7 eB _;clear bk e8 hY;obtain ⟨da,dc,kA,_⟩:=id hd.AO;subst kA;have j2:=Wi fa fb P1 ⟨E,E⟩;rw [hz] at j2;rw [AP,AP];apply AZ (run_make_row' 44 3 (zI 0) 8 C_ C_ rfl .i64 .i64 d.length E E _);rw [gI];have B0:Bx (a7.alloc (.cells (Jd (λ_=>false) d.length).toArray 3)) a7.heap.size (Jd (λ_=>false) d.length):=Bx.alloc;have gr:AI a7 (a7.alloc (.cells (Jd (λ_=>false) d.length).toArray 3)):=AK.alloc _ _ _;have zr:(a7.alloc (.cells (Jd (λ_=>false) d.length).toArray 3)).heap.size=a7.heap.size+1:=D_;generalize a7.alloc (.cells (Jd (λ_=>false) d.length).toArray 3)=al at B0 gr zr ⊢;obtain ⟨gb,kR⟩:∃ gb,a7.heap.size=gb:=⟨_,rfl⟩;rw [kR] at B0 ⊢;have eC:=eB.trans gr;have my:=eB.size;apply AZ (v:=.agg #[.slice aa a.length ac,.slice ba b.length bc]) (w':=al) C_;have tl:∀ {x:V'},(∀ o ∈ x,Ax ks o/\Ao o<=536870912)->x.length<=4000->Ah x<=d.length->DG x<=4000->True:=λ_ _ _ _=>trivial;clear tl;refine AX (λvs W=>∃ i:Nat,i<=2/\vs=[zI (IQ d a b i:Nat),zI i]/\Bx W gb (Jd (KP a b i) d.length)/\AK (λy=>y=gb) al W) (λvs _=>2 - Di vs 1) ⟨0,E,by simp [IQ],by
  rw [Hj (g:=λ_=>false) d.length λj=>by simp [KP]];exact B0,AK.refl _ _⟩ ?_
 clear B0;rintro vs cx ⟨i,hi,rfl,BG,mG⟩ _;simp only[Iu];refine HP (λl0=>?_) λl3=>?_
 .have all:∃(x:V') (xa:Option Addr) (xc:Nat),(Instr.index 45 (.agg #[.slice aa a.length ac,.slice ba b.length bc]) (zI (i:Int))).run prog cx=.ok (.slice xa x.length xc) cx/\Ae (λy=>y<w.heap.size) (λy=>y<w.heap.size) w (.slice xa x.length xc) x/\Dv ks x d.length most/\x.length<=4000/\DG x<=4000/\IQ d a b (i+1)=IQ d a b i+DG x/\IQ d a b i<=8000/\∀j,KP a b (i+1) j=(KP a b i j||(FX x).getD j false):=by
   rcases(E:i=0\/i=1) with rfl|rfl
   .exact⟨a,aa,ac,C_,ha,fa,E,E,by simp[IQ],by simp[IQ];omega,λj=>by simp[KP]⟩
   exact⟨b,ba,bc,C_,hb,fb,E,E,by simp[IQ],by simp[IQ];omega,λj=>by simp[KP]⟩
  obtain ⟨x,xa,xc,l4,B,fx,nC,nD,l5,nI,l6⟩:=all;apply AZ l4;rw [AP];have nM:=FD x;have nS:=fx.Gv;generalize IQ d a b i=wi at *;generalize KP a b i=f0 at *;refine AX (λvs W=>∃ k:Nat,k<=x.length/\vs=[zI ((wi+DG (x.take k):Nat):Int),zI ((Ah (x.take k):Nat):Int),zI k]/\Bx W gb (Jd (λj=>f0 j || (FX (x.take k)).getD j false) d.length)/\AK (λy=>y=gb) al W) (λvs _=>x.length - Di vs 2) ⟨0,Hw _,by simp [DG,Ah],by
   rw [Hj (g:=f0) d.length λj=>by simp [FX,Ds,Bi]];exact BG,mG⟩ ?_
  clear BG mG;rintro vs j3 ⟨k,l7,rfl,BG,mG⟩ _;simp only[JS,wL];refine HP (λo0=>?_) λo4=>?_;rotate_left
  .obtain rfl:k=x.length:=E;rw[Nr] at BG ⊢;rw[AR,AM E];refine⟨⟨i+1,E,by rw[l5],?_,mG⟩,by rw[BE,BE];omega⟩;rw[Hj (g:=λj=>f0 j||(FX x).getD j false) d.length l6];exact BG
  have J:k<x.length:=E;have l8:Ae (λy=>y<w.heap.size) (λy=>y<w.heap.size) j3 (.slice xa x.length xc) x:=Ae.U' (Ae.U_ B eC) mG (λy _ O e=>by have h':y<w.heap.size:=O;omega) λy _ O e=>by have h':y<w.heap.size:=O;omega
  obtain⟨q,r,rfl,o5,hr,hc,eI⟩:=l8.get J;obtain⟨rv,b7,en,rfl,o1,o2,o3⟩:=id eI;have j4:=fx.Cs x[k] (Q0 J);have hit:=ZO x (k+1);have o6:=bR x (k+1);have ei:DG (x.take (k+1))=DG (x.take k)+if x[k].kind=2 then x[k].AY.length else 0:=by rw[Lc,By J,yz,ZI]
  have et:Ah (x.take (k+1))=Ah (x.take k)+if x[k].kind=2 then 0 else x[k].n.toNat:=by
   rw[Lc,By J,yz,GQ];simp only[Ah,ua]
  have l9:(FX (x.take k)).length=Ah (x.take k):=js λo I=>fx.Cs o (aO I);have dk:FX (x.take (k+1))=FX (x.take k)++(if x[k].kind=2 then[] else List.replicate (Ao x[k]) (decide (x[k].kind=3))):=by rw[Lc,By J,yz,aJ]
  refine AW J (Ab hr m_ ?_);refine Bx.new (vs:=[.int .u8 x[k].kind,zI x[k].n,rv,b7,en]) hr rfl eI.one λb6 la o7 g6 B6=>?_;have gp:=BG.U_ g6;have z6:=mG.size;have mA:=B6.lt (P9 _);have ll:b6≠gb:=E;have gu:AK (λy=>y=gb) al la:=mG.next g6 E';refine AV (λvs W'=>vs=[zI ((wi+DG (x.take k):Nat):Int)]/\x[k].kind≠2/\Bx W' b6 [.int .u8 x[k].kind,zI x[k].n,rv,b7,en]/\Bx W' gb (Jd (λj=>f0 j||(FX (x.take (k+1))).getD j false) d.length)/\AK (λy=>y=gb) al W') ?_ ?_
  .rintro _ o8 ⟨rfl,k2,dr,eo,ep⟩ _;simp only[JS];rw[AB,AH];apply AD (dr.cells 1 _ rfl);rw[Bp k2] at ei et;have hn:x[k].n=(x[k].n.toNat:Int):=by
    rcases j4.1 with⟨_,_,_,h,_⟩|⟨_,_,_,_,h⟩|⟨h,_⟩
    .omega
    .omega
    exact(k2 h).elim
   rw[hn,AR,wrap64 E E,AR,AM E];exact⟨⟨k+1,J,by rw[ei,et];rfl,eo,ep⟩,by rw[Ri,Ri];omega⟩
  rw[AB,AH];apply AD (B6.cells 0 _ rfl);rw[Aj];refine AE (λk2=>?_) λk2=>?_
  .rw[AB,AH];apply AD (B6.cells 2 _ rfl);obtain⟨ra,rc,rfl,_⟩:=o1.AO;rw[Cx k2] at ei et;rw[AP,AR,wrap64 E E,AR,AM E];refine⟨⟨k+1,J,by rw[ei,et,ua,<-wx];rfl,?_,gu⟩,by rw[Ri,Ri];omega⟩;rw[dk,Cx k2,Ty];exact gp
  have hn:x[k].n=(x[k].n.toNat:Int):=by
   rcases j4.1 with⟨_,_,_,h,_⟩|⟨_,_,_,_,h⟩|⟨h,_⟩
   .omega
   .omega
   exact(k2 h).elim
  have lA:Ao x[k]=x[k].n.toNat:=by unfold Ao;rw[Bp k2]
  rw[Bp k2] at ei et dk;rw[Aj];refine AE (λk3=>?_) λk3=>?_;rotate_left
  .refine⟨rfl,k2,B6,?_,gu⟩;rw[dk,WL k3,Hj (g:=λj=>f0 j||(FX (x.take k)).getD j false) d.length λj=>by rw[getD_none]];exact gp
  rw[TC k3,lA] at dk;generalize o9:x[k].n.toNat=n at *;refine AX (λvs W=>∃m:Nat,m<=n/\vs=[zI ((Ah (x.take k)+m:Nat):Int)]/\Bx W b6 [.int .u8 x[k].kind,zI x[k].n,rv,b7,en]/\Bx W gb (Jd (λj=>f0 j||(FX (x.take k)++List.replicate m true).getD j false) d.length)/\AK (λy=>y=gb) al W) (λvs _=>Ah (x.take k)+n-Di vs 0) ⟨0,Hw _,rfl,B6,by rw[List.replicate_zero,Ty];exact gp,gu⟩ ?_;rintro vs dT ⟨m,oa,rfl,dr,eo,ep⟩ _;simp only[JS];refine AV (λ_ W'=>W'=dT/\m<n) ?_ ?_
  .rintro _ _ ⟨rfl,lB⟩ _;rename e_=>dT;apply AW E;rw[AH,xd];refine eo.st (q:=Ah (x.take k)+m) (by rw[KY];omega) rfl rfl λob j5 j6=>?_;rw[AR,AM E];refine⟨⟨m+1,lB,rfl,dr.U' j6 ll,?_,ep.next j6 C0⟩,by rw[CL,CL];omega⟩;rw[dA] at j5;rw[Hj (g:=λi=>if i=Ah (x.take k)+m then true else f0 i||(FX (x.take k)++List.replicate m true).getD i false) d.length λj=>by
    rw[bZ,l9];by_cases h:j=Ah (x.take k)+m
    .rw[Cx h,Cx h,Bool.or_true]
    rw[Bp h,Bp h]]
   exact j5
  rw[AB,AH];apply AD (dr.cells 1 _ rfl);have done:m=n->([zI ((wi+DG (x.take k):Nat):Int)]:V_)=[zI ((wi+DG (x.take k):Nat):Int)]/\x[k].kind≠2/\Bx dT b6 [.int .u8 x[k].kind,zI x[k].n,rv,b7,en]/\Bx dT gb (Jd (λj=>f0 j||(FX (x.take (k+1))).getD j false) d.length)/\AK (λy=>y=gb) al dT:=λe=>by
   subst e;exact⟨rfl,k2,dr,by rw[dk];exact eo,ep⟩
  rw[hn,AR,wrap64 E E,As];refine AE (λoc=>?_) λoo=>?_;rotate_left
  .have:=done E;rw[hn] at this;exact⟨trivial,this.2⟩
  rw[AP,As];exact AE (λ_=>⟨rfl,E⟩) E
 obtain rfl:i=2:=E;have lC:IQ d a b 2=d.length+DG a+DG b:=by simp[IQ]
 have lP:Hg (KP a b 2) d.length=Hg (λj=>(FX a).getD j false||(FX b).getD j false) d.length:=MK _ λj _=>by simp[KP]
 rw[<-lP,<-lC] at j2;have ou:IQ d a b 2<=8300:=E;generalize IQ d a b 2=wi at *;have j7:AI w cx:=eC.next mG E;rw[AP];apply AX (λvs W=>∃k:Nat,k<=d.length/\vs=[zI ((wi:Int)-(Hg (KP a b 2) k:Nat)),zI k]/\W=cx) (λvs _=>d.length-Di vs 1) ⟨0,Hw _,by simp[Hg],rfl⟩;rintro vs j3 ⟨k,l7,rfl,rfl⟩ _;rename e_=>cx;simp only[JS,wL];refine HP (λl0=>?_) λl3=>?_
 .have J:k<d.length:=E;apply AW J;rw[AH,xd];apply AD (BG.cells k _ (Q5 _ J));have h1:=YI (KP a b 2) (k+1);have h2:Hg (KP a b 2) (k+1)=Hg (KP a b 2) k+(KP a b 2 k).toNat:=rfl;rw[A6,wrap64 E E,AR,AM E];exact⟨⟨k+1,J,by rw[h2,(E:((wi:Int)-(Hg (KP a b 2) k:Nat)-((KP a b 2 k).toNat:Nat))=(wi:Int)-((Hg (KP a b 2) k+(KP a b 2 k).toNat:Nat):Int))],rfl⟩,by rw[BE,BE];omega⟩
 obtain rfl:k=d.length:=E;rw[AP,Aj];exact AE (λ_=>kn j7) λe=>(e E).elim
section
variable {H:Type}{enc:TypeId×d_->H}{P:Program}{w:e_}{Bk:Nat}{spare:Nat->Bool}{held:Bool}
theorem BC.mV{t e k:Nat}{R:e_->V_->α->Prop}{fuel:Nat}{x:DataW H×List MemPlace}(ht:P.underlying t=some (.slice e))(hk:P.cellsOf e=k)
 (Q:∀n o y,DataW.trod enc P w Bk spare held n e o=some y->∃x,R w o x)(h:DataW.trod enc P w Bk spare held fuel t cs=some x) :
  ∃v l,cs=[v]/\BC (λ_=>True) k R w v l:=by
 rcases Go.Deep.open_slice ht h with⟨rfl,_⟩|⟨a,len,cap,m,n,D,Pl,rfl,hb,hl,hm,U,_,J⟩;exact⟨_,[],rfl,BC.nil⟩;have a1:len<=m:=by rw[U];split<;>omega
 have one:∀i,i<len->∃(o:V_) (x:α),o.length=k/\(∀j u,o[j]?=some u->w.cell? (a.add (i*k+j))=some u)/\R w o x:=by
  intro i hi;obtain⟨o,h1,O⟩:=J i E;obtain⟨x,V⟩:=Q n o _ O;obtain⟨_,B,hc⟩:=World.cells?_some h1;rw[hk] at B hc;refine⟨o,x,B,λj u hu=>?_,V⟩;have hj:j<k:=by rw[<-B];exact(Bq.1 hu).1
  have:=hc j hj;rw[Addr.add_add] at this;rw[this];exact hu
 have build:∀q,q<=len->∃l:List α,l.length=q/\∀i x,l[i]?=some x->∃o:V_,o.length=k/\(∀j u,o[j]?=some u->w.cell? (a.add (i*k+j))=some u)/\R w o x:=by
  intro q;induction q with
  |zero=>exact λ_=>⟨[],rfl,λi x h=>by simp at h⟩
  |succ q ih=>
   intro hq;obtain⟨l,h1,O⟩:=ih E;obtain⟨o,x,X,Y,Z⟩:=one q E;refine⟨l++[x],by simp[h1],λi y I=>?_⟩;by_cases hi:i<q;rw[PF E] at I;exact O i y I;have:i=q:=by have:=(Bq.1 I).1;simp[h1] at this;omega
   subst this;rw[qz E] at I;simp[h1] at I;subst I;exact⟨o,X,Y,Z⟩
 obtain⟨l,h1,O⟩:=build len (HK _);subst h1;refine⟨_,l,rfl,a,cap,rfl,hl,hm,λi x V=>?_⟩;obtain⟨o,X,Y,Z⟩:=O i x V;exact⟨a,o,rfl,trivial,X,Y,Z⟩
end
section
open Go.ChangeShapes Go.Joins
variable {H:Type}{enc:TypeId×d_->H}{w:e_}{Bk:Nat}{spare:Nat->Bool}{held:Bool}
end
section
open Go.ChangeShapes Go.Joins
variable {H:Type}{enc:TypeId×d_->H}{w:e_}{Bk:Nat}{spare:Nat->Bool}{held:Bool}
theorem nV{l:List α}(h:l.length=5):∃a b c d e,l=[a,b,c,d,e]:=by
 match l,h with|[a,b,c,d,e],_=>exact⟨a,b,c,d,e,rfl⟩
theorem ph{l:List α}(h:l.length=6):∃a b c d e f,l=[a,b,c,d,e,f]:=by
 match l,h with|[a,b,c,d,e,f],_=>exact⟨a,b,c,d,e,f,rfl⟩
theorem gG(l m:List (DataW H)):Rows.uptoBulkAll (l++m)=Rows.uptoBulkAll l+Rows.uptoBulkAll m:=by
 induction l with
 |nil=>simp[Rows.uptoBulkAll]
 |cons d l i=>simp[No,Rows.uptoBulkAll,i];omega
theorem BC.Ko{t e k:Nat}{R:e_->V_->α->Prop}{μ:α->Nat}{fuel:Nat}{x:DataW H×List MemPlace}(ht:prog.underlying t=some (.slice e))(hk:prog.cellsOf e=k)
 (Q:∀n o y,DataW.trod enc prog w Bk spare held n e o=some y->∃x,R w o x/\μ x<=Rows.uptoBulk y.1)(h:DataW.trod enc prog w Bk spare held fuel t cs=some x) :
  ∃v l,cs=[v]/\BC (λ_=>True) k R w v l/\(l.map μ).sum+1<=Rows.uptoBulk x.1:=by
 rcases Go.Deep.open_slice ht h with⟨rfl,rfl⟩|⟨a,len,cap,m,n,D,Pl,rfl,hb,hl,hm,U,rfl,J⟩;exact⟨_,[],rfl,BC.nil,by simp[Rows.uptoBulk]⟩;have a1:len<=m:=by rw[U];split<;>omega
 have one:∀i,i<len->∃(o:V_) (x:α),o.length=k/\(∀j u,o[j]?=some u->w.cell? (a.add (i*k+j))=some u)/\R w o x/\μ x<=Rows.uptoBulk (D i):=by
  intro i hi;obtain⟨o,h1,O⟩:=J i E;obtain⟨x,V,X⟩:=Q n o _ O;obtain⟨_,B,hc⟩:=World.cells?_some h1;rw[hk] at B hc;refine⟨o,x,B,λj u hu=>?_,V,X⟩;have hj:j<k:=by rw[<-B];exact(Bq.1 hu).1
  have:=hc j hj;rw[Addr.add_add] at this;rw[this];exact hu
 have build:∀q,q<=len->∃l:List α,l.length=q/\(l.map μ).sum<=Rows.uptoBulkAll ((List.range q).map D)/\∀i x,l[i]?=some x->∃o:V_,o.length=k/\(∀j u,o[j]?=some u->w.cell? (a.add (i*k+j))=some u)/\R w o x:=by
  intro q;induction q with
  |zero=>exact λ_=>⟨[],rfl,by simp[Rows.uptoBulkAll],λi x h=>by simp at h⟩
  |succ q ih=>
   intro hq;obtain⟨l,h1,hs,O⟩:=ih E;obtain⟨o,x,Y,Z,h5,h6⟩:=one q E;refine⟨l++[x],by simp[h1],?_,λi y I=>?_⟩;rw[List.range_succ,S7 (f:=D),gG];simp[S7,yV,S4,wh,wJ,xm,Rows.uptoBulkAll];omega;by_cases hi:i<q;rw[PF E] at I;exact O i y I;have:i=q:=by have:=(Bq.1 I).1;simp[h1] at this;omega
   subst this;rw[qz E] at I;simp[h1] at I;subst I;exact⟨o,Y,Z,h5⟩
 obtain⟨l,h1,hs,O⟩:=build len (HK _);subst h1;refine⟨_,l,rfl,⟨a,cap,rfl,hl,hm,λi x V=>?_⟩,?_⟩;obtain⟨o,Y,Z,h5⟩:=O i x V;exact⟨a,o,rfl,trivial,Y,Z,h5⟩;simp[Rows.uptoBulk];omega
theorem Mz{n:Nat}{y:DataW H×List MemPlace}(h:DataW.trod enc prog w Bk spare held n 61 cs=some y):∃x:BF,cs=x.cells/\x.s.size+1<=Rows.uptoBulk y.1:=by
 have c2:prog.cellsOf 61=4:=C_;have I:prog.cellsOf 5=1:=C_;have J:prog.cellsOf 2=1:=C_;have O:prog.cellsOf 59=1:=C_;have Q:prog.cellsOf 9=1:=C_;obtain⟨z0,z1,z2,z3,m',rfl,hl,i,j,o,B⟩:=trod_struct4 underlying61 h;rw[c2] at hl;simp[I,J,O,Q] at i j o B;match cs,hl with
 |[a0,a1,a2,a3],_=>
  simp[xP,wX,xj,yA] at i j o B;obtain⟨U,V,e0,_⟩:=wg underlying5 i;obtain⟨k1,X,Y,_⟩:=wg underlying2 j;obtain⟨k2,Z,e2,_⟩:=wg underlying59 o;obtain⟨k3,f3,e3,_⟩:=DataW.trod_string underlying9 B;cases V;cases X;cases Z;cases f3;subst e0;subst Y;subst e2;subst e3;refine⟨⟨U,k1,k2,k3⟩,rfl,?_⟩;simp[Rows.uptoBulk,Rows.uptoBulkAll,yN,ByteArray.size_data];omega
theorem Rl{n:Nat}{y:DataW H×List MemPlace}(h:DataW.trod enc prog w Bk spare held n 116 cs=some y):∃x:Attr,Ch w cs x/\Gl x<=Rows.uptoBulk y.1:=by
 have c0:prog.cellsOf 116=5:=C_;have c1:prog.cellsOf 3=1:=C_;have c2:prog.cellsOf 61=4:=C_;obtain⟨o,B,m,rfl,hl,h0,h1⟩:=trod_struct2 underlying116 h;rw[c0] at hl;simp[c1,c2] at h0 h1;match cs,hl with
 |[Q,I,J,U,V],_=>
  simp[wX,xj] at h0 h1;obtain⟨k,j,_,_⟩:=wg underlying3 h0;obtain⟨v,i,O⟩:=Mz h1;cases j;cases i;refine⟨⟨k,v⟩,rfl,?_⟩;simp[Gl,Rows.uptoBulk,Rows.uptoBulkAll];omega
theorem T6{n:Nat}{y:DataW H×List MemPlace}(h:DataW.trod enc prog w Bk spare held n 63 cs=some y):∃x:Chg,EA w cs x/\KO x<=Rows.uptoBulk y.1:=by
 have c0:prog.cellsOf 63=6:=C_;have c1:prog.cellsOf 3=1:=C_;have c2:prog.cellsOf 61=4:=C_;have B:prog.cellsOf 4=1:=C_;obtain⟨V,m,_,rfl,hl,i,j⟩:=aAB underlying63 h;match V,i with
 |[I,J,O],_=>
  have h0:DataW.trod enc prog w Bk spare held m 3 ((cs.drop 0).take (prog.cellsOf 3))=some I:=j 0 _ rfl;have h1:DataW.trod enc prog w Bk spare held m 4 ((cs.drop 1).take (prog.cellsOf 4))=some J:=j 1 _ rfl;have o:DataW.trod enc prog w Bk spare held m 61 ((cs.drop 2).take (prog.cellsOf 61))=some O:=j 2 _ rfl;rw[c0] at hl;rw[c1] at h0;rw[B] at h1;rw[c2] at o;obtain⟨a0,Y,Z,a3,a4,a5,rfl⟩:=ph hl;clear j;simp[xP,wX,xj,yA] at h0 h1 o;obtain⟨k,X,_,_⟩:=wg underlying3 h0;obtain⟨b,Q,_⟩:=aAU underlying4 h1;obtain⟨v,U,hs⟩:=Mz o;cases X;cases Q;cases U;refine⟨⟨k,b,v⟩,rfl,?_⟩;simp[KO,S4,wh,Rows.uptoBulk,Rows.uptoBulkAll];omega
theorem Rb{n:Nat}{y:DataW H×List MemPlace}(h:DataW.trod enc prog w Bk spare held n 21 cs=some y):∃x:Int,CM w cs x/\1<=Rows.uptoBulk y.1:=by
 obtain⟨k,rfl,e,_⟩:=wg underlying21 h;subst e;exact⟨k,rfl,by simp[Rows.uptoBulk]⟩
theorem Pp{n:Nat}{y:DataW H×List MemPlace}(h:DataW.trod enc prog w Bk spare held n 46 cs=some y):∃v l,cs=[v]/\Jl (λ_=>True) w v l/\l.length+1<=Rows.uptoBulk y.1:=by
 obtain⟨v,l,e,h1,i⟩:=BC.Ko (μ:=λ_:Int=>1) underlying46 C_ (λ_ _ _ h=>Rb h) h;refine⟨v,l,e,h1,?_⟩;have:(l.map λ_=>1).sum=l.length:=by clear h1 i;induction l with|nil=>rfl|cons a l j=>simp[S4,wJ,Hn,j];omega
 omega
theorem TY{n:Nat}{y:DataW H×List MemPlace}(h:DataW.trod enc prog w Bk spare held n 58 cs=some y):∃x:DKey,IC w cs x/\1<=Rows.uptoBulk y.1:=by
 have c0:prog.cellsOf 58=6:=C_;have c1:prog.cellsOf 3=1:=C_;have c2:prog.cellsOf 5=1:=C_;have o:prog.cellsOf 4=1:=C_;obtain⟨xs,m,_,rfl,hl,j,i⟩:=aAB underlying58 h;match xs,j with
 |[Q,U,V,X,Y,Z],_=>
  have h0:DataW.trod enc prog w Bk spare held m 3 ((cs.drop 0).take (prog.cellsOf 3))=some Q:=i 0 _ rfl;have h1:DataW.trod enc prog w Bk spare held m 4 ((cs.drop 1).take (prog.cellsOf 4))=some U:=i 1 _ rfl;have B:DataW.trod enc prog w Bk spare held m 5 ((cs.drop 2).take (prog.cellsOf 5))=some V:=i 2 _ rfl;have I:DataW.trod enc prog w Bk spare held m 4 ((cs.drop 3).take (prog.cellsOf 4))=some X:=i 3 _ rfl;have J:DataW.trod enc prog w Bk spare held m 4 ((cs.drop 4).take (prog.cellsOf 4))=some Y:=i 4 _ rfl;have O:DataW.trod enc prog w Bk spare held m 3 ((cs.drop 5).take (prog.cellsOf 3))=some Z:=i 5 _ rfl;rw[c0] at hl;rw[c1] at h0;rw[o] at h1;rw[c2] at B;rw[o] at I;rw[o] at J;rw[c1] at O;obtain⟨a0,a1,a2,a3,a4,a5,rfl⟩:=ph hl;clear i;simp[xP,wX,xj,yA] at h0 h1 B I J O;obtain⟨k0,e0,_,_⟩:=wg underlying3 h0;obtain⟨k1,e1,_⟩:=aAU underlying4 h1;obtain⟨k2,e2,_,_⟩:=wg underlying5 B;obtain⟨k3,e3,_⟩:=aAU underlying4 I;obtain⟨k4,e4,_⟩:=aAU underlying4 J;obtain⟨k5,e5,_,_⟩:=wg underlying3 O;cases e0;cases e1;cases e2;cases e3;cases e4;cases e5;refine⟨⟨k0,k1,k2,k3,k4,k5⟩,rfl,?_⟩;simp only[Rows.uptoBulk];omega
theorem Rr{n:Nat}{y:DataW H×List MemPlace}(h:DataW.trod enc prog w Bk spare held n 22 cs=some y):∃v l,cs=[v]/\Mh (λ_=>True) w v l/\l.length+1<=Rows.uptoBulk y.1:=by
 obtain⟨v,l,e,h1,i⟩:=BC.Ko (μ:=λ_:DKey=>1) underlying22 C_ (λ_ _ _ h=>TY h) h;refine⟨v,l,e,h1,?_⟩;have:(l.map λ_=>1).sum=l.length:=by clear h1 i;induction l with|nil=>rfl|cons a l j=>simp[S4,wJ,Hn,j];omega
 omega
end
section
open Go.ChangeShapes Go.Joins
variable {H:Type}{enc:TypeId×d_->H}{w:e_}{Bk:Nat}{spare:Nat->Bool}{held:Bool}
theorem TV{n:Nat}{y:DataW H×List MemPlace}(h:DataW.trod enc prog w Bk spare held n 22 cs=some y):∃v l,cs=[v]/\Mh (λ_=>True) w v l:=by
 obtain⟨v,l,e,h1,_⟩:=Rr h;exact⟨v,l,e,h1⟩
end
section
open Go.ChangeShapes Go.WideShapes Go.ChangeAt Go.RowKit Go.Joins
def eE : List (String × DataW Unit) := [("unicode/utf8.acceptRanges", Rows.laid_unicode_utf8_acceptRanges), ("unicode/utf8.first", Rows.laid_unicode_utf8_first)]
theorem Zz:Rows.laid_unicode_utf8_first=Lib.tabData .u8 (Pinned.utf8FirstZ.map Int.ofNat):=C_
theorem fM:(List.range 256).all (λj=>decide (128<=j->(Pinned.utf8FirstZ.map Int.ofNat)[j]?=some (QE j)))=true:=by decide +kernel
theorem kZ:Rows.laid_unicode_utf8_acceptRanges (H:=Unit)=.agg ((List.range 16).map λi=>.agg ([Qb i,Qw i].map λz=>.lit (.int .u8 z))):=C_
theorem To(h:laidMetH prog eE W):DV W:=by
 rw[aAn _ _ _ C_] at h;have h4:=Lib.laidMet.reads h (.head _);have h3:=Lib.laidMet.reads h (.tail _ (.head _));have hf:∀j:Nat,128<=j->j<256->W.cell? ⟨0,j,none⟩=some (.int .u8 (QE j)):=by
  intro j Y Z;obtain⟨g,t,cs,X,p,J,I,o,O⟩:=h3
  obtain rfl := r9 ((C_:Tryz.prog.globalNamed "unicode/utf8.first" = some 0).symm.trans J)
  obtain rfl:=r9 ((C_:(prog.globals[0]?).map (·.type)=some 288).symm.trans I);rw[Zz] at O;have:=aBF J o j;rw[this,<-wU,Lib.cells_of_tab underlying288 underlying5 C_ C_ O];have ha:=wW.1 fM j (xh.2 Z);rw[S9] at ha;rw[vy,ha Y];rfl
 have Q:∀j:Nat,j<16->W.cell? ⟨1,j*2,none⟩=some (.int .u8 (Qb j))/\W.cell? ⟨1,j*2+1,none⟩=some (.int .u8 (Qw j)):=by
  intro i hi;obtain⟨g,t,cs,X,p,J,I,o,O⟩:=h4
  obtain rfl := r9 ((C_:Tryz.prog.globalNamed "unicode/utf8.acceptRanges" = some 1).symm.trans J)
  obtain rfl:=r9 ((C_:(prog.globals[1]?).map (·.type)=some 291).symm.trans I);rw [kZ] at O;obtain ⟨a1,d,q,U,he⟩:=Lib.array_elem underlying291 O i hi;simp only [vy,List.getElem?_range hi,xE,S5] at U;subst U;have c2:prog.cellsOf 290=2:=C_;rw [c2] at he;have V:=Lib.ints_of_struct underlying290 (λj f B=>by
   match j,B with
   |0,B=>simp at B;subst B;exact⟨underlying5,rfl,C_⟩
   |1,B=>simp at B;subst B;exact⟨underlying5,rfl,C_⟩
   | j+2,B=>simp at B) (by rw [c2];rfl) he
  have e0:=tZ (·[0]?) V;have e1:=tZ (·[1]?) V;simp at e0 e1;rw[aBF J o (i*2),aBF J o (i*2+1),<-wU,<-wU];exact⟨by simpa using e0,by simpa using e1⟩
 have:=q8 W _ (Q 0 B_).1;exact⟨this,hf,Q⟩
noncomputable def SF(os:Os):e_:=
 let w0:=World.holding prog os ⟨#[],#[],[]⟩
 let put (h:Array Obj) (g:Nat) (cs:Array d_):Array Obj:=h.modify g fun
  |.cells _ t WS=>.cells cs t WS
  |o=>o
 let h1:=put w0.heap 0 (Pinned.utf8FirstZ.map λ(z:Nat)=>Value.int .u8 (Int.ofNat z)).toArray
 let j:=put h1 1 ((List.range 16).flatMap λi=>[Value.int .u8 (Qb i),Value.int .u8 (Qw i)]).toArray
 { w0 with heap:=j }
theorem RY(os:Os)(args:Array d_):laidMetH prog eE ((SF os).forCall (λ_ _=>0) ⟨#[],args,[]⟩).memory:=by
 rw[aAn _ _ _ C_];exact(LaidIn.of_run (l:=eE) [1,0] 8 C_ C_ C_ C_).met
def ve(v:BF):Prop:=(0<=v.kind/\v.kind<256)/\(-9223372036854775808<=v.n/\v.n<=9223372036854775807)/\(0<=v.f/\v.f<18446744073709551616)/\v.s.size<18446744073709551616
variable {H:Type}{enc:TypeId×d_->H}{w:e_}{Bk:Nat}{spare:Nat->Bool}{held:Bool}
theorem JF{k:IntKind}{n:Int}(h:(Lit.int k n).wf=true):k.min<=n/\n<=k.max:=by
 simpa[Lit.wf] using h
theorem Mk{n:Nat}{y:DataW H×List MemPlace}(h:DataW.trod enc prog w Bk spare held n 61 cs=some y):∃x:BF,cs=x.cells/\ve x:=by
 have c2:prog.cellsOf 61=4:=C_;have Z:prog.cellsOf 5=1:=C_;have c4:prog.cellsOf 2=1:=C_;have c5:prog.cellsOf 59=1:=C_;have c6:prog.cellsOf 9=1:=C_;obtain⟨z0,z1,z2,z3,m',_,hl,i,j,o,B⟩:=trod_struct4 underlying61 h;rw[c2] at hl;simp[Z,c4,c5,c6] at i j o B;match cs,hl with
 |[a1,a2,a3,a4],_=>
  simp[xP,wX,xj,yA] at i j o B;obtain⟨J,f0,_,w0⟩:=wg underlying5 i;obtain⟨k1,f1,_,w1⟩:=wg underlying2 j;obtain⟨k2,f2,_,w2⟩:=wg underlying59 o;obtain⟨I,f3,_,O⟩:=DataW.trod_string underlying9 B;cases f0;cases f1;cases f2;cases f3;refine⟨⟨J,k1,k2,I⟩,rfl,?_⟩;have Q:=JF w0;have r1:=JF w1;have U:=JF w2;have V:IntKind.u8.min=0/\IntKind.u8.max=255:=B_;have X:IntKind.i64.min=-9223372036854775808/\IntKind.i64.max=9223372036854775807:=B_;have Y:IntKind.u64.min=0/\IntKind.u64.max=18446744073709551615:=B_;rw[V.1,V.2] at Q;rw[X.1,X.2] at r1;rw[Y.1,Y.2] at U;have r3:I.size<=9223372036854775807:=by
   simp[maxLen] at O;simpa using O
  exact⟨⟨Q.1,(E:J<256)⟩,r1,⟨U.1,(E:k2<18446744073709551616)⟩,(E:I.size<18446744073709551616)⟩
end
theorem BC.Yj{k:Nat}{R:e_->V_->α->Prop}{P:α->Prop}{l:List α}(h:BC S k (λw r x=>R w r x/\P x) w v l):BC S k R w v l/\∀x∈l,P x:=by
 obtain⟨a,c,e,h1,I,B⟩:=h;refine⟨⟨a,c,e,h1,I,λi x j=>?_⟩,λx j=>?_⟩;obtain⟨p,r,J,O,Q,U,o⟩:=B i x j;exact⟨p,r,J,O,Q,U,o.1⟩;obtain⟨i,hi⟩:=wE.1 j;obtain⟨_,_,_,_,_,_,o⟩:=B i x hi;exact o.2
section
open Go.ChangeShapes Go.WideShapes Go.ChangeAt Go.RowKit Go.Joins
variable {H:Type}{enc:TypeId×d_->H}{w:e_}{Bk:Nat}{spare:Nat->Bool}{held:Bool}
theorem Rh{n:Nat}{y:DataW H×List MemPlace}(h:DataW.trod enc prog w Bk spare held n 116 cs=some y):∃x:Attr,cs=x.cells/\PT x:=by
 have c0:prog.cellsOf 116=5:=C_;have c1:prog.cellsOf 3=1:=C_;have c2:prog.cellsOf 61=4:=C_;obtain⟨J,O,m,_,hl,h0,h1⟩:=trod_struct2 underlying116 h;rw[c0] at hl;simp[c1,c2] at h0 h1;match cs,hl with
 |[V,Q,U,X,Y],_=>
  simp[wX,xj] at h0 h1;obtain⟨k,B,_,I⟩:=wg underlying3 h0;obtain⟨x,ex,o⟩:=Mk h1;cases B;have i:=JF I;have j:IntKind.i64.min=-9223372036854775808/\IntKind.i64.max=9223372036854775807:=B_;rw[j.1,j.2] at i;refine⟨⟨k,x⟩,?_,i,o⟩;show _=zI k::x.cells;rw[<-ex]
end
section
open Go.ChangeShapes Go.WideShapes Go.ChangeAt Go.RowKit Go.Joins
variable {H:Type}{enc:TypeId×d_->H}{w:e_}{Bk:Nat}{spare:Nat->Bool}{held:Bool}
theorem Za{x y:Attr}(h:x.cells=y.cells):x=y:=by
 obtain⟨k,v,n,f,s⟩:=x;obtain⟨i,B,j,o,I⟩:=y;simp[Attr.cells,BF.cells,wZ,Value.int.injEq,ze,zl,zK] at h;obtain⟨rfl,rfl,rfl,rfl,rfl⟩:=h;rfl
theorem mz{x y:BF}(h:x.cells=y.cells):x=y:=by
 obtain⟨v,n,f,s⟩:=x;obtain⟨o,i,j,B⟩:=y;simp[BF.cells,wZ,Value.int.injEq,ze,zl,zK] at h;obtain⟨rfl,rfl,rfl,rfl⟩:=h;rfl
end
section
open Go.ChangeShapes Go.WideShapes Go.ChangeAt Go.RowKit Go.Joins
variable {H:Type}{enc:TypeId×d_->H}{w:e_}{Bk:Nat}{spare:Nat->Bool}{held:Bool}
theorem Rj{n:Nat}{y:DataW H×List MemPlace}(h:DataW.trod enc prog w Bk spare held n 116 cs=some y):∃x:Attr,(Ch w cs x/\(x.key<=9223372036854775807/\HR x.val))/\Gl x<=Rows.uptoBulk y.1:=by
 obtain⟨x,e,i⟩:=Rh h;obtain⟨j,o,hm⟩:=Rl h;have:x=j:=Za (e.symm.trans o);subst this;exact⟨x,⟨e,i.1.2,⟨i.2.2.1,i.2.2.2.1⟩⟩,hm⟩
theorem Td{n:Nat}{y:DataW H×List MemPlace}(h:DataW.trod enc prog w Bk spare held n 63 cs=some y):∃x:Chg,(EA w cs x/\(x.key<=9223372036854775807/\HR x.val))/\KO x<=Rows.uptoBulk y.1:=by
 have c2:prog.cellsOf 61=4:=C_;obtain⟨x,e,hm⟩:=T6 h;obtain⟨V,m,_,_,hl,i,j⟩:=aAB underlying63 h;match V,i with
 |[I,Y,J],_=>
  have o:DataW.trod enc prog w Bk spare held m 61 ((cs.drop 2).take (prog.cellsOf 61))=some J:=j 2 _ rfl;rw[c2] at o;obtain⟨v,ev,B⟩:=Mk o;have X:=e;subst X;have:v=x.val:=mz (ev.symm.trans (by rfl));subst this;have c1:prog.cellsOf 3=1:=C_;have h0:DataW.trod enc prog w Bk spare held m 3 ((x.cells.drop 0).take (prog.cellsOf 3))=some I:=j 0 _ rfl;rw[c1] at h0;obtain⟨k,O,_,Q⟩:=wg underlying3 h0;have hk:x.key=k:=by
   have:[zI x.key]=[zI k]:=O;simpa using this
  have hr:=(JF Q).2;have U:IntKind.i64.max=9223372036854775807:=B_;rw[U] at hr;exact⟨x,⟨rfl,E,⟨B.2.1,B.2.2.1⟩⟩,hm⟩
theorem NV{n:Nat}{y:DataW H×List MemPlace}(h:DataW.trod enc prog w Bk spare held n 47 cs=some y):∃v l,cs=[v]/\(CI (λ_=>True) w v l/\∀a∈l,a.key<=9223372036854775807/\HR a.val)/\Eo l+1<=Rows.uptoBulk y.1:=by
 obtain⟨v,l,e,hl,hm⟩:=BC.Ko (k:=5) (μ:=Gl) (R:=λ(w:e_) r (x:Attr)=>Ch w r x/\(x.key<=9223372036854775807/\HR x.val)) underlying47 C_ (λ_ _ _ h=>Rj h) h;exact⟨v,l,e,hl.Yj,hm⟩
theorem Ti{n:Nat}{y:DataW H×List MemPlace}(h:DataW.trod enc prog w Bk spare held n 48 cs=some y):∃v l,cs=[v]/\(Eg (λ_=>True) w v l/\∀a∈l,a.key<=9223372036854775807/\HR a.val)/\FK l+1<=Rows.uptoBulk y.1:=by
 obtain⟨v,l,e,hl,hm⟩:=BC.Ko (k:=6) (μ:=KO) (R:=λ(w:e_) r (x:Chg)=>EA w r x/\(x.key<=9223372036854775807/\HR x.val)) underlying48 C_ (λ_ _ _ h=>Td h) h;exact⟨v,l,e,hl.Yj,hm⟩
theorem Th{n:Nat}{y:DataW H×List MemPlace}(h:DataW.trod enc prog w Bk spare held n 50 cs=some y):∃x:Dop,(CW (λ_=>True) w cs x/\IH x)/\Co x<=Rows.uptoBulk y.1:=by
 have c0:prog.cellsOf 50=5:=C_;have c1:prog.cellsOf 3=1:=C_;have c2:prog.cellsOf 5=1:=C_;have O:prog.cellsOf 46=1:=C_;have Q:prog.cellsOf 47=1:=C_;have U:prog.cellsOf 48=1:=C_;obtain⟨xs,m,_,rfl,hl,j,i⟩:=aAB underlying50 h;match xs,j with
 |[V,X,Y,Z,y4],_=>
  have h0:DataW.trod enc prog w Bk spare held m 5 ((cs.drop 0).take (prog.cellsOf 5))=some V:=i 0 _ rfl;have h1:DataW.trod enc prog w Bk spare held m 3 ((cs.drop 1).take (prog.cellsOf 3))=some X:=i 1 _ rfl;have o:DataW.trod enc prog w Bk spare held m 46 ((cs.drop 2).take (prog.cellsOf 46))=some Y:=i 2 _ rfl;have B:DataW.trod enc prog w Bk spare held m 47 ((cs.drop 3).take (prog.cellsOf 47))=some Z:=i 3 _ rfl;have I:DataW.trod enc prog w Bk spare held m 48 ((cs.drop 4).take (prog.cellsOf 48))=some y4:=i 4 _ rfl;rw[c0] at hl;rw[c2] at h0;rw[c1] at h1;rw[O] at o;rw[Q] at B;rw[U] at I;obtain⟨a0,a1,a2,a3,a4,rfl⟩:=nV hl;clear i;simp[xP,wX,xj,yA] at h0 h1 o B I;obtain⟨k,e0,_,_⟩:=wg underlying5 h0;obtain⟨n,e1,_,_⟩:=wg underlying3 h1;obtain⟨rv,rl,e2,hr,b2⟩:=Pp o;obtain⟨sv,sl,e3,⟨hs,i3⟩,b3⟩:=NV B;obtain⟨pv,J,e4,⟨hp,i4⟩,b4⟩:=Ti I;cases e0;cases e1;cases e2;cases e3;cases e4;refine⟨⟨k,n,rl,sl,J⟩,⟨⟨a2,a3,a4,rfl,hr,hs,hp⟩,i3,i4⟩,?_⟩;simp[Co,S4,wh,Rows.uptoBulk,Rows.uptoBulkAll];omega
theorem Lx{n:Nat}{y:DataW H×List MemPlace}(h:DataW.trod enc prog w Bk spare held n 24 cs=some y):∃v l,cs=[v]/\(Ae (λ_=>True) (λ_=>True) w v l/\∀o∈l,IH o)/\Aa l+1<=Rows.uptoBulk y.1:=by
 obtain⟨v,l,e,hl,hm⟩:=BC.Ko (k:=5) (μ:=Co) (R:=λ(w:e_) r (x:Dop)=>CW (λ_=>True) w r x/\IH x) underlying24 C_ (λ_ _ _ h=>Th h) h;exact⟨v,l,e,hl.Yj,hm⟩
end
section
open Go.ChangeShapes Go.WideShapes Go.ChangeAt Go.RowKit Go.Joins
variable {H:Type}{enc:TypeId×d_->H}{w:e_}{Bk:Nat}{spare:Nat->Bool}{held:Bool}
theorem UI{n:Nat}{y:DataW H×List MemPlace}(h:DataW.trod enc prog w Bk spare held n 69 cs=some y):∃x:Cel,Hp (λ_=>True) w cs x/\∀a∈x.set,HR a.val:=by
 have c0:prog.cellsOf 69=2:=C_;have c1:prog.cellsOf 21=1:=C_;have c2:prog.cellsOf 47=1:=C_;obtain⟨B,I,m,_,hl,h0,h1⟩:=trod_struct2 underlying69 h;rw[c0] at hl;simp[c1,c2] at h0 h1;match cs,hl with
 |[O,J],_=>
  simp[wX,xj] at h0 h1;obtain⟨k,o,_,_⟩:=wg underlying21 h0;obtain⟨v,l,i,⟨j,hi⟩,_⟩:=NV h1;cases o;cases i;exact⟨⟨k,l⟩,⟨_,rfl,j⟩,λa ha=>(hi a ha).2⟩
theorem Rs{n:Nat}{y:DataW H×List MemPlace}(h:DataW.trod enc prog w Bk spare held n 23 cs=some y):∃v l,cs=[v]/\BS (λ_=>True) (λ_=>True) w v l/\∀c∈l,∀a∈c.set,HR a.val:=by
 obtain⟨v,l,e,hl⟩:=BC.mV (R:=λ(w:e_) r (x:Cel)=>Hp (λ_=>True) w r x/\∀a∈x.set,HR a.val) underlying23 C_ (λ_ _ _ h=>UI h) h;exact⟨v,l,e,hl.Yj⟩
theorem bY{n:Int}(h:(Lit.int .i64 n).wf=true):-9223372036854775808<=n/\n<=9223372036854775807:=by
 have r:=JF h;have m:IntKind.i64.min=-9223372036854775808/\IntKind.i64.max=9223372036854775807:=B_;rwa [m.1,m.2] at r
end
section
open Go.ChangeShapes Go.WideShapes Go.ChangeAt Go.RowKit
theorem uA:ownKnob prog.godebug=none:=C_
theorem Pa:laidOutB prog=true:=C_
theorem OH(os:Os)(o:os.Started)(H:Type)(enc:TypeId×d_->H)(F0:Stop.Interp) :
  ReturnsInHanded {} Tryz.checked os 3 .any ((Rows.OpenSpec.upto Rows.topMergesSpec).preRow enc prog Tryz.f3 [] false Rows.topMergesUptoRow.laid) (((Rows.OpenSpec.upto Rows.topMergesSpec).at F0).post enc prog Tryz.f3 false true false false):=by
 refine returnsInHanded_of_row (C:=Tryz.checked) (s:=(Rows.OpenSpec.upto Rows.topMergesSpec)) uA o C_ func3
  (witness_row_at (enc:=enc) (C:=Tryz.checked) (s:=(Rows.OpenSpec.upto Rows.topMergesSpec)) false (SF os) #[i_,i_,i_,i_,zI 0] rfl C_ C_ C_
   ⟨⟨(OpenSpec.pre_some (k:=Rows.uptoSmall) rfl [] false _ _).2 ⟨_,_,_,DataW.Whole_of_whole (fuel:=8) (x:=([.nil,.nil,.nil,.nil,.lit (.int .i64 0)],[],[])) C_,C_,C_⟩,RY os _⟩,sizedMet_of_sizedB (fuel:=8) C_⟩) ?_
 intro W Bk args ds gs J3 B hW _ O _ hL _ _;have Q:=hW;obtain⟨p,q,J,hV,rfl,b0,b6⟩:=hW;have hA:DataW.TrodAll enc prog W 0 (λ_=>true) true Tryz.f3.params.toList args.toList ds p:=J;have i:∀(j:Nat) t v,Tryz.f3.params[j]?=some t->args[j]?=some v->Value.okWide prog W .any Bk t v:=B;rw[Tryz.params3] at hA i;obtain⟨v0,b7,d0,b8,p0,q0,U,rfl,rfl,h0,r0⟩:=trodAll_cons hA;obtain⟨v1,b9,d1,ba,p1,q1,rfl,rfl,rfl,h1,r1⟩:=trodAll_cons r0;obtain⟨v2,bb,d2,bk,p2,q2,rfl,rfl,rfl,V,r2⟩:=trodAll_cons r1;obtain⟨v3,bl,d3,bp,p3,q3,rfl,rfl,rfl,X,r3⟩:=trodAll_cons r2;obtain⟨v4,bs,d4,c4,p4,q4,rfl,rfl,rfl,h4,r4⟩:=trodAll_cons r3;obtain⟨rfl,rfl,rfl⟩:=trodAll_nil r4;obtain rfl:args=#[v0,v1,v2,v3,v4]:=by cases args;simp_all
 obtain⟨rfl,rfl⟩:=trodVars_none hV;have hk:=xf (O _ rfl);simp[Ty,Rows.uptoBulkAll] at hk;have Y:∀x∈p0,x.block<W.heap.size:=by obtain⟨m,hm⟩:=h0;exact aAx m _ _ _ hm
 obtain⟨Z,a6⟩:=id h0;obtain⟨u0,l0,e0,s0⟩:=TV a6;try dsimp only at s0
 obtain⟨a0,n0,c0,rfl⟩:=okWide_slice underlying22 (i 0 22 v0 rfl rfl);simp[Value.cells,wZ,zK] at e0;subst e0;have a7:∀x∈p1,x.block<W.heap.size:=by obtain⟨m,hm⟩:=h1;exact aAx m _ _ _ hm
 obtain⟨a8,aa⟩:=id h1;obtain⟨u1,l1,e1,s1⟩:=Rs aa;try dsimp only at s1
 obtain⟨a1,n1,c1,rfl⟩:=okWide_slice underlying23 (i 1 23 v1 rfl rfl);simp[Value.cells,wZ,zK] at e1;subst e1;have ak:∀x∈p2,x.block<W.heap.size:=by obtain⟨m,hm⟩:=V;exact aAx m _ _ _ hm
 obtain⟨al,an⟩:=id V;obtain⟨u2,l2,e2,s2⟩:=Lx an;try dsimp only at s2
 obtain⟨a2,n2,c2,rfl⟩:=okWide_slice underlying24 (i 2 24 v2 rfl rfl);simp[Value.cells,wZ,zK] at e2;subst e2;have av:∀x∈p3,x.block<W.heap.size:=by obtain⟨m,hm⟩:=X;exact aAx m _ _ _ hm
 obtain⟨ax,ay⟩:=id X;obtain⟨u3,l3,e3,s3⟩:=Lx ay;try dsimp only at s3
 obtain⟨a3,n3,c3,rfl⟩:=okWide_slice underlying24 (i 3 24 v3 rfl rfl);simp[Value.cells,wZ,zK] at e3;subst e3;obtain⟨x4,rfl,rfl,rfl,w4⟩:=open_int underlying3 (i 4 3 v4 rfl rfl) h4;clear J B;refine(Tv s0 s1.1 s2.1.1 s3.1.1 (To hL) s1.2 s2.1.2 s3.1.2 E E (bY w4)).mono λe W' ⟨v,he,hv,hg⟩=>?_;subst he;subst hv;have I:=AK.below hg (HK _) K_;exact⟨_,rfl,_,_,_,[],_,[],Q,trodAll_mk1 (shut_bool underlying4 _),(zY (Below.trod Pa C_ (xf C_) h0 I Y) (zY (Below.trod Pa C_ (xf C_) h1 I a7) (zY (Below.trod Pa C_ (xf C_) V I ak) (zY (Below.trod Pa C_ (xf C_) X I av) (zY (shut_int underlying3 w4) trodAll_mk0))))),rfl,I.frame _,M'⟩
theorem sW{a0 a1 a2 a3 a4 a5 a6 a7 a8 a9 i j o B I J O Q U V X Y a22 Z aa a25 ak al an av ax ay:Bool}(h0:a0=true)(h1:a1=true)(h2:a2=true)(h3:a3=true)(h4:a4=true)(h5:a5=true)(h6:a6=true)(h7:a7=true)(h8:a8=true)(h9:a9=true)(b0:i=true)(b6:j=true)(b7:o=true)(b8:B=true)(b9:I=true)(ba:J=true)(bb:O=true)(bk:Q=true)(bl:U=true)(bp:V=true)(bs:X=true)(c4:Y=true)(c6:a22=true)(c7:Z=true)(c8:aa=true)(c9:a25=true)(ca:ak=true)(cc:al=true)(ch:an=true)(cu:av=true)(cx:ax=true)(dj:ay=true):(((((((((((((((((((((((((((((((a0&&a1)&&a2)&&a3)&&a4)&&a5)&&a6)&&a7)&&a8)&&a9)&&i)&&j)&&o)&&B)&&I)&&J)&&O)&&Q)&&U)&&V)&&X)&&Y)&&a22)&&Z)&&aa)&&a25)&&ak)&&al)&&an)&&av)&&ax)&&ay)=true:=by simp only[h0,h1,h2,h3,h4,h5,h6,h7,h8,h9,b0,b6,b7,b8,b9,ba,bb,bk,bl,bp,bs,c4,c6,c7,c8,c9,ca,cc,ch,cu,cx,dj];rfl
set_option maxHeartbeats 0 in
theorem OO:joinedFacts prog 3 Tryz.f3 (Rows.OpenSpec.upto Rows.topMergesSpec).bare Rows.topMergesUptoRow=true:=by
 unfold joinedFacts;refine sW ?_ ?_ ?_ ?_ ?_ ?_ ?_ ?_ ?_ ?_ ?_ ?_ ?_ ?_ ?_ ?_ ?_ ?_ ?_ ?_ ?_ ?_ ?_ ?_ ?_ ?_ ?_ ?_ ?_ ?_ ?_ ?_ ;all_goals (as_aux_lemma=>kernel_rfl)
theorem QA:Rows.TopMergesUptoSaid:=
 OpenClaim.holds_of_cond 3 Tryz.f3 rfl rfl rfl rfl rfl rfl rfl ⟨rfl,rfl,rfl,rfl,rfl⟩ rfl rfl rfl rfl rfl C_ func3 OO
  (xf C_) (by unfold Func.isWrapper;first|(rw[Cx (by decide +kernel)];kernel_rfl)|(rw[Bp (by decide +kernel)];exact⟨rfl,rfl⟩))
  (λos i H enc _ F0=>OH os i H enc F0)
end
section
open Go.ChangeShapes Go.WideShapes Go.ChangeAt Go.RowKit
theorem TopMergesUpto_proved:Rows.TopMergesUptoCardSaid:=
 Claim7.holds_tied_plain_at .later [] [.data,.pinned] true Rows.topMergesUptoCard.stood.harness false
  QA (λ_ h=>by cases h) (by as_aux_lemma=>kernel_rfl) (λ_ h=>by cases h) topMergesUpto_row_tie rfl ⟨rfl,rfl⟩ (by as_aux_lemma=>kernel_rfl) rfl
  (λf fn B o=>by
   obtain rfl : f = 3 := r9 ((show Tryz.prog.funcNamed "rubric/rubrictop.TopMerges" = some 3 by as_aux_lemma => kernel_rfl).symm.trans B) |>.symm
   obtain rfl:fn=Tryz.f3:=(r9 (func3.symm.trans o)).symm;exact ⟨by as_aux_lemma=>kernel_rfl,λj t ht=>by
    rw[Tryz.params3] at ht;have hm:t∈[22,23,24,24,3]:=by simpa using aBH ht
    have i:([22,23,24,24,3].all λu=>!prog.wantsStandIn u)=true:=by as_aux_lemma=>kernel_rfl
    exact (show prog.wantsStandIn t=false by simpa using wW.1 i t hm)⟩)
  (by as_aux_lemma=>kernel_rfl)
#print axioms TopMergesUpto_proved
end
end Go.Proofs.YtlmjclmngedmkaaGreatDoor
