/- parts of the proof -/
import Derived.Test.YtlmjclmngedmkaaGreatDoorZZZ0
set_option linter.all false
set_option maxRecDepth 100000
namespace Go.Proofs.YtlmjclmngedmkaaGreatDoor
open Go Proofs.Tryz
variable {j e c N:Nat}{w W W' w' w0:e_}{S F C M S':f_}{v sv dv:d_}{most:Int}{cs vs args:V_}{a:V'}{α:Type}{ks:Y'}{rs:X_}{K:Cont}{P:Program}
def LH{t e k bytes:Nat}{R:e_->V_->α->Prop}{l:List α}(O:Dg P t e k bytes)(h:BC S k R w v l)(hl:l.length*bytes<=140737488355328) (o:∀w r y,R w r y->∀u∈r,u.oneCell'=true)(Q:∀B w2 r y,w.heap.size<=B.heap.size->AK (λb=>w.heap.size<=b) B w2->R B r y->R w2 r y) (U:∀v' w',AG w.heap.size e k R w' v' l->AI w w'->K v' w') : Mc v λb4=>Al (.bool b4) (K i_ w) (Eb e k 0 [] [] (λt5 B=>runK P (Builtin.append_ #[t,t] t [t5,v].toArray) (λV w2=>K V w2) B) w):=by
 obtain⟨a,c,rfl,hm⟩:=h.AO;have hk:=O;obtain⟨_,_,_,_,_,_,_,_,I⟩:=hk;cases a with
 |none=>
  simp[KS];have:l=[]:=by
   cases l with
   |nil=>rfl
   |cons x l=>obtain⟨p,r,e,_⟩:=h.get (i:=0) D_;cases e
  subst this;exact U _ _ AG.nil (AK.refl _ _)
 |some p=>
  simp[KS];apply Jz;have J:AI w (w.alloc (.cells #[] e)):=AK.alloc _ _ _;have X:AG w.heap.size e k R (w.alloc (.cells #[] e)) (.slice (h_ w.heap.size) 0 0) ([]:List α):=AG.Xn (HK _);obtain⟨v',w',h1,Y,Z,h4⟩:=AG.append (ty:=t) O X ((h.JR I).U_ J I λr x hx=>Q _ _ _ _ (HK _) J.U' hx) (λ_ _=>o _ _ _) (by simpa using hl) D_ (by simpa using hm) (λw' j r y hy=>Q _ _ _ _ J.size ((AK.BQ j).mono λb _ e=>by simp[Value.ownBlock,S5] at e;omega) hy);refine AZ h1 (U _ _ ?_ (J.next (AK.BQ Z) ?_));refine Y.Bk λg j=>?_;rcases h4 g j with h|h;cases h;exact HK _;simp[aAG] at h;omega;intro b hb e;simp[Value.ownBlock,S5] at e;omega
def AT{p:Prop}[Decidable p]{A B:Prop}(h1:p->B)(i:¬p->A):Al (.bool (!decide p)) A B:=by
 by_cases h:p;rw[TC h];exact h1 h;rw[WL h];exact i h
def mW[DecidableEq α]{k:Nat}{R R':e_->V_->α->Prop}{a b:Option Addr}{l m:List α}{bin:d_->d_->Sem d_} (ha:BC S k R w (.slice a l.length c) l)(hb:BC S' k R' w (.slice b m.length N) m)(J:l.length=m.length)(hm:l.length<=maxLen) (O:∀r U x y i,R w r x->R' w U y->(bin (.agg r.toArray) (.agg U.toArray)).run P i=.ok (.bool (!decide (x=y))) i) (hK:∀w',AI w w'->K (.bool (decide (l=m))) w') : G8 [(zI 0)] (λvs o i=>∀ _:Env,Hm .i64 (Bm vs 0) (zI l.length) λV=>Al V (Mx i (λC=>Lb k (.slice a l.length c) (Bm vs 0) λX=>RL C k X λY=>Lb k (.slice b m.length N) (Bm vs 0) λt22=>RL C k t22 λZ=>K6 P C (bin Y Z) λa1=>∀ w2:e_,C w2->Al a1 (K (.bool false) w2) (DX .i64 (Bm vs 0) (zI 1) λt25=>o [t25] w2))) (K (.bool true) i)) w:=by
 simp[maxLen] at hm;apply AX (λvs w'=>∃k:Nat,k<=l.length/\vs=[zI k]/\AI w w'/\l.take k=m.take k) (λvs _=>l.length-Di vs 0) ⟨0,Hw _,rfl,AK.refl _ _,rfl⟩;rintro vs i ⟨q,hq,rfl,Q,ht⟩ h;simp only[KS];by_cases B:q<l.length;rw[Cx (E:(q:Int)<l.length)];refine⟨λw2=>AI i w2,AK.drew _ _,?_⟩;obtain⟨p,r,rfl,_,hr,hc,hx⟩:=ha.get B;obtain⟨p',U,rfl,_,a6,a7,a8⟩:=hb.get (E:q<m.length);refine AW B (J8 hr (λw2 I j u hu=>?_) ?_);rw[Addr.add_add];exact I.cell (Q.cell (hc j u hu) E_) E_;refine AW E (J8 a6 (λw2 I j u hu=>?_) ?_);rw[Addr.add_add];exact I.cell (Q.cell (a7 j u hu) E_) E_;refine⟨_,λw2 _=>O _ _ _ _ w2 hx a8,λw2 I=>?_⟩;simp only[KS];by_cases he:l[q]=m[q];rw[Bp (λh=>h he)];refine⟨⟨q+1,E,by rw[wrap64 E E];rfl,Q.trans I,?_⟩,?_⟩;rw[Lc,Lc,ht];simp[B,(E:q<m.length),he];simp only[Di,Bm,JS];rw[wrap64 E E];omega;rw[Cx he];have:decide (l=m)=false:=by rw[wQ];intro e;subst e;exact he rfl
 rw[<-this];exact hK _ (Q.trans I);rw[Bp (E:¬(q:Int)<l.length)];have:q=l.length:=E;subst this;rw[Nr,J,Nr] at ht;have:decide (l=m)=true:=by rw[S9];exact ht
 rw[<-this];exact hK _ Q
def Nu{l:X_}(h:BC S 1 CM w v l)(hl:l.length*4<=140737488355328) : AF prog 101 [v] (λv' w'=>AG w.heap.size 21 1 CM w' v' l/\AI w w') w:=by
 apply H_ func101;exact LH Lg h hl (λ_ _ _=>CM.one) N_ λv' w' h1 i=>And.intro h1 i
def Nv{l:Z_}(h:BC S 6 EA w v l)(hl:l.length*56<=140737488355328) : AF prog 104 [v] (λv' w'=>AG w.heap.size 63 6 EA w' v' l/\AI w w') w:=by
 apply H_ func104;exact LH QQ h hl (λ_ _ _=>EA.one) N_ λv' w' h1 i=>And.intro h1 i
def Ae.JR{S D:f_}{l:V'}(h:Ae S D w v l):Ae (λb=>S b/\b<w.heap.size) (λb=>D b/\b<w.heap.size) w v l:=BC.sub h (λb hb h=>⟨h,hb⟩) B_ λr x i=>i.U' l_ F_ λb hb h=>⟨h,hb⟩
def Pv{S D:f_}{l:V'}(h:Ae S D w v l)(hl:l.length*88<=140737488355328) : AF prog 164 [v] (λv' w'=>AG w.heap.size 50 5 (CW λb=>D b/\b<w.heap.size) w' v' l/\AI w w') w:=by
 apply H_ func164;exact LH HC h.JR hl (λ_ _ _=>CW.one) (λo I r y B hm i=>i.U' hm E C0) λv' w' h1 j=>And.intro h1 j
def VL{l:Z_}(h:Eg S w v l)(hl:l.length*56<=140737488355328) : AF prog 100 [v] (λv' w'=>AG w.heap.size 63 6 EA w' v' l/\AI w w') w:=by
 apply H_ func100;exact Nv h hl
def qh{a b:d_}{l m:Z_}(ha:BC S 6 EA w a l)(hb:BC S' 6 EA w b m) : AF prog 165 [a,b] (λv w'=>v=.bool (decide (l=m))/\AI w w') w:=by
 refine G_ func165 ?_ (.y (.y (.x (.y (.node [13] [(4,5),(13,25)] (.y (.y (.x (.y (.x .D8))))) .nil)))));obtain⟨Q,U,rfl,j⟩:=ha.AO;obtain⟨pb,cb,rfl,o⟩:=hb.AO;simp only[AP];rw[BH];refine AT (λi=>?_) λi=>?_;exact mW (K:=λv w'=>v=.bool (decide (l=m))/\AI w w') (bin:=λx y=>ET .neq 63 _ _ x y) ha hb E j (λr V x y B I J=>by subst I;subst J;exact Ww _ _ _ _ B) λ_ O=>⟨rfl,O⟩;refine⟨?_,AK.refl _ _⟩;congr 1;symm;rw[wQ];intro e;exact i (by rw[e])
def jA{a b:d_}{l m:Z_}(ha:Eg S w a l)(hb:Eg S' w b m) : AF prog 99 [a,b] (λv w'=>v=.bool (decide (l=m))/\AI w w') w:=by
 apply G_ func99;exact qh ha hb
def CN{t:TypeId}(h:∀b i,b=w.heap.size->i.heap.size=w.heap.size+1->AI w i->(∀j v,vs[j]?=some v->i.cell? ((⟨b,0,none⟩:Addr).add j)=some v)->(∀j,j<vs.length->Cv i ((⟨b,0,none⟩:Addr).add j))->K (g_ b) i):IW t (.agg vs.toArray) K w:=by
 refine⟨vs,rfl,?_⟩;refine h w.heap.size _ rfl D_ (AK.alloc _ _ _) (λj v B=>Fi B) λj I=>?_;have o:(⟨w.heap.size,0,none⟩:Addr).add j=⟨w.heap.size,j,none⟩:=by unfold Addr.add;split<;>simp_all
 rw[o];refine⟨?_,zi ..⟩;rw[zF];simp[I]
def kg{t:TypeId}{B vs:V_}{K:d_->e_->Prop}(hl:B.length=vs.length)(h1:∀v∈vs,v.oneCell'=true)(h:∀b i,b=w.heap.size->i.heap.size=w.heap.size+1->AI w i->(∀j v,vs[j]?=some v->i.cell? ((⟨b,0,none⟩:Addr).add j)=some v)->(∀j,j<vs.length->Cv i ((⟨b,0,none⟩:Addr).add j))->K (g_ b) i) : Cl t B (λt5 I=>Bu vs.length t5 (.agg vs.toArray) (λw4=>K t5 w4) I) w:=by
 refine WY (sk hl h1 ?_);obtain⟨o,e,J⟩:=CN (t:=t) (K:=K) (w:=w) h;have:vs=o:=by
  have:=tZ Value.cells e;simpa[Value.cells] using this
 subst this;exact J
def BJ{t:TypeId}{n:Nat}{o vs:V_}{K:d_->e_->Prop}(B:vs.length=n)(hl:o.length=n)(h1:∀v∈vs,v.oneCell'=true)(h:∀b i,b=w.heap.size->i.heap.size=w.heap.size+1->AI w i->(∀j v,vs[j]?=some v->i.cell? ((⟨b,0,none⟩:Addr).add j)=some v)->(∀j,j<vs.length->Cv i ((⟨b,0,none⟩:Addr).add j))->K (g_ b) i) : Cl t o (λt5 I=>Bu n t5 (.agg vs.toArray) (λw4=>K t5 w4) I) w:=by
 subst B;exact kg hl h1 h
def Fa{ok:Nat->Bool}{g:Nat}(i:ok g=true)(h:AF P g args K w):DD P ok (.func (.func g) #[] #[]) args K w:=.inl ⟨g,[],[],rfl,i,by simpa using h⟩
def AU{i:Addr->d_->Prop}{a:Addr}{k:d_->Prop}(h:i a v)(hk:k v):Ea i (.pointer (some a)) k:=⟨a,v,rfl,h,hk⟩
def DF{i:Addr->d_->Prop}{m:Nat}{a:Addr}{k:d_->Prop}(hl:vs.length=m)(h:∀j v,vs[j]?=some v->i (a.add j) v)(hk:k (.agg vs.toArray)):Hz i m (.pointer (some a)) k:=⟨a,vs,rfl,hl,h,hk⟩
def DY{F:(e_->Prop)->Prop}(C:e_->Prop)(h0:C w.drew)(h:F C):Mx w F:=⟨C,h0,h⟩
def Ag{BU:X'}{AN:List X'}{F:(Nat->f_)->(Nat->Addr->d_->Prop)->Prop}(M:Nat->f_)(h:F M (Zp BU AN M w0)):DK BU AN w0 F:=⟨M,h⟩
def SC{b:Nat}:∀(vs:V_) (i:Nat) (W:e_),(∀j,i<=j->j<i+vs.length->Cv W ((⟨b,0,none⟩:Addr).add j))->AK (λx=>x=b) W (FE W ⟨b,0,none⟩ i vs)/\(∀j u,vs[j]?=some u->(FE W ⟨b,0,none⟩ i vs).cell? ((⟨b,0,none⟩:Addr).add (i+j))=some u)/\(∀j,j<i->(FE W ⟨b,0,none⟩ i vs).cell? ((⟨b,0,none⟩:Addr).add j)=W.cell? ((⟨b,0,none⟩:Addr).add j))/\(∀a,Cv W a->Cv (FE W ⟨b,0,none⟩ i vs) a):=by
 intro vs;induction vs with
 |nil=>intro i W _;exact⟨AK.refl _ _,λj u hu=>by simp at hu,I_,λ_ h=>h⟩
 |cons x vs I=>
  intro i W hl;simp[FE];obtain⟨J,O,B,Q⟩:=I (i+1) (W.setCell ((⟨b,0,none⟩:Addr).add i) x) (λj h1 U=>(hl j (by omega) (by simp;omega)).set _ _);refine⟨(AK.setCell _ _ _ (by rw[AH])).trans J,λj u hu=>?_,λj V=>?_,λa ha=>Q a (ha.set _ _)⟩;cases j with
  |zero=>
   simp at hu;subst hu;obtain⟨X,o⟩:=pj.1 (hl i (HK _) D_).1;exact(B i E).trans (cO _ _ _ o)
  |succ j=>
   have:=O j u (by simpa using hu);rw[(E:i+(j+1)=i+1+j)];exact this
  rw[B j E,Of _ _ _ _ (by rw[AH,AH];intro e;simp only[Addr.mk.injEq] at e;omega)]
def CJ{b n:Nat}{K:e_->Prop}(o:vs.length=n)(h1:∀v∈vs,v.oneCell'=true)(hl:∀j,j<n->Cv W ((⟨b,0,none⟩:Addr).add j)) (B:∀W',AK (λx=>x=b) W W'->(∀j u,vs[j]?=some u->W'.cell? ((⟨b,0,none⟩:Addr).add j)=some u)->(∀a,Cv W a->Cv W' a)->K W'):Bu n (g_ b) (.agg vs.toArray) K W:=by
 obtain⟨I,J,_,O⟩:=SC (b:=b) vs 0 W (λj _ i=>hl j E);exact⟨_,vs,rfl,rfl,o,h1,λj i=>hl j i,B _ I (λj u hu=>by have:=J j u hu;rwa [wS] at this) O⟩
def EJ{t:TypeId}{i:V_}(h:∀b o,b=w.heap.size->o.heap.size=w.heap.size+1->AI w o->(∀j v,i[j]?=some v->o.cell? ((⟨b,0,none⟩:Addr).add j)=some v)->(∀j,j<i.length->Cv o ((⟨b,0,none⟩:Addr).add j))->K (g_ b) o):Cl t i K w:=by
 apply WY;obtain⟨B,e,I⟩:=CN (t:=t) (vs:=i) (K:=K) (w:=w) h;have:i=B:=by have:=tZ Value.cells e;simpa[Value.cells] using this
 subst this;exact I
def Pn(x:Int):-9223372036854775808<=IntKind.i64.wrap x/\IntKind.i64.wrap x<=9223372036854775807:=by
 have i:(2:Int) ^ IntKind.i64.bits=18446744073709551616:=B_;have j:(2:Int) ^ (IntKind.i64.bits-1)=9223372036854775808:=B_;simp[IntKind.wrap,i,j,IntKind.signed,zC,S9];split<;>omega
def AM{n:Nat}(h:(n:Int)+1<=9223372036854775807):Value.int .i64 (IntKind.i64.wrap ((n:Int)+1))=.int .i64 ((n+1:Nat):Int):=by
 rw[wrap64 E E];rfl
def CL{q:IntKind}{n:Int}{r:V_}:Di (.int q n::r) 0=n.toNat:=rfl
def BE{a:d_}{q:IntKind}{n:Int}{r:V_}:Di (a::.int q n::r) 1=n.toNat:=rfl
def Ri{a b:d_}{q:IntKind}{n:Int}{r:V_}:Di (a::b::.int q n::r) 2=n.toNat:=rfl
def Dc(r:Int):Prop:=0<=r/\r<55296\/57344<=r/\r<=1114111
instance (r:Int):Decidable (Dc r):=by unfold Dc;infer_instance
def HT(o:Dop):Prop:=(o.kind=1/\o.AY=[]/\o.set=[]/\1<=o.n/\o.n<=536870912)\/(o.kind=3/\o.AY=[]/\o.set=[]/\o.patch=[]/\1<=o.n/\o.n<=536870912)\/ (o.kind=2/\(∀r∈o.AY,Dc r)/\o.n=0/\o.patch=[]/\1<=o.AY.length/\o.AY.length<=536870912)
instance (o:Dop):Decidable (HT o):=by unfold HT;infer_instance
def X9{l:List α}:((l.length:Int)=0)↔l=[]:=by
 constructor;intro h;exact Kx E;rintro rfl;rfl
def PA(o:Dop):Int:=if o.kind=2 then o.AY.length else o.n
def Dn(f:Dop->Int)(x:V'):Int:=x.foldl (λs o=>IntKind.i64.wrap (s+f o)) 0
def Hb{f:Dop->Int}{x:V'}{k:Nat}(h:k<x.length):Dn f (x.take (k+1))=IntKind.i64.wrap (Dn f (x.take k)+f x[k]):=by
 rw[Lc,By h];simp only[Dn,wG,Option.toList,wP,yn]
def CO(o:Dop):Int:=if o.kind=2 then 0 else o.n
def CV(o:Dop):Int:=if o.kind=3 then 0 else PA o
def Gm{f:Dop->Int}{m:Int}(hm:0<=m)(x:V')(h:∀o∈x,0<=f o/\f o<=m)(hb:x.length*m<=4611686018427387904):Dn f x=(x.map f).sum/\0<=Dn f x/\Dn f x<=x.length*m:=by
 induction x using LW with
 |h0=>exact⟨rfl,by simp[Dn],by simp[Dn]⟩
 |h1 x o j=>
  have B:∀o∈x,0<=f o/\f o<=m:=λo i=>h o (by simp[i]);have i:=h o D_;have e:((x++[o]).length:Int)*m=x.length*m+m:=by simp[Int.add_mul]
  rw[e] at hb;obtain⟨J,O,Q⟩:=j B E;have I:Dn f (x++[o])=IntKind.i64.wrap (Dn f x+f o):=by simp[Dn]
  rw[I,wrap64 E E,e];refine⟨by rw[J];simp,E,E⟩
def dJ{s d:TypeId}{q k:IntKind}{n:Int}(i:(P.underlying s).isSome=true)(j:P.underlying d=some (.int k))(h:K (.int k (k.wrap n)) w):runK P (convert s d (.int q n)) K w:=by
 refine⟨_,_,?_,h⟩;obtain⟨e,he⟩:=pj.mp i;simp[convert,run_underlying he,run_underlying j,Conv.intToInt]
def Ev{t e k:Nat}{i:TypeInfo}{R:e_->V_->α->Prop}{a:Option Addr}{n c:Nat}{l:List α}(ht:P.underlying t=some (.slice e))(hi:P.info? e=some i)(hk:i.size=k) (h:BC S k R w (.slice a n c) l)(X:j<=l.length)(I:∀v',BC S k R w v' (l.drop j)->K v' w):runK P (Instr.sliceAt t (.slice a n c) (some (zI j)) none none) K w:=by
 obtain⟨Y,Z,J,h1,h2,O⟩:=h;cases J;have o:P.elem t=e:=by simp[Program.elem,ht]
 refine⟨sliced a j l.length c k,w,?_,I _ ?_⟩;rw[xb _ _ _ _ _ _ (by rw[o];exact ht),run_slice_l _ _ _ _ _ (by rw[o];exact ht) _ _ E E,o];simp[sizeOf,typeInfo,hi,hk];unfold sliced;refine⟨_,_,by rw[FB],by rw[FB];omega,E,λq x B=>?_⟩;rw[wH] at B;obtain⟨p,r,rfl,Q,hr,hc,U⟩:=O _ x B;have V:=(Bq.1 B).1;rw[Bp E];refine⟨p.add (j*k),r,rfl,by rw[Av];exact Q,hr,λm u hu=>?_,U⟩;rw[Addr.add_add,<-wx,<-wF];exact hc m u hu
def RQ{t e k:Nat}{i:TypeInfo}{R:e_->V_->α->Prop}{a:Option Addr}{n c:Nat}{l:List α}(ht:P.underlying t=some (.slice e))(hi:P.info? e=some i)(hk:i.size=k) (h:BC S k R w (.slice a n c) l)(V:j<=l.length)(I:∀v',BC S k R w v' (l.take j)->K v' w):runK P (Instr.sliceAt t (.slice a n c) none (some (zI j)) none) K w:=by
 obtain⟨X,Y,J,h1,Z,O⟩:=h;cases J;have o:P.elem t=e:=by simp[Program.elem,ht]
 refine⟨sliced a 0 j c k,w,?_,I _ ?_⟩;rw[xb _ _ _ _ _ _ (by rw[o];exact ht),aBR _ _ _ _ _ (by rw[o];exact ht) _ _ E E,o];simp[sizeOf,typeInfo,hi,hk];unfold sliced;have hl:(l.take j).length=j:=by simp;omega
 refine⟨_,_,by rw[hl,Nat.sub_zero],by rw[hl];omega,E,λq x B=>?_⟩;rw[wY] at B;split at B;obtain⟨p,r,rfl,Q,hr,hc,U⟩:=O _ x B;rw[Bp E];refine⟨p.add (0*k),r,rfl,by rw[Av];exact Q,hr,λm u hu=>?_,U⟩;rw[Addr.add_add,yx,wS];exact hc m u hu;cases B
abbrev KF:e_->V_->Int->Prop:=λ_ r x=>r=[.int .u8 x]
abbrev Cc(S:f_)(w:e_)(v:d_)(l:X_):Prop:=BC S 1 KF w v l
def CA(s:ByteArray):X_:=s.data.toList.map λb=>(b.toNat:Int)
def Ky(r:Int):Nat:=if r<128 then 1 else if r<2048 then 2 else if r<65536 then 3 else 4
def GY{e k len:Nat}{BK:List (Nat×d_)}(j:Instr.fill (λi=>some (i*k,k)) ((Array.range (len*k)).map (vs.toArray[· % vs.toArray.size]!)) BK=some cs.toArray)(h:K (.slice (h_ w.heap.size) len len) (w.alloc (.cells cs.toArray e))):Eb e k len vs BK K w:=⟨_,j,h⟩
def rI{q:IntKind}{z a:Int}(h:∀w',AI w w'->w'.heap.size=w.heap.size+1->(∀j v,[Value.int q a][j]?=some v->w'.cell? ((⟨w.heap.size,0,none⟩:Addr).add j)=some v)->K (.slice (h_ w.heap.size) 1 1) w'):Eb e 1 1 [.int q z] [(0,.int q a)] K w:=GY (cs:=[.int q a]) C_ (h _ (AK.alloc _ _ _) D_ λj v i=>Fi i)
def EF(i:Int):Option (Nat×Int):=if 240<=i then some (4,IntKind.i32.wrap (IntKind.i32.wrap i-240)) else if 224<=i then some (3,IntKind.i32.wrap (IntKind.i32.wrap i-224)) else if 192<=i then some (2,IntKind.i32.wrap (IntKind.i32.wrap i-192)) else if 128<=i then none else some (1,IntKind.i32.wrap i)
def KJ(b:X_):Nat->Nat->Int->Option Int
 |0,_,r=>some r
 |k+1,i,r=>match b[i]? with
  |some c=>if c<128\/191<c then none else KJ b k (i+1) (IntKind.i32.wrap (IntKind.i32.wrap (IntKind.i32.wrap (r*64)+IntKind.i32.wrap c)-128))
  |none=>none
def Dw(b:X_):Int×Nat:=match EF (b.headD 0) with
 |none=>(0,0)
 |some (n,r)=>if b.length<n then(0,0) else match KJ b (n-1) 1 r with
  |none=>(0,0)
  |some r=>if Dc r/\Ky r=n then(r,n) else(0,0)
def Xt{i r:Int}{n:Nat}(h:EF i=some (n,r)):1<=n/\n<=4:=by
 unfold EF at h;split at h;cases h;omega;split at h;cases h;omega;split at h;cases h;omega;split at h;cases h;cases h;omega
def bO(b:X_):(Dw b).2<=b.length/\(Dw b).2<=4:=by
 unfold Dw;split;exact⟨Hw _,Hw _⟩;rename_i n r h;have:=Xt h;split;exact⟨Hw _,Hw _⟩;split;exact⟨Hw _,Hw _⟩;split<;>simp only<;>omega
def Mr{t e k bytes B:Nat}{R:e_->V_->α->Prop}{l:List α}{x:α}{BK:List (Nat×d_)}(hE:Dg P t e k bytes)(h:AG B e k R w v l)(hB:B<=w.heap.size) (hf:Instr.fill (λi=>some (i*k,k)) ((Array.range (1*k)).map (vs.toArray[· % vs.toArray.size]!)) BK=some cs.toArray)(V:cs.length=k)(hx:R w cs x)(Q:∀w r y,R w r y->∀u∈r,u.oneCell'=true) (X:∀o w2 r y,w.heap.size<=o.heap.size->AK (λb=>v.ownBlock=some b\/w.heap.size<=b) o w2->R o r y->R w2 r y)(U:(l.length+1)*bytes<=140737488355328)(Y:l.length+1<=maxLen) {Q1:e_->Prop}{Q2:e_->e_->Prop}(Z:∀o,AI w o->Q1 o) (hK:∀o v' w',AG B e k R w' v' (l++[x])->AK (λb=>v.ownBlock=some b) o w'->AK (λb=>v.ownBlock=some b) w w'->(∀g,v'.ownBlock=some g->v.ownBlock=some g\/w.heap.size<=g)->Q2 o w'/\K v' w') : Eb e k 1 vs BK (λs o=>Q1 o/\runK P (Builtin.append_ #[t,t] t [v,s].toArray) (λv' w'=>Q2 o w'/\K v' w') o) w:=by
 refine⟨_,hf,?_⟩;have O:AI w (w.alloc (.cells cs.toArray e)):=AK.alloc _ _ _;have hc:∀j u,cs[j]?=some u->(w.alloc (.cells cs.toArray e)).cell? ((⟨w.heap.size,0,none⟩:Addr).add j)=some u:=λj u hu=>Fi hu;have hz:(w.alloc (.cells cs.toArray e)).heap.size=w.heap.size+1:=D_;generalize w.alloc (.cells cs.toArray e)=o at O hc hz ⊢;have h':AG B e k R o v l:=AG.U' h O C0 λr y _ I=>X _ _ _ _ (HK _) O.U' I;have hs:BC (λ_=>True) k R o (.slice (h_ w.heap.size) 1 1) [x]:=by
  refine⟨_,1,rfl,HK _,by simp[maxLen],λi y I=>?_⟩;have hi:i=0:=by have:=(Bq.1 I).1;simp at this;exact this
  subst hi;simp at I;subst I;exact⟨_,cs,rfl,trivial,V,λj u hu=>by rw[yx,wS];exact hc j u hu,X _ _ _ _ (HK _) O.U' hx⟩
 obtain⟨v',w',h1,h2,h3,h4⟩:=AG.append (ty:=t) hE h' hs (λ_ _=>Q _ _ _) (by simpa using U) E (by simpa using Y) (λw2 J r y I=>X _ _ _ _ E ((AK.BQ J).mono λb _ e=>.inl e) I);refine⟨Z _ O,AZ h1 (hK o v' w' h2 (AK.BQ h3) (O.U'.next (AK.BQ h3) C0) λg J=>?_)⟩;rcases h4 g J with h|h;exact .inl h;exact .inr E
def FL{t e k bytes B:Nat}{R:e_->V_->α->Prop}{l:List α}{x:α}{BK:List (Nat×d_)}(Q:Dg P t e k bytes)(h:AG B e k R w v l)(U:B<=w.heap.size) (V:Instr.fill (λi=>some (i*k,k)) ((Array.range (1*k)).map (vs.toArray[· % vs.toArray.size]!)) BK=some cs.toArray)(J:cs.length=k)(X:R w cs x)(o:∀w r y,R w r y->∀u∈r,u.oneCell'=true) (Y:∀j w2 r y,w.heap.size<=j.heap.size->AK (λb=>v.ownBlock=some b\/w.heap.size<=b) j w2->R j r y->R w2 r y)(I:(l.length+1)*bytes<=140737488355328)(O:l.length+1<=maxLen) (Z:∀v' w',AG B e k R w' v' (l++[x])->AK (λb=>v.ownBlock=some b) w w'->(∀g,v'.ownBlock=some g->v.ownBlock=some g\/w.heap.size<=g)->K v' w') : Eb e k 1 vs BK (λs j=>runK P (Builtin.append_ #[t,t] t [v,s].toArray) K j) w:=by
 obtain⟨c,h1,_,v',w',h2,_,h3⟩:=Mr (t:=t) (K:=K) (Q1:=λ_=>True) (Q2:=λ_ _=>True) Q h U V J X o Y I O (λ_ _=>trivial) λj v' w' k1 _ k2 k3=>⟨trivial,Z v' w' k1 k2 k3⟩;exact⟨c,h1,v',w',h2,h3⟩
def ME{t e k bytes:Nat}{R:e_->V_->α->Prop}{l:List α}{x:α}{BK:List (Nat×d_)}(Q:Dg P t e k bytes)(h:AG w0.heap.size e k R w v l)(O:AI w0 w)
 (U:Instr.fill (λi=>some (i*k,k)) ((Array.range (1*k)).map (vs.toArray[· % vs.toArray.size]!)) BK=some cs.toArray)(I:cs.length=k)(V:R w cs x)(j:∀w r y,R w r y->∀u∈r,u.oneCell'=true)
 (X:∀o w2 r y,w.heap.size<=o.heap.size->AK (λb=>v.ownBlock=some b\/w.heap.size<=b) o w2->R o r y->R w2 r y)(B:(l.length+1)*bytes<=140737488355328)(J:l.length+1<=maxLen)
 (Y:∀v' w',AG w0.heap.size e k R w' v' (l++[x])->AI w0 w'->K v' w') :
  Eb e k 1 vs BK (λs o=>runK P (Builtin.append_ #[t,t] t [v,s].toArray) K o) w:=
 FL Q h O.size U I V j X B J λv' w' h1 Z _=>Y v' w' h1 (O.next Z λb hb e=>by have:=(AG.Az h b e).1;omega)
def NN:Nat->X_->Option X_
 |0,b=>if b=[] then some [] else none
 |f+1,b=>if b=[] then some [] else if(Dw b).2=0 then none else(NN f (b.drop (Dw b).2)).map ((Dw b).1::·)
def CT(b:X_):Option X_:=NN b.length b
def XO:∀(f g:Nat) (b:X_),b.length<=f->b.length<=g->NN f b=NN g b:=by
 intro f;induction f with
 |zero=>
  intro g b i j;have:b=[]:=Kx E;subst this;cases g<;>simp[NN]
 |succ f o=>
  intro g b i j;cases g with
  |zero=>
   have:b=[]:=Kx E;subst this;simp[NN]
  |succ g=>
   simp[NN];split;rfl;split;rfl;rw[o g _ (by simp;omega) (by simp;omega)]
def RT{b:X_}(hb:b≠[]):CT b=if(Dw b).2=0 then none else(CT (b.drop (Dw b).2)).map ((Dw b).1::·):=by
 unfold CT;obtain⟨n,i⟩:∃n,b.length=n+1:=⟨b.length-1,by have:=wN.2 hb;omega⟩;rw[i];simp only[NN,Bp hb];split;rfl;rw[XO n _ _ (by simp;omega) (HK _)]
def LA(W:e_)(c:Array d_)(t:TypeId)(fr:Nat×Nat)(i:Nat):(W.alloc (.cells c t fr)).cell? ⟨W.heap.size,i,none⟩=c[i]?:=by
 have h:(W.alloc (.cells c t fr)).heap[W.heap.size]?=some (.cells c t fr):=zu W _;unfold World.cell?;simp only[h];rfl
def US{s:ByteArray}(O:s.size*4<=140737488355328)(I:∀v w',AI w w'->Cc (λ_=>True) w' v (CA s)->K v w'):runK prog (convert 9 42 (.string s)) K w:=by
 refine⟨_,_,run_bytes_of_string w _ _ 5 s C_ C_ C_,I _ _ ((AK.drew (λ_=>False) w).trans (AK.alloc _ _ _)) ?_⟩;have hl:(CA s).length=s.size:=by simp[CA]
 have hm:s.size<=maxLen:=by simp[maxLen];omega
 refine⟨_,_,by rw[hl],by rw[hl];exact aAo _ _ _ _,yu _ _ _ _ hm,λi x o=>⟨_,[.int .u8 x],rfl,trivial,rfl,λj u hu=>?_,rfl⟩⟩;have J:j=0:=by have:=(Bq.1 hu).1;simp at this;exact this
 subst J;simp at hu;subst hu;rw[AH,xd,ua];have hi:=(Bq.1 o).1;rw[hl] at hi;have B:x=((s.data[i]'hi).toNat:Int):=by
  simp only[CA,vy,wU] at o;rw[yU hi] at o;simpa using o.symm
 subst B;apply(LA w.drew _ _ _ i).trans;simp[bytesRow,aAC,hi]
def IK(f:Int):Prop:=9218868437227405312<f.tmod 9223372036854775808
instance (f:Int):Decidable (IK f):=by unfold IK;infer_instance
def HO:ByteArray:=ByteArray.mk #[]
def EE(v:BF):Prop:=(v.kind=1/\v=⟨1,v.n,0,HO⟩/\(v.n=0\/v.n=1))\/(v.kind=2/\v=⟨2,v.n,0,HO⟩)\/(v.kind=3/\v=⟨3,0,v.f,HO⟩/\(¬IK v.f\/v.f=9221120237041090560))\/ (v.kind=4/\v=⟨4,0,0,v.s⟩/\v.s.size<=64/\(CT (CA v.s)).isSome=true)
instance (v:BF):Decidable (EE v):=by unfold EE;infer_instance
def BF.one(v:BF):∀u∈v.cells,u.oneCell'=true:=by
 intro u hu;simp[BF.cells,I3,wA,xx] at hu;rcases hu with rfl|rfl|rfl|rfl<;>rfl
def DKey.zero:DKey:=⟨0,false,0,false,false,0⟩
def Bg(i:Y')(id:Int):Option DKey:=i.find? λk=>decide (k.id=id)
def II(i:Y')(id:Int)(v:BF):Prop:=∃k,Bg i id=some k/\EE v/\v.kind=k.kind
def Rf{α:Type}(key:α->Int)(l:List α)(n:Nat):Prop:=∀i,1<=i->i<n->∀a b,l[i-1]?=some a->l[i]?=some b->key a<key b
abbrev uS(l:W_):Prop:=Rf Attr.key l l.length
abbrev uK(l:Z_):Prop:=Rf Chg.key l l.length
def Nb(l:W_):Prop:=¬uS l\/64<l.length\/∃a∈l,¬EE a.val
def JE(i:Y')(l:W_):Prop:=∃a∈l,¬II i a.key a.val
open Classical in
noncomputable def Bl(i:Y')(l:W_):Int:=if Nb l then 3 else if JE i l then 4 else 0
def BF.zero:BF:=⟨0,0,0,HO⟩
def Pw(p:Z_):Prop:=¬uK p\/64<p.length\/∃c∈p,(c.Ak=true/\c.val≠BF.zero)\/(c.Ak=false/\¬EE c.val)
def JY(i:Y')(p:Z_):Prop:=∃c∈p,Bg i c.key=none\/(c.Ak=false/\¬II i c.key c.val)
open Classical in
noncomputable def EL(i:Y')(p:Z_):Int:=if Pw p then 3 else if JY i p then 4 else 0
def Cq(k:DKey):Prop:=1<=k.id/\k.id<=1000/\1<=k.kind/\k.kind<=4/\0<=k.Yf/\k.Yf<=8/\(k.block=false->k.Yf=0)/\(k.block=true->k.J3=false)
def qE(o:Y')(n:Nat):Prop:=∀i,i<n->∀k,o[i]?=some k->Cq k/\∀j,j<i->∀B,o[j]?=some B->B.id≠k.id
def Gb(i:Y'):Prop:=i.length<=64/\qE i i.length
def ZE(l:W_):Nat:=(l.map λa=>a.val.s.size).sum
def aX(l:Z_):Nat:=(l.map λa=>a.val.s.size).sum
def LL(l:W_):Eo l=l.length+ZE l:=by
 induction l with
 |nil=>rfl
 |cons a l i=>simp[Eo,ZE,S4,wJ,Hn,Gl] at i ⊢;omega
def T7(l:Z_):FK l=l.length+aX l:=by
 induction l with
 |nil=>rfl
 |cons a l i=>simp[FK,aX,S4,wJ,Hn,KO] at i ⊢;omega
def fJ{l:W_}{k:Nat}(h:k<l.length):ZE (l.take (k+1))=ZE (l.take k)+l[k].val.s.size:=by
 rw[Lc,By h];simp only[ZE,Option.toList,S7,yV,S4,wh,wJ,xm,ua]
def gT{l:Z_}{k:Nat}(h:k<l.length):aX (l.take (k+1))=aX (l.take k)+l[k].val.s.size:=by
 rw[Lc,By h];simp only[aX,Option.toList,S7,yV,S4,wh,wJ,xm,ua]
def XY{l:V'}{k:Nat}(h:k<l.length):Aa (l.take (k+1))=Aa (l.take k)+Co l[k]:=by
 rw[Lc,By h];simp only[Aa,Option.toList,S7,yV,S4,wh,wJ,xm,ua]
def EP{l:V'}{o:Dop}(h:o∈l):Co o<=Aa l:=by
 induction l with
 |nil=>simp at h
 |cons a l i=>
  have e:Aa (a::l)=Co a+Aa l:=by simp[Aa]
  rcases I3.1 h with rfl|h;omega;have:=i h;omega
def Bo(l:V'):l.length<=Aa l:=by
 induction l with
 |nil=>exact Hw _
 |cons a l i=>simp[Aa,S4,wJ,Hn,Co] at i ⊢;omega
def Jc(l:V')(k:Nat):Aa (l.take k)<=Aa l:=by
 have:Aa l=Aa (l.take k)+Aa (l.drop k):=by
  conv=>lhs;rw[<-QC k l]
  simp only[Aa,S7,yV]
 omega
def pO(l:W_)(k:Nat):ZE (l.take k)<=ZE l:=by
 have:ZE l=ZE (l.take k)+ZE (l.drop k):=by
  conv=>lhs;rw[<-QC k l]
  simp only[ZE,S7,yV]
 omega
def pW(l:Z_)(k:Nat):aX (l.take k)<=aX l:=by
 have:aX l=aX (l.take k)+aX (l.drop k):=by
  conv=>lhs;rw[<-QC k l]
  simp only[aX,S7,yV]
 omega
def ie{l:W_}{a:Attr}(h:a∈l):a.val.s.size+1<=Eo l:=by
 induction l with
 |nil=>simp at h
 |cons b l i=>
  have e:Eo (b::l)=Gl b+Eo l:=by simp[Eo]
  rcases I3.1 h with rfl|h;simp[Gl] at e;omega;have:=i h;omega
def jB{l:Z_}{a:Chg}(h:a∈l):a.val.s.size+1<=FK l:=by
 induction l with
 |nil=>simp at h
 |cons b l i=>
  have e:FK (b::l)=KO b+FK l:=by simp[FK]
  rcases I3.1 h with rfl|h;simp[KO] at e;omega;have:=i h;omega
def Yi{S D:f_}{x:V'}(h:Ae S D w v x)(hb:Aa x<=1099511627776) : AF prog 15 [v] (λv' w'=>v'=zI (Aa x)/\AI w w') w:=by
 refine H_ func15 ?_ (.y (.y (.x (.y (.node [3,4] [(3,81)] (.y (.x (.z .D8 (.z (.y (.node [3,5] [(3,3),(5,5),(36,58)] .nil .nil)) (.y (.node [3,6] [(3,3),(6,6),(59,81)] .nil .nil)))))) .nil)))));obtain⟨a,c,rfl,hm⟩:=h.AO;simp[maxLen] at hm;apply AX (λvs U=>∃k:Nat,k<=x.length/\vs=[zI (Aa (x.take k)),zI k]/\AI w U) (λvs _=>x.length-Di vs 1) ⟨0,Hw _,rfl,AK.refl _ _⟩;rintro vs U ⟨k,hk,rfl,Z⟩ _;simp only[Iu];rw[AP,As];refine AE (λal=>?_) λan=>?_;have o:k<x.length:=E;have a6:=XY o;have ak:=Jc x (k+1);obtain⟨p,r,rfl,_,hr,hc,rv,sv,pv,rfl,h1,h2,h3⟩:=(Ae.U_ h Z).get o;obtain⟨a1,c1,rfl,m1⟩:=h1.AO;obtain⟨a2,c2,rfl,m2⟩:=h2.AO;obtain⟨a3,c3,rfl,m3⟩:=h3.AO;have cl:∀{W},AI U W->∀j u,[Value.int .u8 x[k].kind,zI x[k].n,.slice a1 x[k].AY.length c1,.slice a2 x[k].set.length c2,.slice a3 x[k].patch.length c3][j]?=some u->W.cell? ((p.add (k*5)).add j)=some u:=λI j u hu=>by rw[Addr.add_add];exact I.cell (hc j u hu) E_
 simp only[Co,LL,T7] at a6;apply DY (λw2=>AI U w2) (AK.drew _ _);rw[AR,wrap64 E E];apply AW o;rw[AB];apply BR (λW I=>cl I 2 _ rfl);rw[AP,AR,wrap64 E E];apply AW o;rw[AB];apply BR (λW I=>cl I 3 _ rfl);rw[AP,AR,wrap64 E E];apply AW o;rw[AB];apply BR (λW I=>cl I 4 _ rfl);rw[AP,AR,wrap64 E E];intro w2 g2;generalize hN:((Aa (x.take k):Nat):Int)+1+x[k].AY.length+x[k].set.length+x[k].patch.length=N;apply AX (λvs w3=>∃i:Nat,i<=x[k].set.length/\vs=[zI (N+ZE (x[k].set.take i)),zI i]/\AI U w3) (λvs _=>x[k].set.length-Di vs 1) ⟨0,Hw _,by simp[ZE],g2⟩;rintro vs w3 ⟨i,hi,rfl,V⟩ _;simp only[JS,wL];apply AW o;rw[AB];apply AD (cl V 3 _ rfl);rw[AP,As];refine AE (λa7=>?_) λa8=>?_;have B:i<x[k].set.length:=E;have J:=fJ B;have X:=pO x[k].set (i+1);apply AW o;rw[AB];apply AD (cl V 3 _ rfl);obtain⟨q,r',rfl,_,aa,O,Q⟩:=(h2.U_ V B_ C0).get B;subst Q;apply AW B;rw[AB,AB,Addr.add_add,Addr.add_add];apply AD (O 4 _ rfl);rw[PU,AR,AR,AM E,wrap64 E E];refine⟨⟨i+1,B,by rw[J];congr 2;omega,V⟩,by rw[BE,BE];omega⟩;have:i=x[k].set.length:=E;subst this;rw[Nr];generalize av:N+ZE x[k].set=N2;apply AX (λvs w4=>∃i:Nat,i<=x[k].patch.length/\vs=[zI (N2+aX (x[k].patch.take i)),zI i]/\AI U w4) (λvs _=>x[k].patch.length-Di vs 1) ⟨0,Hw _,by simp[aX],V⟩;rintro vs w4 ⟨i,hi,rfl,Y⟩ _;simp only[JS,wL];apply AW o;rw[AB];apply AD (cl Y 4 _ rfl);rw[AP,As];refine AE (λa7=>?_) λa8=>?_;have B:i<x[k].patch.length:=E;have J:=gT B;have X:=pW x[k].patch (i+1);apply AW o;rw[AB];apply AD (cl Y 4 _ rfl);obtain⟨q,r',rfl,_,aa,O,Q⟩:=(h3.U_ Y B_ C0).get B;subst Q;apply AW B;rw[AB,AB,Addr.add_add,Addr.add_add];apply AD (O 5 _ rfl);rw[PU,AR,AR,AM E,wrap64 E E];refine⟨⟨i+1,B,by rw[J];congr 2;omega,Y⟩,by rw[BE,BE];omega⟩;have:i=x[k].patch.length:=E;subst this;rw[Nr,AR,AM E];refine⟨⟨k+1,o,?_,Z.trans Y⟩,by rw[BE,BE];omega⟩;congr 2;omega;have:k=x.length:=E;subst this;rw[Nr];exact⟨rfl,Z⟩
structure MkS where
 done:V'
 ins:V'
 Ak:Int
def MkS.z:MkS:=⟨[],[],0⟩
def BW(ins:V')(Ak:Int):V':=if 0<Ak then ins++[⟨3,Ak,[],[],[]⟩] else ins
def G0(d:V')(n:Int)(p:Z_):V':=
 match d.getLast? with
 |some o=>if o.kind=1/\o.patch=p then d.set (d.length-1) ⟨o.kind,IntKind.i64.wrap (o.n+n),o.AY,o.set,o.patch⟩ else d++[⟨1,n,[],[],p⟩]
 |none=>d++[⟨1,n,[],[],p⟩]
def GM(s:MkS)(n:Int)(p:Z_):MkS:=if n<1 then s else⟨G0 (s.done++BW s.ins s.Ak) n p,[],0⟩
def Gh(ins:V')(rs:X_)(set:W_):V':=
 match ins.getLast? with
 |some o=>if o.set=set then ins.set (ins.length-1) ⟨o.kind,o.n,o.AY++rs,o.set,o.patch⟩ else ins++[⟨2,0,rs,set,[]⟩]
 |none=>ins++[⟨2,0,rs,set,[]⟩]
def KD(s:MkS)(rs:X_)(set:W_):MkS:=if rs=[] then s else⟨s.done,Gh s.ins rs set,s.Ak⟩
def KC(s:MkS)(n:Int):MkS:=⟨s.done,s.ins,IntKind.i64.wrap (s.Ak+MS n 0)⟩
def BX(s:MkS)(o:Dop):MkS:=if o.kind=1 then GM s o.n o.patch else if o.kind=2 then KD s o.AY o.set else KC s o.n
def FT(l:V'):V':=match l.getLast? with|some o=>if o.kind=1/\o.patch=[] then l.dropLast else l|none=>l
def Ra(s:MkS):V':=FT (s.done++BW s.ins s.Ak)
def BB(x:V'):MkS:=x.foldl BX MkS.z
def AL(x:V'):V':=Ra (BB x)
def GG(o:Dop):Prop:=(o.kind=1/\o.AY=[]/\o.set=[]/\1<=o.n/\o.n<=536870912)\/(o.kind=3/\o.AY=[]/\o.set=[]/\o.patch=[]/\1<=o.n/\o.n<=536870912)\/(o.kind=2/\o.n=0/\o.patch=[]/\o.AY≠[])
inductive Gj:V'->Prop
 |nil:Gj []
 |H5 (i:V') (rs:X_) (set:W_) (h:Gj i) (hr:rs≠[]) (hs:∀q,i.getLast?=some q->q.set≠set):Gj (i++[⟨2,0,rs,set,[]⟩])
inductive Fl:V'->Prop
 |nil:Fl []
 |H5 (d ins:V') (Ak n:Int) (p:Z_) (h:Fl d) (hi:Gj ins) (hg:0<=Ak) (hb:Ak<=4611686018427387904) (hn:1<=n) (hp:ins=[]->Ak=0->∀q,d.getLast?=some q->q.patch≠p):Fl (d++BW ins Ak++[⟨1,n,[],[],p⟩])
def Gj.add(h:Gj a)(hr:rs≠[])(set:W_):Gj (Gh a rs set):=by
 cases h with
 |nil=>exact Gj.H5 [] rs set .nil hr λq I=>by simp at I
 |H5 i o j h B J=>
  unfold Gh;simp only[R0,WJ,vz];by_cases e:j=set;rw[Cx e];have:(i++[(⟨2,0,o,j,[]⟩:Dop)]).set ((i++[(⟨2,0,o,j,[]⟩:Dop)]).length-1) ⟨2,0,o++rs,j,[]⟩=i++[⟨2,0,o++rs,j,[]⟩]:=D_;rw[this];exact Gj.H5 i _ j h (by simp[B]) J;rw[Bp e];exact Gj.H5 _ rs set (Gj.H5 i o j h B J) hr λq I=>by
   simp[R0,WJ,vz,S5] at I;subst I;exact e
def Gj.kinds(h:Gj a):∀o∈a,o.kind=2:=by
 induction h with
 |nil=>intro o j;simp at j
 |H5 i rs set h hr I B=>
  intro o j;rcases DN.1 j with j|j;exact B o j;simp at j;subst j;rfl
def Gj.run(h:Gj a)(d:V')(g:Int):a.foldl BX ⟨d,[],g⟩=⟨d,a,g⟩:=by
 induction h with
 |nil=>rfl
 |H5 i rs set h hr j o=>
  rw[wG,o];simp[wP,yn,BX,(B_:¬(2:Int)=1),KD,Bp hr,Gh];cases e:i.getLast? with
  |none=>rfl
  |some q=>simp only;rw[Bp (j q e)]
def LK(h:Gj a):∀o,(BW a most).getLast?=some o->o.kind≠1:=by
 intro o i;unfold BW at i;split at i;simp[R0,WJ,vz,S5] at i;subst i;intro h;cases h;have:=h.kinds o (xI i);omega
def Mg(h0:0<=most)(h:BW a most=[]):a=[]/\most=0:=by
 unfold BW at h;split at h;simp at h;exact⟨h,E⟩
def QL{d g:V'}:(d++g).getLast?=match g.getLast? with|some o=>some o|none=>d.getLast?:=by
 rw[R0];cases g.getLast?<;>rfl
def YQ(h:Gj a)(d:V'){g:Int}(i:0<=g)(hb:g<=4611686018427387904):(BW a g).foldl BX ⟨d,[],0⟩=⟨d,a,g⟩:=by
 unfold BW;split;rw[wG,h.run];simp only[wP,yn,BX,(B_:¬(3:Int)=1),(B_:¬(3:Int)=2),xF,KC];have:MS g 0=g:=by unfold MS;rw[Bp E]
 rw[this,wrap64 E E];congr 1;omega;rw[h.run];congr 1;omega
def YR{d g:V'}{n:Int}{p:Z_}(h1:∀o,g.getLast?=some o->o.kind≠1)(i:g=[]->∀q,d.getLast?=some q->q.patch≠p):G0 (d++g) n p=d++g++[⟨1,n,[],[],p⟩]:=by
 unfold G0;rw[QL];cases e:g.getLast? with
 |some o=>simp only;rw[Bp (λh=>h1 o e h.1)]
 |none=>
  have:g=[]:=xK.1 e;subst this;simp[Ty];cases j:d.getLast? with
  |none=>rfl
  |some q=>simp only;rw[Bp (λh=>i rfl q j h.2)]
def Fl.run{d:V'}(h:Fl d):d.foldl BX MkS.z=⟨d,[],0⟩:=by
 induction h with
 |nil=>rfl
 |H5 d ins Ak n p h hi i hb o hp j=>
  rw[wG,wG,j,YQ hi d i hb];simp only[wP,yn,BX,yE,GM,Bp (E:¬n<1)];rw[YR (LK hi) λe=>hp (Mg i e).1 (Mg i e).2]
def Gi(l:V'):Int:=(l.map (·.n)).sum
def Dq(l m:V'):Gi (l++m)=Gi l+Gi m:=by simp[Gi]
def GR(o:Dop):Gi [o]=o.n:=by simp[Gi]
def Gj.sum(h:Gj a):Gi a=0:=by
 induction h with
 |nil=>rfl
 |H5 i rs set h hr o j=>rw[Dq,GR,j];rfl
def JQ{g:Int}(h:Gj a)(i:0<=g):Gi (BW a g)=g:=by
 unfold BW;split;rw[Dq,GR,h.sum];simp;rw[h.sum];omega
def Fl.nn{d:V'}(h:Fl d):0<=Gi d:=by
 induction h with
 |nil=>simp[Gi]
 |H5 d ins Ak n p h hi i hb j hp o=>rw[Dq,Dq,GR,JQ hi i];simp only;omega
structure VH (s:MkS) (t:Int):Prop where
 done:Fl s.done
 ins:Gj s.ins
 Ak:0<=s.Ak
 sum:Gi s.done+s.Ak=t
def VH.step{s:MkS}{t:Int}(h:VH s t){o:Dop}(ho:GG o)(ht:t+o.n<=4611686018427387904):VH (BX s o) (t+o.n):=by
 obtain⟨done,ins,Ak⟩:=s;obtain⟨h1,O,U,Y⟩:=h;simp only at h1 O U Y;obtain⟨k,n,rs,set,p⟩:=o;have a6:=h1.nn;rcases ho with⟨B,Q,V,j,e5⟩|⟨B,Q,V,j,e5,e6⟩|⟨B,Q,V,j⟩;simp only at B Q V j e5 ht;subst B;simp[BX,GM,Bp (E:¬n<1)];have key:Fl (G0 (done++BW ins Ak) n p)/\Gi (G0 (done++BW ins Ak) n p)=t+n:=by
  by_cases i:BW ins Ak=[];obtain⟨e8,e9⟩:=Mg U i;subst e8;subst e9;rw[i,Ty];cases h1 with
  |nil=>exact⟨Fl.H5 [] [] 0 n p .nil .nil E E j λ_ _ q Z=>by simp at Z,by simp only[G0,aAp,Dq,GR] at Y ⊢;omega⟩
  |H5 d ins Ak J I h hi X hb hn hp=>
   unfold G0;rw[R0,WJ,vz];simp only[zl];rw[Dq,Dq,GR,JQ hi X] at Y;simp only at Y;have a7:=h.nn;by_cases e:I=p;rw[Cx e];have a1:(d++BW ins Ak++[(⟨1,J,[],[],I⟩:Dop)]).set ((d++BW ins Ak++[(⟨1,J,[],[],I⟩:Dop)]).length-1) ⟨1,IntKind.i64.wrap (J+n),[],[],I⟩=d++BW ins Ak++[⟨1,IntKind.i64.wrap (J+n),[],[],I⟩]:=by
    rw[wV _ _ D_];simp
   rw[a1,wrap64 E E];refine⟨Fl.H5 d ins Ak (J+n) I h hi X hb E hp,?_⟩;rw[Dq,Dq,GR,JQ hi X];simp only;omega;rw[Bp e];have:=Fl.H5 (d++BW ins Ak++[⟨1,J,[],[],I⟩]) [] 0 n p (Fl.H5 d ins Ak J I h hi X hb hn hp) .nil E E j λ_ _ q Z=>by
    rw[R0,WJ,vz] at Z;cases Z;exact e
   simp only[BW,(B_:¬(0:Int)<0),xF,Ty] at this;refine⟨this,?_⟩;simp only[Dq,GR,JQ hi X];omega
  rw[YR (LK O) λe=>(i e).elim];refine⟨Fl.H5 done ins Ak n p h1 O U E j λe8 e9=>(i (by subst e8;subst e9;rfl)).elim,?_⟩;rw[Dq,Dq,GR,JQ O U];simp only;omega
 exact⟨key.1,.nil,D_,by simp only;omega⟩;simp only at B Q V j e5 e6 ht;subst B;simp[BX,(B_:¬(3:Int)=1),(B_:¬(3:Int)=2),KC];have:MS n 0=n:=by unfold MS;rw[Bp E]
 rw[this,wrap64 E E];exact⟨h1,O,by simp only;omega,by simp only;omega⟩;simp only at B Q V j ht;subst B;subst Q;simp[BX,(B_:¬(2:Int)=1),KD,Bp j];exact⟨h1,O.add j set,U,by simp only;omega⟩
def GG.nn{o:Dop}(h:GG o):0<=o.n/\o.n<=536870912:=by
 rcases h with⟨_,_,_,h,i⟩|⟨_,_,_,_,h,i⟩|⟨_,h,_⟩<;>omega
def LX(x:V')(h:∀o∈x,GG o):0<=Gi x/\Gi x<=x.length*536870912:=by
 induction x with
 |nil=>simp[Gi]
 |cons o x i=>
  have h1:=i λo j=>h o (by simp[j]);have B:=(h o D_).nn;have:Gi (o::x)=o.n+Gi x:=by simp[Gi]
  rw[this];simp[Hn];omega
def LU(x:V')(h:∀o∈x,GG o)(hl:x.length<=8589934592):VH (BB x) (Gi x):=by
 induction x using LW with
 |h0=>exact⟨.nil,.nil,B_,B_⟩
 |h1 x o B=>
  have j:∀o∈x,GG o:=λo i=>h o (by simp[i]);have i:=h o D_;simp[Ad,Hn,gC] at hl;have h1:=B (λo i=>j o i) E;have I:=LX x λo i=>j o i;have J:=i.nn;unfold BB at h1 ⊢;rw[wG,Dq,GR];exact h1.step i E
def iH{d ins:V'}{g:Int}(V:Fl d)(hi:Gj ins)(X:0<=g)(hb:g<=4611686018427387904):AL (FT (d++BW ins g))=FT (d++BW ins g):=by
 have Ap:∀(d ins:V') (g:Int),Fl d->Gj ins->0<=g->g<=4611686018427387904->AL (d++BW ins g)=FT (d++BW ins g):=by
  intro d ins g V hi X hb;unfold AL BB Ra;rw[wG,V.run,YQ hi d X hb]
 by_cases j:BW ins g=[];rw[j,Ty];cases V with
 |nil=>rfl
 |H5 d i O n p h B I Q Z hp=>
  by_cases e:p=[];subst e;have J:FT (d++BW i O++[(⟨1,n,[],[],[]⟩:Dop)])=d++BW i O:=by
   unfold FT;rw[R0,WJ,vz];simp[aAz,wK]
  rw[J,Ap d i O h B I Q];unfold FT;rw[QL];cases U:(BW i O).getLast? with
  |some o=>simp only;rw[Bp (λh=>LK B o U h.1)]
  |none=>
   have Y:=xK.1 U;obtain⟨e4,e5⟩:=Mg I Y;rw[Y,Ty];simp only;cases e6:d.getLast? with
   |none=>rfl
   |some q=>simp only;rw[Bp (λh=>hp e4 e5 q e6 h.2)]
  have hD:=Fl.H5 d i O n p h B I Q Z hp;have J:FT (d++BW i O++[(⟨1,n,[],[],p⟩:Dop)])=d++BW i O++[⟨1,n,[],[],p⟩]:=by
   unfold FT;rw[R0,WJ,vz];simp[e,and_false]
  rw[J];have:=Ap _ [] 0 hD .nil E E;simp only[BW,(B_:¬(0:Int)<0),xF,Ty] at this;exact this.trans J
 have J:FT (d++BW ins g)=d++BW ins g:=by
  unfold FT;rw[QL];cases U:(BW ins g).getLast? with
  |some o=>simp only;rw[Bp (λh=>LK hi o U h.1)]
  |none=>exact(j (xK.1 U)).elim
 rw[J,Ap d ins g V hi X hb,J]
def Xr(x:V')(h:∀o∈x,GG o)(hl:x.length<=8589934592):AL (AL x)=AL x:=by
 have c:=LU x h hl;have i:=LX x h;have j:=c.done.nn;have B:=c.sum;exact iH c.done c.ins c.Ak E
def BN(l:V'):Nat:=(l.map λo=>o.AY.length).sum
def De(l:V'):Int:=(l.map λo=>if o.kind=3 then o.n else 0).sum
def Du(l m:V'):BN (l++m)=BN l+BN m:=by simp[BN]
def Gy(l m:V'):De (l++m)=De l+De m:=by simp[De]
def Fq(o:Dop):BN [o]=o.AY.length:=by simp[BN]
def JL(o:Dop):De [o]=if o.kind=3 then o.n else 0:=by simp[De]
def Ma(i:V')(b o:Dop):(i++[b]).set ((i++[b]).length-1) o=i++[o]:=by
 rw[wV _ _ D_];simp
def qw(d:V')(n:Int)(p:Z_):BN (G0 d n p)=BN d/\De (G0 d n p)=De d/\(G0 d n p).length<=d.length+1:=by
 rcases Gt d with rfl|⟨i,b,rfl⟩;exact⟨by simp[G0,BN],by simp[G0,De],by simp[G0]⟩;unfold G0;rw[R0,WJ,vz];simp only;by_cases e:b.kind=1/\b.patch=p;rw[Cx e,Ma];refine⟨by simp[Du,Fq],?_,D_⟩;simp[Gy,JL,e.1,(B_:¬(1:Int)=3)];rw[Bp e];exact⟨by simp only[Du,Fq,gC,ua],by simp only[Gy,JL,(B_:¬(1:Int)=3),xF,aBj],D_⟩
def qK(d:V')(rs:X_)(set:W_):BN (Gh d rs set)=BN d+rs.length/\(Gh d rs set).length<=d.length+1:=by
 rcases Gt d with rfl|⟨i,b,rfl⟩;exact⟨by simp[Gh,BN],by simp[Gh]⟩;unfold Gh;rw[R0,WJ,vz];simp only;by_cases e:b.set=set;rw[Cx e,Ma];exact⟨by simp[Du,Fq,Ad];omega,D_⟩;rw[Bp e];exact⟨by simp only[Du,Fq],D_⟩
def fB{g:Int}(h:Gj a)(I:0<=g):BN (BW a g)=BN a/\De (BW a g)=g/\(BW a g).length=a.length+if 0<g then 1 else 0:=by
 have i:De a=0:=by
  have hk:=h.kinds;clear h;induction a with
  |nil=>rfl
  |cons o l j=>
   have:=j λo B=>hk o (by simp[B]);have e:De (o::l)=(if o.kind=3 then o.n else 0)+De l:=by simp[De]
   rw[e,this,hk o D_];rfl
 unfold BW;by_cases h0:0<g;rw[Cx h0,Cx h0];refine⟨by simp[Du,Fq,gC,ua],?_,D_⟩;simp only[Gy,JL,yE,i];omega;rw[Bp h0,Bp h0];exact⟨rfl,E,D_⟩
def Fl.bare{d:V'}(h:Fl d):∀o∈d,o.kind=1->o.AY=[]:=by
 induction h with
 |nil=>intro o i;simp at i
 |H5 d ins Ak n p h hi B hb I hp j=>
  intro o i hk;rcases DN.1 i with i|i;rcases DN.1 i with i|i;exact j o i hk;unfold BW at i;split at i;rcases DN.1 i with i|i;have:=hi.kinds o i;omega;simp at i;subst i;rfl;have:=hi.kinds o i;omega;simp at i;subst i;rfl
def bT(x:V')(h:∀o∈x,GG o)(hl:x.length<=8589934592) : BN (BB x).done+BN (BB x).ins=BN x/\De (BB x).done+(BB x).Ak=De x/\(BB x).done.length+(BB x).ins.length+(if 0<(BB x).Ak then 1 else 0)<=x.length:=by
 induction x using LW with
 |h0=>exact⟨rfl,rfl,by simp[BB,MkS.z]⟩
 |h1 x o Z=>
  have O:∀o∈x,GG o:=λo i=>h o (by simp[i]);have i:=h o (by simp);simp[Ad,Hn,gC] at hl;have Q:=Z (λo i=>O o i) (by omega);have c:=LU x (λo i=>O o i) (by omega);have h2:=LX x λo i=>O o i;rw[Du,Gy,Fq,JL,Ad,xD];unfold BB at Q c ⊢;simp[wG,wP,yn];generalize x.foldl BX MkS.z=s at Q c ⊢;obtain⟨done,ins,Ak⟩:=s;obtain⟨c1,c2,V,c4⟩:=c;obtain⟨X,i2,Y⟩:=Q;obtain⟨k,n,rs,set,p⟩:=o;simp only at c1 c2 V c4 X i2 Y ⊢;have a6:=c1.nn;rcases i with⟨j,B,I,J,U⟩|⟨j,B,I,J,U,e6⟩|⟨j,B,I,J⟩;simp only at j B I J U;subst j;subst B;subst I;simp only[BX,yE,GM,Bp (show ¬n<1 by omega)];obtain⟨p1,p2,p3⟩:=qw (done++BW ins Ak) n p;obtain⟨g1,g2,g3⟩:=fB c2 V;rw[p1,p2,Du,Gy,g1,g2];rw[Ad,g3] at p3;refine⟨by simp[BN] at X ⊢;omega,?_,?_⟩;simp only[show ¬(1:Int)=3 by decide,xF];omega;simp only[gC,show ¬(0:Int)<0 by decide,xF];omega;simp only at j B I J U e6;subst j;subst B;subst I;subst J;have:MS n 0=n:=by unfold MS;rw[Bp (by omega)]
  simp only[BX,show ¬(3:Int)=1 by decide,show ¬(3:Int)=2 by decide,xF,KC,this,yE];rw[wrap64 (by omega) (by omega)];refine⟨by simp;omega,by omega,?_⟩;split<;>split at Y<;>omega;simp only at j B I J;subst j;subst B;subst I;simp[BX,show ¬(2:Int)=1 by decide,show ¬(2:Int)=3 by decide,KD,Bp J];obtain⟨a1,a2⟩:=qK ins rs set;rw[a1];refine⟨by omega,by omega,by omega⟩
def Hx(x:V')(h:∀o∈x,GG o)(hl:x.length<=8589934592):BN (AL x)=BN x/\De (AL x)=De x/\(AL x).length<=x.length:=by
 obtain⟨h1,Q,Y⟩:=bT x h hl;have c:=LU x h hl;obtain⟨U,V,X⟩:=fB c.ins c.Ak;have B:BN ((BB x).done++BW (BB x).ins (BB x).Ak)=BN x:=by rw[Du,U];exact h1
 have I:De ((BB x).done++BW (BB x).ins (BB x).Ak)=De x:=by rw[Gy,V];exact Q
 have J:((BB x).done++BW (BB x).ins (BB x).Ak).length<=x.length:=by rw[Ad,X];omega
 have O:∀o∈(BB x).done++BW (BB x).ins (BB x).Ak,o.kind=1->o.AY=[]:=by
  intro o j hk;rcases DN.1 j with j|j;exact c.done.bare o j hk;unfold BW at j;split at j;rcases DN.1 j with j|j;have:=c.ins.kinds o j;omega;simp at j;subst j;rfl;have:=c.ins.kinds o j;omega
 unfold AL Ra;generalize (BB x).done++BW (BB x).ins (BB x).Ak=l at B I J O;unfold FT;rcases Gt l with rfl|⟨i,b,rfl⟩;exact⟨B,I,J⟩;rw[R0,WJ,vz];simp only;by_cases e:b.kind=1/\b.patch=[];rw[Cx e,wK];have:=O b D_ e.1;rw[Du,Fq,this] at B;rw[Gy,JL,Bp (by rw[e.1];decide)] at I;simp at B I J;exact⟨B,I,E⟩;rw[Bp e];exact⟨B,I,J⟩
def WT(i:Y')(x:V'):Prop:=(∃o∈x,¬HT o\/Bl i o.set=3\/EL i o.patch=3)\/536870912<Dn CO x\/536870912<Dn CV x
def Kp(i:Y')(x:V'):Prop:=∃o∈x,Bl i o.set≠0\/EL i o.patch≠0
open Classical in
noncomputable def CU(i:Y')(x:V'):Int:=if WT i x then 3 else if Kp i x then 4 else 0
def AG.conv{B e k:Nat}{V R:e_->V_->α->Prop}{g n c:Nat}{l:List α}(h:AG B e k V w (.slice (h_ g) n c) l) (X:∀i (hi:i<l.length) (r:V_),r.length=k->(∀u∈r,u.oneCell'=true)->(∀q u,r[q]?=some u->w.cell? ⟨g,i*k+q,none⟩=some u)->R w r l[i]):AG B e k R w (.slice (h_ g) n c) l:=by
 obtain⟨An,h1,Y,I,h4⟩:=h;have j:∀r∈An,r.length=k:=λr hr=>(I r hr).1;have Z:n=l.length:=by
  rcases h1.2 with⟨o,_⟩|⟨g',U,a1,o,_⟩;simp at o;simp[yI] at o;exact o.2.1
 subst Z;refine⟨An,h1,Y,I,λi r x hr J=>?_⟩;have hi:=(Bq.1 J).1;have O:x=l[i]:=by rw[By hi] at J;exact(r9 J).symm
 subst O;have hm:=wD hr;refine X i hi r (j r hm) (I r hm).2 λq u hu=>?_;have hq:q<k:=by rw[<-j r hm];exact(Bq.1 hu).1
 have Q:i*k+q<l.length*k:=by
  have:(i+1)*k<=l.length*k:=wj _ hi;rw[wF] at this;omega
 have:=h1.cellAt _ Q;rw[Ke An i q r j hr hq] at this;rw[<-hu];exact this
def AG.any{B e k:Nat}{i:e_->V_->α->Prop}{l:List α}(h:AG B e k i w v l):AG B e k (λ_ _ _=>True) w v l:=by
 obtain⟨An,h1,j,o,_⟩:=h;exact⟨An,h1,j,o,λ_ _ _ _ _=>trivial⟩
def AG.OG{B e k:Nat}{g n c:Nat}{l:List α}(h:AG B e k (λ_ _ _=>True) w (.slice (h_ g) n c) l){i j:Nat}(hi:i<l.length)(J:j<k){u:d_}(hu:u.oneCell'=true) : AG B e k (λ_ _ _=>True) (w.setCell ⟨g,i*k+j,none⟩ u) (.slice (h_ g) n c) l:=by
 have I:=(AG.store (R':=λ_ _ _=>True) (x':=l[i]) h hi J hu (λ_ _ _ _=>trivial) λ_ _=>trivial).2.2.1;rw[aBJ hi] at I;have o:(⟨g,0,none⟩:Addr).add (i*k+j)=⟨g,i*k+j,none⟩:=by unfold Addr.add;split<;>simp_all
 rw[o] at I;exact I
def O7(W:e_)(g o:Nat)(u:d_):AK (λb=>b=g) W (W.setCell ⟨g,o,none⟩ u):=AK.setCell _ _ _ rfl
def AG.cellsOf{B e k:Nat}{R:e_->V_->α->Prop}{g n c:Nat}{l:List α}(h:AG B e k R w (.slice (h_ g) n c) l){i:Nat}(hi:i<l.length) : ∃r,r.length=k/\(∀q u,r[q]?=some u->w.cell? ⟨g,i*k+q,none⟩=some u)/\R w r l[i]/\∀q,q<k->Cv w ⟨g,i*k+q,none⟩:=by
 obtain⟨p,r,o,_,hr,hc,I⟩:=(AG.sl h).get hi;cases o;have j:∀q,(⟨g,0,none⟩:Addr).add (i*k+q)=⟨g,i*k+q,none⟩:=λq=>by unfold Addr.add;split<;>simp_all
 refine⟨r,hr,λq u hu=>by rw[<-j];exact hc q u hu,I,λq J=>?_⟩;obtain⟨Q,O,_,hl⟩:=AG.Cb h hi J;cases O;rw[j] at hl;exact hl
def Tq(W:e_)(g j:Nat)(o:Dop)(rv sv i:d_):Prop:=∀q u,[Value.int .u8 o.kind,zI o.n,rv,sv,i][q]?=some u->W.cell? ⟨g,j*5+q,none⟩=some u
def Tq.uR{g j:Nat}{o:Dop}{rv sv i:d_}(h:Tq W g j o rv sv i)(B:∀q,q<5->W'.cell? ⟨g,j*5+q,none⟩=W.cell? ⟨g,j*5+q,none⟩):Tq W' g j o rv sv i:=by
 intro q u hu;have:=(Bq.1 hu).1;simp[Hn,gC] at this;rw[B q E];exact h q u hu
def JM{S D:f_}{x:V'}(h:Ae S D w v x)(hb:Aa x<=1099511627776) : AF prog 109 [v] (λv' w'=>CZ w.heap.size w' v' x/\AI w w') w:=by
 refine H_ func109 ?_ (.y (.y (.x (.y (.node [9] [(4,4),(9,42)] (.y (.y (.x (.y (.dc [11,17,23,26,29,32] (k_ [0,0,0,0,0,0,0,0,192,448,960,1984,0,0,12288,28672,61440,131008,0,0,786432,1835008,3932160,8388544,16777155,33554371,67108803,134217679,268435407,536870863,1073741823,2147483647,4294967295]) [[11,17,23],[11,17,23,26],[11,17,23,26,29]]))))) .nil)))));have ch:=Bo x;apply AA (Pv h E);rintro v1 w1 ⟨o1,g1⟩;obtain⟨a1,c1,rfl,cu,bs,hp,hn⟩:=AG.AO o1;simp[maxLen] at bs;rw[AP];cases a1 with
 |none=>
  have:=hn rfl;subst this;apply AX (λvs w2=>vs=[zI 0]/\w2=w1) (λ_ _=>0) ⟨rfl,rfl⟩;rintro vs _ ⟨rfl,rfl⟩ _;rename e_=>w1;rw[Bh,JS,As];exact AE (λh=>by simp at h) λ_=>⟨AG.U' o1 l_ C0 λr y hy=>by simp at hy,g1⟩
 |some p1=>
  obtain⟨g,rfl,cx,dj,_⟩:=hp _ rfl;have Ln:∀o∈x,o.AY.length*4<=140737488355328/\o.set.length*48<=140737488355328/\o.patch.length*56<=140737488355328:=by
   intro o ho;have:=EP ho;simp[Co,LL,T7] at this;omega
  let F:f_:=λb=>w.heap.size<=b/\b≠g
  let D0:f_:=λb=>D b/\b<w.heap.size
  let Inv:Nat->e_->Prop:=λi W=>AG w.heap.size 50 5 (λ_ _ _=>True) W (.slice (h_ g) x.length c1) x/\AK (λb=>b=g) w1 W/\
   ∀j (Q:j<x.length),∃X sv U,Tq W g j x[j] X sv U/\(j<i->UW F W [.int .u8 x[j].kind,zI x[j].n,X,sv,U] x[j])/\(i<=j->CW D0 W [.int .u8 x[j].kind,zI x[j].n,X,sv,U] x[j])
  have ax:Inv 0 w1:=by
   refine⟨o1.any,AK.refl _ _,λj Q=>?_⟩;obtain⟨r,hr,ak,ho,_⟩:=AG.cellsOf o1 Q;obtain⟨X,sv,U,rfl,q1,q2,q3⟩:=ho;exact⟨X,sv,U,ak,E,λ_=>⟨X,sv,U,rfl,q1,q2,q3⟩⟩
  apply AX (λvs W=>∃i:Nat,i<=x.length/\vs=[zI i]/\Inv i W) (λvs _=>x.length-Di vs 0) ⟨0,Hw _,rfl,ax⟩;rintro vs w2 ⟨i,hi,rfl,aa⟩ _;rw[Bh,JS,As];refine AE (λdk=>?_) λdr=>?_;have B:i<x.length:=E;obtain⟨oA,mA,An⟩:=aa;have dT:=mA.size;obtain⟨X,sv,U,Y,_,c4⟩:=An i B;obtain⟨_,_,_,e,q1,q2,q3⟩:=c4 (HK _);simp[wZ,zK,zl] at e;obtain⟨rfl,rfl,rfl⟩:=e;have ay:x[i]∈x:=D_;obtain⟨z1,z2,z3⟩:=Ln _ ay;have gd:AI w2 w2.drew:=AK.drew _ _;apply Ag (λk b=>(k=26\/k=29\/k=32)/\b=g);have ld:∀q u,[Value.int .u8 x[i].kind,zI x[i].n,X,sv,U][q]?=some u->w2.drew.cell? ((⟨g,0,none⟩:Addr).add (i*5+q))=some u:=λq u hu=>by rw[AH];exact Y q u hu
  have lv:∀q,q<5->Cv w2 ⟨g,i*5+q,none⟩:=by
   obtain⟨_,_,_,_,hl⟩:=AG.cellsOf oA B;exact hl
  apply AW B;rw[AB,Addr.add_add];refine AU ⟨ld 2 _ rfl,λj Q h=>by rcases h with⟨rfl|rfl|rfl,_⟩<;>exact absurd Q B_⟩ ?_;apply AA (Nu (q1.U_ gd B_ C0) z1);rintro t1 w3 ⟨n1,g3⟩;refine⟨AI.U' g3,?_⟩;have b0:=gd.trans g3;apply AW B;rw[AB,Addr.add_add];refine AU ⟨ld 3 _ rfl,λj Q h=>by rcases h with⟨rfl|rfl|rfl,_⟩<;>exact absurd Q B_⟩ ?_;apply AA (GP (q2.U_ b0 B_ C0) z2);rintro t2 w4 ⟨n2,g4⟩;refine⟨AI.U' g4,?_⟩;have b6:=b0.trans g4;apply AW B;rw[AB,Addr.add_add];refine AU ⟨ld 4 _ rfl,λj Q h=>by rcases h with⟨rfl|rfl|rfl,_⟩<;>exact absurd Q B_⟩ ?_;apply AA (VL (q3.U_ b6 B_ C0) z3);rintro t3 V ⟨n3,g5⟩;refine⟨AI.U' g5,?_⟩;have I:=b6.trans g5;have e1:=I.size;have zd:w2.drew.heap.size=w2.heap.size:=rfl;have e2:=g3.size;have e3:=g4.size;have a7:∀q,q<5->Cv V ⟨g,i*5+q,none⟩:=λq Z=>(lv q Z).U' I E_;have b7:AG 0 21 1 CM V t1 x[i].AY:=AG.Bk (AG.U' n1 (g4.trans g5) C0 F_) λ_ _=>Hw _;have b8:J7 0 V t2 x[i].set:=AG.Bk (AG.U' n2 g5 C0 F_) λ_ _=>Hw _;have b9:=AG.Bk n3 λ_ _=>Hw _;have b1:∀b,t1.ownBlock=some b->F b:=λb hb=>by have:=(AG.Az n1 b hb).1;exact⟨E,E⟩
  have b2:∀b,t2.ownBlock=some b->F b:=λb hb=>by have:=(AG.Az n2 b hb).1;exact⟨E,E⟩
  have b3:∀b,t3.ownBlock=some b->F b:=λb hb=>by have:=(AG.Az n3 b hb).1;exact⟨E,E⟩
  have c6:AG w.heap.size 50 5 (λ_ _ _=>True) V (.slice (h_ g) x.length c1) x:=AG.U' oA I C0 λ_ _ _ _=>trivial;have al:=AG.one b7;have an:=AG.one b8;have av:=AG.one b9;apply AW B;rw[AB,Addr.add_add,AH];refine(a7 2 B_).st al.1 al.2 ⟨AK.setCell _ _ _ ⟨.inl rfl,rfl⟩,?_⟩;apply AW B;rw[AB,Addr.add_add,AH];refine((a7 3 B_).set _ _).st an.1 an.2 ⟨AK.setCell _ _ _ ⟨.inr (.inl rfl),rfl⟩,?_⟩;apply AW B;rw[AB,Addr.add_add,AH];refine(((a7 4 B_).set _ _).set _ _).st av.1 av.2 ⟨AK.setCell _ _ _ ⟨.inr (.inr rfl),rfl⟩,?_⟩;rw[AR,AM E];refine⟨⟨i+1,B,rfl,?_⟩,by rw[CL,CL];omega⟩;have ba:=AG.OG (AG.OG (AG.OG c6 B (B_:2<5) al.1) B (B_:3<5) an.1) B (B_:4<5) av.1;have J:AK (λb=>b=g) V (((V.setCell ⟨g,i*5+2,none⟩ t1).setCell ⟨g,i*5+3,none⟩ t2).setCell ⟨g,i*5+4,none⟩ t3):=((O7 _ _ _ _).trans (O7 _ _ _ _)).trans (O7 _ _ _ _);have a8:∀j q,q<5->(j≠i\/q<2)->(((V.setCell ⟨g,i*5+2,none⟩ t1).setCell ⟨g,i*5+3,none⟩ t2).setCell ⟨g,i*5+4,none⟩ t3).cell? ⟨g,j*5+q,none⟩=V.cell? ⟨g,j*5+q,none⟩:=by
   intro j q Z Q;have ne:∀q',q'<5->2<=q'->(⟨g,i*5+q',none⟩:Addr)≠⟨g,j*5+q,none⟩:=by
    intro q' h1 h2 e;simp only[Addr.mk.injEq,zK,zl] at e;omega
   rw[Of _ _ _ _ (ne 4 E E),Of _ _ _ _ (ne 3 E E),Of _ _ _ _ (ne 2 E E)]
  have Ap:∀j q u,w2.cell? ⟨g,j*5+q,none⟩=some u->V.cell? ⟨g,j*5+q,none⟩=some u:=λj q u hu=>I.cell hu E_;generalize hW:(((V.setCell ⟨g,i*5+2,none⟩ t1).setCell ⟨g,i*5+3,none⟩ t2).setCell ⟨g,i*5+4,none⟩ t3)=W at ba J a8 ⊢;refine⟨ba,mA.trans ((AI.U' I).trans J),λj Q=>?_⟩;by_cases bb:j=i;subst bb;refine⟨t1,t2,t3,λq u hu=>?_,λ_=>⟨t1,t2,t3,rfl,LV ⟨b7,b1⟩ J (λb _ hb e=>hb.2 e) C0 C0,LV ⟨b8,b2⟩ J (λb _ hb e=>hb.2 e) C0 C0,LV ⟨b9,b3⟩ J (λb _ hb e=>hb.2 e) C0 C0⟩,E⟩;have Z:=(Bq.1 hu).1;simp[Hn,gC] at Z;have ne:∀q q',q≠q'->(⟨g,j*5+q',none⟩:Addr)≠⟨g,j*5+q,none⟩:=by
   intro q q' h e;simp only[Addr.mk.injEq,zK,zl] at e;omega
  have O:∀q,q<5->∃u,V.cell? ⟨g,j*5+q,none⟩=some u:=λq Z=>pj.1 (a7 q Z).1;rw[<-hW];match q,Z,hu with
  |0,_,hu=>rw[hW,a8 j 0 E (.inr E)];exact Ap _ _ _ (Y 0 u hu)
  |1,_,hu=>rw[hW,a8 j 1 E (.inr E)];exact Ap _ _ _ (Y 1 u hu)
  |2,_,hu=>
   simp[S5] at hu;subst hu;obtain⟨u',a6⟩:=O 2 E;rw[Of _ _ _ _ (ne 2 4 B_),Of _ _ _ _ (ne 2 3 B_)];exact cO _ _ _ a6
  |3,_,hu=>
   simp[S5] at hu;subst hu;obtain⟨u',a6⟩:=O 3 E;rw[Of _ _ _ _ (ne 3 4 B_)];exact cO _ _ _ ((Of _ _ _ _ (ne 3 2 B_)).trans a6)
  |4,_,hu=>
   simp[S5] at hu;subst hu;obtain⟨u',a6⟩:=O 4 E;exact cO _ _ _ ((Of _ _ _ _ (ne 4 3 B_)).trans ((Of _ _ _ _ (ne 4 2 B_)).trans a6))
  obtain⟨c7,c8,c9,bk,bl,bp⟩:=An j Q;refine⟨c7,c8,c9,Tq.uR (W:=V) (λq u hu=>Ap _ _ _ (bk q u hu)) λq Z=>a8 j q Z (.inl bb),λh=>?_,λh=>?_⟩;exact(UW.U' (bl E) (D':=F) I F_ C0).U' J (λb _ hb e=>hb.2 e) C0;exact(CW.U' (bp E) (D':=D0) I F_ C0).U' J (λb _ hb e=>by have:=hb.2;omega) C0;have:i=x.length:=by omega
  subst this;obtain⟨oA,mA,An⟩:=aa;refine⟨AG.conv oA λj Q r hr cc ak=>?_,g1.next mA E⟩;obtain⟨X,sv,U,Y,ca,_⟩:=An j Q;have e:r=[.int .u8 x[j].kind,zI x[j].n,X,sv,U]:=by
   refine wm λq=>?_;by_cases Z:q<5;have h1:r[q]?=some r[q]:=By E;have h2:([Value.int .u8 x[j].kind,zI x[j].n,X,sv,U])[q]?=some ([Value.int .u8 x[j].kind,zI x[j].n,X,sv,U])[q]:=By (by simpa using Z);have h3:=ak q _ h1;rw[Y q _ h2] at h3;rw[h1,h2,h3];rw[i6 E,i6 (by simp;omega)]
  subst e;exact(ca Q).U' l_ F_ λb _ hb=>⟨hb.1,λe=>hb.2 (by simpa[Value.ownBlock] using e.symm)⟩
def Y2{t ty e:TypeId}{a:Option Addr}{n c:Nat}(ht:P.underlying t=some (.slice e)):(Builtin.cap_ #[t] ty #[.slice a n c]).run P w=.ok (zI c) w:=by
 simp[Builtin.cap_,run_underlying ht,goInt]
def OU{t e k:Nat}{i:TypeInfo}{a:Option Addr}{n c h:Nat}(ht:P.underlying t=some (.slice e))(hi:P.info? e=some i)(hk:i.size=k)(o:h<=c) : (Instr.sliceAt t (.slice a n c) none (some (zI h)) none).run P w=.ok (.slice (if c=0 then a else a.map (·.add (0*k))) h c) w:=by
 have j:P.elem t=e:=by simp[Program.elem,ht]
 rw[xb _ _ _ _ _ _ (by rw[j];exact ht),aBR _ _ _ _ _ (by rw[j];exact ht) _ _ E E,j];simp[sizeOf,typeInfo,hi,hk,sliced]
def jS{n:Nat}(X:n*88<=140737488355328)(R:e_->V_->Dop->Prop) : AF prog 167 [i_,zI n] (λv' w'=>AG w.heap.size 50 5 R w' v' []/\AI w w') w:=by
 refine G_ func167 ?_ (.y (.cut [] [(5,7)] .nil .nil));refine AV (λvs I=>I=w) ?_ ?_;rintro vs _ rfl _;rename e_=>w;apply AZ (Y2 (e:=50) C_);rw[AP,A6,A6,BM];have V:IntKind.i64.wrap ((n:Int)-IntKind.i64.wrap (((0:Nat):Int)-((0:Nat):Int)))=n:=by rw[wrap64 (x:=((0:Nat):Int)-((0:Nat):Int)) E E,wrap64 E E];omega
 rw[V];refine AE (λhp=>?_) λ_=>⟨AG.nil,AK.refl _ _⟩;apply AZ (Y2 (e:=50) C_);apply AZ (OU (e:=50) (i:=Tryz.t50) (k:=5) (h:=0) C_ C_ C_ (HK _));simp;obtain⟨i,z,h1,J,O,Y,Q,U,Z⟩:=HC;refine AZ (Go.Lib.run_append_nil_zeros (P:=prog) w 24 3 24 50 i z .i64 .i64 h1 C_ J O n E E E (by rw[Q];omega)) ?_;have j:=aAo w n 0 50;have o:AI w (w.drew.alloc (.cells (Builtin.zeroCells z.cells n++Builtin.zeroCells z.cells (grownCap w n 0 50-n)) 50)):=(AK.drew _ _).trans (AK.alloc _ _ _);have B:=zu w.drew (.cells (Builtin.zeroCells z.cells n++Builtin.zeroCells z.cells (grownCap w n 0 50-n)) 50);generalize w.drew.alloc (.cells (Builtin.zeroCells z.cells n++Builtin.zeroCells z.cells (grownCap w n 0 50-n)) 50)=w2 at o B ⊢;rw[AP];refine AZ (OU (e:=50) (i:=Tryz.t50) (k:=5) (h:=0) C_ C_ C_ (Hw _)) ⟨?_,o⟩;rw[Bp E];simp[xE,AH,yx];refine⟨[],⟨rfl,.inr ⟨_,_,_,rfl,HK _,B,Hw _,yu w n 0 50 L_,?_,D_⟩⟩,rfl,D_,D_⟩;simp[zw,aBO,U,<-wF];rw[Nat.add_sub_cancel' j];rw[As];exact AE E I_
def VT{S1 V S2 X:f_}{l m:V'}{p:Addr}(ha:Ae S1 V w v l)(hb:Ae S2 X w sv m)(h0:w.cell? p=some v)(h1:w.cell? (p.add 1)=some sv)(hl:(l.length+m.length)*88<=140737488355328) : AF prog 108 [.slice (some p) 2 2] (λv' w'=>AG w.heap.size 50 5 (CW λb=>(V b\/X b)/\b<w.heap.size) w' v' (l++m)/\AI w w') w:=by
 refine H_ func108 ?_ (.y (.y (.z (.y (.node [3,11] [(3,3),(5,5),(11,22)] .nil .nil)) (.y (.x (.y (.node [6,27] [(6,6),(8,8),(27,34)] .nil .nil)))))));obtain⟨a1,c1,rfl,m1⟩:=ha.AO;obtain⟨a2,c2,rfl,m2⟩:=hb.AO;rw[AP];apply AX (λvs w1=>∃k:Nat,k<=2/\vs=[zI (if k=0 then(0:Nat) else if k=1 then l.length else l.length+m.length:Nat),zI k]/\w1=w) (λvs _=>2-Di vs 1) ⟨0,E,rfl,rfl⟩;rintro vs _ ⟨k,hk,rfl,rfl⟩ _;rename e_=>w;simp only[Iu];refine HP (λZ=>?_) λa6=>?_;have B:k=0\/k=1:=E;rcases B with rfl|rfl;apply AW B_;have e:(p.add (0*1))=p.add 0:=rfl;rw[e,Addr.add_zero'];apply AD h0;rw[AP,AR,wrap64 (by simp<;>omega) (by simp<;>omega),As];refine AE (λh=>by simp at h<;>omega) λ_=>?_;rw[AR,AM E];exact⟨⟨1,E,D_,rfl⟩,by rw[BE,BE];omega⟩;apply AW B_;refine AD (show w.cell? (p.add (1*1))=_ from h1) ?_;rw[AP,AR,wrap64 (by simp<;>omega) (by simp<;>omega),As];refine AE (λh=>by simp at h<;>omega) λ_=>?_;rw[AR,AM E];exact⟨⟨2,E,D_,rfl⟩,by rw[BE,BE];omega⟩;have B:k=2:=by omega
 subst B;simp only[(B_:¬(2:Nat)=0),(B_:¬(2:Nat)=1),xF];apply AA (jS hl (CW λb=>(V b\/X b)/\b<w.heap.size));rintro v1 w1 ⟨o1,g1⟩;rw[AP]
 let R:=CW λb=>(V b\/X b)/\b<w.heap.size
 have I:∀{W W':e_} {M:f_},AK M W W'->(∀b,M b->w.heap.size<=b)->∀r y,R W r y->R W' r y:=λhm hM r y hy=>hy.U' hm (λb _ hd hb=>by have:=hM b hb;omega) C0;apply AX (λvs w2=>∃(k:Nat) (out:d_) (Xh:V'),k<=2/\vs=[out,zI k]/\Xh=(if k=0 then[] else if k=1 then l else l++m)/\AG w.heap.size 50 5 R w2 out Xh/\AI w w2) (λvs _=>2-Di vs 1) ⟨0,v1,[],E,rfl,rfl,o1,g1⟩;rintro vs w2 ⟨k,out,Xh,hk,rfl,i,ho,J⟩ _;simp only[JS,wL];rw[As];have one:∀{W:e_} (j:Nat) (y z:V') (x o:d_),BC (λ_=>True) 5 R w x y->AG w.heap.size 50 5 R W o z->AI w W->(z.length+y.length)*88<=140737488355328->
   runK prog (Builtin.append_ #[24,24] 24 [o,x].toArray) (λv' w'=>AG w.heap.size 50 5 R w' v' (z++y)/\AI w w') W:=by
  intro W j y z x o O hz Y hb;have a7:BC (λ_=>True) 5 R W x y:=by
   refine BC.mono (O.JR B_) (λ_ _ _=>trivial) (λb hb h=>Y.Ap b hb E_) B_ λr q hq=>I Y K_ r q hq
  obtain⟨v',w',r1,Q,U,r4⟩:=AG.append (ty:=24) HC hz a7 (λ_ _=>CW.one) hb Y.size L_ λw' hg r q hq=>I (AK.BQ hg) (λb e=>(AG.Az hz b e).1) r q hq;exact AZ r1 ⟨Q,Y.next (AK.BQ U) λb hb e=>by have:=(AG.Az hz b e).1;omega⟩
 have a8:BC (λ_=>True) 5 R w (.slice a1 l.length c1) l:=BC.sub ha.JR (λ_ _ _=>trivial) B_ λr x O=>O.U' l_ F_ λb _ h=>⟨.inl h.1,h.2⟩;have aa:BC (λ_=>True) 5 R w (.slice a2 m.length c2) m:=BC.sub hb.JR (λ_ _ _=>trivial) B_ λr x O=>O.U' l_ F_ λb _ h=>⟨.inr h.1,h.2⟩;refine AE (λZ=>?_) λa6=>?_;have B:k=0\/k=1:=by omega
 rcases B with rfl|rfl;apply AW (by decide);have e:(p.add (0*1))=p.add 0:=rfl;rw[e,Addr.add_zero'];apply AD (J.cell h0 E_);simp only[yE] at i;subst i;obtain⟨v',w',r1,Q,U⟩:=one 0 l [] _ out a8 ho J (by simp;omega);apply AZ r1;rw[AR,AM E];exact⟨⟨1,v',_,E,rfl,D_,Q,U⟩,by rw[BE,BE];omega⟩;apply AW B_;refine AD (J.cell (show w.cell? (p.add (1*1))=_ from h1) E_) ?_;simp only[(B_:¬(1:Nat)=0),yE,xF] at i;subst i;obtain⟨v',w',r1,Q,U⟩:=one 0 m Xh _ out aa ho J hl;apply AZ r1;rw[AR,AM E];exact⟨⟨2,v',_,E,rfl,D_,Q,U⟩,by rw[BE,BE];omega⟩;have B:k=2:=E;subst B;simp[(B_:¬(2:Nat)=0),(B_:¬(2:Nat)=1)] at i;subst i;exact⟨ho,J⟩
abbrev jv:Nat:=50
abbrev N6(o:Dop)(rv sv i:d_):V_:=[.int .u8 o.kind,zI o.n,rv,sv,i]
def PO(C:f_)(h:Nat)(W:e_)(g:Nat)(ins:V'):Prop:=0<ins.length/\∀j (o:j<ins.length),∃rv sv i,Tq W g j ins[j] rv sv i/\CW (λx=>C x\/x=h) W (N6 ins[j] rv sv i) ins[j]/\ (j+1=ins.length->AG 0 21 1 CM W rv ins[j].AY/\rv.ownBlock=some h/\CI C W sv ins[j].set/\Eg C W i ins[j].patch)/\(j+1<ins.length->CW C W (N6 ins[j] rv sv i) ins[j])
structure cJ (F:f_) (W:e_) (b:Nat) (s:MkS) (dv iv:d_) (C:f_) (hot:Option Nat):Prop where
 c0:W.cell? ⟨b,0,none⟩=some dv
 c1:W.cell? ⟨b,1,none⟩=some iv
 c2:W.cell? ⟨b,2,none⟩=some (zI s.Ak)
 lv:∀q,q<3->Cv W ⟨b,q,none⟩
 fb:F b
 nb:¬C b
 cf:∀x,C x->F x/\x<W.heap.size
 done:AG 0 jv 5 (CW C) W dv s.done
 dF:∀g,dv.ownBlock=some g->F g/\¬C g/\g≠b
 ins:(s.ins=[]/\iv=i_/\hot=none)\/∃g c h,iv=.slice (h_ g) s.ins.length c/\hot=some h/\AG 0 jv 5 (λ_ _ _=>True) W iv s.ins/\F g/\¬C g/\g≠b/\dv.ownBlock≠some g/\
  F h/\¬C h/\h≠b/\h≠g/\dv.ownBlock≠some h/\h<W.heap.size/\PO C h W g s.ins
def Ii(F:f_)(W:e_)(b:Nat)(s:MkS):Prop:=∃dv j C i,cJ F W b s dv j C i
def Tq.U'{g j:Nat}{o:Dop}{rv sv i:d_}(h:Tq W g j o rv sv i)(hm:AK M W W')(B:¬M g):Tq W' g j o rv sv i:=λq u hu=>hm.cell (h q u hu) B
def PO.U'{h:Nat}{g:Nat}(hi:PO C h W g a)(hm:AK M W W')(i:¬M g)(o:¬M h)(hC:∀x,C x->¬M x):PO C h W' g a:=by
 refine⟨hi.1,λj I=>?_⟩;obtain⟨rv,sv,J,O,Q,U,V⟩:=hi.2 j I;refine⟨rv,sv,J,O.U' hm i,Q.U' hm (λb _ hb=>by rcases hb with hb|rfl;exact hC b hb;exact o) C0,λe=>?_,λe=>(V e).U' hm (λb _ hb=>hC b hb) C0⟩;obtain⟨X,B,Y,Z⟩:=U e;exact⟨AG.U' X hm (λg i=>by rw[B] at i;cases i;exact o) F_,B,Y.mono C0 (λb hb hc=>hm.Ap b hb (hC b hc)) B_ C0,Z.mono C0 (λb hb hc=>hm.Ap b hb (hC b hc)) B_ C0⟩
def CW.YC{r:V_}{o:Dop}(h:CW C W r o)(hm:AK M W W')(hC:∀x,C x->¬M x):CW C W' r o:=h.U' hm (λb _ hb=>hC b hb) C0
def cJ.U'{b:Nat}{s:MkS}{o:Option Nat}(h:cJ F W b s dv v C o)(hm:AK M W W')(hF:∀x,F x->¬M x):cJ F W' b s dv v C o:=by
 have hb:=hF b h.fb;have hC:∀x,C x->¬M x:=λx j=>hF x (h.cf x j).1;refine⟨hm.cell h.c0 hb,hm.cell h.c1 hb,hm.cell h.c2 hb,λq hq=>(h.lv q hq).U' hm hb,h.fb,h.nb,λx j=>⟨(h.cf x j).1,Nn (h.cf x j).2 hm.size⟩,AG.U' h.done hm (λg hg=>hF g (h.dF g hg).1) λr x _ j=>j.YC hm hC,h.dF,?_⟩;rcases h.ins with h0|⟨g,c,X,Y,e2,e3,B,e5,e6,e7,Z,e9,I,J,O,Q,U⟩;exact .inl h0;exact .inr ⟨g,c,X,Y,e2,AG.U' e3 hm (λg' i=>by rw[Y] at i;simp[Value.ownBlock,S5] at i;subst i;exact hF _ B) λ_ _ _ _=>trivial,B,e5,e6,e7,Z,e9,I,J,O,Nn Q hm.size,U.U' hm (hF g B) (hF X Z) hC⟩
def cJ.U_{b:Nat}{s:MkS}{dv j:d_}{i:Option Nat}(h:cJ F W b s dv j C i)(hm:AI W W'):cJ F W' b s dv j C i:=h.U' hm C0
def Ii.U'{b:Nat}{s:MkS}(h:Ii F W b s)(hm:AK M W W')(hF:∀x,F x->¬M x):Ii F W' b s:=by
 obtain⟨o,j,C,i,h⟩:=h;exact⟨o,j,C,i,h.U' hm hF⟩
def Ii.sub{F F':f_}{b:Nat}{s:MkS}(h:Ii F W b s)(hF:∀x,F x->F' x):Ii F' W b s:=by
 obtain⟨dv,B,C,i,h⟩:=h;refine⟨dv,B,C,i,h.c0,h.c1,h.c2,h.lv,hF _ h.fb,h.nb,λx j=>⟨hF _ (h.cf x j).1,(h.cf x j).2⟩,h.done,λg o=>⟨hF _ (h.dF g o).1,(h.dF g o).2⟩,?_⟩;rcases h.ins with h0|⟨g,c,I,J,O,Q,U,V,X,Y,Z,e9⟩;exact .inl h0;exact .inr ⟨g,c,I,J,O,Q,hF _ U,V,X,Y,hF _ Z,e9⟩
def LC:AF prog 42 [] (λv w'=>AI w w'/\∃b,w.heap.size<=b/\b<w'.heap.size/\v=g_ b/\Ii (λx=>x=b) w' b MkS.z) w:=by
 apply P_ func42;refine⟨#[i_,i_,.int .i64 0],C_,?_⟩;refine CN (vs:=[i_,i_,.int .i64 0]) λb I hb J g hc hl=>?_;have i:∀j,(⟨b,0,none⟩:Addr).add j=⟨b,j,none⟩:=λj=>AH b j;refine⟨g,b,E,E,rfl,_,_,λ_=>False,none,by rw[<-i];exact hc 0 _ rfl,by rw[<-i];exact hc 1 _ rfl,by rw[<-i];exact hc 2 _ rfl,λq o=>by rw[<-i];exact hl q o,rfl,E_,K_,AG.nil,λg B=>(nomatch B),.inl ⟨rfl,rfl,rfl⟩⟩
def LG{b:Nat}{s:MkS}{n:Int}(h:Ii F w b s):AF prog 51 [g_ b,zI n] (λ_ w'=>Ii F w' b (KC s n)/\AK F w w') w:=by
 apply G_ func51;obtain⟨dv,Z,C,B,h⟩:=h;rw[Mb];simp[zb,Bool.not_false];rw[G2,Cx rfl,CG,AB,AH];apply AD h.c2;rw[HS,AR,CG,AB,AH];have e:(if(0:Int)>n then(0:Int) else n)=MS n 0:=rfl;rw[e];apply(h.lv 2 B_).st rfl rfl;have hm:=O7 w b 2 (zI (IntKind.i64.wrap (s.Ak+MS n 0)));have ne:∀q,q<2->(⟨b,2,none⟩:Addr)≠⟨b,q,none⟩:=λq V e=>by simp only[Addr.mk.injEq] at e;omega
 obtain⟨u,hu⟩:=pj.1 (h.lv 2 B_).1;have X:∀x,C x->¬x=b:=λx j e=>h.nb (e▸j);refine⟨⟨dv,Z,C,B,(Of _ _ _ _ (ne 0 B_)).trans h.c0,(Of _ _ _ _ (ne 1 B_)).trans h.c1,cO _ _ _ hu,λq V=>(h.lv q V).set _ _,h.fb,h.nb,λx j=>⟨(h.cf x j).1,Nn (h.cf x j).2 hm.size⟩,AG.U' h.done hm (λg hg=>(h.dF g hg).2.2) λr x _ j=>j.YC hm X,h.dF,?_⟩,hm.mono λx _ e=>by rw[e];exact h.fb⟩;rcases h.ins with h0|⟨g,c,hh,Y,e2,e3,e4,e5,I,e7,e8,e9,o,J,O,Q,U⟩;exact .inl h0;exact .inr ⟨g,c,hh,Y,e2,AG.U' e3 hm (λg' i=>by rw[Y] at i;simp[Value.ownBlock,S5] at i;subst i;exact I) λ_ _ _ _=>trivial,e4,e5,I,e7,e8,e9,o,J,O,Nn Q hm.size,U.U' hm I o X⟩
def cJ.oT{b:Nat}{s:MkS}{i:Option Nat}(h:cJ F W b s dv v C i):Ae (λ_=>True) (λx=>(C x\/i=some x)/\x<W.heap.size) W v s.ins:=by
 rcases h.ins with⟨B,I,_⟩|⟨g,c,hh,B,I,e3,e4,e5,e6,e7,e8,e9,a1,a6,a7,a8,J⟩;rw[B,I];exact BC.nil;subst B;subst I;have o:=AG.conv (R:=CW λx=>(C x\/some hh=some x)/\x<W.heap.size) e3 λj hj r hr X O=>?_;exact BC.sub (AG.sl o) (λ_ _ _=>trivial) B_ λ_ _ h=>h;obtain⟨U,sv,Q,q1,q2,_,_⟩:=J.2 j hj;have e:r=N6 s.ins[j] U sv Q:=by
  refine wm λq=>?_;by_cases hq:q<5;have h1:r[q]?=some r[q]:=By E;have Y:(N6 s.ins[j] U sv Q)[q]?=some (N6 s.ins[j] U sv Q)[q]:=By (by simpa using hq);have Z:=O q _ h1;rw[q1 q _ Y] at Z;rw[h1,Y,Z];rw[i6 E,i6 (by simp;omega)]
 subst e;exact q2.U' l_ F_ λx hx hc=>by
  refine⟨?_,hx⟩;rcases hc with hc|hc;exact .inl hc;exact .inr (by rw[hc])
def eU{b:Nat}{s:MkS}{i:Option Nat}(h:cJ F w b s dv v C i)(hl:(s.ins.length+1)*88<=140737488355328) : AF prog 98 [g_ b] (λv' w'=>AG w.heap.size jv 5 (CW λx=>(C x\/i=some x)/\x<w.heap.size) w' v' (BW s.ins s.Ak)/\AI w w') w:=by
 apply H_ func98;rw[CG,AB,AH];apply AD h.c1;apply AA (Pv h.oT E);rintro X Q ⟨I,j⟩;have o:AG w.heap.size jv 5 (CW λx=>(C x\/i=some x)/\x<w.heap.size) Q X s.ins:=AG.U' I l_ C0 λr x _ J=>J.U' l_ F_ λ_ _ h=>h.1;rw[CG,AB,AH];apply AD (j.cell h.c2 E_);rw[BM];refine AE (λB=>?_) λB=>⟨by rw[BW,Bp B];exact o,j⟩;rw[CG,AB,AH];apply AD (j.cell h.c2 E_);refine⟨#[.int .u8 3,zI s.Ak,i_,i_,i_],C_,?_⟩;refine ME (w0:=w) HC o j (cs:=N6 ⟨3,s.Ak,[],[],[]⟩ i_ i_ i_) (x:=⟨3,s.Ak,[],[],[]⟩) C_ rfl ⟨_,_,_,rfl,BC.nil,BC.nil,BC.nil⟩ (λ_ _ _=>CW.one) ?_ hl L_ λv' w' h1 U=>⟨by rw[BW,Cx B];exact h1,U⟩;intro Y Z r y hz hm V;refine V.U' hm (λx _ J e=>?_) C0;rcases e with e|e;have:=(AG.Az I x e).1;omega;have:=j.size;omega
def AG.len{α β:Type}{B e k:Nat}{R:e_->V_->α->Prop}{l:List α}(h:AG B e k R w v l)(i:List β)(hl:i.length=l.length):AG B e k (λ_ _ (_:β)=>True) w v i:=by
 obtain⟨An,h1,j,o,_⟩:=h;exact⟨An,by rw[hl];exact h1,by rw[hl];exact j,o,λ_ _ _ _ _=>trivial⟩
def Jt(ins:V')(set:W_):Bool:=match ins.getLast? with|some o=>decide (o.set=set)|none=>false
def DQ{l:V'}(h:0<l.length):l.getLast?=some l[l.length-1]:=by
 rw[aAl];simp[(E:l.length-1<l.length)]
def Hd{b:Nat}{s:MkS}{set:W_}(h:Ii F w b s)(h1:Jl S w v rs)(h2:CI S w sv set)(hS:∀x,S x->¬F x) (ep:(s.ins.length+1)*88<=140737488355328)(er:∀o∈s.ins,(o.AY.length+rs.length)*4<=140737488355328)(et:rs.length*4<=140737488355328)(eu:set.length*48<=140737488355328) : AF prog 48 [g_ b,v,sv] (λ_ w'=>Ii (λx=>F x\/w.heap.size<=x) w' b (KD s rs set)/\AK F w w') w:=by
 refine I' func48 ?_ (.cut [] [(7,13)] .nil (.y (.z (.cut [33] [(20,33)] .nil (.x (.x (.dc [14,17] (k_ [0,1,3,7,0,0,32,96,224,0,992,2016,4064,0,16352,32767,65535,131071]) [[14]])))) (.dc [6,8,10,11,14] (k_ [0,0,2,6,14,0,32,0,224,480,992,2046,4095,8191,16383]) [[6,8],[6,8,10,11]]))));have hI:=h;obtain⟨dv,iv,C,ba,h⟩:=h;obtain⟨pl,cl,rfl,ml⟩:=h1.AO;have ew:∃ga gc,iv=.slice ga s.ins.length gc:=by
  rcases h.ins with⟨U,e2,_⟩|⟨g,c,hh,U,_⟩;exact⟨none,0,by rw[U,e2];rfl⟩;exact⟨_,c,U⟩
 obtain⟨ga,gc,rfl⟩:=ew;refine AV (λvs w1=>w1=w/\rs≠[]) ?_ ?_;rotate_left;rw[Mb];simp only[zb];rw[G2,Bp D_,AP,Aj];refine AE (λe=>?_) λe=>⟨trivial,λh=>e (X9.2 h)⟩;have:=X9.1 e;subst this;exact⟨by rw[KD,Cx rfl];exact hI.sub λx i=>.inl i,AK.refl _ _⟩;rintro vs _ ⟨rfl,bs⟩ _;rename e_=>w;rw[CG,AB,AH];apply AD h.c1;rw[AP,A6,wrap64 E E];have key:KD s rs set=⟨s.done,Gh s.ins rs set,s.Ak⟩:=by rw[KD,Bp bs]
 rw[key];refine AV (λvs w1=>vs=[.bool (Jt s.ins set)]/\AI w w1) ?_ ?_;rotate_left;rw[DR];refine AE (λey=>?_) λey=>?_;have aa:0<s.ins.length:=E;rw[CG,AB,AH];apply AD h.c1;have J:s.ins.length-1<s.ins.length:=E;rw[(E:((s.ins.length:Int)-1)=((s.ins.length-1:Nat):Int))];obtain⟨p,r,rfl,_,hr,hc,rv,c4,pv,rfl,q1,q2,q3⟩:=h.oT.get J;apply AW J;rw[AB,Addr.add_add];apply AD (hc 3 _ rfl);apply AA (Vz q2 h2);rintro v1 w1 ⟨rfl,g1⟩;exact⟨by rw[Jt,DQ aa],g1⟩;have:s.ins=[]:=Kx E;exact⟨by rw[Jt,this];rfl,AK.refl _ _⟩;rintro vs w3 ⟨rfl,g3⟩ _;rw[Bh,JS];have gd:=g3.trans (AK.drew _ _);have B:=h.U_ gd;have zd:=gd.size;have c6:Jl (λx=>S x/\x<w.heap.size) w3.drew (.slice pl rs.length cl) rs:=(h1.JR B_).U_ gd B_ C0;have ch:CI (λx=>S x/\x<w.heap.size) w3.drew sv set:=(h2.JR B_).U_ gd B_ C0;generalize w3.drew=w4 at gd B zd c6 ch ⊢;cases a6:Jt s.ins set with
 |true=>
  rw[G2,Cx rfl];have aa:0<s.ins.length:=by
   cases hn:s.ins with
   |nil=>rw[Jt,hn] at a6;cases a6
   |cons a l=>simp
  have J:s.ins.length-1<s.ins.length:=E;rcases B.ins with⟨U,_⟩|⟨g,c,hh,U,e2,e3,e4,e5,e6,e7,e8,e9,a7,V,ay,c7,bb⟩;rw[U] at aa;simp at aa;simp[yI,zl] at U;obtain⟨rfl,rfl⟩:=U;obtain⟨rv,c4,pv,cu,_,ho,_⟩:=bb.2 _ J;obtain⟨o1,o2,o3,o4⟩:=ho E;have cx:s.ins[s.ins.length-1].set=set:=by
   rw[Jt,DQ aa] at a6;simpa using a6
  rw[(E:((s.ins.length:Int)-1)=((s.ins.length-1:Nat):Int))];apply Ag (λk x=>(k=14/\x=hh)\/(k=17/\x=g));rw[CG,AB,AH];refine AU ⟨B.c1,λj _ e=>by rcases e with⟨_,e⟩|⟨_,e⟩;exact a7 e.symm;exact e6 e.symm⟩ ?_;rw[CG,AB,AH];refine AU ⟨B.c1,λj _ e=>by rcases e with⟨_,e⟩|⟨_,e⟩;exact a7 e.symm;exact e6 e.symm⟩ ?_;apply AW J;rw[AB,Addr.add_add,AH];refine AU ⟨cu 2 _ rfl,λj hj e=>by rcases e with⟨rfl,e⟩|⟨rfl,e⟩;exact V e.symm;exact absurd hj B_⟩ ?_;have dj:=er s.ins[s.ins.length-1] D_;obtain⟨v',w5,r1,r2,r3,r4⟩:=AG.append (ty:=46) Lg o1 c6 (λ_ _=>CM.one) dj (Hw _) L_ λ_ _ _ _ h=>h;refine AZ r1 ⟨(AK.BQ r3).mono λx _ e=>by rw[o2] at e;cases e;exact .inl ⟨rfl,rfl⟩,?_⟩;have b0:AK (λx=>x=hh) w4 w5:=(AK.BQ r3).mono λx _ e=>by rw[o2] at e;cases e;rfl
  have c9:=AG.one r2;have ez:∃h2,v'.ownBlock=some h2/\h2<w5.heap.size:=by
   obtain⟨a,c',rfl,_,_,hp,hn⟩:=AG.AO r2;cases a with
   |none=>have:=hn rfl;simp at this;exact(bs this.2).elim
   |some p=>obtain⟨g',rfl,q1,q2,q3⟩:=hp p rfl;exact⟨g',q3,q2⟩
  obtain⟨I,X,dk⟩:=ez;have dr:=r4 I X;have gy:g<w4.heap.size:=by
   have:=AG.Az e3 g rfl;exact this.2
  have b6:∀x,dv.ownBlock=some x->x<w4.heap.size:=λx i=>(AG.Az B.done x i).2;have b7:Cv w5 ⟨g,(s.ins.length-1)*5+2,none⟩:=by
   obtain⟨_,_,_,_,hl⟩:=AG.cellsOf e3 J;exact(hl 2 B_).U' b0 λe=>V e.symm
  apply AW J;rw[AB,Addr.add_add,AH];refine b7.st c9.1 c9.2 ⟨AK.setCell _ _ _ (.inr ⟨rfl,rfl⟩),?_⟩;have dT:=O7 w5 g ((s.ins.length-1)*5+2) v';have a8:∀x,I=x->x=hh\/w4.heap.size<=x:=by
   rintro x rfl;rcases dr with e|e;rw[o2] at e;cases e;exact .inl rfl;exact .inr e
  have nC:¬C I:=λi=>by rcases a8 _ rfl with e|e;exact e9 (e▸i);have:=(B.cf _ i).2;omega
  have eA:I≠b:=λe=>by
   have eB:b<w4.heap.size:=q8 w4 ⟨b,0,none⟩ B.c0;rcases a8 _ rfl with e'|e';exact a7 (e'.symm.trans e);omega
  have ea:I≠g:=λe=>by
   rcases a8 _ rfl with e'|e';exact V (e'.symm.trans e);omega
  have eC:dv.ownBlock≠some I:=λe=>by
   have:=b6 _ e;rcases a8 _ rfl with e'|e';rw[e'] at e;exact ay e;omega
  have mm:AK (λx=>x=hh\/x=g) w4 (w5.setCell ⟨g,(s.ins.length-1)*5+2,none⟩ v'):=(b0.mono λ_ _ e=>.inl e).trans (dT.mono λ_ _ e=>.inr e);have an:¬(b=hh\/b=g):=by rintro(e|e);exact a7 e.symm;exact e6 e.symm
  have Y:∀x,C x->¬(x=hh\/x=g):=by rintro x i (rfl|rfl);exact e9 i;exact e5 i
  have ec:AG 0 21 1 CM (w5.setCell ⟨g,(s.ins.length-1)*5+2,none⟩ v') v' (s.ins[s.ins.length-1].AY++rs):=AG.U' r2 dT (λx i e=>by rw[X] at i;cases i;exact ea e) F_;have Z:Gh s.ins rs set=s.ins.set (s.ins.length-1) ⟨s.ins[s.ins.length-1].kind,s.ins[s.ins.length-1].n,s.ins[s.ins.length-1].AY++rs,s.ins[s.ins.length-1].set,s.ins[s.ins.length-1].patch⟩:=by
   unfold Gh;rw[DQ aa];simp[cx]
  have oA:=AG.OG (AG.U' e3 b0 (λx i e=>by simp [Value.ownBlock,S5] at i;exact V (e.symm.trans i.symm)) λ_ _ _ _=>trivial) J (B_:2 < 5) c9.1;refine ⟨⟨dv,_,C,some I,mm.cell B.c0 an,mm.cell B.c1 an,mm.cell B.c2 an,λq hq=>(B.lv q hq).U' mm an,.inl B.fb,B.nb,λx i=>⟨.inl (B.cf x i).1,Nn (B.cf x i).2 mm.size⟩,
   AG.U' B.done mm (λx i e=>by rcases e with rfl | rfl;exact ay i;exact e7 i) λr x _ i=>i.YC mm Y,λx i=>⟨.inl (B.dF x i).1,(B.dF x i).2⟩,.inr ⟨g,gc,I,?_,rfl,?_,.inl e4,e5,e6,e7,?_,nC,eA,ea,eC,?_,?_⟩⟩,?_⟩
  rw[Z,q7];exact AG.len oA _ (by rw[Z,q7]);rcases a8 _ rfl with e|e;exact .inl (e▸e8);exact .inr E;rw[aAf];exact dk;rw[Z];refine⟨by rw[q7];exact aa,λj hj=>?_⟩;rw[q7] at hj;obtain⟨eI,eL,eN,a1,a2,a3,a4⟩:=bb.2 j hj;by_cases bk:j=s.ins.length-1;subst bk;refine⟨v',c4,pv,λq u hu=>?_,?_,λ_=>?_,λe=>by rw[q7] at e;omega⟩;rw[yT] at hu;have hq:=(Bq.1 hu).1;simp[Hn,gC] at hq;by_cases ed:q=2;subst ed;simp[S5] at hu;subst hu;obtain⟨u',eR⟩:=pj.1 b7.1;exact cO _ _ _ eR;rw[Of _ _ _ _ (by intro e;simp only[Addr.mk.injEq] at e;omega)];apply(cu.U' b0 λe=>V e.symm) q u;rw[<-hu];match q,hq,ed with
  |0,_,_=>rfl
  |1,_,_=>rfl
  |3,_,_=>rfl
  |4,_,_=>rfl
  rw[yT];refine⟨v',c4,pv,rfl,?_,?_,?_⟩;exact QK B_ ⟨ec,λx i=>.inr (by rw[X] at i;exact(r9 i).symm)⟩;exact o3.mono (λ_ _ i=>.inl i) (λx hb i=>mm.Ap x hb (Y x i)) B_ C0;exact o4.mono (λ_ _ i=>.inl i) (λx hb i=>mm.Ap x hb (Y x i)) B_ C0;rw[yT];exact⟨ec,X,o3.mono C0 (λx hb i=>mm.Ap x hb (Y x i)) B_ C0,o4.mono C0 (λx hb i=>mm.Ap x hb (Y x i)) B_ C0⟩;have ee:=(a4 E).YC mm Y;refine⟨eI,eL,eN,λq u hu=>?_,?_,λe=>by rw[q7] at e;omega,λ_=>?_⟩;rw[aAW E] at hu;have hq:=(Bq.1 hu).1;simp[Hn,gC] at hq;rw[Of _ _ _ _ (by intro e;simp only[Addr.mk.injEq] at e;omega)];exact b0.cell (a1 q u hu) λe=>V e.symm;rw[aAW E];exact ee.U' l_ F_ λ_ _ i=>.inl i;rw[aAW (by omega)];exact ee;refine(AI.U' gd).trans (mm.mono λx _ e=>?_);rcases e with rfl|rfl;exact e8;exact e4
 |false=>
  rw[G2,Bp D_];have Z:Gh s.ins rs set=s.ins++[⟨2,0,rs,set,[]⟩]:=by
   unfold Gh;unfold Jt at a6;cases hl:s.ins.getLast? with
   |none=>rfl
   |some o=>rw[hl] at a6;simp[wQ] at a6;simp only;rw[Bp a6]
  have eB:b<w4.heap.size:=q8 w4 ⟨b,0,none⟩ B.c0;have av:(Value.slice ga s.ins.length gc).ownBlock≠some b/\(∀g,(Value.slice ga s.ins.length gc).ownBlock=some g->F g/\¬C g/\g≠b/\dv.ownBlock≠some g/\ba≠some g/\g<w4.heap.size):=by
   rcases B.ins with⟨U,e2,_⟩|⟨g,c,hh,U,e2,e3,e4,e5,e6,e7,e8,e9,a7,V,_⟩;simp[yI] at e2;obtain⟨rfl,_⟩:=e2;exact⟨λh=>(nomatch h),λg h=>(nomatch h)⟩;simp[yI,zl] at U;obtain⟨rfl,rfl⟩:=U;refine⟨λe=>by simp[Value.ownBlock,S5] at e;exact e6 e,λg' e=>?_⟩;simp[Value.ownBlock,S5] at e;subst e;exact⟨e4,e5,e6,e7,λe=>by rw[e2] at e;cases e;exact V rfl,(AG.Az e3 _ rfl).2⟩
  obtain⟨av,O⟩:=av;have ax:∀x,ba=some x->F x/\¬C x/\x≠b/\dv.ownBlock≠some x/\x<w4.heap.size:=by
   intro x i;rcases B.ins with⟨_,_,e⟩|⟨g,c,hh,U,e2,e3,e4,e5,e6,e7,e8,e9,a7,V,ay,c7,_⟩;rw[e] at i;cases i;rw[e2] at i;cases i;exact⟨e8,e9,a7,ay,c7⟩
  apply Ag (λk x=>(k=11/\(Value.slice ga s.ins.length gc).ownBlock=some x)\/(k=14/\x=b));rw[CG,AB,AH];refine AU ⟨B.c1,λj hj e=>by rcases e with⟨_,e⟩|⟨rfl,_⟩;exact av e;exact absurd hj B_⟩ ?_;apply AA (Nu c6 et);rintro t1 w5 ⟨n1,g5⟩;refine⟨AI.U' g5,?_⟩;apply AA (GP (ch.U_ g5 B_ C0) eu);rintro t2 w6 ⟨n2,g6⟩;refine⟨AI.U' g6,?_⟩;have ef:=g5.trans g6;have z5:=g5.size;have z6:=g6.size;have h6:=B.U_ ef;have eh:AG w4.heap.size 21 1 CM w6 t1 rs:=AG.U' n1 g6 C0 λ_ _ _ h=>h;obtain⟨eV,gA,b8,_,_,eX,fo⟩:=AG.AO eh;obtain⟨gB,gW,b9,_⟩:=AG.AO n2;refine⟨#[.int .u8 2,zI 0,t1,t2,i_],by subst b8;subst b9;kernel_rfl,?_⟩;have hn:∃I,t1.ownBlock=some I/\w4.heap.size<=I/\I<w6.heap.size:=by
   cases eV with
   |none=>exact(bs (fo rfl)).elim
   |some p=>obtain⟨g',_,q1,q2,q3⟩:=eX p rfl;exact⟨g',q3,q1,q2⟩
  obtain⟨I,X,dk,dr⟩:=hn
  let C2:f_:=λx=>(C x\/ba=some x)/\x<w4.heap.size
  let C':f_:=λx=>C2 x\/t2.ownBlock=some x
  let R:e_->V_->Dop×Bool->Prop:=λW r x=>match x.2 with
   |false=>CW C2 W r x.1
   |true=>r=N6 x.1 t1 t2 i_/\AG 0 21 1 CM W t1 x.1.AY/\CI (λx=>t2.ownBlock=some x) W t2 x.1.set/\x.1.patch=[]
  have bp:∀W r y,R W r y->∀u∈r,u.oneCell'=true:=by
   rintro W r ⟨o,t⟩ hy;cases t with
   |false=>exact CW.one hy
   |true=>
    obtain⟨rfl,_⟩:=hy;intro u hu;simp[I3,wA,xx] at hu;rcases hu with rfl|rfl|rfl|rfl|rfl;rfl;rfl;rw[b8];rfl;rw[b9];rfl;rfl
  have o6:AG 0 jv 5 R w6 (.slice ga s.ins.length gc) (s.ins.map λo=>(o,false)):=by
   rcases h6.ins with⟨U,e2,_⟩|⟨g,c,hh,U,e2,e3,e4,e5,e6,e7,e8,e9,a7,V,ay,c7,bb⟩;rw[U] at e2 ⊢;rw[e2];exact AG.nil;simp[yI,zl] at U;obtain⟨rfl,rfl⟩:=U;refine AG.conv (AG.len e3 (s.ins.map λo=>(o,false)) D_) λj hj r hr bp bl=>?_;have fs:j<s.ins.length:=by simpa using hj
   obtain⟨rv,ak,pv,q1,q2,_,_⟩:=bb.2 j fs;have e:r=N6 s.ins[j] rv ak pv:=by
    refine wm λq=>?_;by_cases hq:q<5;have h1:r[q]?=some r[q]:=By E;have h2:(N6 s.ins[j] rv ak pv)[q]?=some (N6 s.ins[j] rv ak pv)[q]:=By (by simpa using hq);have h3:=bl q _ h1;rw[q1 q _ h2] at h3;rw[h1,h2,h3];rw[i6 E,i6 (by simp;omega)]
   subst e;rw[wz];refine q2.U' l_ F_ λx i hc=>?_;rcases hc with hc|hc;exact⟨.inl hc,(B.cf x hc).2⟩;subst hc;exact⟨.inr e2,(ax _ e2).2.2.2.2⟩
  have fv:∀W1 W2 r y,w6.heap.size<=W1.heap.size->AK (λx=>(Value.slice ga s.ins.length gc).ownBlock=some x\/w6.heap.size<=x) W1 W2->R W1 r y->R W2 r y:=by
   rintro W1 W2 r ⟨o,t⟩ hz hm hy;cases t with
   |false=>
    refine CW.U' hy hm (λx _ i e=>?_) C0;rcases e with e|e;obtain⟨_,q2,_,_,q5,_⟩:=O x e;rcases i.1 with hc|hc;exact q2 hc;exact q5 hc;have:=i.2;omega
   |true=>
    obtain⟨q1,q2,q3,q4⟩:=hy;refine⟨q1,AG.U' q2 hm (λx i e=>?_) F_,q3.mono C0 (λx hb i=>hm.Ap x hb λe=>?_) B_ C0,q4⟩;rw[X] at i;cases i;rcases e with e|e;have:=(O _ e).2.2.2.2.2;omega;omega;have h1:=AG.Az n2 x i;rcases e with e|e;have:=(O _ e).2.2.2.2.2;omega;omega
  refine Mr HC o6 (Hw _) (cs:=N6 ⟨2,0,rs,set,[]⟩ t1 t2 i_) (x:=((⟨2,0,rs,set,[]⟩:Dop),true)) (by subst b8;subst b9;kernel_rfl) rfl ⟨rfl,AG.Bk eh λ_ _=>Hw _,BC.sub (AG.sl n2) (λx _ i=>i.2) B_ C0,rfl⟩ bp fv (by simpa using ep) (by simp[FA,maxLen];omega) (λ_ g=>AI.U' g) λh0 v' w7 o7 fx m7 f7=>?_;refine⟨fx.mono λx _ e=>.inl ⟨rfl,e⟩,?_⟩;have z7:=m7.size;have ei:=AG.one o7;obtain⟨va,vc,rfl,_,_,gb,gf⟩:=AG.AO o7;cases va with
  |none=>have:=gf rfl;simp at this
  |some vp=>
  obtain⟨g7,rfl,_,h4,gg⟩:=gb _ rfl;have ej:(s.ins.map (λo=>(o,false))++[((⟨2,0,rs,set,[]⟩:Dop),true)]).length=(Gh s.ins rs set).length:=by rw[Z];simp
  have Q:=f7 g7 rfl;have bne:¬(Value.slice ga s.ins.length gc).ownBlock=some b:=av;have gl:∀x,C x->¬(Value.slice ga s.ins.length gc).ownBlock=some x:=λx i e=>(O x e).2.1 i;have h5:cJ F w7 b s dv (.slice ga s.ins.length gc) C ba->True:=λ_=>trivial;have l7:∀q,q<3->Cv w7 ⟨b,q,none⟩:=λq hq=>(h6.lv q hq).U' m7 bne;rw[CG,AB,AH];refine(l7 1 B_).st ei.1 ei.2 ⟨AK.setCell _ _ _ (.inr ⟨rfl,rfl⟩),?_⟩;have al:=O7 w7 b 1 (Value.slice (h_ g7) (s.ins.map (λo=>(o,false))++[((⟨2,0,rs,set,[]⟩:Dop),true)]).length vc);have gm:∀q,q≠1->(⟨b,1,none⟩:Addr)≠⟨b,q,none⟩:=λq hq e=>by simp only[Addr.mk.injEq] at e;omega
  obtain⟨u1,gp⟩:=pj.1 (l7 1 B_).1;have c8:∀q u,q≠1->w6.cell? ⟨b,q,none⟩=some u->(w7.setCell ⟨b,1,none⟩ (Value.slice (h_ g7) (s.ins.map (λo=>(o,false))++[((⟨2,0,rs,set,[]⟩:Dop),true)]).length vc)).cell? ⟨b,q,none⟩=some u:=λq u hq hu=>(Of _ _ _ _ (gm q hq)).trans (m7.cell hu bne);have ek:=cO w7 ⟨b,1,none⟩ (Value.slice (h_ g7) (s.ins.map (λo=>(o,false))++[((⟨2,0,rs,set,[]⟩:Dop),true)]).length vc) gp;have en:∀q,q<3->Cv (w7.setCell ⟨b,1,none⟩ (Value.slice (h_ g7) (s.ins.map (λo=>(o,false))++[((⟨2,0,rs,set,[]⟩:Dop),true)]).length vc)) ⟨b,q,none⟩:=λq hq=>(l7 q hq).set _ _;have b6:∀x,dv.ownBlock=some x->x<w4.heap.size:=λx i=>(AG.Az B.done x i).2;have eo:g7≠b:=λe=>by rcases Q with h|h;exact bne (e▸h);omega
  have gq:¬C' g7:=by
   rintro(⟨i|i,J⟩|i);rcases Q with h|h;exact(O _ h).2.1 i;omega;rcases Q with h|h;exact(O _ h).2.2.2.2.1 i;omega;have:=AG.Az n2 _ i;rcases Q with h|h;have:=(O _ h).2.2.2.2.2;omega;omega
  have gr:dv.ownBlock≠some g7:=λe=>by
   rcases Q with h|h;exact(O _ h).2.2.2.1 e;have:=b6 _ e;omega
  have ca:∀x,C' x->¬x=b:=by
   rintro x (⟨i|i,J⟩|i) e;exact B.nb (e▸i);exact(ax x i).2.2.1 e;have:=AG.Az n2 _ i;omega
  have gu:¬C' I:=by
   rintro(⟨_,J⟩|i);omega;have:=AG.Az n2 _ i;have:=(AG.Az (AG.U' n1 l_ C0 F_) _ X).2;omega
  have Cd:∀x,C x->C' x:=λx i=>.inl ⟨.inl i,(B.cf x i).2⟩;have o8:AG 0 jv 5 R (w7.setCell ⟨b,1,none⟩ (Value.slice (h_ g7) (s.ins.map (λo=>(o,false))++[((⟨2,0,rs,set,[]⟩:Dop),true)]).length vc)) (Value.slice (h_ g7) (s.ins.map (λo=>(o,false))++[((⟨2,0,rs,set,[]⟩:Dop),true)]).length vc) (s.ins.map (λo=>(o,false))++[((⟨2,0,rs,set,[]⟩:Dop),true)]):=by
   refine AG.U' o7 al (λx i e=>?_) λr y _ hy=>?_;simp[Value.ownBlock,S5] at i;subst i;exact eo e;obtain⟨o,t⟩:=y;cases t with
   |false=>exact CW.U' hy al (λx _ i e=>ca x (.inl i) e) C0
   |true=>
    obtain⟨q1,q2,q3,q4⟩:=hy;refine⟨q1,AG.U' q2 al (λx i e=>?_) F_,q3.mono C0 (λx hb i=>al.Ap x hb λe=>ca x (.inr i) e) B_ C0,q4⟩;rw[X] at i;cases i;omega
  generalize hW:w7.setCell ⟨b,1,none⟩ (Value.slice (h_ g7) (s.ins.map (λo=>(o,false))++[((⟨2,0,rs,set,[]⟩:Dop),true)]).length vc)=W at al c8 ek en o8 ⊢;have z8:=al.size;have cc:AK (λx=>(Value.slice ga s.ins.length gc).ownBlock=some x\/x=b) w6 W:=(m7.mono λ_ _ e=>.inl e).trans (al.mono λ_ _ e=>.inr e);have Cm:∀x,C x->¬((Value.slice ga s.ins.length gc).ownBlock=some x\/x=b):=by
   rintro x i (e|e);exact gl x i e;exact B.nb (e▸i)
  refine⟨⟨dv,_,C',some I,c8 0 _ B_ h6.c0,ek,c8 2 _ B_ h6.c2,en,.inl B.fb,λi=>ca b i rfl,?_,?_,λx i=>⟨.inl (B.dF x i).1,?_,(B.dF x i).2.2⟩,.inr ⟨g7,vc,I,?_,rfl,?_,?_,gq,eo,gr,.inr E,gu,E,?_,?_,E,?_⟩⟩,?_⟩;rintro x (⟨i|i,J⟩|i);exact⟨.inl (B.cf x i).1,E⟩;exact⟨.inl (ax x i).1,E⟩;have:=AG.Az n2 _ i;exact⟨.inr E,E⟩;refine AG.U' h6.done cc (λx i e=>?_) λr x _ i=>(i.YC cc Cm).U' l_ F_ λy _ hy=>Cd y hy;rcases e with e|e;exact(O _ e).2.2.2.1 i;exact(B.dF x i).2.2 e;rintro(⟨hc|hc,J⟩|hc);exact(B.dF x i).2.1 hc;exact(ax x hc).2.2.2.1 i;have:=AG.Az n2 _ hc;have:=b6 x i;omega;rw[ej];exact AG.len o8 _ ej.symm;rcases Q with h|h;exact .inl (O _ h).1;exact .inr E;intro e;rcases Q with h|h;have:=(O _ h).2.2.2.2.2;omega;omega;intro e;have:=b6 _ e;omega;rw[Z];refine⟨D_,λj hj=>?_⟩;have gv:j<(s.ins.map (λo=>(o,false))++[((⟨2,0,rs,set,[]⟩:Dop),true)]).length:=by simpa using hj
  obtain⟨r,hr,bl,hR,_⟩:=AG.cellsOf o8 gv;by_cases bk:j<s.ins.length;have U:(s.ins.map (λo=>(o,false))++[((⟨2,0,rs,set,[]⟩:Dop),true)])[j]=(s.ins[j],false):=by
   rw[xi (by simpa using bk)];simp
  have e2:(s.ins++[(⟨2,0,rs,set,[]⟩:Dop)])[j]=s.ins[j]:=by rw[xi bk]
  rw[U] at hR;have gw:=hR;obtain⟨rv,ak,pv,rfl,p1,p2,p3⟩:=gw;rw[e2];have rd:CW C' W (N6 s.ins[j] rv ak pv) s.ins[j]:=CW.U' (D:=C2) ⟨rv,ak,pv,rfl,p1,p2,p3⟩ l_ F_ λx _ i=>.inl i;refine⟨rv,ak,pv,bl,rd.U' l_ F_ λx _ i=>.inl i,λe=>?_,λ_=>rd⟩;simp at e;omega;have gx:j=s.ins.length:=by simp at hj;omega
  subst gx;have U:(s.ins.map (λo=>(o,false))++[((⟨2,0,rs,set,[]⟩:Dop),true)])[s.ins.length]=((⟨2,0,rs,set,[]⟩:Dop),true):=by
   rw[xL D_];simp
  have e2:(s.ins++[(⟨2,0,rs,set,[]⟩:Dop)])[s.ins.length]=(⟨2,0,rs,set,[]⟩:Dop):=by rw[xL D_];simp
  rw[U] at hR;obtain⟨rfl,q2,q3,q4⟩:=hR;rw[e2];refine⟨t1,t2,i_,bl,⟨t1,t2,i_,rfl,?_,?_,BC.nil⟩,λ_=>⟨q2,X,?_,BC.nil⟩,λe=>by simp at e⟩;exact QK B_ ⟨q2,λx i=>.inr (by rw[X] at i;exact(r9 i).symm)⟩;exact BC.sub q3 (λx _ i=>.inl (.inr i)) B_ C0;exact BC.sub q3 (λx _ i=>.inr i) B_ C0;refine((AI.U' gd).trans (AI.U' ef)).trans (cc.mono λx _ e=>?_);rcases e with e|e;exact(O _ e).1;rw[e];exact B.fb
def uJ(W:e_)(b:Nat)(i u1 j:d_)(l:∀q,q<3->Cv W ⟨b,q,none⟩):∀W',W'=((W.setCell ⟨b,0,none⟩ i).setCell ⟨b,1,none⟩ u1).setCell ⟨b,2,none⟩ j->AK (λx=>x=b) W W'/\W'.cell? ⟨b,0,none⟩=some i/\W'.cell? ⟨b,1,none⟩=some u1/\W'.cell? ⟨b,2,none⟩=some j/\(∀q,q<3->Cv W' ⟨b,q,none⟩):=by
 rintro W' rfl;have ne:∀q o,q≠o->(⟨b,q,none⟩:Addr)≠⟨b,o,none⟩:=λq o B e=>by simp only[Addr.mk.injEq] at e;omega
 refine⟨((O7 W b 0 i).trans (O7 (W.setCell ⟨b,0,none⟩ i) b 1 u1)).trans (O7 ((W.setCell ⟨b,0,none⟩ i).setCell ⟨b,1,none⟩ u1) b 2 j),?_,?_,?_,λq B=>(((l q B).set _ _).set _ _).set _ _⟩;obtain⟨u,hu⟩:=pj.1 (l 0 B_).1;rw[Of _ _ _ _ (ne 2 0 B_),Of _ _ _ _ (ne 1 0 B_)];exact cO _ _ _ hu;obtain⟨u,hu⟩:=pj.1 ((l 1 B_).set ⟨b,0,none⟩ i).1;rw[Of _ _ _ _ (ne 2 1 B_)];exact cO _ _ _ hu;obtain⟨u,hu⟩:=pj.1 (((l 2 B_).set ⟨b,0,none⟩ i).set ⟨b,1,none⟩ u1).1;exact cO _ _ _ hu
def Ij(d:V')(p:Z_):Bool:=match d.getLast? with|some o=>decide (o.kind=1/\o.patch=p)|none=>false
def EO{b:Nat}{s:MkS}{n:Int}{p:Z_}(h:Ii F w b s)(h1:Eg S w v p)(hS:∀x,S x->¬F x) (eL:s.done.length+s.ins.length+2<=1099511627776)(ei:p.length*56<=140737488355328) : AF prog 46 [g_ b,zI n,v] (λ_ w'=>Ii (λx=>F x\/w.heap.size<=x) w' b (GM s n p)/\AK F w w') w:=by
 refine I' func46 ?_ (.cut [] [(7,12)] .nil (.z (.dc [6,7,10] (k_ [0,0,2,6,14,0,32,126,255,511,1023]) [[6,7]]) (.y (.y (.z (.cut [59] [(35,59)] .nil .nil) (.dc [7,9,10,13] (k_ [0,0,2,6,14,0,0,64,224,480,1022,2047,4095,8191]) [[7],[7,9,10]]))))));have hI:=h;have ej:(s.ins.length+1)*88<=140737488355328:=E;obtain⟨dv,iv,C,c6,h⟩:=h;refine AV (λvs w1=>w1=w/\¬n<1) ?_ ?_;rotate_left;rw[Mb];simp only[zb];rw[G2,Bp D_,As];refine AE (λe=>?_) λe=>⟨trivial,e⟩;exact⟨by rw[GM,Cx e];exact hI.sub λx i=>.inl i,AK.refl _ _⟩;rintro vs _ ⟨rfl,hn⟩ _;rename e_=>w;have key:GM s n p=⟨G0 (s.done++BW s.ins s.Ak) n p,[],0⟩:=by rw[GM,Bp hn]
 rw[key];have gl:(BW s.ins s.Ak).length<=s.ins.length+1:=by unfold BW;split<;>simp
 have gd:AI w w.drew:=AK.drew _ _;have J:=h.U_ gd;have zd:w.drew.heap.size=w.heap.size:=rfl;have c7:Eg (λx=>S x/\x<w.heap.size) w.drew v p:=(h1.JR B_).U_ gd B_ C0;have ek:b<w.drew.heap.size:=q8 w.drew ⟨b,0,none⟩ J.c0;have en:∀x,dv.ownBlock=some x->x<w.drew.heap.size:=λx i=>(AG.Az J.done x i).2;have X:∀x,c6=some x->F x/\¬C x/\x≠b/\dv.ownBlock≠some x/\x<w.drew.heap.size:=by
  intro x i;rcases J.ins with⟨_,_,e⟩|⟨g,c,hh,e1,e2,e3,e4,e5,e6,e7,e8,e9,eo,eN,ep,er,_⟩;rw[e] at i;cases i;rw[e2] at i;cases i;exact⟨e8,e9,eo,ep,er⟩
 rw[<-zd];generalize w.drew=w4 at gd J zd c7 ek en X ⊢;have bb:dv.ownBlock≠some b:=λe=>(J.dF b e).2.2 rfl
 let C1:f_:=λx=>(C x\/c6=some x)/\x<w4.heap.size
 have bk:¬C1 b:=by
  rintro⟨i|i,_⟩;exact J.nb i;exact(X b i).2.2.1 rfl
 have c8:∀x,dv.ownBlock=some x->¬C1 x:=by
  rintro x i ⟨hc|hc,_⟩;exact(J.dF x i).2.1 hc;exact(X x hc).2.2.2.1 i
 have c9:∀x,C1 x->F x:=by
  rintro x ⟨hc|hc,_⟩;exact(J.cf x hc).1;exact(X x hc).1
 apply Ag (λk x=>(k=7/\dv.ownBlock=some x)\/(k=10/\x=b));rw[CG,AB,AH];refine AU ⟨J.c0,λj hj e=>by rcases e with⟨_,e⟩|⟨rfl,_⟩;exact bb e;exact absurd hj B_⟩ ?_;apply AA (eU J ej);rintro v5 w5 ⟨o5,g5⟩;refine⟨AI.U' g5,?_⟩;have h5:=J.U_ g5;have z5:=g5.size;have d5:AG 0 jv 5 (CW C1) w5 dv s.done:=AG.U' h5.done l_ C0 λr x _ i=>i.U' l_ F_ λy _ U=>⟨.inl U,(J.cf y U).2⟩;obtain⟨v6,w6,r1,o6,r3,r4⟩:=AG.append (ty:=24) HC d5 (AG.sl o5) (λ_ _=>CW.one) E (Hw _) L_ λw' hg r y U=>U.U' (AK.BQ hg) (λx _ i e=>c8 x e i) C0;have a6:AK (λx=>dv.ownBlock=some x) w5 w6:=AK.BQ r3;refine AZ r1 ⟨a6.mono λx _ e=>.inl ⟨rfl,e⟩,?_⟩;have z6:=a6.size;have ca:=AG.one o6;have l6:∀q,q<3->Cv w6 ⟨b,q,none⟩:=λq hq=>(h5.lv q hq).U' a6 bb;have Y:∀x,v6.ownBlock=some x->dv.ownBlock=some x\/w4.heap.size<=x:=λx i=>by rcases r4 x i with h|h;exact .inl h;exact .inr E
 rw[CG,AB,AH];refine(l6 0 B_).st ca.1 ca.2 ⟨AK.setCell _ _ _ (.inr ⟨rfl,rfl⟩),?_⟩;rw[CG,AB,AH];apply((l6 1 B_).set _ _).st rfl rfl;rw[CG,AB,AH];apply(((l6 2 B_).set _ _).set _ _).st rfl rfl;generalize cc:((w6.setCell ⟨b,0,none⟩ v6).setCell ⟨b,1,none⟩ i_).setCell ⟨b,2,none⟩ (zI 0)=w7;obtain⟨a7,a8,aa,ak,l7⟩:=uJ w6 b v6 i_ (zI 0) l6 w7 cc.symm;clear cc;have z7:=a7.size
 let F1:f_:=λx=>F x\/w4.heap.size<=x
 have ch:v6.ownBlock≠some b:=λe=>by rcases Y b e with h|h;exact bb h;omega
 have d7:AG 0 jv 5 (CW C1) w7 v6 (s.done++BW s.ins s.Ak):=AG.U' o6 a7 (λx i e=>ch (e▸i)) λr x _ i=>i.YC a7 λy U e=>bk (e▸U);have K7:cJ F1 w7 b ⟨s.done++BW s.ins s.Ak,[],0⟩ v6 i_ C1 none:=by
  refine⟨a8,aa,ak,l7,.inl J.fb,bk,λx i=>⟨.inl (c9 x i),by have:=i.2;omega⟩,d7,λx i=>⟨?_,?_,λe=>ch (e▸i)⟩,.inl ⟨rfl,rfl,rfl⟩⟩;rcases Y x i with h|h;exact .inl (J.dF x h).1;exact .inr h;intro hc;rcases Y x i with h|h;exact c8 x h hc;have:=hc.2;omega
 have cu:AK F w4 w7:=((AI.U' g5).trans (a6.mono λx _ e=>(J.dF x e).1)).trans (a7.mono λx _ e=>by rw[e];exact J.fb);have et:AK F w w7:=(AI.U' gd).trans cu;have p7:Eg (λx=>S x/\x<w.heap.size) w7 v p:=c7.mono C0 (λx hb i=>cu.Ap x hb (hS x i.1)) B_ C0;have cx:(s.done++BW s.ins s.Ak).length<=s.done.length+s.ins.length+1:=by simp;omega
 generalize hD:s.done++BW s.ins s.Ak=D at K7 d7 cx ⊢;clear o6 r1 r3 r4 Y a8 aa ak l6 a6 a7 o5 h5 d5;obtain⟨va,vc,rfl,_,_,eu,ew⟩:=AG.AO d7;rw[CG,AB,AH];apply AD K7.c0;rw[AP,A6,wrap64 E E];refine AV (λvs O=>vs=[.bool (Ij D p)]/\AI w7 O) ?_ ?_;rotate_left;rw[DR];refine AE (λey=>?_) λey=>?_;have V:0<D.length:=E;have Q:D.length-1<D.length:=E;rw[(E:((D.length:Int)-1)=((D.length-1:Nat):Int)),CG,AB,AH];apply AD K7.c0;obtain⟨q,r,rfl,_,hr,hc,rv,bl,bp,rfl,q1,q2,q3⟩:=(AG.sl d7).get Q;apply AW Q;rw[AB,Addr.add_add];apply AD (hc 0 _ rfl);rw[Aj];refine AE (λhk=>?_) λhk=>⟨by rw[Ij,DQ V];simp[hk],AK.refl _ _⟩;rw[CG,AB,AH];apply AD K7.c0;apply AW Q;rw[AB,Addr.add_add];apply AD (hc 4 _ rfl);apply AA (jA q3 p7);rintro v1 O ⟨rfl,g8⟩;exact⟨by rw[Ij,DQ V];simp[hk],g8⟩;have:D=[]:=Kx E;exact⟨by rw[Ij,this];rfl,AK.refl _ _⟩;rintro vs O ⟨rfl,g8⟩ _;rw[Bh,JS];have I:=K7.U_ g8;have z8:=g8.size;have d8:AG 0 jv 5 (CW C1) O (.slice va D.length vc) D:=I.done;have p8:Eg (λx=>S x/\x<w.heap.size) O v p:=p7.U_ g8 B_ C0;have dj:AK F w O:=et.trans (AI.U' g8);have vb:(Value.slice va D.length vc).ownBlock≠some b:=λe=>(I.dF b e).2.2 rfl;cases B:Ij D p with
 |true=>
  rw[G2,Cx rfl];have V:0<D.length:=by
   cases hn:D with
   |nil=>rw[Ij,hn] at B;cases B
   |cons a l=>simp
  have Q:D.length-1<D.length:=E;rw[Ij,DQ V] at B;simp[S9] at B;rw[(E:((D.length:Int)-1)=((D.length-1:Nat):Int))];cases va with
  |none=>rw[ew rfl] at V;simp at V
  |some vp=>
  obtain⟨g7,rfl,_,eR,_⟩:=eu _ rfl;rw[CG,AB,AH];apply AD I.c0;obtain⟨q,r,e,_,hr,hc,rv,bl,bp,rfl,q1,q2,q3⟩:=(AG.sl d8).get Q;cases e;apply AW Q;rw[AB,Addr.add_add];apply AD (hc 1 _ rfl);rw[AR];apply AW Q;rw[AB,Addr.add_add];obtain⟨ez,dk,ax⟩:=I.dF g7 rfl;obtain⟨⟨u,hu⟩,hf,ho,hm⟩:=AG.store (R':=CW C1) (u:=zI (IntKind.i64.wrap (D[D.length-1].n+n))) (x':=⟨D[D.length-1].kind,IntKind.i64.wrap (D[D.length-1].n+n),D[D.length-1].AY,D[D.length-1].set,D[D.length-1].patch⟩) d8 Q (B_:1<5) rfl
   (λr y _ U=>U.U' (AK.setCell (M:=λx=>x=g7) _ _ _ (by rw[AH])) (λx _ i e=>dk (e▸i)) C0)
   (λr U=>by
    obtain ⟨rv,bl,bp,rfl,p1,p2,p3⟩:=U.U' (D':=C1) (AK.setCell (M:=λx=>x=g7) O ((⟨g7,0,none⟩:Addr).add ((D.length - 1) * 5+1)) (zI (IntKind.i64.wrap (D[D.length - 1].n+n))) (by rw [AH])) (λx _ i e=>dk (e ▸ i)) C0;exact ⟨rv,bl,bp,rfl,p1,p2,p3⟩)
  apply OE rfl rfl hu hf;have al:G0 D n p=D.set (D.length-1) ⟨D[D.length-1].kind,IntKind.i64.wrap (D[D.length-1].n+n),D[D.length-1].AY,D[D.length-1].set,D[D.length-1].patch⟩:=by
   unfold G0;rw[DQ V];simp[B,aAz]
  have Z:AK (λx=>x=g7) O (O.setCell ((⟨g7,0,none⟩:Addr).add ((D.length-1)*5+1)) (zI (IntKind.i64.wrap (D[D.length-1].n+n)))):=hm;refine⟨⟨_,_,C1,none,Z.cell I.c0 (λe=>ax e.symm),Z.cell I.c1 (λe=>ax e.symm),Z.cell I.c2 (λe=>ax e.symm),λq hq=>(I.lv q hq).U' Z (λe=>ax e.symm),I.fb,I.nb,λx i=>⟨(I.cf x i).1,Nn (I.cf x i).2 Z.size⟩,by rw[al];exact ho,I.dF,.inl ⟨rfl,rfl,rfl⟩⟩,?_⟩;refine dj.next Z λx i e=>?_;subst e;rcases ez with h|h;exact h;omega
 |false=>
  rw[G2,Bp D_];have ay:AI O O.drew:=AK.drew _ _;have K9:=I.U_ ay;have eA:O.drew.heap.size=O.heap.size:=rfl;have p9:Eg (λx=>S x/\x<w.heap.size) O.drew v p:=p8.U_ ay B_ C0;have dr:AK F w O.drew:=dj.trans (AI.U' ay);generalize O.drew=w9 at ay K9 eA p9 dr ⊢;apply Ag (λk x=>(k=10/\(Value.slice va D.length vc).ownBlock=some x)\/(k=13/\x=b));rw[CG,AB,AH];refine AU ⟨K9.c0,λj hj e=>by rcases e with⟨_,e⟩|⟨rfl,_⟩;exact vb e;exact absurd hj B_⟩ ?_;apply AA (VL p9 ei);rintro t1 bs ⟨n1,b0⟩;refine⟨AI.U' b0,?_⟩;have b6:=K9.U_ b0;have eV:=b0.size;obtain⟨eX,fo,b8,_⟩:=AG.AO n1;refine⟨#[.int .u8 1,zI n,i_,i_,t1],by subst b8;kernel_rfl,?_⟩
  let C2:f_:=λx=>C1 x\/t1.ownBlock=some x
  have an:∀x,t1.ownBlock=some x->w9.heap.size<=x/\x<bs.heap.size:=λx i=>AG.Az n1 x i;have eB:∀x,(Value.slice va D.length vc).ownBlock=some x->x<O.heap.size:=λx i=>(AG.Az d8 x i).2;have dT:∀x,(Value.slice va D.length vc).ownBlock=some x->¬C2 x:=by
   rintro x i (hc|hc);exact(I.dF x i).2.1 hc;have:=an x hc;have:=eB x i;omega
  have ea:¬C2 b:=by
   rintro(hc|hc);exact bk hc;have:=an b hc;omega
  have eC:AG 0 jv 5 (CW C2) bs (.slice va D.length vc) D:=AG.U' b6.done l_ C0 λr x _ i=>i.U' l_ F_ λy _ U=>.inl U;have al:G0 D n p=D++[⟨1,n,[],[],p⟩]:=by
   unfold G0;unfold Ij at B;cases hl:D.getLast? with
   |none=>rfl
   |some o=>rw[hl] at B;simp only[wQ] at B;simp only;rw[Bp B]
  refine Mr HC eC (Hw _) (cs:=N6 ⟨1,n,[],[],p⟩ i_ i_ t1) (x:=⟨1,n,[],[],p⟩) (by subst b8;kernel_rfl) rfl ⟨_,_,_,rfl,BC.nil,BC.nil,BC.sub (AG.sl n1) (λx _ i=>.inr i.2) B_ C0⟩ (λ_ _ _=>CW.one) ?_ E L_ (λ_ g=>AI.U' g) λeI v' a1 ec ed b7 ee=>?_;intro W1 W2 r y hz hm U;refine U.U' hm (λx _ i e=>?_) C0;rcases e with e|e;exact dT x e i;rcases i with hc|hc;have:=hc.2;omega;have:=an x hc;omega;refine⟨ed.mono λx _ e=>.inl ⟨rfl,e⟩,?_⟩;have fs:=b7.size;have b9:=AG.one ec;rw[CG,AB,AH];have c4:∀q,q<3->Cv a1 ⟨b,q,none⟩:=λq hq=>(b6.lv q hq).U' b7 vb;refine(c4 0 B_).st b9.1 b9.2 ⟨AK.setCell _ _ _ (.inr ⟨rfl,rfl⟩),?_⟩;have av:=O7 a1 b 0 v';have ne:∀q,q≠0->(⟨b,0,none⟩:Addr)≠⟨b,q,none⟩:=λq hq e=>by simp only[Addr.mk.injEq] at e;omega
  obtain⟨u,hu⟩:=pj.1 (c4 0 B_).1;have ef:v'.ownBlock≠some b:=λe=>by rcases ee b e with h|h;exact vb h;omega
  have ba:∀q,q<3->Cv (a1.setCell ⟨b,0,none⟩ v') ⟨b,q,none⟩:=λq hq=>(c4 q hq).set _ _;have eh:=cO a1 ⟨b,0,none⟩ v' hu;have co:∀q u,q≠0->bs.cell? ⟨b,q,none⟩=some u->(a1.setCell ⟨b,0,none⟩ v').cell? ⟨b,q,none⟩=some u:=λq u hq hu=>(Of _ _ _ _ (ne q hq)).trans (b7.cell hu vb);generalize a1.setCell ⟨b,0,none⟩ v'=W at av ba eh co ⊢;have fv:=av.size;refine⟨⟨v',_,C2,none,eh,co 1 _ B_ b6.c1,co 2 _ B_ b6.c2,ba,.inl J.fb,ea,λx i=>?_,?_,λx i=>?_,.inl ⟨rfl,rfl,rfl⟩⟩,?_⟩;rcases i with hc|hc;exact⟨.inl (c9 x hc),by have:=hc.2;omega⟩;have:=an x hc;exact⟨.inr E,E⟩;rw[al];exact AG.U' ec av (λx i e=>ef (e▸i)) λr x _ i=>i.YC av λy U e=>ea (e▸U);rcases ee x i with h|h;exact⟨(I.dF x h).1,dT x h,(I.dF x h).2.2⟩;refine⟨.inr E,?_,λe=>ef (e▸i)⟩;rintro(hc|hc);have:=hc.2;omega;have:=an x hc;omega;refine((dr.trans (AI.U' b0)).next b7 λx i e=>?_).next av λx _ e=>by rw[e];exact J.fb
  rcases(I.dF x e).1 with h|h;exact h;omega
def EG(l m:V'):Aa (l++m)=Aa l+Aa m:=by simp[Aa]
def Hc(o:Dop):Aa [o]=Co o:=by simp[Aa]
def Tk(ins:V')(g:Int):Aa (BW ins g)<=Aa ins+1:=by
 unfold BW;split;rw[EG,Hc];simp[Co,Eo,FK];omega
def pY(d:V')(n:Int)(p:Z_):Aa (G0 d n p)<=Aa d+1+FK p:=by
 rcases Gt d with rfl|⟨i,b,rfl⟩;simp[G0,Aa,Co,Eo];unfold G0;rw[R0,WJ,vz];simp only;split;rw[Ma];simp[EG,Hc,Co];omega;simp only[EG,Hc,Co,Eo,gC,wh,xm];omega
def pN(d:V')(rs:X_)(set:W_):Aa (Gh d rs set)<=Aa d+1+rs.length+Eo set:=by
 rcases Gt d with rfl|⟨i,b,rfl⟩;simp[Gh,Aa,Co,FK];unfold Gh;rw[R0,WJ,vz];simp only;split;rw[Ma];simp[EG,Hc,Co,Ad];omega;simp only[EG,Hc,Co,FK,wh,xm];omega
def mn(s:MkS)(o:Dop):Aa (BX s o).done+Aa (BX s o).ins<=Aa s.done+Aa s.ins+2*Co o:=by
 have h0:1<=Co o:=by simp[Co];omega
 unfold BX;split;unfold GM;split;omega;have h1:=pY (s.done++BW s.ins s.Ak) o.n o.patch;have i:=Tk s.ins s.Ak;rw[EG] at h1;simp[Co] at h0 ⊢;simp[Aa,wh,xm] at h1 i ⊢;omega;split;unfold KD;split;omega;have h1:=pN s.ins o.AY o.set;simp[Co] at h0 ⊢;omega;simp only[KC];omega
def Fu(x:V'):Aa (BB x).done+Aa (BB x).ins<=2*Aa x:=by
 induction x using LW with
 |h0=>exact Hw _
 |h1 x o i=>
  have e:BB (x++[o])=BX (BB x) o:=by simp[BB]
  rw[e,EG,Hc];have:=mn (BB x) o;omega
def N9{l:V'}:Aa (FT l)<=Aa l:=by
 unfold FT;split;split;rw[zG];exact Jc _ _;exact HK _;exact HK _
def Kh{b:Nat}{s:MkS}(h:Ii F w b s)(hb:Aa s.done+Aa s.ins<=274877906944) : AF prog 53 [g_ b] (λv' w'=>CZ w.heap.size w' v' (Ra s)/\AI w w') w:=by
 refine H_ func53 ?_ (.y (.y (.z (.dm [5,6,7] [0,1,3,7,0,16,63,127,255]) (.cut [3] [(3,4),(15,39)] .nil .nil))));obtain⟨Q,iv,C,X,h⟩:=h;have an:=Bo s.done;have av:=Bo s.ins;have ax:=Tk s.ins s.Ak;have ay:=Bo (BW s.ins s.Ak);rw[Mb];simp only[zb];rw[G2,Bp D_];have gd:AI w w.drew:=AK.drew _ _;have h':=h.U_ gd;have zd:w.drew.heap.size=w.heap.size:=rfl;rw[<-zd];have EU:∀{W':e_},AI w.drew W'->AI w W':=λg=>gd.trans g;generalize w.drew=w1 at gd h' zd EU ⊢;apply Ag (λ_ _=>False);rw[CG,AB,AH];apply AU ⟨h'.c0,C0⟩;apply AA (eU h' E);rintro U V ⟨o2,g2⟩;refine⟨g2,?_⟩;obtain⟨a1,c1,a6,b0,_⟩:=AG.AO h'.done;obtain⟨a2,c2,a7,b6,_⟩:=AG.AO o2;refine GY (cs:=[Q,U]) (by subst a6;subst a7;kernel_rfl) ?_;have Y:AI V (V.alloc (.cells [Q,U].toArray 24)):=AK.alloc _ _ _;have B:∀j v,[Q,U][j]?=some v->(V.alloc (.cells [Q,U].toArray 24)).cell? ((⟨V.heap.size,0,none⟩:Addr).add j)=some v:=λj v hv=>Fi hv;generalize V.alloc (.cells [Q,U].toArray 24)=w3 at Y B ⊢;refine⟨Y,?_⟩;have I:=g2.trans Y;have z3:=I.size;have rd:Ae (λ_=>True) (λx=>C x) w3 Q s.done:=BC.sub (AG.sl (h'.U_ I).done) (λ_ _ _=>trivial) B_ C0;have rg:Ae (λ_=>True) (λx=>(C x\/X=some x)/\x<w1.heap.size) w3 U (BW s.ins s.Ak):=by
  have:=AG.U' (R':=CW λx=>(C x\/X=some x)/\x<w1.heap.size) o2 Y C0 λr y _ hy=>hy.U' Y F_ C0;exact BC.sub (AG.sl this) (λ_ _ _=>trivial) B_ C0
 refine AA (VT rd rg (by rw[<-AH V.heap.size 0];exact B 0 _ rfl) (B 1 _ rfl) E) ?_;rintro v4 w4 ⟨o4,g4⟩;refine⟨g4,?_⟩;have o:=I.trans g4;have b7:=o.size;have a8:Aa (s.done++BW s.ins s.Ak)<=549755813888:=by rw[EG];omega
 have aa:Ra s=FT (s.done++BW s.ins s.Ak):=rfl;rw[aa];generalize s.done++BW s.ins s.Ak=L at o4 a8 ⊢;have b8:=Bo L;obtain⟨va,vc,rfl,_,_,_⟩:=AG.AO o4;refine AV (λvs w5=>∃v,vs=[v]/\AI w1 w5/\Ae (λ_=>True) (λ_=>True) w5 v (FT L)) ?_ ?_;rintro vs w5 ⟨v,rfl,g5,h5⟩ _;rw[Bh,JS];refine AA (JM h5 (by have:=N9 (l:=L);omega)) ?_;rintro v6 w6 ⟨o6,g6⟩;have:=g5.size;refine⟨?_,EU (g5.trans g6)⟩;refine AG.U' (AG.Bk o6 λg hg=>by have:=(AG.Az o6 g hg).1;omega) l_ C0 λr x _ hx=>hx.U' l_ F_ λy _ hy=>⟨E,hy.2⟩;have Z:Ae (λ_=>True) (λ_=>True) w4 (.slice va L.length vc) L:=BC.sub (AG.sl o4) (λ_ _ _=>trivial) B_ λr x hx=>hx.U' l_ F_ λ_ _ _=>trivial;rw[AP,A6,wrap64 E E,DR];refine AE (λak=>?_) λak=>?_;have J:0<L.length:=E;have O:L.length-1<L.length:=E;rw[(E:((L.length:Int)-1)=((L.length-1:Nat):Int))];obtain⟨q,r,rfl,_,hr,hc,rv,b9,ba,rfl,q1,q2,q3⟩:=Z.get O;apply AW O;rw[AB,Addr.add_add];apply AD (hc 0 _ rfl);rw[Aj];refine AE (λhk=>?_) λhk=>⟨_,rfl,o,by rw[FT,DQ J];simp only;rw[Bp (λh=>hk h.1)];exact Z⟩;apply AW O;rw[AB,Addr.add_add];apply AD (hc 4 _ rfl);obtain⟨pa,pc,rfl,_⟩:=q3.AO;rw[AP,Aj];refine AE (λhp=>?_) λhp=>⟨_,rfl,o,by rw[FT,DQ J];simp only;rw[Bp (λh=>hp (X9.2 h.2))];exact Z⟩;refine RQ (e:=50) (i:=Tryz.t50) C_ C_ C_ Z (Nat.sub_le _ _) λv' al=>?_;refine⟨v',rfl,o,?_⟩;rw[FT,DQ J];simp only;rw[Cx ⟨hk,X9.1 hp⟩,zG];exact al;have:L=[]:=Kx E;subst this;exact⟨_,rfl,o,Z⟩
def Tu{S D:f_}{x:V'}(h:Ae S D w v x)(hb:Aa x<=68719476736) : AF prog 43 [v] (λv' w'=>CZ w.heap.size w' v' (AL x)/\AI w w') w:=by
 refine H_ func43 ?_ (.y (.y (.y (.x (.y (.node [9] [(5,5),(9,35)] .nil .nil))))));have al:=Bo x;apply AA LC;rintro v1 w1 ⟨g1,b,a6,an,rfl,a7⟩;have ho:=h.JR;obtain⟨a,c,rfl,hm⟩:=h.AO;rw[AP];refine AX (λvs w2=>∃k:Nat,k<=x.length/\vs=[zI k]/\AI w w2/\Ii (λy=>w.heap.size<=y) w2 b (BB (x.take k))) (λvs _=>x.length-Di vs 0) ⟨0,Hw _,rfl,g1,a7.sub λy i=>by rw[i];exact a6⟩ ?_;rintro vs w2 ⟨k,hk,rfl,g2,hI⟩ _;rw[Bh,JS,As];have a8:=Fu (x.take k);have ak:=Jc x k;refine AE (λav=>?_) λax=>?_
 .have I:k<x.length:=E;have X:x[k]∈x:=D_;have aa:=EP X;obtain⟨p,r,rfl,_,hr,hc,Y⟩:=(Ae.U_ ho g2).get I;refine AW I (Ab hr m_ ?_);refine BJ (vs:=r) hr rfl Y.one λbb w3 ay b0 Z J _=>?_;have a1:=g2.trans Z;have Q:Ii (λy=>w.heap.size<=y) w3 b (BB (x.take k)):=hI.U' Z C0;obtain⟨rv,sv,pv,rfl,q1,q2,q3⟩:=Y.U' (D':=λb=>D b/\b<w.heap.size) Z F_ C0;have B:BB (x.take (k+1))=BX (BB (x.take k)) x[k]:=by
   rw[Lc,By I];simp only[BB,Option.toList,wG,wP,yn]
  have next:∀O,Ii (λy=>w.heap.size<=y) O b (BB (x.take (k+1)))->AK (λy=>w.heap.size<=y) w3 O->(∃k':Nat,k'<=x.length/\[zI ((k+1:Nat):Int)]=[zI k']/\AI w O/\Ii (λy=>w.heap.size<=y) O b (BB (x.take k')))/\x.length-Di [zI ((k+1:Nat):Int)] 0<x.length-Di [zI k] 0:=
   λO U V=>⟨⟨k+1,I,rfl,a1.next V E,U⟩,by rw[CL,CL];omega⟩
  have b6:=a1.size;have b7:=Bo (BB (x.take k)).done;have b8:=Bo (BB (x.take k)).ins;simp only[Co] at aa;have b9:x[k].patch.length<=FK x[k].patch:=by rw[T7];omega
  have ba:x[k].set.length<=Eo x[k].set:=by rw[LL];omega
  simp only[AB];apply AD (J 0 _ rfl);rw[Aj];refine AE (λk1=>?_) λk1=>?_
  .refine AD (J 1 _ rfl) (AD (J 4 _ rfl) ?_);refine AA (EO Q q3 (λy i hf=>by have:=i.2;omega) E E) ?_;rintro v4 O ⟨U,V⟩;rw[AR,AM E];refine next O ?_ V
   rw[B,BX,Cx k1];exact U.sub λy i=>by rcases i with i|i;exact i;omega
  rw[Aj];refine AE (λk2=>?_) λk2=>?_
  .refine AD (J 2 _ rfl) (AD (J 3 _ rfl) ?_);refine AA (Hd Q q1 q2 (λy i hf=>by have:=i.2;omega) E (λo ho=>by have:=EP ho;simp only[Co] at this;omega) E E) ?_;rintro v4 O ⟨U,V⟩;rw[AR,AM E];refine next O ?_ V
   rw[B,BX,Bp k1,Cx k2];exact U.sub λy i=>by rcases i with i|i;exact i;omega
  .apply AD (J 1 _ rfl);apply AA (LG Q);rintro v4 O ⟨U,V⟩;rw[AR,AM E];refine next O ?_ V
   rw[B,BX,Bp k1,Bp k2];exact U
 have:k=x.length:=E;subst this;rw[Nr] at hI a8;apply AA (Kh hI E);rintro v3 w3 ⟨o3,Z⟩;have:=g2.size;refine⟨?_,g2.trans Z⟩;exact AG.U' (AG.Bk o3 λg hg=>by have:=(AG.Az o3 g hg).1;omega) l_ C0 λr x _ hx=>hx.U' l_ F_ λy _ i=>⟨E,i.2⟩
def BC.An{k:Nat}{R:e_->V_->α->Prop}{a:Option Addr}{c n:Nat}{m:List α}(U:BC S k R w (.slice a n c) m)(I:∀r y,R w r y->∀u∈r,u.oneCell'=true) : ∃o:List V_,o.length=m.length/\(∀(i:Nat) (r:V_),o[i]?=some r->r.length=k/\(∀u∈r,u.oneCell'=true)/\(∃p,a=some p/\∀j u,r[j]?=some u->w.cell? (p.add (i*k+j))=some u)/\∃y,m[i]?=some y/\R w r y):=by
 obtain⟨a',c',e,_,_,J⟩:=U;cases e;have gen:∀q,q<=m.length->∃o:List V_,o.length=q/\(∀(i:Nat) (r:V_),o[i]?=some r->r.length=k/\(∀u∈r,u.oneCell'=true)/\(∃p,a=some p/\∀j u,r[j]?=some u->w.cell? (p.add (i*k+j))=some u)/\∃y,m[i]?=some y/\R w r y):=by
  intro q;induction q with
  |zero=>exact λ_=>⟨[],rfl,λi r h=>by simp at h⟩
  |succ q V=>
   intro hq;obtain⟨rs,O,X⟩:=V E;obtain⟨p,r,Y,f2,Z,f4,Q⟩:=J q m[q] (by simp[(E:q<m.length)]);refine⟨rs++[r],by simp[O],λi r' B=>?_⟩;by_cases hi:i<q;rw[PF E] at B;exact X i r' B;have:i=q:=by have:=(Bq.1 B).1;simp[O] at this;omega
   subst this;rw[qz E] at B;simp[O] at B;subst B;exact⟨Z,I _ _ Q,⟨p,Y,f4⟩,m[i],by simp[(E:i<m.length)],Q⟩
 exact gen m.length (HK _)
def Xw{t ty e k bytes b:Nat}{R:e_->V_->α->Prop}{x:d_}{m:List α}(hE:Dg P t e k bytes)(hb:w.heap[b]?=some (.cells #[] e (0,0)))(Q:BC S k R w x m) (I:∀w r y,R w r y->∀u∈r,u.oneCell'=true)(O:m.length*bytes<=140737488355328)(hR:∀w',w.grownBy w' (some b)->∀r y,R w r y->R w' r y) : ∃v' w',(Builtin.append_ #[t,t] ty [.slice (h_ b) 0 0,x].toArray).run P w=.ok v' w'/\AG b e k R w' v' m/\AI w w'/\∀g,v'.ownBlock=some g->g=b\/w.heap.size<=g:=by
 obtain⟨a,c,rfl,hm⟩:=Q.AO;have a6:=(wo.1 hb).1;have ho:AG b e k R w (.slice (h_ b) 0 0) ([]:List α):=⟨[],⟨D_,.inr ⟨b,0,#[],rfl,HK _,hb,HK _,by simp[maxLen],D_,D_⟩⟩,rfl,D_,D_⟩;obtain⟨v',w',B,r2,r3,r4⟩:=AG.append (ty:=ty) hE ho Q (λ_ _=>I _ _ _) (by simpa using O) E (by simpa using hm) (λw' U r y hy=>hR w' U r y hy);refine⟨v',w',B,by simpa using r2,?_,λg U=>?_⟩;obtain⟨i,z,ht,hi,hz,hs,V,a7,hk⟩:=hE;obtain⟨o,g1,g2⟩:=BC.An Q (λ_ _=>I _ _ _);have J:∀r∈o,r.length=k:=λr hr=>by obtain⟨j,hj⟩:=wE.1 hr;exact(g2 j r hj).1
 simp[maxLen] at hm;by_cases X:m.length=0;have h0:(Builtin.append_ #[t,t] ty [.slice (h_ b) 0 0,.slice a m.length c].toArray).run P w=.ok (.slice (h_ b) 0 0) w:=by
  rw[X];cases a<;>simp[Builtin.append_,run_underlying ht,sizeOf,typeInfo,hi,Builtin.lenOf,Builtin.firstCells,storeCells,loadCells,loadCellsFrom]
 rw [h0] at B;cases B;exact AK.refl _ _;obtain ⟨p,r,f1,_⟩:=Q.get (i:=0) E;subst f1;have hr:=aA9 (P:=P) w t ty e i z ht hi hz ⟨b,0,none⟩ 0 0 [] D_ D_ p m.length c o.flatten (by rw [ED o J,g1,hs]) (λq u hu=>by
  obtain ⟨r,hr,Y⟩:=Kb hk o J q u hu;obtain ⟨_,_,⟨p',Z,a1⟩,_⟩:=g2 _ r hr;cases Z;have:=a1 _ u Y;rwa [zQ] at this) E E (aBN E (by rw [V];simpa using O))
 rw[hr] at B;cases B;exact(AK.drew _ _).trans (AK.alloc _ _ _);rcases r4 g U with h|h;exact .inl (by simpa[Value.ownBlock] using h.symm);exact .inr h
def ZR{k:Nat}:∀(An:List V_) (j:Nat),(∀r∈An,r.length=k)->An.flatten.take (j*k)=(An.take j).flatten:=by
 intro An;induction An with
 |nil=>intro j _;simp
 |cons r An i=>
  intro j h;have h0:=h r D_;cases j with
  |zero=>simp
  |succ j=>
   rw[yZ,wX,yZ,<-i j λx o=>h x (by simp[o])];rw[yP,wM (by rw[h0,wF];omega)];congr 2;rw[h0,wF];omega
def AG.take{B e k:Nat}{R:e_->V_->α->Prop}{g n c:Nat}{l:List α}(h:AG B e k R w (.slice (h_ g) n c) l)(I:j<=l.length):AG B e k R w (.slice (h_ g) j c) (l.take j):=by
 obtain⟨An,h1,U,V,Y⟩:=h;have o:∀r∈An,r.length=k:=λr hr=>(V r hr).1;refine⟨An.take j,⟨?_,?_⟩,by rw[K8,K8,U],λr hr=>V r (aO hr),λi r x hr J=>?_⟩;rw[ED _ λr hr=>o r (aO hr),K8,K8,U];rcases h1.2 with⟨X,_⟩|⟨g',cap,O,Z,hb,hg,X,hm,hs,ht⟩;cases X;cases Z;refine .inr ⟨g,c,O,by rw[K8,u6 I],hb,hg,by rw[K8];omega,hm,hs,?_⟩;rw[<-ZR An j o,<-ht,xH,K8];congr 1;rw[u6 I,u6 (wj _ I)];rw[wY] at hr J;split at hr;rename_i Q;rw[Cx Q] at J;exact Y i r x hr J;cases hr
def Ga{t e k:Nat}{i:TypeInfo}{g n c j:Nat}(ht:P.underlying t=some (.slice e))(hi:P.info? e=some i)(hk:i.size=k)(B:j<=c)(w:e_):(Instr.sliceAt t (.slice (h_ g) n c) none (some (zI j)) none).run P w=.ok (.slice (h_ g) j c) w:=by
 have o:P.elem t=e:=by simp[Program.elem,ht]
 rw[xb _ _ _ _ _ _ (by rw[o];exact ht),aBR _ _ _ _ _ (by rw[o];exact ht) _ _ E E,o];simp[sizeOf,typeInfo,hi,hk,sliced,Addr.add]
def Fz{b:Nat}{q:Nat}{u:d_}{K:e_->Prop}(hc:∀j v,vs[j]?=some v->W.cell? ⟨b,j,none⟩=some v)(hl:∀j,j<vs.length->Cv W ⟨b,j,none⟩)(o:q<vs.length)(h1:u.oneCell'=true)(J:u.cells=#[u]) (O:∀W',AK (λx=>x=b) W W'->(∀j v,(vs.set q u)[j]?=some v->W'.cell? ⟨b,j,none⟩=some v)->(∀j,j<(vs.set q u).length->Cv W' ⟨b,j,none⟩)->K W'):Cu (.pointer (some ⟨b,q,none⟩)) u K W:=by
 refine(hl q o).st h1 J (O _ (AK.setCell (M:=λx=>x=b) W ⟨b,q,none⟩ u rfl) (λj v i=>?_) λj Q=>(hl j (by simpa using Q)).set _ _);by_cases e:j=q;subst e;rw[sT o] at i;cases i;obtain⟨U,B⟩:=pj.1 (hl j o).1;exact cO _ _ _ B;rw[vu (yH e)] at i;rw[Of _ _ _ _ (λI=>by simp only[Addr.mk.injEq] at I;exact e I.2.1.symm)];exact hc j v i
def Vv{t ty e k bytes:Nat}{R:e_->V_->α->Prop}{p:Addr}{x:d_}{l m:List α}(hE:Dg P t e k bytes)(h:BC S k R w (.slice (some p) l.length l.length) l)(hx:BC S' k R w x m)(a7:0<m.length) (V:∀w r y,R w r y->∀u∈r,u.oneCell'=true)(a8:(l.length+m.length)*bytes<=140737488355328)(a6:l.length+m.length<=maxLen)(hR:∀w',AI w w'->∀r y,R w r y->R w' r y) : ∃v' w',(Builtin.append_ #[t,t] ty [.slice (some p) l.length l.length,x].toArray).run P w=.ok v' w'/\AG w.heap.size e k R w' v' (l++m)/\AI w w':=by
 obtain⟨i,z,ht,hi,hz,hs,aa,ak,hk⟩:=hE;obtain⟨a,c,rfl,hm⟩:=hx.AO;simp[maxLen] at a6;obtain⟨An,g1,g2⟩:=BC.An h (λ_ _=>V _ _ _);obtain⟨o,X,O⟩:=BC.An hx (λ_ _=>V _ _ _);have Q:∀r∈An,r.length=k:=λr hr=>by obtain⟨j,B⟩:=wE.1 hr;exact(g2 j r B).1
 have I:∀r∈o,r.length=k:=λr hr=>by obtain⟨j,B⟩:=wE.1 hr;exact(O j r B).1
 obtain⟨pa,r0,f1,_⟩:=hx.get (i:=0) a7;subst f1;have get:∀{rs:List V_} {q:Addr},(∀r∈rs,r.length=k)->(∀(i:Nat) (r:V_),rs[i]?=some r->∀j u,r[j]?=some u->w.cell? (q.add (i*k+j))=some u)->∀(j:Nat) (u:d_),rs.flatten[j]?=some u->w.cell? (q.add j)=some u:=by
  intro rs q hl hc j u hu;obtain⟨r,hr,al⟩:=Kb hk rs hl j u hu;have:=hc _ r hr _ u al;rwa [zQ] at this
 have hr:=aA9 (P:=P) w t ty e i z ht hi hz p l.length l.length An.flatten (by rw [ED An Q,g1,hs]) (get Q λj r B q u hu=>by
   obtain⟨_,_,⟨p',Y,Z⟩,_⟩:=g2 j r B;cases Y;exact Z q u hu) pa m.length c o.flatten (by rw[ED o I,X,hs]) (get I λj r B q u hu=>by
   obtain ⟨_,_,⟨p',Y,Z⟩,_⟩:=O j r B;cases Y;exact Z q u hu) E E (aBN E (by rw [aa];exact a8))
 have hg:AI w (w.drew.alloc (.cells (An.flatten.toArray++o.flatten.toArray++Builtin.zeroCells z.cells (grownCap w (l.length+m.length) l.length e-(l.length+m.length))) e)):=(AK.drew _ _).trans (AK.alloc _ _ _);have an:=aAo w (l.length+m.length) l.length e;have J:(An.flatten++o.flatten).length=(l.length+m.length)*k:=by rw[Ad,ED An Q,ED o I,g1,X,wF]
 refine⟨_,_,hr,⟨An++o,⟨by rw[aAV,J,Ad],.inr ⟨w.heap.size,_,_,by rw[Ad],HK _,zu w.drew _,by rw[Ad];exact an,yu w (l.length+m.length) l.length e a6,?_,?_⟩⟩,by simp[g1,X],λr hr=>?_,λj r y B hy=>?_⟩,hg⟩;simp only[zw,xw,aBO,ak];have e1:=J;rw[Ad] at e1;rw[e1,<-wF];congr 1;omega;simp only[Array.toList_append,Ad,aAV];have h3:(l.length+m.length)*k=(An.flatten++o.flatten).length:=J.symm;rw[h3,xZ (HK _),Nr];rcases DN.1 hr with h|h;obtain⟨j,B⟩:=wE.1 h;exact⟨(g2 j r B).1,(g2 j r B).2.1⟩;obtain⟨j,B⟩:=wE.1 h;exact⟨(O j r B).1,(O j r B).2.1⟩;apply hR _ hg r y;by_cases av:j<l.length;rw[PF E] at B;rw[PF av] at hy;obtain⟨_,_,_,y',U,a1⟩:=g2 j r B;rw[hy] at U;cases U;exact a1;rw[qz E,g1] at B;rw[qz E] at hy;obtain⟨_,_,_,y',U,a1⟩:=O _ r B;rw[hy] at U;cases U;exact a1
def Jw{α:Type}(e k:Nat)(R:e_->V_->α->Prop)(w:e_)(v:d_)(l:List α):Prop:=AG 0 e k R w v l\/∃p,v=.slice (some p) l.length l.length/\p.block<w.heap.size/\BC (λb=>b=p.block) k R w v l
section
variable {α:Type}{e k:Nat}{R R':e_->V_->α->Prop}{w w':e_}{v:d_}{l:List α}{M:f_}
def Jw.sl(h:Jw e k R w v l)(hk:0<k):BC (λb=>v.ownBlock=some b) k R w v l:=by
 rcases h with h|⟨p,rfl,i,h⟩;exact(AG.sl h).sub (λ_ _ h=>h.2) hk C0;exact h.sub (λb _ e=>by rw[e];rfl) hk C0
def Jw.Az(h:Jw e k R w v l):∀g,v.ownBlock=some g->g<w.heap.size:=by
 rcases h with h|⟨p,rfl,i,h⟩;exact λg j=>(AG.Az h g j).2;intro g j;have:p.block=g:=r9 j;rw[<-this];exact i
def Jw.U'(h:Jw e k R w v l)(hk:0<k)(hm:AK M w w')(j:∀g,v.ownBlock=some g->¬M g)(o:∀r x,R w r x->R' w' r x):Jw e k R' w' v l:=by
 rcases h with h|⟨p,rfl,i,h⟩;exact .inl (AG.U' h hm j λr x _ B=>o r x B);exact .inr ⟨p,rfl,Nn i hm.size,BC.mono h C0 (λb hb I=>hm.Ap b hb (j b (by rw[I];rfl))) hk o⟩
def Jw.one(h:Jw e k R w v l):v.oneCell'=true/\v.cells=#[v]:=by
 rcases h with h|⟨p,rfl,i,h⟩;exact AG.one h;exact⟨rfl,rfl⟩
def Jw.push{t bytes:Nat}{x:α}{BK:List (Nat×d_)}(Y:Dg P t e k bytes)(h:Jw e k R w v l) (hf:Instr.fill (λi=>some (i*k,k)) ((Array.range (1*k)).map (vs.toArray[· % vs.toArray.size]!)) BK=some cs.toArray)(Q:cs.length=k)(hx:R w cs x)(B:∀w r y,R w r y->∀u∈r,u.oneCell'=true) (X:∀o w2 r y,w.heap.size<=o.heap.size->AK (λb=>v.ownBlock=some b\/w.heap.size<=b) o w2->R o r y->R w2 r y)(I:(l.length+1)*bytes<=140737488355328)(U:l.length+1<=maxLen) {Q1:e_->Prop}{Q2:e_->e_->Prop}(V:∀o,AI w o->Q1 o) (hK:∀o v' w',AG 0 e k R w' v' (l++[x])->AK (λb=>v.ownBlock=some b) o w'->AK (λb=>v.ownBlock=some b) w w'->(∀g,v'.ownBlock=some g->v.ownBlock=some g\/w.heap.size<=g)->Q2 o w'/\K v' w') : Eb e k 1 vs BK (λs o=>Q1 o/\runK P (Builtin.append_ #[t,t] t [v,s].toArray) (λv' w'=>Q2 o w'/\K v' w') o) w:=by
 rcases h with h|⟨p,rfl,a1,h⟩;exact Mr Y h (Hw _) hf Q hx B X I U V hK;refine⟨_,hf,?_⟩;have hk:0<k:=by obtain⟨_,_,_,_,_,_,_,_,hk⟩:=Y;exact hk
 have O:AI w (w.alloc (.cells cs.toArray e)):=AK.alloc _ _ _;have hc:∀j u,cs[j]?=some u->(w.alloc (.cells cs.toArray e)).cell? ((⟨w.heap.size,0,none⟩:Addr).add j)=some u:=λj u hu=>Fi hu;have hz:(w.alloc (.cells cs.toArray e)).heap.size=w.heap.size+1:=D_;generalize w.alloc (.cells cs.toArray e)=o at O hc hz ⊢;have hs:BC (λ_=>True) k R o (.slice (h_ w.heap.size) 1 1) [x]:=by
  refine⟨_,1,rfl,HK _,by simp[maxLen],λi y J=>?_⟩;have hi:i=0:=by have:=(Bq.1 J).1;simp at this;exact this
  subst hi;simp at J;subst J;exact⟨_,cs,rfl,trivial,Q,λj u hu=>by rw[yx,wS];exact hc j u hu,X _ _ _ _ (HK _) (O.mono E') hx⟩
 obtain⟨v',w',h1,h2,h3⟩:=Vv (ty:=t) (m:=[x]) Y (h.U_ O hk λr y J=>X _ _ _ _ (HK _) (O.mono E') J) hs D_ B I U λw2 g r y J=>X _ _ _ _ E (g.mono E') J;refine⟨V _ O,AZ h1 (hK o v' w' (h2.Bk λ_ _=>Hw _) (h3.mono E') ((O.trans h3).mono E') λg Z=>.inr ?_)⟩;have:=(AG.Az h2 g Z).1;omega
end
def L7:V_->Nat->V_->V_
 |r,_,[]=>r
 |r,p,v::vs=>L7 (r.set p v) (p+1) vs
def PY:∀(vs r:V_) (p:Nat),(L7 r p vs).length=r.length:=by
 intro vs;induction vs with
 |nil=>intro r p;rfl
 |cons v vs i=>intro r p;rw[L7,i,q7]
def RB:∀(vs r:V_) (p:Nat),p+vs.length<=r.length->L7 r p vs=r.take p++vs++r.drop (p+vs.length):=by
 intro vs;induction vs with
 |nil=>intro r p _;simp[L7]
 |cons v vs i=>
  intro r p h;rw[Hn] at h;rw[L7,i _ _ (by rw[q7];omega)];have h1:(r.set p v).take (p+1)=r.take p++[v]:=by
   rw[Lc,sT E,List.take_set_of_le (HK _)];rfl
  rw[h1,aAX E,Hn,(E:p+1+vs.length=p+(vs.length+1))];simp
def PZ{vs r:V_}(h:vs.length=r.length):L7 r 0 vs=vs:=by
 rw[RB _ _ _ E,wS,xB E];simp
def KX{vs r t:V_}(h:vs.length=r.length):L7 (r++t) 0 vs=vs++t:=by
 rw[RB _ _ _ (by simp;omega),wS];simp[h]
def mO{vs r q t:V_}{p:Nat}(i:q.length=p)(h:vs.length=r.length):L7 (q++r++t) p vs=q++vs++t:=by
 subst i;rw[RB _ _ _ (by simp;omega)];simp[h]
def AG.An{B e k:Nat}{R:e_->V_->α->Prop}{l:List α}(h:AG B e k R w v l) : ∃An:List V_,AG B e k (λ_ r y=>y=r) w v An/\An.length=l.length/\(∀r∈An,r.length=k/\∀u∈r,u.oneCell'=true)/\∀(i:Nat) (r:V_) (x:α),An[i]?=some r->l[i]?=some x->R w r x:=by
 obtain⟨An,h1,j,o,J⟩:=h;exact⟨An,⟨An,by rw[j];exact h1,rfl,o,λi r x hr I=>by rw[hr] at I;cases I;rfl⟩,j,o,J⟩
def AG.qi{B e k:Nat}{R:e_->V_->α->Prop}{l:List α}{An:List V_}(h:AG B e k (λ_ r y=>y=r) w v An)(hl:An.length=l.length)(I:∀(i:Nat) (r:V_) (x:α),An[i]?=some r->l[i]?=some x->R w r x):AG B e k R w v l:=by
 obtain⟨j,h1,J,O,Q⟩:=h;have e:j=An:=by
  refine List.ext_getElem J λi hi o=>?_;exact(Q i j[i] An[i] (by simp[hi]) (by simp[o])).symm
 subst e;exact⟨j,by rw[<-hl];exact h1,hl,O,I⟩
def Wc{B e k:Nat}{a:Addr}{n c i:Nat}:∀(vs:V_) (p j:Nat) (w:e_) (An:List V_),AG B e k (λ_ r y=>y=r) w (.slice (some a) n c) An->(hi:i<An.length)->p+j+vs.length<=k->(∀u∈vs,u.oneCell'=true)->AG B e k (λ_ r y=>y=r) (FE w (a.add (i*k+p)) j vs) (.slice (some a) n c) (An.set i (L7 An[i] (p+j) vs))/\AK (λb=>b=a.block) w (FE w (a.add (i*k+p)) j vs):=by
 intro vs;induction vs with
 |nil=>intro p j w An h hi _ _;simp[FE,L7,aBJ];exact⟨h,AK.refl _ _⟩
 |cons v vs J=>
  intro p j w An h hi hk h1;rw[Hn] at hk;simp[FE,L7,Addr.add_add];obtain⟨_,_,O,hm⟩:=AG.store (R':=λ_ r y=>y=r) (u:=v) (x':=An[i].set (p+j) v) (j:=p+j) h hi E (h1 v D_) F_ (λr hr=>by rw[hr]);have o:i<(An.set i (An[i].set (p+j) v)).length:=by rw[q7];exact hi
  obtain⟨I,Q⟩:=J p (j+1) _ _ O o E λu hu=>h1 u (by simp[hu]);rw[yT,aBk] at I;rw[(E:i*k+(p+j)=i*k+p+j)] at *;exact⟨I,hm.trans Q⟩
def AG.TX{B e k:Nat}{R R':e_->V_->α->Prop}{a:Addr}{n c i p m:Nat}{l:List α}{x':α}{K:e_->Prop}(h:AG B e k R w (.slice (some a) n c) l)(hi:i<l.length)(hm:vs.length=m)(hk:p+m<=k)(h1:∀u∈vs,u.oneCell'=true) (V:∀w' r y,AK (λb=>b=a.block) w w'->y∈l->R w r y->R' w' r y)(X:∀w' r,AK (λb=>b=a.block) w w'->R w r l[i]->r.length=k->(∀u∈r,u.oneCell'=true)->R' w' (L7 r p vs) x') (Y:∀w',AG B e k R' w' (.slice (some a) n c) (l.set i x')->AK (λb=>b=a.block) w w'->K w'):Bu m (.pointer (some (a.add (i*k+p)))) (.agg vs.toArray) K w:=by
 obtain⟨An,U,hl,Z,hr⟩:=h.An;have o:i<An.length:=E;obtain⟨o2,O⟩:=Wc vs p 0 w An U o E h1;refine⟨_,vs,rfl,rfl,hm,h1,λj hj=>?_,Y _ (AG.qi o2 (by rw[q7,q7,hl]) λq r x J I=>?_) O⟩;obtain⟨g,e1,_,Q⟩:=AG.Cb U o (j:=p+j) E;cases e1;rw[Addr.add_add,(E:i*k+p+j=i*k+(p+j))];exact Q;by_cases e:i=q;subst e;rw[sT o] at J;rw[sT hi] at I;cases J;cases I;have:=Z An[i] (Q0 o);rw[ua];exact X _ _ O (hr i _ _ (By o) (By hi)) this.1 this.2;rw[vu e] at J I;exact V _ _ _ O (wD I) (hr q r x J I)
def bB:∀(vs:V_) (l:V_) (p j:Nat),(vs.zipIdx j).foldl (λcs (x:d_×Nat)=>cs.setIfInBounds (p+x.2) x.1) l.toArray=(L7 l (p+j) vs).toArray:=by
 intro vs;induction vs with
 |nil=>intro l p j;rfl
 |cons v vs i=>
  intro l p j;have:=i (l.set (p+j) v) p (j+1);rw[<-wx] at this;rw[List.zipIdx_cons,wP,L7,<-this];simp
def EK{K1:Nat->Option (Nat×Nat)}{l vs:V_}{i off len:Nat}{j:List (Nat×d_)}(hp:K1 i=some (off,len))(I:v.cells=vs.toArray)(hl:vs.length=len)(J:off+len<=l.length):Instr.fill K1 l.toArray ((i,v)::j)=Instr.fill K1 (L7 l off vs).toArray j:=by
 have B:=bB vs l off 0;rw[ua] at B;have o:(vs.toArray.zipIdx.foldl (λcs (x:d_×Nat)=>cs.setIfInBounds (off+x.2) x.1) l.toArray)=(L7 l off vs).toArray:=by
  rw[<-B,<-Array.foldl_toList];simp
 have hc:(decide (vs.toArray.size≠len)||decide (off+vs.toArray.size>l.toArray.size))=false:=by simp[hl];omega
 simp only[Instr.fill,hp,I,hc,o];simp
def HM{K1:Nat->Option (Nat×Nat)}{l:V_}:Instr.fill K1 l.toArray []=some l.toArray:=rfl
def Xo{j:V_}{k:Nat}(B:j.length=k)(hk:0<k):(Array.range (1*k)).map (j.toArray[· % j.toArray.size]!)=j.toArray:=by
 subst B;rw[Nat.one_mul];refine Array.ext D_ λi h1 o=>?_;simp at h1 o;simp[Nat.mod_eq_of_lt o,o]
def Dj{j vs:V_}{k:Nat}(o:j.length=k)(hk:0<k)(B:v.cells=vs.toArray)(hl:vs.length=k):Instr.fill (λi=>some (i*k,k)) ((Array.range (1*k)).map (j.toArray[· % j.toArray.size]!)) [(0,v)]=some vs.toArray:=by
 rw[Xo o hk,EK (off:=0) D_ B hl E,HM,PZ E]
inductive Tr (α:Type) where
 |nil:Tr α
 |node (l:Tr α) (i:Nat) (x:α) (r:Tr α):Tr α
structure Nd (α:Type) where
 x:α
 l:Int
 r:Int
 h:Int
 s:Int
 m:Int
namespace Tr
section
variable {α:Type}(μ:α->Nat×Nat)
def root:Tr α->Int
 |nil=>-1
 |node _ i _ _=>i
def toL:Tr α->List α
 |nil=>[]
 |node l _ x r=>toL l++x::toL r
def idx:Tr α->X'
 |nil=>[]
 |node l i _ r=>idx l++i::idx r
def ht:Tr α->Nat
 |nil=>0
 |node l _ _ r=>1+max (ht l) (ht r)
def Er:Tr α->Nat
 |nil=>0
 |node l _ _ r=>Er l+Er r+1
def sz(l:List α):Nat:=(l.map λx=>(μ x).1).sum
def mk(l:List α):Nat:=(l.map λx=>(μ x).2).sum
def DI(l m:List α):sz μ (l++m)=sz μ l+sz μ m:=by simp[sz]
def Hf(l m:List α):mk μ (l++m)=mk μ l+mk μ m:=by simp[mk]
def CF(x:α)(m:List α):sz μ (x::m)=(μ x).1+sz μ m:=by simp[sz]
def EB(x:α)(m:List α):mk μ (x::m)=(μ x).2+mk μ m:=by simp[mk]
def FH(t:Tr α)(x:α)(l r:Int):Nd α:=⟨x,l,r,t.ht,sz μ t.toL,mk μ t.toL⟩
def Ac(f:Nat->Option (Nd α)):Tr α->Prop
 |nil=>True
 |node l i x r=>Ac f l/\Ac f r/\f i=some (FH μ (node l i x r) x l.root r.root)
def OM{t:Tr α}(h:1<=t.ht):∃l i x r,t=node l i x r:=by
 cases t with
 |nil=>simp[ht] at h
 |node l i x r=>exact⟨l,i,x,r,rfl⟩
def YY(t:Tr α):t.idx.length=t.Er/\t.toL.length=t.Er:=by
 induction t with
 |nil=>exact⟨rfl,rfl⟩
 |node l i x r h1 j=>simp only[idx,toL,Er,Ad,Hn];omega
def pL(t:Tr α):t.ht<=t.Er:=by
 induction t with
 |nil=>exact HK _
 |node l i x r h1 j=>simp only[ht,Er];omega
def Ac.frame{f I:Nat->Option (Nd α)}{t:Tr α}(h:Ac μ f t)(o:∀j∈t.idx,I j=f j):Ac μ I t:=by
 induction t with
 |nil=>trivial
 |node l i x r h1 J=>
  obtain⟨a,b,c⟩:=h;exact⟨h1 a λj B=>o j (by simp[idx,B]),J b λj B=>o j (by simp[idx,B]),by rw[o i (by simp[idx])];exact c⟩
def Ac.LF{f:Nat->Option (Nd α)}{t:Tr α}(h:Ac μ f t)(o:j∈t.idx):∃n,f j=some n:=by
 induction t with
 |nil=>simp[idx] at o
 |node l i x r h1 B=>
  obtain⟨a,b,c⟩:=h;simp only[idx,DN,I3] at o;rcases o with o|rfl|o
  .exact h1 a o
  .exact⟨_,c⟩
  .exact B b o
def IB{α:Type}(f:Nat->Option (Nd α))(i:Nat)(n:Option (Nd α)):Nat->Option (Nd α):=λj=>if j=i then n else f j
def NZ(f:Nat->Option (Nd α))(i:Nat)(n:Option (Nd α)):IB f i n i=n:=by simp[IB]
def Em{f:Nat->Option (Nd α)}{i j:Nat}(n:Option (Nd α))(h:j≠i):IB f i n j=f j:=by simp[IB,h]
def Ac.out{f:Nat->Option (Nd α)}{t:Tr α}(h:Ac μ f t){i:Nat}(n:Option (Nd α))(hi:i∉t.idx):Ac μ (IB f i n) t:=h.frame μ λj o=>Em n λe=>hi (e▸o)
def Ac.uM{f:Nat->Option (Nd α)}{l r:Tr α}{i:Nat}{x:α}(hl:Ac μ f l)(hr:Ac μ f r)(j:i∉l.idx)(o:i∉r.idx) : Ac μ (IB f i (some (FH μ (node l i x r) x l.root r.root))) (node l i x r):=⟨hl.out μ _ j,hr.out μ _ o,NZ _ _ _⟩
def H7(t:Tr α):Prop:=t.idx.Nodup
def BP{l r:Tr α}{i:Nat}{x:α}:H7 (node l i x r)↔H7 l/\H7 r/\i∉l.idx/\i∉r.idx/\∀j∈l.idx,j∉r.idx:=by
 unfold H7;simp only[idx,r8,aBA,I3,ne_eq,forall_eq_or_imp];constructor
 .rintro⟨h1,⟨I,J⟩,o⟩;exact⟨h1,J,λe=>(o i e).1 rfl,I,λj B e=>(o j B).2 j e rfl⟩
 .rintro⟨h1,I,J,o,O⟩;exact⟨h1,⟨o,I⟩,λj B=>⟨λe=>J (e▸B),λk hk e=>O j B (e▸hk)⟩⟩
def sj(t t':Tr α):Prop:=t'.toL=t.toL/\t'.idx.Perm t.idx
def az(a b c:Tr α)(i j:Nat)(x y:α):sj (node (node a j y b) i x c) (node a j y (node b i x c)):=by
 refine⟨by simp[toL],?_⟩;simp[idx]
def gz(a b c:Tr α)(i j:Nat)(x y:α):sj (node a j y (node b i x c)) (node (node a j y b) i x c):=by
 refine⟨by simp[toL],?_⟩;simp[idx]
end
end Tr
structure Kd (α:Type) where
 μ:α->Nat×Nat
 cut:α->Nat->α×α
 meld:α->α->Option α
namespace Kd
variable {α β:Type}(k:Kd α)
def split:List α->Nat->List α×List α
 |[],_=>([],[])
 |x::t,at'=>if at'=0 then([],x::t) else if(k.μ x).1<=at' then(x::(split t (at'-(k.μ x).1)).1,(split t (at'-(k.μ x).1)).2) else([(k.cut x at').1],(k.cut x at').2::t)
def Qm(l:List α):k.split l 0=([],l):=by
 cases l with
 |nil=>rfl
 |cons x t=>simp[split]
def X0{l:List α}(t:List α){p:Nat}(h:p<=Tr.sz k.μ l):k.split (l++t) p=((k.split l p).1,(k.split l p).2++t):=by
 induction l generalizing p with
 |nil=>
  have:p=0:=by simpa[Tr.sz] using h
  subst this;rw[Qm];simp[Qm]
 |cons x l i=>
  rw[Tr.CF] at h;simp only[No,split];by_cases h0:p=0
  .rw[Cx h0,Cx h0];rfl
  .rw[Bp h0,Bp h0];by_cases h1:(k.μ x).1<=p
   .rw[Cx h1,Cx h1,i (by omega)]
   .rw[Bp h1,Bp h1];rfl
def Us{l:List α}(t:List α){p:Nat}(h:Tr.sz k.μ l<p):k.split (l++t) p=(l++(k.split t (p-Tr.sz k.μ l)).1,(k.split t (p-Tr.sz k.μ l)).2):=by
 induction l generalizing p with
 |nil=>simp[Tr.sz]
 |cons x l i=>
  rw[Tr.CF] at h ⊢;simp only[No,split];rw[Bp (by omega),Cx (by omega),i (by omega),aAq]
def RS(l r:List α)(x:α)(p:Nat):k.split (l++x::r) p =if p<=Tr.sz k.μ l then((k.split l p).1,(k.split l p).2++x::r) else if Tr.sz k.μ l+(k.μ x).1<=p then(l++x::(k.split r (p-Tr.sz k.μ l-(k.μ x).1)).1,(k.split r (p-Tr.sz k.μ l-(k.μ x).1)).2) else(l++[(k.cut x (p-Tr.sz k.μ l)).1],(k.cut x (p-Tr.sz k.μ l)).2::r):=by
 by_cases h:p<=Tr.sz k.μ l
 .rw[Cx h,X0 k _ h]
 .rw[Bp h,Us k _ (by omega)];simp only[split];rw[Bp (by omega)];by_cases i:Tr.sz k.μ l+(k.μ x).1<=p
  .rw[Cx i,Cx (by omega)]
  .rw[Bp i,Bp (by omega)]
def part(x:α)(i j:Nat):α:=if 0<i then(k.cut (if j<(k.μ x).1 then(k.cut x j).1 else x) i).2 else if j<(k.μ x).1 then(k.cut x j).1 else x
def Au:List α->Nat->Nat->List α
 |[],_,_=>[]
 |x::t,i,j=>(if i<min j (k.μ x).1 then[k.part x i (min j (k.μ x).1)] else[])++Au t (i-(k.μ x).1) (j-(k.μ x).1)
def GF(l:List α){i j:Nat}(h:j<=i):k.Au l i j=[]:=by
 induction l generalizing i j with
 |nil=>rfl
 |cons x l o=>simp only[Au];rw[Bp (by omega),o (by omega)];rfl
def WE(l t:List α)(i j:Nat):k.Au (l++t) i j=k.Au l i j++k.Au t (i-Tr.sz k.μ l) (j-Tr.sz k.μ l):=by
 induction l generalizing i j with
 |nil=>simp[Au,Tr.sz]
 |cons x l o=>
  simp only[No,Au,o,Tr.CF,Mp,aAq]
def Q8(l:List α)(i j:Nat):k.Au l i (min j (Tr.sz k.μ l))=k.Au l i j:=by
 induction l generalizing i j with
 |nil=>rfl
 |cons x l o=>
  simp only[Au,Tr.CF];rw[show min (min j ((k.μ x).1+Tr.sz k.μ l)) (k.μ x).1=min j (k.μ x).1 by omega,show min j ((k.μ x).1+Tr.sz k.μ l)-(k.μ x).1=min (j-(k.μ x).1) (Tr.sz k.μ l) by omega,o]
def DA(out:List α)(x:α):List α:=if(k.μ x).1=0 then out else
 match out.getLast? with
 |some y=>match k.meld y x with
  |some z=>out.dropLast++[z]
  |none=>out++[x]
 |none=>out++[x]
def melded(l:List α):List α:=l.foldl k.DA []
def Cw(t:List α)(i j:Nat)(l:List α):List α:=
 let a:=(k.split t i).1
 let b:=(k.split (k.split t i).2 (j-i)).2
 a.dropLast++k.melded (a.getLast?.toList++l++b.head?.toList)++b.tail
structure HI (u:α->List β):Prop where
 size:∀x,(k.μ x).1=(u x).length
 cut1:∀x p,0<p->p<(u x).length->u (k.cut x p).1=(u x).take p/\u (k.cut x p).2=(u x).drop p
 melds:∀x y z,k.meld x y=some z->u z=u x++u y
variable {k}{u:α->List β}
def HI.sz(h:k.HI u)(l:List α):Tr.sz k.μ l=(l.flatMap u).length:=by
 induction l with
 |nil=>rfl
 |cons x l i=>rw[Tr.CF,i,h.size,vr,Ad]
def HI.split(h:k.HI u)(l:List α)(p:Nat):((k.split l p).1.flatMap u=(l.flatMap u).take p)/\(k.split l p).2.flatMap u=(l.flatMap u).drop p:=by
 induction l generalizing p with
 |nil=>simp[Kd.split]
 |cons x l j=>
  simp[Kd.split,vr];by_cases h0:p=0;subst h0;simp;rw[Bp h0];by_cases h1:(k.μ x).1<=p;rw[Cx h1];have o:=h.size x;have i:(u x).length<=p:=by omega
  refine⟨?_,?_⟩;rw[vr,(j _).1,yP,wM i,o];rw[(j _).2,yQ,xB i,o,u7];rw[Bp h1];have:=h.size x;obtain⟨c1,c2⟩:=h.cut1 x p (by omega) (by omega);simp[vr,yp,Ty,c1,c2,yP,yQ];rw[show p-(u x).length=0 by omega];simp
def HI.part(h:k.HI u)(x:α){i j:Nat}(o:i<j)(B:j<=(u x).length):u (k.part x i j)=((u x).take j).drop i:=by
 have I:=h.size x;have e:u (if j<(k.μ x).1 then(k.cut x j).1 else x)=(u x).take j:=by
  by_cases h1:j<(k.μ x).1;rw[Cx h1,(h.cut1 x j (by omega) (by omega)).1];rw[Bp h1,wM (by omega)]
 unfold Kd.part;by_cases h0:0<i;rw[Cx h0,(h.cut1 _ i h0 (by rw[e,K8];omega)).2,e];rw[Bp h0,e,show i=0 by omega,xP]
def HI.Au(h:k.HI u)(l:List α)(i j:Nat):(k.Au l i j).flatMap u=((l.flatMap u).take j).drop i:=by
 induction l generalizing i j with
 |nil=>simp[Kd.Au]
 |cons x l o=>
  simp[Kd.Au,u9,vr,o,yP,yQ,h.size x,K8];congr 1;by_cases h1:i<min j (u x).length;rw[Cx h1];simp[vr,yp,Ty];have ht:(u x).take (min j (u x).length)=(u x).take j:=by rw[List.take_eq_take_iff];omega
  rw[h.part x (by omega) (by omega),ht];rw[Bp h1,xB (by rw[K8];omega)];rfl;by_cases B:j<=(u x).length;rw[show j-(u x).length=0 by omega];simp;rw[show min j (u x).length=(u x).length by omega]
def HI.DA(h:k.HI u)(out:List α)(x:α):(k.DA out x).flatMap u=out.flatMap u++u x:=by
 unfold Kd.DA;by_cases h0:(k.μ x).1=0;rw[Cx h0];have:u x=[]:=Kx (by rw[<-h.size];exact h0);rw[this,Ty];rw[Bp h0];rcases tG out with rfl|⟨o,y,rfl⟩;simp;simp[vq,R0,WJ,vz];cases hm:k.meld y x with
 |none=>simp
 |some z=>simp[h.melds _ _ _ hm]
def HI.melded(h:k.HI u)(l:List α):(k.melded l).flatMap u=l.flatMap u:=by
 have gen:∀(l out:List α),(l.foldl k.DA out).flatMap u=out.flatMap u++l.flatMap u:=by
  intro l;induction l with
  |nil=>intro out;simp
  |cons x l i=>intro out;rw[wP,i,h.DA];simp
 have e:=gen l [];rw[yp,u7] at e;exact e
def HI.Cw(h:k.HI u)(t l:List α){i j:Nat}(I:i<=j):(k.Cw t i j l).flatMap u=(t.flatMap u).take i++l.flatMap u++(t.flatMap u).drop j:=by
 unfold Kd.Cw;obtain⟨J,O⟩:=h.split t i;obtain⟨U,B⟩:=h.split (k.split t i).2 (j-i);rw[O,yG,show i+(j-i)=j by omega] at B;rw[<-J,<-B];simp[u9,h.melded];generalize (k.split t i).1=a;generalize (k.split (k.split t i).2 (j-i)).2=b;have Q:a.dropLast.flatMap u++a.getLast?.toList.flatMap u=a.flatMap u:=by
  rcases tG a with rfl|⟨o,y,rfl⟩;rfl;simp
 have eb:b.head?.toList.flatMap u++b.tail.flatMap u=b.flatMap u:=by
  cases b<;>simp
 rw[<-Q,<-eb];simp[Mp]
end Kd
structure ArS (α:Type) where
 ps:List (Option (Nd α))
 fr:X'
namespace ArS
variable {α:Type}
def f(A:ArS α):Nat->Option (Nd α):=λi=>(A.ps[i]?).join
def Ok(A:ArS α):Prop:=(∀i∈A.fr,A.ps[i]?=some none)/\A.fr.Nodup
def z:ArS α:=⟨[],[]⟩
def uN:Ok (z:ArS α):=⟨by simp[z],by simp[z]⟩
def put(A:ArS α)(i:Nat)(n:Nd α):ArS α:=⟨A.ps.set i (some n),A.fr⟩
def free(A:ArS α)(i:Nat):ArS α:=⟨A.ps.set i none,A.fr++[i]⟩
def num(A:ArS α):Nat:=match A.fr.getLast? with|some i=>i|none=>A.ps.length
def take(A:ArS α)(n:Nd α):ArS α:=match A.fr.getLast? with|some i=>⟨A.ps.set i (some n),A.fr.dropLast⟩|none=>⟨A.ps++[some n],A.fr⟩
def Lw{A:ArS α}{i:Nat}{n:Nd α}(h:A.f i=some n):i<A.ps.length/\A.ps[i]?=some (some n):=by
 unfold f at h;cases hp:A.ps[i]? with
 |none=>rw[hp] at h;cases h
 |some o=>rw[hp] at h;cases o with
  |none=>cases h
  |some m=>cases h;exact⟨(Bq.1 hp).1,rfl⟩
def dH(A:ArS α){i:Nat}(hi:i<A.ps.length)(o:Option (Nd α))(fr:X'):(⟨A.ps.set i o,fr⟩:ArS α).f=Tr.IB A.f i o:=by
 funext j;unfold f Tr.IB;simp only[xy];by_cases h:i=j
 .subst h;rw[Cx rfl,Cx hi,Cx rfl];rfl
 .rw[Bp h,Bp λe=>h e.symm]
def NQ{A:ArS α}{i:Nat}{n m:Nd α}(h:A.f i=some m):(A.put i n).f=Tr.IB A.f i (some n):=dH A (Lw h).1 _ _
def Ta{A:ArS α}{i:Nat}{n m:Nd α}(h:A.f i=some m)(ok:Ok A):Ok (A.put i n):=by
 refine⟨λj I=>?_,ok.2⟩;have h1:=ok.1 j I;have B:=(Lw h).2;have o:i≠j:=λe=>by subst e;rw[h1] at B;cases B
 show(A.ps.set i (some n))[j]?=_;rw[xy,Bp o];exact h1
def XT{A:ArS α}{i:Nat}{m:Nd α}(h:A.f i=some m):(A.free i).f=Tr.IB A.f i none:=dH A (Lw h).1 _ _
def nA{A:ArS α}{i:Nat}{m:Nd α}(h:A.f i=some m)(ok:Ok A):Ok (A.free i):=by
 have B:=Lw h;have I:i∉A.fr:=λe=>by have:=ok.1 i e;rw[this] at B;cases B.2
 refine⟨λj o=>?_,r8.2 ⟨ok.2,by simp,λa ha b hb=>by simp at hb;subst hb;exact λe=>I (e▸ha)⟩⟩;show(A.ps.set i none)[j]?=_;rw[xy];by_cases e:i=j
 .subst e;rw[Cx rfl,Cx B.1]
 .rw[Bp e];rcases DN.1 o with o|o
  .exact ok.1 j o
  .simp at o;exact(e o.symm).elim
def Xf{A:ArS α}(n:Nd α)(ok:Ok A):(A.take n).f=Tr.IB A.f A.num (some n)/\A.f A.num=none/\Ok (A.take n):=by
 unfold take num;rcases tG A.fr with I|⟨l,i,hc⟩
 .rw[I];simp only[aAp];refine⟨?_,by simp[f],⟨by simp,by simp⟩⟩;funext j;unfold f Tr.IB;simp only[yF];by_cases h:j<A.ps.length
  .rw[Cx h,Bp (by omega)]
  .rw[Bp h];by_cases e:j=A.ps.length
   .subst e;simp
   .rw[Bp e,i6 (by simp;omega),i6 (by omega)]
 .rw[vq] at hc;rw[hc];simp only[R0,WJ,vz,wK];have h1:=ok.1 i (by rw[hc];simp);have hi:=(Bq.1 h1).1;have o:=ok.2;rw[hc,r8] at o;refine⟨dH A hi _ _,by unfold f;rw[h1];rfl,⟨λj B=>?_,o.1⟩⟩;show(A.ps.set i (some n))[j]?=_;rw[xy,Bp λe=>o.2.2 j B i (by simp) e.symm];exact ok.1 j (by rw[hc];simp[B])
end ArS
def NC(w:e_)(b:Nat)(l:List (Int×d_)):Prop:=∃j i,w.heap[b]?=some (.map j i)/\j.toList.map (λe=>(e.key,e.val))=l.map λp=>(zI p.1,p.2)
def NC.lt{b:Nat}{l:List (Int×d_)}(h:NC w b l):b<w.heap.size:=by
 obtain⟨i,c,hb,_⟩:=h;exact(wo.1 hb).1
def NC.U'{b:Nat}{l:List (Int×d_)}(h:NC w b l)(hm:AK M w w')(hb:¬M b):NC w' b l:=by
 have hl:=h.lt;obtain⟨i,c,h1,j⟩:=h;exact⟨i,c,(hm.Ap b hl hb).trans h1,j⟩
def NC.make(w:e_):NC (w.alloc (.map #[] 0)) w.heap.size []:=⟨#[],0,(MapKept.heap_alloc w _).1,rfl⟩
def OX(k:Int):∀(B:List MapEntry) (l:List (Int×d_)) (i:Nat),(B.map λe=>(e.key,e.val))=(l.map λp=>(zI p.1,p.2))->∃r,Instr.findNow (.int .i64) (zI k) B i=some r/\((r=none/\l.find? (λp=>decide (p.1=k))=none)\/∃j p,r=some (j,p.2)/\l.find? (λp=>decide (p.1=k))=some p):=by
 intro B;induction B with
 |nil=>
  intro l i h;cases l with
  |nil=>exact⟨none,rfl,.inl ⟨rfl,rfl⟩⟩
  |cons p l=>simp at h
 |cons e B I=>
  intro l i h;cases l with
  |nil=>simp at h
  |cons p l=>
   simp[S4,wZ,Prod.mk.injEq] at h;obtain⟨⟨h1,J⟩,O⟩:=h;obtain⟨r,hr,o⟩:=MapKept.sameNow_of_keys (d:=.int .i64) (a:=zI k) (b:=e.key) rfl (by rw[h1];rfl);rw[h1] at o;cases r with
   |true=>
    have hk:k=p.1:=by have:=o.1 rfl;simpa using this
    exact⟨some (i,e.val),by simp[Instr.findNow,hr],.inr ⟨i,p,by rw[J],by simp[hk]⟩⟩
   |false=>
    have hk:¬p.1=k:=λe=>by have:=o.2 (by rw[e]);cases this
    obtain⟨r,Q,U⟩:=I l (i+1) O;refine⟨r,by simp[Instr.findNow,hr,Q],?_⟩;simpa[aBB,hk] using U
def iq(k:Int):MapKept.IsKey (.int .i64) (zI k):=rfl
def Ps{t kt et:TypeId}{z:d_}{b:Nat}{l:List (Int×d_)}(ht:P.underlying t=some (.map kt et))(hk:P.underlying kt=some (.int .i64))(I:(zeroValue et).run P w=.ok z w)(h:NC w b l)(k:Int) : (Instr.lookup t (.map (some b)) (zI k) true).run P w=.ok (.tuple #[((l.find? λp=>decide (p.1=k)).map (·.2)).getD z,.bool (l.find? λp=>decide (p.1=k)).isSome]) w:=by
 obtain⟨J,o,hb,he⟩:=h;obtain⟨r,h1,i⟩:=OX k J.toList l 0 he;have B:=xz (w:=w) hk h1;have hc:=λem=>ya (w:=w) hk (iq k) em 9999;rcases i with⟨rfl,i⟩|⟨j,p,rfl,i⟩;simp[Instr.lookup,run_underlying ht,xO hb,hc,B,I,Result.andThen,i];simp[Instr.lookup,run_underlying ht,xO hb,hc,B,Result.andThen,i]
def XA{t kt et:TypeId}{b:Nat}{l:List (Int×d_)}(ht:P.underlying t=some (.map kt et))(hk:P.underlying kt=some (.int .i64))(h:NC w b l)(k:Int)(v:d_)(B:l.find? (λp=>decide (p.1=k))=none) : ∃w',(Instr.mapUpdate t (.map (some b)) (zI k) v).run P w=.ok () w'/\NC w' b (l++[(k,v)])/\AK (λx=>x=b) w w':=by
 obtain⟨I,i,hb,he⟩:=h;obtain⟨r,h1,o⟩:=OX k I.toList l 0 he;have hc:=λem=>ya (w:=w) hk (iq k) em 9999;rcases o with⟨rfl,o⟩|⟨j,p,rfl,o⟩;refine⟨{ w with heap:=w.heap.setIfInBounds b (.map (I.push ⟨zI k,v,i⟩) (i+1)) },by simp[Instr.mapUpdate,run_underlying ht,xO hb,hc,xz (w:=w) hk h1,yy _ hb,Result.andThen],⟨_,_,(aAH hb).1,?_⟩,⟨rfl,rfl,rfl,D_,λx _ J=>(aAH hb).2 x J⟩⟩;simp[he];rw[o] at B;cases B
def Dp{a:Addr}{K:Bool->Prop}(h:K false):IU (.pointer (some a)) K:=⟨_,rfl,h⟩
def AS{A B:Prop}(h:B):Al (.bool false) A B:=h
def Ai{A B:Prop}(h:A):Al (.bool true) A B:=h
def AJ{a:Addr}{K:d_->Prop}(h:K (.pointer (some a))):Ar (.pointer (some a)) K:=⟨_,rfl,h⟩
def jR:Dg prog 22 58 6 24:=⟨Tryz.t58,.agg #[zI 0,.bool false,.int .u8 0,.bool false,.bool false,zI 0],C_,C_,C_,C_,C_,by rfl,B_⟩
def Uh:Dg prog 44 3 1 8:=⟨Tryz.t3,zI 0,C_,C_,C_,C_,C_,by rfl,B_⟩
open Classical in
def mS{k:DKey}:AF prog 26 [.agg k.cells.toArray] (λv' w'=>v'=.bool (decide (Cq k))/\AI w w') w:=by
 refine H_ func26 ?_ (.y (.x (.cut [3] [(3,21)] .nil .nil)));refine CN λb B _ _ g hc _=>?_;have O:=hc 0 _ rfl;have Y:=hc 2 _ rfl;have I:=hc 5 _ rfl;simp only[AB];have i:∀q:Bool,(q=true↔Cq k)->Value.bool q=.bool (decide (Cq k))/\AI w B:=λq h=>⟨by congr 1;rw[xk,h,S9],g⟩;refine AV (λvs Z=>Z=B/\∃q:Bool,vs=[.bool q]/\(q=false↔1<=k.id/\k.id<=1000/\1<=k.kind/\k.kind<=4)) ?_ ?_;rintro vs _ ⟨rfl,q,rfl,Q⟩ _;rename e_=>B;rw[Bh,JS];cases q with
 |true=>exact Ai (i false ⟨λh=>(nomatch h),λh=>by have:=Q.2 ⟨h.1,h.2.1,h.2.2.1,h.2.2.2.1⟩;cases this⟩)
 |false=>
  obtain⟨h1,j,o,U⟩:=Q.1 rfl;refine AS (AD (hc 1 _ rfl) ?_);cases hb:k.block with
  |true=>
   refine Ai (AD (hc 4 _ rfl) ?_);rw[Aq];cases V:k.J3 with
   |true=>exact AS (i false ⟨λh=>(nomatch h),λh=>by have:=h.2.2.2.2.2.2.2 hb;rw[V] at this;cases this⟩)
   |false=>
    refine Ai (AD I ?_);rw[DR];refine AE (λX=>?_) λX=>i false ⟨λh=>(nomatch h),λh=>by have:=h.2.2.2.2.1;omega⟩;apply AD I;rw[GI];apply i _;rw[S9];exact⟨λJ=>⟨h1,j,o,U,X,J,(λe=>by rw[hb] at e;cases e),λ_=>V⟩,λh=>h.2.2.2.2.2.1⟩
  |false=>
   refine AS (AD I ?_);rw[Aj];apply i _;rw[S9];exact⟨λJ=>⟨h1,j,o,U,E,E,λ_=>J,λe=>by rw[hb] at e;cases e⟩,λh=>h.2.2.2.2.2.2.1 hb⟩
 apply AD O;rw[As];refine AE (λh1=>⟨rfl,true,rfl,⟨λh=>(nomatch h),E⟩⟩) λh1=>?_;apply AD O;rw[BM];refine AE (λj=>⟨rfl,true,rfl,⟨λh=>(nomatch h),E⟩⟩) λj=>?_;apply AD Y;rw[As];refine AE (λo=>⟨rfl,true,rfl,⟨λh=>(nomatch h),E⟩⟩) λo=>?_;apply AD Y;rw[BM];refine⟨rfl,_,rfl,?_⟩;rw[wQ];exact⟨E,E⟩
def Zf{l:Y'}(h:Mh S w v l)(hl:l.length<=1099511627776) : AF prog 25 [v] (λv' w'=>AG w.heap.size 58 6 IC w' v' l/\AI w w') w:=by
 apply H_ func25;exact LH (K:=λv' w'=>AG w.heap.size 58 6 IC w' v' l/\AI w w') jR h E (λ_ _ _=>IC.one) N_ λ_ _ h g=>⟨h,g⟩
def NS(a b:Int):Int:=if a<b then -1 else if b<a then 1 else 0
def cj{a b:Int}:AF prog 29 [zI a,zI b] (λv' w'=>v'=zI (NS a b)/\w'=w) w:=by
 have i:∀(c:Int) (K:Cont),K (.bool false) w->AF prog 83 [zI c] K w:=by
  intro c K o;apply H_ func83;rw[BH];rw[(D_:(!decide (c=c))=false)];exact o
 apply G_ func29;refine i _ _ (i _ _ ?_);refine AS (AS ?_);rw[As];unfold NS;refine AE (λh=>⟨by rw[Cx h],rfl⟩) λh=>?_;rw[BM];exact AE (λj=>⟨by rw[Bp h,Cx j],rfl⟩) λj=>⟨by rw[Bp h,Bp j],rfl⟩
def Cg(D:f_)(w:e_)(v:d_)(ks:Y'):Prop:=∃b m i l,v=g_ b/\D b/\D m/\w.cell? ⟨b,0,none⟩=some i/\w.cell? ⟨b,1,none⟩=some (.map (some m))/\BC D 6 IC w i ks/\NC w m l/\ ∀id:Int,(l.find? λp=>decide (p.1=id)).map (·.2)=(Bg ks id).map λk=>.agg k.cells.toArray
def Cg.U'{D M:f_}(h:Cg D w v ks)(hm:AK M w w')(i:∀b,b<w.heap.size->D b->¬M b):Cg D w' v ks:=by
 obtain⟨b,m,I,l,rfl,h1,j,o,J,O,B,Q⟩:=h;have hb:=q8 w _ o;exact⟨b,m,I,l,rfl,h1,j,hm.cell o (i _ hb h1),hm.cell J (i _ hb h1),O.U' hm i B_ C0,B.U' hm (i _ B.lt j),Q⟩
def Cg.U_{D:f_}(h:Cg D w v ks)(hm:AI w w'):Cg D w' v ks:=h.U' hm F_
def Cg.sub{D D':f_}(h:Cg D w v ks)(i:∀b,b<w.heap.size->D b->D' b):Cg D' w v ks:=by
 obtain⟨b,m,B,l,rfl,h1,I,j,J,O,o,Q⟩:=h;exact⟨b,m,B,l,rfl,i _ (q8 w _ j) h1,i _ o.lt I,j,J,O.sub i B_ C0,o,Q⟩
def VU(w:e_):(zeroValue 58).run prog w=.ok (.agg DKey.zero.cells.toArray) w:=Fj C_ w
def Ks{D:f_}(h:Cg D w v ks)(id:Int) : AF prog 91 [v,zI id] (λv' w'=>v'=.tuple #[.agg ((Bg ks id).getD DKey.zero).cells.toArray,.bool (Bg ks id).isSome]/\AI w w') w:=by
 apply G_ func91;obtain⟨b,m,kv,l,rfl,_,_,h3,Q,h5,U,J⟩:=h;refine EJ λb4 w1 V X i _ o=>?_;refine Dp (AS (AJ ?_));rw[AB];refine AD (i.cell (by rw[AH];exact Q) E_) ?_;apply AZ (Ps underlying73 underlying3 (VU _) (U.U' i E_) id);have Y:((l.find? λp=>decide (p.1=id)).map (·.2)).getD (.agg DKey.zero.cells.toArray)=.agg ((Bg ks id).getD DKey.zero).cells.toArray:=by
  rw[J];cases Bg ks id<;>rfl
 have Z:(l.find? λp=>decide (p.1=id)).isSome=(Bg ks id).isSome:=by
  have:=tZ Option.isSome (J id);simpa using this
 rw[Y,Z];refine Bv ?_;generalize (Bg ks id).getD DKey.zero=k;refine BJ (vs:=k.cells) rfl rfl (IC.one (w:=w) (x:=k) rfl) λb6 w3 a1 a6 O B _=>?_;apply Ab (vs:=k.cells) rfl B;refine CJ rfl (IC.one (w:=w) (x:=k) rfl) (λj hj=>(o j hj).U' O E_) λw4 m4 I _=>?_;refine Ab (vs:=k.cells) rfl I ⟨rfl,?_⟩;exact(i.trans O).next m4 E
abbrev Q3:e_->V_->Int->Prop:=λ_ r x=>r=[zI x]
def Q3.one{r:V_}{x:Int}(h:Q3 w r x):∀u∈r,u.oneCell'=true:=by
 subst h;intro u hu;simp at hu;subst hu;rfl
structure Ent (α:Type) where
 set:α
 held:Nat
structure Tab (α:Type) where
 AQ:List (Ent α)
 free:X'
 empty:Nat
def Tab.z(α:Type):Tab α:=⟨[],[],0⟩
structure Tab.Inv {α:Type} (G:α->Prop) (t:Tab α):Prop where
 WZ:t.free.Nodup
 jy:∀i:Nat,i∈t.free↔∃p,t.AQ[i]?=some p/\p.held=0
 KV:∀(i j:Nat) (p q:Ent α),t.AQ[i]?=some p->t.AQ[j]?=some q->0<p.held->0<q.held->p.set=q.set->i=j
 ok:∀(i:Nat) (p:Ent α),t.AQ[i]?=some p->0<p.held->G p.set
def Tab.Kt{α:Type}(t:Tab α)(i:Nat)(p:Ent α):Tab α:={ t with AQ:=t.AQ.set i p }
def Tab.put{α:Type}(t:Tab α)(s:α):Nat×Tab α:=match t.free.getLast? with
 |some i=>(i,{ t with AQ:=t.AQ.set i ⟨s,1⟩,free:=t.free.dropLast })
 |none=>(t.AQ.length,{ t with AQ:=t.AQ++[⟨s,1⟩] })
def Tab.drop{α:Type}(t:Tab α)(z:α)(i:Nat):Tab α:={ t with AQ:=t.AQ.set i ⟨z,0⟩,free:=t.free++[i] }
def Tab.Inv.z(G:α->Prop):(Tab.z α).Inv G:=⟨yr,λi=>by simp[Tab.z],λi j p q h=>by simp[Tab.z] at h,λi p h=>by simp[Tab.z] at h⟩
def Tab.Inv.Kt{G:α->Prop}{t:Tab α}(h:t.Inv G){i:Nat}{p:Ent α}(hp:t.AQ[i]?=some p)(h0:0<p.held){n:Nat}(hn:0<n):(t.Kt i ⟨p.set,n⟩).Inv G:=by
 have hi:=(Bq.1 hp).1;have key:∀(j:Nat) (q:Ent α),(t.AQ.set i ⟨p.set,n⟩)[j]?=some q->∃J:Ent α,t.AQ[j]?=some J/\J.set=q.set/\(0<q.held↔0<J.held):=by
  intro j q I;rw[xy,Cx hi] at I;split at I;rename_i e;subst e;cases I;exact⟨p,hp,rfl,by simp only;omega⟩;exact⟨q,I,rfl,yY⟩
 refine⟨h.WZ,λj=>?_,λj k O X h1 Q Y Z h5=>?_,λj O h1 Q=>?_⟩;show j∈t.free↔∃q:Ent α,(t.AQ.set i ⟨p.set,n⟩)[j]?=some q/\q.held=0;rw[h.jy,xy,Cx hi];split;rename_i e;subst e;constructor;rintro⟨q,o,B⟩;rw[hp] at o;cases o;omega;rintro⟨q,o,B⟩;cases o;simp only at B;omega;exact yY;obtain⟨U,o,B,V⟩:=key j O h1;obtain⟨q2,f1,f2,f3⟩:=key k X Q;exact h.KV j k U q2 o f1 (V.1 Y) (f3.1 Z) (by rw[B,f2,h5]);obtain⟨U,o,B,V⟩:=key j O h1;rw[<-B];exact h.ok j U o (V.1 Q)
def TR{l:X'}(h:l.Nodup){i:Nat}(hi:l.getLast?=some i)(j:Nat):j∈l.dropLast↔j∈l/\j≠i:=by
 have e:l=l.dropLast++[i]:=by
  cases l with
  |nil=>simp at hi
  |cons a l=>
   rw[xJ D_] at hi;conv=>lhs;rw[<-aAR (l:=a::l) D_]
   rw[r9 hi]
 have o:=e▸h;have hm:j∈l↔j∈l.dropLast++[i]:=by rw[<-e]
 rw[r8] at o;rw[hm,DN,so];constructor;intro B;exact⟨.inl B,λe=>o.2.2 j B i (so.2 rfl) e⟩;rintro⟨h1|h1,I⟩;exact h1;exact absurd h1 I
def Tab.Ht{G:α->Prop}{t:Tab α}(h:t.Inv G){s:α}(hg:G s)(hs:∀(i:Nat) (p:Ent α),t.AQ[i]?=some p->0<p.held->p.set≠s) : (t.put s).2.Inv G/\(t.put s).2.AQ[(t.put s).1]?=some ⟨s,1⟩/\(∀p:Ent α,t.AQ[(t.put s).1]?=some p->p.held=0)/\(∀j:Nat,j≠(t.put s).1->(t.put s).2.AQ[j]?=t.AQ[j]?)/\(t.put s).2.empty=t.empty:=by
 unfold Tab.put;cases hl:t.free.getLast? with
 |some i=>
  obtain⟨p,hp,a1⟩:=(h.jy i).1 (xI hl);have o:(t.AQ.set i ⟨s,1⟩)[i]?=some ⟨s,1⟩:=by rw[sT ((Bq.1 hp).1)]
  have B:∀j:Nat,j≠i->(t.AQ.set i ⟨s,1⟩)[j]?=t.AQ[j]?:=λj hj=>vu (yH hj);refine⟨⟨h.WZ.sublist (aAD _),λj=>?_,λj k Q X h1 I Y Z U=>?_,λj Q h1 I=>?_⟩,o,λq V=>?_,B,rfl⟩;show j∈t.free.dropLast↔∃q:Ent α,(t.AQ.set i ⟨s,1⟩)[j]?=some q/\q.held=0;rw[TR h.WZ hl,h.jy];by_cases e:j=i;subst e;rw[o];constructor;rintro⟨_,I⟩;exact absurd rfl I;rintro⟨q,J,O⟩;cases J;cases O;rw[B j e];exact⟨λh=>h.1,λh=>⟨h,e⟩⟩;simp only at h1 I;by_cases J:j=i<;>by_cases O:k=i;rw[J,O];subst J;rw[o] at h1;cases h1;rw[B k O] at I;exact absurd U.symm (hs k X I Z);subst O;rw[o] at I;cases I;rw[B j J] at h1;exact absurd U (hs j Q h1 Y);rw[B j J] at h1;rw[B k O] at I;exact h.KV j k Q X h1 I Y Z U;simp only at h1;by_cases J:j=i;subst J;rw[o] at h1;cases h1;exact hg;rw[B j J] at h1;exact h.ok j Q h1 I;simp only at V;rw[hp] at V;cases V;exact a1
 |none=>
  have o:(t.AQ++[(⟨s,1⟩:Ent α)])[t.AQ.length]?=some ⟨s,1⟩:=by simp
  have B:∀j:Nat,j≠t.AQ.length->(t.AQ++[(⟨s,1⟩:Ent α)])[j]?=t.AQ[j]?:=by
   intro j hj;by_cases a6:j<t.AQ.length;rw[PF a6];rw[i6 (by simp;omega),i6 (by omega)]
  refine⟨⟨h.WZ,λj=>?_,λj k Q X h1 I Y Z U=>?_,λj Q h1 I=>?_⟩,o,λq V=>?_,B,rfl⟩;show j∈t.free↔∃q:Ent α,(t.AQ++[(⟨s,1⟩:Ent α)])[j]?=some q/\q.held=0;by_cases e:j=t.AQ.length;subst e;rw[o,xK.1 hl];constructor;intro h;simp at h;rintro⟨q,J,O⟩;cases J;cases O;rw[B j e,h.jy];simp only at h1 I;by_cases J:j=t.AQ.length<;>by_cases O:k=t.AQ.length;rw[J,O];subst J;rw[o] at h1;cases h1;rw[B k O] at I;exact absurd U.symm (hs k X I Z);subst O;rw[o] at I;cases I;rw[B j J] at h1;exact absurd U (hs j Q h1 Y);rw[B j J] at h1;rw[B k O] at I;exact h.KV j k Q X h1 I Y Z U;simp only at h1;by_cases J:j=t.AQ.length;subst J;rw[o] at h1;cases h1;exact hg;rw[B j J] at h1;exact h.ok j Q h1 I;simp only at V;rw[i6 (HK _)] at V;cases V
def Tab.dw{G:α->Prop}{t:Tab α}(h:t.Inv G){i:Nat}{p:Ent α}(hp:t.AQ[i]?=some p)(h0:0<p.held)(z:α):(t.drop z i).Inv G:=by
 have O:i∉t.free:=λhm=>by obtain⟨q,I,Q⟩:=(h.jy i).1 hm;rw[hp] at I;cases I;omega
 have o:(t.AQ.set i ⟨z,0⟩)[i]?=some ⟨z,0⟩:=by rw[sT ((Bq.1 hp).1)]
 have B:∀j:Nat,j≠i->(t.AQ.set i ⟨z,0⟩)[j]?=t.AQ[j]?:=λj Y=>vu (yH Y);refine⟨?_,λj=>?_,λj k U Z h1 J V X h5=>?_,λj U h1 J=>?_⟩;show(t.free++[i]).Nodup;rw[r8];exact⟨h.WZ,D_,λa ha b hb=>by rw[so] at hb;subst hb;intro e;exact O (e▸ha)⟩;show j∈t.free++[i]↔∃q:Ent α,(t.AQ.set i ⟨z,0⟩)[j]?=some q/\q.held=0;rw[DN,so];by_cases e:j=i;subst e;rw[o];exact⟨λ_=>⟨_,rfl,rfl⟩,λ_=>.inr rfl⟩;rw[B j e,h.jy];exact⟨λh=>h.resolve_right e,λh=>.inl h⟩;simp[Tab.drop] at h1 J;by_cases I:j=i;subst I;rw[o] at h1;cases h1;exact absurd V (aAK _);by_cases Q:k=i;subst Q;rw[o] at J;cases J;exact absurd X (aAK _);rw[B j I] at h1;rw[B k Q] at J;exact h.KV j k U Z h1 J V X h5;simp[Tab.drop] at h1;by_cases I:j=i;subst I;rw[o] at h1;cases h1;exact absurd J (aAK _);rw[B j I] at h1;exact h.ok j U h1 J
def Lh:∀{l m:X'},l.Nodup->l ⊆ m->l.length<=m.length:=by
 intro l;induction l with
 |nil=>intro m _ _;exact Hw _
 |cons a l B=>
  intro m i j;rw[aBA] at i;have ha:=j ub;have I:l ⊆ m.erase a:=λx o=>(List.mem_erase_of_ne (λe:x=a=>i.1 (e▸o))).2 (j (aN _ o));have:=B i.2 I;rw[aAs ha] at this;have:=zx ha;simp[Hn];omega
def Tab.ZH{G:α->Prop}{t:Tab α}(h:t.Inv G):t.free.length<=t.AQ.length:=by
 have j:t.free ⊆ List.range t.AQ.length:=λi hi=>by
  obtain⟨p,hp,_⟩:=(h.jy i).1 hi;exact xh.2 (Bq.1 hp).1
 have:=Lh h.WZ j;simpa using this
section
structure lz (g:AvK):Prop where
 jz:∀{v0 v1 K w},uX g v0 v1 K w->AF prog g.fat [v0,v1] K w
 totals:∀{v0 v1 K w},Ya g v0 v1 K w->AF prog g.ftotals [v0,v1] K w
 set:∀{v0 v1 v2 K w},ri g v0 v1 v2 K w->AF prog g.fset [v0,v1,v2] K w
 PH:∀{v0 v1 v2 K w},iU g v0 v1 v2 K w->AF prog g.flift [v0,v1,v2] K w
 iF:∀{v0 v1 K w},og g v0 v1 K w->AF prog g.flean [v0,v1] K w
 LI:∀{v0 v1 v2 K w},UQ g v0 v1 v2 K w->AF prog g.fbalance [v0,v1,v2] K w
 join:∀{v0 v1 v2 v3 K w},oE g v0 v1 v2 v3 K w->AF prog g.fjoin [v0,v1,v2,v3] K w
 first:∀{v0 v1 K w},fN g v0 v1 K w->AF prog g.ffirst [v0,v1] K w
 Jr:∀{v0 v1 K w},oi g v0 v1 K w->AF prog g.flast [v0,v1] K w
 concat:∀{v0 v1 v2 K w},Yu g v0 v1 v2 K w->AF prog g.fconcat [v0,v1,v2] K w
 drop:∀{v0 v1 K w},jj g v0 v1 K w->AF prog g.fdrop [v0,v1] K w
 Au:∀{v0 v1 v2 K w},gk g v0 v1 v2 K w->AF prog g.fOver [v0,v1,v2] K w
 overf:∀{v0 v1 v2 v3 K w},dW g v0 v1 v2 v3 K w->AF prog g.fOverf [v0,v1,v2,v3] K w
 size:∀{v0 K w},nz g v0 K w->AF prog g.fSize [v0] K w
 take:∀{v0 v1 K w},dV g v0 v1 K w->AF prog g.aTake [v0,v1] K w
 QD:∀{v0 v1 K w},Y4 g v0 v1 K w->AF prog g.aasked [v0,v1] K w
 free:∀{v0 v1 K w},eW g v0 v1 K w->AF prog g.aFree [v0,v1] K w
 aat:∀{v0 v1 K w},tH g v0 v1 K w->AF prog g.aAt [v0,v1] K w
 put:∀{v0 v1 v2 K w},oU g v0 v1 v2 K w->AF prog g.aPut [v0,v1,v2] K w
 new:∀{v0 K w},oD g v0 K w->AF prog g.fNew [v0] K w
 anew:∀{K w},pB g K w->AF prog g.aNew [] K w
 okOverf:En g.fOverf=true
def AvK.enc(g:AvK)(r:V_):d_:=bif g.one then r.headD undef else .agg r.toArray
structure AvT (α:Type) extends AvK where
 k:Kd α
 R:(f_)->e_->V_->α->Prop
 pb:Nat
 eb:Nat
 pb_le:pb<=512
 eb_le:eb<=512
 Epos:0<E
 E1:one=true->E=1
 rlen:∀{C w r x},R C w r x->r.length=E
 rone:∀{C w r x},R C w r x->∀u∈r,u.oneCell'=true
 rcell:∀{C w r x},R C w r x->(toAvK.enc r).cells=r.toArray
 rheap:∀{C:f_} {w w' r x},R C w r x->(∀y,y<w.heap.size->C y->w'.heap[y]?=w.heap[y]?)->R C w' r x
 rsub:∀{C C':f_} {w r x},R C w r x->(∀y,y<w.heap.size->C y->C' y)->R C' w r x
 zlen:zE.length=E
 zone:∀u∈zE,u.oneCell'=true
 elP:Dg prog tps tp (E+6) pb
 elE:Dg prog ts te E eb
 field0:∀(r t:V_) (w:e_),r.length=E->(∀u∈r,u.oneCell'=true)->t.length=5->(Instr.field tn (.agg (r++t).toArray) 0).run prog w=.ok (toAvK.enc r) w
 ok:lz toAvK
 cutμ:∀x p,0<p->p<(k.μ x).1->(k.μ (k.cut x p).1).1=p/\(k.μ (k.cut x p).2).1=(k.μ x).1-p/\(k.μ (k.cut x p).1).2+(k.μ (k.cut x p).2).2=(k.μ x).2
 meldμ:∀x y z,k.meld x y=some z->(k.μ z).1=(k.μ x).1+(k.μ y).1/\(k.μ z).2=(k.μ x).2+(k.μ y).2
 meas:∀{C w r x},R C w r x->Be prog En vm [toAvK.enc r] (λv w'=>v=.tuple #[zI (k.μ x).1,zI (k.μ x).2]/\AI w w') w
def AvT.Bw(g:AvT α){r:V_}{x:α}(h:g.R C w r x)(hm:AK M w w')(j:∀y,y<w.heap.size->C y->¬M y):g.R C w' r x:=g.rheap h λy i hC=>hm.Ap y i (j y i hC)
def Bs{α:Type}(n:Nd α):V_:=[zI n.l,zI n.r,zI n.h,zI n.s,zI n.m]
variable {α:Type}{g:AvT α}
def UA(g:AvT α)(C:f_):e_->V_->Option (Nd α)->Prop:=λw r o=>match o with
 |some n=>∃x,r=x++(Bs n++[.bool true])/\g.R C w x n.x
 |none=>∃q,r=q++[.bool false]/\q.length=g.E+5/\∀u∈q,u.oneCell'=true
def JO(n:Nd α):∀u∈Bs n,u.oneCell'=true:=by
 intro u hu;simp[Bs,I3,wA,xx] at hu;rcases hu with rfl|rfl|rfl|rfl|rfl<;>rfl
def UA.one{r:V_}{o:Option (Nd α)}(h:UA g C w r o):∀u∈r,u.oneCell'=true:=by
 cases o with
 |none=>
  obtain⟨q,rfl,_,i⟩:=h;intro u hu;rcases DN.1 hu with hu|hu;exact i u hu;simp at hu;subst hu;rfl
 |some n=>
  obtain⟨x,rfl,j⟩:=h;intro u hu;rcases DN.1 hu with hu|hu;exact g.rone j u hu;rcases DN.1 hu with hu|hu;exact JO n u hu;simp at hu;subst hu;rfl
def UA.U'{r:V_}{o:Option (Nd α)}(h:UA g C w r o)(hm:AK M w w')(hC:∀b,b<w.heap.size->C b->¬M b):UA g C w' r o:=by
 cases o with
 |none=>exact h
 |some n=>obtain⟨x,rfl,i⟩:=h;exact⟨x,rfl,g.Bw i hm hC⟩
def UA.sub{C C':f_}{r:V_}{o:Option (Nd α)}(h:UA g C w r o)(hC:∀b,b<w.heap.size->C b->C' b):UA g C' w r o:=by
 cases o with
 |none=>exact h
 |some n=>obtain⟨x,rfl,i⟩:=h;exact⟨x,rfl,g.rsub i hC⟩
structure Ll (g:AvT α) (F C:f_) (W:e_) (c:Nat) (A:ArS α) (pl fr:d_):Prop where
 cells:∀j v,[pl,fr][j]?=some v->W.cell? ⟨c,j,none⟩=some v
 Cb:∀j,j<2->Cv W ⟨c,j,none⟩
 IE:AG 0 g.tp (g.E+6) (UA g C) W pl A.ps
 Ns:AG 0 3 1 Q3 W fr (A.fr.map λi:Nat=>(i:Int))
 ok:A.Ok
 fc:F c
 pF:∀x,pl.ownBlock=some x->F x/\x≠c
 fF:∀x,fr.ownBlock=some x->F x/\x≠c/\pl.ownBlock≠some x
 MP:∀x,F x->¬C x
 lt:∀x,F x\/C x->x<W.heap.size
def Ll.U'{A:ArS α}{pl fr:d_}(h:Ll g F C W c A pl fr)(hm:AK M W W')(o:∀x,F x\/C x->¬M x):Ll g F C W' c A pl fr:=⟨λj v B=>hm.cell (h.cells j v B) (o c (.inl h.fc)),λj I=>(h.Cb j I).U' hm (o c (.inl h.fc)),AG.U' h.IE hm (λx i=>o x (.inl (h.pF x i).1)) λr x _ i=>i.U' hm λy _ J=>o y (.inr J),AG.U' h.Ns hm (λx i=>o x (.inl (h.fF x i).1)) F_,h.ok,h.fc,h.pF,h.fF,h.MP,λx i=>Nn (h.lt x i) hm.size⟩
def Ll.U_{A:ArS α}{pl fr:d_}(h:Ll g F C W c A pl fr)(hm:AI W W'):Ll g F C W' c A pl fr:=h.U' hm C0
def Ll.sub{F C C':f_}{A:ArS α}{pl fr:d_}(h:Ll g F C W c A pl fr)(hC:∀x,C x->C' x)(o:∀x,F x->¬C' x)(j:∀x,C' x->x<W.heap.size):Ll g F C' W c A pl fr:=⟨h.cells,h.Cb,AG.U' h.IE l_ C0 λr x _ i=>i.sub λy _ B=>hC y B,h.Ns,h.ok,h.fc,h.pF,h.fF,o,λx i=>i.elim (λi=>h.lt x (.inl i)) (j x)⟩
def Ll.MI{c x:Nat}{A:ArS α}{pl fr:d_}{ps:List (Option (Nd α))}(h:Ll g F C W c A pl fr)(B:pl.ownBlock=some x)(hm:AK (λy=>y=x) W W')(hp:AG 0 g.tp (g.E+6) (UA g C) W' pl ps)(i:ArS.Ok ⟨ps,A.fr⟩):Ll g F C W' c ⟨ps,A.fr⟩ pl fr:=by
 obtain⟨Q,I⟩:=h.pF x B;exact⟨λj v J=>hm.cell (h.cells j v J) λe=>I e.symm,λj O=>(h.Cb j O).U' hm λe=>I e.symm,hp,AG.U' h.Ns hm (λy o e=>(h.fF y o).2.2 (by rw[B,e])) F_,i,h.fc,h.pF,h.fF,h.MP,λy o=>Nn (h.lt y o) hm.size⟩
def Qs{c i:Nat}{A:ArS α}{pl fr:d_}{n:Nd α}(h:Ll g F C W c A pl fr)(hi:A.f i=some n) : AF prog g.aasked [g_ c,zI i] (λv' w'=>v'=zI 0/\w'=W) W:=by
 apply g.ok.QD;unfold Y4;obtain⟨o,hp⟩:=ArS.Lw hi;obtain⟨Q,U,j,_⟩:=h.IE.sl.AO;have B:=h.IE.sl;rw[j] at B;obtain⟨q,r,rfl,_,hr,hc,I⟩:=B.get o;rw[(Bq.1 hp).2] at I;obtain⟨x,rfl,O⟩:=I;refine Dp (AS ?_);rw[As];refine AE E λ_=>?_;apply AJ;rw[AB,AH];apply AD (h.cells 0 _ rfl);rw[j,AP,DR];refine AE E λ_=>?_;apply AJ;rw[AB,AH];apply AD (h.cells 0 _ rfl);rw[j];apply AW o;rw[AB,Addr.add_add];refine AD (v:=.bool true) (hc (g.E+5) _ ?_) ?_;have J:=g.rlen O;rw[qz E,J,(E:g.E+5-g.E=5)];rfl;rw[Aq];exact AS ⟨rfl,rfl⟩
def Yd{c i:Nat}{A:ArS α}{pl fr:d_}{n:Nd α}(h:Ll g F C W c A pl fr)(hi:A.f i=some n) : AF prog g.aAt [g_ c,zI i] (λv' w'=>∃r,v'=.tuple #[.agg (r++Bs n).toArray,zI 0]/\g.R C w' r n.x/\AI W w'/\∃p m k,pl=.slice (some p) m k/\∀u,r[0]?=some u->W.cell? (p.add (i*(g.E+6)))=some u) W:=by
 apply g.ok.aat;unfold tH;have Y:g.toAvK.zN.length=g.E+5:=by rw[AvK.zN,Ad,g.zlen];rfl
 refine EJ λb4 w1 a7 a8 X _ Z=>?_;have h1:=h.U_ X;apply AA (Qs h1 hi);rintro _ _ ⟨rfl,rfl⟩;rename e_=>w1;refine KU ?_;obtain⟨B,hp⟩:=ArS.Lw hi;obtain⟨pa,pc,I,_⟩:=h.IE.sl.AO;have J:=h.IE.sl;rw[I] at J;obtain⟨q,r,rfl,_,hr,O,Q⟩:=J.get B;rw[(Bq.1 hp).2] at Q;obtain⟨x,rfl,a1⟩:=Q;have hx:=g.Bw a1 X F_;have hc:=λj u hu=>X.cell (O j u hu) E_;have U:=g.rlen hx;apply AJ;rw[AB,AH];apply AD (h1.cells 0 _ rfl);rw[I];apply AW B;rw[AB,Addr.add_add];have V:∀u∈x++Bs n,u.oneCell'=true:=λu hu=>by
  rcases DN.1 hu with hu|hu;exact g.rone hx u hu;exact JO n u hu
 have o:(x++Bs n).length=g.E+5:=by rw[Ad,U];rfl
 refine Ab (vs:=x++Bs n) o (λj u hu=>?_) ?_;rw[Addr.add_add,ua];apply hc j u;rw[<-Mp,PF (Bq.1 hu).1];exact hu;refine CJ o V (λj hj=>Z j (by rw[Y];exact hj)) λw2 m2 a6 _=>?_;apply Ab o a6;refine⟨x,rfl,g.Bw hx m2 λy _ hy e=>by subst e;have:=h.lt y (.inr hy);omega,X.next m2 E,q,_,_,rfl,λu hu=>?_⟩;have:=O 0 u (by rw[PF (by rw[U];exact g.Epos)];exact hu);rwa [ua] at this
def rD{c i:Nat}{A:ArS α}{pl fr:d_}{n:Nd α}(h:Ll g F C W c A pl fr)(hi:A.f i=some n) : AF prog g.aAt [g_ c,zI i] (λv' w'=>∃r,v'=.tuple #[.agg (r++Bs n).toArray,zI 0]/\g.R C w' r n.x/\AI W w') W:=AA (Yd h hi) λ_ _ ⟨r,h1,j,o,_⟩=>⟨r,h1,j,o⟩
def ZC{c i:Nat}{A:ArS α}{pl fr:d_}{n m:Nd α}{r:V_}(h:Ll g F C W c A pl fr)(hi:A.f i=some m)(hr:g.R C W r n.x) : AF prog g.aPut [g_ c,zI i,.agg (r++Bs n).toArray] (λv' w'=>Ll g F C w' c (A.put i n) pl fr/\AK (λx=>pl.ownBlock=some x) W w') W:=by
 apply g.ok.put;unfold oU;have o:(r++Bs n).length=g.E+5:=by rw[Ad,g.rlen hr];rfl
 have Q:∀u∈r++Bs n,u.oneCell'=true:=λu hu=>by
  rcases DN.1 hu with hu|hu;exact g.rone hr u hu;exact JO n u hu
 refine CN λb5 Z a8 aa g5 a1 _=>?_;have h1:=h.U_ g5;apply AA (Qs h1 hi);rintro _ _ ⟨rfl,rfl⟩;rename e_=>Z;refine KU ?_;obtain⟨J,hp⟩:=ArS.Lw hi;have Y:AI Z Z.drew:=AK.drew _ _;have U:=h1.U_ Y;obtain⟨pa,pc,B,_⟩:=U.IE.sl.AO;have I:=U.IE;rw[B] at I;obtain⟨q,_,rfl,hq,_,_,_⟩:=I.sl.get J;have O:pl.ownBlock=some q.block:=by rw[B];exact hq.2
 have hF:=h.pF _ O;apply Ag (λk y=>k=8/\y=q.block);apply AJ;rw[AB,AH];apply AU ⟨U.cells 0 _ rfl,λj hj e=>hF.2 e.2.symm⟩;have nb:∀j,¬((⟨b5,0,none⟩:Addr).add j).block=q.block:=λj e=>by
  rw[Av] at e;have:=h.lt _ (.inl hF.1);simp only at e;omega
 apply DF o (λj v hv=>⟨Y.cell (a1 j v hv) E_,λk _ e=>nb j e.2⟩);rw[B];apply AW J;rw[AB,Addr.add_add];have V:∀y,C y->¬y=q.block:=λy hy e=>h.MP _ hF.1 (e▸hy);refine AG.TX (R':=UA g C) (x':=some n) I J o E Q (λw' r y hm _ hy=>hy.U' hm λz _ hz=>V z hz) (λw' r' hm X ak al=>?_) λw2 ho hm=>?_;have a6:=(Bq.1 hp).2;rw[a6] at X;obtain⟨x',rfl,a7⟩:=X;refine⟨r,?_,g.Bw (g.Bw (g.Bw hr g5 F_) Y F_) hm λz _ hz=>V z hz⟩;rw[<-Mp,KX (by rw[o,Ad,g.rlen a7];rfl),Mp];refine⟨hm.mono λx _ e=>⟨rfl,e⟩,?_⟩;rw[<-B];have hA:=U.MI O hm (by rw[B];exact ho) (ArS.Ta (n:=n) hi U.ok);exact⟨hA,(g5.trans Y).mono E' |>.trans (hm.mono λx _ e=>by rw[e];exact O)⟩
def Ll.uQ{F F' C U:f_}{A:ArS α}{pl fr I:d_}{ps:List (Option (Nd α))}{K:e_->Prop}(h:Ll g F C W c A pl fr)(hm:AK U W W')(J:∀x,U x->pl.ownBlock=some x)(hF:∀x,F x->F' x)(O:∀x,F' x->F x\/W.heap.size<=x/\x<W'.heap.size) (V:AG 0 g.tp (g.E+6) (UA g C) W' I ps)(X:∀x,I.ownBlock=some x->pl.ownBlock=some x\/W.heap.size<=x/\F' x)(Y:ArS.Ok ⟨ps,A.fr⟩) (hK:∀o,Ll g F' C o c ⟨ps,A.fr⟩ I fr->AK (λx=>x=c) W' o->K o):Cu (g_ c) I K W':=by
 have Q:¬U c:=λe=>(h.pF c (J c e)).2 rfl;have a1:=h.lt c (.inl h.fc);have Z:∀x,x<W'.heap.size->C x->¬x=c:=λx _ i e=>h.MP c h.fc (e▸i);refine Fz (vs:=[pl,fr]) (λj v hv=>hm.cell (h.cells j v hv) Q) (λj hj=>(h.Cb j hj).U' hm Q) (q:=0) (B_:0<2) V.one.1 V.one.2 λo B hc hl=>?_;refine hK o ⟨hc,hl,AG.U' V B (λx i e=>?_) (λr x _ i=>i.U' B Z),AG.U' (AG.U' (R':=Q3) h.Ns hm (λx i e=>(h.fF x i).2.2 (J x e)) F_) B (λx i=>(h.fF x i).2.1) F_,Y,hF c h.fc,λx i=>?_,λx i=>⟨hF x (h.fF x i).1,(h.fF x i).2.1,λe=>?_⟩,λx i hC=>?_,λx i=>?_⟩ B;subst e;rcases X x i with e|e;exact(h.pF x e).2 rfl;omega;rcases X x i with e|e;exact⟨hF x (h.pF x e).1,(h.pF x e).2⟩;exact⟨e.2,E⟩;rcases X x e with e|e;exact(h.fF x i).2.2 e;have:=((AG.Az h.Ns) x i).2;omega;rcases O x i with e|e;exact h.MP x e hC;have:=h.lt x (.inr hC);omega;have z1:=hm.size;have z2:=B.size;rcases i with i|i;rcases O x i with e|e;have:=h.lt x (.inl e);omega;omega;have:=h.lt x (.inr i);omega
def Ll.rf{F F' C Mf:f_}{A:ArS α}{pl fr J:d_}{fl:X'}{K:e_->Prop}(h:Ll g F C W c A pl fr)(hm:AK Mf W W')(O:∀x,Mf x->fr.ownBlock=some x)(hF:∀x,F x->F' x)(Q:∀x,F' x->F x\/W.heap.size<=x/\x<W'.heap.size) (V:AG 0 3 1 Q3 W' J (fl.map λi:Nat=>(i:Int)))(hn:∀x,J.ownBlock=some x->fr.ownBlock=some x\/W.heap.size<=x/\F' x)(X:ArS.Ok ⟨A.ps,fl⟩) (hK:∀B,Ll g F' C B c ⟨A.ps,fl⟩ pl J->AK (λx=>x=c) W' B->K B):Cu (.pointer (some ⟨c,1,none⟩)) J K W':=by
 have U:¬Mf c:=λe=>(h.fF c (O c e)).2.1 rfl;have Y:∀x,C x->¬Mf x:=λx o e=>h.MP x (h.fF x (O x e)).1 o;have a1:=h.lt c (.inl h.fc);have Z:∀x,x<W'.heap.size->C x->¬x=c:=λx _ o e=>h.MP c h.fc (e▸o);refine Fz (vs:=[pl,fr]) (λj v hv=>hm.cell (h.cells j v hv) U) (λj hj=>(h.Cb j hj).U' hm U) (q:=1) (B_:1<2) V.one.1 V.one.2 λB I hc hl=>?_;refine hK B ⟨hc,hl,AG.U' (AG.U' (R':=UA g C) h.IE hm (λx o e=>(h.fF x (O x e)).2.2 o) λr x _ o=>o.U' hm λy _ hy=>Y y hy) I (λx o=>(h.pF x o).2) (λr x _ o=>o.U' I Z),AG.U' V I (λx o e=>?_) F_,X,hF c h.fc,λx o=>⟨hF x (h.pF x o).1,(h.pF x o).2⟩,λx o=>?_,λx o hC=>?_,λx o=>?_⟩ I;subst e;rcases hn x o with e|e;exact(h.fF x e).2.1 rfl;omega;rcases hn x o with e|e;exact⟨hF x (h.fF x e).1,(h.fF x e).2⟩;exact⟨e.2,E,λe2=>by have:=((AG.Az h.IE) x e2).2;omega⟩;rcases Q x o with e|e;exact h.MP x e hC;have:=h.lt x (.inr hC);omega;have z1:=hm.size;have z2:=I.size;rcases o with o|o;rcases Q x o with e|e;have:=h.lt x (.inl e);omega;omega;have:=h.lt x (.inr o);omega
def Qv(g:AvT α)(F C:f_)(W w':e_)(c:Nat)(A:ArS α):Prop:=∃F' pl fr,(∀x,F x->F' x)/\(∀x,F' x->F x\/W.heap.size<=x)/\Ll g F' C w' c A pl fr/\AK F W w'
def iz{c i:Nat}{A:ArS α}{pl fr:d_}{n:Nd α}(h:Ll g F C W c A pl fr)(hi:A.f i=some n)(hs:A.ps.length<=109951162777) : AF prog g.aFree [g_ c,zI i] (λv' w'=>Qv g F C W w' c (A.free i)) W:=by
 apply g.ok.free;unfold eW;apply AA (Qs h hi);rintro _ _ ⟨rfl,rfl⟩;rename e_=>W;refine KU ?_;obtain⟨Q,hp⟩:=ArS.Lw hi;obtain⟨pa,pc,B,_⟩:=h.IE.sl.AO;have o:=h.IE;rw[B] at o;obtain⟨q,_,rfl,hq,_,_,_⟩:=o.sl.get Q;have V:pl.ownBlock=some q.block:=by rw[B];exact hq.2
 have hF:=h.pF _ V;apply AJ;rw[AB,AH];apply AD (h.cells 0 _ rfl);refine⟨g.toAvK.zP.toArray,HM,?_⟩;have X:g.toAvK.zP.length=g.E+6:=by rw[AvK.zP,Ad,g.zlen];rfl
 have Y:g.toAvK.zP=(g.zE++[zI 0,zI 0,zI 0,zI 0,zI 0])++[.bool false]:=by rw[AvK.zP];simp
 have Z:∀u∈g.zE++[zI 0,zI 0,zI 0,zI 0,zI 0],u.oneCell'=true:=λu hu=>by
  rcases DN.1 hu with hu|hu;exact g.zone u hu;simp at hu;subst hu;rfl
 have a7:∀u∈g.toAvK.zP,u.oneCell'=true:=λu hu=>by
  rw[Y] at hu;rcases DN.1 hu with hu|hu;exact Z u hu;simp at hu;subst hu;rfl
 rw[B];apply AW Q;have a8:∀y,C y->¬y=q.block:=λy hy e=>h.MP _ hF.1 (e▸hy);have key:=AG.TX (R':=UA g C) (x':=(none:Option (Nd α))) (p:=0) (vs:=g.toAvK.zP) (K:=λw3=>Ar (g_ c) λaa=>BZ 1 aa λb7=>BV b7 (λak w4=>Eb 3 1 1 [(zI 0)] [(0,zI (i:Int))] (λb8 w5=>runK prog (Builtin.append_ #[44,44] 44 [ak,b8].toArray) (λal w6=>Ar (g_ c) λan=>BZ 1 an λav=>Cu av al (λw7=>(λ(v':d_) w'=>Qv g F C W w' c (A.free i)) (zI 0) w7) w6) w5) w4) w3) o Q X E a7 (λw' r y hm _ hy=>hy.U' hm λz _ hz=>a8 z hz) (λw' r' hm b9 ax ba=>?_) λw2 ho hm=>?_;rw[ua] at key;exact key;rw[PZ (by rw[X,ax])];exact⟨_,Y,by rw[Ad,g.zlen];rfl,Z⟩;have bb:i∉A.fr:=λe=>by have:=h.ok.1 i e;rw[this] at hp;cases hp
 have O:=ArS.nA hi h.ok;have bk:A.fr.length<=A.ps.length:=by
  have:A.fr ⊆ List.range A.ps.length:=λx I=>xh.2 (Bq.1 (h.ok.1 x I)).1;have:=Lh h.ok.2 this;simpa using this
 have a1:ArS.Ok ⟨A.ps.set i none,A.fr⟩:=⟨λj hj=>O.1 j (oJ _ hj),h.ok.2⟩;have h2:=h.MI V hm (by rw [B];exact ho) a1;apply AJ;rw [AB,AH];apply AD (h2.cells 1 _ rfl);refine FL Uh h2.Ns (Hw _) (cs:=[zI i]) (x:=(i:Int)) C_ rfl rfl (λ_ _ _=>Q3.one) N_ (by rw [FA];dsimp only;omega) (by rw [FA];simp [maxLen];omega) λbl w7 J a6 ay=>?_;apply AJ;rw [AB,AH];have U:(A.fr.map λi:Nat=>(i:Int))++[(i:Int)]=(A.fr++[i]).map λi:Nat=>(i:Int):=D_;dsimp only at J;rw [U] at J;have z2:=hm.size;refine Ll.rf (F':=λx=>F x\/w2.heap.size<=x/\x < w7.heap.size) h2 a6 M_ J_ M_ J (λx I=>by
  rcases ay x I with e | e;exact .inl e;exact .inr ⟨e,.inr ⟨e,((AG.Az J) x I).2⟩⟩) O λw8 b0 b6=>⟨_,_,_,J_,λx I=>?_,b0,?_⟩
 rcases I with I|I;exact .inl I;exact .inr E;exact((hm.mono λx _ e=>by rw[e];exact hF.1).trans (a6.mono λx _ e=>(h2.fF x e).1)).trans (b6.mono λx _ e=>by rw[e];exact h.fc)
def kS(hC:∀x,C x->x<W.heap.size) : AF prog g.aNew [] (λv' w'=>v'=g_ W.heap.size/\w'.heap.size=W.heap.size+1/\AI W w'/\Ll g (λx=>x=W.heap.size) C w' W.heap.size (ArS.z:ArS α) i_ i_) W:=by
 apply g.ok.anew;unfold pB;refine⟨[i_,i_].toArray,HM,?_⟩;refine CN λb O hb o B hc hl=>?_;subst hb;refine⟨rfl,o,B,⟨λj v I=>by have:=hc j v I;rwa [AH] at this,λj J=>by have:=hl j J;rwa [AH] at this,AG.nil,AG.nil,ArS.uN,rfl,(λ_ h=>nomatch h),(λ_ h=>nomatch h),λx i h=>?_,λx i=>?_⟩⟩;have:=hC x h;omega;rcases i with i|i;omega;have:=hC x i;omega
def jl{A:ArS α}{pl fr:d_}{n:Nd α}{r:V_}(h:Ll g F C W c A pl fr)(hr:g.R C W r n.x)(hs:A.ps.length<=109951162777) : AF prog g.aTake [g_ c,.agg (r++Bs n).toArray] (λv' w'=>v'=zI A.num/\Qv g F C W w' c (A.take n)) W:=by
 apply g.ok.take;unfold dV;have o:(r++Bs n).length=g.E+5:=by rw[Ad,g.rlen hr];rfl
 have av:∀u∈r++Bs n,u.oneCell'=true:=λu hu=>by
  rcases DN.1 hu with hu|hu;exact g.rone hr u hu;exact JO n u hu
 have bb:g.toAvK.zP.length=g.E+6:=by rw[AvK.zP,Ad,g.zlen];rfl
 have Q:Instr.fill (λi=>[(0,g.E+5),(g.E+5,1)][i]?) g.toAvK.zP.toArray [(0,.agg (r++Bs n).toArray),(1,.bool true)]=some (r++(Bs n++[Value.bool true])).toArray:=by
  have bk:g.toAvK.zP=(g.zE++[zI 0,zI 0,zI 0,zI 0,zI 0])++[Value.bool false]:=by rw[AvK.zP];simp
  have bl:(g.zE++[zI 0,zI 0,zI 0,zI 0,zI 0]).length=g.E+5:=by rw[Ad,g.zlen];rfl
  rw[EK (l:=g.toAvK.zP) (vs:=r++Bs n) (off:=0) (len:=g.E+5) rfl rfl o E,bk,KX (by rw[o,bl])];rw[EK (l:=r++Bs n++[Value.bool false]) (off:=g.E+5) (len:=1) (vs:=[Value.bool true]) rfl rfl rfl (by rw[Ad,o];exact HK _)];have:=mO (q:=r++Bs n) (r:=[Value.bool false]) (t:=[]) (vs:=[Value.bool true]) o rfl;rw[Ty,Ty] at this;rw[this,HM,Mp]
 have I:(r++(Bs n++[Value.bool true])).length=g.E+6:=by rw[<-Mp,Ad,o];rfl
 have a8:∀u∈r++(Bs n++[Value.bool true]),u.oneCell'=true:=λu hu=>by
  rw[<-Mp] at hu;rcases DN.1 hu with hu|hu;exact av u hu;simp at hu;subst hu;rfl
 refine CN λb3 w1 ch cu g3 ax _=>?_;have h1:=h.U_ g3;have ay:=g.Bw hr g3 F_;obtain⟨_,cc,J⟩:=ArS.Xf n h.ok;have cx:A.fr.length<=A.ps.length:=by
  have:A.fr ⊆ List.range A.ps.length:=λx O=>xh.2 (Bq.1 (h.ok.1 x O)).1;have:=Lh h.ok.2 this;simpa using this
 refine Dp (AS ?_);apply AJ;rw[AB,AH];apply AD (h1.cells 1 _ rfl);obtain⟨fa,fc,U,aa,_,bp,bs⟩:=h1.Ns.AO;rw[FA] at aa;rw[U,AP,A6,FA,wrap64 E E,DR];have nF:∀j x,F x->¬((⟨b3,0,none⟩:Addr).add j).block=x:=λj x O e=>by
  rw[Av] at e;have:=h.lt x (.inl O);simp only at e;omega
 refine AE (λdj=>?_) λdk=>?_;have b0:0<A.fr.length:=E;have ak:=wN.1 b0;obtain⟨i,hl⟩:∃i,A.fr.getLast?=some i:=⟨_,xJ ak⟩;have V:A.num=i:=by unfold ArS.num;rw[hl]
 have B:A.take n=⟨A.ps.set i (some n),A.fr.dropLast⟩:=by unfold ArS.take;rw[hl]
 cases fa with
 |none=>have:=bs rfl;rw[yk] at this;exact absurd this ak
 |some q=>
  obtain⟨gb,rfl,_,_,dr⟩:=bp q rfl;have b6:=h1.Ns.sl;have a6:=h1.Ns;rw[U,FA] at b6 a6;apply AJ;rw[AB,AH];apply AD (h1.cells 1 _ rfl);rw[U,FA];have hj:A.fr.length-1<(A.fr.map λi:Nat=>(i:Int)).length:=by rw[FA];omega
  obtain⟨_,r',e1,_,al,hc,rfl⟩:=b6.get hj;cases e1;have ev:(A.fr.map λi:Nat=>(i:Int))[A.fr.length-1]=(i:Int):=by
   rw[wz];rw[xJ ak,aA0] at hl;rw[r9 hl]
  rw[ev] at hc;have en:((A.fr.length:Int)-1)=((A.fr.length-1:Nat):Int):=E;rw[en];refine AW (E:A.fr.length-1<A.fr.length) (AD (hc 0 _ rfl) ?_);apply AJ;rw[AB,AH];apply AD (h1.cells 1 _ rfl);rw[U,FA];apply AZ (Ga (e:=3) (k:=1) (i:=Tryz.t3) C_ C_ C_ E w1);apply AJ;rw[AB,AH];have ht:=AG.take a6 (j:=A.fr.length-1) (by rw[FA];omega);have ed:(A.fr.map λi:Nat=>(i:Int)).take (A.fr.length-1)=A.fr.dropLast.map λi:Nat=>(i:Int):=by rw[zG,wR]
  rw[ed] at ht;have c4:ArS.Ok ⟨A.ps,A.fr.dropLast⟩:=⟨λj hj=>h.ok.1 j ((aAD _).mem hj),h.ok.2.sublist (aAD _)⟩;refine Ll.rf (F':=F) (fl:=A.fr.dropLast) (Mf:=λ_=>False) h1 (AK.refl _ _) K_ M_ J_ ht (λx O=>.inl ?_) c4 λw2 c6 an=>?_;rw[U];exact O;have X:=(Bq.1 (h.ok.1 i (xI hl))).1;have Z:AI w2 w2.drew:=AK.drew _ _;have hd:=c6.U_ Z;obtain⟨pa,pc,a1,_⟩:=hd.IE.sl.AO;have Y:=hd.IE;rw[a1] at Y;obtain⟨q,_,rfl,hq,_,_,_⟩:=Y.sl.get X;have a7:pl.ownBlock=some q.block:=by rw[a1];exact hq.2
  have hF:=h.pF _ a7;apply Ag (λk y=>k=8/\y=q.block);apply AJ;rw[AB,AH];apply AU ⟨hd.cells 0 _ rfl,λj hj e=>hF.2 e.2.symm⟩;apply DF o (λj v hv=>⟨Z.cell (an.cell (ax j v hv) λe=>nF j c h.fc e) E_,λk _ e=>nF j _ hF.1 e.2⟩);refine⟨_,Q,?_⟩;rw[a1];apply AW X;have b7:∀y,C y->¬y=q.block:=λy hy e=>h.MP _ hF.1 (e▸hy);have key:=AG.TX (R':=UA g C) (x':=some n) (p:=0) (vs:=r++(Bs n++[Value.bool true])) (K:=λw8=>AK (λy=>8=8/\y=q.block) w2.drew w8/\(zI (i:Int)=zI A.num/\Qv g F C W w8 c (A.take n))) Y X I E a8 (λw' r y hm _ hy=>hy.U' hm λz _ hz=>b7 z hz) (λw' r' hm al c7 dT=>?_) λw3 ho hm=>?_;rw[ua] at key;exact key;rw[PZ (by rw[I,c7])];exact⟨r,rfl,g.Bw (g.Bw (g.Bw ay an λy _ hy e=>h.MP c h.fc (e▸hy)) Z F_) hm λz _ hz=>b7 z hz⟩;rw[V,B];rw[B] at J;have c8:=hd.MI a7 hm (by rw[a1];exact ho) J;refine⟨hm.mono λx _ e=>⟨rfl,e⟩,rfl,F,pl,_,M_,J_,c8,?_⟩;exact(((g3.mono E').trans (an.mono λx _ e=>by rw[e];exact h.fc)).trans (Z.mono E')).trans (hm.mono λx _ e=>by rw[e];exact hF.1)
 have b8:A.fr=[]:=Kx E;have V:A.num=A.ps.length:=by unfold ArS.num;rw[b8];rfl
 have B:A.take n=⟨A.ps++[some n],A.fr⟩:=by unfold ArS.take;rw[b8];rfl
 rw[B] at J;have Z:AI w1 w1.drew:=AK.drew _ _;have hd:=h1.U_ Z;apply Ag (λk y=>(k=8/\pl.ownBlock=some y)\/(k=11/\y=c));have nM:∀k x,F x->x≠c->pl.ownBlock≠some x->¬((k=8/\pl.ownBlock=some x)\/(k=11/\x=c)):=λk x _ h1 h2 e=>by
  rcases e with⟨_,e⟩|⟨_,e⟩;exact h2 e;exact h1 e
 have c9:∀j k,¬((k=8/\pl.ownBlock=some ((⟨b3,0,none⟩:Addr).add j).block)\/(k=11/\((⟨b3,0,none⟩:Addr).add j).block=c)):=λj k e=>by
  rcases e with⟨_,e⟩|⟨_,e⟩;exact nF j _ (h.pF _ e).1 rfl;exact nF j _ h.fc e
 apply AJ;rw [AB,AH];refine AU ⟨hd.cells 0 _ rfl,λj hj e=>?_⟩ ?_;rcases e with ⟨_,e⟩ | ⟨rfl,_⟩;exact (h.pF _ e).2 rfl;exact absurd hj B_;apply DF o (λj v hv=>⟨Z.cell (ax j v hv) E_,λk _ e=>c9 j k e⟩);refine ⟨_,Q,?_⟩;refine Mr g.elP hd.IE (Hw _) (cs:=r++(Bs n++[Value.bool true])) (x:=some n) (Dj (v:=.agg (r++(Bs n++[Value.bool true])).toArray) (vs:=r++(Bs n++[Value.bool true])) bb E rfl I) I ⟨r,rfl,g.Bw ay Z F_⟩ (λ_ _ _=>UA.one) (λe3 e4 r' y e5 hm al=>al.U' hm λx O hC e=>?_) ?_ L_ (λ_ g=>AI.U' g) λw2 ca w3 ho m2 hm hn=>?_;rcases e with e | e;exact h.MP x (h.pF x e).1 hC;have:=hd.lt x (.inr hC);omega;have:(A.ps.length+1) * g.pb<=(A.ps.length+1) * 512:=ym _ g.pb_le;omega;refine ⟨m2.mono λx _ e=>.inl ⟨rfl,e⟩,?_⟩;apply AJ;rw [AB,AH];refine Ll.uQ (F':=λx=>F x\/w1.drew.heap.size<=x/\x < w3.heap.size) hd hm M_ J_ M_ ho (λx O=>by
  rcases hn x O with e | e;exact .inl e;exact .inr ⟨e,.inr ⟨e,((AG.Az ho) x O).2⟩⟩) J λw4 b9 ba=>?_
 refine⟨ba.mono λx _ e=>.inr ⟨rfl,e⟩,?_⟩;apply AJ;rw[AB,AH];apply AD (b9.cells 0 _ rfl);obtain⟨a2,c2,e2,_⟩:=ho.sl.AO;rw[e2,AP,A6,Ad,xD,wrap64 E E];have zd:=Z.size;refine⟨by rw[V];congr 1;omega,λx=>F x\/w1.drew.heap.size<=x/\x<w3.heap.size,ca,fr,J_,λx O=>?_,by rw[B];exact b9,?_⟩;rcases O with O|O;exact .inl O;exact .inr E;exact(((g3.mono E').trans (Z.mono E')).trans (hm.mono λx _ e=>(h.pF x e).1)).trans (ba.mono λx _ e=>by rw[e];exact h.fc)
end
structure Bx (W:e_) (b:Nat) (vs:V_):Prop where
 cells:∀j v,vs[j]?=some v->W.cell? ⟨b,j,none⟩=some v
 Cb:∀j,j<vs.length->Cv W ⟨b,j,none⟩
def Bx.U'{b:Nat}(h:Bx W b vs)(hm:AK M W W')(i:¬M b):Bx W' b vs:=⟨λj v o=>hm.cell (h.cells j v o) i,λj B=>(h.Cb j B).U' hm i⟩
def Bx.U_{b:Nat}(h:Bx W b vs)(hm:AI W W'):Bx W' b vs:=h.U' hm E_
def Bx.GN{b n:Nat}(h:Bx W b vs)(i:vs.length=n)(o:K (.agg vs.toArray) W):DT n (g_ b) K W:=
 Ab i (λj u hu=>by rw[AH];exact h.cells j u hu) o
def Bx.st{b q:Nat}{u:d_}{K:e_->Prop}(h:Bx W b vs)(i:q<vs.length)(h1:u.oneCell'=true)(j:u.cells=#[u])(o:∀W',Bx W' b (vs.set q u)->AK (λx=>x=b) W W'->K W'):Cu (.pointer (some ⟨b,q,none⟩)) u K W:=Fz h.cells h.Cb i h1 j λW' hm hc hl=>o W' ⟨hc,hl⟩ hm
def Bx.Au{b n:Nat}{vs us:V_}{K:e_->Prop}(h:Bx W b vs)(o:us.length=n)(hl:vs.length=n)(h1:∀v∈us,v.oneCell'=true)(B:∀W',Bx W' b us->AK (λx=>x=b) W W'->K W'):Bu n (g_ b) (.agg us.toArray) K W:=
 CJ o h1 (λj I=>by rw[AH];exact h.Cb j E) λW' hm hc i=>B W' ⟨λj v J=>by have:=hc j v J;rwa [AH] at this,λj I=>i _ (h.Cb j E)⟩ hm
def Bx.new{t:TypeId}{n:Nat}{B vs:V_}{K:d_->e_->Prop}(I:vs.length=n)(hl:B.length=n)(h1:∀v∈vs,v.oneCell'=true)(h:∀b i,w.heap.size<=b->AI w i->Bx i b vs->K (g_ b) i) :
  Cl t B (λt5 J=>Bu n t5 (.agg vs.toArray) (λw4=>K t5 w4) J) w:=
 BJ I hl h1 λb i hb _ O hc o=>h b i E O ⟨λj v Q=>by have:=hc j v Q;rwa [AH] at this,λj U=>by have:=o j U;rwa [AH] at this⟩
def Bx.zero{t:TypeId}{B:V_}(h:∀b i,w.heap.size<=b->AI w i->Bx i b B->K (g_ b) i):Cl t B K w:=
 EJ λb i hb _ I hc o=>h b i E I ⟨λj v J=>by have:=hc j v J;rwa [AH] at this,λj O=>by have:=o j O;rwa [AH] at this⟩
def Bx.box{t:TypeId}(h:∀b i,w.heap.size<=b->AI w i->Bx i b vs->K (g_ b) i):IW t (.agg vs.toArray) K w:=
 CN λb i hb _ B hc o=>h b i E B ⟨λj v I=>by have:=hc j v I;rwa [AH] at this,λj J=>by have:=o j J;rwa [AH] at this⟩
def BI{ok:Nat->Bool}{f:d_}{K K':Cont}(h:Be P ok f args K w)(hk:∀v w',K v w'->K' v w'):Be P ok f args K' w:=by
 obtain⟨a,b,c,i,j,h⟩:=h;exact⟨a,b,c,i,j,AA h hk⟩
def Bx.lt{b:Nat}(h:Bx W b vs)(i:0<vs.length):b<W.heap.size:=q8 W _ (h.cells 0 vs[0] (by simp[i]))
section
variable {α:Type}{g:AvT α}
def Am{r:V_}{n:Nd α}{A_:Nat}(hr:r.length=A_)(j:Nat):(r++Bs n)[A_+j]?=(Bs n)[j]?:=by
 rw[qz E,hr,yJ]
def Dh{r:V_}{n:Nd α}{A_:Nat}(hr:r.length=A_)(j:Nat)(u:d_):(r++Bs n).set (A_+j) u=r++(Bs n).set j u:=by
 rw[wV _ _ E,hr,yJ]
def Ba{r:V_}{x:α}(n:Nd α)(hr:g.R C w r x):(r++Bs n).length=g.E+5:=by rw[Ad,g.rlen hr];rfl
def J6{r:V_}{x:α}(n:Nd α)(hr:g.R C w r x):∀u∈r++Bs n,u.oneCell'=true:=λu hu=>by
 rcases DN.1 hu with hu|hu;exact g.rone hr u hu;exact JO n u hu
def Kq:g.toAvK.zN.length=g.E+5:=by rw[AvK.zN,Ad,g.zlen];rfl
abbrev nm(g:AvT α)(c:Nat)(i:Int):V_:=[g.vm,g.vc,g.vd,g_ c,zI i]
structure oH (g:AvT α) (F C:f_) (W:e_) (b c:Nat) (rt:Int) (A:ArS α) (pl fr:d_):Prop where
 box:Bx W b (nm g c rt)
 ar:Ll g (λx=>F x/\x≠b) C W c A pl fr
 fb:F b/\¬C b
abbrev Fb(F:f_)(b:Nat):f_:=λy=>F y/\y≠b
def Ex(g:AvT α)(F C:f_)(W:e_)(b:Nat)(i:Int)(A:ArS α):Prop:=∃c pl fr,oH g F C W b c i A pl fr
def oH.U'{b c:Nat}{i:Int}{A:ArS α}{pl fr:d_}(h:oH g F C W b c i A pl fr)(hm:AK M W W')(j:∀x,F x\/C x->¬M x):oH g F C W' b c i A pl fr:=⟨h.box.U' hm (j b (.inl h.fb.1)),h.ar.U' hm λx o=>j x (o.imp (λh=>h.1) E_),h.fb⟩
def Ex.U'{b:Nat}{i:Int}{A:ArS α}(h:Ex g F C W b i A)(hm:AK M W W')(j:∀x,F x\/C x->¬M x):Ex g F C W' b i A:=by
 obtain⟨c,pl,fr,h⟩:=h;exact⟨c,pl,fr,h.U' hm j⟩
def Ex.U_{b:Nat}{i:Int}{A:ArS α}(h:Ex g F C W b i A)(hm:AI W W'):Ex g F C W' b i A:=h.U' hm C0
def Ex.lt{b:Nat}{i:Int}{A:ArS α}(h:Ex g F C W b i A):∀x,F x\/C x->x<W.heap.size:=by
 obtain⟨c,pl,fr,h⟩:=h;intro x j;by_cases e:x=b;subst e;exact h.box.lt (P9 _);exact h.ar.lt x (j.imp (λh=>⟨h,e⟩) E_)
def Ex.MP{b:Nat}{i:Int}{A:ArS α}(h:Ex g F C W b i A):∀x,F x->¬C x:=by
 obtain⟨c,pl,fr,h⟩:=h;intro x j;by_cases e:x=b;subst e;exact h.fb.2;exact h.ar.MP x ⟨j,e⟩
def Ex.fb{b:Nat}{i:Int}{A:ArS α}(h:Ex g F C W b i A):F b:=by obtain⟨c,pl,fr,h⟩:=h;exact h.fb.1
def Ex.ok{b:Nat}{i:Int}{A:ArS α}(h:Ex g F C W b i A):A.Ok:=by obtain⟨c,pl,fr,h⟩:=h;exact h.ar.ok
def XP{b i:Nat}{A:ArS α}{n:Nd α}(h:Ex g F C W b most A)(hi:A.f i=some n) : AF prog g.fat [g_ b,zI i] (λv' w'=>∃r,v'=.agg (r++Bs n).toArray/\g.R C w' r n.x/\AI W w') W:=by
 apply g.ok.jz;unfold uX;refine Bx.zero λb4 w1 X I Y=>?_;obtain⟨c,pl,fr,J⟩:=h;have j:=J.U' I C0;apply AJ;rw[AB,AH];apply AD (j.box.cells 3 _ rfl);apply AA (rD j.ar hi);rintro _ w2 ⟨r,rfl,hr,O⟩;refine Bv ?_;have hl:=Ba n hr;have Q:=J6 n hr;refine Bx.new hl Kq Q λb5 w3 Z B B5=>?_;apply B5.GN hl;refine((Y.U_ O).U_ B).Au hl (Kq) Q λw4 o U=>?_;apply o.GN hl;exact⟨r,rfl,g.Bw (g.Bw hr B F_) U λy _ hy e=>by have:=J.ar.lt y (.inr hy);omega,((I.trans O).trans B).next U E⟩
def E8{b i:Nat}{J:Int}{A:ArS α}{n:Nd α}{K:d_->e_->Prop}(h:Ex g F C W b J A)(hi:A.f i=some n) (O:∀r bx w',AI W w'->W.heap.size<=bx->Bx w' bx (r++Bs n)->g.R C w' r n.x->K (g_ bx) w') : AF prog g.fat [g_ b,zI i] (λj Q=>Cl g.tn g.toAvK.zN (λo w2=>Bu (g.E+5) o j (λU=>K o U) w2) Q) W:=by
 apply AA (XP h hi);rintro _ w4 ⟨r,rfl,hr,B⟩;refine Bx.new (Ba n hr) Kq (J6 n hr) λV X Y I Z=>?_;exact O r V X (B.trans I) (by have:=B.size;omega) Z (g.Bw hr I F_)
def Ha{f:Nat->Option (Nd α)}{μ:α->Nat×Nat}{t:Tr α}{A:ArS α}(o:A.f=f)(h:Tr.Ac μ f t)(hu:Tr.H7 t):t.ht<=A.ps.length/\t.Er<=A.ps.length:=by
 have i:t.idx ⊆ List.range A.ps.length:=λx B=>by
  obtain⟨n,j⟩:=h.LF μ B;rw[<-o] at j;exact xh.2 (ArS.Lw j).1
 have h1:=Lh hu i;have I:=(Tr.YY t).1;have J:=Tr.pL t;simp[List.length_range] at h1;omega
def FN(g:AvT α)(l:List α):Prop:=Tr.sz g.k.μ l<=1099511627776/\Tr.mk g.k.μ l<=1099511627776
def FN.KM{l m:List α}(h:FN g (l++m)):FN g l/\FN g m:=by
 obtain⟨h1,i⟩:=h;rw[Tr.DI] at h1;rw[Tr.Hf] at i;exact⟨⟨E,E⟩,E,E⟩
def FN.cons{x:α}{m:List α}(h:FN g (x::m)):FN g m/\(g.k.μ x).1+Tr.sz g.k.μ m<=1099511627776/\(g.k.μ x).2+Tr.mk g.k.μ m<=1099511627776:=by
 obtain⟨h1,i⟩:=h;rw[Tr.CF] at h1;rw[Tr.EB] at i;exact⟨⟨E,E⟩,h1,i⟩
def Ci{b:Nat}{J:Int}{A:ArS α}{t:Tr α}(h:Ex g F C W b J A)(ht:Tr.Ac g.k.μ A.f t) : AF prog g.ftotals [g_ b,zI t.root] (λv' w'=>v'=.tuple #[zI t.ht,zI (Tr.sz g.k.μ t.toL),zI (Tr.mk g.k.μ t.toL)]/\AI W w') W:=by
 apply g.ok.totals;unfold Ya;cases t with
 |nil=>
  simp only[Tr.root];rw[Aj];refine AE (λ_=>?_) λe=>(e rfl).elim;exact⟨rfl,AK.refl _ _⟩
 |node l i x r=>
  simp only[Tr.root];rw[Aj];refine AE E λ_=>?_;obtain⟨_,_,hi⟩:=ht;refine E8 h hi λV bx I O Q B hr=>?_;apply DY (λw'=>AI I w') (AK.drew _ _);have hc:∀j v w',AI I w'->(Bs (Tr.FH g.k.μ (.node l i x r) x l.root r.root))[j]?=some v->w'.cell? ⟨bx,g.E+j,none⟩=some v:=λj v w' o U=>o.cell (B.cells (g.E+j) v (by rw[Am (g.rlen hr)];exact U)) E_;rw[AB,AH];apply BR (λw' o=>hc 2 _ w' o rfl);rw[AB,AH];apply BR (λw' o=>hc 3 _ w' o rfl);rw[AB,AH];apply BR (λw' o=>hc 4 _ w' o rfl);intro w' o;exact⟨rfl,O.trans o⟩
def MN{o:Addr->d_->Prop}{b:Nat}{r:V_}{k:d_->Prop}(hl:r.length=g.E)(B:∀j v,r[j]?=some v->o ⟨b,j,none⟩ v)(hk:k (g.toAvK.enc r)):TS g.toAvK o (g_ b) k:=by
 unfold TS AvK.enc at *;cases i:g.one with
 |true=>
  have J:=g.E1 i;rw[i] at hk;simp[xR] at hk ⊢;cases r with
  |nil=>simp at hl;omega
  |cons a r=>exact AU (B 0 a rfl) hk
 |false=>
  rw[i] at hk;simp[xN] at hk ⊢;exact DF hl (λj v I=>by rw[AH];exact B j v I) hk
def pR{a b:Nat}{k:d_->Prop}(h:k (zI (max a b:Nat))):O5 .i64 (zI a) (zI b) k:=by
 rw[HS];have e:(if(b:Int)>(a:Int) then(b:Int) else(a:Int))=((max a b:Nat):Int):=by split<;>omega
 rw[e];exact h
def Cy{a b:Nat}{k:d_->Prop}(hb:a+b<=9223372036854775807)(h:k (zI (a+b:Nat))):DX .i64 (zI a) (zI b) k:=by
 rw[AR,wrap64 E E];have e:((a:Int)+(b:Int))=((a+b:Nat):Int):=E;rw[e];exact h
def IJ{b i:Nat}{A:ArS α}{n m:Nd α}{l r:Tr α}(h:Ex g F C W b most A)(hs:A.ps.length<=109951162777)(hi:A.f i=some m)(hr:g.R C W cs n.x)(el:n.l=l.root)(er:n.r=r.root) (hl:Tr.Ac g.k.μ A.f l)(V:Tr.Ac g.k.μ A.f r)(ul:Tr.H7 l)(ur:Tr.H7 r)(hb:FN g (l.toL++n.x::r.toL)) : AF prog g.fset [g_ b,zI i,.agg (cs++Bs n).toArray] (λ_ w'=>Ex g F C w' b most (A.put i (Tr.FH g.k.μ (.node l i n.x r) n.x l.root r.root))/\AK (Fb F b) W w') W:=by
 apply g.ok.set;unfold ri;have o:=g.rlen hr;have an:=Ba n hr;obtain⟨ay,a1⟩:=hb.KM;obtain⟨av,b0,b6⟩:=a1.cons;have b7:=(Ha rfl hl ul).1;have b8:=(Ha rfl V ur).1;have a6:=hb.1;have a7:=hb.2;rw[Tr.DI,Tr.CF] at a6;rw[Tr.Hf,Tr.EB] at a7;refine Bx.box λb5 w1 a8 g1 B=>?_;have h1:=h.U_ g1;refine Iw (B.cells (g.E+0) _ (by rw[Am o];rfl)) ?_;rw[el];apply AA (Ci h1 hl);rintro _ w3 ⟨rfl,g3⟩;refine OI ?_;rw[AB,AH];have B3:=B.U_ g3;refine AD (B3.cells (g.E+1) _ (by rw[Am o];rfl)) ?_;rw[er];apply AA (Ci (h1.U_ g3) V);rintro _ w5 ⟨rfl,g5⟩;refine OI ?_;have gd:AI w5 w5.drew:=AK.drew _ _;have O:=((g1.trans g3).trans g5).trans gd;obtain⟨c,pl,fr,hT⟩:=h;have B5:=(B3.U_ g5).U_ gd;apply Ag (λ_ _=>False);apply AJ;rw[AB,AH,AB,AH];apply AU ⟨(hT.U' O C0).box.cells 0 _ rfl,C0⟩;rw[AB,AH];refine MN (r:=cs) o (λj v Y=>⟨B5.cells j v (by rw[PF (Bq.1 Y).1];exact Y),C0⟩) ?_;apply BI (g.meas (g.Bw hr O F_));rintro _ w6 ⟨rfl,g6⟩;refine⟨g6.mono E',?_⟩;refine Bv ?_;apply pR;apply Cy (a:=1) E;apply Cy E;apply Cy E;apply Cy E;apply Cy E;rw[AB,AH];refine(B5.U_ g6).st E rfl rfl λw7 B7 m7=>?_;rw[Dh o] at B7;rw[AB,AH];refine B7.st (by rw[Ad,o,q7];exact aAY (B_:3<5) _) rfl rfl λw8 B8 m8=>?_;rw[AB,AH];refine B8.st (by rw[q7,Ad,o,q7];exact aAY (B_:4<5) _) rfl rfl λZ B9 m9=>?_;have eB:((cs++(Bs n).set 2 (zI ((1+max l.ht r.ht:Nat):Int))).set (g.E+3) (zI ((Tr.sz g.k.μ l.toL+Tr.sz g.k.μ r.toL+(g.k.μ n.x).1:Nat):Int))).set (g.E+4) (zI ((Tr.mk g.k.μ l.toL+Tr.mk g.k.μ r.toL+(g.k.μ n.x).2:Nat):Int))=cs++Bs (Tr.FH g.k.μ (.node l i n.x r) n.x l.root r.root):=by
  rw[wV _ _ E,wV _ _ E,o,yJ,yJ];simp only[Bs,Tr.FH,Tr.ht,Tr.toL,aAd,yw,el,er,Tr.DI,Tr.CF,Tr.Hf,Tr.EB];rw[(E:Tr.sz g.k.μ l.toL+Tr.sz g.k.μ r.toL+(g.k.μ n.x).1=Tr.sz g.k.μ l.toL+((g.k.μ n.x).1+Tr.sz g.k.μ r.toL)),(E:Tr.mk g.k.μ l.toL+Tr.mk g.k.μ r.toL+(g.k.μ n.x).2=Tr.mk g.k.μ l.toL+((g.k.μ n.x).2+Tr.mk g.k.μ r.toL))]
 rw[eB] at B9;have X:AI Z Z.drew:=AK.drew _ _;have ax:W.heap.size<=b5:=a8;have Q:AI W Z.drew:=((((O.trans g6).next m7 E).next m8 E).next m9 E).trans X;have I:=hT.U' Q C0;apply Ag (λ_ y=>F y/\y≠b);apply AJ;rw[AB,AH];apply AU ⟨I.box.cells 3 _ rfl,λ_ _ e=>e.2 rfl⟩;have aa:¬F b5:=λe=>by
  have:=Ex.lt (g:=g) ⟨c,pl,fr,hT⟩ b5 (.inl e);omega
 refine DF (Ba (Tr.FH g.k.μ (.node l i n.x r) n.x l.root r.root) hr) (λj v Y=>⟨by rw[AH];exact(B9.U_ X).cells j v Y,λ_ _ e=>by rw[AH] at e;exact aa e.1⟩) ?_;apply AA (ZC I.ar hi (n:=Tr.FH g.k.μ (.node l i n.x r) n.x l.root r.root) (g.Bw hr Q F_));rintro _ ak ⟨hA,al⟩;have J:AK (λy=>F y/\y≠b) Z.drew ak:=al.mono λx _ e=>(I.ar.pF x e).1;refine⟨J,?_⟩;exact⟨⟨c,pl,fr,I.box.U' J λe=>e.2 rfl,hA,I.fb⟩,(Q.mono E').trans J⟩
def RK{b i:Nat}{A:ArS α}{n:Nd α}{l r:Tr α}(h:Ex g F C W b most A)(hs:A.ps.length<=109951162777)(hi:A.f i=some n)(Q:n.l=l.root)(U:n.r=r.root)(hl:Tr.Ac g.k.μ A.f l)(hr:Tr.Ac g.k.μ A.f r)(V:Tr.H7 l)(X:Tr.H7 r) : AF prog g.flean [g_ b,zI i] (λv' w'=>v'=zI ((l.ht:Int)-(r.ht:Int))/\AI W w') W:=by
 apply g.ok.iF;unfold og;have Y:=(Ha rfl hl V).1;have Z:=(Ha rfl hr X).1;refine E8 h hi λrc bx w1 o a1 B I=>?_;have j:=g.rlen I;refine Iw (B.cells (g.E+0) _ (by rw[Am j];rfl)) ?_;rw[Q];apply AA (Ci (h.U_ o) hl);rintro _ w3 ⟨rfl,J⟩;refine OI ?_;refine Iw ((B.U_ J).cells (g.E+1) _ (by rw[Am j];rfl)) ?_;rw[U];apply AA (Ci ((h.U_ o).U_ J) hr);rintro _ w5 ⟨rfl,g5⟩;refine OI ?_;rw[A6,wrap64 E E];exact⟨rfl,(o.trans J).trans g5⟩
end
section
variable {α:Type}{g:AvT α}
structure kB (g:AvT α) (F C:f_) (W w':e_) (b:Nat) (rt:Int) (A:ArS α) (L:List α) (I:X') (t':Tr α) (A':ArS α):Prop where
 FZ:Ex g F C w' b rt A'
 U':AK (Fb F b) W w'
 toL:t'.toL=L
 idx:t'.idx.Perm I
 holds:Tr.Ac g.k.μ A'.f t'
 Ap:∀j,j∉I->A'.f j=A.f j
 len:A'.ps.length=A.ps.length
def Et(A:ArS α)(i:Nat)(n:Nd α):(A.put i n).ps.length=A.ps.length:=by simp[ArS.put]
def FN.Ix{l m:List α}(h:FN g l)(e:m=l):FN g m:=e▸h
def Kf{A:ArS α}{i:Nat}{n m:Nd α}(hi:A.f i=some m)(h:j≠i):(A.put i n).f j=A.f j:=by rw[ArS.NQ hi,Tr.Em _ h]
def LQ{A:ArS α}{i:Nat}{m:Nd α}{l r:Tr α}{x:α}{μ:α->Nat×Nat}(hi:A.f i=some m)(hl:Tr.Ac μ A.f l)(hr:Tr.Ac μ A.f r)(j:i∉l.idx)(o:i∉r.idx):Tr.Ac μ (A.put i (Tr.FH μ (.node l i x r) x l.root r.root)).f (.node l i x r):=by
 rw[ArS.NQ hi];exact Tr.Ac.uM μ hl hr j o
def Ws{b i j:Nat}{A:ArS α}{x y:α}{a c r:Tr α}(h:Ex g F C W b most A)(hs:A.ps.length<=109951162777)(hh:Tr.Ac g.k.μ A.f (.node (.node a j y c) i x r))(hu:Tr.H7 (.node (.node a j y c) i x r))(hb:FN g (Tr.node (.node a j y c) i x r).toL) : AF prog g.flift [g_ b,zI i,.bool true] (λv' w'=>v'=zI j/\∃A',kB g F C W w' b most A (Tr.node (.node a j y c) i x r).toL (Tr.node (.node a j y c) i x r).idx (.node a j y (.node c i x r)) A') W:=by
 apply g.ok.PH;unfold iU;obtain⟨⟨ha,hc,hj⟩,hr,hi⟩:=hh;obtain⟨u1,u2,u3,u4,u5⟩:=Tr.BP.1 hu;obtain⟨v1,v2,v3,v4,v5⟩:=Tr.BP.1 u1;have hL:(Tr.node (.node a j y c) i x r).toL=a.toL++y::(c.toL++x::r.toL):=by simp[Tr.toL]
 rw[hL] at hb;have a7:=hb.KM.2.cons.1;have X:i≠j:=λe=>u3 n';have Y:i∉c.idx:=λe=>u3 n';have a8:i∉a.idx:=λe=>u3 n';have aa:j∉r.idx:=u5 j (by simp[Tr.idx]);refine E8 h hi λrc bx w1 g1 Z B o=>?_;have J:=g.rlen o;apply Ai;refine Iw (B.cells (g.E+0) _ (by rw[Am J];rfl)) ?_;refine E8 (h.U_ g1) hj λrd bd w2 g2 av D O=>?_;have Q:=g.rlen O;refine Iw (D.cells (g.E+1) _ (by rw[Am Q];rfl)) ?_;rw[AB,AH];have nF:∀{z:Nat},W.heap.size<=z->∀x,F x\/C x->x≠z:=λhz x hx e=>by have:=h.lt x hx;omega
 refine(B.U_ g2).st (q:=g.E+0) (by rw[Ba _ o];omega) rfl rfl λw3 B3 m3=>?_;have ax:=B.lt (by rw[Ba _ o];omega);rw[Dh J] at B3;refine B3.GN (by rw[Ad,q7,J];rfl) ?_;have g3:AI W w3:=(g1.trans g2).next m3 E
 apply AA (IJ (l:=c) (r:=r) (n:={ Tr.FH g.k.μ (.node (.node a j y c) i x r) x (Tr.node a j y c).root r.root with l:=c.root }) (h.U_ g3) hs hi (g.Bw (g.Bw o g2 F_) m3 λy _ U e=>nF Z y (.inr U) e) rfl rfl hc hr v2 u2 a7);rintro _ w4 ⟨h4,m4⟩;have I:(A.put i (Tr.FH g.k.μ (.node c i x r) x c.root r.root)).f=Tr.IB A.f i (some (Tr.FH g.k.μ (.node c i x r) x c.root r.root)):=ArS.NQ hi;rw[AB,AH];refine((D.U' m3 E).U' m4 λe=>nF E bd (.inl e.1) rfl).st (q:=g.E+1) (by rw[Ba _ O];omega) rfl rfl λw5 D5 m5=>?_;rw[Dh Q] at D5;refine D5.GN (by rw[Ad,q7,Q];rfl) ?_;have V:(A.put i (Tr.FH g.k.μ (.node c i x r) x c.root r.root)).f j=some (Tr.FH g.k.μ (.node a j y c) y a.root c.root):=by rw[I,Tr.Em _ (yH X)];exact hj
 have a1:Tr.Ac g.k.μ (A.put i (Tr.FH g.k.μ (.node c i x r) x c.root r.root)).f (.node c i x r):=by rw[I];exact Tr.Ac.uM g.k.μ hc hr Y u4
 have a6:Tr.Ac g.k.μ (A.put i (Tr.FH g.k.μ (.node c i x r) x c.root r.root)).f a:=by rw[I];exact ha.out g.k.μ _ a8
 have ak:Tr.H7 (.node c i x r):=Tr.BP.2 ⟨v2,u2,Y,u4,λq hq=>u5 q (by simp[Tr.idx,hq])⟩;have al:(A.put i (Tr.FH g.k.μ (.node c i x r) x c.root r.root)).ps.length<=109951162777:=by rw[Et];exact hs
 apply AA (IJ (l:=a) (r:=.node c i x r) (n:={ Tr.FH g.k.μ (.node a j y c) y a.root c.root with r:=(i:Int) }) (h4.U' m5 λx hx e=>nF E x hx e) al V (g.Bw (g.Bw (g.Bw O m3 λy _ U e=>nF Z y (.inr U) e) m4 λy _ U e=>h.MP y e.1 U) m5 λy _ U e=>nF E y (.inr U) e) rfl rfl a6 a1 v1 ak hb);rintro _ w6 ⟨h6,m6⟩;refine⟨rfl,_,h6,?_,by simp[Tr.toL],(Tr.az a c r i j x y).2,?_,λq hq=>?_,by rw[Et,Et]⟩;exact(((g3.mono E').trans m4).next m5 E).trans m6;refine LQ (x:=y) V a6 a1 v3 λe=>?_;simp[Tr.idx,DN,I3] at e;rcases e with e|e|e;exact v4 e;exact X e.symm;exact aa e;simp only[Tr.idx,DN,I3,aAu] at hq;have an:Tr.IB (A.put i (Tr.FH g.k.μ (.node c i x r) x c.root r.root)).f j (some (Tr.FH g.k.μ (.node a j y (.node c i x r)) y a.root (Tr.node c i x r).root)) q=A.f q:=by rw[Tr.Em _ hq.1.2.1,I,Tr.Em _ hq.2.1]
 rw[<-an];exact congrFun (ArS.NQ (n:=Tr.FH g.k.μ (.node a j y (.node c i x r)) y a.root (Tr.node c i x r).root) V) q
def Xc{b i j:Nat}{A:ArS α}{x y:α}{a c l:Tr α}(h:Ex g F C W b most A)(hs:A.ps.length<=109951162777)(hh:Tr.Ac g.k.μ A.f (.node l i x (.node a j y c)))(hu:Tr.H7 (.node l i x (.node a j y c)))(hb:FN g (Tr.node l i x (.node a j y c)).toL) : AF prog g.flift [g_ b,zI i,.bool false] (λv' w'=>v'=zI j/\∃A',kB g F C W w' b most A (Tr.node l i x (.node a j y c)).toL (Tr.node l i x (.node a j y c)).idx (.node (.node l i x a) j y c) A') W:=by
 apply g.ok.PH;unfold iU;obtain⟨hl,⟨ha,hc,hj⟩,hi⟩:=hh;obtain⟨u1,u2,u3,u4,u5⟩:=Tr.BP.1 hu;obtain⟨v1,v2,v3,v4,v5⟩:=Tr.BP.1 u2;have hL:(Tr.node l i x (.node a j y c)).toL=(l.toL++x::a.toL)++y::c.toL:=by simp[Tr.toL]
 rw[hL] at hb;have a7:=hb.KM.1;have X:i≠j:=λe=>u4 n';have a8:i∉c.idx:=λe=>u4 n';have Y:i∉a.idx:=λe=>u4 n';have aa:j∉l.idx:=λe=>u5 j e (by simp[Tr.idx]);refine E8 h hi λrc bx w1 g1 Z B o=>?_;have J:=g.rlen o;apply AS;refine Iw (B.cells (g.E+1) _ (by rw[Am J];rfl)) ?_;refine E8 (h.U_ g1) hj λrd bd w2 g2 av D O=>?_;have Q:=g.rlen O;refine Iw (D.cells (g.E+0) _ (by rw[Am Q];rfl)) ?_;rw[AB,AH];have nF:∀{z:Nat},W.heap.size<=z->∀x,F x\/C x->x≠z:=λhz x hx e=>by have:=h.lt x hx;omega
 refine(B.U_ g2).st (q:=g.E+1) (by rw[Ba _ o];omega) rfl rfl λw3 B3 m3=>?_;have ax:=B.lt (by rw[Ba _ o];omega);rw[Dh J] at B3;refine B3.GN (by rw[Ad,q7,J];rfl) ?_;have g3:AI W w3:=(g1.trans g2).next m3 E
 apply AA (IJ (l:=l) (r:=a) (n:={ Tr.FH g.k.μ (.node l i x (.node a j y c)) x l.root (Tr.node a j y c).root with r:=a.root }) (h.U_ g3) hs hi (g.Bw (g.Bw o g2 F_) m3 λy _ U e=>nF Z y (.inr U) e) rfl rfl hl ha u1 v1 a7);rintro _ w4 ⟨h4,m4⟩;have I:(A.put i (Tr.FH g.k.μ (.node l i x a) x l.root a.root)).f=Tr.IB A.f i (some (Tr.FH g.k.μ (.node l i x a) x l.root a.root)):=ArS.NQ hi;rw[AB,AH];refine((D.U' m3 E).U' m4 λe=>nF E bd (.inl e.1) rfl).st (q:=g.E+0) (by rw[Ba _ O];omega) rfl rfl λw5 D5 m5=>?_;rw[Dh Q] at D5;refine D5.GN (by rw[Ad,q7,Q];rfl) ?_;have V:(A.put i (Tr.FH g.k.μ (.node l i x a) x l.root a.root)).f j=some (Tr.FH g.k.μ (.node a j y c) y a.root c.root):=by rw[I,Tr.Em _ (yH X)];exact hj
 have a1:Tr.Ac g.k.μ (A.put i (Tr.FH g.k.μ (.node l i x a) x l.root a.root)).f (.node l i x a):=by rw[I];exact Tr.Ac.uM g.k.μ hl ha u3 Y
 have a6:Tr.Ac g.k.μ (A.put i (Tr.FH g.k.μ (.node l i x a) x l.root a.root)).f c:=by rw[I];exact hc.out g.k.μ _ a8
 have ak:Tr.H7 (.node l i x a):=Tr.BP.2 ⟨u1,v1,u3,Y,λq hq e=>u5 q hq n'⟩;have al:(A.put i (Tr.FH g.k.μ (.node l i x a) x l.root a.root)).ps.length<=109951162777:=by rw[Et];exact hs
 apply AA (IJ (l:=.node l i x a) (r:=c) (n:={ Tr.FH g.k.μ (.node a j y c) y a.root c.root with l:=(i:Int) }) (h4.U' m5 λx hx e=>nF E x hx e) al V (g.Bw (g.Bw (g.Bw O m3 λy _ U e=>nF Z y (.inr U) e) m4 λy _ U e=>h.MP y e.1 U) m5 λy _ U e=>nF E y (.inr U) e) rfl rfl a1 a6 ak v2 hb);rintro _ w6 ⟨h6,m6⟩;refine⟨rfl,_,h6,?_,by simp[Tr.toL],(Tr.gz l a c j i y x).2,?_,λq hq=>?_,by rw[Et,Et]⟩;exact(((g3.mono E').trans m4).next m5 E).trans m6;refine LQ (x:=y) V a1 a6 (λe=>?_) v4;simp[Tr.idx,DN,I3] at e;rcases e with e|e|e;exact aa e;exact X e.symm;exact v3 e;simp[Tr.idx,DN,I3,aAu] at hq;have an:Tr.IB (A.put i (Tr.FH g.k.μ (.node l i x a) x l.root a.root)).f j (some (Tr.FH g.k.μ (.node (.node l i x a) j y c) y (Tr.node l i x a).root c.root)) q=A.f q:=by rw[Tr.Em _ hq.2.2.2.1,I,Tr.Em _ hq.2.1]
 rw[<-an];exact congrFun (ArS.NQ (n:=Tr.FH g.k.μ (.node (.node l i x a) j y c) y (Tr.node l i x a).root c.root) V) q
def EW{f i:Nat->Option (Nd α)}{μ:α->Nat×Nat}{t:Tr α}{I:X'}(h:Tr.Ac μ f t)(o:∀j,j∉I->i j=f j)(B:∀j∈t.idx,j∉I):Tr.Ac μ i t:=h.frame μ λj J=>o j (B j J)
def Ih{b i:Nat}{A:ArS α}{n m:Nd α}{l r:Tr α}(h:Ex g F C W b most A)(hs:A.ps.length<=109951162777)(hi:A.f i=some m)(X:g.R C W cs n.x)(el:n.l=l.root)(er:n.r=r.root) (hl:Tr.Ac g.k.μ A.f l)(hr:Tr.Ac g.k.μ A.f r)(hu:Tr.H7 (.node l i n.x r))(hb:FN g (Tr.node l i n.x r).toL) : AF prog g.fbalance [g_ b,zI i,.agg (cs++Bs n).toArray] (λv' w'=>∃t' A',v'=zI t'.root/\kB g F C W w' b most A (Tr.node l i n.x r).toL (Tr.node l i n.x r).idx t' A') W:=by
 apply g.ok.LI;unfold UQ;obtain⟨u1,u2,u3,u4,u5⟩:=Tr.BP.1 hu;have O:=g.rlen X;have nF:∀{z:Nat},W.heap.size<=z->∀x,F x\/C x->x≠z:=λhz x hx e=>by have:=h.lt x hx;omega
 refine Bx.box λbx w1 Q g1 B=>?_;apply B.GN (Ba _ X);apply AA (IJ (l:=l) (r:=r) (h.U_ g1) hs hi (g.Bw X g1 F_) el er hl hr u1 u2 hb);rintro _ w3 ⟨h3,m3⟩;have I:(A.put i (Tr.FH g.k.μ (.node l i n.x r) n.x l.root r.root)).ps.length<=109951162777:=by rw[Et];exact hs
 have hT:=LQ (x:=n.x) hi hl hr u3 u4;obtain⟨Z,a1,al⟩:=id hT;have Y:∀j,j∉(Tr.node l i n.x r).idx->(A.put i (Tr.FH g.k.μ (.node l i n.x r) n.x l.root r.root)).f j=A.f j:=λj hj=>Kf hi λe=>hj n';have J:=Et A i (Tr.FH g.k.μ (.node l i n.x r) n.x l.root r.root);generalize A.put i (Tr.FH g.k.μ (.node l i n.x r) n.x l.root r.root)=A3 at h3 I hT Z a1 al Y J;apply AA (RK h3 I al rfl rfl Z a1 u1 u2);rintro _ w4 ⟨rfl,g4⟩;have h4:=h3.U_ g4;have B4:=(B.U' m3 λe=>nF Q bx (.inl e.1) rfl).U_ g4;have an:=g.Bw (g.Bw (g.Bw X g1 F_) m3 λy _ hy e=>h.MP y e.1 hy) g4 F_;have av:=((g1.mono E').trans m3).trans (g4.mono E');rw[BM];refine AE (λbb=>?_) λc4=>?_;obtain⟨a,j,y,c,rfl⟩:=Tr.OM (t:=l) E;refine Iw (B4.cells (g.E+0) _ (by rw[Am O];rfl)) ?_;rw[el];obtain⟨ha,hc,hj⟩:=id Z;obtain⟨v1,v2,v3,v4,v5⟩:=Tr.BP.1 u1;apply AA (RK h4 I hj rfl rfl ha hc v1 v2);rintro _ w6 ⟨rfl,g6⟩;have h6:=h4.U_ g6;have B6:=B4.U_ g6;have a6:=av.trans (g6.mono E');refine HP (λbk=>?_) λbl=>?_;obtain⟨p,q,z,s,rfl⟩:=Tr.OM (t:=c) E;refine Iw (B6.cells (g.E+0) _ (by rw[Am O];rfl)) ?_;rw[el];apply AA (Xc h6 I Z u1 hb.KM.1);rintro _ w8 ⟨rfl,A8,S8⟩;rw[AB,AH];refine(B6.U' S8.U' λe=>nF Q bx (.inl e.1) rfl).st (q:=g.E+0) (by rw[Ba _ X];omega) rfl rfl λw9 B9 m9=>?_;rw[Dh O] at B9;refine B9.GN (by rw[Ad,q7,O];rfl) ?_;have U:=(S8.Ap i u3).trans al;have b9:=EW a1 S8.Ap λj' ax e=>u5 j' e ax;have a7:A8.ps.length<=109951162777:=by rw[S8.len];exact I
 have a8:Tr.H7 (Tr.node (.node (.node a j y p) q z s) i n.x r):=by
  have:(Tr.node (.node (.node a j y p) q z s) i n.x r).idx.Perm (Tr.node (.node a j y (.node p q z s)) i n.x r).idx:=S8.idx.append (xQ _);exact this.nodup_iff.2 hu
 obtain⟨x1,x2,x3,x4,x5⟩:=Tr.BP.1 a8;have aa:FN g (Tr.node (.node (.node a j y p) q z s) i n.x r).toL:=hb.Ix (by rw[Tr.toL,S8.toL];rfl);apply AA (IJ (l:=.node (.node a j y p) q z s) (r:=r) (n:={ n with l:=(q:Int) }) (S8.FZ.U' m9 λx hx e=>nF Q x hx e) a7 U (g.Bw (g.Bw (g.Bw an g6 F_) S8.U' λy _ hy e=>h.MP y e.1 hy) m9 λy _ hy e=>nF Q y (.inr hy) e) rfl er S8.holds b9 x1 x2 aa);rintro _ bp ⟨ay,b0⟩;have ak:(A8.put i (Tr.FH g.k.μ (.node (.node (.node a j y p) q z s) i n.x r) n.x (Tr.node (.node a j y p) q z s).root r.root)).ps.length<=109951162777:=by rw[Et];exact a7
 apply AA (Ws ay ak (LQ U S8.holds b9 x3 x4) a8 aa);rintro _ b6 ⟨rfl,V,S12⟩;have o:(Tr.node (.node (.node a j y p) q z s) i n.x r).idx.Perm (Tr.node (.node a j y (.node p q z s)) i n.x r).idx:=S8.idx.append (xQ _);refine⟨_,V,rfl,S12.FZ,?_,S12.toL.trans (by rw[Tr.toL,S8.toL];rfl),S12.idx.trans o,S12.holds,λt ht=>?_,by rw[S12.len,Et,S8.len,J]⟩;exact(((a6.trans S8.U').next m9 E).trans b0).trans S12.U';have b7:t∉(Tr.node (.node (.node a j y p) q z s) i n.x r).idx:=λe=>ht (o.mem_iff.1 e);have b8:t∉(Tr.node a j y (.node p q z s)).idx:=λe=>ht (by rw[Tr.idx];exact oJ _ e);exact(((S12.Ap t b7).trans (Kf U λe=>ht n')).trans (S8.Ap t b8)).trans (Y t ht);apply AA (Ws h6 I hT hu hb);rintro _ b6 ⟨rfl,V,S12⟩;exact⟨_,V,rfl,S12.FZ,a6.trans S12.U',S12.toL,S12.idx,S12.holds,λt ht=>(S12.Ap t ht).trans (Y t ht),by rw[S12.len,J]⟩;refine HP (λbk=>?_) λbl=>?_;obtain⟨a,j,y,c,rfl⟩:=Tr.OM (t:=r) E;refine Iw (B4.cells (g.E+1) _ (by rw[Am O];rfl)) ?_;rw[er];obtain⟨ha,hc,hj⟩:=id a1;obtain⟨v1,v2,v3,v4,v5⟩:=Tr.BP.1 u2;apply AA (RK h4 I hj rfl rfl ha hc v1 v2);rintro _ w6 ⟨rfl,g6⟩;have h6:=h4.U_ g6;have B6:=B4.U_ g6;have a6:=av.trans (g6.mono E');rw[BM];refine AE (λbb=>?_) λbs=>?_;obtain⟨p,q,z,s,rfl⟩:=Tr.OM (t:=a) E;refine Iw (B6.cells (g.E+1) _ (by rw[Am O];rfl)) ?_;rw[er];apply AA (Ws h6 I a1 u2 hb.KM.2.cons.1);rintro _ w8 ⟨rfl,A8,S8⟩;rw[AB,AH];refine(B6.U' S8.U' λe=>nF Q bx (.inl e.1) rfl).st (q:=g.E+1) (by rw[Ba _ X];omega) rfl rfl λw9 B9 m9=>?_;rw[Dh O] at B9;refine B9.GN (by rw[Ad,q7,O];rfl) ?_;have U:=(S8.Ap i u4).trans al;have ba:=EW Z S8.Ap λj' ax e=>u5 j' ax e;have a7:A8.ps.length<=109951162777:=by rw[S8.len];exact I
 have o:(Tr.node l i n.x (.node p q z (.node s j y c))).idx.Perm (Tr.node l i n.x (.node (.node p q z s) j y c)).idx:=(xQ _).append (S8.idx.cons i);have a8:=o.nodup_iff.2 hu;obtain⟨x1,x2,x3,x4,x5⟩:=Tr.BP.1 a8;have aa:FN g (Tr.node l i n.x (.node p q z (.node s j y c))).toL:=hb.Ix (by rw[Tr.toL,S8.toL];rfl);apply AA (IJ (l:=l) (r:=.node p q z (.node s j y c)) (n:={ n with r:=(q:Int) }) (S8.FZ.U' m9 λx hx e=>nF Q x hx e) a7 U (g.Bw (g.Bw (g.Bw an g6 F_) S8.U' λy _ hy e=>h.MP y e.1 hy) m9 λy _ hy e=>nF Q y (.inr hy) e) el rfl ba S8.holds x1 x2 aa);rintro _ bp ⟨ay,b0⟩;have ak:(A8.put i (Tr.FH g.k.μ (.node l i n.x (.node p q z (.node s j y c))) n.x l.root (Tr.node p q z (.node s j y c)).root)).ps.length<=109951162777:=by rw[Et];exact a7
 apply AA (Xc ay ak (LQ U ba S8.holds x3 x4) a8 aa);rintro _ b6 ⟨rfl,V,S12⟩;refine⟨_,V,rfl,S12.FZ,?_,S12.toL.trans (by rw[Tr.toL,S8.toL];rfl),S12.idx.trans o,S12.holds,λt ht=>?_,by rw[S12.len,Et,S8.len,J]⟩;exact(((a6.trans S8.U').next m9 E).trans b0).trans S12.U';have b7:t∉(Tr.node l i n.x (.node p q z (.node s j y c))).idx:=λe=>ht (o.mem_iff.1 e);have b8:t∉(Tr.node (.node p q z s) j y c).idx:=λe=>ht (by rw[Tr.idx];exact py _ (aN _ e));exact(((S12.Ap t b7).trans (Kf U λe=>ht n')).trans (S8.Ap t b8)).trans (Y t ht);apply AA (Xc h6 I hT hu hb);rintro _ b6 ⟨rfl,V,S12⟩;exact⟨_,V,rfl,S12.FZ,a6.trans S12.U',S12.toL,S12.idx,S12.holds,λt ht=>(S12.Ap t ht).trans (Y t ht),by rw[S12.len,J]⟩;exact⟨.node l i n.x r,A3,rfl,h4,av,rfl,xQ _,hT,Y,J⟩
end
section
variable {α:Type}{g:AvT α}
def VG{b i:Nat}{A:ArS α}{n:Nd α}{l r:Tr α} (IL:∀ ll Y xl U,l=Tr.node ll Y xl U->U.Er < l.Er->∀ {W1:e_} {Z:ArS α},Ex g F C W1 b most Z->Z.ps.length<=109951162777->Z.f i=some n->Tr.Ac g.k.μ Z.f U->Tr.Ac g.k.μ Z.f r->Tr.H7 (.node U i n.x r)->FN g (Tr.node U i n.x r).toL->AF prog g.fjoin [g_ b,zI U.root,zI i,zI r.root] (λv' w'=>∃ t' A',v'=zI t'.root/\kB g F C W1 w' b most Z (Tr.node U i n.x r).toL (Tr.node U i n.x r).idx t' A') W1) (IR:∀ Q V xr X,r=Tr.node Q V xr X->Q.Er < r.Er->∀ {W1:e_} {Z:ArS α},Ex g F C W1 b most Z->Z.ps.length<=109951162777->Z.f i=some n->Tr.Ac g.k.μ Z.f l->Tr.Ac g.k.μ Z.f Q->Tr.H7 (.node l i n.x Q)->FN g (Tr.node l i n.x Q).toL->AF prog g.fjoin [g_ b,zI l.root,zI i,zI Q.root] (λv' w'=>∃ t' A',v'=zI t'.root/\kB g F C W1 w' b most Z (Tr.node l i n.x Q).toL (Tr.node l i n.x Q).idx t' A') W1) (h:Ex g F C W b most A)(hs:A.ps.length<=109951162777)(hi:A.f i=some n)(hl:Tr.Ac g.k.μ A.f l)(hr:Tr.Ac g.k.μ A.f r)(hu:Tr.H7 (.node l i n.x r))(hb:FN g (Tr.node l i n.x r).toL) : AF prog g.fjoin [g_ b,zI l.root,zI i,zI r.root] (λv' w'=>∃t' A',v'=zI t'.root/\kB g F C W w' b most A (Tr.node l i n.x r).toL (Tr.node l i n.x r).idx t' A') W:=by
 apply g.ok.join;unfold oE;obtain⟨u1,u2,u3,u4,u5⟩:=Tr.BP.1 hu;have ba:=(Ha rfl hr u2).1;have nF:∀{z:Nat},W.heap.size<=z->∀x,F x\/C x->x≠z:=λhz x hx e=>by have:=h.lt x hx;omega
 apply AA (Ci h hl);rintro _ w1 ⟨rfl,g1⟩;refine OI ?_;apply AA (Ci (h.U_ g1) hr);rintro _ w2 ⟨rfl,g2⟩;refine OI ?_;have a1:=g1.trans g2;have h2:=h.U_ a1;have bb:=a1.size;apply Cy (b:=1) E;rw[BM];refine AE (λay=>?_) λbk=>?_;obtain⟨ll,Y,xl,U,rfl⟩:=Tr.OM (t:=l) E;obtain⟨b0,b6,aa⟩:=id hl;obtain⟨v1,v2,v3,v4,v5⟩:=Tr.BP.1 u1;refine E8 h2 aa λrc bx w3 g3 ak B J=>?_;have O:=g.rlen J;refine Iw (B.cells (g.E+1) _ (by rw[Am O];rfl)) ?_;have al:Tr.H7 (.node U i n.x r):=Tr.BP.2 ⟨v2,u2,λe=>u3 n',u4,λq j=>u5 q (by simp[Tr.idx,j])⟩;have hL:(Tr.node (.node ll Y xl U) i n.x r).toL=ll.toL++xl::(U.toL++n.x::r.toL):=by simp[Tr.toL]
 have a6:=hb;rw[hL] at a6;refine AA (IL ll Y xl U rfl (by simp[Tr.Er];omega) (h2.U_ g3) hs hi b6 hr al a6.KM.2.cons.1) ?_;rintro _ w7 ⟨t1,Z,rfl,I⟩;have o:W.heap.size<=bx:=E;rw[AB,AH];refine(B.U' I.U' λe=>nF o bx (.inl e.1) rfl).st (q:=g.E+1) (by rw[Ba _ J];omega) rfl rfl λw8 B8 m8=>?_;rw[Dh O] at B8;refine B8.GN (by rw[Ad,q7,O];rfl) ?_;have a7:=g.Bw (g.Bw J I.U' λy _ hy e=>h.MP y e.1 hy) m8 λy _ hy e=>nF o y (.inr hy) e;have nI:∀q∈Y::ll.idx,q∉(Tr.node U i n.x r).idx:=λq j e=>by
  simp[Tr.idx,DN,I3] at e j;rcases j with rfl|j;rcases e with e|e|e;exact v4 e;exact u3 n';exact u5 q (by simp[Tr.idx]) e;rcases e with e|e|e;exact v5 q j e;exact u3 (by simp[Tr.idx,<-e,j]);exact u5 q (by simp[Tr.idx,j]) e
 have a8:Tr.H7 (.node ll Y xl t1):=by
  refine Tr.BP.2 ⟨v1,I.idx.nodup_iff.2 al,v3,λe=>nI Y D_ (I.idx.mem_iff.1 e),λq j e=>nI q (by simp[j]) (I.idx.mem_iff.1 e)⟩
 have Ix:(Tr.node ll Y xl t1).idx.Perm (Tr.node (.node ll Y xl U) i n.x r).idx:=by
  simp[Tr.idx,Mp,No];exact(xQ _).append (I.idx.cons Y)
 have eL:(Tr.node ll Y xl t1).toL=(Tr.node (.node ll Y xl U) i n.x r).toL:=by simp[Tr.toL,I.toL,Mp,No]
 refine AA (Ih (l:=ll) (r:=t1) (n:={ Tr.FH g.k.μ (.node ll Y xl U) xl ll.root U.root with r:=t1.root }) (I.FZ.U' m8 λx hx e=>nF o x hx e) (by rw[I.len];exact hs) ((I.Ap Y (nI Y D_)).trans aa) a7 rfl rfl (EW b0 I.Ap λq j=>nI q (by simp[j])) I.holds a8 (hb.Ix eL)) ?_;rintro _ b7 ⟨t2,A2,rfl,S2⟩;refine⟨t2,A2,rfl,S2.FZ,?_,S2.toL.trans eL,S2.idx.trans Ix,S2.holds,λq j=>?_,by rw[S2.len,I.len]⟩;exact((((a1.trans g3).mono E').trans I.U').next m8 E).trans S2.U';refine(S2.Ap q λe=>j (Ix.mem_iff.1 e)).trans (I.Ap q λe=>j ?_);simp only[Tr.idx,DN,I3] at e ⊢;rcases e with e|e|e;exact .inl (.inr (.inr e));exact .inr (.inl e);exact .inr (.inr e);apply Cy (b:=1) E;rw[BM];refine AE (λay=>?_) λb9=>?_;obtain⟨Q,V,xr,X,rfl⟩:=Tr.OM (t:=r) E;obtain⟨an,b8,av⟩:=id hr;obtain⟨v1,v2,v3,v4,v5⟩:=Tr.BP.1 u2;refine E8 h2 av λrc bx w3 g3 ak B J=>?_;have O:=g.rlen J;refine Iw (B.cells (g.E+0) _ (by rw[Am O];rfl)) ?_;have ax:Tr.H7 (.node l i n.x Q):=Tr.BP.2 ⟨u1,v1,u3,λe=>u4 n',λq j e=>u5 q j n'⟩;have hL:(Tr.node l i n.x (.node Q V xr X)).toL=(l.toL++n.x::Q.toL)++xr::X.toL:=by simp[Tr.toL]
 have a6:=hb;rw[hL] at a6;refine AA (IR Q V xr X rfl (by simp[Tr.Er];omega) (h2.U_ g3) hs hi hl an ax a6.KM.1) ?_;rintro _ w7 ⟨t1,Z,rfl,I⟩;have o:W.heap.size<=bx:=E;rw[AB,AH];refine(B.U' I.U' λe=>nF o bx (.inl e.1) rfl).st (q:=g.E+0) (by rw[Ba _ J];omega) rfl rfl λw8 B8 m8=>?_;rw[Dh O] at B8;refine B8.GN (by rw[Ad,q7,O];rfl) ?_;have a7:=g.Bw (g.Bw J I.U' λy _ hy e=>h.MP y e.1 hy) m8 λy _ hy e=>nF o y (.inr hy) e;have nI:∀q∈V::X.idx,q∉(Tr.node l i n.x Q).idx:=λq j e=>by
  simp[Tr.idx,DN,I3] at e j;rcases j with rfl|j;rcases e with e|e|e;exact u5 q e (by simp[Tr.idx]);exact u4 (by simp[Tr.idx,<-e]);exact v3 e;rcases e with e|e|e;exact u5 q e (by simp[Tr.idx,j]);exact u4 (by simp[Tr.idx,<-e,j]);exact v5 q e j
 have a8:Tr.H7 (.node t1 V xr X):=by
  refine Tr.BP.2 ⟨I.idx.nodup_iff.2 ax,v2,λe=>nI V D_ (I.idx.mem_iff.1 e),v4,λq j e=>nI q (by simp[e]) (I.idx.mem_iff.1 j)⟩
 have Ix:(Tr.node t1 V xr X).idx.Perm (Tr.node l i n.x (.node Q V xr X)).idx:=by
  have:(Tr.node l i n.x (.node Q V xr X)).idx=(Tr.node l i n.x Q).idx++V::X.idx:=by simp[Tr.idx]
  rw[this];exact I.idx.append (xQ _)
 have eL:(Tr.node t1 V xr X).toL=(Tr.node l i n.x (.node Q V xr X)).toL:=by rw[hL];simp[Tr.toL,I.toL]
 refine AA (Ih (l:=t1) (r:=X) (n:={ Tr.FH g.k.μ (.node Q V xr X) xr Q.root X.root with l:=t1.root }) (I.FZ.U' m8 λx hx e=>nF o x hx e) (by rw[I.len];exact hs) ((I.Ap V (nI V D_)).trans av) a7 rfl rfl I.holds (EW b8 I.Ap λq j=>nI q (by simp[j])) a8 (hb.Ix eL)) ?_;rintro _ b7 ⟨t2,A2,rfl,S2⟩;refine⟨t2,A2,rfl,S2.FZ,?_,S2.toL.trans eL,S2.idx.trans Ix,S2.holds,λq j=>?_,by rw[S2.len,I.len]⟩;exact((((a1.trans g3).mono E').trans I.U').next m8 E).trans S2.U';refine(S2.Ap q λe=>j (Ix.mem_iff.1 e)).trans (I.Ap q λe=>j ?_);simp[Tr.idx,DN,I3] at e ⊢;rcases e with e|e|e;exact .inl e;exact .inr (.inl e);exact .inr (.inr (.inl e));refine E8 h2 hi λrc bx w3 g3 ak B J=>?_;have O:=g.rlen J;have o:W.heap.size<=bx:=E;rw[AB,AH];refine B.st (q:=g.E+0) (by rw[Ba _ J];omega) rfl rfl λw4 B4 m4=>?_;rw[Dh O] at B4;rw[AB,AH];refine B4.st (q:=g.E+1) (by rw[Ad,q7,O];exact aAY (B_:1<5) _) rfl rfl λw5 B5 m5=>?_;have eN:(rc++(Bs n).set 0 (zI l.root)).set (g.E+1) (zI r.root)=rc++Bs { n with l:=l.root,r:=r.root }:=by
  rw[wV _ _ E,O,yJ];rfl
 rw[eN] at B5;apply B5.GN (by rw[Ba _ J]);have g5:=(((a1.trans g3).next m4 E)).next m5 E
 apply AA (IJ (l:=l) (r:=r) (n:={ n with l:=l.root,r:=r.root }) (h.U_ g5) hs hi (g.Bw (g.Bw J m4 λy _ hy e=>nF o y (.inr hy) e) m5 λy _ hy e=>nF o y (.inr hy) e) rfl rfl hl hr u1 u2 hb);rintro _ w6 ⟨h6,m6⟩;exact⟨.node l i n.x r,_,rfl,h6,(g5.mono E').trans m6,rfl,xQ _,LQ (x:=n.x) hi hl hr u3 u4,λq j=>Kf hi λe=>j n',Et _ _ _⟩
structure nR (g:AvT α) (F C:f_) (W w':e_) (b:Nat) (rt:Int) (A:ArS α) (t:Tr α) (t':Tr α) (j:Nat) (m:Nd α) (A':ArS α):Prop where
 FZ:Ex g F C w' b rt A'
 U':AK (Fb F b) W w'
 idx:(j::t'.idx).Perm t.idx
 holds:Tr.Ac g.k.μ A'.f t'
 WZ:A'.f j=some m
 Ap:∀q,q∉t.idx->A'.f q=A.f q
 len:A'.ps.length=A.ps.length
def nR.KV{b:Nat}{i:Int}{A o:ArS α}{t t':Tr α}{m:Nd α}(h:nR g F C W w' b i A t t' j m o)(hu:Tr.H7 t):Tr.H7 t'/\j∉t'.idx:=by
 have:=h.idx.nodup_iff.2 hu;rw[aBA] at this;exact⟨this.2,this.1⟩
def cA{b:Nat}:∀(t:Tr α) {W:e_} {A:ArS α},t≠.nil->Ex g F C W b most A->A.ps.length<=109951162777->Tr.Ac g.k.μ A.f t->Tr.H7 t->FN g t.toL->AF prog g.ffirst [g_ b,zI t.root] (λv' w'=>∃(t':Tr α) (j:Nat) (m:Nd α) (A':ArS α),v'=.tuple #[zI t'.root,zI j]/\nR g F C W w' b most A t t' j m A'/\t.toL=m.x::t'.toL) W:=by
 intro t;induction t with
 |nil=>intro W A hn;exact(hn rfl).elim
 |node l i x r Y _=>
  intro W A _ h hs hh hu hb;obtain⟨hl,hr,hi⟩:=id hh;obtain⟨u1,u2,Z,u4,u5⟩:=Tr.BP.1 hu;apply g.ok.first;unfold fN;have nF:∀{z:Nat},W.heap.size<=z->∀x,F x\/C x->x≠z:=λhz x hx e=>by have:=h.lt x hx;omega
  refine E8 h hi λrc bx w1 g1 Q B U=>?_;have J:=g.rlen U;have h1:=h.U_ g1;refine Iw (B.cells (g.E+0) _ (by rw[Am J];rfl)) ?_;rw[Aj];refine AE (λe=>?_) λe=>?_;refine Iw (B.cells (g.E+1) _ (by rw[Am J];rfl)) ?_;have el:l=.nil:=by
   cases l with
   |nil=>rfl
   |node a q z c=>simp only[Tr.FH,Tr.root] at e;omega
  subst el;exact⟨r,i,_,A,rfl,⟨h1,g1.mono E',xQ _,hr,hi,I_,rfl⟩,rfl⟩;refine Iw (B.cells (g.E+0) _ (by rw[Am J];rfl)) ?_;have a1:l≠.nil:=λe'=>by subst e';exact e rfl
  apply AA (Y a1 h1 hs hl u1 hb.KM.1);rintro _ w7 ⟨V,j,m,A1,rfl,o,e1⟩;refine Bv ?_;rw[AB,AH];refine(B.U' o.U' λe=>nF Q bx (.inl e.1) rfl).st (q:=g.E+0) (by rw[Ba _ U];omega) rfl rfl λw8 B8 m8=>?_;rw[Dh J] at B8;refine B8.GN (by rw[Ad,q7,J];rfl) ?_;have X:=g.Bw (g.Bw U o.U' λy _ hy e=>h.MP y e.1 hy) m8 λy _ hy e=>nF Q y (.inr hy) e;have sub:∀q,q∈V.idx\/q=j->q∈l.idx:=λq I=>o.idx.mem_iff.1 (by rcases I with I|rfl<;>simp[*]);have a6:Tr.H7 (.node V i x r):=Tr.BP.2 ⟨(o.KV u1).1,u2,λe=>Z (sub i (.inl e)),u4,λq I=>u5 q (sub q (.inl I))⟩;have a7:FN g (Tr.node V i x r).toL:=by
   have:(Tr.node l i x r).toL=m.x::(Tr.node V i x r).toL:=by simp[Tr.toL,e1,No]
   rw[this] at hb;exact hb.cons.1
  refine AA (Ih (l:=V) (r:=r) (n:={ Tr.FH g.k.μ (.node l i x r) x l.root r.root with l:=V.root }) (o.FZ.U' m8 λx hx e=>nF Q x hx e) (by rw[o.len];exact hs) ((o.Ap i Z).trans hi) X rfl rfl o.holds (EW hr o.Ap λq I e=>u5 q e I) a6 a7) ?_;rintro _ a8 ⟨t2,A2,rfl,O⟩;have hj:j∉(Tr.node V i x r).idx:=λe=>by
   simp[Tr.idx,DN,I3] at e;rcases e with e|e|e;exact(o.KV u1).2 e;exact Z (e▸sub j (.inr rfl));exact u5 j (sub j (.inr rfl)) e
  refine⟨t2,j,m,A2,rfl,⟨O.FZ,?_,?_,O.holds,(O.Ap j hj).trans o.WZ,λq I=>?_,by rw[O.len,o.len]⟩,?_⟩;exact(((g1.mono E').trans o.U').next m8 E).trans O.U';apply(O.idx.cons j).trans;simp[Tr.idx];exact(o.idx.append (xQ (i::r.idx)));simp[Tr.idx,DN,I3,aAu] at I;refine(O.Ap q λe=>?_).trans (o.Ap q I.1);simp[Tr.idx,DN,I3] at e;rcases e with e|e|e;exact I.1 (sub q (.inl e));exact I.2.1 e;exact I.2.2 e;rw[O.toL];simp[Tr.toL,Tr.FH,e1,No]
def V0{b:Nat}:∀(t:Tr α) {W:e_} {A:ArS α},t≠.nil->Ex g F C W b most A->A.ps.length<=109951162777->Tr.Ac g.k.μ A.f t->Tr.H7 t->FN g t.toL->AF prog g.flast [g_ b,zI t.root] (λv' w'=>∃(t':Tr α) (j:Nat) (m:Nd α) (A':ArS α),v'=.tuple #[zI t'.root,zI j]/\nR g F C W w' b most A t t' j m A'/\t.toL=t'.toL++[m.x]) W:=by
 intro t;induction t with
 |nil=>intro W A hn;exact(hn rfl).elim
 |node l i x r _ Y=>
  intro W A _ h hs hh hu hb;obtain⟨hl,hr,hi⟩:=id hh;obtain⟨u1,Z,u3,u4,u5⟩:=Tr.BP.1 hu;apply g.ok.Jr;unfold oi;have nF:∀{z:Nat},W.heap.size<=z->∀x,F x\/C x->x≠z:=λhz x hx e=>by have:=h.lt x hx;omega
  refine E8 h hi λrc bx w1 g1 U B V=>?_;have J:=g.rlen V;have h1:=h.U_ g1;refine Iw (B.cells (g.E+1) _ (by rw[Am J];rfl)) ?_;rw[Aj];refine AE (λe=>?_) λe=>?_;refine Iw (B.cells (g.E+0) _ (by rw[Am J];rfl)) ?_;have el:r=.nil:=by
   cases r with
   |nil=>rfl
   |node a q z c=>simp only[Tr.FH,Tr.root] at e;omega
  subst el;exact⟨l,i,_,A,rfl,⟨h1,g1.mono E',by simp[Tr.idx];exact(List.perm_append_singleton i l.idx).symm,hl,hi,I_,rfl⟩,rfl⟩;refine Iw (B.cells (g.E+1) _ (by rw[Am J];rfl)) ?_;have a1:r≠.nil:=λe'=>by subst e';exact e rfl
  apply AA (Y a1 h1 hs hr Z hb.KM.2.cons.1);rintro _ w7 ⟨O,j,m,A1,rfl,o,e1⟩;refine Bv ?_;rw[AB,AH];refine(B.U' o.U' λe=>nF U bx (.inl e.1) rfl).st (q:=g.E+1) (by rw[Ba _ V];omega) rfl rfl λw8 B8 m8=>?_;rw[Dh J] at B8;refine B8.GN (by rw[Ad,q7,J];rfl) ?_;have X:=g.Bw (g.Bw V o.U' λy _ hy e=>h.MP y e.1 hy) m8 λy _ hy e=>nF U y (.inr hy) e;have sub:∀q,q∈O.idx\/q=j->q∈r.idx:=λq I=>o.idx.mem_iff.1 (by rcases I with I|rfl<;>simp[*]);have a6:Tr.H7 (.node l i x O):=Tr.BP.2 ⟨u1,(o.KV Z).1,u3,λe=>u4 (sub i (.inl e)),λq I e=>u5 q I (sub q (.inl e))⟩;have a7:FN g (Tr.node l i x O).toL:=by
   have:(Tr.node l i x r).toL=(Tr.node l i x O).toL++[m.x]:=by simp[Tr.toL,e1,Mp,No]
   rw[this] at hb;exact hb.KM.1
  refine AA (Ih (l:=l) (r:=O) (n:={ Tr.FH g.k.μ (.node l i x r) x l.root r.root with r:=O.root }) (o.FZ.U' m8 λx hx e=>nF U x hx e) (by rw[o.len];exact hs) ((o.Ap i u4).trans hi) X rfl rfl (EW hl o.Ap λq I=>u5 q I) o.holds a6 a7) ?_;rintro _ a8 ⟨t2,A2,rfl,Q⟩;have hj:j∉(Tr.node l i x O).idx:=λe=>by
   simp[Tr.idx,DN,I3] at e;rcases e with e|e|e;exact u5 j e (sub j (.inr rfl));exact u4 (e▸sub j (.inr rfl));exact(o.KV Z).2 e
  refine⟨t2,j,m,A2,rfl,⟨Q.FZ,?_,?_,Q.holds,(Q.Ap j hj).trans o.WZ,λq I=>?_,by rw[Q.len,o.len]⟩,?_⟩;exact(((g1.mono E').trans o.U').next m8 E).trans Q.U';apply(Q.idx.cons j).trans;simp[Tr.idx];have p1:(j::(l.idx++i::O.idx)).Perm (l.idx++i::(j::O.idx)):=by
   simpa using((List.perm_middle (a:=j) (l₁:=l.idx++[i]) (l₂:=O.idx)).symm)
  exact p1.trans ((xQ _).append (o.idx.cons i));simp[Tr.idx,DN,I3,aAu] at I;refine(Q.Ap q λe=>?_).trans (o.Ap q I.2.2);simp[Tr.idx,DN,I3] at e;rcases e with e|e|e;exact I.1 e;exact I.2.1 e;exact I.2.2 (sub q (.inl e));rw[Q.toL];simp[Tr.toL,Tr.FH,e1,Mp,No]
def Hk{b i:Nat}:∀(k:Nat) {W:e_} {A:ArS α} {n:Nd α} {l r:Tr α},l.Er+r.Er<=k->Ex g F C W b most A->A.ps.length<=109951162777->A.f i=some n->Tr.Ac g.k.μ A.f l->Tr.Ac g.k.μ A.f r->Tr.H7 (.node l i n.x r)->FN g (Tr.node l i n.x r).toL->AF prog g.fjoin [g_ b,zI l.root,zI i,zI r.root] (λv' w'=>∃t' Y,v'=zI t'.root/\kB g F C W w' b most A (Tr.node l i n.x r).toL (Tr.node l i n.x r).idx t' Y) W:=by
 intro k;induction k with
 |zero=>
  intro W A n l r hk h Q hi hl hr hu hb;exact VG E E h Q hi hl hr hu hb
 |succ k X=>
  intro W A n l r hk h Q hi hl hr hu hb;refine VG (λll il xl lr e U=>?_) (λrl ir xr rr e U=>?_) h Q hi hl hr hu hb;subst e;intro Z A1 h1 j o B I J O;exact X (by simp[Tr.Er] at hk;omega) h1 j o B I J O;subst e;intro Z A1 h1 j o B I J O;exact X (by simp[Tr.Er] at hk;omega) h1 j o B I J O
def X6{b:Nat}{A:ArS α}{l r:Tr α}(h:Ex g F C W b most A)(X:A.ps.length<=109951162777)(hl:Tr.Ac g.k.μ A.f l)(hr:Tr.Ac g.k.μ A.f r)(hu:(l.idx++r.idx).Nodup)(hb:FN g (l.toL++r.toL)) : AF prog g.fconcat [g_ b,zI l.root,zI r.root] (λv' w'=>∃t' Z,v'=zI t'.root/\kB g F C W w' b most A (l.toL++r.toL) (l.idx++r.idx) t' Z) W:=by
 apply g.ok.concat;unfold Yu;rw[Aj];obtain⟨U,u2,J⟩:=r8.1 hu;refine AE (λe=>?_) λe=>?_;have el:l=.nil:=by
  cases l with
  |nil=>rfl
  |node a q z c=>simp only[Tr.root] at e;omega
 subst el;exact⟨r,A,rfl,h,AK.refl _ _,rfl,xQ _,hr,I_,rfl⟩;have O:l≠.nil:=λe'=>by subst e';exact e rfl
 apply AA (V0 l O h X hl U hb.KM.1);rintro _ w1 ⟨I,j,m,A1,rfl,i,e1⟩;refine Bv ?_;have sub:∀q,q∈I.idx\/q=j->q∈l.idx:=λq o=>i.idx.mem_iff.1 (by rcases o with o|rfl<;>simp[*]);have Q:Tr.H7 (.node I j m.x r):=Tr.BP.2 ⟨(i.KV U).1,u2,(i.KV U).2,λe=>J j (sub j (.inr rfl)) j e rfl,λq o e=>J q (sub q (.inl o)) q e rfl⟩;have Y:(Tr.node I j m.x r).toL=l.toL++r.toL:=by simp[Tr.toL,e1,Mp,No,u7]
 refine AA (Hk (I.Er+r.Er) (HK _) i.FZ (by rw[i.len];exact X) i.WZ i.holds (EW hr i.Ap λq o e=>J q e q o rfl) Q (hb.Ix Y)) ?_;rintro _ w2 ⟨t2,A2,rfl,B⟩;have Ix:(Tr.node I j m.x r).idx.Perm (l.idx++r.idx):=by
  simp[Tr.idx];exact List.perm_middle.trans (i.idx.append (xQ r.idx))
 refine⟨t2,A2,rfl,B.FZ,i.U'.trans B.U',B.toL.trans Y,B.idx.trans Ix,B.holds,λq o=>?_,by rw[B.len,i.len]⟩;exact(B.Ap q λe=>o (Ix.mem_iff.1 e)).trans (i.Ap q λe=>o (oJ _ e))
def Ki(g:AvT α)(F C:f_)(W w':e_)(b:Nat)(i:Int)(A:ArS α):Prop:=∃F',(∀x,F x->F' x)/\(∀x,F' x->F x\/W.heap.size<=x)/\Ex g F' C w' b i A/\AK (Fb F b) W w'
def U4{b c:Nat}{I:Int}{A J:ArS α}{pl fr:d_}(h:oH g F C W b c I A pl fr)(ha:Qv g (λx=>F x/\x≠b) C W w' c J):Ki g F C W w' b I J:=by
 obtain⟨B,j,o,k1,k2,U,O⟩:=ha;have V:=h.box.lt (P9 _);refine⟨λx=>B x\/x=b,λx i=>?_,λx i=>?_,⟨c,j,o,h.box.U' O λe=>e.2 rfl,?_,.inr rfl,h.fb.2⟩,O⟩;by_cases e:x=b;exact .inr e;exact .inl (k1 x ⟨i,e⟩);rcases i with i|rfl;exact(k2 x i).imp (λh=>h.1) E_;exact .inl h.fb.1;have e:(λx=>(B x\/x=b)/\x≠b)=B:=by
  funext x;refine propext ⟨λi=>i.1.elim E_ λe=>(i.2 e).elim,λi=>⟨.inl i,λe=>?_⟩⟩;subst e;rcases k2 x i with Q|Q;exact Q.2 rfl;omega
 rw[e];exact U
def QT{b c i:Nat}{j:Int}{A:ArS α}{pl fr:d_}{n:Nd α}(h:oH g F C W b c j A pl fr)(hi:A.f i=some n)(o:A.ps.length<=109951162777) : AF prog g.aFree [g_ c,zI i] (λv' w'=>Ki g F C W w' b j (A.free i)) W:=AA (iz h.ar hi o) λ_ _ ha=>U4 h ha
def Py{b c:Nat}{i:Int}{A:ArS α}{pl fr:d_}{n:Nd α}{r:V_}(h:oH g F C W b c i A pl fr)(hr:g.R C W r n.x)(j:A.ps.length<=109951162777) : AF prog g.aTake [g_ c,.agg (r++Bs n).toArray] (λv' w'=>v'=zI A.num/\Ki g F C W w' b i (A.take n)) W:=AA (jl h.ar hr j) λ_ _ ha=>⟨ha.1,U4 h ha.2⟩
def cP{b:Nat}:∀(t:Tr α) {F:f_} {W:e_} {A:ArS α},Ex g F C W b most A->A.ps.length<=109951162777->Tr.Ac g.k.μ A.f t->Tr.H7 t->AF prog g.fdrop [g_ b,zI t.root] (λ_ w'=>∃Z,Ki g F C W w' b most Z/\(∀q,q∉t.idx->Z.f q=A.f q)/\Z.ps.length=A.ps.length) W:=by
 intro t;induction t with
 |nil=>
  intro F W A h Y hh hu;apply g.ok.drop;unfold jj;simp[Tr.root];rw[Aj];refine AE (λ_=>?_) λe=>(e rfl).elim;exact⟨A,⟨F,M_,J_,h,AK.refl _ _⟩,I_,rfl⟩
 |node l i x r a6 a7=>
  intro F W A h Y hh hu;obtain⟨hl,hr,hi⟩:=id hh;obtain⟨u1,u2,u3,u4,u5⟩:=Tr.BP.1 hu;apply g.ok.drop;unfold jj;simp[Tr.root];rw[Aj];refine AE E λ_=>?_;refine E8 h hi λrc bx w1 g1 aa B a8=>?_;have Q:=g.rlen a8;refine Iw (B.cells (g.E+0) _ (by rw[Am Q];rfl)) ?_;apply AA (a6 (h.U_ g1) Y hl u1);rintro _ w5 ⟨A1,T1,J,j⟩;obtain⟨F1,a1,a2,h5,m5⟩:=T1;have nb:¬F bx:=λe=>by have:=h.lt bx (.inl e);omega
  refine Iw ((B.U' m5 λe=>nb e.1).cells (g.E+1) _ (by rw[Am Q];rfl)) ?_;refine AA (a7 h5 (by rw[j];exact Y) (EW hr J λq O e=>u5 q e O) u2) ?_;rintro _ w7 ⟨A2,T2,U,o⟩;obtain⟨F2,b1,b2,h7,m7⟩:=T2;have V:=(U i u4).trans ((J i u3).trans hi);obtain⟨c,pl,fr,hT⟩:=h7;apply AJ;rw[AB,AH];apply AD (hT.box.cells 3 _ rfl);refine AA (QT hT V (by rw[o,j];exact Y)) ?_;rintro _ w9 ⟨F3,c1,c2,h9,m9⟩;have s1:=g1.size;have s5:=m5.size;have s7:=m7.size;refine⟨A2.free i,⟨F3,λx X=>c1 x (b1 x (a1 x X)),λx X=>?_,h9,?_⟩,λq O=>?_,by simp[ArS.free,o,j]⟩;rcases c2 x X with e|e;rcases b2 x e with e|e;rcases a2 x e with e|e;exact .inl e;exact .inr E;exact .inr E;exact .inr E;have k1:=(g1.mono E').trans m5;have k2:=k1.next m7 λx X e=>by
   rcases a2 x e.1 with I|I;exact⟨I,e.2⟩;omega
  refine k2.next m9 λx X e=>?_;rcases b2 x e.1 with I|I;rcases a2 x I with I|I;exact⟨I,e.2⟩;omega;omega;simp[Tr.idx,DN,I3,aAu] at O;rw[ArS.XT V,Tr.Em _ O.2.1];exact(U q O.2.2).trans (J q O.1)
def VV{b:Nat}{A:ArS α}{t:Tr α}(h:Ex g F C W b t.root A)(ht:Tr.Ac g.k.μ A.f t) : AF prog g.fSize [g_ b] (λv' w'=>v'=zI (Tr.sz g.k.μ t.toL)/\AI W w') W:=by
 apply g.ok.size;unfold nz;obtain⟨c,pl,fr,i⟩:=id h;apply AJ;rw[AB,AH];apply AD (i.box.cells 4 _ rfl);apply AA (Ci h ht);rintro _ o ⟨rfl,j⟩;exact Af (vs:=[_,_,_]) (by rfl) (Af (vs:=[_,_,_]) (by rfl) (Af (vs:=[_,_,_]) (by rfl) ⟨rfl,j⟩))
end
def Bx.ud{b q:Nat}(h:Bx W b vs)(B:q<vs.length)(u:d_):Bx (W.setCell ⟨b,q,none⟩ u) b (vs.set q u):=by
 refine⟨λj v i=>?_,λj J=>(h.Cb j (by simpa using J)).set _ _⟩;by_cases e:j=q;subst e;rw[sT B] at i;cases i;obtain⟨O,o⟩:=pj.1 (h.Cb j B).1;exact cO _ _ _ o;rw[vu (yH e)] at i;rw[Of _ _ _ _ (λI=>by simp only[Addr.mk.injEq] at I;exact e I.2.1.symm)];exact h.cells j v i
def Bx.FE{b:Nat}:∀(us:V_) (p:Nat) (W:e_) (vs:V_),Bx W b vs->p+us.length<=vs.length->Bx (FE W ⟨b,0,none⟩ p us) b (L7 vs p us)/\AK (λx=>x=b) W (FE W ⟨b,0,none⟩ p us):=by
 intro us;induction us with
 |nil=>intro p W vs h _;exact⟨h,AK.refl _ _⟩
 |cons u us i=>
  intro p W vs h hl;rw[Hn] at hl;simp[YtlmjclmngedmkaaGreatDoor.FE,L7,AH];obtain⟨h1,j⟩:=i (p+1) _ _ (h.ud (q:=p) E u) (by rw[q7];omega);exact⟨h1,(AK.setCell (M:=λx=>x=b) W ⟨b,p,none⟩ u rfl).trans j⟩
def Bx.part{b n:Nat}{vs us:V_}{K:e_->Prop}(h:Bx W b vs)(i:us.length=n)(hl:n<=vs.length)(h1:∀v∈us,v.oneCell'=true)(o:∀W',Bx W' b (L7 vs 0 us)->AK (λx=>x=b) W W'->K W'):Bu n (g_ b) (.agg us.toArray) K W:=by
 obtain⟨B,I⟩:=Bx.FE us 0 W vs h E;exact⟨_,us,rfl,rfl,i,h1,λj J=>by rw[AH];exact h.Cb j E,o _ B I⟩
def He{W0 W:e_}{p q n:Nat}{o us vs:V_}{J:e_->Prop}(g:AI W0 W)(hp:W0.heap.size<=p)(Q:W0.heap.size<=q)(i:p≠q)(U:Bx W p o)(V:Bx W q o)(O:o.length=n)(hu:us.length=n)(X:vs.length=n)(Y:∀v∈us,v.oneCell'=true)(ov:∀v∈vs,v.oneCell'=true)(hJ:∀W',AI W0 W'->Bx W' p us->Bx W' q vs->J W') : Bu n (g_ p) (.agg us.toArray) (λj=>AK (λy=>W0.heap.size<=y) W j/\Bu n (g_ q) (.agg vs.toArray) (λw2=>AK (λy=>W0.heap.size<=y) j w2/\J w2) j) W:=by
 refine U.Au hu O Y λj Z B=>⟨B.mono λx _ e=>by rw[e];exact hp,?_⟩;refine(V.U' B λe=>i e.symm).Au X O ov λw2 B2 I=>⟨I.mono λx _ e=>by rw[e];exact Q,?_⟩;exact hJ w2 ((g.next B E).next I E) (Z.U' I i) B2
section
structure iG (g:AvK):Prop where
 split:∀{v0 v1 v2 K w},XI g v0 v1 v2 K w->AF prog g.fsplit [v0,v1,v2] K w
 pick:∀{v0 v1 K w},ow g v0 v1 K w->AF prog g.fpick [v0,v1] K w
 melded:∀{v0 v1 K w},ZG g v0 v1 K w->AF prog g.fmelded [v0,v1] K w
 replace:∀{v0 v1 v2 v3 K w},Vx g v0 v1 v2 v3 K w->AF prog g.fReplace [v0,v1,v2,v3] K w
 Au:∀{v0 v1 v2 v3 v4 K w},dQ g v0 v1 v2 v3 v4 K w->AF prog g.fover [v0,v1,v2,v3,v4] K w
structure AvN (α:Type) extends AvT α where
 one0:one=false
 okN:iG toAvK
 cells:α->V_
 Rc:∀{C w r x},R C w r x↔r=cells x
 cutc:∀{w x p},0<p->p<(k.μ x).1->(k.μ x).1<=1099511627776->Be prog En vc [.agg (cells x).toArray,zI (p:Int)] (λv w'=>v=.tuple #[.agg (cells (k.cut x p).1).toArray,.agg (cells (k.cut x p).2).toArray]/\AI w w') w
 meldc:∀{w x y},0<(k.μ x).1->(k.μ x).1<=1099511627776->(k.μ y).1<=1099511627776->Be prog En vd [.agg (cells x).toArray,.agg (cells y).toArray] (λv w'=>AI w w'/\∃r,r.length=E/\(∀u∈r,u.oneCell'=true)/\v=.tuple #[.agg r.toArray,.bool (k.meld x y).isSome]/\∀z,k.meld x y=some z->r=cells z) w
section
variable {α:Type}
def XZ(g:AvT α):Prop:=∀{F C:f_} {W:e_} {b i:Nat} {j:Int} {A:ArS α} {n:Nd α},Ex g F C W b j A->A.ps.length<=109951162777->A.f i=some n->AF prog g.fpick [g_ b,zI i] (λv' w'=>∃r,v'=g.toAvK.enc r/\g.R C w' r n.x/\Ki g F C W w' b j (A.free i)) W
def Qh(g:AvT α):Prop:=∀{F C S:f_} {W:e_} {b:Nat} {i:Int} {A:ArS α} {v:d_} {l:List α},Ex g F C W b i A->BC S g.E (g.R C) W v l->l.length<=109951162777->FN g l->AF prog g.fmelded [g_ b,v] (λv' w'=>AG W.heap.size g.te g.E (g.R C) w' v' (g.k.melded l)/\AI W w') W
structure Wt (g:AvT α) (F C:f_) (W w':e_) (b:Nat) (rt:Int) (A:ArS α) (t:Tr α) (p:Nat) (l r:Tr α) (A':ArS α):Prop where
 rN:Ki g F C W w' b rt A'
 l1:l.toL=(g.k.split t.toL p).1
 r1:r.toL=(g.k.split t.toL p).2
 hl:Tr.Ac g.k.μ A'.f l
 hr:Tr.Ac g.k.μ A'.f r
 KV:(l.idx++r.idx).Nodup
 idx:∀q,q∈l.idx++r.idx->q∈t.idx\/A.f q=none
 Ap:∀q,q∉t.idx->q∉l.idx++r.idx->A'.f q=A.f q
 len:A'.ps.length<=A.ps.length+1
def Tp(g:AvT α):Prop:=∀{C:f_} {b:Nat} {i:Int} (t:Tr α) {F:f_} {W:e_} {A:ArS α} {p:Nat},Ex g F C W b i A->A.ps.length<=109951162776->Tr.Ac g.k.μ A.f t->Tr.H7 t->FN g t.toL->p<=1099511627776->AF prog g.fsplit [g_ b,zI t.root,zI (p:Int)] (λv' w'=>∃l r j,v'=.tuple #[zI l.root,zI r.root]/\Wt g F C W w' b i A t p l r j) W
end
section
variable {α:Type}{g:AvT α}
def LD{b i p:Nat}{A J:ArS α}{l r a c:Tr α}{x:α}{n:Nd α}(S:Wt g F C W w' b most A l p a c J)(hi:A.f i=some n)(hr:Tr.Ac g.k.μ A.f r)(hu:Tr.H7 (.node l i x r)) : J.f i=some n/\Tr.Ac g.k.μ J.f r/\Tr.H7 (.node c i x r)/\∀q∈a.idx,q∉(Tr.node c i x r).idx:=by
 obtain⟨u1,V,O,X,Q⟩:=Tr.BP.1 hu;have I:∀q,(∃m,A.f q=some m)->q∉l.idx->q∉a.idx++c.idx:=λq ⟨m,hm⟩ j e=>by
  rcases S.idx q e with e|e;exact j e;rw[hm] at e;cases e
 have o:=I i ⟨n,hi⟩ O;have B:∀q∈r.idx,q∉a.idx++c.idx:=λq j=>I q (hr.LF g.k.μ j) λe=>Q q e j;obtain⟨n1,Y,Z⟩:=r8.1 S.KV;refine⟨(S.Ap i O o).trans hi,hr.frame g.k.μ λq j=>S.Ap q (λe=>Q q e j) (B q j),Tr.BP.2 ⟨Y,V,λe=>o (py _ e),X,λq j e=>B q e (py _ j)⟩,λq j e=>?_⟩;simp[Tr.idx,DN,I3] at e;rcases e with e|e|e;exact Z q j q e rfl;exact o (e▸oJ _ j);exact B q e (oJ _ j)
def KG{b i p:Nat}{A J:ArS α}{l r a c:Tr α}{x:α}{n:Nd α}(S:Wt g F C W w' b most A r p a c J)(hi:A.f i=some n)(hl:Tr.Ac g.k.μ A.f l)(hu:Tr.H7 (.node l i x r)) : J.f i=some n/\Tr.Ac g.k.μ J.f l/\Tr.H7 (.node l i x a)/\∀q∈c.idx,q∉(Tr.node l i x a).idx:=by
 obtain⟨Z,u2,V,O,Q⟩:=Tr.BP.1 hu;have I:∀q,(∃m,A.f q=some m)->q∉r.idx->q∉a.idx++c.idx:=λq ⟨m,hm⟩ j e=>by
  rcases S.idx q e with e|e;exact j e;rw[hm] at e;cases e
 have o:=I i ⟨n,hi⟩ O;have B:∀q∈l.idx,q∉a.idx++c.idx:=λq j=>I q (hl.LF g.k.μ j) λe=>Q q j e;obtain⟨X,n2,Y⟩:=r8.1 S.KV;refine⟨(S.Ap i O o).trans hi,hl.frame g.k.μ λq j=>S.Ap q (λe=>Q q j e) (B q j),Tr.BP.2 ⟨Z,X,V,λe=>o (oJ _ e),λq j e=>B q j (oJ _ e)⟩,λq j e=>?_⟩;simp[Tr.idx,DN,I3] at e;rcases e with e|e|e;exact B q e (py _ j);exact o (e▸py _ j);exact Y q e q j rfl
def G1(l:List α):∀p,Tr.sz g.k.μ (g.k.split l p).1+Tr.sz g.k.μ (g.k.split l p).2=Tr.sz g.k.μ l/\Tr.mk g.k.μ (g.k.split l p).1+Tr.mk g.k.μ (g.k.split l p).2=Tr.mk g.k.μ l:=by
 induction l with
 |nil=>intro p;simp[Kd.split,Tr.sz,Tr.mk]
 |cons x l i=>
  intro p;simp[Kd.split];by_cases h0:p=0;rw[Cx h0];simp[Tr.sz,Tr.mk];rw[Bp h0];by_cases h1:(g.k.μ x).1<=p;rw[Cx h1];obtain⟨o,B⟩:=i (p-(g.k.μ x).1);simp[Tr.CF,Tr.EB];omega;rw[Bp h1];obtain⟨c1,c2,j⟩:=g.cutμ x p E E;simp[Tr.CF,Tr.EB];simp[Tr.sz,Tr.mk,wh,xm];omega
def FN.split{l:List α}(h:FN g l)(p:Nat):FN g (g.k.split l p).1/\FN g (g.k.split l p).2:=by
 obtain⟨h1,i⟩:=G1 (g:=g) l p;obtain⟨j,o⟩:=h;exact⟨⟨E,E⟩,E,E⟩
end
section
variable {α:Type}{g:AvN α}
def ZQ(r:V_):g.toAvK.enc r=.agg r.toArray:=by unfold AvK.enc;rw[g.one0];rfl
def DC(x:α):(g.cells x).length=g.E:=g.rlen (C:=λ_=>False) (w:=default) (g.Rc.2 rfl)
def FF(x:α):∀u∈g.cells x,u.oneCell'=true:=g.rone (C:=λ_=>False) (w:=default) (g.Rc.2 rfl)
def sO:XZ g.toAvT:=by
 intro F C W b i rt A n h hs hi;apply g.okN.pick;unfold ow;refine Bx.zero λb4 w1 B Q U=>?_;have h1:=h.U_ Q;apply AA (XP h1 hi);rintro _ w2 ⟨r,rfl,hr,I⟩;have j:=g.rlen hr;apply AZ (g.field0 r (Bs n) w2 j (g.rone hr) rfl);rw[ZQ];refine Bx.new j g.zlen (g.rone hr) λb5 w5 a6 J B5=>?_;have h5:=(h1.U_ I).U_ J;obtain⟨c,pl,fr,V⟩:=h5;apply AJ;rw[AB,AH];apply AD (V.box.cells 3 _ rfl);apply AA (QT V hi hs);rintro _ w7 ⟨F',a1,X,h7,O⟩;have s4:=Q.size;have s2:=I.size;have s5:=J.size;have s7:=O.size;have nF:∀{z:Nat},W.heap.size<=z->∀x,F x\/C x->x≠z:=λhz x o e=>by have:=h.lt x o;omega
 have Y:=U.lt (by rw[g.zlen];exact g.Epos);apply(B5.U' O λe=>nF E b5 (.inl e.1) rfl).GN j;refine(((U.U_ I).U_ J).U' O λe=>nF E b4 (.inl e.1) rfl).Au j g.zlen (g.rone hr) λw9 B9 Z=>?_;apply B9.GN j;have h9:=h7.U' Z λx o e=>by
  rcases o with o|o;rcases X x o with e'|e';exact nF B x (.inl e') e;omega;exact nF B x (.inr o) e
 refine⟨r,(ZQ r).symm,g.Rc.2 (g.Rc.1 hr),F',a1,λx o=>?_,h9,?_⟩;rcases X x o with e|e;exact .inl e;exact .inr E;exact((((Q.trans I).trans J).mono E').trans O).next Z E
end
variable {α:Type}{g:AvN α}
def Ir{a c:Nat}{k:d_->Prop}(h:c<=a)(ha:a<=9223372036854775807)(hk:k (zI (a-c:Nat))):Ec .i64 (zI a) (zI c) k:=by
 rw[A6,wrap64 E E];have e:((a:Int)-(c:Int))=((a-c:Nat):Int):=E;rw[e];exact hk
def ot{r:V_}(hr:r.length=g.E)(x:α):Instr.fill (λi=>[(0,g.E),(g.E,1),(g.E+1,1),(g.E+2,1),(g.E+3,1),(g.E+4,1)][i]?) g.toAvK.zN.toArray [(0,.agg r.toArray)]=some (r++Bs (⟨x,0,0,0,0,0⟩:Nd α)).toArray:=by
 have j:=g.zlen;rw[EK (l:=g.toAvK.zN) (vs:=r) (off:=0) (len:=g.E) rfl rfl hr (by rw[Kq];omega),HM,AvK.zN,KX E];rfl
def Uq{b i:Nat}{j:Int}{A:ArS α}{n:Nd α}{l r:Tr α}(h:Ex g.toAvT F C W b j A)(o:A.ps.length<=109951162777)(hi:A.f i=some n)(hl:Tr.Ac g.k.μ A.f l)(hr:Tr.Ac g.k.μ A.f r)(hu:Tr.H7 (.node l i n.x r))(hb:FN g.toAvT (Tr.node l i n.x r).toL) : AF prog g.fjoin [g_ b,zI l.root,zI i,zI r.root] (λv' w'=>∃t' B,v'=zI t'.root/\kB g.toAvT F C W w' b j A (Tr.node l i n.x r).toL (Tr.node l i n.x r).idx t' B) W:=Hk (l.Er+r.Er) (HK _) h o hi hl hr hu hb
def Vc(A:ArS α)(n:Nd α):(A.take n).ps.length<=A.ps.length+1:=by
 unfold ArS.take;split<;>simp
def pZ:Tp g.toAvT:=by
 intro C b rt t;induction t with
 |nil=>
  intro F W A p h hs _ _ _ _;apply g.okN.split;unfold XI;simp only[Tr.root];rw[Aj];refine AE (λ_=>?_) λe=>(e rfl).elim;exact⟨.nil,.nil,A,rfl,⟨⟨F,M_,J_,h,AK.refl _ _⟩,rfl,rfl,trivial,trivial,yr,(λq I=>nomatch I),I_,aBT _⟩⟩
 |node l i x r eA eB=>
  intro F W A p h hs hh hu hb hp;obtain⟨hl,hr,hi⟩:=id hh;obtain⟨u1,u2,u3,u4,u5⟩:=Tr.BP.1 hu;have Y:=g.k.RS l.toL r.toL x p;have c8:=hb.1;have c9:=hb.2;simp only[Tr.toL,Tr.DI,Tr.CF] at c8;simp only[Tr.toL,Tr.Hf,Tr.EB] at c9;have nF:∀{z:Nat},W.heap.size<=z->∀x,F x\/C x->x≠z:=λhz x hx e=>by have:=h.lt x hx;omega
  apply g.okN.split;unfold XI;simp only[Tr.root];rw[Aj];refine AE E λ_=>?_;refine E8 h hi λrc bx w3 V ca B ax=>?_;have a6:=g.rlen ax;refine Iw (B.cells (g.E+0) _ (by rw[Am a6];rfl)) ?_;apply AA (Ci (h.U_ V) hl);rintro _ w5 ⟨rfl,g5⟩;refine OI ?_;have e6:AI w5 w5.drew:=AK.drew _ _;have e7:=(V.trans g5).trans e6;obtain⟨c,pl,fr,hT⟩:=id h;have bl:=hT.U' e7 C0;have B5:=(B.U_ g5).U_ e6;apply Ag (λ_ _=>False);apply AJ;rw[AB,AH,AB,AH];apply AU ⟨bl.box.cells 0 _ rfl,C0⟩;rw[AB,AH];refine MN (g:=g.toAvT) (r:=rc) a6 (λj v hv=>⟨B5.cells j v (by rw[PF (Bq.1 hv).1];exact hv),C0⟩) ?_;apply BI (g.meas (C:=C) (x:=x) (g.Rc.2 (g.Rc.1 ax)));rintro _ w6 ⟨rfl,g6⟩;refine⟨g6.mono E',?_⟩;refine Bv ?_;have ay:=e7.trans g6;have gu:=ay.size;have h6:=h.U_ ay;have B6:=B5.U_ g6;rw[GI];refine AE (λgv=>?_) λgl=>?_;have e8:p<=Tr.sz g.k.μ l.toL:=E;rw[Cx e8] at Y;refine Iw (B6.cells (g.E+0) _ (by rw[Am a6];rfl)) ?_;apply AA (eA h6 hs hl u1 hb.KM.1 hp);rintro _ w8 ⟨a,c1,A1,rfl,o⟩;refine Bv ?_;obtain⟨F1,k1,k2,h8,m8⟩:=o.rN;refine Iw ((B6.U' m8 λe=>nF ca bx (.inl e.1) rfl).cells (g.E+1) _ (by rw[Am a6];rfl)) ?_;obtain⟨e1,e2,e3,e4⟩:=LD o hi hr hu;have cc:FN g.toAvT (Tr.node c1 i x r).toL:=by
   obtain⟨q1,q2⟩:=G1 (g:=g.toAvT) l.toL p;constructor;simp only[Tr.toL,Tr.DI,Tr.CF,o.r1];omega;simp only[Tr.toL,Tr.Hf,Tr.EB,o.r1];omega
  have eC:=o.len;apply AA (Hk (c1.Er+r.Er) (HK _) h8 E e1 o.hr e2 e3 cc);rintro _ eI ⟨t2,A2,rfl,O⟩;have Ix:=O.idx;have sm:∀q,q∈t2.idx↔q∈(Tr.node c1 i x r).idx:=λq=>O.idx.mem_iff;have s8:=m8.size;refine⟨a,t2,A2,rfl,⟨⟨F1,k1,λx hx=>(k2 x hx).imp E_ E,O.FZ,((ay.mono E').trans m8).next O.U' λx hx e=>?_⟩,?_,?_,o.hl.frame g.k.μ λq I=>O.Ap q (e4 q I),O.holds,?_,λq I=>?_,λq aa ak=>?_,by rw[O.len];omega⟩⟩;rcases k2 x e.1 with e'|e';exact⟨e',e.2⟩;omega;rw[o.l1];simp only[Tr.toL,Y];rw[O.toL];simp only[Tr.toL,Tr.FH,o.r1,Y];exact r8.2 ⟨(r8.1 o.KV).1,O.idx.nodup_iff.2 e3,λq I q' b8 e=>e4 q I (e▸(sm q').1 b8)⟩;rcases DN.1 I with I|I;rcases o.idx q (oJ _ I) with e|e;exact .inl n';exact .inr e;have:=(sm q).1 I;simp only[Tr.idx,DN,I3] at this ⊢;rcases this with e|e|e;rcases o.idx q (py _ e) with e|e;exact .inl (.inl e);exact .inr e;exact .inl (.inr (.inl e));exact .inl (.inr (.inr e));simp only[Tr.idx,DN,I3,aAu] at aa;have b9:q∉(Tr.node c1 i x r).idx:=λe=>ak (py _ ((sm q).2 e));refine(O.Ap q b9).trans (o.Ap q aa.1 λe=>?_);rcases DN.1 e with e|e;exact ak (oJ _ e);exact b9 n';have ch:¬p<=Tr.sz g.k.μ l.toL:=E;rw[Bp ch] at Y;apply Cy E;rw[DR];refine AE (λgw=>?_) λgp=>?_;have e9:Tr.sz g.k.μ l.toL+(g.k.μ x).1<=p:=E;rw[Cx e9] at Y;refine Iw (B6.cells (g.E+1) _ (by rw[Am a6];rfl)) ?_;refine Ir E E (Ir E E ?_);apply AA (eB h6 hs hr u2 hb.KM.2.cons.1 (p:=p-Tr.sz g.k.μ l.toL-(g.k.μ x).1) E);rintro _ w8 ⟨a,c1,A1,rfl,o⟩;refine Bv ?_;obtain⟨F1,k1,k2,h8,m8⟩:=o.rN;refine Iw ((B6.U' m8 λe=>nF ca bx (.inl e.1) rfl).cells (g.E+0) _ (by rw[Am a6];rfl)) ?_;obtain⟨e1,e2,e3,e4⟩:=KG o hi hl hu;have cc:FN g.toAvT (Tr.node l i x a).toL:=by
   obtain⟨q1,q2⟩:=G1 (g:=g.toAvT) r.toL (p-Tr.sz g.k.μ l.toL-(g.k.μ x).1);constructor;simp only[Tr.toL,Tr.DI,Tr.CF,o.l1];omega;simp only[Tr.toL,Tr.Hf,Tr.EB,o.l1];omega
  have eC:=o.len;apply AA (Hk (l.Er+a.Er) (HK _) h8 E e1 e2 o.hl e3 cc);rintro _ eI ⟨t2,A2,rfl,O⟩;have sm:∀q,q∈t2.idx↔q∈(Tr.node l i x a).idx:=λq=>O.idx.mem_iff;have s8:=m8.size;refine⟨t2,c1,A2,rfl,⟨⟨F1,k1,λx hx=>(k2 x hx).imp E_ E,O.FZ,((ay.mono E').trans m8).next O.U' λx hx e=>?_⟩,?_,?_,O.holds,o.hr.frame g.k.μ λq I=>O.Ap q (e4 q I),?_,λq I=>?_,λq aa ak=>?_,by rw[O.len];omega⟩⟩;rcases k2 x e.1 with e'|e';exact⟨e',e.2⟩;omega;rw[O.toL];simp only[Tr.toL,Tr.FH,o.l1,Y];rw[o.r1];simp only[Tr.toL,Y];exact r8.2 ⟨O.idx.nodup_iff.2 e3,(r8.1 o.KV).2.1,λq I q' b8 e=>e4 q' b8 (e▸(sm q).1 I)⟩;rcases DN.1 I with I|I;have:=(sm q).1 I;simp only[Tr.idx,DN,I3] at this ⊢;rcases this with e|e|e;exact .inl (.inl e);exact .inl (.inr (.inl e));rcases o.idx q (oJ _ e) with e|e;exact .inl (.inr (.inr e));exact .inr e;rcases o.idx q (py _ I) with e|e;exact .inl n';exact .inr e;simp only[Tr.idx,DN,I3,aAu] at aa;have b9:q∉(Tr.node l i x a).idx:=λe=>ak (oJ _ ((sm q).2 e));refine(O.Ap q b9).trans (o.Ap q aa.2.2 λe=>?_);rcases DN.1 e with e|e;exact b9 n';exact ak (py _ e);have cu:¬Tr.sz g.k.μ l.toL+(g.k.μ x).1<=p:=E;rw[Bp cu] at Y;have cx:0<p-Tr.sz g.k.μ l.toL:=E;have dj:p-Tr.sz g.k.μ l.toL<(g.k.μ x).1:=E;generalize eL:p-Tr.sz g.k.μ l.toL=J at Y cx dj;have b0:AI w6 w6.drew:=AK.drew _ _;refine AV (λvs W'=>∃a8 Z,vs=[g_ a8,g_ Z]/\w6.drew.heap.size<=a8/\w6.drew.heap.size<=Z/\AI w6.drew W'/\Bx W' a8 (g.cells (g.k.cut x J).1)/\Bx W' Z (g.cells (g.k.cut x J).2)) ?_ ?_;rotate_left;have al:∀{W':e_},Be prog En g.vc [.agg (g.cells x).toArray,zI (J:Int)] (λv w'=>v=.tuple #[.agg (g.cells (g.k.cut x J).1).toArray,.agg (g.cells (g.k.cut x J).2).toArray]/\AI W' w') W':=g.cutc cx dj E;have ea:=B6.U_ b0;have ed:=hT.U' (ay.trans b0) C0;have gq:=ed.box.lt (P9 _);have eN:=ea.lt (by rw[Ba _ ax];omega);have s6:=b0.size;apply Ag (λ_ y=>w6.drew.heap.size<=y);apply AJ;rw[AB,AH,AB,AH];refine AU ⟨ed.box.cells 1 _ rfl,λ_ _ e=>by simp only at e;omega⟩ ?_;rw[AB,AH];refine DF a6 (λj v hv=>⟨by rw[AH];exact ea.cells j v (by rw[PF (Bq.1 hv).1];exact hv),λ_ _ e=>by rw[AH] at e;simp only at e;omega⟩) ?_;apply Ir E E;rw[eL,g.Rc.1 ax];have a1:=DC (g:=g) (g.k.cut x J).1;have a7:=DC (g:=g) (g.k.cut x J).2;have b6:=FF (g:=g) (g.k.cut x J).1;have b7:=FF (g:=g) (g.k.cut x J).2;have gm:∀{W1 W2:e_},AI W1 W2->AK (λy=>w6.drew.heap.size<=y) W1 W2:=λg=>g.mono E';have nb:∀{z:Nat} {W':e_} {vs:V_},Bx W' z vs->vs.length=g.E->z<W'.heap.size:=λB' e=>B'.lt (by rw[e];exact g.Epos);have ng:∀{W1:e_},AI w6.drew W1->w6.drew.heap.size<=W1.heap.size:=λg=>g.size;refine⟨?_,?_,?_⟩;apply BI al;rintro _ w2 ⟨rfl,X⟩;refine⟨gm X,Af (vs:=[_,_]) (by rfl) (Af (vs:=[_,_]) (by rfl) ⟨?_,?_⟩)⟩;refine Bx.zero λa8 w3 an V Q=>⟨gm V,?_⟩;refine Bx.zero λZ w4 av g4 U=>⟨gm g4,?_⟩;have k1:=nb Q g.zlen;have k2:=X.size;have k3:=V.size;exact He ((X.trans V).trans g4) E E E (Q.U_ g4) U g.zlen a1 a7 b6 b7 λW' g' B1 B2=>⟨_,_,rfl,E,E,g',B1,B2⟩;refine Bx.zero λZ w3 av V U=>⟨gm V,?_⟩;refine Bx.zero λa8 w4 an g4 Q=>⟨gm g4,?_⟩;have k1:=nb U g.zlen;have k2:=X.size;have k3:=V.size;exact He ((X.trans V).trans g4) E E E Q (U.U_ g4) g.zlen a1 a7 b6 b7 λW' g' B1 B2=>⟨_,_,rfl,E,E,g',B1,B2⟩;refine Bx.zero λa8 w1 an g1 Q=>⟨gm g1,?_,?_⟩;apply BI al;rintro _ w2 ⟨rfl,X⟩;refine⟨gm X,Bv ?_⟩;refine Bx.zero λZ w3 av V U=>⟨gm V,?_⟩;have k1:=nb Q g.zlen;have k2:=X.size;have k3:=g1.size;exact He ((g1.trans X).trans V) E E E ((Q.U_ X).U_ V) U g.zlen a1 a7 b6 b7 λW' g' B1 B2=>⟨_,_,rfl,E,E,g',B1,B2⟩;refine Bx.zero λZ w3 av V U=>⟨gm V,?_⟩;apply BI al;rintro _ w2 ⟨rfl,X⟩;refine⟨gm X,Bv ?_⟩;have k1:=nb Q g.zlen;have k2:=V.size;have k3:=g1.size;exact He ((g1.trans V).trans X) E E E ((Q.U_ V).U_ X) (U.U_ X) g.zlen a1 a7 b6 b7 λW' g' B1 B2=>⟨_,_,rfl,E,E,g',B1,B2⟩;refine Bx.zero λZ w1 av g1 U=>⟨gm g1,?_,?_⟩;apply BI al;rintro _ w2 ⟨rfl,X⟩;refine⟨gm X,Bv ?_⟩;refine Bx.zero λa8 w3 an V Q=>⟨gm V,?_⟩;have k1:=nb U g.zlen;have k2:=X.size;have k3:=g1.size;exact He ((g1.trans X).trans V) E E E Q ((U.U_ X).U_ V) g.zlen a1 a7 b6 b7 λW' g' B1 B2=>⟨_,_,rfl,E,E,g',B1,B2⟩;refine Bx.zero λa8 w3 an V Q=>⟨gm V,?_⟩;apply BI al;rintro _ w2 ⟨rfl,X⟩;refine⟨gm X,Bv ?_⟩;have k1:=nb U g.zlen;have k2:=V.size;have k3:=g1.size;exact He ((g1.trans V).trans X) E E E (Q.U_ X) ((U.U_ V).U_ X) g.zlen a1 a7 b6 b7 λW' g' B1 B2=>⟨_,_,rfl,E,E,g',B1,B2⟩;rintro _ W1 ⟨a8,Z,rfl,an,av,ee,Q,U⟩ _;have s6:=b0.size;have eR:AI W W1:=(ay.trans b0).trans ee;have B1:=(B6.U_ b0).U_ ee;apply DY (λw'=>AI W1 w') (AK.drew _ _);rw[AB,AH];refine BR (λw' g'=>g'.cell (B1.cells (g.E+0) _ (by rw[Am a6];rfl)) E_) ?_;rw[AB,AH];refine BR (λw' g'=>g'.cell (B1.cells (g.E+1) _ (by rw[Am a6];rfl)) E_) ?_;intro W2 bp;have ef:=U.U_ bp;simp only[Iu];have a1:=DC (g:=g) (g.k.cut x J).1;have a7:=DC (g:=g) (g.k.cut x J).2;apply(Q.U_ bp).GN a1;rw[AB,AH];refine(B1.U_ bp).part a1 (by rw[Ba _ ax];omega) (FF (g:=g) (g.k.cut x J).1) λW3 B3 m3=>?_;rw[KX (by rw[a1,a6])] at B3;have eV:AI W W3:=(eR.trans bp).next m3 E
  have gr:=B6.lt (by rw[Ba _ ax];omega);have dk:AI W3 W3.drew:=AK.drew _ _;have ba:=eV.trans dk;have bb:=hT.U' ba C0;apply Ag (λ_ y=>Fb F b y);apply AJ;rw[AB,AH];apply AU ⟨bb.box.cells 3 _ rfl,λ_ _ e=>e.2 rfl⟩;refine DF (vs:=g.cells (g.k.cut x J).1++Bs (Tr.FH g.k.μ (.node l i x r) x l.root r.root)) (by rw[Ad,a1];rfl) (λj v hv=>⟨by rw[AH];exact(B3.U_ dk).cells j v hv,λ_ _ e=>by rw[AH] at e;exact nF ca bx (.inl e.1) rfl⟩) ?_;apply AA (ZC bb.ar hi (n:={ Tr.FH g.k.μ (.node l i x r) x l.root r.root with x:=(g.k.cut x J).1 }) (g.Rc.2 rfl));rintro _ W4 ⟨eX,m4⟩;have bk:AK (Fb F b) W3.drew W4:=m4.mono λx _ e=>(bb.ar.pF x e).1;refine⟨bk,?_⟩;have h4:Ex g.toAvT F C W4 b rt (A.put i { Tr.FH g.k.μ (.node l i x r) x l.root r.root with x:=(g.k.cut x J).1 }):=⟨c,pl,fr,bb.box.U' bk λe=>e.2 rfl,eX,bb.fb⟩;have eh:(A.put i { Tr.FH g.k.μ (.node l i x r) x l.root r.root with x:=(g.k.cut x J).1 }).f i=some { Tr.FH g.k.μ (.node l i x r) x l.root r.root with x:=(g.k.cut x J).1 }:=by rw[ArS.NQ hi,Tr.NZ]
  have ei:Tr.Ac g.k.μ (A.put i { Tr.FH g.k.μ (.node l i x r) x l.root r.root with x:=(g.k.cut x J).1 }).f l:=by rw[ArS.NQ hi];exact hl.out g.k.μ _ u3
  have ej:Tr.Ac g.k.μ (A.put i { Tr.FH g.k.μ (.node l i x r) x l.root r.root with x:=(g.k.cut x J).1 }).f r:=by rw[ArS.NQ hi];exact hr.out g.k.μ _ u4
  have dr:∀q,q≠i->(A.put i { Tr.FH g.k.μ (.node l i x r) x l.root r.root with x:=(g.k.cut x J).1 }).f q=A.f q:=λq I=>Kf hi I;have uC:=Et A i { Tr.FH g.k.μ (.node l i x r) x l.root r.root with x:=(g.k.cut x J).1 };generalize A.put i { Tr.FH g.k.μ (.node l i x r) x l.root r.root with x:=(g.k.cut x J).1 }=A4 at h4 eh ei ej dr uC;have c6:=((ef.U' m3 E).U_ dk).U' bk λe=>by have:=h.lt Z (.inl e.1);omega
  have bs:AI W4 W4.drew:=AK.drew _ _;have ek:=h4.U_ bs;have ez:=c6.lt (by rw[a7];exact g.Epos);apply Ag (λ_ y=>Fb F b y\/W4.drew.heap.size<=y);obtain⟨q1,q2,q3⟩:=g.cutμ x J cx dj;have en:Tr.H7 (.node l i (g.k.cut x J).1 .nil):=Tr.BP.2 ⟨u1,yr,u3,(λe=>nomatch e),λq _ e=>nomatch e⟩;have fo:FN g.toAvT (Tr.node l i (g.k.cut x J).1 .nil).toL:=by
   constructor;simp only[Tr.toL,Tr.DI,Tr.CF];simp only[Tr.sz,wh,xm] at c8 ⊢;omega;simp only[Tr.toL,Tr.Hf,Tr.EB];simp only[Tr.mk,wh,xm] at c9 ⊢;omega
  apply AA (Uq (l:=l) (r:=.nil) ek E eh ei trivial en fo);rintro _ W5 ⟨t1,A5,rfl,o⟩;refine⟨o.U'.mono λx _ e=>.inl e,?_⟩;have z4:=bs.size;obtain⟨c',gx,gy,bl⟩:=id o.FZ;apply AJ;rw[AB,AH];obtain⟨cd,gA,gB,dT⟩:=id ek;have fs:¬(Fb F b b\/W4.drew.heap.size<=b):=λe=>by
   rcases e with e|e;exact e.2 rfl;have:=dT.box.lt (P9 _);omega
  have ec:cd=c':=by
   have e1:=o.U'.cell (dT.box.cells 3 _ rfl) λe=>e.2 rfl;rw[bl.box.cells 3 _ rfl] at e1;cases e1;rfl
  subst ec;apply AU ⟨dT.box.cells 3 _ rfl,λ_ _ e=>fs e⟩;refine DF a7 (λj v hv=>⟨by rw [AH];exact bs.cell (c6.cells j v hv) E_,λk _ e=>by
   rw [AH] at e;rcases e with e | e;have:=h.lt Z (.inl e.1);omega;simp only at e;omega⟩) ?_
  refine⟨_,ot a7 (g.k.cut x J).2,?_⟩;have nV:=o.len;apply AA (Py bl (n:=⟨(g.k.cut x J).2,0,0,0,0,0⟩) (g.Rc.2 rfl) E);rintro _ W6 ⟨rfl,F6,k1,k2,h6,m6⟩;have z5:=o.U'.size;have z6:=m6.size;refine⟨m6.mono λx _ e=>.inl e,?_⟩;obtain⟨c4,eo,tok⟩:=ArS.Xf (⟨(g.k.cut x J).2,0,0,0,0,0⟩:Nd α) o.FZ.ok;have ep:A5.num∉(Tr.node l i (g.k.cut x J).1 .nil).idx->A4.f A5.num=none:=λI=>(o.Ap _ I).symm.trans eo;have e5:A5.num∉t1.idx:=λe=>by
   obtain⟨m,hm⟩:=o.holds.LF g.k.μ e;rw[eo] at hm;cases hm
  have er:A5.num∉(Tr.node l i (g.k.cut x J).1 .nil).idx:=λe=>e5 (o.idx.mem_iff.2 e);have fv:A5.num≠i:=λe=>er n';have et:A.f A5.num=none:=(dr _ fv).symm.trans (ep er);have eu:A5.num∉r.idx:=λe=>by
   obtain⟨m,hm⟩:=hr.LF g.k.μ e;rw[et] at hm;cases hm
  have fx:Tr.Ac g.k.μ A5.f r:=ej.frame g.k.μ λq I=>o.Ap q λe=>by
   simp only[Tr.idx,DN,I3,wA,xx] at e;rcases e with e|e;exact u5 q e I;exact u4 (e▸I)
  have ga:Tr.Ac g.k.μ (A5.take ⟨(g.k.cut x J).2,0,0,0,0,0⟩).f r:=by rw[c4];exact fx.out g.k.μ _ eu
  have gb:(A5.take ⟨(g.k.cut x J).2,0,0,0,0,0⟩).f A5.num=some ⟨(g.k.cut x J).2,0,0,0,0,0⟩:=by rw[c4,Tr.NZ]
  have ph:(A5.take ⟨(g.k.cut x J).2,0,0,0,0,0⟩).ps.length<=A5.ps.length+1:=Vc _ _;have ew:Tr.H7 (.node .nil A5.num (g.k.cut x J).2 r):=Tr.BP.2 ⟨yr,u2,(λe=>nomatch e),eu,λq e=>nomatch e⟩;have gd:FN g.toAvT (Tr.node .nil A5.num (g.k.cut x J).2 r).toL:=by
   constructor;simp only[Tr.toL,Tr.DI,Tr.CF];simp only[Tr.sz,wh,xm] at c8 ⊢;omega;simp only[Tr.toL,Tr.Hf,Tr.EB];simp only[Tr.mk,wh,xm] at c9 ⊢;omega
  apply AA (Uq (l:=.nil) (r:=r) h6 E gb trivial ga ew gd);rintro _ W7 ⟨t2,A7,rfl,O⟩;refine⟨O.U'.mono λx _ e=>?_,?_⟩;rcases k2 x e.1 with e'|e';exact .inl ⟨e',e.2⟩;exact .inr E;have ey:∀q,q∈t1.idx↔q∈l.idx\/q=i:=λq=>by rw[o.idx.mem_iff];simp[Tr.idx]
  have gf:∀q,q∈t2.idx↔q=A5.num\/q∈r.idx:=λq=>by rw[O.idx.mem_iff];simp[Tr.idx]
  have c7:∀q∈t1.idx,q∉(Tr.node .nil A5.num (g.k.cut x J).2 r).idx:=λq I e=>by
   simp only[Tr.idx,u7,I3] at e;rcases e with e|e;exact e5 (e▸I);rcases(ey q).1 I with e'|e';exact u5 q e' e;exact u4 (e'▸e)
  have gg:Tr.Ac g.k.μ (A5.take ⟨(g.k.cut x J).2,0,0,0,0,0⟩).f t1:=by rw[c4];exact o.holds.out g.k.μ _ e5
  have z7:=ba.size;have z8:=bk.size;refine⟨t1,t2,A7,rfl,⟨⟨F6,k1,λx hx=>(k2 x hx).imp E_ E,O.FZ,?_⟩,?_,?_,gg.frame g.k.μ λq I=>O.Ap q (c7 q I),O.holds,?_,λq I=>?_,λq aa ak=>?_,by rw[O.len];omega⟩⟩;have n1:AK (Fb F b) W W4:=(ba.mono E').trans bk;refine(((n1.trans (bs.mono E')).trans o.U').trans m6).next O.U' λx hx e=>?_
  rcases k2 x e.1 with e'|e';exact⟨e',e.2⟩;omega;rw[o.toL];simp only[Tr.toL,Y];rw[O.toL];simp only[Tr.toL,Y,u7];refine r8.2 ⟨o.idx.nodup_iff.2 en,O.idx.nodup_iff.2 ew,λq I q' b8 e=>?_⟩;subst e;exact c7 q I (O.idx.mem_iff.1 b8);rcases DN.1 I with I|I;rcases(ey q).1 I with e|e;exact .inl n';exact .inl n';rcases(gf q).1 I with e|e;exact .inr (e▸et);exact .inl n';simp only[Tr.idx,DN,I3,aAu] at aa;have w1:q∉(Tr.node .nil A5.num (g.k.cut x J).2 r).idx:=λe=>ak (py _ (O.idx.mem_iff.2 e));have w2:q∉(Tr.node l i (g.k.cut x J).1 .nil).idx:=λe=>ak (oJ _ (o.idx.mem_iff.2 e));have w3:q≠A5.num:=λe=>w1 n';have e2:(A5.take ⟨(g.k.cut x J).2,0,0,0,0,0⟩).f q=A5.f q:=by rw[c4,Tr.Em _ w3]
  exact((O.Ap q w1).trans (e2.trans (o.Ap q w2))).trans (dr q aa.2.1)
end
end Go.Proofs.YtlmjclmngedmkaaGreatDoor
