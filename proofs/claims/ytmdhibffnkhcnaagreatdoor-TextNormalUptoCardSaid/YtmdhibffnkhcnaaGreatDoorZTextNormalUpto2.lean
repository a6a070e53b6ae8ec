/- parts of the proof, written short by a program of ours -/
import Derived.Test.YtmdhibffnkhcnaaGreatDoorZTextNormalUpto1
import Derived.Laws.IdiomStrings
import Derived.Lib.AppendZeros
set_option linter.unusedSimpArgs false
set_option linter.unusedVariables false
namespace Go.Proofs.YtmdhibffnkhcnaaGreatDoor
open Go Proofs.Tryz
variable {i j c B I:Nat}{w W w' W' w0:World}{F S C M:Nat->Prop}{v fr:Value}{most:Int}{vs cs args:List Value}{α:Type}{rs:List Int}{K:Cont}{P:Program}
theorem Dp(l:List α):l=[]\/∃i b,l=i++[b]:=by
 rcases kb l with h|⟨i,b,h⟩
 .exact .inl h
 .exact .inr ⟨i,b,by simpa using h⟩
theorem PE{n:Int}{s:List Attr}(h:0<n):IN [] n s=[⟨n,s⟩]:=by
 simp[IN,show ¬n<=0 by omega]
theorem NN{i:List Gu}{b:Gu}{n:Int}{s:List Attr}(h:0<n):IN (i++[b]) n s=if b.set=s then i++[⟨IntKind.i64.wrap (b.n+n),b.set⟩] else i++[b]++[⟨n,s⟩]:=by
 unfold IN;rw[C3 (by omega)];simp only[S5,X1,ki];split
 .simp
 .rfl
theorem Nt{l:List Gu}{n:Int}{s:List Attr}(h:n<=0):IN l n s=l:=by simp[IN,h]
def SX(acc l:List Gu):List Gu:=l.foldl (fun acc b=>IN acc b.n b.set) acc
def PB(acc:List Gu)(l:List Cel):List Gu:=l.foldl (fun acc c=>IN acc 1 c.inl) acc
theorem IW{p:List α->Prop}(h0:p [])(h1:∀l a,p l->p (l++[a])):∀l,p l:=by
 intro l;have:∀n,∀l:List α,l.length=n->p l:=by
  intro n;induction n with
  |zero=>intro l hl;rw[QC hl];exact h0
  |succ n j=>
   intro l hl;rcases Dp l with rfl|⟨i,b,rfl⟩
   .simp at hl
   .exact h1 i b (j i (by simp at hl;omega))
 exact this _ l rfl
theorem Jk.grow{S D:Nat->Prop}{l:List Cel}(h:Jk S D w v l)(i:Grow w w'):Jk S D w' v l:=
 BB.grow h i (by decide) fun _ _ j=>j.mod i (fun _ _ _ h=>h) fun _ _ h=>h
def rep(n:Int)(s:List Attr):List (List Attr):=List.replicate n.toNat s
def pl(l:List Gu):List (List Attr):=l.flatMap fun b=>rep b.n b.set
def NonNeg(l:List Gu):Prop:=∀b∈l,0<=b.n
abbrev XF:Nat:=4611686018427387904
theorem Xm:pl []=[]:=rfl
theorem HF(l m:List Gu):pl (l++m)=pl l++pl m:=by simp[pl]
theorem MQ(b:Gu):pl [b]=rep b.n b.set:=by simp[pl]
theorem Gl(b:Gu)(l:List Gu):pl (b::l)=rep b.n b.set++pl l:=by simp[pl]
theorem Gk(n:Int)(s:List Attr):(rep n s).length=n.toNat:=by simp[rep]
theorem OG{acc:List Gu}{n:Int}{s:List Attr}(ha:NonNeg acc)(hb:(pl acc).length+n.toNat<=XF):pl (IN acc n s)=pl acc++rep n s/\NonNeg (IN acc n s):=by
 by_cases I:n<=0
 .rw[Nt I];refine⟨?_,ha⟩;have:n.toNat=0:=by omega
  simp[rep,this]
 have o:0<n:=by omega
 rcases Dp acc with rfl|⟨i,b,rfl⟩
 .rw[PE o];refine⟨by simp[pl],fun x j=>?_⟩;simp at j;subst j;simp only;omega
 .rw[NN o];have B:=ha b (by simp);rw[HF,Bq,MQ,Gk] at hb;simp only[XF] at hb;by_cases E:b.set=s
  .rw[Io E,wrap64 (by omega) (by omega)];refine⟨?_,fun x j=>?_⟩
   .rw[HF,HF,MQ,MQ,PF];congr 1
    simp only[rep,<-E,nK];congr 1;omega
   .simp only[DN,P9] at j;rcases j with j|rfl
    .exact ha x (by simp[j])
    .simp only;omega
  .rw[C3 E];refine⟨by rw[HF (i++[b]),MQ],fun x j=>?_⟩;simp only[DN,P9] at j;rcases j with(j|rfl)|rfl
   .exact ha x (by simp[j])
   .exact B
   .simp only;omega
theorem Xk:∀(l acc:List Gu),NonNeg acc->(pl acc).length+(pl l).length<=XF->pl (SX acc l)=pl acc++pl l/\NonNeg (SX acc l):=by
 intro l;induction l with
 |nil=>intro acc ha _;exact⟨by simp[SX,pl],ha⟩
 |cons b l i=>
  intro acc ha hb;rw[Gl,Bq,Gk] at hb;obtain⟨h1,j⟩:=OG (s:=b.set) (n:=b.n) ha (by omega);obtain⟨o,B⟩:=i (IN acc b.n b.set) j (by rw[h1,Bq,Gk];omega);refine⟨?_,B⟩;show pl (SX (IN acc b.n b.set) l)=_;rw[o,h1,Gl,PF]
theorem Xg:∀(l:List Cel) (acc:List Gu),NonNeg acc->(pl acc).length+l.length<=XF->pl (PB acc l)=pl acc++l.map Cel.inl/\NonNeg (PB acc l):=by
 intro l;induction l with
 |nil=>intro acc ha _;exact⟨by simp[PB],ha⟩
 |cons c l i=>
  intro acc ha hb;rw[Vn] at hb;obtain⟨h1,j⟩:=OG (s:=c.inl) (n:=1) ha (by simp only[pB];omega);obtain⟨o,B⟩:=i (IN acc 1 c.inl) j (by rw[h1,Bq,Gk];simp only[pB];omega);refine⟨?_,B⟩;show pl (PB (IN acc 1 c.inl) l)=_;rw[o,h1];simp[rep]
theorem gT{l:List Gu}(hb:(pl l).length<=XF):pl (bE l)=pl l/\NonNeg (bE l):=by
 have h:=Xk l [] (fun _ h=>nomatch h) (by simpa[pl] using hb);rw[Xm,kS] at h;exact h
theorem fR{l:List Cel}(hb:l.length<=XF):pl (gD l)=l.map Cel.inl/\NonNeg (gD l):=by
 have h:=Xg l [] (fun _ h=>nomatch h) (by simpa[pl] using hb);rw[Xm,kS] at h;exact h
def FG:List Gu->Prop
 |[]=>True
 |b::r=>0<b.n/\(∀c,r.head?=some c->b.set≠c.set)/\FG r
theorem JR:∀(l:List Gu) (b:Gu),FG (l++[b])↔FG l/\0<b.n/\∀c,l.getLast?=some c->c.set≠b.set:=by
 intro l;induction l with
 |nil=>intro b;simp[FG]
 |cons a r E=>
  intro b;simp only[WJ,FG,E];cases r with
  |nil=>
   simp only[kS,pH,i6,FG,X1,List.head?_nil];constructor
   .rintro⟨h1,o,B,i,j⟩;exact⟨⟨h1,fun c h=>(nomatch h),trivial⟩,i,fun c hc=>by subst hc;exact o b rfl⟩
   .rintro⟨⟨h1,_,_⟩,i,j⟩;exact⟨h1,fun c hc=>by subst hc;exact j a rfl,trivial,i,fun c h=>(nomatch h)⟩
  |cons c r=>
   simp only[WJ,pH,oX];constructor
   .rintro⟨h1,o,B,i,j⟩;exact⟨⟨h1,o,B⟩,i,j⟩
   .rintro⟨⟨h1,o,B⟩,i,j⟩;exact⟨h1,o,B,i,j⟩
theorem T7{acc:List Gu}{n:Int}{s:List Attr}(h:FG acc)(hb:(pl acc).length+n.toNat<=XF):FG (IN acc n s):=by
 by_cases E:n<=0
 .rw[Nt E];exact h
 have j:0<n:=by omega
 rcases Dp acc with rfl|⟨i,b,rfl⟩
 .rw[PE j];exact⟨j,fun c h=>(nomatch h),trivial⟩
 .rw[NN j];have o:=(JR i b).1 h;rw[HF,Bq,MQ,Gk] at hb;simp only[XF] at hb;by_cases B:b.set=s
  .rw[Io B];refine(JR _ _).2 ⟨o.1,?_,o.2.2⟩;have:=o.2.1;show 0<IntKind.i64.wrap (b.n+n);rw[wrap64 (by omega) (by omega)];omega
  .rw[C3 B];refine(JR _ _).2 ⟨h,j,fun c hc=>?_⟩;simp at hc;subst hc;exact B
theorem OX:∀(l:List Gu),FG l->NonNeg l:=by
 intro l;induction l with
 |nil=>intro _ b hb;simp at hb
 |cons a r i=>
  rintro⟨h1,_,j⟩ b hb;rcases I3.1 hb with rfl|hb
  .omega
  .exact i j b hb
theorem Qy:∀(l:List Cel) (acc:List Gu),FG acc->(pl acc).length+l.length<=XF->FG (PB acc l):=by
 intro l;induction l with
 |nil=>intro acc ha _;exact ha
 |cons b l i=>
  intro acc ha hb;rw[Vn] at hb;refine i _ (T7 ha (by simp only[pB];omega)) ?_;rw[(OG (OX _ ha) (by simp only[pB];omega)).1,Bq,Gk];simp only[pB];omega
theorem WA{l:List Cel}(hb:l.length<=XF):FG (gD l):=Qy l [] trivial (by simpa[pl] using hb)
theorem JY{b:Gu}{r:List Gu}(h:FG (b::r)):(pl (b::r)).head?=some b.set:=by
 rw[Gl];have h1:=h.1;have:b.n.toNat=(b.n.toNat-1)+1:=by omega
 simp only[rep];rw[this,List.replicate_succ];rfl
theorem uniq:∀(l m:List Gu),FG l->FG m->pl l=pl m->l=m:=by
 intro l;induction l with
 |nil=>
  intro m _ hm h;cases m with
  |nil=>rfl
  |cons c m=>have:=JY hm;rw[<-h] at this;simp[pl] at this
 |cons b l O=>
  intro m hl hm h;cases m with
  |nil=>have:=JY hl;rw[h] at this;simp[pl] at this
  |cons c m=>
   have B:b.set=c.set:=by
    have h1:=JY hl;have Q:=JY hm;rw[h,Q] at h1;exact(kK h1).symm
   have i:∀(b:Gu) (r:List Gu),FG (b::r)->∀n:Nat,(pl r)[0]?≠some b.set:=by
    intro b r hp _ h;cases r with
    |nil=>simp[pl] at h
    |cons d r=>
     have:=JY hp.2.2;rw[<-List.head?_eq_getElem?,this] at h;exact hp.2.1 d rfl (kK h).symm
   have I:b.n.toNat=c.n.toNat:=by
    rw[Gl,Gl] at h;rcases Nat.lt_trichotomy b.n.toNat c.n.toNat with j|heq|o
    .exfalso;have h1:=kM (fun x=>x[b.n.toNat]?) h;rw[kH (by simp[rep]),Q0 (by rw[Gk];exact j)] at h1;simp only[rep,lD,oB,mb,j,km] at h1;exact i b l hl 0 (by rw[h1,B])
    .exact heq
    .exfalso;have h1:=kM (fun x=>x[c.n.toNat]?) h;rw[Q0 (by rw[Gk];exact o),kH (by simp[rep])] at h1;simp only[rep,lD,oB,mb,o,km] at h1;exact i c m hm 0 (by rw[<-h1,B])
   have S:=hl.1;have T:=hm.1;have J:b.n=c.n:=by omega
   have E:b=c:=by cases b;cases c;simp only at J B;rw[J,B]
   subst E;rw[Gl,Gl] at h;rw[O m hl.2.2 hm.2.2 (List.append_cancel_left h)]
theorem AF{p:Prop}[Decidable p]{A B:Prop}(h1:p->A)(i:¬p->B):AD (.bool (decide p)) A B:=by
 rw[ZO];split
 .exact h1 (by assumption)
 .exact i (by assumption)
theorem Qn{q:IntKind}{a:Int}{A B:Prop}(h:B):EB q (.int q a) (.int q a) fun t=>AD t A B:=by
 rw[Bm,kj rfl];exact h
theorem BV{a b:Value}{k:Value->Value->Prop}(h:k a b):AQ 0 (.tuple #[a,b]) fun x=>AQ 1 (.tuple #[a,b]) fun y=>k x y:=CW (vs:=[_,_]) (by rfl) (CW (vs:=[_,_]) (by rfl) h)
theorem Kh{a b c:Value}{k:Value->Value->Value->Prop}(h:k a b c):AQ 0 (.tuple #[a,b,c]) fun x=>AQ 1 (.tuple #[a,b,c]) fun y=>AQ 2 (.tuple #[a,b,c]) fun z=>k x y z:=CW (vs:=[_,_,_]) (by rfl) (CW (vs:=[_,_,_]) (by rfl) (CW (vs:=[_,_,_]) (by rfl) h))
theorem GJ:(∀(l:List Value) k,nth l (k+1)=nth l.tail k)/\(∀l:List Value,nth l 0=l.headD undef)/\(∀(a:Value) l d,(a::l).headD d=a)/\∀(a:Value) l,(a::l).tail=l:=⟨Sb,B0,fun _ _ _=>rfl,fun _ _=>rfl⟩
theorem H6{q:IntKind}{a b:Int}{A B:Prop}(h1:a<b->A)(i:¬a<b->B):Bb q (.int q a) (.int q b) fun t=>AD t A B:=by
 rw[Ap];exact AF h1 i
theorem AH(g x:Nat):(⟨g,0,none⟩:Addr).add x=⟨g,x,none⟩:=by unfold Addr.add;split<;>simp_all
theorem Bt{b q:Nat}{K:Value->World->Prop}(hc:w.cell? ⟨b,q,none⟩=some v)(h:K v w):AM q (.pointer (some ⟨b,0,none⟩)) fun t=>AL t K w:=by
 rw[AG,AH];exact AK hc h
def Live(w:World)(a:Addr):Prop:=(w.cell? a).isSome=true/\w.frozen? a=false
theorem Live.set{a:Addr}(h:Live w a)(b:Addr)(u:Value):Live (w.setCell b u) a:=by
 refine⟨?_,by rw[qL];exact h.2⟩;obtain⟨v,i⟩:=jV.1 h.1;by_cases e:b=a
 .subst e;rw[kJ w _ u i];rfl
 .rw[S4 w _ _ u e,i];rfl
theorem Live.mod{a:Addr}(h:Live w a)(hm:Mod M w w')(i:¬M a.block):Live w' a:=by
 obtain⟨v,j⟩:=jV.1 h.1;exact⟨by rw[hm.cell j i];rfl,(hm.frozen (kT w a j) i).trans h.2⟩
theorem Live.st{a:Addr}{u:Value}{K:World->Prop}(h:Live w a)(h1:u.oneCell'=true)(i:u.cells=#[u])(j:K (w.setCell a u)):BC (.pointer (some a)) u K w:=by
 obtain⟨v,o⟩:=jV.1 h.1;exact Kf h1 i o h.2 j
theorem AE.live{B e k:Nat}{R:World->List Value->α->Prop}{a:Option Addr}{n c:Nat}{l:List α}(h:AE B e k R w (.slice a n c) l)(hi:i<l.length)(V:j<k) :
  ∃g,a=some ⟨g,0,none⟩/\n=l.length/\Live w ((⟨g,0,none⟩:Addr).add (i*k+j)):=by
 obtain⟨rows,h1,S,T,X⟩:=h;have J:∀r∈rows,r.length=k:=fun r hr=>(T r hr).1;have O:∃g,a=some ⟨g,0,none⟩/\n=l.length:=by
  rcases h1.2 with⟨I,Y⟩|⟨g',Q,U,I,_⟩
  .omega
  .simp only[mZ] at I;exact⟨g',I.1,I.2.1⟩
 obtain⟨g,rfl,rfl⟩:=O;refine⟨g,rfl,rfl,?_⟩;have o:(⟨g,0,none⟩:Addr).add (i*k+j)=⟨g,i*k+j,none⟩:=by unfold Addr.add;split<;>simp_all
 have E:i*k+j<l.length*k:=by
  have:(i+1)*k<=l.length*k:=lF _ hi;rw[ku] at this;omega
 rw[o];refine⟨?_,h1.frozenAt _⟩;rw[h1.cellAt _ E];simp[FE rows J,S,E]
section
structure Chg where
 key:Int
 gone:Bool
 val:BK
 deriving DecidableEq
def Chg.cells(a:Chg):List Value:=.int .i64 a.key::.bool a.gone::a.val.cells
abbrev Ep:World->List Value->Chg->Prop:=fun _ r x=>r=x.cells
abbrev Bo:World->List Value->Int->Prop:=fun _ r x=>r=[.int .i32 x]
abbrev KR(S:Nat->Prop)(w:World)(v:Value)(l:List Int):Prop:=BB S 1 Bo w v l
abbrev FY(S:Nat->Prop)(w:World)(v:Value)(l:List Chg):Prop:=BB S 6 Ep w v l
theorem Bo.one{r:List Value}{x:Int}(h:Bo w r x):∀u∈r,u.oneCell'=true:=by
 subst h;intro u hu;simp at hu;subst hu;rfl
theorem Ep.one{r:List Value}{x:Chg}(h:Ep w r x):∀u∈r,u.oneCell'=true:=by
 intro u hu;subst h;simp only[Chg.cells,BK.cells,I3,kV,mI] at hu;rcases hu with rfl|rfl|rfl|rfl|rfl|rfl<;>rfl
theorem Ie:DU prog 80 21 1 4:=⟨Tryz.t21,.int .i32 0,by kernel_rfl,by kernel_rfl,by kernel_rfl,by kernel_rfl,by kernel_rfl,by rfl,by decide⟩
theorem Ph:DU prog 81 133 6 56:=⟨Tryz.t133,.agg #[.int .i64 0,.bool false,.int .u8 0,.int .i64 0,.int .u64 0,.string ⟨#[]⟩],by kernel_rfl,by kernel_rfl,by kernel_rfl,by kernel_rfl,by kernel_rfl,by rfl,by decide⟩
theorem L2(n:Nat)(x y:BK)(w:World) :
  (Op.equalIn (n+2) 77 (.agg x.cells.toArray) (.agg y.cells.toArray)).run prog w=.ok (decide (x=y)) w:=by
 have i:prog.underlying 77=some (.struct (prog.fieldsOf 77)):=by kernel_rfl
 have j:=underlying5;have o:=underlying2;have B:=underlying75;have E:=underlying9;have a3:=Tryz.isAgg5;have a4:=Tryz.isAgg2;have a5:=Tryz.isAgg75;have I:=Tryz.isAgg9;rw[pE w (n+1) _ _ _ i Tryz.stoodInHeld77];simp only[Program.fieldsOf,underlying77,BK.cells];have J:∀a b:Int,(Op.equalIn (n+1) 5 (.int .u8 a) (.int .u8 b)).run prog w=.ok (a==b) w:=fun a b=>mR w n _ _ _ a b j;have O:∀a b:Int,(Op.equalIn (n+1) 2 (.int .i64 a) (.int .i64 b)).run prog w=.ok (a==b) w:=fun a b=>mR w n _ _ _ a b o;have Q:∀a b:Int,(Op.equalIn (n+1) 75 (.int .u64 a) (.int .u64 b)).run prog w=.ok (a==b) w:=fun a b=>mR w n _ _ _ a b B;have S:∀a b:ByteArray,(Op.equalIn (n+1) 9 (.string a) (.string b)).run prog w=.ok (a.toList==b.toList) w:=fun a b=>run_equalIn_string w n _ a b E;have q:decide (x=y)=(x.kind==y.kind&&(x.n==y.n&&(x.f==y.f&&decide (x.s=y.s)))):=by
  cases x;cases y;rw[mi];simp[BK.mk.injEq]
 rw[q];simp[Op.eqFields,part,a3,a4,a5,I,J,O,Q,S,toList_beq];by_cases h1:x.kind=y.kind<;>by_cases T:x.n=y.n<;>by_cases U:x.f=y.f<;>by_cases V:x.s=y.s<;>simp[h1,T,U,V]
theorem Uv(a b:Chg)(w:World) :
  (Op.equalIn 10000 133 (.agg a.cells.toArray) (.agg b.cells.toArray)).run prog w=.ok (decide (a=b)) w:=by
 have i:prog.underlying 133=some (.struct (prog.fieldsOf 133)):=by kernel_rfl
 rw[show(10000:Nat)=9999+1 from rfl,pE w 9999 _ _ _ i Tryz.stoodInHeld133];simp only[Program.fieldsOf,underlying133,Chg.cells,BK.cells];have j:=Tryz.isAgg3;have o:=Tryz.isAgg77;have a3:=Tryz.isAgg4;have B:∀w,(sizeOf 77).run prog w=.ok 4 w:=fun w=>by simp only[sizeOf,kD,Tryz.typeInfo77,S3,k7];rfl
 have E:∀a b:Int,(Op.equalIn 9999 3 (.int .i64 a) (.int .i64 b)).run prog w=.ok (a==b) w:=fun a b=>mR w 9998 _ _ _ a b underlying3;have I:∀a b:Bool,(Op.equalIn 9999 4 (.bool a) (.bool b)).run prog w=.ok (a==b) w:=fun a b=>run_equalIn_bool w 9998 _ a b underlying4;have J:(Op.equalIn 9999 77 (.agg #[.int .u8 a.val.kind,.int .i64 a.val.n,.int .u64 a.val.f,.string a.val.s]) (.agg #[.int .u8 b.val.kind,.int .i64 b.val.n,.int .u64 b.val.f,.string b.val.s])).run prog w=.ok (decide (a.val=b.val)) w:=L2 9997 a.val b.val w;have O:∀k l q r s t:Value,(#[k,l,q,r,s,t]:Array Value).extract 2 6=#[q,r,s,t]:=fun _ _ _ _ _ _=>rfl;have q:decide (a=b)=(a.key==b.key&&(a.gone==b.gone&&decide (a.val=b.val))):=by
  cases a;cases b;rw[mi];simp[Chg.mk.injEq]
 rw[q];simp[Op.eqFields,part,j,o,a3,B,E,I,J,O];by_cases h1:a.key=b.key<;>by_cases Q:a.gone=b.gone<;>by_cases S:a.val=b.val<;>simp[h1,Q,S]
theorem LZ(xo yo:Operand)(a b:Chg)(w:World) :
  (BX .neq 133 xo yo (.agg a.cells.toArray) (.agg b.cells.toArray)).run prog w=.ok (.bool (!decide (a=b))) w:=by
 simp only[BX,kD,pG w .neq _ xo yo _ _ Tryz.eqGuardType133,S3];rw[qW,Uv];rfl
theorem Ha(xo yo:Operand)(a b:BK)(w:World) :
  (BX .eql 77 xo yo (.agg a.cells.toArray) (.agg b.cells.toArray)).run prog w=.ok (.bool (decide (a=b))) w:=by
 simp only[BX,kD,pG w .eql _ xo yo _ _ Tryz.eqGuardType77,S3];rw[run_eql_struct,L2 9998];rfl
theorem RE(xo yo:Operand)(a b:BK)(w:World) :
  (BX .neq 77 xo yo (.agg a.cells.toArray) (.agg b.cells.toArray)).run prog w=.ok (.bool (!decide (a=b))) w:=by
 simp only[BX,kD,pG w .neq _ xo yo _ _ Tryz.eqGuardType77,S3];rw[qW,L2 9998];rfl
structure Dop where
 kind:Int
 n:Int
 Ak:List Int
 set:List Attr
 patch:List Chg
 deriving DecidableEq
def Ca(D:Nat->Prop)(w:World)(r:List Value)(o:Dop):Prop:=∃i sv j,r=[.int .u8 o.kind,.int .i64 o.n,i,sv,j]/\KR D w i o.Ak/\Cf D w sv o.set/\FY D w j o.patch
theorem Ca.one{D:Nat->Prop}{r:List Value}{o:Dop}(h:Ca D w r o):∀u∈r,u.oneCell'=true:=by
 obtain⟨B,sv,E,rfl,h1,i,j⟩:=h;obtain⟨I,c1,rfl,_⟩:=h1.shape;obtain⟨J,c2,rfl,_⟩:=i.shape;obtain⟨a3,O,rfl,_⟩:=j.shape;intro u hu;simp only[I3,kV,mI] at hu;rcases hu with rfl|rfl|rfl|rfl|rfl<;>rfl
theorem Ca.mod{D D' M:Nat->Prop}{r:List Value}{o:Dop}(h:Ca D w r o)(hm:Mod M w w')(B:∀b,b<w.heap.size->D b->¬M b)(i:∀b,b<w.heap.size->D b->D' b):Ca D' w' r o:=by
 obtain⟨E,sv,I,rfl,h1,J,O⟩:=h;exact⟨E,sv,I,rfl,h1.mono i (fun b hb j=>hm.same b hb (B b hb j)) (by decide) fun _ _ h=>h,J.mono i (fun b hb j=>hm.same b hb (B b hb j)) (by decide) fun _ _ h=>h,O.mono i (fun b hb j=>hm.same b hb (B b hb j)) (by decide) fun _ _ h=>h⟩
theorem GG:DU prog 34 83 5 88:=⟨Tryz.t83,.agg #[.int .u8 0,.int .i64 0,.slice none 0 0,.slice none 0 0,.slice none 0 0],by kernel_rfl,by kernel_rfl,by kernel_rfl,by kernel_rfl,by kernel_rfl,by rfl,by decide⟩
abbrev BE(S D:Nat->Prop)(w:World)(v:Value)(l:List Dop):Prop:=BB S 5 (Ca D) w v l
theorem BE.grow{S D:Nat->Prop}{l:List Dop}(h:BE S D w v l)(i:Grow w w'):BE S D w' v l:=
 BB.grow h i (by decide) fun _ _ j=>j.mod i (fun _ _ _ h=>h) fun _ _ h=>h
theorem BE.mod{S D M:Nat->Prop}{l:List Dop}(h:BE S D w v l)(hm:Mod M w w')(i:∀b,b<w.heap.size->S b->¬M b)(j:∀b,b<w.heap.size->D b->¬M b):BE S D w' v l:=
 BB.mono h (fun _ _ h=>h) (fun b hb o=>hm.same b hb (i b hb o)) (by decide) fun _ _ B=>B.mod hm j fun _ _ h=>h
def PC(D:Nat->Prop)(w:World)(r:List Value)(o:Dop):Prop:=∃i sv j,r=[.int .u8 o.kind,.int .i64 o.n,i,sv,j]/\
 (AE 0 21 1 Bo w i o.Ak/\∀g,i.ownBlock=some g->D g)/\(IH 0 w sv o.set/\∀g,sv.ownBlock=some g->D g)/\(AE 0 133 6 Ep w j o.patch/\∀g,j.ownBlock=some g->D g)
theorem Lr{e k:Nat}{R:World->List Value->α->Prop}{D:Nat->Prop}{l:List α}(hk:0<k)(h:AE 0 e k R w v l/\∀g,v.ownBlock=some g->D g):BB D k R w v l:=
 BB.sub (AE.sl h.1) (fun g _ i=>h.2 g i.2) hk fun _ _ h=>h
theorem IV{e k:Nat}{R:World->List Value->α->Prop}{D D' M:Nat->Prop}{l:List α}(h:AE 0 e k R w v l/\∀g,v.ownBlock=some g->D g)(hm:Mod M w w')(o:∀b,b<w.heap.size->D b->¬M b)(j:∀b,b<w.heap.size->D b->D' b)
 (B:∀r x,R w r x->R w' r x):AE 0 e k R w' v l/\∀g,v.ownBlock=some g->D' g:=
 ⟨AE.mod h.1 hm (fun g i=>o g (AE.BA h.1 g i).2 (h.2 g i)) fun r x _ E=>B r x E,fun g i=>j g (AE.BA h.1 g i).2 (h.2 g i)⟩
theorem PC.rd{D:Nat->Prop}{r:List Value}{o:Dop}(h:PC D w r o):Ca D w r o:=by
 obtain⟨i,sv,j,rfl,h1,B,E⟩:=h;exact⟨i,sv,j,rfl,Lr (by decide) h1,Lr (by decide) B,Lr (by decide) E⟩
theorem PC.mod{D D' M:Nat->Prop}{r:List Value}{o:Dop}(h:PC D w r o)(hm:Mod M w w')(j:∀b,b<w.heap.size->D b->¬M b)(i:∀b,b<w.heap.size->D b->D' b):PC D' w' r o:=by
 obtain⟨B,sv,E,rfl,h1,I,J⟩:=h;exact⟨B,sv,E,rfl,IV h1 hm j i fun _ _ h=>h,IV I hm j i fun _ _ h=>h,IV J hm j i fun _ _ h=>h⟩
def Iu(B:Nat)(w:World)(v:Value)(l:List Dop):Prop:=AE B 83 5 (PC fun b=>B<=b/\v.ownBlock≠some b) w v l
theorem Iu.sl{l:List Dop}(h:Iu B w v l):BE (fun b=>B<=b/\v.ownBlock=some b) (fun b=>B<=b/\v.ownBlock≠some b) w v l:=
 BB.sub (AE.sl h) (fun _ _ h=>h) (by decide) fun _ _ h=>h.rd
theorem Iu.reads{l:List Dop}(h:Iu B w v l):BE (fun b=>B<=b/\b<w.heap.size) (fun b=>B<=b/\b<w.heap.size) w v l:=
 BB.sub (Iu.sl h) (fun b hb h=>⟨h.1,hb⟩) (by decide) fun r x i=>i.mod (Mod.refl (fun _=>False) _) (fun _ _ _ h=>h) fun b hb h=>⟨h.1,hb⟩
structure DKey where
 id:Int
 block:Bool
 kind:Int
 after:Bool
 before:Bool
 group:Int
 deriving DecidableEq
def DKey.cells(k:DKey):List Value:=[.int .i64 k.id,.bool k.block,.int .u8 k.kind,.bool k.after,.bool k.before,.int .i64 k.group]
abbrev G0:World->List Value->DKey->Prop:=fun _ r x=>r=x.cells
abbrev NS(S:Nat->Prop)(w:World)(v:Value)(l:List DKey):Prop:=BB S 6 G0 w v l
theorem G0.one{r:List Value}{x:DKey}(h:G0 w r x):∀u∈r,u.oneCell'=true:=by
 intro u hu;subst h;simp only[DKey.cells,I3,kV,mI] at hu;rcases hu with rfl|rfl|rfl|rfl|rfl|rfl<;>rfl
def K0(a:Attr):Nat:=a.val.s.size+1
def Ta(a:Chg):Nat:=a.val.s.size+1
def GX(l:List Attr):Nat:=(l.map K0).sum
def KJ(l:List Chg):Nat:=(l.map Ta).sum
def DR(o:Dop):Nat:=1+o.Ak.length+GX o.set+KJ o.patch
def Aw(l:List Dop):Nat:=(l.map DR).sum
variable {v0 v1 v2 v3 v4 v5 v6 v7 v8 v9:Value}{K:Cont}{w:World}
theorem dR(h: Aq [(.int .i64 0),(.int .i64 0)] (fun vs E w1=>∀_:Env,
 Ae v0 fun t9=>
 Bb .i64 (nth vs 1) t9 fun I=>
 AD I
 (Cg w1 (fun C=>
 AX .i64 (nth vs 0) (.int .i64 1) fun J=>
 BQ 5 v0 (nth vs 1) fun O=>
 AM 2 O fun Q=>
 BJ C Q fun S=>
 Ae S fun T=>
 AX .i64 J T fun U=>
 BQ 5 v0 (nth vs 1) fun V=>
 AM 3 V fun t25=>
 BJ C t25 fun X=>
 Ae X fun Y=>
 AX .i64 U Y fun Z=>
 BQ 5 v0 (nth vs 1) fun a1=>
 AM 4 a1 fun a6=>
 BJ C a6 fun a7=>
 Ae a7 fun a8=>
 AX .i64 Z a8 fun ak=>
 ∀w2:World,C w2->
 Aq [ak,(.int .i64 0)] (fun i o w3=>∀_:Env,
 BQ 5 v0 (nth vs 1) fun t39=>
 AM 3 t39 fun al=>
 AL al (fun an w4=>
 Ae an fun av=>
 Bb .i64 (nth i 1) av fun ax=>
 AD ax
 (BQ 5 v0 (nth vs 1) fun ay=>
 AM 3 ay fun t50=>
 AL t50 (fun b0 w5=>
 BQ 5 b0 (nth i 1) fun t53=>
 AM 1 t53 fun b3=>
 AM 3 b3 fun t55=>
 AL t55 (fun b4 w6=>
 L6 b4 fun b5=>
 AX .i64 (nth i 0) b5 fun b6=>
 AX .i64 (nth i 1) (.int .i64 1) fun t45=>
 o [b6,t45] w6) w5) w4)
 (Aq [(nth i 0),(.int .i64 0)] (fun j B w7=>∀_:Env,
 BQ 5 v0 (nth vs 1) fun b7=>
 AM 4 b7 fun b8=>
 AL b8 (fun b9 w8=>
 Ae b9 fun ba=>
 Bb .i64 (nth j 1) ba fun t66=>
 AD t66
 (BQ 5 v0 (nth vs 1) fun bb=>
 AM 4 bb fun bc=>
 AL bc (fun bd w9=>
 BQ 6 bd (nth j 1) fun t76=>
 AM 2 t76 fun t77=>
 AM 3 t77 fun bk=>
 AL bk (fun bl bn=>
 L6 bl fun bp=>
 AX .i64 (nth j 0) bp fun bs=>
 AX .i64 (nth j 1) (.int .i64 1) fun bx=>
 B [bs,bx] bn) w9) w8)
 (AX .i64 (nth vs 1) (.int .i64 1) fun c4=>
 E [(nth j 0),c4] w8)) w7) w4)) w3) w2))
 (K (nth vs 0) w1)) w):AB prog 34 [v0] K w:=cO (aN (aN (aO (aN (.node [3,4] [(3,81)] (aO (aN aE) (aO (aO .draw (aO (aN (.node [3,5] [(3,3),(5,5),(36,58)] (aO (aN aE) aE) .nil)) (aN (.node [3,6] [(3,3),(6,6),(59,81)] (aO (aN aE) aE) .nil)))) .nil)) .nil)) aE))) func34 h (by kernel_rfl)
theorem fu(h: AB prog 59 [] (fun E w1=>
 Ae v0 fun t8=>
 Aq [(.int .i64 0)] (fun vs i w2=>∀_:Env,
 Bb .i64 (nth vs 0) t8 fun I=>
 AD I
 (BQ 5 v0 (nth vs 0) fun J=>
 Af 5 J (fun O w3=>
 Am 83 [(.int .u8 0),(.int .i64 0),(.slice none 0 0),(.slice none 0 0),(.slice none 0 0)] (fun t5 w4=>
 Ac 5 t5 O (fun w5=>
 AM 0 t5 fun Q=>
 AL Q (fun B S=>
 DJ .u8 B (.int .u8 1) fun T=>
 AD T
 (AM 1 t5 fun U=>
 AL U (fun V w7=>
 AM 4 t5 fun X=>
 AL X (fun Y w8=>
 AB prog 60 [E,V,Y] (fun _t22 w9=>
 AX .i64 (nth vs 0) (.int .i64 1) fun Z=>
 i [Z] w9) w8) w7) S)
 (DJ .u8 B (.int .u8 2) fun a1=>
 AD a1
 (AM 2 t5 fun a6=>
 AL a6 (fun a7 a8=>
 AM 3 t5 fun ak=>
 AL ak (fun al an=>
 AB prog 61 [E,a7,al] (fun _t30 av=>
 AX .i64 (nth vs 0) (.int .i64 1) fun j=>
 i [j] av) an) a8) S)
 (AM 1 t5 fun ax=>
 AL ax (fun ay b0=>
 AB prog 62 [E,ay] (fun _t34 b3=>
 AX .i64 (nth vs 0) (.int .i64 1) fun o=>
 i [o] b3) b0) S))) w5) w4) w3) w2)
 (AB prog 63 [E] (fun b4 b5=>
 K b4 b5) w2)) w1) w):AB prog 24 [v0] K w:=cO (aN (aN (aN (aO (aN (.node [9] [(5,5),(9,35)] (aN (aO aE (aO (aN (aO (aN (aN (aO aE (aN (aO aE .nil))))) .nil)) .nil))) .nil)) aE)))) func24 h (by kernel_rfl)
theorem eS(h: Ae v0 fun t9=>
 Ae v1 fun a8=>
 EB .i64 t9 a8 fun ak=>
 AD ak
 (K (.bool false) w)
 (Aq [(.int .i64 0)] (fun vs B U=>∀_:Env,
 Ae v0 fun al=>
 Bb .i64 (nth vs 0) al fun an=>
 AD an
 (Ao (fun _vs_1 w2=>∀_:Env,
 AX .i64 (nth vs 0) (.int .i64 1) fun av=>
 B [av] w2) (fun J=>
 Ao (fun i w3=>∀_:Env,
 AM 0 (nth i 0) fun ax=>
 AL ax (fun ay w4=>
 AM 0 (nth i 1) fun b0=>
 AL b0 (fun b3 w5=>
 EB .u8 ay b3 fun b4=>
 AD b4
 (K (.bool false) w5)
 (AM 1 (nth i 0) fun b5=>
 AL b5 (fun b6 w6=>
 AM 1 (nth i 1) fun b7=>
 AL b7 (fun b8 w7=>
 EB .i64 b6 b8 fun b9=>
 AD b9
 (K (.bool false) w7)
 (AM 2 (nth i 0) fun ba=>
 AL ba (fun bb w8=>
 AM 2 (nth i 1) fun bc=>
 AL bc (fun bd w9=>
 AB prog 64 [bb,bd] (fun bk V=>
 CE bk fun t45=>
 AD t45
 (K (.bool false) V)
 (AM 3 (nth i 0) fun bl=>
 AL bl (fun bn bp=>
 AM 3 (nth i 1) fun t50=>
 AL t50 (fun bs bx=>
 AB prog 58 [bn,bs] (fun c4 X=>
 CE c4 fun t53=>
 AD t53
 (K (.bool false) X)
 (AM 4 (nth i 0) fun c6=>
 AL c6 (fun c7 c8=>
 AM 4 (nth i 1) fun c9=>
 AL c9 (fun ca cc=>
 AB prog 65 [c7,ca] (fun cd Y=>
 CE cd fun ch=>
 AD ch
 (K (.bool false) Y)
 (J [] Y)) cc) c8) X)) bx) bp) V)) w9) w8) w7)) w6) w5)) w4) w3) (fun Z=>
 Ay [8,9,10,11] [[],[],[0,1],[0,1,2],[],[],[4,5],[4,5,6],[],[],[0,1,2,3,8,9],[0,1,2,3,4,5,6,7,8,9,10]] U.drew (fun M St=>
 BQ 5 v0 (nth vs 0) fun cn=>
 EM (St 3) 5 cn fun t22=>
 BQ 5 v1 (nth vs 0) fun t25=>
 EM (St 7) 5 t25 fun a1=>
 (Am 83 [(.int .u8 0),(.int .i64 0),(.slice none 0 0),(.slice none 0 0),(.slice none 0 0)] (fun t6 E=>
 Mod (M 8) U.drew E/\
 Am 83 [(.int .u8 0),(.int .i64 0),(.slice none 0 0),(.slice none 0 0),(.slice none 0 0)] (fun t7 I=>
 Mod (M 9) E I/\
 Ac 5 t6 t22 (fun O=>
 Mod (M 10) I O/\
 Ac 5 t7 a1 (fun a6=>
 Mod (M 11) O a6/\
 Z [t6,t7] a6) O) I) E) U.drew)/\
 (Am 83 [(.int .u8 0),(.int .i64 0),(.slice none 0 0),(.slice none 0 0),(.slice none 0 0)] (fun j Q=>
 Mod (M 9) U.drew Q/\
 Am 83 [(.int .u8 0),(.int .i64 0),(.slice none 0 0),(.slice none 0 0),(.slice none 0 0)] (fun o S=>
 Mod (M 8) Q S/\
 Ac 5 o t22 (fun T=>
 Mod (M 10) S T/\
 Ac 5 j a1 (fun a7=>
 Mod (M 11) T a7/\
 Z [o,j] a7) T) S) Q) U.drew)))))
 (K (.bool true) U)) w)):AB prog 25 [v0,v1] K w:=cO (aN (aO (aN (aO aE .nil)) (aO (aN (.node [5] [(4,7),(13,62)] (aO (aN aE) (.cut [] [(4,4),(6,7),(19,62)] (.cut [6,7] [(6,7),(19,26)] (.dt [8,9,10,11] [[],[],[0,1],[0,1,2],[],[],[4,5],[4,5,6],[],[],[0,1,2,3,8,9],(aR 11)] [] (.op 0 (.op 1 (.op 2 (.op 3 (.op 4 (.op 5 (.op 6 (.op 7 (.br (.op 8 (.op 9 (.op 10 (.op 11 .nil)))) (.op 9 (.op 8 (.op 10 (.op 11 .nil)))))))))))))) (aN (aO aE .nil))) .nil)) .nil)) aE))) func25 h (by kernel_rfl)
theorem cK(h: Ah [(0,1),(1,1),(2,1)] [(.slice none 0 0),(.slice none 0 0),(.int .i64 0)] [] fun i=>
 Bh 188 i (fun j o=>
 K j o) w):AB prog 59 [] K w:=cO (aN aE) func59 h (by kernel_rfl)
theorem fg(h: Ao (fun _vs X=>∀_:Env,
 Ay [6,7,10] [[],[],[1],[1,2],[1,2,3],[],[5],[1,2,3,4,5,6],[0,1,2,3,4,5,6,7],[0,1,2,3,4,5,6,7,8],[0,1,2,3,4,5,6,7,8,9]] X.drew (fun M St=>
 AJ v0 fun Y=>
 AM 0 Y fun Z=>
 BF (St 4) Z fun a1=>
 AB prog 115 [v0] (fun a6 w2=>
 Mod (M 6) X.drew w2/\
 runK prog (Builtin.append_ #[34,34] 34 [a1,a6].toArray) (fun a7 w3=>
 Mod (M 7) w2 w3/\
 AJ v0 fun a8=>
 AM 0 a8 fun t22=>
 BC t22 a7 (fun w4=>
 Mod (M 10) w3 w4/\
 AJ v0 fun t25=>
 AM 1 t25 fun ak=>
 BC ak (.slice none 0 0) (fun w5=>
 AJ v0 fun al=>
 AM 2 al fun an=>
 BC an (.int .i64 0) (fun w6=>
 AJ v0 fun av=>
 AM 0 av fun ax=>
 AL ax (fun ay w7=>
 Ae ay fun b0=>
 BW .i64 b0 (.int .i64 1) fun i=>
 Ao (fun O V=>∀_:Env,
 AD (nth O 0)
 (AJ v0 fun b3=>
 AM 0 b3 fun b4=>
 AL b4 (fun Q w9=>
 BQ 5 Q i fun b5=>
 AM 1 b5 fun t66=>
 AL t66 (fun b6 b7=>
 AX .i64 b6 v1 fun b9=>
 BQ 5 Q i fun t70=>
 AM 1 t70 fun ba=>
 BC ba b9 (fun bb=>
 K (.tuple #[]) bb) b7) w9) V)
 (Ay [7,9,10,13] [[],[],[1],[1,2],[1,2,3],[],[],[6],[5,6,7],[5,6,7,8],[1,2,3,4,5,6,7,8,9],[0,1,2,3,4,5,6,7,8,9,10],[0,1,2,3,4,5,6,7,8,9,10,11],[0,1,2,3,4,5,6,7,8,9,10,11,12]] V.drew (fun j S=>
 AJ v0 fun bc=>
 AM 0 bc fun bd=>
 BF (S 4) bd fun t76=>
 AB prog 117 [v2] (fun bk o=>
 Mod (j 7) V.drew o/\
 Ah [(0,1),(1,1),(2,1),(3,1),(4,1)] [(.int .u8 0),(.int .i64 0),(.slice none 0 0),(.slice none 0 0),(.slice none 0 0)] [(0,(.int .u8 1)),(1,v1),(4,bk)] fun bl=>
 Bg 83 5 1 [(.int .u8 0),(.int .i64 0),(.slice none 0 0),(.slice none 0 0),(.slice none 0 0)] [(0,bl)] (fun bn B=>
 Mod (j 9) o B/\
 runK prog (Builtin.append_ #[34,34] 34 [t76,bn].toArray) (fun bp E=>
 Mod (j 10) B E/\
 AJ v0 fun bs=>
 AM 0 bs fun bx=>
 BC bx bp (fun T=>
 Mod (j 13) E T/\
 K (.tuple #[]) T) E) B) o) V.drew))) (fun I=>
 Kk .i64 i (.int .i64 0) fun c4=>
 AD c4
 (AJ v0 fun t39=>
 AM 0 t39 fun c6=>
 AL c6 (fun c7 c8=>
 BQ 5 c7 i fun c9=>
 AM 0 c9 fun ca=>
 AL ca (fun t45 U=>
 DJ .u8 t45 (.int .u8 1) fun t46=>
 AD t46
 (AJ v0 fun t50=>
 AM 0 t50 fun cc=>
 AL cc (fun cd ch=>
 BQ 5 cd i fun cn=>
 AM 4 cn fun t55=>
 AL t55 (fun cv cx=>
 AB prog 116 [cv,v2] (fun dk dv=>
 I [dk] dv) cx) ch) U)
 (I [(.bool false)] U)) c8) w7)
 (I [(.bool false)] w7))) w6) w5) w4) w3) w2) X.drew)) (fun J=>
 CY v0 fun b8=>
 AD (.bool b8)
 (K (.tuple #[]) w)
 (Bb .i64 v1 (.int .i64 1) fun dT=>
 AD dT
 (K (.tuple #[]) w)
 (J [] w)))):AB prog 60 [v0,v1,v2] K w:=cO (.cut [] [(7,12)] (aN aE) (aO (.dc [6,7,10] [[],[],[1],[1,2],[1,2,3],[],[5],[1,2,3,4,5,6],(aR 8),(aR 9),(aR 10)] [[6,7]]) (aN (aN (aO (.cut [59] [(35,59)] .nil (aO aE .nil)) (.dc [7,9,10,13] [[],[],[1],[1,2],[1,2,3],[],[],[6],[5,6,7],[5,6,7,8],[1,2,3,4,5,6,7,8,9],(aR 11),(aR 12),(aR 13)] [[7],[7,9,10]])))))) func60 h (by kernel_rfl)
theorem fB(h: Ao (fun _vs w1=>∀_:Env,
 AJ v0 fun Q=>
 AM 1 Q fun S=>
 AL S (fun T w2=>
 Ae T fun U=>
 BW .i64 U (.int .i64 1) fun j=>
 Ao (fun B o=>∀_:Env,
 AD (nth B 0)
 (Ay [14,17] [[],[0],[0,1],[0,1,2],[],[],[5],[5,6],[5,6,7],[],[5,6,7,8,9],[5,6,7,8,9,10],[5,6,7,8,9,10,11],[],[5,6,7,8,9,10,11,12,13],[0,1,2,3,4,5,6,7,8,9,10,11,12,13,14],[0,1,2,3,4,5,6,7,8,9,10,11,12,13,14,15],[0,1,2,3,4,5,6,7,8,9,10,11,12,13,14,15,16]] o.drew (fun M V=>
 AJ v0 fun X=>
 AM 1 X fun Y=>
 BF (V 3) Y fun Z=>
 AJ v0 fun a1=>
 AM 1 a1 fun a6=>
 BF (V 8) a6 fun a7=>
 BQ 5 a7 j fun a8=>
 AM 2 a8 fun t45=>
 BF (V 12) t45 fun t46=>
 runK prog (Builtin.append_ #[80,80] 80 [t46,v1].toArray) (fun ak w4=>
 Mod (M 14) o.drew w4/\
 BQ 5 Z j fun al=>
 AM 2 al fun t50=>
 BC t50 ak (fun w5=>
 Mod (M 17) w4 w5/\
 K (.tuple #[]) w5) w4) o.drew))
 (Ay [6,8,10,11,14] [[],[],[1],[1,2],[1,2,3],[],[5],[],[5,6,7],[5,6,7,8],[5,6,7,8,9],[1,2,3,4,5,6,7,8,9,10],[0,1,2,3,4,5,6,7,8,9,10,11],[0,1,2,3,4,5,6,7,8,9,10,11,12],[0,1,2,3,4,5,6,7,8,9,10,11,12,13]] o.drew (fun i E=>
 AJ v0 fun t53=>
 AM 1 t53 fun an=>
 BF (E 4) an fun t55=>
 AB prog 119 [v1] (fun av w6=>
 Mod (i 6) o.drew w6/\
 AB prog 52 [v2] (fun ax w7=>
 Mod (i 8) w6 w7/\
 Ah [(0,1),(1,1),(2,1),(3,1),(4,1)] [(.int .u8 0),(.int .i64 0),(.slice none 0 0),(.slice none 0 0),(.slice none 0 0)] [(0,(.int .u8 2)),(2,av),(3,ax)] fun ay=>
 Bg 83 5 1 [(.int .u8 0),(.int .i64 0),(.slice none 0 0),(.slice none 0 0),(.slice none 0 0)] [(0,ay)] (fun b0 w8=>
 Mod (i 10) w7 w8/\
 runK prog (Builtin.append_ #[34,34] 34 [t55,b0].toArray) (fun b3 w9=>
 Mod (i 11) w8 w9/\
 AJ v0 fun b4=>
 AM 1 b4 fun b5=>
 BC b5 b3 (fun I=>
 Mod (i 14) w9 I/\
 K (.tuple #[]) I) w9) w8) w7) w6) o.drew))) (fun O=>
 Kk .i64 j (.int .i64 0) fun b6=>
 AD b6
 (AJ v0 fun b7=>
 AM 1 b7 fun t25=>
 AL t25 (fun b9 ba=>
 BQ 5 b9 j fun bb=>
 AM 3 bb fun bc=>
 AL bc (fun bd bk=>
 AB prog 118 [bd,v2] (fun bl bn=>
 O [bl] bn) bk) ba) w2)
 (O [(.bool false)] w2))) w1) (fun J=>
 CY v0 fun b8=>
 AD (.bool b8)
 (K (.tuple #[]) w)
 (Ae v1 fun bp=>
 DJ .i64 bp (.int .i64 0) fun bs=>
 AD bs
 (K (.tuple #[]) w)
 (J [] w)))):AB prog 61 [v0,v1,v2] K w:=cO (.cut [] [(7,13)] (aN aE) (aN (aO (.cut [33] [(20,33)] .nil (aO (aO (.dc [14,17] [[],[0],[0,1],[0,1,2],[],[],[5],[5,6],[5,6,7],[],[5,6,7,8,9],[5,6,7,8,9,10],[5,6,7,8,9,10,11],[],[5,6,7,8,9,10,11,12,13],(aR 15),(aR 16),(aR 17)] [[14]]) .nil) .nil)) (.dc [6,8,10,11,14] [[],[],[1],[1,2],[1,2,3],[],[5],[],[5,6,7],[5,6,7,8],[5,6,7,8,9],[1,2,3,4,5,6,7,8,9,10],(aR 12),(aR 13),(aR 14)] [[6,8],[6,8,10,11]])))) func61 h (by kernel_rfl)
theorem eK(h: CY v0 fun E=>
 AD (.bool (!E))
 (AJ v0 fun I=>
 AM 2 I fun J=>
 AL J (fun t9 O=>
 KM .i64 v1 (.int .i64 0) fun i=>
 AX .i64 t9 i fun j=>
 AJ v0 fun o=>
 AM 2 o fun B=>
 BC B j (fun w2=>
 K (.tuple #[]) w2) O) w)
 (K (.tuple #[]) w)):AB prog 62 [v0,v1] K w:=cO (aN aE) func62 h (by kernel_rfl)
theorem du(h: CY v0 fun b6=>
 AD (.bool b6)
 (K (.slice none 0 0) w)
 (Ay [5,6,7] [[],[0],[0,1],[0,1,2],[],[4],[0,1,2,3,4,5],[0,1,2,3,4,5,6],[0,1,2,3,4,5,6,7]] w.drew (fun M St=>
 AJ v0 fun t8=>
 AM 0 t8 fun t9=>
 BF (St 3) t9 fun o=>
 AB prog 115 [v0] (fun B E=>
 Mod (M 5) w.drew E/\
 Bg 34 1 2 [(.slice none 0 0)] [(0,o),(1,B)] (fun I w2=>
 Mod (M 6) E w2/\
 AB prog 120 [I] (fun i O=>
 Mod (M 7) w2 O/\
 Ao (fun vs w4=>∀_:Env,
 AB prog 121 [(nth vs 0)] (fun Q w5=>
 K Q w5) w4) (fun J=>
 Ae i fun S=>
 BW .i64 S (.int .i64 1) fun j=>
 Kk .i64 j (.int .i64 0) fun T=>
 AD T
 (BQ 5 i j fun U=>
 AM 0 U fun V=>
 AL V (fun t25 w6=>
 DJ .u8 t25 (.int .u8 1) fun X=>
 AD X
 (BQ 5 i j fun Y=>
 AM 4 Y fun Z=>
 AL Z (fun a1 w7=>
 Ae a1 fun a6=>
 DJ .i64 a6 (.int .i64 0) fun a7=>
 AD a7
 (runK prog (Instr.sliceAt 34 i none (some j) none) (fun t39 w8=>
 J [t39] w8) w7)
 (J [i] w7)) w6)
 (J [i] w6)) O)
 (J [i] O))) w2) E) w.drew))):AB prog 63 [v0] K w:=cO (aN (aO (aN (aO aE .nil)) (aO (.dc [5,6,7] [[],[0],[0,1],[0,1,2],[],[4],(aR 6),(aR 7),(aR 8)] []) (.cut [3] [(3,4),(15,39)] (aN (aN aE)) aE)))) func63 h (by kernel_rfl)
theorem dJ(h: Ae v0 fun T=>
 Ae v1 fun t9=>
 EB .i64 T t9 fun j=>
 AD j
 (K (.bool false) w)
 (Aq [(.int .i64 0)] (fun vs i S=>∀_:Env,
 Ae v0 fun o=>
 Bb .i64 (nth vs 0) o fun B=>
 AD B
 (Cg S (fun C=>
 BQ 1 v0 (nth vs 0) fun E=>
 BJ C E fun I=>
 BQ 1 v1 (nth vs 0) fun J=>
 BJ C J fun O=>
 EB .i32 I O fun t25=>
 ∀w2:World,C w2->
 AD t25
 (K (.bool false) w2)
 (AX .i64 (nth vs 0) (.int .i64 1) fun Q=>
 i [Q] w2)))
 (K (.bool true) S)) w)):AB prog 64 [v0,v1] K w:=cO (aN (aO (aN (aO aE .nil)) (aO (aN (.node [5] [(4,5),(11,25)] (aO (aN aE) (aO (aO .draw (aO aE .nil)) .nil)) .nil)) aE))) func64 h (by kernel_rfl)
theorem eD(h: Ae v0 fun T=>
 Ae v1 fun t9=>
 EB .i64 T t9 fun j=>
 AD j
 (K (.bool false) w)
 (Aq [(.int .i64 0)] (fun vs i S=>∀_:Env,
 Ae v0 fun o=>
 Bb .i64 (nth vs 0) o fun B=>
 AD B
 (Cg S (fun C=>
 BQ 6 v0 (nth vs 0) fun E=>
 FT C 6 E fun I=>
 BQ 6 v1 (nth vs 0) fun J=>
 FT C 6 J fun O=>
 Bk prog C (BX .neq 133 (.tmp 20) (.tmp 24) I O) fun t25=>
 ∀w2:World,C w2->
 AD t25
 (K (.bool false) w2)
 (AX .i64 (nth vs 0) (.int .i64 1) fun Q=>
 i [Q] w2)))
 (K (.bool true) S)) w)):AB prog 65 [v0,v1] K w:=cO (aN (aO (aN (aO aE .nil)) (aO (aN (.node [5] [(4,5),(11,25)] (aO (aN aE) (aO (aO .draw (aO aE .nil)) .nil)) .nil)) aE))) func65 h (by kernel_rfl)
theorem Z5(h: AJ v0 fun t5=>
 AM 1 t5 fun V=>
 AL V (fun X Y=>
 AB prog 186 [X] (fun T w2=>
 AJ v0 fun i=>
 AM 2 i fun j=>
 AL j (fun o U=>
 Eu .i64 o (.int .i64 0) fun B=>
 AD B
 (AJ v0 fun E=>
 AM 2 E fun I=>
 AL I (fun J w4=>
 Ah [(0,1),(1,1),(2,1),(3,1),(4,1)] [(.int .u8 0),(.int .i64 0),(.slice none 0 0),(.slice none 0 0),(.slice none 0 0)] [(0,(.int .u8 3)),(1,J)] fun O=>
 Bg 83 5 1 [(.int .u8 0),(.int .i64 0),(.slice none 0 0),(.slice none 0 0),(.slice none 0 0)] [(0,O)] (fun Q Z=>
 runK prog (Builtin.append_ #[34,34] 34 [T,Q].toArray) (fun S w6=>
 K S w6) Z) w4) U)
 (K T U)) w2) Y) w):AB prog 115 [v0] K w:=cO (aN (aN (aO (aN aE) aE))) func115 h (by kernel_rfl)
theorem aJ(h: AB prog 187 [v0,v1] (fun i j=>
 K i j) w):AB prog 116 [v0,v1] K w:=cO (aN aE) func116 h (by kernel_rfl)
theorem ZN(h: AB prog 129 [v0] (fun t4 i=>
 K t4 i) w):AB prog 117 [v0] K w:=cO (aN aE) func117 h (by kernel_rfl)
theorem Zr(h: Hg v0 fun i=>
 AD (.bool i)
 (K (.slice none 0 0) w)
 (Bg 21 1 0 [] [] (fun t5 j=>
 runK prog (Builtin.append_ #[80,80] 80 [t5,v0].toArray) (fun o w2=>
 K o w2) j) w)):AB prog 119 [v0] K w:=cO (aN (aO (aN (aO aE .nil)) aE)) func119 h (by kernel_rfl)
theorem ZY(h: Ae v0 fun E=>
 Aq [(.int .i64 0),(.int .i64 0)] (fun vs o w1=>∀_:Env,
 Bb .i64 (nth vs 1) E fun I=>
 AD I
 (BQ 1 v0 (nth vs 1) fun J=>
 AL J (fun O w2=>
 Ae O fun Q=>
 AX .i64 (nth vs 0) Q fun B=>
 Bb .i64 B (.int .i64 0) fun S=>
 AD S
 (runK prog (Instr.makeInterface 9 (.string (ByteArray.mk #[108,101,110,32,111,117,116,32,111,102,32,114,97,110,103,101]))) (fun _t21 w3=>
 False) w2)
 (AX .i64 (nth vs 1) (.int .i64 1) fun t22=>
 o [B,t22] w2)) w1)
 (AB prog 189 [(.slice none 0 0),(nth vs 0)] (fun T w4=>
 Ae v0 fun U=>
 Aq [T,(.int .i64 0)] (fun i j w5=>∀_:Env,
 Bb .i64 (nth i 1) U fun V=>
 AD V
 (BQ 1 v0 (nth i 1) fun X=>
 AL X (fun Y w6=>
 runK prog (Builtin.append_ #[34,34] 34 [(nth i 0),Y].toArray) (fun Z w7=>
 AX .i64 (nth i 1) (.int .i64 1) fun a1=>
 j [Z,a1] w7) w6) w5)
 (K (nth i 0) w5)) w4) w1)) w):AB prog 120 [v0] K w:=cO (aN (aN (aO (aN (.node [3,11] [(3,3),(5,5),(11,22)] (aN (aO aE (aO (aN (aN (aN aE))) .nil))) .nil)) (aN (aO (aN (.node [6,27] [(6,6),(8,8),(27,34)] (aN (aO aE (aO aE .nil))) .nil)) aE))))) func120 h (by kernel_rfl)
theorem ZW(h: AB prog 186 [v0] (fun i w1=>
 Ae i fun t8=>
 Aq [(.int .i64 0)] (fun vs j w2=>∀_:Env,
 Bb .i64 (nth vs 0) t8 fun o=>
 AD o
 (Ay [11,17,23,26,29,32] [[],[],[],[],[],[],[],[],[6,7],[6,7,8],[6,7,8,9],[6,7,8,9,10],[],[],[12,13],[12,13,14],[12,13,14,15],[6,7,8,9,10,11,12,13,14,15,16],[],[],[18,19],[18,19,20],[18,19,20,21],[6,7,8,9,10,11,12,13,14,15,16,17,18,19,20,21,22],[0,1,6,7,8,9,10,11,12,13,14,15,16,17,18,19,20,21,22,23],[0,1,6,7,8,9,10,11,12,13,14,15,16,17,18,19,20,21,22,23,24],[0,1,6,7,8,9,10,11,12,13,14,15,16,17,18,19,20,21,22,23,24,25],[0,1,2,3,6,7,8,9,10,11,12,13,14,15,16,17,18,19,20,21,22,23,24,25,26],[0,1,2,3,6,7,8,9,10,11,12,13,14,15,16,17,18,19,20,21,22,23,24,25,26,27],[0,1,2,3,6,7,8,9,10,11,12,13,14,15,16,17,18,19,20,21,22,23,24,25,26,27,28],[0,1,2,3,4,5,6,7,8,9,10,11,12,13,14,15,16,17,18,19,20,21,22,23,24,25,26,27,28,29],[0,1,2,3,4,5,6,7,8,9,10,11,12,13,14,15,16,17,18,19,20,21,22,23,24,25,26,27,28,29,30],[0,1,2,3,4,5,6,7,8,9,10,11,12,13,14,15,16,17,18,19,20,21,22,23,24,25,26,27,28,29,30,31]] w2.drew (fun M B=>
 BQ 5 i (nth vs 0) fun E=>
 AM 2 E fun I=>
 BF (B 10) I fun t22=>
 AB prog 119 [t22] (fun J O=>
 Mod (M 11) w2.drew O/\
 BQ 5 i (nth vs 0) fun Q=>
 AM 3 Q fun S=>
 BF (B 16) S fun T=>
 AB prog 52 [T] (fun U w4=>
 Mod (M 17) O w4/\
 BQ 5 i (nth vs 0) fun V=>
 AM 4 V fun X=>
 BF (B 22) X fun Y=>
 AB prog 117 [Y] (fun Z w5=>
 Mod (M 23) w4 w5/\
 BQ 5 i (nth vs 0) fun a1=>
 AM 2 a1 fun a6=>
 BC a6 J (fun w6=>
 Mod (M 26) w5 w6/\
 BQ 5 i (nth vs 0) fun a7=>
 AM 3 a7 fun t39=>
 BC t39 U (fun w7=>
 Mod (M 29) w6 w7/\
 BQ 5 i (nth vs 0) fun a8=>
 AM 4 a8 fun ak=>
 BC ak Z (fun w8=>
 Mod (M 32) w7 w8/\
 AX .i64 (nth vs 0) (.int .i64 1) fun al=>
 j [al] w8) w7) w6) w5) w4) O) w2.drew))
 (K i w2)) w1) w):AB prog 121 [v0] K w:=cO (aN (aN (aO (aN (.node [9] [(4,4),(9,42)] (aN (aO aE (aO (aN (.dc [11,17,23,26,29,32] [[],[],[],[],[],[],[],[],[6,7],[6,7,8],[6,7,8,9],[6,7,8,9,10],[],[],[12,13],[12,13,14],[12,13,14,15],[6,7,8,9,10,11,12,13,14,15,16],[],[],[18,19],[18,19,20],[18,19,20,21],[6,7,8,9,10,11,12,13,14,15,16,17,18,19,20,21,22],[0,1,6,7,8,9,10,11,12,13,14,15,16,17,18,19,20,21,22,23],[0,1,6,7,8,9,10,11,12,13,14,15,16,17,18,19,20,21,22,23,24],[0,1,6,7,8,9,10,11,12,13,14,15,16,17,18,19,20,21,22,23,24,25],[0,1,2,3,6,7,8,9,10,11,12,13,14,15,16,17,18,19,20,21,22,23,24,25,26],[0,1,2,3,6,7,8,9,10,11,12,13,14,15,16,17,18,19,20,21,22,23,24,25,26,27],[0,1,2,3,6,7,8,9,10,11,12,13,14,15,16,17,18,19,20,21,22,23,24,25,26,27,28],(aR 30),(aR 31),(aR 32)] [[11,17,23],[11,17,23,26],[11,17,23,26,29]])) .nil))) .nil)) aE))) func121 h (by kernel_rfl)
theorem Zy(h: Hg v0 fun i=>
 AD (.bool i)
 (K (.slice none 0 0) w)
 (Bg 83 5 0 [] [] (fun t5 j=>
 runK prog (Builtin.append_ #[34,34] 34 [t5,v0].toArray) (fun o w2=>
 K o w2) j) w)):AB prog 186 [v0] K w:=cO (aN (aO (aN (aO aE .nil)) aE)) func186 h (by kernel_rfl)
theorem ZU(h: Ae v0 fun S=>
 Ae v1 fun t9=>
 EB .i64 S t9 fun j=>
 AD j
 (K (.bool false) w)
 (Ae v0 fun o=>
 Aq [(.int .i64 0)] (fun vs i Q=>∀_:Env,
 Bb .i64 (nth vs 0) o fun B=>
 AD B
 (Cg Q (fun C=>
 BQ 6 v0 (nth vs 0) fun E=>
 FT C 6 E fun I=>
 BQ 6 v1 (nth vs 0) fun t22=>
 FT C 6 t22 fun J=>
 Bk prog C (BX .neq 133 (.tmp 19) (.tmp 23) I J) fun O=>
 ∀w2:World,C w2->
 AD O
 (K (.bool false) w2)
 (AX .i64 (nth vs 0) (.int .i64 1) fun t25=>
 i [t25] w2)))
 (K (.bool true) Q)) w)):AB prog 187 [v0,v1] K w:=cO (aN (aO (aN (aO aE .nil)) (aO (aN (.node [13] [(4,5),(13,25)] (aN (aO aE (aO (aN (aO .draw (aO aE .nil))) .nil))) .nil)) aE))) func187 h (by kernel_rfl)
theorem YU(h: Hg v0 fun i=>
 AD (.bool i)
 (K (.slice none 0 0) w)
 (Bg 133 6 0 [] [] (fun t5 j=>
 runK prog (Builtin.append_ #[81,81] 81 [t5,v0].toArray) (fun o w2=>
 K o w2) j) w)):AB prog 129 [v0] K w:=cO (aN (aO (aN (aO aE .nil)) aE)) func129 h (by kernel_rfl)
theorem aW(h: Ao (fun _vs S=>∀_:Env,
 runK prog (Builtin.cap_ #[34] 3 [v0].toArray) (fun j w2=>
 Ae v0 fun o=>
 BW .i64 j o fun B=>
 BW .i64 v1 B fun i=>
 Eu .i64 i (.int .i64 0) fun E=>
 AD E
 (runK prog (Builtin.cap_ #[34] 3 [v0].toArray) (fun I T=>
 runK prog (Instr.sliceAt 34 v0 none (some I) none) (fun O w4=>
 runK prog (Builtin.append_ #[34,3] 34 [O,i].toArray) (fun t22 U=>
 Ae v0 fun Q=>
 runK prog (Instr.sliceAt 34 t22 none (some Q) none) (fun t25 V=>
 K t25 V) U) w4) T) w2)
 (K v0 w2)) S) (fun J=>
 Bb .i64 v1 (.int .i64 0) fun X=>
 AD X
 (runK prog (Instr.makeInterface 9 (.string (ByteArray.mk #[99,97,110,110,111,116,32,98,101,32,110,101,103,97,116,105,118,101]))) (fun _t7 Y=>
 False) w)
 (J [] w))):AB prog 189 [v0,v1] K w:=cO (aN (.cut [] [(5,7)] (aN aE) (aO (aN (aN aE)) aE))) func189 h (by kernel_rfl)
end
theorem JU{t e k bytes:Nat}{R:World->List Value->α->Prop}{l:List α}(J:DU P t e k bytes)(h:BB S k R w v l)(hl:l.length*bytes<=140737488355328)
 (o:∀w r y,R w r y->∀u∈r,u.oneCell'=true)(O:∀B w2 r y,w.heap.size<=B.heap.size->Mod (fun b=>w.heap.size<=b) B w2->R B r y->R w2 r y)
 (Q:∀v' w',AE w.heap.size e k R w' v' l->Grow w w'->K v' w') :
  Hg v fun T=>AD (.bool T) (K (.slice none 0 0) w) (Bg e k 0 [] [] (fun t5 B=>runK P (Builtin.append_ #[t,t] t [t5,v].toArray) (fun U w2=>K U w2) B) w):=by
 obtain⟨a,c,rfl,hm⟩:=h.shape;have hk:=J;obtain⟨_,_,_,_,_,_,_,_,E⟩:=hk;cases a with
 |none=>
  simp only[KS];have:l=[]:=by
   cases l with
   |nil=>rfl
   |cons x l=>obtain⟨p,r,e,_⟩:=h.get (i:=0) (by simp);cases e
  subst this;exact Q _ _ AE.nil (Mod.refl _ _)
 |some p=>
  simp only[KS];refine JK ?_;have I:Grow w (w.alloc (.cells #[] e)):=Mod.alloc _ _ _;have V:AE w.heap.size e k R (w.alloc (.cells #[] e)) (.slice (some ⟨w.heap.size,0,none⟩) 0 0) ([]:List α):=AE.made (Lc _);obtain⟨v',w',h1,X,Y,Z⟩:=AE.append (ty:=t) J V ((h.GQ E).grow I E fun r x hx=>O _ _ _ _ (Lc _) I.mod hx) (fun _ _=>o _ _ _) (by simpa using hl) (by simp) (by simpa using hm) (fun w' j r y hy=>O _ _ _ _ I.size ((Mod.of_grownBy j).mono fun b _ e=>by simp only[Value.ownBlock,i6] at e;omega) hy);refine Ag h1 (Q _ _ ?_ (I.next (Mod.of_grownBy Y) ?_))
  .refine X.base fun g j=>?_;rcases Z g j with h|h
   .cases h;exact Lc _
   .simp only[ow] at h;omega
  .intro b hb e;simp only[Value.ownBlock,i6] at e;omega
theorem AW{p:Prop}[Decidable p]{A B:Prop}(h1:p->B)(i:¬p->A):AD (.bool (!decide p)) A B:=by
 by_cases h:p
 .rw[kj h];exact h1 h
 .rw[kX h];exact i h
theorem Sc[DecidableEq α]{k:Nat}{R R':World->List Value->α->Prop}{a b:Option Addr}{l m:List α}{bin:Value->Value->Sem Value}
 (ha:BB S k R w (.slice a l.length c) l)(hb:BB F k R' w (.slice b m.length I) m)(cb:l.length=m.length)(hm:l.length<=maxLen)
 (J:∀r Q x y i,R w r x->R' w Q y->(bin (.agg r.toArray) (.agg Q.toArray)).run P i=.ok (.bool (!decide (x=y))) i)
 (hK:∀w',Grow w w'->K (.bool (decide (l=m))) w') :
  Aq [(.int .i64 0)] (fun vs o i=>∀ _:Env,Bb .i64 (nth vs 0) (.int .i64 l.length) fun T=>AD T
   (Cg i (fun C=>BQ k (.slice a l.length c) (nth vs 0) fun U=>FT C k U fun V=>BQ k (.slice b m.length I) (nth vs 0) fun t22=>FT C k t22 fun X=>Bk P C (bin V X) fun Y=>
    ∀ w2:World,C w2->AD Y (K (.bool false) w2) (AX .i64 (nth vs 0) (.int .i64 1) fun t25=>o [t25] w2)))
   (K (.bool true) i)) w:=by
 simp only[maxLen] at hm;refine Ab (fun vs w'=>∃k:Nat,k<=l.length/\vs=[.int .i64 k]/\Grow w w'/\l.take k=m.take k) (fun vs _=>l.length-Ds vs 0) ⟨0,Nn _,rfl,Mod.refl _ _,rfl⟩ ?_;rintro vs i ⟨q,hq,rfl,O,ht⟩ h;simp only[KS];by_cases B:q<l.length
 .rw[Io (show(q:Int)<l.length by omega)];refine⟨fun w2=>Grow i w2,Mod.drew _ _,?_⟩;obtain⟨p,r,rfl,_,hr,hc,hx⟩:=ha.get B;obtain⟨p',Q,rfl,_,Z,a1,a6⟩:=hb.get (show q<m.length by omega);refine AU B (Fl hr (fun w2 E j u hu=>?_) ?_)
  .rw[Addr.add_add];exact E.cell (O.cell (hc j u hu) (fun h=>h)) (fun h=>h)
  refine AU (by omega) (Fl Z (fun w2 E j u hu=>?_) ?_)
  .rw[Addr.add_add];exact E.cell (O.cell (a1 j u hu) (fun h=>h)) (fun h=>h)
  refine⟨_,fun w2 _=>J _ _ _ _ w2 hx a6,fun w2 E=>?_⟩;simp only[KS];by_cases he:l[q]=m[q]
  .rw[C3 (fun h=>h he)];refine⟨⟨q+1,by omega,by rw[wrap64 (by omega) (by omega)];rfl,O.trans E,?_⟩,?_⟩
   .rw[No,No,ht];simp[B,show q<m.length by omega,he]
   .simp only[Ds,nth,Of];rw[wrap64 (by omega) (by omega)];omega
  .rw[Io he];have:decide (l=m)=false:=by rw[kW];intro e;subst e;exact he rfl
   rw[<-this];exact hK _ (O.trans E)
 .rw[C3 (show ¬(q:Int)<l.length by omega)];have:q=l.length:=by omega
  subst this;rw[Nr,cb,Nr] at ht;have:decide (l=m)=true:=by rw[S6];exact ht
  rw[<-this];exact hK _ O
theorem Vh{q:IntKind}{R:World->List Value->Int->Prop}{a b:Option Addr}{l m:List Int}
 (ha:BB S 1 R w (.slice a l.length c) l)(hb:BB F 1 R w (.slice b m.length I) m)(E:l.length=m.length)(hm:l.length<=maxLen)
 (cb:∀r x,R w r x->r=[.int q x])
 (hK:∀w',Grow w w'->K (.bool (decide (l=m))) w') :
  Aq [(.int .i64 0)] (fun vs j O=>∀ _:Env,Bb .i64 (nth vs 0) (.int .i64 l.length) fun Q=>AD Q
   (Cg O (fun C=>BQ 1 (.slice a l.length c) (nth vs 0) fun T=>BJ C T fun U=>BQ 1 (.slice b m.length I) (nth vs 0) fun t22=>BJ C t22 fun V=>EB q U V fun X=>
    ∀ w2:World,C w2->AD X (K (.bool false) w2) (AX .i64 (nth vs 0) (.int .i64 1) fun t25=>j [t25] w2)))
   (K (.bool true) O)) w:=by
 simp only[maxLen] at hm;refine Ab (fun vs w'=>∃k:Nat,k<=l.length/\vs=[.int .i64 k]/\Grow w w'/\l.take k=m.take k) (fun vs _=>l.length-Ds vs 0) ⟨0,Nn _,rfl,Mod.refl _ _,rfl⟩ ?_;rintro vs O ⟨i,hi,rfl,J,ht⟩ h;simp only[KS];by_cases o:i<l.length
 .rw[Io (show(i:Int)<l.length by omega)];refine⟨fun w2=>Grow O w2,Mod.drew _ _,?_⟩;obtain⟨p,r,rfl,_,hr,hc,hx⟩:=ha.get o;obtain⟨p',r',rfl,_,a1,Y,Z⟩:=hb.get (show i<m.length by omega);obtain rfl:=cb _ _ hx;obtain rfl:=cb _ _ Z;refine AU o (Au (v:=.int q l[i]) (fun w2 B=>B.cell (J.cell (hc 0 _ rfl) fun h=>h) fun h=>h) ?_);refine AU (by omega) (Au (v:=.int q m[i]) (fun w2 B=>B.cell (J.cell (Y 0 _ rfl) fun h=>h) fun h=>h) ?_);simp only[KS];intro w2 B;by_cases he:l[i]=m[i]
  .rw[C3 (fun h=>h he)];refine⟨⟨i+1,by omega,by rw[wrap64 (by omega) (by omega)];rfl,J.trans B,?_⟩,?_⟩
   .rw[No,No,ht];simp[o,show i<m.length by omega,he]
   .simp only[Ds,nth,Of];rw[wrap64 (by omega) (by omega)];omega
  .rw[Io he];have:decide (l=m)=false:=by rw[kW];intro e;subst e;exact he rfl
   rw[<-this];exact hK _ (J.trans B)
 .rw[C3 (show ¬(i:Int)<l.length by omega)];have:i=l.length:=by omega
  subst this;rw[Nr,E,Nr] at ht;have:decide (l=m)=true:=by rw[S6];exact ht
  rw[<-this];exact hK _ J
theorem KT{l:List Int}(h:BB S 1 Bo w v l)(hl:l.length*4<=140737488355328) :
  AB prog 119 [v] (fun v' w'=>AE w.heap.size 21 1 Bo w' v' l/\Grow w w') w:=by
 apply Zr;exact JU Ie h hl (fun _ _ _=>Bo.one) (fun _ _ _ _ _ _ h=>h) fun v' w' h1 i=>And.intro h1 i
theorem NY{l:List Chg}(h:BB S 6 Ep w v l)(hl:l.length*56<=140737488355328) :
  AB prog 129 [v] (fun v' w'=>AE w.heap.size 133 6 Ep w' v' l/\Grow w w') w:=by
 apply YU;exact JU Ph h hl (fun _ _ _=>Ep.one) (fun _ _ _ _ _ _ h=>h) fun v' w' h1 i=>And.intro h1 i
theorem BE.GQ{S D:Nat->Prop}{l:List Dop}(h:BE S D w v l):BE (fun b=>S b/\b<w.heap.size) (fun b=>D b/\b<w.heap.size) w v l:=
 BB.sub h (fun b hb h=>⟨h,hb⟩) (by decide) fun r x i=>i.mod (Mod.refl (fun _=>False) _) (fun _ _ _ h=>h) fun b hb h=>⟨h,hb⟩
theorem LX{S D:Nat->Prop}{l:List Dop}(h:BE S D w v l)(hl:l.length*88<=140737488355328) :
  AB prog 186 [v] (fun v' w'=>AE w.heap.size 83 5 (Ca fun b=>D b/\b<w.heap.size) w' v' l/\Grow w w') w:=by
 apply Zy;exact JU GG h.GQ hl (fun _ _ _=>Ca.one) (fun o w2 r y B hm i=>i.mod hm (fun b _ E hb=>by omega) fun _ _ h=>h) fun v' w' h1 j=>And.intro h1 j
theorem Py{l:List Chg}(h:FY S w v l)(hl:l.length*56<=140737488355328) :
  AB prog 117 [v] (fun v' w'=>AE w.heap.size 133 6 Ep w' v' l/\Grow w w') w:=by
 apply ZN;exact NY h hl
theorem UZ{S o:Nat->Prop}{a b:Value}{l m:List Int}(ha:BB S 1 Bo w a l)(hb:BB o 1 Bo w b m) :
  AB prog 64 [a,b] (fun v w'=>v=.bool (decide (l=m))/\Grow w w') w:=by
 apply dJ;obtain⟨I,J,rfl,j⟩:=ha.shape;obtain⟨pb,cb,rfl,B⟩:=hb.shape;simp only[AP];rw[Bm];refine AW (fun i=>?_) fun i=>?_
 .exact Vh (K:=fun v w'=>v=.bool (decide (l=m))/\Grow w w') ha hb (by omega) j (fun _ _ h=>h) fun _ E=>⟨rfl,E⟩
 .refine⟨?_,Mod.refl _ _⟩;congr 1;symm
  rw[kW];intro e;exact i (by rw[e])
theorem eZ{S o:Nat->Prop}{a b:Value}{l m:List Chg}(ha:BB S 6 Ep w a l)(hb:BB o 6 Ep w b m) :
  AB prog 187 [a,b] (fun v w'=>v=.bool (decide (l=m))/\Grow w w') w:=by
 apply ZU;obtain⟨Q,T,rfl,j⟩:=ha.shape;obtain⟨pb,cb,rfl,B⟩:=hb.shape;simp only[AP];rw[Bm];refine AW (fun i=>?_) fun i=>?_
 .exact Sc (K:=fun v w'=>v=.bool (decide (l=m))/\Grow w w') (bin:=fun x y=>BX .neq 133 _ _ x y) ha hb (by omega) j (fun r U x y E I J=>by subst I;subst J;exact LZ _ _ _ _ E) fun _ O=>⟨rfl,O⟩
 .refine⟨?_,Mod.refl _ _⟩;congr 1;symm
  rw[kW];intro e;exact i (by rw[e])
theorem Ue{S o:Nat->Prop}{a b:Value}{l m:List Chg}(ha:BB S 6 Ep w a l)(hb:BB o 6 Ep w b m) :
  AB prog 65 [a,b] (fun v w'=>v=.bool (decide (l=m))/\Grow w w') w:=by
 apply eD;obtain⟨Q,T,rfl,j⟩:=ha.shape;obtain⟨pb,cb,rfl,B⟩:=hb.shape;simp only[AP];rw[Bm];refine AW (fun i=>?_) fun i=>?_
 .exact Sc (K:=fun v w'=>v=.bool (decide (l=m))/\Grow w w') (bin:=fun x y=>BX .neq 133 _ _ x y) ha hb (by omega) j (fun r U x y E I J=>by subst I;subst J;exact LZ _ _ _ _ E) fun _ O=>⟨rfl,O⟩
 .refine⟨?_,Mod.refl _ _⟩;congr 1;symm
  rw[kW];intro e;exact i (by rw[e])
theorem XI{S i:Nat->Prop}{a b:Value}{l m:List Chg}(ha:FY S w a l)(hb:FY i w b m) :
  AB prog 116 [a,b] (fun v w'=>v=.bool (decide (l=m))/\Grow w w') w:=by
 apply aJ;exact eZ ha hb
theorem Dq{t:TypeId}(h:∀b i,b=w.heap.size->i.heap.size=w.heap.size+1->Grow w i->(∀j v,vs[j]?=some v->i.cell? ((⟨b,0,none⟩:Addr).add j)=some v)->(∀j,j<vs.length->Live i ((⟨b,0,none⟩:Addr).add j))->K (.pointer (some ⟨b,0,none⟩)) i):Bh t (.agg vs.toArray) K w:=by
 refine⟨vs,rfl,?_⟩;refine h w.heap.size _ rfl (by simp) (Mod.alloc _ _ _) (fun j v B=>HH B) fun j E=>?_;have o:(⟨w.heap.size,0,none⟩:Addr).add j=⟨w.heap.size,j,none⟩:=by unfold Addr.add;split<;>simp_all
 rw[o];refine⟨?_,py ..⟩;rw[oo];simp[E]
theorem Yd{t:TypeId}{B vs:List Value}{K:Value->World->Prop}(hl:B.length=vs.length)(h1:∀v∈vs,v.oneCell'=true)(h:∀b i,b=w.heap.size->i.heap.size=w.heap.size+1->Grow w i->(∀j v,vs[j]?=some v->i.cell? ((⟨b,0,none⟩:Addr).add j)=some v)->(∀j,j<vs.length->Live i ((⟨b,0,none⟩:Addr).add j))->K (.pointer (some ⟨b,0,none⟩)) i) :
  Am t B (fun t5 E=>Ac vs.length t5 (.agg vs.toArray) (fun w4=>K t5 w4) E) w:=by
 refine Qu (iF hl h1 ?_);obtain⟨o,e,I⟩:=Dq (t:=t) (K:=K) (w:=w) h;have:vs=o:=by
  have:=kM Value.cells e;simpa[Value.cells] using this
 subst this;exact I
theorem BS{t:TypeId}{n:Nat}{o vs:List Value}{K:Value->World->Prop}(B:vs.length=n)(hl:o.length=n)(h1:∀v∈vs,v.oneCell'=true)(h:∀b i,b=w.heap.size->i.heap.size=w.heap.size+1->Grow w i->(∀j v,vs[j]?=some v->i.cell? ((⟨b,0,none⟩:Addr).add j)=some v)->(∀j,j<vs.length->Live i ((⟨b,0,none⟩:Addr).add j))->K (.pointer (some ⟨b,0,none⟩)) i) :
  Am t o (fun t5 E=>Ac n t5 (.agg vs.toArray) (fun w4=>K t5 w4) E) w:=by
 subst B;exact Yd hl h1 h
theorem Hx{ok:Nat->Bool}{g:Nat}(i:ok g=true)(h:AB P g args K w):Ci P ok (.func (.func g) #[] #[]) args K w:=.inl ⟨g,[],[],rfl,i,by simpa using h⟩
theorem AY{i:Addr->Value->Prop}{a:Addr}{k:Value->Prop}(h:i a v)(hk:k v):BF i (.pointer (some a)) k:=⟨a,v,rfl,h,hk⟩
theorem CU{i:Addr->Value->Prop}{m:Nat}{a:Addr}{k:Value->Prop}(hl:vs.length=m)(h:∀j v,vs[j]?=some v->i (a.add j) v)(hk:k (.agg vs.toArray)):EM i m (.pointer (some a)) k:=⟨a,vs,rfl,hl,h,hk⟩
theorem Ce{F:(World->Prop)->Prop}(C:World->Prop)(h0:C w.drew)(h:F C):Cg w F:=⟨C,h0,h⟩
theorem Ai{AS:List Nat}{AN:List (List Nat)}{F:(Nat->Nat->Prop)->(Nat->Addr->Value->Prop)->Prop}(M:Nat->Nat->Prop)(h:F M (Ip AS AN M w0)):Ay AS AN w0 F:=⟨M,h⟩
theorem TY{b:Nat}:∀(vs:List Value) (i:Nat) (W:World),(∀j,i<=j->j<i+vs.length->Live W ((⟨b,0,none⟩:Addr).add j))->
  Mod (fun x=>x=b) W (EW W ⟨b,0,none⟩ i vs)/\(∀j u,vs[j]?=some u->(EW W ⟨b,0,none⟩ i vs).cell? ((⟨b,0,none⟩:Addr).add (i+j))=some u)/\(∀j,j<i->(EW W ⟨b,0,none⟩ i vs).cell? ((⟨b,0,none⟩:Addr).add j)=W.cell? ((⟨b,0,none⟩:Addr).add j))/\(∀a,Live W a->Live (EW W ⟨b,0,none⟩ i vs) a):=by
 intro vs;induction vs with
 |nil=>intro i W _;exact⟨Mod.refl _ _,fun j u hu=>by simp at hu,fun _ _=>rfl,fun _ h=>h⟩
 |cons x vs E=>
  intro i W hl;simp only[EW];obtain⟨I,J,B,O⟩:=E (i+1) (W.setCell ((⟨b,0,none⟩:Addr).add i) x) (fun j h1 Q=>(hl j (by omega) (by simp;omega)).set _ _);refine⟨(Mod.setCell _ _ _ (by rw[AH])).trans I,fun j u hu=>?_,fun j S=>?_,fun a ha=>O a (ha.set _ _)⟩
  .cases j with
   |zero=>
    simp at hu;subst hu;obtain⟨T,o⟩:=jV.1 (hl i (Lc _) (by simp)).1;exact(B i (by omega)).trans (kJ _ _ _ o)
   |succ j=>
    have:=J j u (by simpa using hu);rw[show i+(j+1)=i+1+j by omega];exact this
  .rw[B j (by omega),S4 _ _ _ _ (by rw[AH,AH];intro e;simp only[Addr.mk.injEq] at e;omega)]
theorem CF{b n:Nat}{K:World->Prop}(o:vs.length=n)(h1:∀v∈vs,v.oneCell'=true)(hl:∀j,j<n->Live W ((⟨b,0,none⟩:Addr).add j))
 (B:∀W',Mod (fun x=>x=b) W W'->(∀j u,vs[j]?=some u->W'.cell? ((⟨b,0,none⟩:Addr).add j)=some u)->(∀a,Live W a->Live W' a)->K W'):Ac n (.pointer (some ⟨b,0,none⟩)) (.agg vs.toArray) K W:=by
 obtain⟨E,I,_,J⟩:=TY (b:=b) vs 0 W (fun j _ i=>hl j (by omega));exact⟨_,vs,rfl,rfl,o,h1,fun j i=>hl j i,B _ E (fun j u hu=>by have:=I j u hu;rwa [lp] at this) J⟩
theorem Dc{t:TypeId}{i:List Value}(h:∀b o,b=w.heap.size->o.heap.size=w.heap.size+1->Grow w o->(∀j v,i[j]?=some v->o.cell? ((⟨b,0,none⟩:Addr).add j)=some v)->(∀j,j<i.length->Live o ((⟨b,0,none⟩:Addr).add j))->K (.pointer (some ⟨b,0,none⟩)) o):Am t i K w:=by
 refine Qu ?_;obtain⟨B,e,E⟩:=Dq (t:=t) (vs:=i) (K:=K) (w:=w) h;have:i=B:=by have:=kM Value.cells e;simpa[Value.cells] using this
 subst this;exact E
theorem LP(x:Int):-9223372036854775808<=IntKind.i64.wrap x/\IntKind.i64.wrap x<=9223372036854775807:=by
 have i:(2:Int) ^ IntKind.i64.bits=18446744073709551616:=by decide
 have j:(2:Int) ^ (IntKind.i64.bits-1)=9223372036854775808:=by decide
 simp only[IntKind.wrap,i,j,IntKind.signed,nf,S6];split<;>omega
theorem AO{n:Nat}(h:(n:Int)+1<=9223372036854775807):Value.int .i64 (IntKind.i64.wrap ((n:Int)+1))=.int .i64 ((n+1:Nat):Int):=by
 rw[wrap64 (by omega) (by omega)];rfl
theorem DG{q:IntKind}{n:Int}{r:List Value}:Ds (.int q n::r) 0=n.toNat:=rfl
theorem BL{a:Value}{q:IntKind}{n:Int}{r:List Value}:Ds (a::.int q n::r) 1=n.toNat:=rfl
theorem Tn{a b:Value}{q:IntKind}{n:Int}{r:List Value}:Ds (a::b::.int q n::r) 2=n.toNat:=rfl
def EK(r:Int):Prop:=0<=r/\r<55296\/57344<=r/\r<=1114111
instance (r:Int):Decidable (EK r):=by unfold EK;infer_instance
def Ff(o:Dop):Prop:=(o.kind=1/\o.Ak=[]/\o.set=[]/\1<=o.n/\o.n<=536870912)\/(o.kind=3/\o.Ak=[]/\o.set=[]/\o.patch=[]/\1<=o.n/\o.n<=536870912)\/
 (o.kind=2/\(∀r∈o.Ak,EK r)/\o.n=0/\o.patch=[]/\1<=o.Ak.length/\o.Ak.length<=536870912)
instance (o:Dop):Decidable (Ff o):=by unfold Ff;infer_instance
theorem Rt{l:List α}:((l.length:Int)=0)↔l=[]:=by
 constructor
 .intro h;exact QC (by omega)
 .rintro rfl;rfl
def L1(o:Dop):Int:=if o.kind=2 then o.Ak.length else o.n
def Cj(f:Dop->Int)(x:List Dop):Int:=x.foldl (fun s o=>IntKind.i64.wrap (s+f o)) 0
theorem Fq{f:Dop->Int}{x:List Dop}{k:Nat}(h:k<x.length):Cj f (x.take (k+1))=IntKind.i64.wrap (Cj f (x.take k)+f x[k]):=by
 rw[No,By h];simp only[Cj,lH,Option.toList,lb,nO]
def Bn(o:Dop):Int:=if o.kind=2 then 0 else o.n
def CA(o:Dop):Int:=if o.kind=3 then 0 else L1 o
theorem Ex{f:Dop->Int}{m:Int}(hm:0<=m)(x:List Dop)(h:∀o∈x,0<=f o/\f o<=m)(hb:x.length*m<=4611686018427387904):Cj f x=(x.map f).sum/\0<=Cj f x/\Cj f x<=x.length*m:=by
 induction x using IW with
 |h0=>exact⟨rfl,by simp[Cj],by simp[Cj]⟩
 |h1 x o j=>
  have B:∀o∈x,0<=f o/\f o<=m:=fun o i=>h o (by simp[i]);have i:=h o (by simp);have e:((x++[o]).length:Int)*m=x.length*m+m:=by simp[Int.add_mul]
  rw[e] at hb;obtain⟨E,J,O⟩:=j B (by omega);have I:Cj f (x++[o])=IntKind.i64.wrap (Cj f x+f o):=by simp[Cj]
  rw[I,wrap64 (by omega) (by omega),e];refine⟨by rw[E];simp,by omega,by omega⟩
theorem Hq{t e k:Nat}{i:TypeInfo}{R:World->List Value->α->Prop}{a:Option Addr}{n c:Nat}{l:List α}(ht:P.underlying t=some (.slice e))(hi:P.info? e=some i)(hk:i.size=k)
 (h:BB S k R w (.slice a n c) l)(U:j<=l.length)(E:∀v',BB S k R w v' (l.drop j)->K v' w):runK P (Instr.sliceAt t (.slice a n c) (some (.int .i64 j)) none none) K w:=by
 obtain⟨V,X,I,h1,Y,J⟩:=h;cases I;have o:P.elem t=e:=by simp[Program.elem,ht]
 refine⟨sliced a j l.length c k,w,?_,E _ ?_⟩
 .rw[me _ _ _ _ _ _ (by rw[o];exact ht),run_slice_l _ _ _ _ _ (by rw[o];exact ht) _ _ (by omega) (by omega),o];simp[sizeOf,typeInfo,hi,hk]
 .unfold sliced;refine⟨_,_,by rw[K8],by rw[K8];omega,by omega,fun q x B=>?_⟩;rw[lL] at B;obtain⟨p,r,rfl,O,hr,hc,Q⟩:=J _ x B;have T:=(Bp.1 B).1;rw[C3 (by omega)];refine⟨p.add (j*k),r,rfl,by rw[BO];exact O,hr,fun m u hu=>?_,Q⟩;rw[Addr.add_add,<-mB,<-ku];exact hc m u hu
theorem Qg{t e k:Nat}{i:TypeInfo}{R:World->List Value->α->Prop}{a:Option Addr}{n c:Nat}{l:List α}(ht:P.underlying t=some (.slice e))(hi:P.info? e=some i)(hk:i.size=k)
 (h:BB S k R w (.slice a n c) l)(T:j<=l.length)(E:∀v',BB S k R w v' (l.take j)->K v' w):runK P (Instr.sliceAt t (.slice a n c) none (some (.int .i64 j)) none) K w:=by
 obtain⟨U,V,I,h1,X,J⟩:=h;cases I;have o:P.elem t=e:=by simp[Program.elem,ht]
 refine⟨sliced a 0 j c k,w,?_,E _ ?_⟩
 .rw[me _ _ _ _ _ _ (by rw[o];exact ht),run_slice_h _ _ _ _ _ (by rw[o];exact ht) _ _ (by omega) (by omega),o];simp[sizeOf,typeInfo,hi,hk]
 .unfold sliced;have hl:(l.take j).length=j:=by simp;omega
  refine⟨_,_,by rw[hl,Nat.sub_zero],by rw[hl];omega,by omega,fun q x B=>?_⟩;rw[lQ] at B;split at B
  .obtain⟨p,r,rfl,O,hr,hc,Q⟩:=J _ x B;rw[C3 (by omega)];refine⟨p.add (0*k),r,rfl,by rw[BO];exact O,hr,fun m u hu=>?_,Q⟩;rw[Addr.add_add,pP,lp];exact hc m u hu
  .cases B
abbrev JW:World->List Value->Int->Prop:=fun _ r x=>r=[.int .u8 x]
abbrev DF(S:Nat->Prop)(w:World)(v:Value)(l:List Int):Prop:=BB S 1 JW w v l
def Bu(s:ByteArray):List Int:=s.data.toList.map fun b=>(b.toNat:Int)
def IF(r:Int):Nat:=if r<128 then 1 else if r<2048 then 2 else if r<65536 then 3 else 4
theorem GL{e k len:Nat}{j:List (Nat×Value)}(o:Instr.fill (fun i=>some (i*k,k)) ((Array.range (len*k)).map (vs.toArray[· % vs.toArray.size]!)) j=some cs.toArray)(h:K (.slice (some ⟨w.heap.size,0,none⟩) len len) (w.alloc (.cells cs.toArray e))):Bg e k len vs j K w:=⟨_,o,h⟩
def DA(i:Int):Option (Nat×Int):=
 if 240<=i then some (4,IntKind.i32.wrap (IntKind.i32.wrap i-240)) else if 224<=i then some (3,IntKind.i32.wrap (IntKind.i32.wrap i-224)) else if 192<=i then some (2,IntKind.i32.wrap (IntKind.i32.wrap i-192))
 else if 128<=i then none else some (1,IntKind.i32.wrap i)
def Hl(b:List Int):Nat->Nat->Int->Option Int
 |0,_,r=>some r
 |k+1,i,r=>match b[i]? with
  |some c=>if c<128\/191<c then none else Hl b k (i+1) (IntKind.i32.wrap (IntKind.i32.wrap (IntKind.i32.wrap (r*64)+IntKind.i32.wrap c)-128))
  |none=>none
def Cv(b:List Int):Int×Nat:=match DA (b.headD 0) with
 |none=>(0,0)
 |some (n,r)=>if b.length<n then(0,0) else match Hl b (n-1) 1 r with
  |none=>(0,0)
  |some r=>if EK r/\IF r=n then(r,n) else(0,0)
theorem Rj{i r:Int}{n:Nat}(h:DA i=some (n,r)):1<=n/\n<=4:=by
 unfold DA at h;split at h
 .cases h;omega
 split at h
 .cases h;omega
 split at h
 .cases h;omega
 split at h
 .cases h
 .cases h;omega
theorem UO(b:List Int):(Cv b).2<=b.length/\(Cv b).2<=4:=by
 unfold Cv;split
 .exact⟨Nn _,Nn _⟩
 .rename_i n r h;have:=Rj h;split
  .exact⟨Nn _,Nn _⟩
  .split
   .exact⟨Nn _,Nn _⟩
   .split<;>simp only<;>omega
theorem LF{t e k bytes B:Nat}{R:World->List Value->α->Prop}{l:List α}{x:α}{E:List (Nat×Value)}(Z:DU P t e k bytes)(h:AE B e k R w v l)(hB:B<=w.heap.size)
 (hf:Instr.fill (fun i=>some (i*k,k)) ((Array.range (1*k)).map (vs.toArray[· % vs.toArray.size]!)) E=some cs.toArray)(T:cs.length=k)(hx:R w cs x)(Q:∀w r y,R w r y->∀u∈r,u.oneCell'=true)
 (U:∀o w2 r y,w.heap.size<=o.heap.size->Mod (fun b=>v.ownBlock=some b\/w.heap.size<=b) o w2->R o r y->R w2 r y)(S:(l.length+1)*bytes<=140737488355328)(V:l.length+1<=maxLen)
 {Q1:World->Prop}{Q2:World->World->Prop}(X:∀o,Grow w o->Q1 o)
 (hK:∀o v' w',AE B e k R w' v' (l++[x])->Mod (fun b=>v.ownBlock=some b) o w'->Mod (fun b=>v.ownBlock=some b) w w'->(∀g,v'.ownBlock=some g->v.ownBlock=some g\/w.heap.size<=g)->Q2 o w'/\K v' w') :
  Bg e k 1 vs E (fun s o=>Q1 o/\runK P (Builtin.append_ #[t,t] t [v,s].toArray) (fun v' w'=>Q2 o w'/\K v' w') o) w:=by
 refine⟨_,hf,?_⟩;have O:Grow w (w.alloc (.cells cs.toArray e)):=Mod.alloc _ _ _;have hc:∀j u,cs[j]?=some u->(w.alloc (.cells cs.toArray e)).cell? ((⟨w.heap.size,0,none⟩:Addr).add j)=some u:=fun j u hu=>HH hu;have hz:(w.alloc (.cells cs.toArray e)).heap.size=w.heap.size+1:=by simp
 generalize w.alloc (.cells cs.toArray e)=o at O hc hz ⊢;have h':AE B e k R o v l:=AE.mod h O (fun _ _ h=>h) fun r y _ I=>U _ _ _ _ (Lc _) O.mod I;have hs:BB (fun _=>True) k R o (.slice (some ⟨w.heap.size,0,none⟩) 1 1) [x]:=by
  refine⟨_,1,rfl,Lc _,by simp[maxLen],fun i y I=>?_⟩;have hi:i=0:=by have:=(Bp.1 I).1;simp at this;exact this
  subst hi;simp at I;subst I;exact⟨_,cs,rfl,trivial,T,fun j u hu=>by rw[pP,lp];exact hc j u hu,U _ _ _ _ (Lc _) O.mod hx⟩
 obtain⟨v',w',h1,h2,Y,h4⟩:=AE.append (ty:=t) Z h' hs (fun _ _=>Q _ _ _) (by simpa using S) (by omega) (by simpa using V) (fun w2 J r y I=>U _ _ _ _ (by omega) ((Mod.of_grownBy J).mono fun b _ e=>.inl e) I);refine⟨X _ O,Ag h1 (hK o v' w' h2 (Mod.of_grownBy Y) (O.mod.next (Mod.of_grownBy Y) fun _ _ h=>h) fun g J=>?_)⟩;rcases h4 g J with h|h
 .exact .inl h
 .exact .inr (by omega)
theorem Dr{t e k bytes B:Nat}{R:World->List Value->α->Prop}{l:List α}{x:α}{j:List (Nat×Value)}(Q:DU P t e k bytes)(h:AE B e k R w v l)(S:B<=w.heap.size)
 (T:Instr.fill (fun i=>some (i*k,k)) ((Array.range (1*k)).map (vs.toArray[· % vs.toArray.size]!)) j=some cs.toArray)(J:cs.length=k)(U:R w cs x)(E:∀w r y,R w r y->∀u∈r,u.oneCell'=true)
 (V:∀o w2 r y,w.heap.size<=o.heap.size->Mod (fun b=>v.ownBlock=some b\/w.heap.size<=b) o w2->R o r y->R w2 r y)(I:(l.length+1)*bytes<=140737488355328)(O:l.length+1<=maxLen)
 (X:∀v' w',AE B e k R w' v' (l++[x])->Mod (fun b=>v.ownBlock=some b) w w'->(∀g,v'.ownBlock=some g->v.ownBlock=some g\/w.heap.size<=g)->K v' w') :
  Bg e k 1 vs j (fun s o=>runK P (Builtin.append_ #[t,t] t [v,s].toArray) K o) w:=by
 obtain⟨c,h1,_,v',w',Y,_,Z⟩:=LF (t:=t) (K:=K) (Q1:=fun _=>True) (Q2:=fun _ _=>True) Q h S T J U E V I O (fun _ _=>trivial) fun o v' w' k1 _ k2 k3=>⟨trivial,X v' w' k1 k2 k3⟩;exact⟨c,h1,v',w',Y,Z⟩
theorem Lm{t e k bytes:Nat}{R:World->List Value->α->Prop}{l:List α}{x:α}{j:List (Nat×Value)}(Q:DU P t e k bytes)(h:AE w0.heap.size e k R w v l)(O:Grow w0 w)
 (S:Instr.fill (fun i=>some (i*k,k)) ((Array.range (1*k)).map (vs.toArray[· % vs.toArray.size]!)) j=some cs.toArray)(I:cs.length=k)(T:R w cs x)(o:∀w r y,R w r y->∀u∈r,u.oneCell'=true)
 (U:∀B w2 r y,w.heap.size<=B.heap.size->Mod (fun b=>v.ownBlock=some b\/w.heap.size<=b) B w2->R B r y->R w2 r y)(E:(l.length+1)*bytes<=140737488355328)(J:l.length+1<=maxLen)
 (V:∀v' w',AE w0.heap.size e k R w' v' (l++[x])->Grow w0 w'->K v' w') :
  Bg e k 1 vs j (fun s B=>runK P (Builtin.append_ #[t,t] t [v,s].toArray) K B) w:=
 Dr Q h O.size S I T o U E J fun v' w' h1 X _=>V v' w' h1 (O.next X fun b hb e=>by have:=(AE.BA h b e).1;omega)
def Jy:Nat->List Int->Option (List Int)
 |0,b=>if b=[] then some [] else none
 |f+1,b=>if b=[] then some [] else if(Cv b).2=0 then none else(Jy f (b.drop (Cv b).2)).map ((Cv b).1::·)
def Bs(b:List Int):Option (List Int):=Jy b.length b
theorem RK:∀(f g:Nat) (b:List Int),b.length<=f->b.length<=g->Jy f b=Jy g b:=by
 intro f;induction f with
 |zero=>
  intro g b i j;have:b=[]:=QC (by omega);subst this;cases g<;>simp[Jy]
 |succ f o=>
  intro g b i j;cases g with
  |zero=>
   have:b=[]:=QC (by omega);subst this;simp[Jy]
  |succ g=>
   simp only[Jy];split
   .rfl
   .split
    .rfl
    .rw[o g _ (by simp;omega) (by simp;omega)]
theorem Mj{b:List Int}(hb:b≠[]):Bs b=if(Cv b).2=0 then none else(Bs (b.drop (Cv b).2)).map ((Cv b).1::·):=by
 unfold Bs;obtain⟨n,i⟩:∃n,b.length=n+1:=⟨b.length-1,by have:=lT.2 hb;omega⟩;rw[i];simp only[Jy,C3 hb];split
 .rfl
 .rw[RK n _ _ (by simp;omega) (Lc _)]
theorem QZ(W:World)(c:Array Value)(t:TypeId)(fr:Nat×Nat)(i:Nat):(W.alloc (.cells c t fr)).cell? ⟨W.heap.size,i,none⟩=c[i]?:=by
 have h:(W.alloc (.cells c t fr)).heap[W.heap.size]?=some (.cells c t fr):=pV W _;unfold World.cell?;simp only[h];rfl
theorem O9{s:ByteArray}(O:s.size*4<=140737488355328)(E:∀v w',Grow w w'->DF (fun _=>True) w' v (Bu s)->K v w'):runK prog (convert 9 293 (.string s)) K w:=by
 refine⟨_,_,run_bytes_of_string w _ _ 5 s (by kernel_rfl) (by kernel_rfl) (by kernel_rfl),E _ _ ((Mod.drew (fun _=>False) w).trans (Mod.alloc _ _ _)) ?_⟩;have hl:(Bu s).length=s.size:=by simp[Bu]
 have hm:s.size<=maxLen:=by simp only[maxLen];omega
 refine⟨_,_,by rw[hl],by rw[hl];exact grownCap_ge _ _ _ _,pW _ _ _ _ hm,fun i x o=>⟨_,[.int .u8 x],rfl,trivial,rfl,fun j u hu=>?_,rfl⟩⟩;have I:j=0:=by have:=(Bp.1 hu).1;simp at this;exact this
 subst I;simp at hu;subst hu;rw[AH,nA,kg];have hi:=(Bp.1 o).1;rw[hl] at hi;have B:x=((s.data[i]'hi).toNat:Int):=by
  simp only[Bu,kr,lJ] at o;rw[oF hi] at o;simpa using o.symm
 subst B;have J:i<s.data.size:=hi;refine(QZ w.drew _ _ _ i).trans ?_;simp[bytesRow,qN,hi]
def Gc(f:Int):Prop:=9218868437227405312<f.tmod 9223372036854775808
instance (f:Int):Decidable (Gc f):=by unfold Gc;infer_instance
def Fo:ByteArray:=ByteArray.mk #[]
def DV(v:BK):Prop:=(v.kind=1/\v=⟨1,v.n,0,Fo⟩/\(v.n=0\/v.n=1))\/(v.kind=2/\v=⟨2,v.n,0,Fo⟩)\/(v.kind=3/\v=⟨3,0,v.f,Fo⟩/\(¬Gc v.f\/v.f=9221120237041090560))\/
 (v.kind=4/\v=⟨4,0,0,v.s⟩/\v.s.size<=64/\(Bs (Bu v.s)).isSome=true)
instance (v:BK):Decidable (DV v):=by unfold DV;infer_instance
theorem BK.one(v:BK):∀u∈v.cells,u.oneCell'=true:=by
 intro u hu;simp only[BK.cells,I3,kV,mI] at hu;rcases hu with rfl|rfl|rfl|rfl<;>rfl
def DKey.zero:DKey:=⟨0,false,0,false,false,0⟩
def Bj(i:List DKey)(id:Int):Option DKey:=i.find? fun k=>decide (k.id=id)
def Hh(i:List DKey)(id:Int)(v:BK):Prop:=∃k,Bj i id=some k/\DV v/\v.kind=k.kind
def Mx{α:Type}(key:α->Int)(l:List α)(n:Nat):Prop:=∀i,1<=i->i<n->∀a b,l[i-1]?=some a->l[i]?=some b->key a<key b
abbrev ik(l:List Attr):Prop:=Mx Attr.key l l.length
abbrev ic(l:List Chg):Prop:=Mx Chg.key l l.length
def KH(l:List Attr):Prop:=¬ik l\/64<l.length\/∃a∈l,¬DV a.val
def G7(i:List DKey)(l:List Attr):Prop:=∃a∈l,¬Hh i a.key a.val
open Classical in
noncomputable def Bl(i:List DKey)(l:List Attr):Int:=if KH l then 3 else if G7 i l then 4 else 0
def BK.zero:BK:=⟨0,0,0,Fo⟩
def LY(p:List Chg):Prop:=¬ic p\/64<p.length\/∃c∈p,(c.gone=true/\c.val≠BK.zero)\/(c.gone=false/\¬DV c.val)
def HM(i:List DKey)(p:List Chg):Prop:=∃c∈p,Bj i c.key=none\/(c.gone=false/\¬Hh i c.key c.val)
open Classical in
noncomputable def Dd(i:List DKey)(p:List Chg):Int:=if LY p then 3 else if HM i p then 4 else 0
def EZ(k:DKey):Prop:=1<=k.id/\k.id<=1000/\1<=k.kind/\k.kind<=4/\0<=k.group/\k.group<=8/\(k.block=false->k.group=0)/\(k.block=true->k.before=false)
def dh(o:List DKey)(n:Nat):Prop:=∀i,i<n->∀k,o[i]?=some k->EZ k/\∀j,j<i->∀B,o[j]?=some B->B.id≠k.id
def Fk(i:List DKey):Prop:=i.length<=64/\dh i i.length
def Sv(l:List Attr):Nat:=(l.map fun a=>a.val.s.size).sum
def T0(l:List Chg):Nat:=(l.map fun a=>a.val.s.size).sum
theorem LD(l:List Attr):GX l=l.length+Sv l:=by
 induction l with
 |nil=>rfl
 |cons a l i=>simp only[GX,Sv,kL,lX,Vn,K0] at i ⊢;omega
theorem Om(l:List Chg):KJ l=l.length+T0 l:=by
 induction l with
 |nil=>rfl
 |cons a l i=>simp only[KJ,T0,kL,lX,Vn,Ta] at i ⊢;omega
theorem Vr{l:List Attr}{k:Nat}(h:k<l.length):Sv (l.take (k+1))=Sv (l.take k)+l[k].val.s.size:=by
 rw[No,By h];simp only[Sv,Option.toList,S7,my,kL,lM,lX,mL,kg]
theorem WU{l:List Chg}{k:Nat}(h:k<l.length):T0 (l.take (k+1))=T0 (l.take k)+l[k].val.s.size:=by
 rw[No,By h];simp only[T0,Option.toList,S7,my,kL,lM,lX,mL,kg]
theorem RV{l:List Dop}{k:Nat}(h:k<l.length):Aw (l.take (k+1))=Aw (l.take k)+DR l[k]:=by
 rw[No,By h];simp only[Aw,Option.toList,S7,my,kL,lM,lX,mL,kg]
theorem HB{l:List Dop}{o:Dop}(h:o∈l):DR o<=Aw l:=by
 induction l with
 |nil=>simp at h
 |cons a l i=>
  have e:Aw (a::l)=DR a+Aw l:=by simp[Aw]
  rcases I3.1 h with rfl|h
  .omega
  .have:=i h;omega
theorem CZ(l:List Dop):l.length<=Aw l:=by
 induction l with
 |nil=>exact Nn _
 |cons a l i=>simp only[Aw,kL,lX,Vn,DR] at i ⊢;omega
theorem KC(l:List Dop)(k:Nat):Aw (l.take k)<=Aw l:=by
 have:Aw l=Aw (l.take k)+Aw (l.drop k):=by
  conv=>lhs;rw[<-S9 k l]
  simp only[Aw,S7,my]
 omega
theorem cG(l:List Attr)(k:Nat):Sv (l.take k)<=Sv l:=by
 have:Sv l=Sv (l.take k)+Sv (l.drop k):=by
  conv=>lhs;rw[<-S9 k l]
  simp only[Sv,S7,my]
 omega
theorem cj(l:List Chg)(k:Nat):T0 (l.take k)<=T0 l:=by
 have:T0 l=T0 (l.take k)+T0 (l.drop k):=by
  conv=>lhs;rw[<-S9 k l]
  simp only[T0,S7,my]
 omega
theorem ZF{S D:Nat->Prop}{x:List Dop}(h:BE S D w v x)(hb:Aw x<=1099511627776) :
  AB prog 34 [v] (fun v' w'=>v'=.int .i64 (Aw x)/\Grow w w') w:=by
 apply dR;obtain⟨a,c,rfl,hm⟩:=h.shape;simp only[maxLen] at hm;refine Ab (fun vs Q=>∃k:Nat,k<=x.length/\vs=[.int .i64 (Aw (x.take k)),.int .i64 k]/\Grow w Q) (fun vs _=>x.length-Ds vs 1) ⟨0,Nn _,rfl,Mod.refl _ _⟩ ?_;rintro vs Q ⟨k,hk,rfl,X⟩ _;simp only[GJ];rw[AP,Ap];refine AF (fun ak=>?_) fun al=>?_
 .have o:k<x.length:=by omega
  have Y:=RV o;have a8:=KC x (k+1);obtain⟨p,r,rfl,_,hr,hc,rv,sv,pv,rfl,h1,h2,h3⟩:=(BE.grow h X).get o;obtain⟨a1,c1,rfl,m1⟩:=h1.shape;obtain⟨a2,c2,rfl,m2⟩:=h2.shape;obtain⟨a3,c3,rfl,m3⟩:=h3.shape;have cl:∀{W},Grow Q W->∀j u,[Value.int .u8 x[k].kind,.int .i64 x[k].n,.slice a1 x[k].Ak.length c1,.slice a2 x[k].set.length c2,.slice a3 x[k].patch.length c3][j]?=some u->W.cell? ((p.add (k*5)).add j)=some u:=fun E j u hu=>by rw[Addr.add_add];exact E.cell (hc j u hu) fun h=>h
  simp only[DR,LD,Om] at Y;refine Ce (fun w2=>Grow Q w2) (Mod.drew _ _) ?_;rw[AR,wrap64 (by omega) (by omega)];refine AU o ?_;rw[AG];refine Au (fun W E=>cl E 2 _ rfl) ?_;rw[AP,AR,wrap64 (by omega) (by omega)];refine AU o ?_;rw[AG];refine Au (fun W E=>cl E 3 _ rfl) ?_;rw[AP,AR,wrap64 (by omega) (by omega)];refine AU o ?_;rw[AG];refine Au (fun W E=>cl E 4 _ rfl) ?_;rw[AP,AR,wrap64 (by omega) (by omega)];intro w2 g2;generalize hN:((Aw (x.take k):Nat):Int)+1+x[k].Ak.length+x[k].set.length+x[k].patch.length=N;refine Ab (fun vs w3=>∃i:Nat,i<=x[k].set.length/\vs=[.int .i64 (N+Sv (x[k].set.take i)),.int .i64 i]/\Grow Q w3) (fun vs _=>x[k].set.length-Ds vs 1) ⟨0,Nn _,by simp[Sv],g2⟩ ?_;rintro vs w3 ⟨i,hi,rfl,T⟩ _;simp only[GJ];refine AU o ?_;rw[AG];refine AK (cl T 3 _ rfl) ?_;rw[AP,Ap];refine AF (fun Z=>?_) fun a6=>?_
  .have B:i<x[k].set.length:=by omega
   have I:=Vr B;have U:=cG x[k].set (i+1);refine AU o ?_;rw[AG];refine AK (cl T 3 _ rfl) ?_;obtain⟨q,r',rfl,_,a7,J,O⟩:=(h2.grow T (by decide) fun _ _ h=>h).get B;subst O;refine AU B ?_;rw[AG,AG,Addr.add_add,Addr.add_add];refine AK (J 4 _ rfl) ?_;rw[LG,AR,AR,AO (by omega),wrap64 (by omega) (by omega)];refine⟨⟨i+1,B,by rw[I];congr 2;omega,T⟩,by rw[BL,BL];omega⟩
  .have:i=x[k].set.length:=by omega
   subst this;rw[Nr];generalize an:N+Sv x[k].set=N2;refine Ab (fun vs w4=>∃i:Nat,i<=x[k].patch.length/\vs=[.int .i64 (N2+T0 (x[k].patch.take i)),.int .i64 i]/\Grow Q w4) (fun vs _=>x[k].patch.length-Ds vs 1) ⟨0,Nn _,by simp[T0],T⟩ ?_;rintro vs w4 ⟨i,hi,rfl,V⟩ _;simp only[GJ];refine AU o ?_;rw[AG];refine AK (cl V 4 _ rfl) ?_;rw[AP,Ap];refine AF (fun Z=>?_) fun a6=>?_
   .have B:i<x[k].patch.length:=by omega
    have I:=WU B;have U:=cj x[k].patch (i+1);refine AU o ?_;rw[AG];refine AK (cl V 4 _ rfl) ?_;obtain⟨q,r',rfl,_,a7,J,O⟩:=(h3.grow V (by decide) fun _ _ h=>h).get B;subst O;refine AU B ?_;rw[AG,AG,Addr.add_add,Addr.add_add];refine AK (J 5 _ rfl) ?_;rw[LG,AR,AR,AO (by omega),wrap64 (by omega) (by omega)];refine⟨⟨i+1,B,by rw[I];congr 2;omega,V⟩,by rw[BL,BL];omega⟩
   .have:i=x[k].patch.length:=by omega
    subst this;rw[Nr,AR,AO (by omega)];refine⟨⟨k+1,o,?_,X.trans V⟩,by rw[BL,BL];omega⟩;congr 2
    omega
 .have:k=x.length:=by omega
  subst this;rw[Nr];exact⟨rfl,X⟩
structure Gw where
 done:List Dop
 ins:List Dop
 gone:Int
def Gw.z:Gw:=⟨[],[],0⟩
def BH(ins:List Dop)(gone:Int):List Dop:=if 0<gone then ins++[⟨3,gone,[],[],[]⟩] else ins
def FO(d:List Dop)(n:Int)(p:List Chg):List Dop:=
 match d.getLast? with
 |some o=>if o.kind=1/\o.patch=p then d.set (d.length-1) ⟨o.kind,IntKind.i64.wrap (o.n+n),o.Ak,o.set,o.patch⟩ else d++[⟨1,n,[],[],p⟩]
 |none=>d++[⟨1,n,[],[],p⟩]
def LA(s:Gw)(n:Int)(p:List Chg):Gw:=if n<1 then s else⟨FO (s.done++BH s.ins s.gone) n p,[],0⟩
def Fg(ins:List Dop)(rs:List Int)(set:List Attr):List Dop:=
 match ins.getLast? with
 |some o=>if o.set=set then ins.set (ins.length-1) ⟨o.kind,o.n,o.Ak++rs,o.set,o.patch⟩ else ins++[⟨2,0,rs,set,[]⟩]
 |none=>ins++[⟨2,0,rs,set,[]⟩]
def Md(s:Gw)(rs:List Int)(set:List Attr):Gw:=if rs=[] then s else⟨s.done,Fg s.ins rs set,s.gone⟩
def Qf(s:Gw)(n:Int):Gw:=⟨s.done,s.ins,IntKind.i64.wrap (s.gone+J7 n 0)⟩
def CC(s:Gw)(o:Dop):Gw:=if o.kind=1 then LA s o.n o.patch else if o.kind=2 then Md s o.Ak o.set else Qf s o.n
def EG(l:List Dop):List Dop:=match l.getLast? with|some o=>if o.kind=1/\o.patch=[] then l.dropLast else l|none=>l
def RC(s:Gw):List Dop:=EG (s.done++BH s.ins s.gone)
def BP(x:List Dop):Gw:=x.foldl CC Gw.z
def CG(x:List Dop):List Dop:=RC (BP x)
def FN(o:Dop):Prop:=(o.kind=1/\o.Ak=[]/\o.set=[]/\1<=o.n/\o.n<=536870912)\/(o.kind=3/\o.Ak=[]/\o.set=[]/\o.patch=[]/\1<=o.n/\o.n<=536870912)\/(o.kind=2/\o.n=0/\o.patch=[]/\o.Ak≠[])
inductive Ev:List Dop->Prop
 |nil:Ev []
 |snoc (i:List Dop) (rs:List Int) (set:List Attr) (h:Ev i) (hr:rs≠[]) (hs:∀q,i.getLast?=some q->q.set≠set):Ev (i++[⟨2,0,rs,set,[]⟩])
inductive EN:List Dop->Prop
 |nil:EN []
 |snoc (d ins:List Dop) (gone n:Int) (p:List Chg) (h:EN d) (hi:Ev ins) (hg:0<=gone) (hb:gone<=4611686018427387904) (hn:1<=n) (hp:ins=[]->gone=0->∀q,d.getLast?=some q->q.patch≠p):EN (d++BH ins gone++[⟨1,n,[],[],p⟩])
theorem Ev.add{ins:List Dop}(h:Ev ins)(hr:rs≠[])(set:List Attr):Ev (Fg ins rs set):=by
 cases h with
 |nil=>exact Ev.snoc [] rs set .nil hr fun q E=>by simp at E
 |snoc i o j h B I=>
  unfold Fg;simp only[S5,X1,ki];by_cases e:j=set
  .rw[Io e];have:(i++[(⟨2,0,o,j,[]⟩:Dop)]).set ((i++[(⟨2,0,o,j,[]⟩:Dop)]).length-1) ⟨2,0,o++rs,j,[]⟩=i++[⟨2,0,o++rs,j,[]⟩]:=by simp
   rw[this];exact Ev.snoc i _ j h (by simp[B]) I
  .rw[C3 e];exact Ev.snoc _ rs set (Ev.snoc i o j h B I) hr fun q E=>by
    simp only[S5,X1,ki,i6] at E;subst E;exact e
theorem Ev.kinds{ins:List Dop}(h:Ev ins):∀o∈ins,o.kind=2:=by
 induction h with
 |nil=>intro o j;simp at j
 |snoc i rs set h hr E B=>
  intro o j;rcases DN.1 j with j|j
  .exact B o j
  .simp at j;subst j;rfl
theorem Ev.run{ins:List Dop}(h:Ev ins)(d:List Dop)(g:Int):ins.foldl CC ⟨d,[],g⟩=⟨d,ins,g⟩:=by
 induction h with
 |nil=>rfl
 |snoc i rs set h hr j o=>
  rw[lH,o];simp only[lb,nO,CC,show ¬(2:Int)=1 by decide,km,kZ,Md,C3 hr,Fg];cases e:i.getLast? with
  |none=>rfl
  |some q=>simp only;rw[C3 (j q e)]
theorem IS{ins:List Dop}(h:Ev ins):∀o,(BH ins most).getLast?=some o->o.kind≠1:=by
 intro o i;unfold BH at i;split at i
 .simp only[S5,X1,ki,i6] at i;subst i;intro h;cases h
 .have:=h.kinds o (mD i);omega
theorem JX{ins:List Dop}(h0:0<=most)(h:BH ins most=[]):ins=[]/\most=0:=by
 unfold BH at h;split at h
 .simp at h
 .exact⟨h,by omega⟩
theorem Ls{d g:List Dop}:(d++g).getLast?=match g.getLast? with|some o=>some o|none=>d.getLast?:=by
 rw[S5];cases g.getLast?<;>rfl
theorem R7{ins:List Dop}(h:Ev ins)(d:List Dop){g:Int}(i:0<=g)(hb:g<=4611686018427387904):(BH ins g).foldl CC ⟨d,[],0⟩=⟨d,ins,g⟩:=by
 unfold BH;split
 .rw[lH,h.run];simp only[lb,nO,CC,show ¬(3:Int)=1 by decide,show ¬(3:Int)=2 by decide,kZ,Qf];have:J7 g 0=g:=by unfold J7;rw[C3 (by omega)]
  rw[this,wrap64 (by omega) (by omega)];congr 1;omega
 .rw[h.run];congr 1;omega
theorem R8{d g:List Dop}{n:Int}{p:List Chg}(h1:∀o,g.getLast?=some o->o.kind≠1)(i:g=[]->∀q,d.getLast?=some q->q.patch≠p):FO (d++g) n p=d++g++[⟨1,n,[],[],p⟩]:=by
 unfold FO;rw[Ls];cases e:g.getLast? with
 |some o=>simp only;rw[C3 (fun h=>h1 o e h.1)]
 |none=>
  have:g=[]:=mS.1 e;subst this;simp only[kG];cases j:d.getLast? with
  |none=>rfl
  |some q=>simp only;rw[C3 (fun h=>i rfl q j h.2)]
theorem EN.run{d:List Dop}(h:EN d):d.foldl CC Gw.z=⟨d,[],0⟩:=by
 induction h with
 |nil=>rfl
 |snoc d ins gone n p h hi i hb o hp j=>
  rw[lH,lH,j,R7 hi d i hb];simp only[lb,nO,CC,km,LA,C3 (show ¬n<1 by omega)];rw[R8 (IS hi) fun e=>hp (JX i e).1 (JX i e).2]
def Et(l:List Dop):Int:=(l.map (·.n)).sum
theorem Cr(l m:List Dop):Et (l++m)=Et l+Et m:=by simp[Et]
theorem Eh(o:Dop):Et [o]=o.n:=by simp[Et]
theorem Ev.sum{ins:List Dop}(h:Ev ins):Et ins=0:=by
 induction h with
 |nil=>rfl
 |snoc i rs set h hr o j=>rw[Cr,Eh,j];rfl
theorem HG{ins:List Dop}{g:Int}(h:Ev ins)(i:0<=g):Et (BH ins g)=g:=by
 unfold BH;split
 .rw[Cr,Eh,h.sum];simp
 .rw[h.sum];omega
theorem EN.nn{d:List Dop}(h:EN d):0<=Et d:=by
 induction h with
 |nil=>simp[Et]
 |snoc d ins gone n p h hi i hb j hp o=>rw[Cr,Cr,Eh,HG hi i];simp only;omega
structure Canon (s:Gw) (t:Int):Prop where
 done:EN s.done
 ins:Ev s.ins
 gone:0<=s.gone
 sum:Et s.done+s.gone=t
theorem Canon.step{s:Gw}{t:Int}(h:Canon s t){o:Dop}(ho:FN o)(ht:t+o.n<=4611686018427387904):Canon (CC s o) (t+o.n):=by
 obtain⟨done,ins,gone⟩:=s;obtain⟨h1,J,Q,U⟩:=h;simp only at h1 J Q U;obtain⟨k,n,rs,set,p⟩:=o;have a6:=h1.nn;rcases ho with⟨B,O,S,j,X⟩|⟨B,O,S,j,X,e6⟩|⟨B,O,S,j⟩
 .simp only at B O S j X ht;subst B;simp only[CC,km,LA,C3 (show ¬n<1 by omega)];have key:EN (FO (done++BH ins gone) n p)/\Et (FO (done++BH ins gone) n p)=t+n:=by
   by_cases i:BH ins gone=[]
   .obtain⟨Y,Z⟩:=JX Q i;subst Y;subst Z;rw[i,kG];cases h1 with
    |nil=>exact⟨EN.snoc [] [] 0 n p .nil .nil (by omega) (by omega) j fun _ _ q V=>by simp at V,by simp only[FO,pn,Cr,Eh] at U ⊢;omega⟩
    |snoc d ins gone I E h hi T hb hn hp=>
     unfold FO;rw[S5,X1,ki];simp only[ob];rw[Cr,Cr,Eh,HG hi T] at U;simp only at U;have a7:=h.nn;by_cases e:E=p
     .rw[Io e];have a1:(d++BH ins gone++[(⟨1,I,[],[],E⟩:Dop)]).set ((d++BH ins gone++[(⟨1,I,[],[],E⟩:Dop)]).length-1) ⟨1,IntKind.i64.wrap (I+n),[],[],E⟩=d++BH ins gone++[⟨1,IntKind.i64.wrap (I+n),[],[],E⟩]:=by
       rw[lC _ _ (by simp)];simp
      rw[a1,wrap64 (by omega) (by omega)];refine⟨EN.snoc d ins gone (I+n) E h hi T hb (by omega) hp,?_⟩;rw[Cr,Cr,Eh,HG hi T];simp only;omega
     .rw[C3 e];have:=EN.snoc (d++BH ins gone++[⟨1,I,[],[],E⟩]) [] 0 n p (EN.snoc d ins gone I E h hi T hb hn hp) .nil (by omega) (by omega) j fun _ _ q V=>by
       rw[S5,X1,ki] at V;cases V;exact e
      simp only[BH,show ¬(0:Int)<0 by decide,kZ,kG] at this;refine⟨this,?_⟩;simp only[Cr,Eh,HG hi T];omega
   .rw[R8 (IS J) fun e=>(i e).elim];refine⟨EN.snoc done ins gone n p h1 J Q (by omega) j fun Y Z=>(i (by subst Y;subst Z;rfl)).elim,?_⟩;rw[Cr,Cr,Eh,HG J Q];simp only;omega
  exact⟨key.1,.nil,by simp,by simp only;omega⟩
 .simp only at B O S j X e6 ht;subst B;simp only[CC,show ¬(3:Int)=1 by decide,show ¬(3:Int)=2 by decide,kZ,Qf];have:J7 n 0=n:=by unfold J7;rw[C3 (by omega)]
  rw[this,wrap64 (by omega) (by omega)];exact⟨h1,J,by simp only;omega,by simp only;omega⟩
 .simp only at B O S j ht;subst B;subst O;simp only[CC,show ¬(2:Int)=1 by decide,km,kZ,Md,C3 j];exact⟨h1,J.add j set,Q,by simp only;omega⟩
theorem FN.nn{o:Dop}(h:FN o):0<=o.n/\o.n<=536870912:=by
 rcases h with⟨_,_,_,h,i⟩|⟨_,_,_,_,h,i⟩|⟨_,h,_⟩<;>omega
theorem IY(x:List Dop)(h:∀o∈x,FN o):0<=Et x/\Et x<=x.length*536870912:=by
 induction x with
 |nil=>simp[Et]
 |cons o x i=>
  have h1:=i fun o j=>h o (by simp[j]);have B:=(h o (by simp)).nn;have:Et (o::x)=o.n+Et x:=by simp[Et]
  rw[this];simp only[Vn];omega
theorem IU(x:List Dop)(h:∀o∈x,FN o)(hl:x.length<=8589934592):Canon (BP x) (Et x):=by
 induction x using IW with
 |h0=>exact⟨.nil,.nil,by decide,by decide⟩
 |h1 x o B=>
  have j:∀o∈x,FN o:=fun o i=>h o (by simp[i]);have i:=h o (by simp);simp only[Bq,Vn,kl] at hl;have h1:=B (fun o i=>j o i) (by omega);have E:=IY x fun o i=>j o i;have I:=i.nn;unfold BP at h1 ⊢;rw[lH,Cr,Eh];exact h1.step i (by omega)
theorem Wk{d ins:List Dop}{g:Int}(Q:EN d)(hi:Ev ins)(S:0<=g)(hb:g<=4611686018427387904):CG (EG (d++BH ins g))=EG (d++BH ins g):=by
 have same:∀(d ins:List Dop) (g:Int),EN d->Ev ins->0<=g->g<=4611686018427387904->CG (d++BH ins g)=EG (d++BH ins g):=by
  intro d ins g Q hi S hb;unfold CG BP RC;rw[lH,Q.run,R7 hi d S hb]
 by_cases j:BH ins g=[]
 .rw[j,kG];cases Q with
  |nil=>rfl
  |snoc d i g' n p h B E J U hp=>
   by_cases e:p=[]
   .subst e;have I:EG (d++BH i g'++[(⟨1,n,[],[],[]⟩:Dop)])=d++BH i g':=by
     unfold EG;rw[S5,X1,ki];simp only[and_self,km,k9]
    rw[I,same d i g' h B E J];unfold EG;rw[Ls];cases O:(BH i g').getLast? with
    |some o=>simp only;rw[C3 (fun h=>IS B o O h.1)]
    |none=>
     have T:BH i g'=[]:=mS.1 O;obtain⟨V,X⟩:=JX E T;rw[T,kG];simp only;cases Y:d.getLast? with
     |none=>rfl
     |some q=>simp only;rw[C3 (fun h=>hp V X q Y h.2)]
   .have Z:=EN.snoc d i g' n p h B E J U hp;have I:EG (d++BH i g'++[(⟨1,n,[],[],p⟩:Dop)])=d++BH i g'++[⟨1,n,[],[],p⟩]:=by
     unfold EG;rw[S5,X1,ki];simp only[e,and_false,kZ]
    rw[I];have:=same _ [] 0 Z .nil (by omega) (by omega);simp only[BH,show ¬(0:Int)<0 by decide,kZ,kG] at this;exact this.trans I
 .have I:EG (d++BH ins g)=d++BH ins g:=by
   unfold EG;rw[Ls];cases O:(BH ins g).getLast? with
   |some o=>simp only;rw[C3 (fun h=>IS hi o O h.1)]
   |none=>exact(j (mS.1 O)).elim
  rw[I,same d ins g Q hi S hb,I]
theorem Rg(x:List Dop)(h:∀o∈x,FN o)(hl:x.length<=8589934592):CG (CG x)=CG x:=by
 have c:=IU x h hl;have i:=IY x h;have j:=c.done.nn;have B:=c.sum;exact Wk c.done c.ins c.gone (by omega)
def Br(l:List Dop):Nat:=(l.map fun o=>o.Ak.length).sum
def Ch(l:List Dop):Int:=(l.map fun o=>if o.kind=3 then o.n else 0).sum
theorem DQ(l m:List Dop):Br (l++m)=Br l+Br m:=by simp[Br]
theorem E9(l m:List Dop):Ch (l++m)=Ch l+Ch m:=by simp[Ch]
theorem ER(o:Dop):Br [o]=o.Ak.length:=by simp[Br]
theorem HC(o:Dop):Ch [o]=if o.kind=3 then o.n else 0:=by simp[Ch]
theorem JT(i:List Dop)(b o:Dop):(i++[b]).set ((i++[b]).length-1) o=i++[o]:=by
 rw[lC _ _ (by simp)];simp
theorem fS(d:List Dop)(n:Int)(p:List Chg):Br (FO d n p)=Br d/\Ch (FO d n p)=Ch d/\(FO d n p).length<=d.length+1:=by
 rcases Dp d with rfl|⟨i,b,rfl⟩
 .exact⟨by simp[FO,Br],by simp[FO,Ch],by simp[FO]⟩
 .unfold FO;rw[S5,X1,ki];simp only;by_cases e:b.kind=1/\b.patch=p
  .rw[Io e,JT];refine⟨by simp only[DQ,ER],?_,by simp⟩;simp only[E9,HC,e.1,show ¬(1:Int)=3 by decide,kZ]
  .rw[C3 e];exact⟨by simp only[DQ,ER,kl,kg],by simp only[E9,HC,show ¬(1:Int)=3 by decide,kZ,qk],by simp⟩
theorem dn(d:List Dop)(rs:List Int)(set:List Attr):Br (Fg d rs set)=Br d+rs.length/\(Fg d rs set).length<=d.length+1:=by
 rcases Dp d with rfl|⟨i,b,rfl⟩
 .exact⟨by simp[Fg,Br],by simp[Fg]⟩
 .unfold Fg;rw[S5,X1,ki];simp only;by_cases e:b.set=set
  .rw[Io e,JT];exact⟨by simp only[DQ,ER,Bq];omega,by simp⟩
  .rw[C3 e];exact⟨by simp only[DQ,ER],by simp⟩
theorem Vl{ins:List Dop}{g:Int}(h:Ev ins)(I:0<=g):Br (BH ins g)=Br ins/\Ch (BH ins g)=g/\(BH ins g).length=ins.length+if 0<g then 1 else 0:=by
 have i:Ch ins=0:=by
  have hk:=h.kinds;clear h;induction ins with
  |nil=>rfl
  |cons o l j=>
   have:=j fun o B=>hk o (by simp[B]);have E:=hk o (by simp);have e:Ch (o::l)=(if o.kind=3 then o.n else 0)+Ch l:=by simp[Ch]
   rw[e,this,E];rfl
 unfold BH;by_cases h0:0<g
 .rw[Io h0,Io h0];refine⟨by simp only[DQ,ER,kl,kg],?_,by simp⟩;simp only[E9,HC,km,i];omega
 .rw[C3 h0,C3 h0];exact⟨rfl,by omega,by simp⟩
theorem EN.bare{d:List Dop}(h:EN d):∀o∈d,o.kind=1->o.Ak=[]:=by
 induction h with
 |nil=>intro o i;simp at i
 |snoc d ins gone n p h hi B hb E hp j=>
  intro o i hk;rcases DN.1 i with i|i
  .rcases DN.1 i with i|i
   .exact j o i hk
   .unfold BH at i;split at i
    .rcases DN.1 i with i|i
     .have:=hi.kinds o i;omega
     .simp at i;subst i;rfl
    .have:=hi.kinds o i;omega
  .simp at i;subst i;rfl
theorem UQ(x:List Dop)(h:∀o∈x,FN o)(hl:x.length<=8589934592) :
  Br (BP x).done+Br (BP x).ins=Br x/\Ch (BP x).done+(BP x).gone=Ch x/\(BP x).done.length+(BP x).ins.length+(if 0<(BP x).gone then 1 else 0)<=x.length:=by
 induction x using IW with
 |h0=>exact⟨rfl,rfl,by simp[BP,Gw.z]⟩
 |h1 x o V=>
  have J:∀o∈x,FN o:=fun o i=>h o (by simp[i]);have i:=h o (by simp);simp only[Bq,Vn,kl] at hl;have O:=V (fun o i=>J o i) (by omega);have c:=IU x (fun o i=>J o i) (by omega);have h2:=IY x fun o i=>J o i;rw[DQ,E9,ER,HC,Bq,mu];unfold BP at O c ⊢;simp only[lH,lb,nO];generalize x.foldl CC Gw.z=s at O c ⊢;obtain⟨done,ins,gone⟩:=s;obtain⟨c1,c2,S,X⟩:=c;obtain⟨T,Y,U⟩:=O;obtain⟨k,n,rs,set,p⟩:=o;simp only at c1 c2 S X T Y U ⊢;have Z:=c1.nn;rcases i with⟨j,B,E,I,Q⟩|⟨j,B,E,I,Q,e6⟩|⟨j,B,E,I⟩
  .simp only at j B E I Q;subst j;subst B;subst E;simp only[CC,km,LA,C3 (show ¬n<1 by omega)];obtain⟨p1,p2,p3⟩:=fS (done++BH ins gone) n p;obtain⟨g1,g2,g3⟩:=Vl c2 S;rw[p1,p2,DQ,E9,g1,g2];rw[Bq,g3] at p3;refine⟨by simp[Br] at T ⊢;omega,?_,?_⟩
   .simp only[show ¬(1:Int)=3 by decide,kZ];omega
   .simp only[kl,show ¬(0:Int)<0 by decide,kZ];omega
  .simp only at j B E I Q e6;subst j;subst B;subst E;subst I;have:J7 n 0=n:=by unfold J7;rw[C3 (by omega)]
   simp only[CC,show ¬(3:Int)=1 by decide,show ¬(3:Int)=2 by decide,kZ,Qf,this,km];rw[wrap64 (by omega) (by omega)];refine⟨by simp;omega,by omega,?_⟩;split<;>split at U<;>omega
  .simp only at j B E I;subst j;subst B;subst E;simp only[CC,show ¬(2:Int)=1 by decide,show ¬(2:Int)=3 by decide,km,kZ,Md,C3 I];obtain⟨a1,a2⟩:=dn ins rs set;rw[a1];refine⟨by omega,by omega,by omega⟩
theorem Ri(x:List Dop)(h:∀o∈x,FN o)(hl:x.length<=8589934592):Br (CG x)=Br x/\Ch (CG x)=Ch x/\(CG x).length<=x.length:=by
 obtain⟨h1,O,U⟩:=UQ x h hl;have c:=IU x h hl;obtain⟨Q,S,T⟩:=Vl c.ins c.gone;have B:Br ((BP x).done++BH (BP x).ins (BP x).gone)=Br x:=by rw[DQ,Q];exact h1
 have E:Ch ((BP x).done++BH (BP x).ins (BP x).gone)=Ch x:=by rw[E9,S];exact O
 have I:((BP x).done++BH (BP x).ins (BP x).gone).length<=x.length:=by rw[Bq,T];omega
 have J:∀o∈(BP x).done++BH (BP x).ins (BP x).gone,o.kind=1->o.Ak=[]:=by
  intro o j hk;rcases DN.1 j with j|j
  .exact c.done.bare o j hk
  .unfold BH at j;split at j
   .rcases DN.1 j with j|j
    .have:=c.ins.kinds o j;omega
    .simp at j;subst j;rfl
   .have:=c.ins.kinds o j;omega
 unfold CG RC;generalize (BP x).done++BH (BP x).ins (BP x).gone=l at B E I J;unfold EG;rcases Dp l with rfl|⟨i,b,rfl⟩
 .exact⟨B,E,I⟩
 .rw[S5,X1,ki];simp only;by_cases e:b.kind=1/\b.patch=[]
  .rw[Io e,k9];have:=J b (by simp) e.1;rw[DQ,ER,this] at B;rw[E9,HC,C3 (by rw[e.1];decide)] at E;simp at B E I;exact⟨B,E,by omega⟩
  .rw[C3 e];exact⟨B,E,I⟩
def Qq(i:List DKey)(x:List Dop):Prop:=(∃o∈x,¬Ff o\/Bl i o.set=3\/Dd i o.patch=3)\/536870912<Cj Bn x\/536870912<Cj CA x
def IA(i:List DKey)(x:List Dop):Prop:=∃o∈x,Bl i o.set≠0\/Dd i o.patch≠0
open Classical in
noncomputable def Ct(i:List DKey)(x:List Dop):Int:=if Qq i x then 3 else if IA i x then 4 else 0
theorem AE.conv{B e k:Nat}{S R:World->List Value->α->Prop}{g n c:Nat}{l:List α}(h:AE B e k S w (.slice (some ⟨g,0,none⟩) n c) l)
 (T:∀i (hi:i<l.length) (r:List Value),r.length=k->(∀u∈r,u.oneCell'=true)->(∀q u,r[q]?=some u->w.cell? ⟨g,i*k+q,none⟩=some u)->R w r l[i]):AE B e k R w (.slice (some ⟨g,0,none⟩) n c) l:=by
 obtain⟨rows,h1,U,E,Z⟩:=h;have j:∀r∈rows,r.length=k:=fun r hr=>(E r hr).1;have V:n=l.length:=by
  rcases h1.2 with⟨o,_⟩|⟨g',Q,X,o,_⟩
  .simp at o
  .simp only[mZ] at o;exact o.2.1
 subst V;refine⟨rows,h1,U,E,fun i r x hr I=>?_⟩;have hi:i<l.length:=(Bp.1 I).1;have J:x=l[i]:=by rw[By hi] at I;exact(kK I).symm
 subst J;have hm:=kx hr;refine T i hi r (j r hm) (E r hm).2 fun q u hu=>?_;have Y:q<k:=by rw[<-j r hm];exact(Bp.1 hu).1
 have O:i*k+q<l.length*k:=by
  have:(i+1)*k<=l.length*k:=lF _ hi;rw[ku] at this;omega
 have:=h1.cellAt _ O;rw[Hv rows i q r j hr Y] at this;rw[<-hu];exact this
theorem AE.any{B e k:Nat}{i:World->List Value->α->Prop}{l:List α}(h:AE B e k i w v l):AE B e k (fun _ _ _=>True) w v l:=by
 obtain⟨rows,h1,j,o,_⟩:=h;exact⟨rows,h1,j,o,fun _ _ _ _ _=>trivial⟩
theorem AE.MP{B e k:Nat}{g n c:Nat}{l:List α}(h:AE B e k (fun _ _ _=>True) w (.slice (some ⟨g,0,none⟩) n c) l)(hi:i<l.length)(I:j<k){u:Value}(hu:u.oneCell'=true) :
  AE B e k (fun _ _ _=>True) (w.setCell ⟨g,i*k+j,none⟩ u) (.slice (some ⟨g,0,none⟩) n c) l:=by
 have E:=(AE.store (R':=fun _ _ _=>True) (x':=l[i]) h hi I hu (fun _ _ _ _=>trivial) fun _ _=>trivial).2.2.1;have e:l.set i l[i]=l:=qP hi;rw[e] at E;have o:(⟨g,0,none⟩:Addr).add (i*k+j)=⟨g,i*k+j,none⟩:=by unfold Addr.add;split<;>simp_all
 rw[o] at E;exact E
theorem Lk(W:World)(g o:Nat)(u:Value):Mod (fun b=>b=g) W (W.setCell ⟨g,o,none⟩ u):=Mod.setCell _ _ _ rfl
theorem AE.cellsOf{B e k:Nat}{R:World->List Value->α->Prop}{g n c:Nat}{l:List α}(h:AE B e k R w (.slice (some ⟨g,0,none⟩) n c) l)(hi:i<l.length) :
  ∃r,r.length=k/\(∀q u,r[q]?=some u->w.cell? ⟨g,i*k+q,none⟩=some u)/\R w r l[i]/\∀q,q<k->Live w ⟨g,i*k+q,none⟩:=by
 obtain⟨p,r,o,_,hr,hc,E⟩:=(AE.sl h).get hi;cases o;have j:∀q,(⟨g,0,none⟩:Addr).add (i*k+q)=⟨g,i*k+q,none⟩:=fun q=>by unfold Addr.add;split<;>simp_all
 refine⟨r,hr,fun q u hu=>by rw[<-j];exact hc q u hu,E,fun q I=>?_⟩;obtain⟨g',J,_,hl⟩:=AE.live h hi I;cases J;rw[j] at hl;exact hl
def NC(W:World)(g j:Nat)(o:Dop)(i sv B:Value):Prop:=∀q u,[Value.int .u8 o.kind,.int .i64 o.n,i,sv,B][q]?=some u->W.cell? ⟨g,j*5+q,none⟩=some u
theorem NC.ij{g j:Nat}{o:Dop}{i sv B:Value}(h:NC W g j o i sv B)(E:∀q,q<5->W'.cell? ⟨g,j*5+q,none⟩=W.cell? ⟨g,j*5+q,none⟩):NC W' g j o i sv B:=by
 intro q u hu;have:=(Bp.1 hu).1;simp only[Vn,kl] at this;rw[E q (by omega)];exact h q u hu
theorem Tt{S D:Nat->Prop}{x:List Dop}(h:BE S D w v x)(hb:Aw x<=1099511627776) :
  AB prog 121 [v] (fun v' w'=>Iu w.heap.size w' v' x/\Grow w w') w:=by
 apply ZW;have c6:=CZ x;refine AA (LX h (by omega)) ?_;rintro v1 w1 ⟨o1,g1⟩;obtain⟨a1,c1,rfl,c7,bc,hp,hn⟩:=AE.shape o1;simp only[maxLen] at bc;rw[AP];cases a1 with
 |none=>
  have:=hn rfl;subst this;refine Ab (fun vs w2=>vs=[.int .i64 0]/\w2=w1) (fun _ _=>0) ⟨rfl,rfl⟩ ?_;rintro vs _ ⟨rfl,rfl⟩ _;rename World=>w1
  rw[B0,Of,Ap];exact AF (fun h=>by simp at h) fun _=>⟨AE.mod o1 (Mod.refl (fun _=>False) _) (fun _ _ h=>h) fun r y hy=>by simp at hy,g1⟩
 |some p1=>
  obtain⟨g,rfl,c8,c9,_⟩:=hp _ rfl;have bd:∀o∈x,o.Ak.length*4<=140737488355328/\o.set.length*48<=140737488355328/\o.patch.length*56<=140737488355328:=by
   intro o ho;have:=HB ho;simp only[DR,LD,Om] at this;omega
  let F:Nat->Prop:=fun b=>w.heap.size<=b/\b≠g
  let D0:Nat->Prop:=fun b=>D b/\b<w.heap.size
  let Inv:Nat->World->Prop:=fun i W=>AE w.heap.size 83 5 (fun _ _ _=>True) W (.slice (some ⟨g,0,none⟩) x.length c1) x/\Mod (fun b=>b=g) w1 W/\
   ∀j (O:j<x.length),∃T sv U,NC W g j x[j] T sv U/\(j<i->PC F W [.int .u8 x[j].kind,.int .i64 x[j].n,T,sv,U] x[j])/\(i<=j->Ca D0 W [.int .u8 x[j].kind,.int .i64 x[j].n,T,sv,U] x[j])
  have av:Inv 0 w1:=by
   refine⟨o1.any,Mod.refl _ _,fun j O=>?_⟩;obtain⟨r,hr,a8,ho,_⟩:=AE.cellsOf o1 O;obtain⟨T,sv,U,rfl,q1,q2,q3⟩:=ho;exact⟨T,sv,U,a8,fun h=>by omega,fun _=>⟨T,sv,U,rfl,q1,q2,q3⟩⟩
  have ca:=g1.size;refine Ab (fun vs W=>∃i:Nat,i<=x.length/\vs=[.int .i64 i]/\Inv i W) (fun vs _=>x.length-Ds vs 0) ⟨0,Nn _,rfl,av⟩ ?_;rintro vs w2 ⟨i,hi,rfl,a7⟩ _;rw[B0,Of,Ap];refine AF (fun cc=>?_) fun cd=>?_
  .have B:i<x.length:=by omega
   obtain⟨oA,mA,rows⟩:=a7;have ch:=mA.size;obtain⟨T,sv,U,V,_,bk⟩:=rows i B;obtain⟨_,_,_,e,q1,q2,q3⟩:=bk (Lc _);simp only[mE,p4,ob] at e;obtain⟨rfl,rfl,rfl⟩:=e;have ax:x[i]∈x:=by simp
   obtain⟨z1,z2,z3⟩:=bd _ ax;have gd:Grow w2 w2.drew:=Mod.drew _ _;refine Ai (fun k b=>(k=26\/k=29\/k=32)/\b=g) ?_;have ld:∀q u,[Value.int .u8 x[i].kind,.int .i64 x[i].n,T,sv,U][q]?=some u->w2.drew.cell? ((⟨g,0,none⟩:Addr).add (i*5+q))=some u:=fun q u hu=>by rw[AH];exact V q u hu
   have lv:∀q,q<5->Live w2 ⟨g,i*5+q,none⟩:=by
    obtain⟨_,_,_,_,hl⟩:=AE.cellsOf oA B;exact hl
   refine AU B ?_;rw[AG,Addr.add_add];refine AY ⟨ld 2 _ rfl,fun j O h=>by rcases h with⟨rfl|rfl|rfl,_⟩<;>exact absurd O (by decide)⟩ ?_;refine AA (KT (q1.grow gd (by decide) fun _ _ h=>h) z1) ?_;rintro t1 w3 ⟨n1,g3⟩;refine⟨Grow.mod g3,?_⟩;have ay:=gd.trans g3;refine AU B ?_;rw[AG,Addr.add_add];refine AY ⟨ld 3 _ rfl,fun j O h=>by rcases h with⟨rfl|rfl|rfl,_⟩<;>exact absurd O (by decide)⟩ ?_;refine AA (Fz (q2.grow ay (by decide) fun _ _ h=>h) z2) ?_;rintro t2 w4 ⟨n2,g4⟩;refine⟨Grow.mod g4,?_⟩;have b0:=ay.trans g4;refine AU B ?_;rw[AG,Addr.add_add];refine AY ⟨ld 4 _ rfl,fun j O h=>by rcases h with⟨rfl|rfl|rfl,_⟩<;>exact absurd O (by decide)⟩ ?_;refine AA (Py (q3.grow b0 (by decide) fun _ _ h=>h) z3) ?_;rintro t3 Q ⟨n3,g5⟩;refine⟨Grow.mod g5,?_⟩;have E:=b0.trans g5;have cn:=E.size;have zd:w2.drew.heap.size=w2.heap.size:=rfl;have cv:=g3.size;have cx:=g4.size;have Z:∀q,q<5->Live Q ⟨g,i*5+q,none⟩:=fun q X=>(lv q X).mod E fun h=>h;have b4:AE 0 21 1 Bo Q t1 x[i].Ak:=AE.base (AE.mod n1 (g4.trans g5) (fun _ _ h=>h) fun _ _ _ h=>h) fun _ _=>Nn _;have b5:IH 0 Q t2 x[i].set:=AE.base (AE.mod n2 g5 (fun _ _ h=>h) fun _ _ _ h=>h) fun _ _=>Nn _;have b6:AE 0 133 6 Ep Q t3 x[i].patch:=AE.base n3 fun _ _=>Nn _;have b1:∀b,t1.ownBlock=some b->F b:=fun b hb=>by have:=(AE.BA n1 b hb).1;exact⟨by omega,by omega⟩
   have b2:∀b,t2.ownBlock=some b->F b:=fun b hb=>by have:=(AE.BA n2 b hb).1;exact⟨by omega,by omega⟩
   have b3:∀b,t3.ownBlock=some b->F b:=fun b hb=>by have:=(AE.BA n3 b hb).1;exact⟨by omega,by omega⟩
   have bl:AE w.heap.size 83 5 (fun _ _ _=>True) Q (.slice (some ⟨g,0,none⟩) x.length c1) x:=AE.mod oA E (fun _ _ h=>h) fun _ _ _ _=>trivial;have ak:=AE.one b4;have al:=AE.one b5;have an:=AE.one b6;refine AU B ?_;rw[AG,Addr.add_add,AH];refine(Z 2 (by decide)).st ak.1 ak.2 ⟨Mod.setCell _ _ _ ⟨.inl rfl,rfl⟩,?_⟩;refine AU B ?_;rw[AG,Addr.add_add,AH];refine((Z 3 (by decide)).set _ _).st al.1 al.2 ⟨Mod.setCell _ _ _ ⟨.inr (.inl rfl),rfl⟩,?_⟩;refine AU B ?_;rw[AG,Addr.add_add,AH];refine(((Z 4 (by decide)).set _ _).set _ _).st an.1 an.2 ⟨Mod.setCell _ _ _ ⟨.inr (.inr rfl),rfl⟩,?_⟩;rw[AR,AO (by omega)];refine⟨⟨i+1,B,rfl,?_⟩,by rw[DG,DG];omega⟩;have b7:=AE.MP (AE.MP (AE.MP bl B (show 2<5 by decide) ak.1) B (show 3<5 by decide) al.1) B (show 4<5 by decide) an.1;have I:Mod (fun b=>b=g) Q (((Q.setCell ⟨g,i*5+2,none⟩ t1).setCell ⟨g,i*5+3,none⟩ t2).setCell ⟨g,i*5+4,none⟩ t3):=((Lk _ _ _ _).trans (Lk _ _ _ _)).trans (Lk _ _ _ _);have a6:∀j q,q<5->(j≠i\/q<2)->(((Q.setCell ⟨g,i*5+2,none⟩ t1).setCell ⟨g,i*5+3,none⟩ t2).setCell ⟨g,i*5+4,none⟩ t3).cell? ⟨g,j*5+q,none⟩=Q.cell? ⟨g,j*5+q,none⟩:=by
    intro j q X O;have ne:∀q',q'<5->2<=q'->(⟨g,i*5+q',none⟩:Addr)≠⟨g,j*5+q,none⟩:=by
     intro q' h1 h2 e;simp only[Addr.mk.injEq,p4,ob] at e;omega
    rw[S4 _ _ _ _ (ne 4 (by omega) (by omega)),S4 _ _ _ _ (ne 3 (by omega) (by omega)),S4 _ _ _ _ (ne 2 (by omega) (by omega))]
   have same:∀j q u,w2.cell? ⟨g,j*5+q,none⟩=some u->Q.cell? ⟨g,j*5+q,none⟩=some u:=fun j q u hu=>E.cell hu fun h=>h;generalize hW:(((Q.setCell ⟨g,i*5+2,none⟩ t1).setCell ⟨g,i*5+3,none⟩ t2).setCell ⟨g,i*5+4,none⟩ t3)=W at b7 I a6 ⊢;refine⟨b7,mA.trans ((Grow.mod E).trans I),fun j O=>?_⟩;by_cases b8:j=i
   .subst b8;refine⟨t1,t2,t3,fun q u hu=>?_,fun _=>⟨t1,t2,t3,rfl,IV ⟨b4,b1⟩ I (fun b _ hb e=>hb.2 e) (fun _ _ h=>h) fun _ _ h=>h,IV ⟨b5,b2⟩ I (fun b _ hb e=>hb.2 e) (fun _ _ h=>h) fun _ _ h=>h,IV ⟨b6,b3⟩ I (fun b _ hb e=>hb.2 e) (fun _ _ h=>h) fun _ _ h=>h⟩,fun h=>by omega⟩;have X:=(Bp.1 hu).1;simp only[Vn,kl] at X;have ne:∀q q',q≠q'->(⟨g,j*5+q',none⟩:Addr)≠⟨g,j*5+q,none⟩:=by
     intro q q' h e;simp only[Addr.mk.injEq,p4,ob] at e;omega
    have J:∀q,q<5->∃u,Q.cell? ⟨g,j*5+q,none⟩=some u:=fun q X=>jV.1 (Z q X).1;rw[<-hW];match q,X,hu with
    |0,_,hu=>rw[hW,a6 j 0 (by omega) (.inr (by omega))];exact same _ _ _ (V 0 u hu)
    |1,_,hu=>rw[hW,a6 j 1 (by omega) (.inr (by omega))];exact same _ _ _ (V 1 u hu)
    |2,_,hu=>
     simp only[nP,nQ,i6] at hu;subst hu;obtain⟨u',Y⟩:=J 2 (by omega);rw[S4 _ _ _ _ (ne 2 4 (by decide)),S4 _ _ _ _ (ne 2 3 (by decide))];exact kJ _ _ _ Y
    |3,_,hu=>
     simp only[nP,nQ,i6] at hu;subst hu;obtain⟨u',Y⟩:=J 3 (by omega);rw[S4 _ _ _ _ (ne 3 4 (by decide))];exact kJ _ _ _ ((S4 _ _ _ _ (ne 3 2 (by decide))).trans Y)
    |4,_,hu=>
     simp only[nP,nQ,i6] at hu;subst hu;obtain⟨u',Y⟩:=J 4 (by omega);exact kJ _ _ _ ((S4 _ _ _ _ (ne 4 3 (by decide))).trans ((S4 _ _ _ _ (ne 4 2 (by decide))).trans Y))
   .obtain⟨bn,bp,bs,b9,ba,bb⟩:=rows j O;refine⟨bn,bp,bs,NC.ij (W:=Q) (fun q u hu=>same _ _ _ (b9 q u hu)) fun q X=>a6 j q X (.inl b8),fun h=>?_,fun h=>?_⟩
    .exact(PC.mod (ba (by omega)) (D':=F) E (fun _ _ _ h=>h) fun _ _ h=>h).mod I (fun b _ hb e=>hb.2 e) fun _ _ h=>h
    .exact(Ca.mod (bb (by omega)) (D':=D0) E (fun _ _ _ h=>h) fun _ _ h=>h).mod I (fun b _ hb e=>by have:=hb.2;omega) fun _ _ h=>h
  .have:i=x.length:=by omega
   subst this;obtain⟨oA,mA,rows⟩:=a7;refine⟨AE.conv oA fun j O r hr c4 a8=>?_,g1.next mA fun b hb e=>by omega⟩;obtain⟨T,sv,U,V,bx,_⟩:=rows j O;have e:r=[.int .u8 x[j].kind,.int .i64 x[j].n,T,sv,U]:=by
    refine lW fun q=>?_;by_cases X:q<5
    .have h1:r[q]?=some r[q]:=By (by omega);have h2:([Value.int .u8 x[j].kind,.int .i64 x[j].n,T,sv,U])[q]?=some ([Value.int .u8 x[j].kind,.int .i64 x[j].n,T,sv,U])[q]:=By (by simpa using X);have h3:=a8 q _ h1;rw[V q _ h2] at h3;rw[h1,h2,h3]
    .rw[kN (by omega),kN (by simp;omega)]
   subst e;exact(bx O).mod (Mod.refl (fun _=>False) _) (fun _ _ _ h=>h) fun b _ hb=>⟨hb.1,fun e=>hb.2 (by simpa[Value.ownBlock] using e.symm)⟩
theorem Sh{t ty e:TypeId}{a:Option Addr}{n c:Nat}(ht:P.underlying t=some (.slice e)):(Builtin.cap_ #[t] ty #[.slice a n c]).run P w=.ok (.int .i64 c) w:=by
 simp[Builtin.cap_,run_underlying ht,goInt]
theorem Kp{t e k:Nat}{i:TypeInfo}{a:Option Addr}{n c h:Nat}(ht:P.underlying t=some (.slice e))(hi:P.info? e=some i)(hk:i.size=k)(o:h<=c) :
  (Instr.sliceAt t (.slice a n c) none (some (.int .i64 h)) none).run P w=.ok (.slice (if c=0 then a else a.map (·.add (0*k))) h c) w:=by
 have j:P.elem t=e:=by simp[Program.elem,ht]
 rw[me _ _ _ _ _ _ (by rw[j];exact ht),run_slice_h _ _ _ _ _ (by rw[j];exact ht) _ _ (by omega) (by omega),j];simp[sizeOf,typeInfo,hi,hk,sliced]
theorem Xa{n:Nat}(U:n*88<=140737488355328)(R:World->List Value->Dop->Prop) :
  AB prog 189 [.slice none 0 0,.int .i64 n] (fun v' w'=>AE w.heap.size 83 5 R w' v' []/\Grow w w') w:=by
 apply aW;refine AT (fun vs J=>J=w) ?_ ?_
 .rintro vs _ rfl _;rename World=>w
  refine Ag (Sh (e:=83) (by kernel_rfl)) ?_;rw[AP,Av,Av,BR];have e0:IntKind.i64.wrap ((n:Int)-IntKind.i64.wrap (((0:Nat):Int)-((0:Nat):Int)))=n:=by rw[wrap64 (x:=((0:Nat):Int)-((0:Nat):Int)) (by omega) (by omega),wrap64 (by omega) (by omega)];omega
  rw[e0];refine AF (fun hp=>?_) fun _=>⟨AE.nil,Mod.refl _ _⟩;refine Ag (Sh (e:=83) (by kernel_rfl)) ?_;refine Ag (Kp (e:=83) (i:=Tryz.t83) (k:=5) (h:=0) (by kernel_rfl) (by kernel_rfl) (by kernel_rfl) (Lc _)) ?_;simp only[km];obtain⟨i,z,h1,O,Q,V,S,T,X⟩:=GG;have j:i.bytes=88:=S;refine Ag (Go.Lib.run_append_nil_zeros (P:=prog) w 34 3 34 83 i z .i64 .i64 h1 (by kernel_rfl) O Q n (by omega) (by omega) (by omega) (by rw[j];omega)) ?_;have o:=grownCap_ge w n 0 83;have B:=pW w n 0 83 (by simp only[maxLen];omega);have E:Grow w (w.drew.alloc (.cells (Builtin.zeroCells z.cells n++Builtin.zeroCells z.cells (grownCap w n 0 83-n)) 83)):=(Mod.drew _ _).trans (Mod.alloc _ _ _);have I:=pV w.drew (.cells (Builtin.zeroCells z.cells n++Builtin.zeroCells z.cells (grownCap w n 0 83-n)) 83);generalize w.drew.alloc (.cells (Builtin.zeroCells z.cells n++Builtin.zeroCells z.cells (grownCap w n 0 83-n)) 83)=w2 at E I ⊢;rw[AP];refine Ag (Kp (e:=83) (i:=Tryz.t83) (k:=5) (h:=0) (by kernel_rfl) (by kernel_rfl) (by kernel_rfl) (Nn _)) ⟨?_,E⟩;rw[C3 (by omega)];simp only[mF,AH,pP];refine⟨[],⟨rfl,.inr ⟨_,_,_,rfl,Lc _,I,Nn _,B,?_,by simp⟩⟩,rfl,by simp,by simp⟩;simp only[pk,qU,T,<-ku];rw[Nat.add_sub_cancel' o]
 .rw[Ap];exact AF (fun h=>by omega) fun _=>rfl
theorem P3{S1 T S2 U:Nat->Prop}{l m:List Dop}{p:Addr}(ha:BE S1 T w v l)(hb:BE S2 U w fr m)(h0:w.cell? p=some v)(h1:w.cell? (p.add 1)=some fr)(hl:(l.length+m.length)*88<=140737488355328) :
  AB prog 120 [.slice (some p) 2 2] (fun v' w'=>AE w.heap.size 83 5 (Ca fun b=>(T b\/U b)/\b<w.heap.size) w' v' (l++m)/\Grow w w') w:=by
 apply ZY;obtain⟨a1,c1,rfl,m1⟩:=ha.shape;obtain⟨a2,c2,rfl,m2⟩:=hb.shape;rw[AP];have n0:((2:Nat):Int)=2:=rfl;refine Ab (fun vs V=>∃k:Nat,k<=2/\vs=[.int .i64 (if k=0 then(0:Nat) else if k=1 then l.length else l.length+m.length:Nat),.int .i64 k]/\V=w) (fun vs _=>2-Ds vs 1) ⟨0,by omega,rfl,rfl⟩ ?_;rintro vs _ ⟨k,hk,rfl,rfl⟩ _;rename World=>w
 simp only[GJ];refine H6 (fun Y=>?_) fun Z=>?_
 .have B:k=0\/k=1:=by omega
  rcases B with rfl|rfl
  .refine AU (by decide) ?_;have e:(p.add (0*1))=p.add 0:=rfl;rw[e,Addr.add_zero'];refine AK h0 ?_;rw[AP,AR,wrap64 (by simp<;>omega) (by simp<;>omega),Ap];refine AF (fun h=>by simp at h<;>omega) fun _=>?_;rw[AR,AO (by omega)];exact⟨⟨1,by omega,by simp,rfl⟩,by rw[BL,BL];omega⟩
  .refine AU (by decide) ?_;refine AK (show w.cell? (p.add (1*1))=_ from h1) ?_;rw[AP,AR,wrap64 (by simp<;>omega) (by simp<;>omega),Ap];refine AF (fun h=>by simp at h<;>omega) fun _=>?_;rw[AR,AO (by omega)];exact⟨⟨2,by omega,by simp,rfl⟩,by rw[BL,BL];omega⟩
 .have B:k=2:=by omega
  subst B;simp only[show ¬(2:Nat)=0 by decide,show ¬(2:Nat)=1 by decide,kZ];refine AA (Xa hl (Ca fun b=>(T b\/U b)/\b<w.heap.size)) ?_;rintro v1 V ⟨o1,I⟩;rw[AP]
  let R:=Ca fun b=>(T b\/U b)/\b<w.heap.size
  have ak:=I.size;have al:BB (fun _=>True) 5 R V (.slice a1 l.length c1) l:=BB.mono ha.GQ (fun _ _ _=>trivial) (fun b hb _=>I.same b hb fun h=>h) (by decide) fun r x E=>E.mod I (fun _ _ _ h=>h) fun b _ h=>⟨.inl h.1,h.2⟩;have an:BB (fun _=>True) 5 R V (.slice a2 m.length c2) m:=BB.mono hb.GQ (fun _ _ _=>trivial) (fun b hb _=>I.same b hb fun h=>h) (by decide) fun r x E=>E.mod I (fun _ _ _ h=>h) fun b _ h=>⟨.inr h.1,h.2⟩;have J:∀{W W':World} {M:Nat->Prop},Mod M W W'->(∀b,M b->w.heap.size<=b)->∀r y,R W r y->R W' r y:=fun hm hM r y hy=>hy.mod hm (fun b _ hd hb=>by have:=hM b hb;omega) fun _ _ h=>h;refine Ab (fun vs w2=>∃(k:Nat) (out:Value) (acc:List Dop),k<=2/\vs=[out,.int .i64 k]/\acc=(if k=0 then[] else if k=1 then l else l++m)/\AE w.heap.size 83 5 R w2 out acc/\Grow w w2) (fun vs _=>2-Ds vs 1) ⟨0,v1,[],by omega,rfl,rfl,o1,I⟩ ?_;rintro vs w2 ⟨k,out,acc,hk,rfl,i,ho,O⟩ _;simp only[GJ];rw[Ap];have one:∀{W:World} (j:Nat) (y z:List Dop) (x o:Value),BB (fun _=>True) 5 R w x y->AE w.heap.size 83 5 R W o z->Grow w W->(z.length+y.length)*88<=140737488355328->
    runK prog (Builtin.append_ #[34,34] 34 [o,x].toArray) (fun v' w'=>AE w.heap.size 83 5 R w' v' (z++y)/\Grow w w') W:=by
   intro W j y z x o E hz X hb;have a6:BB (fun _=>True) 5 R W x y:=by
    refine BB.mono (E.GQ (by decide)) (fun _ _ _=>trivial) (fun b hb h=>X.same b hb fun h=>h) (by decide) fun r q hq=>J X (fun _ h=>h.elim) r q hq
   obtain⟨v',w',r1,Q,S,r4⟩:=AE.append (ty:=34) GG hz a6 (fun _ _=>Ca.one) hb X.size (by simp only[maxLen];omega) fun w' hg r q hq=>J (Mod.of_grownBy hg) (fun b e=>(AE.BA hz b e).1) r q hq;exact Ag r1 ⟨Q,X.next (Mod.of_grownBy S) fun b hb e=>by have:=(AE.BA hz b e).1;omega⟩
  have a7:BB (fun _=>True) 5 R w (.slice a1 l.length c1) l:=BB.sub ha.GQ (fun _ _ _=>trivial) (by decide) fun r x E=>E.mod (Mod.refl (fun _=>False) _) (fun _ _ _ h=>h) fun b _ h=>⟨.inl h.1,h.2⟩;have a8:BB (fun _=>True) 5 R w (.slice a2 m.length c2) m:=BB.sub hb.GQ (fun _ _ _=>trivial) (by decide) fun r x E=>E.mod (Mod.refl (fun _=>False) _) (fun _ _ _ h=>h) fun b _ h=>⟨.inr h.1,h.2⟩;refine AF (fun Y=>?_) fun Z=>?_
  .have B:k=0\/k=1:=by omega
   rcases B with rfl|rfl
   .refine AU (by decide) ?_;have e:(p.add (0*1))=p.add 0:=rfl;rw[e,Addr.add_zero'];refine AK (O.cell h0 fun h=>h) ?_;simp only[km] at i;subst i;obtain⟨v',w',r1,Q,S⟩:=one 0 l [] _ out a7 ho O (by simp;omega);refine Ag r1 ?_;rw[AR,AO (by omega)];exact⟨⟨1,v',_,by omega,rfl,by simp,Q,S⟩,by rw[BL,BL];omega⟩
   .refine AU (by decide) ?_;refine AK (O.cell (show w.cell? (p.add (1*1))=_ from h1) fun h=>h) ?_;simp only[show ¬(1:Nat)=0 by decide,km,kZ] at i;subst i;obtain⟨v',w',r1,Q,S⟩:=one 0 m acc _ out a8 ho O hl;refine Ag r1 ?_;rw[AR,AO (by omega)];exact⟨⟨2,v',_,by omega,rfl,by simp,Q,S⟩,by rw[BL,BL];omega⟩
  .have B:k=2:=by omega
   subst B;simp only[show ¬(2:Nat)=0 by decide,show ¬(2:Nat)=1 by decide,kZ] at i;subst i;exact⟨ho,O⟩
abbrev Xx:Nat:=83
abbrev KZ(o:Dop)(i sv j:Value):List Value:=[.int .u8 o.kind,.int .i64 o.n,i,sv,j]
def LB(C:Nat->Prop)(h:Nat)(W:World)(g:Nat)(ins:List Dop):Prop:=0<ins.length/\∀j (B:j<ins.length),∃i sv o,NC W g j ins[j] i sv o/\Ca (fun x=>C x\/x=h) W (KZ ins[j] i sv o) ins[j]/\
 (j+1=ins.length->AE 0 21 1 Bo W i ins[j].Ak/\i.ownBlock=some h/\Cf C W sv ins[j].set/\FY C W o ins[j].patch)/\(j+1<ins.length->Ca C W (KZ ins[j] i sv o) ins[j])
structure Ug (F:Nat->Prop) (W:World) (b:Nat) (s:Gw) (dv iv:Value) (C:Nat->Prop) (hot:Option Nat):Prop where
 c0:W.cell? ⟨b,0,none⟩=some dv
 c1:W.cell? ⟨b,1,none⟩=some iv
 c2:W.cell? ⟨b,2,none⟩=some (.int .i64 s.gone)
 lv:∀q,q<3->Live W ⟨b,q,none⟩
 fb:F b
 nb:¬C b
 cf:∀x,C x->F x/\x<W.heap.size
 done:AE 0 Xx 5 (Ca C) W dv s.done
 dF:∀g,dv.ownBlock=some g->F g/\¬C g/\g≠b
 ins:(s.ins=[]/\iv=.slice none 0 0/\hot=none)\/∃g c h,iv=.slice (some ⟨g,0,none⟩) s.ins.length c/\hot=some h/\AE 0 Xx 5 (fun _ _ _=>True) W iv s.ins/\F g/\¬C g/\g≠b/\dv.ownBlock≠some g/\
  F h/\¬C h/\h≠b/\h≠g/\dv.ownBlock≠some h/\h<W.heap.size/\LB C h W g s.ins
def KF(F:Nat->Prop)(W:World)(b:Nat)(s:Gw):Prop:=∃j o C i,Ug F W b s j o C i
theorem NC.mod{g j:Nat}{o:Dop}{i sv B:Value}(h:NC W g j o i sv B)(hm:Mod M W W')(E:¬M g):NC W' g j o i sv B:=fun q u hu=>hm.cell (h q u hu) E
theorem LB.mod{h:Nat}{g:Nat}{ins:List Dop}(hi:LB C h W g ins)(hm:Mod M W W')(i:¬M g)(o:¬M h)(hC:∀x,C x->¬M x):LB C h W' g ins:=by
 refine⟨hi.1,fun j E=>?_⟩;obtain⟨I,sv,J,O,Q,S,T⟩:=hi.2 j E;refine⟨I,sv,J,O.mod hm i,Q.mod hm (fun b _ hb=>by rcases hb with hb|rfl;exact hC b hb;exact o) fun _ _ h=>h,fun e=>?_,fun e=>(T e).mod hm (fun b _ hb=>hC b hb) fun _ _ h=>h⟩;obtain⟨U,B,V,X⟩:=S e;exact⟨AE.mod U hm (fun g i=>by rw[B] at i;cases i;exact o) fun _ _ _ h=>h,B,V.mono (fun _ _ h=>h) (fun b hb hc=>hm.same b hb (hC b hc)) (by decide) fun _ _ h=>h,X.mono (fun _ _ h=>h) (fun b hb hc=>hm.same b hb (hC b hc)) (by decide) fun _ _ h=>h⟩
theorem Ca.cmod{r:List Value}{o:Dop}(h:Ca C W r o)(hm:Mod M W W')(hC:∀x,C x->¬M x):Ca C W' r o:=h.mod hm (fun b _ hb=>hC b hb) fun _ _ h=>h
theorem Ug.mod{b:Nat}{s:Gw}{B:Option Nat}(h:Ug F W b s v fr C B)(hm:Mod M W W')(j:∀x,F x->¬M x):Ug F W' b s v fr C B:=by
 have hb:=j b h.fb;have hC:∀x,C x->¬M x:=fun x o=>j x (h.cf x o).1;refine⟨hm.cell h.c0 hb,hm.cell h.c1 hb,hm.cell h.c2 hb,fun q Z=>(h.lv q Z).mod hm hb,h.fb,h.nb,fun x o=>⟨(h.cf x o).1,WL (h.cf x o).2 hm.size⟩,AE.mod h.done hm (fun g hg=>j g (h.dF g hg).1) fun r x _ o=>o.cmod hm hC,h.dF,?_⟩;rcases h.ins with h0|⟨g,c,V,X,e2,e3,E,e5,e6,e7,Y,e9,I,J,O,Q,S⟩
 .exact .inl h0
 .exact .inr ⟨g,c,V,X,e2,AE.mod e3 hm (fun g' i=>by rw[X] at i;simp only[Value.ownBlock,i6] at i;subst i;exact j _ E) fun _ _ _ _=>trivial,E,e5,e6,e7,Y,e9,I,J,O,WL Q hm.size,S.mod hm (j g E) (j V Y) hC⟩
theorem Ug.grow{b:Nat}{s:Gw}{j o:Value}{i:Option Nat}(h:Ug F W b s j o C i)(hm:Grow W W'):Ug F W' b s j o C i:=h.mod hm fun _ _ h=>h
theorem KF.mod{b:Nat}{s:Gw}(h:KF F W b s)(hm:Mod M W W')(j:∀x,F x->¬M x):KF F W' b s:=by
 obtain⟨o,B,C,i,h⟩:=h;exact⟨o,B,C,i,h.mod hm j⟩
theorem KF.sub{F F':Nat->Prop}{b:Nat}{s:Gw}(h:KF F W b s)(i:∀x,F x->F' x):KF F' W b s:=by
 obtain⟨E,I,C,j,h⟩:=h;refine⟨E,I,C,j,h.c0,h.c1,h.c2,h.lv,i _ h.fb,h.nb,fun x o=>⟨i _ (h.cf x o).1,(h.cf x o).2⟩,h.done,fun g B=>⟨i _ (h.dF g B).1,(h.dF g B).2⟩,?_⟩;rcases h.ins with h0|⟨g,c,J,O,Q,S,T,U,V,X,Y,Z⟩
 .exact .inl h0
 .exact .inr ⟨g,c,J,O,Q,S,i _ T,U,V,X,i _ Y,Z⟩
theorem Xn:AB prog 59 [] (fun v w'=>Grow w w'/\∃b,w.heap.size<=b/\b<w'.heap.size/\v=.pointer (some ⟨b,0,none⟩)/\KF (fun x=>x=b) w' b Gw.z) w:=by
 apply cK;refine⟨#[.slice none 0 0,.slice none 0 0,.int .i64 0],by kernel_rfl,?_⟩;refine Dq (vs:=[.slice none 0 0,.slice none 0 0,.int .i64 0]) fun b B hb E g hc hl=>?_;have a0:∀j,(⟨b,0,none⟩:Addr).add j=⟨b,j,none⟩:=fun j=>AH b j;refine⟨g,b,by omega,by omega,rfl,_,_,fun _=>False,none,by rw[<-a0];exact hc 0 _ rfl,by rw[<-a0];exact hc 1 _ rfl,by rw[<-a0];exact hc 2 _ rfl,fun q i=>by rw[<-a0];exact hl q i,rfl,fun h=>h,fun _ h=>h.elim,AE.nil,fun g o=>(nomatch o),.inl ⟨rfl,rfl,rfl⟩⟩
theorem TA{b:Nat}{s:Gw}{n:Int}(h:KF F w b s):AB prog 62 [.pointer (some ⟨b,0,none⟩),.int .i64 n] (fun _ w'=>KF F w' b (Qf s n)/\Mod F w w') w:=by
 apply eK;obtain⟨V,X,C,B,h⟩:=h;rw[JV];simp only[oK,Bool.not_false];rw[FC,Io rfl,Bi,AG,AH];refine AK h.c2 ?_;rw[G1,AR,Bi,AG,AH];have e:(if(0:Int)>n then(0:Int) else n)=J7 n 0:=rfl;rw[e];refine(h.lv 2 (by decide)).st rfl rfl ?_;have hm:=Lk w b 2 (.int .i64 (IntKind.i64.wrap (s.gone+J7 n 0)));have ne:∀q,q<2->(⟨b,2,none⟩:Addr)≠⟨b,q,none⟩:=fun q S e=>by simp only[Addr.mk.injEq] at e;omega
 obtain⟨u,hu⟩:=jV.1 (h.lv 2 (by decide)).1;have T:∀x,C x->¬x=b:=fun x j e=>h.nb (e▸j);refine⟨⟨V,X,C,B,(S4 _ _ _ _ (ne 0 (by decide))).trans h.c0,(S4 _ _ _ _ (ne 1 (by decide))).trans h.c1,kJ _ _ _ hu,fun q S=>(h.lv q S).set _ _,h.fb,h.nb,fun x j=>⟨(h.cf x j).1,WL (h.cf x j).2 hm.size⟩,AE.mod h.done hm (fun g Y=>(h.dF g Y).2.2) fun r x _ j=>j.cmod hm T,h.dF,?_⟩,hm.mono fun x _ e=>by rw[e];exact h.fb⟩;rcases h.ins with h0|⟨g,c,Z,U,e2,e3,e4,e5,E,e7,e8,e9,o,I,J,O,Q⟩
 .exact .inl h0
 .exact .inr ⟨g,c,Z,U,e2,AE.mod e3 hm (fun g' i=>by rw[U] at i;simp only[Value.ownBlock,i6] at i;subst i;exact E) fun _ _ _ _=>trivial,e4,e5,E,e7,e8,e9,o,I,J,WL O hm.size,Q.mod hm E o T⟩
theorem Ug.bP{b:Nat}{s:Gw}{X S:Value}{i:Option Nat}(h:Ug F W b s X S C i):BE (fun _=>True) (fun x=>(C x\/i=some x)/\x<W.heap.size) W S s.ins:=by
 rcases h.ins with⟨B,E,_⟩|⟨g,c,Y,B,E,Z,e4,e5,e6,e7,e8,e9,a1,a6,a7,a8,I⟩
 .rw[B,E];exact BB.nil
 .subst B;subst E;have o:=AE.conv (R:=Ca fun x=>(C x\/some Y=some x)/\x<W.heap.size) Z fun j hj r hr T J=>?_
  .exact BB.sub (AE.sl o) (fun _ _ _=>trivial) (by decide) fun _ _ h=>h
  .obtain⟨O,sv,Q,q1,q2,_,_⟩:=I.2 j hj;have e:r=KZ s.ins[j] O sv Q:=by
    refine lW fun q=>?_;by_cases hq:q<5
    .have h1:r[q]?=some r[q]:=By (by omega);have U:(KZ s.ins[j] O sv Q)[q]?=some (KZ s.ins[j] O sv Q)[q]:=By (by simpa using hq);have V:=J q _ h1;rw[q1 q _ U] at V;rw[h1,U,V]
    .rw[kN (by omega),kN (by simp;omega)]
   subst e;exact q2.mod (Mod.refl (fun _=>False) _) (fun _ _ _ h=>h) fun x hx hc=>by
    refine⟨?_,hx⟩;rcases hc with hc|hc
    .exact .inl hc
    .exact .inr (by rw[hc])
theorem Vc{b:Nat}{s:Gw}{i:Option Nat}(h:Ug F w b s v fr C i)(hl:(s.ins.length+1)*88<=140737488355328) :
  AB prog 115 [.pointer (some ⟨b,0,none⟩)] (fun v' w'=>AE w.heap.size Xx 5 (Ca fun x=>(C x\/i=some x)/\x<w.heap.size) w' v' (BH s.ins s.gone)/\Grow w w') w:=by
 apply Z5;rw[Bi,AG,AH];refine AK h.c1 ?_;refine AA (LX h.bP (by omega)) ?_;rintro v1 Q ⟨E,j⟩;have o:AE w.heap.size Xx 5 (Ca fun x=>(C x\/i=some x)/\x<w.heap.size) Q v1 s.ins:=AE.mod E (Mod.refl (fun _=>False) _) (fun _ _ h=>h) fun r x _ I=>I.mod (Mod.refl (fun _=>False) _) (fun _ _ _ h=>h) fun _ _ h=>h.1;rw[Bi,AG,AH];refine AK (j.cell h.c2 fun h=>h) ?_;rw[BR];refine AF (fun B=>?_) fun B=>⟨by rw[BH,C3 B];exact o,j⟩;rw[Bi,AG,AH];refine AK (j.cell h.c2 fun h=>h) ?_;refine⟨#[.int .u8 3,.int .i64 s.gone,.slice none 0 0,.slice none 0 0,.slice none 0 0],by kernel_rfl,?_⟩;refine Lm (w0:=w) GG o j (cs:=KZ ⟨3,s.gone,[],[],[]⟩ (.slice none 0 0) (.slice none 0 0) (.slice none 0 0)) (x:=⟨3,s.gone,[],[],[]⟩) (by kernel_rfl) rfl ⟨_,_,_,rfl,BB.nil,BB.nil,BB.nil⟩ (fun _ _ _=>Ca.one) ?_ hl (by simp only[maxLen];omega) fun v' w' h1 S=>⟨by rw[BH,Io B];exact h1,S⟩;intro U V r y X hm T;refine T.mod hm (fun x _ I e=>?_) fun _ _ h=>h;rcases e with e|e
 .have:=(AE.BA E x e).1;omega
 .have:=j.size;omega
end Go.Proofs.YtmdhibffnkhcnaaGreatDoor
