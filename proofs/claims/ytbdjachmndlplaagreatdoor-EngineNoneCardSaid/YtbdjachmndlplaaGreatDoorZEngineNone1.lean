/- parts of the proof, written short by a program of ours -/
import Derived.Test.YtbdjachmndlplaaGreatDoorZEngineNone0
import Derived.Laws.AppendOwnNone
import Derived.WalkKit
import Derived.RangeFuncOwn
import Derived.RangeFuncLeaves
import Derived.ProofKit
import Derived.Lib.SmallJoins
import Derived.Deep.Slices
import Derived.Test.YtbdjachmndlplaaGreatDoorRows
import Derived.Laws.IdiomStrings
set_option maxRecDepth 100000
set_option linter.unusedSimpArgs false
set_option linter.unusedVariables false
set_option linter.defProp false
namespace Go.Proofs.YtbdjachmndlplaaGreatDoor
open Go Proofs.Tryz
variable {j c B N:Nat}{w W W' w' w0:World}{F S M:Nat->Prop}{v sv v0:Value}{vs cs args:List Value}{α:Type}{K:Cont}
section
variable {P:Program}{ok:Nat->Bool}{K:Cont}{k:Value->Prop}{w:World}
def FH(b:Bool)(A B:Prop):AZ (.bool b) A B=if b=true then A else B:=by cases b<;>simp[AZ]
def ae(p:Prop)[Decidable p](A B:Prop):AZ (.bool (decide p)) A B=if p then A else B:=by
 rw[FH];by_cases h:p<;>simp[h]
def Zd(b:Bool)(x y:Value):JA (.bool b) x y k=k (if b=true then x else y):=by cases b<;>simp[JA]
def AM(q:IntKind)(a b:Int):CW q (.int q a) (.int q b) k=k (.int q (q.wrap (a+b))):=propext ⟨λ⟨_,_,h1,i,h⟩=>by cases h1;cases i;exact h,λh=>⟨_,_,rfl,rfl,h⟩⟩
def Am(q:IntKind)(a b:Int):DR q (.int q a) (.int q b) k=k (.int q (q.wrap (a-b))):=propext ⟨λ⟨_,_,h1,i,h⟩=>by cases h1;cases i;exact h,λh=>⟨_,_,rfl,rfl,h⟩⟩
def fu(q:IntKind)(a b:Int):UE q (.int q a) (.int q b) k=k (.int q (q.wrap (a*b))):=propext ⟨λ⟨_,_,h1,i,h⟩=>by cases h1;cases i;exact h,λh=>⟨_,_,rfl,rfl,h⟩⟩
def Ai(q:IntKind)(a b:Int):GI q (.int q a) (.int q b) k=k (.bool (decide (a<b))):=propext ⟨λ⟨_,_,h1,i,h⟩=>by cases h1;cases i;exact h,λh=>⟨_,_,rfl,rfl,h⟩⟩
def HT(q:IntKind)(a b:Int):Xn q (.int q a) (.int q b) k=k (.bool (decide (a<=b))):=propext ⟨λ⟨_,_,h1,i,h⟩=>by cases h1;cases i;exact h,λh=>⟨_,_,rfl,rfl,h⟩⟩
def BE(q:IntKind)(a b:Int):T8 q (.int q a) (.int q b) k=k (.bool (decide (b<a))):=propext ⟨λ⟨_,_,h1,i,h⟩=>by cases h1;cases i;exact h,λh=>⟨_,_,rfl,rfl,h⟩⟩
def Cu(q:IntKind)(a b:Int):Rh q (.int q a) (.int q b) k=k (.bool (decide (b<=a))):=propext ⟨λ⟨_,_,h1,i,h⟩=>by cases h1;cases i;exact h,λh=>⟨_,_,rfl,rfl,h⟩⟩
def Aa(q:IntKind)(a b:Int):Nw q (.int q a) (.int q b) k=k (.bool (decide (a=b))):=propext ⟨λ⟨_,_,h1,i,h⟩=>by cases h1;cases i;exact h,λh=>⟨_,_,rfl,rfl,h⟩⟩
def BL(q:IntKind)(a b:Int):PH q (.int q a) (.int q b) k=k (.bool (!decide (a=b))):=propext ⟨λ⟨_,_,h1,i,h⟩=>by cases h1;cases i;exact h,λh=>⟨_,_,rfl,rfl,h⟩⟩
def GC(q:IntKind)(a b:Int):LV q (.int q a) (.int q b) k=k (.int q (if b>a then b else a)):=propext ⟨λ⟨_,_,h1,i,h⟩=>by cases h1;cases i;exact h,λh=>⟨_,_,rfl,rfl,h⟩⟩
def Hi(q:IntKind)(a b:Int):MI q (.int q a) (.int q b) k=k (.int q (if b<a then b else a)):=propext ⟨λ⟨_,_,h1,i,h⟩=>by cases h1;cases i;exact h,λh=>⟨_,_,rfl,rfl,h⟩⟩
def eP(a b:Bool):Ue (.bool a) (.bool b) k=k (.bool (a==b)):=propext ⟨λ⟨_,_,h1,i,h⟩=>by cases h1;cases i;exact h,λh=>⟨_,_,rfl,rfl,h⟩⟩
def Rl(a b:Bool):UQ (.bool a) (.bool b) k=k (.bool (!(a==b))):=propext ⟨λ⟨_,_,h1,i,h⟩=>by cases h1;cases i;exact h,λh=>⟨_,_,rfl,rfl,h⟩⟩
def fS(a b:ByteArray):UN (.string a) (.string b) k=k (.bool (decide (a=b))):=propext ⟨λ⟨_,_,h1,i,h⟩=>by cases h1;cases i;exact h,λh=>⟨_,_,rfl,rfl,h⟩⟩
def fD(a b:ByteArray):Vz (.string a) (.string b) k=k (.bool (!decide (a=b))):=propext ⟨λ⟨_,_,h1,i,h⟩=>by cases h1;cases i;exact h,λh=>⟨_,_,rfl,rfl,h⟩⟩
def Ty(a:Option Addr)(n c:Nat)(k:Bool->Prop):Jf (.slice a n c) k=k a.isNone:=propext ⟨λ⟨_,_,_,h1,h⟩=>by cases h1;exact h,λh=>⟨_,_,_,rfl,h⟩⟩
def Je(a:Option Addr)(k:Bool->Prop):Ge (.pointer a) k=k a.isNone:=propext ⟨λ⟨_,h1,h⟩=>by cases h1;exact h,λh=>⟨_,rfl,h⟩⟩
def Ah(a:Bool):Ke (.bool a) k=k (.bool (!a)):=propext ⟨λ⟨_,h1,h⟩=>by cases h1;exact h,λh=>⟨_,rfl,h⟩⟩
def AO(a:Option Addr)(n c:Nat):Dr (.slice a n c) k=k (zI n):=propext ⟨λ⟨_,_,_,h1,h⟩=>by cases h1;exact h,λh=>⟨_,_,_,rfl,h⟩⟩
def Li(s:ByteArray):MT (.string s) k=k (zI s.size):=propext ⟨λ⟨_,h1,h⟩=>by cases h1;exact h,λh=>⟨_,rfl,h⟩⟩
def BU(a:Addr):Af (.pointer (some a)) k=k (.pointer (some a)):=propext ⟨λ⟨_,h1,h⟩=>by cases h1;exact h,λh=>⟨_,rfl,h⟩⟩
def AH(off:Nat)(a:Addr):BC off (.pointer (some a)) k=k (.pointer (some (a.add off))):=propext ⟨λ⟨_,h1,h⟩=>by cases h1;exact h,λh=>⟨_,rfl,h⟩⟩
def BQ(vs:List Value):nth vs 0=vs.headD undef:=rfl
def YL(vs:List Value)(k:Nat):nth vs (k+1)=nth vs.tail k:=rfl
def Addr.add_add(a:Addr)(x y:Nat):(a.add x).add y=a.add (x+y):=by
 unfold Addr.add;split<;>split<;>simp_all<;>omega
def AS{s:Nat}{a:Addr}{n c:Nat}{q:IntKind}(h1:j<n)(h:k (.pointer (some (a.add (j*s))))):Ip s (.slice (some a) n c) (.int q (j:Int)) k:=
 ⟨_,_,_,_,_,rfl,rfl,by omega,by omega,by simpa using h⟩
def AJ{a:Addr}(hc:w.cell? a=some v)(h:K v w):Ay (.pointer (some a)) K w:=⟨a,v,rfl,hc,h⟩
def AV{n:Nat}{a:Addr}(hl:vs.length=n)(hc:∀j v,vs[j]?=some v->w.cell? (a.add j)=some v)(h:K (.agg vs.toArray) w):CX n (.pointer (some a)) K w:=⟨a,vs,rfl,hl,hc,h⟩
def Aw{C:World->Prop}{a:Addr}(hc:∀w,C w->w.cell? a=some v)(h:k v):HS C (.pointer (some a)) k:=⟨a,v,rfl,hc,h⟩
def Hp{C:World->Prop}{n:Nat}{a:Addr}(hl:vs.length=n)(hc:∀w,C w->∀j v,vs[j]?=some v->w.cell? (a.add j)=some v)(h:k (.agg vs.toArray)):NH C n (.pointer (some a)) k:=⟨a,vs,rfl,hl,hc,h⟩
def Kx{a:Addr}{v u:Value}{K:World->Prop}(h1:v.oneCell'=true)(i:v.cells=#[v])(hc:w.cell? a=some u)(j:w.frozen? a=false)(h:K (w.setCell a v)):CB (.pointer (some a)) v K w:=⟨a,u,rfl,h1,i,hc,j,h⟩
def Ae{i:Nat}(j:vs[i]?=some v)(h:k v):Ag i (.tuple vs.toArray) k:=⟨vs,v,rfl,j,h⟩
def AR{R:List Value->World->Prop}{G:(List Value->World->Prop)->Prop}(I:List Value->World->Prop)(h1:∀vs w,I vs w->R vs w)(i:G I):Cl R G:=⟨I,h1,i⟩
def AU{i:List Value}{F:List Value->(List Value->World->Prop)->World->Prop}(I:List Value->World->Prop)(μ:List Value->World->Nat)(h0:I i w)(h:∀vs w,I vs w->F vs (λj w'=>I j w'/\μ j w'<μ vs w) w):FK i F w:=⟨I,μ,h0,h⟩
def AA{g:Nat}{i:Cont}(h:AB P g args K w)(hk:∀v w',K v w'->i v w'):AB P g args i w:=
 og h λ_ _ ⟨v,h1,j⟩=>⟨v,h1,hk _ _ j⟩
def AX{s:Sem Value}(h1:s.run P w=.ok v w')(h:K v w'):runK P s K w:=⟨v,w',h1,h⟩
def Rm{t:TypeId}(h:K (.pointer (some ⟨w.heap.size,0,none⟩)) (w.alloc (.cells cs.toArray t))):Bt t cs K w:=h
def wrap64{x:Int}(h0:-9223372036854775808<=x)(h1:x<=9223372036854775807):IntKind.i64.wrap x=x:=by
 have i:(2:Int) ^ IntKind.i64.bits=18446744073709551616:=by decide
 have j:(2:Int) ^ (IntKind.i64.bits-1)=9223372036854775808:=by decide
 simp only[IntKind.wrap,i,j,IntKind.signed,pG,jD];split<;>omega
def XB(w:World)(t:TypeId):∀(vs done j:List Value),j.length=vs.length->EN (w.alloc (.cells (done++j).toArray t)) ⟨w.heap.size,0,none⟩ done.length vs=w.alloc (.cells (done++vs).toArray t):=by
 intro vs;induction vs with
 |nil=>intro done j hl;have:j=[]:=Of hl;subst this;rfl
 |cons v vs B=>
  intro done j hl;cases j with
  |nil=>simp at hl
  |cons z j=>
   simp only[EN];have h1:(w.alloc (.cells (done++z::j).toArray t)).setCell ((⟨w.heap.size,0,none⟩:Addr).add done.length) v=w.alloc (.cells ((done++[v])++j).toArray t):=by
    have m:(⟨w.heap.size,0,none⟩:Addr).add done.length=⟨w.heap.size,done.length,none⟩:=by unfold Addr.add;split<;>simp_all
    rw[m];simp only[World.setCell,World.alloc];congr 1
    rw[<-qH,Array.toList_modify];simp only[pt];apply mj;intro i;rw[List.getElem?_modify];by_cases hi:w.heap.size=i
    .subst hi;simp[oX,List.setIfInBounds_toArray]
    .rcases qi hi with I|o
     .have J:¬i<w.heap.size:=by omega
      have q:¬i-w.heap.size=0:=by omega
      simp[hi,oX,List.getElem?_singleton,J,q]
     .simp[hi,oX,o]
   rw[h1];have:=B (done++[v]) j (by simpa using hl);simpa using this
def iV{t:TypeId}{m vs:List Value}{K:World->Prop}(hl:m.length=vs.length)(h1:∀v∈vs,v.oneCell'=true)(h:K (w.alloc (.cells vs.toArray t))) :
  BP vs.length (.pointer (some ⟨w.heap.size,0,none⟩)) (.agg vs.toArray) K (w.alloc (.cells m.toArray t)):=by
 refine⟨_,vs,rfl,rfl,rfl,h1,λj o=>?_,?_⟩
 .have i:(⟨w.heap.size,0,none⟩:Addr).add j=⟨w.heap.size,j,none⟩:=by unfold Addr.add;split<;>simp_all
  rw[i,qF,q9];refine⟨?_,rfl⟩;have:j<m.length:=by omega
  simp[this]
 .have:=XB w t vs [] m hl;simp only[lg,lX] at this;rw[this];exact h
end
def KS :
  (∀(b:Bool) (A B:Prop),AZ (.bool b) A B=if b=true then A else B)/\
  (∀{p:Prop} [Decidable p],(decide p=true)=p)/\
  (∀{a b:Bool},((!a)=b)↔(a=!b))/\
  ((!true)=false)/\
  (∀{p:Prop} [Decidable p],decide p=false↔¬p)/\
  (∀{k:Value->Prop} (b:Bool) (x y:Value),JA (.bool b) x y k=k (if b=true then x else y))/\
  (∀{k:Value->Prop} (q:IntKind) (a b:Int),CW q (.int q a) (.int q b) k=k (.int q (q.wrap (a+b))))/\
  (∀{k:Value->Prop} (q:IntKind) (a b:Int),DR q (.int q a) (.int q b) k=k (.int q (q.wrap (a-b))))/\
  (∀{k:Value->Prop} (q:IntKind) (a b:Int),UE q (.int q a) (.int q b) k=k (.int q (q.wrap (a*b))))/\
  (∀{k:Value->Prop} (q:IntKind) (a b:Int),GI q (.int q a) (.int q b) k=k (.bool (decide (a<b))))/\
  (∀{k:Value->Prop} (q:IntKind) (a b:Int),Xn q (.int q a) (.int q b) k=k (.bool (decide (a<=b))))/\
  (∀{k:Value->Prop} (q:IntKind) (a b:Int),T8 q (.int q a) (.int q b) k=k (.bool (decide (b<a))))/\
  (∀{k:Value->Prop} (q:IntKind) (a b:Int),Rh q (.int q a) (.int q b) k=k (.bool (decide (b<=a))))/\
  (∀{k:Value->Prop} (q:IntKind) (a b:Int),Nw q (.int q a) (.int q b) k=k (.bool (decide (a=b))))/\
  (∀{k:Value->Prop} (q:IntKind) (a b:Int),PH q (.int q a) (.int q b) k=k (.bool (!decide (a=b))))/\
  (∀{k:Value->Prop} (q:IntKind) (a b:Int),LV q (.int q a) (.int q b) k=k (.int q (if b>a then b else a)))/\
  (∀{k:Value->Prop} (q:IntKind) (a b:Int),MI q (.int q a) (.int q b) k=k (.int q (if b<a then b else a)))/\
  (∀{k:Value->Prop} (a b:Bool),Ue (.bool a) (.bool b) k=k (.bool (a==b)))/\
  (∀{k:Value->Prop} (a b:Bool),UQ (.bool a) (.bool b) k=k (.bool (!(a==b))))/\
  (∀{k:Value->Prop} (a b:ByteArray),UN (.string a) (.string b) k=k (.bool (decide (a=b))))/\
  (∀{k:Value->Prop} (a b:ByteArray),Vz (.string a) (.string b) k=k (.bool (!decide (a=b))))/\
  (∀(a:Option Addr) (n c:Nat) (k:Bool->Prop),Jf (.slice a n c) k=k a.isNone)/\
  (∀(a:Option Addr) (k:Bool->Prop),Ge (.pointer a) k=k a.isNone)/\
  (∀{k:Value->Prop} (a:Bool),Ke (.bool a) k=k (.bool (!a)))/\
  (∀{k:Value->Prop} (a:Option Addr) (n c:Nat),Dr (.slice a n c) k=k (zI n))/\
  (∀{k:Value->Prop} (s:ByteArray),MT (.string s) k=k (zI s.size))/\
  (∀{k:Value->Prop} (a:Addr),Af (.pointer (some a)) k=k (.pointer (some a)))/\
  (∀{k:Value->Prop} (off:Nat) (a:Addr),BC off (.pointer (some a)) k=k (.pointer (some (a.add off))))/\
  (∀(a:Addr) (x y:Nat),(a.add x).add y=a.add (x+y))/\
  (∀(vs:List Value),nth vs 0=vs.headD undef)/\
  (∀(vs:List Value) (k:Nat),nth vs (k+1)=nth vs.tail k)/\
  (∀{a d:Value} {l:List Value},(a::l).headD d=a)/\
  (∀{a:Value} {l:List Value},(a::l).tail=l)/\
  ((none:Option Addr).isNone=true)/\
  (∀{a:Addr},(some a).isNone=false)/\
  ((false=true)=False)/\
  (∀{α:Type} {h:Decidable True} (t e:α),(@ite α True h t e)=t)/\
  (∀{α:Type} {h:Decidable False} (t e:α),(@ite α False h t e)=e):=
 ⟨@FH,by simp,by intro a b;cases a<;>cases b<;>simp,by simp,by simp,@Zd,@AM,@Am,@fu,@Ai,@HT,@BE,@Cu,@Aa,@BL,@GC,@Hi,@eP,@Rl,@fS,@fD,@Ty,@Je,@Ah,@AO,@Li,@BU,@AH,@Addr.add_add,@BQ,@YL,by simp,by simp,by simp,by simp,by simp,by simp,by simp⟩
abbrev Grow(w w':World):Prop:=Mod (λ_=>False) w w'
def Grow.mod(h:Grow w w'):Mod M w w':=Mod.mono h λ_ _ h=>h.elim
def Mod.below(h:Mod M w w')(i:B<=w.heap.size)(hm:∀b,M b->B<=b):RowKit.Below B w w':=
 ⟨h.os,h.tape,h.output,h.size,λb hb=>h.same b (by omega) λh'=>by have:=hm b h';omega⟩
def Mod.drew(M:Nat->Prop)(w:World):Mod M w w.drew:=⟨rfl,rfl,rfl,K8 _,λ_ _ _=>rfl⟩
def Mod.alloc(M:Nat->Prop)(w:World)(o:Obj):Mod M w (w.alloc o):=⟨rfl,rfl,rfl,by simp,λb hb _=>pk w o b hb⟩
def Mod.setCell(w:World)(a:Addr)(v:Value)(h:M a.block):Mod M w (w.setCell a v):=⟨rfl,rfl,rfl,by simp,λb _ i=>RowKit.Below.heap_setCell w a v b λe=>i (e▸h)⟩
def Mod.of_grownBy{row:Option Nat}(h:w.grownBy w' row):Mod (λb=>row=some b) w w':=⟨h.os,h.tape,h.output,h.size,λb hb i=>h.block b hb λe=>i e.symm⟩
def Mod.cell{M:Nat->Prop}{w w':World}(h:Mod M w w'){a:Addr}{v:Value}(hc:w.cell? a=some v)(hm:¬M a.block):w'.cell? a=some v:=
 (mi (h.same a.block (lU w a hc) hm)).trans hc
def Mod.frozen{M:Nat->Prop}{w w':World}(h:Mod M w w'){a:Addr}(hb:a.block<w.heap.size)(hm:¬M a.block):w'.frozen? a=w.frozen? a:=
 rE (h.same a.block hb hm)
def An{α:Type}(S:Nat->Prop)(k:Nat)(R:World->List Value->α->Prop)(w:World)(v:Value)(l:List α):Prop:=
 ∃a c,v=.slice a l.length c/\l.length<=c/\c<=maxLen/\∀i x,l[i]?=some x->∃p r,a=some p/\S p.block/\r.length=k/\(∀j u,r[j]?=some u->w.cell? (p.add (i*k+j))=some u)/\R w r x
def An.mono{α:Type}{S o:Nat->Prop}{k:Nat}{R R':World->List Value->α->Prop}{w w':World}{v:Value}{l:List α}(h:An S k R w v l)
 (J:∀b,b<w.heap.size->S b->o b)(hb:∀b,b<w.heap.size->S b->w'.heap[b]?=w.heap[b]?)(hk:0<k)(O:∀r x,R w r x->R' w' r x):An o k R' w' v l:=by
 obtain⟨a,c,h1,Q,U,V⟩:=h;refine⟨a,c,h1,Q,U,λi x X=>?_⟩;obtain⟨p,r,Y,q,B,I,Z⟩:=V i x X;have m:p.block<w.heap.size:=by
  cases r with
  |nil=>simp at B;omega
  |cons u r=>
   have:=lU w _ (I 0 u rfl);have e:(p.add (i*k+0)).block=p.block:=by unfold Addr.add;split<;>rfl
   rwa [e] at this
 refine⟨p,r,Y,J _ m q,B,λj u hu=>?_,O _ _ Z⟩;have e:(p.add (i*k+j)).block=p.block:=by unfold Addr.add;split<;>rfl
 rw[mi (w:=w) (by rw[e];exact hb _ m q)];exact I j u hu
def An.nil{k:Nat}{R:World->List Value->α->Prop}:An S k R w (.slice none 0 0) []:=
 ⟨none,0,rfl,K8 _,by simp[maxLen],λi x j=>by simp at j⟩
def Dh(vs:List Value)(j:Nat):Nat:=match nth vs j with|.int _ n=>n.toNat|_=>0
def An.get{k:Nat}{R:World->List Value->α->Prop}{a:Option Addr}{n c:Nat}{l:List α}(h:An S k R w (.slice a n c) l){i:Nat}(hi:i<l.length) :
  ∃p r,a=some p/\S p.block/\r.length=k/\(∀j u,r[j]?=some u->w.cell? (p.add (i*k+j))=some u)/\R w r l[i]:=by
 obtain⟨o,q,h1,B,I,m⟩:=h;cases h1;exact m i l[i] (by simp[hi])
def An.shape{k:Nat}{R:World->List Value->α->Prop}{l:List α}(h:An S k R w v l):∃a c,v=.slice a l.length c/\l.length<=maxLen:=by
 obtain⟨i,j,h1,m,o,q⟩:=h;exact⟨i,j,h1,lx m o⟩
def AE{α:Type}(B e k:Nat)(R:World->List Value->α->Prop)(w:World)(v:Value)(l:List α):Prop:=
 ∃rows:List (List Value),w.ownsRow B e k v l.length rows.flatten/\rows.length=l.length/\(∀r∈rows,r.length=k/\∀u∈r,u.oneCell'=true)/\∀(i:Nat) (r:List Value) (x:α),rows[i]?=some r->l[i]?=some x->R w r x
def Cx{k:Nat}:∀(rows:List (List Value)),(∀r∈rows,r.length=k)->rows.flatten.length=rows.length*k:=by
 intro rows;induction rows with
 |nil=>intro _;simp
 |cons r rs i=>intro h;simp[i (λr hr=>h r (by simp[hr])),h r (by simp),mC];omega
def IB{k:Nat}:∀(rows:List (List Value)) (i j:Nat) (r:List Value),(∀r∈rows,r.length=k)->rows[i]?=some r->j<k->rows.flatten[i*k+j]?=r[j]?:=by
 intro rows;induction rows with
 |nil=>intro i j r _ h;simp at h
 |cons o rs q=>
  intro i j r h hi m;have h0:=h o (by simp);cases i with
  |zero=>simp at hi;subst hi;simp[oX,h0,m]
  |succ i=>
   have:=q i j r (λr hr=>h r (by simp[hr])) (by simpa using hi) m;rw[pK,lF (by rw[h0,mC];omega)];rw[<-this];congr 1;rw[h0,mC];omega
def H8{k:Nat}(hk:0<k):∀(rows:List (List Value)),(∀r∈rows,r.length=k)->∀(q:Nat) (u:Value),rows.flatten[q]?=some u->∃r,rows[q/k]?=some r/\r[q%k]?=some u:=by
 intro rows h q u hu;have hl:=Cx rows h;have i:q<rows.flatten.length:=(Ad.1 hu).1;have h1:q/k<rows.length:=by rw[hl] at i;exact(rS hk).2 i
 refine⟨rows[q/k],by simp[h1],?_⟩;rw[<-IB rows (q/k) (q%k) _ h (by simp[h1]) (qj _ hk)];rw[pR q k];exact hu
def AE.nil{B e k:Nat}{R:World->List Value->α->Prop}:AE B e k R w (.slice none 0 0) []:=
 ⟨[],World.ownsRow_nil w B e k,rfl,by simp,by simp⟩
def AE.made{B e k:Nat}{R:World->List Value->α->Prop}(i:B<=w.heap.size):AE B e k R (w.alloc (.cells #[] e)) (.slice (some ⟨w.heap.size,0,none⟩) 0 0) ([]:List α):=
 ⟨[],World.ownsRow_made w #[] 0 i (by simp[maxLen]) (by simp),rfl,by simp,by simp⟩
def AE.shape{B e k:Nat}{R:World->List Value->α->Prop}{l:List α}(h:AE B e k R w v l) :
  ∃a c,v=.slice a l.length c/\l.length<=c/\c<=maxLen/\(∀p,a=some p->∃g,p=⟨g,0,none⟩/\B<=g/\g<w.heap.size/\v.ownBlock=some g)/\(a=none->l=[]):=by
 obtain⟨rows,h1,q,I,J⟩:=h;rcases h1.2 with⟨rfl,i⟩|⟨g,cap,j,rfl,m,o,i,hm,_⟩
 .exact⟨none,0,by rw[i],by omega,by simp[maxLen],(λp hp=>nomatch hp),λ_=>Of i⟩
 .exact⟨some ⟨g,0,none⟩,cap,rfl,i,hm,(λp hp=>by cases hp;exact⟨g,rfl,m,(mZ.1 o).1,rfl⟩),(λh=>nomatch h)⟩
def AE.sl{B e k:Nat}{R:World->List Value->α->Prop}{l:List α}(h:AE B e k R w v l):An (λb=>B<=b/\v.ownBlock=some b) k R w v l:=by
 obtain⟨a,c,I,hc,hm,hp,J⟩:=h.shape;obtain⟨rows,h1,Y,O,Q⟩:=h;refine⟨a,c,I,hc,hm,λi x q=>?_⟩;have hi:i<l.length:=(Ad.1 q).1;cases a with
 |none=>rw[J rfl] at hi;simp at hi
 |some p=>
  obtain⟨g,rfl,U,V,o⟩:=hp p rfl;have hr:i<rows.length:=by omega
  have m:∀r∈rows,r.length=k:=λr hr=>(O r hr).1;refine⟨_,rows[i],rfl,⟨U,o⟩,m _ (by simp),λj u hu=>?_,Q i _ x (by simp[hr]) q⟩;have X:j<k:=by rw[<-m rows[i] (by simp)];exact(Ad.1 hu).1
  refine h1.cells o _ u ?_;rw[IB rows i j rows[i] m (by simp[hr]) X];exact hu
def AE.mod{B e k:Nat}{R R':World->List Value->α->Prop}{l:List α}(h:AE B e k R w v l)(hm:Mod M w w')(I:∀g,v.ownBlock=some g->¬M g)
 (J:∀r x,x∈l->R w r x->R' w' r x):AE B e k R' w' v l:=by
 obtain⟨rows,h1,O,Q,U⟩:=h;refine⟨rows,⟨h1.1,?_⟩,O,Q,λi r x hr q=>J r x (ln q) (U i r x hr q)⟩;rcases h1.2 with V|⟨g,cap,o,rfl,hb,j,m⟩
 .exact .inl V
 .refine .inr ⟨g,cap,o,rfl,hb,?_,m⟩;rw[hm.same g (mZ.1 j).1 (I g rfl)];exact j
def Ch(P:Program)(t e size bytes:Nat):Prop:=∃i z,P.underlying t=some (.slice e)/\P.info? e=some i/\i.zero=some z/\i.size=size/\i.bytes=bytes/\z.cells.size=size/\0<size
def NV{P:Program}{t ty B e k bytes:Nat}{n:Nat}{xs:List Value}(hE:Ch P t e k bytes)(I:w.ownsRow B e k v n xs)(a:Option Addr)(m c:Nat)(o:List Value)
 (hl:o.length=m*k)(ha:a=none->m=0)(U:∀p,a=some p->∀j u,o[j]?=some u->w.cell? (p.add j)=some u)(h1:∀u∈o,u.oneCell'=true)(V:n+m<=maxLen)(Q:(n+m)*bytes<=140737488355328)(hB:B<=w.heap.size) :
  ∃v' w',(Builtin.append_ #[t,t] ty #[v,.slice a m c]).run P w=.ok v' w'/\w'.ownsRow B e k v' (n+m) (xs++o)/\w.grownBy w' v.ownBlock/\(∀g,v'.ownBlock=some g->v.ownBlock=some g\/w.heap.size<=g):=by
 obtain⟨i,z,ht,hi,hz,rfl,rfl,a1,hk⟩:=hE;cases a with
 |none=>
  have hm:=ha rfl;subst hm;have:o=[]:=Of (by simpa using hl);subst this;have a8:∃b s q,v=.slice b s q/\s<=q:=by
   rcases I.2 with⟨rfl,_⟩|⟨g,cap,O,rfl,_,_,h,_⟩
   .exact⟨_,_,_,rfl,K8 _⟩
   .exact⟨_,_,_,rfl,h⟩
  refine⟨v,w,?_,by simpa using I,⟨rfl,rfl,rfl,K8 _,λ_ _ _=>rfl⟩,λg hg=>.inl hg⟩;obtain⟨b,s,q,rfl,hq⟩:=a8;cases b<;>simp[Builtin.append_,run_underlying ht,sizeOf,typeInfo,hi,Builtin.lenOf,Builtin.firstCells,hq,storeCells]
 |some p=>
  have hn:=U p rfl;have ak:((n+m:Nat):Int)<=9223372036854775807:=by simp only[maxLen] at V;omega
  rcases I.2 with⟨rfl,rfl⟩|⟨g,cap,O,rfl,al,hg,ax,an,a6,X⟩
  .have Y:w.ownsRow w.heap.size e i.size (.slice none 0 0) 0 xs:=⟨I.1,.inl ⟨rfl,rfl⟩⟩;obtain⟨v',w',r1,r2,r3,_⟩:=run_append_own (P:=P) w w.heap.size t ty e i z i.size i.bytes ht hi hz rfl rfl a1 hk _ 0 xs Y p m c o hl hn h1 V Q (K8 _);refine⟨v',w',r1,⟨r2.1,?_⟩,r3,λg hg=>.inr (r2.lt g hg).1⟩;rcases r2.2 with h|⟨g,cap,O,q1,q2,q3⟩
   .exact .inl h
   .exact .inr ⟨g,cap,O,q1,lx hB q2,q3⟩
  .by_cases J:n+m<=cap
   .have a7:n*i.size+o.length<=O.size:=by rw[hl,a6,<-mC];exact mV _ J
    have hr:=run_append_room (P:=P) w t ty e i ht hi g n cap O hg p m c o hl hn h1 J a7;have hx:xs.length=n*i.size:=I.1;refine⟨_,_,hr,⟨by rw[BW,hx,hl,mC],.inr ⟨g,cap,_,rfl,al,setRow_heap w g O _ e _ hg,J,an,?_,?_⟩⟩,⟨rfl,rfl,rfl,?_,λb _ hb=>setRow_other w g b _ (λe=>hb (by simp[Value.ownBlock,e]))⟩,λg' Z=>.inl Z⟩
    .have h0:O.toList.length=cap*i.size:=by rw[nj,a6]
     have h2:n*i.size+m*i.size<=cap*i.size:=by rw[<-mC];exact mV _ J
     simp only[nh,BW,Lc,Hy,h0,hl];omega
    .rw[X,mC,<-hx,<-hl,<-BW];exact List.take_left
    .simp[World.setRow]
   .have holds:∀j u,xs[j]?=some u->w.cell? ((⟨g,0,none⟩:Addr).add j)=some u:=I.cells (g:=g) rfl;have hr:=rL (P:=P) w t ty e i z ht hi hz ⟨g,0,none⟩ n cap xs I.1 holds p m c o hl hn (by omega) ak (rX (by omega) Q);have av:=rY w (n+m) cap e;have hx:xs.length=n*i.size:=I.1;refine⟨_,_,hr,⟨by rw[BW,hx,hl,mC],.inr ⟨w.heap.size,_,_,rfl,hB,px w.drew _,av,pZ w (n+m) cap e V,?_,?_⟩⟩,⟨rfl,rfl,rfl,by simp,λb hb _=>pk w.drew _ b hb⟩,λg' Z=>.inr (by cases Z;exact K8 _)⟩
    .simp only[py,nh,qk,a1,hx,hl,<-mC];congr 1;omega
    .simp only[Array.toList_append];have h3:(n+m)*i.size=(xs++o).length:=by rw[BW,hx,hl,mC]
     rw[h3,nR (K8 _),S7]
def AE.append{P:Program}{t ty B e k bytes:Nat}{R:World->List Value->α->Prop}{v x:Value}{l m:List α}(hE:Ch P t e k bytes)(h:AE B e k R w v l)(hx:An S k R w x m)
 (X:∀r y,R w r y->∀u∈r,u.oneCell'=true)(Y:(l.length+m.length)*bytes<=140737488355328)(hB:B<=w.heap.size)(Z:l.length+m.length<=maxLen)
 (hR:∀w',w.grownBy w' v.ownBlock->∀r y,R w r y->R w' r y) :
  runK P (Builtin.append_ #[t,t] ty [v,x].toArray) (λv' w'=>AE B e k R w' v' (l++m)/\w.grownBy w' v.ownBlock/\(∀g,v'.ownBlock=some g->v.ownBlock=some g\/w.heap.size<=g)) w:=by
 obtain⟨i,z,ht,hi,hz,hs,hb,a8,hk⟩:=hE;have ak:=hx.shape;obtain⟨rows,h1,h2,h3,h4⟩:=h;obtain⟨a,c,rfl,hc,al,a1⟩:=hx;have fin:∀(o:List (List Value)),o.length=m.length->(∀r∈o,r.length=k/\∀u∈r,u.oneCell'=true)->(∀(i:Nat) (r:List Value) (y:α),o[i]?=some r->m[i]?=some y->R w r y)->
   (∃v' w',(Builtin.append_ #[t,t] ty [v,.slice a m.length c].toArray).run P w=.ok v' w'/\w'.ownsRow B e k v' (l.length+m.length) (rows.flatten++o.flatten)/\w.grownBy w' v.ownBlock/\(∀g,v'.ownBlock=some g->v.ownBlock=some g\/w.heap.size<=g))->
   runK P (Builtin.append_ #[t,t] ty [v,.slice a m.length c].toArray) (λv' w'=>AE B e k R w' v' (l++m)/\w.grownBy w' v.ownBlock/\(∀g,v'.ownBlock=some g->v.ownBlock=some g\/w.heap.size<=g)) w:=by
  rintro o e1 e2 e3 ⟨v',w',r1,r2,r3,r4⟩;refine⟨v',w',r1,⟨rows++o,by rw[qW,BW];exact r2,by simp[h2,e1],?_,?_⟩,r3,r4⟩
  .intro r hr;rcases By.1 hr with hr|hr
   .exact h3 r hr
   .exact e2 r hr
  .intro j r y hr U;refine hR w' r3 r y ?_;by_cases J:j<l.length
   .rw[Q0 (by omega)] at hr;rw[Q0 J] at U;exact h4 j r y hr U
   .rw[lF (by omega)] at hr;rw[lF (by omega)] at U;rw[h2] at hr;exact e3 _ r y hr U
 have Q:∃o:List (List Value),o.length=m.length/\(∀(i:Nat) (r:List Value),o[i]?=some r->r.length=k/\(∀u∈r,u.oneCell'=true)/\(∃p,a=some p/\∀j u,r[j]?=some u->w.cell? (p.add (i*k+j))=some u)/\∃y,m[i]?=some y/\R w r y):=by
  clear fin h4 h3 h2 h1 Y Z hR al ak;have gen:∀q,q<=m.length->∃o:List (List Value),o.length=q/\(∀(i:Nat) (r:List Value),o[i]?=some r->r.length=k/\(∀u∈r,u.oneCell'=true)/\(∃p,a=some p/\∀j u,r[j]?=some u->w.cell? (p.add (i*k+j))=some u)/\∃y,m[i]?=some y/\R w r y):=by
   intro q;induction q with
   |zero=>exact λ_=>⟨[],rfl,λi r h=>by simp at h⟩
   |succ q ih=>
    intro hq;obtain⟨rs,e1,e2⟩:=ih (by omega);obtain⟨p,r,f1,f2,f3,f4,f5⟩:=a1 q m[q] (by simp[show q<m.length by omega]);refine⟨rs++[r],by simp[e1],λi r' I=>?_⟩;by_cases hi:i<q
    .rw[Q0 (by omega)] at I;exact e2 i r' I
    .have:i=q:=by have:=(Ad.1 I).1;simp[e1] at this;omega
     subst this;rw[lF (by omega)] at I;simp[e1] at I;subst I;exact⟨f3,X _ _ f5,⟨p,f1,f4⟩,m[i],by simp[show i<m.length by omega],f5⟩
  exact gen m.length (K8 _)
 obtain⟨o,g1,V⟩:=Q;have O:∀r∈o,r.length=k:=λr hr=>by obtain⟨j,J⟩:=lz.1 hr;exact(V j r J).1
 refine fin o g1 (λr hr=>by obtain⟨j,J⟩:=lz.1 hr;exact⟨(V j r J).1,(V j r J).2.1⟩) (λj r y hr U=>?_) ?_
 .obtain⟨_,_,_,y',a6,an⟩:=V j r hr;rw[U] at a6;cases a6;exact an
 .refine NV ⟨i,z,ht,hi,hz,hs,hb,a8,hk⟩ h1 a m.length c o.flatten (by rw[Cx o O,g1]) ?_ ?_ ?_ Z Y hB
  .intro ha;by_cases av:m.length=0
   .exact av
   .obtain⟨p,r,f1,_⟩:=a1 0 m[0] (by simp[show 0<m.length by omega]);rw[ha] at f1;cases f1
  .intro p hp q u hu;obtain⟨r,hr,ax⟩:=H8 hk o O q u hu;obtain⟨_,_,⟨p',a7,ay⟩,_⟩:=V _ r hr;rw[hp] at a7;cases a7;have:=ay _ u ax;rwa [pR] at this
  .intro u hu;obtain⟨r,hr,aZ⟩:=List.mem_flatten.1 hu;obtain⟨j,J⟩:=lz.1 hr;exact(V j r J).2.1 u aZ
def Mod.next{M j:Nat->Prop}{w m w2:World}(h1:Mod j w m)(i:Mod M m w2)(q:∀b,b<w.heap.size->M b->j b):Mod j w w2:=
 ⟨i.os.trans h1.os,i.tape.trans h1.tape,i.output.trans h1.output,lx h1.size i.size,λb hb o=>(i.same b (No hb h1.size) λh=>o (q b hb h)).trans (h1.same b hb o)⟩
def An.grow{k:Nat}{R:World->List Value->α->Prop}{l:List α}(h:An S k R w v l)(i:Grow w w')(hk:0<k)(j:∀r x,R w r x->R w' r x):An S k R w' v l:=
 h.mono (λ_ _ h=>h) (λb hb _=>i.same b hb λh=>h) hk j
def An.mod{k:Nat}{R:World->List Value->α->Prop}{l:List α}(h:An S k R w v l)(i:Mod M w w')(j:∀b,b<w.heap.size->S b->¬M b)(hk:0<k)(m:∀r x,R w r x->R w' r x):An S k R w' v l:=
 h.mono (λ_ _ h=>h) (λb hb o=>i.same b hb (j b hb o)) hk m
def An.sub{S i:Nat->Prop}{k:Nat}{R R':World->List Value->α->Prop}{l:List α}(h:An S k R w v l)(j:∀b,b<w.heap.size->S b->i b)(hk:0<k)(m:∀r x,R w r x->R' w r x):An i k R' w v l:=
 h.mono j (λ_ _ _=>rfl) hk m
def AE.base{B m e k:Nat}{R:World->List Value->α->Prop}{l:List α}(h:AE B e k R w v l)(hb:∀g,v.ownBlock=some g->m<=g):AE m e k R w v l:=by
 obtain⟨rows,h1,o,q,I⟩:=h;refine⟨rows,⟨h1.1,?_⟩,o,q,I⟩;rcases h1.2 with J|⟨g,cap,j,rfl,O,i⟩
 .exact .inl J
 .exact .inr ⟨g,cap,j,rfl,hb g rfl,i⟩
def Hk{e k:Nat}(h:K (.slice (some ⟨w.heap.size,0,none⟩) 0 0) (w.alloc (.cells #[] e))):Dg e k 0 [] [] K w:=by
 refine⟨#[],?_,h⟩;simp[Instr.fill,Array.range_zero']
def WA{k:Nat}:∀(rows:List (List Value)) (i j:Nat) (r:List Value) (u:Value),(∀r∈rows,r.length=k)->rows[i]?=some r->j<k->rows.flatten.set (i*k+j) u=(rows.set i (r.set j u)).flatten:=by
 intro rows;induction rows with
 |nil=>intro i j r u _ h;simp at h
 |cons m rs o=>
  intro i j r u h hi q;have h0:=h m (by simp);cases i with
  |zero=>
   simp at hi;subst hi;simp only[pK,oy,pz,mQ];rw[List.set_append_left _ _ (by omega)]
  |succ i=>
   have:=o i j r u (λr hr=>h r (by simp[hr])) (by simpa using hi) q;simp only[pK,qh];rw[mJ _ _ (by rw[h0,mC];omega),<-this];congr 2;rw[h0,mC];omega
def AE.store{B e k:Nat}{R R':World->List Value->α->Prop}{a:Addr}{n c:Nat}{l:List α}(h:AE B e k R w (.slice (some a) n c) l){i j:Nat}{u:Value}{x':α}(hi:i<l.length)(hj:j<k)
 (hu:u.oneCell'=true)(Y:∀r y,y∈l->R w r y->R' (w.setCell (a.add (i*k+j)) u) r y)(Z:∀r,R w r l[i]->R' (w.setCell (a.add (i*k+j)) u) (r.set j u) x') :
  (∃v,w.cell? (a.add (i*k+j))=some v)/\w.frozen? (a.add (i*k+j))=false/\AE B e k R' (w.setCell (a.add (i*k+j)) u) (.slice (some a) n c) (l.set i x')/\Mod (λb=>b=a.block) w (w.setCell (a.add (i*k+j)) u):=by
 obtain⟨rows,h1,U,V,h4⟩:=h;have m:∀r∈rows,r.length=k:=λr hr=>(V r hr).1;have J:i<rows.length:=by omega
 have X:∃g,a=⟨g,0,none⟩/\n=l.length:=by
  rcases h1.2 with⟨h',_⟩|⟨g',a1,a6,h',_⟩
  .simp at h'
  .simp only[ny,gM] at h';exact⟨g',h'.1,h'.2.1⟩
 obtain⟨g,rfl,rfl⟩:=X;have O:(⟨g,0,none⟩:Addr).add (i*k+j)=⟨g,i*k+j,none⟩:=by unfold Addr.add;split<;>simp_all
 rw[O] at Y Z ⊢;have I:i*k+j<l.length*k:=by
  have:(i+1)*k<=l.length*k:=mV _ hi;rw[mC] at this;omega
 obtain⟨s1,s2⟩:=h1.stored (i*k+j) u;have Q:rows[i]?=some rows[i]:=by simp[J]
 refine⟨?_,h1.frozenAt _,?_,?_⟩
 .refine⟨(rows.flatten)[i*k+j]'(by rw[Cx rows m,U];exact I),?_⟩;rw[h1.cellAt _ I];simp[Cx rows m,U,I]
 .refine⟨rows.set i (rows[i].set j u),?_,by simp[U],?_,?_⟩
  .rw[lG,<-WA rows i j rows[i] u m Q hj];exact s1
  .intro r hr;rcases qq hr with hr|rfl
   .exact V r hr
   .refine⟨by rw[lG];exact m _ (by simp),λy o=>?_⟩;rcases qq o with o|rfl
    .exact(V rows[i] (by simp)).2 y o
    .exact hu
  .intro q r y hr o;by_cases hq:i=q
   .subst hq;simp only[lL J,lL hi,gM] at hr o;subst hr;subst o;exact Z _ (h4 i _ _ Q (by simp[hi]))
   .rw[lY hq] at hr o;exact Y r y (ln o) (h4 q r y hr o)
 .exact Mod.setCell _ _ _ rfl
structure As where
 kind:Int
 n:Int
 f:Int
 s:ByteArray
 deriving DecidableEq
structure Attr where
 key:Int
 val:As
 deriving DecidableEq
def As.cells(v:As):List Value:=[.int .u8 v.kind,zI v.n,.int .u64 v.f,.string v.s]
def Attr.cells(a:Attr):List Value:=zI a.key::a.val.cells
abbrev CR:World->List Value->Attr->Prop:=λ_ r x=>r=x.cells
abbrev Ba(S:Nat->Prop)(w:World)(v:Value)(l:List Attr):Prop:=An S 5 CR w v l
def VA(a b:Attr)(w:World) :
  (Op.equalIn 10000 83 (.agg a.cells.toArray) (.agg b.cells.toArray)).run prog w=.ok (decide (a=b)) w:=by
 have B:prog.underlying 83=some (.struct (prog.fieldsOf 83)):=by kernel_rfl
 have I:prog.underlying 54=some (.struct (prog.fieldsOf 54)):=by kernel_rfl
 have J:=underlying3;have O:=underlying5;have Q:=underlying2;have U:=underlying52;have V:=underlying9;rw[show(10000:Nat)=9999+1 from rfl,qR w 9999 _ _ _ B Tryz.stoodInHeld83];simp only[Program.fieldsOf,underlying83,Attr.cells,As.cells];have X:=Tryz.isAgg3;have Y:=Tryz.isAgg54;have Z:∀w,(sizeOf 54).run prog w=.ok 4 w:=λw=>by simp only[sizeOf,lH,Tryz.typeInfo54,S9,mG];rfl
 have a3:=Tryz.isAgg5;have a4:=Tryz.isAgg2;have a5:=Tryz.isAgg52;have a6:=Tryz.isAgg9;have hv:∀(x y:As) (w:World),(Op.equalIn 9999 54 (.agg #[.int .u8 x.kind,zI x.n,.int .u64 x.f,.string x.s]) (.agg #[.int .u8 y.kind,zI y.n,.int .u64 y.f,.string y.s])).run prog w=.ok (decide (x=y)) w:=by
  intro x y w;rw[show(9999:Nat)=9998+1 from rfl,qR w 9998 _ _ _ I Tryz.stoodInHeld54];simp only[Program.fieldsOf,underlying54];have i:∀a b:Int,(Op.equalIn 9998 5 (.int .u8 a) (.int .u8 b)).run prog w=.ok (a==b) w:=λa b=>nm w 9997 _ _ _ a b O;have j:∀a b:Int,(Op.equalIn 9998 2 (zI a) (zI b)).run prog w=.ok (a==b) w:=λa b=>nm w 9997 _ _ _ a b Q;have m:∀a b:Int,(Op.equalIn 9998 52 (.int .u64 a) (.int .u64 b)).run prog w=.ok (a==b) w:=λa b=>nm w 9997 _ _ _ a b U;have e4:∀a b:ByteArray,(Op.equalIn 9998 9 (.string a) (.string b)).run prog w=.ok (a.toList==b.toList) w:=λa b=>run_equalIn_string w 9997 _ a b V;have q:decide (x=y)=(x.kind==y.kind&&(x.n==y.n&&(x.f==y.f&&decide (x.s=y.s)))):=by
   cases x;cases y;rw[oE];simp[As.mk.injEq]
  rw[q];simp[Op.eqFields,part,a3,a4,a5,a6,i,j,m,e4,toList_beq];by_cases h1:x.kind=y.kind<;>by_cases o:x.n=y.n<;>by_cases h3:x.f=y.f<;>by_cases h4:x.s=y.s<;>simp[h1,o,h3,h4]
 have i:∀a b:Int,(Op.equalIn 9999 3 (zI a) (zI b)).run prog w=.ok (a==b) w:=λa b=>nm w 9998 _ _ _ a b J;have j:∀(x y:As) (w:World),(Op.equalIn 9999 54 (.agg #[.int .u8 x.kind,zI x.n,.int .u64 x.f,.string x.s]) (.agg #[.int .u8 y.kind,zI y.n,.int .u64 y.f,.string y.s])).run prog w=.ok (decide (x=y)) w:=hv;have m:=j a.val b.val w;have x1:∀k q r s t:Value,(#[k,q,r,s,t]:Array Value).extract 1 5=#[q,r,s,t]:=λ_ _ _ _ _=>rfl;have q:decide (a=b)=(a.key==b.key&&decide (a.val=b.val)):=by
  cases a;cases b;rw[oE];simp[Attr.mk.injEq]
 rw[q];simp[Op.eqFields,part,X,Y,Z,i,x1,m];by_cases h1:a.key=b.key<;>by_cases o:a.val=b.val<;>simp[h1,o]
def Qa(xo yo:Operand)(a b:Attr)(w:World) :
  (Di .neq 83 xo yo (.agg a.cells.toArray) (.agg b.cells.toArray)).run prog w=.ok (.bool (!decide (a=b))) w:=by
 simp only[Di,lH,qS w .neq _ xo yo _ _ Tryz.eqGuardType83,S9];rw[rZ,VA];rfl
def HE:Ch prog 64 83 5 48:=⟨Tryz.t83,.agg #[zI 0,.int .u8 0,zI 0,.int .u64 0,.string ⟨#[]⟩],by kernel_rfl,by kernel_rfl,by kernel_rfl,by kernel_rfl,by kernel_rfl,by rfl,by decide⟩
def CR.one{r:List Value}{x:Attr}(h:CR w r x):∀u∈r,u.oneCell'=true:=by
 intro u hu;subst h;simp only[Attr.cells,As.cells,Mp,l9,nw] at hu;rcases hu with rfl|rfl|rfl|rfl|rfl<;>rfl
abbrev Ho(B:Nat)(w:World)(v:Value)(l:List Attr):Prop:=AE B 83 5 CR w v l
section
def Y5(n:Nat)(e:Env):List Nat->List Value->Env
 |[],_=>e
 |p::ps,vs=>Y5 n (GK n e p (vs.headD undef)) ps vs.tail
def Quiet(W W':World):Prop:=W'.os=W.os/\W'.tape=W.tape/\W'.output=W.output
def Quiet.trans{a b c:World}(h:Quiet a b)(k:Quiet b c):Quiet a c:=⟨k.1.trans h.1,k.2.1.trans h.2.1,k.2.2.trans h.2.2⟩
def Lb(st:Prop)(P:Program)(B:Nat)(cap:List Value)(m:Nat->List Value)(N:Nat)(Rd:Nat->Prop)(w:World):Prop:=
 ∀(l:Nat) (J:Nat->(Nat->Prop)->World->Prop) (o:(Nat->Prop)->World->Prop) (q:World),
  Mod (λ_=>False) w q->J 0 (λ_=>False) q->
  (∀k i j W W',J k i W->Mod (λb=>¬st/\i b) W W'->(∀b,j b->(i b\/W.heap.size<=b)/\b<W'.heap.size)->J k j W')->
  (∀i j W W',o i W->Mod (λb=>¬st/\i b) W W'->(∀b,j b->(i b\/W.heap.size<=b)/\b<W'.heap.size)->o j W')->
  (∀k i W,J k i W->∀b,b<w.heap.size->Rd b->W.heap[b]?=w.heap[b]?)->
  (∀k i W,k<N->J k i W->Kf P l (m k) (λv W'=>W.heap.size<=W'.heap.size/\(∀b,i b->W'.heap[b]?=W.heap[b]?)/\Quiet W W'/\((v=.bool true/\J (k+1) i W')\/(v=.bool false/\o i W'))) W)->
  AB P B (.func (.yield l) #[] #[]::cap) (λ_ W'=>∃i,J N i W'\/o i W') q
def cG(q:Nat->Prop)(st:Prop)(P:Program)(B:Nat)(cap:List Value)(E:Nat->(Nat->Prop)->World->List Value->Prop)(N:Nat)(Rd:Nat->Prop)(w:World):Prop:=
 ∀(l:Nat) (J:Nat->(Nat->Prop)->World->Prop) (m:(Nat->Prop)->World->Prop) (o:World),
  Mod (λ_=>False) w o->J 0 q o->
  (∀k i j W W',J k i W->Mod (λb=>¬st/\i b) W W'->(∀b,j b->(i b\/W.heap.size<=b)/\b<W'.heap.size)->J k j W')->
  (∀i j W W',m i W->Mod (λb=>¬st/\i b) W W'->(∀b,j b->(i b\/W.heap.size<=b)/\b<W'.heap.size)->m j W')->
  (∀k i W,J k i W->∀b,b<w.heap.size->Rd b->W.heap[b]?=w.heap[b]?)->
  (∀k i W args,k<N->J k i W->E k i W args->Kf P l args (λv W'=>W.heap.size<=W'.heap.size/\(∀b,i b->W'.heap[b]?=W.heap[b]?)/\Quiet W W'/\((v=.bool true/\J (k+1) i W')\/(v=.bool false/\m i W'))) W)->
  AB P B (.func (.yield l) #[] #[]::cap) (λ_ W'=>∃i,J N i W'\/m i W') o
def Lb.i{st:Prop}{P:Program}{m N:Nat}{j:Nat->List Value}{Rd:Nat->Prop}(h:Lb st P m vs j N Rd w):cG (λ_=>False) st P m vs (λk _ _ a=>a=j k) N Rd w:=
 λl J o q g h0 hJ PW JY hr=>h l J o q g h0 hJ PW JY λk B W hk I=>hr k B W _ hk I rfl
def jI(i:Nat->Prop)(w W W':World):Prop:=W.heap.size<=W'.heap.size/\(∀b,i b\/b=w.heap.size\/b=w.heap.size+1->W'.heap[b]?=W.heap[b]?)/\Quiet W W'
def Wx(m:Nat->Prop)(w W:World)(J:World->Prop)(j:Exit->World->Prop):Exit->World->Prop:=λx W'=>jI m w W W'/\match x with
 |.normal=>J W' | .ret=>j .ret W' | .exit i=>j (.exit i) W' | _=>False
def VN(j:Nat->Prop)(w W:World)(J:World->Prop)(o:Exit->World->Prop)(F:(Exit->World->Prop)->World->Prop)(m:World):Prop:=
 jI j w W m/\∀i,Mod (λb=>b=w.heap.size+1) m i->F (Wx j w i J o) i
def cK(i:Nat->Prop)(w W:World):Prop:=∀b,i b->b<W.heap.size/\w.heap.size+2<=b
def PC(i:Nat->Prop)(w W:World):Prop:=∀b,i b->b<W.heap.size/\b≠w.heap.size/\b≠w.heap.size+1
def Ka(P:Program)(ok:Nat->Bool)(f:Value)(B:Nat)(bD:List Value->(((Exit->World->Prop)->World->Prop)->World->Prop)->World->Prop)(N:Exit->World->Prop)(w:World):Prop:=
 ∃o st q cap E n Rd,f=.func (.func q) #[] (List.toArray cap)/\ok q=true/\cG o st P q cap E n Rd w/\(∀k i W args,k<n->E k i W args->args.length=B)/\(∀b,o b->b<w.heap.size)/\
 ∃(J:Nat->(Nat->Prop)->World->Prop) (m:Exit->(Nat->Prop)->World->Prop),
  J 0 o w/\
  (∀k i j W W',J k i W->Mod (λb=>(¬st/\i b)\/b=w.heap.size\/b=w.heap.size+1) W W'->(∀b,j b->(i b\/W.heap.size<=b)/\b<W'.heap.size/\b≠w.heap.size/\b≠w.heap.size+1)->J k j W')/\
  (∀x i j W W',m x i W->Mod (λb=>(¬st/\i b)\/b=w.heap.size\/b=w.heap.size+1) W W'->(∀b,j b->(i b\/W.heap.size<=b)/\b<W'.heap.size/\b≠w.heap.size/\b≠w.heap.size+1)->m x j W')/\
  (∀k i W,J k i W->∀b,b<w.heap.size->Rd b->W.heap[b]?=w.heap[b]?)/\
  (∀k i W args,k<n->E k i W args->J k i W->w.heap.size+2<=W.heap.size->PC i w W->bD args (VN i w W (J (k+1) i) (λx=>m x i)) W)/\
  (∀i W,J n i W->PC i w W->w.heap.size+2<=W.heap.size->W.heap[w.heap.size]?=some (.deferred (some []))->N .normal W)/\
  (∀x i W,m x i W->PC i w W->w.heap.size+2<=W.heap.size->W.heap[w.heap.size]?=some (.deferred (some []))->N x W)
def Jh{P:Program}{ok:Nat->Bool}{f:Value}{X:Nat}{bD:List Value->(((Exit->World->Prop)->World->Prop)->World->Prop)->World->Prop}{N:Exit->World->Prop}
 (h:∃ st O cap q n Rd,f=.func (.func O) #[] (List.toArray cap)/\ok O=true/\Lb st P O cap q n Rd w/\(∀ k,k < n->(q k).length=X)/\
 ∃(J:Nat->(Nat->Prop)->World->Prop) (B:Exit->(Nat->Prop)->World->Prop),
  J 0 (λ_=>False) w/\
  (∀k j m W W',J k j W->Mod (λb=>(¬st/\j b)\/b=w.heap.size\/b=w.heap.size+1) W W'->(∀b,m b->(j b\/W.heap.size<=b)/\b<W'.heap.size/\w.heap.size+2<=b)->J k m W')/\
  (∀x j m W W',B x j W->Mod (λb=>(¬st/\j b)\/b=w.heap.size\/b=w.heap.size+1) W W'->(∀b,m b->(j b\/W.heap.size<=b)/\b<W'.heap.size/\w.heap.size+2<=b)->B x m W')/\
  (∀k j W,J k j W->∀b,b<w.heap.size->Rd b->W.heap[b]?=w.heap[b]?)/\
  (∀k j W,k<n->J k j W->w.heap.size+2<=W.heap.size->cK j w W->bD (q k) (VN j w W (J (k+1) j) (λx=>B x j)) W)/\
  (∀j W,J n j W->cK j w W->w.heap.size+2<=W.heap.size->W.heap[w.heap.size]?=some (.deferred (some []))->N .normal W)/\
  (∀ x j W,B x j W->cK j w W->w.heap.size+2<=W.heap.size->W.heap[w.heap.size]?=some (.deferred (some []))->N x W)):Ka P ok f X bD N w:=by
 obtain ⟨st,O,cap,q,n,Rd,h1,h2,h3,h4,J,B,h5,hJ,hX,h6,h7,h8,h9⟩:=h;have up:∀ {j m:Nat->Prop} {W W':World},(w.heap.size<=W.heap.size/\∀ b,j b->w.heap.size+2<=b)->W.heap.size<=W'.heap.size->(∀ b,m b->(j b\/W.heap.size<=b)/\b < W'.heap.size/\b≠w.heap.size/\b≠w.heap.size+1)->(w.heap.size<=W'.heap.size/\∀ b,m b->w.heap.size+2<=b):=λh Y o=>⟨by omega,λb hb=>by
  obtain⟨Z|Z,q2,q3,q4⟩:=o b hb
  .exact h.2 b Z
  .omega⟩
 have ok:∀{j:Nat->Prop} {W:World},(∀b,j b->w.heap.size+2<=b)->PC j w W->cK j w W:=λh o b hb=>⟨(o b hb).1,h b hb⟩;refine⟨_,st,O,cap,_,n,Rd,h1,h2,h3.i,λk _ _ args hk e=>by rw[e];exact h4 k hk,λ_ h=>h.elim,λk j W=>J k j W/\w.heap.size<=W.heap.size/\∀b,j b->w.heap.size+2<=b,λx j W=>B x j W/\w.heap.size<=W.heap.size/\∀b,j b->w.heap.size+2<=b,⟨h5,K8 _,λ_ h=>h.elim⟩,?_,?_,λk j W h=>h6 k j W h.1,?_,λj W h o=>h8 j W h.1 (ok h.2.2 o),λx j W h o=>h9 x j W h.1 (ok h.2.2 o)⟩
 .intro k j m W W' h hm o;have u:=up h.2 hm.size o;exact⟨hJ k j m W W' h.1 hm λb hb=>⟨(o b hb).1,(o b hb).2.1,u.2 b hb⟩,u⟩
 .intro k j m W W' h hm o;have u:=up h.2 hm.size o;exact⟨hX k j m W W' h.1 hm λb hb=>⟨(o b hb).1,(o b hb).2.1,u.2 b hb⟩,u⟩
 .rintro k j W _ hk rfl h Y o;have e:VN j w W (λW=>J (k+1) j W/\w.heap.size<=W.heap.size/\∀b,j b->w.heap.size+2<=b) (λx W=>B x j W/\w.heap.size<=W.heap.size/\∀b,j b->w.heap.size+2<=b)=VN j w W (J (k+1) j) λx=>B x j:=by
   funext F W1
   unfold VN;refine propext (and_congr_right λQ=>rz λU=>imp_congr_right λhm=>?_);have a1:w.heap.size<=U.heap.size:=by have:=Q.1;have:=hm.size;omega
   have e2:Wx j w U (λW=>J (k+1) j W/\w.heap.size<=W.heap.size/\∀b,j b->w.heap.size+2<=b) (λx W=>B x j W/\w.heap.size<=W.heap.size/\∀b,j b->w.heap.size+2<=b)=Wx j w U (J (k+1) j) λx=>B x j:=by
    funext x W3
    unfold Wx;refine propext (and_congr_right λV=>?_);have I:w.heap.size<=W3.heap.size:=by have:=V.1;omega
    cases x with
    |normal=>exact sA ⟨I,h.2.2⟩
    |ret=>exact sA ⟨I,h.2.2⟩
    |exit i=>exact sA ⟨I,h.2.2⟩
    |_=>exact pJ
   rw[e2]
  rw[e];exact h7 k j W hk h.1 Y (ok h.2.2 o)
variable {P:Program}{ok:Nat->Bool}{n:Nat}
def FO{l:Nat}{K j:Cont}(h:Kf P l args K w)(hk:∀v w',K v w'->j v w'):Kf P l args j w:=by
 obtain⟨f,tmps,i,body,h1,m⟩:=h;exact⟨f,tmps,i,body,h1,RoundIn.mono m λe w' ⟨v,o,q⟩=>⟨v,o,hk _ _ q⟩⟩
def Fr.fill{ds:List Deferred}{a:Act}:∀(ps:List Nat) (vs:List Value) (e:Env) (a:Act),vs.length=ps.length->Fr ds n e a->Fr ds n (Y5 n e ps vs) { a with tmps:=(ps.zip vs).foldl (λt x=>t.setIfInBounds x.1 x.2) a.tmps }:=by
 intro ps;induction ps with
 |nil=>intro vs e a _ h;exact h
 |cons p ps i=>
  intro vs e a hl h;cases vs with
  |nil=>simp at hl
  |cons v vs=>
   have:=i vs (GK n e p v) (a.put (some p) v) (by simpa using hl) (h.put (some p) v);exact this
def gF:Exit->Option Code
 |.ret=>some .ret
 |.exit i=>some (.exit i)
 |_=>none
def PD{ds:List Deferred}(aZ:Cn P ok)(hm:P.follows .mixedOrders=true){g:Operand}{ps:Array Tmp}{x y:Code}{ax ay:EM}{e:Env}{a:Act}{N:Exit->World->Prop}(hf:Fr ds n e a)
 (hx:Lt x=true)(hy:Lt y=true)
 (h:Ka P ok (ev e g) ps.size (λargs bk W=>D P ok n x ax (fk (λe' W1=>bk (λpost W2=>D P ok n y ay (λex _ Y=>post ex Y) e' W2) W1) (λ_ _ _=>False)) (Y5 n e ps.toList args) W) N w) :
  (Code.rangeFunc g ps x y).wpIn (Wd none) 0 P (λex a' w'=>Fr ({ target:=.collected w.heap.size,args:=#[] }::ds) n e a'/\N ex w') a w:=by
 obtain⟨I0,st,gf,cap,E,nn,Rd,bl,bp,ba,av,bb,J,Jx,h0,hJ,PW,JY,al,b0,b1⟩:=h;refine wpIn_rangeFunc ?_;intro fn _;have bs:a.eval g=.func (.func gf) #[] cap.toArray:=by rw[hf.eval];exact bl
 obtain⟨rec,B⟩:∃rec:LoopState->Option Code->Loop,rec=λst pe=>{ state:=st,pending:=pe,fn,tmps:=a.tmps,params:=ps,assign:=x,body:=y,defers:=w.heap.size }:=⟨_,rfl⟩;obtain⟨W1,a6⟩:∃W1,(w.alloc (.deferred (some []))).alloc (.loop (rec .ready none))=W1:=⟨_,rfl⟩;have bc:Mod (λ_=>False) w W1:=by rw[<-a6];exact(Mod.alloc _ _ _).trans (Mod.alloc _ _ _)
 have dr:W1.heap.size=w.heap.size+2:=by rw[<-a6];simp
 have bx:W1.heap[w.heap.size+1]?=some (.loop (rec .ready none)):=by
  rw[<-a6];have:=rb (w.alloc (.deferred (some []))) (.loop (rec .ready none));rwa [qI] at this
 have bZ:W1.heap[w.heap.size]?=some (.deferred (some [])):=by
  rw[<-a6];exact(pk _ _ _ (by simp)).trans (rb w _)
 refine ⟨w.heap.size+1,[{ target:=.collected w.heap.size,args:=#[] }],W1,{ target:=.fn (.func gf) cap.toArray,args:=#[.func (.yield (w.heap.size+1)) #[] #[]] },W1,gf,
  (.func (.yield (w.heap.size+1)) #[] #[] :: cap).toArray,W1,?_,?_,λ_ _=>trivial,?_,(λh=>by cases h),?_⟩
 .rw[<-a6,B];exact run_enterLoop_outer _ _ _ _ _
 .simp only[resolve,bs];simp[go_sem]
 .have:=aZ gf bp;simp[invoke,go_sem];exact this _ _
 have V:∀(M:Nat->Prop) (W:World) (b:Nat) (o:Obj),M b->Mod M W (W.putObj b o):=λM W b o hb=>
  ⟨rfl,rfl,rfl,by simp,λk _ hk=>my λe=>hk (e▸hb)⟩
 let J':Nat->(Nat->Prop)->World->Prop:=λk j W=>J k j W/\PC j w W/\w.heap.size+2<=W.heap.size/\W.heap[w.heap.size+1]?=some (.loop (rec .ready none))/\W.heap[w.heap.size]?=some (.deferred (some []))
 let c4:(Nat->Prop)->World->Prop:=λj W=>∃ex c,gF ex=some c/\Jx ex j W/\PC j w W/\w.heap.size+2<=W.heap.size/\W.heap[w.heap.size+1]?=some (.loop (rec .done (some c)))/\W.heap[w.heap.size]?=some (.deferred (some []))
 have an:∀(j Q:Nat->Prop) (W W':World),PC j w W->w.heap.size+2<=W.heap.size->(∀b,Q b->(j b\/W.heap.size<=b)/\b<W'.heap.size)->PC Q w W':=λj Q W W' h1 Iz h2 b hb=>by
  obtain⟨h3|h3,h4⟩:=h2 b hb
  .exact⟨h4,(h1 b h3).2⟩
  .exact⟨h4,by omega,by omega⟩
 have b2:=ba (w.heap.size+1) J' c4 W1 bc ⟨hJ 0 I0 I0 w W1 h0 (Grow.mod bc) (λb hb=>⟨.inl hb,by have:=bb b hb;omega⟩),λb hb=>by have:=bb b hb;omega,by omega,bx,bZ⟩
  (λk j Q W W' ⟨q1,O,q3,q4,q5⟩ I X=>⟨hJ k j Q W W' q1 (I.mono λb _ hb=>.inl hb) (λb hb=>⟨(X b hb).1,(X b hb).2,(an j Q W W' O q3 X b hb).2⟩),an j Q W W' O q3 X,by have:=I.size;omega,
   (I.same _ (by omega) λhb=>by have:=(O _ hb.2).2;omega).trans q4,(I.same _ (by omega) λhb=>by have:=(O _ hb.2).2;omega).trans q5⟩)
  (λj Q W W' ⟨ex,c,hc,q1,O,q3,q4,q5⟩ I X=>⟨ex,c,hc,PW ex j Q W W' q1 (I.mono λb _ hb=>.inl hb) (λb hb=>⟨(X b hb).1,(X b hb).2,(an j Q W W' O q3 X b hb).2⟩),an j Q W W' O q3 X,by have:=I.size;omega,
   (I.same _ (by omega) λhb=>by have:=(O _ hb.2).2;omega).trans q4,(I.same _ (by omega) λhb=>by have:=(O _ hb.2).2;omega).trans q5⟩)
  (λk j W ⟨q1,_⟩ b hb hr=>JY k j W q1 b hb hr)
  ?_
 .refine(rD.2 (og b2 ?_):CallsIn Fence.wide _ _ _ _ _ _);rintro en W2 ⟨v,rfl,j,hh⟩;have a7:Fr ({ target:=.collected w.heap.size,args:=#[] }::ds) n e { a with defers:=[{ target:=.collected w.heap.size,args:=#[] }]++a.defers }:=⟨hf.size,hf.get,by simp[hf.defers]⟩;have U:∀o,Mod (λb=>(¬st/\j b)\/b=w.heap.size\/b=w.heap.size+1) W2 (W2.putObj (w.heap.size+1) o):=λo=>V _ _ _ _ (.inr (.inr rfl));rcases hh with⟨q1,O,q3,q4,q5⟩|⟨ex,c,hc,q1,O,q3,q4,q5⟩
  .obtain⟨o,ho⟩:∃o,(Instr.endLoop (w.heap.size+1)).run P W2=.ok none (W2.putObj (w.heap.size+1) o):=⟨_,by have:=run_endLoop (P:=P) q4 (by rw[B];simp);rw[B] at this;exact this⟩;refine⟨none,_,ho,a7,?_⟩;refine b0 j _ (hJ nn j j _ _ q1 (U _) λb hb=>⟨.inl hb,by simpa using(O b hb).1,(O b hb).2⟩) (λb hb=>⟨by simpa using(O b hb).1,(O b hb).2⟩) (by simpa using q3) ((my (by omega)).trans q5)
  .obtain⟨o,ho⟩:∃o,(Instr.endLoop (w.heap.size+1)).run P W2=.ok (some c) (W2.putObj (w.heap.size+1) o):=⟨_,by have:=run_endLoop (P:=P) q4 (by rw[B];simp);rw[B] at this;exact this⟩;have key:N ex (W2.putObj (w.heap.size+1) o):=
    b1 ex j _ (PW ex j j _ _ q1 (U _) λb hb=>⟨.inl hb,by simpa using(O b hb).1,(O b hb).2⟩) (λb hb=>⟨by simpa using(O b hb).1,(O b hb).2⟩) (by simpa using q3) ((my (by omega)).trans q5)
   refine⟨some c,_,ho,?_⟩;cases ex with
   |ret=>cases hc;exact wpIn_ret ⟨a7,key⟩
   |exit i=>cases hc;exact wpIn_exit ⟨a7,key⟩
   |_=>cases hc
 .rintro k j W args hk ⟨q1,O,q3,q4,q5⟩ hE;have a8:=al k j W args hk hE q1 q3 O;have bd:=run_yield (P:=P) (args:=args.toArray) q4 (by rw[B];simpa using av k _ _ args hk hE);rw[B] at bd;refine⟨fn,_,x,y,bd,?_⟩;have a7:Fr [] n (Y5 n e ps.toList args) { tmps:=(ps.zip args.toArray).foldl (λt x=>t.setIfInBounds x.1 x.2) a.tmps,defers:=[] }:=by
   have:=Fr.fill (ds:=[]) (a:=a) ps.toList args e { a with defers:=[] } (by simpa using av k _ _ args hk hE) ⟨hf.size,hf.get,rfl⟩;have e1:(ps.zip args.toArray).foldl (λt x=>t.setIfInBounds x.1 x.2) a.tmps=(ps.toList.zip args).foldl (λt x=>t.setIfInBounds x.1 x.2) a.tmps:=by
    rw[<-Array.foldl_toList];simp
   rw[e1];exact this
  refine roundIn_of_wpIn (F:=Fence.wide) trivial ?_;refine nZ (KE (ds:=[]) (ro:=some (w.heap.size+1)) (m:=0) aZ hm x ax _ _ W _ (.inr hx) a7 a8) ?_;rintro ex a1 Wa ⟨e1,c6,_,hb⟩;cases ex with
  |normal=>
   obtain⟨⟨dk,ak,c7⟩,b6⟩:=hb;have c8:=(ak (w.heap.size+1) (.inr (.inr rfl))).trans q4;have c9:=(ak w.heap.size (.inr (.inl rfl))).trans q5;refine⟨_,run_beginRound c8 (by rw[B]),?_⟩;have ca:=b6 (Wa.putObj (w.heap.size+1) (.loop { rec .ready none with state:=.busy })) (V _ _ _ _ rfl);have cc:(Wa.putObj (w.heap.size+1) (.loop { rec .ready none with state:=.busy })).heap[w.heap.size+1]?=some (.loop { rec .ready none with state:=.busy }):=rG (by omega);have cd:(Wa.putObj (w.heap.size+1) (.loop { rec .ready none with state:=.busy })).heap[w.heap.size]?=some (.deferred (some [])):=(my (by omega)).trans c9;refine nZ (KE (ds:=[]) (ro:=some (w.heap.size+1)) (m:=0) aZ hm y ay _ e1 _ _ (.inr hy) c6 ca) ?_;rintro ex a3 Y ⟨e3,dA,_,⟨ch,b7,cu⟩,hp⟩;have Iz:Wa.heap.size<=Y.heap.size:=by simpa using ch
   have cx:=(b7 (w.heap.size+1) (.inr (.inr rfl))).trans cc;have da:=(b7 w.heap.size (.inr (.inl rfl))).trans cd;have fin:∀(q:Option Code),(Instr.endRound (w.heap.size+1) q).run P Y=.ok (.bool q.isNone) (Y.putObj (w.heap.size+1) (.loop (rec (if q.isNone then .ready else .done) q)))/\
     (Y.putObj (w.heap.size+1) (.loop (rec (if q.isNone then .ready else .done) q))).heap[w.heap.size+1]?=some (.loop (rec (if q.isNone then .ready else .done) q))/\
     (Y.putObj (w.heap.size+1) (.loop (rec (if q.isNone then .ready else .done) q))).heap[w.heap.size]?=some (.deferred (some [])):=λq=>by
    have:=run_endRound (P:=P) q cx;rw[B] at this ⊢;exact⟨this,rG (by omega),(my (by omega)).trans da⟩
   have b8:∀(o:Obj) b,j b->(Y.putObj (w.heap.size+1) o).heap[b]?=W.heap[b]?:=λo b hb=>by
    have h2:=(O b hb).2;rw[my (by omega),b7 b (.inl hb),my (by omega),ak b (.inl hb)]
   have qt:∀(o:Obj),Quiet W (Y.putObj (w.heap.size+1) o):=λo=>c7.trans cu;have Z:∀(o:Obj),PC j w (Y.putObj (w.heap.size+1) o):=λo b hb=>⟨by have:=(O b hb).1;simp;omega,(O b hb).2⟩;have b9:∀(o:Obj) b,j b->(j b\/Y.heap.size<=b)/\b<(Y.putObj (w.heap.size+1) o).heap.size/\b≠w.heap.size/\b≠w.heap.size+1:=λo b hb=>⟨.inl hb,(Z o b hb).1,(O b hb).2⟩;have U:∀o,Mod (λb=>(¬st/\j b)\/b=w.heap.size\/b=w.heap.size+1) Y (Y.putObj (w.heap.size+1) o):=λo=>V _ _ _ _ (.inr (.inr rfl));cases ex with
   |normal=>
    obtain⟨f1,f2,f3⟩:=fin none;exact⟨_,_,f1,_,rfl,by simp;omega,b8 _,qt _,.inl ⟨rfl,hJ _ j j _ _ hp (U _) (b9 _),Z _,by simp;omega,f2,f3⟩⟩
   |ret=>
    obtain⟨f1,f2,f3⟩:=fin (some .ret);exact⟨_,_,f1,_,rfl,by simp;omega,b8 _,qt _,.inr ⟨rfl,.ret,.ret,rfl,PW .ret j j _ _ hp (U _) (b9 _),Z _,by simp;omega,f2,f3⟩⟩
   |exit i=>
    obtain⟨f1,f2,f3⟩:=fin (some (.exit i));exact⟨_,_,f1,_,rfl,by simp;omega,b8 _,qt _,.inr ⟨rfl,.exit i,.exit i,rfl,PW (.exit i) j j _ _ hp (U _) (b9 _),Z _,by simp;omega,f2,f3⟩⟩
   |_=>exact hp.elim
  |_=>exact hb.elim
def T0:List (Nat×(World->Prop))->Nat->World->Prop
 |[],_,_=>False
 |(j,N)::r,i,w=>bif Nat.beq i j then N w else T0 r i w
def iw(j m:World->Prop)(L:List (Nat×(World->Prop)))(x:Exit)(w:World):Prop:=match x with
 |.normal=>j w | .ret=>m w | .exit i=>T0 L i w | _=>False
def Vl{Q:Nat->World->Prop}{i:Nat}:∀{L:List Nat},T0 (L.map λi=>(i,Q i)) i w->Q i w:=by
 intro L;induction L with
 |nil=>intro h;exact h.elim
 |cons j L m=>
  intro h;simp only[lO,T0] at h;cases hb:Nat.beq i j with
  |true=>rw[hb] at h;have:=lZ hb;subst this;exact h
  |false=>rw[hb] at h;exact m h
def OS:Code->Bool
 |.rangeFunc ..=>true
 |.seq a b=>OS a||OS b
 |.block _ a=>OS a
 |_=>false
def bX(id:Nat)(Q:EQ):EQ:=λex e w=>match ex with
 |.exit i=>bif Nat.beq i id then False else Q (.exit i) e w
 |.normal=>Q .normal e w | .ret=>Q .ret e w | .goto l=>Q (.goto l) e w | .panic c=>Q (.panic c) e w | .outgrown=>Q .outgrown e w
variable (P ok n)
def DM:Code->EM->(Nat->EQ)->EQ->Env->World->Prop
 |.seq x y,j,Q,o,e,w=>match j with
  |.node _ _ a b=>bif OS x then(bif Lt y then DM x a (λm=>fk (λe' w'=>D P ok n y b (Q m) e' w') (Q m)) o e w else False)
    else D P ok n x a (fk (λe' w'=>DM y b Q o e' w') o) e w
  |_=>False
 |.block id x,j,Q,o,e,w=>DM x j (λm=>ib id (Q m)) (bX id o) e w
 |.rangeFunc g ps x y,j,Q,_,e,w=>match j with
  |.node L _ B I=>bif Lt x&&Lt y then Ka P ok (ev e g) ps.size (λargs q W=>D P ok n x B (fk (λe' J=>q (λpost O=>D P ok n y I (λex _ U=>post ex U) e' O) J) (λ_ _ _=>False)) (Y5 n e ps.toList args) W) (iw (λW=>Q w.heap.size .normal e W) (λW=>Q w.heap.size .ret e W) (L.map λi=>(i,λW=>Q w.heap.size (.exit i) e W))) w else False
  |_=>False
 |_,_,_,_,_,_=>False
variable {P ok n}
def liftM(n:Nat)(Q:Nat->EQ)(i:EQ):Exit->Act->World->Prop:=λex a w=>
 (ex≠.normal/\∃e,Fr [] n e a/\i ex e w)\/∃m e,Fr [{ target:=.collected m,args:=#[] }] n e a/\Q m ex e w
def Xi(B:Cn P ok)(hm:P.follows .mixedOrders=true):∀(c:Code) (q:EM) (Q:Nat->EQ) (I:EQ) (e:Env) (w:World) (a:Act),Fr [] n e a->DM P ok n c q Q I e w->c.wpIn (Wd none) 0 P (liftM n Q I) a w:=by
 intro c;induction c with
 |seq x y U V=>
  intro q Q I e w a J h;cases q with
  |node L W X Y=>
   simp only[DM] at h;cases hr:OS x with
   |true=>
    simp only[hr,lp] at h;cases Z:Lt y with
    |false=>simp only[Z,lj] at h
    |true=>
     simp only[Z,lp] at h;refine wpIn_seq (nZ (U X _ _ e w a J h) ?_);rintro ex O w' (⟨o,e',h1,j⟩|⟨m,e',h1,j⟩)
     .cases ex with
      |normal=>exact absurd rfl o
      |_=>exact .inl ⟨o,e',h1,j⟩
     .cases ex with
      |normal=>
       refine nZ (KE (ro:=none) (m:=0) B hm y Y _ e' w' O (.inr Z) h1 j) ?_;rintro ex a7 a8 ⟨a6,h4,_,h6⟩;exact .inr ⟨m,a6,h4,h6⟩
      |_=>exact .inr ⟨m,e',h1,j⟩
   |false=>
    simp only[hr,lj] at h;refine wpIn_seq (nZ (KE (ds:=[]) (ro:=none) (m:=0) B hm x X _ e w a (.inl rfl) J h) ?_);rintro ex O w' ⟨e',h1,_,j⟩;cases ex with
    |normal=>exact V Y Q I e' w' O h1 j
    |_=>exact .inl ⟨by simp,e',h1,j⟩
  |_=>exact h.elim
 |block id x ih=>
  intro q Q I e w a J h;simp only[DM] at h;refine wpIn_block (nZ (ih q _ _ e w a J h) ?_);rintro ex O w' (⟨o,e',h1,j⟩|⟨m,e',h1,j⟩)
  .cases ex with
   |exit i=>
    simp only[bX] at j;simp only[Exit.inBlock];cases hb:Nat.beq i id with
    |true=>rw[hb] at j;exact j.elim
    |false=>
     rw[hb] at j;rw[Bp (by intro e1;subst e1;simp at hb)];exact .inl ⟨by simp,e',h1,j⟩
   |normal=>exact absurd rfl o
   |_=>exact .inl ⟨by simp,e',h1,j⟩
  .cases ex with
   |exit i=>
    simp only[ib] at j;simp only[Exit.inBlock];cases hb:Nat.beq i id with
    |true=>rw[hb] at j;rw[DN (lZ hb)];exact .inr ⟨m,e',h1,j⟩
    |false=>
     rw[hb] at j;rw[Bp (by intro e1;subst e1;simp at hb)];exact .inr ⟨m,e',h1,j⟩
   |_=>exact .inr ⟨m,e',h1,j⟩
 |rangeFunc g ps x y _ _=>
  intro q Q I e w a J h;cases q with
  |node L W X Y=>
   simp only[DM] at h;cases hb:(Lt x&&Lt y) with
   |false=>simp only[hb,lj] at h
   |true=>
    simp only[hb,lp] at h;simp only[gC] at hb;refine nZ (PD B hm J hb.1 hb.2 h) ?_;rintro ex O w' ⟨h1,j⟩;refine .inr ⟨_,e,h1,?_⟩;cases ex with
    |normal=>exact j
    |ret=>exact j
    |exit i=>exact Vl (Q:=λi W=>Q w.heap.size (.exit i) e W) j
    |_=>exact j.elim
  |_=>exact h.elim
 |_=>intro q Q I e w a J h;exact h.elim
end
section
variable {P:Program}{ok:Nat->Bool}{n:Nat}
def Lr(m:Nat)(K:World->Prop)(w:World):Prop:=w.heap[m]?=some (.deferred (some []))/\K (w.putObj m (.deferred none))
def dL(P:Program)(m:Nat)(rs:List ResultVar)(K:Cont):EQ:=λex e w=>match ex with
 |.normal=>Lr m (λw=>LS P rs e w λvs=>K (SD vs) w) w
 |.ret=>Lr m (λw=>LS P rs e w λvs=>K (SD vs) w) w
 |_=>False
def Um{g:Nat}{fn:Func}{c:Code}{rs:List ResultVar}{O:EM}(j:Cn P ok)(hm:P.follows .mixedOrders=true)(U:P.funcs[g]?=some fn)
 (hb:fn.body=some c)(V:fn.ntmps=n)(o:fn.results.toList=rs)(hl:Nat.ble args.length n=true)(h:DM P ok n c O (λm=>dL P m rs K) (Sv P rs K) (nth args) w):AB P g args K w:=by
 refine rD.1 (callsIn_of_wp_marks (F:=Fence.wide) (n:=0) U hb trivial ?_);have q:=mq hl;subst V o;refine nZ (Xi j hm c O _ _ _ w _ (TL q) h) ?_;rintro ex Q w' (⟨B,e,h1,i⟩|⟨m,e,h1,i⟩)
 .cases ex with
  |normal=>exact absurd rfl B
  |ret=>
   obtain⟨v,I,J⟩:=Gi h1 i;show LeavesInM _ _ _ _ _ _ _ _ _;rw[h1.defers];exact⟨v,I,v,rfl,J⟩
  |_=>exact i.elim
 .have key:∀(i:Lr m (λw=>LS P fn.results.toList e w λvs=>K (SD vs) w) w'),LeavesInM Fence.wide 0 P fn Q.tmps (λe w'=>∃v,e=.returned v/\K v w') Q.defers .returning w':=by
   rintro⟨X,I⟩;obtain⟨v,J,Y⟩:=Gi h1 I;rw[h1.defers];exact⟨by simp,.inl ⟨_,_,rfl,run_takeDeferred X,v,J,v,rfl,Y⟩⟩
  cases ex with
  |normal=>exact key i
  |ret=>exact key i
  |_=>exact i.elim
end
section
def E8:Code->Bool
 |.rangeFunc ..=>true
 |.seq a b=>E8 a||E8 b
 |.cond _ a b=>E8 a||E8 b
 |.block _ a=>E8 a
 |.loop a=>E8 a
 |.scope a=>E8 a
 |_=>false
def ZG(i:List Value)(m:List Nat)(F:List Value->List Nat->(List Value->List Nat->World->Prop)->World->Prop)(w:World):Prop:=
 ∃(I:List Value->List Nat->World->Prop) (μ:List Value->World->Nat),I i m w/\∀vs m w,I vs m w->F vs m (λj o w'=>I j o w'/\μ j w'<μ vs w) w
section
variable (P:Program)(ok:Nat->Bool)(n:Nat)
end
variable {P:Program}{ok:Nat->Bool}{n:Nat}
def Md:List Nat->(World->Prop)->World->Prop
 |[],K,w=>K w
 |m::i,K,w=>w.heap[m]?=some (.deferred (some []))/\Md i K (w.putObj m (.deferred none))
end
set_option linter.unusedVariables false
structure Pr (T:Type) where
 Hu:T
 jZ:T->T->T
 Zl:(Env->T)->T
 jd:(World->Prop)->(World->T)->T
 jH:(Nat->Nat->Prop)->Nat->World->World->T->T
 jx:World->World
 Iz:World->Nat
 un:Value
 c:{i1:Value}->Value
 ci:IntKind->Nat->Value
 cn:IntKind->Nat->Value
 arr:List Value->Array Value
 iF:Bool->Bool
 nt:List Value->Nat->Value
 AZ:Value->T->T->T
 JA:Value->Value->Value->(Value->T)->T
 Bt:TypeId->List Value->(Value->World->T)->World->T
 KH:TypeId->Value->(Value->World->T)->World->T
 Gf:TypeId->Value->(Value->World->T)->World->T
 Ay:Value->(Value->World->T)->World->T
 CX:Nat->Value->(Value->World->T)->World->T
 CB:Value->Value->(World->T)->World->T
 BP:Nat->Value->Value->(World->T)->World->T
 Af:Value->(Value->T)->T
 CW:IntKind->Value->Value->(Value->T)->T
 DR:IntKind->Value->Value->(Value->T)->T
 UE:IntKind->Value->Value->(Value->T)->T
 GI:IntKind->Value->Value->(Value->T)->T
 Xn:IntKind->Value->Value->(Value->T)->T
 T8:IntKind->Value->Value->(Value->T)->T
 Rh:IntKind->Value->Value->(Value->T)->T
 Nw:IntKind->Value->Value->(Value->T)->T
 PH:IntKind->Value->Value->(Value->T)->T
 LV:IntKind->Value->Value->(Value->T)->T
 MI:IntKind->Value->Value->(Value->T)->T
 Ue:Value->Value->(Value->T)->T
 UQ:Value->Value->(Value->T)->T
 UN:Value->Value->(Value->T)->T
 Vz:Value->Value->(Value->T)->T
 Jf:Value->(Bool->T)->T
 Ge:Value->(Bool->T)->T
 Ke:Value->(Value->T)->T
 BC:Nat->Value->(Value->T)->T
 Ip:Nat->Value->Value->(Value->T)->T
 CV:List (Nat×Nat)->List Value->List (Nat×Value)->(Value->T)->T
 Dg:TypeId->Nat->Nat->List Value->List (Nat×Value)->(Value->World->T)->World->T
 Ag:Nat->Value->(Value->T)->T
 Dr:Value->(Value->T)->T
 MT:Value->(Value->T)->T
 AB:Nat->List Value->(Value->World->T)->World->T
 Tj:Nat->List Value->(Value->World->T)->World->T
 BF:Value->List Value->(Value->World->T)->World->T
 Cs:Value->List Value->(Value->World->T)->World->T
 runK:Sem Value->(Value->World->T)->World->T
 T9:Sem Value->(Value->T)->T
 DQ:(Addr->Value->Prop)->Value->(Value->T)->T
 GD:(Addr->Value->Prop)->Nat->Value->(Value->T)->T
 HS:(World->Prop)->Value->(Value->T)->T
 NH:(World->Prop)->Nat->Value->(Value->T)->T
 Ml:(World->Prop)->Nat->List Value->(Value->T)->T
 TZ:(World->Prop)->Nat->List Value->(Value->T)->T
 IX:(World->Prop)->Sem Value->(Value->T)->T
 Jt:World->((World->Prop)->T)->T
 CM:List Nat->List (List Nat)->World->((Nat->Nat->Prop)->(Nat->Addr->Value->Prop)->T)->T
 FK:List Value->(List Value->(List Value->World->T)->World->T)->World->T
 Cl:(List Value->World->T)->((List Value->World->T)->T)->T
 ZG:List Value->List Nat->(List Value->List Nat->(List Value->List Nat->World->T)->World->T)->World->T
 Ka:Value->Nat->(List Value->(((Exit->World->T)->World->T)->World->T)->World->T)->(Exit->World->T)->World->T
 iw:(World->T)->(World->T)->List (Nat×(World->T))->Exit->World->T
 Lr:Nat->(World->T)->World->T
 Md:List Nat->(World->T)->World->T
 fG:{i1:BinOp}->{i2:TypeId}->{i3 i4:Operand}->Value->Value->Sem Value
 kI:{i1:UnOp}->Value->Sem Value
 kG:{i1:TypeId}->Value->Value->Sem Value
 fZ:{i1:TypeId}->List (Nat×Value)->Sem Value
 dj:{i1 i2:TypeId}->Value->Sem Value
 Y4:{i1:TypeId}->Value->Option Value->Option Value->Option Value->Sem Value
 eg:{i1:TypeId}->{i2:Nat}->Value->Sem Value
 eE:{i1:TypeId}->Value->Value->Sem Value
 fi:{i1:TypeId}->Option Value->Sem Value
 iq:{i1:TypeId}->Value->Value->Sem Value
 iA:{i1:TypeId}->Value->Sem Value
 iB:{i1:TypeId}->{i2:Bool}->Value->Value->Sem Value
 Xr:{i1:TypeId}->Value->Value->Value->Sem Value
 aU:{i1:TypeId}->Value->Value->Sem Value
 eO:{i1:TypeId}->Value->Value->Value->Sem Value
 du:{i1:TypeId}->Value->Sem Value
 gk:{i1:Bool}->{i2:TypeId}->Value->Sem Value
 eU:Value->Sem Value
 iJ:{i1 i2:TypeId}->{i3:Bool}->Value->Sem Value
 jQ:{i1:Array TypeId}->{i2:TypeId}->Value->Sem Value
 bR:{i1:Array TypeId}->{i2:TypeId}->List Value->Sem Value
 gz:{i1:Array TypeId}->{i2:TypeId}->List Value->Sem Value
 jc:{i1:Array TypeId}->{i2:TypeId}->List Value->Sem Value
 jb:{i1:Array TypeId}->{i2:TypeId}->List Value->Sem Value
 jK:{i1:Array TypeId}->{i2:TypeId}->List Value->Sem Value
 fT:{i1:Array TypeId}->{i2:TypeId}->List Value->Sem Value
 bA:{i1:Array TypeId}->{i2:TypeId}->List Value->Sem Value
def gJ(n:Nat):Int:=n
def AF(n:Nat):gJ (no_index (OfNat.ofNat n))=(OfNat.ofNat n:Int):=rfl
inductive Tg where
 |b (x:Bool)
 |v (x:Value)
abbrev TE:=Nat->Tg
abbrev KN:=List (Nat×Option Bool)
def Tg.val:Tg->Value|.b x=>.bool x|.v x=>x
section
variable {T:Type}(p:Pr T)(P:Program)(ok:Nat->Bool)
def jt(v:Value):Tg:=match v with
 |.bool b=>.b b
 |.int k i=>match i with | .ofNat n=>.v (p.ci k n) | .negSucc n=>.v (p.cn k (n+1))
 |w=>.v (p.c (i1:=w))
def UF(e:TE)(x:Operand):Tg:=match x with
 |.tmp t=>e t
 |.const v=>jt p v
 |.global g=>.v (.pointer (some ⟨g,0,none⟩))
 |.func g=>.v (.func (.func g) (p.arr []) (p.arr []))
def I7(e:TE)(d:Option Nat)(v:Tg):TE:=match d with|some i=>λj=>bif Nat.beq j i then v else e j|none=>e
def Si:List Oper->Nat->Nat
 |o::_,0=>match o.dst with | some d=>d | none=>0
 |_::r,j+1=>Si r j
 |[],_=>0
def jq:List Oper->Nat->Option Oper
 |o::_,0=>some o
 |_::r,j+1=>jq r j
 |[],_=>none
def jN(z:Value):List Value:=z.cells.toList.map λv=>(jt p v).val
def fI(op:BinOp)(t:TypeId)(yo:Operand)(x y:Value)(K:Value->T)(F:T):T:=
 match P.underlying t with
 |some (.int k)=>match op with
  |.add=>p.CW k x y K | .sub=>p.DR k x y K | .mul=>p.UE k x y K
  |.lss=>p.GI k x y K | .leq=>p.Xn k x y K | .gtr=>p.T8 k x y K | .geq=>p.Rh k x y K
  |.eql=>p.Nw k x y K | .neq=>p.PH k x y K
  |_=>F
 |some .bool=>match op with
  |.eql=>p.Ue x y K | .neq=>p.UQ x y K
  |_=>F
 |some .string=>match op with
  |.eql=>p.UN x y K | .neq=>p.Vz x y K
  |_=>F
 |some (.slice _)=>bif Mt yo then match op with
   |.eql=>p.Jf x λb=>K (.bool b)
   |.neq=>p.Jf x λb=>K (.bool (p.iF b))
   |_=>F
  else F
 |some (.pointer _)=>bif Mc yo then match op with
   |.eql=>p.Ge x λb=>K (.bool b)
   |.neq=>p.Ge x λb=>K (.bool (p.iF b))
   |_=>F
  else F
 |_=>F
def pop(J:Bool)(o:Oper)(ρ:Operand->Tg)(K:Tg->World->T)(w:World):T:=
 match o.op with
 |.move x=>K (ρ x) w
 |.assign x=>K (ρ x) w
 |.pick c a b=>match ρ c with
  |.b true=>K (ρ a) w
  |.b false=>K (ρ b) w
  |.v x=>p.JA x (ρ a).val (ρ b).val λv=>K (.v v) w
 |.alloc t=>match zeroOf P t with | some z=>p.Bt t (jN p z) (λv w=>K (.v v) w) w | none=>p.Hu
 |.box t x=>match Ex P t with | some (false,_)=>p.KH t (ρ x).val (λv w=>K (.v v) w) w | some (true,_)=>p.Gf t (ρ x).val (λv w=>K (.v v) w) w | none=>p.Hu
 |.load t x=>match Ex P t with | some (false,_)=>p.Ay (ρ x).val (λv w=>K (.v v) w) w | some (true,k)=>p.CX k (ρ x).val (λv w=>K (.v v) w) w | none=>p.Hu
 |.store t a x=>match Ex P t with
  |some (false,_)=>p.CB (ρ a).val (ρ x).val (λw=>K (.v p.un) w) w
  |some (true,k)=>p.BP k (ρ a).val (ρ x).val (λw=>K (.v p.un) w) w
  |none=>p.Hu
 |.nilCheck x=>p.Af (ρ x).val λv=>K (.v v) w
 |.binOp op t x y _=>fI p P op t y (ρ x).val (ρ y).val (λv=>K (.v v) w) (p.runK (p.fG (i1:=op) (i2:=t) (i3:=x) (i4:=y) (ρ x).val (ρ y).val) (λv w=>K (.v v) w) w)
 |.unOp op _ x=>match op with
  |.not=>p.Ke (ρ x).val λv=>K (.v v) w
  |o=>p.runK (p.kI (i1:=o) (ρ x).val) (λv w=>K (.v v) w) w
 |.fieldAddr s x f=>match P.underlying s with
  |some (.struct B)=>match B.toList[f]? with
   |some f=>p.BC f.offset (ρ x).val λv=>K (.v v) w
   |none=>p.Hu
  |_=>p.Hu
 |.indexAddr t x i=>match P.underlying t with
  |some (.slice e)=>match P.info? e with | some f=>p.Ip f.size (ρ x).val (ρ i).val λv=>K (.v v) w | none=>p.Hu
  |_=>p.runK (p.kG (i1:=t) (ρ x).val (ρ i).val) (λv w=>K (.v v) w) w
 |.build t j=>match P.underlying t with
  |some (.struct B)=>match zeroOf P t with
   |some z=>match placesOf P B.toList with
    |some l=>p.CV l (jN p z) (j.toList.map λq=>(q.1,(ρ q.2).val)) λv=>K (.v v) w
    |none=>p.Hu
   |none=>p.Hu
  |_=>p.runK (p.fZ (i1:=t) (j.toList.map λq=>(q.1,(ρ q.2).val))) (λv w=>K (.v v) w) w
 |.buildSlice t len j=>match P.underlying t with
  |some (.slice e)=>match P.info? e with
   |some i=>bif Nat.blt 0 (len*i.size) then
     match i.zero with|some z=>p.Dg e i.size len (jN p z) (j.toList.map λq=>(q.1,(ρ q.2).val)) (λv w=>K (.v v) w) w|none=>p.Hu
    else p.Dg e i.size len [] (j.toList.map λq=>(q.1,(ρ q.2).val)) (λv w=>K (.v v) w) w
   |none=>p.Hu
  |_=>p.Hu
 |.extract t i=>p.Ag i (ρ t).val λv=>K (.v v) w
 |.makeFunc fn I cap=>K (.v (.func fn (p.arr (I.toList.map λx=>(ρ x).val)) (p.arr (cap.toList.map λx=>(ρ x).val)))) w
 |.convert s d x=>p.runK (p.dj (i1:=s) (i2:=d) (ρ x).val) (λv w=>K (.v v) w) w
 |.slice t x lo hi mx=>p.runK (p.Y4 (i1:=t) (ρ x).val (lo.map λx=>(ρ x).val) (hi.map λx=>(ρ x).val) (mx.map λx=>(ρ x).val)) (λv w=>K (.v v) w) w
 |.field t x f=>p.runK (p.eg (i1:=t) (i2:=f) (ρ x).val) (λv w=>K (.v v) w) w
 |.index t x i=>p.runK (p.eE (i1:=t) (ρ x).val (ρ i).val) (λv w=>K (.v v) w) w
 |.makeMap t r=>p.runK (p.fi (i1:=t) (r.map λx=>(ρ x).val)) (λv w=>K (.v v) w) w
 |.makeSlice t l c=>p.runK (p.iq (i1:=t) (ρ l).val (ρ c).val) (λv w=>K (.v v) w) w
 |.makeInterface t x=>p.runK (p.iA (i1:=t) (ρ x).val) (λv w=>K (.v v) w) w
 |.lookup t x i b=>p.runK (p.iB (i1:=t) (i2:=b) (ρ x).val (ρ i).val) (λv w=>K (.v v) w) w
 |.mapUpdate t m k x=>p.runK (p.Xr (i1:=t) (ρ m).val (ρ k).val (ρ x).val) (λv w=>K (.v v) w) w
 |.insert t m k x=>p.runK (p.Xr (i1:=t) (ρ m).val (ρ k).val (ρ x).val) (λv w=>K (.v v) w) w
 |.mapEntry t m k=>p.runK (p.aU (i1:=t) (ρ m).val (ρ k).val) (λv w=>K (.v v) w) w
 |.entryStore t m s x=>p.runK (p.eO (i1:=t) (ρ m).val (ρ s).val (ρ x).val) (λv w=>K (.v v) w) w
 |.range t x=>p.runK (p.du (i1:=t) (ρ x).val) (λv w=>K (.v v) w) w
 |.next it s=>p.runK (p.gk (i1:=s) (i2:=o.type) (ρ it).val) (λv w=>K (.v v) w) w
 |.entry it=>p.runK (p.eU (ρ it).val) (λv w=>K (.v v) w) w
 |.typeAssert x O at_ b=>p.runK (p.iJ (i1:=O) (i2:=at_) (i3:=b) (ρ x).val) (λv w=>K (.v v) w) w
 |.call c=>match c.callee with
  |.value f=>match f with
   |.func g=>bif ok g then p.AB g (c.args.toList.map λx=>(ρ x).val) (λv w=>K (.v v) w) w else p.Tj g (c.args.toList.map λx=>(ρ x).val) (λv w=>K (.v v) w) w
   |f=>bif J then p.BF (ρ f).val (c.args.toList.map λx=>(ρ x).val) (λv w=>K (.v v) w) w else p.Cs (ρ f).val (c.args.toList.map λx=>(ρ x).val) (λv w=>K (.v v) w) w
  |.builtin b=>match b with
   |.len=>match c.argTypes.toList,c.args.toList with
    |[t],[x]=>match P.underlying t with
     |some (.slice _)=>p.Dr (ρ x).val λv=>K (.v v) w
     |some .string=>p.MT (ρ x).val λv=>K (.v v) w
     |_=>p.runK (p.jQ (i1:=c.argTypes) (i2:=o.type) (ρ x).val) (λv w=>K (.v v) w) w
    |_,_=>p.Hu
   |.append=>p.runK (p.bR (i1:=c.argTypes) (i2:=o.type) (c.args.toList.map λx=>(ρ x).val)) (λv w=>K (.v v) w) w
   |.copy=>p.runK (p.gz (i1:=c.argTypes) (i2:=o.type) (c.args.toList.map λx=>(ρ x).val)) (λv w=>K (.v v) w) w
   |.cap=>p.runK (p.jc (i1:=c.argTypes) (i2:=o.type) (c.args.toList.map λx=>(ρ x).val)) (λv w=>K (.v v) w) w
   |.max=>match P.underlying o.type,c.args.toList with
    |some (.int k),[x,y]=>p.LV k (ρ x).val (ρ y).val λv=>K (.v v) w
    |_,_=>p.runK (p.jb (i1:=c.argTypes) (i2:=o.type) (c.args.toList.map λx=>(ρ x).val)) (λv w=>K (.v v) w) w
   |.min=>match P.underlying o.type,c.args.toList with
    |some (.int k),[x,y]=>p.MI k (ρ x).val (ρ y).val λv=>K (.v v) w
    |_,_=>p.runK (p.jK (i1:=c.argTypes) (i2:=o.type) (c.args.toList.map λx=>(ρ x).val)) (λv w=>K (.v v) w) w
   |.clear=>p.runK (p.fT (i1:=c.argTypes) (i2:=o.type) (c.args.toList.map λx=>(ρ x).val)) (λv w=>K (.v v) w) w
   |.delete=>p.runK (p.bA (i1:=c.argTypes) (i2:=o.type) (c.args.toList.map λx=>(ρ x).val)) (λv w=>K (.v v) w) w
   |_=>p.Hu
  |_=>p.Hu
 |_=>p.Hu
def jT(C:World->Prop)(o:Oper)(ρ:Operand->Tg)(K:Tg->World->T)(w:World):T:=
 match o.op with
 |.load t x=>match Ex P t with | some (false,_)=>p.HS C (ρ x).val λv=>K (.v v) w | some (true,k)=>p.NH C k (ρ x).val λv=>K (.v v) w | none=>p.Hu
 |.binOp op t x y _=>fI p P op t y (ρ x).val (ρ y).val (λv=>K (.v v) w) (p.IX C (p.fG (i1:=op) (i2:=t) (i3:=x) (i4:=y) (ρ x).val (ρ y).val) (λv=>K (.v v) w))
 |.convert s d x=>p.IX C (p.dj (i1:=s) (i2:=d) (ρ x).val) (λv=>K (.v v) w)
 |.slice t x lo hi mx=>p.IX C (p.Y4 (i1:=t) (ρ x).val (lo.map λx=>(ρ x).val) (hi.map λx=>(ρ x).val) (mx.map λx=>(ρ x).val)) (λv=>K (.v v) w)
 |.call c=>match c.callee with
  |.value f=>match f with
   |.func g=>bif ok g then p.Ml C g (c.args.toList.map λx=>(ρ x).val) (λv=>K (.v v) w) else p.TZ C g (c.args.toList.map λx=>(ρ x).val) (λv=>K (.v v) w)
   |_=>p.Hu
  |_=>pop p P ok true o ρ K w
 |_=>pop p P ok true o ρ K w
def jF(Ax:List Nat)(M:Nat->Nat->Prop)(j:Nat->Addr->Value->Prop)(i:Nat)(o:Oper)(ρ:Operand->Tg)(K:Tg->World->T)(w:World):T:=
 bif Dy Ax i then pop p P ok true o ρ (λv m=>p.jH M i w m (K v m)) w
 else match o.op with
 |.load t x=>match Ex P t with | some (false,_)=>p.DQ (j i) (ρ x).val λv=>K (.v v) w | some (true,k)=>p.GD (j i) k (ρ x).val λv=>K (.v v) w | none=>p.Hu
 |.binOp op t x y _=>fI p P op t y (ρ x).val (ρ y).val (λv=>K (.v v) w) (p.T9 (p.fG (i1:=op) (i2:=t) (i3:=x) (i4:=y) (ρ x).val (ρ y).val) (λv=>K (.v v) w))
 |_=>pop p P ok true o ρ K w
def V9(X:Oper->(Operand->Tg)->(Tg->World->T)->World->T)(all:List Oper)(K:TE->World->T):List Oper->Nat->KN->TE->World->T
 |[],_,_,e,w=>K e w
 |o::r,i,kn,e,w=>match o.guard with
  |none=>X o (UF p e) (λv w=>V9 X all K r (i+1) kn (I7 e o.dst v) w) w
  |some (j,m)=>match FJ kn j with
   |some (some b)=>bif LJ b m then X o (UF p e) (λv w=>V9 X all K r (i+1) kn (I7 e o.dst v) w) w
     else V9 X all K r (i+1) ((i,none)::kn) (I7 e o.dst (.v p.un)) w
   |some none=>V9 X all K r (i+1) ((i,none)::kn) (I7 e o.dst (.v p.un)) w
   |none=>match e (Si all j) with
    |.b b=>bif LJ b m then X o (UF p e) (λv w=>V9 X all K r (i+1) ((j,some b)::kn) (I7 e o.dst v) w) w
      else V9 X all K r (i+1) ((i,none)::(j,some b)::kn) (I7 e o.dst (.v p.un)) w
    |.v v=>p.AZ v
      (bif m then X o (UF p (I7 e (some (Si all j)) (.b true))) (λv w=>V9 X all K r (i+1) ((j,some true) :: kn) (I7 (I7 e (some (Si all j)) (.b true)) o.dst v) w) w
       else V9 X all K r (i+1) ((i,none) :: (j,some true) :: kn) (I7 (I7 e (some (Si all j)) (.b true)) o.dst (.v p.un)) w)
      (bif m then V9 X all K r (i+1) ((i,none) :: (j,some false) :: kn) (I7 (I7 e (some (Si all j)) (.b false)) o.dst (.v p.un)) w
       else X o (UF p (I7 e (some (Si all j)) (.b false))) (λv w=>V9 X all K r (i+1) ((j,some false) :: kn) (I7 (I7 e (some (Si all j)) (.b false)) o.dst v) w) w)
def VY(X:Nat->Oper->(Operand->Tg)->(Tg->World->T)->World->T)(all:List Oper)(K:TE->World->T):Ord->KN->TE->World->T
 |.nil,_,e,w=>K e w
 |.br a b,kn,e,w=>p.jZ (VY X all K a kn e w) (VY X all K b kn e w)
 |.op i r,kn,e,w=>match jq all i with
  |none=>p.Hu
  |some o=>match o.guard with
  |none=>X i o (UF p e) (λv w=>VY X all K r kn (I7 e o.dst v) w) w
  |some (j,m)=>match FJ kn j with
   |some (some b)=>bif LJ b m then X i o (UF p e) (λv w=>VY X all K r kn (I7 e o.dst v) w) w
     else VY X all K r ((i,none)::kn) (I7 e o.dst (.v p.un)) w
   |some none=>VY X all K r ((i,none)::kn) (I7 e o.dst (.v p.un)) w
   |none=>match e (Si all j) with
    |.b b=>bif LJ b m then X i o (UF p e) (λv w=>VY X all K r ((j,some b)::kn) (I7 e o.dst v) w) w
      else VY X all K r ((i,none)::(j,some b)::kn) (I7 e o.dst (.v p.un)) w
    |.v v=>p.AZ v
      (bif m then X i o (UF p (I7 e (some (Si all j)) (.b true))) (λv w=>VY X all K r ((j,some true) :: kn) (I7 (I7 e (some (Si all j)) (.b true)) o.dst v) w) w
       else VY X all K r ((i,none) :: (j,some true) :: kn) (I7 (I7 e (some (Si all j)) (.b true)) o.dst (.v p.un)) w)
      (bif m then VY X all K r ((i,none) :: (j,some false) :: kn) (I7 (I7 e (some (Si all j)) (.b false)) o.dst (.v p.un)) w
       else X i o (UF p (I7 e (some (Si all j)) (.b false))) (λv w=>VY X all K r ((j,some false) :: kn) (I7 (I7 e (some (Si all j)) (.b false)) o.dst v) w) w)
def js:List Nat->Nat->List Value->Nat->Tg->Tg
 |[],_,_,_,d=>d
 |l::L,k,vs,j,d=>bif Nat.beq l j then .v (p.nt vs k) else js L (k+1) vs j d
def iy(L:List Nat)(W:List (Nat×Nat))(vs:List Value)(h:Env)(e:TE):TE:=λj=>js p L 0 vs j (bif fY W j then .v (h j) else e j)
abbrev PQ(T:Type):=Exit->TE->World->T
def cT(N:TE->World->T)(Q:PQ T):PQ T:=λex e w=>match ex with|.normal=>N e w|x=>Q x e w
def jM(id:Nat)(Q:PQ T):PQ T:=λex e w=>match ex with|.exit i=>bif Nat.beq i id then Q .normal e w else Q (.exit i) e w|x=>Q x e w
def pD:Code->EM->PQ T->TE->World->T
 |.skip,_,Q,e,w=>Q .normal e w
 |.region _ ops draw,m,Q,e,w=>match draw with
  |false=>V9 p (λo=>pop p P ok false o) ops.toList (λe w=>Q .normal e w) ops.toList 0 [] e w
  |true=>match m with
   |.draw=>p.Jt w λC=>V9 p (λo=>jT p P ok C o) ops.toList (λe _=>p.jd C λw=>Q .normal e w) ops.toList 0 [] e w
   |.dt Ax AN _ t=>p.CM Ax AN (p.jx w) λM B=>VY p (λi o=>jF p P ok Ax M B i o) ops.toList (λe w=>Q .normal e w) t [] e (p.jx w)
   |_=>p.Hu
 |.seq x y,m,Q,e,w=>match m with
  |.node _ _ a b=>pD x a (cT (λe w=>pD y b Q e w) Q) e w
  |.cut L W a b=>p.Cl (λvs w=>p.Zl λh=>pD y b Q (iy p L W vs h e) w) (λJ=>pD x a (cT (λe w=>J (L.map λj=>(e j).val) w) Q) e w)
  |_=>p.Hu
 |.cond c x y,m,Q,e,w=>match m with
  |.node _ _ a b=>match UF p e c with
   |.b true=>pD x a Q e w
   |.b false=>pD y b Q e w
   |.v v=>p.AZ v (pD x a Q e w) (pD y b Q e w)
  |_=>p.Hu
 |.block id x,m,Q,e,w=>pD x m (jM id Q) e w
 |.loop x,m,Q,e,w=>match m with
  |.node L W a _=>p.FK (L.map λj=>(e j).val) (λvs q w=>p.Zl λh=>pD x a (cT (λe w=>q (L.map λj=>(e j).val) w) Q) (iy p L W vs h e) w) w
  |_=>p.Hu
 |.exit id,_,Q,e,w=>Q (.exit id) e w
 |.ret,_,Q,e,w=>Q .ret e w
 |.label _,_,Q,e,w=>Q .normal e w
 |.scope x,m,Q,e,w=>pD x m Q e w
 |_,_,_,_,_=>p.Hu
def jl:TE->Nat->List Nat->List Value->TE
 |e,_,[],_=>e
 |e,k,j::r,vs=>jl (I7 e (some j) (.v (p.nt vs k))) (k+1) r vs
def jo(rd:Nat->PQ T)(g:Operand)(ps:List Nat)(x y:Code)(L:List Nat)(o q:EM)(e:TE)(w:World):T:=
 p.Ka (UF p e g).val ps.length (λargs m w=>pD p P ok x o (cT (λe w=>m (λpost w=>pD p P ok y q (λex _ w=>post ex w) e w) w) (λ_ _ _=>p.Hu)) (jl p e 0 ps args) w)
  (p.iw (λj=>rd (p.Iz w) .normal e j) (λj=>rd (p.Iz w) .ret e j) (L.map λi=>(i,λj=>rd (p.Iz w) (.exit i) e j))) w
def iu:Code->EM->(Nat->PQ T)->PQ T->TE->World->T
 |.seq x y,o,Q,j,e,w=>match o with
  |.node _ _ a b=>bif OS x then iu x a (λm=>cT (λe w=>pD p P ok y b (Q m) e w) (Q m)) j e w
    else pD p P ok x a (cT (λe w=>iu y b Q j e w) j) e w
  |_=>p.Hu
 |.block id x,o,Q,j,e,w=>iu x o (λm=>jM id (Q m)) (λex e w=>match ex with | .exit i=>bif Nat.beq i id then p.Hu else j (.exit i) e w | x=>j x e w) e w
 |.rangeFunc g ps x y,o,Q,_,e,w=>match o with
  |.node L _ q B=>jo p P ok Q g ps.toList x y L q B e w
  |_=>p.Hu
 |_,_,_,_,_,_=>p.Hu
def ZT:Code->EM->(List Nat->PQ T)->List Nat->TE->World->T
 | .seq x y,o,Q,i,e,w=>bif E8 x || E8 y then (match o with
   |.node _ _ a b=>ZT x a (λi=>cT (λe w=>ZT y b Q i e w) (Q i)) i e w
   |.cut L W a b=>p.Cl (λvs w=>p.Zl λh=>ZT y b Q i (iy p L W vs h e) w) (λJ=>pD p P ok x a (cT (λe w=>J (L.map λj=>(e j).val) w) (Q i)) e w)
   | _=>p.Hu) else pD p P ok (.seq x y) o (Q i) e w
 | .cond c x y,o,Q,i,e,w=>bif E8 x || E8 y then (match o with
   |.node _ _ a b=>match UF p e c with
    |.b true=>ZT x a Q i e w
    |.b false=>ZT y b Q i e w
    |.v v=>p.AZ v (ZT x a Q i e w) (ZT y b Q i e w)
   | _=>p.Hu) else pD p P ok (.cond c x y) o (Q i) e w
 |.block id x,o,Q,i,e,w=>bif E8 x then ZT x o (λi=>jM id (Q i)) i e w else pD p P ok (.block id x) o (Q i) e w
 | .loop x,o,Q,i,e,w=>bif E8 x then (match o with
   |.node L W a _=>p.ZG (L.map λj=>(e j).val) i (λvs i q w=>p.Zl λh=>ZT x a (λi=>cT (λe w=>q (L.map λj=>(e j).val) i w) (Q i)) i (iy p L W vs h e) w) w
   | _=>p.Hu) else pD p P ok (.loop x) o (Q i) e w
 |.rangeFunc g ps x y,o,Q,i,e,w=>match o with
  |.node L _ B I=>jo p P ok (λm=>Q (m::i)) g ps.toList x y L B I e w
  |_=>p.Hu
 |c,o,Q,i,e,w=>pD p P ok c o (Q i) e w
def prsK(rs:List ResultVar)(e:TE)(w:World)(K:List Value->World->T):T:=match rs with
 |[]=>K [] w
 |.tmp t::r=>prsK r e w λvs w=>K ((e t).val::vs) w
 |.cell a t::r=>match Ex P t with
  |some (false,_)=>p.Ay (e a).val (λv w=>prsK r e w λvs w=>K (v::vs) w) w
  |some (true,k)=>p.CX k (e a).val (λv w=>prsK r e w λvs w=>K (v::vs) w) w
  |none=>p.Hu
def jr:List Value->Value
 |[v]=>v
 |vs=>.tuple (p.arr vs)
def prt(rs:List ResultVar)(K:Value->World->T):PQ T:=λex e w=>match ex with
 |.normal=>prsK p P rs e w λvs w=>K (jr p vs) w
 |.ret=>prsK p P rs e w λvs w=>K (jr p vs) w
 |_=>p.Hu
def jB:List Value->Nat->Tg
 |[],_=>.v p.un
 |v::_,0=>.v v
 |_::r,j+1=>jB r j
def pF(f:Func)(i:EM)(args:List Value)(K:Value->World->T)(w:World):T:=
 pD p P ok (Fx f) i (prt p P f.results.toList K) (jB p args) w
def kN(f:Func)(i:EM)(args:List Value)(K:Value->World->T)(w:World):T:=
 iu p P ok (Fx f) i (λm ex e w=>match ex with|.normal=>p.Lr m (λw=>prt p P f.results.toList K .normal e w) w|.ret=>p.Lr m (λw=>prt p P f.results.toList K .ret e w) w|_=>p.Hu) (prt p P f.results.toList K) (jB p args) w
def kO(f:Func)(j:EM)(args:List Value)(K:Value->World->T)(w:World):T:=
 ZT p P ok (Fx f) j (λi ex e w=>match ex with|.normal=>p.Md i (λw=>prt p P f.results.toList K .normal e w) w|.ret=>p.Md i (λw=>prt p P f.results.toList K .ret e w) w|_=>p.Hu) [] (jB p args) w
end
abbrev PB:=(T:Type)->(Value->World->T)->(T)->(T->T->T)->((Env->T)->T)->((World->Prop)->(World->T)->T)->((Nat->Nat->Prop)->Nat->World->World->T->T)->(World->World)->(World->Nat)->(Value)->({i1:Value}->Value)->(IntKind->Nat->Value)->(IntKind->Nat->Value)->(List Value->Array Value)->(Bool->Bool)->(List Value->Nat->Value)->(Value->T->T->T)->(Value->Value->Value->(Value->T)->T)->(TypeId->List Value->(Value->World->T)->World->T)->(TypeId->Value->(Value->World->T)->World->T)->(TypeId->Value->(Value->World->T)->World->T)->(Value->(Value->World->T)->World->T)->(Nat->Value->(Value->World->T)->World->T)->(Value->Value->(World->T)->World->T)->(Nat->Value->Value->(World->T)->World->T)->(Value->(Value->T)->T)->(IntKind->Value->Value->(Value->T)->T)->(IntKind->Value->Value->(Value->T)->T)->(IntKind->Value->Value->(Value->T)->T)->(IntKind->Value->Value->(Value->T)->T)->(IntKind->Value->Value->(Value->T)->T)->(IntKind->Value->Value->(Value->T)->T)->(IntKind->Value->Value->(Value->T)->T)->(IntKind->Value->Value->(Value->T)->T)->(IntKind->Value->Value->(Value->T)->T)->(IntKind->Value->Value->(Value->T)->T)->(IntKind->Value->Value->(Value->T)->T)->(Value->Value->(Value->T)->T)->(Value->Value->(Value->T)->T)->(Value->Value->(Value->T)->T)->(Value->Value->(Value->T)->T)->(Value->(Bool->T)->T)->(Value->(Bool->T)->T)->(Value->(Value->T)->T)->(Nat->Value->(Value->T)->T)->(Nat->Value->Value->(Value->T)->T)->(List (Nat×Nat)->List Value->List (Nat×Value)->(Value->T)->T)->(TypeId->Nat->Nat->List Value->List (Nat×Value)->(Value->World->T)->World->T)->(Nat->Value->(Value->T)->T)->(Value->(Value->T)->T)->(Value->(Value->T)->T)->(Nat->List Value->(Value->World->T)->World->T)->(Nat->List Value->(Value->World->T)->World->T)->(Value->List Value->(Value->World->T)->World->T)->(Value->List Value->(Value->World->T)->World->T)->(Sem Value->(Value->World->T)->World->T)->(Sem Value->(Value->T)->T)->((Addr->Value->Prop)->Value->(Value->T)->T)->((Addr->Value->Prop)->Nat->Value->(Value->T)->T)->((World->Prop)->Value->(Value->T)->T)->((World->Prop)->Nat->Value->(Value->T)->T)->((World->Prop)->Nat->List Value->(Value->T)->T)->((World->Prop)->Nat->List Value->(Value->T)->T)->((World->Prop)->Sem Value->(Value->T)->T)->(World->((World->Prop)->T)->T)->(List Nat->List (List Nat)->World->((Nat->Nat->Prop)->(Nat->Addr->Value->Prop)->T)->T)->(List Value->(List Value->(List Value->World->T)->World->T)->World->T)->((List Value->World->T)->((List Value->World->T)->T)->T)->(List Value->List Nat->(List Value->List Nat->(List Value->List Nat->World->T)->World->T)->World->T)->(Value->Nat->(List Value->(((Exit->World->T)->World->T)->World->T)->World->T)->(Exit->World->T)->World->T)->((World->T)->(World->T)->List (Nat×(World->T))->Exit->World->T)->(Nat->(World->T)->World->T)->(List Nat->(World->T)->World->T)->({i1:BinOp}->{i2:TypeId}->{i3 i4:Operand}->Value->Value->Sem Value)->({i1:UnOp}->Value->Sem Value)->({i1:TypeId}->Value->Value->Sem Value)->({i1:TypeId}->List (Nat×Value)->Sem Value)->({i1 i2:TypeId}->Value->Sem Value)->({i1:TypeId}->Value->Option Value->Option Value->Option Value->Sem Value)->({i1:TypeId}->{i2:Nat}->Value->Sem Value)->({i1:TypeId}->Value->Value->Sem Value)->({i1:TypeId}->Option Value->Sem Value)->({i1:TypeId}->Value->Value->Sem Value)->({i1:TypeId}->Value->Sem Value)->({i1:TypeId}->{i2:Bool}->Value->Value->Sem Value)->({i1:TypeId}->Value->Value->Value->Sem Value)->({i1:TypeId}->Value->Value->Sem Value)->({i1:TypeId}->Value->Value->Value->Sem Value)->({i1:TypeId}->Value->Sem Value)->({i1:Bool}->{i2:TypeId}->Value->Sem Value)->(Value->Sem Value)->({i1 i2:TypeId}->{i3:Bool}->Value->Sem Value)->({i1:Array TypeId}->{i2:TypeId}->Value->Sem Value)->({i1:Array TypeId}->{i2:TypeId}->List Value->Sem Value)->({i1:Array TypeId}->{i2:TypeId}->List Value->Sem Value)->({i1:Array TypeId}->{i2:TypeId}->List Value->Sem Value)->({i1:Array TypeId}->{i2:TypeId}->List Value->Sem Value)->({i1:Array TypeId}->{i2:TypeId}->List Value->Sem Value)->({i1:Array TypeId}->{i2:TypeId}->List Value->Sem Value)->({i1:Array TypeId}->{i2:TypeId}->List Value->Sem Value)->T
abbrev PE(F:(T:Type)->Pr T->(Value->World->T)->T)(B:PB):Prop:=∀(T:Type) (K:Value->World->T) (x0:T) (x1:T->T->T) (x2:(Env->T)->T) (x3:(World->Prop)->(World->T)->T) (x4:(Nat->Nat->Prop)->Nat->World->World->T->T) (x5:World->World) (x6:World->Nat) (x7:Value) (x8:{i1:Value}->Value) (x9:IntKind->Nat->Value) (i:IntKind->Nat->Value) (j:List Value->Array Value) (m:Bool->Bool) (o:List Value->Nat->Value) (q:Value->T->T->T) (I:Value->Value->Value->(Value->T)->T) (J:TypeId->List Value->(Value->World->T)->World->T) (O:TypeId->Value->(Value->World->T)->World->T) (Q:TypeId->Value->(Value->World->T)->World->T) (U:Value->(Value->World->T)->World->T) (V:Nat->Value->(Value->World->T)->World->T) (X:Value->Value->(World->T)->World->T) (Y:Nat->Value->Value->(World->T)->World->T) (Z:Value->(Value->T)->T) (a1:IntKind->Value->Value->(Value->T)->T) (a6:IntKind->Value->Value->(Value->T)->T) (a7:IntKind->Value->Value->(Value->T)->T) (a8:IntKind->Value->Value->(Value->T)->T) (ak:IntKind->Value->Value->(Value->T)->T) (al:IntKind->Value->Value->(Value->T)->T) (an:IntKind->Value->Value->(Value->T)->T) (av:IntKind->Value->Value->(Value->T)->T) (ax:IntKind->Value->Value->(Value->T)->T) (ay:IntKind->Value->Value->(Value->T)->T) (aZ:IntKind->Value->Value->(Value->T)->T) (b0:Value->Value->(Value->T)->T) (b1:Value->Value->(Value->T)->T) (b2:Value->Value->(Value->T)->T) (b6:Value->Value->(Value->T)->T) (b7:Value->(Bool->T)->T) (b8:Value->(Bool->T)->T) (b9:Value->(Value->T)->T) (ba:Nat->Value->(Value->T)->T) (bb:Nat->Value->Value->(Value->T)->T) (bc:List (Nat×Nat)->List Value->List (Nat×Value)->(Value->T)->T) (bd:TypeId->Nat->Nat->List Value->List (Nat×Value)->(Value->World->T)->World->T) (bk:Nat->Value->(Value->T)->T) (bl:Value->(Value->T)->T) (bp:Value->(Value->T)->T) (bs:Nat->List Value->(Value->World->T)->World->T) (bx:Nat->List Value->(Value->World->T)->World->T) (bZ:Value->List Value->(Value->World->T)->World->T) (c4:Value->List Value->(Value->World->T)->World->T) (c6:Sem Value->(Value->World->T)->World->T) (c7:Sem Value->(Value->T)->T) (c8:(Addr->Value->Prop)->Value->(Value->T)->T) (c9:(Addr->Value->Prop)->Nat->Value->(Value->T)->T) (ca:(World->Prop)->Value->(Value->T)->T) (cc:(World->Prop)->Nat->Value->(Value->T)->T) (cd:(World->Prop)->Nat->List Value->(Value->T)->T) (ch:(World->Prop)->Nat->List Value->(Value->T)->T) (cu:(World->Prop)->Sem Value->(Value->T)->T) (cx:World->((World->Prop)->T)->T) (da:List Nat->List (List Nat)->World->((Nat->Nat->Prop)->(Nat->Addr->Value->Prop)->T)->T) (dk:List Value->(List Value->(List Value->World->T)->World->T)->World->T) (dr:(List Value->World->T)->((List Value->World->T)->T)->T) (dA:List Value->List Nat->(List Value->List Nat->(List Value->List Nat->World->T)->World->T)->World->T) (dB:Value->Nat->(List Value->(((Exit->World->T)->World->T)->World->T)->World->T)->(Exit->World->T)->World->T) (dC:(World->T)->(World->T)->List (Nat×(World->T))->Exit->World->T) (dT:Nat->(World->T)->World->T) (e1:List Nat->(World->T)->World->T) (e2:{i1:BinOp}->{i2:TypeId}->{i3 i4:Operand}->Value->Value->Sem Value) (e3:{i1:UnOp}->Value->Sem Value) (e4:{i1:TypeId}->Value->Value->Sem Value) (e5:{i1:TypeId}->List (Nat×Value)->Sem Value) (e6:{i1 i2:TypeId}->Value->Sem Value) (e7:{i1:TypeId}->Value->Option Value->Option Value->Option Value->Sem Value) (e8:{i1:TypeId}->{i2:Nat}->Value->Sem Value) (e9:{i1:TypeId}->Value->Value->Sem Value) (ea:{i1:TypeId}->Option Value->Sem Value) (ec:{i1:TypeId}->Value->Value->Sem Value) (ed:{i1:TypeId}->Value->Sem Value) (ee:{i1:TypeId}->{i2:Bool}->Value->Value->Sem Value) (ef:{i1:TypeId}->Value->Value->Value->Sem Value) (eh:{i1:TypeId}->Value->Value->Sem Value) (ej:{i1:TypeId}->Value->Value->Value->Sem Value) (ek:{i1:TypeId}->Value->Sem Value) (en:{i1:Bool}->{i2:TypeId}->Value->Sem Value) (eo:Value->Sem Value) (ep:{i1 i2:TypeId}->{i3:Bool}->Value->Sem Value) (er:{i1:Array TypeId}->{i2:TypeId}->Value->Sem Value) (et:{i1:Array TypeId}->{i2:TypeId}->List Value->Sem Value) (eu:{i1:Array TypeId}->{i2:TypeId}->List Value->Sem Value) (ew:{i1:Array TypeId}->{i2:TypeId}->List Value->Sem Value) (ey:{i1:Array TypeId}->{i2:TypeId}->List Value->Sem Value) (ez:{i1:Array TypeId}->{i2:TypeId}->List Value->Sem Value) (eA:{i1:Array TypeId}->{i2:TypeId}->List Value->Sem Value) (eB:{i1:Array TypeId}->{i2:TypeId}->List Value->Sem Value),F T (Pr.mk x0 x1 x2 x3 x4 x5 x6 x7 @x8 x9 i j m o q I J O Q U V X Y Z a1 a6 a7 a8 ak al an av ax ay aZ b0 b1 b2 b6 b7 b8 b9 ba bb bc bd bk bl bp bs bx bZ c4 c6 c7 c8 c9 ca cc cd ch cu cx da dk dr dA dB dC dT e1 @e2 @e3 @e4 @e5 @e6 @e7 @e8 @e9 @ea @ec @ed @ee @ef @eh @ej @ek @en eo @ep @er @et @eu @ew @ey @ez @eA @eB) K=B T K x0 x1 x2 x3 x4 x5 x6 x7 @x8 x9 i j m o q I J O Q U V X Y Z a1 a6 a7 a8 ak al an av ax ay aZ b0 b1 b2 b6 b7 b8 b9 ba bb bc bd bk bl bp bs bx bZ c4 c6 c7 c8 c9 ca cc cd ch cu cx da dk dr dA dB dC dT e1 @e2 @e3 @e4 @e5 @e6 @e7 @e8 @e9 @ea @ec @ed @ee @ef @eh @ej @ek @en eo @ep @er @et @eu @ew @ey @ez @eA @eB
abbrev PI(P:Program)(ok:Nat->Bool)(K:Cont)(B:PB):Prop:=B Prop K False And (λF=>∀h:Env,F h) (λC F=>∀w:World,C w->F w) (λM i w j A=>Mod (M i) w j/\A) World.drew (λw=>w.heap.size) undef (λ{v}=>v) (λk n=>Value.int k (gJ n)) (λk n=>Value.int k (-gJ n)) List.toArray not nth AZ JA Bt KH Gf Ay CX CB BP Af CW DR UE GI Xn T8 Rh Nw PH LV MI Ue UQ UN Vz Jf Ge Ke BC Ip CV Dg Ag Dr MT (AB P) (Tj P) (BF P ok) (Cs P ok) (runK P) (T9 P) DQ GD HS NH (Ml P) (TZ P) (IX P) Jt CM FK Cl ZG (Ka P ok) iw Lr Md (λ{o t x y} a b=>Di o t x y a b) (λ{o} a=>Op.unary o a) (λ{t} a b=>Instr.indexAt t a b) (λ{t} l=>Instr.build t l.toArray) (λ{s d} a=>convert s d a) (λ{t} a b c d=>Instr.sliceAt t a b c d) (λ{t f} a=>Instr.field t a f) (λ{t} a b=>Instr.index t a b) (λ{t} a=>Instr.makeMap t a) (λ{t} a b=>Instr.makeSlice t a b) (λ{t} a=>Instr.makeInterface t a) (λ{t b} x i=>Instr.lookup t x i b) (λ{t} m k x=>do Instr.mapUpdate t m k x;pure undef) (λ{t} m k=>Instr.mapEntry t m k) (λ{t} m s x=>do Instr.entryStore t m s x;pure undef) (λ{t} x=>Instr.range t x) (λ{s t} x=>Instr.next x s t) Instr.entry (λ{q t b} x=>Instr.typeAssert x q t b) (λ{a t} x=>Builtin.len_ a t #[x]) (λ{a t} l=>Builtin.append_ a t l.toArray) (λ{a t} l=>Builtin.copy_ a t l.toArray) (λ{a t} l=>Builtin.cap_ a t l.toArray) (λ{a t} l=>Builtin.max_ a t l.toArray) (λ{a t} l=>Builtin.min_ a t l.toArray) (λ{a t} l=>Builtin.clear_ a t l.toArray) (λ{a t} l=>Builtin.delete_ a t l.toArray)
abbrev PG(P:Program)(ok:Nat->Bool)(f:Func)(i:EM)(l:List Value)(w:World):(T:Type)->Pr T->(Value->World->T)->T:=λ_ p K=>pF p P ok f i l K w
abbrev di(P:Program)(ok:Nat->Bool)(f:Func)(i:EM)(l:List Value)(w:World):(T:Type)->Pr T->(Value->World->T)->T:=λ_ p K=>kN p P ok f i l K w
abbrev kX(P:Program)(ok:Nat->Bool)(f:Func)(i:EM)(l:List Value)(w:World):(T:Type)->Pr T->(Value->World->T)->T:=λ_ p K=>kO p P ok f i l K w
abbrev PX(P:Program)(ok:Nat->Bool)(K:Cont)(F:(T:Type)->Pr T->(Value->World->T)->T)(B:PB)(R:Prop):Prop:=PE F B/\PI P ok K B=R
section
variable {P:Program}{ok:Nat->Bool}{g:Nat}{fn:Func}{l:List Value}{K:Cont}{w:World}{S:Prop}
def jC(h:(fn.body.isSome&&Nat.ble l.length fn.ntmps)=true):fn.body=some (Fx fn)/\Nat.ble l.length fn.ntmps=true:=by
 simp only[gC] at h;refine⟨?_,h.2⟩;unfold Fx;cases hb:fn.body with
 |none=>rw[hb] at h;exact absurd h.1 (by decide)
 |some c=>rfl
def Xa(j:EM)(i:Cn P ok)(hm:P.follows .mixedOrders=true)(m:P.funcs[g]?=some fn)(hc:(fn.body.isSome&&Nat.ble l.length fn.ntmps)=true)(h:S)(e:S=D P ok fn.ntmps (Fx fn) j (Sv P fn.results.toList K) (nth l) w):AB P g l K w:=
 P4 (n:=fn.ntmps) i hm m (jC hc).1 rfl rfl (jC hc).2 (Eq.mp e h)
def ck(j:EM)(i:Cn P ok)(hm:P.follows .mixedOrders=true)(o:P.funcs[g]?=some fn)(hc:(fn.body.isSome&&Nat.ble l.length fn.ntmps)=true)(h:S)(e:S=DM P ok fn.ntmps (Fx fn) j (λm=>dL P m fn.results.toList K) (Sv P fn.results.toList K) (nth l) w):AB P g l K w:=
 Um (n:=fn.ntmps) i hm o (jC hc).1 rfl rfl (jC hc).2 (Eq.mp e h)
end
section
abbrev PF(F:(T:Type)->Pr T->(Value->World->T)->T) : PB := λ(T:Type) (K:Value->World->T) (x0:T) (x1:T->T->T) (x2:(Env->T)->T) (x3:(World->Prop)->(World->T)->T) (x4:(Nat->Nat->Prop)->Nat->World->World->T->T) (x5:World->World) (x6:World->Nat) (x7:Value) (x8:{i1:Value}->Value) (x9:IntKind->Nat->Value) (i:IntKind->Nat->Value) (j:List Value->Array Value) (m:Bool->Bool) (o:List Value->Nat->Value) (q:Value->T->T->T) (B:Value->Value->Value->(Value->T)->T) (I:TypeId->List Value->(Value->World->T)->World->T) (J:TypeId->Value->(Value->World->T)->World->T) (O:TypeId->Value->(Value->World->T)->World->T) (Q:Value->(Value->World->T)->World->T) (U:Nat->Value->(Value->World->T)->World->T) (V:Value->Value->(World->T)->World->T) (X:Nat->Value->Value->(World->T)->World->T) (Y:Value->(Value->T)->T) (Z:IntKind->Value->Value->(Value->T)->T) (a1:IntKind->Value->Value->(Value->T)->T) (a6:IntKind->Value->Value->(Value->T)->T) (a7:IntKind->Value->Value->(Value->T)->T) (a8:IntKind->Value->Value->(Value->T)->T) (ak:IntKind->Value->Value->(Value->T)->T) (al:IntKind->Value->Value->(Value->T)->T) (an:IntKind->Value->Value->(Value->T)->T) (av:IntKind->Value->Value->(Value->T)->T) (ax:IntKind->Value->Value->(Value->T)->T) (ay:IntKind->Value->Value->(Value->T)->T) (aZ:Value->Value->(Value->T)->T) (b0:Value->Value->(Value->T)->T) (b1:Value->Value->(Value->T)->T) (b2:Value->Value->(Value->T)->T) (b6:Value->(Bool->T)->T) (b7:Value->(Bool->T)->T) (b8:Value->(Value->T)->T) (b9:Nat->Value->(Value->T)->T) (ba:Nat->Value->Value->(Value->T)->T) (bb:List (Nat×Nat)->List Value->List (Nat×Value)->(Value->T)->T) (bc:TypeId->Nat->Nat->List Value->List (Nat×Value)->(Value->World->T)->World->T) (bd:Nat->Value->(Value->T)->T) (bk:Value->(Value->T)->T) (bl:Value->(Value->T)->T) (bp:Nat->List Value->(Value->World->T)->World->T) (bs:Nat->List Value->(Value->World->T)->World->T) (bx:Value->List Value->(Value->World->T)->World->T) (bZ:Value->List Value->(Value->World->T)->World->T) (c4:Sem Value->(Value->World->T)->World->T) (c6:Sem Value->(Value->T)->T) (c7:(Addr->Value->Prop)->Value->(Value->T)->T) (c8:(Addr->Value->Prop)->Nat->Value->(Value->T)->T) (c9:(World->Prop)->Value->(Value->T)->T) (ca:(World->Prop)->Nat->Value->(Value->T)->T) (cc:(World->Prop)->Nat->List Value->(Value->T)->T) (cd:(World->Prop)->Nat->List Value->(Value->T)->T) (ch:(World->Prop)->Sem Value->(Value->T)->T) (cu:World->((World->Prop)->T)->T) (cx:List Nat->List (List Nat)->World->((Nat->Nat->Prop)->(Nat->Addr->Value->Prop)->T)->T) (da:List Value->(List Value->(List Value->World->T)->World->T)->World->T) (dk:(List Value->World->T)->((List Value->World->T)->T)->T) (dr:List Value->List Nat->(List Value->List Nat->(List Value->List Nat->World->T)->World->T)->World->T) (dA:Value->Nat->(List Value->(((Exit->World->T)->World->T)->World->T)->World->T)->(Exit->World->T)->World->T) (dB:(World->T)->(World->T)->List (Nat×(World->T))->Exit->World->T) (dC:Nat->(World->T)->World->T) (dT:List Nat->(World->T)->World->T) (e1:{i1:BinOp}->{i2:TypeId}->{i3 i4:Operand}->Value->Value->Sem Value) (e2:{i1:UnOp}->Value->Sem Value) (e3:{i1:TypeId}->Value->Value->Sem Value) (e4:{i1:TypeId}->List (Nat×Value)->Sem Value) (e5:{i1 i2:TypeId}->Value->Sem Value) (e6:{i1:TypeId}->Value->Option Value->Option Value->Option Value->Sem Value) (e7:{i1:TypeId}->{i2:Nat}->Value->Sem Value) (e8:{i1:TypeId}->Value->Value->Sem Value) (e9:{i1:TypeId}->Option Value->Sem Value) (ea:{i1:TypeId}->Value->Value->Sem Value) (ec:{i1:TypeId}->Value->Sem Value) (ed:{i1:TypeId}->{i2:Bool}->Value->Value->Sem Value) (ee:{i1:TypeId}->Value->Value->Value->Sem Value) (ef:{i1:TypeId}->Value->Value->Sem Value) (eh:{i1:TypeId}->Value->Value->Value->Sem Value) (ej:{i1:TypeId}->Value->Sem Value) (ek:{i1:Bool}->{i2:TypeId}->Value->Sem Value) (en:Value->Sem Value) (eo:{i1 i2:TypeId}->{i3:Bool}->Value->Sem Value) (ep:{i1:Array TypeId}->{i2:TypeId}->Value->Sem Value) (er:{i1:Array TypeId}->{i2:TypeId}->List Value->Sem Value) (et:{i1:Array TypeId}->{i2:TypeId}->List Value->Sem Value) (eu:{i1:Array TypeId}->{i2:TypeId}->List Value->Sem Value) (ew:{i1:Array TypeId}->{i2:TypeId}->List Value->Sem Value) (ey:{i1:Array TypeId}->{i2:TypeId}->List Value->Sem Value) (ez:{i1:Array TypeId}->{i2:TypeId}->List Value->Sem Value) (eA:{i1:Array TypeId}->{i2:TypeId}->List Value->Sem Value)=>F T (Pr.mk x0 x1 x2 x3 x4 x5 x6 x7 @x8 x9 i j m o q B I J O Q U V X Y Z a1 a6 a7 a8 ak al an av ax ay aZ b0 b1 b2 b6 b7 b8 b9 ba bb bc bd bk bl bp bs bx bZ c4 c6 c7 c8 c9 ca cc cd ch cu cx da dk dr dA dB dC dT @e1 @e2 @e3 @e4 @e5 @e6 @e7 @e8 @e9 @ea @ec @ed @ee @ef @eh @ej @ek en @eo @ep @er @et @eu @ew @ey @ez @eA) K
def dA : Nat -> Nat -> List (List Nat×List (Nat×Nat)) -> List EM -> (Nat -> List (List Nat×List (Nat×Nat)) -> List EM -> EM -> EM) -> EM
 |0, _, _, _, _ => .nil
 |f + 1, n, d, t, k => match n%8 with
  |0 => k (n/8) d t .nil
  |1 => dA f (n/8) d t λn d t a => k n d t (.node [] [] .nil a)
  |2 => dA f (n/8) d t λn d t a => k n d t (.node [] [] a .nil)
  |3 => dA f (n/8) d t λn d t a => dA f n d t λn d t b => k n d t (.node [] [] a b)
  |4 => match d with
   |(L, W)::d => dA f (n/8) d t λn d t a => dA f n d t λn d t b => k n d t (.node L W a b)
   |[] => .nil
  |5 => match d with
   |(L, W)::d => dA f (n/8) d t λn d t a => dA f n d t λn d t b => k n d t (.cut L W a b)
   |[] => .nil
  |6 => k (n/8) d t .draw
  |_ => match t with
   |x::t => k (n/8) d t x
   |[] => .nil
def bZ : Nat -> Nat -> Nat -> List Nat
 |0, _, _ => []
 |f + 1, i, n => match n%2 with
  |0 => bZ f (i + 1) (n/2)
  |_ => i::bZ f (i + 1) (n/2)
def aZ : List Nat -> List (List Nat)
 |[] => []
 |n::r => bZ 64 0 n::aZ r
def dC(e l : List Nat)(g : List (List Nat)) : EM := .dc e (aZ l) g
def dT(e l : List Nat)(g : List (List Nat))(t : Ord) : EM := .dt e (aZ l) g t
def dB(n : Nat)(d : List (List Nat×List (Nat×Nat)))(t : List EM) : EM := dA 999 n d t λ_ _ _ a => a
def uI(p : Prop) : Prop := p
abbrev uE(fn : Func)(i : EM)(l : List Value)(K : Cont)(w : World)(B : PB)(R : Prop) : Prop := PF (PG prog CS fn i l w) = B /\ PI prog CS K B = R /\ ((fn.body.isSome&&Nat.ble l.length fn.ntmps), R) = (true, D prog CS fn.ntmps (Fx fn) i (Sv prog fn.results.toList K) (nth l) w)
def oU{g : Nat}{fn : Func}{l : List Value}{S : Prop}(i : EM)(j : prog.funcs[g]? = some fn)(h : S)(e : ((fn.body.isSome&&Nat.ble l.length fn.ntmps), S) = (true, D prog CS fn.ntmps (Fx fn) i (Sv prog fn.results.toList K) (nth l) w)) : AB prog g l K w := Xa i DV mixed j (re e).1 h (re e).2
def uS0{g : Nat}{fn : Func}{B : Cont -> World -> PB}{R : Cont -> World -> Prop}(i : EM)(j : prog.funcs[g]? = some fn)(e : ∀(K : Cont) (w : World), uE fn i [] K w (B  K w) (R  K w))(h : uI (R  K w)) : AB prog g [] K w := oU i j h (e  K w).2.2
def uS1{g : Nat}{fn : Func}{B : Value -> Cont -> World -> PB}{R : Value -> Cont -> World -> Prop}(i : EM)(j : prog.funcs[g]? = some fn)(e : ∀(v0 : Value) (K : Cont) (w : World), uE fn i [v0] K w (B v0 K w) (R v0 K w))(h : uI (R v0 K w)) : AB prog g [v0] K w := oU i j h (e v0 K w).2.2
def uS2{g : Nat}{fn : Func}{B : Value -> Value -> Cont -> World -> PB}{R : Value -> Value -> Cont -> World -> Prop}(i : EM)(j : prog.funcs[g]? = some fn)(e : ∀(v0 v : Value) (K : Cont) (w : World), uE fn i [v0,v] K w (B v0 v K w) (R v0 v K w))(h : uI (R v0 v K w)) : AB prog g [v0,v] K w := oU i j h (e v0 v K w).2.2
def uS3{g : Nat}{fn : Func}{B : Value -> Value -> Value -> Cont -> World -> PB}{R : Value -> Value -> Value -> Cont -> World -> Prop}(i : EM)(j : prog.funcs[g]? = some fn)(e : ∀(v0 v sv : Value) (K : Cont) (w : World), uE fn i [v0,v,sv] K w (B v0 v sv K w) (R v0 v sv K w))(h : uI (R v0 v sv K w)) : AB prog g [v0,v,sv] K w := oU i j h (e v0 v sv K w).2.2
def uS4{g : Nat}{fn : Func}{B : Value -> Value -> Value -> Value -> Cont -> World -> PB}{R : Value -> Value -> Value -> Value -> Cont -> World -> Prop}{v0 v1 v2 v3 : Value}(i : EM)(j : prog.funcs[g]? = some fn)(e : ∀(v0 v1 v2 v3 : Value) (K : Cont) (w : World), uE fn i [v0,v1,v2,v3] K w (B v0 v1 v2 v3 K w) (R v0 v1 v2 v3 K w))(h : uI (R v0 v1 v2 v3 K w)) : AB prog g [v0,v1,v2,v3] K w := oU i j h (e v0 v1 v2 v3 K w).2.2
def uS6{g : Nat}{fn : Func}{B : Value -> Value -> Value -> Value -> Value -> Value -> Cont -> World -> PB}{R : Value -> Value -> Value -> Value -> Value -> Value -> Cont -> World -> Prop}{v0 v1 v2 v3 v4 v5 : Value}(i : EM)(j : prog.funcs[g]? = some fn)(e : ∀(v0 v1 v2 v3 v4 v5 : Value) (K : Cont) (w : World), uE fn i [v0,v1,v2,v3,v4,v5] K w (B v0 v1 v2 v3 v4 v5 K w) (R v0 v1 v2 v3 v4 v5 K w))(h : uI (R v0 v1 v2 v3 v4 v5 K w)) : AB prog g [v0,v1,v2,v3,v4,v5] K w := oU i j h (e v0 v1 v2 v3 v4 v5 K w).2.2
def dQ:EM:=dB 9 [] []
def cO{g:Nat}{fn:Func}(j:EM)(m:prog.funcs[g]?=some fn){b:Prop}(h:b)(hc:((fn.body.isSome&&Nat.ble args.length fn.ntmps),b)=(true,D prog CS fn.ntmps (Fx fn) j (Sv prog fn.results.toList K) (nth args) w)):AB prog g args K w:=by
 have hb:=(re hc).1;rw[(re hc).2] at h;rw[gC] at hb;refine P4 DV mixed m ?_ rfl rfl hb.2 h;obtain⟨x,i⟩:=lD.1 hb.1;rw[i,Fx,i]
abbrev zF(l:List Value):List Value:=(.int .i32 0)::(.int .i32 0)::(.int .i32 0)::(.int .i32 0)::l
abbrev zR(l:List Value):List Value:=zF (zF (zF (zF (zF (zF (zF (zF l)))))))
abbrev aR:Nat->List Nat:=List.range
abbrev aQ0(l:List (List Nat)):List (List Nat):=[]::[0]::[0,1]::[0,1,2]::aR 4::l
abbrev aN:EM->EM:=.node [] [] .nil
abbrev aO:EM->EM->EM:=.node [] []
abbrev aE:EM:=.node [] [] .nil .nil
def S141(v0 v1:Value)(K:Cont)(w:World):Prop:=by
 refine' (?f:∀B R,PX prog CS K (PG prog CS Tryz.f141 dQ [v0,v1] w) B R->Prop) _ _ ⟨?a,?b⟩
 case a=>intro _;intros;conv=>lhs;reduce
 case b=>dsimp only[PI,AF];rfl
 exact λ_ R _=>R
variable {v0 v1 v2 v3 v4 v5 v6 v7 v8 v9:Value}{K:Cont}{w:World}
def ao(h:S141 v0 v1 K w):AB prog 141 [v0,v1] K w:=Xa dQ DV mixed func141 (by kernel_rfl) h (by kernel_rfl)
def iW:EM:=dB 9 [] []
def S83(v0:Value)(K:Cont)(w:World):Prop:=by
 refine' (?f:∀B R,PX prog CS K (PG prog CS Tryz.f83 iW [v0] w) B R->Prop) _ _ ⟨?a,?b⟩
 case a=>intro _;intros;conv=>lhs;reduce
 case b=>dsimp only[PI,AF];rfl
 exact λ_ R _=>R
def eQ(h:S83 v0 K w):AB prog 83 [v0] K w:=Xa iW DV mixed func83 (by kernel_rfl) h (by kernel_rfl)
end
def eY{S X:Nat->Prop}{a b:Value}{l m:List Attr}(ha:Ba S w a l)(hb:Ba X w b m) :
  AB prog 235 [a,b] (λv w'=>v=.bool (decide (l=m))/\Grow w w') w:=by
 refine uS2 (dB 9247689947541673049 [([13],[(4,5),(13,25)])] []) func235 (λ_ _ _ _=>⟨by conv=>lhs;reduce,by dsimp only[PI,AF],by kernel_rfl⟩) ?_;unfold uI;obtain⟨pa,ca,rfl,J⟩:=ha.shape;obtain⟨pb,cb,rfl,O⟩:=hb.shape;simp only[KS];simp only[maxLen] at J O;by_cases i:l.length=m.length
 .rw[Bp (show ¬¬(l.length:Int)=m.length by omega)];refine⟨λvs w'=>∃k:Nat,k<=l.length/\vs=[zI k]/\Grow w w'/\l.take k=m.take k,λvs _=>l.length-Dh vs 0,⟨0,Nn _,rfl,Mod.refl _ _,rfl⟩,?_⟩;rintro vs Y ⟨k,hk,rfl,I,ht⟩ h;simp only[KS];by_cases o:k<l.length
  .rw[DN (show(k:Int)<l.length by omega)];refine⟨λw2=>Grow Y w2,Mod.drew _ _,?_⟩;obtain⟨p,r,rfl,_,hr,hc,Z⟩:=ha.get o;obtain⟨q,r',rfl,_,Q,U,V⟩:=hb.get (show k<m.length by omega);refine AS o (Hp hr (λw2 B j u hu=>?_) ?_)
   .rw[Addr.add_add];exact B.cell (I.cell (hc j u hu) (λh=>h)) (λh=>h)
   refine AS (by omega) (Hp Q (λw2 B j u hu=>?_) ?_)
   .rw[Addr.add_add];exact B.cell (I.cell (U j u hu) (λh=>h)) (λh=>h)
   subst Z;subst V;refine⟨_,λw2 _=>Qa _ _ _ _ w2,λw2 B=>?_⟩;simp only[KS];by_cases he:l[k]=m[k]
   .rw[Bp (λh=>h he)];refine⟨⟨k+1,by omega,by rw[wrap64 (by omega) (by omega)];rfl,I.trans B,?_⟩,?_⟩
    .rw[S5,S5,ht];simp[o,show k<m.length by omega,he]
    .simp only[Dh,nth,Nr];rw[wrap64 (by omega) (by omega)];omega
   .rw[DN he];refine⟨?_,I.trans B⟩;congr 1
    symm
    rw[mR];intro e;subst e;exact he rfl
  .rw[Bp (show ¬(k:Int)<l.length by omega)];refine⟨?_,I⟩;congr 1;symm
   rw[jD];have:k=l.length:=by omega
   subst this;rw[S7] at ht;rw[ht,i,S7]
 .rw[DN (show ¬(l.length:Int)=m.length by omega)];refine⟨?_,Mod.refl _ _⟩;congr 1;symm
  rw[mR];intro e;exact i (by rw[e])
def Yr{S i:Nat->Prop}{a b:Value}{l m:List Attr}(ha:Ba S w a l)(hb:Ba i w b m) :
  AB prog 141 [a,b] (λv w'=>v=.bool (decide (l=m))/\Grow w w') w:=by
 apply ao;exact eY ha hb
def OJ{l:List Attr}(h:Ba S w v l)(hl:l.length*48<=140737488355328) :
  AB prog 160 [v] (λv' w'=>Ho w.heap.size w' v' l/\Grow w w') w:=by
 refine uS1 (dB 267353 [] []) func160 (λ_ _ _=>⟨by conv=>lhs;reduce,by dsimp only[PI,AF],by kernel_rfl⟩) ?_;unfold uI;obtain⟨a,c,rfl,hm⟩:=h.shape;cases a with
 |none=>
  simp only[KS];have:l=[]:=by
   cases l with
   |nil=>rfl
   |cons x l=>obtain⟨p,r,e,_⟩:=h.get (i:=0) (by simp);cases e
  subst this;exact⟨AE.nil,Mod.refl _ _⟩
 |some p=>
  simp only[KS];refine Hk ?_;have m:Grow w (w.alloc (.cells #[] 83)):=Mod.alloc _ _ _;have o:Ho w.heap.size (w.alloc (.cells #[] 83)) (.slice (some ⟨w.heap.size,0,none⟩) 0 0) []:=AE.made (K8 _);obtain⟨v',w',h1,q,B,I⟩:=AE.append (ty:=64) HE o (h.grow m (by decide) λ_ _ h=>h) (λ_ _=>CR.one) (by simpa using hl) (by simp) (by simpa using hm) (λ_ _ _ _ h=>h);refine AX h1 ⟨?_,m.next (Mod.of_grownBy B) ?_⟩
  .refine q.base λg j=>?_;rcases I g j with h|h
   .cases h;exact K8 _
   .simp only[qI] at h;omega
  .intro b hb e;simp only[Value.ownBlock,gM] at e;omega
def Eh{l:List Attr}(h:Ba S w v l)(hl:l.length*48<=140737488355328) :
  AB prog 83 [v] (λv' w'=>Ho w.heap.size w' v' l/\Grow w w') w:=by
 apply eQ;exact OJ h hl
def FQ{t:TypeId}(h:vs[j]?=some v):(w.alloc (.cells vs.toArray t)).cell? ((⟨w.heap.size,0,none⟩:Addr).add j)=some v:=by
 have i:(⟨w.heap.size,0,none⟩:Addr).add j=⟨w.heap.size,j,none⟩:=by unfold Addr.add;split<;>simp_all
 rw[i,qF];simpa using h
def AE.Aj{B e k:Nat}{R:World->List Value->α->Prop}{l:List α}(h:AE B e k R w v l):∀g,v.ownBlock=some g->B<=g/\g<w.heap.size:=by
 obtain⟨a,c,rfl,_,_,hp,_⟩:=AE.shape h;intro g i;cases a with
 |none=>cases i
 |some p=>obtain⟨g',rfl,h1,m,j⟩:=hp p rfl;rw[i] at j;cases j;exact⟨h1,m⟩
def An.Gw{k:Nat}{R:World->List Value->α->Prop}{l:List α}(h:An S k R w v l)(hk:0<k):An (λb=>S b/\b<w.heap.size) k R w v l:=
 h.sub (λb hb i=>⟨i,hb⟩) hk λ_ _ h=>h
structure Cel where
 r:Int
 set:List Attr
 deriving DecidableEq
def Jz(D:Nat->Prop)(w:World)(r:List Value)(c:Cel):Prop:=∃sv,r=[.int .i32 c.r,sv]/\Ba D w sv c.set
def Jz.one{D:Nat->Prop}{r:List Value}{b:Cel}(h:Jz D w r b):∀u∈r,u.oneCell'=true:=by
 obtain⟨sv,rfl,i⟩:=h;obtain⟨a,c,rfl,_⟩:=i.shape;intro u hu;simp only[Mp,l9,nw] at hu;rcases hu with rfl|rfl<;>rfl
def Jz.mod{D D' M:Nat->Prop}{r:List Value}{b:Cel}(h:Jz D w r b)(hm:Mod M w w')(j:∀b,b<w.heap.size->D b->¬M b)(i:∀b,b<w.heap.size->D b->D' b):Jz D' w' r b:=by
 obtain⟨sv,rfl,m⟩:=h;exact⟨sv,rfl,m.mono i (λb hb o=>hm.same b hb (j b hb o)) (by decide) λ_ _ h=>h⟩
def MX:Ch prog 32 66 2 32:=⟨Tryz.t66,.agg #[.int .i32 0,.slice none 0 0],by kernel_rfl,by kernel_rfl,by kernel_rfl,by kernel_rfl,by kernel_rfl,by rfl,by decide⟩
abbrev Bi(S D:Nat->Prop)(w:World)(v:Value)(l:List Cel):Prop:=An S 2 (Jz D) w v l
def Ac(a:Addr)(x:Nat):(a.add x).block=a.block:=by unfold Addr.add;split<;>rfl
def Mod.putObj(w:World)(b:Nat)(o:Obj)(h:M b):Mod M w (w.putObj b o):=⟨rfl,rfl,rfl,by simp,λk _ hk=>my λe=>hk (e▸h)⟩
def Kn{m:Nat->Prop}{J:World->Prop}{I:Exit->World->Prop}{F:(Exit->World->Prop)->World->Prop}{o:World}{M Q:Nat->Prop}(hm:Mod M W o)(O:w.heap.size+2<=W.heap.size)(j:∀b,m b->b<W.heap.size/\Q b)
 (q:∀b,b<W.heap.size->M b->¬m b/\b≠w.heap.size/\b≠w.heap.size+1)(h:∀B,Mod (λb=>b=w.heap.size+1) o B->F (Wx m w B J I) B):VN m w W J I F o:=by
 refine⟨⟨hm.size,λb hb=>hm.same b ?_ λi=>?_,hm.os,hm.tape,hm.output⟩,h⟩
 .rcases hb with hb|rfl|rfl
  .exact(j b hb).1
  .omega
  .omega
 .rcases hb with hb|rfl|rfl
  .exact(q _ (j b hb).1 i).1 hb
  .exact(q _ (by omega) i).2.1 rfl
  .exact(q _ (by omega) i).2.2 rfl
def N9{m:Nat->Prop}(hm:Mod M W W')(q:w.heap.size+2<=W.heap.size)(j:∀b,m b->b<W.heap.size)
 (o:∀b,b<W.heap.size->M b->¬m b/\b≠w.heap.size/\b≠w.heap.size+1):jI m w W W':=by
 refine⟨hm.size,λb hb=>hm.same b ?_ λi=>?_,hm.os,hm.tape,hm.output⟩
 .rcases hb with hb|rfl|rfl
  .exact j b hb
  .omega
  .omega
 .rcases hb with hb|rfl|rfl
  .exact(o _ (j b hb) i).1 hb
  .exact(o _ (by omega) i).2.1 rfl
  .exact(o _ (by omega) i).2.2 rfl
def AE.one{B e k:Nat}{R:World->List Value->α->Prop}{l:List α}(h:AE B e k R w v l):v.oneCell'=true/\v.cells=#[v]:=by
 obtain⟨a,c,rfl,_⟩:=AE.shape h;exact⟨rfl,rfl⟩
def KM(a b:Int):Int:=if b>a then b else a
def An.made{k:Nat}{R:World->List Value->α->Prop}{t:TypeId}{l:List α}(rows:List (List Value))(hr:∀r∈rows,r.length=k)(hl:rows.length=l.length)(m:l.length<=maxLen)
 (q:∀(i:Nat) (r:List Value) (x:α),rows[i]?=some r->l[i]?=some x->R (w.alloc (.cells rows.flatten.toArray t)) r x):An (λb=>b=w.heap.size) k R (w.alloc (.cells rows.flatten.toArray t)) (.slice (some ⟨w.heap.size,0,none⟩) l.length l.length) l:=by
 refine⟨_,_,rfl,K8 _,m,λi x o=>?_⟩;have hi:i<rows.length:=by rw[hl];exact(Ad.1 o).1
 refine⟨_,rows[i],rfl,rfl,hr _ (by simp),λj u hu=>?_,q i _ x (by simp[hi]) o⟩;have B:j<k:=by rw[<-hr rows[i] (by simp)];exact(Ad.1 hu).1
 refine FQ ?_;rw[IB rows i j rows[i] hr (by simp[hi]) B];exact hu
def E9(l:List α):l=[]\/∃i b,l=i++[b]:=by
 rcases lS l with h|⟨i,b,h⟩
 .exact .inl h
 .exact .inr ⟨i,b,by simpa using h⟩
def Ij{p:List α->Prop}(h0:p [])(h1:∀l a,p l->p (l++[a])):∀l,p l:=by
 intro l;have:∀n,∀l:List α,l.length=n->p l:=by
  intro n;induction n with
  |zero=>intro l hl;rw[Of hl];exact h0
  |succ n j=>
   intro l hl;rcases E9 l with rfl|⟨i,b,rfl⟩
   .simp at hl
   .exact h1 i b (j i (by simp at hl;omega))
 exact this _ l rfl
def Bi.grow{S D:Nat->Prop}{l:List Cel}(h:Bi S D w v l)(i:Grow w w'):Bi S D w' v l:=
 An.grow h i (by decide) λ_ _ j=>j.mod i (λ_ _ _ h=>h) λ_ _ h=>h
section
variable {H:Type}{enc:TypeId×Value->H}{P:Program}{w:World}{base:Nat}{spare:Nat->Bool}{held:Bool}
def An.bO{t e k:Nat}{R:World->List Value->α->Prop}{J:Nat}{x:DataW H×List MemPlace}(ht:P.underlying t=some (.slice e))(hk:P.cellsOf e=k)
 (U:∀n o y,DataW.trod enc P w base spare held n e o=some y->∃x,R w o x)(h:DataW.trod enc P w base spare held J t cs=some x) :
  ∃v l,cs=[v]/\An (λ_=>True) k R w v l:=by
 rcases Go.Deep.open_slice ht h with⟨rfl,_⟩|⟨a,len,cap,m,n,D,Pl,rfl,hb,hl,hm,V,_,O⟩
 .exact⟨_,[],rfl,An.nil⟩
 .have a1:len<=m:=by rw[V];split<;>omega
  have one:∀i,i<len->∃(o:List Value) (x:α),o.length=k/\(∀j u,o[j]?=some u->w.cell? (a.add (i*k+j))=some u)/\R w o x:=by
   intro i hi;obtain⟨o,h1,Q⟩:=O i (by omega);obtain⟨x,X⟩:=U n o _ Q;obtain⟨_,B,hc⟩:=World.cells?_some h1;rw[hk] at B hc;refine⟨o,x,B,λj u hu=>?_,X⟩;have hj:j<k:=by rw[<-B];exact(Ad.1 hu).1
   have:=hc j hj;rw[Addr.add_add] at this;rw[this];exact hu
  have build:∀q,q<=len->∃l:List α,l.length=q/\∀i x,l[i]?=some x->∃o:List Value,o.length=k/\(∀j u,o[j]?=some u->w.cell? (a.add (i*k+j))=some u)/\R w o x:=by
   intro q;induction q with
   |zero=>exact λ_=>⟨[],rfl,λi x h=>by simp at h⟩
   |succ q ih=>
    intro hq;obtain⟨l,h1,Q⟩:=ih (by omega);obtain⟨o,x,Y,Z,h5⟩:=one q (by omega);refine⟨l++[x],by simp[h1],λi y I=>?_⟩;by_cases hi:i<q
    .rw[Q0 (by omega)] at I;exact Q i y I
    .have:i=q:=by have:=(Ad.1 I).1;simp[h1] at this;omega
     subst this;rw[lF (by omega)] at I;simp[h1] at I;subst I;exact⟨o,Y,Z,h5⟩
  obtain⟨l,h1,Q⟩:=build len (K8 _);subst h1;refine⟨_,l,rfl,a,cap,rfl,hl,hm,λi x X=>?_⟩;obtain⟨o,Y,Z,h5⟩:=Q i x X;exact⟨a,o,rfl,trivial,Y,Z,h5⟩
end
section
open Go.ChangeShapes Go.Joins
variable {H:Type}{enc:TypeId×Value->H}{w:World}{base:Nat}{spare:Nat->Bool}{held:Bool}
end
def AD{p:Prop}[Decidable p]{A B:Prop}(h1:p->A)(i:¬p->B):AZ (.bool (decide p)) A B:=by
 rw[ae];split
 .exact h1 (by assumption)
 .exact i (by assumption)
def Ko{q:IntKind}{a:Int}{A B:Prop}(h:B):PH q (.int q a) (.int q a) λt=>AZ t A B:=by
 rw[BL,lq rfl];exact h
def BI{a b:Value}{k:Value->Value->Prop}(h:k a b):Ag 0 (.tuple #[a,b]) λx=>Ag 1 (.tuple #[a,b]) λy=>k x y:=Ae (vs:=[_,_]) (by rfl) (Ae (vs:=[_,_]) (by rfl) h)
def K0{a b c:Value}{k:Value->Value->Value->Prop}(h:k a b c):Ag 0 (.tuple #[a,b,c]) λx=>Ag 1 (.tuple #[a,b,c]) λy=>Ag 2 (.tuple #[a,b,c]) λz=>k x y z:=Ae (vs:=[_,_,_]) (by rfl) (Ae (vs:=[_,_,_]) (by rfl) (Ae (vs:=[_,_,_]) (by rfl) h))
def FC:(∀(l:List Value) k,nth l (k+1)=nth l.tail k)/\(∀l:List Value,nth l 0=l.headD undef)/\(∀(a:Value) l d,(a::l).headD d=a)/\∀(a:Value) l,(a::l).tail=l:=⟨YL,BQ,λ_ _ _=>rfl,λ_ _=>rfl⟩
def G9{q:IntKind}{a b:Int}{A B:Prop}(h1:a<b->A)(i:¬a<b->B):GI q (.int q a) (.int q b) λt=>AZ t A B:=by
 rw[Ai];exact AD h1 i
def AI(g x:Nat):(⟨g,0,none⟩:Addr).add x=⟨g,x,none⟩:=by unfold Addr.add;split<;>simp_all
def Az{b q:Nat}{K:Value->World->Prop}(hc:w.cell? ⟨b,q,none⟩=some v)(h:K v w):BC q (.pointer (some ⟨b,0,none⟩)) λt=>Ay t K w:=by
 rw[AH,AI];exact AJ hc h
def Live(w:World)(a:Addr):Prop:=(w.cell? a).isSome=true/\w.frozen? a=false
def Live.set{a:Addr}(h:Live w a)(b:Addr)(u:Value):Live (w.setCell b u) a:=by
 refine⟨?_,by rw[rP];exact h.2⟩;obtain⟨v,i⟩:=lD.1 h.1;by_cases e:b=a
 .subst e;rw[lM w _ u i];rfl
 .rw[S4 w _ _ u e,i];rfl
def Live.mod{a:Addr}(h:Live w a)(hm:Mod M w w')(i:¬M a.block):Live w' a:=by
 obtain⟨v,j⟩:=lD.1 h.1;exact⟨by rw[hm.cell j i];rfl,(hm.frozen (lU w a j) i).trans h.2⟩
def Live.st{a:Addr}{u:Value}{K:World->Prop}(h:Live w a)(h1:u.oneCell'=true)(i:u.cells=#[u])(j:K (w.setCell a u)):CB (.pointer (some a)) u K w:=by
 obtain⟨v,m⟩:=lD.1 h.1;exact Kx h1 i m h.2 j
def AE.live{B e k:Nat}{R:World->List Value->α->Prop}{a:Option Addr}{n c:Nat}{l:List α}(h:AE B e k R w (.slice a n c) l){i j:Nat}(hi:i<l.length)(V:j<k) :
  ∃g,a=some ⟨g,0,none⟩/\n=l.length/\Live w ((⟨g,0,none⟩:Addr).add (i*k+j)):=by
 obtain⟨rows,h1,O,Q,X⟩:=h;have q:∀r∈rows,r.length=k:=λr hr=>(Q r hr).1;have I:∃g,a=some ⟨g,0,none⟩/\n=l.length:=by
  rcases h1.2 with⟨h',Y⟩|⟨g',J,U,h',_⟩
  .omega
  .simp only[ny] at h';exact⟨g',h'.1,h'.2.1⟩
 obtain⟨g,rfl,rfl⟩:=I;refine⟨g,rfl,rfl,?_⟩;have m:(⟨g,0,none⟩:Addr).add (i*k+j)=⟨g,i*k+j,none⟩:=by unfold Addr.add;split<;>simp_all
 have o:i*k+j<l.length*k:=by
  have:(i+1)*k<=l.length*k:=mV _ hi;rw[mC] at this;omega
 rw[m];refine⟨?_,h1.frozenAt _⟩;rw[h1.cellAt _ o];simp[Cx rows q,O,o]
structure Chg where
 key:Int
 gone:Bool
 val:As
 deriving DecidableEq
def Chg.cells(a:Chg):List Value:=zI a.key::.bool a.gone::a.val.cells
abbrev Ef:World->List Value->Chg->Prop:=λ_ r x=>r=x.cells
abbrev Be:World->List Value->Int->Prop:=λ_ r x=>r=[.int .i32 x]
abbrev I6(S:Nat->Prop)(w:World)(v:Value)(l:List Int):Prop:=An S 1 Be w v l
abbrev EV(S:Nat->Prop)(w:World)(v:Value)(l:List Chg):Prop:=An S 6 Ef w v l
def Be.one{r:List Value}{x:Int}(h:Be w r x):∀u∈r,u.oneCell'=true:=by
 subst h;intro u hu;simp at hu;subst hu;rfl
def Ef.one{r:List Value}{x:Chg}(h:Ef w r x):∀u∈r,u.oneCell'=true:=by
 intro u hu;subst h;simp only[Chg.cells,As.cells,Mp,l9,nw] at hu;rcases hu with rfl|rfl|rfl|rfl|rfl|rfl<;>rfl
def Is:Ch prog 79 21 1 4:=⟨Tryz.t21,.int .i32 0,by kernel_rfl,by kernel_rfl,by kernel_rfl,by kernel_rfl,by kernel_rfl,by rfl,by decide⟩
def QQ:Ch prog 24 56 6 56:=⟨Tryz.t56,.agg #[zI 0,.bool false,.int .u8 0,zI 0,.int .u64 0,.string ⟨#[]⟩],by kernel_rfl,by kernel_rfl,by kernel_rfl,by kernel_rfl,by kernel_rfl,by rfl,by decide⟩
def MQ(n:Nat)(x y:As)(w:World) :
  (Op.equalIn (n+2) 54 (.agg x.cells.toArray) (.agg y.cells.toArray)).run prog w=.ok (decide (x=y)) w:=by
 have i:prog.underlying 54=some (.struct (prog.fieldsOf 54)):=by kernel_rfl
 have j:=underlying5;have m:=underlying2;have o:=underlying52;have B:=underlying9;have a3:=Tryz.isAgg5;have a4:=Tryz.isAgg2;have a5:=Tryz.isAgg52;have I:=Tryz.isAgg9;rw[qR w (n+1) _ _ _ i Tryz.stoodInHeld54];simp only[Program.fieldsOf,underlying54,As.cells];have J:∀a b:Int,(Op.equalIn (n+1) 5 (.int .u8 a) (.int .u8 b)).run prog w=.ok (a==b) w:=λa b=>nm w n _ _ _ a b j;have O:∀a b:Int,(Op.equalIn (n+1) 2 (zI a) (zI b)).run prog w=.ok (a==b) w:=λa b=>nm w n _ _ _ a b m;have Q:∀a b:Int,(Op.equalIn (n+1) 52 (.int .u64 a) (.int .u64 b)).run prog w=.ok (a==b) w:=λa b=>nm w n _ _ _ a b o;have U:∀a b:ByteArray,(Op.equalIn (n+1) 9 (.string a) (.string b)).run prog w=.ok (a.toList==b.toList) w:=λa b=>run_equalIn_string w n _ a b B;have q:decide (x=y)=(x.kind==y.kind&&(x.n==y.n&&(x.f==y.f&&decide (x.s=y.s)))):=by
  cases x;cases y;rw[oE];simp[As.mk.injEq]
 rw[q];simp[Op.eqFields,part,a3,a4,a5,I,J,O,Q,U,toList_beq];by_cases h1:x.kind=y.kind<;>by_cases V:x.n=y.n<;>by_cases X:x.f=y.f<;>by_cases Y:x.s=y.s<;>simp[h1,V,X,Y]
def WN(a b:Chg)(w:World) :
  (Op.equalIn 10000 56 (.agg a.cells.toArray) (.agg b.cells.toArray)).run prog w=.ok (decide (a=b)) w:=by
 have i:prog.underlying 56=some (.struct (prog.fieldsOf 56)):=by kernel_rfl
 rw[show(10000:Nat)=9999+1 from rfl,qR w 9999 _ _ _ i Tryz.stoodInHeld56];simp only[Program.fieldsOf,underlying56,Chg.cells,As.cells];have j:=Tryz.isAgg3;have m:=Tryz.isAgg54;have a3:=Tryz.isAgg4;have o:∀w,(sizeOf 54).run prog w=.ok 4 w:=λw=>by simp only[sizeOf,lH,Tryz.typeInfo54,S9,mG];rfl
 have B:∀a b:Int,(Op.equalIn 9999 3 (zI a) (zI b)).run prog w=.ok (a==b) w:=λa b=>nm w 9998 _ _ _ a b underlying3;have I:∀a b:Bool,(Op.equalIn 9999 4 (.bool a) (.bool b)).run prog w=.ok (a==b) w:=λa b=>run_equalIn_bool w 9998 _ a b underlying4;have J:(Op.equalIn 9999 54 (.agg #[.int .u8 a.val.kind,zI a.val.n,.int .u64 a.val.f,.string a.val.s]) (.agg #[.int .u8 b.val.kind,zI b.val.n,.int .u64 b.val.f,.string b.val.s])).run prog w=.ok (decide (a.val=b.val)) w:=MQ 9997 a.val b.val w;have O:∀k l q r s t:Value,(#[k,l,q,r,s,t]:Array Value).extract 2 6=#[q,r,s,t]:=λ_ _ _ _ _ _=>rfl;have q:decide (a=b)=(a.key==b.key&&(a.gone==b.gone&&decide (a.val=b.val))):=by
  cases a;cases b;rw[oE];simp[Chg.mk.injEq]
 rw[q];simp[Op.eqFields,part,j,m,a3,o,B,I,J,O];by_cases h1:a.key=b.key<;>by_cases Q:a.gone=b.gone<;>by_cases U:a.val=b.val<;>simp[h1,Q,U]
def Ry(xo yo:Operand)(a b:Chg)(w:World) :
  (Di .neq 56 xo yo (.agg a.cells.toArray) (.agg b.cells.toArray)).run prog w=.ok (.bool (!decide (a=b))) w:=by
 simp only[Di,lH,qS w .neq _ xo yo _ _ Tryz.eqGuardType56,S9];rw[rZ,WN];rfl
def Hl(xo yo:Operand)(a b:As)(w:World) :
  (Di .eql 54 xo yo (.agg a.cells.toArray) (.agg b.cells.toArray)).run prog w=.ok (.bool (decide (a=b))) w:=by
 simp only[Di,lH,qS w .eql _ xo yo _ _ Tryz.eqGuardType54,S9];rw[run_eql_struct,MQ 9998];rfl
def ME(xo yo:Operand)(a b:As)(w:World) :
  (Di .neq 54 xo yo (.agg a.cells.toArray) (.agg b.cells.toArray)).run prog w=.ok (.bool (!decide (a=b))) w:=by
 simp only[Di,lH,qS w .neq _ xo yo _ _ Tryz.eqGuardType54,S9];rw[rZ,MQ 9998];rfl
structure Dop where
 kind:Int
 n:Int
 Ab:List Int
 set:List Attr
 patch:List Chg
 deriving DecidableEq
def Cf(D:Nat->Prop)(w:World)(r:List Value)(o:Dop):Prop:=∃rv sv i,r=[.int .u8 o.kind,zI o.n,rv,sv,i]/\I6 D w rv o.Ab/\Ba D w sv o.set/\EV D w i o.patch
def Cf.one{D:Nat->Prop}{r:List Value}{o:Dop}(h:Cf D w r o):∀u∈r,u.oneCell'=true:=by
 obtain⟨rv,sv,m,rfl,h1,i,j⟩:=h;obtain⟨q,c1,rfl,_⟩:=h1.shape;obtain⟨B,c2,rfl,_⟩:=i.shape;obtain⟨a3,I,rfl,_⟩:=j.shape;intro u hu;simp only[Mp,l9,nw] at hu;rcases hu with rfl|rfl|rfl|rfl|rfl<;>rfl
def Cf.mod{D D' M:Nat->Prop}{r:List Value}{o:Dop}(h:Cf D w r o)(hm:Mod M w w')(m:∀b,b<w.heap.size->D b->¬M b)(i:∀b,b<w.heap.size->D b->D' b):Cf D' w' r o:=by
 obtain⟨rv,sv,q,rfl,h1,B,I⟩:=h;exact⟨rv,sv,q,rfl,h1.mono i (λb hb j=>hm.same b hb (m b hb j)) (by decide) λ_ _ h=>h,B.mono i (λb hb j=>hm.same b hb (m b hb j)) (by decide) λ_ _ h=>h,I.mono i (λb hb j=>hm.same b hb (m b hb j)) (by decide) λ_ _ h=>h⟩
def Fz:Ch prog 22 81 5 88:=⟨Tryz.t81,.agg #[.int .u8 0,zI 0,.slice none 0 0,.slice none 0 0,.slice none 0 0],by kernel_rfl,by kernel_rfl,by kernel_rfl,by kernel_rfl,by kernel_rfl,by rfl,by decide⟩
abbrev Ak(S D:Nat->Prop)(w:World)(v:Value)(l:List Dop):Prop:=An S 5 (Cf D) w v l
def Ak.grow{S D:Nat->Prop}{l:List Dop}(h:Ak S D w v l)(i:Grow w w'):Ak S D w' v l:=
 An.grow h i (by decide) λ_ _ j=>j.mod i (λ_ _ _ h=>h) λ_ _ h=>h
def Ak.mod{S D M:Nat->Prop}{l:List Dop}(h:Ak S D w v l)(hm:Mod M w w')(i:∀b,b<w.heap.size->S b->¬M b)(j:∀b,b<w.heap.size->D b->¬M b):Ak S D w' v l:=
 An.mono h (λ_ _ h=>h) (λb hb m=>hm.same b hb (i b hb m)) (by decide) λ_ _ o=>o.mod hm j λ_ _ h=>h
def Pm(D:Nat->Prop)(w:World)(r:List Value)(o:Dop):Prop:=∃rv sv i,r=[.int .u8 o.kind,zI o.n,rv,sv,i]/\
 (AE 0 21 1 Be w rv o.Ab/\∀g,rv.ownBlock=some g->D g)/\(Ho 0 w sv o.set/\∀g,sv.ownBlock=some g->D g)/\(AE 0 56 6 Ef w i o.patch/\∀g,i.ownBlock=some g->D g)
def MG{e k:Nat}{R:World->List Value->α->Prop}{D:Nat->Prop}{l:List α}(hk:0<k)(h:AE 0 e k R w v l/\∀g,v.ownBlock=some g->D g):An D k R w v l:=
 An.sub (AE.sl h.1) (λg _ i=>h.2 g i.2) hk λ_ _ h=>h
def Ii{e k:Nat}{R:World->List Value->α->Prop}{D D' M:Nat->Prop}{l:List α}(h:AE 0 e k R w v l/\∀g,v.ownBlock=some g->D g)(hm:Mod M w w')(m:∀b,b<w.heap.size->D b->¬M b)(j:∀b,b<w.heap.size->D b->D' b)
 (o:∀r x,R w r x->R w' r x):AE 0 e k R w' v l/\∀g,v.ownBlock=some g->D' g:=
 ⟨AE.mod h.1 hm (λg i=>m g (AE.Aj h.1 g i).2 (h.2 g i)) λr x _ q=>o r x q,λg i=>j g (AE.Aj h.1 g i).2 (h.2 g i)⟩
def Pm.rd{D:Nat->Prop}{r:List Value}{o:Dop}(h:Pm D w r o):Cf D w r o:=by
 obtain⟨rv,sv,i,rfl,h1,j,m⟩:=h;exact⟨rv,sv,i,rfl,MG (by decide) h1,MG (by decide) j,MG (by decide) m⟩
def Pm.mod{D D' M:Nat->Prop}{r:List Value}{o:Dop}(h:Pm D w r o)(hm:Mod M w w')(j:∀b,b<w.heap.size->D b->¬M b)(i:∀b,b<w.heap.size->D b->D' b):Pm D' w' r o:=by
 obtain⟨rv,sv,m,rfl,h1,q,B⟩:=h;exact⟨rv,sv,m,rfl,Ii h1 hm j i λ_ _ h=>h,Ii q hm j i λ_ _ h=>h,Ii B hm j i λ_ _ h=>h⟩
def Em(B:Nat)(w:World)(v:Value)(l:List Dop):Prop:=AE B 81 5 (Pm λb=>B<=b/\v.ownBlock≠some b) w v l
def Em.sl{l:List Dop}(h:Em B w v l):Ak (λb=>B<=b/\v.ownBlock=some b) (λb=>B<=b/\v.ownBlock≠some b) w v l:=
 An.sub (AE.sl h) (λ_ _ h=>h) (by decide) λ_ _ h=>h.rd
def Em.reads{l:List Dop}(h:Em B w v l):Ak (λb=>B<=b/\b<w.heap.size) (λb=>B<=b/\b<w.heap.size) w v l:=
 An.sub (Em.sl h) (λb hb h=>⟨h.1,hb⟩) (by decide) λr x i=>i.mod (Mod.refl (λ_=>False) _) (λ_ _ _ h=>h) λb hb h=>⟨h.1,hb⟩
structure DKey where
 id:Int
 block:Bool
 kind:Int
 after:Bool
 before:Bool
 group:Int
 deriving DecidableEq
def DKey.cells(k:DKey):List Value:=[zI k.id,.bool k.block,.int .u8 k.kind,.bool k.after,.bool k.before,zI k.group]
abbrev Gv:World->List Value->DKey->Prop:=λ_ r x=>r=x.cells
abbrev TV(S:Nat->Prop)(w:World)(v:Value)(l:List DKey):Prop:=An S 6 Gv w v l
def Gv.one{r:List Value}{x:DKey}(h:Gv w r x):∀u∈r,u.oneCell'=true:=by
 intro u hu;subst h;simp only[DKey.cells,Mp,l9,nw] at hu;rcases hu with rfl|rfl|rfl|rfl|rfl|rfl<;>rfl
def LQ(a:Attr):Nat:=a.val.s.size+1
def QF(a:Chg):Nat:=a.val.s.size+1
def IE(l:List Attr):Nat:=(l.map LQ).sum
def JJ(l:List Chg):Nat:=(l.map QF).sum
def Eu(o:Dop):Nat:=1+o.Ab.length+IE o.set+JJ o.patch
def Aq(l:List Dop):Nat:=(l.map Eu).sum
section
open Go.ChangeShapes Go.Joins
variable {H:Type}{enc:TypeId×Value->H}{w:World}{base:Nat}{spare:Nat->Bool}{held:Bool}
def cI{l:List α}(h:l.length=5):∃a b c d e,l=[a,b,c,d,e]:=by
 match l,h with|[a,b,c,d,e],_=>exact⟨a,b,c,d,e,rfl⟩
def gZ{l:List α}(h:l.length=6):∃a b c d e f,l=[a,b,c,d,e,f]:=by
 match l,h with|[a,b,c,d,e,f],_=>exact⟨a,b,c,d,e,f,rfl⟩
def Xw(l m:List (DataW H)):Rows.uptoBulkAll (l++m)=Rows.uptoBulkAll l+Rows.uptoBulkAll m:=by
 induction l with
 |nil=>simp[Rows.uptoBulkAll]
 |cons d l i=>simp only[Za,Rows.uptoBulkAll,i];omega
def An.J6{t e k:Nat}{R:World->List Value->α->Prop}{μ:α->Nat}{J:Nat}{x:DataW H×List MemPlace}(ht:prog.underlying t=some (.slice e))(hk:prog.cellsOf e=k)
 (U:∀n o y,DataW.trod enc prog w base spare held n e o=some y->∃x,R w o x/\μ x<=Rows.uptoBulk y.1)(h:DataW.trod enc prog w base spare held J t cs=some x) :
  ∃v l,cs=[v]/\An (λ_=>True) k R w v l/\(l.map μ).sum+1<=Rows.uptoBulk x.1:=by
 rcases Go.Deep.open_slice ht h with⟨rfl,rfl⟩|⟨a,len,cap,m,n,D,Pl,rfl,hb,hl,hm,V,rfl,O⟩
 .exact⟨_,[],rfl,An.nil,by simp[Rows.uptoBulk]⟩
 .have a1:len<=m:=by rw[V];split<;>omega
  have one:∀i,i<len->∃(o:List Value) (x:α),o.length=k/\(∀j u,o[j]?=some u->w.cell? (a.add (i*k+j))=some u)/\R w o x/\μ x<=Rows.uptoBulk (D i):=by
   intro i hi;obtain⟨o,h1,Q⟩:=O i (by omega);obtain⟨x,X,Y⟩:=U n o _ Q;obtain⟨_,B,hc⟩:=World.cells?_some h1;rw[hk] at B hc;refine⟨o,x,B,λj u hu=>?_,X,Y⟩;have hj:j<k:=by rw[<-B];exact(Ad.1 hu).1
   have:=hc j hj;rw[Addr.add_add] at this;rw[this];exact hu
  have build:∀q,q<=len->∃l:List α,l.length=q/\(l.map μ).sum<=Rows.uptoBulkAll ((List.range q).map D)/\∀i x,l[i]?=some x->∃o:List Value,o.length=k/\(∀j u,o[j]?=some u->w.cell? (a.add (i*k+j))=some u)/\R w o x:=by
   intro q;induction q with
   |zero=>exact λ_=>⟨[],rfl,by simp[Rows.uptoBulkAll],λi x h=>by simp at h⟩
   |succ q ih=>
    intro hq;obtain⟨l,h1,hs,Q⟩:=ih (by omega);obtain⟨o,x,Z,h4,h5,h6⟩:=one q (by omega);refine⟨l++[x],by simp[h1],?_,λi y I=>?_⟩
    .rw[List.range_succ,kZ (f:=D),Xw];simp only[kZ,List.sum_append,lO,mh,nf,oG,Rows.uptoBulkAll];omega
    by_cases hi:i<q
    .rw[Q0 (by omega)] at I;exact Q i y I
    .have:i=q:=by have:=(Ad.1 I).1;simp[h1] at this;omega
     subst this;rw[lF (by omega)] at I;simp[h1] at I;subst I;exact⟨o,Z,h4,h5⟩
  obtain⟨l,h1,hs,Q⟩:=build len (K8 _);subst h1;refine⟨_,l,rfl,⟨a,cap,rfl,hl,hm,λi x X=>?_⟩,?_⟩
  .obtain⟨o,Z,h4,h5⟩:=Q i x X;exact⟨a,o,rfl,trivial,Z,h4,h5⟩
  .simp only[Rows.uptoBulk];omega
def Jv{n:Nat}{y:DataW H×List MemPlace}(h:DataW.trod enc prog w base spare held n 54 cs=some y):∃x:As,cs=x.cells/\x.s.size+1<=Rows.uptoBulk y.1:=by
 have c2:prog.cellsOf 54=4:=by kernel_rfl
 have q:prog.cellsOf 5=1:=by kernel_rfl
 have B:prog.cellsOf 2=1:=by kernel_rfl
 have I:prog.cellsOf 52=1:=by kernel_rfl
 have J:prog.cellsOf 9=1:=by kernel_rfl
 obtain⟨z0,z1,z2,z3,m',rfl,hl,i,j,m,o⟩:=trod_struct4 underlying54 h;rw[c2] at hl;simp only[q,B,I,J] at i j m o;match cs,hl with
 |[a0,a1,a2,a3],_=>
  simp only[mz,nL,nx,nN] at i j m o;obtain⟨O,Q,e0,_⟩:=mK underlying5 i;obtain⟨k1,U,V,_⟩:=mK underlying2 j;obtain⟨k2,X,Y,_⟩:=mK underlying52 m;obtain⟨Z,f3,e3,_⟩:=DataW.trod_string underlying9 o;cases Q;cases U;cases X;cases f3;subst e0;subst V;subst Y;subst e3;refine⟨⟨O,k1,k2,Z⟩,rfl,?_⟩;simp only[Rows.uptoBulk,Rows.uptoBulkAll,nj,ByteArray.size_data];omega
def Np{n:Nat}{y:DataW H×List MemPlace}(h:DataW.trod enc prog w base spare held n 83 cs=some y):∃x:Attr,CR w cs x/\LQ x<=Rows.uptoBulk y.1:=by
 have c0:prog.cellsOf 83=5:=by kernel_rfl
 have c1:prog.cellsOf 3=1:=by kernel_rfl
 have c2:prog.cellsOf 54=4:=by kernel_rfl
 obtain⟨j,o,m,rfl,hl,h0,h1⟩:=trod_struct2 underlying83 h;rw[c0] at hl;simp only[c1,c2] at h0 h1;match cs,hl with
 |[a0,q,B,a3,a4],_=>
  simp only[mz,nL,nx,nN] at h0 h1;obtain⟨k,e0,_,_⟩:=mK underlying3 h0;obtain⟨v,i,I⟩:=Jv h1;cases e0;cases i;refine⟨⟨k,v⟩,rfl,?_⟩;simp only[LQ,Rows.uptoBulk,Rows.uptoBulkAll];omega
def PK{n:Nat}{y:DataW H×List MemPlace}(h:DataW.trod enc prog w base spare held n 56 cs=some y):∃x:Chg,Ef w cs x/\QF x<=Rows.uptoBulk y.1:=by
 have c0:prog.cellsOf 56=6:=by kernel_rfl
 have c1:prog.cellsOf 3=1:=by kernel_rfl
 have c2:prog.cellsOf 54=4:=by kernel_rfl
 have q:prog.cellsOf 4=1:=by kernel_rfl
 obtain⟨xs,m,_,rfl,hl,i,j⟩:=p4 underlying56 h;match xs,i with
 |[B,I,J],_=>
  have h0:DataW.trod enc prog w base spare held m 3 ((cs.drop 0).take (prog.cellsOf 3))=some B:=j 0 _ rfl;have h1:DataW.trod enc prog w base spare held m 4 ((cs.drop 1).take (prog.cellsOf 4))=some I:=j 1 _ rfl;have o:DataW.trod enc prog w base spare held m 54 ((cs.drop 2).take (prog.cellsOf 54))=some J:=j 2 _ rfl;rw[c0] at hl;rw[c1] at h0;rw[q] at h1;rw[c2] at o;obtain⟨a0,U,V,a3,a4,a5,rfl⟩:=gZ hl
  .clear j;simp only[mz,nL,nx,nN] at h0 h1 o;obtain⟨k,e0,_,_⟩:=mK underlying3 h0;obtain⟨b,O,_⟩:=DataW.trod_bool underlying4 h1;obtain⟨v,Q,X⟩:=Jv o;cases e0;cases O;cases Q;refine⟨⟨k,b,v⟩,rfl,?_⟩;simp only[QF,lO,mh,Rows.uptoBulk,Rows.uptoBulkAll];omega
def Nb{n:Nat}{y:DataW H×List MemPlace}(h:DataW.trod enc prog w base spare held n 21 cs=some y):∃x:Int,Be w cs x/\1<=Rows.uptoBulk y.1:=by
 obtain⟨k,rfl,e,_⟩:=mK underlying21 h;subst e;exact⟨k,rfl,by simp[Rows.uptoBulk]⟩
def Lw{n:Nat}{y:DataW H×List MemPlace}(h:DataW.trod enc prog w base spare held n 79 cs=some y):∃v l,cs=[v]/\I6 (λ_=>True) w v l/\l.length+1<=Rows.uptoBulk y.1:=by
 obtain⟨v,l,e,h1,i⟩:=An.J6 (μ:=λ_:Int=>1) underlying79 (by kernel_rfl) (λ_ _ _ h=>Nb h) h;refine⟨v,l,e,h1,?_⟩;have:(l.map λ_=>1).sum=l.length:=by clear h1 i;induction l with|nil=>rfl|cons a l j=>simp only[lO,nf,gD,j];omega
 omega
end
section
def dS:EM:=dB 9 [] []
def S190(v0 v1:Value)(K:Cont)(w:World):Prop:=by
 refine' (?f:∀B R,PX prog CS K (PG prog CS Tryz.f190 dS [v0,v1] w) B R->Prop) _ _ ⟨?a,?b⟩
 case a=>intro _;intros;conv=>lhs;reduce
 case b=>dsimp only[PI,AF];rfl
 exact λ_ R _=>R
variable {v0 v1 v2 v3 v4 v5 v6 v7 v8 v9:Value}{K:Cont}{w:World}
def Zb(h:S190 v0 v1 K w):AB prog 190 [v0,v1] K w:=Xa dS DV mixed func190 (by kernel_rfl) h (by kernel_rfl)
def dK:EM:=dB 9 [] []
def S191(v0:Value)(K:Cont)(w:World):Prop:=by
 refine' (?f:∀B R,PX prog CS K (PG prog CS Tryz.f191 dK [v0] w) B R->Prop) _ _ ⟨?a,?b⟩
 case a=>intro _;intros;conv=>lhs;reduce
 case b=>dsimp only[PI,AF];rfl
 exact λ_ R _=>R
def Zf(h:S191 v0 K w):AB prog 191 [v0] K w:=Xa dK DV mixed func191 (by kernel_rfl) h (by kernel_rfl)
end
def Ib{P:Program}{t e k bytes:Nat}{R:World->List Value->α->Prop}{l:List α}(I:Ch P t e k bytes)(h:An S k R w v l)(hl:l.length*bytes<=140737488355328)
 (m:∀w r y,R w r y->∀u∈r,u.oneCell'=true)(J:∀o w2 r y,w.heap.size<=o.heap.size->Mod (λb=>w.heap.size<=b) o w2->R o r y->R w2 r y)
 (O:∀v' w',AE w.heap.size e k R w' v' l->Grow w w'->K v' w') :
  Jf v λb4=>AZ (.bool b4) (K (.slice none 0 0) w) (Dg e k 0 [] [] (λt5 o=>runK P (Builtin.append_ #[t,t] t [t5,v].toArray) (λQ w2=>K Q w2) o) w):=by
 obtain⟨a,c,rfl,hm⟩:=h.shape;have hk:=I;obtain⟨_,_,_,_,_,_,_,_,q⟩:=hk;cases a with
 |none=>
  simp only[KS];have:l=[]:=by
   cases l with
   |nil=>rfl
   |cons x l=>obtain⟨p,r,e,_⟩:=h.get (i:=0) (by simp);cases e
  subst this;exact O _ _ AE.nil (Mod.refl _ _)
 |some p=>
  simp only[KS];refine Hk ?_;have B:Grow w (w.alloc (.cells #[] e)):=Mod.alloc _ _ _;have U:AE w.heap.size e k R (w.alloc (.cells #[] e)) (.slice (some ⟨w.heap.size,0,none⟩) 0 0) ([]:List α):=AE.made (K8 _);obtain⟨v',w',h1,V,X,Y⟩:=AE.append (ty:=t) I U ((h.Gw q).grow B q λr x Z=>J _ _ _ _ (K8 _) B.mod Z) (λ_ _=>m _ _ _) (by simpa using hl) (by simp) (by simpa using hm) (λw' j r y hy=>J _ _ _ _ B.size ((Mod.of_grownBy j).mono λb _ e=>by simp only[Value.ownBlock,gM] at e;omega) hy);refine AX h1 (O _ _ ?_ (B.next (Mod.of_grownBy X) ?_))
  .refine V.base λg j=>?_;rcases Y g j with h|h
   .cases h;exact K8 _
   .simp only[qI] at h;omega
  .intro b hb e;simp only[Value.ownBlock,gM] at e;omega
def AW{p:Prop}[Decidable p]{A B:Prop}(h1:p->B)(i:¬p->A):AZ (.bool (!decide p)) A B:=by
 by_cases h:p
 .rw[lq h];exact h1 h
 .rw[lh h];exact i h
def bP[DecidableEq α]{P:Program}{k:Nat}{R R':World->List Value->α->Prop}{a b:Option Addr}{l m:List α}{bin:Value->Value->Sem Value}
 (ha:An S k R w (.slice a l.length c) l)(hb:An F k R' w (.slice b m.length N) m)(J:l.length=m.length)(hm:l.length<=maxLen)
 (O:∀r U x y i,R w r x->R' w U y->(bin (.agg r.toArray) (.agg U.toArray)).run P i=.ok (.bool (!decide (x=y))) i)
 (hK:∀w',Grow w w'->K (.bool (decide (l=m))) w') :
  FK [(zI 0)] (λvs o i=>∀ _:Env,GI .i64 (nth vs 0) (zI l.length) λV=>AZ V
   (Jt i (λC=>Ip k (.slice a l.length c) (nth vs 0) λX=>NH C k X λY=>Ip k (.slice b m.length N) (nth vs 0) λt22=>NH C k t22 λZ=>IX P C (bin Y Z) λa1=>
    ∀ w2:World,C w2->AZ a1 (K (.bool false) w2) (CW .i64 (nth vs 0) (zI 1) λt25=>o [t25] w2)))
   (K (.bool true) i)) w:=by
 simp only[maxLen] at hm;refine AU (λvs w'=>∃k:Nat,k<=l.length/\vs=[zI k]/\Grow w w'/\l.take k=m.take k) (λvs _=>l.length-Dh vs 0) ⟨0,Nn _,rfl,Mod.refl _ _,rfl⟩ ?_;rintro vs i ⟨q,hq,rfl,Q,ht⟩ h;simp only[KS];by_cases B:q<l.length
 .rw[DN (show(q:Int)<l.length by omega)];refine⟨λw2=>Grow i w2,Mod.drew _ _,?_⟩;obtain⟨p,r,rfl,_,hr,hc,hx⟩:=ha.get B;obtain⟨p',U,rfl,_,a6,a7,a8⟩:=hb.get (show q<m.length by omega);refine AS B (Hp hr (λw2 I j u hu=>?_) ?_)
  .rw[Addr.add_add];exact I.cell (Q.cell (hc j u hu) (λh=>h)) (λh=>h)
  refine AS (by omega) (Hp a6 (λw2 I j u hu=>?_) ?_)
  .rw[Addr.add_add];exact I.cell (Q.cell (a7 j u hu) (λh=>h)) (λh=>h)
  refine⟨_,λw2 _=>O _ _ _ _ w2 hx a8,λw2 I=>?_⟩;simp only[KS];by_cases he:l[q]=m[q]
  .rw[Bp (λh=>h he)];refine⟨⟨q+1,by omega,by rw[wrap64 (by omega) (by omega)];rfl,Q.trans I,?_⟩,?_⟩
   .rw[S5,S5,ht];simp[B,show q<m.length by omega,he]
   .simp only[Dh,nth,Nr];rw[wrap64 (by omega) (by omega)];omega
  .rw[DN he];have:decide (l=m)=false:=by rw[mR];intro e;subst e;exact he rfl
   rw[<-this];exact hK _ (Q.trans I)
 .rw[Bp (show ¬(q:Int)<l.length by omega)];have:q=l.length:=by omega
  subst this;rw[S7,J,S7] at ht;have:decide (l=m)=true:=by rw[jD];exact ht
  rw[<-this];exact hK _ Q
def Kk{l:List Int}(h:An S 1 Be w v l)(hl:l.length*4<=140737488355328) :
  AB prog 197 [v] (λv' w'=>AE w.heap.size 21 1 Be w' v' l/\Grow w w') w:=by
 refine uS1 (dB 267353 [] []) func197 (λ_ _ _=>⟨by conv=>lhs;reduce,by dsimp only[PI,AF],by kernel_rfl⟩) ?_;unfold uI;exact Ib Is h hl (λ_ _ _=>Be.one) (λ_ _ _ _ _ _ h=>h) λv' w' h1 i=>And.intro h1 i
def OB{l:List Chg}(h:An S 6 Ef w v l)(hl:l.length*56<=140737488355328) :
  AB prog 133 [v] (λv' w'=>AE w.heap.size 56 6 Ef w' v' l/\Grow w w') w:=by
 refine uS1 (dB 267353 [] []) func133 (λ_ _ _=>⟨by conv=>lhs;reduce,by dsimp only[PI,AF],by kernel_rfl⟩) ?_;unfold uI;exact Ib QQ h hl (λ_ _ _=>Ef.one) (λ_ _ _ _ _ _ h=>h) λv' w' h1 i=>And.intro h1 i
def Ak.Gw{S D:Nat->Prop}{l:List Dop}(h:Ak S D w v l):Ak (λb=>S b/\b<w.heap.size) (λb=>D b/\b<w.heap.size) w v l:=
 An.sub h (λb hb h=>⟨h,hb⟩) (by decide) λr x i=>i.mod (Mod.refl (λ_=>False) _) (λ_ _ _ h=>h) λb hb h=>⟨h,hb⟩
def L2{S D:Nat->Prop}{l:List Dop}(h:Ak S D w v l)(hl:l.length*88<=140737488355328) :
  AB prog 200 [v] (λv' w'=>AE w.heap.size 81 5 (Cf λb=>D b/\b<w.heap.size) w' v' l/\Grow w w') w:=by
 refine uS1 (dB 267353 [] []) func200 (λ_ _ _=>⟨by conv=>lhs;reduce,by dsimp only[PI,AF],by kernel_rfl⟩) ?_;unfold uI;exact Ib Fz h.Gw hl (λ_ _ _=>Cf.one) (λm w2 r y o hm i=>i.mod hm (λb _ q hb=>by omega) λ_ _ h=>h) λv' w' h1 j=>And.intro h1 j
def Qh{l:List Chg}(h:EV S w v l)(hl:l.length*56<=140737488355328) :
  AB prog 191 [v] (λv' w'=>AE w.heap.size 56 6 Ef w' v' l/\Grow w w') w:=by
 apply Zf;exact OB h hl
def fe{S o:Nat->Prop}{a b:Value}{l m:List Chg}(ha:An S 6 Ef w a l)(hb:An o 6 Ef w b m) :
  AB prog 291 [a,b] (λv w'=>v=.bool (decide (l=m))/\Grow w w') w:=by
 refine uS2 (dB 9247689947541673049 [([13],[(4,5),(13,25)])] []) func291 (λ_ _ _ _=>⟨by conv=>lhs;reduce,by dsimp only[PI,AF],by kernel_rfl⟩) ?_;unfold uI;obtain⟨Q,U,rfl,j⟩:=ha.shape;obtain⟨pb,cb,rfl,q⟩:=hb.shape;simp only[AO];rw[BL];refine AW (λi=>?_) λi=>?_
 .exact bP (K:=λv w'=>v=.bool (decide (l=m))/\Grow w w') (bin:=λx y=>Di .neq 56 _ _ x y) ha hb (by omega) j (λr V x y B I J=>by subst I;subst J;exact Ry _ _ _ _ B) λ_ O=>⟨rfl,O⟩
 .refine⟨?_,Mod.refl _ _⟩;congr 1;symm
  rw[mR];intro e;exact i (by rw[e])
def Ye{S i:Nat->Prop}{a b:Value}{l m:List Chg}(ha:EV S w a l)(hb:EV i w b m) :
  AB prog 190 [a,b] (λv w'=>v=.bool (decide (l=m))/\Grow w w') w:=by
 apply Zb;exact fe ha hb
def DC{t:TypeId}(h:∀b i,b=w.heap.size->i.heap.size=w.heap.size+1->Grow w i->(∀j v,vs[j]?=some v->i.cell? ((⟨b,0,none⟩:Addr).add j)=some v)->(∀j,j<vs.length->Live i ((⟨b,0,none⟩:Addr).add j))->K (.pointer (some ⟨b,0,none⟩)) i):Gf t (.agg vs.toArray) K w:=by
 refine⟨vs,rfl,?_⟩;refine h w.heap.size _ rfl (by simp) (Mod.alloc _ _ _) (λj v o=>FQ o) λj q=>?_;have m:(⟨w.heap.size,0,none⟩:Addr).add j=⟨w.heap.size,j,none⟩:=by unfold Addr.add;split<;>simp_all
 rw[m];refine⟨?_,q9 ..⟩;rw[qF];simp[q]
def Z1{t:TypeId}{o vs:List Value}{K:Value->World->Prop}(hl:o.length=vs.length)(h1:∀v∈vs,v.oneCell'=true)(h:∀b i,b=w.heap.size->i.heap.size=w.heap.size+1->Grow w i->(∀j v,vs[j]?=some v->i.cell? ((⟨b,0,none⟩:Addr).add j)=some v)->(∀j,j<vs.length->Live i ((⟨b,0,none⟩:Addr).add j))->K (.pointer (some ⟨b,0,none⟩)) i) :
  Bt t o (λt5 q=>BP vs.length t5 (.agg vs.toArray) (λw4=>K t5 w4) q) w:=by
 refine Rm (iV hl h1 ?_);obtain⟨m,e,B⟩:=DC (t:=t) (K:=K) (w:=w) h;have:vs=m:=by
  have:=lV Value.cells e;simpa[Value.cells] using this
 subst this;exact B
def BH{t:TypeId}{n:Nat}{m vs:List Value}{K:Value->World->Prop}(o:vs.length=n)(hl:m.length=n)(h1:∀v∈vs,v.oneCell'=true)(h:∀b i,b=w.heap.size->i.heap.size=w.heap.size+1->Grow w i->(∀j v,vs[j]?=some v->i.cell? ((⟨b,0,none⟩:Addr).add j)=some v)->(∀j,j<vs.length->Live i ((⟨b,0,none⟩:Addr).add j))->K (.pointer (some ⟨b,0,none⟩)) i) :
  Bt t m (λt5 q=>BP n t5 (.agg vs.toArray) (λw4=>K t5 w4) q) w:=by
 subst o;exact Z1 hl h1 h
def Ek{P:Program}{ok:Nat->Bool}{g:Nat}(i:ok g=true)(h:AB P g args K w):Cs P ok (.func (.func g) #[] #[]) args K w:=.inl ⟨g,[],[],rfl,i,by simpa using h⟩
def AP{i:Addr->Value->Prop}{a:Addr}{k:Value->Prop}(h:i a v)(hk:k v):DQ i (.pointer (some a)) k:=⟨a,v,rfl,h,hk⟩
def CG{i:Addr->Value->Prop}{m:Nat}{a:Addr}{k:Value->Prop}(hl:vs.length=m)(h:∀j v,vs[j]?=some v->i (a.add j) v)(hk:k (.agg vs.toArray)):GD i m (.pointer (some a)) k:=⟨a,vs,rfl,hl,h,hk⟩
def Cv{F:(World->Prop)->Prop}(C:World->Prop)(h0:C w.drew)(h:F C):Jt w F:=⟨C,h0,h⟩
def AT{Ax:List Nat}{AN:List (List Nat)}{F:(Nat->Nat->Prop)->(Nat->Addr->Value->Prop)->Prop}(M:Nat->Nat->Prop)(h:F M (Uh Ax AN M w0)):CM Ax AN w0 F:=⟨M,h⟩
def N3{b:Nat}:∀(vs:List Value) (i:Nat) (W:World),(∀j,i<=j->j<i+vs.length->Live W ((⟨b,0,none⟩:Addr).add j))->
  Mod (λx=>x=b) W (EN W ⟨b,0,none⟩ i vs)/\(∀j u,vs[j]?=some u->(EN W ⟨b,0,none⟩ i vs).cell? ((⟨b,0,none⟩:Addr).add (i+j))=some u)/\(∀j,j<i->(EN W ⟨b,0,none⟩ i vs).cell? ((⟨b,0,none⟩:Addr).add j)=W.cell? ((⟨b,0,none⟩:Addr).add j))/\(∀a,Live W a->Live (EN W ⟨b,0,none⟩ i vs) a):=by
 intro vs;induction vs with
 |nil=>intro i W _;exact⟨Mod.refl _ _,λj u hu=>by simp at hu,λ_ _=>rfl,λ_ h=>h⟩
 |cons x vs o=>
  intro i W hl;simp only[EN];obtain⟨i1,i2,i3,i4⟩:=o (i+1) (W.setCell ((⟨b,0,none⟩:Addr).add i) x) (λj h1 q=>(hl j (by omega) (by simp;omega)).set _ _);refine⟨(Mod.setCell _ _ _ (by rw[AI])).trans i1,λj u hu=>?_,λj B=>?_,λa ha=>i4 a (ha.set _ _)⟩
  .cases j with
   |zero=>
    simp at hu;subst hu;obtain⟨I,m⟩:=lD.1 (hl i (K8 _) (by simp)).1;exact(i3 i (by omega)).trans (lM _ _ _ m)
   |succ j=>
    have:=i2 j u (by simpa using hu);rw[show i+(j+1)=i+1+j by omega];exact this
  .rw[i3 j (by omega),S4 _ _ _ _ (by rw[AI,AI];intro e;simp only[Addr.mk.injEq] at e;omega)]
def BB{b n:Nat}{K:World->Prop}(m:vs.length=n)(h1:∀v∈vs,v.oneCell'=true)(hl:∀j,j<n->Live W ((⟨b,0,none⟩:Addr).add j))
 (o:∀W',Mod (λx=>x=b) W W'->(∀j u,vs[j]?=some u->W'.cell? ((⟨b,0,none⟩:Addr).add j)=some u)->(∀a,Live W a->Live W' a)->K W'):BP n (.pointer (some ⟨b,0,none⟩)) (.agg vs.toArray) K W:=by
 obtain⟨q,B,_,I⟩:=N3 (b:=b) vs 0 W (λj _ i=>hl j (by omega));exact⟨_,vs,rfl,rfl,m,h1,λj i=>hl j i,o _ q (λj u hu=>by have:=B j u hu;rwa [mQ] at this) I⟩
def Bz{t:TypeId}{i:List Value}(h:∀b m,b=w.heap.size->m.heap.size=w.heap.size+1->Grow w m->(∀j v,i[j]?=some v->m.cell? ((⟨b,0,none⟩:Addr).add j)=some v)->(∀j,j<i.length->Live m ((⟨b,0,none⟩:Addr).add j))->K (.pointer (some ⟨b,0,none⟩)) m):Bt t i K w:=by
 refine Rm ?_;obtain⟨o,e,q⟩:=DC (t:=t) (vs:=i) (K:=K) (w:=w) h;have:i=o:=by have:=lV Value.cells e;simpa[Value.cells] using this
 subst this;exact q
def Lv(x:Int):-9223372036854775808<=IntKind.i64.wrap x/\IntKind.i64.wrap x<=9223372036854775807:=by
 have i:(2:Int) ^ IntKind.i64.bits=18446744073709551616:=by decide
 have j:(2:Int) ^ (IntKind.i64.bits-1)=9223372036854775808:=by decide
 simp only[IntKind.wrap,i,j,IntKind.signed,pG,jD];split<;>omega
def AK{n:Nat}(h:(n:Int)+1<=9223372036854775807):Value.int .i64 (IntKind.i64.wrap ((n:Int)+1))=.int .i64 ((n+1:Nat):Int):=by
 rw[wrap64 (by omega) (by omega)];rfl
def Bw{q:IntKind}{n:Int}{r:List Value}:Dh (.int q n::r) 0=n.toNat:=rfl
def Ar{a:Value}{q:IntKind}{n:Int}{r:List Value}:Dh (a::.int q n::r) 1=n.toNat:=rfl
def aW{a b:Value}{q:IntKind}{n:Int}{r:List Value}:Dh (a::b::.int q n::r) 2=n.toNat:=rfl
def EK(r:Int):Prop:=0<=r/\r<55296\/57344<=r/\r<=1114111
instance (r:Int):Decidable (EK r):=by unfold EK;infer_instance
def FZ(o:Dop):Prop:=(o.kind=1/\o.Ab=[]/\o.set=[]/\1<=o.n/\o.n<=536870912)\/(o.kind=3/\o.Ab=[]/\o.set=[]/\o.patch=[]/\1<=o.n/\o.n<=536870912)\/
 (o.kind=2/\(∀r∈o.Ab,EK r)/\o.n=0/\o.patch=[]/\1<=o.Ab.length/\o.Ab.length<=536870912)
instance (o:Dop):Decidable (FZ o):=by unfold FZ;infer_instance
def TH{l:List α}:((l.length:Int)=0)↔l=[]:=by
 constructor
 .intro h;exact Of (by omega)
 .rintro rfl;rfl
def MP(o:Dop):Int:=if o.kind=2 then o.Ab.length else o.n
def Cq(f:Dop->Int)(x:List Dop):Int:=x.foldl (λs o=>IntKind.i64.wrap (s+f o)) 0
def Fj{f:Dop->Int}{x:List Dop}{k:Nat}(h:k<x.length):Cq f (x.take (k+1))=IntKind.i64.wrap (Cq f (x.take k)+f x[k]):=by
 rw[S5,Bq h];simp only[Cq,mY,Option.toList,mr,pN]
def Bh(o:Dop):Int:=if o.kind=2 then 0 else o.n
def Bn(o:Dop):Int:=if o.kind=3 then 0 else MP o
def Ez{f:Dop->Int}{m:Int}(hm:0<=m)(x:List Dop)(h:∀o∈x,0<=f o/\f o<=m)(hb:x.length*m<=4611686018427387904):Cq f x=(x.map f).sum/\0<=Cq f x/\Cq f x<=x.length*m:=by
 induction x using Ij with
 |h0=>exact⟨rfl,by simp[Cq],by simp[Cq]⟩
 |h1 x o j=>
  have q:∀o∈x,0<=f o/\f o<=m:=λo i=>h o (by simp[i]);have i:=h o (by simp);have e:((x++[o]).length:Int)*m=x.length*m+m:=by simp[Int.add_mul]
  rw[e] at hb;obtain⟨i1,i2,i3⟩:=j q (by omega);have B:Cq f (x++[o])=IntKind.i64.wrap (Cq f x+f o):=by simp[Cq]
  rw[B,wrap64 (by omega) (by omega),e];refine⟨by rw[i1];simp,by omega,by omega⟩
def Fm{P:Program}{t e k:Nat}{i:TypeInfo}{R:World->List Value->α->Prop}{a:Option Addr}{n c:Nat}{l:List α}(ht:P.underlying t=some (.slice e))(hi:P.info? e=some i)(hk:i.size=k)
 (h:An S k R w (.slice a n c) l)(X:j<=l.length)(I:∀v',An S k R w v' (l.drop j)->K v' w):runK P (Instr.sliceAt t (.slice a n c) (some (zI j)) none none) K w:=by
 obtain⟨Y,Z,J,h1,h2,O⟩:=h;cases J;have o:P.elem t=e:=by simp[Program.elem,ht]
 refine⟨sliced a j l.length c k,w,?_,I _ ?_⟩
 .rw[nS _ _ _ _ _ _ (by rw[o];exact ht),run_slice_l _ _ _ _ _ (by rw[o];exact ht) _ _ (by omega) (by omega),o];simp[sizeOf,typeInfo,hi,hk]
 .unfold sliced;refine⟨_,_,by rw[Hy],by rw[Hy];omega,by omega,λq x B=>?_⟩;rw[mM] at B;obtain⟨p,r,rfl,Q,hr,hc,U⟩:=O _ x B;have V:=(Ad.1 B).1;rw[Bp (by omega)];refine⟨p.add (j*k),r,rfl,by rw[Ac];exact Q,hr,λm u hu=>?_,U⟩;rw[Addr.add_add,<-mo,<-mC];exact hc m u hu
def NK{P:Program}{t e k:Nat}{i:TypeInfo}{R:World->List Value->α->Prop}{a:Option Addr}{n c:Nat}{l:List α}(ht:P.underlying t=some (.slice e))(hi:P.info? e=some i)(hk:i.size=k)
 (h:An S k R w (.slice a n c) l)(V:j<=l.length)(I:∀v',An S k R w v' (l.take j)->K v' w):runK P (Instr.sliceAt t (.slice a n c) none (some (zI j)) none) K w:=by
 obtain⟨X,Y,J,h1,Z,O⟩:=h;cases J;have o:P.elem t=e:=by simp[Program.elem,ht]
 refine⟨sliced a 0 j c k,w,?_,I _ ?_⟩
 .rw[nS _ _ _ _ _ _ (by rw[o];exact ht),rf _ _ _ _ _ (by rw[o];exact ht) _ _ (by omega) (by omega),o];simp[sizeOf,typeInfo,hi,hk]
 .unfold sliced;have hl:(l.take j).length=j:=by simp;omega
  refine⟨_,_,by rw[hl,Nat.sub_zero],by rw[hl];omega,by omega,λq x B=>?_⟩;rw[mT] at B;split at B
  .obtain⟨p,r,rfl,Q,hr,hc,U⟩:=O _ x B;rw[Bp (by omega)];refine⟨p.add (0*k),r,rfl,by rw[Ac];exact Q,hr,λm u hu=>?_,U⟩;rw[Addr.add_add,pz,mQ];exact hc m u hu
  .cases B
abbrev H9:World->List Value->Int->Prop:=λ_ r x=>r=[.int .u8 x]
abbrev Bv(S:Nat->Prop)(w:World)(v:Value)(l:List Int):Prop:=An S 1 H9 w v l
def Bm(s:ByteArray):List Int:=s.data.toList.map λb=>(b.toNat:Int)
def IT(r:Int):Nat:=if r<128 then 1 else if r<2048 then 2 else if r<65536 then 3 else 4
def JT{e k len:Nat}{j:List (Nat×Value)}(m:Instr.fill (λi=>some (i*k,k)) ((Array.range (len*k)).map (vs.toArray[· % vs.toArray.size]!)) j=some cs.toArray)(h:K (.slice (some ⟨w.heap.size,0,none⟩) len len) (w.alloc (.cells cs.toArray e))):Dg e k len vs j K w:=⟨_,m,h⟩
def Cz(i:Int):Option (Nat×Int):=
 if 240<=i then some (4,IntKind.i32.wrap (IntKind.i32.wrap i-240)) else if 224<=i then some (3,IntKind.i32.wrap (IntKind.i32.wrap i-224)) else if 192<=i then some (2,IntKind.i32.wrap (IntKind.i32.wrap i-192))
 else if 128<=i then none else some (1,IntKind.i32.wrap i)
def Ht(b:List Int):Nat->Nat->Int->Option Int
 |0,_,r=>some r
 |k+1,i,r=>match b[i]? with
  |some c=>if c<128\/191<c then none else Ht b k (i+1) (IntKind.i32.wrap (IntKind.i32.wrap (IntKind.i32.wrap (r*64)+IntKind.i32.wrap c)-128))
  |none=>none
def Ct(b:List Int):Int×Nat:=match Cz (b.headD 0) with
 |none=>(0,0)
 |some (n,r)=>if b.length<n then(0,0) else match Ht b (n-1) 1 r with
  |none=>(0,0)
  |some r=>if EK r/\IT r=n then(r,n) else(0,0)
def Sq{i r:Int}{n:Nat}(h:Cz i=some (n,r)):1<=n/\n<=4:=by
 unfold Cz at h;split at h
 .cases h;omega
 split at h
 .cases h;omega
 split at h
 .cases h;omega
 split at h
 .cases h
 .cases h;omega
def Vq(b:List Int):(Ct b).2<=b.length/\(Ct b).2<=4:=by
 unfold Ct;split
 .exact⟨Nn _,Nn _⟩
 .rename_i n r h;have:=Sq h;split
  .exact⟨Nn _,Nn _⟩
  .split
   .exact⟨Nn _,Nn _⟩
   .split<;>simp only<;>omega
def Jq{P:Program}{t e k bytes B:Nat}{R:World->List Value->α->Prop}{l:List α}{x:α}{o:List (Nat×Value)}(hE:Ch P t e k bytes)(h:AE B e k R w v l)(hB:B<=w.heap.size)
 (hf:Instr.fill (λi=>some (i*k,k)) ((Array.range (1*k)).map (vs.toArray[· % vs.toArray.size]!)) o=some cs.toArray)(U:cs.length=k)(hx:R w cs x)(O:∀w r y,R w r y->∀u∈r,u.oneCell'=true)
 (V:∀m w2 r y,w.heap.size<=m.heap.size->Mod (λb=>v.ownBlock=some b\/w.heap.size<=b) m w2->R m r y->R w2 r y)(Q:(l.length+1)*bytes<=140737488355328)(X:l.length+1<=maxLen)
 {Q1:World->Prop}{Q2:World->World->Prop}(Y:∀m,Grow w m->Q1 m)
 (hK:∀m v' w',AE B e k R w' v' (l++[x])->Mod (λb=>v.ownBlock=some b) m w'->Mod (λb=>v.ownBlock=some b) w w'->(∀g,v'.ownBlock=some g->v.ownBlock=some g\/w.heap.size<=g)->Q2 m w'/\K v' w') :
  Dg e k 1 vs o (λs m=>Q1 m/\runK P (Builtin.append_ #[t,t] t [v,s].toArray) (λv' w'=>Q2 m w'/\K v' w') m) w:=by
 refine⟨_,hf,?_⟩;have J:Grow w (w.alloc (.cells cs.toArray e)):=Mod.alloc _ _ _;have hc:∀j u,cs[j]?=some u->(w.alloc (.cells cs.toArray e)).cell? ((⟨w.heap.size,0,none⟩:Addr).add j)=some u:=λj u hu=>FQ hu;have hz:(w.alloc (.cells cs.toArray e)).heap.size=w.heap.size+1:=by simp
 generalize w.alloc (.cells cs.toArray e)=m at J hc hz ⊢;have h':AE B e k R m v l:=AE.mod h J (λ_ _ h=>h) λr y _ q=>V _ _ _ _ (K8 _) J.mod q;have hs:An (λ_=>True) k R m (.slice (some ⟨w.heap.size,0,none⟩) 1 1) [x]:=by
  refine⟨_,1,rfl,K8 _,by simp[maxLen],λi y q=>?_⟩;have hi:i=0:=by have:=(Ad.1 q).1;simp at this;exact this
  subst hi;simp at q;subst q;exact⟨_,cs,rfl,trivial,U,λj u hu=>by rw[pz,mQ];exact hc j u hu,V _ _ _ _ (K8 _) J.mod hx⟩
 obtain⟨v',w',h1,h2,Z,h4⟩:=AE.append (ty:=t) hE h' hs (λ_ _=>O _ _ _) (by simpa using Q) (by omega) (by simpa using X) (λw2 I r y q=>V _ _ _ _ (by omega) ((Mod.of_grownBy I).mono λb _ e=>.inl e) q);refine⟨Y _ J,AX h1 (hK m v' w' h2 (Mod.of_grownBy Z) (J.mod.next (Mod.of_grownBy Z) λ_ _ h=>h) λg I=>?_)⟩;rcases h4 g I with h|h
 .exact .inl h
 .exact .inr (by omega)
def Dp{P:Program}{t e k bytes B:Nat}{R:World->List Value->α->Prop}{l:List α}{x:α}{j:List (Nat×Value)}(O:Ch P t e k bytes)(h:AE B e k R w v l)(Q:B<=w.heap.size)
 (U:Instr.fill (λi=>some (i*k,k)) ((Array.range (1*k)).map (vs.toArray[· % vs.toArray.size]!)) j=some cs.toArray)(I:cs.length=k)(V:R w cs x)(o:∀w r y,R w r y->∀u∈r,u.oneCell'=true)
 (X:∀m w2 r y,w.heap.size<=m.heap.size->Mod (λb=>v.ownBlock=some b\/w.heap.size<=b) m w2->R m r y->R w2 r y)(q:(l.length+1)*bytes<=140737488355328)(J:l.length+1<=maxLen)
 (Y:∀v' w',AE B e k R w' v' (l++[x])->Mod (λb=>v.ownBlock=some b) w w'->(∀g,v'.ownBlock=some g->v.ownBlock=some g\/w.heap.size<=g)->K v' w') :
  Dg e k 1 vs j (λs m=>runK P (Builtin.append_ #[t,t] t [v,s].toArray) K m) w:=by
 obtain⟨c,h1,_,v',w',Z,_,h3⟩:=Jq (t:=t) (K:=K) (Q1:=λ_=>True) (Q2:=λ_ _=>True) O h Q U I V o X q J (λ_ _=>trivial) λm v' w' k1 _ k2 k3=>⟨trivial,Y v' w' k1 k2 k3⟩;exact⟨c,h1,v',w',Z,h3⟩
def Kh{P:Program}{t e k bytes:Nat}{R:World->List Value->α->Prop}{l:List α}{x:α}{j:List (Nat×Value)}(O:Ch P t e k bytes)(h:AE w0.heap.size e k R w v l)(J:Grow w0 w)
 (Q:Instr.fill (λi=>some (i*k,k)) ((Array.range (1*k)).map (vs.toArray[· % vs.toArray.size]!)) j=some cs.toArray)(B:cs.length=k)(U:R w cs x)(m:∀w r y,R w r y->∀u∈r,u.oneCell'=true)
 (V:∀o w2 r y,w.heap.size<=o.heap.size->Mod (λb=>v.ownBlock=some b\/w.heap.size<=b) o w2->R o r y->R w2 r y)(q:(l.length+1)*bytes<=140737488355328)(I:l.length+1<=maxLen)
 (X:∀v' w',AE w0.heap.size e k R w' v' (l++[x])->Grow w0 w'->K v' w') :
  Dg e k 1 vs j (λs o=>runK P (Builtin.append_ #[t,t] t [v,s].toArray) K o) w:=
 Dp O h J.size Q B U m V q I λv' w' h1 Y _=>X v' w' h1 (J.next Y λb hb e=>by have:=(AE.Aj h b e).1;omega)
def KD:Nat->List Int->Option (List Int)
 |0,b=>if b=[] then some [] else none
 |f+1,b=>if b=[] then some [] else if(Ct b).2=0 then none else(KD f (b.drop (Ct b).2)).map ((Ct b).1::·)
def Bf(b:List Int):Option (List Int):=KD b.length b
def SH:∀(f g:Nat) (b:List Int),b.length<=f->b.length<=g->KD f b=KD g b:=by
 intro f;induction f with
 |zero=>
  intro g b i j;have:b=[]:=Of (by omega);subst this;cases g<;>simp[KD]
 |succ f m=>
  intro g b i j;cases g with
  |zero=>
   have:b=[]:=Of (by omega);subst this;simp[KD]
  |succ g=>
   simp only[KD];split
   .rfl
   .split
    .rfl
    .rw[m g _ (by simp;omega) (by simp;omega)]
def NQ{b:List Int}(hb:b≠[]):Bf b=if(Ct b).2=0 then none else(Bf (b.drop (Ct b).2)).map ((Ct b).1::·):=by
 unfold Bf;obtain⟨n,i⟩:∃n,b.length=n+1:=⟨b.length-1,by have:=mN.2 hb;omega⟩;rw[i];simp only[KD,Bp hb];split
 .rfl
 .rw[SH n _ _ (by simp;omega) (K8 _)]
end Go.Proofs.YtbdjachmndlplaaGreatDoor
