/- parts of the proof, written short by a program of ours -/
import Derived.Test.YtmdhibffnkhcnaaGreatDoorZTextInvertsUpto0
import Derived.Laws.AppendOwnNone
import Derived.RangeFuncOwn
import Derived.RangeFuncLeaves
import Derived.WalkKit
set_option linter.unusedSimpArgs false
set_option linter.unusedVariables false
set_option linter.defProp false
namespace Go.Proofs.YtmdhibffnkhcnaaGreatDoor
open Go Proofs.Tryz
variable {j B:Nat}{w W w' W':World}{F S M:Nat->Prop}{v:Value}{vs cs args:List Value}{α:Type}{K:Cont}
section
variable {P:Program}{ok:Nat->Bool}{K:Cont}{k:Value->Prop}{w:World}
def FB(b:Bool)(A B:Prop):AD (.bool b) A B=if b=true then A else B:=by cases b<;>simp[AD]
def Zm(p:Prop)[Decidable p](A B:Prop):AD (.bool (decide p)) A B=if p then A else B:=by
 rw[FB];by_cases h:p<;>simp[h]
def YB(b:Bool)(x y:Value):MF (.bool b) x y k=k (if b=true then x else y):=by cases b<;>simp[MF]
def AQ(q:IntKind)(a b:Int):AW q (.int q a) (.int q b) k=k (.int q (q.wrap (a+b))):=propext ⟨fun⟨_,_,h1,i,h⟩=>by cases h1;cases i;exact h,fun h=>⟨_,_,rfl,rfl,h⟩⟩
def Aq(q:IntKind)(a b:Int):BR q (.int q a) (.int q b) k=k (.int q (q.wrap (a-b))):=propext ⟨fun⟨_,_,h1,i,h⟩=>by cases h1;cases i;exact h,fun h=>⟨_,_,rfl,rfl,h⟩⟩
def gO(q:IntKind)(a b:Int):dG q (.int q a) (.int q b) k=k (.int q (q.wrap (a*b))):=propext ⟨fun⟨_,_,h1,i,h⟩=>by cases h1;cases i;exact h,fun h=>⟨_,_,rfl,rfl,h⟩⟩
def Am(q:IntKind)(a b:Int):BU q (.int q a) (.int q b) k=k (.bool (decide (a<b))):=propext ⟨fun⟨_,_,h1,i,h⟩=>by cases h1;cases i;exact h,fun h=>⟨_,_,rfl,rfl,h⟩⟩
def IG(q:IntKind)(a b:Int):SZ q (.int q a) (.int q b) k=k (.bool (decide (a<=b))):=propext ⟨fun⟨_,_,h1,i,h⟩=>by cases h1;cases i;exact h,fun h=>⟨_,_,rfl,rfl,h⟩⟩
def BL(q:IntKind)(a b:Int):Eo q (.int q a) (.int q b) k=k (.bool (decide (b<a))):=propext ⟨fun⟨_,_,h1,i,h⟩=>by cases h1;cases i;exact h,fun h=>⟨_,_,rfl,rfl,h⟩⟩
def DW(q:IntKind)(a b:Int):Km q (.int q a) (.int q b) k=k (.bool (decide (b<=a))):=propext ⟨fun⟨_,_,h1,i,h⟩=>by cases h1;cases i;exact h,fun h=>⟨_,_,rfl,rfl,h⟩⟩
def Aj(q:IntKind)(a b:Int):Cu q (.int q a) (.int q b) k=k (.bool (decide (a=b))):=propext ⟨fun⟨_,_,h1,i,h⟩=>by cases h1;cases i;exact h,fun h=>⟨_,_,rfl,rfl,h⟩⟩
def Bk(q:IntKind)(a b:Int):Dp q (.int q a) (.int q b) k=k (.bool (!decide (a=b))):=propext ⟨fun⟨_,_,h1,i,h⟩=>by cases h1;cases i;exact h,fun h=>⟨_,_,rfl,rfl,h⟩⟩
def Gj(q:IntKind)(a b:Int):KM q (.int q a) (.int q b) k=k (.int q (if b>a then b else a)):=propext ⟨fun⟨_,_,h1,i,h⟩=>by cases h1;cases i;exact h,fun h=>⟨_,_,rfl,rfl,h⟩⟩
def HU(q:IntKind)(a b:Int):LJ q (.int q a) (.int q b) k=k (.int q (if b<a then b else a)):=propext ⟨fun⟨_,_,h1,i,h⟩=>by cases h1;cases i;exact h,fun h=>⟨_,_,rfl,rfl,h⟩⟩
def dx(a b:Bool):dm (.bool a) (.bool b) k=k (.bool (a==b)):=propext ⟨fun⟨_,_,h1,i,h⟩=>by cases h1;cases i;exact h,fun h=>⟨_,_,rfl,rfl,h⟩⟩
def Qw(a b:Bool):VH (.bool a) (.bool b) k=k (.bool (!(a==b))):=propext ⟨fun⟨_,_,h1,i,h⟩=>by cases h1;cases i;exact h,fun h=>⟨_,_,rfl,rfl,h⟩⟩
def fh(a b:ByteArray):dP (.string a) (.string b) k=k (.bool (decide (a=b))):=propext ⟨fun⟨_,_,h1,i,h⟩=>by cases h1;cases i;exact h,fun h=>⟨_,_,rfl,rfl,h⟩⟩
def fD(a b:ByteArray):gn (.string a) (.string b) k=k (.bool (!decide (a=b))):=propext ⟨fun⟨_,_,h1,i,h⟩=>by cases h1;cases i;exact h,fun h=>⟨_,_,rfl,rfl,h⟩⟩
def Sm(a:Option Addr)(n c:Nat)(k:Bool->Prop):Gl (.slice a n c) k=k a.isNone:=propext ⟨fun⟨_,_,_,h1,h⟩=>by cases h1;exact h,fun h=>⟨_,_,_,rfl,h⟩⟩
def JV(a:Option Addr)(k:Bool->Prop):CY (.pointer a) k=k a.isNone:=propext ⟨fun⟨_,h1,h⟩=>by cases h1;exact h,fun h=>⟨_,rfl,h⟩⟩
def An(a:Bool):CA (.bool a) k=k (.bool (!a)):=propext ⟨fun⟨_,h1,h⟩=>by cases h1;exact h,fun h=>⟨_,rfl,h⟩⟩
def AP(a:Option Addr)(n c:Nat):Ac (.slice a n c) k=k (zI n):=propext ⟨fun⟨_,_,_,h1,h⟩=>by cases h1;exact h,fun h=>⟨_,_,_,rfl,h⟩⟩
def LR(s:ByteArray):L9 (.string s) k=k (zI s.size):=propext ⟨fun⟨_,h1,h⟩=>by cases h1;exact h,fun h=>⟨_,rfl,h⟩⟩
def Bj(a:Addr):AK (.pointer (some a)) k=k (.pointer (some a)):=propext ⟨fun⟨_,h1,h⟩=>by cases h1;exact h,fun h=>⟨_,rfl,h⟩⟩
def AG(off:Nat)(a:Addr):AM off (.pointer (some a)) k=k (.pointer (some (a.add off))):=propext ⟨fun⟨_,h1,h⟩=>by cases h1;exact h,fun h=>⟨_,rfl,h⟩⟩
def Bl(vs:List Value):nth vs 0=vs.headD undef:=rfl
def Wq(vs:List Value)(k:Nat):nth vs (k+1)=nth vs.tail k:=rfl
def Addr.add_add(a:Addr)(x y:Nat):(a.add x).add y=a.add (x+y):=by
 unfold Addr.add;split<;>split<;>simp_all<;>omega
def AT{s:Nat}{a:Addr}{n c:Nat}{q:IntKind}(h1:j<n)(h:k (.pointer (some (a.add (j*s))))):BM s (.slice (some a) n c) (.int q (j:Int)) k:=
 ⟨_,_,_,_,_,rfl,rfl,by omega,by omega,by simpa using h⟩
def AL{a:Addr}(hc:w.cell? a=some v)(h:K v w):AJ (.pointer (some a)) K w:=⟨a,v,rfl,hc,h⟩
def Ah{n:Nat}{a:Addr}(hl:vs.length=n)(hc:∀j v,vs[j]?=some v->w.cell? (a.add j)=some v)(h:K (.agg vs.toArray) w):Aa n (.pointer (some a)) K w:=⟨a,vs,rfl,hl,hc,h⟩
def Ay{C:World->Prop}{a:Addr}(hc:∀w,C w->w.cell? a=some v)(h:k v):BN C (.pointer (some a)) k:=⟨a,v,rfl,hc,h⟩
def Fe{C:World->Prop}{n:Nat}{a:Addr}(hl:vs.length=n)(hc:∀w,C w->∀j v,vs[j]?=some v->w.cell? (a.add j)=some v)(h:k (.agg vs.toArray)):HD C n (.pointer (some a)) k:=⟨a,vs,rfl,hl,hc,h⟩
def Kg{a:Addr}{v u:Value}{K:World->Prop}(h1:v.oneCell'=true)(i:v.cells=#[v])(hc:w.cell? a=some u)(j:w.frozen? a=false)(h:K (w.setCell a v)):Av (.pointer (some a)) v K w:=⟨a,u,rfl,h1,i,hc,j,h⟩
def CL{i:Nat}(j:vs[i]?=some v)(h:k v):AR i (.tuple vs.toArray) k:=⟨vs,v,rfl,j,h⟩
def AV{R:List Value->World->Prop}{G:(List Value->World->Prop)->Prop}(I:List Value->World->Prop)(h1:∀vs w,I vs w->R vs w)(i:G I):Ao R G:=⟨I,h1,i⟩
def AX{i:List Value}{F:List Value->(List Value->World->Prop)->World->Prop}(I:List Value->World->Prop)(μ:List Value->World->Nat)(h0:I i w)(h:∀vs w,I vs w->F vs (fun j w'=>I j w'/\μ j w'<μ vs w) w):Ap i F w:=⟨I,μ,h0,h⟩
def AA{g:Nat}{i:Cont}(h:AB P g args K w)(hk:∀v w',K v w'->i v w'):AB P g args i w:=
 nz h fun _ _ ⟨v,h1,j⟩=>⟨v,h1,hk _ _ j⟩
def Ae{s:Sem Value}(h1:s.run P w=.ok v w')(h:K v w'):runK P s K w:=⟨v,w',h1,h⟩
def Qx{t:TypeId}(h:K (.pointer (some ⟨w.heap.size,0,none⟩)) (w.alloc (.cells cs.toArray t))):Al t cs K w:=h
def wrap64{x:Int}(h0:-9223372036854775808<=x)(h1:x<=9223372036854775807):IntKind.i64.wrap x=x:=by
 have i:(2:Int) ^ IntKind.i64.bits=18446744073709551616:=by decide
 have j:(2:Int) ^ (IntKind.i64.bits-1)=9223372036854775808:=by decide
 simp only[IntKind.wrap,i,j,IntKind.signed,oZ,TC];split<;>omega
def Vb(w:World)(t:TypeId):∀(vs done j:List Value),j.length=vs.length->EW (w.alloc (.cells (done++j).toArray t)) ⟨w.heap.size,0,none⟩ done.length vs=w.alloc (.cells (done++vs).toArray t):=by
 intro vs;induction vs with
 |nil=>intro done j hl;have:j=[]:=QC hl;subst this;rfl
 |cons v vs B=>
  intro done j hl;cases j with
  |nil=>simp at hl
  |cons z j=>
   simp only[EW];have h1:(w.alloc (.cells (done++z::j).toArray t)).setCell ((⟨w.heap.size,0,none⟩:Addr).add done.length) v=w.alloc (.cells ((done++[v])++j).toArray t):=by
    have m:(⟨w.heap.size,0,none⟩:Addr).add done.length=⟨w.heap.size,done.length,none⟩:=by unfold Addr.add;split<;>simp_all
    rw[m];simp only[World.setCell,World.alloc];congr 1
    rw[<-pW,Array.toList_modify];simp only[pN];apply mI;intro i;rw[List.getElem?_modify];by_cases hi:w.heap.size=i
    .subst hi;simp[np,List.setIfInBounds_toArray]
    .rcases qH hi with I|o
     .have J:¬i<w.heap.size:=by omega
      have q:¬i-w.heap.size=0:=by omega
      simp[hi,np,List.getElem?_singleton,J,q]
     .simp[hi,np,o]
   rw[h1];have:=B (done++[v]) j (by simpa using hl);simpa using this
def jF{t:TypeId}{m vs:List Value}{K:World->Prop}(hl:m.length=vs.length)(h1:∀v∈vs,v.oneCell'=true)(h:K (w.alloc (.cells vs.toArray t))) :
  Ab vs.length (.pointer (some ⟨w.heap.size,0,none⟩)) (.agg vs.toArray) K (w.alloc (.cells m.toArray t)):=by
 refine⟨_,vs,rfl,rfl,rfl,h1,fun j o=>?_,?_⟩
 .have i:(⟨w.heap.size,0,none⟩:Addr).add j=⟨w.heap.size,j,none⟩:=by unfold Addr.add;split<;>simp_all
  rw[i,pU,qe];refine⟨?_,rfl⟩;have:j<m.length:=by omega
  simp[this]
 .have:=Vb w t vs [] m hl;simp only[ky,lG] at this;rw[this];exact h
end
def KS :
  (∀(b:Bool) (A B:Prop),AD (.bool b) A B=if b=true then A else B)/\
  (∀{p:Prop} [Decidable p],(decide p=true)=p)/\
  (∀{a b:Bool},((!a)=b)↔(a=!b))/\
  ((!true)=false)/\
  (∀{p:Prop} [Decidable p],decide p=false↔¬p)/\
  (∀{k:Value->Prop} (b:Bool) (x y:Value),MF (.bool b) x y k=k (if b=true then x else y))/\
  (∀{k:Value->Prop} (q:IntKind) (a b:Int),AW q (.int q a) (.int q b) k=k (.int q (q.wrap (a+b))))/\
  (∀{k:Value->Prop} (q:IntKind) (a b:Int),BR q (.int q a) (.int q b) k=k (.int q (q.wrap (a-b))))/\
  (∀{k:Value->Prop} (q:IntKind) (a b:Int),dG q (.int q a) (.int q b) k=k (.int q (q.wrap (a*b))))/\
  (∀{k:Value->Prop} (q:IntKind) (a b:Int),BU q (.int q a) (.int q b) k=k (.bool (decide (a<b))))/\
  (∀{k:Value->Prop} (q:IntKind) (a b:Int),SZ q (.int q a) (.int q b) k=k (.bool (decide (a<=b))))/\
  (∀{k:Value->Prop} (q:IntKind) (a b:Int),Eo q (.int q a) (.int q b) k=k (.bool (decide (b<a))))/\
  (∀{k:Value->Prop} (q:IntKind) (a b:Int),Km q (.int q a) (.int q b) k=k (.bool (decide (b<=a))))/\
  (∀{k:Value->Prop} (q:IntKind) (a b:Int),Cu q (.int q a) (.int q b) k=k (.bool (decide (a=b))))/\
  (∀{k:Value->Prop} (q:IntKind) (a b:Int),Dp q (.int q a) (.int q b) k=k (.bool (!decide (a=b))))/\
  (∀{k:Value->Prop} (q:IntKind) (a b:Int),KM q (.int q a) (.int q b) k=k (.int q (if b>a then b else a)))/\
  (∀{k:Value->Prop} (q:IntKind) (a b:Int),LJ q (.int q a) (.int q b) k=k (.int q (if b<a then b else a)))/\
  (∀{k:Value->Prop} (a b:Bool),dm (.bool a) (.bool b) k=k (.bool (a==b)))/\
  (∀{k:Value->Prop} (a b:Bool),VH (.bool a) (.bool b) k=k (.bool (!(a==b))))/\
  (∀{k:Value->Prop} (a b:ByteArray),dP (.string a) (.string b) k=k (.bool (decide (a=b))))/\
  (∀{k:Value->Prop} (a b:ByteArray),gn (.string a) (.string b) k=k (.bool (!decide (a=b))))/\
  (∀(a:Option Addr) (n c:Nat) (k:Bool->Prop),Gl (.slice a n c) k=k a.isNone)/\
  (∀(a:Option Addr) (k:Bool->Prop),CY (.pointer a) k=k a.isNone)/\
  (∀{k:Value->Prop} (a:Bool),CA (.bool a) k=k (.bool (!a)))/\
  (∀{k:Value->Prop} (a:Option Addr) (n c:Nat),Ac (.slice a n c) k=k (zI n))/\
  (∀{k:Value->Prop} (s:ByteArray),L9 (.string s) k=k (zI s.size))/\
  (∀{k:Value->Prop} (a:Addr),AK (.pointer (some a)) k=k (.pointer (some a)))/\
  (∀{k:Value->Prop} (off:Nat) (a:Addr),AM off (.pointer (some a)) k=k (.pointer (some (a.add off))))/\
  (∀(a:Addr) (x y:Nat),(a.add x).add y=a.add (x+y))/\
  (∀(vs:List Value),nth vs 0=vs.headD undef)/\
  (∀(vs:List Value) (k:Nat),nth vs (k+1)=nth vs.tail k)/\
  (∀{a d:Value} {l:List Value},(a::l).headD d=a)/\
  (∀{a:Value} {l:List Value},(a::l).tail=l)/\
  ((none:Option Addr).isNone=true)/\
  (∀{a:Addr},(some a).isNone=false)/\
  ((false=true)=False)/\
  (∀{α:Type} {h:Decidable True} (t e:α),(@ite α True h t e)=t)/\
  (∀{α:Type} {h:Decidable False} (t e:α),(@ite α False h t e)=e):=
 ⟨@FB,by simp,by intro a b;cases a<;>cases b<;>simp,by simp,by simp,@YB,@AQ,@Aq,@gO,@Am,@IG,@BL,@DW,@Aj,@Bk,@Gj,@HU,@dx,@Qw,@fh,@fD,@Sm,@JV,@An,@AP,@LR,@Bj,@AG,@Addr.add_add,@Bl,@Wq,by simp,by simp,by simp,by simp,by simp,by simp,by simp⟩
abbrev Grow(w w':World):Prop:=Mod (fun _=>False) w w'
def Grow.mod(h:Grow w w'):Mod M w w':=Mod.mono h fun _ _ h=>h.elim
def Mod.below(h:Mod M w w')(j:B<=w.heap.size)(hm:∀b,M b->B<=b):RowKit.Below B w w':=
 ⟨h.os,h.tape,h.output,h.size,fun b hb=>h.same b (by omega) fun i=>by have:=hm b i;omega⟩
def Mod.drew(M:Nat->Prop)(w:World):Mod M w w.drew:=⟨rfl,rfl,rfl,Mp _,fun _ _ _=>rfl⟩
def Mod.alloc(M:Nat->Prop)(w:World)(o:Obj):Mod M w (w.alloc o):=⟨rfl,rfl,rfl,by simp,fun b hb _=>pJ w o b hb⟩
def Mod.setCell(w:World)(a:Addr)(v:Value)(h:M a.block):Mod M w (w.setCell a v):=⟨rfl,rfl,rfl,by simp,fun b _ i=>RowKit.Below.heap_setCell w a v b fun e=>i (e▸h)⟩
def Mod.of_grownBy{row:Option Nat}(h:w.grownBy w' row):Mod (fun b=>row=some b) w w':=⟨h.os,h.tape,h.output,h.size,fun b hb i=>h.block b hb fun e=>i e.symm⟩
def Mod.cell{M:Nat->Prop}{w w':World}(h:Mod M w w'){a:Addr}{v:Value}(hc:w.cell? a=some v)(hm:¬M a.block):w'.cell? a=some v:=
 (lz (h.same a.block (lF w a hc) hm)).trans hc
def Mod.frozen{M:Nat->Prop}{w w':World}(h:Mod M w w'){a:Addr}(hb:a.block<w.heap.size)(hm:¬M a.block):w'.frozen? a=w.frozen? a:=
 ql (h.same a.block hb hm)
def BB{α:Type}(S:Nat->Prop)(k:Nat)(R:World->List Value->α->Prop)(w:World)(v:Value)(l:List α):Prop:=
 ∃a c,v=.slice a l.length c/\l.length<=c/\c<=maxLen/\∀i x,l[i]?=some x->∃p r,a=some p/\S p.block/\r.length=k/\(∀j u,r[j]?=some u->w.cell? (p.add (i*k+j))=some u)/\R w r x
def BB.mono{α:Type}{S o:Nat->Prop}{k:Nat}{R R':World->List Value->α->Prop}{w w':World}{v:Value}{l:List α}(h:BB S k R w v l)
 (J:∀b,b<w.heap.size->S b->o b)(hb:∀b,b<w.heap.size->S b->w'.heap[b]?=w.heap[b]?)(hk:0<k)(O:∀r x,R w r x->R' w' r x):BB o k R' w' v l:=by
 obtain⟨a,c,h1,Q,T,U⟩:=h;refine⟨a,c,h1,Q,T,fun i x V=>?_⟩;obtain⟨p,r,X,q,B,I,Y⟩:=U i x V;have m:p.block<w.heap.size:=by
  cases r with
  |nil=>simp at B;omega
  |cons u r=>
   have:=lF w _ (I 0 u rfl);have e:(p.add (i*k+0)).block=p.block:=by unfold Addr.add;split<;>rfl
   rwa [e] at this
 refine⟨p,r,X,J _ m q,B,fun j u hu=>?_,O _ _ Y⟩;have e:(p.add (i*k+j)).block=p.block:=by unfold Addr.add;split<;>rfl
 rw[lz (w:=w) (by rw[e];exact hb _ m q)];exact I j u hu
def BB.nil{k:Nat}{R:World->List Value->α->Prop}:BB S k R w (.slice none 0 0) []:=
 ⟨none,0,rfl,Mp _,by simp[maxLen],fun i x j=>by simp at j⟩
def De(vs:List Value)(j:Nat):Nat:=match nth vs j with|.int _ n=>n.toNat|_=>0
def BB.get{k:Nat}{R:World->List Value->α->Prop}{a:Option Addr}{n c:Nat}{l:List α}(h:BB S k R w (.slice a n c) l){i:Nat}(hi:i<l.length) :
  ∃p r,a=some p/\S p.block/\r.length=k/\(∀j u,r[j]?=some u->w.cell? (p.add (i*k+j))=some u)/\R w r l[i]:=by
 obtain⟨o,q,h1,B,I,m⟩:=h;cases h1;exact m i l[i] (by simp[hi])
def BB.shape{k:Nat}{R:World->List Value->α->Prop}{l:List α}(h:BB S k R w v l):∃a c,v=.slice a l.length c/\l.length<=maxLen:=by
 obtain⟨i,j,h1,m,o,q⟩:=h;exact⟨i,j,h1,lV m o⟩
def AE{α:Type}(B e k:Nat)(R:World->List Value->α->Prop)(w:World)(v:Value)(l:List α):Prop:=
 ∃rows:List (List Value),w.ownsRow B e k v l.length rows.flatten/\rows.length=l.length/\(∀r∈rows,r.length=k/\∀u∈r,u.oneCell'=true)/\∀(i:Nat) (r:List Value) (x:α),rows[i]?=some r->l[i]?=some x->R w r x
def FF{k:Nat}:∀(rows:List (List Value)),(∀r∈rows,r.length=k)->rows.flatten.length=rows.length*k:=by
 intro rows;induction rows with
 |nil=>intro _;simp
 |cons r rs i=>intro h;simp[i (fun r hr=>h r (by simp[hr])),h r (by simp),lO];omega
def Hu{k:Nat}:∀(rows:List (List Value)) (i j:Nat) (r:List Value),(∀r∈rows,r.length=k)->rows[i]?=some r->j<k->rows.flatten[i*k+j]?=r[j]?:=by
 intro rows;induction rows with
 |nil=>intro i j r _ h;simp at h
 |cons o rs q=>
  intro i j r h hi m;have h0:=h o (by simp);cases i with
  |zero=>simp at hi;subst hi;simp[np,h0,m]
  |succ i=>
   have:=q i j r (fun r hr=>h r (by simp[hr])) (by simpa using hi) m;rw[og,kO (by rw[h0,lO];omega)];rw[<-this];congr 1;rw[h0,lO];omega
def PN{k:Nat}(hk:0<k):∀(rows:List (List Value)),(∀r∈rows,r.length=k)->∀(q:Nat) (u:Value),rows.flatten[q]?=some u->∃r,rows[q/k]?=some r/\r[q%k]?=some u:=by
 intro rows h q u hu;have hl:=FF rows h;have i:q<rows.flatten.length:=(Ad.1 hu).1;have h1:q/k<rows.length:=by rw[hl] at i;exact(q8 hk).2 i
 refine⟨rows[q/k],by simp[h1],?_⟩;rw[<-Hu rows (q/k) (q%k) _ h (by simp[h1]) (qI _ hk)];rw[qf q k];exact hu
def AE.nil{B e k:Nat}{R:World->List Value->α->Prop}:AE B e k R w (.slice none 0 0) []:=
 ⟨[],World.ownsRow_nil w B e k,rfl,by simp,by simp⟩
def AE.made{B e k:Nat}{R:World->List Value->α->Prop}(i:B<=w.heap.size):AE B e k R (w.alloc (.cells #[] e)) (.slice (some ⟨w.heap.size,0,none⟩) 0 0) ([]:List α):=
 ⟨[],World.ownsRow_made w #[] 0 i (by simp[maxLen]) (by simp),rfl,by simp,by simp⟩
def AE.shape{B e k:Nat}{R:World->List Value->α->Prop}{l:List α}(h:AE B e k R w v l) :
  ∃a c,v=.slice a l.length c/\l.length<=c/\c<=maxLen/\(∀p,a=some p->∃g,p=⟨g,0,none⟩/\B<=g/\g<w.heap.size/\v.ownBlock=some g)/\(a=none->l=[]):=by
 obtain⟨rows,h1,I,J,O⟩:=h;rcases h1.2 with⟨rfl,i⟩|⟨g,j,m,rfl,o,q,i,hm,_⟩
 .exact⟨none,0,by rw[i],by omega,by simp[maxLen],(fun p hp=>nomatch hp),fun _=>QC i⟩
 .exact⟨some ⟨g,0,none⟩,j,rfl,i,hm,(fun p hp=>by cases hp;exact⟨g,rfl,o,(mQ.1 q).1,rfl⟩),(fun h=>nomatch h)⟩
def AE.sl{B e k:Nat}{R:World->List Value->α->Prop}{l:List α}(h:AE B e k R w v l):BB (fun b=>B<=b/\v.ownBlock=some b) k R w v l:=by
 obtain⟨a,c,I,hc,hm,hp,J⟩:=h.shape;obtain⟨rows,h1,X,O,Q⟩:=h;refine⟨a,c,I,hc,hm,fun i x q=>?_⟩;have hi:i<l.length:=(Ad.1 q).1;cases a with
 |none=>rw[J rfl] at hi;simp at hi
 |some p=>
  obtain⟨g,rfl,T,U,o⟩:=hp p rfl;have hr:i<rows.length:=by omega
  have m:∀r∈rows,r.length=k:=fun r hr=>(O r hr).1;refine⟨_,rows[i],rfl,⟨T,o⟩,m _ (by simp),fun j u hu=>?_,Q i _ x (by simp[hr]) q⟩;have V:j<k:=by rw[<-m rows[i] (by simp)];exact(Ad.1 hu).1
  refine h1.cells o _ u ?_;rw[Hu rows i j rows[i] m (by simp[hr]) V];exact hu
def AE.mod{B e k:Nat}{R R':World->List Value->α->Prop}{l:List α}(h:AE B e k R w v l)(hm:Mod M w w')(J:∀g,v.ownBlock=some g->¬M g)
 (O:∀r x,x∈l->R w r x->R' w' r x):AE B e k R' w' v l:=by
 obtain⟨rows,h1,Q,T,U⟩:=h;refine⟨rows,⟨h1.1,?_⟩,Q,T,fun i r x hr I=>O r x (lS I) (U i r x hr I)⟩;rcases h1.2 with V|⟨g,o,q,rfl,hb,j,m⟩
 .exact .inl V
 .refine .inr ⟨g,o,q,rfl,hb,?_,m⟩;rw[hm.same g (mQ.1 j).1 (J g rfl)];exact j
def DU(P:Program)(t e size bytes:Nat):Prop:=∃i z,P.underlying t=some (.slice e)/\P.info? e=some i/\i.zero=some z/\i.size=size/\i.bytes=bytes/\z.cells.size=size/\0<size
def Mx{P:Program}{t ty B e k bytes:Nat}{n:Nat}{xs:List Value}(hE:DU P t e k bytes)(I:w.ownsRow B e k v n xs)(a:Option Addr)(m c:Nat)(o:List Value)
 (hl:o.length=m*k)(ha:a=none->m=0)(U:∀p,a=some p->∀j u,o[j]?=some u->w.cell? (p.add j)=some u)(h1:∀u∈o,u.oneCell'=true)(V:n+m<=maxLen)(T:(n+m)*bytes<=140737488355328)(hB:B<=w.heap.size) :
  ∃v' w',(Builtin.append_ #[t,t] ty #[v,.slice a m c]).run P w=.ok v' w'/\w'.ownsRow B e k v' (n+m) (xs++o)/\w.grownBy w' v.ownBlock/\(∀g,v'.ownBlock=some g->v.ownBlock=some g\/w.heap.size<=g):=by
 obtain⟨i,z,ht,hi,hz,rfl,rfl,a1,hk⟩:=hE;cases a with
 |none=>
  have hm:=ha rfl;subst hm;have:o=[]:=QC (by simpa using hl);subst this;have a8:∃b s q,v=.slice b s q/\s<=q:=by
   rcases I.2 with⟨rfl,_⟩|⟨g,J,Q,rfl,_,_,h,_⟩
   .exact⟨_,_,_,rfl,Mp _⟩
   .exact⟨_,_,_,rfl,h⟩
  refine⟨v,w,?_,by simpa using I,⟨rfl,rfl,rfl,Mp _,fun _ _ _=>rfl⟩,fun g hg=>.inl hg⟩;obtain⟨b,s,q,rfl,hq⟩:=a8;cases b<;>simp[Builtin.append_,run_underlying ht,sizeOf,typeInfo,hi,Builtin.lenOf,Builtin.firstCells,hq,storeCells]
 |some p=>
  have hn:=U p rfl;have ak:((n+m:Nat):Int)<=9223372036854775807:=by simp only[maxLen] at V;omega
  rcases I.2 with⟨rfl,rfl⟩|⟨g,J,Q,rfl,al,hg,ax,an,a6,X⟩
  .have Y:w.ownsRow w.heap.size e i.size (.slice none 0 0) 0 xs:=⟨I.1,.inl ⟨rfl,rfl⟩⟩;obtain⟨v',w',r1,r2,r3,_⟩:=run_append_own (P:=P) w w.heap.size t ty e i z i.size i.bytes ht hi hz rfl rfl a1 hk _ 0 xs Y p m c o hl hn h1 V T (Mp _);refine⟨v',w',r1,⟨r2.1,?_⟩,r3,fun g hg=>.inr (r2.lt g hg).1⟩;rcases r2.2 with h|⟨g,J,Q,q1,q2,q3⟩
   .exact .inl h
   .exact .inr ⟨g,J,Q,q1,lV hB q2,q3⟩
  .by_cases O:n+m<=J
   .have a7:n*i.size+o.length<=Q.size:=by rw[hl,a6,<-lO];exact lW _ O
    have hr:=run_append_room (P:=P) w t ty e i ht hi g n J Q hg p m c o hl hn h1 O a7;have hx:xs.length=n*i.size:=I.1;refine⟨_,_,hr,⟨by rw[Bp,hx,hl,lO],.inr ⟨g,J,_,rfl,al,setRow_heap w g Q _ e _ hg,O,an,?_,?_⟩⟩,⟨rfl,rfl,rfl,?_,fun b _ hb=>setRow_other w g b _ (fun e=>hb (by simp[Value.ownBlock,e]))⟩,fun g' Z=>.inl Z⟩
    .have h0:Q.toList.length=J*i.size:=by rw[nH,a6]
     have h2:n*i.size+m*i.size<=J*i.size:=by rw[<-lO];exact lW _ O
     simp only[nP,Bp,Lc,I3,h0,hl];omega
    .rw[X,lO,<-hx,<-hl,<-Bp];exact List.take_left
    .simp[World.setRow]
   .have holds:∀j u,xs[j]?=some u->w.cell? ((⟨g,0,none⟩:Addr).add j)=some u:=I.cells (g:=g) rfl;have hr:=run_append_grow (P:=P) w t ty e i z ht hi hz ⟨g,0,none⟩ n J xs I.1 holds p m c o hl hn (by omega) ak (growslice_fits (by omega) T);have av:=grownCap_ge w (n+m) J e;have hx:xs.length=n*i.size:=I.1;refine⟨_,_,hr,⟨by rw[Bp,hx,hl,lO],.inr ⟨w.heap.size,_,_,rfl,hB,qJ w.drew _,av,qK w (n+m) J e V,?_,?_⟩⟩,⟨rfl,rfl,rfl,by simp,fun b hb _=>pJ w.drew _ b hb⟩,fun g' Z=>.inr (by cases Z;exact Mp _)⟩
    .simp only[qU,nP,rD,a1,hx,hl,<-lO];congr 1;omega
    .simp only[Array.toList_append];have h3:(n+m)*i.size=(xs++o).length:=by rw[Bp,hx,hl,lO]
     rw[h3,oK (Mp _),PF]
def AE.append{P:Program}{t ty B e k bytes:Nat}{R:World->List Value->α->Prop}{v x:Value}{l m:List α}(hE:DU P t e k bytes)(h:AE B e k R w v l)(hx:BB S k R w x m)
 (V:∀r y,R w r y->∀u∈r,u.oneCell'=true)(X:(l.length+m.length)*bytes<=140737488355328)(hB:B<=w.heap.size)(Y:l.length+m.length<=maxLen)
 (hR:∀w',w.grownBy w' v.ownBlock->∀r y,R w r y->R w' r y) :
  runK P (Builtin.append_ #[t,t] ty [v,x].toArray) (fun v' w'=>AE B e k R w' v' (l++m)/\w.grownBy w' v.ownBlock/\(∀g,v'.ownBlock=some g->v.ownBlock=some g\/w.heap.size<=g)) w:=by
 obtain⟨i,z,ht,hi,hz,hs,hb,a7,hk⟩:=hE;have a8:=hx.shape;obtain⟨rows,h1,h2,h3,h4⟩:=h;obtain⟨a,c,rfl,hc,ak,Z⟩:=hx;have fin:∀(o:List (List Value)),o.length=m.length->(∀r∈o,r.length=k/\∀u∈r,u.oneCell'=true)->(∀(i:Nat) (r:List Value) (y:α),o[i]?=some r->m[i]?=some y->R w r y)->
   (∃v' w',(Builtin.append_ #[t,t] ty [v,.slice a m.length c].toArray).run P w=.ok v' w'/\w'.ownsRow B e k v' (l.length+m.length) (rows.flatten++o.flatten)/\w.grownBy w' v.ownBlock/\(∀g,v'.ownBlock=some g->v.ownBlock=some g\/w.heap.size<=g))->
   runK P (Builtin.append_ #[t,t] ty [v,.slice a m.length c].toArray) (fun v' w'=>AE B e k R w' v' (l++m)/\w.grownBy w' v.ownBlock/\(∀g,v'.ownBlock=some g->v.ownBlock=some g\/w.heap.size<=g)) w:=by
  rintro o e1 e2 e3 ⟨v',w',r1,r2,r3,r4⟩;refine⟨v',w',r1,⟨rows++o,by rw[List.flatten_append,Bp];exact r2,by simp[h2,e1],?_,?_⟩,r3,r4⟩
  .intro r hr;rcases C3.1 hr with hr|hr
   .exact h3 r hr
   .exact e2 r hr
  .intro j r y hr T;refine hR w' r3 r y ?_;by_cases J:j<l.length
   .rw[Q0 (by omega)] at hr;rw[Q0 J] at T;exact h4 j r y hr T
   .rw[kO (by omega)] at hr;rw[kO (by omega)] at T;rw[h2] at hr;exact e3 _ r y hr T
 have Q:∃o:List (List Value),o.length=m.length/\(∀(i:Nat) (r:List Value),o[i]?=some r->r.length=k/\(∀u∈r,u.oneCell'=true)/\(∃p,a=some p/\∀j u,r[j]?=some u->w.cell? (p.add (i*k+j))=some u)/\∃y,m[i]?=some y/\R w r y):=by
  clear fin h4 h3 h2 h1 X Y hR ak a8;have gen:∀q,q<=m.length->∃o:List (List Value),o.length=q/\(∀(i:Nat) (r:List Value),o[i]?=some r->r.length=k/\(∀u∈r,u.oneCell'=true)/\(∃p,a=some p/\∀j u,r[j]?=some u->w.cell? (p.add (i*k+j))=some u)/\∃y,m[i]?=some y/\R w r y):=by
   intro q;induction q with
   |zero=>exact fun _=>⟨[],rfl,fun i r h=>by simp at h⟩
   |succ q ih=>
    intro hq;obtain⟨rs,e1,e2⟩:=ih (by omega);obtain⟨p,r,f1,f2,f3,f4,f5⟩:=Z q m[q] (by simp[show q<m.length by omega]);refine⟨rs++[r],by simp[e1],fun i r' I=>?_⟩;by_cases hi:i<q
    .rw[Q0 (by omega)] at I;exact e2 i r' I
    .have:i=q:=by have:=(Ad.1 I).1;simp[e1] at this;omega
     subst this;rw[kO (by omega)] at I;simp[e1] at I;subst I;exact⟨f3,V _ _ f5,⟨p,f1,f4⟩,m[i],by simp[show i<m.length by omega],f5⟩
  exact gen m.length (Mp _)
 obtain⟨o,g1,U⟩:=Q;have O:∀r∈o,r.length=k:=fun r hr=>by obtain⟨j,J⟩:=mO.1 hr;exact(U j r J).1
 refine fin o g1 (fun r hr=>by obtain⟨j,J⟩:=mO.1 hr;exact⟨(U j r J).1,(U j r J).2.1⟩) (fun j r y hr T=>?_) ?_
 .obtain⟨_,_,_,y',a1,al⟩:=U j r hr;rw[T] at a1;cases a1;exact al
 .refine Mx ⟨i,z,ht,hi,hz,hs,hb,a7,hk⟩ h1 a m.length c o.flatten (by rw[FF o O,g1]) ?_ ?_ ?_ Y X hB
  .intro ha;by_cases an:m.length=0
   .exact an
   .obtain⟨p,r,f1,_⟩:=Z 0 m[0] (by simp[show 0<m.length by omega]);rw[ha] at f1;cases f1
  .intro p hp q u hu;obtain⟨r,hr,av⟩:=PN hk o O q u hu;obtain⟨_,_,⟨p',a6,ax⟩,_⟩:=U _ r hr;rw[hp] at a6;cases a6;have:=ax _ u av;rwa [qf] at this
  .intro u hu;obtain⟨r,hr,ay⟩:=List.mem_flatten.1 hu;obtain⟨j,J⟩:=mO.1 hr;exact(U j r J).2.1 u ay
def Mod.next{M j:Nat->Prop}{w m w2:World}(h1:Mod j w m)(i:Mod M m w2)(q:∀b,b<w.heap.size->M b->j b):Mod j w w2:=
 ⟨i.os.trans h1.os,i.tape.trans h1.tape,i.output.trans h1.output,lV h1.size i.size,fun b hb o=>(i.same b (X8 hb h1.size) fun h=>o (q b hb h)).trans (h1.same b hb o)⟩
def BB.grow{k:Nat}{R:World->List Value->α->Prop}{l:List α}(h:BB S k R w v l)(i:Grow w w')(hk:0<k)(j:∀r x,R w r x->R w' r x):BB S k R w' v l:=
 h.mono (fun _ _ h=>h) (fun b hb _=>i.same b hb fun h=>h) hk j
def BB.mod{k:Nat}{R:World->List Value->α->Prop}{l:List α}(h:BB S k R w v l)(i:Mod M w w')(j:∀b,b<w.heap.size->S b->¬M b)(hk:0<k)(m:∀r x,R w r x->R w' r x):BB S k R w' v l:=
 h.mono (fun _ _ h=>h) (fun b hb o=>i.same b hb (j b hb o)) hk m
def BB.sub{S i:Nat->Prop}{k:Nat}{R R':World->List Value->α->Prop}{l:List α}(h:BB S k R w v l)(j:∀b,b<w.heap.size->S b->i b)(hk:0<k)(m:∀r x,R w r x->R' w r x):BB i k R' w v l:=
 h.mono j (fun _ _ _=>rfl) hk m
def AE.base{B o e k:Nat}{R:World->List Value->α->Prop}{l:List α}(h:AE B e k R w v l)(hb:∀g,v.ownBlock=some g->o<=g):AE o e k R w v l:=by
 obtain⟨rows,h1,q,I,J⟩:=h;refine⟨rows,⟨h1.1,?_⟩,q,I,J⟩;rcases h1.2 with O|⟨g,j,m,rfl,Q,i⟩
 .exact .inl O
 .exact .inr ⟨g,j,m,rfl,hb g rfl,i⟩
def JM{e k:Nat}(h:K (.slice (some ⟨w.heap.size,0,none⟩) 0 0) (w.alloc (.cells #[] e))):Ba e k 0 [] [] K w:=by
 refine⟨#[],?_,h⟩;simp[Instr.fill,Array.range_zero']
def Un{k:Nat}:∀(rows:List (List Value)) (i j:Nat) (r:List Value) (u:Value),(∀r∈rows,r.length=k)->rows[i]?=some r->j<k->rows.flatten.set (i*k+j) u=(rows.set i (r.set j u)).flatten:=by
 intro rows;induction rows with
 |nil=>intro i j r u _ h;simp at h
 |cons m rs o=>
  intro i j r u h hi q;have h0:=h m (by simp);cases i with
  |zero=>
   simp at hi;subst hi;simp only[og,qL,qm,mG];rw[List.set_append_left _ _ (by omega)]
  |succ i=>
   have:=o i j r u (fun r hr=>h r (by simp[hr])) (by simpa using hi) q;simp only[og,qG];rw[lY _ _ (by rw[h0,lO];omega),<-this];congr 2;rw[h0,lO];omega
def AE.store{B e k:Nat}{R R':World->List Value->α->Prop}{a:Addr}{n c:Nat}{l:List α}(h:AE B e k R w (.slice (some a) n c) l){i j:Nat}{u:Value}{x':α}(hi:i<l.length)(hj:j<k)
 (hu:u.oneCell'=true)(Y:∀r y,y∈l->R w r y->R' (w.setCell (a.add (i*k+j)) u) r y)(Z:∀r,R w r l[i]->R' (w.setCell (a.add (i*k+j)) u) (r.set j u) x') :
  (∃v,w.cell? (a.add (i*k+j))=some v)/\w.frozen? (a.add (i*k+j))=false/\AE B e k R' (w.setCell (a.add (i*k+j)) u) (.slice (some a) n c) (l.set i x')/\Mod (fun b=>b=a.block) w (w.setCell (a.add (i*k+j)) u):=by
 obtain⟨rows,h1,U,V,h4⟩:=h;have m:∀r∈rows,r.length=k:=fun r hr=>(V r hr).1;have J:i<rows.length:=by omega
 have X:∃g,a=⟨g,0,none⟩/\n=l.length:=by
  rcases h1.2 with⟨O,_⟩|⟨g',a1,a6,O,_⟩
  .simp at O
  .simp only[nQ,i6] at O;exact⟨g',O.1,O.2.1⟩
 obtain⟨g,rfl,rfl⟩:=X;have Q:(⟨g,0,none⟩:Addr).add (i*k+j)=⟨g,i*k+j,none⟩:=by unfold Addr.add;split<;>simp_all
 rw[Q] at Y Z ⊢;have I:i*k+j<l.length*k:=by
  have:(i+1)*k<=l.length*k:=lW _ hi;rw[lO] at this;omega
 obtain⟨s1,s2⟩:=h1.stored (i*k+j) u;have T:rows[i]?=some rows[i]:=by simp[J]
 refine⟨?_,h1.frozenAt _,?_,?_⟩
 .refine⟨(rows.flatten)[i*k+j]'(by rw[FF rows m,U];exact I),?_⟩;rw[h1.cellAt _ I];simp[FF rows m,U,I]
 .refine⟨rows.set i (rows[i].set j u),?_,by simp[U],?_,?_⟩
  .rw[kJ,<-Un rows i j rows[i] u m T hj];exact s1
  .intro r hr;rcases qR hr with hr|rfl
   .exact V r hr
   .refine⟨by rw[kJ];exact m _ (by simp),fun y o=>?_⟩;rcases qR o with o|rfl
    .exact(V rows[i] (by simp)).2 y o
    .exact hu
  .intro q r y hr o;by_cases hq:i=q
   .subst hq;simp only[kP J,kP hi,i6] at hr o;subst hr;subst o;exact Z _ (h4 i _ _ T (by simp[hi]))
   .rw[lI hq] at hr o;exact Y r y (lS o) (h4 q r y hr o)
 .exact Mod.setCell _ _ _ rfl
section
def Xg(n:Nat)(e:Env):List Nat->List Value->Env
 |[],_=>e
 |p::ps,vs=>Xg n (GK n e p (vs.headD undef)) ps vs.tail
def Quiet(W W':World):Prop:=W'.os=W.os/\W'.tape=W.tape/\W'.output=W.output
def Quiet.trans{a b c:World}(h:Quiet a b)(k:Quiet b c):Quiet a c:=⟨k.1.trans h.1,k.2.1.trans h.2.1,k.2.2.trans h.2.2⟩
def Jy(st:Prop)(P:Program)(I:Nat)(q:List Value)(m:Nat->List Value)(N:Nat)(Rd:Nat->Prop)(w:World):Prop:=
 ∀(l:Nat) (J:Nat->(Nat->Prop)->World->Prop) (o:(Nat->Prop)->World->Prop) (B:World),
  Mod (fun _=>False) w B->J 0 (fun _=>False) B->
  (∀k i j W W',J k i W->Mod (fun b=>¬st/\i b) W W'->(∀b,j b->(i b\/W.heap.size<=b)/\b<W'.heap.size)->J k j W')->
  (∀i j W W',o i W->Mod (fun b=>¬st/\i b) W W'->(∀b,j b->(i b\/W.heap.size<=b)/\b<W'.heap.size)->o j W')->
  (∀k i W,J k i W->∀b,b<w.heap.size->Rd b->W.heap[b]?=w.heap[b]?)->
  (∀k i W,k<N->J k i W->KP P l (m k) (fun v W'=>W.heap.size<=W'.heap.size/\(∀b,i b->W'.heap[b]?=W.heap[b]?)/\Quiet W W'/\((v=.bool true/\J (k+1) i W')\/(v=.bool false/\o i W'))) W)->
  AB P I (.func (.yield l) #[] #[]::q) (fun _ W'=>∃i,J N i W'\/o i W') B
def gk(B:Nat->Prop)(st:Prop)(P:Program)(I:Nat)(o:List Value)(E:Nat->List Value->Prop)(N:Nat)(Rd:Nat->Prop)(w:World):Prop:=
 ∀(l:Nat) (J:Nat->(Nat->Prop)->World->Prop) (m:(Nat->Prop)->World->Prop) (q:World),
  Mod (fun _=>False) w q->J 0 B q->
  (∀k i j W W',J k i W->Mod (fun b=>¬st/\i b) W W'->(∀b,j b->(i b\/W.heap.size<=b)/\b<W'.heap.size)->J k j W')->
  (∀i j W W',m i W->Mod (fun b=>¬st/\i b) W W'->(∀b,j b->(i b\/W.heap.size<=b)/\b<W'.heap.size)->m j W')->
  (∀k i W,J k i W->∀b,b<w.heap.size->Rd b->W.heap[b]?=w.heap[b]?)->
  (∀k i W args,k<N->J k i W->E k args->KP P l args (fun v W'=>W.heap.size<=W'.heap.size/\(∀b,i b->W'.heap[b]?=W.heap[b]?)/\Quiet W W'/\((v=.bool true/\J (k+1) i W')\/(v=.bool false/\m i W'))) W)->
  AB P I (.func (.yield l) #[] #[]::o) (fun _ W'=>∃i,J N i W'\/m i W') q
def Jy.i{st:Prop}{P:Program}{o N:Nat}{m:List Value}{j:Nat->List Value}{Rd:Nat->Prop}(h:Jy st P o m j N Rd w):gk (fun _=>False) st P o m (fun k a=>a=j k) N Rd w:=
 fun l J q B g h0 hJ O0 Ir hr=>h l J q B g h0 hJ O0 Ir fun k I W hk O=>hr k I W _ hk O rfl
def jV(i:Nat->Prop)(w W W':World):Prop:=W.heap.size<=W'.heap.size/\(∀b,i b\/b=w.heap.size\/b=w.heap.size+1->W'.heap[b]?=W.heap[b]?)/\Quiet W W'
def VX(m:Nat->Prop)(w W:World)(J:World->Prop)(j:Exit->World->Prop):Exit->World->Prop:=fun x W'=>jV m w W W'/\match x with
 |.normal=>J W' | .ret=>j .ret W' | .exit i=>j (.exit i) W' | _=>False
def T5(j:Nat->Prop)(w W:World)(J:World->Prop)(o:Exit->World->Prop)(F:(Exit->World->Prop)->World->Prop)(m:World):Prop:=
 jV j w W m/\∀i,Mod (fun b=>b=w.heap.size+1) m i->F (VX j w i J o) i
def bW(i:Nat->Prop)(w W:World):Prop:=∀b,i b->b<W.heap.size/\w.heap.size+2<=b
def Oi(i:Nat->Prop)(w W:World):Prop:=∀b,i b->b<W.heap.size/\b≠w.heap.size/\b≠w.heap.size+1
def HH(P:Program)(ok:Nat->Bool)(f:Value)(I:Nat)(Z8:List Value->(((Exit->World->Prop)->World->Prop)->World->Prop)->World->Prop)(N:Exit->World->Prop)(w:World):Prop:=
 ∃q st B m E n Rd,f=.func (.func B) #[] (List.toArray m)/\ok B=true/\gk q st P B m E n Rd w/\(∀k args,k<n->E k args->args.length=I)/\(∀b,q b->b<w.heap.size)/\
 ∃(J:Nat->(Nat->Prop)->World->Prop) (o:Exit->(Nat->Prop)->World->Prop),
  J 0 q w/\
  (∀k i j W W',J k i W->Mod (fun b=>(¬st/\i b)\/b=w.heap.size\/b=w.heap.size+1) W W'->(∀b,j b->(i b\/W.heap.size<=b)/\b<W'.heap.size/\b≠w.heap.size/\b≠w.heap.size+1)->J k j W')/\
  (∀x i j W W',o x i W->Mod (fun b=>(¬st/\i b)\/b=w.heap.size\/b=w.heap.size+1) W W'->(∀b,j b->(i b\/W.heap.size<=b)/\b<W'.heap.size/\b≠w.heap.size/\b≠w.heap.size+1)->o x j W')/\
  (∀k i W,J k i W->∀b,b<w.heap.size->Rd b->W.heap[b]?=w.heap[b]?)/\
  (∀k i W args,k<n->E k args->J k i W->w.heap.size+2<=W.heap.size->Oi i w W->Z8 args (T5 i w W (J (k+1) i) (fun x=>o x i)) W)/\
  (∀i W,J n i W->Oi i w W->w.heap.size+2<=W.heap.size->W.heap[w.heap.size]?=some (.deferred (some []))->N .normal W)/\
  (∀x i W,o x i W->Oi i w W->w.heap.size+2<=W.heap.size->W.heap[w.heap.size]?=some (.deferred (some []))->N x W)
def Hr{P:Program}{ok:Nat->Bool}{f:Value}{X:Nat}{Z8:List Value->(((Exit->World->Prop)->World->Prop)->World->Prop)->World->Prop}{N:Exit->World->Prop}
 (h:∃ st Q I q n Rd,f=.func (.func Q) #[] (List.toArray I)/\ok Q=true/\Jy st P Q I q n Rd w/\(∀ k,k < n->(q k).length=X)/\
 ∃(J:Nat->(Nat->Prop)->World->Prop) (B:Exit->(Nat->Prop)->World->Prop),
  J 0 (fun _=>False) w/\
  (∀k j m W W',J k j W->Mod (fun b=>(¬st/\j b)\/b=w.heap.size\/b=w.heap.size+1) W W'->(∀b,m b->(j b\/W.heap.size<=b)/\b<W'.heap.size/\w.heap.size+2<=b)->J k m W')/\
  (∀x j m W W',B x j W->Mod (fun b=>(¬st/\j b)\/b=w.heap.size\/b=w.heap.size+1) W W'->(∀b,m b->(j b\/W.heap.size<=b)/\b<W'.heap.size/\w.heap.size+2<=b)->B x m W')/\
  (∀k j W,J k j W->∀b,b<w.heap.size->Rd b->W.heap[b]?=w.heap[b]?)/\
  (∀k j W,k<n->J k j W->w.heap.size+2<=W.heap.size->bW j w W->Z8 (q k) (T5 j w W (J (k+1) j) (fun x=>B x j)) W)/\
  (∀j W,J n j W->bW j w W->w.heap.size+2<=W.heap.size->W.heap[w.heap.size]?=some (.deferred (some []))->N .normal W)/\
  (∀ x j W,B x j W->bW j w W->w.heap.size+2<=W.heap.size->W.heap[w.heap.size]?=some (.deferred (some []))->N x W)):HH P ok f X Z8 N w:=by
 obtain ⟨st,Q,I,q,n,Rd,h1,h2,h3,h4,J,B,h5,hJ,hX,h6,h7,h8,h9⟩:=h;have up:∀ {j m:Nat->Prop} {W W':World},(w.heap.size<=W.heap.size/\∀ b,j b->w.heap.size+2<=b)->W.heap.size<=W'.heap.size->(∀ b,m b->(j b\/W.heap.size<=b)/\b < W'.heap.size/\b≠w.heap.size/\b≠w.heap.size+1)->(w.heap.size<=W'.heap.size/\∀ b,m b->w.heap.size+2<=b):=fun h Y o=>⟨by omega,fun b hb=>by
  obtain⟨Z|Z,q2,q3,q4⟩:=o b hb
  .exact h.2 b Z
  .omega⟩
 have ok:∀{j:Nat->Prop} {W:World},(∀b,j b->w.heap.size+2<=b)->Oi j w W->bW j w W:=fun h o b hb=>⟨(o b hb).1,h b hb⟩;refine⟨_,st,Q,I,_,n,Rd,h1,h2,h3.i,fun k args hk e=>by rw[e];exact h4 k hk,fun _ h=>h.elim,fun k j W=>J k j W/\w.heap.size<=W.heap.size/\∀b,j b->w.heap.size+2<=b,fun x j W=>B x j W/\w.heap.size<=W.heap.size/\∀b,j b->w.heap.size+2<=b,⟨h5,Mp _,fun _ h=>h.elim⟩,?_,?_,fun k j W h=>h6 k j W h.1,?_,fun j W h o=>h8 j W h.1 (ok h.2.2 o),fun x j W h o=>h9 x j W h.1 (ok h.2.2 o)⟩
 .intro k j m W W' h hm o;have u:=up h.2 hm.size o;exact⟨hJ k j m W W' h.1 hm fun b hb=>⟨(o b hb).1,(o b hb).2.1,u.2 b hb⟩,u⟩
 .intro k j m W W' h hm o;have u:=up h.2 hm.size o;exact⟨hX k j m W W' h.1 hm fun b hb=>⟨(o b hb).1,(o b hb).2.1,u.2 b hb⟩,u⟩
 .rintro k j W _ hk rfl h Y o;have e:T5 j w W (fun W=>J (k+1) j W/\w.heap.size<=W.heap.size/\∀b,j b->w.heap.size+2<=b) (fun x W=>B x j W/\w.heap.size<=W.heap.size/\∀b,j b->w.heap.size+2<=b)=T5 j w W (J (k+1) j) fun x=>B x j:=by
   funext F W1
   unfold T5;refine propext (and_congr_right fun T=>rO fun U=>imp_congr_right fun hm=>?_);have a1:w.heap.size<=U.heap.size:=by have:=T.1;have:=hm.size;omega
   have e2:VX j w U (fun W=>J (k+1) j W/\w.heap.size<=W.heap.size/\∀b,j b->w.heap.size+2<=b) (fun x W=>B x j W/\w.heap.size<=W.heap.size/\∀b,j b->w.heap.size+2<=b)=VX j w U (J (k+1) j) fun x=>B x j:=by
    funext x W3
    unfold VX;refine propext (and_congr_right fun V=>?_);have O:w.heap.size<=W3.heap.size:=by have:=V.1;omega
    cases x with
    |normal=>exact rR ⟨O,h.2.2⟩
    |ret=>exact rR ⟨O,h.2.2⟩
    |exit i=>exact rR ⟨O,h.2.2⟩
    |_=>exact oe
   rw[e2]
  rw[e];exact h7 k j W hk h.1 Y (ok h.2.2 o)
variable {P:Program}{ok:Nat->Bool}{n:Nat}
def FJ{l:Nat}{K j:Cont}(h:KP P l args K w)(hk:∀v w',K v w'->j v w'):KP P l args j w:=by
 obtain⟨f,tmps,i,body,h1,m⟩:=h;exact⟨f,tmps,i,body,h1,RoundIn.mono m fun e w' ⟨v,o,q⟩=>⟨v,o,hk _ _ q⟩⟩
def Fr.fill{ds:List Deferred}{a:Act}:∀(ps:List Nat) (vs:List Value) (e:Env) (a:Act),vs.length=ps.length->Fr ds n e a->Fr ds n (Xg n e ps vs) { a with tmps:=(ps.zip vs).foldl (fun t x=>t.setIfInBounds x.1 x.2) a.tmps }:=by
 intro ps;induction ps with
 |nil=>intro vs e a _ h;exact h
 |cons p ps i=>
  intro vs e a hl h;cases vs with
  |nil=>simp at hl
  |cons v vs=>
   have:=i vs (GK n e p v) (a.put (some p) v) (by simpa using hl) (h.put (some p) v);exact this
def gp:Exit->Option Code
 |.ret=>some .ret
 |.exit i=>some (.exit i)
 |_=>none
def Oj{ds:List Deferred}(b0:DR P ok)(hm:P.follows .mixedOrders=true){g:Operand}{ps:Array Tmp}{x y:Code}{ax ay:O7}{e:Env}{a:Act}{N:Exit->World->Prop}(hf:Fr ds n e a)
 (hx:LY x=true)(hy:LY y=true)
 (h:HH P ok (ev e g) ps.size (fun args bn W=>D P ok n x ax (gL (fun e' Z=>bn (fun post W2=>D P ok n y ay (fun ex _ X=>post ex X) e' W2) Z) (fun _ _ _=>False)) (Xg n e ps.toList args) W) N w) :
  (Code.rangeFunc g ps x y).wpIn (Wd none) 0 P (fun ex a' w'=>Fr ({ target:=.collected w.heap.size,args:=#[] }::ds) n e a'/\N ex w') a w:=by
 obtain⟨I0,st,gf,b1,E,nn,Rd,bp,bs,bc,av,bd,J,Jx,h0,hJ,O0,Ir,al,b2,b6⟩:=h;refine wpIn_rangeFunc ?_;intro fn _;have bx:a.eval g=.func (.func gf) #[] b1.toArray:=by rw[hf.eval];exact bp
 obtain⟨rec,B⟩:∃rec:LoopState->Option Code->Loop,rec=fun st pe=>{ state:=st,pending:=pe,fn,tmps:=a.tmps,params:=ps,assign:=x,body:=y,defers:=w.heap.size }:=⟨_,rfl⟩;obtain⟨Z,a6⟩:∃Z,(w.alloc (.deferred (some []))).alloc (.loop (rec .ready none))=Z:=⟨_,rfl⟩;have bk:Mod (fun _=>False) w Z:=by rw[<-a6];exact(Mod.alloc _ _ _).trans (Mod.alloc _ _ _)
 have e4:Z.heap.size=w.heap.size+2:=by rw[<-a6];simp
 have c4:Z.heap[w.heap.size+1]?=some (.loop (rec .ready none)):=by
  rw[<-a6];have:=rE (w.alloc (.deferred (some []))) (.loop (rec .ready none));rwa [pX] at this
 have c6:Z.heap[w.heap.size]?=some (.deferred (some [])):=by
  rw[<-a6];exact(pJ _ _ _ (by simp)).trans (rE w _)
 refine ⟨w.heap.size+1,[{ target:=.collected w.heap.size,args:=#[] }],Z,{ target:=.fn (.func gf) b1.toArray,args:=#[.func (.yield (w.heap.size+1)) #[] #[]] },Z,gf,
  (.func (.yield (w.heap.size+1)) #[] #[] :: b1).toArray,Z,?_,?_,fun _ _=>trivial,?_,(fun h=>by cases h),?_⟩
 .rw[<-a6,B];exact run_enterLoop_outer _ _ _ _ _
 .simp only[resolve,bx];simp[go_sem]
 .have:=b0 gf bs;simp[invoke,go_sem];exact this _ _
 have U:∀(M:Nat->Prop) (W:World) (b:Nat) (o:Obj),M b->Mod M W (W.putObj b o):=fun M W b o hb=>
  ⟨rfl,rfl,rfl,by simp,fun k _ hk=>mR fun e=>hk (e▸hb)⟩
 let J':Nat->(Nat->Prop)->World->Prop:=fun k j W=>J k j W/\Oi j w W/\w.heap.size+2<=W.heap.size/\W.heap[w.heap.size+1]?=some (.loop (rec .ready none))/\W.heap[w.heap.size]?=some (.deferred (some []))
 let c7:(Nat->Prop)->World->Prop:=fun j W=>∃ex c,gp ex=some c/\Jx ex j W/\Oi j w W/\w.heap.size+2<=W.heap.size/\W.heap[w.heap.size+1]?=some (.loop (rec .done (some c)))/\W.heap[w.heap.size]?=some (.deferred (some []))
 have an:∀(j Q:Nat->Prop) (W W':World),Oi j w W->w.heap.size+2<=W.heap.size->(∀b,Q b->(j b\/W.heap.size<=b)/\b<W'.heap.size)->Oi Q w W':=fun j Q W W' h1 c8 h2 b hb=>by
  obtain⟨h3|h3,h4⟩:=h2 b hb
  .exact⟨h4,(h1 b h3).2⟩
  .exact⟨h4,by omega,by omega⟩
 have b7:=bc (w.heap.size+1) J' c7 Z bk ⟨hJ 0 I0 I0 w Z h0 (Grow.mod bk) (fun b hb=>⟨.inl hb,by have:=bd b hb;omega⟩),fun b hb=>by have:=bd b hb;omega,by omega,c4,c6⟩
  (fun k j Q W W' ⟨q1,O,q3,q4,q5⟩ I V=>⟨hJ k j Q W W' q1 (I.mono fun b _ hb=>.inl hb) (fun b hb=>⟨(V b hb).1,(V b hb).2,(an j Q W W' O q3 V b hb).2⟩),an j Q W W' O q3 V,by have:=I.size;omega,
   (I.same _ (by omega) fun hb=>by have:=(O _ hb.2).2;omega).trans q4,(I.same _ (by omega) fun hb=>by have:=(O _ hb.2).2;omega).trans q5⟩)
  (fun j Q W W' ⟨ex,c,hc,q1,O,q3,q4,q5⟩ I V=>⟨ex,c,hc,O0 ex j Q W W' q1 (I.mono fun b _ hb=>.inl hb) (fun b hb=>⟨(V b hb).1,(V b hb).2,(an j Q W W' O q3 V b hb).2⟩),an j Q W W' O q3 V,by have:=I.size;omega,
   (I.same _ (by omega) fun hb=>by have:=(O _ hb.2).2;omega).trans q4,(I.same _ (by omega) fun hb=>by have:=(O _ hb.2).2;omega).trans q5⟩)
  (fun k j W ⟨q1,_⟩ b hb hr=>Ir k j W q1 b hb hr)
  ?_
 .refine(qk.2 (nz b7 ?_):CallsIn Fence.wide _ _ _ _ _ _);rintro en W2 ⟨v,rfl,j,hh⟩;have a7:Fr ({ target:=.collected w.heap.size,args:=#[] }::ds) n e { a with defers:=[{ target:=.collected w.heap.size,args:=#[] }]++a.defers }:=⟨hf.size,hf.get,by simp[hf.defers]⟩;have T:∀o,Mod (fun b=>(¬st/\j b)\/b=w.heap.size\/b=w.heap.size+1) W2 (W2.putObj (w.heap.size+1) o):=fun o=>U _ _ _ _ (.inr (.inr rfl));rcases hh with⟨q1,O,q3,q4,q5⟩|⟨ex,c,hc,q1,O,q3,q4,q5⟩
  .obtain⟨o,ho⟩:∃o,(Instr.endLoop (w.heap.size+1)).run P W2=.ok none (W2.putObj (w.heap.size+1) o):=⟨_,by have:=run_endLoop (P:=P) q4 (by rw[B];simp);rw[B] at this;exact this⟩;refine⟨none,_,ho,a7,?_⟩;refine b2 j _ (hJ nn j j _ _ q1 (T _) fun b hb=>⟨.inl hb,by simpa using(O b hb).1,(O b hb).2⟩) (fun b hb=>⟨by simpa using(O b hb).1,(O b hb).2⟩) (by simpa using q3) ((mR (by omega)).trans q5)
  .obtain⟨o,ho⟩:∃o,(Instr.endLoop (w.heap.size+1)).run P W2=.ok (some c) (W2.putObj (w.heap.size+1) o):=⟨_,by have:=run_endLoop (P:=P) q4 (by rw[B];simp);rw[B] at this;exact this⟩;have key:N ex (W2.putObj (w.heap.size+1) o):=
    b6 ex j _ (O0 ex j j _ _ q1 (T _) fun b hb=>⟨.inl hb,by simpa using(O b hb).1,(O b hb).2⟩) (fun b hb=>⟨by simpa using(O b hb).1,(O b hb).2⟩) (by simpa using q3) ((mR (by omega)).trans q5)
   refine⟨some c,_,ho,?_⟩;cases ex with
   |ret=>cases hc;exact wpIn_ret ⟨a7,key⟩
   |exit i=>cases hc;exact wpIn_exit ⟨a7,key⟩
   |_=>cases hc
 .rintro k j W args hk ⟨q1,O,q3,q4,q5⟩ hE;have a8:=al k j W args hk hE q1 q3 O;have bl:=run_yield (P:=P) (args:=args.toArray) q4 (by rw[B];simpa using av k args hk hE);rw[B] at bl;refine⟨fn,_,x,y,bl,?_⟩;have a7:Fr [] n (Xg n e ps.toList args) { tmps:=(ps.zip args.toArray).foldl (fun t x=>t.setIfInBounds x.1 x.2) a.tmps,defers:=[] }:=by
   have:=Fr.fill (ds:=[]) (a:=a) ps.toList args e { a with defers:=[] } (by simpa using av k args hk hE) ⟨hf.size,hf.get,rfl⟩;have e1:(ps.zip args.toArray).foldl (fun t x=>t.setIfInBounds x.1 x.2) a.tmps=(ps.toList.zip args).foldl (fun t x=>t.setIfInBounds x.1 x.2) a.tmps:=by
    rw[<-Array.foldl_toList];simp
   rw[e1];exact this
  refine roundIn_of_wpIn (F:=Fence.wide) trivial ?_;refine nB (Jt (ds:=[]) (ro:=some (w.heap.size+1)) (m:=0) b0 hm x ax _ _ W _ (.inr hx) a7 a8) ?_;rintro ex a1 Wa ⟨e1,c9,_,hb⟩;cases ex with
  |normal=>
   obtain⟨⟨e2,ak,ca⟩,b8⟩:=hb;have cc:=(ak (w.heap.size+1) (.inr (.inr rfl))).trans q4;have cd:=(ak w.heap.size (.inr (.inl rfl))).trans q5;refine⟨_,run_beginRound cc (by rw[B]),?_⟩;have ch:=b8 (Wa.putObj (w.heap.size+1) (.loop { rec .ready none with state:=.busy })) (U _ _ _ _ rfl);have cn:(Wa.putObj (w.heap.size+1) (.loop { rec .ready none with state:=.busy })).heap[w.heap.size+1]?=some (.loop { rec .ready none with state:=.busy }):=qn (by omega);have cv:(Wa.putObj (w.heap.size+1) (.loop { rec .ready none with state:=.busy })).heap[w.heap.size]?=some (.deferred (some [])):=(mR (by omega)).trans cd;refine nB (Jt (ds:=[]) (ro:=some (w.heap.size+1)) (m:=0) b0 hm y ay _ e1 _ _ (.inr hy) c9 ch) ?_;rintro ex a3 X ⟨e3,e5,_,⟨cx,b9,da⟩,hp⟩;have c8:Wa.heap.size<=X.heap.size:=by simpa using cx
   have dk:=(b9 (w.heap.size+1) (.inr (.inr rfl))).trans cn;have dT:=(b9 w.heap.size (.inr (.inl rfl))).trans cv;have fin:∀(q:Option Code),(Instr.endRound (w.heap.size+1) q).run P X=.ok (.bool q.isNone) (X.putObj (w.heap.size+1) (.loop (rec (if q.isNone then .ready else .done) q)))/\
     (X.putObj (w.heap.size+1) (.loop (rec (if q.isNone then .ready else .done) q))).heap[w.heap.size+1]?=some (.loop (rec (if q.isNone then .ready else .done) q))/\
     (X.putObj (w.heap.size+1) (.loop (rec (if q.isNone then .ready else .done) q))).heap[w.heap.size]?=some (.deferred (some [])):=fun q=>by
    have:=run_endRound (P:=P) q dk;rw[B] at this ⊢;exact⟨this,qn (by omega),(mR (by omega)).trans dT⟩
   have ba:∀(o:Obj) b,j b->(X.putObj (w.heap.size+1) o).heap[b]?=W.heap[b]?:=fun o b hb=>by
    have h2:=(O b hb).2;rw[mR (by omega),b9 b (.inl hb),mR (by omega),ak b (.inl hb)]
   have qt:∀(o:Obj),Quiet W (X.putObj (w.heap.size+1) o):=fun o=>ca.trans da;have Y:∀(o:Obj),Oi j w (X.putObj (w.heap.size+1) o):=fun o b hb=>⟨by have:=(O b hb).1;simp;omega,(O b hb).2⟩;have bb:∀(o:Obj) b,j b->(j b\/X.heap.size<=b)/\b<(X.putObj (w.heap.size+1) o).heap.size/\b≠w.heap.size/\b≠w.heap.size+1:=fun o b hb=>⟨.inl hb,(Y o b hb).1,(O b hb).2⟩;have T:∀o,Mod (fun b=>(¬st/\j b)\/b=w.heap.size\/b=w.heap.size+1) X (X.putObj (w.heap.size+1) o):=fun o=>U _ _ _ _ (.inr (.inr rfl));cases ex with
   |normal=>
    obtain⟨f1,f2,f3⟩:=fin none;exact⟨_,_,f1,_,rfl,by simp;omega,ba _,qt _,.inl ⟨rfl,hJ _ j j _ _ hp (T _) (bb _),Y _,by simp;omega,f2,f3⟩⟩
   |ret=>
    obtain⟨f1,f2,f3⟩:=fin (some .ret);exact⟨_,_,f1,_,rfl,by simp;omega,ba _,qt _,.inr ⟨rfl,.ret,.ret,rfl,O0 .ret j j _ _ hp (T _) (bb _),Y _,by simp;omega,f2,f3⟩⟩
   |exit i=>
    obtain⟨f1,f2,f3⟩:=fin (some (.exit i));exact⟨_,_,f1,_,rfl,by simp;omega,ba _,qt _,.inr ⟨rfl,.exit i,.exit i,rfl,O0 (.exit i) j j _ _ hp (T _) (bb _),Y _,by simp;omega,f2,f3⟩⟩
   |_=>exact hp.elim
  |_=>exact hb.elim
def Sq:List (Nat×(World->Prop))->Nat->World->Prop
 |[],_,_=>False
 |(j,N)::r,i,w=>bif Nat.beq i j then N w else Sq r i w
def dZ(j m:World->Prop)(L:List (Nat×(World->Prop)))(x:Exit)(w:World):Prop:=match x with
 |.normal=>j w | .ret=>m w | .exit i=>Sq L i w | _=>False
def UQ{Q:Nat->World->Prop}{i:Nat}:∀{L:List Nat},Sq (L.map fun i=>(i,Q i)) i w->Q i w:=by
 intro L;induction L with
 |nil=>intro h;exact h.elim
 |cons j L m=>
  intro h;simp only[kN,Sq] at h;cases hb:Nat.beq i j with
  |true=>rw[hb] at h;have:=lJ hb;subst this;exact h
  |false=>rw[hb] at h;exact m h
def QP:Code->Bool
 |.rangeFunc ..=>true
 |.seq a b=>QP a||QP b
 |.block _ a=>QP a
 |_=>false
def bX(id:Nat)(Q:EQ):EQ:=fun ex e w=>match ex with
 |.exit i=>bif Nat.beq i id then False else Q (.exit i) e w
 |.normal=>Q .normal e w | .ret=>Q .ret e w | .goto l=>Q (.goto l) e w | .panic c=>Q (.panic c) e w | .outgrown=>Q .outgrown e w
variable (P ok n)
def DM:Code->O7->(Nat->EQ)->EQ->Env->World->Prop
 |.seq x y,an,Q,j,e,w=>match an with
  |.node _ _ a b=>bif QP x then(bif LY y then DM x a (fun m=>gL (fun e' w'=>D P ok n y b (Q m) e' w') (Q m)) j e w else False)
    else D P ok n x a (gL (fun e' w'=>DM y b Q j e' w') j) e w
  |_=>False
 |.block id x,an,Q,j,e,w=>DM x an (fun m=>jK id (Q m)) (bX id j) e w
 |.rangeFunc g ps x y,an,Q,_,e,w=>match an with
  |.node L _ q B=>bif LY x&&LY y then HH P ok (ev e g) ps.size (fun args o W=>D P ok n x q (gL (fun e' I=>o (fun post J=>D P ok n y B (fun ex _ O=>post ex O) e' J) I) (fun _ _ _=>False)) (Xg n e ps.toList args) W) (dZ (fun W=>Q w.heap.size .normal e W) (fun W=>Q w.heap.size .ret e W) (L.map fun i=>(i,fun W=>Q w.heap.size (.exit i) e W))) w else False
  |_=>False
 |_,_,_,_,_,_=>False
variable {P ok n}
def liftM(n:Nat)(Q:Nat->EQ)(i:EQ):Exit->Act->World->Prop:=fun ex a w=>
 (ex≠.normal/\∃e,Fr [] n e a/\i ex e w)\/∃m e,Fr [{ target:=.collected m,args:=#[] }] n e a/\Q m ex e w
def V6(q:DR P ok)(hm:P.follows .mixedOrders=true):∀(c:Code) (an:O7) (Q:Nat->EQ) (B:EQ) (e:Env) (w:World) (a:Act),Fr [] n e a->DM P ok n c an Q B e w->c.wpIn (Wd none) 0 P (liftM n Q B) a w:=by
 intro c;induction c with
 |seq x y O T=>
  intro an Q B e w a I h;cases an with
  |node L W U V=>
   simp only[DM] at h;cases hr:QP x with
   |true=>
    simp only[hr,lN] at h;cases X:LY y with
    |false=>simp only[X,lL] at h
    |true=>
     simp only[X,lN] at h;refine wpIn_seq (nB (O U _ _ e w a I h) ?_);rintro ex J w' (⟨o,e',h1,j⟩|⟨m,e',h1,j⟩)
     .cases ex with
      |normal=>exact absurd rfl o
      |_=>exact .inl ⟨o,e',h1,j⟩
     .cases ex with
      |normal=>
       refine nB (Jt (ro:=none) (m:=0) q hm y V _ e' w' J (.inr X) h1 j) ?_;rintro ex a6 a7 ⟨Y,h4,_,h6⟩;exact .inr ⟨m,Y,h4,h6⟩
      |_=>exact .inr ⟨m,e',h1,j⟩
   |false=>
    simp only[hr,lL] at h;refine wpIn_seq (nB (Jt (ds:=[]) (ro:=none) (m:=0) q hm x U _ e w a (.inl rfl) I h) ?_);rintro ex J w' ⟨e',h1,_,j⟩;cases ex with
    |normal=>exact T V Q B e' w' J h1 j
    |_=>exact .inl ⟨by simp,e',h1,j⟩
  |_=>exact h.elim
 |block id x ih=>
  intro an Q B e w a I h;simp only[DM] at h;refine wpIn_block (nB (ih an _ _ e w a I h) ?_);rintro ex J w' (⟨o,e',h1,j⟩|⟨m,e',h1,j⟩)
  .cases ex with
   |exit i=>
    simp only[bX] at j;simp only[Exit.inBlock];cases hb:Nat.beq i id with
    |true=>rw[hb] at j;exact j.elim
    |false=>
     rw[hb] at j;rw[Bq (by intro Z;subst Z;simp at hb)];exact .inl ⟨by simp,e',h1,j⟩
   |normal=>exact absurd rfl o
   |_=>exact .inl ⟨by simp,e',h1,j⟩
  .cases ex with
   |exit i=>
    simp only[jK] at j;simp only[Exit.inBlock];cases hb:Nat.beq i id with
    |true=>rw[hb] at j;rw[DN (lJ hb)];exact .inr ⟨m,e',h1,j⟩
    |false=>
     rw[hb] at j;rw[Bq (by intro Z;subst Z;simp at hb)];exact .inr ⟨m,e',h1,j⟩
   |_=>exact .inr ⟨m,e',h1,j⟩
 |rangeFunc g ps x y _ _=>
  intro an Q B e w a I h;cases an with
  |node L W U V=>
   simp only[DM] at h;cases hb:(LY x&&LY y) with
   |false=>simp only[hb,lL] at h
   |true=>
    simp only[hb,lN] at h;simp only[cL] at hb;refine nB (Oj q hm I hb.1 hb.2 h) ?_;rintro ex J w' ⟨h1,j⟩;refine .inr ⟨_,e,h1,?_⟩;cases ex with
    |normal=>exact j
    |ret=>exact j
    |exit i=>exact UQ (Q:=fun i W=>Q w.heap.size (.exit i) e W) j
    |_=>exact j.elim
  |_=>exact h.elim
 |_=>intro an Q B e w a I h;exact h.elim
end
section
variable {P:Program}{ok:Nat->Bool}{n:Nat}
def FE(m:Nat)(K:World->Prop)(w:World):Prop:=w.heap[m]?=some (.deferred (some []))/\K (w.putObj m (.deferred none))
def iq(P:Program)(m:Nat)(rs:List ResultVar)(K:Cont):EQ:=fun ex e w=>match ex with
 |.normal=>FE m (fun w=>LD P rs e w fun vs=>K (RK vs) w) w
 |.ret=>FE m (fun w=>LD P rs e w fun vs=>K (RK vs) w) w
 |_=>False
def Fh{g:Nat}{fn:Func}{c:Code}{rs:List ResultVar}{an:O7}(j:DR P ok)(hm:P.follows .mixedOrders=true)(Q:P.funcs[g]?=some fn)
 (hb:fn.body=some c)(T:fn.ntmps=n)(o:fn.results.toList=rs)(hl:Nat.ble args.length n=true)(h:DM P ok n c an (fun m=>iq P m rs K) (gQ P rs K) (nth args) w):AB P g args K w:=by
 refine qk.1 (callsIn_of_wp_marks (F:=Fence.wide) (n:=0) Q hb trivial ?_);have q:=mN hl;subst T o;refine nB (V6 j hm c an _ _ _ w _ (R7 q) h) ?_;rintro ex O w' (⟨B,e,h1,i⟩|⟨m,e,h1,i⟩)
 .cases ex with
  |normal=>exact absurd rfl B
  |ret=>
   obtain⟨v,I,J⟩:=Ga h1 i;show LeavesInM _ _ _ _ _ _ _ _ _;rw[h1.defers];exact⟨v,I,v,rfl,J⟩
  |_=>exact i.elim
 .have key:∀(i:FE m (fun w=>LD P fn.results.toList e w fun vs=>K (RK vs) w) w'),LeavesInM Fence.wide 0 P fn O.tmps (fun e w'=>∃v,e=.returned v/\K v w') O.defers .returning w':=by
   rintro⟨U,I⟩;obtain⟨v,J,V⟩:=Ga h1 I;rw[h1.defers];exact⟨by simp,.inl ⟨_,_,rfl,run_takeDeferred U,v,J,v,rfl,V⟩⟩
  cases ex with
  |normal=>exact key i
  |ret=>exact key i
  |_=>exact i.elim
end
section
structure AvK where
 E:Nat
 one:Bool
 zE:List Value
 te:Nat
 tn:Nat
 ts:Nat
 tp:Nat
 tps:Nat
 tt:Nat
 tT:Nat
 tk:Nat
 tA:Nat
 fat:Nat
 ftotals:Nat
 fset:Nat
 flift:Nat
 flean:Nat
 fbalance:Nat
 fjoin:Nat
 ffirst:Nat
 flast:Nat
 fconcat:Nat
 fsplit:Nat
 fdrop:Nat
 fpick:Nat
 fmelded:Nat
 fReplace:Nat
 fover:Nat
 fOver:Nat
 fOverf:Nat
 fSize:Nat
 fNew:Nat
 aTake:Nat
 aasked:Nat
 aFree:Nat
 aAt:Nat
 aPut:Nat
 aNew:Nat
 vm:Value
 vc:Value
 vd:Value
def AvK.zN(g:AvK):List Value:=g.zE++[zI 0,zI 0,zI 0,zI 0,zI 0]
def AvK.zP(g:AvK):List Value:=g.zE++[zI 0,zI 0,zI 0,zI 0,zI 0,.bool false]
def OE(g:AvK)(i:Addr->Value->Prop)(x:Value)(k:Value->Prop):Prop:=bif g.one then As i x k else Eg i g.E x k
def jh(g:AvK)(v0 v1:Value)(K:Cont)(w:World):Prop:=
 Al g.tn g.zN (fun t4 B=>
 AK v0 fun t9=>
 AM 3 t9 fun j=>
 AJ j (fun m w2=>
 AB prog g.aAt [m,v1] (fun i I=>
 AR 0 i fun o=>
 AR 1 i fun _t15=>
 Al g.tn g.zN (fun t5 w4=>
 Ab (g.E+5) t5 o (fun J=>
 Aa (g.E+5) t5 (fun q O=>
 Ab (g.E+5) t4 q (fun Q=>
 Aa (g.E+5) t4 (fun T U=>
 K T U) Q) O) J) w4) I) w2) B) w
def SO(g:AvK)(v0 v1:Value)(K:Cont)(w:World):Prop:=
 Cu .i64 v1 (zI (-1)) fun t9=>
 AD t9
 (K (.tuple #[(zI 0),(zI 0),(zI 0)]) w)
 (AB prog g.fat [v0,v1] (fun j O=>
 Al g.tn g.zN (fun i w2=>
 Ab (g.E+5) i j (fun Q=>
 Dg Q (fun C=>
 AM (g.E+2) i fun m=>
 BN C m fun o=>
 AM (g.E+3) i fun q=>
 BN C q fun B=>
 AM (g.E+4) i fun I=>
 BN C I fun J=>
 ∀w4:World,C w4->
 K (.tuple #[o,B,J]) w4)) w2) O) w)
def iQ(g:AvK)(v0 v1 v2:Value)(K:Cont)(w:World):Prop:=
 BP g.tn v2 (fun t5 w1=>
 AM g.E t5 fun B=>
 AJ B (fun I w2=>
 AB prog g.ftotals [v0,I] (fun j w3=>
 AR 0 j fun J=>
 AR 1 j fun O=>
 AR 2 j fun Q=>
 AM (g.E+1) t5 fun T=>
 AJ T (fun t25 w4=>
 AB prog g.ftotals [v0,t25] (fun m U=>
 AR 0 m fun V=>
 AR 1 m fun X=>
 AR 2 m fun Y=>
 Au [7] [[],[0],[0,1],[0,1,2],[0,1,2,3],[],[5],[0,1,2,3,4,5,6],[0,1,2,3,4,5,6,7],[0,1,2,3,4,5,6,7,8],[0,1,2,3,4,5,6,7,8],[0,1,2,3,4,5,6,7,8,9],[0,1,2,3,4,5,6,7,8,9,10,11]] U.drew (fun M St=>
 AK v0 fun Z=>
 AM 0 Z fun a1=>
 AM 0 a1 fun a6=>
 As (St 4) a6 fun a7=>
 AM 0 t5 fun a8=>
 OE g (St 6) a8 fun ak=>
 BK prog Cq a7 [ak] (fun o w6=>
 Mod (M 7) U.drew w6/\
 AR 0 o fun t39=>
 AR 1 o fun al=>
 KM .i64 J V fun an=>
 AW .i64 (zI 1) an fun av=>
 AW .i64 O X fun ax=>
 AW .i64 ax t39 fun ay=>
 AW .i64 Q Y fun b0=>
 AW .i64 b0 al fun b1=>
 AM (g.E+2) t5 fun t55=>
 Av t55 av (fun w7=>
 AM (g.E+3) t5 fun b2=>
 Av b2 ay (fun w8=>
 AM (g.E+4) t5 fun b6=>
 Av b6 b1 (fun w9=>
 Au [6] [[],[0],[0,1],[0,1,2],[],[],[0,1,2,3,4,5]] w9.drew (fun b7 i=>
 AK v0 fun b8=>
 AM 3 b8 fun b9=>
 As (i 3) b9 fun ba=>
 Eg (i 5) (g.E+5) t5 fun bb=>
 AB prog g.aPut [ba,v1,bb] (fun _t64 q=>
 Mod (b7 6) w9.drew q/\
 K (.tuple #[]) q) w9.drew)) w8) w7) w6) U.drew)) w4) w3) w2) w1) w
def Wz(g:AvK)(v0 v1 v2:Value)(K:Cont)(w:World):Prop:=
 AB prog g.fat [v0,v1] (fun q w1=>
 Al g.tn g.zN (fun j w2=>
 Ab (g.E+5) j q (fun w3=>
 AD v2
 (AM g.E j fun B=>
 AJ B (fun m w4=>
 AB prog g.fat [v0,m] (fun I w5=>
 Al g.tn g.zN (fun t9 w6=>
 Ab (g.E+5) t9 I (fun w7=>
 AM (g.E+1) t9 fun J=>
 AJ J (fun O w8=>
 AM g.E j fun t22=>
 Av t22 O (fun w9=>
 Aa (g.E+5) j (fun t25 Q=>
 AB prog g.fset [v0,v1,t25] (fun _t26 T=>
 AM (g.E+1) t9 fun U=>
 Av U v1 (fun V=>
 Aa (g.E+5) t9 (fun X Y=>
 AB prog g.fset [v0,m,X] (fun _t32 Z=>
 K m Z) Y) V) T) Q) w9) w8) w7) w6) w5) w4) w3)
 (AM (g.E+1) j fun a1=>
 AJ a1 (fun o a6=>
 AB prog g.fat [v0,o] (fun a7 a8=>
 Al g.tn g.zN (fun i ak=>
 Ab (g.E+5) i a7 (fun al=>
 AM g.E i fun an=>
 AJ an (fun t39 av=>
 AM (g.E+1) j fun ax=>
 Av ax t39 (fun ay=>
 Aa (g.E+5) j (fun b0 b1=>
 AB prog g.fset [v0,v1,b0] (fun _t44 b2=>
 AM g.E i fun t46=>
 Av t46 v1 (fun b6=>
 Aa (g.E+5) i (fun b7 b8=>
 AB prog g.fset [v0,o,b7] (fun _t50 b9=>
 K o b9) b8) b6) b2) b1) ay) av) al) ak) a8) a6) w3)) w2) w1) w
def cg(g:AvK)(v0 v1:Value)(K:Cont)(w:World):Prop:=
 AB prog g.fat [v0,v1] (fun m Q=>
 Al g.tn g.zN (fun t5 w2=>
 Ab (g.E+5) t5 m (fun T=>
 AM g.E t5 fun o=>
 AJ o (fun q w4=>
 AB prog g.ftotals [v0,q] (fun i U=>
 AR 0 i fun B=>
 AR 1 i fun _t21=>
 AR 2 i fun _t22=>
 AM (g.E+1) t5 fun t25=>
 AJ t25 (fun I V=>
 AB prog g.ftotals [v0,I] (fun j X=>
 AR 0 j fun J=>
 AR 1 j fun _t29=>
 AR 2 j fun _t30=>
 BR .i64 B J fun O=>
 K O X) V) U) w4) T) w2) Q) w
def PA(g:AvK)(v0 v1 v2:Value)(K:Cont)(w:World):Prop:=
 BP g.tn v2 (fun t5 w1=>
 Aa (g.E+5) t5 (fun q w2=>
 AB prog g.fset [v0,v1,q] (fun _t11 w3=>
 AB prog g.flean [v0,v1] (fun m w4=>
 Eo .i64 m (zI 1) fun B=>
 AD B
 (AM g.E t5 fun I=>
 AJ I (fun J w5=>
 AB prog g.flean [v0,J] (fun O w6=>
 BU .i64 O (zI 0) fun t22=>
 AD t22
 (AM g.E t5 fun Q=>
 AJ Q (fun t25 w7=>
 AB prog g.flift [v0,t25,(.bool false)] (fun T w8=>
 AM g.E t5 fun U=>
 Av U T (fun w9=>
 Aa (g.E+5) t5 (fun V X=>
 AB prog g.fset [v0,v1,V] (fun _t31 Y=>
 AB prog g.flift [v0,v1,(.bool true)] (fun Z a1=>
 K Z a1) Y) X) w9) w8) w7) w6)
 (AB prog g.flift [v0,v1,(.bool true)] (fun i a6=>
 K i a6) w6)) w5) w4)
 (BU .i64 m (zI (-1)) fun a7=>
 AD a7
 (AM (g.E+1) t5 fun t39=>
 AJ t39 (fun a8 ak=>
 AB prog g.flean [v0,a8] (fun al o=>
 Eo .i64 al (zI 0) fun an=>
 AD an
 (AM (g.E+1) t5 fun av=>
 AJ av (fun t45 ax=>
 AB prog g.flift [v0,t45,(.bool true)] (fun t46 ay=>
 AM (g.E+1) t5 fun b0=>
 Av b0 t46 (fun b1=>
 Aa (g.E+5) t5 (fun t50 b2=>
 AB prog g.fset [v0,v1,t50] (fun _t51 b6=>
 AB prog g.flift [v0,v1,(.bool false)] (fun b7 b8=>
 K b7 b8) b6) b2) b1) ay) ax) o)
 (AB prog g.flift [v0,v1,(.bool false)] (fun j b9=>
 K j b9) o)) ak) w4)
 (K v1 w4))) w3) w2) w1) w
def cH(g:AvK)(v0 v1 v2 v3:Value)(K:Cont)(w:World):Prop:=
 AB prog g.ftotals [v0,v1] (fun o w1=>
 AR 0 o fun t22=>
 AR 1 o fun _t23=>
 AR 2 o fun _t24=>
 AB prog g.ftotals [v0,v3] (fun q w2=>
 AR 0 q fun B=>
 AR 1 q fun _t30=>
 AR 2 q fun _t31=>
 AW .i64 B (zI 1) fun I=>
 Eo .i64 t22 I fun J=>
 AD J
 (AB prog g.fat [v0,v1] (fun t39 w3=>
 Al g.tn g.zN (fun i w4=>
 Ab (g.E+5) i t39 (fun w5=>
 AM (g.E+1) i fun O=>
 AJ O (fun Q w6=>
 AB prog g.fjoin [v0,Q,v2,v3] (fun t45 w7=>
 AM (g.E+1) i fun t46=>
 Av t46 t45 (fun w8=>
 Aa (g.E+5) i (fun T w9=>
 AB prog g.fbalance [v0,v1,T] (fun t50 U=>
 K t50 U) w9) w8) w7) w6) w5) w4) w3) w2)
 (AW .i64 t22 (zI 1) fun V=>
 Eo .i64 B V fun t55=>
 AD t55
 (AB prog g.fat [v0,v3] (fun X Y=>
 Al g.tn g.zN (fun j Z=>
 Ab (g.E+5) j X (fun a1=>
 AM g.E j fun a6=>
 AJ a6 (fun a7 a8=>
 AB prog g.fjoin [v0,v1,v2,a7] (fun ak al=>
 AM g.E j fun an=>
 Av an ak (fun av=>
 Aa (g.E+5) j (fun ax ay=>
 AB prog g.fbalance [v0,v3,ax] (fun b0 b1=>
 K b0 b1) ay) av) al) a8) a1) Z) Y) w2)
 (AB prog g.fat [v0,v2] (fun b2 b6=>
 Al g.tn g.zN (fun m b7=>
 Ab (g.E+5) m b2 (fun b8=>
 AM g.E m fun b9=>
 Av b9 v1 (fun ba=>
 AM (g.E+1) m fun t76=>
 Av t76 v3 (fun bb=>
 Aa (g.E+5) m (fun bc bd=>
 AB prog g.fset [v0,v2,bc] (fun _t80 bk=>
 K v2 bk) bd) bb) ba) b8) b7) b6) w2))) w1) w
def Vy(g:AvK)(v0 v1:Value)(K:Cont)(w:World):Prop:=
 AB prog g.fat [v0,v1] (fun t9 Y=>
 Al g.tn g.zN (fun i w2=>
 Ab (g.E+5) i t9 (fun Z=>
 AM g.E i fun m=>
 AJ m (fun o w4=>
 Cu .i64 o (zI (-1)) fun q=>
 AD q
 (AM (g.E+1) i fun B=>
 AJ B (fun I w5=>
 K (.tuple #[I,v1]) w5) w4)
 (AM g.E i fun J=>
 AJ J (fun O w6=>
 AB prog g.ffirst [v0,O] (fun j w7=>
 AR 0 j fun Q=>
 AR 1 j fun t22=>
 AM g.E i fun T=>
 Av T Q (fun w8=>
 Aa (g.E+5) i (fun U w9=>
 AB prog g.fbalance [v0,v1,U] (fun V X=>
 K (.tuple #[V,t22]) X) w9) w8) w7) w6) w4)) Z) w2) Y) w
def cj(g:AvK)(v0 v1:Value)(K:Cont)(w:World):Prop:=
 AB prog g.fat [v0,v1] (fun t9 Y=>
 Al g.tn g.zN (fun i w2=>
 Ab (g.E+5) i t9 (fun Z=>
 AM (g.E+1) i fun m=>
 AJ m (fun o w4=>
 Cu .i64 o (zI (-1)) fun q=>
 AD q
 (AM g.E i fun B=>
 AJ B (fun I w5=>
 K (.tuple #[I,v1]) w5) w4)
 (AM (g.E+1) i fun J=>
 AJ J (fun O w6=>
 AB prog g.flast [v0,O] (fun j w7=>
 AR 0 j fun Q=>
 AR 1 j fun t22=>
 AM (g.E+1) i fun T=>
 Av T Q (fun w8=>
 Aa (g.E+5) i (fun U w9=>
 AB prog g.fbalance [v0,v1,U] (fun V X=>
 K (.tuple #[V,t22]) X) w9) w8) w7) w6) w4)) Z) w2) Y) w
def Sh(g:AvK)(v0 v1 v2:Value)(K:Cont)(w:World):Prop:=
 Cu .i64 v1 (zI (-1)) fun j=>
 AD j
 (K v2 w)
 (AB prog g.flast [v0,v1] (fun i q=>
 AR 0 i fun m=>
 AR 1 i fun o=>
 AB prog g.fjoin [v0,m,o,v2] (fun t22 w2=>
 K t22 w2) q) w)
def RJ(g:AvK)(v0 v1 v2:Value)(K:Cont)(w:World):Prop:=
 Cu .i64 v1 (zI (-1)) fun eX=>
 AD eX
 (K (.tuple #[(zI (-1)),(zI (-1))]) w)
 (AB prog g.fat [v0,v1] (fun t22 w1=>
 Al g.tn g.zN (fun o w2=>
 Ab (g.E+5) o t22 (fun w3=>
 AM g.E o fun t25=>
 AJ t25 (fun fa w4=>
 AB prog g.ftotals [v0,fa] (fun b0 w5=>
 AR 0 b0 fun _t28=>
 AR 1 b0 fun al=>
 AR 2 b0 fun _t30=>
 Au [7] [[],[0],[0,1],[0,1,2],[0,1,2,3],[],[5],[0,1,2,3,4,5,6],[0,1,2,3,4,5,6,7],[0,1,2,3,4,5,6,7,8],[0,1,2,3,4,5,6,7,8],[0,1,2,3,4,5,6,7,8,9],[0,1,2,3,4,5,6,7,8,9,10,11]] w5.drew (fun M St=>
 AK v0 fun fo=>
 AM 0 fo fun fs=>
 AM 0 fs fun fv=>
 As (St 4) fv fun ga=>
 AM 0 o fun gb=>
 OE g (St 6) gb fun gd=>
 BK prog Cq ga [gd] (fun t39 w6=>
 Mod (M 7) w5.drew w6/\
 AR 0 t39 fun dT=>
 AR 1 t39 fun _t41=>
 SZ .i64 v2 al fun t45=>
 AD t45
 (AM g.E o fun gf=>
 AJ gf (fun gg w7=>
 AB prog g.fsplit [v0,gg,v2] (fun e1 w8=>
 AR 0 e1 fun gl=>
 AR 1 e1 fun t53=>
 AM (g.E+1) o fun gm=>
 AJ gm (fun gw w9=>
 AB prog g.fjoin [v0,t53,v1,gw] (fun gA gB=>
 K (.tuple #[gl,gA]) gB) w9) w8) w7) w6)
 (AW .i64 al dT fun gW=>
 Km .i64 v2 gW fun t66=>
 AD t66
 (AM (g.E+1) o fun h0=>
 AJ h0 (fun t70 h2=>
 BR .i64 v2 al fun h3=>
 BR .i64 h3 dT fun h4=>
 AB prog g.fsplit [v0,t70,h4] (fun t76 h5=>
 AR 0 t76 fun t77=>
 AR 1 t76 fun h6=>
 AM g.E o fun h7=>
 AJ h7 (fun h8 h9=>
 AB prog g.fjoin [v0,h8,v1,t77] (fun hd hf=>
 K (.tuple #[hd,h6]) hf) h9) h5) h2) w6)
 (Ao (fun vs hg=>∀_:Env,
 Dg hg (fun C=>
 AM g.E o fun e2=>
 BN C e2 fun e3=>
 AM (g.E+1) o fun e4=>
 BN C e4 fun e5=>
 ∀e6:World,C e6->
 Aa g.E (nth vs 0) (fun e7 hh=>
 AM 0 o fun e8=>
 Ab g.E e8 e7 (fun b1=>
 Au [6] [[],[0],[0,1],[0,1,2],[],[],[0,1,2,3,4,5]] b1.drew (fun hj av=>
 AK v0 fun e9=>
 AM 3 e9 fun ea=>
 As (av 3) ea fun ec=>
 Eg (av 5) (g.E+5) o fun ed=>
 AB prog g.aPut [ec,v1,ed] (fun _t112 an=>
 Mod (hj 6) b1.drew an/\
 Au [3,11,13] [[],[],[],[0,1,2],[],[],[5],[5,6],[5,6,7],[],[9],[0,1,2,3,5,6,7,8,9,10],[],[0,1,2,3,4,5,6,7,8,9,10,11,12],[0,1,2,3,4,5,6,7,8,9,10,11,12,13],[0,1,2,3,4,5,6,7,8,9,10,11,12,13,14]] an.drew (fun b2 ax=>
 AB prog g.fjoin [v0,e3,v1,(zI (-1))] (fun ee b6=>
 Mod (b2 3) an.drew b6/\
 AK v0 fun ef=>
 AM 3 ef fun eh=>
 As (ax 8) eh fun ej=>
 Eg (ax 9) g.E (nth vs 1) fun ek=>
 Ai [(0,g.E),(g.E,1),(g.E+1,1),(g.E+2,1),(g.E+3,1),(g.E+4,1)] g.zN [(0,ek)] fun en=>
 AB prog g.aTake [ej,en] (fun eo b7=>
 Mod (b2 11) b6 b7/\
 AB prog g.fjoin [v0,(zI (-1)),eo,e5] (fun ep er=>
 Mod (b2 13) b7 er/\
 K (.tuple #[ee,ep]) er) b7) b6) an.drew)) b1.drew)) hh) e6)) (fun J=>
 Au [10,14,15,16,17] [[],[0],[0,1],[0,1,2],[0,1,2,3],[],[5],[],[],[7,8],[0,1,2,3,4,5,6,7,8,9],[0,1,2,3,4,5,6,7,8,9,10],[0,1,2,3,4,5,6,7,8,9,10,11],[0,1,2,3,4,5,6,7,8,9,10,11],[],[],[0,1,2,3,4,5,6,7,8,9,10,11,12,14,15],[0,1,2,3,4,5,6,7,8,9,10,11,12,13,14,15,16]] w6.drew (fun i ay=>
 AK v0 fun hn=>
 AM 0 hn fun ho=>
 AM 1 ho fun hq=>
 As (ay 4) hq fun q=>
 AM 0 o fun hs=>
 Eg (ay 6) g.E hs fun B=>
 BR .i64 v2 al fun I=>
 (BK prog Cq q [B,I] (fun et O=>
 Mod (i 10) w6.drew O/\
 AR 0 et fun eu=>
 AR 1 et fun ew=>
 (Al g.te g.zE (fun ey b8=>
 Mod (i 14) O b8/\
 Al g.te g.zE (fun eA b9=>
 Mod (i 15) b8 b9/\
 Ab g.E ey eu (fun ba=>
 Mod (i 16) b9 ba/\
 Ab g.E eA ew (fun eB=>
 Mod (i 17) ba eB/\
 J [ey,eA] eB) ba) b9) b8) O)/\
 (Al g.te g.zE (fun Q bb=>
 Mod (i 15) O bb/\
 Al g.te g.zE (fun T bc=>
 Mod (i 14) bb bc/\
 Ab g.E T eu (fun bd=>
 Mod (i 16) bc bd/\
 Ab g.E Q ew (fun eC=>
 Mod (i 17) bd eC/\
 J [T,Q] eC) bd) bc) bb) O)) w6.drew)/\
 ((Al g.te g.zE (fun j U=>
 Mod (i 14) w6.drew U/\
 (BK prog Cq q [B,I] (fun V bk=>
 Mod (i 10) U bk/\
 AR 0 V fun bl=>
 AR 1 V fun bn=>
 Al g.te g.zE (fun X bp=>
 Mod (i 15) bk bp/\
 Ab g.E j bl (fun bs=>
 Mod (i 16) bp bs/\
 Ab g.E X bn (fun eI=>
 Mod (i 17) bs eI/\
 J [j,X] eI) bs) bp) bk) U)/\
 (Al g.te g.zE (fun Y bx=>
 Mod (i 15) U bx/\
 BK prog Cq q [B,I] (fun Z c4=>
 Mod (i 10) bx c4/\
 AR 0 Z fun c6=>
 AR 1 Z fun c7=>
 Ab g.E j c6 (fun c8=>
 Mod (i 16) c4 c8/\
 Ab g.E Y c7 (fun eL=>
 Mod (i 17) c8 eL/\
 J [j,Y] eL) c8) c4) bx) U)) w6.drew)/\
 (Al g.te g.zE (fun m a1=>
 Mod (i 15) w6.drew a1/\
 (BK prog Cq q [B,I] (fun a6 c9=>
 Mod (i 10) a1 c9/\
 AR 0 a6 fun ca=>
 AR 1 a6 fun cc=>
 Al g.te g.zE (fun a7 cd=>
 Mod (i 14) c9 cd/\
 Ab g.E a7 ca (fun ch=>
 Mod (i 16) cd ch/\
 Ab g.E m cc (fun eN=>
 Mod (i 17) ch eN/\
 J [a7,m] eN) ch) cd) c9) a1)/\
 (Al g.te g.zE (fun a8 cn=>
 Mod (i 14) a1 cn/\
 BK prog Cq q [B,I] (fun ak cv=>
 Mod (i 10) cn cv/\
 AR 0 ak fun cx=>
 AR 1 ak fun da=>
 Ab g.E a8 cx (fun dk=>
 Mod (i 16) cv dk/\
 Ab g.E m da (fun eR=>
 Mod (i 17) dk eR/\
 J [a8,m] eR) dk) cv) cn) a1)) w6.drew))))))) w5.drew)) w4) w3) w2) w1) w)
def Xq(g:AvK)(v0 v1:Value)(K:Cont)(w:World):Prop:=
 Cu .i64 v1 (zI (-1)) fun J=>
 AD J
 (K (.tuple #[]) w)
 (AB prog g.fat [v0,v1] (fun t9 O=>
 Al g.tn g.zN (fun t4 w2=>
 Ab (g.E+5) t4 t9 (fun Q=>
 AM g.E t4 fun i=>
 AJ i (fun j w4=>
 AB prog g.fdrop [v0,j] (fun _t13 T=>
 AM (g.E+1) t4 fun m=>
 AJ m (fun o U=>
 AB prog g.fdrop [v0,o] (fun _t17 V=>
 AK v0 fun q=>
 AM 3 q fun B=>
 AJ B (fun I X=>
 AB prog g.aFree [I,v1] (fun _t23 Y=>
 K (.tuple #[]) Y) X) V) U) T) w4) Q) w2) O) w)
def cq(g:AvK)(v0 v1:Value)(K:Cont)(w:World):Prop:=
 Al g.te g.zE (fun t4 B=>
 AB prog g.fat [v0,v1] (fun I w2=>
 runK prog (Instr.field g.tn I 0) (fun t9 J=>
 Al g.te g.zE (fun t5 w4=>
 Ab g.E t5 t9 (fun O=>
 AK v0 fun i=>
 AM 3 i fun j=>
 AJ j (fun m Q=>
 AB prog g.aFree [m,v1] (fun _t15 T=>
 Aa g.E t5 (fun o U=>
 Ab g.E t4 o (fun V=>
 Aa g.E t4 (fun X q=>
 K X q) V) U) T) Q) O) w4) J) w2) B) w
def TD(g:AvK)(v0 v1:Value)(K:Cont)(w:World):Prop:=
 Ac v1 fun ax=>
 Ap [(.slice none 0 0),(zI 0)] (fun vs i w1=>∀_:Env,
 BU .i64 (nth vs 1) ax fun ay=>
 AD ay
 (BM g.E v1 (nth vs 1) fun b0=>
 Aa g.E b0 (fun b1 w2=>
 Al g.te g.zE (fun t6 w3=>
 Ab g.E t6 b1 (fun w4=>
 Au [6] [[],[0],[0,1],[0,1,2],[0,1,2,3],[],[0,1,2,3,4,5],[0,1,2,3,4,5,6],[0,1,2,3,4,5,6,7],[0,1,2,3,4,5,6,7],[0,1,2,3,4,5,6,7,8],[0,1,2,3,4,5,6,7,8,9,10]] w4.drew (fun M St=>
 AK v0 fun b2=>
 AM 0 b2 fun b6=>
 AM 0 b6 fun t22=>
 As (St 4) t22 fun b7=>
 Eg (St 5) g.E t6 fun b8=>
 BK prog Cq b7 [b8] (fun t25 B=>
 Mod (M 6) w4.drew B/\
 AR 0 t25 fun b9=>
 AR 1 t25 fun _t27=>
 Cu .i64 b9 (zI 0) fun ba=>
 AD ba
 (AW .i64 (nth vs 1) (zI 1) fun bb=>
 i [(nth vs 0),bb] B)
 (Ao (fun _vs_1 w6=>∀_:Env,
 Aa g.E t6 (fun t55 w7=>
 Ba g.te g.E 1 g.zE [(0,t55)] (fun bc w8=>
 runK prog (Builtin.append_ #[g.ts,g.ts] g.ts [(nth vs 0),bc].toArray) (fun bd w9=>
 AW .i64 (nth vs 1) (zI 1) fun O=>
 i [bd,O] w9) w8) w7) w6) (fun J=>
 Ac (nth vs 0) fun bk=>
 BR .i64 bk (zI 1) fun Q=>
 Km .i64 Q (zI 0) fun bl=>
 AD bl
 (Ao (fun I a6=>∀_:Env,
 AD (nth I 1)
 (Aa g.E (nth I 0) (fun bn bp=>
 BM g.E (nth vs 0) Q fun t53=>
 Ab g.E t53 bn (fun bs=>
 AW .i64 (nth vs 1) (zI 1) fun T=>
 i [(nth vs 0),T] bs) bp) a6)
 (J [] a6)) (fun a7=>
 Au [10,14,15] [[],[0],[0,1],[0,1,2],[0,1,2,3],[],[],[5,6],[5,6,7],[],[0,1,2,3,4,5,6,7,8,9],[0,1,2,3,4,5,6,7,8,9,10],[0,1,2,3,4,5,6,7,8,9,10,11],[0,1,2,3,4,5,6,7,8,9,10,11],[],[0,1,2,3,4,5,6,7,8,9,10,11,12,14],[0,1,2,3,4,5,6,7,8,9,10,11,12,13,14,15]] B.drew (fun j m=>
 AK v0 fun bx=>
 AM 0 bx fun c4=>
 AM 2 c4 fun t39=>
 As (m 4) t39 fun a8=>
 BM g.E (nth vs 0) Q fun c6=>
 Eg (m 8) g.E c6 fun ak=>
 Eg (m 9) g.E t6 fun t45=>
 (BK prog Cq a8 [ak,t45] (fun t46 U=>
 Mod (j 10) B.drew U/\
 AR 0 t46 fun c7=>
 AR 1 t46 fun c8=>
 Al g.te g.zE (fun al V=>
 Mod (j 14) U V/\
 Ab g.E al c7 (fun an=>
 Mod (j 15) V an/\
 a7 [al,c8] an) V) U) B.drew)/\
 (Al g.te g.zE (fun o X=>
 Mod (j 14) B.drew X/\
 BK prog Cq a8 [ak,t45] (fun q Y=>
 Mod (j 10) X Y/\
 AR 0 q fun Z=>
 AR 1 q fun a1=>
 Ab g.E o Z (fun av=>
 Mod (j 15) Y av/\
 a7 [o,a1] av) Y) X) B.drew))))
 (J [] B)))) w4.drew)) w3) w2) w1)
 (K (nth vs 0) w1)) w
def QW(g:AvK)(v0 v1 v2 v3:Value)(K:Cont)(w:World):Prop:=
 AK v0 fun t22=>
 AM 4 t22 fun Z=>
 AJ Z (fun a1 w1=>
 AB prog g.fsplit [v0,a1,v1] (fun O w2=>
 AR 0 O fun m=>
 AR 1 O fun a6=>
 BR .i64 v2 v1 fun a7=>
 AB prog g.fsplit [v0,a6,a7] (fun Q w3=>
 AR 0 Q fun a8=>
 AR 1 Q fun o=>
 AB prog g.fdrop [v0,a8] (fun _t40 w4=>
 Ao (fun vs w5=>∀_:Env,
 runK prog (Builtin.append_ #[g.ts,g.ts] g.ts [(nth vs 1),v3].toArray) (fun T w6=>
 Ao (fun j w7=>∀_:Env,
 AB prog g.fmelded [v0,(nth j 1)] (fun t76 w8=>
 Ac t76 fun t77=>
 Ap [(nth vs 0),(zI 0)] (fun i q w9=>∀_:Env,
 BU .i64 (nth i 1) t77 fun ak=>
 AD ak
 (BM g.E t76 (nth i 1) fun al=>
 Aa g.E al (fun an av=>
 Al g.te g.zE (fun U ax=>
 Ab g.E U an (fun B=>
 Au [8,9] [[],[],[],[2],[2,3],[2,3,4],[],[6],[2,3,4,5,6,7],[0,1,2,3,4,5,6,7,8],[0,1,2,3,4,5,6,7,8,9]] B.drew (fun M St=>
 AK v0 fun ay=>
 AM 3 ay fun b0=>
 As (St 5) b0 fun b1=>
 Eg (St 6) g.E U fun b2=>
 Ai [(0,g.E),(g.E,1),(g.E+1,1),(g.E+2,1),(g.E+3,1),(g.E+4,1)] g.zN [(0,b2)] fun b6=>
 AB prog g.aTake [b1,b6] (fun b7 I=>
 Mod (M 8) B.drew I/\
 AB prog g.fjoin [v0,(nth i 0),b7,(zI (-1))] (fun b8 V=>
 Mod (M 9) I V/\
 AW .i64 (nth i 1) (zI 1) fun b9=>
 q [b8,b9] V) I) B.drew)) ax) av) w9)
 (AB prog g.fconcat [v0,(nth i 0),(nth j 0)] (fun ba bb=>
 AK v0 fun bc=>
 AM 4 bc fun bd=>
 Av bd ba (fun bk=>
 K (.tuple #[]) bk) bb) w9)) w8) w7) (fun X=>
 Dp .i64 o (zI (-1)) fun bl=>
 AD bl
 (AB prog g.ffirst [v0,o] (fun Y bn=>
 AR 0 Y fun bp=>
 AR 1 Y fun t66=>
 AB prog g.fpick [v0,t66] (fun bs bx=>
 Ba g.te g.E 1 g.zE [(0,bs)] (fun c4 c6=>
 runK prog (Builtin.append_ #[g.ts,g.ts] g.ts [T,c4].toArray) (fun c7 c8=>
 X [bp,c7] c8) c6) bx) bn) w6)
 (X [o,T] w6))) w5) (fun J=>
 Dp .i64 m (zI (-1)) fun c9=>
 AD c9
 (AB prog g.flast [v0,m] (fun t46 ca=>
 AR 0 t46 fun cc=>
 AR 1 t46 fun cd=>
 AB prog g.fpick [v0,cd] (fun t53 ch=>
 Ba g.te g.E 1 g.zE [(0,t53)] (fun cn cv=>
 runK prog (Builtin.append_ #[g.ts,g.ts] g.ts [(.slice none 0 0),cn].toArray) (fun t55 cx=>
 J [cc,t55] cx) cv) ch) ca) w4)
 (J [m,(.slice none 0 0)] w4))) w3) w2) w1) w
def VJ(g:AvK)(v0 v1 v2 v3 v4:Value)(K:Cont)(w:World):Prop:=
 Ao (fun _vs w1=>∀_:Env,
 AB prog g.fat [v0,v1] (fun bs w2=>
 Al g.tn g.zN (fun j w3=>
 Ab (g.E+5) j bs (fun w4=>
 AM g.E j fun bx=>
 AJ bx (fun c4 w5=>
 AB prog g.ftotals [v0,c4] (fun T w6=>
 AR 0 T fun _t35=>
 AR 1 T fun i=>
 AR 2 T fun _t37=>
 Au [7] [[],[0],[0,1],[0,1,2],[0,1,2,3],[],[5],[0,1,2,3,4,5,6],[0,1,2,3,4,5,6,7],[0,1,2,3,4,5,6,7,8],[0,1,2,3,4,5,6,7,8],[0,1,2,3,4,5,6,7,8,9],[0,1,2,3,4,5,6,7,8,9,10,11]] w6.drew (fun M St=>
 AK v0 fun c6=>
 AM 0 c6 fun c7=>
 AM 0 c7 fun c8=>
 As (St 4) c8 fun c9=>
 AM 0 j fun ca=>
 OE g (St 6) ca fun t45=>
 BK prog Cq c9 [t45] (fun t46 w7=>
 Mod (M 7) w6.drew w7/\
 AR 0 t46 fun o=>
 AR 1 t46 fun _t48=>
 Ao (fun _vs_1 w8=>∀_:Env,
 BR .i64 v2 i fun t66=>
 KM .i64 t66 (zI 0) fun U=>
 BR .i64 v3 i fun t70=>
 LJ .i64 t70 o fun V=>
 Ao (fun _vs_2 w9=>∀_:Env,
 AW .i64 i o fun Z=>
 SZ .i64 v3 Z fun a1=>
 AD a1
 (K (.bool true) w9)
 (AM (g.E+1) j fun a6=>
 AJ a6 (fun a7 cc=>
 BR .i64 v2 i fun a8=>
 BR .i64 a8 o fun ak=>
 KM .i64 ak (zI 0) fun al=>
 BR .i64 v3 i fun an=>
 BR .i64 an o fun av=>
 AB prog g.fover [v0,a7,al,av,v4] (fun ax cd=>
 K ax cd) cc) w9)) (fun ay=>
 BU .i64 U V fun ch=>
 AD ch
 (AM 0 j fun t76=>
 Aa g.E t76 (fun t77 cn=>
 Al g.te g.zE (fun m cv=>
 Ab g.E m t77 (fun q=>
 Ao (fun _vs_3 B=>∀_:Env,
 Ao (fun _vs_4 cx=>∀_:Env,
 Aa g.E m (fun b0 da=>
 Bi prog Cq v4 [b0] (fun b1 b2=>
 CA b1 fun b6=>
 AD b6
 (K (.bool false) b2)
 (ay [] b2)) da) cx) (fun b7=>
 Eo .i64 U (zI 0) fun dk=>
 AD dk
 (Au [7,11] [[],[0],[0,1],[0,1,2],[0,1,2,3],[],[],[0,1,2,3,4,5,6],[0,1,2,3,4,5,6,7],[0,1,2,3,4,5,6,7,8],[0,1,2,3,4,5,6,7,8],[0,1,2,3,4,5,6,7,8,9,10]] B.drew (fun b8 I=>
 AK v0 fun dT=>
 AM 0 dT fun e1=>
 AM 1 e1 fun e2=>
 As (I 4) e2 fun e3=>
 Eg (I 5) g.E m fun b9=>
 BK prog Cq e3 [b9,U] (fun O X=>
 Mod (b8 7) B.drew X/\
 AR 0 O fun _t103=>
 AR 1 O fun ba=>
 Ab g.E m ba (fun bb=>
 Mod (b8 11) X bb/\
 b7 [] bb) X) B.drew))
 (b7 [] B))) (fun bc=>
 BU .i64 V o fun e4=>
 AD e4
 (Au [7,11] [[],[0],[0,1],[0,1,2],[0,1,2,3],[],[],[0,1,2,3,4,5,6],[0,1,2,3,4,5,6,7],[0,1,2,3,4,5,6,7,8],[0,1,2,3,4,5,6,7,8],[0,1,2,3,4,5,6,7,8,9]] q.drew (fun bd Q=>
 AK v0 fun e5=>
 AM 0 e5 fun e6=>
 AM 1 e6 fun e7=>
 As (Q 4) e7 fun e8=>
 Eg (Q 5) g.E m fun e9=>
 BK prog Cq e8 [e9,V] (fun bk Y=>
 Mod (bd 7) q.drew Y/\
 AR 0 bk fun ea=>
 AR 1 bk fun _t91=>
 Ab g.E m ea (fun bl=>
 Mod (bd 11) Y bl/\
 bc [] bl) Y) q.drew))
 (bc [] q))) cv) cn) w8)
 (ay [] w8))) (fun bn=>
 BU .i64 v2 i fun ec=>
 AD ec
 (AM g.E j fun ed=>
 AJ ed (fun t55 ee=>
 LJ .i64 v3 i fun ef=>
 AB prog g.fover [v0,t55,v2,ef,v4] (fun eh bp=>
 CA eh fun ej=>
 AD ej
 (K (.bool false) bp)
 (bn [] bp)) ee) w7)
 (bn [] w7))) w6.drew)) w5) w4) w3) w2) w1) (fun J=>
 Cu .i64 v1 (zI (-1)) fun ek=>
 AD ek
 (K (.bool true) w)
 (Km .i64 v2 v3 fun t25=>
 AD t25
 (K (.bool true) w)
 (J [] w)))
def Wf(g:AvK)(v0 v1 v2:Value)(K:Cont)(w:World):Prop:=
 Ec g.tt v0 (fun t3 i=>
 Ec 3 v1 (fun t4 w2=>
 Ec 3 v2 (fun t5 j=>
 K (.func (.func g.fOverf) #[] #[t3,t4,t5]) j) w2) i) w
def VP(g:AvK)(v0 v1 v2 v3:Value)(K:Cont)(w:World):Prop:=
 Au [8] [[],[],[1],[1,2],[1,2,3],[],[],[],[0,1,2,3,4,5,6,7]] w.drew (fun M i=>
 As (i 0) v1 fun t5=>
 As (i 1) v1 fun q=>
 AK q fun B=>
 AM 4 B fun I=>
 As (i 4) I fun t9=>
 As (i 5) v2 fun j=>
 As (i 6) v3 fun m=>
 AB prog g.fover [t5,t9,j,m,v0] (fun _t13 o=>
 Mod (M 8) w.drew o/\
 K (.tuple #[]) o) w.drew)
def cD(g:AvK)(v0:Value)(K:Cont)(w:World):Prop:=
 AK v0 fun t9=>
 AM 4 t9 fun j=>
 AJ j (fun m q=>
 AB prog g.ftotals [v0,m] (fun i w2=>
 AR 0 i fun _t13=>
 AR 1 i fun o=>
 AR 2 i fun _t15=>
 K o w2) q) w
def VO(g:AvK)(v0 v1:Value)(K:Cont)(w:World):Prop:=
 BP g.tn v1 (fun t3 w1=>
 CY v0 fun b8=>
 AD (.bool b8)
 (K (zI (-1)) w1)
 (AK v0 fun I=>
 AM 1 I fun J=>
 AJ J (fun O w2=>
 Ac O fun Q=>
 BR .i64 Q (zI 1) fun j=>
 Km .i64 j (zI 0) fun T=>
 AD T
 (AK v0 fun U=>
 AM 1 U fun V=>
 AJ V (fun X w3=>
 BM 1 X j fun t22=>
 AJ t22 (fun q w4=>
 AK v0 fun Y=>
 AM 1 Y fun Z=>
 AJ Z (fun a1 w5=>
 runK prog (Instr.sliceAt 145 a1 none (some j) none) (fun a6 w6=>
 AK v0 fun a7=>
 AM 1 a7 fun a8=>
 Av a8 a6 (fun w7=>
 Au [8] [[],[0],[0,1],[0,1,2],[],[],[5],[0,1,2,3,4,5,6],[0,1,2,3,4,5,6,7]] w7.drew (fun M St=>
 AK v0 fun ak=>
 AM 0 ak fun al=>
 As (St 3) al fun an=>
 Eg (St 5) (g.E+5) t3 fun av=>
 Ai [(0,g.E+5),(g.E+5,1)] g.zP [(0,av),(1,(.bool true))] fun t39=>
 BM (g.E+6) an q fun ax=>
 Ab (g.E+6) ax t39 (fun w8=>
 Mod (M 8) w7.drew w8/\
 K q w8) w7.drew)) w6) w5) w4) w3) w2)
 (Au [7,8,11] [[],[],[1],[1,2],[1,2,3],[],[5],[5,6],[1,2,3,4,5,6,7],[0,1,2,3,4,5,6,7,8],[0,1,2,3,4,5,6,7,8,9],[0,1,2,3,4,5,6,7,8,9,10]] w2.drew (fun m i=>
 AK v0 fun ay=>
 AM 0 ay fun t45=>
 As (i 4) t45 fun t46=>
 Eg (i 5) (g.E+5) t3 fun b0=>
 Ai [(0,g.E+5),(g.E+5,1)] g.zP [(0,b0),(1,(.bool true))] fun b1=>
 Ba g.tp (g.E+6) 1 g.zP [(0,b1)] (fun b2 w9=>
 Mod (m 7) w2.drew w9/\
 runK prog (Builtin.append_ #[g.tps,g.tps] g.tps [t46,b2].toArray) (fun t50 o=>
 Mod (m 8) w9 o/\
 AK v0 fun b6=>
 AM 0 b6 fun b7=>
 Av b7 t50 (fun B=>
 Mod (m 11) o B/\
 AK v0 fun b9=>
 AM 0 b9 fun t55=>
 AJ t55 (fun ba bb=>
 Ac ba fun bc=>
 BR .i64 bc (zI 1) fun bd=>
 K bd bb) B) o) w9) w2.drew))) w1)) w
def Sr(g:AvK)(v0 v1:Value)(K:Cont)(w:World):Prop:=
 CY v0 fun Y=>
 AD (.bool Y)
 (K (zI 1) w)
 (BU .i64 v1 (zI 0) fun i=>
 AD i
 (K (zI 5) w)
 (AK v0 fun j=>
 AM 0 j fun m=>
 AJ m (fun o V=>
 Ac o fun q=>
 Km .i64 v1 q fun B=>
 AD B
 (K (zI 5) V)
 (AK v0 fun t22=>
 AM 0 t22 fun I=>
 AJ I (fun J w2=>
 BM (g.E+6) J v1 fun O=>
 AM (g.E+5) O fun Q=>
 AJ Q (fun T X=>
 CA T fun U=>
 AD U
 (K (zI 5) X)
 (K (zI 0) X)) w2) V)) w))
def Vl(g:AvK)(v0 v1:Value)(K:Cont)(w:World):Prop:=
 AB prog g.aasked [v0,v1] (fun U V=>
 Dp .i64 U (zI 0) fun i=>
 AD i
 (K U V)
 (AK v0 fun j=>
 AM 0 j fun m=>
 AJ m (fun o w2=>
 Ai [(0,g.E+5),(g.E+5,1)] g.zP [] fun q=>
 BM (g.E+6) o v1 fun B=>
 Ab (g.E+6) B q (fun X=>
 AK v0 fun I=>
 AM 1 I fun t22=>
 AJ t22 (fun J w4=>
 Ba 3 1 1 [(zI 0)] [(0,v1)] (fun t25 Y=>
 runK prog (Builtin.append_ #[145,145] 145 [J,t25].toArray) (fun O Z=>
 AK v0 fun Q=>
 AM 1 Q fun T=>
 Av T O (fun w7=>
 K (zI 0) w7) Z) Y) w4) X) w2) V)) w
def jN(g:AvK)(v0 v1:Value)(K:Cont)(w:World):Prop:=
 Al g.tn g.zN (fun t4 T=>
 AB prog g.aasked [v0,v1] (fun i w2=>
 Dp .i64 i (zI 0) fun m=>
 AD m
 (Al g.tn g.zN (fun U V=>
 Aa (g.E+5) U (fun o w4=>
 Ab (g.E+5) t4 o (fun X=>
 Aa (g.E+5) t4 (fun Y Z=>
 K (.tuple #[Y,i]) Z) X) w4) V) w2)
 (AK v0 fun q=>
 AM 0 q fun B=>
 AJ B (fun I w7=>
 BM (g.E+6) I v1 fun J=>
 AM 0 J fun O=>
 Aa (g.E+5) O (fun t22 w8=>
 Ab (g.E+5) t4 t22 (fun w9=>
 Aa (g.E+5) t4 (fun j Q=>
 K (.tuple #[j,(zI 0)]) Q) w9) w8) w7) w2)) T) w
def cU(g:AvK)(v0 v1 v2:Value)(K:Cont)(w:World):Prop:=
 BP g.tn v2 (fun t5 T=>
 AB prog g.aasked [v0,v1] (fun i w2=>
 Dp .i64 i (zI 0) fun j=>
 AD j
 (K i w2)
 (Au [8] [[],[0],[0,1],[0,1,2],[],[],[0,1,2,3,4,5],[0,1,2,3,4,5,6],[0,1,2,3,4,5,6,7]] w2.drew (fun M O=>
 AK v0 fun m=>
 AM 0 m fun o=>
 As (O 3) o fun q=>
 Eg (O 5) (g.E+5) t5 fun B=>
 BM (g.E+6) q v1 fun I=>
 AM 0 I fun J=>
 Ab (g.E+5) J B (fun Q=>
 Mod (M 8) w2.drew Q/\
 K (zI 0) Q) w2.drew))) T) w
def cE(g:AvK)(v0:Value)(K:Cont)(w:World):Prop:=
 BP g.tk v0 (fun m i=>
 Au [1,3] [[],[],[0,1],[0,1,2],[0,1,2,3]] i.drew (fun M o=>
 Eg (o 0) 3 m fun t3=>
 AB prog g.aNew [] (fun t4 w2=>
 Mod (M 1) i.drew w2/\
 Ai [(0,3),(3,1),(4,1)] [.nilFunc,.nilFunc,.nilFunc,(.pointer none),(zI 0)] [(0,t3),(1,t4),(2,(zI (-1)))] fun t5=>
 BP g.tT t5 (fun q j=>
 Mod (M 3) w2 j/\
 K q j) w2) i.drew)) w
def cw(g:AvK)(K:Cont)(w:World):Prop:=
 Ai [(0,1),(1,1)] [(.slice none 0 0),(.slice none 0 0)] [] fun i=>
 BP g.tA i (fun j m=>
 K j m) w
def VV(g:AvK)(v0:Value)(K:Cont)(w:World):Prop:=
 AK v0 fun t9=>
 AM 4 t9 fun j=>
 AJ j (fun m q=>
 AB prog g.ftotals [v0,m] (fun i w2=>
 AR 0 i fun _t13=>
 AR 1 i fun _t14=>
 AR 2 i fun o=>
 K o w2) q) w
def U2(g:AvK)(v0 v1 v2:Value)(K:Cont)(w:World):Prop:=
 AK v0 fun J=>
 AM 4 J fun O=>
 AJ O (fun Q w1=>
 Ap [v1,(zI 0),Q] (fun vs i w2=>∀_:Env,
 Dp .i64 (nth vs 2) (zI (-1)) fun T=>
 AD T
 (AB prog g.fat [v0,(nth vs 2)] (fun t22 w3=>
 Al g.tn g.zN (fun o w4=>
 Ab (g.E+5) o t22 (fun w5=>
 AM g.E o fun t25=>
 AJ t25 (fun U w6=>
 AB prog g.ftotals [v0,U] (fun m V=>
 AR 0 m fun _t28=>
 AR 1 m fun j=>
 AR 2 m fun q=>
 Au [7] [[],[0],[0,1],[0,1,2],[0,1,2,3],[],[5],[0,1,2,3,4,5,6],[0,1,2,3,4,5,6,7],[0,1,2,3,4,5,6,7,8],[0,1,2,3,4,5,6,7,8],[0,1,2,3,4,5,6,7,8,9],[0,1,2,3,4,5,6,7,8,9,10,11]] V.drew (fun M St=>
 AK v0 fun X=>
 AM 0 X fun Y=>
 AM 0 Y fun Z=>
 As (St 4) Z fun a1=>
 AM 0 o fun a6=>
 OE g (St 6) a6 fun a7=>
 BK prog Cq a1 [a7] (fun t39 I=>
 Mod (M 7) V.drew I/\
 AR 0 t39 fun B=>
 AR 1 t39 fun a8=>
 SZ .i64 (nth vs 0) j fun ak=>
 AD ak
 (AM g.E o fun al=>
 AJ al (fun an w9=>
 i [(nth vs 0),(nth vs 1),an] w9) I)
 (AW .i64 j B fun av=>
 BU .i64 (nth vs 0) av fun ax=>
 AD ax
 (AW .i64 (nth vs 1) q fun ay=>
 AM 0 o fun t70=>
 Aa g.E t70 (fun b0 b1=>
 BR .i64 (nth vs 0) j fun b2=>
 Bi prog Cq v2 [b0,b2] (fun b6 b7=>
 AW .i64 ay b6 fun t76=>
 K t76 b7) b1) I)
 (AW .i64 q a8 fun t45=>
 AW .i64 (nth vs 1) t45 fun t46=>
 AW .i64 j B fun t50=>
 BR .i64 (nth vs 0) t50 fun b8=>
 AM (g.E+1) o fun b9=>
 AJ b9 (fun t53 ba=>
 i [b8,t46,t53] ba) I))) V.drew)) w6) w5) w4) w3) w2)
 (K (nth vs 1) w2)) w1) w
def cW(g:AvK)(v0 v1 v2:Value)(K:Cont)(w:World):Prop:=
 AK v0 fun I=>
 AM 4 I fun O=>
 AJ O (fun Q w1=>
 Ap [v1,(zI 0),Q] (fun vs i w2=>∀_:Env,
 Ao (fun _vs_1 w3=>∀_:Env,
 AB prog g.fat [v0,(nth vs 2)] (fun T w4=>
 Al g.tn g.zN (fun t9 w5=>
 Ab (g.E+5) t9 T (fun w6=>
 AM g.E t9 fun U=>
 AJ U (fun V w7=>
 AB prog g.ftotals [v0,V] (fun m X=>
 AR 0 m fun _t33=>
 AR 1 m fun o=>
 AR 2 m fun j=>
 Au [7] [[],[0],[0,1],[0,1,2],[0,1,2,3],[],[5],[0,1,2,3,4,5,6],[0,1,2,3,4,5,6,7],[0,1,2,3,4,5,6,7,8],[0,1,2,3,4,5,6,7,8],[0,1,2,3,4,5,6,7,8,9],[0,1,2,3,4,5,6,7,8,9,10,11]] X.drew (fun M St=>
 AK v0 fun Y=>
 AM 0 Y fun t39=>
 AM 0 t39 fun Z=>
 As (St 4) Z fun a1=>
 AM 0 t9 fun a6=>
 OE g (St 6) a6 fun a7=>
 BK prog Cq a1 [a7] (fun q B=>
 Mod (M 7) X.drew B/\
 AR 0 q fun t45=>
 AR 1 q fun t46=>
 BU .i64 (nth vs 0) j fun a8=>
 AD a8
 (AM g.E t9 fun ak=>
 AJ ak (fun al an=>
 i [(nth vs 0),(nth vs 1),al] an) B)
 (AW .i64 j t46 fun av=>
 BU .i64 (nth vs 0) av fun t70=>
 AD t70
 (AW .i64 (nth vs 1) o fun ax=>
 AM 0 t9 fun ay=>
 Aa g.E ay (fun t76 b0=>
 BR .i64 (nth vs 0) j fun b1=>
 Bi prog Cq v2 [t76,b1] (fun b2 b6=>
 AW .i64 ax b2 fun b7=>
 K (.tuple #[b7,(.bool true)]) b6) b0) B)
 (AW .i64 o t45 fun t50=>
 AW .i64 (nth vs 1) t50 fun b8=>
 AW .i64 j t46 fun t55=>
 BR .i64 (nth vs 0) t55 fun b9=>
 AM (g.E+1) t9 fun ba=>
 AJ ba (fun bb bc=>
 i [b9,b8,bb] bc) B))) X.drew)) w7) w6) w5) w4) w3) (fun J=>
 Km .i64 (nth vs 0) (zI 0) fun bd=>
 AD bd
 (Dp .i64 (nth vs 2) (zI (-1)) fun bk=>
 AD bk
 (J [] w2)
 (K (.tuple #[(zI 0),(.bool false)]) w2))
 (K (.tuple #[(zI 0),(.bool false)]) w2))) w1) w
def O4(g:AvK)(v0 v1 v2:Value)(K:Cont)(w:World):Prop:=
 Cu .i64 v1 (zI (-1)) fun bb=>
 AD bb
 (K (.tuple #[(zI (-1)),(zI (-1))]) w)
 (AB prog g.fat [v0,v1] (fun t22 w1=>
 Al g.tn g.zN (fun i w2=>
 Ab (g.E+5) i t22 (fun w3=>
 AM g.E i fun t25=>
 AJ t25 (fun bc w4=>
 AB prog g.ftotals [v0,bc] (fun B w5=>
 AR 0 B fun _t28=>
 AR 1 B fun j=>
 AR 2 B fun _t30=>
 Au [7] [[],[0],[0,1],[0,1,2],[0,1,2,3],[],[5],[0,1,2,3,4,5,6],[0,1,2,3,4,5,6,7],[0,1,2,3,4,5,6,7,8],[0,1,2,3,4,5,6,7,8],[0,1,2,3,4,5,6,7,8,9],[0,1,2,3,4,5,6,7,8,9,10,11]] w5.drew (fun M St=>
 AK v0 fun bd=>
 AM 0 bd fun bk=>
 AM 0 bk fun bl=>
 As (St 4) bl fun bn=>
 AM 0 i fun bp=>
 OE g (St 6) bp fun bs=>
 BK prog Cq bn [bs] (fun t39 T=>
 Mod (M 7) w5.drew T/\
 AR 0 t39 fun U=>
 AR 1 t39 fun _t41=>
 SZ .i64 v2 j fun t45=>
 AD t45
 (AM g.E i fun bx=>
 AJ bx (fun c4 w7=>
 AB prog g.fsplit [v0,c4,v2] (fun V w8=>
 AR 0 V fun c6=>
 AR 1 V fun t53=>
 AM (g.E+1) i fun c7=>
 AJ c7 (fun c8 w9=>
 AB prog g.fjoin [v0,t53,v1,c8] (fun c9 ca=>
 K (.tuple #[c6,c9]) ca) w9) w8) w7) T)
 (AW .i64 j U fun cc=>
 Km .i64 v2 cc fun t66=>
 AD t66
 (AM (g.E+1) i fun cd=>
 AJ cd (fun t70 ch=>
 BR .i64 v2 j fun cn=>
 BR .i64 cn U fun cv=>
 AB prog g.fsplit [v0,t70,cv] (fun t76 cx=>
 AR 0 t76 fun t77=>
 AR 1 t76 fun da=>
 AM g.E i fun dk=>
 AJ dk (fun dT e1=>
 AB prog g.fjoin [v0,dT,v1,t77] (fun e2 e3=>
 K (.tuple #[e2,da]) e3) e1) cx) ch) T)
 (Au [10] [[],[0],[0,1],[0,1,2],[0,1,2,3],[],[5],[],[],[7,8],[0,1,2,3,4,5,6,7,8,9],[0,1,2,3,4,5,6,7,8,9,10],[0,1,2,3,4,5,6,7,8,9,10,11],[0,1,2,3,4,5,6,7,8,9,10,11],[0,1,2,3,4,5,6,7,8,9,10,11,12],[0,1,2,3,4,5,6,7,8,9,10,11,12,13,14]] T.drew (fun e4 o=>
 AK v0 fun e5=>
 AM 0 e5 fun e6=>
 AM 1 e6 fun e7=>
 As (o 4) e7 fun e8=>
 AM 0 i fun e9=>
 As (o 6) e9 fun ea=>
 BR .i64 v2 j fun ec=>
 BK prog Cq e8 [ea,ec] (fun X Y=>
 Mod (e4 10) T.drew Y/\
 AR 0 X fun ed=>
 AR 1 X fun ee=>
 Dg Y (fun C=>
 AM g.E i fun Z=>
 BN C Z fun a1=>
 AM (g.E+1) i fun a6=>
 BN C a6 fun a7=>
 ∀a8:World,C a8->
 AM 0 i fun ak=>
 Av ak ed (fun I=>
 Au [6] [[],[0],[0,1],[0,1,2],[],[],[0,1,2,3,4,5]] I.drew (fun ef q=>
 AK v0 fun al=>
 AM 3 al fun an=>
 As (q 3) an fun av=>
 Eg (q 5) (g.E+5) i fun ax=>
 AB prog g.aPut [av,v1,ax] (fun _t112 m=>
 Mod (ef 6) I.drew m/\
 Au [3,11,13] [[],[],[],[0,1,2],[],[],[5],[5,6],[5,6,7],[],[9],[0,1,2,3,5,6,7,8,9,10],[],[0,1,2,3,4,5,6,7,8,9,10,11,12],[0,1,2,3,4,5,6,7,8,9,10,11,12,13],[0,1,2,3,4,5,6,7,8,9,10,11,12,13,14]] m.drew (fun J ay=>
 AB prog g.fjoin [v0,a1,v1,(zI (-1))] (fun b0 O=>
 Mod (J 3) m.drew O/\
 AK v0 fun b1=>
 AM 3 b1 fun b2=>
 As (ay 8) b2 fun b6=>
 Ai [(0,g.E),(g.E,1),(g.E+1,1),(g.E+2,1),(g.E+3,1),(g.E+4,1)] g.zN [(0,ee)] fun b7=>
 AB prog g.aTake [b6,b7] (fun b8 Q=>
 Mod (J 11) O Q/\
 AB prog g.fjoin [v0,(zI (-1)),b8,a7] (fun b9 ba=>
 Mod (J 13) Q ba/\
 K (.tuple #[b0,b9]) ba) Q) O) m.drew)) I.drew)) a8)) T.drew)))) w5.drew)) w4) w3) w2) w1) w)
def XV(g:AvK)(v0 v1:Value)(K:Cont)(w:World):Prop:=
 AB prog g.fat [v0,v1] (fun o q=>
 runK prog (Instr.field g.tn o 0) (fun t9 w2=>
 AK v0 fun i=>
 AM 3 i fun j=>
 AJ j (fun m B=>
 AB prog g.aFree [m,v1] (fun _t15 w4=>
 K t9 w4) B) w2) q) w
def P7(g:AvK)(v0 v1:Value)(K:Cont)(w:World):Prop:=
 Ac v1 fun B=>
 Ap [(.slice none 0 0),(zI 0)] (fun vs i w1=>∀_:Env,
 BU .i64 (nth vs 1) B fun I=>
 AD I
 (BM g.E v1 (nth vs 1) fun O=>
 AJ O (fun j w2=>
 AK v0 fun Q=>
 AM 0 Q fun T=>
 AM 0 T fun t22=>
 AJ t22 (fun U w3=>
 Bi prog Cq U [j] (fun t25 w4=>
 AR 0 t25 fun V=>
 AR 1 t25 fun _t27=>
 Cu .i64 V (zI 0) fun X=>
 AD X
 (AW .i64 (nth vs 1) (zI 1) fun Y=>
 i [(nth vs 0),Y] w4)
 (Ao (fun _vs_1 w5=>∀_:Env,
 Ba g.te g.E 1 g.zE [(0,j)] (fun Z w6=>
 runK prog (Builtin.append_ #[g.ts,g.ts] g.ts [(nth vs 0),Z].toArray) (fun a1 w7=>
 AW .i64 (nth vs 1) (zI 1) fun m=>
 i [a1,m] w7) w6) w5) (fun J=>
 Ac (nth vs 0) fun a6=>
 BR .i64 a6 (zI 1) fun o=>
 Km .i64 o (zI 0) fun a7=>
 AD a7
 (Au [10] [[],[0],[0,1],[0,1,2],[0,1,2,3],[],[],[5,6],[5,6,7],[],[0,1,2,3,4,5,6,7,8,9],[0,1,2,3,4,5,6,7,8,9,10],[0,1,2,3,4,5,6,7,8,9,10,11],[0,1,2,3,4,5,6,7,8,9,10,11],[0,1,2,3,4,5,6,7,8,9,10,11,12],[0,1,2,3,4,5,6,7,8,9,10,11,12,13,14]] w4.drew (fun M St=>
 AK v0 fun a8=>
 AM 0 a8 fun ak=>
 AM 2 ak fun t39=>
 As (St 4) t39 fun al=>
 BM g.E (nth vs 0) o fun an=>
 As (St 8) an fun av=>
 BK prog Cq al [av,j] (fun t46 w8=>
 Mod (M 10) w4.drew w8/\
 AR 0 t46 fun ax=>
 AR 1 t46 fun ay=>
 AD ay
 (BM g.E (nth vs 0) o fun t53=>
 Av t53 ax (fun w9=>
 AW .i64 (nth vs 1) (zI 1) fun q=>
 i [(nth vs 0),q] w9) w8)
 (J [] w8)) w4.drew))
 (J [] w4)))) w3) w2) w1)
 (K (nth vs 0) w1)) w
def N9(g:AvK)(v0 v1 v2 v3:Value)(K:Cont)(w:World):Prop:=
 AK v0 fun t22=>
 AM 4 t22 fun U=>
 AJ U (fun V w1=>
 AB prog g.fsplit [v0,V,v1] (fun B w2=>
 AR 0 B fun m=>
 AR 1 B fun X=>
 BR .i64 v2 v1 fun Y=>
 AB prog g.fsplit [v0,X,Y] (fun I w3=>
 AR 0 I fun Z=>
 AR 1 I fun o=>
 AB prog g.fdrop [v0,Z] (fun _t40 w4=>
 Ao (fun vs w5=>∀_:Env,
 runK prog (Builtin.append_ #[g.ts,g.ts] g.ts [(nth vs 1),v3].toArray) (fun O w6=>
 Ao (fun j w7=>∀_:Env,
 AB prog g.fmelded [v0,(nth j 1)] (fun t76 w8=>
 Ac t76 fun t77=>
 Ap [(nth vs 0),(zI 0)] (fun i q w9=>∀_:Env,
 BU .i64 (nth i 1) t77 fun a1=>
 AD a1
 (BM g.E t76 (nth i 1) fun a6=>
 AJ a6 (fun a7 a8=>
 AK v0 fun ak=>
 AM 3 ak fun al=>
 AJ al (fun an av=>
 Ai [(0,g.E),(g.E,1),(g.E+1,1),(g.E+2,1),(g.E+3,1),(g.E+4,1)] g.zN [(0,a7)] fun ax=>
 AB prog g.aTake [an,ax] (fun ay b0=>
 AB prog g.fjoin [v0,(nth i 0),ay,(zI (-1))] (fun b1 b2=>
 AW .i64 (nth i 1) (zI 1) fun b6=>
 q [b1,b6] b2) b0) av) a8) w9)
 (AB prog g.fconcat [v0,(nth i 0),(nth j 0)] (fun b7 b8=>
 AK v0 fun b9=>
 AM 4 b9 fun ba=>
 Av ba b7 (fun bb=>
 K (.tuple #[]) bb) b8) w9)) w8) w7) (fun Q=>
 Dp .i64 o (zI (-1)) fun bc=>
 AD bc
 (AB prog g.ffirst [v0,o] (fun T bd=>
 AR 0 T fun bk=>
 AR 1 T fun t66=>
 AB prog g.fpick [v0,t66] (fun bl bn=>
 Ba g.te g.E 1 g.zE [(0,bl)] (fun bp bs=>
 runK prog (Builtin.append_ #[g.ts,g.ts] g.ts [O,bp].toArray) (fun bx c4=>
 Q [bk,bx] c4) bs) bn) bd) w6)
 (Q [o,O] w6))) w5) (fun J=>
 Dp .i64 m (zI (-1)) fun c6=>
 AD c6
 (AB prog g.flast [v0,m] (fun t46 c7=>
 AR 0 t46 fun c8=>
 AR 1 t46 fun c9=>
 AB prog g.fpick [v0,c9] (fun t53 ca=>
 Ba g.te g.E 1 g.zE [(0,t53)] (fun cc cd=>
 runK prog (Builtin.append_ #[g.ts,g.ts] g.ts [(.slice none 0 0),cc].toArray) (fun t55 ch=>
 J [c8,t55] ch) cd) ca) c7) w4)
 (J [m,(.slice none 0 0)] w4))) w3) w2) w1) w
def Ru(g:AvK)(v0 v1 v2 v3 v4:Value)(K:Cont)(w:World):Prop:=
 Ao (fun _vs w1=>∀_:Env,
 AB prog g.fat [v0,v1] (fun b9 w2=>
 Al g.tn g.zN (fun j w3=>
 Ab (g.E+5) j b9 (fun w4=>
 AM g.E j fun ba=>
 AJ ba (fun bb w5=>
 AB prog g.ftotals [v0,bb] (fun B w6=>
 AR 0 B fun _t35=>
 AR 1 B fun i=>
 AR 2 B fun _t37=>
 Au [7] [[],[0],[0,1],[0,1,2],[0,1,2,3],[],[5],[0,1,2,3,4,5,6],[0,1,2,3,4,5,6,7],[0,1,2,3,4,5,6,7,8],[0,1,2,3,4,5,6,7,8],[0,1,2,3,4,5,6,7,8,9],[0,1,2,3,4,5,6,7,8,9,10,11]] w6.drew (fun M St=>
 AK v0 fun bc=>
 AM 0 bc fun bd=>
 AM 0 bd fun bk=>
 As (St 4) bk fun bl=>
 AM 0 j fun bn=>
 OE g (St 6) bn fun t45=>
 BK prog Cq bl [t45] (fun t46 w7=>
 Mod (M 7) w6.drew w7/\
 AR 0 t46 fun m=>
 AR 1 t46 fun _t48=>
 Ao (fun _vs_1 w8=>∀_:Env,
 BR .i64 v2 i fun t66=>
 KM .i64 t66 (zI 0) fun I=>
 BR .i64 v3 i fun t70=>
 LJ .i64 t70 m fun O=>
 Ao (fun _vs_2 w9=>∀_:Env,
 AW .i64 i m fun Q=>
 SZ .i64 v3 Q fun T=>
 AD T
 (K (.bool true) w9)
 (AM (g.E+1) j fun U=>
 AJ U (fun V bp=>
 BR .i64 v2 i fun X=>
 BR .i64 X m fun Y=>
 KM .i64 Y (zI 0) fun Z=>
 BR .i64 v3 i fun a1=>
 BR .i64 a1 m fun a6=>
 AB prog g.fover [v0,V,Z,a6,v4] (fun a7 bs=>
 K a7 bs) bp) w9)) (fun a8=>
 BU .i64 I O fun bx=>
 AD bx
 (AM 0 j fun t76=>
 AJ t76 (fun t77 ak=>
 Ao (fun o al=>∀_:Env,
 Ao (fun an c4=>∀_:Env,
 Bi prog Cq v4 [(nth an 0)] (fun av ax=>
 CA av fun ay=>
 AD ay
 (K (.bool false) ax)
 (a8 [] ax)) c4) (fun b0=>
 Eo .i64 I (zI 0) fun c6=>
 AD c6
 (AK v0 fun c7=>
 AM 0 c7 fun c8=>
 AM 1 c8 fun c9=>
 AJ c9 (fun ca cc=>
 Bi prog Cq ca [(nth o 0),I] (fun q cd=>
 AR 0 q fun _t103=>
 AR 1 q fun b1=>
 b0 [b1] cd) cc) al)
 (b0 [(nth o 0)] al))) (fun b2=>
 BU .i64 O m fun ch=>
 AD ch
 (AK v0 fun cn=>
 AM 0 cn fun cv=>
 AM 1 cv fun cx=>
 AJ cx (fun da dk=>
 Bi prog Cq da [t77,O] (fun b6 dT=>
 AR 0 b6 fun e1=>
 AR 1 b6 fun _t91=>
 b2 [e1] dT) dk) ak)
 (b2 [t77] ak))) w8)
 (a8 [] w8))) (fun b7=>
 BU .i64 v2 i fun e2=>
 AD e2
 (AM g.E j fun e3=>
 AJ e3 (fun t55 e4=>
 LJ .i64 v3 i fun e5=>
 AB prog g.fover [v0,t55,v2,e5,v4] (fun e6 b8=>
 CA e6 fun e7=>
 AD e7
 (K (.bool false) b8)
 (b7 [] b8)) e4) w7)
 (b7 [] w7))) w6.drew)) w5) w4) w3) w2) w1) (fun J=>
 Cu .i64 v1 (zI (-1)) fun e8=>
 AD e8
 (K (.bool true) w)
 (Km .i64 v2 v3 fun t25=>
 AD t25
 (K (.bool true) w)
 (J [] w)))
structure A6 where
 kind:Int
 n:Int
 f:Int
 s:ByteArray
 deriving DecidableEq
structure Attr where
 key:Int
 val:A6
 deriving DecidableEq
def A6.cells(v:A6):List Value:=[.int .u8 v.kind,zI v.n,.int .u64 v.f,.string v.s]
def Attr.cells(a:Attr):List Value:=zI a.key::a.val.cells
abbrev DV:World->List Value->Attr->Prop:=fun _ r x=>r=x.cells
abbrev CR(S:Nat->Prop)(w:World)(v:Value)(l:List Attr):Prop:=BB S 5 DV w v l
def Ts(a b:Attr)(w:World) :
  (Op.equalIn 10000 79 (.agg a.cells.toArray) (.agg b.cells.toArray)).run prog w=.ok (decide (a=b)) w:=by
 have B:prog.underlying 79=some (.struct (prog.fieldsOf 79)):=by kernel_rfl
 have I:prog.underlying 77=some (.struct (prog.fieldsOf 77)):=by kernel_rfl
 have J:=underlying3;have O:=underlying5;have Q:=underlying2;have T:=underlying75;have U:=underlying9;rw[show(10000:Nat)=9999+1 from rfl,po w 9999 _ _ _ B Tryz.stoodInHeld79];simp only[Program.fieldsOf,underlying79,Attr.cells,A6.cells];have V:=Tryz.isAgg3;have X:=Tryz.isAgg77;have Y:∀w,(sizeOf 77).run prog w=.ok 4 w:=fun w=>by simp only[sizeOf,kL,Tryz.typeInfo77,S9,lU];rfl
 have a3:=Tryz.isAgg5;have a4:=Tryz.isAgg2;have a5:=Tryz.isAgg75;have Z:=Tryz.isAgg9;have hv:∀(x y:A6) (w:World),(Op.equalIn 9999 77 (.agg #[.int .u8 x.kind,zI x.n,.int .u64 x.f,.string x.s]) (.agg #[.int .u8 y.kind,zI y.n,.int .u64 y.f,.string y.s])).run prog w=.ok (decide (x=y)) w:=by
  intro x y w;rw[show(9999:Nat)=9998+1 from rfl,po w 9998 _ _ _ I Tryz.stoodInHeld77];simp only[Program.fieldsOf,underlying77];have i:∀a b:Int,(Op.equalIn 9998 5 (.int .u8 a) (.int .u8 b)).run prog w=.ok (a==b) w:=fun a b=>nK w 9997 _ _ _ a b O;have j:∀a b:Int,(Op.equalIn 9998 2 (zI a) (zI b)).run prog w=.ok (a==b) w:=fun a b=>nK w 9997 _ _ _ a b Q;have m:∀a b:Int,(Op.equalIn 9998 75 (.int .u64 a) (.int .u64 b)).run prog w=.ok (a==b) w:=fun a b=>nK w 9997 _ _ _ a b T;have e4:∀a b:ByteArray,(Op.equalIn 9998 9 (.string a) (.string b)).run prog w=.ok (a.toList==b.toList) w:=fun a b=>run_equalIn_string w 9997 _ a b U;have q:decide (x=y)=(x.kind==y.kind&&(x.n==y.n&&(x.f==y.f&&decide (x.s=y.s)))):=by
   cases x;cases y;rw[nW];simp[A6.mk.injEq]
  rw[q];simp[Op.eqFields,part,a3,a4,a5,Z,i,j,m,e4,toList_beq];by_cases h1:x.kind=y.kind<;>by_cases o:x.n=y.n<;>by_cases h3:x.f=y.f<;>by_cases h4:x.s=y.s<;>simp[h1,o,h3,h4]
 have i:∀a b:Int,(Op.equalIn 9999 3 (zI a) (zI b)).run prog w=.ok (a==b) w:=fun a b=>nK w 9998 _ _ _ a b J;have j:∀(x y:A6) (w:World),(Op.equalIn 9999 77 (.agg #[.int .u8 x.kind,zI x.n,.int .u64 x.f,.string x.s]) (.agg #[.int .u8 y.kind,zI y.n,.int .u64 y.f,.string y.s])).run prog w=.ok (decide (x=y)) w:=hv;have m:=j a.val b.val w;have x1:∀k q r s t:Value,(#[k,q,r,s,t]:Array Value).extract 1 5=#[q,r,s,t]:=fun _ _ _ _ _=>rfl;have q:decide (a=b)=(a.key==b.key&&decide (a.val=b.val)):=by
  cases a;cases b;rw[nW];simp[Attr.mk.injEq]
 rw[q];simp[Op.eqFields,part,V,X,Y,i,x1,m];by_cases h1:a.key=b.key<;>by_cases o:a.val=b.val<;>simp[h1,o]
def K1(xo yo:Operand)(a b:Attr)(w:World) :
  (BS .neq 79 xo yo (.agg a.cells.toArray) (.agg b.cells.toArray)).run prog w=.ok (.bool (!decide (a=b))) w:=by
 simp only[BS,kL,pr w .neq _ xo yo _ _ Tryz.eqGuardType79,S9];rw[rF,Ts];rfl
def IY:DU prog 43 79 5 48:=⟨Tryz.t79,.agg #[zI 0,.int .u8 0,zI 0,.int .u64 0,.string ⟨#[]⟩],by kernel_rfl,by kernel_rfl,by kernel_rfl,by kernel_rfl,by kernel_rfl,by rfl,by decide⟩
def DV.one{r:List Value}{x:Attr}(h:DV w r x):∀u∈r,u.oneCell'=true:=by
 intro u hu;subst h;simp only[Attr.cells,A6.cells,K8,kU,mb] at hu;rcases hu with rfl|rfl|rfl|rfl|rfl<;>rfl
abbrev HY(B:Nat)(w:World)(v:Value)(l:List Attr):Prop:=AE B 79 5 DV w v l
structure Ho where
 n:Int
 set:List Attr
 deriving DecidableEq
def M0(D:Nat->Prop)(w:World)(r:List Value)(b:Ho):Prop:=∃sv,r=[zI b.n,sv]/\CR D w sv b.set
def M0.one{D:Nat->Prop}{r:List Value}{b:Ho}(h:M0 D w r b):∀u∈r,u.oneCell'=true:=by
 obtain⟨sv,rfl,i⟩:=h;obtain⟨a,c,rfl,_⟩:=i.shape;intro u hu;simp only[K8,kU,mb] at hu;rcases hu with rfl|rfl<;>rfl
def M0.mod{D D' M:Nat->Prop}{r:List Value}{b:Ho}(h:M0 D w r b)(hm:Mod M w w')(j:∀b,b<w.heap.size->D b->¬M b)(i:∀b,b<w.heap.size->D b->D' b):M0 D' w' r b:=by
 obtain⟨sv,rfl,m⟩:=h;exact⟨sv,rfl,m.mono i (fun b hb o=>hm.same b hb (j b hb o)) (by decide) fun _ _ h=>h⟩
def Xw:DU prog 46 53 2 32:=⟨Tryz.t53,.agg #[zI 0,.slice none 0 0],by kernel_rfl,by kernel_rfl,by kernel_rfl,by kernel_rfl,by kernel_rfl,by rfl,by decide⟩
abbrev Sg(S D:Nat->Prop)(w:World)(v:Value)(l:List Ho):Prop:=BB S 2 (M0 D) w v l
def Kq(l:List Ho)(n:Int)(set:List Attr):List Ho:=
 if n<=0 then l else
 match l.getLast? with
 |some b=>if b.set=set then l.set (l.length-1) ⟨IntKind.i64.wrap (b.n+n),b.set⟩ else l++[⟨n,set⟩]
 |none=>l++[⟨n,set⟩]
def cO{g:Nat}{fn:Func}(an:O7)(j:prog.funcs[g]?=some fn){b:Prop}(h:b)(hc:((fn.body.isSome&&Nat.ble args.length fn.ntmps),b)=(true,D prog Cq fn.ntmps (Hx fn) an (gQ prog fn.results.toList K) (nth args) w)):AB prog g args K w:=by
 have hb:=(Prod.mk.inj hc).1;rw[(Prod.mk.inj hc).2] at h;rw[cL] at hb;refine VY FM mixed j ?_ rfl rfl hb.2 h;obtain⟨x,i⟩:=kH.1 hb.1;rw[i,Hx,i]
abbrev zF(l:List Value):List Value:=(.int .i32 0)::(.int .i32 0)::(.int .i32 0)::(.int .i32 0)::l
abbrev zR(l:List Value):List Value:=zF (zF (zF (zF (zF (zF (zF (zF l)))))))
abbrev aR:Nat->List Nat:=List.range
abbrev aQ0(l:List (List Nat)):List (List Nat):=[]::[0]::[0,1]::[0,1,2]::aR 4::l
abbrev aN:O7->O7:=.node [] [] .nil
abbrev aO:O7->O7->O7:=.node [] []
abbrev aE:O7:=.node [] [] .nil .nil
variable {v0 v1 v2 v3 v4 v5 v6 v7 v8 v9:Value}{K:Cont}{w:World}
def hU(h: Ac v0 fun t7=>Ac v1 fun t9=>Dp .i64 t7 t9 fun m=>AD m (K (.bool false) w) (Ap [(zI 0)] (fun vs i w1=>∀_:Env,Ac v0 fun o=>BU .i64 (nth vs 0) o fun q=>AD q (Dg w1 (fun C=>BM 2 v0 (nth vs 0) fun B=>AM 0 B fun I=>BN C I fun J=>BM 2 v1 (nth vs 0) fun O=>AM 0 O fun t25=>BN C t25 fun Q=>Dp .i64 J Q fun T=>AD T (∀ w2:World,C w2->K (.bool false) w2) (BM 2 v0 (nth vs 0) fun U=>AM 1 U fun V=>BN C V fun X=>BM 2 v1 (nth vs 0) fun Y=>AM 1 Y fun Z=>BN C Z fun a1=>FU prog C 58 [X,a1] fun t39=>CA t39 fun a6=>∀w3:World,C w3->AD a6 (K (.bool false) w3) (AW .i64 (nth vs 0) (zI 1) fun j=>i [j] w3)))) (K (.bool true) w1)) w)):AB prog 35 [v0,v1] K w:=cO (aN (aO (aN (aO aE .nil)) (aO (aN (.node [5] [(4,5),(11,41)] (aO (aN aE) (aO (aO .draw (aO aE .nil)) .nil)) .nil)) aE))) func35 h (by kernel_rfl)
def dD(h: Ac v0 fun T=>Ac v1 fun t9=>Dp .i64 T t9 fun j=>AD j (K (.bool false) w) (Ap [(zI 0)] (fun vs i Q=>∀_:Env,Ac v0 fun m=>BU .i64 (nth vs 0) m fun o=>AD o (Dg Q (fun C=>BM 5 v0 (nth vs 0) fun q=>HD C 5 q fun B=>BM 5 v1 (nth vs 0) fun I=>HD C 5 I fun J=>Bo prog C (BS .neq 79 (.tmp 20) (.tmp 24) B J) fun t25=>∀w2:World,C w2->AD t25 (K (.bool false) w2) (AW .i64 (nth vs 0) (zI 1) fun O=>i [O] w2))) (K (.bool true) Q)) w)):AB prog 58 [v0,v1] K w:=cO (aN (aO (aN (aO aE .nil)) (aO (aN (.node [5] [(4,5),(11,25)] (aO (aN aE) (aO (aO .draw (aO aE .nil)) .nil)) .nil)) aE))) func58 h (by kernel_rfl)
def ZX(h: Gl v0 fun b4=>AD (.bool b4) (K (.slice none 0 0) w) (Ba 79 5 0 [] [] (fun t5 i=>runK prog (Builtin.append_ #[43,43] 43 [t5,v0].toArray) (fun j w2=>K j w2) i) w)):AB prog 107 [v0] K w:=cO (aN (aO (aN (aO aE .nil)) aE)) func107 h (by kernel_rfl)
def ZR(h: AB prog 188 [v0,v1] (fun i j=>K i j) w):AB prog 118 [v0,v1] K w:=cO (aN aE) func118 h (by kernel_rfl)
def fZ(h: AB prog 107 [v0] (fun t4 i=>K t4 i) w):AB prog 52 [v0] K w:=cO (aN aE) func52 h (by kernel_rfl)
def aw(h: Ac v0 fun Q=>Ac v1 fun t9=>Dp .i64 Q t9 fun j=>AD j (K (.bool false) w) (Ac v0 fun m=>Ap [(zI 0)] (fun vs i O=>∀_:Env,BU .i64 (nth vs 0) m fun o=>AD o (Dg O (fun C=>BM 5 v0 (nth vs 0) fun q=>HD C 5 q fun B=>BM 5 v1 (nth vs 0) fun t22=>HD C 5 t22 fun I=>Bo prog C (BS .neq 79 (.tmp 19) (.tmp 23) B I) fun J=>∀w2:World,C w2->AD J (K (.bool false) w2) (AW .i64 (nth vs 0) (zI 1) fun t25=>i [t25] w2))) (K (.bool true) O)) w)):AB prog 188 [v0,v1] K w:=cO (aN (aO (aN (aO aE .nil)) (aO (aN (.node [13] [(4,5),(13,25)] (aN (aO aE (aO (aN (aO .draw (aO aE .nil))) .nil))) .nil)) aE))) func188 h (by kernel_rfl)
end
def eO{a b:Value}{l m:List Attr}(ha:CR S w a l)(hb:CR F w b m) :
  AB prog 188 [a,b] (fun v w'=>v=.bool (decide (l=m))/\Grow w w') w:=by
 apply aw;obtain⟨Z,ca,rfl,J⟩:=ha.shape;obtain⟨pb,cb,rfl,O⟩:=hb.shape;simp only[KS];simp only[maxLen] at J O;by_cases i:l.length=m.length
 .rw[Bq (show ¬¬(l.length:Int)=m.length by omega)];refine⟨fun vs w'=>∃k:Nat,k<=l.length/\vs=[zI k]/\Grow w w'/\l.take k=m.take k,fun vs _=>l.length-De vs 0,⟨0,Nn _,rfl,Mod.refl _ _,rfl⟩,?_⟩;rintro vs X ⟨k,hk,rfl,I,ht⟩ h;simp only[KS];by_cases o:k<l.length
  .rw[DN (show(k:Int)<l.length by omega)];refine⟨fun w2=>Grow X w2,Mod.drew _ _,?_⟩;obtain⟨p,r,rfl,_,hr,hc,Y⟩:=ha.get o;obtain⟨q,r',rfl,_,Q,T,U⟩:=hb.get (show k<m.length by omega);refine AT o (Fe hr (fun w2 B j u hu=>?_) ?_)
   .rw[Addr.add_add];exact B.cell (I.cell (hc j u hu) (fun h=>h)) (fun h=>h)
   refine AT (by omega) (Fe Q (fun w2 B j u hu=>?_) ?_)
   .rw[Addr.add_add];exact B.cell (I.cell (T j u hu) (fun h=>h)) (fun h=>h)
   subst Y;subst U;refine⟨_,fun w2 _=>K1 _ _ _ _ w2,fun w2 B=>?_⟩;simp only[KS];by_cases he:l[k]=m[k]
   .rw[Bq (fun h=>h he)];refine⟨⟨k+1,by omega,by rw[wrap64 (by omega) (by omega)];rfl,I.trans B,?_⟩,?_⟩
    .rw[No,No,ht];simp[o,show k<m.length by omega,he]
    .simp only[De,nth,Nr];rw[wrap64 (by omega) (by omega)];omega
   .rw[DN he];refine⟨?_,I.trans B⟩;congr 1
    symm
    rw[kV];intro e;subst e;exact he rfl
  .rw[Bq (show ¬(k:Int)<l.length by omega)];refine⟨?_,I⟩;congr 1;symm
   rw[TC];have:k=l.length:=by omega
   subst this;rw[PF] at ht;rw[ht,i,PF]
 .rw[DN (show ¬(l.length:Int)=m.length by omega)];refine⟨?_,Mod.refl _ _⟩;congr 1;symm
  rw[kV];intro e;exact i (by rw[e])
def XT{S i:Nat->Prop}{a b:Value}{l m:List Attr}(ha:CR S w a l)(hb:CR i w b m) :
  AB prog 118 [a,b] (fun v w'=>v=.bool (decide (l=m))/\Grow w w') w:=by
 apply ZR;exact eO ha hb
def Nq{l:List Attr}(h:CR S w v l)(hl:l.length*48<=140737488355328) :
  AB prog 107 [v] (fun v' w'=>HY w.heap.size w' v' l/\Grow w w') w:=by
 apply ZX;obtain⟨a,c,rfl,hm⟩:=h.shape;cases a with
 |none=>
  simp only[KS];have:l=[]:=by
   cases l with
   |nil=>rfl
   |cons x l=>obtain⟨p,r,e,_⟩:=h.get (i:=0) (by simp);cases e
  subst this;exact⟨AE.nil,Mod.refl _ _⟩
 |some p=>
  simp only[KS];refine JM ?_;have m:Grow w (w.alloc (.cells #[] 79)):=Mod.alloc _ _ _;have o:HY w.heap.size (w.alloc (.cells #[] 79)) (.slice (some ⟨w.heap.size,0,none⟩) 0 0) []:=AE.made (Mp _);obtain⟨v',w',h1,q,B,I⟩:=AE.append (ty:=43) IY o (h.grow m (by decide) fun _ _ h=>h) (fun _ _=>DV.one) (by simpa using hl) (by simp) (by simpa using hm) (fun _ _ _ _ h=>h);refine Ae h1 ⟨?_,m.next (Mod.of_grownBy B) ?_⟩
  .refine q.base fun g j=>?_;rcases I g j with h|h
   .cases h;exact Mp _
   .simp only[pX] at h;omega
  .intro b hb e;simp only[Value.ownBlock,i6] at e;omega
def Ej{l:List Attr}(h:CR S w v l)(hl:l.length*48<=140737488355328) :
  AB prog 52 [v] (fun v' w'=>HY w.heap.size w' v' l/\Grow w w') w:=by
 apply fZ;exact Nq h hl
def G6{t:TypeId}(h:vs[j]?=some v):(w.alloc (.cells vs.toArray t)).cell? ((⟨w.heap.size,0,none⟩:Addr).add j)=some v:=by
 have i:(⟨w.heap.size,0,none⟩:Addr).add j=⟨w.heap.size,j,none⟩:=by unfold Addr.add;split<;>simp_all
 rw[i,pU];simpa using h
def AE.Ax{B e k:Nat}{R:World->List Value->α->Prop}{l:List α}(h:AE B e k R w v l):∀g,v.ownBlock=some g->B<=g/\g<w.heap.size:=by
 obtain⟨a,c,rfl,_,_,hp,_⟩:=AE.shape h;intro g i;cases a with
 |none=>cases i
 |some p=>obtain⟨g',rfl,h1,m,j⟩:=hp p rfl;rw[i] at j;cases j;exact⟨h1,m⟩
def BB.GN{k:Nat}{R:World->List Value->α->Prop}{l:List α}(h:BB S k R w v l)(hk:0<k):BB (fun b=>S b/\b<w.heap.size) k R w v l:=
 h.sub (fun b hb i=>⟨i,hb⟩) hk fun _ _ h=>h
structure Cel where
 r:Int
 set:List Attr
 deriving DecidableEq
def LK(D:Nat->Prop)(w:World)(r:List Value)(c:Cel):Prop:=∃sv,r=[.int .i32 c.r,sv]/\CR D w sv c.set
def LK.one{D:Nat->Prop}{r:List Value}{b:Cel}(h:LK D w r b):∀u∈r,u.oneCell'=true:=by
 obtain⟨sv,rfl,i⟩:=h;obtain⟨a,c,rfl,_⟩:=i.shape;intro u hu;simp only[K8,kU,mb] at hu;rcases hu with rfl|rfl<;>rfl
def LK.mod{D D' M:Nat->Prop}{r:List Value}{b:Cel}(h:LK D w r b)(hm:Mod M w w')(j:∀b,b<w.heap.size->D b->¬M b)(i:∀b,b<w.heap.size->D b->D' b):LK D' w' r b:=by
 obtain⟨sv,rfl,m⟩:=h;exact⟨sv,rfl,m.mono i (fun b hb o=>hm.same b hb (j b hb o)) (by decide) fun _ _ h=>h⟩
def MD:DU prog 40 45 2 32:=⟨Tryz.t45,.agg #[.int .i32 0,.slice none 0 0],by kernel_rfl,by kernel_rfl,by kernel_rfl,by kernel_rfl,by kernel_rfl,by rfl,by decide⟩
abbrev Bn(S D:Nat->Prop)(w:World)(v:Value)(l:List Cel):Prop:=BB S 2 (LK D) w v l
def Cel.inl(c:Cel):List Attr:=if c.r=10 then[] else c.set
def iH(l:List Cel):List Ho:=l.foldl (fun acc c=>Kq acc 1 c.inl) []
def Ng{a b:Value}{l m:List Attr}(ha:CR S w a l)(hb:CR F w b m) :
  AB prog 58 [a,b] (fun v w'=>v=.bool (decide (l=m))/\Grow w w') w:=by
 apply dD;obtain⟨Z,ca,rfl,J⟩:=ha.shape;obtain⟨pb,cb,rfl,O⟩:=hb.shape;simp only[KS];simp only[maxLen] at J O;by_cases i:l.length=m.length
 .rw[Bq (show ¬¬(l.length:Int)=m.length by omega)];refine AX (fun vs w'=>∃k:Nat,k<=l.length/\vs=[zI k]/\Grow w w'/\l.take k=m.take k) (fun vs _=>l.length-De vs 0) ⟨0,Nn _,rfl,Mod.refl _ _,rfl⟩ ?_;rintro vs X ⟨k,hk,rfl,I,ht⟩ h;simp only[KS];by_cases o:k<l.length
  .rw[DN (show(k:Int)<l.length by omega)];refine⟨fun w2=>Grow X w2,Mod.drew _ _,?_⟩;obtain⟨p,r,rfl,_,hr,hc,Y⟩:=ha.get o;obtain⟨q,r',rfl,_,Q,T,U⟩:=hb.get (show k<m.length by omega);refine AT o (Fe hr (fun w2 B j u hu=>?_) ?_)
   .rw[Addr.add_add];exact B.cell (I.cell (hc j u hu) (fun h=>h)) (fun h=>h)
   refine AT (by omega) (Fe Q (fun w2 B j u hu=>?_) ?_)
   .rw[Addr.add_add];exact B.cell (I.cell (T j u hu) (fun h=>h)) (fun h=>h)
   subst Y;subst U;refine⟨_,fun w2 _=>K1 _ _ _ _ w2,fun w2 B=>?_⟩;simp only[KS];by_cases he:l[k]=m[k]
   .rw[Bq (fun h=>h he)];refine⟨⟨k+1,by omega,by rw[wrap64 (by omega) (by omega)];rfl,I.trans B,?_⟩,?_⟩
    .rw[No,No,ht];simp[o,show k<m.length by omega,he]
    .simp only[De,nth,Nr];rw[wrap64 (by omega) (by omega)];omega
   .rw[DN he];refine⟨?_,I.trans B⟩;congr 1
    symm
    rw[kV];intro e;subst e;exact he rfl
  .rw[Bq (show ¬(k:Int)<l.length by omega)];refine⟨?_,I⟩;congr 1;symm
   rw[TC];have:k=l.length:=by omega
   subst this;rw[PF] at ht;rw[ht,i,PF]
 .rw[DN (show ¬(l.length:Int)=m.length by omega)];refine⟨?_,Mod.refl _ _⟩;congr 1;symm
  rw[kV];intro e;exact i (by rw[e])
def Ub{S Z D D':Nat->Prop}{a b:Value}{l m:List Ho}(ha:Sg S D w a l)(hb:Sg Z D' w b m) :
  AB prog 35 [a,b] (fun v w'=>v=.bool (decide (l=m))/\Grow w w') w:=by
 apply hU;obtain⟨pa,ca,rfl,T⟩:=ha.shape;obtain⟨pb,cb,rfl,U⟩:=hb.shape;simp only[KS];simp only[maxLen] at T U;by_cases B:l.length=m.length
 .rw[Bq (show ¬¬(l.length:Int)=m.length by omega)];refine AX (fun vs w'=>∃k:Nat,k<=l.length/\vs=[zI k]/\Grow w w'/\l.take k=m.take k) (fun vs _=>l.length-De vs 0) ⟨0,Nn _,rfl,Mod.refl _ _,rfl⟩ ?_;rintro vs X ⟨k,hk,rfl,I,ht⟩ h;simp only[KS];by_cases j:k<l.length
  .rw[DN (show(k:Int)<l.length by omega)];refine⟨fun w2=>Grow X w2,Mod.drew _ _,?_⟩;obtain⟨p,r,rfl,_,hr,hc,sv,rfl,hs⟩:=ha.get j;obtain⟨q,r',rfl,_,a1,Q,a6,rfl,V⟩:=hb.get (show k<m.length by omega);have o:∀w2,Grow X w2->∀{a:Addr} {v:Value},w.cell? a=some v->w2.cell? a=some v:=fun w2 i _ _ hc=>i.cell (I.cell hc (fun h=>h)) (fun h=>h);refine AT j ?_;simp only[KS];refine Ay (fun w2 i=>o w2 i (hc 0 _ rfl)) (AT (by omega) ?_);simp only[KS];refine Ay (fun w2 i=>o w2 i (Q 0 _ rfl)) ?_;simp only[KS];by_cases J:l[k].n=m[k].n
   .rw[Bq (fun h=>h J)];refine AT j ?_;simp only[KS];refine Ay (fun w2 i=>o w2 i (hc 1 _ rfl)) (AT (by omega) ?_);simp only[KS];refine Ay (fun w2 i=>o w2 i (Q 1 _ rfl)) ?_;refine⟨_,fun w2 i=>AA (Ng ((hs.grow I (by decide) fun _ _ h=>h).grow i (by decide) fun _ _ h=>h) ((V.grow I (by decide) fun _ _ h=>h).grow i (by decide) fun _ _ h=>h)) fun v Y ⟨e,O⟩=>⟨e,i.trans O⟩,?_⟩;simp only[KS];intro Y O;by_cases he:l[k].set=m[k].set
    .rw[Bq (fun h=>h he)];refine⟨⟨k+1,by omega,by rw[wrap64 (by omega) (by omega)];rfl,I.trans O,?_⟩,?_⟩
     .have e:l[k]=m[k]:=by
       cases h1:l[k];cases i:m[k];rw[h1,i] at J he;simp only at J he;rw[J,he]
      rw[No,No,ht];simp[j,show k<m.length by omega,e]
     .simp only[De,nth,Nr];rw[wrap64 (by omega) (by omega)];omega
    .rw[DN he];refine⟨?_,I.trans O⟩;congr 1;symm
     rw[kV];intro e;subst e;exact he rfl
   .rw[DN J];intro Y O;refine⟨?_,I.trans O⟩;congr 1;symm
    rw[kV];intro e;subst e;exact J rfl
  .rw[Bq (show ¬(k:Int)<l.length by omega)];refine⟨?_,I⟩;congr 1;symm
   rw[TC];have:k=l.length:=by omega
   subst this;rw[PF] at ht;rw[ht,B,PF]
 .rw[DN (show ¬(l.length:Int)=m.length by omega)];refine⟨?_,Mod.refl _ _⟩;congr 1;symm
  rw[kV];intro e;exact B (by rw[e])
def BJ(a:Addr)(x:Nat):(a.add x).block=a.block:=by unfold Addr.add;split<;>rfl
def Mod.putObj(w:World)(b:Nat)(o:Obj)(h:M b):Mod M w (w.putObj b o):=⟨rfl,rfl,rfl,by simp,fun k _ hk=>mR fun e=>hk (e▸h)⟩
def KV{m:Nat->Prop}{J:World->Prop}{I:Exit->World->Prop}{F:(Exit->World->Prop)->World->Prop}{o:World}{M Q:Nat->Prop}(hm:Mod M W o)(O:w.heap.size+2<=W.heap.size)(j:∀b,m b->b<W.heap.size/\Q b)
 (q:∀b,b<W.heap.size->M b->¬m b/\b≠w.heap.size/\b≠w.heap.size+1)(h:∀B,Mod (fun b=>b=w.heap.size+1) o B->F (VX m w B J I) B):T5 m w W J I F o:=by
 refine⟨⟨hm.size,fun b hb=>hm.same b ?_ fun i=>?_,hm.os,hm.tape,hm.output⟩,h⟩
 .rcases hb with hb|rfl|rfl
  .exact(j b hb).1
  .omega
  .omega
 .rcases hb with hb|rfl|rfl
  .exact(q _ (j b hb).1 i).1 hb
  .exact(q _ (by omega) i).2.1 rfl
  .exact(q _ (by omega) i).2.2 rfl
def NZ{m:Nat->Prop}(hm:Mod M W W')(q:w.heap.size+2<=W.heap.size)(j:∀b,m b->b<W.heap.size)
 (o:∀b,b<W.heap.size->M b->¬m b/\b≠w.heap.size/\b≠w.heap.size+1):jV m w W W':=by
 refine⟨hm.size,fun b hb=>hm.same b ?_ fun i=>?_,hm.os,hm.tape,hm.output⟩
 .rcases hb with hb|rfl|rfl
  .exact j b hb
  .omega
  .omega
 .rcases hb with hb|rfl|rfl
  .exact(o _ (j b hb) i).1 hb
  .exact(o _ (by omega) i).2.1 rfl
  .exact(o _ (by omega) i).2.2 rfl
def AE.one{B e k:Nat}{R:World->List Value->α->Prop}{l:List α}(h:AE B e k R w v l):v.oneCell'=true/\v.cells=#[v]:=by
 obtain⟨a,c,rfl,_⟩:=AE.shape h;exact⟨rfl,rfl⟩
def J1(a b:Int):Int:=if b>a then b else a
def BB.made{k:Nat}{R:World->List Value->α->Prop}{t:TypeId}{l:List α}(rows:List (List Value))(hr:∀r∈rows,r.length=k)(hl:rows.length=l.length)(m:l.length<=maxLen)
 (q:∀(i:Nat) (r:List Value) (x:α),rows[i]?=some r->l[i]?=some x->R (w.alloc (.cells rows.flatten.toArray t)) r x):BB (fun b=>b=w.heap.size) k R (w.alloc (.cells rows.flatten.toArray t)) (.slice (some ⟨w.heap.size,0,none⟩) l.length l.length) l:=by
 refine⟨_,_,rfl,Mp _,m,fun i x o=>?_⟩;have hi:i<rows.length:=by rw[hl];exact(Ad.1 o).1
 refine⟨_,rows[i],rfl,rfl,hr _ (by simp),fun j u hu=>?_,q i _ x (by simp[hi]) o⟩;have B:j<k:=by rw[<-hr rows[i] (by simp)];exact(Ad.1 hu).1
 refine G6 ?_;rw[Hu rows i j rows[i] hr (by simp[hi]) B];exact hu
def Dm(l:List α):l=[]\/∃i b,l=i++[b]:=by
 rcases lK l with h|⟨i,b,h⟩
 .exact .inl h
 .exact .inr ⟨i,b,by simpa using h⟩
def PI{n:Int}{s:List Attr}(h:0<n):Kq [] n s=[⟨n,s⟩]:=by
 simp[Kq,show ¬n<=0 by omega]
def NP{i:List Ho}{b:Ho}{n:Int}{s:List Attr}(h:0<n):Kq (i++[b]) n s=if b.set=s then i++[⟨IntKind.i64.wrap (b.n+n),b.set⟩] else i++[b]++[⟨n,s⟩]:=by
 unfold Kq;rw[Bq (by omega)];simp only[WL,gC,lM];split
 .simp
 .rfl
def Nz{l:List Ho}{n:Int}{s:List Attr}(h:n<=0):Kq l n s=l:=by simp[Kq,h]
def PE(acc:List Ho)(l:List Cel):List Ho:=l.foldl (fun acc c=>Kq acc 1 c.inl) acc
def IX{p:List α->Prop}(h0:p [])(h1:∀l a,p l->p (l++[a])):∀l,p l:=by
 intro l;have:∀n,∀l:List α,l.length=n->p l:=by
  intro n;induction n with
  |zero=>intro l hl;rw[QC hl];exact h0
  |succ n j=>
   intro l hl;rcases Dm l with rfl|⟨i,b,rfl⟩
   .simp at hl
   .exact h1 i b (j i (by simp at hl;omega))
 exact this _ l rfl
def Bn.grow{S D:Nat->Prop}{l:List Cel}(h:Bn S D w v l)(i:Grow w w'):Bn S D w' v l:=
 BB.grow h i (by decide) fun _ _ j=>j.mod i (fun _ _ _ h=>h) fun _ _ h=>h
def rep(n:Int)(s:List Attr):List (List Attr):=List.replicate n.toNat s
def pl(l:List Ho):List (List Attr):=l.flatMap fun b=>rep b.n b.set
def NonNeg(l:List Ho):Prop:=∀b∈l,0<=b.n
abbrev bB:Nat:=4611686018427387904
def iA:pl []=[]:=rfl
def G4(l m:List Ho):pl (l++m)=pl l++pl m:=by simp[pl]
def MZ(b:Ho):pl [b]=rep b.n b.set:=by simp[pl]
def IV(b:Ho)(l:List Ho):pl (b::l)=rep b.n b.set++pl l:=by simp[pl]
def IT(n:Int)(s:List Attr):(rep n s).length=n.toNat:=by simp[rep]
def SL{acc:List Ho}{n:Int}{s:List Attr}(ha:NonNeg acc)(hb:(pl acc).length+n.toNat<=bB):pl (Kq acc n s)=pl acc++rep n s/\NonNeg (Kq acc n s):=by
 by_cases B:n<=0
 .rw[Nz B];refine⟨?_,ha⟩;have:n.toNat=0:=by omega
  simp[rep,this]
 have m:0<n:=by omega
 rcases Dm acc with rfl|⟨i,b,rfl⟩
 .rw[PI m];refine⟨by simp[pl],fun x j=>?_⟩;simp at j;subst j;simp only;omega
 .rw[NP m];have o:=ha b (by simp);rw[G4,Bp,MZ,IT] at hb;simp only[bB] at hb;by_cases q:b.set=s
  .rw[DN q,wrap64 (by omega) (by omega)];refine⟨?_,fun x j=>?_⟩
   .rw[G4,G4,MZ,MZ,Of];congr 1
    simp only[rep,<-q,oB];congr 1;omega
   .simp only[C3,P9] at j;rcases j with j|rfl
    .exact ha x (by simp[j])
    .simp only;omega
  .rw[Bq q];refine⟨by rw[G4 (i++[b]),MZ],fun x j=>?_⟩;simp only[C3,P9] at j;rcases j with(j|rfl)|rfl
   .exact ha x (by simp[j])
   .exact o
   .simp only;omega
def Xj:∀(l:List Cel) (acc:List Ho),NonNeg acc->(pl acc).length+l.length<=bB->pl (PE acc l)=pl acc++l.map Cel.inl/\NonNeg (PE acc l):=by
 intro l;induction l with
 |nil=>intro acc ha _;exact⟨by simp[PE],ha⟩
 |cons c l i=>
  intro acc ha hb;rw[S5] at hb;obtain⟨h1,j⟩:=SL (s:=c.inl) (n:=1) ha (by simp only[pg];omega);obtain⟨m,o⟩:=i (Kq acc 1 c.inl) j (by rw[h1,Bp,IT];simp only[pg];omega);refine⟨?_,o⟩;show pl (PE (Kq acc 1 c.inl) l)=_;rw[m,h1];simp[rep]
def gT{l:List Cel}(hb:l.length<=bB):pl (iH l)=l.map Cel.inl/\NonNeg (iH l):=by
 have h:=Xj l [] (fun _ h=>nomatch h) (by simpa[pl] using hb);rw[iA,ky] at h;exact h
def FG:List Ho->Prop
 |[]=>True
 |b::r=>0<b.n/\(∀c,r.head?=some c->b.set≠c.set)/\FG r
def JT:∀(l:List Ho) (b:Ho),FG (l++[b])↔FG l/\0<b.n/\∀c,l.getLast?=some c->c.set≠b.set:=by
 intro l;induction l with
 |nil=>intro b;simp[FG]
 |cons a r q=>
  intro b;simp only[S7,FG,q];cases r with
  |nil=>
   simp only[ky,pt,i6,FG,gC,List.head?_nil];constructor
   .rintro⟨h1,m,o,i,j⟩;exact⟨⟨h1,fun c h=>(nomatch h),trivial⟩,i,fun c hc=>by subst hc;exact m b rfl⟩
   .rintro⟨⟨h1,_,_⟩,i,j⟩;exact⟨h1,fun c hc=>by subst hc;exact j a rfl,trivial,i,fun c h=>(nomatch h)⟩
  |cons c r=>
   simp only[S7,pt,pK];constructor
   .rintro⟨h1,m,o,i,j⟩;exact⟨⟨h1,m,o⟩,i,j⟩
   .rintro⟨⟨h1,m,o⟩,i,j⟩;exact⟨h1,m,o,i,j⟩
def UB{acc:List Ho}{n:Int}{s:List Attr}(h:FG acc)(hb:(pl acc).length+n.toNat<=bB):FG (Kq acc n s):=by
 by_cases q:n<=0
 .rw[Nz q];exact h
 have j:0<n:=by omega
 rcases Dm acc with rfl|⟨i,b,rfl⟩
 .rw[PI j];exact⟨j,fun c h=>(nomatch h),trivial⟩
 .rw[NP j];have m:=(JT i b).1 h;rw[G4,Bp,MZ,IT] at hb;simp only[bB] at hb;by_cases o:b.set=s
  .rw[DN o];refine(JT _ _).2 ⟨m.1,?_,m.2.2⟩;have:=m.2.1;show 0<IntKind.i64.wrap (b.n+n);rw[wrap64 (by omega) (by omega)];omega
  .rw[Bq o];refine(JT _ _).2 ⟨h,j,fun c hc=>?_⟩;simp at hc;subst hc;exact o
def OZ:∀(l:List Ho),FG l->NonNeg l:=by
 intro l;induction l with
 |nil=>intro _ b hb;simp at hb
 |cons a r i=>
  rintro⟨h1,_,j⟩ b hb;rcases K8.1 hb with rfl|hb
  .omega
  .exact i j b hb
def Q4:∀(l:List Cel) (acc:List Ho),FG acc->(pl acc).length+l.length<=bB->FG (PE acc l):=by
 intro l;induction l with
 |nil=>intro acc ha _;exact ha
 |cons b l i=>
  intro acc ha hb;rw[S5] at hb;refine i _ (UB ha (by simp only[pg];omega)) ?_;rw[(SL (OZ _ ha) (by simp only[pg];omega)).1,Bp,IT];simp only[pg];omega
def WA{l:List Cel}(hb:l.length<=bB):FG (iH l):=Q4 l [] trivial (by simpa[pl] using hb)
def JZ{b:Ho}{r:List Ho}(h:FG (b::r)):(pl (b::r)).head?=some b.set:=by
 rw[IV];have h1:=h.1;have:b.n.toNat=(b.n.toNat-1)+1:=by omega
 simp only[rep];rw[this,List.replicate_succ];rfl
def uniq:∀(l m:List Ho),FG l->FG m->pl l=pl m->l=m:=by
 intro l;induction l with
 |nil=>
  intro m _ hm h;cases m with
  |nil=>rfl
  |cons c m=>have:=JZ hm;rw[<-h] at this;simp[pl] at this
 |cons b l O=>
  intro m hl hm h;cases m with
  |nil=>have:=JZ hl;rw[h] at this;simp[pl] at this
  |cons c m=>
   have q:b.set=c.set:=by
    have h1:=JZ hl;have Q:=JZ hm;rw[h,Q] at h1;exact(kW h1).symm
   have i:∀(b:Ho) (r:List Ho),FG (b::r)->∀n:Nat,(pl r)[0]?≠some b.set:=by
    intro b r hp _ h;cases r with
    |nil=>simp[pl] at h
    |cons d r=>
     have:=JZ hp.2.2;rw[<-List.head?_eq_getElem?,this] at h;exact hp.2.1 d rfl (kW h).symm
   have I:b.n.toNat=c.n.toNat:=by
    rw[IV,IV] at h;rcases Nat.lt_trichotomy b.n.toNat c.n.toNat with j|heq|o
    .exfalso;have h1:=kZ (fun x=>x[b.n.toNat]?) h;rw[kO (by simp[rep]),Q0 (by rw[IT];exact j)] at h1;simp only[rep,lZ,ot,nR,j,lT] at h1;exact i b l hl 0 (by rw[h1,q])
    .exact heq
    .exfalso;have h1:=kZ (fun x=>x[c.n.toNat]?) h;rw[Q0 (by rw[IT];exact o),kO (by simp[rep])] at h1;simp only[rep,lZ,ot,nR,o,lT] at h1;exact i c m hm 0 (by rw[<-h1,q])
   have T:=hl.1;have U:=hm.1;have J:b.n=c.n:=by omega
   have B:b=c:=by cases b;cases c;simp only at J q;rw[J,q]
   subst B;rw[IV,IV] at h;rw[O m hl.2.2 hm.2.2 (List.append_cancel_left h)]
def AF{p:Prop}[Decidable p]{A B:Prop}(h1:p->A)(i:¬p->B):AD (.bool (decide p)) A B:=by
 rw[Zm];split
 .exact h1 (by assumption)
 .exact i (by assumption)
def Nh{q:IntKind}{a:Int}{A B:Prop}(h:B):Dp q (.int q a) (.int q a) fun t=>AD t A B:=by
 rw[Bk,lH rfl];exact h
def BO{a b:Value}{k:Value->Value->Prop}(h:k a b):AR 0 (.tuple #[a,b]) fun x=>AR 1 (.tuple #[a,b]) fun y=>k x y:=CL (vs:=[_,_]) (by rfl) (CL (vs:=[_,_]) (by rfl) h)
def Kj{a b c:Value}{k:Value->Value->Value->Prop}(h:k a b c):AR 0 (.tuple #[a,b,c]) fun x=>AR 1 (.tuple #[a,b,c]) fun y=>AR 2 (.tuple #[a,b,c]) fun z=>k x y z:=CL (vs:=[_,_,_]) (by rfl) (CL (vs:=[_,_,_]) (by rfl) (CL (vs:=[_,_,_]) (by rfl) h))
def GC:(∀(l:List Value) k,nth l (k+1)=nth l.tail k)/\(∀l:List Value,nth l 0=l.headD undef)/\(∀(a:Value) l d,(a::l).headD d=a)/\∀(a:Value) l,(a::l).tail=l:=⟨Wq,Bl,fun _ _ _=>rfl,fun _ _=>rfl⟩
def Hj{q:IntKind}{a b:Int}{A B:Prop}(h1:a<b->A)(i:¬a<b->B):BU q (.int q a) (.int q b) fun t=>AD t A B:=by
 rw[Am];exact AF h1 i
def AH(g x:Nat):(⟨g,0,none⟩:Addr).add x=⟨g,x,none⟩:=by unfold Addr.add;split<;>simp_all
def Bh{b q:Nat}{K:Value->World->Prop}(hc:w.cell? ⟨b,q,none⟩=some v)(h:K v w):AM q (.pointer (some ⟨b,0,none⟩)) fun t=>AJ t K w:=by
 rw[AG,AH];exact AL hc h
def Live(w:World)(a:Addr):Prop:=(w.cell? a).isSome=true/\w.frozen? a=false
def Live.set{a:Addr}(h:Live w a)(b:Addr)(u:Value):Live (w.setCell b u) a:=by
 refine⟨?_,by rw[qy];exact h.2⟩;obtain⟨v,i⟩:=kH.1 h.1;by_cases e:b=a
 .subst e;rw[kQ w _ u i];rfl
 .rw[S4 w _ _ u e,i];rfl
def Live.mod{a:Addr}(h:Live w a)(hm:Mod M w w')(i:¬M a.block):Live w' a:=by
 obtain⟨v,j⟩:=kH.1 h.1;exact⟨by rw[hm.cell j i];rfl,(hm.frozen (lF w a j) i).trans h.2⟩
def Live.st{a:Addr}{u:Value}{K:World->Prop}(h:Live w a)(h1:u.oneCell'=true)(i:u.cells=#[u])(j:K (w.setCell a u)):Av (.pointer (some a)) u K w:=by
 obtain⟨v,m⟩:=kH.1 h.1;exact Kg h1 i m h.2 j
def AE.live{B e k:Nat}{R:World->List Value->α->Prop}{a:Option Addr}{n c:Nat}{l:List α}(h:AE B e k R w (.slice a n c) l){i j:Nat}(hi:i<l.length)(V:j<k) :
  ∃g,a=some ⟨g,0,none⟩/\n=l.length/\Live w ((⟨g,0,none⟩:Addr).add (i*k+j)):=by
 obtain⟨rows,h1,Q,T,X⟩:=h;have I:∀r∈rows,r.length=k:=fun r hr=>(T r hr).1;have J:∃g,a=some ⟨g,0,none⟩/\n=l.length:=by
  rcases h1.2 with⟨q,Y⟩|⟨g',O,U,q,_⟩
  .omega
  .simp only[nQ] at q;exact⟨g',q.1,q.2.1⟩
 obtain⟨g,rfl,rfl⟩:=J;refine⟨g,rfl,rfl,?_⟩;have m:(⟨g,0,none⟩:Addr).add (i*k+j)=⟨g,i*k+j,none⟩:=by unfold Addr.add;split<;>simp_all
 have o:i*k+j<l.length*k:=by
  have:(i+1)*k<=l.length*k:=lW _ hi;rw[lO] at this;omega
 rw[m];refine⟨?_,h1.frozenAt _⟩;rw[h1.cellAt _ o];simp[FF rows I,Q,o]
structure Chg where
 key:Int
 gone:Bool
 val:A6
 deriving DecidableEq
def Chg.cells(a:Chg):List Value:=zI a.key::.bool a.gone::a.val.cells
abbrev Eh:World->List Value->Chg->Prop:=fun _ r x=>r=x.cells
abbrev Bz:World->List Value->Int->Prop:=fun _ r x=>r=[.int .i32 x]
abbrev LI(S:Nat->Prop)(w:World)(v:Value)(l:List Int):Prop:=BB S 1 Bz w v l
abbrev Ey(S:Nat->Prop)(w:World)(v:Value)(l:List Chg):Prop:=BB S 6 Eh w v l
def Bz.one{r:List Value}{x:Int}(h:Bz w r x):∀u∈r,u.oneCell'=true:=by
 subst h;intro u hu;simp at hu;subst hu;rfl
def Eh.one{r:List Value}{x:Chg}(h:Eh w r x):∀u∈r,u.oneCell'=true:=by
 intro u hu;subst h;simp only[Chg.cells,A6.cells,K8,kU,mb] at hu;rcases hu with rfl|rfl|rfl|rfl|rfl|rfl<;>rfl
def Ih:DU prog 80 21 1 4:=⟨Tryz.t21,.int .i32 0,by kernel_rfl,by kernel_rfl,by kernel_rfl,by kernel_rfl,by kernel_rfl,by rfl,by decide⟩
def Pr:DU prog 81 133 6 56:=⟨Tryz.t133,.agg #[zI 0,.bool false,.int .u8 0,zI 0,.int .u64 0,.string ⟨#[]⟩],by kernel_rfl,by kernel_rfl,by kernel_rfl,by kernel_rfl,by kernel_rfl,by rfl,by decide⟩
def L6(n:Nat)(x y:A6)(w:World) :
  (Op.equalIn (n+2) 77 (.agg x.cells.toArray) (.agg y.cells.toArray)).run prog w=.ok (decide (x=y)) w:=by
 have i:prog.underlying 77=some (.struct (prog.fieldsOf 77)):=by kernel_rfl
 have j:=underlying5;have m:=underlying2;have o:=underlying75;have B:=underlying9;have a3:=Tryz.isAgg5;have a4:=Tryz.isAgg2;have a5:=Tryz.isAgg75;have I:=Tryz.isAgg9;rw[po w (n+1) _ _ _ i Tryz.stoodInHeld77];simp only[Program.fieldsOf,underlying77,A6.cells];have J:∀a b:Int,(Op.equalIn (n+1) 5 (.int .u8 a) (.int .u8 b)).run prog w=.ok (a==b) w:=fun a b=>nK w n _ _ _ a b j;have O:∀a b:Int,(Op.equalIn (n+1) 2 (zI a) (zI b)).run prog w=.ok (a==b) w:=fun a b=>nK w n _ _ _ a b m;have Q:∀a b:Int,(Op.equalIn (n+1) 75 (.int .u64 a) (.int .u64 b)).run prog w=.ok (a==b) w:=fun a b=>nK w n _ _ _ a b o;have T:∀a b:ByteArray,(Op.equalIn (n+1) 9 (.string a) (.string b)).run prog w=.ok (a.toList==b.toList) w:=fun a b=>run_equalIn_string w n _ a b B;have q:decide (x=y)=(x.kind==y.kind&&(x.n==y.n&&(x.f==y.f&&decide (x.s=y.s)))):=by
  cases x;cases y;rw[nW];simp[A6.mk.injEq]
 rw[q];simp[Op.eqFields,part,a3,a4,a5,I,J,O,Q,T,toList_beq];by_cases h1:x.kind=y.kind<;>by_cases U:x.n=y.n<;>by_cases V:x.f=y.f<;>by_cases X:x.s=y.s<;>simp[h1,U,V,X]
def U0(a b:Chg)(w:World) :
  (Op.equalIn 10000 133 (.agg a.cells.toArray) (.agg b.cells.toArray)).run prog w=.ok (decide (a=b)) w:=by
 have i:prog.underlying 133=some (.struct (prog.fieldsOf 133)):=by kernel_rfl
 rw[show(10000:Nat)=9999+1 from rfl,po w 9999 _ _ _ i Tryz.stoodInHeld133];simp only[Program.fieldsOf,underlying133,Chg.cells,A6.cells];have j:=Tryz.isAgg3;have m:=Tryz.isAgg77;have a3:=Tryz.isAgg4;have o:∀w,(sizeOf 77).run prog w=.ok 4 w:=fun w=>by simp only[sizeOf,kL,Tryz.typeInfo77,S9,lU];rfl
 have B:∀a b:Int,(Op.equalIn 9999 3 (zI a) (zI b)).run prog w=.ok (a==b) w:=fun a b=>nK w 9998 _ _ _ a b underlying3;have I:∀a b:Bool,(Op.equalIn 9999 4 (.bool a) (.bool b)).run prog w=.ok (a==b) w:=fun a b=>run_equalIn_bool w 9998 _ a b underlying4;have J:(Op.equalIn 9999 77 (.agg #[.int .u8 a.val.kind,zI a.val.n,.int .u64 a.val.f,.string a.val.s]) (.agg #[.int .u8 b.val.kind,zI b.val.n,.int .u64 b.val.f,.string b.val.s])).run prog w=.ok (decide (a.val=b.val)) w:=L6 9997 a.val b.val w;have O:∀k l q r s t:Value,(#[k,l,q,r,s,t]:Array Value).extract 2 6=#[q,r,s,t]:=fun _ _ _ _ _ _=>rfl;have q:decide (a=b)=(a.key==b.key&&(a.gone==b.gone&&decide (a.val=b.val))):=by
  cases a;cases b;rw[nW];simp[Chg.mk.injEq]
 rw[q];simp[Op.eqFields,part,j,m,a3,o,B,I,J,O];by_cases h1:a.key=b.key<;>by_cases Q:a.gone=b.gone<;>by_cases T:a.val=b.val<;>simp[h1,Q,T]
def RB(xo yo:Operand)(a b:Chg)(w:World) :
  (BS .neq 133 xo yo (.agg a.cells.toArray) (.agg b.cells.toArray)).run prog w=.ok (.bool (!decide (a=b))) w:=by
 simp only[BS,kL,pr w .neq _ xo yo _ _ Tryz.eqGuardType133,S9];rw[rF,U0];rfl
def HW(xo yo:Operand)(a b:A6)(w:World) :
  (BS .eql 77 xo yo (.agg a.cells.toArray) (.agg b.cells.toArray)).run prog w=.ok (.bool (decide (a=b))) w:=by
 simp only[BS,kL,pr w .eql _ xo yo _ _ Tryz.eqGuardType77,S9];rw[run_eql_struct,L6 9998];rfl
def Lv(xo yo:Operand)(a b:A6)(w:World) :
  (BS .neq 77 xo yo (.agg a.cells.toArray) (.agg b.cells.toArray)).run prog w=.ok (.bool (!decide (a=b))) w:=by
 simp only[BS,kL,pr w .neq _ xo yo _ _ Tryz.eqGuardType77,S9];rw[rF,L6 9998];rfl
structure Dop where
 kind:Int
 n:Int
 Ag:List Int
 set:List Attr
 patch:List Chg
 deriving DecidableEq
def Cb(D:Nat->Prop)(w:World)(r:List Value)(o:Dop):Prop:=∃i sv j,r=[.int .u8 o.kind,zI o.n,i,sv,j]/\LI D w i o.Ag/\CR D w sv o.set/\Ey D w j o.patch
def Cb.one{D:Nat->Prop}{r:List Value}{o:Dop}(h:Cb D w r o):∀u∈r,u.oneCell'=true:=by
 obtain⟨m,sv,q,rfl,h1,i,j⟩:=h;obtain⟨B,c1,rfl,_⟩:=h1.shape;obtain⟨I,c2,rfl,_⟩:=i.shape;obtain⟨a3,J,rfl,_⟩:=j.shape;intro u hu;simp only[K8,kU,mb] at hu;rcases hu with rfl|rfl|rfl|rfl|rfl<;>rfl
def Cb.mod{D D' M:Nat->Prop}{r:List Value}{o:Dop}(h:Cb D w r o)(hm:Mod M w w')(m:∀b,b<w.heap.size->D b->¬M b)(i:∀b,b<w.heap.size->D b->D' b):Cb D' w' r o:=by
 obtain⟨q,sv,B,rfl,h1,I,J⟩:=h;exact⟨q,sv,B,rfl,h1.mono i (fun b hb j=>hm.same b hb (m b hb j)) (by decide) fun _ _ h=>h,I.mono i (fun b hb j=>hm.same b hb (m b hb j)) (by decide) fun _ _ h=>h,J.mono i (fun b hb j=>hm.same b hb (m b hb j)) (by decide) fun _ _ h=>h⟩
def Fz:DU prog 34 83 5 88:=⟨Tryz.t83,.agg #[.int .u8 0,zI 0,.slice none 0 0,.slice none 0 0,.slice none 0 0],by kernel_rfl,by kernel_rfl,by kernel_rfl,by kernel_rfl,by kernel_rfl,by rfl,by decide⟩
abbrev BE(S D:Nat->Prop)(w:World)(v:Value)(l:List Dop):Prop:=BB S 5 (Cb D) w v l
def BE.grow{S D:Nat->Prop}{l:List Dop}(h:BE S D w v l)(i:Grow w w'):BE S D w' v l:=
 BB.grow h i (by decide) fun _ _ j=>j.mod i (fun _ _ _ h=>h) fun _ _ h=>h
def BE.mod{S D M:Nat->Prop}{l:List Dop}(h:BE S D w v l)(hm:Mod M w w')(i:∀b,b<w.heap.size->S b->¬M b)(j:∀b,b<w.heap.size->D b->¬M b):BE S D w' v l:=
 BB.mono h (fun _ _ h=>h) (fun b hb m=>hm.same b hb (i b hb m)) (by decide) fun _ _ o=>o.mod hm j fun _ _ h=>h
def PG(D:Nat->Prop)(w:World)(r:List Value)(o:Dop):Prop:=∃i sv j,r=[.int .u8 o.kind,zI o.n,i,sv,j]/\
 (AE 0 21 1 Bz w i o.Ag/\∀g,i.ownBlock=some g->D g)/\(HY 0 w sv o.set/\∀g,sv.ownBlock=some g->D g)/\(AE 0 133 6 Eh w j o.patch/\∀g,j.ownBlock=some g->D g)
def Lx{e k:Nat}{R:World->List Value->α->Prop}{D:Nat->Prop}{l:List α}(hk:0<k)(h:AE 0 e k R w v l/\∀g,v.ownBlock=some g->D g):BB D k R w v l:=
 BB.sub (AE.sl h.1) (fun g _ i=>h.2 g i.2) hk fun _ _ h=>h
def IW{e k:Nat}{R:World->List Value->α->Prop}{D D' M:Nat->Prop}{l:List α}(h:AE 0 e k R w v l/\∀g,v.ownBlock=some g->D g)(hm:Mod M w w')(m:∀b,b<w.heap.size->D b->¬M b)(j:∀b,b<w.heap.size->D b->D' b)
 (o:∀r x,R w r x->R w' r x):AE 0 e k R w' v l/\∀g,v.ownBlock=some g->D' g:=
 ⟨AE.mod h.1 hm (fun g i=>m g (AE.Ax h.1 g i).2 (h.2 g i)) fun r x _ q=>o r x q,fun g i=>j g (AE.Ax h.1 g i).2 (h.2 g i)⟩
def PG.rd{D:Nat->Prop}{r:List Value}{o:Dop}(h:PG D w r o):Cb D w r o:=by
 obtain⟨i,sv,j,rfl,h1,m,q⟩:=h;exact⟨i,sv,j,rfl,Lx (by decide) h1,Lx (by decide) m,Lx (by decide) q⟩
def PG.mod{D D' M:Nat->Prop}{r:List Value}{o:Dop}(h:PG D w r o)(hm:Mod M w w')(j:∀b,b<w.heap.size->D b->¬M b)(i:∀b,b<w.heap.size->D b->D' b):PG D' w' r o:=by
 obtain⟨m,sv,q,rfl,h1,B,I⟩:=h;exact⟨m,sv,q,rfl,IW h1 hm j i fun _ _ h=>h,IW B hm j i fun _ _ h=>h,IW I hm j i fun _ _ h=>h⟩
def ML(B:Nat)(w:World)(v:Value)(l:List Dop):Prop:=AE B 83 5 (PG fun b=>B<=b/\v.ownBlock≠some b) w v l
def ML.sl{l:List Dop}(h:ML B w v l):BE (fun b=>B<=b/\v.ownBlock=some b) (fun b=>B<=b/\v.ownBlock≠some b) w v l:=
 BB.sub (AE.sl h) (fun _ _ h=>h) (by decide) fun _ _ h=>h.rd
def ML.reads{l:List Dop}(h:ML B w v l):BE (fun b=>B<=b/\b<w.heap.size) (fun b=>B<=b/\b<w.heap.size) w v l:=
 BB.sub (ML.sl h) (fun b hb h=>⟨h.1,hb⟩) (by decide) fun r x i=>i.mod (Mod.refl (fun _=>False) _) (fun _ _ _ h=>h) fun b hb h=>⟨h.1,hb⟩
structure DKey where
 id:Int
 block:Bool
 kind:Int
 after:Bool
 before:Bool
 group:Int
 deriving DecidableEq
def DKey.cells(k:DKey):List Value:=[zI k.id,.bool k.block,.int .u8 k.kind,.bool k.after,.bool k.before,zI k.group]
abbrev Gi:World->List Value->DKey->Prop:=fun _ r x=>r=x.cells
abbrev NT(S:Nat->Prop)(w:World)(v:Value)(l:List DKey):Prop:=BB S 6 Gi w v l
def Gi.one{r:List Value}{x:DKey}(h:Gi w r x):∀u∈r,u.oneCell'=true:=by
 intro u hu;subst h;simp only[DKey.cells,K8,kU,mb] at hu;rcases hu with rfl|rfl|rfl|rfl|rfl|rfl<;>rfl
def LB(a:Attr):Nat:=a.val.s.size+1
def Pf(a:Chg):Nat:=a.val.s.size+1
def JC(l:List Attr):Nat:=(l.map LB).sum
def JX(l:List Chg):Nat:=(l.map Pf).sum
def Ef(o:Dop):Nat:=1+o.Ag.length+JC o.set+JX o.patch
def BA(l:List Dop):Nat:=(l.map Ef).sum
end Go.Proofs.YtmdhibffnkhcnaaGreatDoor
