/- parts of the proof, written short by a program of ours -/
import Derived.Test.YtmdhibffnkhcnaaGreatDoorZTextInvertsUpto2
import Derived.MapKept
set_option linter.unusedSimpArgs false
set_option linter.unusedVariables false
set_option linter.defProp false
namespace Go.Proofs.YtmdhibffnkhcnaaGreatDoor
open Go Proofs.Tryz
variable {j c E:Nat}{w W w' W':World}{F S C M:Nat->Prop}{v:Value}{most:Int}{vs args:List Value}{α:Type}{ks:List DKey}{K:Cont}{P:Program}
inductive Tr (α:Type) where
 |nil:Tr α
 |node (l:Tr α) (i:Nat) (x:α) (r:Tr α):Tr α
structure Nd (α:Type) where
 x:α
 l:Int
 r:Int
 h:Int
 s:Int
 m:Int
namespace Tr
section
variable {α:Type}(μ:α->Nat×Nat)
def root:Tr α->Int
 |nil=>-1
 |node _ i _ _=>i
def toL:Tr α->List α
 |nil=>[]
 |node l _ x r=>toL l++x::toL r
def idx:Tr α->List Nat
 |nil=>[]
 |node l i _ r=>idx l++i::idx r
def ht:Tr α->Nat
 |nil=>0
 |node l _ _ r=>1+max (ht l) (ht r)
def Df:Tr α->Nat
 |nil=>0
 |node l _ _ r=>Df l+Df r+1
def sz(l:List α):Nat:=(l.map fun x=>(μ x).1).sum
def mk(l:List α):Nat:=(l.map fun x=>(μ x).2).sum
def CT(l m:List α):sz μ (l++m)=sz μ l+sz μ m:=by simp[sz]
def Fo(l m:List α):mk μ (l++m)=mk μ l+mk μ m:=by simp[mk]
def Bb(x:α)(m:List α):sz μ (x::m)=(μ x).1+sz μ m:=by simp[sz]
def Cy(x:α)(m:List α):mk μ (x::m)=(μ x).2+mk μ m:=by simp[mk]
def EB(t:Tr α)(x:α)(l r:Int):Nd α:=⟨x,l,r,t.ht,sz μ t.toL,mk μ t.toL⟩
def Holds(f:Nat->Option (Nd α)):Tr α->Prop
 |nil=>True
 |node l i x r=>Holds f l/\Holds f r/\f i=some (EB μ (node l i x r) x l.root r.root)
def Kn{t:Tr α}(h:1<=t.ht):∃l i x r,t=node l i x r:=by
 cases t with
 |nil=>simp[ht] at h
 |node l i x r=>exact⟨l,i,x,r,rfl⟩
def SK(t:Tr α):t.idx.length=t.Df/\t.toL.length=t.Df:=by
 induction t with
 |nil=>exact⟨rfl,rfl⟩
 |node l i x r h1 j=>simp only[idx,toL,Df,Bp,S5];omega
def dE(t:Tr α):t.ht<=t.Df:=by
 induction t with
 |nil=>exact Mp _
 |node l i x r h1 j=>simp only[ht,Df];omega
def Holds.frame{f q:Nat->Option (Nd α)}{t:Tr α}(h:Holds μ f t)(m:∀j∈t.idx,q j=f j):Holds μ q t:=by
 induction t with
 |nil=>trivial
 |node l i x r h1 B=>
  obtain⟨a,b,c⟩:=h;exact⟨h1 a fun j o=>m j (by simp[idx,o]),B b fun j o=>m j (by simp[idx,o]),by rw[m i (by simp[idx])];exact c⟩
def Holds.has{f:Nat->Option (Nd α)}{t:Tr α}(h:Holds μ f t)(m:j∈t.idx):∃n,f j=some n:=by
 induction t with
 |nil=>simp[idx] at m
 |node l i x r h1 o=>
  obtain⟨a,b,c⟩:=h;simp only[idx,C3,K8] at m;rcases m with m|rfl|m
  .exact h1 a m
  .exact⟨_,c⟩
  .exact o b m
def GK{α:Type}(f:Nat->Option (Nd α))(i:Nat)(n:Option (Nd α)):Nat->Option (Nd α):=fun j=>if j=i then n else f j
def KD(f:Nat->Option (Nd α))(i:Nat)(n:Option (Nd α)):GK f i n i=n:=by simp[GK]
def DY{f:Nat->Option (Nd α)}{i j:Nat}(n:Option (Nd α))(h:j≠i):GK f i n j=f j:=by simp[GK,h]
def Holds.out{f:Nat->Option (Nd α)}{t:Tr α}(h:Holds μ f t){i:Nat}(n:Option (Nd α))(hi:i∉t.idx):Holds μ (GK f i n) t:=
 h.frame μ fun j m=>DY n fun e=>hi (e▸m)
def Holds.top{f:Nat->Option (Nd α)}{l r:Tr α}{i:Nat}{x:α}(hl:Holds μ f l)(hr:Holds μ f r)(j:i∉l.idx)(m:i∉r.idx) :
  Holds μ (GK f i (some (EB μ (node l i x r) x l.root r.root))) (node l i x r):=
 ⟨hl.out μ _ j,hr.out μ _ m,KD _ _ _⟩
def GG(t:Tr α):Prop:=t.idx.Nodup
def BC{l r:Tr α}{i:Nat}{x:α}:GG (node l i x r)↔GG l/\GG r/\i∉l.idx/\i∉r.idx/\∀j∈l.idx,j∉r.idx:=by
 unfold GG;simp only[idx,kM,px,K8,ne_eq,forall_eq_or_imp];constructor
 .rintro⟨h1,⟨q,B⟩,m⟩;exact⟨h1,B,fun e=>(m i e).1 rfl,q,fun j o e=>(m j o).2 j e rfl⟩
 .rintro⟨h1,q,B,m,I⟩;exact⟨h1,⟨m,q⟩,fun j o=>⟨fun e=>B (e▸o),fun k hk e=>I j o (e▸hk)⟩⟩
def jE(t t':Tr α):Prop:=t'.toL=t.toL/\t'.idx.Perm t.idx
def UJ(a b c:Tr α)(i j:Nat)(x y:α):jE (node (node a j y b) i x c) (node a j y (node b i x c)):=by
 refine⟨by simp[toL],?_⟩;simp[idx]
def Wg(a b c:Tr α)(i j:Nat)(x y:α):jE (node a j y (node b i x c)) (node (node a j y b) i x c):=by
 refine⟨by simp[toL],?_⟩;simp[idx]
end
end Tr
structure Kd (α:Type) where
 μ:α->Nat×Nat
 cut:α->Nat->α×α
 meld:α->α->Option α
namespace Kd
variable {α β:Type}(k:Kd α)
def split:List α->Nat->List α×List α
 |[],_=>([],[])
 |x::t,at'=>if at'=0 then([],x::t) else if(k.μ x).1<=at' then(x::(split t (at'-(k.μ x).1)).1,(split t (at'-(k.μ x).1)).2) else([(k.cut x at').1],(k.cut x at').2::t)
def MH(l:List α):k.split l 0=([],l):=by
 cases l with
 |nil=>rfl
 |cons x t=>simp[split]
def Rs{l:List α}(t:List α){p:Nat}(h:p<=Tr.sz k.μ l):k.split (l++t) p=((k.split l p).1,(k.split l p).2++t):=by
 induction l generalizing p with
 |nil=>
  have:p=0:=by simpa[Tr.sz] using h
  subst this;rw[MH];simp[MH]
 |cons x l i=>
  rw[Tr.Bb] at h;simp only[S7,split];by_cases h0:p=0
  .rw[DN h0,DN h0];rfl
  .rw[Bq h0,Bq h0];by_cases h1:(k.μ x).1<=p
   .rw[DN h1,DN h1,i (by omega)]
   .rw[Bq h1,Bq h1];rfl
def Pg{l:List α}(t:List α){p:Nat}(h:Tr.sz k.μ l<p):k.split (l++t) p=(l++(k.split t (p-Tr.sz k.μ l)).1,(k.split t (p-Tr.sz k.μ l)).2):=by
 induction l generalizing p with
 |nil=>simp[Tr.sz]
 |cons x l i=>
  rw[Tr.Bb] at h ⊢;simp only[S7,split];rw[Bq (by omega),DN (by omega),i (by omega),qX]
def Mt(l r:List α)(x:α)(p:Nat):k.split (l++x::r) p =
  if p<=Tr.sz k.μ l then((k.split l p).1,(k.split l p).2++x::r) else if Tr.sz k.μ l+(k.μ x).1<=p then(l++x::(k.split r (p-Tr.sz k.μ l-(k.μ x).1)).1,(k.split r (p-Tr.sz k.μ l-(k.μ x).1)).2)
  else(l++[(k.cut x (p-Tr.sz k.μ l)).1],(k.cut x (p-Tr.sz k.μ l)).2::r):=by
 by_cases h:p<=Tr.sz k.μ l
 .rw[DN h,Rs k _ h]
 .rw[Bq h,Pg k _ (by omega)];simp only[split];rw[Bq (by omega)];by_cases i:Tr.sz k.μ l+(k.μ x).1<=p
  .rw[DN i,DN (by omega)]
  .rw[Bq i,Bq (by omega)]
def part(x:α)(i j:Nat):α:=if 0<i then(k.cut (if j<(k.μ x).1 then(k.cut x j).1 else x) i).2 else if j<(k.μ x).1 then(k.cut x j).1 else x
def over:List α->Nat->Nat->List α
 |[],_,_=>[]
 |x::t,i,j=>(if i<min j (k.μ x).1 then[k.part x i (min j (k.μ x).1)] else[])++over t (i-(k.μ x).1) (j-(k.μ x).1)
def Eb(l:List α){i j:Nat}(h:j<=i):k.over l i j=[]:=by
 induction l generalizing i j with
 |nil=>rfl
 |cons x l m=>simp only[over];rw[Bq (by omega),m (by omega)];rfl
def Qj(l t:List α)(i j:Nat):k.over (l++t) i j=k.over l i j++k.over t (i-Tr.sz k.μ l) (j-Tr.sz k.μ l):=by
 induction l generalizing i j with
 |nil=>simp[over,Tr.sz]
 |cons x l m=>
  simp only[S7,over,m,Tr.Bb,Of,qX]
def MW(l:List α)(i j:Nat):k.over l i (min j (Tr.sz k.μ l))=k.over l i j:=by
 induction l generalizing i j with
 |nil=>rfl
 |cons x l m=>
  simp only[over,Tr.Bb];rw[show min (min j ((k.μ x).1+Tr.sz k.μ l)) (k.μ x).1=min j (k.μ x).1 by omega,show min j ((k.μ x).1+Tr.sz k.μ l)-(k.μ x).1=min (j-(k.μ x).1) (Tr.sz k.μ l) by omega,m]
def CO(out:List α)(x:α):List α:=if(k.μ x).1=0 then out else
 match out.getLast? with
 |some y=>match k.meld y x with
  |some z=>out.dropLast++[z]
  |none=>out++[x]
 |none=>out++[x]
def melded(l:List α):List α:=l.foldl k.CO []
def CB(t:List α)(i j:Nat)(l:List α):List α:=
 let a:=(k.split t i).1
 let b:=(k.split (k.split t i).2 (j-i)).2
 a.dropLast++k.melded (a.getLast?.toList++l++b.head?.toList)++b.tail
structure FP (u:α->List β):Prop where
 size:∀x,(k.μ x).1=(u x).length
 cut1:∀x p,0<p->p<(u x).length->u (k.cut x p).1=(u x).take p/\u (k.cut x p).2=(u x).drop p
 melds:∀x y z,k.meld x y=some z->u z=u x++u y
variable {k}{u:α->List β}
def FP.sz(h:k.FP u)(l:List α):Tr.sz k.μ l=(l.flatMap u).length:=by
 induction l with
 |nil=>rfl
 |cons x l i=>rw[Tr.Bb,i,h.size,lQ,Bp]
def FP.split(h:k.FP u)(l:List α)(p:Nat):((k.split l p).1.flatMap u=(l.flatMap u).take p)/\(k.split l p).2.flatMap u=(l.flatMap u).drop p:=by
 induction l generalizing p with
 |nil=>simp[Kd.split]
 |cons x l j=>
  simp only[Kd.split,lQ];by_cases h0:p=0
  .subst h0;simp
  .rw[Bq h0];by_cases h1:(k.μ x).1<=p
   .rw[DN h1];have m:=h.size x;have i:(u x).length<=p:=by omega
    refine⟨?_,?_⟩
    .rw[lQ,(j _).1,nd,mJ i,m]
    .rw[(j _).2,oH,mW i,m,ky]
   .rw[Bq h1];have:=h.size x;obtain⟨c1,c2⟩:=h.cut1 x p (by omega) (by omega);simp only[lQ,oI,kK,c1,c2,nd,oH];rw[show p-(u x).length=0 by omega];simp
def FP.part(h:k.FP u)(x:α){i j:Nat}(m:i<j)(o:j<=(u x).length):u (k.part x i j)=((u x).take j).drop i:=by
 have q:=h.size x;have e:u (if j<(k.μ x).1 then(k.cut x j).1 else x)=(u x).take j:=by
  by_cases h1:j<(k.μ x).1
  .rw[DN h1,(h.cut1 x j (by omega) (by omega)).1]
  .rw[Bq h1,mJ (by omega)]
 unfold Kd.part;by_cases h0:0<i
 .rw[DN h0,(h.cut1 _ i h0 (by rw[e,Lc];omega)).2,e]
 .rw[Bq h0,e,show i=0 by omega,mK]
def FP.over(h:k.FP u)(l:List α)(i j:Nat):(k.over l i j).flatMap u=((l.flatMap u).take j).drop i:=by
 induction l generalizing i j with
 |nil=>simp[Kd.over]
 |cons x l m=>
  have o:=h.size x;simp only[Kd.over,mH,lQ,m,nd,oH,o,Lc];congr 1
  .by_cases h1:i<min j (u x).length
   .rw[DN h1];simp only[lQ,oI,kK];have ht:(u x).take (min j (u x).length)=(u x).take j:=by rw[List.take_eq_take_iff];omega
    rw[h.part x (by omega) (by omega),ht]
   .rw[Bq h1,mW (by rw[Lc];omega)];rfl
  .by_cases q:j<=(u x).length
   .rw[show j-(u x).length=0 by omega];simp
   .rw[show min j (u x).length=(u x).length by omega]
def FP.CO(h:k.FP u)(out:List α)(x:α):(k.CO out x).flatMap u=out.flatMap u++u x:=by
 unfold Kd.CO;by_cases h0:(k.μ x).1=0
 .rw[DN h0];have:u x=[]:=QC (by rw[<-h.size];exact h0);rw[this,kK]
 .rw[Bq h0];rcases lK out with rfl|⟨o,y,rfl⟩
  .simp
  .simp only[lb,WL,gC,lM,l9];cases hm:k.meld y x with
   |none=>simp
   |some z=>simp[h.melds _ _ _ hm]
def FP.melded(h:k.FP u)(l:List α):(k.melded l).flatMap u=l.flatMap u:=by
 have gen:∀(l out:List α),(l.foldl k.CO out).flatMap u=out.flatMap u++l.flatMap u:=by
  intro l;induction l with
  |nil=>intro out;simp
  |cons x l i=>intro out;rw[me,i,h.CO];simp
 have e:=gen l [];rw[oI,ky] at e;exact e
def FP.CB(h:k.FP u)(t l:List α){i j:Nat}(q:i<=j):(k.CB t i j l).flatMap u=(t.flatMap u).take i++l.flatMap u++(t.flatMap u).drop j:=by
 unfold Kd.CB;obtain⟨B,I⟩:=h.split t i;obtain⟨O,m⟩:=h.split (k.split t i).2 (j-i);rw[I,oJ,show i+(j-i)=j by omega] at m;rw[<-B,<-m];simp only[mH,h.melded];generalize (k.split t i).1=a;generalize (k.split (k.split t i).2 (j-i)).2=b;have J:a.dropLast.flatMap u++a.getLast?.toList.flatMap u=a.flatMap u:=by
  rcases lK a with rfl|⟨o,y,rfl⟩
  .rfl
  .simp
 have eb:b.head?.toList.flatMap u++b.tail.flatMap u=b.flatMap u:=by
  cases b<;>simp
 rw[<-J,<-eb];simp only[Of]
end Kd
structure ArS (α:Type) where
 ps:List (Option (Nd α))
 fr:List Nat
namespace ArS
variable {α:Type}
def f(A:ArS α):Nat->Option (Nd α):=fun i=>(A.ps[i]?).join
def Ok(A:ArS α):Prop:=(∀i∈A.fr,A.ps[i]?=some none)/\A.fr.Nodup
def z:ArS α:=⟨[],[]⟩
def jc:Ok (z:ArS α):=⟨by simp[z],by simp[z]⟩
def put(A:ArS α)(i:Nat)(n:Nd α):ArS α:=⟨A.ps.set i (some n),A.fr⟩
def free(A:ArS α)(i:Nat):ArS α:=⟨A.ps.set i none,A.fr++[i]⟩
def num(A:ArS α):Nat:=match A.fr.getLast? with|some i=>i|none=>A.ps.length
def take(A:ArS α)(n:Nd α):ArS α:=match A.fr.getLast? with|some i=>⟨A.ps.set i (some n),A.fr.dropLast⟩|none=>⟨A.ps++[some n],A.fr⟩
def Iu{A:ArS α}{i:Nat}{n:Nd α}(h:A.f i=some n):i<A.ps.length/\A.ps[i]?=some (some n):=by
 unfold f at h;cases hp:A.ps[i]? with
 |none=>rw[hp] at h;cases h
 |some o=>rw[hp] at h;cases o with
  |none=>cases h
  |some m=>cases h;exact⟨(Ad.1 hp).1,rfl⟩
def U9(A:ArS α){i:Nat}(hi:i<A.ps.length)(o:Option (Nd α))(fr:List Nat):(⟨A.ps.set i o,fr⟩:ArS α).f=Tr.GK A.f i o:=by
 funext j
 unfold f Tr.GK;simp only[nu];by_cases h:i=j
 .subst h;rw[DN rfl,DN hi,DN rfl];rfl
 .rw[Bq h,Bq fun e=>h e.symm]
def Jw{A:ArS α}{i:Nat}{n m:Nd α}(h:A.f i=some m):(A.put i n).f=Tr.GK A.f i (some n):=U9 A (Iu h).1 _ _
def eG{A:ArS α}{i:Nat}{n m:Nd α}(h:A.f i=some m)(ok:Ok A):Ok (A.put i n):=by
 refine⟨fun j B=>?_,ok.2⟩;have h1:=ok.1 j B;have q:=(Iu h).2;have o:i≠j:=fun e=>by subst e;rw[h1] at q;cases q
 show(A.ps.set i (some n))[j]?=_;rw[nu,Bq o];exact h1
def RS{A:ArS α}{i:Nat}{m:Nd α}(h:A.f i=some m):(A.free i).f=Tr.GK A.f i none:=U9 A (Iu h).1 _ _
def bC{A:ArS α}{i:Nat}{m:Nd α}(h:A.f i=some m)(ok:Ok A):Ok (A.free i):=by
 have q:=Iu h;have B:i∉A.fr:=fun e=>by have:=ok.1 i e;rw[this] at q;cases q.2
 refine⟨fun j o=>?_,kM.2 ⟨ok.2,by simp,fun a ha b hb=>by simp at hb;subst hb;exact fun e=>B (e▸ha)⟩⟩;show(A.ps.set i none)[j]?=_;rw[nu];by_cases e:i=j
 .subst e;rw[DN rfl,DN q.1]
 .rw[Bq e];rcases C3.1 o with o|o
  .exact ok.1 j o
  .simp at o;exact(e o.symm).elim
def Rf{A:ArS α}(n:Nd α)(ok:Ok A):(A.take n).f=Tr.GK A.f A.num (some n)/\A.f A.num=none/\Ok (A.take n):=by
 unfold take num;rcases lK A.fr with q|⟨l,i,hc⟩
 .rw[q];simp only[qV];refine⟨?_,by simp[f],⟨by simp,by simp⟩⟩;funext j
  unfold f Tr.GK;simp only[np];by_cases h:j<A.ps.length
  .rw[DN h,Bq (by omega)]
  .rw[Bq h];by_cases e:j=A.ps.length
   .subst e;simp
   .rw[Bq e,kY (by simp;omega),kY (by omega)]
 .rw[lb] at hc;rw[hc];simp only[WL,gC,lM,l9];have h1:=ok.1 i (by rw[hc];simp);have hi:=(Ad.1 h1).1;have m:=ok.2;rw[hc,kM] at m;refine⟨U9 A hi _ _,by unfold f;rw[h1];rfl,⟨fun j o=>?_,m.1⟩⟩;show(A.ps.set i (some n))[j]?=_;rw[nu,Bq fun e=>m.2.2 j o i (by simp) e.symm];exact ok.1 j (by rw[hc];simp[o])
end ArS
section
def S8(v0:Value)(K:Cont)(w:World):Prop:=
 Ac v0 fun ax=>
 Eo .i64 ax (zI 64) fun ay=>
 AD ay
 (K (.tuple #[(.pointer none),(zI 3)]) w)
 (AB prog 29 [v0] (fun b0 w1=>
 runK prog (Instr.makeMap 66 none) (fun b1 w2=>
 Ai [(0,1),(1,1)] [(.slice none 0 0),(.map none)] [(0,b0),(1,b1)] fun b2=>
 BP 68 b2 (fun m w3=>
 Ac v0 fun b6=>
 Ap [(zI 0)] (fun vs q w4=>∀_:Env,
 BU .i64 (nth vs 0) b6 fun b7=>
 AD b7
 (BM 6 v0 (nth vs 0) fun b8=>
 Aa 6 b8 (fun t22 w5=>
 Al 65 [(zI 0),(.bool false),(.int .u8 0),(.bool false),(.bool false),(zI 0)] (fun V w6=>
 Ab 6 V t22 (fun X=>
 Ao (fun _vs_1 w8=>∀_:Env,
 Au [7] [[],[0],[0,1],[0,1,2],[],[4],[],[0,1,2,3,4,5,6]] w8.drew (fun M St=>
 AK m fun b9=>
 AM 1 b9 fun ba=>
 As (St 3) ba fun bb=>
 AM 0 V fun bc=>
 As (St 5) bc fun bd=>
 Eg (St 6) 6 V fun t45=>
 runK prog (do Instr.mapUpdate 66 bb bd t45;pure undef) (fun _u w9=>
 Mod (M 7) w8.drew w9/\
 AW .i64 (nth vs 0) (zI 1) fun t46=>
 q [t46] w9) w8.drew)) (fun J=>
 Ao (fun Y Z=>∀_:Env,
 AD (nth Y 0)
 (K (.tuple #[(.pointer none),(zI 3)]) Z)
 (Aa 6 V (fun bk bl=>
 AB prog 30 [bk] (fun bn a1=>
 CA bn fun bp=>
 AD bp
 (K (.tuple #[(.pointer none),(zI 3)]) a1)
 (J [] a1)) bl) Z)) (fun a6=>
 Au [6,10,11] [[],[0],[0,1],[0,1,2],[],[4],[0,1,2,3,4,5],[0,1,2,3,4,5,6],[0,1,2,3,4,5,6,7],[0,1,2,3,4,5,6,7],[],[0,1,2,3,4,5,6,7,8,10],[0,1,2,3,4,5,6,7,8,9,10,11]] X.drew (fun i o=>
 AK m fun t25=>
 AM 1 t25 fun bs=>
 As (o 3) bs fun a7=>
 AM 0 V fun bx=>
 As (o 5) bx fun a8=>
 (runK prog (Instr.lookup 66 a7 a8 true) (fun ak B=>
 Mod (i 6) X.drew B/\
 AR 0 ak fun c4=>
 AR 1 ak fun c6=>
 Al 65 [(zI 0),(.bool false),(.int .u8 0),(.bool false),(.bool false),(zI 0)] (fun t7 I=>
 Mod (i 10) B I/\
 Ab 6 t7 c4 (fun al=>
 Mod (i 11) I al/\
 a6 [c6] al) I) B) X.drew)/\
 (Al 65 [(zI 0),(.bool false),(.int .u8 0),(.bool false),(.bool false),(zI 0)] (fun an O=>
 Mod (i 10) X.drew O/\
 runK prog (Instr.lookup 66 a7 a8 true) (fun j Q=>
 Mod (i 6) O Q/\
 AR 0 j fun T=>
 AR 1 j fun U=>
 Ab 6 an T (fun av=>
 Mod (i 11) Q av/\
 a6 [U] av) Q) O) X.drew))))) w6) w5) w4)
 (AK m fun c7=>
 AM 0 c7 fun c8=>
 AJ c8 (fun t50 c9=>
 AB prog 31 [t50,(.func (.func 32) #[] #[])] (fun _t51 ca=>
 K (.tuple #[m,(zI 0)]) ca) c9) w4)) w3) w2) w1) w)
variable {v0 v1 v2 v3 v4 v5 v6 v7 v8 v9:Value}{K:Cont}{w:World}
def ic(h:S8 v0 K w):AB prog 8 [v0] K w:=cO (aN (aO (aN (aO aE .nil)) (aN (aO (aN (.node [19] [(2,3),(6,8),(19,46)] (aN (aO aE (aO (aN (.cut [] [(2,3),(7,8),(23,38)] (.cut [8] [(7,8),(23,32)] (.dt [6,10,11] [[],[0],[0,1],[0,1,2],[],[4],(aR 6),(aR 7),(aR 8),(aR 8),[],[0,1,2,3,4,5,6,7,8,10],(aR 12)] [[6]] (.op 0 (.op 1 (.op 2 (.op 3 (.op 4 (.op 5 (.br (.op 6 (.op 7 (.op 8 (.op 9 (.op 10 (.op 11 (.op 12 .nil))))))) (.op 10 (.op 6 (.op 7 (.op 8 (.op 9 (.op 11 (.op 12 .nil))))))))))))))) (aN (aO aE .nil))) (.dc [7] [[],[0],[0,1],[0,1,2],[],[4],[],(aR 7)] []))) .nil))) .nil)) (aN aE))))) func8 h (by kernel_rfl)
def dg(h: Gl v0 fun b4=>AD (.bool b4) (K (.slice none 0 0) w) (Ba 65 6 0 [] [] (fun t5 i=>runK prog (Builtin.append_ #[22,22] 22 [t5,v0].toArray) (fun j w2=>K j w2) i) w)):AB prog 29 [v0] K w:=cO (aN (aO (aN (aO aE .nil)) aE)) func29 h (by kernel_rfl)
def fy(h: BP 65 v0 (fun i w1=>Ao (fun vs w2=>∀_:Env,AD (nth vs 0) (K (.bool false) w2) (AM 1 i fun m=>AJ m (fun o w3=>AD o (AM 4 i fun t25=>AJ t25 (fun q w4=>CA q fun B=>AD B (AM 5 i fun I=>AJ I (fun O w5=>Km .i64 O (zI 0) fun Q=>AD Q (AM 5 i fun T=>AJ T (fun U w6=>SZ .i64 U (zI 8) fun V=>K V w6) w5) (K (.bool false) w5)) w4) (K (.bool false) w4)) w3) (AM 5 i fun X=>AJ X (fun t39 w7=>Cu .i64 t39 (zI 0) fun Y=>K Y w7) w3)) w2)) (fun J=>AM 0 i fun t4=>AJ t4 (fun t5 w8=>BU .i64 t5 (zI 1) fun t6=>AD t6 (J [(.bool true)] w8) (AM 0 i fun t8=>AJ t8 (fun t9 w9=>Eo .i64 t9 (zI 1000) fun Z=>AD Z (J [(.bool true)] w9) (AM 2 i fun a1=>AJ a1 (fun a6 j=>BU .u8 a6 (.int .u8 1) fun a7=>AD a7 (J [(.bool true)] j) (AM 2 i fun a8=>AJ a8 (fun ak al=>Eo .u8 ak (.int .u8 4) fun an=>J [an] al) j)) w9)) w8)) w1)) w):AB prog 30 [v0] K w:=cO (aN (aO (.cut [3] [(3,21)] .nil (aO aE (aN (aO aE .nil)))) aE)) func30 h (by kernel_rfl)
def dA(h: BP 65 v0 (fun i j=>BP 65 v1 (fun t3 w2=>AM 0 i fun t5=>AJ t5 (fun m o=>AM 0 t3 fun q=>AJ q (fun B w4=>AB prog 33 [m,B] (fun t9 I=>K t9 I) w4) o) w2) j) w):AB prog 32 [v0,v1] K w:=cO (aN aE) func32 h (by kernel_rfl)
def eE(h: AB prog 73 [v0] (fun o q=>AB prog 73 [v1] (fun i w2=>AD o (AD i (K (zI 0) w2) (K (zI (-1)) w2)) (AD i (K (zI 1) w2) (BU .i64 v0 v1 fun j=>AD j (K (zI (-1)) w2) (Eo .i64 v0 v1 fun m=>AD m (K (zI 1) w2) (K (zI 0) w2))))) q) w):AB prog 33 [v0,v1] K w:=cO (aN (aN (aN (aO (aN (aO (aO (aN (aO aE .nil)) aE) .nil)) (aO (aN (aO aE .nil)) (aO (aN (aO aE .nil)) (aO (aN (aO aE .nil)) aE))))))) func33 h (by kernel_rfl)
def Z6(h: Al 65 [(zI 0),(.bool false),(.int .u8 0),(.bool false),(.bool false),(zI 0)] (fun t4 T=>CY v0 fun V=>AD (.bool V) (Ai [(0,1),(1,1),(2,1),(3,1),(4,1),(5,1)] [(zI 0),(.bool false),(.int .u8 0),(.bool false),(.bool false),(zI 0)] [] fun m=>Ab 6 t4 m (fun w2=>Aa 6 t4 (fun X Y=>K (.tuple #[X,(.bool false)]) Y) w2) T) (AK v0 fun o=>AM 1 o fun q=>AJ q (fun B w4=>runK prog (Instr.lookup 66 B v1 true) (fun i Z=>AR 0 i fun I=>AR 1 i fun J=>Al 65 [(zI 0),(.bool false),(.int .u8 0),(.bool false),(.bool false),(zI 0)] (fun U w6=>Ab 6 U I (fun w7=>Aa 6 U (fun O w8=>Ab 6 t4 O (fun w9=>Aa 6 t4 (fun j Q=>K (.tuple #[j,J]) Q) w9) w8) w7) w6) Z) w4) T)) w):AB prog 131 [v0,v1] K w:=cO (aN (aO (aN (aO aE .nil)) (aN aE))) func131 h (by kernel_rfl)
def fU(h: Dp .i64 v0 v0 fun t5=>K t5 w):AB prog 73 [v0] K w:=cO (aN aE) func73 h (by kernel_rfl)
end
def Jm(w:World)(b:Nat)(l:List (Int×Value)):Prop:=∃j i,w.heap[b]?=some (.map j i)/\j.toList.map (fun e=>(e.key,e.val))=l.map fun p=>(zI p.1,p.2)
def Jm.lt{b:Nat}{l:List (Int×Value)}(h:Jm w b l):b<w.heap.size:=by
 obtain⟨i,c,hb,_⟩:=h;exact(mQ.1 hb).1
def Jm.mod{b:Nat}{l:List (Int×Value)}(h:Jm w b l)(hm:Mod M w w')(hb:¬M b):Jm w' b l:=by
 have hl:=h.lt;obtain⟨i,c,h1,j⟩:=h;exact⟨i,c,(hm.same b hl hb).trans h1,j⟩
def Jm.make(w:World):Jm (w.alloc (.map #[] 0)) w.heap.size []:=⟨#[],0,(MapKept.heap_alloc w _).1,rfl⟩
def Kv(k:Int):∀(o:List MapEntry) (l:List (Int×Value)) (i:Nat),(o.map fun e=>(e.key,e.val))=(l.map fun p=>(zI p.1,p.2))->
  ∃r,Instr.findNow (.int .i64) (zI k) o i=some r/\((r=none/\l.find? (fun p=>decide (p.1=k))=none)\/∃j p,r=some (j,p.2)/\l.find? (fun p=>decide (p.1=k))=some p):=by
 intro o;induction o with
 |nil=>
  intro l i h;cases l with
  |nil=>exact⟨none,rfl,.inl ⟨rfl,rfl⟩⟩
  |cons p l=>simp at h
 |cons e o q=>
  intro l i h;cases l with
  |nil=>simp at h
  |cons p l=>
   simp only[kN,mn,Prod.mk.injEq] at h;obtain⟨⟨h1,B⟩,I⟩:=h;obtain⟨r,hr,m⟩:=MapKept.sameNow_of_keys (d:=.int .i64) (a:=zI k) (b:=e.key) rfl (by rw[h1];rfl);rw[h1] at m;cases r with
   |true=>
    have hk:k=p.1:=by have:=m.1 rfl;simpa using this
    exact⟨some (i,e.val),by simp[Instr.findNow,hr],.inr ⟨i,p,by rw[B],by simp[hk]⟩⟩
   |false=>
    have hk:¬p.1=k:=fun e=>by have:=m.2 (by rw[e]);cases this
    obtain⟨r,J,O⟩:=q l (i+1) I;refine⟨r,by simp[Instr.findNow,hr,J],?_⟩;simpa[qv,hk] using O
def XG(k:Int):MapKept.IsKey (.int .i64) (zI k):=rfl
def Lf{t kt et:TypeId}{z:Value}{b:Nat}{l:List (Int×Value)}(ht:P.underlying t=some (.map kt et))(hk:P.underlying kt=some (.int .i64))(q:(zeroValue et).run P w=.ok z w)(h:Jm w b l)(k:Int) :
  (Instr.lookup t (.map (some b)) (zI k) true).run P w=.ok (.tuple #[((l.find? fun p=>decide (p.1=k)).map (·.2)).getD z,.bool (l.find? fun p=>decide (p.1=k)).isSome]) w:=by
 obtain⟨B,m,hb,he⟩:=h;obtain⟨r,h1,i⟩:=Kv k B.toList l 0 he;have o:=nJ (w:=w) hk h1;have hc:=fun em=>nw (w:=w) hk (XG k) em 9999;rcases i with⟨rfl,i⟩|⟨j,p,rfl,i⟩
 .simp[Instr.lookup,run_underlying ht,mX hb,hc,o,q,Result.andThen,i]
 .simp[Instr.lookup,run_underlying ht,mX hb,hc,o,Result.andThen,i]
def RD{t kt et:TypeId}{b:Nat}{l:List (Int×Value)}(ht:P.underlying t=some (.map kt et))(hk:P.underlying kt=some (.int .i64))(h:Jm w b l)(k:Int)(v:Value)(o:l.find? (fun p=>decide (p.1=k))=none) :
  ∃w',(Instr.mapUpdate t (.map (some b)) (zI k) v).run P w=.ok () w'/\Jm w' b (l++[(k,v)])/\Mod (fun x=>x=b) w w':=by
 obtain⟨q,i,hb,he⟩:=h;obtain⟨r,h1,m⟩:=Kv k q.toList l 0 he;have B:=nJ (w:=w) hk h1;have hc:=fun em=>nw (w:=w) hk (XG k) em 9999;rcases m with⟨rfl,m⟩|⟨j,p,rfl,m⟩
 .refine⟨{ w with heap:=w.heap.setIfInBounds b (.map (q.push ⟨zI k,v,i⟩) (i+1)) },by simp[Instr.mapUpdate,run_underlying ht,mX hb,hc,B,oO _ hb,Result.andThen],⟨_,_,(pY hb).1,?_⟩,⟨rfl,rfl,rfl,by simp,fun x _ I=>(pY hb).2 x I⟩⟩;simp[he]
 .rw[m] at o;cases o
def DS{a:Addr}{K:Bool->Prop}(h:K false):CY (.pointer (some a)) K:=⟨_,rfl,h⟩
def AS{A B:Prop}(h:B):AD (.bool false) A B:=h
def Ak{A B:Prop}(h:A):AD (.bool true) A B:=h
def AI{a:Addr}{K:Value->Prop}(h:K (.pointer (some a))):AK (.pointer (some a)) K:=⟨_,rfl,h⟩
def Xa:DU prog 22 65 6 24:=⟨Tryz.t65,.agg #[zI 0,.bool false,.int .u8 0,.bool false,.bool false,zI 0],by kernel_rfl,by kernel_rfl,by kernel_rfl,by kernel_rfl,by kernel_rfl,by rfl,by decide⟩
def PU:DU prog 145 3 1 8:=⟨Tryz.t3,zI 0,by kernel_rfl,by kernel_rfl,by kernel_rfl,by kernel_rfl,by kernel_rfl,by rfl,by decide⟩
open Classical in
def aL{k:DKey}:AB prog 30 [.agg k.cells.toArray] (fun v' w'=>v'=.bool (decide (EI k))/\Grow w w') w:=by
 apply fy;refine DZ fun b o _ _ g hc _=>?_;have J:=hc 0 _ rfl;have l1:=hc 1 _ rfl;have l2:=hc 2 _ rfl;have V:=hc 4 _ rfl;have B:=hc 5 _ rfl;simp only[AG];have i:∀q:Bool,(q=true↔EI k)->Value.bool q=.bool (decide (EI k))/\Grow w o:=fun q h=>⟨by congr 1;rw[nW,h,TC],g⟩;refine AV (fun vs w2=>w2=o/\∃q:Bool,vs=[.bool q]/\(q=false↔1<=k.id/\k.id<=1000/\1<=k.kind/\k.kind<=4)) ?_ ?_
 .rintro vs _ ⟨rfl,q,rfl,O⟩ _;rename World=>o
  rw[Bl,Nr];cases q with
  |true=>exact Ak (i false ⟨fun h=>(nomatch h),fun h=>by have:=O.2 ⟨h.1,h.2.1,h.2.2.1,h.2.2.2.1⟩;cases this⟩)
  |false=>
   obtain⟨h1,j,m,Q⟩:=O.1 rfl;refine AS (AL l1 ?_);cases hb:k.block with
   |true=>
    refine Ak (AL V ?_);rw[An];cases T:k.before with
    |true=>exact AS (i false ⟨fun h=>(nomatch h),fun h=>by have:=h.2.2.2.2.2.2.2 hb;rw[T] at this;cases this⟩)
    |false=>
     refine Ak (AL B ?_);rw[DW];refine AF (fun U=>?_) fun U=>i false ⟨fun h=>(nomatch h),fun h=>by have:=h.2.2.2.2.1;omega⟩;refine AL B ?_;rw[IG];refine i _ ?_;rw[TC];exact⟨fun I=>⟨h1,j,m,Q,U,I,(fun e=>by rw[hb] at e;cases e),fun _=>T⟩,fun h=>h.2.2.2.2.2.1⟩
   |false=>
    refine AS (AL B ?_);rw[Aj];refine i _ ?_;rw[TC];exact⟨fun I=>⟨h1,j,m,Q,by omega,by omega,fun _=>I,fun e=>by rw[hb] at e;cases e⟩,fun h=>h.2.2.2.2.2.2.1 hb⟩
 .refine AL J ?_;rw[Am];refine AF (fun h1=>⟨rfl,true,rfl,⟨fun h=>(nomatch h),fun h=>by omega⟩⟩) fun h1=>?_;refine AL J ?_;rw[BL];refine AF (fun j=>⟨rfl,true,rfl,⟨fun h=>(nomatch h),fun h=>by omega⟩⟩) fun j=>?_;refine AL l2 ?_;rw[Am];refine AF (fun m=>⟨rfl,true,rfl,⟨fun h=>(nomatch h),fun h=>by omega⟩⟩) fun m=>?_;refine AL l2 ?_;rw[BL];refine⟨rfl,_,rfl,?_⟩;rw[kV];exact⟨fun h=>by omega,fun h=>by omega⟩
def TT{l:List DKey}(h:NT S w v l)(hl:l.length<=1099511627776) :
  AB prog 29 [v] (fun v' w'=>AE w.heap.size 65 6 Gi w' v' l/\Grow w w') w:=by
 apply dg;exact IN (K:=fun v' w'=>AE w.heap.size 65 6 Gi w' v' l/\Grow w w') Xa h (by omega) (fun _ _ _=>Gi.one) (fun _ _ _ _ _ _ h=>h) fun _ _ h g=>⟨h,g⟩
def J6(a b:Int):Int:=if a<b then -1 else if b<a then 1 else 0
def U1{a b:Int}:AB prog 33 [zI a,zI b] (fun v' w'=>v'=zI (J6 a b)/\w'=w) w:=by
 have i:∀(c:Int) (K:Cont),K (.bool false) w->AB prog 73 [zI c] K w:=by
  intro c K m;apply fU;rw[Bk];rw[show(!decide (c=c))=false by simp];exact m
 apply eE;refine i _ _ (i _ _ ?_);refine AS (AS ?_);rw[Am];unfold J6;refine AF (fun h=>⟨by rw[DN h],rfl⟩) fun h=>?_;rw[BL];exact AF (fun j=>⟨by rw[Bq h,DN j],rfl⟩) fun j=>⟨by rw[Bq h,Bq j],rfl⟩
def Ci(D:Nat->Prop)(w:World)(v:Value)(ks:List DKey):Prop:=
 ∃b m i l,v=.pointer (some ⟨b,0,none⟩)/\D b/\D m/\w.cell? ⟨b,0,none⟩=some i/\w.cell? ⟨b,1,none⟩=some (.map (some m))/\BB D 6 Gi w i ks/\Jm w m l/\
  ∀id:Int,(l.find? fun p=>decide (p.1=id)).map (·.2)=(Bf ks id).map fun k=>.agg k.cells.toArray
def Ci.mod{D M:Nat->Prop}(h:Ci D w v ks)(hm:Mod M w w')(i:∀b,b<w.heap.size->D b->¬M b):Ci D w' v ks:=by
 obtain⟨b,m,B,l,rfl,h1,j,o,I,J,q,O⟩:=h;have hb:=lF w _ o;exact⟨b,m,B,l,rfl,h1,j,hm.cell o (i _ hb h1),hm.cell I (i _ hb h1),J.mod hm i (by decide) fun _ _ h=>h,q.mod hm (i _ q.lt j),O⟩
def Ci.grow{D:Nat->Prop}(h:Ci D w v ks)(hm:Grow w w'):Ci D w' v ks:=h.mod hm fun _ _ _ h=>h
def Ci.sub{D D':Nat->Prop}(h:Ci D w v ks)(i:∀b,b<w.heap.size->D b->D' b):Ci D' w v ks:=by
 obtain⟨b,m,q,l,rfl,h1,B,j,I,J,o,O⟩:=h;exact⟨b,m,q,l,rfl,i _ (lF w _ j) h1,i _ o.lt B,j,I,J.sub i (by decide) fun _ _ h=>h,o,O⟩
def QE(w:World):(zeroValue 65).run prog w=.ok (.agg DKey.zero.cells.toArray) w:=EO (by kernel_rfl) w
def Jr{D:Nat->Prop}(h:Ci D w v ks)(id:Int) :
  AB prog 131 [v,zI id] (fun v' w'=>v'=.tuple #[.agg ((Bf ks id).getD DKey.zero).cells.toArray,.bool (Bf ks id).isSome]/\Grow w w') w:=by
 apply Z6;obtain⟨b,m,kv,l,rfl,_,_,h3,O,h5,Q,I⟩:=h;refine EU fun b4 w1 T U i _ o=>?_;refine DS (AS (AI ?_));rw[AG];refine AL (i.cell (by rw[AH];exact O) fun h=>h) ?_;refine Ae (Lf underlying66 underlying3 (QE _) (Q.mod i fun h=>h) id) ?_;have V:((l.find? fun p=>decide (p.1=id)).map (·.2)).getD (.agg DKey.zero.cells.toArray)=.agg ((Bf ks id).getD DKey.zero).cells.toArray:=by
  rw[I];cases Bf ks id<;>rfl
 have X:(l.find? fun p=>decide (p.1=id)).isSome=(Bf ks id).isSome:=by
  have:=kZ Option.isSome (I id);simpa using this
 rw[V,X];refine BO ?_;generalize (Bf ks id).getD DKey.zero=k;refine BQ (vs:=k.cells) rfl rfl (Gi.one (w:=w) (x:=k) rfl) fun b6 w3 Y Z J q _=>?_;refine Ah (vs:=k.cells) rfl q ?_;refine Ca rfl (Gi.one (w:=w) (x:=k) rfl) (fun j hj=>(o j hj).mod J fun h=>h) fun w4 m4 B _=>?_;refine Ah (vs:=k.cells) rfl B ⟨rfl,?_⟩;exact(i.trans J).next m4 fun x hx e=>by omega
abbrev MR:World->List Value->Int->Prop:=fun _ r x=>r=[zI x]
def MR.one{r:List Value}{x:Int}(h:MR w r x):∀u∈r,u.oneCell'=true:=by
 subst h;intro u hu;simp at hu;subst hu;rfl
structure Ent (α:Type) where
 set:α
 held:Nat
structure Tab (α:Type) where
 places:List (Ent α)
 free:List Nat
 empty:Nat
def Tab.z(α:Type):Tab α:=⟨[],[],0⟩
structure Tab.Inv {α:Type} (G:α->Prop) (t:Tab α):Prop where
 Qr:t.free.Nodup
 Ua:∀i:Nat,i∈t.free↔∃p,t.places[i]?=some p/\p.held=0
 Hn:∀(i j:Nat) (p q:Ent α),t.places[i]?=some p->t.places[j]?=some q->0<p.held->0<q.held->p.set=q.set->i=j
 ok:∀(i:Nat) (p:Ent α),t.places[i]?=some p->0<p.held->G p.set
def Tab.IB{α:Type}(t:Tab α)(i:Nat)(p:Ent α):Tab α:={ t with places:=t.places.set i p }
def Tab.put{α:Type}(t:Tab α)(s:α):Nat×Tab α:=match t.free.getLast? with
 |some i=>(i,{ t with places:=t.places.set i ⟨s,1⟩,free:=t.free.dropLast })
 |none=>(t.places.length,{ t with places:=t.places++[⟨s,1⟩] })
def Tab.drop{α:Type}(t:Tab α)(z:α)(i:Nat):Tab α:={ t with places:=t.places.set i ⟨z,0⟩,free:=t.free++[i] }
def Tab.Inv.z(G:α->Prop):(Tab.z α).Inv G:=⟨nf,fun i=>by simp[Tab.z],fun i j p q h=>by simp[Tab.z] at h,fun i p h=>by simp[Tab.z] at h⟩
def Tab.Inv.IB{G:α->Prop}{t:Tab α}(h:t.Inv G){i:Nat}{p:Ent α}(hp:t.places[i]?=some p)(h0:0<p.held){n:Nat}(hn:0<n):(t.IB i ⟨p.set,n⟩).Inv G:=by
 have hi:=(Ad.1 hp).1;have key:∀(j:Nat) (q:Ent α),(t.places.set i ⟨p.set,n⟩)[j]?=some q->∃I:Ent α,t.places[j]?=some I/\I.set=q.set/\(0<q.held↔0<I.held):=by
  intro j q B;rw[nu,DN hi] at B;split at B
  .rename_i e;subst e;cases B;exact⟨p,hp,rfl,by simp only;omega⟩
  .exact⟨q,B,rfl,oe⟩
 refine⟨h.Qr,fun j=>?_,fun j k J U h1 O V X Y=>?_,fun j J h1 O=>?_⟩
 .show j∈t.free↔∃q:Ent α,(t.places.set i ⟨p.set,n⟩)[j]?=some q/\q.held=0;rw[h.Ua,nu,DN hi];split
  .rename_i e;subst e;constructor
   .rintro⟨q,m,o⟩;rw[hp] at m;cases m;omega
   .rintro⟨q,m,o⟩;cases m;simp only at o;omega
  .exact oe
 .obtain⟨Q,m,o,T⟩:=key j J h1;obtain⟨Z,f1,f2,f3⟩:=key k U O;exact h.Hn j k Q Z m f1 (T.1 V) (f3.1 X) (by rw[o,f2,Y])
 .obtain⟨Q,m,o,T⟩:=key j J h1;rw[<-o];exact h.ok j Q m (T.1 O)
def OD{l:List Nat}(h:l.Nodup){i:Nat}(hi:l.getLast?=some i)(j:Nat):j∈l.dropLast↔j∈l/\j≠i:=by
 have e:l=l.dropLast++[i]:=by
  cases l with
  |nil=>simp at hi
  |cons a l=>
   rw[mT (by simp)] at hi;conv=>lhs;rw[<-py (l:=a::l) (by simp)]
   rw[kW hi]
 have m:(l.dropLast++[i]).Nodup:=e▸h;have hm:j∈l↔j∈l.dropLast++[i]:=by rw[<-e]
 rw[kM] at m;rw[hm,C3,P9];constructor
 .intro o;exact⟨.inl o,fun e=>m.2.2 j o i (P9.2 rfl) e⟩
 .rintro⟨h1|h1,q⟩
  .exact h1
  .exact absurd h1 q
def Tab.GD{G:α->Prop}{t:Tab α}(h:t.Inv G){s:α}(hg:G s)(Y:∀(i:Nat) (p:Ent α),t.places[i]?=some p->0<p.held->p.set≠s) :
  (t.put s).2.Inv G/\(t.put s).2.places[(t.put s).1]?=some ⟨s,1⟩/\(∀p:Ent α,t.places[(t.put s).1]?=some p->p.held=0)/\(∀j:Nat,j≠(t.put s).1->(t.put s).2.places[j]?=t.places[j]?)/\(t.put s).2.empty=t.empty:=by
 unfold Tab.put;cases hl:t.free.getLast? with
 |some i=>
  have Z:i∈t.free:=mj hl;obtain⟨p,hp,a1⟩:=(h.Ua i).1 Z;have hi:=(Ad.1 hp).1;have m:(t.places.set i ⟨s,1⟩)[i]?=some ⟨s,1⟩:=by rw[kP hi]
  have o:∀j:Nat,j≠i->(t.places.set i ⟨s,1⟩)[j]?=t.places[j]?:=fun j hj=>lI (nY hj);refine⟨⟨h.Qr.sublist (pV _),fun j=>?_,fun j k O U h1 B V X Q=>?_,fun j O h1 B=>?_⟩,m,fun q T=>?_,o,rfl⟩
  .show j∈t.free.dropLast↔∃q:Ent α,(t.places.set i ⟨s,1⟩)[j]?=some q/\q.held=0;rw[OD h.Qr hl,h.Ua];by_cases e:j=i
   .subst e;rw[m];constructor
    .rintro⟨_,B⟩;exact absurd rfl B
    .rintro⟨q,I,J⟩;cases I;cases J
   .rw[o j e];exact⟨fun h=>h.1,fun h=>⟨h,e⟩⟩
  .simp only at h1 B;by_cases I:j=i<;>by_cases J:k=i
   .rw[I,J]
   .subst I;rw[m] at h1;cases h1;rw[o k J] at B;exact absurd Q.symm (Y k U B X)
   .subst J;rw[m] at B;cases B;rw[o j I] at h1;exact absurd Q (Y j O h1 V)
   .rw[o j I] at h1;rw[o k J] at B;exact h.Hn j k O U h1 B V X Q
  .simp only at h1;by_cases I:j=i
   .subst I;rw[m] at h1;cases h1;exact hg
   .rw[o j I] at h1;exact h.ok j O h1 B
  .simp only at T;rw[hp] at T;cases T;exact a1
 |none=>
  have hf:t.free=[]:=nL.1 hl;have m:(t.places++[(⟨s,1⟩:Ent α)])[t.places.length]?=some ⟨s,1⟩:=by simp
  have o:∀j:Nat,j≠t.places.length->(t.places++[(⟨s,1⟩:Ent α)])[j]?=t.places[j]?:=by
   intro j hj;by_cases a6:j<t.places.length
   .rw[Q0 a6]
   .rw[kY (by simp;omega),kY (by omega)]
  refine⟨⟨h.Qr,fun j=>?_,fun j k O U h1 B V X Q=>?_,fun j O h1 B=>?_⟩,m,fun q T=>?_,o,rfl⟩
  .show j∈t.free↔∃q:Ent α,(t.places++[(⟨s,1⟩:Ent α)])[j]?=some q/\q.held=0;by_cases e:j=t.places.length
   .subst e;rw[m,hf];constructor
    .intro h;simp at h
    .rintro⟨q,I,J⟩;cases I;cases J
   .rw[o j e,h.Ua]
  .simp only at h1 B;by_cases I:j=t.places.length<;>by_cases J:k=t.places.length
   .rw[I,J]
   .subst I;rw[m] at h1;cases h1;rw[o k J] at B;exact absurd Q.symm (Y k U B X)
   .subst J;rw[m] at B;cases B;rw[o j I] at h1;exact absurd Q (Y j O h1 V)
   .rw[o j I] at h1;rw[o k J] at B;exact h.Hn j k O U h1 B V X Q
  .simp only at h1;by_cases I:j=t.places.length
   .subst I;rw[m] at h1;cases h1;exact hg
   .rw[o j I] at h1;exact h.ok j O h1 B
  .simp only at T;rw[kY (Mp _)] at T;cases T
def Tab.Va{G:α->Prop}{t:Tab α}(h:t.Inv G){i:Nat}{p:Ent α}(hp:t.places[i]?=some p)(h0:0<p.held)(z:α):(t.drop z i).Inv G:=by
 have hi:=(Ad.1 hp).1;have J:i∉t.free:=fun hm=>by obtain⟨q,B,O⟩:=(h.Ua i).1 hm;rw[hp] at B;cases B;omega
 have m:(t.places.set i ⟨z,0⟩)[i]?=some ⟨z,0⟩:=by rw[kP hi]
 have o:∀j:Nat,j≠i->(t.places.set i ⟨z,0⟩)[j]?=t.places[j]?:=fun j V=>lI (nY V);refine⟨?_,fun j=>?_,fun j k Q X h1 I T U Y=>?_,fun j Q h1 I=>?_⟩
 .show(t.free++[i]).Nodup;rw[kM];exact⟨h.Qr,by simp,fun a ha b hb=>by rw[P9] at hb;subst hb;intro e;exact J (e▸ha)⟩
 .show j∈t.free++[i]↔∃q:Ent α,(t.places.set i ⟨z,0⟩)[j]?=some q/\q.held=0;rw[C3,P9];by_cases e:j=i
  .subst e;rw[m];exact⟨fun _=>⟨_,rfl,rfl⟩,fun _=>.inr rfl⟩
  .rw[o j e,h.Ua];exact⟨fun h=>h.resolve_right e,fun h=>.inl h⟩
 .simp only[Tab.drop] at h1 I;by_cases B:j=i
  .subst B;rw[m] at h1;cases h1;exact absurd T (ph _)
  by_cases O:k=i
  .subst O;rw[m] at I;cases I;exact absurd U (ph _)
  rw[o j B] at h1;rw[o k O] at I;exact h.Hn j k Q X h1 I T U Y
 .simp only[Tab.drop] at h1;by_cases B:j=i
  .subst B;rw[m] at h1;cases h1;exact absurd I (ph _)
  .rw[o j B] at h1;exact h.ok j Q h1 I
def Ii:∀{l m:List Nat},l.Nodup->l ⊆ m->l.length<=m.length:=by
 intro l;induction l with
 |nil=>intro m _ _;exact Nn _
 |cons a l q=>
  intro m i j;rw[px] at i;have ha:a∈m:=j lC;have B:l ⊆ m.erase a:=fun x o=>(rG (fun e:x=a=>i.1 (e▸o))).2 (j (gi _ o));have:=q i.2 B;rw[qZ ha] at this;have:=pO ha;simp only[S5];omega
def Tab.O5{G:α->Prop}{t:Tab α}(h:t.Inv G):t.free.length<=t.places.length:=by
 have j:t.free ⊆ List.range t.places.length:=fun i hi=>by
  obtain⟨p,hp,_⟩:=(h.Ua i).1 hi;exact mZ.2 (Ad.1 hp).1
 have:=Ii h.Qr j;simpa using this
section
structure Z1 (g:AvK):Prop where
 at_:∀{v0 v1 K w},jh g v0 v1 K w->AB prog g.fat [v0,v1] K w
 totals:∀{v0 v1 K w},SO g v0 v1 K w->AB prog g.ftotals [v0,v1] K w
 set:∀{v0 v1 v2 K w},iQ g v0 v1 v2 K w->AB prog g.fset [v0,v1,v2] K w
 lift:∀{v0 v1 v2 K w},Wz g v0 v1 v2 K w->AB prog g.flift [v0,v1,v2] K w
 lean:∀{v0 v1 K w},cg g v0 v1 K w->AB prog g.flean [v0,v1] K w
 balance:∀{v0 v1 v2 K w},PA g v0 v1 v2 K w->AB prog g.fbalance [v0,v1,v2] K w
 join:∀{v0 v1 v2 v3 K w},cH g v0 v1 v2 v3 K w->AB prog g.fjoin [v0,v1,v2,v3] K w
 first:∀{v0 v1 K w},Vy g v0 v1 K w->AB prog g.ffirst [v0,v1] K w
 last:∀{v0 v1 K w},cj g v0 v1 K w->AB prog g.flast [v0,v1] K w
 concat:∀{v0 v1 v2 K w},Sh g v0 v1 v2 K w->AB prog g.fconcat [v0,v1,v2] K w
 drop:∀{v0 v1 K w},Xq g v0 v1 K w->AB prog g.fdrop [v0,v1] K w
 over:∀{v0 v1 v2 K w},Wf g v0 v1 v2 K w->AB prog g.fOver [v0,v1,v2] K w
 overf:∀{v0 v1 v2 v3 K w},VP g v0 v1 v2 v3 K w->AB prog g.fOverf [v0,v1,v2,v3] K w
 size:∀{v0 K w},cD g v0 K w->AB prog g.fSize [v0] K w
 take:∀{v0 v1 K w},VO g v0 v1 K w->AB prog g.aTake [v0,v1] K w
 asked:∀{v0 v1 K w},Sr g v0 v1 K w->AB prog g.aasked [v0,v1] K w
 free:∀{v0 v1 K w},Vl g v0 v1 K w->AB prog g.aFree [v0,v1] K w
 aat:∀{v0 v1 K w},jN g v0 v1 K w->AB prog g.aAt [v0,v1] K w
 put:∀{v0 v1 v2 K w},cU g v0 v1 v2 K w->AB prog g.aPut [v0,v1,v2] K w
 new:∀{v0 K w},cE g v0 K w->AB prog g.fNew [v0] K w
 anew:∀{K w},cw g K w->AB prog g.aNew [] K w
 okOverf:Cq g.fOverf=true
def AvK.enc(g:AvK)(r:List Value):Value:=bif g.one then r.headD undef else .agg r.toArray
structure AvT (α:Type) extends AvK where
 k:Kd α
 R:(Nat->Prop)->World->List Value->α->Prop
 pb:Nat
 eb:Nat
 pb_le:pb<=512
 eb_le:eb<=512
 Epos:0<E
 E1:one=true->E=1
 rlen:∀{C w r x},R C w r x->r.length=E
 rone:∀{C w r x},R C w r x->∀u∈r,u.oneCell'=true
 rcell:∀{C w r x},R C w r x->(toAvK.enc r).cells=r.toArray
 rheap:∀{C:Nat->Prop} {w w' r x},R C w r x->(∀y,y<w.heap.size->C y->w'.heap[y]?=w.heap[y]?)->R C w' r x
 rsub:∀{C C':Nat->Prop} {w r x},R C w r x->(∀y,y<w.heap.size->C y->C' y)->R C' w r x
 zlen:zE.length=E
 zone:∀u∈zE,u.oneCell'=true
 elP:DU prog tps tp (E+6) pb
 elE:DU prog ts te E eb
 field0:∀(r t:List Value) (w:World),r.length=E->(∀u∈r,u.oneCell'=true)->t.length=5->(Instr.field tn (.agg (r++t).toArray) 0).run prog w=.ok (toAvK.enc r) w
 ok:Z1 toAvK
 cutμ:∀x p,0<p->p<(k.μ x).1->(k.μ (k.cut x p).1).1=p/\(k.μ (k.cut x p).2).1=(k.μ x).1-p/\(k.μ (k.cut x p).1).2+(k.μ (k.cut x p).2).2=(k.μ x).2
 meldμ:∀x y z,k.meld x y=some z->(k.μ z).1=(k.μ x).1+(k.μ y).1/\(k.μ z).2=(k.μ x).2+(k.μ y).2
 meas:∀{C w r x},R C w r x->BK prog Cq vm [toAvK.enc r] (fun v w'=>v=.tuple #[zI (k.μ x).1,zI (k.μ x).2]/\Grow w w') w
def AvT.BZ(g:AvT α){r:List Value}{x:α}(h:g.R C w r x)(hm:Mod M w w')(j:∀y,y<w.heap.size->C y->¬M y):g.R C w' r x:=g.rheap h fun y i hC=>hm.same y i (j y i hC)
def BV{α:Type}(n:Nd α):List Value:=[zI n.l,zI n.r,zI n.h,zI n.s,zI n.m]
variable {α:Type}{g:AvT α}
def Ou(g:AvT α)(C:Nat->Prop):World->List Value->Option (Nd α)->Prop:=fun w r o=>match o with
 |some n=>∃x,r=x++(BV n++[.bool true])/\g.R C w x n.x
 |none=>∃q,r=q++[.bool false]/\q.length=g.E+5/\∀u∈q,u.oneCell'=true
def G3(n:Nd α):∀u∈BV n,u.oneCell'=true:=by
 intro u hu;simp only[BV,K8,kU,mb] at hu;rcases hu with rfl|rfl|rfl|rfl|rfl<;>rfl
def Ou.one{r:List Value}{o:Option (Nd α)}(h:Ou g C w r o):∀u∈r,u.oneCell'=true:=by
 cases o with
 |none=>
  obtain⟨q,rfl,_,i⟩:=h;intro u hu;rcases C3.1 hu with hu|hu
  .exact i u hu
  .simp at hu;subst hu;rfl
 |some n=>
  obtain⟨x,rfl,j⟩:=h;intro u hu;rcases C3.1 hu with hu|hu
  .exact g.rone j u hu
  .rcases C3.1 hu with hu|hu
   .exact G3 n u hu
   .simp at hu;subst hu;rfl
def Ou.mod{r:List Value}{o:Option (Nd α)}(h:Ou g C w r o)(hm:Mod M w w')(hC:∀b,b<w.heap.size->C b->¬M b):Ou g C w' r o:=by
 cases o with
 |none=>exact h
 |some n=>obtain⟨x,rfl,i⟩:=h;exact⟨x,rfl,g.BZ i hm hC⟩
def Ou.sub{C i:Nat->Prop}{r:List Value}{o:Option (Nd α)}(h:Ou g C w r o)(hC:∀b,b<w.heap.size->C b->i b):Ou g i w r o:=by
 cases o with
 |none=>exact h
 |some n=>obtain⟨x,rfl,j⟩:=h;exact⟨x,rfl,g.rsub j hC⟩
structure Il (g:AvT α) (F C:Nat->Prop) (W:World) (c:Nat) (A:ArS α) (pl fr:Value):Prop where
 cells:∀j v,[pl,fr][j]?=some v->W.cell? ⟨c,j,none⟩=some v
 live:∀j,j<2->Live W ⟨c,j,none⟩
 GH:AE 0 g.tp (g.E+6) (Ou g C) W pl A.ps
 KE:AE 0 3 1 MR W fr (A.fr.map fun i:Nat=>(i:Int))
 ok:A.Ok
 fc:F c
 pF:∀x,pl.ownBlock=some x->F x/\x≠c
 fF:∀x,fr.ownBlock=some x->F x/\x≠c/\pl.ownBlock≠some x
 Iw:∀x,F x->¬C x
 lt:∀x,F x\/C x->x<W.heap.size
def Il.mod{A:ArS α}{pl fr:Value}(h:Il g F C W c A pl fr)(hm:Mod M W W')(m:∀x,F x\/C x->¬M x):Il g F C W' c A pl fr:=
 ⟨fun j v o=>hm.cell (h.cells j v o) (m c (.inl h.fc)),fun j q=>(h.live j q).mod hm (m c (.inl h.fc)),AE.mod h.GH hm (fun x i=>m x (.inl (h.pF x i).1)) fun r x _ i=>i.mod hm fun y _ B=>m y (.inr B),
  AE.mod h.KE hm (fun x i=>m x (.inl (h.fF x i).1)) fun _ _ _ h=>h,h.ok,h.fc,h.pF,h.fF,h.Iw,fun x i=>X8 (h.lt x i) hm.size⟩
def Il.grow{A:ArS α}{pl fr:Value}(h:Il g F C W c A pl fr)(hm:Grow W W'):Il g F C W' c A pl fr:=h.mod hm fun _ _ h=>h
def Il.sub{F C j:Nat->Prop}{A:ArS α}{pl fr:Value}(h:Il g F C W c A pl fr)(hC:∀x,C x->j x)(o:∀x,F x->¬j x)(m:∀x,j x->x<W.heap.size):Il g F j W c A pl fr:=
 ⟨h.cells,h.live,AE.mod h.GH (Mod.refl (fun _=>False) _) (fun _ _ h=>h) fun r x _ i=>i.sub fun y _ q=>hC y q,h.KE,h.ok,h.fc,h.pF,h.fF,o,fun x i=>i.elim (fun i=>h.lt x (.inl i)) (m x)⟩
def Il.JG{c x:Nat}{A:ArS α}{pl fr:Value}{ps:List (Option (Nd α))}(h:Il g F C W c A pl fr)(o:pl.ownBlock=some x)(hm:Mod (fun y=>y=x) W W')(hp:AE 0 g.tp (g.E+6) (Ou g C) W' pl ps)(i:ArS.Ok ⟨ps,A.fr⟩):Il g F C W' c ⟨ps,A.fr⟩ pl fr:=by
 obtain⟨J,q⟩:=h.pF x o;exact⟨fun j v B=>hm.cell (h.cells j v B) fun e=>q e.symm,fun j I=>(h.live j I).mod hm fun e=>q e.symm,hp,AE.mod h.KE hm (fun y m e=>(h.fF y m).2.2 (by rw[o,e])) fun _ _ _ h=>h,i,h.fc,h.pF,h.fF,h.Iw,fun y m=>X8 (h.lt y m) hm.size⟩
def MJ{c i:Nat}{A:ArS α}{pl fr:Value}{n:Nd α}(h:Il g F C W c A pl fr)(hi:A.f i=some n) :
  AB prog g.aasked [.pointer (some ⟨c,0,none⟩),zI i] (fun v' w'=>v'=zI 0/\w'=W) W:=by
 apply g.ok.asked;unfold Sr;obtain⟨m,hp⟩:=ArS.Iu hi;have I:=(Ad.1 hp).2;obtain⟨Q,T,j,_⟩:=h.GH.sl.shape;have o:=h.GH.sl;rw[j] at o;obtain⟨q,r,rfl,_,hr,hc,B⟩:=o.get m;rw[I] at B;obtain⟨x,rfl,O⟩:=B;refine DS (AS ?_);rw[Am];refine AF (fun e=>by omega) fun _=>?_;refine AI ?_;refine Bh (h.cells 0 _ rfl) ?_;rw[j,AP,DW];refine AF (fun e=>by omega) fun _=>?_;refine AI ?_;refine Bh (h.cells 0 _ rfl) ?_;rw[j];refine AT m ?_;rw[AG,Addr.add_add];refine AL (v:=.bool true) (hc (g.E+5) _ ?_) ?_
 .have J:=g.rlen O;rw[kO (by omega),J,show g.E+5-g.E=5 by omega];rfl
 rw[An];exact AS ⟨rfl,rfl⟩
def SR{c i:Nat}{A:ArS α}{pl fr:Value}{n:Nd α}(h:Il g F C W c A pl fr)(hi:A.f i=some n) :
  AB prog g.aAt [.pointer (some ⟨c,0,none⟩),zI i] (fun v' w'=>∃r,v'=.tuple #[.agg (r++BV n).toArray,zI 0]/\g.R C w' r n.x/\Grow W w'/\∃p m k,pl=.slice (some p) m k/\∀u,r[0]?=some u->W.cell? (p.add (i*(g.E+6)))=some u) W:=by
 apply g.ok.aat;unfold jN;have X:g.toAvK.zN.length=g.E+5:=by rw[AvK.zN,Bp,g.zlen];rfl
 refine EU fun b4 w1 a7 a8 V _ Y=>?_;have h1:=h.grow V;refine AA (MJ h1 hi) ?_;rintro _ _ ⟨rfl,rfl⟩;rename World=>w1
 refine Nh ?_;obtain⟨B,hp⟩:=ArS.Iu hi;have Z:=(Ad.1 hp).2;obtain⟨pa,pc,I,_⟩:=h.GH.sl.shape;have J:=h.GH.sl;rw[I] at J;obtain⟨q,r,rfl,_,hr,O,Q⟩:=J.get B;rw[Z] at Q;obtain⟨x,rfl,a1⟩:=Q;have hx:=g.BZ a1 V fun _ _ _ h=>h;have hc:=fun j u hu=>V.cell (O j u hu) fun h=>h;have T:=g.rlen hx;refine AI ?_;refine Bh (h1.cells 0 _ rfl) ?_;rw[I];refine AT B ?_;rw[AG,Addr.add_add];have U:∀u∈x++BV n,u.oneCell'=true:=fun u hu=>by
  rcases C3.1 hu with hu|hu
  .exact g.rone hx u hu
  .exact G3 n u hu
 have o:(x++BV n).length=g.E+5:=by rw[Bp,T];rfl
 refine Ah (vs:=x++BV n) o (fun j u hu=>?_) ?_
 .rw[Addr.add_add,lD];refine hc j u ?_;rw[<-Of,Q0 (Ad.1 hu).1];exact hu
 refine Ca o U (fun j hj=>Y j (by rw[X];exact hj)) fun w2 m2 a6 _=>?_;refine Ah o a6 ?_;have g2:Grow W w2:=V.next m2 fun y hy e=>by omega
 refine⟨x,rfl,g.BZ hx m2 fun y _ hy e=>by subst e;have:=h.lt y (.inr hy);omega,g2,q,_,_,rfl,fun u hu=>?_⟩;have:=O 0 u (by rw[Q0 (by rw[T];exact g.Epos)];exact hu);rwa [lD] at this
def gx{c i:Nat}{A:ArS α}{pl fr:Value}{n:Nd α}(h:Il g F C W c A pl fr)(hi:A.f i=some n) :
  AB prog g.aAt [.pointer (some ⟨c,0,none⟩),zI i] (fun v' w'=>∃r,v'=.tuple #[.agg (r++BV n).toArray,zI 0]/\g.R C w' r n.x/\Grow W w') W:=
 AA (SR h hi) fun _ _ ⟨r,h1,j,m,_⟩=>⟨r,h1,j,m⟩
def Sz{c i:Nat}{A:ArS α}{pl fr:Value}{n m:Nd α}{r:List Value}(h:Il g F C W c A pl fr)(hi:A.f i=some m)(hr:g.R C W r n.x) :
  AB prog g.aPut [.pointer (some ⟨c,0,none⟩),zI i,.agg (r++BV n).toArray] (fun v' w'=>Il g F C w' c (A.put i n) pl fr/\Mod (fun x=>pl.ownBlock=some x) W w') W:=by
 apply g.ok.put;unfold cU;have Y:=g.rlen hr;have o:(r++BV n).length=g.E+5:=by rw[Bp,Y];rfl
 have Q:∀u∈r++BV n,u.oneCell'=true:=fun u hu=>by
  rcases C3.1 hu with hu|hu
  .exact g.rone hr u hu
  .exact G3 n u hu
 refine DZ fun b5 Z a8 ak g5 a1 _=>?_;have h1:=h.grow g5;refine AA (MJ h1 hi) ?_;rintro _ _ ⟨rfl,rfl⟩;rename World=>Z
 refine Nh ?_;obtain⟨J,hp⟩:=ArS.Iu hi;have X:Grow Z Z.drew:=Mod.drew _ _;have T:=h1.grow X;obtain⟨pa,pc,B,_⟩:=T.GH.sl.shape;have I:=T.GH;rw[B] at I;obtain⟨q,_,rfl,hq,_,_,_⟩:=I.sl.get J;have O:pl.ownBlock=some q.block:=by rw[B];exact hq.2
 have hF:=h.pF _ O;refine Af (fun k y=>k=8/\y=q.block) ?_;refine AI ?_;rw[AG,AH];refine AU ⟨T.cells 0 _ rfl,fun j hj e=>hF.2 e.2.symm⟩ ?_;have nb:∀j,¬((⟨b5,0,none⟩:Addr).add j).block=q.block:=fun j e=>by
  rw[BJ] at e;have:=h.lt _ (.inl hF.1);simp only at e;omega
 refine Ch o (fun j v hv=>⟨X.cell (a1 j v hv) fun h=>h,fun k _ e=>nb j e.2⟩) ?_;rw[B];refine AT J ?_;rw[AG,Addr.add_add];have U:∀y,C y->¬y=q.block:=fun y hy e=>h.Iw _ hF.1 (e▸hy);refine AE.OI (R':=Ou g C) (x':=some n) I J o (by omega) Q (fun w' r y hm _ hy=>hy.mod hm fun z _ hz=>U z hz) (fun w' r' hm V al an=>?_) fun w2 ho hm=>?_
 .have a6:=(Ad.1 hp).2;rw[a6] at V;obtain⟨x',rfl,a7⟩:=V;refine⟨r,?_,g.BZ (g.BZ (g.BZ hr g5 fun _ _ _ h=>h) X fun _ _ _ h=>h) hm fun z _ hz=>U z hz⟩;rw[<-Of,Hp (by rw[o,Bp,g.rlen a7];rfl),Of]
 .refine⟨hm.mono fun x _ e=>⟨rfl,e⟩,?_⟩;rw[<-B];have hA:=T.JG O hm (by rw[B];exact ho) (ArS.eG (n:=n) hi T.ok);exact⟨hA,(g5.trans X).mono (fun _ _ h=>h.elim) |>.trans (hm.mono fun x _ e=>by rw[e];exact O)⟩
def Il.jd{F F' C Q:Nat->Prop}{A:ArS α}{pl fr B:Value}{ps:List (Option (Nd α))}{K:World->Prop}(h:Il g F C W c A pl fr)(hm:Mod Q W W')(I:∀x,Q x->pl.ownBlock=some x)(T:∀x,F x->F' x)(J:∀x,F' x->F x\/W.heap.size<=x/\x<W'.heap.size)
 (U:AE 0 g.tp (g.E+6) (Ou g C) W' B ps)(V:∀x,B.ownBlock=some x->pl.ownBlock=some x\/W.heap.size<=x/\F' x)(X:ArS.Ok ⟨ps,A.fr⟩)
 (hK:∀m,Il g F' C m c ⟨ps,A.fr⟩ B fr->Mod (fun x=>x=c) W' m->K m):Av (.pointer (some ⟨c,0,none⟩)) B K W':=by
 have O:¬Q c:=fun e=>(h.pF c (I c e)).2 rfl;have a1:∀x,C x->¬Q x:=fun x i e=>h.Iw x (h.pF x (I x e)).1 i;have a6:=h.lt c (.inl h.fc);have Y:∀x,x<W'.heap.size->C x->¬x=c:=fun x _ i e=>h.Iw c h.fc (e▸i);refine Fg (vs:=[pl,fr]) (fun j v hv=>hm.cell (h.cells j v hv) O) (fun j hj=>(h.live j hj).mod hm O) (q:=0) (show 0<2 by decide) U.one.1 U.one.2 fun m o hc hl=>?_;have Z:=AE.Ax h.KE;refine hK m ⟨hc,hl,AE.mod U o (fun x i e=>?_) (fun r x _ i=>i.mod o Y),AE.mod (AE.mod (R':=MR) h.KE hm (fun x i e=>(h.fF x i).2.2 (I x e)) fun _ _ _ h=>h) o (fun x i=>(h.fF x i).2.1) fun _ _ _ h=>h,X,T c h.fc,fun x i=>?_,fun x i=>⟨T x (h.fF x i).1,(h.fF x i).2.1,fun e=>?_⟩,fun x i hC=>?_,fun x i=>?_⟩ o
 .subst e;rcases V x i with e|e
  .exact(h.pF x e).2 rfl
  .omega
 .rcases V x i with e|e
  .exact⟨T x (h.pF x e).1,(h.pF x e).2⟩
  .exact⟨e.2,by omega⟩
 .rcases V x e with e|e
  .exact(h.fF x i).2.2 e
  .have:=(Z x i).2;omega
 .rcases J x i with e|e
  .exact h.Iw x e hC
  .have:=h.lt x (.inr hC);omega
 .have z1:=hm.size;have z2:=o.size;rcases i with i|i
  .rcases J x i with e|e
   .have:=h.lt x (.inl e);omega
   .omega
  .have:=h.lt x (.inr i);omega
def Il.iP{F F' C Mf:Nat->Prop}{A:ArS α}{pl fr I:Value}{fl:List Nat}{K:World->Prop}(h:Il g F C W c A pl fr)(hm:Mod Mf W W')(J:∀x,Mf x->fr.ownBlock=some x)(T:∀x,F x->F' x)(O:∀x,F' x->F x\/W.heap.size<=x/\x<W'.heap.size)
 (U:AE 0 3 1 MR W' I (fl.map fun i:Nat=>(i:Int)))(hn:∀x,I.ownBlock=some x->fr.ownBlock=some x\/W.heap.size<=x/\F' x)(V:ArS.Ok ⟨A.ps,fl⟩)
 (hK:∀o,Il g F' C o c ⟨A.ps,fl⟩ pl I->Mod (fun x=>x=c) W' o->K o):Av (.pointer (some ⟨c,1,none⟩)) I K W':=by
 have Q:¬Mf c:=fun e=>(h.fF c (J c e)).2.1 rfl;have X:∀x,C x->¬Mf x:=fun x m e=>h.Iw x (h.fF x (J x e)).1 m;have a1:=h.lt c (.inl h.fc);have Y:∀x,x<W'.heap.size->C x->¬x=c:=fun x _ m e=>h.Iw c h.fc (e▸m);refine Fg (vs:=[pl,fr]) (fun j v hv=>hm.cell (h.cells j v hv) Q) (fun j hj=>(h.live j hj).mod hm Q) (q:=1) (show 1<2 by decide) U.one.1 U.one.2 fun o B hc hl=>?_;have Z:=AE.Ax h.GH;refine hK o ⟨hc,hl,AE.mod (AE.mod (R':=Ou g C) h.GH hm (fun x m e=>(h.fF x (J x e)).2.2 m) fun r x _ m=>m.mod hm fun y _ hy=>X y hy) B (fun x m=>(h.pF x m).2) (fun r x _ m=>m.mod B Y),AE.mod U B (fun x m e=>?_) fun _ _ _ h=>h,V,T c h.fc,fun x m=>⟨T x (h.pF x m).1,(h.pF x m).2⟩,fun x m=>?_,fun x m hC=>?_,fun x m=>?_⟩ B
 .subst e;rcases hn x m with e|e
  .exact(h.fF x e).2.1 rfl
  .omega
 .rcases hn x m with e|e
  .exact⟨T x (h.fF x e).1,(h.fF x e).2⟩
  .exact⟨e.2,by omega,fun e2=>by have:=(Z x e2).2;omega⟩
 .rcases O x m with e|e
  .exact h.Iw x e hC
  .have:=h.lt x (.inr hC);omega
 .have z1:=hm.size;have z2:=B.size;rcases m with m|m
  .rcases O x m with e|e
   .have:=h.lt x (.inl e);omega
   .omega
  .have:=h.lt x (.inr m);omega
def MM(g:AvT α)(F C:Nat->Prop)(W w':World)(c:Nat)(A:ArS α):Prop:=∃F' pl fr,(∀x,F x->F' x)/\(∀x,F' x->F x\/W.heap.size<=x)/\Il g F' C w' c A pl fr/\Mod F W w'
def XH{c i:Nat}{A:ArS α}{pl fr:Value}{n:Nd α}(h:Il g F C W c A pl fr)(hi:A.f i=some n)(hs:A.ps.length<=109951162777) :
  AB prog g.aFree [.pointer (some ⟨c,0,none⟩),zI i] (fun v' w'=>MM g F C W w' c (A.free i)) W:=by
 apply g.ok.free;unfold Vl;refine AA (MJ h hi) ?_;rintro _ _ ⟨rfl,rfl⟩;rename World=>W
 refine Nh ?_;obtain⟨O,hp⟩:=ArS.Iu hi;obtain⟨pa,pc,o,_⟩:=h.GH.sl.shape;have m:=h.GH;rw[o] at m;obtain⟨q,_,rfl,hq,_,_,_⟩:=m.sl.get O;have T:pl.ownBlock=some q.block:=by rw[o];exact hq.2
 have hF:=h.pF _ T;refine AI ?_;refine Bh (h.cells 0 _ rfl) ?_;refine⟨g.toAvK.zP.toArray,FQ,?_⟩;have U:g.toAvK.zP.length=g.E+6:=by rw[AvK.zP,Bp,g.zlen];rfl
 have V:g.toAvK.zP=(g.zE++[zI 0,zI 0,zI 0,zI 0,zI 0])++[.bool false]:=by rw[AvK.zP];simp
 have X:∀u∈g.zE++[zI 0,zI 0,zI 0,zI 0,zI 0],u.oneCell'=true:=fun u hu=>by
  rcases C3.1 hu with hu|hu
  .exact g.zone u hu
  .simp at hu;subst hu;rfl
 have a6:∀u∈g.toAvK.zP,u.oneCell'=true:=fun u hu=>by
  rw[V] at hu;rcases C3.1 hu with hu|hu
  .exact X u hu
  .simp at hu;subst hu;rfl
 rw[o];refine AT O ?_;have a7:∀y,C y->¬y=q.block:=fun y hy e=>h.Iw _ hF.1 (e▸hy);have key:=AE.OI (R':=Ou g C) (x':=(none:Option (Nd α))) (p:=0) (vs:=g.toAvK.zP) (K:=fun w3=>AK (.pointer (some ⟨c,0,none⟩)) fun a8=>AM 1 a8 fun t22=>AJ t22 (fun ak w4=>Ba 3 1 1 [(zI 0)] [(0,zI (i:Int))] (fun t25 w5=>runK prog (Builtin.append_ #[145,145] 145 [ak,t25].toArray) (fun al w6=>AK (.pointer (some ⟨c,0,none⟩)) fun an=>AM 1 an fun av=>Av av al (fun w7=>(fun(v':Value) w'=>MM g F C W w' c (A.free i)) (zI 0) w7) w6) w5) w4) w3) m O U (by omega) a6 (fun w' r y hm _ hy=>hy.mod hm fun z _ hz=>a7 z hz) (fun w' r' hm b2 ax b6=>?_) fun w2 ho hm=>?_
 .rw[lD] at key;exact key
 .rw[LU (by rw[U,ax])];exact⟨_,V,by rw[Bp,g.zlen];rfl,X⟩
 have b7:i∉A.fr:=fun e=>by have:=h.ok.1 i e;rw[this] at hp;cases hp
 have J:=ArS.bC hi h.ok;have b8:A.fr.length<=A.ps.length:=by
  have:A.fr ⊆ List.range A.ps.length:=fun x B=>mZ.2 (Ad.1 (h.ok.1 x B)).1;have:=Ii h.ok.2 this;simpa using this
 have Y:ArS.Ok ⟨A.ps.set i none,A.fr⟩:=⟨fun j hj=>J.1 j (jS _ hj),h.ok.2⟩;have h2:=h.JG T hm (by rw[o];exact ho) Y;refine AI ?_;refine Bh (h2.cells 1 _ rfl) ?_;refine Da PU h2.KE (Nn _) (cs:=[zI i]) (x:=(i:Int)) (by kernel_rfl) rfl rfl (fun _ _ _=>MR.one) (fun _ _ _ _ _ _ h=>h) (by rw[Iq];dsimp only;omega) (by rw[Iq];simp only[maxLen];omega) fun b9 w7 I Z ay=>?_;refine AI ?_;rw[AG,AH];have Q:(A.fr.map fun i:Nat=>(i:Int))++[(i:Int)]=(A.fr++[i]).map fun i:Nat=>(i:Int):=by simp
 dsimp only at I;rw [Q] at I;have a1:=AE.Ax I;have z2:=hm.size;refine Il.iP (F':=fun x=>F x\/w2.heap.size<=x/\x < w7.heap.size) h2 Z (fun _ h=>h) (fun _ h=>.inl h) (fun _ h=>h) I (fun x B=>by
  rcases ay x B with e|e
  .exact .inl e
  .exact .inr ⟨e,.inr ⟨e,(a1 x B).2⟩⟩) J fun w8 b0 b1=>⟨_,_,_,fun _ h=>.inl h,fun x B=>?_,b0,?_⟩
 .rcases B with B|B
  .exact .inl B
  .exact .inr (by omega)
 .exact((hm.mono fun x _ e=>by rw[e];exact hF.1).trans (Z.mono fun x _ e=>(h2.fF x e).1)).trans (b1.mono fun x _ e=>by rw[e];exact h.fc)
def YQ(hC:∀x,C x->x<W.heap.size) :
  AB prog g.aNew [] (fun v' w'=>v'=.pointer (some ⟨W.heap.size,0,none⟩)/\w'.heap.size=W.heap.size+1/\Grow W w'/\Il g (fun x=>x=W.heap.size) C w' W.heap.size (ArS.z:ArS α) (.slice none 0 0) (.slice none 0 0)) W:=by
 apply g.ok.anew;unfold cw;refine⟨[.slice none 0 0,.slice none 0 0].toArray,FQ,?_⟩;refine DZ fun b I hb m o hc hl=>?_;subst hb;refine⟨rfl,m,o,⟨fun j v q=>by have:=hc j v q;rwa [AH] at this,fun j B=>by have:=hl j B;rwa [AH] at this,AE.nil,AE.nil,ArS.jc,rfl,(fun _ h=>nomatch h),(fun _ h=>nomatch h),fun x i h=>?_,fun x i=>?_⟩⟩
 .have:=hC x h;omega
 .rcases i with i|i
  .omega
  .have:=hC x i;omega
def Xr{A:ArS α}{pl fr:Value}{n:Nd α}{r:List Value}(h:Il g F C W c A pl fr)(hr:g.R C W r n.x)(hs:A.ps.length<=109951162777) :
  AB prog g.aTake [.pointer (some ⟨c,0,none⟩),.agg (r++BV n).toArray] (fun v' w'=>v'=zI A.num/\MM g F C W w' c (A.take n)) W:=by
 apply g.ok.take;unfold VO;have bc:=g.rlen hr;have m:(r++BV n).length=g.E+5:=by rw[Bp,bc];rfl
 have ax:∀u∈r++BV n,u.oneCell'=true:=fun u hu=>by
  rcases C3.1 hu with hu|hu
  .exact g.rone hr u hu
  .exact G3 n u hu
 have bd:g.toAvK.zP.length=g.E+6:=by rw[AvK.zP,Bp,g.zlen];rfl
 have O:Instr.fill (fun i=>[(0,g.E+5),(g.E+5,1)][i]?) g.toAvK.zP.toArray [(0,.agg (r++BV n).toArray),(1,.bool true)]=some (r++(BV n++[Value.bool true])).toArray:=by
  have bk:g.toAvK.zP=(g.zE++[zI 0,zI 0,zI 0,zI 0,zI 0])++[Value.bool false]:=by rw[AvK.zP];simp
  have bl:(g.zE++[zI 0,zI 0,zI 0,zI 0,zI 0]).length=g.E+5:=by rw[Bp,g.zlen];rfl
  rw[DB (l:=g.toAvK.zP) (vs:=r++BV n) (off:=0) (len:=g.E+5) rfl rfl m (by omega),bk,Hp (by rw[m,bl])];rw[DB (l:=r++BV n++[Value.bool false]) (off:=g.E+5) (len:=1) (vs:=[Value.bool true]) rfl rfl rfl (by rw[Bp,m];exact Mp _)];have:=aH (q:=r++BV n) (r:=[Value.bool false]) (t:=[]) (vs:=[Value.bool true]) m rfl;rw[kK,kK] at this;rw[this,FQ,Of]
 have B:(r++(BV n++[Value.bool true])).length=g.E+6:=by rw[<-Of,Bp,m];rfl
 have a7:∀u∈r++(BV n++[Value.bool true]),u.oneCell'=true:=fun u hu=>by
  rw[<-Of] at hu;rcases C3.1 hu with hu|hu
  .exact ax u hu
  .simp at hu;subst hu;rfl
 refine DZ fun b3 w1 cd ch g3 ay _=>?_;have h1:=h.grow g3;have b0:=g.BZ hr g3 fun _ _ _ h=>h;obtain⟨_,cc,I⟩:=ArS.Rf n h.ok;have cn:A.fr.length<=A.ps.length:=by
  have:A.fr ⊆ List.range A.ps.length:=fun x J=>mZ.2 (Ad.1 (h.ok.1 x J)).1;have:=Ii h.ok.2 this;simpa using this
 refine DS (AS ?_);refine AI ?_;refine Bh (h1.cells 1 _ rfl) ?_;obtain⟨fa,fc,Q,a8,_,bn,bp⟩:=h1.KE.shape;rw[Iq] at a8;rw[Q,AP,Aq,Iq,wrap64 (by omega) (by omega),DW];have nF:∀j x,F x->¬((⟨b3,0,none⟩:Addr).add j).block=x:=fun j x J e=>by
  rw[BJ] at e;have:=h.lt x (.inl J);simp only at e;omega
 refine AF (fun cv=>?_) fun cx=>?_
 .have b1:0<A.fr.length:=by omega
  have ak:A.fr≠[]:=lh.1 b1;obtain⟨i,hl⟩:∃i,A.fr.getLast?=some i:=⟨_,mT ak⟩;have T:A.num=i:=by unfold ArS.num;rw[hl]
  have o:A.take n=⟨A.ps.set i (some n),A.fr.dropLast⟩:=by unfold ArS.take;rw[hl]
  cases fa with
  |none=>have:=bp rfl;rw[oD] at this;exact absurd this ak
  |some q=>
   obtain⟨gb,rfl,_,_,da⟩:=bn q rfl;have b2:=h1.KE.sl;have a1:=h1.KE;rw[Q,Iq] at b2 a1;refine AI ?_;refine Bh (h1.cells 1 _ rfl) ?_;rw[Q,Iq];have hj:A.fr.length-1<(A.fr.map fun i:Nat=>(i:Int)).length:=by rw[Iq];omega
   obtain⟨_,r',e1,_,al,hc,rfl⟩:=b2.get hj;cases e1;have ev:(A.fr.map fun i:Nat=>(i:Int))[A.fr.length-1]=(i:Int):=by
    rw[mS];rw[mT ak,qh] at hl;rw[kW hl]
   rw[ev] at hc;have en:((A.fr.length:Int)-1)=((A.fr.length-1:Nat):Int):=by omega
   rw[en];refine AT (show A.fr.length-1<A.fr.length by omega) (AL (hc 0 _ rfl) ?_);refine AI ?_;refine Bh (h1.cells 1 _ rfl) ?_;rw[Q,Iq];refine Ae (Fa (e:=3) (k:=1) (i:=Tryz.t3) (by kernel_rfl) (by kernel_rfl) (by kernel_rfl) (by omega) w1) ?_;refine AI ?_;rw[AG,AH];have ht:=AE.take a1 (j:=A.fr.length-1) (by rw[Iq];omega);have ed:(A.fr.map fun i:Nat=>(i:Int)).take (A.fr.length-1)=A.fr.dropLast.map fun i:Nat=>(i:Int):=by rw[od,lu]
   rw[ed] at ht;have bs:ArS.Ok ⟨A.ps,A.fr.dropLast⟩:=⟨fun j hj=>h.ok.1 j ((pV _).mem hj),h.ok.2.sublist (pV _)⟩;refine Il.iP (F':=F) (fl:=A.fr.dropLast) (Mf:=fun _=>False) h1 (Mod.refl _ _) (fun _ h=>h.elim) (fun _ h=>h) (fun _ h=>.inl h) ht (fun x J=>.inl ?_) bs fun w2 bx an=>?_
   .rw[Q];exact J
   have c4:A.ps[i]?=some none:=h.ok.1 i (mj hl);have U:=(Ad.1 c4).1;have X:Grow w2 w2.drew:=Mod.drew _ _;have Y:=bx.grow X;obtain⟨pa,pc,Z,_⟩:=Y.GH.sl.shape;have V:=Y.GH;rw[Z] at V;obtain⟨q,_,rfl,hq,_,_,_⟩:=V.sl.get U;have a6:pl.ownBlock=some q.block:=by rw[Z];exact hq.2
   have hF:=h.pF _ a6;refine Af (fun k y=>k=8/\y=q.block) ?_;refine AI ?_;rw[AG,AH];refine AU ⟨Y.cells 0 _ rfl,fun j hj e=>hF.2 e.2.symm⟩ ?_;refine Ch m (fun j v hv=>⟨X.cell (an.cell (ay j v hv) fun e=>nF j c h.fc e) fun h=>h,fun k _ e=>nF j _ hF.1 e.2⟩) ?_;refine⟨_,O,?_⟩;rw[Z];refine AT U ?_;have b6:∀y,C y->¬y=q.block:=fun y hy e=>h.Iw _ hF.1 (e▸hy);have av:=g.BZ (g.BZ b0 an fun y _ hy e=>h.Iw c h.fc (e▸hy)) X fun _ _ _ h=>h;have key:=AE.OI (R':=Ou g C) (x':=some n) (p:=0) (vs:=r++(BV n++[Value.bool true])) (K:=fun w8=>Mod (fun y=>8=8/\y=q.block) w2.drew w8/\(zI (i:Int)=zI A.num/\MM g F C W w8 c (A.take n))) V U B (by omega) a7 (fun w' r y hm _ hy=>hy.mod hm fun z _ hz=>b6 z hz) (fun w' r' hm al c6 dk=>?_) fun w3 ho hm=>?_
   .rw[lD] at key;exact key
   .rw[LU (by rw[B,c6])];exact⟨r,rfl,g.BZ av hm fun z _ hz=>b6 z hz⟩
   .rw[T,o];rw[o] at I;have c7:=Y.JG a6 hm (by rw[Z];exact ho) I;refine⟨hm.mono fun x _ e=>⟨rfl,e⟩,rfl,F,pl,_,fun _ h=>h,fun _ h=>.inl h,c7,?_⟩;exact(((g3.mono fun _ _ h=>h.elim).trans (an.mono fun x _ e=>by rw[e];exact h.fc)).trans (X.mono fun _ _ h=>h.elim)).trans (hm.mono fun x _ e=>by rw[e];exact hF.1)
 .have b7:A.fr=[]:=QC (by omega);have T:A.num=A.ps.length:=by unfold ArS.num;rw[b7];rfl
  have o:A.take n=⟨A.ps++[some n],A.fr⟩:=by unfold ArS.take;rw[b7];rfl
  rw[o] at I;have X:Grow w1 w1.drew:=Mod.drew _ _;have Y:=h1.grow X;have av:=g.BZ b0 X fun _ _ _ h=>h;refine Af (fun k y=>(k=8/\pl.ownBlock=some y)\/(k=11/\y=c)) ?_;have nM:∀k x,F x->x≠c->pl.ownBlock≠some x->¬((k=8/\pl.ownBlock=some x)\/(k=11/\x=c)):=fun k x _ h1 h2 e=>by
   rcases e with⟨_,e⟩|⟨_,e⟩
   .exact h2 e
   .exact h1 e
  have c8:∀j k,¬((k=8/\pl.ownBlock=some ((⟨b3,0,none⟩:Addr).add j).block)\/(k=11/\((⟨b3,0,none⟩:Addr).add j).block=c)):=fun j k e=>by
   rcases e with⟨_,e⟩|⟨_,e⟩
   .exact nF j _ (h.pF _ e).1 rfl
   .exact nF j _ h.fc e
  refine AI ?_;rw[AG,AH];refine AU ⟨Y.cells 0 _ rfl,fun j hj e=>?_⟩ ?_
  .rcases e with⟨_,e⟩|⟨rfl,_⟩
   .exact(h.pF _ e).2 rfl
   .exact absurd hj (by decide)
  refine Ch m (fun j v hv=>⟨X.cell (ay j v hv) fun h=>h,fun k _ e=>c8 j k e⟩) ?_;refine⟨_,O,?_⟩;have b8:=DC (v:=.agg (r++(BV n++[Value.bool true])).toArray) (vs:=r++(BV n++[Value.bool true])) bd (by omega) rfl B;have c9:=g.pb_le;refine LO g.elP Y.GH (Nn _) (cs:=r++(BV n++[Value.bool true])) (x:=some n) b8 B ⟨r,rfl,av⟩ (fun _ _ _=>Ou.one) (fun dT e3 r' y e4 hm al=>al.mod hm fun x J hC e=>?_) ?_ (by simp only[maxLen];omega) (fun _ g=>Grow.mod g) fun w2 ca w3 ho m2 hm hn=>?_
  .rcases e with e|e
   .exact h.Iw x (h.pF x e).1 hC
   .have:=Y.lt x (.inr hC);omega
  .have:(A.ps.length+1)*g.pb<=(A.ps.length+1)*512:=oE _ c9;omega
  refine ⟨m2.mono fun x _ e=>.inl ⟨rfl,e⟩,?_⟩;refine AI ?_;rw [AG,AH];have b9:=AE.Ax ho;refine Il.jd (F':=fun x=>F x\/w1.drew.heap.size<=x/\x < w3.heap.size) Y hm (fun _ h=>h) (fun _ h=>.inl h) (fun _ h=>h) ho (fun x J=>by
   rcases hn x J with e|e
   .exact .inl e
   .exact .inr ⟨e,.inr ⟨e,(b9 x J).2⟩⟩) I fun w4 ba bb=>?_
  refine⟨bb.mono fun x _ e=>.inr ⟨rfl,e⟩,?_⟩;refine AI ?_;refine Bh (ba.cells 0 _ rfl) ?_;obtain⟨a2,c2,e2,_⟩:=ho.sl.shape;rw[e2,AP,Aq,Bp,ni,wrap64 (by omega) (by omega)];have zd:w1.heap.size<=w1.drew.heap.size:=X.size;refine⟨by rw[T];congr 1;omega,fun x=>F x\/w1.drew.heap.size<=x/\x<w3.heap.size,ca,fr,fun _ h=>.inl h,fun x J=>?_,by rw[o];exact ba,?_⟩
  .rcases J with J|J
   .exact .inl J
   .exact .inr (by omega)
  .exact(((g3.mono fun _ _ h=>h.elim).trans (X.mono fun _ _ h=>h.elim)).trans (hm.mono fun x _ e=>(h.pF x e).1)).trans (bb.mono fun x _ e=>by rw[e];exact h.fc)
end
structure Bx (W:World) (b:Nat) (vs:List Value):Prop where
 cells:∀j v,vs[j]?=some v->W.cell? ⟨b,j,none⟩=some v
 live:∀j,j<vs.length->Live W ⟨b,j,none⟩
def Bx.mod{b:Nat}(h:Bx W b vs)(hm:Mod M W W')(i:¬M b):Bx W' b vs:=
 ⟨fun j v m=>hm.cell (h.cells j v m) i,fun j o=>(h.live j o).mod hm i⟩
def Bx.grow{b:Nat}(h:Bx W b vs)(hm:Grow W W'):Bx W' b vs:=h.mod hm fun h=>h
def Bx.E0{b n:Nat}(h:Bx W b vs)(i:vs.length=n)(m:K (.agg vs.toArray) W):Aa n (.pointer (some ⟨b,0,none⟩)) K W:=
 Ah i (fun j u hu=>by rw[AH];exact h.cells j u hu) m
def Bx.st{b q:Nat}{u:Value}{K:World->Prop}(h:Bx W b vs)(i:q<vs.length)(h1:u.oneCell'=true)(j:u.cells=#[u])(m:∀W',Bx W' b (vs.set q u)->Mod (fun x=>x=b) W W'->K W'):Av (.pointer (some ⟨b,q,none⟩)) u K W:=
 Fg h.cells h.live i h1 j fun W' hm hc hl=>m W' ⟨hc,hl⟩ hm
def Bx.over{b n:Nat}{vs us:List Value}{K:World->Prop}(h:Bx W b vs)(m:us.length=n)(hl:vs.length=n)(h1:∀v∈us,v.oneCell'=true)(o:∀W',Bx W' b us->Mod (fun x=>x=b) W W'->K W'):Ab n (.pointer (some ⟨b,0,none⟩)) (.agg us.toArray) K W:=
 Ca m h1 (fun j q=>by rw[AH];exact h.live j (by omega)) fun W' hm hc i=>o W' ⟨fun j v B=>by have:=hc j v B;rwa [AH] at this,fun j q=>i _ (h.live j (by omega))⟩ hm
def Bx.new{t:TypeId}{n:Nat}{o vs:List Value}{K:Value->World->Prop}(q:vs.length=n)(hl:o.length=n)(h1:∀v∈vs,v.oneCell'=true)(h:∀b i,w.heap.size<=b->Grow w i->Bx i b vs->K (.pointer (some ⟨b,0,none⟩)) i) :
  Al t o (fun t5 B=>Ab n t5 (.agg vs.toArray) (fun w4=>K t5 w4) B) w:=
 BQ q hl h1 fun b i hb _ I hc m=>h b i (by omega) I ⟨fun j v J=>by have:=hc j v J;rwa [AH] at this,fun j O=>by have:=m j O;rwa [AH] at this⟩
def Bx.zero{t:TypeId}{o:List Value}(h:∀b i,w.heap.size<=b->Grow w i->Bx i b o->K (.pointer (some ⟨b,0,none⟩)) i):Al t o K w:=
 EU fun b i hb _ q hc m=>h b i (by omega) q ⟨fun j v B=>by have:=hc j v B;rwa [AH] at this,fun j I=>by have:=m j I;rwa [AH] at this⟩
def Bx.box{t:TypeId}(h:∀b i,w.heap.size<=b->Grow w i->Bx i b vs->K (.pointer (some ⟨b,0,none⟩)) i):BP t (.agg vs.toArray) K w:=
 DZ fun b i hb _ o hc m=>h b i (by omega) o ⟨fun j v q=>by have:=hc j v q;rwa [AH] at this,fun j B=>by have:=m j B;rwa [AH] at this⟩
def Aw{ok:Nat->Bool}{f:Value}{K i:Cont}(h:BK P ok f args K w)(hk:∀v w',K v w'->i v w'):BK P ok f args i w:=by
 obtain⟨a,b,c,j,m,h⟩:=h;exact⟨a,b,c,j,m,AA h hk⟩
def Bx.lt{b:Nat}(h:Bx W b vs)(i:0<vs.length):b<W.heap.size:=lF W _ (h.cells 0 vs[0] (by simp[i]))
section
variable {α:Type}{g:AvT α}
def AZ{r:List Value}{n:Nd α}(hr:r.length=E)(j:Nat):(r++BV n)[E+j]?=(BV n)[j]?:=by
 rw[kO (by omega),hr,nT]
def Cl{r:List Value}{n:Nd α}(hr:r.length=E)(j:Nat)(u:Value):(r++BV n).set (E+j) u=r++(BV n).set j u:=by
 rw[lY _ _ (by omega),hr,nT]
def BI{r:List Value}{x:α}(n:Nd α)(hr:g.R C w r x):(r++BV n).length=g.E+5:=by rw[Bp,g.rlen hr];rfl
def HX{r:List Value}{x:α}(n:Nd α)(hr:g.R C w r x):∀u∈r++BV n,u.oneCell'=true:=fun u hu=>by
 rcases C3.1 hu with hu|hu
 .exact g.rone hr u hu
 .exact G3 n u hu
def H9:g.toAvK.zN.length=g.E+5:=by rw[AvK.zN,Bp,g.zlen];rfl
abbrev cC(g:AvT α)(c:Nat)(i:Int):List Value:=[g.vm,g.vc,g.vd,.pointer (some ⟨c,0,none⟩),zI i]
structure cK (g:AvT α) (F C:Nat->Prop) (W:World) (b c:Nat) (rt:Int) (A:ArS α) (pl fr:Value):Prop where
 box:Bx W b (cC g c rt)
 ar:Il g (fun x=>F x/\x≠b) C W c A pl fr
 fb:F b/\¬C b
abbrev Fb(F:Nat->Prop)(b:Nat):Nat->Prop:=fun y=>F y/\y≠b
def Dj(g:AvT α)(F C:Nat->Prop)(W:World)(b:Nat)(i:Int)(A:ArS α):Prop:=∃c pl fr,cK g F C W b c i A pl fr
def cK.mod{b c:Nat}{i:Int}{A:ArS α}{pl fr:Value}(h:cK g F C W b c i A pl fr)(hm:Mod M W W')(j:∀x,F x\/C x->¬M x):cK g F C W' b c i A pl fr:=
 ⟨h.box.mod hm (j b (.inl h.fb.1)),h.ar.mod hm fun x m=>j x (m.imp (fun h=>h.1) fun h=>h),h.fb⟩
def Dj.mod{b:Nat}{i:Int}{A:ArS α}(h:Dj g F C W b i A)(hm:Mod M W W')(j:∀x,F x\/C x->¬M x):Dj g F C W' b i A:=by
 obtain⟨c,pl,fr,h⟩:=h;exact⟨c,pl,fr,h.mod hm j⟩
def Dj.grow{b:Nat}{i:Int}{A:ArS α}(h:Dj g F C W b i A)(hm:Grow W W'):Dj g F C W' b i A:=h.mod hm fun _ _ h=>h
def Dj.lt{b:Nat}{i:Int}{A:ArS α}(h:Dj g F C W b i A):∀x,F x\/C x->x<W.heap.size:=by
 obtain⟨c,pl,fr,h⟩:=h;intro x j;by_cases e:x=b
 .subst e;exact h.box.lt (S3 _)
 .exact h.ar.lt x (j.imp (fun h=>⟨h,e⟩) fun h=>h)
def Dj.Iw{b:Nat}{i:Int}{A:ArS α}(h:Dj g F C W b i A):∀x,F x->¬C x:=by
 obtain⟨c,pl,fr,h⟩:=h;intro x j;by_cases e:x=b
 .subst e;exact h.fb.2
 .exact h.ar.Iw x ⟨j,e⟩
def Dj.fb{b:Nat}{i:Int}{A:ArS α}(h:Dj g F C W b i A):F b:=by obtain⟨c,pl,fr,h⟩:=h;exact h.fb.1
def Dj.ok{b:Nat}{i:Int}{A:ArS α}(h:Dj g F C W b i A):A.Ok:=by obtain⟨c,pl,fr,h⟩:=h;exact h.ar.ok
def RO{b i:Nat}{A:ArS α}{n:Nd α}(h:Dj g F C W b most A)(hi:A.f i=some n) :
  AB prog g.fat [.pointer (some ⟨b,0,none⟩),zI i] (fun v' w'=>∃r,v'=.agg (r++BV n).toArray/\g.R C w' r n.x/\Grow W w') W:=by
 apply g.ok.at_;unfold jh;refine Bx.zero fun b4 w1 X I Y=>?_;obtain⟨c,pl,fr,J⟩:=h;have j:=J.mod I fun _ _ h=>h;refine AI ?_;refine Bh (j.box.cells 3 _ rfl) ?_;refine AA (gx j.ar hi) ?_;rintro _ w2 ⟨r,rfl,hr,O⟩;refine BO ?_;have hl:=BI n hr;have Q:=HX n hr;refine Bx.new hl H9 Q fun b5 w3 Z o B5=>?_;refine B5.E0 hl ?_;have q:=(Y.grow O).grow o;refine q.over hl (H9) Q fun w4 m T=>?_;refine m.E0 hl ?_;have B:Grow W w4:=((I.trans O).trans o).next T fun y U e=>by omega
 exact⟨r,rfl,g.BZ (g.BZ hr o fun _ _ _ h=>h) T fun y _ U e=>by have:=J.ar.lt y (.inr U);omega,B⟩
def Dq{b i:Nat}{A:ArS α}{n:Nd α}{K:Value->World->Prop}(h:Dj g F C W b most A)(hi:A.f i=some n)
 (J:∀r j w',Grow W w'->W.heap.size<=j->Bx w' j (r++BV n)->g.R C w' r n.x->K (.pointer (some ⟨j,0,none⟩)) w') :
  AB prog g.fat [.pointer (some ⟨b,0,none⟩),zI i] (fun m O=>Al g.tn g.toAvK.zN (fun o w2=>Ab (g.E+5) o m (fun Q=>K o Q) w2) O) W:=by
 refine AA (RO h hi) ?_;rintro _ w4 ⟨r,rfl,hr,q⟩;refine Bx.new (BI n hr) H9 (HX n hr) fun T U V B X=>?_;exact J r T U (q.trans B) (by have:=q.size;omega) X (g.BZ hr B fun _ _ _ h=>h)
def Ew{f:Nat->Option (Nd α)}{μ:α->Nat×Nat}{t:Tr α}{A:ArS α}(m:A.f=f)(h:Tr.Holds μ f t)(hu:Tr.GG t):t.ht<=A.ps.length/\t.Df<=A.ps.length:=by
 have i:t.idx ⊆ List.range A.ps.length:=fun x o=>by
  obtain⟨n,j⟩:=h.has μ o;rw[<-m] at j;exact mZ.2 (ArS.Iu j).1
 have h1:=Ii hu i;have q:=(Tr.SK t).1;have B:=Tr.dE t;simp only[List.length_range] at h1;omega
def Dy(g:AvT α)(l:List α):Prop:=Tr.sz g.k.μ l<=1099511627776/\Tr.mk g.k.μ l<=1099511627776
def Dy.app{l m:List α}(h:Dy g (l++m)):Dy g l/\Dy g m:=by
 obtain⟨h1,i⟩:=h;rw[Tr.CT] at h1;rw[Tr.Fo] at i;exact⟨⟨by omega,by omega⟩,by omega,by omega⟩
def Dy.cons{x:α}{m:List α}(h:Dy g (x::m)):Dy g m/\(g.k.μ x).1+Tr.sz g.k.μ m<=1099511627776/\(g.k.μ x).2+Tr.mk g.k.μ m<=1099511627776:=by
 obtain⟨h1,i⟩:=h;rw[Tr.Bb] at h1;rw[Tr.Cy] at i;exact⟨⟨by omega,by omega⟩,h1,i⟩
def CE{b:Nat}{q:Int}{A:ArS α}{t:Tr α}(h:Dj g F C W b q A)(ht:Tr.Holds g.k.μ A.f t) :
  AB prog g.ftotals [.pointer (some ⟨b,0,none⟩),zI t.root] (fun v' w'=>v'=.tuple #[zI t.ht,zI (Tr.sz g.k.μ t.toL),zI (Tr.mk g.k.μ t.toL)]/\Grow W w') W:=by
 apply g.ok.totals;unfold SO;cases t with
 |nil=>
  simp only[Tr.root];rw[Aj];refine AF (fun _=>?_) fun e=>(e rfl).elim;exact⟨rfl,Mod.refl _ _⟩
 |node l i x r=>
  simp only[Tr.root];rw[Aj];refine AF (fun e=>by omega) fun _=>?_;obtain⟨_,_,hi⟩:=ht;refine Dq h hi fun T I o J O B hr=>?_;have m:=g.rlen hr;refine Cx (fun w'=>Grow o w') (Mod.drew _ _) ?_;have hc:∀j v w',Grow o w'->(BV (Tr.EB g.k.μ (.node l i x r) x l.root r.root))[j]?=some v->w'.cell? ⟨I,g.E+j,none⟩=some v:=fun j v w' g' Q=>g'.cell (B.cells (g.E+j) v (by rw[AZ m];exact Q)) fun h=>h;rw[AG,AH];refine Ay (fun w' g'=>hc 2 _ w' g' rfl) ?_;rw[AG,AH];refine Ay (fun w' g'=>hc 3 _ w' g' rfl) ?_;rw[AG,AH];refine Ay (fun w' g'=>hc 4 _ w' g' rfl) ?_;intro w' g';exact⟨rfl,J.trans g'⟩
def JK{m:Addr->Value->Prop}{b:Nat}{r:List Value}{k:Value->Prop}(hl:r.length=g.E)(o:∀j v,r[j]?=some v->m ⟨b,j,none⟩ v)(hk:k (g.toAvK.enc r)):OE g.toAvK m (.pointer (some ⟨b,0,none⟩)) k:=by
 unfold OE AvK.enc at *;cases i:g.one with
 |true=>
  have B:=g.E1 i;rw[i] at hk;simp only[lN] at hk ⊢;cases r with
  |nil=>simp at hl;omega
  |cons a r=>exact AU (o 0 a rfl) hk
 |false=>
  rw[i] at hk;simp only[lL] at hk ⊢;exact Ch hl (fun j v q=>by rw[AH];exact o j v q) hk
def dR{a b:Nat}{k:Value->Prop}(h:k (zI (max a b:Nat))):KM .i64 (zI a) (zI b) k:=by
 rw[Gj];have e:(if(b:Int)>(a:Int) then(b:Int) else(a:Int))=((max a b:Nat):Int):=by split<;>omega
 rw[e];exact h
def CJ{a b:Nat}{k:Value->Prop}(hb:a+b<=9223372036854775807)(h:k (zI (a+b:Nat))):AW .i64 (zI a) (zI b) k:=by
 rw[AQ,wrap64 (by omega) (by omega)];have e:((a:Int)+(b:Int))=((a+b:Nat):Int):=by omega
 rw[e];exact h
def GR{b i:Nat}{A:ArS α}{n m:Nd α}{l r:Tr α}{Q:List Value}(h:Dj g F C W b most A)(hs:A.ps.length<=109951162777)(hi:A.f i=some m)(hr:g.R C W Q n.x)(el:n.l=l.root)(er:n.r=r.root)
 (hl:Tr.Holds g.k.μ A.f l)(T:Tr.Holds g.k.μ A.f r)(ul:Tr.GG l)(ur:Tr.GG r)(hb:Dy g (l.toL++n.x::r.toL)) :
  AB prog g.fset [.pointer (some ⟨b,0,none⟩),zI i,.agg (Q++BV n).toArray] (fun _ w'=>Dj g F C w' b most (A.put i (Tr.EB g.k.μ (.node l i n.x r) n.x l.root r.root))/\Mod (Fb F b) W w') W:=by
 apply g.ok.set;unfold iQ;have o:=g.rlen hr;have av:=BI n hr;obtain⟨b0,Y⟩:=hb.app;obtain⟨ax,b1,b2⟩:=Y.cons;have b6:=(Ew rfl hl ul).1;have b7:=(Ew rfl T ur).1;have Z:=hb.1;have a1:=hb.2;rw[Tr.CT,Tr.Bb] at Z;rw[Tr.Fo,Tr.Cy] at a1;refine Bx.box fun b5 w1 a6 g1 B=>?_;have h1:=h.grow g1;refine Bh (B.cells (g.E+0) _ (by rw[AZ o];rfl)) ?_;rw[el];refine AA (CE h1 hl) ?_;rintro _ w3 ⟨rfl,g3⟩;refine Kj ?_;rw[AG,AH];have B3:=B.grow g3;refine AL (B3.cells (g.E+1) _ (by rw[AZ o];rfl)) ?_;rw[er];refine AA (CE (h1.grow g3) T) ?_;rintro _ w5 ⟨rfl,g5⟩;refine Kj ?_;have gd:Grow w5 w5.drew:=Mod.drew _ _;have J:=((g1.trans g3).trans g5).trans gd;obtain⟨c,pl,fr,hT⟩:=h;have a7:=hT.mod J fun _ _ h=>h;have B5:=(B3.grow g5).grow gd;refine Af (fun _ _=>False) ?_;refine AI ?_;rw[AG,AH,AG,AH];refine AU ⟨a7.box.cells 0 _ rfl,fun _ _ e=>e⟩ ?_;rw[AG,AH];refine JK (r:=Q) o (fun j v V=>⟨B5.cells j v (by rw[Q0 (Ad.1 V).1];exact V),fun _ _ e=>e⟩) ?_;refine Aw (g.meas (g.BZ hr J fun _ _ _ h=>h)) ?_;rintro _ w6 ⟨rfl,g6⟩;refine⟨g6.mono fun _ _ h=>h.elim,?_⟩;refine BO ?_;refine dR ?_;refine CJ (a:=1) (by omega) ?_;refine CJ (by omega) ?_;refine CJ (by omega) ?_;refine CJ (by omega) ?_;refine CJ (by omega) ?_;rw[AG,AH];have B6:=B5.grow g6;refine B6.st (by omega) rfl rfl fun w7 B7 m7=>?_;rw[Cl o] at B7;rw[AG,AH];refine B7.st (by rw[Bp,o,kJ];exact qC (show 3<5 by decide) _) rfl rfl fun w8 B8 m8=>?_;rw[AG,AH];refine B8.st (by rw[kJ,Bp,o,kJ];exact qC (show 4<5 by decide) _) rfl rfl fun X B9 m9=>?_;have eB:((Q++(BV n).set 2 (zI ((1+max l.ht r.ht:Nat):Int))).set (g.E+3) (zI ((Tr.sz g.k.μ l.toL+Tr.sz g.k.μ r.toL+(g.k.μ n.x).1:Nat):Int))).set (g.E+4) (zI ((Tr.mk g.k.μ l.toL+Tr.mk g.k.μ r.toL+(g.k.μ n.x).2:Nat):Int))=Q++BV (Tr.EB g.k.μ (.node l i n.x r) n.x l.root r.root):=by
  rw[lY _ _ (by omega),lY _ _ (by omega),o,nT,nT];simp only[BV,Tr.EB,Tr.ht,Tr.toL,qG,qL,el,er,Tr.CT,Tr.Bb,Tr.Fo,Tr.Cy];rw[show Tr.sz g.k.μ l.toL+Tr.sz g.k.μ r.toL+(g.k.μ n.x).1=Tr.sz g.k.μ l.toL+((g.k.μ n.x).1+Tr.sz g.k.μ r.toL) by omega,show Tr.mk g.k.μ l.toL+Tr.mk g.k.μ r.toL+(g.k.μ n.x).2=Tr.mk g.k.μ l.toL+((g.k.μ n.x).2+Tr.mk g.k.μ r.toL) by omega]
 rw[eB] at B9;have U:Grow X X.drew:=Mod.drew _ _;have ay:W.heap.size<=b5:=a6;have O:Grow W X.drew:=((((J.trans g6).next m7 fun y hy e=>by omega).next m8 fun y hy e=>by omega).next m9 fun y hy e=>by omega).trans U;have q:=hT.mod O fun _ _ h=>h;have a8:=B9.grow U;refine Af (fun _ y=>F y/\y≠b) ?_;refine AI ?_;rw[AG,AH];refine AU ⟨q.box.cells 3 _ rfl,fun _ _ e=>e.2 rfl⟩ ?_;have ak:¬F b5:=fun e=>by
  have:=Dj.lt (g:=g) ⟨c,pl,fr,hT⟩ b5 (.inl e);omega
 refine Ch (BI (Tr.EB g.k.μ (.node l i n.x r) n.x l.root r.root) hr) (fun j v V=>⟨by rw[AH];exact a8.cells j v V,fun _ _ e=>by rw[AH] at e;exact ak e.1⟩) ?_;refine AA (Sz q.ar hi (n:=Tr.EB g.k.μ (.node l i n.x r) n.x l.root r.root) (g.BZ hr O fun _ _ _ h=>h)) ?_;rintro _ al ⟨hA,an⟩;have I:Mod (fun y=>F y/\y≠b) X.drew al:=an.mono fun x _ e=>(q.ar.pF x e).1;refine⟨I,?_⟩;exact⟨⟨c,pl,fr,q.box.mod I fun e=>e.2 rfl,hA,q.fb⟩,(O.mono fun _ _ h=>h.elim).trans I⟩
def Ml{b i:Nat}{A:ArS α}{n:Nd α}{l r:Tr α}(h:Dj g F C W b most A)(Z:A.ps.length<=109951162777)(hi:A.f i=some n)(J:n.l=l.root)(O:n.r=r.root)(hl:Tr.Holds g.k.μ A.f l)(hr:Tr.Holds g.k.μ A.f r)(Q:Tr.GG l)(T:Tr.GG r) :
  AB prog g.flean [.pointer (some ⟨b,0,none⟩),zI i] (fun v' w'=>v'=zI ((l.ht:Int)-(r.ht:Int))/\Grow W w') W:=by
 apply g.ok.lean;unfold cg;have U:=(Ew rfl hl Q).1;have V:=(Ew rfl hr T).1;refine Dq h hi fun rc bx w1 m X B o=>?_;have j:=g.rlen o;refine Bh (B.cells (g.E+0) _ (by rw[AZ j];rfl)) ?_;rw[J];refine AA (CE (h.grow m) hl) ?_;rintro _ w3 ⟨rfl,q⟩;refine Kj ?_;refine Bh ((B.grow q).cells (g.E+1) _ (by rw[AZ j];rfl)) ?_;rw[O];refine AA (CE ((h.grow m).grow q) hr) ?_;rintro _ w5 ⟨rfl,Y⟩;refine Kj ?_;rw[Aq,wrap64 (by omega) (by omega)];exact⟨rfl,(m.trans q).trans Y⟩
end
section
variable {α:Type}{g:AvT α}
structure X0 (g:AvT α) (F C:Nat->Prop) (W w':World) (b:Nat) (rt:Int) (A:ArS α) (L:List α) (I:List Nat) (t':Tr α) (A':ArS α):Prop where
 EH:Dj g F C w' b rt A'
 mod:Mod (Fb F b) W w'
 toL:t'.toL=L
 idx:t'.idx.Perm I
 holds:Tr.Holds g.k.μ A'.f t'
 same:∀j,j∉I->A'.f j=A.f j
 len:A'.ps.length=A.ps.length
def Dh(A:ArS α)(i:Nat)(n:Nd α):(A.put i n).ps.length=A.ps.length:=by simp[ArS.put]
def Dy.perm{l m:List α}(h:Dy g l)(e:m=l):Dy g m:=e▸h
def Hw{A:ArS α}{i:Nat}{n m:Nd α}(hi:A.f i=some m)(h:j≠i):(A.put i n).f j=A.f j:=by rw[ArS.Jw hi,Tr.DY _ h]
def IS{A:ArS α}{i:Nat}{m:Nd α}{l r:Tr α}{x:α}{μ:α->Nat×Nat}(hi:A.f i=some m)(hl:Tr.Holds μ A.f l)(hr:Tr.Holds μ A.f r)(j:i∉l.idx)(o:i∉r.idx):Tr.Holds μ (A.put i (Tr.EB μ (.node l i x r) x l.root r.root)).f (.node l i x r):=by
 rw[ArS.Jw hi];exact Tr.Holds.top μ hl hr j o
def Q7{b i j:Nat}{A:ArS α}{x y:α}{a c r:Tr α}(h:Dj g F C W b most A)(hs:A.ps.length<=109951162777)(hh:Tr.Holds g.k.μ A.f (.node (.node a j y c) i x r))(hu:Tr.GG (.node (.node a j y c) i x r))(hb:Dy g (Tr.node (.node a j y c) i x r).toL) :
  AB prog g.flift [.pointer (some ⟨b,0,none⟩),zI i,.bool true] (fun v' w'=>v'=zI j/\∃A',X0 g F C W w' b most A (Tr.node (.node a j y c) i x r).toL (Tr.node (.node a j y c) i x r).idx (.node a j y (.node c i x r)) A') W:=by
 apply g.ok.lift;unfold Wz;obtain⟨⟨ha,hc,hj⟩,hr,hi⟩:=hh;obtain⟨u1,u2,u3,u4,u5⟩:=Tr.BC.1 hu;obtain⟨v1,v2,v3,v4,v5⟩:=Tr.BC.1 u1;have hL:(Tr.node (.node a j y c) i x r).toL=a.toL++y::(c.toL++x::r.toL):=by simp[Tr.toL]
 rw[hL] at hb;have a7:=hb.app.2.cons.1;have U:i≠j:=fun e=>u3 (by simp[Tr.idx,e]);have V:i∉c.idx:=fun e=>u3 (by simp[Tr.idx,e]);have a8:i∉a.idx:=fun e=>u3 (by simp[Tr.idx,e]);have ak:j∉r.idx:=u5 j (by simp[Tr.idx]);refine Dq h hi fun rc bx w1 g1 X B m=>?_;have J:=g.rlen m;refine Ak ?_;refine Bh (B.cells (g.E+0) _ (by rw[AZ J];rfl)) ?_;have h1:=h.grow g1;refine Dq h1 hj fun rd bd w2 g2 ay D O=>?_;have Q:=g.rlen O;have B2:=B.grow g2;refine Bh (D.cells (g.E+1) _ (by rw[AZ Q];rfl)) ?_;rw[AG,AH];have nF:∀{z:Nat},W.heap.size<=z->∀x,F x\/C x->x≠z:=fun hz x hx e=>by have:=h.lt x hx;omega
 have s1:=g1.size;refine B2.st (q:=g.E+0) (by rw[BI _ m];omega) rfl rfl fun w3 B3 m3=>?_;have b0:=B.lt (by rw[BI _ m];omega);have D3:=D.mod m3 fun e=>by omega
 rw[Cl J] at B3;refine B3.E0 (by rw[Bp,kJ,J];rfl) ?_;have g3:Grow W w3:=(g1.trans g2).next m3 fun y o e=>by omega
 have h3:=h.grow g3;have Y:=g.BZ (g.BZ m g2 fun _ _ _ h=>h) m3 fun y _ o e=>nF X y (.inr o) e;refine AA (GR (l:=c) (r:=r) (n:={ Tr.EB g.k.μ (.node (.node a j y c) i x r) x (Tr.node a j y c).root r.root with l:=c.root }) h3 hs hi Y rfl rfl hc hr v2 u2 a7) ?_;rintro _ w4 ⟨h4,m4⟩;have D4:=D3.mod m4 fun e=>nF (by omega) bd (.inl e.1) rfl;have I:(A.put i (Tr.EB g.k.μ (.node c i x r) x c.root r.root)).f=Tr.GK A.f i (some (Tr.EB g.k.μ (.node c i x r) x c.root r.root)):=ArS.Jw hi;rw[AG,AH];refine D4.st (q:=g.E+1) (by rw[BI _ O];omega) rfl rfl fun w5 D5 m5=>?_;rw[Cl Q] at D5;refine D5.E0 (by rw[Bp,kJ,Q];rfl) ?_;have h5:=h4.mod m5 fun x hx e=>nF (by omega) x hx e;have Z:=g.BZ (g.BZ (g.BZ O m3 fun y _ o e=>nF X y (.inr o) e) m4 fun y _ o e=>h.Iw y e.1 o) m5 fun y _ o e=>nF (by omega) y (.inr o) e;have T:(A.put i (Tr.EB g.k.μ (.node c i x r) x c.root r.root)).f j=some (Tr.EB g.k.μ (.node a j y c) y a.root c.root):=by rw[I,Tr.DY _ (nY U)];exact hj
 have a1:Tr.Holds g.k.μ (A.put i (Tr.EB g.k.μ (.node c i x r) x c.root r.root)).f (.node c i x r):=by rw[I];exact Tr.Holds.top g.k.μ hc hr V u4
 have a6:Tr.Holds g.k.μ (A.put i (Tr.EB g.k.μ (.node c i x r) x c.root r.root)).f a:=by rw[I];exact ha.out g.k.μ _ a8
 have al:Tr.GG (.node c i x r):=Tr.BC.2 ⟨v2,u2,V,u4,fun q hq=>u5 q (by simp[Tr.idx,hq])⟩;have an:(A.put i (Tr.EB g.k.μ (.node c i x r) x c.root r.root)).ps.length<=109951162777:=by rw[Dh];exact hs
 refine AA (GR (l:=a) (r:=.node c i x r) (n:={ Tr.EB g.k.μ (.node a j y c) y a.root c.root with r:=(i:Int) }) h5 an T Z rfl rfl a6 a1 v1 al hb) ?_;rintro _ w6 ⟨h6,m6⟩;have av:=ArS.Jw (n:=Tr.EB g.k.μ (.node a j y (.node c i x r)) y a.root (Tr.node c i x r).root) T;refine⟨rfl,_,h6,?_,by simp[Tr.toL],(Tr.UJ a c r i j x y).2,?_,fun q hq=>?_,by rw[Dh,Dh]⟩
 .exact(((g3.mono fun _ _ h=>h.elim).trans m4).next m5 fun y o e=>by omega).trans m6
 .refine IS (x:=y) T a6 a1 v3 fun e=>?_;simp only[Tr.idx,C3,K8] at e;rcases e with e|e|e
  .exact v4 e
  .exact U e.symm
  .exact ak e
 .simp only[Tr.idx,C3,K8,qo] at hq;have ax:Tr.GK (A.put i (Tr.EB g.k.μ (.node c i x r) x c.root r.root)).f j (some (Tr.EB g.k.μ (.node a j y (.node c i x r)) y a.root (Tr.node c i x r).root)) q=A.f q:=by rw[Tr.DY _ hq.1.2.1,I,Tr.DY _ hq.2.1]
  rw[<-ax];exact congrFun av q
def Rb{b i j:Nat}{A:ArS α}{x y:α}{a c l:Tr α}(h:Dj g F C W b most A)(hs:A.ps.length<=109951162777)(hh:Tr.Holds g.k.μ A.f (.node l i x (.node a j y c)))(hu:Tr.GG (.node l i x (.node a j y c)))(hb:Dy g (Tr.node l i x (.node a j y c)).toL) :
  AB prog g.flift [.pointer (some ⟨b,0,none⟩),zI i,.bool false] (fun v' w'=>v'=zI j/\∃A',X0 g F C W w' b most A (Tr.node l i x (.node a j y c)).toL (Tr.node l i x (.node a j y c)).idx (.node (.node l i x a) j y c) A') W:=by
 apply g.ok.lift;unfold Wz;obtain⟨hl,⟨ha,hc,hj⟩,hi⟩:=hh;obtain⟨u1,u2,u3,u4,u5⟩:=Tr.BC.1 hu;obtain⟨v1,v2,v3,v4,v5⟩:=Tr.BC.1 u2;have hL:(Tr.node l i x (.node a j y c)).toL=(l.toL++x::a.toL)++y::c.toL:=by simp[Tr.toL]
 rw[hL] at hb;have a7:=hb.app.1;have U:i≠j:=fun e=>u4 (by simp[Tr.idx,e]);have a8:i∉c.idx:=fun e=>u4 (by simp[Tr.idx,e]);have V:i∉a.idx:=fun e=>u4 (by simp[Tr.idx,e]);have ak:j∉l.idx:=fun e=>u5 j e (by simp[Tr.idx]);refine Dq h hi fun rc bx w1 g1 X B m=>?_;have J:=g.rlen m;refine AS ?_;refine Bh (B.cells (g.E+1) _ (by rw[AZ J];rfl)) ?_;have h1:=h.grow g1;refine Dq h1 hj fun rd bd w2 g2 ay D O=>?_;have Q:=g.rlen O;have B2:=B.grow g2;refine Bh (D.cells (g.E+0) _ (by rw[AZ Q];rfl)) ?_;rw[AG,AH];have nF:∀{z:Nat},W.heap.size<=z->∀x,F x\/C x->x≠z:=fun hz x hx e=>by have:=h.lt x hx;omega
 have s1:=g1.size;refine B2.st (q:=g.E+1) (by rw[BI _ m];omega) rfl rfl fun w3 B3 m3=>?_;have b0:=B.lt (by rw[BI _ m];omega);have D3:=D.mod m3 fun e=>by omega
 rw[Cl J] at B3;refine B3.E0 (by rw[Bp,kJ,J];rfl) ?_;have g3:Grow W w3:=(g1.trans g2).next m3 fun y o e=>by omega
 have h3:=h.grow g3;have Y:=g.BZ (g.BZ m g2 fun _ _ _ h=>h) m3 fun y _ o e=>nF X y (.inr o) e;refine AA (GR (l:=l) (r:=a) (n:={ Tr.EB g.k.μ (.node l i x (.node a j y c)) x l.root (Tr.node a j y c).root with r:=a.root }) h3 hs hi Y rfl rfl hl ha u1 v1 a7) ?_;rintro _ w4 ⟨h4,m4⟩;have D4:=D3.mod m4 fun e=>nF (by omega) bd (.inl e.1) rfl;have I:(A.put i (Tr.EB g.k.μ (.node l i x a) x l.root a.root)).f=Tr.GK A.f i (some (Tr.EB g.k.μ (.node l i x a) x l.root a.root)):=ArS.Jw hi;rw[AG,AH];refine D4.st (q:=g.E+0) (by rw[BI _ O];omega) rfl rfl fun w5 D5 m5=>?_;rw[Cl Q] at D5;refine D5.E0 (by rw[Bp,kJ,Q];rfl) ?_;have h5:=h4.mod m5 fun x hx e=>nF (by omega) x hx e;have Z:=g.BZ (g.BZ (g.BZ O m3 fun y _ o e=>nF X y (.inr o) e) m4 fun y _ o e=>h.Iw y e.1 o) m5 fun y _ o e=>nF (by omega) y (.inr o) e;have T:(A.put i (Tr.EB g.k.μ (.node l i x a) x l.root a.root)).f j=some (Tr.EB g.k.μ (.node a j y c) y a.root c.root):=by rw[I,Tr.DY _ (nY U)];exact hj
 have a1:Tr.Holds g.k.μ (A.put i (Tr.EB g.k.μ (.node l i x a) x l.root a.root)).f (.node l i x a):=by rw[I];exact Tr.Holds.top g.k.μ hl ha u3 V
 have a6:Tr.Holds g.k.μ (A.put i (Tr.EB g.k.μ (.node l i x a) x l.root a.root)).f c:=by rw[I];exact hc.out g.k.μ _ a8
 have al:Tr.GG (.node l i x a):=Tr.BC.2 ⟨u1,v1,u3,V,fun q hq e=>u5 q hq (by simp[Tr.idx,e])⟩;have an:(A.put i (Tr.EB g.k.μ (.node l i x a) x l.root a.root)).ps.length<=109951162777:=by rw[Dh];exact hs
 refine AA (GR (l:=.node l i x a) (r:=c) (n:={ Tr.EB g.k.μ (.node a j y c) y a.root c.root with l:=(i:Int) }) h5 an T Z rfl rfl a1 a6 al v2 hb) ?_;rintro _ w6 ⟨h6,m6⟩;have av:=ArS.Jw (n:=Tr.EB g.k.μ (.node (.node l i x a) j y c) y (Tr.node l i x a).root c.root) T;refine⟨rfl,_,h6,?_,by simp[Tr.toL],(Tr.Wg l a c j i y x).2,?_,fun q hq=>?_,by rw[Dh,Dh]⟩
 .exact(((g3.mono fun _ _ h=>h.elim).trans m4).next m5 fun y o e=>by omega).trans m6
 .refine IS (x:=y) T a1 a6 (fun e=>?_) v4;simp only[Tr.idx,C3,K8] at e;rcases e with e|e|e
  .exact ak e
  .exact U e.symm
  .exact v3 e
 .simp only[Tr.idx,C3,K8,qo] at hq;have ax:Tr.GK (A.put i (Tr.EB g.k.μ (.node l i x a) x l.root a.root)).f j (some (Tr.EB g.k.μ (.node (.node l i x a) j y c) y (Tr.node l i x a).root c.root)) q=A.f q:=by rw[Tr.DY _ hq.2.2.2.1,I,Tr.DY _ hq.2.1]
  rw[<-ax];exact congrFun av q
def DI{f i:Nat->Option (Nd α)}{μ:α->Nat×Nat}{t:Tr α}{I:List Nat}(h:Tr.Holds μ f t)(m:∀j,j∉I->i j=f j)(o:∀j∈t.idx,j∉I):Tr.Holds μ i t:=h.frame μ fun j q=>m j (o j q)
def Gb{b i:Nat}{A:ArS α}{n m:Nd α}{l r:Tr α}(h:Dj g F C W b most A)(hs:A.ps.length<=109951162777)(hi:A.f i=some m)(V:g.R C W vs n.x)(el:n.l=l.root)(er:n.r=r.root)
 (hl:Tr.Holds g.k.μ A.f l)(hr:Tr.Holds g.k.μ A.f r)(hu:Tr.GG (.node l i n.x r))(hb:Dy g (Tr.node l i n.x r).toL) :
  AB prog g.fbalance [.pointer (some ⟨b,0,none⟩),zI i,.agg (vs++BV n).toArray] (fun v' w'=>∃t' A',v'=zI t'.root/\X0 g F C W w' b most A (Tr.node l i n.x r).toL (Tr.node l i n.x r).idx t' A') W:=by
 apply g.ok.balance;unfold PA;obtain⟨u1,u2,u3,u4,u5⟩:=Tr.BC.1 hu;have O:=g.rlen V;have nF:∀{z:Nat},W.heap.size<=z->∀x,F x\/C x->x≠z:=fun hz x hx e=>by have:=h.lt x hx;omega
 refine Bx.box fun bx w1 Q g1 B=>?_;refine B.E0 (BI _ V) ?_;have h1:=h.grow g1;refine AA (GR (l:=l) (r:=r) h1 hs hi (g.BZ V g1 fun _ _ _ h=>h) el er hl hr u1 u2 hb) ?_;rintro _ w3 ⟨h3,m3⟩;have b9:=g.BZ (g.BZ V g1 fun _ _ _ h=>h) m3 fun y _ Y e=>h.Iw y e.1 Y;have B3:=B.mod m3 fun e=>nF Q bx (.inl e.1) rfl;have I:(A.put i (Tr.EB g.k.μ (.node l i n.x r) n.x l.root r.root)).ps.length<=109951162777:=by rw[Dh];exact hs
 have hT:=IS (x:=n.x) hi hl hr u3 u4;obtain⟨Z,a1,av⟩:=id hT;have X:∀j,j∉(Tr.node l i n.x r).idx->(A.put i (Tr.EB g.k.μ (.node l i n.x r) n.x l.root r.root)).f j=A.f j:=fun j hj=>Hw hi fun e=>hj (by simp[Tr.idx,e]);have J:=Dh A i (Tr.EB g.k.μ (.node l i n.x r) n.x l.root r.root);have bc:Mod (Fb F b) W w3:=(g1.mono fun _ _ h=>h.elim).trans m3;generalize A.put i (Tr.EB g.k.μ (.node l i n.x r) n.x l.root r.root)=A3 at h3 I hT Z a1 av X J;refine AA (Ml h3 I av rfl rfl Z a1 u1 u2) ?_;rintro _ w4 ⟨rfl,g4⟩;have h4:=h3.grow g4;have B4:=B3.grow g4;have ax:=g.BZ b9 g4 fun _ _ _ h=>h;have ay:Mod (Fb F b) W w4:=bc.trans (g4.mono fun _ _ h=>h.elim);rw[BL];refine AF (fun bd=>?_) fun bs=>?_
 .obtain⟨a,j,y,c,rfl⟩:=Tr.Kn (t:=l) (by omega);refine Bh (B4.cells (g.E+0) _ (by rw[AZ O];rfl)) ?_;rw[el];obtain⟨ha,hc,hj⟩:=id Z;obtain⟨v1,v2,v3,v4,v5⟩:=Tr.BC.1 u1;refine AA (Ml h4 I hj rfl rfl ha hc v1 v2) ?_;rintro _ w6 ⟨rfl,g6⟩;have h6:=h4.grow g6;have B6:=B4.grow g6;have a6:Mod (Fb F b) W w6:=ay.trans (g6.mono fun _ _ h=>h.elim);refine Hj (fun bk=>?_) fun bl=>?_
  .obtain⟨p,q,z,s,rfl⟩:=Tr.Kn (t:=c) (by omega);refine Bh (B6.cells (g.E+0) _ (by rw[AZ O];rfl)) ?_;rw[el];refine AA (Rb h6 I Z u1 hb.app.1) ?_;rintro _ w8 ⟨rfl,A8,S8⟩;have B8:=B6.mod S8.mod fun e=>nF Q bx (.inl e.1) rfl;rw[AG,AH];refine B8.st (q:=g.E+0) (by rw[BI _ V];omega) rfl rfl fun w9 B9 m9=>?_;rw[Cl O] at B9;refine B9.E0 (by rw[Bp,kJ,O];rfl) ?_;have h9:=S8.EH.mod m9 fun x hx e=>nF Q x hx e;have a7:=g.BZ (g.BZ (g.BZ ax g6 fun _ _ _ h=>h) S8.mod fun y _ Y e=>h.Iw y e.1 Y) m9 fun y _ Y e=>nF Q y (.inr Y) e;have T:A8.f i=some _:=(S8.same i u3).trans av;have ba:Tr.Holds g.k.μ A8.f r:=DI a1 S8.same fun j' b0 e=>u5 j' e b0;have a8:A8.ps.length<=109951162777:=by rw[S8.len];exact I
   have ak:Tr.GG (Tr.node (.node (.node a j y p) q z s) i n.x r):=by
    have:(Tr.node (.node (.node a j y p) q z s) i n.x r).idx.Perm (Tr.node (.node a j y (.node p q z s)) i n.x r).idx:=S8.idx.append (mg _);exact this.nodup_iff.2 hu
   obtain⟨x1,x2,x3,x4,x5⟩:=Tr.BC.1 ak;have al:Dy g (Tr.node (.node (.node a j y p) q z s) i n.x r).toL:=hb.perm (by rw[Tr.toL,S8.toL];rfl);refine AA (GR (l:=.node (.node a j y p) q z s) (r:=r) (n:={ n with l:=(q:Int) }) h9 a8 T a7 rfl er S8.holds ba x1 x2 al) ?_;rintro _ bn ⟨b1,b2⟩;have an:(A8.put i (Tr.EB g.k.μ (.node (.node (.node a j y p) q z s) i n.x r) n.x (Tr.node (.node a j y p) q z s).root r.root)).ps.length<=109951162777:=by rw[Dh];exact a8
   refine AA (Q7 b1 an (IS T S8.holds ba x3 x4) ak al) ?_;rintro _ b6 ⟨rfl,U,S12⟩;have o:(Tr.node (.node (.node a j y p) q z s) i n.x r).idx.Perm (Tr.node (.node a j y (.node p q z s)) i n.x r).idx:=S8.idx.append (mg _);refine⟨_,U,rfl,S12.EH,?_,S12.toL.trans (by rw[Tr.toL,S8.toL];rfl),S12.idx.trans o,S12.holds,fun t ht=>?_,by rw[S12.len,Dh,S8.len,J]⟩
   .exact(((a6.trans S8.mod).next m9 fun y Y e=>by omega).trans b2).trans S12.mod
   .have b7:t∉(Tr.node (.node (.node a j y p) q z s) i n.x r).idx:=fun e=>ht (o.mem_iff.1 e);have b8:t∉(Tr.node a j y (.node p q z s)).idx:=fun e=>ht (by rw[Tr.idx];exact jS _ e);exact(((S12.same t b7).trans (Hw T fun e=>ht (by simp[Tr.idx,e]))).trans (S8.same t b8)).trans (X t ht)
  .refine AA (Q7 h6 I hT hu hb) ?_;rintro _ b6 ⟨rfl,U,S12⟩;exact⟨_,U,rfl,S12.EH,a6.trans S12.mod,S12.toL,S12.idx,S12.holds,fun t ht=>(S12.same t ht).trans (X t ht),by rw[S12.len,J]⟩
 refine Hj (fun bk=>?_) fun bl=>?_
 .obtain⟨a,j,y,c,rfl⟩:=Tr.Kn (t:=r) (by omega);refine Bh (B4.cells (g.E+1) _ (by rw[AZ O];rfl)) ?_;rw[er];obtain⟨ha,hc,hj⟩:=id a1;obtain⟨v1,v2,v3,v4,v5⟩:=Tr.BC.1 u2;refine AA (Ml h4 I hj rfl rfl ha hc v1 v2) ?_;rintro _ w6 ⟨rfl,g6⟩;have h6:=h4.grow g6;have B6:=B4.grow g6;have a6:Mod (Fb F b) W w6:=ay.trans (g6.mono fun _ _ h=>h.elim);rw[BL];refine AF (fun bd=>?_) fun bp=>?_
  .obtain⟨p,q,z,s,rfl⟩:=Tr.Kn (t:=a) (by omega);refine Bh (B6.cells (g.E+1) _ (by rw[AZ O];rfl)) ?_;rw[er];refine AA (Q7 h6 I a1 u2 hb.app.2.cons.1) ?_;rintro _ w8 ⟨rfl,A8,S8⟩;have B8:=B6.mod S8.mod fun e=>nF Q bx (.inl e.1) rfl;rw[AG,AH];refine B8.st (q:=g.E+1) (by rw[BI _ V];omega) rfl rfl fun w9 B9 m9=>?_;rw[Cl O] at B9;refine B9.E0 (by rw[Bp,kJ,O];rfl) ?_;have h9:=S8.EH.mod m9 fun x hx e=>nF Q x hx e;have a7:=g.BZ (g.BZ (g.BZ ax g6 fun _ _ _ h=>h) S8.mod fun y _ Y e=>h.Iw y e.1 Y) m9 fun y _ Y e=>nF Q y (.inr Y) e;have T:A8.f i=some _:=(S8.same i u4).trans av;have bb:Tr.Holds g.k.μ A8.f l:=DI Z S8.same fun j' b0 e=>u5 j' b0 e;have a8:A8.ps.length<=109951162777:=by rw[S8.len];exact I
   have o:(Tr.node l i n.x (.node p q z (.node s j y c))).idx.Perm (Tr.node l i n.x (.node (.node p q z s) j y c)).idx:=(mg _).append (S8.idx.cons i);have ak:Tr.GG (Tr.node l i n.x (.node p q z (.node s j y c))):=o.nodup_iff.2 hu;obtain⟨x1,x2,x3,x4,x5⟩:=Tr.BC.1 ak;have al:Dy g (Tr.node l i n.x (.node p q z (.node s j y c))).toL:=hb.perm (by rw[Tr.toL,S8.toL];rfl);refine AA (GR (l:=l) (r:=.node p q z (.node s j y c)) (n:={ n with r:=(q:Int) }) h9 a8 T a7 el rfl bb S8.holds x1 x2 al) ?_;rintro _ bn ⟨b1,b2⟩;have an:(A8.put i (Tr.EB g.k.μ (.node l i n.x (.node p q z (.node s j y c))) n.x l.root (Tr.node p q z (.node s j y c)).root)).ps.length<=109951162777:=by rw[Dh];exact a8
   refine AA (Rb b1 an (IS T bb S8.holds x3 x4) ak al) ?_;rintro _ b6 ⟨rfl,U,S12⟩;refine⟨_,U,rfl,S12.EH,?_,S12.toL.trans (by rw[Tr.toL,S8.toL];rfl),S12.idx.trans o,S12.holds,fun t ht=>?_,by rw[S12.len,Dh,S8.len,J]⟩
   .exact(((a6.trans S8.mod).next m9 fun y Y e=>by omega).trans b2).trans S12.mod
   .have b7:t∉(Tr.node l i n.x (.node p q z (.node s j y c))).idx:=fun e=>ht (o.mem_iff.1 e);have b8:t∉(Tr.node (.node p q z s) j y c).idx:=fun e=>ht (by rw[Tr.idx];exact kI _ (gi _ e));exact(((S12.same t b7).trans (Hw T fun e=>ht (by simp[Tr.idx,e]))).trans (S8.same t b8)).trans (X t ht)
  .refine AA (Rb h6 I hT hu hb) ?_;rintro _ b6 ⟨rfl,U,S12⟩;exact⟨_,U,rfl,S12.EH,a6.trans S12.mod,S12.toL,S12.idx,S12.holds,fun t ht=>(S12.same t ht).trans (X t ht),by rw[S12.len,J]⟩
 .exact⟨.node l i n.x r,A3,rfl,h4,ay,rfl,mg _,hT,X,J⟩
end
section
variable {α:Type}{g:AvT α}
def P3{b i:Nat}{A:ArS α}{n:Nd α}{l r:Tr α}
 (IL:∀ Y X xl T,l=Tr.node Y X xl T->T.Df < l.Df->∀ {W1:World} {Q:ArS α},Dj g F C W1 b most Q->Q.ps.length<=109951162777->Q.f i=some n->Tr.Holds g.k.μ Q.f T->Tr.Holds g.k.μ Q.f r->Tr.GG (.node T i n.x r)->Dy g (Tr.node T i n.x r).toL->
   AB prog g.fjoin [.pointer (some ⟨b,0,none⟩),zI T.root,zI i,zI r.root] (fun v' w'=>∃ t' A',v'=zI t'.root/\X0 g F C W1 w' b most Q (Tr.node T i n.x r).toL (Tr.node T i n.x r).idx t' A') W1)
 (IR:∀ O U xr V,r=Tr.node O U xr V->O.Df < r.Df->∀ {W1:World} {Q:ArS α},Dj g F C W1 b most Q->Q.ps.length<=109951162777->Q.f i=some n->Tr.Holds g.k.μ Q.f l->Tr.Holds g.k.μ Q.f O->Tr.GG (.node l i n.x O)->Dy g (Tr.node l i n.x O).toL->
   AB prog g.fjoin [.pointer (some ⟨b,0,none⟩),zI l.root,zI i,zI O.root] (fun v' w'=>∃ t' A',v'=zI t'.root/\X0 g F C W1 w' b most Q (Tr.node l i n.x O).toL (Tr.node l i n.x O).idx t' A') W1)
 (h:Dj g F C W b most A)(hs:A.ps.length<=109951162777)(hi:A.f i=some n)(hl:Tr.Holds g.k.μ A.f l)(hr:Tr.Holds g.k.μ A.f r)(hu:Tr.GG (.node l i n.x r))(hb:Dy g (Tr.node l i n.x r).toL) :
  AB prog g.fjoin [.pointer (some ⟨b,0,none⟩),zI l.root,zI i,zI r.root] (fun v' w'=>∃t' A',v'=zI t'.root/\X0 g F C W w' b most A (Tr.node l i n.x r).toL (Tr.node l i n.x r).idx t' A') W:=by
 apply g.ok.join;unfold cH;obtain⟨u1,u2,u3,u4,u5⟩:=Tr.BC.1 hu;have bk:=(Ew rfl hl u1).1;have bl:=(Ew rfl hr u2).1;have nF:∀{z:Nat},W.heap.size<=z->∀x,F x\/C x->x≠z:=fun hz x hx e=>by have:=h.lt x hx;omega
 refine AA (CE h hl) ?_;rintro _ w1 ⟨rfl,g1⟩;refine Kj ?_;refine AA (CE (h.grow g1) hr) ?_;rintro _ w2 ⟨rfl,g2⟩;refine Kj ?_;have a1:=g1.trans g2;have h2:=h.grow a1;have bn:=a1.size;refine CJ (b:=1) (by omega) ?_;rw[BL];refine AF (fun b8=>?_) fun bp=>?_
 .obtain⟨Y,X,xl,T,rfl⟩:=Tr.Kn (t:=l) (by omega);obtain⟨b9,ba,ak⟩:=id hl;obtain⟨v1,v2,v3,v4,v5⟩:=Tr.BC.1 u1;refine Dq h2 ak fun rc bx w3 g3 al B I=>?_;have J:=g.rlen I;have h3:=h2.grow g3;refine Bh (B.cells (g.E+1) _ (by rw[AZ J];rfl)) ?_;have an:Tr.GG (.node T i n.x r):=Tr.BC.2 ⟨v2,u2,fun e=>u3 (by simp[Tr.idx,e]),u4,fun q j=>u5 q (by simp[Tr.idx,j])⟩;have hL:(Tr.node (.node Y X xl T) i n.x r).toL=Y.toL++xl::(T.toL++n.x::r.toL):=by simp[Tr.toL]
  have a6:=hb;rw[hL] at a6;refine AA (IL Y X xl T rfl (by simp only[Tr.Df];omega) h3 hs hi ba hr an a6.app.2.cons.1) ?_;rintro _ w7 ⟨t1,Q,rfl,o⟩;have m:W.heap.size<=bx:=by omega
  have B7:=B.mod o.mod fun e=>nF m bx (.inl e.1) rfl;rw[AG,AH];refine B7.st (q:=g.E+1) (by rw[BI _ I];omega) rfl rfl fun w8 B8 m8=>?_;rw[Cl J] at B8;refine B8.E0 (by rw[Bp,kJ,J];rfl) ?_;have h8:=o.EH.mod m8 fun x hx e=>nF m x hx e;have a7:=g.BZ (g.BZ I o.mod fun y _ Z e=>h.Iw y e.1 Z) m8 fun y _ Z e=>nF m y (.inr Z) e;have nI:∀q∈X::Y.idx,q∉(Tr.node T i n.x r).idx:=fun q j e=>by
   simp only[Tr.idx,C3,K8] at e j;rcases j with rfl|j
   .rcases e with e|e|e
    .exact v4 e
    .exact u3 (by simp[Tr.idx,e])
    .exact u5 q (by simp[Tr.idx]) e
   .rcases e with e|e|e
    .exact v5 q j e
    .exact u3 (by simp[Tr.idx,<-e,j])
    .exact u5 q (by simp[Tr.idx,j]) e
  have av:Q.f X=some _:=(o.same X (nI X (by simp))).trans ak;have ax:Tr.Holds g.k.μ Q.f Y:=DI b9 o.same fun q j=>nI q (by simp[j]);have a8:Tr.GG (.node Y X xl t1):=by
   refine Tr.BC.2 ⟨v1,o.idx.nodup_iff.2 an,v3,fun e=>nI X (by simp) (o.idx.mem_iff.1 e),fun q j e=>nI q (by simp[j]) (o.idx.mem_iff.1 e)⟩
  have perm:(Tr.node Y X xl t1).idx.Perm (Tr.node (.node Y X xl T) i n.x r).idx:=by
   simp only[Tr.idx,Of,S7];exact(mg _).append (o.idx.cons X)
  have eL:(Tr.node Y X xl t1).toL=(Tr.node (.node Y X xl T) i n.x r).toL:=by simp only[Tr.toL,o.toL,Of,S7]
  refine AA (Gb (l:=Y) (r:=t1) (n:={ Tr.EB g.k.μ (.node Y X xl T) xl Y.root T.root with r:=t1.root }) h8 (by rw[o.len];exact hs) av a7 rfl rfl ax o.holds a8 (hb.perm eL)) ?_;rintro _ bb ⟨t2,A2,rfl,S2⟩;refine⟨t2,A2,rfl,S2.EH,?_,S2.toL.trans eL,S2.idx.trans perm,S2.holds,fun q j=>?_,by rw[S2.len,o.len]⟩
  .exact((((a1.trans g3).mono fun _ _ h=>h.elim).trans o.mod).next m8 fun y Z e=>by omega).trans S2.mod
  .refine(S2.same q fun e=>j (perm.mem_iff.1 e)).trans (o.same q fun e=>j ?_);simp only[Tr.idx,C3,K8] at e ⊢;rcases e with e|e|e
   .exact .inl (.inr (.inr e))
   .exact .inr (.inl e)
   .exact .inr (.inr e)
 refine CJ (b:=1) (by omega) ?_;rw[BL];refine AF (fun b8=>?_) fun bd=>?_
 .obtain⟨O,U,xr,V,rfl⟩:=Tr.Kn (t:=r) (by omega);obtain⟨ay,bc,b0⟩:=id hr;obtain⟨v1,v2,v3,v4,v5⟩:=Tr.BC.1 u2;refine Dq h2 b0 fun rc bx w3 g3 al B I=>?_;have J:=g.rlen I;have h3:=h2.grow g3;refine Bh (B.cells (g.E+0) _ (by rw[AZ J];rfl)) ?_;have b1:Tr.GG (.node l i n.x O):=Tr.BC.2 ⟨u1,v1,u3,fun e=>u4 (by simp[Tr.idx,e]),fun q j e=>u5 q j (by simp[Tr.idx,e])⟩;have hL:(Tr.node l i n.x (.node O U xr V)).toL=(l.toL++n.x::O.toL)++xr::V.toL:=by simp[Tr.toL]
  have a6:=hb;rw[hL] at a6;refine AA (IR O U xr V rfl (by simp only[Tr.Df];omega) h3 hs hi hl ay b1 a6.app.1) ?_;rintro _ w7 ⟨t1,Q,rfl,o⟩;have m:W.heap.size<=bx:=by omega
  have B7:=B.mod o.mod fun e=>nF m bx (.inl e.1) rfl;rw[AG,AH];refine B7.st (q:=g.E+0) (by rw[BI _ I];omega) rfl rfl fun w8 B8 m8=>?_;rw[Cl J] at B8;refine B8.E0 (by rw[Bp,kJ,J];rfl) ?_;have h8:=o.EH.mod m8 fun x hx e=>nF m x hx e;have a7:=g.BZ (g.BZ I o.mod fun y _ Z e=>h.Iw y e.1 Z) m8 fun y _ Z e=>nF m y (.inr Z) e;have nI:∀q∈U::V.idx,q∉(Tr.node l i n.x O).idx:=fun q j e=>by
   simp only[Tr.idx,C3,K8] at e j;rcases j with rfl|j
   .rcases e with e|e|e
    .exact u5 q e (by simp[Tr.idx])
    .exact u4 (by simp[Tr.idx,<-e])
    .exact v3 e
   .rcases e with e|e|e
    .exact u5 q e (by simp[Tr.idx,j])
    .exact u4 (by simp[Tr.idx,<-e,j])
    .exact v5 q e j
  have b2:Q.f U=some _:=(o.same U (nI U (by simp))).trans b0;have b6:Tr.Holds g.k.μ Q.f V:=DI bc o.same fun q j=>nI q (by simp[j]);have a8:Tr.GG (.node t1 U xr V):=by
   refine Tr.BC.2 ⟨o.idx.nodup_iff.2 b1,v2,fun e=>nI U (by simp) (o.idx.mem_iff.1 e),v4,fun q j e=>nI q (by simp[e]) (o.idx.mem_iff.1 j)⟩
  have perm:(Tr.node t1 U xr V).idx.Perm (Tr.node l i n.x (.node O U xr V)).idx:=by
   have:(Tr.node l i n.x (.node O U xr V)).idx=(Tr.node l i n.x O).idx++U::V.idx:=by simp[Tr.idx]
   rw[this];exact o.idx.append (mg _)
  have eL:(Tr.node t1 U xr V).toL=(Tr.node l i n.x (.node O U xr V)).toL:=by rw[hL];simp only[Tr.toL,o.toL]
  refine AA (Gb (l:=t1) (r:=V) (n:={ Tr.EB g.k.μ (.node O U xr V) xr O.root V.root with l:=t1.root }) h8 (by rw[o.len];exact hs) b2 a7 rfl rfl o.holds b6 a8 (hb.perm eL)) ?_;rintro _ bb ⟨t2,A2,rfl,S2⟩;refine⟨t2,A2,rfl,S2.EH,?_,S2.toL.trans eL,S2.idx.trans perm,S2.holds,fun q j=>?_,by rw[S2.len,o.len]⟩
  .exact((((a1.trans g3).mono fun _ _ h=>h.elim).trans o.mod).next m8 fun y Z e=>by omega).trans S2.mod
  .refine(S2.same q fun e=>j (perm.mem_iff.1 e)).trans (o.same q fun e=>j ?_);simp only[Tr.idx,C3,K8] at e ⊢;rcases e with e|e|e
   .exact .inl e
   .exact .inr (.inl e)
   .exact .inr (.inr (.inl e))
 .refine Dq h2 hi fun rc bx w3 g3 al B I=>?_;have J:=g.rlen I;have m:W.heap.size<=bx:=by omega
  rw[AG,AH];refine B.st (q:=g.E+0) (by rw[BI _ I];omega) rfl rfl fun w4 B4 m4=>?_;rw[Cl J] at B4;rw[AG,AH];refine B4.st (q:=g.E+1) (by rw[Bp,kJ,J];exact qC (show 1<5 by decide) _) rfl rfl fun w5 B5 m5=>?_;have eN:(rc++(BV n).set 0 (zI l.root)).set (g.E+1) (zI r.root)=rc++BV { n with l:=l.root,r:=r.root }:=by
   rw[lY _ _ (by omega),J,nT];rfl
  rw[eN] at B5;refine B5.E0 (by rw[BI _ I]) ?_;have g5:Grow W w5:=(((a1.trans g3).next m4 fun y Z e=>by omega)).next m5 fun y Z e=>by omega
  have b7:=g.BZ (g.BZ I m4 fun y _ Z e=>nF m y (.inr Z) e) m5 fun y _ Z e=>nF m y (.inr Z) e;refine AA (GR (l:=l) (r:=r) (n:={ n with l:=l.root,r:=r.root }) (h.grow g5) hs hi b7 rfl rfl hl hr u1 u2 hb) ?_;rintro _ w6 ⟨h6,m6⟩;exact⟨.node l i n.x r,_,rfl,h6,(g5.mono fun _ _ h=>h.elim).trans m6,rfl,mg _,IS (x:=n.x) hi hl hr u3 u4,fun q j=>Hw hi fun e=>j (by simp[Tr.idx,e]),Dh _ _ _⟩
structure Ends (g:AvT α) (F C:Nat->Prop) (W w':World) (b:Nat) (rt:Int) (A:ArS α) (t:Tr α) (t':Tr α) (j:Nat) (m:Nd α) (A':ArS α):Prop where
 EH:Dj g F C w' b rt A'
 mod:Mod (Fb F b) W w'
 idx:(j::t'.idx).Perm t.idx
 holds:Tr.Holds g.k.μ A'.f t'
 Qr:A'.f j=some m
 same:∀q,q∉t.idx->A'.f q=A.f q
 len:A'.ps.length=A.ps.length
def Ends.Hn{b:Nat}{i:Int}{A o:ArS α}{t t':Tr α}{m:Nd α}(h:Ends g F C W w' b i A t t' j m o)(hu:Tr.GG t):Tr.GG t'/\j∉t'.idx:=by
 have:=h.idx.nodup_iff.2 hu;rw[px] at this;exact⟨this.2,this.1⟩
def Uj{b:Nat}:∀(t:Tr α) {W:World} {A:ArS α},t≠.nil->Dj g F C W b most A->A.ps.length<=109951162777->Tr.Holds g.k.μ A.f t->Tr.GG t->Dy g t.toL->
  AB prog g.ffirst [.pointer (some ⟨b,0,none⟩),zI t.root] (fun v' w'=>∃(t':Tr α) (j:Nat) (m:Nd α) (A':ArS α),v'=.tuple #[zI t'.root,zI j]/\Ends g F C W w' b most A t t' j m A'/\t.toL=m.x::t'.toL) W:=by
 intro t;induction t with
 |nil=>intro W A hn;exact(hn rfl).elim
 |node l i x r Y _=>
  intro W A _ h hs hh hu hb;obtain⟨hl,hr,hi⟩:=id hh;obtain⟨Z,u2,u3,u4,u5⟩:=Tr.BC.1 hu;apply g.ok.first;unfold Vy;have nF:∀{z:Nat},W.heap.size<=z->∀x,F x\/C x->x≠z:=fun hz x hx e=>by have:=h.lt x hx;omega
  refine Dq h hi fun rc bx w1 g1 Q B T=>?_;have J:=g.rlen T;have h1:=h.grow g1;refine Bh (B.cells (g.E+0) _ (by rw[AZ J];rfl)) ?_;rw[Aj];refine AF (fun e=>?_) fun e=>?_
  .refine Bh (B.cells (g.E+1) _ (by rw[AZ J];rfl)) ?_;have el:l=.nil:=by
    cases l with
    |nil=>rfl
    |node a q z c=>simp only[Tr.EB,Tr.root] at e;omega
   subst el;exact⟨r,i,_,A,rfl,⟨h1,g1.mono fun _ _ h=>h.elim,mg _,hr,hi,fun _ _=>rfl,rfl⟩,rfl⟩
  .refine Bh (B.cells (g.E+0) _ (by rw[AZ J];rfl)) ?_;have a1:l≠.nil:=fun e'=>by subst e';exact e rfl
   refine AA (Y a1 h1 hs hl Z hb.app.1) ?_;rintro _ w7 ⟨U,j,m,A1,rfl,o,e1⟩;refine BO ?_;have B7:=B.mod o.mod fun e=>nF Q bx (.inl e.1) rfl;rw[AG,AH];refine B7.st (q:=g.E+0) (by rw[BI _ T];omega) rfl rfl fun w8 B8 m8=>?_;rw[Cl J] at B8;refine B8.E0 (by rw[Bp,kJ,J];rfl) ?_;have h8:=o.EH.mod m8 fun x hx e=>nF Q x hx e;have V:=g.BZ (g.BZ T o.mod fun y _ X e=>h.Iw y e.1 X) m8 fun y _ X e=>nF Q y (.inr X) e;have sub:∀q,q∈U.idx\/q=j->q∈l.idx:=fun q I=>o.idx.mem_iff.1 (by rcases I with I|rfl<;>simp[*]);have a6:A1.f i=some _:=(o.same i u3).trans hi;have a7:Tr.Holds g.k.μ A1.f r:=DI hr o.same fun q I e=>u5 q e I;have a8:Tr.GG (.node U i x r):=Tr.BC.2 ⟨(o.Hn Z).1,u2,fun e=>u3 (sub i (.inl e)),u4,fun q I=>u5 q (sub q (.inl I))⟩;have ak:Dy g (Tr.node U i x r).toL:=by
    have:(Tr.node l i x r).toL=m.x::(Tr.node U i x r).toL:=by simp only[Tr.toL,e1,S7]
    rw[this] at hb;exact hb.cons.1
   refine AA (Gb (l:=U) (r:=r) (n:={ Tr.EB g.k.μ (.node l i x r) x l.root r.root with l:=U.root }) h8 (by rw[o.len];exact hs) a6 V rfl rfl o.holds a7 a8 ak) ?_;rintro _ al ⟨t2,A2,rfl,O⟩;have hj:j∉(Tr.node U i x r).idx:=fun e=>by
    simp only[Tr.idx,C3,K8] at e;rcases e with e|e|e
    .exact(o.Hn Z).2 e
    .exact u3 (e▸sub j (.inr rfl))
    .exact u5 j (sub j (.inr rfl)) e
   refine⟨t2,j,m,A2,rfl,⟨O.EH,?_,?_,O.holds,(O.same j hj).trans o.Qr,fun q I=>?_,by rw[O.len,o.len]⟩,?_⟩
   .exact(((g1.mono fun _ _ h=>h.elim).trans o.mod).next m8 fun y X e=>by omega).trans O.mod
   .refine(O.idx.cons j).trans ?_;simp only[Tr.idx];exact(o.idx.append (mg (i::r.idx)))
   .simp only[Tr.idx,C3,K8,qo] at I;refine(O.same q fun e=>?_).trans (o.same q I.1);simp only[Tr.idx,C3,K8] at e;rcases e with e|e|e
    .exact I.1 (sub q (.inl e))
    .exact I.2.1 e
    .exact I.2.2 e
   .rw[O.toL];simp only[Tr.toL,Tr.EB,e1,S7]
def QX{b:Nat}:∀(t:Tr α) {W:World} {A:ArS α},t≠.nil->Dj g F C W b most A->A.ps.length<=109951162777->Tr.Holds g.k.μ A.f t->Tr.GG t->Dy g t.toL->
  AB prog g.flast [.pointer (some ⟨b,0,none⟩),zI t.root] (fun v' w'=>∃(t':Tr α) (j:Nat) (m:Nd α) (A':ArS α),v'=.tuple #[zI t'.root,zI j]/\Ends g F C W w' b most A t t' j m A'/\t.toL=t'.toL++[m.x]) W:=by
 intro t;induction t with
 |nil=>intro W A hn;exact(hn rfl).elim
 |node l i x r _ Y=>
  intro W A _ h hs hh hu hb;obtain⟨hl,hr,hi⟩:=id hh;obtain⟨u1,Z,u3,u4,u5⟩:=Tr.BC.1 hu;apply g.ok.last;unfold cj;have nF:∀{z:Nat},W.heap.size<=z->∀x,F x\/C x->x≠z:=fun hz x hx e=>by have:=h.lt x hx;omega
  refine Dq h hi fun rc bx w1 g1 T B U=>?_;have J:=g.rlen U;have h1:=h.grow g1;refine Bh (B.cells (g.E+1) _ (by rw[AZ J];rfl)) ?_;rw[Aj];refine AF (fun e=>?_) fun e=>?_
  .refine Bh (B.cells (g.E+0) _ (by rw[AZ J];rfl)) ?_;have el:r=.nil:=by
    cases r with
    |nil=>rfl
    |node a q z c=>simp only[Tr.EB,Tr.root] at e;omega
   subst el;exact⟨l,i,_,A,rfl,⟨h1,g1.mono fun _ _ h=>h.elim,by simp only[Tr.idx];exact(List.perm_append_singleton i l.idx).symm,hl,hi,fun _ _=>rfl,rfl⟩,rfl⟩
  .refine Bh (B.cells (g.E+1) _ (by rw[AZ J];rfl)) ?_;have a1:r≠.nil:=fun e'=>by subst e';exact e rfl
   refine AA (Y a1 h1 hs hr Z hb.app.2.cons.1) ?_;rintro _ w7 ⟨O,j,m,A1,rfl,o,e1⟩;refine BO ?_;have B7:=B.mod o.mod fun e=>nF T bx (.inl e.1) rfl;rw[AG,AH];refine B7.st (q:=g.E+1) (by rw[BI _ U];omega) rfl rfl fun w8 B8 m8=>?_;rw[Cl J] at B8;refine B8.E0 (by rw[Bp,kJ,J];rfl) ?_;have h8:=o.EH.mod m8 fun x hx e=>nF T x hx e;have V:=g.BZ (g.BZ U o.mod fun y _ X e=>h.Iw y e.1 X) m8 fun y _ X e=>nF T y (.inr X) e;have sub:∀q,q∈O.idx\/q=j->q∈r.idx:=fun q I=>o.idx.mem_iff.1 (by rcases I with I|rfl<;>simp[*]);have a6:A1.f i=some _:=(o.same i u4).trans hi;have a7:Tr.Holds g.k.μ A1.f l:=DI hl o.same fun q I=>u5 q I;have a8:Tr.GG (.node l i x O):=Tr.BC.2 ⟨u1,(o.Hn Z).1,u3,fun e=>u4 (sub i (.inl e)),fun q I e=>u5 q I (sub q (.inl e))⟩;have ak:Dy g (Tr.node l i x O).toL:=by
    have:(Tr.node l i x r).toL=(Tr.node l i x O).toL++[m.x]:=by simp only[Tr.toL,e1,Of,S7]
    rw[this] at hb;exact hb.app.1
   refine AA (Gb (l:=l) (r:=O) (n:={ Tr.EB g.k.μ (.node l i x r) x l.root r.root with r:=O.root }) h8 (by rw[o.len];exact hs) a6 V rfl rfl a7 o.holds a8 ak) ?_;rintro _ al ⟨t2,A2,rfl,Q⟩;have hj:j∉(Tr.node l i x O).idx:=fun e=>by
    simp only[Tr.idx,C3,K8] at e;rcases e with e|e|e
    .exact u5 j e (sub j (.inr rfl))
    .exact u4 (e▸sub j (.inr rfl))
    .exact(o.Hn Z).2 e
   refine⟨t2,j,m,A2,rfl,⟨Q.EH,?_,?_,Q.holds,(Q.same j hj).trans o.Qr,fun q I=>?_,by rw[Q.len,o.len]⟩,?_⟩
   .exact(((g1.mono fun _ _ h=>h.elim).trans o.mod).next m8 fun y X e=>by omega).trans Q.mod
   .refine(Q.idx.cons j).trans ?_;simp only[Tr.idx];have p1:(j::(l.idx++i::O.idx)).Perm (l.idx++i::(j::O.idx)):=by
     have q:=(List.perm_middle (a:=j) (l₁:=l.idx++[i]) (l₂:=O.idx)).symm;simpa using q
    exact p1.trans ((mg _).append (o.idx.cons i))
   .simp only[Tr.idx,C3,K8,qo] at I;refine(Q.same q fun e=>?_).trans (o.same q I.2.2);simp only[Tr.idx,C3,K8] at e;rcases e with e|e|e
    .exact I.1 e
    .exact I.2.1 e
    .exact I.2.2 (sub q (.inl e))
   .rw[Q.toL];simp only[Tr.toL,Tr.EB,e1,Of,S7]
def Fu{b i:Nat}{Q:Int}:∀(k:Nat) {W:World} {A:ArS α} {n:Nd α} {l r:Tr α},l.Df+r.Df<=k->Dj g F C W b Q A->A.ps.length<=109951162777->A.f i=some n->Tr.Holds g.k.μ A.f l->Tr.Holds g.k.μ A.f r->Tr.GG (.node l i n.x r)->Dy g (Tr.node l i n.x r).toL->
  AB prog g.fjoin [.pointer (some ⟨b,0,none⟩),zI l.root,zI i,zI r.root] (fun v' w'=>∃t' U,v'=zI t'.root/\X0 g F C W w' b Q A (Tr.node l i n.x r).toL (Tr.node l i n.x r).idx t' U) W:=by
 intro k;induction k with
 |zero=>
  intro W A n l r hk h J hi hl hr hu hb;exact P3 (fun _ _ _ _ _ h=>by omega) (fun _ _ _ _ _ h=>by omega) h J hi hl hr hu hb
 |succ k T=>
  intro W A n l r hk h J hi hl hr hu hb;refine P3 (fun Y Z xl lr e O=>?_) (fun rl ir xr rr e O=>?_) h J hi hl hr hu hb
  .subst e;intro V X h1 j m o q B I;exact T (by simp only[Tr.Df] at hk;omega) h1 j m o q B I
  .subst e;intro V X h1 j m o q B I;exact T (by simp only[Tr.Df] at hk;omega) h1 j m o q B I
def Rv{b:Nat}{A:ArS α}{l r:Tr α}(h:Dj g F C W b most A)(X:A.ps.length<=109951162777)(hl:Tr.Holds g.k.μ A.f l)(hr:Tr.Holds g.k.μ A.f r)(hu:(l.idx++r.idx).Nodup)(hb:Dy g (l.toL++r.toL)) :
  AB prog g.fconcat [.pointer (some ⟨b,0,none⟩),zI l.root,zI r.root] (fun v' w'=>∃t' Z,v'=zI t'.root/\X0 g F C W w' b most A (l.toL++r.toL) (l.idx++r.idx) t' Z) W:=by
 apply g.ok.concat;unfold Sh;rw[Aj];obtain⟨J,u2,O⟩:=kM.1 hu;refine AF (fun e=>?_) fun e=>?_
 .have el:l=.nil:=by
   cases l with
   |nil=>rfl
   |node a q z c=>simp only[Tr.root] at e;omega
  subst el;exact⟨r,A,rfl,h,Mod.refl _ _,rfl,mg _,hr,fun _ _=>rfl,rfl⟩
 .have Q:l≠.nil:=fun e'=>by subst e';exact e rfl
  refine AA (QX l Q h X hl J hb.app.1) ?_;rintro _ w1 ⟨I,j,m,A1,rfl,i,e1⟩;refine BO ?_;have sub:∀q,q∈I.idx\/q=j->q∈l.idx:=fun q o=>i.idx.mem_iff.1 (by rcases o with o|rfl<;>simp[*]);have T:Tr.Holds g.k.μ A1.f r:=DI hr i.same fun q o e=>O q e q o rfl;have U:Tr.GG (.node I j m.x r):=Tr.BC.2 ⟨(i.Hn J).1,u2,(i.Hn J).2,fun e=>O j (sub j (.inr rfl)) j e rfl,fun q o e=>O q (sub q (.inl o)) q e rfl⟩;have Y:(Tr.node I j m.x r).toL=l.toL++r.toL:=by simp only[Tr.toL,e1,Of,S7,ky]
  refine AA (Fu (I.Df+r.Df) (Mp _) i.EH (by rw[i.len];exact X) i.Qr i.holds T U (hb.perm Y)) ?_;rintro _ w2 ⟨t2,A2,rfl,B⟩;have perm:(Tr.node I j m.x r).idx.Perm (l.idx++r.idx):=by
   simp only[Tr.idx];exact List.perm_middle.trans (i.idx.append (mg r.idx))
  refine⟨t2,A2,rfl,B.EH,i.mod.trans B.mod,B.toL.trans Y,B.idx.trans perm,B.holds,fun q o=>?_,by rw[B.len,i.len]⟩;exact(B.same q fun e=>o (perm.mem_iff.1 e)).trans (i.same q fun e=>o (jS _ e))
def Hy(g:AvT α)(F C:Nat->Prop)(W w':World)(b:Nat)(i:Int)(A:ArS α):Prop:=∃F',(∀x,F x->F' x)/\(∀x,F' x->F x\/W.heap.size<=x)/\Dj g F' C w' b i A/\Mod (Fb F b) W w'
def Ps{b c:Nat}{o:Int}{A q:ArS α}{pl fr:Value}(h:cK g F C W b c o A pl fr)(ha:MM g (fun x=>F x/\x≠b) C W w' c q):Hy g F C W w' b o q:=by
 obtain⟨F',j,m,k1,k2,J,B⟩:=ha;have O:=h.box.lt (S3 _);refine⟨fun x=>F' x\/x=b,fun x i=>?_,fun x i=>?_,⟨c,j,m,h.box.mod B fun e=>e.2 rfl,?_,.inr rfl,h.fb.2⟩,B⟩
 .by_cases e:x=b
  .exact .inr e
  .exact .inl (k1 x ⟨i,e⟩)
 .rcases i with i|rfl
  .exact(k2 x i).imp (fun h=>h.1) fun h=>h
  .exact .inl h.fb.1
 .have e:(fun x=>(F' x\/x=b)/\x≠b)=F':=by
   funext x
   refine propext ⟨fun i=>i.1.elim (fun h=>h) fun e=>(i.2 e).elim,fun i=>⟨.inl i,fun e=>?_⟩⟩;subst e;rcases k2 x i with I|I
   .exact I.2 rfl
   .omega
  rw[e];exact J
def L2{b c i:Nat}{j:Int}{A:ArS α}{pl fr:Value}{n:Nd α}(h:cK g F C W b c j A pl fr)(hi:A.f i=some n)(m:A.ps.length<=109951162777) :
  AB prog g.aFree [.pointer (some ⟨c,0,none⟩),zI i] (fun v' w'=>Hy g F C W w' b j (A.free i)) W:=
 AA (XH h.ar hi m) fun _ _ ha=>Ps h ha
def Ll{b c:Nat}{i:Int}{A:ArS α}{pl fr:Value}{n:Nd α}{r:List Value}(h:cK g F C W b c i A pl fr)(hr:g.R C W r n.x)(j:A.ps.length<=109951162777) :
  AB prog g.aTake [.pointer (some ⟨c,0,none⟩),.agg (r++BV n).toArray] (fun v' w'=>v'=zI A.num/\Hy g F C W w' b i (A.take n)) W:=
 AA (Xr h.ar hr j) fun _ _ ha=>⟨ha.1,Ps h ha.2⟩
def Up{b:Nat}:∀(t:Tr α) {F:Nat->Prop} {W:World} {A:ArS α},Dj g F C W b most A->A.ps.length<=109951162777->Tr.Holds g.k.μ A.f t->Tr.GG t->
  AB prog g.fdrop [.pointer (some ⟨b,0,none⟩),zI t.root] (fun _ w'=>∃V,Hy g F C W w' b most V/\(∀q,q∉t.idx->V.f q=A.f q)/\V.ps.length=A.ps.length) W:=by
 intro t;induction t with
 |nil=>
  intro F W A h U hh hu;apply g.ok.drop;unfold Xq;simp only[Tr.root];rw[Aj];refine AF (fun _=>?_) fun e=>(e rfl).elim;exact⟨A,⟨F,fun _ h=>h,fun _ h=>.inl h,h,Mod.refl _ _⟩,fun _ _=>rfl,rfl⟩
 |node l i x r X Y=>
  intro F W A h U hh hu;obtain⟨hl,hr,hi⟩:=id hh;obtain⟨u1,u2,u3,u4,u5⟩:=Tr.BC.1 hu;apply g.ok.drop;unfold Xq;simp only[Tr.root];rw[Aj];refine AF (fun e=>by omega) fun _=>?_;refine Dq h hi fun rc bx w1 Z ak B a6=>?_;have J:=g.rlen a6;have h1:=h.grow Z;refine Bh (B.cells (g.E+0) _ (by rw[AZ J];rfl)) ?_;refine AA (X h1 U hl u1) ?_;rintro _ w5 ⟨A1,T1,o,j⟩;obtain⟨F1,a1,a2,h5,m5⟩:=T1;have nb:¬F bx:=fun e=>by have:=h.lt bx (.inl e);omega
  have B5:=B.mod m5 fun e=>nb e.1;refine Bh (B5.cells (g.E+1) _ (by rw[AZ J];rfl)) ?_;have a7:Tr.Holds g.k.μ A1.f r:=DI hr o fun q I e=>u5 q e I;have a8:A1.f i=some _:=(o i u3).trans hi;refine AA (Y h5 (by rw[j];exact U) a7 u2) ?_;rintro _ w7 ⟨A2,T2,O,m⟩;obtain⟨F2,b1,b2,h7,m7⟩:=T2;have Q:A2.f i=some _:=(O i u4).trans a8;obtain⟨c,pl,fr,hT⟩:=h7;refine AI ?_;refine Bh (hT.box.cells 3 _ rfl) ?_;refine AA (L2 hT Q (by rw[m,j];exact U)) ?_;rintro _ w9 ⟨F3,c1,c2,h9,m9⟩;have s1:=Z.size;have s5:=m5.size;have s7:=m7.size;refine⟨A2.free i,⟨F3,fun x T=>c1 x (b1 x (a1 x T)),fun x T=>?_,h9,?_⟩,fun q I=>?_,by simp[ArS.free,m,j]⟩
  .rcases c2 x T with e|e
   .rcases b2 x e with e|e
    .rcases a2 x e with e|e
     .exact .inl e
     .exact .inr (by omega)
    .exact .inr (by omega)
   .exact .inr (by omega)
  .have k1:Mod (Fb F b) W w5:=(Z.mono fun _ _ h=>h.elim).trans m5;have k2:Mod (Fb F b) W w7:=k1.next m7 fun x T e=>by
    rcases a2 x e.1 with e'|e'
    .exact⟨e',e.2⟩
    .omega
   refine k2.next m9 fun x T e=>?_;rcases b2 x e.1 with e'|e'
   .rcases a2 x e' with e'|e'
    .exact⟨e',e.2⟩
    .omega
   .omega
  .simp only[Tr.idx,C3,K8,qo] at I;rw[ArS.RS Q,Tr.DY _ I.2.1];exact(O q I.2.2).trans (o q I.1)
def QF{b:Nat}{A:ArS α}{t:Tr α}(h:Dj g F C W b t.root A)(ht:Tr.Holds g.k.μ A.f t) :
  AB prog g.fSize [.pointer (some ⟨b,0,none⟩)] (fun v' w'=>v'=zI (Tr.sz g.k.μ t.toL)/\Grow W w') W:=by
 apply g.ok.size;unfold cD;obtain⟨c,pl,fr,i⟩:=id h;refine AI ?_;refine Bh (i.box.cells 4 _ rfl) ?_;refine AA (CE h ht) ?_;rintro _ w2 ⟨rfl,j⟩;exact CL (vs:=[_,_,_]) (by rfl) (CL (vs:=[_,_,_]) (by rfl) (CL (vs:=[_,_,_]) (by rfl) ⟨rfl,j⟩))
end
def Bx.ji{b q:Nat}(h:Bx W b vs)(o:q<vs.length)(u:Value):Bx (W.setCell ⟨b,q,none⟩ u) b (vs.set q u):=by
 refine⟨fun j v i=>?_,fun j B=>(h.live j (by simpa using B)).set _ _⟩;by_cases e:j=q
 .subst e;rw[kP o] at i;cases i;obtain⟨I,m⟩:=kH.1 (h.live j o).1;exact kQ _ _ _ m
 .rw[lI (nY e)] at i;rw[S4 _ _ _ _ (fun e'=>by simp only[Addr.mk.injEq] at e';exact e e'.2.1.symm)];exact h.cells j v i
def Bx.EW{b:Nat}:∀(us:List Value) (p:Nat) (W:World) (vs:List Value),Bx W b vs->p+us.length<=vs.length->Bx (EW W ⟨b,0,none⟩ p us) b (I7 vs p us)/\Mod (fun x=>x=b) W (EW W ⟨b,0,none⟩ p us):=by
 intro us;induction us with
 |nil=>intro p W vs h _;exact⟨h,Mod.refl _ _⟩
 |cons u us i=>
  intro p W vs h hl;rw[S5] at hl;simp only[YtmdhibffnkhcnaaGreatDoor.EW,I7,AH];obtain⟨h1,j⟩:=i (p+1) _ _ (h.ji (q:=p) (by omega) u) (by rw[kJ];omega);exact⟨h1,(Mod.setCell (M:=fun x=>x=b) W ⟨b,p,none⟩ u rfl).trans j⟩
def Bx.part{b n:Nat}{vs us:List Value}{K:World->Prop}(h:Bx W b vs)(i:us.length=n)(hl:n<=vs.length)(h1:∀v∈us,v.oneCell'=true)(m:∀W',Bx W' b (I7 vs 0 us)->Mod (fun x=>x=b) W W'->K W'):Ab n (.pointer (some ⟨b,0,none⟩)) (.agg us.toArray) K W:=by
 obtain⟨o,q⟩:=Bx.EW us 0 W vs h (by omega);exact⟨_,us,rfl,rfl,i,h1,fun j B=>by rw[AH];exact h.live j (by omega),m _ o q⟩
def Fk{W0 W:World}{p q n:Nat}{m us vs:List Value}{J:World->Prop}(g:Grow W0 W)(hp:W0.heap.size<=p)(O:W0.heap.size<=q)(i:p≠q)(Q:Bx W p m)(T:Bx W q m)(I:m.length=n)(hu:us.length=n)(U:vs.length=n)(V:∀v∈us,v.oneCell'=true)(ov:∀v∈vs,v.oneCell'=true)(hJ:∀W',Grow W0 W'->Bx W' p us->Bx W' q vs->J W') :
  Ab n (.pointer (some ⟨p,0,none⟩)) (.agg us.toArray) (fun j=>Mod (fun y=>W0.heap.size<=y) W j/\Ab n (.pointer (some ⟨q,0,none⟩)) (.agg vs.toArray) (fun w2=>Mod (fun y=>W0.heap.size<=y) j w2/\J w2) j) W:=by
 refine Q.over hu I V fun j X o=>⟨o.mono fun x _ e=>by rw[e];exact hp,?_⟩;refine(T.mod o fun e=>i e.symm).over U I ov fun w2 Y B=>⟨B.mono fun x _ e=>by rw[e];exact O,?_⟩;exact hJ w2 ((g.next o fun x Z e=>by omega).next B fun x Z e=>by omega) (X.mod B i) Y
section
structure Wm (g:AvK):Prop where
 split:∀{v0 v1 v2 K w},RJ g v0 v1 v2 K w->AB prog g.fsplit [v0,v1,v2] K w
 pick:∀{v0 v1 K w},cq g v0 v1 K w->AB prog g.fpick [v0,v1] K w
 melded:∀{v0 v1 K w},TD g v0 v1 K w->AB prog g.fmelded [v0,v1] K w
 replace:∀{v0 v1 v2 v3 K w},QW g v0 v1 v2 v3 K w->AB prog g.fReplace [v0,v1,v2,v3] K w
 over:∀{v0 v1 v2 v3 v4 K w},VJ g v0 v1 v2 v3 v4 K w->AB prog g.fover [v0,v1,v2,v3,v4] K w
structure AvN (α:Type) extends AvT α where
 one0:one=false
 okN:Wm toAvK
 cells:α->List Value
 Rc:∀{C w r x},R C w r x↔r=cells x
 cutc:∀{w x p},0<p->p<(k.μ x).1->(k.μ x).1<=1099511627776->BK prog Cq vc [.agg (cells x).toArray,zI (p:Int)] (fun v w'=>v=.tuple #[.agg (cells (k.cut x p).1).toArray,.agg (cells (k.cut x p).2).toArray]/\Grow w w') w
 meldc:∀{w x y},0<(k.μ x).1->(k.μ x).1<=1099511627776->(k.μ y).1<=1099511627776->BK prog Cq vd [.agg (cells x).toArray,.agg (cells y).toArray] (fun v w'=>Grow w w'/\∃r,r.length=E/\(∀u∈r,u.oneCell'=true)/\v=.tuple #[.agg r.toArray,.bool (k.meld x y).isSome]/\∀z,k.meld x y=some z->r=cells z) w
section
variable {α:Type}
def RZ(g:AvT α):Prop:=∀{F C:Nat->Prop} {W:World} {b i:Nat} {j:Int} {A:ArS α} {n:Nd α},Dj g F C W b j A->A.ps.length<=109951162777->A.f i=some n->
 AB prog g.fpick [.pointer (some ⟨b,0,none⟩),zI i] (fun v' w'=>∃r,v'=g.toAvK.enc r/\g.R C w' r n.x/\Hy g F C W w' b j (A.free i)) W
def MC(g:AvT α):Prop:=∀{F C S:Nat->Prop} {W:World} {b:Nat} {i:Int} {A:ArS α} {v:Value} {l:List α},Dj g F C W b i A->BB S g.E (g.R C) W v l->l.length<=109951162777->Dy g l->
 AB prog g.fmelded [.pointer (some ⟨b,0,none⟩),v] (fun v' w'=>AE W.heap.size g.te g.E (g.R C) w' v' (g.k.melded l)/\Grow W w') W
structure Q8 (g:AvT α) (F C:Nat->Prop) (W w':World) (b:Nat) (rt:Int) (A:ArS α) (t:Tr α) (p:Nat) (l r:Tr α) (A':ArS α):Prop where
 iG:Hy g F C W w' b rt A'
 l1:l.toL=(g.k.split t.toL p).1
 r1:r.toL=(g.k.split t.toL p).2
 hl:Tr.Holds g.k.μ A'.f l
 hr:Tr.Holds g.k.μ A'.f r
 Hn:(l.idx++r.idx).Nodup
 idx:∀q,q∈l.idx++r.idx->q∈t.idx\/A.f q=none
 same:∀q,q∉t.idx->q∉l.idx++r.idx->A'.f q=A.f q
 len:A'.ps.length<=A.ps.length+1
def Oa(g:AvT α):Prop:=∀{C:Nat->Prop} {b:Nat} {i:Int} (t:Tr α) {F:Nat->Prop} {W:World} {A:ArS α} {p:Nat},Dj g F C W b i A->A.ps.length<=109951162776->Tr.Holds g.k.μ A.f t->Tr.GG t->Dy g t.toL->p<=1099511627776->
 AB prog g.fsplit [.pointer (some ⟨b,0,none⟩),zI t.root,zI (p:Int)] (fun v' w'=>∃l r j,v'=.tuple #[zI l.root,zI r.root]/\Q8 g F C W w' b i A t p l r j) W
end
section
variable {α:Type}{g:AvT α}
def IK{b i p:Nat}{A J:ArS α}{l r a c:Tr α}{x:α}{n:Nd α}(S:Q8 g F C W w' b most A l p a c J)(hi:A.f i=some n)(hr:Tr.Holds g.k.μ A.f r)(hu:Tr.GG (.node l i x r)) :
  J.f i=some n/\Tr.Holds g.k.μ J.f r/\Tr.GG (.node c i x r)/\∀q∈a.idx,q∉(Tr.node c i x r).idx:=by
 obtain⟨Z,U,O,V,Q⟩:=Tr.BC.1 hu;have I:∀q,(∃m,A.f q=some m)->q∉l.idx->q∉a.idx++c.idx:=fun q ⟨m,hm⟩ j e=>by
  rcases S.idx q e with e|e
  .exact j e
  .rw[hm] at e;cases e
 have o:=I i ⟨n,hi⟩ O;have B:∀q∈r.idx,q∉a.idx++c.idx:=fun q j=>I q (hr.has g.k.μ j) fun e=>Q q e j;obtain⟨n1,X,Y⟩:=kM.1 S.Hn;refine⟨(S.same i O o).trans hi,hr.frame g.k.μ fun q j=>S.same q (fun e=>Q q e j) (B q j),Tr.BC.2 ⟨X,U,fun e=>o (kI _ e),V,fun q j e=>B q e (kI _ j)⟩,fun q j e=>?_⟩;simp only[Tr.idx,C3,K8] at e;rcases e with e|e|e
 .exact Y q j q e rfl
 .exact o (e▸jS _ j)
 .exact B q e (jS _ j)
def He{b i p:Nat}{A J:ArS α}{l r a c:Tr α}{x:α}{n:Nd α}(S:Q8 g F C W w' b most A r p a c J)(hi:A.f i=some n)(hl:Tr.Holds g.k.μ A.f l)(hu:Tr.GG (.node l i x r)) :
  J.f i=some n/\Tr.Holds g.k.μ J.f l/\Tr.GG (.node l i x a)/\∀q∈c.idx,q∉(Tr.node l i x a).idx:=by
 obtain⟨U,Z,V,O,Q⟩:=Tr.BC.1 hu;have I:∀q,(∃m,A.f q=some m)->q∉r.idx->q∉a.idx++c.idx:=fun q ⟨m,hm⟩ j e=>by
  rcases S.idx q e with e|e
  .exact j e
  .rw[hm] at e;cases e
 have o:=I i ⟨n,hi⟩ O;have B:∀q∈l.idx,q∉a.idx++c.idx:=fun q j=>I q (hl.has g.k.μ j) fun e=>Q q j e;obtain⟨X,n2,Y⟩:=kM.1 S.Hn;refine⟨(S.same i O o).trans hi,hl.frame g.k.μ fun q j=>S.same q (fun e=>Q q j e) (B q j),Tr.BC.2 ⟨U,X,V,fun e=>o (jS _ e),fun q j e=>B q j (jS _ e)⟩,fun q j e=>?_⟩;simp only[Tr.idx,C3,K8] at e;rcases e with e|e|e
 .exact B q e (kI _ j)
 .exact o (e▸kI _ j)
 .exact Y q e q j rfl
def FA(l:List α):∀p,Tr.sz g.k.μ (g.k.split l p).1+Tr.sz g.k.μ (g.k.split l p).2=Tr.sz g.k.μ l/\Tr.mk g.k.μ (g.k.split l p).1+Tr.mk g.k.μ (g.k.split l p).2=Tr.mk g.k.μ l:=by
 induction l with
 |nil=>intro p;simp[Kd.split,Tr.sz,Tr.mk]
 |cons x l i=>
  intro p;simp only[Kd.split];by_cases h0:p=0
  .rw[DN h0];simp[Tr.sz,Tr.mk]
  .rw[Bq h0];by_cases h1:(g.k.μ x).1<=p
   .rw[DN h1];obtain⟨j,m⟩:=i (p-(g.k.μ x).1);simp only[Tr.Bb,Tr.Cy];omega
   .rw[Bq h1];obtain⟨c1,c2,o⟩:=g.cutμ x p (by omega) (by omega);simp only[Tr.Bb,Tr.Cy];simp only[Tr.sz,Tr.mk,lp,my];omega
def Dy.split{l:List α}(h:Dy g l)(p:Nat):Dy g (g.k.split l p).1/\Dy g (g.k.split l p).2:=by
 obtain⟨h1,i⟩:=FA (g:=g) l p;obtain⟨j,m⟩:=h;exact⟨⟨by omega,by omega⟩,by omega,by omega⟩
end
section
variable {α:Type}{g:AvN α}
def TI(r:List Value):g.toAvK.enc r=.agg r.toArray:=by unfold AvK.enc;rw[g.one0];rfl
def CQ(x:α):(g.cells x).length=g.E:=g.rlen (C:=fun _=>False) (w:=default) (g.Rc.2 rfl)
def cells_one(x:α):∀u∈g.cells x,u.oneCell'=true:=g.rone (C:=fun _=>False) (w:=default) (g.Rc.2 rfl)
def ie:RZ g.toAvT:=by
 intro F C W b i Z A n h hs hi;apply g.okN.pick;unfold cq;refine Bx.zero fun b4 w1 o J T=>?_;have h1:=h.grow J;have key:=RO h1 hi;refine AA key ?_;rintro _ w2 ⟨r,rfl,hr,q⟩;have j:=g.rlen hr;refine Ae (g.field0 r (BV n) w2 j (g.rone hr) rfl) ?_;rw[TI];refine Bx.new j g.zlen (g.rone hr) fun b5 w5 a6 B B5=>?_;have h5:=(h1.grow q).grow B;obtain⟨c,pl,fr,U⟩:=h5;refine AI ?_;refine Bh (U.box.cells 3 _ rfl) ?_;refine AA (L2 U hi hs) ?_;rintro _ w7 ⟨F',a1,V,h7,I⟩;have a7:g.R C w7 r n.x:=g.Rc.2 (g.Rc.1 hr);have s4:=J.size;have s2:=q.size;have s5:=B.size;have s7:=I.size;have nF:∀{z:Nat},W.heap.size<=z->∀x,F x\/C x->x≠z:=fun hz x m e=>by have:=h.lt x m;omega
 have O:=B5.mod I fun e=>nF (by omega) b5 (.inl e.1) rfl;have Q:=((T.grow q).grow B).mod I fun e=>nF (by omega) b4 (.inl e.1) rfl;have X:b4<w1.heap.size:=T.lt (by rw[g.zlen];exact g.Epos);refine O.E0 j ?_;refine Q.over j g.zlen (g.rone hr) fun w9 B9 Y=>?_;refine B9.E0 j ?_;have h9:Dj g.toAvT F' C w9 b Z (A.free i):=h7.mod Y fun x m e=>by
  rcases m with m|m
  .rcases V x m with e'|e'
   .exact nF o x (.inl e') e
   .omega
  .exact nF o x (.inr m) e
 refine⟨r,(TI r).symm,g.Rc.2 (g.Rc.1 hr),F',a1,fun x m=>?_,h9,?_⟩
 .rcases V x m with e|e
  .exact .inl e
  .exact .inr (by omega)
 .exact((((J.trans q).trans B).mono fun _ _ h=>h.elim).trans I).next Y fun y hy e=>by omega
end
variable {α:Type}{g:AvN α}
def Gh{a c:Nat}{k:Value->Prop}(h:c<=a)(ha:a<=9223372036854775807)(hk:k (zI (a-c:Nat))):BR .i64 (zI a) (zI c) k:=by
 rw[Aq,wrap64 (by omega) (by omega)];have e:((a:Int)-(c:Int))=((a-c:Nat):Int):=by omega
 rw[e];exact hk
def cm{r:List Value}(hr:r.length=g.E)(x:α):Instr.fill (fun i=>[(0,g.E),(g.E,1),(g.E+1,1),(g.E+2,1),(g.E+3,1),(g.E+4,1)][i]?) g.toAvK.zN.toArray [(0,.agg r.toArray)]=some (r++BV (⟨x,0,0,0,0,0⟩:Nd α)).toArray:=by
 have j:=g.zlen;rw[DB (l:=g.toAvK.zN) (vs:=r) (off:=0) (len:=g.E) rfl rfl hr (by rw[H9];omega),FQ,AvK.zN,Hp (by omega)];rfl
def Pd{b i:Nat}{j:Int}{A:ArS α}{n:Nd α}{l r:Tr α}(h:Dj g.toAvT F C W b j A)(m:A.ps.length<=109951162777)(hi:A.f i=some n)(hl:Tr.Holds g.k.μ A.f l)(hr:Tr.Holds g.k.μ A.f r)(hu:Tr.GG (.node l i n.x r))(hb:Dy g.toAvT (Tr.node l i n.x r).toL) :
  AB prog g.fjoin [.pointer (some ⟨b,0,none⟩),zI l.root,zI i,zI r.root] (fun v' w'=>∃t' o,v'=zI t'.root/\X0 g.toAvT F C W w' b j A (Tr.node l i n.x r).toL (Tr.node l i n.x r).idx t' o) W:=
 Fu (l.Df+r.Df) (Mp _) h m hi hl hr hu hb
def QJ(A:ArS α)(n:Nd α):(A.take n).ps.length<=A.ps.length+1:=by
 unfold ArS.take;split<;>simp
set_option maxRecDepth 4000 in
def dq:Oa g.toAvT:=by
 intro C b rt t;induction t with
 |nil=>
  intro F W A p h hs _ _ _ _;apply g.okN.split;unfold RJ;simp only[Tr.root];rw[Aj];refine AF (fun _=>?_) fun e=>(e rfl).elim;exact⟨.nil,.nil,A,rfl,⟨⟨F,fun _ h=>h,fun _ h=>.inl h,h,Mod.refl _ _⟩,rfl,rfl,trivial,trivial,nf,(fun q I=>nomatch I),fun _ _ _=>rfl,rH _⟩⟩
 |node l i x r eB eC=>
  intro F W A p h hs hh hu hb hp;obtain⟨hl,hr,hi⟩:=id hh;obtain⟨u1,u2,u3,u4,u5⟩:=Tr.BC.1 hu;have X:=g.k.Mt l.toL r.toL x p;have bp:=hb.1;have bs:=hb.2;simp only[Tr.toL,Tr.CT,Tr.Bb] at bp;simp only[Tr.toL,Tr.Fo,Tr.Cy] at bs;have nF:∀{z:Nat},W.heap.size<=z->∀x,F x\/C x->x≠z:=fun hz x hx e=>by have:=h.lt x hx;omega
  apply g.okN.split;unfold RJ;simp only[Tr.root];rw[Aj];refine AF (fun e=>by omega) fun _=>?_;refine Dq h hi fun rc bx w3 U c4 B ax=>?_;have a1:=g.rlen ax;have da:=g.Rc.1 ax;have h3:=h.grow U;refine Bh (B.cells (g.E+0) _ (by rw[AZ a1];rfl)) ?_;refine AA (CE h3 hl) ?_;rintro _ w5 ⟨rfl,g5⟩;refine Kj ?_;have dk:Grow w5 w5.drew:=Mod.drew _ _;have dT:=(U.trans g5).trans dk;obtain⟨c,pl,fr,hT⟩:=id h;have bb:=hT.mod dT fun _ _ h=>h;have B5:=(B.grow g5).grow dk;refine Af (fun _ _=>False) ?_;refine AI ?_;rw[AG,AH,AG,AH];refine AU ⟨bb.box.cells 0 _ rfl,fun _ _ e=>e⟩ ?_;rw[AG,AH];refine JK (g:=g.toAvT) (r:=rc) a1 (fun j v hv=>⟨B5.cells j v (by rw[Q0 (Ad.1 hv).1];exact hv),fun _ _ e=>e⟩) ?_;refine Aw (g.meas (C:=C) (x:=x) (g.Rc.2 (g.Rc.1 ax))) ?_;rintro _ w6 ⟨rfl,g6⟩;refine⟨g6.mono fun _ _ h=>h.elim,?_⟩;refine BO ?_;have ay:=dT.trans g6;have h9:=ay.size;have h6:=h.grow ay;have B6:=B5.grow g6;rw[IG];refine AF (fun hd=>?_) fun h0=>?_
  .have e5:p<=Tr.sz g.k.μ l.toL:=by omega
   rw[DN e5] at X;refine Bh (B6.cells (g.E+0) _ (by rw[AZ a1];rfl)) ?_;refine AA (eB h6 hs hl u1 hb.app.1 hp) ?_;rintro _ w8 ⟨a,c1,A1,rfl,o⟩;refine BO ?_;obtain⟨F1,k1,k2,h8,m8⟩:=o.iG;have B8:=B6.mod m8 fun e=>nF c4 bx (.inl e.1) rfl;refine Bh (B8.cells (g.E+1) _ (by rw[AZ a1];rfl)) ?_;obtain⟨e1,e2,e3,e4⟩:=IK o hi hr hu;have c6:Dy g.toAvT (Tr.node c1 i x r).toL:=by
    obtain⟨q1,q2⟩:=FA (g:=g.toAvT) l.toL p;constructor
    .simp only[Tr.toL,Tr.CT,Tr.Bb,o.r1];omega
    .simp only[Tr.toL,Tr.Fo,Tr.Cy,o.r1];omega
   have eI:=o.len;refine AA (Fu (c1.Df+r.Df) (Mp _) h8 (by omega) e1 o.hr e2 e3 c6) ?_;rintro _ eL ⟨t2,A2,rfl,O⟩;have perm:=O.idx;have sm:∀q,q∈t2.idx↔q∈(Tr.node c1 i x r).idx:=fun q=>O.idx.mem_iff;have s8:=m8.size;refine⟨a,t2,A2,rfl,⟨⟨F1,k1,fun x hx=>(k2 x hx).imp (fun h=>h) fun h=>by omega,O.EH,((ay.mono fun _ _ h=>h.elim).trans m8).next O.mod fun x hx e=>?_⟩,?_,?_,o.hl.frame g.k.μ fun q I=>O.same q (e4 q I),O.holds,?_,fun q I=>?_,fun q a8 ak=>?_,by rw[O.len];omega⟩⟩
   .rcases k2 x e.1 with e'|e'
    .exact⟨e',e.2⟩
    .omega
   .rw[o.l1];simp only[Tr.toL,X]
   .rw[O.toL];simp only[Tr.toL,Tr.EB,o.r1,X]
   .exact kM.2 ⟨(kM.1 o.Hn).1,O.idx.nodup_iff.2 e3,fun q I q' b6 e=>e4 q I (e▸(sm q').1 b6)⟩
   .rcases C3.1 I with I|I
    .rcases o.idx q (jS _ I) with e|e
     .exact .inl (by simp[Tr.idx,e])
     .exact .inr e
    .have:=(sm q).1 I;simp only[Tr.idx,C3,K8] at this ⊢;rcases this with e|e|e
     .rcases o.idx q (kI _ e) with e|e
      .exact .inl (.inl e)
      .exact .inr e
     .exact .inl (.inr (.inl e))
     .exact .inl (.inr (.inr e))
   .simp only[Tr.idx,C3,K8,qo] at a8;have b7:q∉(Tr.node c1 i x r).idx:=fun e=>ak (kI _ ((sm q).2 e));refine(O.same q b7).trans (o.same q a8.1 fun e=>?_);rcases C3.1 e with e|e
    .exact ak (jS _ e)
    .exact b7 (by simp[Tr.idx,e])
  have c7:¬p<=Tr.sz g.k.μ l.toL:=by omega
  rw[Bq c7] at X;refine CJ (by omega) ?_;rw[DW];refine AF (fun hf=>?_) fun h2=>?_
  .have e6:Tr.sz g.k.μ l.toL+(g.k.μ x).1<=p:=by omega
   rw[DN e6] at X;refine Bh (B6.cells (g.E+1) _ (by rw[AZ a1];rfl)) ?_;refine Gh (by omega) (by omega) (Gh (by omega) (by omega) ?_);refine AA (eC h6 hs hr u2 hb.app.2.cons.1 (p:=p-Tr.sz g.k.μ l.toL-(g.k.μ x).1) (by omega)) ?_;rintro _ w8 ⟨a,c1,A1,rfl,o⟩;refine BO ?_;obtain⟨F1,k1,k2,h8,m8⟩:=o.iG;have B8:=B6.mod m8 fun e=>nF c4 bx (.inl e.1) rfl;refine Bh (B8.cells (g.E+0) _ (by rw[AZ a1];rfl)) ?_;obtain⟨e1,e2,e3,e4⟩:=He o hi hl hu;have c6:Dy g.toAvT (Tr.node l i x a).toL:=by
    obtain⟨q1,q2⟩:=FA (g:=g.toAvT) r.toL (p-Tr.sz g.k.μ l.toL-(g.k.μ x).1);constructor
    .simp only[Tr.toL,Tr.CT,Tr.Bb,o.l1];omega
    .simp only[Tr.toL,Tr.Fo,Tr.Cy,o.l1];omega
   have eI:=o.len;refine AA (Fu (l.Df+a.Df) (Mp _) h8 (by omega) e1 e2 o.hl e3 c6) ?_;rintro _ eL ⟨t2,A2,rfl,O⟩;have sm:∀q,q∈t2.idx↔q∈(Tr.node l i x a).idx:=fun q=>O.idx.mem_iff;have s8:=m8.size;refine⟨t2,c1,A2,rfl,⟨⟨F1,k1,fun x hx=>(k2 x hx).imp (fun h=>h) fun h=>by omega,O.EH,((ay.mono fun _ _ h=>h.elim).trans m8).next O.mod fun x hx e=>?_⟩,?_,?_,O.holds,o.hr.frame g.k.μ fun q I=>O.same q (e4 q I),?_,fun q I=>?_,fun q a8 ak=>?_,by rw[O.len];omega⟩⟩
   .rcases k2 x e.1 with e'|e'
    .exact⟨e',e.2⟩
    .omega
   .rw[O.toL];simp only[Tr.toL,Tr.EB,o.l1,X]
   .rw[o.r1];simp only[Tr.toL,X]
   .exact kM.2 ⟨O.idx.nodup_iff.2 e3,(kM.1 o.Hn).2.1,fun q I q' b6 e=>e4 q' b6 (e▸(sm q).1 I)⟩
   .rcases C3.1 I with I|I
    .have:=(sm q).1 I;simp only[Tr.idx,C3,K8] at this ⊢;rcases this with e|e|e
     .exact .inl (.inl e)
     .exact .inl (.inr (.inl e))
     .rcases o.idx q (jS _ e) with e|e
      .exact .inl (.inr (.inr e))
      .exact .inr e
    .rcases o.idx q (kI _ I) with e|e
     .exact .inl (by simp[Tr.idx,e])
     .exact .inr e
   .simp only[Tr.idx,C3,K8,qo] at a8;have b7:q∉(Tr.node l i x a).idx:=fun e=>ak (jS _ ((sm q).2 e));refine(O.same q b7).trans (o.same q a8.2.2 fun e=>?_);rcases C3.1 e with e|e
    .exact b7 (by simp[Tr.idx,e])
    .exact ak (kI _ e)
  have c8:¬Tr.sz g.k.μ l.toL+(g.k.μ x).1<=p:=by omega
  rw[Bq c8] at X;have c9:0<p-Tr.sz g.k.μ l.toL:=by omega
  have ca:p-Tr.sz g.k.μ l.toL<(g.k.μ x).1:=by omega
  generalize eN:p-Tr.sz g.k.μ l.toL=J at X c9 ca;have b0:Grow w6 w6.drew:=Mod.drew _ _;refine AV (fun vs W'=>∃a7 Y,vs=[.pointer (some ⟨a7,0,none⟩),.pointer (some ⟨Y,0,none⟩)]/\w6.drew.heap.size<=a7/\w6.drew.heap.size<=Y/\Grow w6.drew W'/\Bx W' a7 (g.cells (g.k.cut x J).1)/\Bx W' Y (g.cells (g.k.cut x J).2)) ?_ ?_;rotate_left
  .have al:∀{W':World},BK prog Cq g.vc [.agg (g.cells x).toArray,zI (J:Int)] (fun v w'=>v=.tuple #[.agg (g.cells (g.k.cut x J).1).toArray,.agg (g.cells (g.k.cut x J).2).toArray]/\Grow W' w') W':=g.cutc c9 ca (by omega);have e7:=B6.grow b0;have e8:=hT.mod (ay.trans b0) fun _ _ h=>h;have h5:=e8.box.lt (S3 _);have eR:=e7.lt (by rw[BI _ ax];omega);have s6:=b0.size;refine Af (fun _ y=>w6.drew.heap.size<=y) ?_;refine AI ?_;rw[AG,AH,AG,AH];refine AU ⟨e8.box.cells 1 _ rfl,fun _ _ e=>by simp only at e;omega⟩ ?_;rw[AG,AH];refine Ch a1 (fun j v hv=>⟨by rw[AH];exact e7.cells j v (by rw[Q0 (Ad.1 hv).1];exact hv),fun _ _ e=>by rw[AH] at e;simp only at e;omega⟩) ?_;refine Gh (by omega) (by omega) ?_;rw[eN,da];have Z:=CQ (g:=g) (g.k.cut x J).1;have a6:=CQ (g:=g) (g.k.cut x J).2;have b1:=cells_one (g:=g) (g.k.cut x J).1;have b2:=cells_one (g:=g) (g.k.cut x J).2;have gm:∀{W1 W2:World},Grow W1 W2->Mod (fun y=>w6.drew.heap.size<=y) W1 W2:=fun g=>g.mono fun _ _ h=>h.elim;have nb:∀{z:Nat} {W':World} {vs:List Value},Bx W' z vs->vs.length=g.E->z<W'.heap.size:=fun B' e=>B'.lt (by rw[e];exact g.Epos);have ng:∀{W1:World},Grow w6.drew W1->w6.drew.heap.size<=W1.heap.size:=fun g=>g.size;refine⟨?_,?_,?_⟩
   .refine Aw al ?_;rintro _ w2 ⟨rfl,V⟩;refine⟨gm V,CL (vs:=[_,_]) (by rfl) (CL (vs:=[_,_]) (by rfl) ⟨?_,?_⟩)⟩
    .refine Bx.zero fun a7 w3 an U Q=>⟨gm U,?_⟩;refine Bx.zero fun Y w4 av g4 T=>⟨gm g4,?_⟩;have k1:=nb Q g.zlen;have k2:=V.size;have k3:=U.size;exact Fk ((V.trans U).trans g4) (by omega) (by omega) (by omega) (Q.grow g4) T g.zlen Z a6 b1 b2 fun W' g' B1 B2=>⟨_,_,rfl,by omega,by omega,g',B1,B2⟩
    .refine Bx.zero fun Y w3 av U T=>⟨gm U,?_⟩;refine Bx.zero fun a7 w4 an g4 Q=>⟨gm g4,?_⟩;have k1:=nb T g.zlen;have k2:=V.size;have k3:=U.size;exact Fk ((V.trans U).trans g4) (by omega) (by omega) (by omega) Q (T.grow g4) g.zlen Z a6 b1 b2 fun W' g' B1 B2=>⟨_,_,rfl,by omega,by omega,g',B1,B2⟩
   .refine Bx.zero fun a7 w1 an g1 Q=>⟨gm g1,?_,?_⟩
    .refine Aw al ?_;rintro _ w2 ⟨rfl,V⟩;refine⟨gm V,BO ?_⟩;refine Bx.zero fun Y w3 av U T=>⟨gm U,?_⟩;have k1:=nb Q g.zlen;have k2:=V.size;have k3:=g1.size;exact Fk ((g1.trans V).trans U) (by omega) (by omega) (by omega) ((Q.grow V).grow U) T g.zlen Z a6 b1 b2 fun W' g' B1 B2=>⟨_,_,rfl,by omega,by omega,g',B1,B2⟩
    .refine Bx.zero fun Y w3 av U T=>⟨gm U,?_⟩;refine Aw al ?_;rintro _ w2 ⟨rfl,V⟩;refine⟨gm V,BO ?_⟩;have k1:=nb Q g.zlen;have k2:=U.size;have k3:=g1.size;exact Fk ((g1.trans U).trans V) (by omega) (by omega) (by omega) ((Q.grow U).grow V) (T.grow V) g.zlen Z a6 b1 b2 fun W' g' B1 B2=>⟨_,_,rfl,by omega,by omega,g',B1,B2⟩
   .refine Bx.zero fun Y w1 av g1 T=>⟨gm g1,?_,?_⟩
    .refine Aw al ?_;rintro _ w2 ⟨rfl,V⟩;refine⟨gm V,BO ?_⟩;refine Bx.zero fun a7 w3 an U Q=>⟨gm U,?_⟩;have k1:=nb T g.zlen;have k2:=V.size;have k3:=g1.size;exact Fk ((g1.trans V).trans U) (by omega) (by omega) (by omega) Q ((T.grow V).grow U) g.zlen Z a6 b1 b2 fun W' g' B1 B2=>⟨_,_,rfl,by omega,by omega,g',B1,B2⟩
    .refine Bx.zero fun a7 w3 an U Q=>⟨gm U,?_⟩;refine Aw al ?_;rintro _ w2 ⟨rfl,V⟩;refine⟨gm V,BO ?_⟩;have k1:=nb T g.zlen;have k2:=U.size;have k3:=g1.size;exact Fk ((g1.trans U).trans V) (by omega) (by omega) (by omega) (Q.grow V) ((T.grow U).grow V) g.zlen Z a6 b1 b2 fun W' g' B1 B2=>⟨_,_,rfl,by omega,by omega,g',B1,B2⟩
  rintro _ W1 ⟨a7,Y,rfl,an,av,e9,Q,T⟩ _;have s6:=b0.size;have eX:Grow W W1:=(ay.trans b0).trans e9;have B1:=(B6.grow b0).grow e9;refine Cx (fun w'=>Grow W1 w') (Mod.drew _ _) ?_;rw[AG,AH];refine Ay (fun w' g'=>g'.cell (B1.cells (g.E+0) _ (by rw[AZ a1];rfl)) fun h=>h) ?_;rw[AG,AH];refine Ay (fun w' g'=>g'.cell (B1.cells (g.E+1) _ (by rw[AZ a1];rfl)) fun h=>h) ?_;intro W2 bc;have fa:=eX.trans bc;have B2:=B1.grow bc;have ea:=Q.grow bc;have ed:=T.grow bc;simp only[GC];have Z:=CQ (g:=g) (g.k.cut x J).1;have a6:=CQ (g:=g) (g.k.cut x J).2;refine ea.E0 Z ?_;rw[AG,AH];refine B2.part Z (by rw[BI _ ax];omega) (cells_one (g:=g) (g.k.cut x J).1) fun W3 B3 m3=>?_;rw[Hp (by rw[Z,a1])] at B3;have fo:Grow W W3:=fa.next m3 fun y hy e=>by omega
  have h7:=B6.lt (by rw[BI _ ax];omega);have cc:Grow W3 W3.drew:=Mod.drew _ _;have b8:=fo.trans cc;have b9:=hT.mod b8 fun _ _ h=>h;have fs:=B3.grow cc;have ee:=(ed.mod m3 fun e=>by omega).grow cc;refine Af (fun _ y=>Fb F b y) ?_;refine AI ?_;rw[AG,AH];refine AU ⟨b9.box.cells 3 _ rfl,fun _ _ e=>e.2 rfl⟩ ?_;refine Ch (vs:=g.cells (g.k.cut x J).1++BV (Tr.EB g.k.μ (.node l i x r) x l.root r.root)) (by rw[Bp,Z];rfl) (fun j v hv=>⟨by rw[AH];exact fs.cells j v hv,fun _ _ e=>by rw[AH] at e;exact nF c4 bx (.inl e.1) rfl⟩) ?_;refine AA (Sz b9.ar hi (n:={ Tr.EB g.k.μ (.node l i x r) x l.root r.root with x:=(g.k.cut x J).1 }) (g.Rc.2 rfl)) ?_;rintro _ W4 ⟨fv,m4⟩;have ba:Mod (Fb F b) W3.drew W4:=m4.mono fun x _ e=>(b9.ar.pF x e).1;refine⟨ba,?_⟩;have h4:Dj g.toAvT F C W4 b rt (A.put i { Tr.EB g.k.μ (.node l i x r) x l.root r.root with x:=(g.k.cut x J).1 }):=⟨c,pl,fr,b9.box.mod ba fun e=>e.2 rfl,fv,b9.fb⟩;have ef:(A.put i { Tr.EB g.k.μ (.node l i x r) x l.root r.root with x:=(g.k.cut x J).1 }).f i=some { Tr.EB g.k.μ (.node l i x r) x l.root r.root with x:=(g.k.cut x J).1 }:=by rw[ArS.Jw hi,Tr.KD]
  have eh:Tr.Holds g.k.μ (A.put i { Tr.EB g.k.μ (.node l i x r) x l.root r.root with x:=(g.k.cut x J).1 }).f l:=by rw[ArS.Jw hi];exact hl.out g.k.μ _ u3
  have ej:Tr.Holds g.k.μ (A.put i { Tr.EB g.k.μ (.node l i x r) x l.root r.root with x:=(g.k.cut x J).1 }).f r:=by rw[ArS.Jw hi];exact hr.out g.k.μ _ u4
  have ch:∀q,q≠i->(A.put i { Tr.EB g.k.μ (.node l i x r) x l.root r.root with x:=(g.k.cut x J).1 }).f q=A.f q:=fun q I=>Hw hi I;have jX:=Dh A i { Tr.EB g.k.μ (.node l i x r) x l.root r.root with x:=(g.k.cut x J).1 };generalize A.put i { Tr.EB g.k.μ (.node l i x r) x l.root r.root with x:=(g.k.cut x J).1 }=A4 at h4 ef eh ej ch jX;have bl:=ee.mod ba fun e=>by have:=h.lt Y (.inl e.1);omega
  have bd:Grow W4 W4.drew:=Mod.drew _ _;have ek:=h4.grow bd;have eA:=bl.lt (by rw[a6];exact g.Epos);refine Af (fun _ y=>Fb F b y\/W4.drew.heap.size<=y) ?_;obtain⟨q1,q2,q3⟩:=g.cutμ x J c9 ca;have en:Tr.GG (.node l i (g.k.cut x J).1 .nil):=Tr.BC.2 ⟨u1,nf,u3,(fun e=>nomatch e),fun q _ e=>nomatch e⟩;have ga:Dy g.toAvT (Tr.node l i (g.k.cut x J).1 .nil).toL:=by
   constructor
   .simp only[Tr.toL,Tr.CT,Tr.Bb];simp only[Tr.sz,lp,my] at bp ⊢;omega
   .simp only[Tr.toL,Tr.Fo,Tr.Cy];simp only[Tr.mk,lp,my] at bs ⊢;omega
  refine AA (Pd (l:=l) (r:=.nil) ek (by omega) ef eh trivial en ga) ?_;rintro _ W5 ⟨t1,A5,rfl,o⟩;refine⟨o.mod.mono fun x _ e=>.inl e,?_⟩;have z4:=bd.size;obtain⟨c',hg,hj,bb⟩:=id o.EH;refine AI ?_;rw[AG,AH];obtain⟨cd,hn,ho,cn⟩:=id ek;have cv:=bb.box.cells 3 _ rfl;have gb:¬(Fb F b b\/W4.drew.heap.size<=b):=fun e=>by
   rcases e with e|e
   .exact e.2 rfl
   .have:=cn.box.lt (S3 _);omega
  have ec:cd=c':=by
   have e1:=o.mod.cell (cn.box.cells 3 _ rfl) fun e=>e.2 rfl;rw[cv] at e1;cases e1;rfl
  subst ec;refine AU ⟨cn.box.cells 3 _ rfl,fun _ _ e=>gb e⟩ ?_;refine Ch a6 (fun j v hv=>⟨by rw [AH];exact bd.cell (bl.cells j v hv) fun h=>h,fun k _ e=>by
   rw[AH] at e;rcases e with e|e
   .have:=h.lt Y (.inl e.1);omega
   .simp only at e;omega⟩) ?_
  refine⟨_,cm a6 (g.k.cut x J).2,?_⟩;have bT:=o.len;refine AA (Ll bb (n:=⟨(g.k.cut x J).2,0,0,0,0,0⟩) (g.Rc.2 rfl) (by omega)) ?_;rintro _ W6 ⟨rfl,F6,k1,k2,h6,m6⟩;have z5:=o.mod.size;have z6:=m6.size;refine⟨m6.mono fun x _ e=>.inl e,?_⟩;obtain⟨bk,eo,tok⟩:=ArS.Rf (⟨(g.k.cut x J).2,0,0,0,0,0⟩:Nd α) o.EH.ok;have ep:A5.num∉(Tr.node l i (g.k.cut x J).1 .nil).idx->A4.f A5.num=none:=fun I=>(o.same _ I).symm.trans eo;have cx:A5.num∉t1.idx:=fun e=>by
   obtain⟨m,hm⟩:=o.holds.has g.k.μ e;rw[eo] at hm;cases hm
  have er:A5.num∉(Tr.node l i (g.k.cut x J).1 .nil).idx:=fun e=>cx (o.idx.mem_iff.2 e);have gd:=ep er;have gf:A5.num≠i:=fun e=>er (by simp[Tr.idx,e]);have et:A.f A5.num=none:=(ch _ gf).symm.trans gd;have eu:A5.num∉r.idx:=fun e=>by
   obtain⟨m,hm⟩:=hr.has g.k.μ e;rw[et] at hm;cases hm
  have gg:Tr.Holds g.k.μ A5.f r:=ej.frame g.k.μ fun q I=>o.same q fun e=>by
   simp only[Tr.idx,C3,K8,kU,mb] at e;rcases e with e|e
   .exact u5 q e I
   .exact u4 (e▸I)
  have gl:Tr.Holds g.k.μ (A5.take ⟨(g.k.cut x J).2,0,0,0,0,0⟩).f r:=by rw[bk];exact gg.out g.k.μ _ eu
  have gw:(A5.take ⟨(g.k.cut x J).2,0,0,0,0,0⟩).f A5.num=some ⟨(g.k.cut x J).2,0,0,0,0,0⟩:=by rw[bk,Tr.KD]
  have dy:(A5.take ⟨(g.k.cut x J).2,0,0,0,0,0⟩).ps.length<=A5.ps.length+1:=QJ _ _;have ew:Tr.GG (.node .nil A5.num (g.k.cut x J).2 r):=Tr.BC.2 ⟨nf,u2,(fun e=>nomatch e),eu,fun q e=>nomatch e⟩;have gA:Dy g.toAvT (Tr.node .nil A5.num (g.k.cut x J).2 r).toL:=by
   constructor
   .simp only[Tr.toL,Tr.CT,Tr.Bb];simp only[Tr.sz,lp,my] at bp ⊢;omega
   .simp only[Tr.toL,Tr.Fo,Tr.Cy];simp only[Tr.mk,lp,my] at bs ⊢;omega
  refine AA (Pd (l:=.nil) (r:=r) h6 (by omega) gw trivial gl ew gA) ?_;rintro _ W7 ⟨t2,A7,rfl,O⟩;refine⟨O.mod.mono fun x _ e=>?_,?_⟩
  .rcases k2 x e.1 with e'|e'
   .exact .inl ⟨e',e.2⟩
   .exact .inr (by omega)
  have ey:∀q,q∈t1.idx↔q∈l.idx\/q=i:=fun q=>by rw[o.idx.mem_iff];simp[Tr.idx]
  have gB:∀q,q∈t2.idx↔q=A5.num\/q∈r.idx:=fun q=>by rw[O.idx.mem_iff];simp[Tr.idx]
  have bn:∀q∈t1.idx,q∉(Tr.node .nil A5.num (g.k.cut x J).2 r).idx:=fun q I e=>by
   simp only[Tr.idx,ky,K8] at e;rcases e with e|e
   .exact cx (e▸I)
   .rcases(ey q).1 I with e'|e'
    .exact u5 q e' e
    .exact u4 (e'▸e)
  have gW:Tr.Holds g.k.μ (A5.take ⟨(g.k.cut x J).2,0,0,0,0,0⟩).f t1:=by rw[bk];exact o.holds.out g.k.μ _ cx
  have z7:=b8.size;have z8:=ba.size;refine⟨t1,t2,A7,rfl,⟨⟨F6,k1,fun x hx=>(k2 x hx).imp (fun h=>h) fun h=>by omega,O.EH,?_⟩,?_,?_,gW.frame g.k.μ fun q I=>O.same q (bn q I),O.holds,?_,fun q I=>?_,fun q a8 ak=>?_,by rw[O.len];omega⟩⟩
  .have n1:Mod (Fb F b) W W4:=(b8.mono fun _ _ h=>h.elim).trans ba;have n2:=((n1.trans (bd.mono fun _ _ h=>h.elim)).trans o.mod).trans m6;refine n2.next O.mod fun x hx e=>?_;rcases k2 x e.1 with e'|e'
   .exact⟨e',e.2⟩
   .omega
  .rw[o.toL];simp only[Tr.toL,X]
  .rw[O.toL];simp only[Tr.toL,X,ky]
  .refine kM.2 ⟨o.idx.nodup_iff.2 en,O.idx.nodup_iff.2 ew,fun q I q' b6 e=>?_⟩;subst e;exact bn q I (O.idx.mem_iff.1 b6)
  .rcases C3.1 I with I|I
   .rcases(ey q).1 I with e|e
    .exact .inl (by simp[Tr.idx,e])
    .exact .inl (by simp[Tr.idx,e])
   .rcases(gB q).1 I with e|e
    .exact .inr (e▸et)
    .exact .inl (by simp[Tr.idx,e])
  .simp only[Tr.idx,C3,K8,qo] at a8;have w1:q∉(Tr.node .nil A5.num (g.k.cut x J).2 r).idx:=fun e=>ak (kI _ (O.idx.mem_iff.2 e));have w2:q∉(Tr.node l i (g.k.cut x J).1 .nil).idx:=fun e=>ak (jS _ (o.idx.mem_iff.2 e));have w3:q≠A5.num:=fun e=>w1 (by simp[Tr.idx,e]);have e2:(A5.take ⟨(g.k.cut x J).2,0,0,0,0,0⟩).f q=A5.f q:=by rw[bk,Tr.DY _ w3]
   exact((O.same q w1).trans (e2.trans (o.same q w2))).trans (ch q a8.2.1)
end
end Go.Proofs.YtmdhibffnkhcnaaGreatDoor
