/- parts of the proof, written short by a program of ours -/
import Derived.Test.YtmdhibffnkhcnaaGreatDoorZTextPartsUpto1
import Derived.Laws.IdiomStrings
import Derived.MapKept
set_option linter.unusedSimpArgs false
set_option linter.unusedVariables false
namespace Go.Proofs.YtmdhibffnkhcnaaGreatDoor
open Go Go.K Proofs.Tryz
theorem Gf.low{D:Nat->Prop}{w:World}{r:List Value}{c:Cel}(h:Gf D w r c):Gf (fun b=>b<w.heap.size) w r c:=by
 obtain⟨sv,rfl,i⟩:=h;exact⟨sv,rfl,i.sub (fun b hb _=>hb) (by decide) fun _ _ h=>h⟩
theorem Ep.grow{S D:Nat->Prop}{w w':World}{v:Value}{l:List Cel}(h:Ep S D w v l)(i:Grow w w'):Ep S D w' v l:=
 BH.grow h i (by decide) fun _ _ j=>j.mod i (fun _ _ _ h=>h) fun _ _ h=>h
def rep(n:Int)(s:List Attr):List (List Attr):=List.replicate n.toNat s
def pl(l:List Fo):List (List Attr):=l.flatMap fun b=>rep b.n b.set
def NonNeg(l:List Fo):Prop:=∀b∈l,0<=b.n
abbrev U3:Nat:=4611686018427387904
theorem VX:pl []=[]:=rfl
theorem GM(l m:List Fo):pl (l++m)=pl l++pl m:=by simp[pl]
theorem LB(b:Fo):pl [b]=rep b.n b.set:=by simp[pl]
theorem Fh(b:Fo)(l:List Fo):pl (b::l)=rep b.n b.set++pl l:=by simp[pl]
theorem Fg(n:Int)(s:List Attr):(rep n s).length=n.toNat:=by simp[rep]
theorem MZ{acc:List Fo}{n:Int}{s:List Attr}(ha:NonNeg acc)(hb:(pl acc).length+n.toNat<=U3):pl (HU acc n s)=pl acc++rep n s/\NonNeg (HU acc n s):=by
 by_cases E:n<=0
 .rw[MF E];refine⟨?_,ha⟩;have:n.toNat=0:=by omega
  simp[rep,this]
 have o:0<n:=by omega
 rcases IA acc with rfl|⟨i,b,rfl⟩
 .rw[Nk o];refine⟨by simp[pl],fun x j=>?_⟩;simp at j;subst j;simp only;omega
 .rw[Lv o];have y:=ha b (by simp);rw[GM,List.length_append,LB,Fg] at hb;simp only[U3] at hb;by_cases B:b.set=s
  .rw[if_pos B,wrap64 (by omega) (by omega)];refine⟨?_,fun x j=>?_⟩
   .rw[GM,GM,LB,LB,List.append_assoc];congr 1
    simp only[rep,<-B,List.replicate_append_replicate];congr 1;omega
   .simp only[List.mem_append,List.mem_singleton] at j;rcases j with j|rfl
    .exact ha x (by simp[j])
    .simp only;omega
  .rw[if_neg B];refine⟨by rw[GM (i++[b]),LB],fun x j=>?_⟩;simp only[List.mem_append,List.mem_singleton] at j;rcases j with(j|rfl)|rfl
   .exact ha x (by simp[j])
   .exact y
   .simp only;omega
theorem VV:∀(l acc:List Fo),NonNeg acc->(pl acc).length+(pl l).length<=U3->pl (Qt acc l)=pl acc++pl l/\NonNeg (Qt acc l):=by
 intro l;induction l with
 |nil=>intro acc ha _;exact⟨by simp[Qt,pl],ha⟩
 |cons b l i=>
  intro acc ha hb;rw[Fh,List.length_append,Fg] at hb;obtain⟨h1,j⟩:=MZ (s:=b.set) (n:=b.n) ha (by omega);obtain⟨o,x⟩:=i (HU acc b.n b.set) j (by rw[h1,List.length_append,Fg];omega);refine⟨?_,x⟩;show pl (Qt (HU acc b.n b.set) l)=_;rw[o,h1,Fh,List.append_assoc]
theorem VR:∀(l:List Cel) (acc:List Fo),NonNeg acc->(pl acc).length+l.length<=U3->pl (Ni acc l)=pl acc++l.map Cel.inl/\NonNeg (Ni acc l):=by
 intro l;induction l with
 |nil=>intro acc ha _;exact⟨by simp[Ni],ha⟩
 |cons c l i=>
  intro acc ha hb;rw[List.length_cons] at hb;obtain⟨h1,j⟩:=MZ (s:=c.inl) (n:=1) ha (by simp only[Int.toNat_one];omega);obtain⟨o,x⟩:=i (HU acc 1 c.inl) j (by rw[h1,List.length_append,Fg];simp only[Int.toNat_one];omega);refine⟨?_,x⟩;show pl (Ni (HU acc 1 c.inl) l)=_;rw[o,h1];simp[rep]
theorem bo{l:List Fo}(hb:(pl l).length<=U3):pl (Yb l)=pl l/\NonNeg (Yb l):=by
 have h:=VV l [] (fun _ h=>nomatch h) (by simpa[pl] using hb);rw[VX,List.nil_append] at h;exact h
theorem aj{l:List Cel}(hb:l.length<=U3):pl (bQ l)=l.map Cel.inl/\NonNeg (bQ l):=by
 have h:=VR l [] (fun _ h=>nomatch h) (by simpa[pl] using hb);rw[VX,List.nil_append] at h;exact h
def Ec:List Fo->Prop
 |[]=>True
 |b::r=>0<b.n/\(∀c,r.head?=some c->b.set≠c.set)/\Ec r
theorem IT:∀(l:List Fo) (b:Fo),Ec (l++[b])↔Ec l/\0<b.n/\∀c,l.getLast?=some c->c.set≠b.set:=by
 intro l;induction l with
 |nil=>intro b;simp[Ec]
 |cons a r y=>
  intro b;simp only[List.cons_append,Ec,y];cases r with
  |nil=>
   simp only[List.nil_append,List.head?_cons,Option.some.injEq,Ec,List.getLast?_singleton,List.head?_nil];constructor
   .rintro⟨h1,o,x,i,j⟩;exact⟨⟨h1,fun c h=>(nomatch h),trivial⟩,i,fun c hc=>by subst hc;exact o b rfl⟩
   .rintro⟨⟨h1,_,_⟩,i,j⟩;exact⟨h1,fun c hc=>by subst hc;exact j a rfl,trivial,i,fun c h=>(nomatch h)⟩
  |cons c r=>
   simp only[List.cons_append,List.head?_cons,List.getLast?_cons_cons];constructor
   .rintro⟨h1,o,x,i,j⟩;exact⟨⟨h1,o,x⟩,i,j⟩
   .rintro⟨⟨h1,o,x⟩,i,j⟩;exact⟨h1,o,x,i,j⟩
theorem SC{acc:List Fo}{n:Int}{s:List Attr}(h:Ec acc)(hb:(pl acc).length+n.toNat<=U3):Ec (HU acc n s):=by
 by_cases y:n<=0
 .rw[MF y];exact h
 have j:0<n:=by omega
 rcases IA acc with rfl|⟨i,b,rfl⟩
 .rw[Nk j];exact⟨j,fun c h=>(nomatch h),trivial⟩
 .rw[Lv j];have o:=(IT i b).1 h;rw[GM,List.length_append,LB,Fg] at hb;simp only[U3] at hb;by_cases x:b.set=s
  .rw[if_pos x];refine(IT _ _).2 ⟨o.1,?_,o.2.2⟩;have:=o.2.1;show 0<IntKind.i64.wrap (b.n+n);rw[wrap64 (by omega) (by omega)];omega
  .rw[if_neg x];refine(IT _ _).2 ⟨h,j,fun c hc=>?_⟩;simp at hc;subst hc;exact x
theorem Mt:∀(l:List Fo),Ec l->NonNeg l:=by
 intro l;induction l with
 |nil=>intro _ b hb;simp at hb
 |cons a r i=>
  rintro⟨h1,_,j⟩ b hb;rcases List.mem_cons.1 hb with rfl|hb
  .omega
  .exact i j b hb
theorem PV:∀(l:List Cel) (acc:List Fo),Ec acc->(pl acc).length+l.length<=U3->Ec (Ni acc l):=by
 intro l;induction l with
 |nil=>intro acc ha _;exact ha
 |cons b l i=>
  intro acc ha hb;rw[List.length_cons] at hb;refine i _ (SC ha (by simp only[Int.toNat_one];omega)) ?_;rw[(MZ (Mt _ ha) (by simp only[Int.toNat_one];omega)).1,List.length_append,Fg];simp only[Int.toNat_one];omega
theorem UH{l:List Cel}(hb:l.length<=U3):Ec (bQ l):=PV l [] trivial (by simpa[pl] using hb)
theorem IZ{b:Fo}{r:List Fo}(h:Ec (b::r)):(pl (b::r)).head?=some b.set:=by
 rw[Fh];have h1:=h.1;have:b.n.toNat=(b.n.toNat-1)+1:=by omega
 simp only[rep];rw[this,List.replicate_succ];rfl
theorem uniq:∀(l m:List Fo),Ec l->Ec m->pl l=pl m->l=m:=by
 intro l;induction l with
 |nil=>
  intro m _ hm h;cases m with
  |nil=>rfl
  |cons c m=>have:=IZ hm;rw[<-h] at this;simp[pl] at this
 |cons b l J=>
  intro m hl hm h;cases m with
  |nil=>have:=IZ hl;rw[h] at this;simp[pl] at this
  |cons c m=>
   have y:b.set=c.set:=by
    have h1:=IZ hl;have O:=IZ hm;rw[h,O] at h1;exact(Option.some.inj h1).symm
   have i:∀(b:Fo) (r:List Fo),Ec (b::r)->∀n:Nat,(pl r)[0]?≠some b.set:=by
    intro b r hp _ h;cases r with
    |nil=>simp[pl] at h
    |cons d r=>
     have:=IZ hp.2.2;rw[<-List.head?_eq_getElem?,this] at h;exact hp.2.1 d rfl (Option.some.inj h).symm
   have E:b.n.toNat=c.n.toNat:=by
    rw[Fh,Fh] at h;rcases Nat.lt_trichotomy b.n.toNat c.n.toNat with j|heq|o
    .exfalso;have h1:=congrArg (fun x=>x[b.n.toNat]?) h;rw[List.getElem?_append_right (by simp[rep]),List.getElem?_append_left (by rw[Fg];exact j)] at h1;simp only[rep,List.length_replicate,Nat.sub_self,List.getElem?_replicate,j,if_true] at h1;exact i b l hl 0 (by rw[h1,y])
    .exact heq
    .exfalso;have h1:=congrArg (fun x=>x[c.n.toNat]?) h;rw[List.getElem?_append_left (by rw[Fg];exact o),List.getElem?_append_right (by simp[rep])] at h1;simp only[rep,List.length_replicate,Nat.sub_self,List.getElem?_replicate,o,if_true] at h1;exact i c m hm 0 (by rw[<-h1,y])
   have Q:=hl.1;have S:=hm.1;have I:b.n=c.n:=by omega
   have B:b=c:=by cases b;cases c;simp only at I y;rw[I,y]
   subst B;rw[Fh,Fh] at h;rw[J m hl.2.2 hm.2.2 (List.append_cancel_left h)]
end Go.Proofs.YtmdhibffnkhcnaaGreatDoor
namespace Go.K
open Go
theorem AE{p:Prop}[Decidable p]{A B:Prop}(h1:p->A)(i:¬p->B):AD (.bool (decide p)) A B:=by
 rw[XH];split
 .exact h1 (by assumption)
 .exact i (by assumption)
theorem Mo{q:IntKind}{a:Int}{A B:Prop}(h:B):Dm q (.int q a) (.int q a) fun t=>AD t A B:=by
 rw[Bg,decide_eq_true rfl];exact h
theorem BK{a b:Value}{k:Value->Value->Prop}(h:k a b):AO 0 (.tuple #[a,b]) fun x=>AO 1 (.tuple #[a,b]) fun y=>k x y:=CJ (vs:=[_,_]) (by rfl) (CJ (vs:=[_,_]) (by rfl) h)
theorem JZ{a b c:Value}{k:Value->Value->Value->Prop}(h:k a b c):AO 0 (.tuple #[a,b,c]) fun x=>AO 1 (.tuple #[a,b,c]) fun y=>AO 2 (.tuple #[a,b,c]) fun z=>k x y z:=CJ (vs:=[_,_,_]) (by rfl) (CJ (vs:=[_,_,_]) (by rfl) (CJ (vs:=[_,_,_]) (by rfl) h))
theorem GJ:(∀(l:List Value) k,nth l (k+1)=nth l.tail k)/\(∀l:List Value,nth l 0=l.headD undef)/\(∀(a:Value) l d,(a::l).headD d=a)/\∀(a:Value) l,(a::l).tail=l:=⟨Un,CM,fun _ _ _=>rfl,fun _ _=>rfl⟩
theorem Hq{q:IntKind}{a b:Int}{A B:Prop}(h1:a<b->A)(i:¬a<b->B):Be q (.int q a) (.int q b) fun t=>AD t A B:=by
 rw[Av];exact AE h1 i
theorem AI(g x:Nat):(⟨g,0,none⟩:Addr).add x=⟨g,x,none⟩:=by unfold Addr.add;split<;>simp_all
theorem Bm{b q:Nat}{v:Value}{K:Value->World->Prop}{w:World}(hc:w.cell? ⟨b,q,none⟩=some v)(h:K v w):AM q (.pointer (some ⟨b,0,none⟩)) fun t=>AK t K w:=by
 rw[AG,AI];exact AL hc h
def Live(w:World)(a:Addr):Prop:=(w.cell? a).isSome=true/\w.frozen? a=false
theorem Live.set{w:World}{a:Addr}(h:Live w a)(b:Addr)(u:Value):Live (w.setCell b u) a:=by
 refine⟨?_,by rw[World.frozen?_setCell];exact h.2⟩;obtain⟨v,i⟩:=Option.isSome_iff_exists.1 h.1;by_cases e:b=a
 .subst e;rw[World.cell?_setCell_same w _ u i];rfl
 .rw[World.cell?_setCell_other w _ _ u e,i];rfl
theorem Live.mod{M:Nat->Prop}{w w':World}{a:Addr}(h:Live w a)(hm:Mod M w w')(i:¬M a.block):Live w' a:=by
 obtain⟨v,j⟩:=Option.isSome_iff_exists.1 h.1;exact⟨by rw[hm.cell j i];rfl,(hm.frozen (World.block_lt_of_cell? w a j) i).trans h.2⟩
theorem Live.st{w:World}{a:Addr}{u:Value}{K:World->Prop}(h:Live w a)(h1:u.oneCell'=true)(i:u.cells=#[u])(j:K (w.setCell a u)):BD (.pointer (some a)) u K w:=by
 obtain⟨v,o⟩:=Option.isSome_iff_exists.1 h.1;exact K8 h1 i o h.2 j
theorem AF.live{α:Type}{B e k:Nat}{R:World->List Value->α->Prop}{w:World}{a:Option Addr}{n c:Nat}{l:List α}(h:AF B e k R w (.slice a n c) l){i j:Nat}(O:i<l.length)(U:j<k) :
  ∃g,a=some ⟨g,0,none⟩/\n=l.length/\Live w ((⟨g,0,none⟩:Addr).add (i*k+j)):=by
 obtain⟨rows,h1,Q,S,V⟩:=h;have E:∀r∈rows,r.length=k:=fun r hr=>(S r hr).1;have I:∃g,a=some ⟨g,0,none⟩/\n=l.length:=by
  rcases h1.2 with⟨y,X⟩|⟨g',J,T,y,_⟩
  .omega
  .simp only[Value.slice.injEq] at y;exact⟨g',y.1,y.2.1⟩
 obtain⟨g,rfl,rfl⟩:=I;refine⟨g,rfl,rfl,?_⟩;have o:(⟨g,0,none⟩:Addr).add (i*k+j)=⟨g,i*k+j,none⟩:=by unfold Addr.add;split<;>simp_all
 have x:i*k+j<l.length*k:=by
  have:(i+1)*k<=l.length*k:=Nat.mul_le_mul_right _ O;rw[Nat.add_mul] at this;omega
 rw[o];refine⟨?_,h1.frozenAt _⟩;rw[h1.cellAt _ x];simp[EG rows E,Q,x]
end Go.K
namespace Go.Proofs.YtmdhibffnkhcnaaGreatDoor
open Go Go.K Proofs.Tryz
structure Chg where
 key:Int
 gone:Bool
 val:BE
 deriving DecidableEq
def Chg.cells(a:Chg):List Value:=.int .i64 a.key::.bool a.gone::a.val.cells
abbrev Hm:World->List Value->Chg->Prop:=fun _ r x=>r=x.cells
abbrev CH:World->List Value->Int->Prop:=fun _ r x=>r=[.int .i32 x]
abbrev Lf(S:Nat->Prop)(w:World)(v:Value)(l:List Int):Prop:=BH S 1 CH w v l
abbrev Hj(S:Nat->Prop)(w:World)(v:Value)(l:List Chg):Prop:=BH S 6 Hm w v l
theorem CH.one{w:World}{r:List Value}{x:Int}(h:CH w r x):∀u∈r,u.oneCell'=true:=by
 subst h;intro u hu;simp at hu;subst hu;rfl
theorem Hm.one{w:World}{r:List Value}{x:Chg}(h:Hm w r x):∀u∈r,u.oneCell'=true:=by
 intro u hu;subst h;simp only[Chg.cells,BE.cells,List.mem_cons,List.not_mem_nil,or_false] at hu;rcases hu with rfl|rfl|rfl|rfl|rfl|rfl<;>rfl
theorem JW:Cu prog 80 21 1 4:=⟨Tryz.t21,.int .i32 0,by kernel_rfl,by kernel_rfl,by kernel_rfl,by kernel_rfl,by kernel_rfl,by rfl,by decide⟩
theorem Ty:Cu prog 81 133 6 56:=⟨Tryz.t133,.agg #[.int .i64 0,.bool false,.int .u8 0,.int .i64 0,.int .u64 0,.string ⟨#[]⟩],by kernel_rfl,by kernel_rfl,by kernel_rfl,by kernel_rfl,by kernel_rfl,by rfl,by decide⟩
theorem ON(n:Nat)(x y:BE)(w:World) :
  (Op.equalIn (n+2) 77 (.agg x.cells.toArray) (.agg y.cells.toArray)).run prog w=.ok (decide (x=y)) w:=by
 have i:prog.underlying 77=some (.struct (prog.fieldsOf 77)):=by kernel_rfl
 have j:=underlying5;have o:=underlying2;have B:=underlying75;have E:=underlying9;have a3:=Tryz.isAgg5;have a4:=Tryz.isAgg2;have a5:=Tryz.isAgg75;have I:=Tryz.isAgg9;rw[run_equalIn_agg w (n+1) _ _ _ i Tryz.stoodInHeld77];simp only[Program.fieldsOf,underlying77,BE.cells];have J:∀a b:Int,(Op.equalIn (n+1) 5 (.int .u8 a) (.int .u8 b)).run prog w=.ok (a==b) w:=fun a b=>run_equalIn_int w n _ _ _ a b j;have O:∀a b:Int,(Op.equalIn (n+1) 2 (.int .i64 a) (.int .i64 b)).run prog w=.ok (a==b) w:=fun a b=>run_equalIn_int w n _ _ _ a b o;have Q:∀a b:Int,(Op.equalIn (n+1) 75 (.int .u64 a) (.int .u64 b)).run prog w=.ok (a==b) w:=fun a b=>run_equalIn_int w n _ _ _ a b B;have S:∀a b:ByteArray,(Op.equalIn (n+1) 9 (.string a) (.string b)).run prog w=.ok (a.toList==b.toList) w:=fun a b=>run_equalIn_string w n _ a b E;have q:decide (x=y)=(x.kind==y.kind&&(x.n==y.n&&(x.f==y.f&&decide (x.s=y.s)))):=by
  cases x;cases y;rw[Bool.eq_iff_iff];simp[BE.mk.injEq]
 rw[q];simp[Op.eqFields,part,a3,a4,a5,I,J,O,Q,S,toList_beq];by_cases h1:x.kind=y.kind<;>by_cases T:x.n=y.n<;>by_cases U:x.f=y.f<;>by_cases V:x.s=y.s<;>simp[h1,T,U,V]
theorem Gl(xo yo:Operand)(a b:BE)(w:World) :
  (BY .eql 77 xo yo (.agg a.cells.toArray) (.agg b.cells.toArray)).run prog w=.ok (.bool (decide (a=b))) w:=by
 simp only[BY,Sem.run_bind,run_eqGuard_agg w .eql _ xo yo _ _ Tryz.eqGuardType77,Result.andThen_ok];rw[run_eql_struct,ON 9998];rfl
theorem Ph(xo yo:Operand)(a b:BE)(w:World) :
  (BY .neq 77 xo yo (.agg a.cells.toArray) (.agg b.cells.toArray)).run prog w=.ok (.bool (!decide (a=b))) w:=by
 simp only[BY,Sem.run_bind,run_eqGuard_agg w .neq _ xo yo _ _ Tryz.eqGuardType77,Result.andThen_ok];rw[run_neq_struct,ON 9998];rfl
structure Dop where
 kind:Int
 n:Int
 BA:List Int
 set:List Attr
 patch:List Chg
 deriving DecidableEq
def Jy(D:Nat->Prop)(w:World)(r:List Value)(o:Dop):Prop:=∃i sv j,r=[.int .u8 o.kind,.int .i64 o.n,i,sv,j]/\Lf D w i o.BA/\Cv D w sv o.set/\Hj D w j o.patch
theorem Jy.one{D:Nat->Prop}{w:World}{r:List Value}{o:Dop}(h:Jy D w r o):∀u∈r,u.oneCell'=true:=by
 obtain⟨x,sv,y,rfl,h1,i,j⟩:=h;obtain⟨B,c1,rfl,_⟩:=h1.shape;obtain⟨E,I,rfl,_⟩:=i.shape;obtain⟨a3,J,rfl,_⟩:=j.shape;intro u hu;simp only[List.mem_cons,List.not_mem_nil,or_false] at hu;rcases hu with rfl|rfl|rfl|rfl|rfl<;>rfl
theorem Jy.mod{D D' M:Nat->Prop}{w w':World}{r:List Value}{o:Dop}(h:Jy D w r o)(hm:Mod M w w')(x:∀b,b<w.heap.size->D b->¬M b)(i:∀b,b<w.heap.size->D b->D' b):Jy D' w' r o:=by
 obtain⟨y,sv,B,rfl,h1,E,I⟩:=h;exact⟨y,sv,B,rfl,h1.mono i (fun b hb j=>hm.same b hb (x b hb j)) (by decide) fun _ _ h=>h,E.mono i (fun b hb j=>hm.same b hb (x b hb j)) (by decide) fun _ _ h=>h,I.mono i (fun b hb j=>hm.same b hb (x b hb j)) (by decide) fun _ _ h=>h⟩
abbrev Bi(S D:Nat->Prop)(w:World)(v:Value)(l:List Dop):Prop:=BH S 5 (Jy D) w v l
theorem Bi.grow{S D:Nat->Prop}{w w':World}{v:Value}{l:List Dop}(h:Bi S D w v l)(i:Grow w w'):Bi S D w' v l:=
 BH.grow h i (by decide) fun _ _ j=>j.mod i (fun _ _ _ h=>h) fun _ _ h=>h
theorem Bi.mod{S D M:Nat->Prop}{w w':World}{v:Value}{l:List Dop}(h:Bi S D w v l)(hm:Mod M w w')(i:∀b,b<w.heap.size->S b->¬M b)(j:∀b,b<w.heap.size->D b->¬M b):Bi S D w' v l:=
 BH.mono h (fun _ _ h=>h) (fun b hb o=>hm.same b hb (i b hb o)) (by decide) fun _ _ x=>x.mod hm j fun _ _ h=>h
structure DKey where
 id:Int
 block:Bool
 kind:Int
 after:Bool
 before:Bool
 group:Int
 deriving DecidableEq
def DKey.cells(k:DKey):List Value:=[.int .i64 k.id,.bool k.block,.int .u8 k.kind,.bool k.after,.bool k.before,.int .i64 k.group]
abbrev Fy:World->List Value->DKey->Prop:=fun _ r x=>r=x.cells
abbrev L0(S:Nat->Prop)(w:World)(v:Value)(l:List DKey):Prop:=BH S 6 Fy w v l
theorem Fy.one{w:World}{r:List Value}{x:DKey}(h:Fy w r x):∀u∈r,u.oneCell'=true:=by
 intro u hu;subst h;simp only[DKey.cells,List.mem_cons,List.not_mem_nil,or_false] at hu;rcases hu with rfl|rfl|rfl|rfl|rfl|rfl<;>rfl
def MN(a:Attr):Nat:=a.val.s.size+1
def Rm(a:Chg):Nat:=a.val.s.size+1
def Wc(l:List Attr):Nat:=(l.map MN).sum
def WM(l:List Chg):Nat:=(l.map Rm).sum
def NB(o:Dop):Nat:=1+o.BA.length+Wc o.set+WM o.patch
def Cf(l:List Dop):Nat:=(l.map NB).sum
variable {v0 v1 v2 v3 v4 v5 v6 v7 v8 v9:Value}{K:Cont}{w:World}
theorem Zk(h: Ay [(.int .i64 0),(.int .i64 0)] (fun vs y w1=>∀_:Env,
 Ak v0 fun t9=>
 Be .i64 (nth vs 1) t9 fun B=>
 AD B
 (DY w1 (fun C=>
 AX .i64 (nth vs 0) (.int .i64 1) fun E=>
 Bf 5 v0 (nth vs 1) fun I=>
 AM 2 I fun J=>
 BI C J fun O=>
 Ak O fun Q=>
 AX .i64 E Q fun S=>
 Bf 5 v0 (nth vs 1) fun T=>
 AM 3 T fun t25=>
 BI C t25 fun U=>
 Ak U fun V=>
 AX .i64 S V fun X=>
 Bf 5 v0 (nth vs 1) fun Y=>
 AM 4 Y fun Z=>
 BI C Z fun a1=>
 Ak a1 fun a6=>
 AX .i64 X a6 fun a7=>
 ∀w2:World,C w2->
 Ay [a7,(.int .i64 0)] (fun i o w3=>∀_:Env,
 Bf 5 v0 (nth vs 1) fun t39=>
 AM 3 t39 fun a8=>
 AK a8 (fun ak w4=>
 Ak ak fun al=>
 Be .i64 (nth i 1) al fun an=>
 AD an
 (Bf 5 v0 (nth vs 1) fun av=>
 AM 3 av fun t50=>
 AK t50 (fun ax w5=>
 Bf 5 ax (nth i 1) fun t53=>
 AM 1 t53 fun ay=>
 AM 3 ay fun t55=>
 AK t55 (fun b0 w6=>
 Ko b0 fun b1=>
 AX .i64 (nth i 0) b1 fun b2=>
 AX .i64 (nth i 1) (.int .i64 1) fun t45=>
 o [b2,t45] w6) w5) w4)
 (Ay [(nth i 0),(.int .i64 0)] (fun j x w7=>∀_:Env,
 Bf 5 v0 (nth vs 1) fun b3=>
 AM 4 b3 fun b4=>
 AK b4 (fun b5 w8=>
 Ak b5 fun b6=>
 Be .i64 (nth j 1) b6 fun t66=>
 AD t66
 (Bf 5 v0 (nth vs 1) fun b7=>
 AM 4 b7 fun b8=>
 AK b8 (fun b9 w9=>
 Bf 6 b9 (nth j 1) fun t76=>
 AM 2 t76 fun t77=>
 AM 3 t77 fun ba=>
 AK ba (fun bc bd=>
 Ko bc fun bk=>
 AX .i64 (nth j 0) bk fun bl=>
 AX .i64 (nth j 1) (.int .i64 1) fun bp=>
 x [bl,bp] bd) w9) w8)
 (AX .i64 (nth vs 1) (.int .i64 1) fun bs=>
 y [(nth j 0),bs] w8)) w7) w4)) w3) w2))
 (K (nth vs 0) w1)) w):AB prog 34 [v0] K w:=cO (aN (aN (aO (aN (.node [3,4] [(3,81)] (aO (aN aE) (aO (aO .draw (aO (aN (.node [3,5] [(3,3),(5,5),(36,58)] (aO (aN aE) aE) .nil)) (aN (.node [3,6] [(3,3),(6,6),(59,81)] (aO (aN aE) aE) .nil)))) .nil)) .nil)) aE))) func34 h (by kernel_rfl)
theorem Xf(h: G5 v0 fun i=>
 AD (.bool i)
 (K (.slice none 0 0) w)
 (Bc 21 1 0 [] [] (fun t5 j=>
 runK prog (Builtin.append_ #[80,80] 80 [t5,v0].toArray) (fun o w2=>
 K o w2) j) w)):AB prog 119 [v0] K w:=cO (aN (aO (aN (aO aE .nil)) aE)) func119 h (by kernel_rfl)
theorem V8(h: G5 v0 fun i=>
 AD (.bool i)
 (K (.slice none 0 0) w)
 (Bc 133 6 0 [] [] (fun t5 j=>
 runK prog (Builtin.append_ #[81,81] 81 [t5,v0].toArray) (fun o w2=>
 K o w2) j) w)):AB prog 129 [v0] K w:=cO (aN (aO (aN (aO aE .nil)) aE)) func129 h (by kernel_rfl)
end Go.Proofs.YtmdhibffnkhcnaaGreatDoor
namespace Go.K
open Go
theorem J1{α:Type}{P:Program}{t e k bytes:Nat}{R:World->List Value->α->Prop}{S:Nat->Prop}{w:World}{v:Value}{l:List α}{K:Cont}(J:Cu P t e k bytes)(h:BH S k R w v l)(hl:l.length*bytes<=140737488355328)
 (o:∀w r y,R w r y->∀u∈r,u.oneCell'=true)(O:∀B w2 r y,w.heap.size<=B.heap.size->Mod (fun b=>w.heap.size<=b) B w2->R B r y->R w2 r y)
 (Q:∀v' w',AF w.heap.size e k R w' v' l->Grow w w'->K v' w') :
  G5 v fun T=>AD (.bool T) (K (.slice none 0 0) w) (Bc e k 0 [] [] (fun t5 B=>runK P (Builtin.append_ #[t,t] t [t5,v].toArray) (fun U w2=>K U w2) B) w):=by
 obtain⟨a,c,rfl,hm⟩:=h.shape;have hk:=J;obtain⟨_,_,_,_,_,_,_,_,E⟩:=hk;cases a with
 |none=>
  simp only[KS];have:l=[]:=by
   cases l with
   |nil=>rfl
   |cons x l=>obtain⟨p,r,e,_⟩:=h.get (i:=0) (by simp);cases e
  subst this;exact Q _ _ AF.nil (Mod.refl _ _)
 |some p=>
  simp only[KS];refine Gk ?_;have I:Grow w (w.alloc (.cells #[] e)):=Mod.alloc _ _ _;have V:AF w.heap.size e k R (w.alloc (.cells #[] e)) (.slice (some ⟨w.heap.size,0,none⟩) 0 0) ([]:List α):=AF.made (Nat.le_refl _);obtain⟨v',w',h1,X,Y,Z⟩:=AF.append (ty:=t) J V ((h.HL E).grow I E fun r x hx=>O _ _ _ _ (Nat.le_refl _) I.mod hx) (fun _ _=>o _ _ _) (by simpa using hl) (by simp) (by simpa using hm) (fun w' j r y hy=>O _ _ _ _ I.size ((Mod.of_grownBy j).mono fun b _ e=>by simp only[Value.ownBlock,Option.some.injEq] at e;omega) hy);refine Ai h1 (Q _ _ ?_ (I.next (Mod.of_grownBy Y) ?_))
  .refine X.base fun g j=>?_;rcases Z g j with h|h
   .cases h;exact Nat.le_refl _
   .simp only[World.size_alloc] at h;omega
  .intro b hb e;simp only[Value.ownBlock,Option.some.injEq] at e;omega
theorem AY{p:Prop}[Decidable p]{A B:Prop}(h1:p->B)(i:¬p->A):AD (.bool (!decide p)) A B:=by
 by_cases h:p
 .rw[decide_eq_true h];exact h1 h
 .rw[decide_eq_false h];exact i h
end Go.K
namespace Go.Proofs.YtmdhibffnkhcnaaGreatDoor
open Go Go.K Proofs.Tryz
theorem Rs{S:Nat->Prop}{v:Value}{l:List Int}{w:World}(h:BH S 1 CH w v l)(hl:l.length*4<=140737488355328) :
  AB prog 119 [v] (fun v' w'=>AF w.heap.size 21 1 CH w' v' l/\Grow w w') w:=by
 apply Xf;exact J1 JW h hl (fun _ _ _=>CH.one) (fun _ _ _ _ _ _ h=>h) fun v' w' h1 i=>And.intro h1 i
theorem Rw{S:Nat->Prop}{v:Value}{l:List Chg}{w:World}(h:BH S 6 Hm w v l)(hl:l.length*56<=140737488355328) :
  AB prog 129 [v] (fun v' w'=>AF w.heap.size 133 6 Hm w' v' l/\Grow w w') w:=by
 apply V8;exact J1 Ty h hl (fun _ _ _=>Hm.one) (fun _ _ _ _ _ _ h=>h) fun v' w' h1 i=>And.intro h1 i
end Go.Proofs.YtmdhibffnkhcnaaGreatDoor
namespace Go.K
open Go
theorem Db{t:TypeId}{vs:List Value}{K:Cont}{w:World}(h:∀b i,b=w.heap.size->i.heap.size=w.heap.size+1->Grow w i->(∀j v,vs[j]?=some v->i.cell? ((⟨b,0,none⟩:Addr).add j)=some v)->(∀j,j<vs.length->Live i ((⟨b,0,none⟩:Addr).add j))->K (.pointer (some ⟨b,0,none⟩)) i):BZ t (.agg vs.toArray) K w:=by
 refine⟨vs,rfl,?_⟩;refine h w.heap.size _ rfl (by simp) (Mod.alloc _ _ _) (fun j v x=>HM x) fun j y=>?_;have o:(⟨w.heap.size,0,none⟩:Addr).add j=⟨w.heap.size,j,none⟩:=by unfold Addr.add;split<;>simp_all
 rw[o];refine⟨?_,World.frozen?_alloc_new ..⟩;rw[World.cell?_alloc_new];simp[y]
theorem WI{t:TypeId}{x vs:List Value}{K:Value->World->Prop}{w:World}(hl:x.length=vs.length)(h1:∀v∈vs,v.oneCell'=true)(h:∀b i,b=w.heap.size->i.heap.size=w.heap.size+1->Grow w i->(∀j v,vs[j]?=some v->i.cell? ((⟨b,0,none⟩:Addr).add j)=some v)->(∀j,j<vs.length->Live i ((⟨b,0,none⟩:Addr).add j))->K (.pointer (some ⟨b,0,none⟩)) i) :
  Al t x (fun t5 y=>AZ vs.length t5 (.agg vs.toArray) (fun w4=>K t5 w4) y) w:=by
 refine PQ (cW hl h1 ?_);obtain⟨o,e,B⟩:=Db (t:=t) (K:=K) (w:=w) h;have:vs=o:=by
  have:=congrArg Value.cells e;simpa[Value.cells] using this
 subst this;exact B
theorem BO{t:TypeId}{n:Nat}{o vs:List Value}{K:Value->World->Prop}{w:World}(x:vs.length=n)(hl:o.length=n)(h1:∀v∈vs,v.oneCell'=true)(h:∀b i,b=w.heap.size->i.heap.size=w.heap.size+1->Grow w i->(∀j v,vs[j]?=some v->i.cell? ((⟨b,0,none⟩:Addr).add j)=some v)->(∀j,j<vs.length->Live i ((⟨b,0,none⟩:Addr).add j))->K (.pointer (some ⟨b,0,none⟩)) i) :
  Al t o (fun t5 y=>AZ n t5 (.agg vs.toArray) (fun w4=>K t5 w4) y) w:=by
 subst x;exact WI hl h1 h
theorem HB{P:Program}{ok:Nat->Bool}{g:Nat}{args:List Value}{K:Cont}{w:World}(i:ok g=true)(h:AB P g args K w):CP P ok (.func (.func g) #[] #[]) args K w:=.inl ⟨g,[],[],rfl,i,by simpa using h⟩
theorem Aa{i:Addr->Value->Prop}{a:Addr}{v:Value}{k:Value->Prop}(h:i a v)(hk:k v):BC i (.pointer (some a)) k:=⟨a,v,rfl,h,hk⟩
theorem CL{i:Addr->Value->Prop}{m:Nat}{a:Addr}{vs:List Value}{k:Value->Prop}(hl:vs.length=m)(h:∀j v,vs[j]?=some v->i (a.add j) v)(hk:k (.agg vs.toArray)):Dv i m (.pointer (some a)) k:=⟨a,vs,rfl,hl,h,hk⟩
theorem CZ{w:World}{F:(World->Prop)->Prop}(C:World->Prop)(h0:C w.drew)(h:F C):DY w F:=⟨C,h0,h⟩
theorem Ag{AP:List Nat}{AN:List (List Nat)}{w0:World}{F:(Nat->Nat->Prop)->(Nat->Addr->Value->Prop)->Prop}(M:Nat->Nat->Prop)(h:F M (Hn AP AN M w0)):Aw AP AN w0 F:=⟨M,h⟩
theorem Rk{b:Nat}:∀(vs:List Value) (i:Nat) (W:World),(∀j,i<=j->j<i+vs.length->Live W ((⟨b,0,none⟩:Addr).add j))->
  Mod (fun x=>x=b) W (Dw W ⟨b,0,none⟩ i vs)/\(∀j u,vs[j]?=some u->(Dw W ⟨b,0,none⟩ i vs).cell? ((⟨b,0,none⟩:Addr).add (i+j))=some u)/\(∀j,j<i->(Dw W ⟨b,0,none⟩ i vs).cell? ((⟨b,0,none⟩:Addr).add j)=W.cell? ((⟨b,0,none⟩:Addr).add j))/\(∀a,Live W a->Live (Dw W ⟨b,0,none⟩ i vs) a):=by
 intro vs;induction vs with
 |nil=>intro i W _;exact⟨Mod.refl _ _,fun j u hu=>by simp at hu,fun _ _=>rfl,fun _ h=>h⟩
 |cons x vs B=>
  intro i W hl;simp only[Dw];obtain⟨E,I,y,J⟩:=B (i+1) (W.setCell ((⟨b,0,none⟩:Addr).add i) x) (fun j h1 O=>(hl j (by omega) (by simp;omega)).set _ _);refine⟨(Mod.setCell _ _ _ (by rw[AI])).trans E,fun j u hu=>?_,fun j Q=>?_,fun a ha=>J a (ha.set _ _)⟩
  .cases j with
   |zero=>
    simp at hu;subst hu;obtain⟨S,o⟩:=Option.isSome_iff_exists.1 (hl i (Nat.le_refl _) (by simp)).1;exact(y i (by omega)).trans (World.cell?_setCell_same _ _ _ o)
   |succ j=>
    have:=I j u (by simpa using hu);rw[show i+(j+1)=i+1+j by omega];exact this
  .rw[y j (by omega),World.cell?_setCell_other _ _ _ _ (by rw[AI,AI];intro e;simp only[Addr.mk.injEq] at e;omega)]
theorem CT{b n:Nat}{vs:List Value}{K:World->Prop}{W:World}(o:vs.length=n)(h1:∀v∈vs,v.oneCell'=true)(hl:∀j,j<n->Live W ((⟨b,0,none⟩:Addr).add j))
 (y:∀W',Mod (fun x=>x=b) W W'->(∀j u,vs[j]?=some u->W'.cell? ((⟨b,0,none⟩:Addr).add j)=some u)->(∀a,Live W a->Live W' a)->K W'):AZ n (.pointer (some ⟨b,0,none⟩)) (.agg vs.toArray) K W:=by
 obtain⟨B,E,_,I⟩:=Rk (b:=b) vs 0 W (fun j _ i=>hl j (by omega));exact⟨_,vs,rfl,rfl,o,h1,fun j i=>hl j i,y _ B (fun j u hu=>by have:=E j u hu;rwa [Nat.zero_add] at this) I⟩
theorem EI{t:TypeId}{i:List Value}{K:Cont}{w:World}(h:∀b o,b=w.heap.size->o.heap.size=w.heap.size+1->Grow w o->(∀j v,i[j]?=some v->o.cell? ((⟨b,0,none⟩:Addr).add j)=some v)->(∀j,j<i.length->Live o ((⟨b,0,none⟩:Addr).add j))->K (.pointer (some ⟨b,0,none⟩)) o):Al t i K w:=by
 refine PQ ?_;obtain⟨x,e,y⟩:=Db (t:=t) (vs:=i) (K:=K) (w:=w) h;have:i=x:=by have:=congrArg Value.cells e;simpa[Value.cells] using this
 subst this;exact y
theorem KG(x:Int):-9223372036854775808<=IntKind.i64.wrap x/\IntKind.i64.wrap x<=9223372036854775807:=by
 have i:(2:Int) ^ IntKind.i64.bits=18446744073709551616:=by decide
 have j:(2:Int) ^ (IntKind.i64.bits-1)=9223372036854775808:=by decide
 simp only[IntKind.wrap,i,j,IntKind.signed,Bool.true_and,decide_eq_true_eq];split<;>omega
theorem AQ{n:Nat}(h:(n:Int)+1<=9223372036854775807):Value.int .i64 (IntKind.i64.wrap ((n:Int)+1))=.int .i64 ((n+1:Nat):Int):=by
 rw[wrap64 (by omega) (by omega)];rfl
theorem DI{q:IntKind}{n:Int}{r:List Value}:EF (.int q n::r) 0=n.toNat:=rfl
theorem BJ{a:Value}{q:IntKind}{n:Int}{r:List Value}:EF (a::.int q n::r) 1=n.toNat:=rfl
theorem XA{a b:Value}{q:IntKind}{n:Int}{r:List Value}:EF (a::b::.int q n::r) 2=n.toNat:=rfl
end Go.K
namespace Go.Proofs.YtmdhibffnkhcnaaGreatDoor
open Go Go.K Proofs.Tryz
def Du(r:Int):Prop:=0<=r/\r<55296\/57344<=r/\r<=1114111
instance (r:Int):Decidable (Du r):=by unfold Du;infer_instance
def FI(o:Dop):Prop:=(o.kind=1/\o.BA=[]/\o.set=[]/\1<=o.n/\o.n<=536870912)\/(o.kind=3/\o.BA=[]/\o.set=[]/\o.patch=[]/\1<=o.n/\o.n<=536870912)\/
 (o.kind=2/\(∀r∈o.BA,Du r)/\o.n=0/\o.patch=[]/\1<=o.BA.length/\o.BA.length<=536870912)
instance (o:Dop):Decidable (FI o):=by unfold FI;infer_instance
theorem bH{α:Type}{l:List α}:((l.length:Int)=0)↔l=[]:=by
 constructor
 .intro h;exact List.eq_nil_of_length_eq_zero (by omega)
 .rintro rfl;rfl
def Lk(o:Dop):Int:=if o.kind=2 then o.BA.length else o.n
def Cg(f:Dop->Int)(x:List Dop):Int:=x.foldl (fun s o=>IntKind.i64.wrap (s+f o)) 0
theorem Ez{f:Dop->Int}{x:List Dop}{k:Nat}(h:k<x.length):Cg f (x.take (k+1))=IntKind.i64.wrap (Cg f (x.take k)+f x[k]):=by
 rw[List.take_add_one,List.getElem?_eq_getElem h];simp only[Cg,List.foldl_append,Option.toList,List.foldl_cons,List.foldl_nil]
def B0(o:Dop):Int:=if o.kind=2 then 0 else o.n
def CO(o:Dop):Int:=if o.kind=3 then 0 else Lk o
theorem ER{f:Dop->Int}{m:Int}(hm:0<=m)(x:List Dop)(h:∀o∈x,0<=f o/\f o<=m)(hb:x.length*m<=4611686018427387904):Cg f x=(x.map f).sum/\0<=Cg f x/\Cg f x<=x.length*m:=by
 induction x using Mv with
 |h0=>exact⟨rfl,by simp[Cg],by simp[Cg]⟩
 |h1 x o j=>
  have y:∀o∈x,0<=f o/\f o<=m:=fun o i=>h o (by simp[i]);have i:=h o (by simp);have e:((x++[o]).length:Int)*m=x.length*m+m:=by simp[Int.add_mul]
  rw[e] at hb;obtain⟨B,I,J⟩:=j y (by omega);have E:Cg f (x++[o])=IntKind.i64.wrap (Cg f x+f o):=by simp[Cg]
  rw[E,wrap64 (by omega) (by omega),e];refine⟨by rw[B];simp,by omega,by omega⟩
end Go.Proofs.YtmdhibffnkhcnaaGreatDoor
namespace Go.K
open Go
theorem IW{α:Type}{P:Program}{t e k:Nat}{i:TypeInfo}{R:World->List Value->α->Prop}{S:Nat->Prop}{w:World}{a:Option Addr}{n c:Nat}{l:List α}{j:Nat}{K:Cont}(ht:P.underlying t=some (.slice e))(B:P.info? e=some i)(hk:i.size=k)
 (h:BH S k R w (.slice a n c) l)(U:j<=l.length)(E:∀v',BH S k R w v' (l.drop j)->K v' w):runK P (Instr.sliceAt t (.slice a n c) (some (.int .i64 j)) none none) K w:=by
 obtain⟨V,X,I,h1,Y,J⟩:=h;cases I;have o:P.elem t=e:=by simp[Program.elem,ht]
 refine⟨sliced a j l.length c k,w,?_,E _ ?_⟩
 .rw[run_sliceAt_slice _ _ _ _ _ _ (by rw[o];exact ht),run_slice_l _ _ _ _ _ (by rw[o];exact ht) _ _ (by omega) (by omega),o];simp[sizeOf,typeInfo,B,hk]
 .unfold sliced;refine⟨_,_,by rw[List.length_drop],by rw[List.length_drop];omega,by omega,fun q x y=>?_⟩;rw[List.getElem?_drop] at y;obtain⟨p,r,rfl,O,hr,hc,Q⟩:=J _ x y;have T:=(List.getElem?_eq_some_iff.1 y).1;rw[if_neg (by omega)];refine⟨p.add (j*k),r,rfl,by rw[BP];exact O,hr,fun m u hu=>?_,Q⟩;rw[Addr.add_add,<-Nat.add_assoc,<-Nat.add_mul];exact hc m u hu
end Go.K
namespace Go.Proofs.YtmdhibffnkhcnaaGreatDoor
open Go Go.K Proofs.Tryz
abbrev IY:World->List Value->Int->Prop:=fun _ r x=>r=[.int .u8 x]
abbrev Ci(S:Nat->Prop)(w:World)(v:Value)(l:List Int):Prop:=BH S 1 IY w v l
def Bk(s:ByteArray):List Int:=s.data.toList.map fun b=>(b.toNat:Int)
def HO(r:Int):Nat:=if r<128 then 1 else if r<2048 then 2 else if r<65536 then 3 else 4
theorem Fx{e k len:Nat}{zero:List Value}{j:List (Nat×Value)}{cs:List Value}{K:Cont}{w:World}(o:Instr.fill (fun i=>some (i*k,k)) ((Array.range (len*k)).map (zero.toArray[· % zero.toArray.size]!)) j=some cs.toArray)(h:K (.slice (some ⟨w.heap.size,0,none⟩) len len) (w.alloc (.cells cs.toArray e))):Bc e k len zero j K w:=⟨_,o,h⟩
def Cc(i:Int):Option (Nat×Int):=
 if 240<=i then some (4,IntKind.i32.wrap (IntKind.i32.wrap i-240)) else if 224<=i then some (3,IntKind.i32.wrap (IntKind.i32.wrap i-224)) else if 192<=i then some (2,IntKind.i32.wrap (IntKind.i32.wrap i-192))
 else if 128<=i then none else some (1,IntKind.i32.wrap i)
def Gz(b:List Int):Nat->Nat->Int->Option Int
 |0,_,r=>some r
 |k+1,i,r=>match b[i]? with
  |some c=>if c<128\/191<c then none else Gz b k (i+1) (IntKind.i32.wrap (IntKind.i32.wrap (IntKind.i32.wrap (r*64)+IntKind.i32.wrap c)-128))
  |none=>none
def CW(b:List Int):Int×Nat:=match Cc (b.headD 0) with
 |none=>(0,0)
 |some (n,r)=>if b.length<n then(0,0) else match Gz b (n-1) 1 r with
  |none=>(0,0)
  |some r=>if Du r/\HO r=n then(r,n) else(0,0)
theorem P8{i r:Int}{n:Nat}(h:Cc i=some (n,r)):1<=n/\n<=4:=by
 unfold Cc at h;split at h
 .cases h;omega
 split at h
 .cases h;omega
 split at h
 .cases h;omega
 split at h
 .cases h
 .cases h;omega
theorem SS(b:List Int):(CW b).2<=b.length/\(CW b).2<=4:=by
 unfold CW;split
 .exact⟨Nat.zero_le _,Nat.zero_le _⟩
 .rename_i n r h;have:=P8 h;split
  .exact⟨Nat.zero_le _,Nat.zero_le _⟩
  .split
   .exact⟨Nat.zero_le _,Nat.zero_le _⟩
   .split<;>simp only<;>omega
end Go.Proofs.YtmdhibffnkhcnaaGreatDoor
namespace Go.K
open Go
theorem Qb{α:Type}{P:Program}{t e k bytes B:Nat}{R:World->List Value->α->Prop}{w:World}{v:Value}{l:List α}{x:α}{zero:List Value}{E:List (Nat×Value)}{cs:List Value}{K:Cont}(Z:Cu P t e k bytes)(h:AF B e k R w v l)(hB:B<=w.heap.size)
 (hf:Instr.fill (fun i=>some (i*k,k)) ((Array.range (1*k)).map (zero.toArray[· % zero.toArray.size]!)) E=some cs.toArray)(T:cs.length=k)(hx:R w cs x)(Q:∀w r y,R w r y->∀u∈r,u.oneCell'=true)
 (U:∀o w2 r y,w.heap.size<=o.heap.size->Mod (fun b=>v.ownBlock=some b\/w.heap.size<=b) o w2->R o r y->R w2 r y)(S:(l.length+1)*bytes<=140737488355328)(V:l.length+1<=maxLen)
 {Q1:World->Prop}{Q2:World->World->Prop}(X:∀o,Grow w o->Q1 o)
 (hK:∀o v' w',AF B e k R w' v' (l++[x])->Mod (fun b=>v.ownBlock=some b) o w'->Mod (fun b=>v.ownBlock=some b) w w'->(∀g,v'.ownBlock=some g->v.ownBlock=some g\/w.heap.size<=g)->Q2 o w'/\K v' w') :
  Bc e k 1 zero E (fun s o=>Q1 o/\runK P (Builtin.append_ #[t,t] t [v,s].toArray) (fun v' w'=>Q2 o w'/\K v' w') o) w:=by
 refine⟨_,hf,?_⟩;have O:Grow w (w.alloc (.cells cs.toArray e)):=Mod.alloc _ _ _;have hc:∀j u,cs[j]?=some u->(w.alloc (.cells cs.toArray e)).cell? ((⟨w.heap.size,0,none⟩:Addr).add j)=some u:=fun j u hu=>HM hu;have hz:(w.alloc (.cells cs.toArray e)).heap.size=w.heap.size+1:=by simp
 generalize w.alloc (.cells cs.toArray e)=o at O hc hz ⊢;have h':AF B e k R o v l:=AF.mod h O (fun _ _ h=>h) fun r y _ I=>U _ _ _ _ (Nat.le_refl _) O.mod I;have hs:BH (fun _=>True) k R o (.slice (some ⟨w.heap.size,0,none⟩) 1 1) [x]:=by
  refine⟨_,1,rfl,Nat.le_refl _,by simp[maxLen],fun i y I=>?_⟩;have hi:i=0:=by have:=(List.getElem?_eq_some_iff.1 I).1;simp at this;exact this
  subst hi;simp at I;subst I;exact⟨_,cs,rfl,trivial,T,fun j u hu=>by rw[Nat.zero_mul,Nat.zero_add];exact hc j u hu,U _ _ _ _ (Nat.le_refl _) O.mod hx⟩
 obtain⟨v',w',h1,h2,Y,h4⟩:=AF.append (ty:=t) Z h' hs (fun _ _=>Q _ _ _) (by simpa using S) (by omega) (by simpa using V) (fun w2 J r y I=>U _ _ _ _ (by omega) ((Mod.of_grownBy J).mono fun b _ e=>.inl e) I);refine⟨X _ O,Ai h1 (hK o v' w' h2 (Mod.of_grownBy Y) (O.mod.next (Mod.of_grownBy Y) fun _ _ h=>h) fun g J=>?_)⟩;rcases h4 g J with h|h
 .exact .inl h
 .exact .inr (by omega)
theorem DP{α:Type}{P:Program}{t e k bytes B:Nat}{R:World->List Value->α->Prop}{w:World}{v:Value}{l:List α}{x:α}{zero:List Value}{j:List (Nat×Value)}{cs:List Value}{K:Cont}(Q:Cu P t e k bytes)(h:AF B e k R w v l)(S:B<=w.heap.size)
 (T:Instr.fill (fun i=>some (i*k,k)) ((Array.range (1*k)).map (zero.toArray[· % zero.toArray.size]!)) j=some cs.toArray)(J:cs.length=k)(U:R w cs x)(E:∀w r y,R w r y->∀u∈r,u.oneCell'=true)
 (V:∀o w2 r y,w.heap.size<=o.heap.size->Mod (fun b=>v.ownBlock=some b\/w.heap.size<=b) o w2->R o r y->R w2 r y)(I:(l.length+1)*bytes<=140737488355328)(O:l.length+1<=maxLen)
 (X:∀v' w',AF B e k R w' v' (l++[x])->Mod (fun b=>v.ownBlock=some b) w w'->(∀g,v'.ownBlock=some g->v.ownBlock=some g\/w.heap.size<=g)->K v' w') :
  Bc e k 1 zero j (fun s o=>runK P (Builtin.append_ #[t,t] t [v,s].toArray) K o) w:=by
 obtain⟨c,h1,_,v',w',Y,_,Z⟩:=Qb (t:=t) (K:=K) (Q1:=fun _=>True) (Q2:=fun _ _=>True) Q h S T J U E V I O (fun _ _=>trivial) fun o v' w' k1 _ k2 k3=>⟨trivial,X v' w' k1 k2 k3⟩;exact⟨c,h1,v',w',Y,Z⟩
theorem Pd{α:Type}{P:Program}{t e k bytes:Nat}{R:World->List Value->α->Prop}{w0 w:World}{v:Value}{l:List α}{x:α}{zero:List Value}{j:List (Nat×Value)}{cs:List Value}{K:Cont}(Q:Cu P t e k bytes)(h:AF w0.heap.size e k R w v l)(O:Grow w0 w)
 (S:Instr.fill (fun i=>some (i*k,k)) ((Array.range (1*k)).map (zero.toArray[· % zero.toArray.size]!)) j=some cs.toArray)(I:cs.length=k)(T:R w cs x)(o:∀w r y,R w r y->∀u∈r,u.oneCell'=true)
 (U:∀B w2 r y,w.heap.size<=B.heap.size->Mod (fun b=>v.ownBlock=some b\/w.heap.size<=b) B w2->R B r y->R w2 r y)(E:(l.length+1)*bytes<=140737488355328)(J:l.length+1<=maxLen)
 (V:∀v' w',AF w0.heap.size e k R w' v' (l++[x])->Grow w0 w'->K v' w') :
  Bc e k 1 zero j (fun s B=>runK P (Builtin.append_ #[t,t] t [v,s].toArray) K B) w:=
 DP Q h O.size S I T o U E J fun v' w' h1 X _=>V v' w' h1 (O.next X fun b hb e=>by have:=(AF.BM h b e).1;omega)
end Go.K
namespace Go.Proofs.YtmdhibffnkhcnaaGreatDoor
open Go Go.K Proofs.Tryz
def Iv:Nat->List Int->Option (List Int)
 |0,b=>if b=[] then some [] else none
 |f+1,b=>if b=[] then some [] else if(CW b).2=0 then none else(Iv f (b.drop (CW b).2)).map ((CW b).1::·)
def Bj(b:List Int):Option (List Int):=Iv b.length b
theorem Pp:∀(f g:Nat) (b:List Int),b.length<=f->b.length<=g->Iv f b=Iv g b:=by
 intro f;induction f with
 |zero=>
  intro g b i j;have:b=[]:=List.eq_nil_of_length_eq_zero (by omega);subst this;cases g<;>simp[Iv]
 |succ f o=>
  intro g b i j;cases g with
  |zero=>
   have:b=[]:=List.eq_nil_of_length_eq_zero (by omega);subst this;simp[Iv]
  |succ g=>
   simp only[Iv];split
   .rfl
   .split
    .rfl
    .rw[o g _ (by simp;omega) (by simp;omega)]
theorem LU{b:List Int}(hb:b≠[]):Bj b=if(CW b).2=0 then none else(Bj (b.drop (CW b).2)).map ((CW b).1::·):=by
 unfold Bj;obtain⟨n,i⟩:∃n,b.length=n+1:=⟨b.length-1,by have:=List.length_pos_iff.2 hb;omega⟩;rw[i];simp only[Iv,if_neg hb];split
 .rfl
 .rw[Pp n _ _ (by simp;omega) (Nat.le_refl _)]
theorem O4(W:World)(c:Array Value)(t:TypeId)(fr:Nat×Nat)(i:Nat):(W.alloc (.cells c t fr)).cell? ⟨W.heap.size,i,none⟩=c[i]?:=by
 have h:(W.alloc (.cells c t fr)).heap[W.heap.size]?=some (.cells c t fr):=heap_alloc_new W _;unfold World.cell?;simp only[h];rfl
theorem Nh{s:ByteArray}{K:Cont}{w:World}(O:s.size*4<=140737488355328)(E:∀v w',Grow w w'->Ci (fun _=>True) w' v (Bk s)->K v w'):runK prog (convert 9 293 (.string s)) K w:=by
 refine⟨_,_,run_bytes_of_string w _ _ 5 s (by kernel_rfl) (by kernel_rfl) (by kernel_rfl),E _ _ ((Mod.drew (fun _=>False) w).trans (Mod.alloc _ _ _)) ?_⟩;have hl:(Bk s).length=s.size:=by simp[Bk]
 have hm:s.size<=maxLen:=by simp only[maxLen];omega
 refine⟨_,_,by rw[hl],by rw[hl];exact grownCap_ge _ _ _ _,grownCap_le_maxLen _ _ _ _ hm,fun i x y=>⟨_,[.int .u8 x],rfl,trivial,rfl,fun j u hu=>?_,rfl⟩⟩;have I:j=0:=by have:=(List.getElem?_eq_some_iff.1 hu).1;simp at this;exact this
 subst I;simp at hu;subst hu;rw[AI,Nat.mul_one,Nat.add_zero];have o:=(List.getElem?_eq_some_iff.1 y).1;rw[hl] at o;have B:x=((s.data[i]'o).toNat:Int):=by
  simp only[Bk,List.getElem?_map,Array.getElem?_toList] at y;rw[Array.getElem?_eq_getElem o] at y;simpa using y.symm
 subst B;have J:i<s.data.size:=o;refine(O4 w.drew _ _ _ i).trans ?_;simp[bytesRow,Array.getElem?_append,o]
def FX(f:Int):Prop:=9218868437227405312<f.tmod 9223372036854775808
instance (f:Int):Decidable (FX f):=by unfold FX;infer_instance
def Fc:ByteArray:=ByteArray.mk #[]
def DK(v:BE):Prop:=(v.kind=1/\v=⟨1,v.n,0,Fc⟩/\(v.n=0\/v.n=1))\/(v.kind=2/\v=⟨2,v.n,0,Fc⟩)\/(v.kind=3/\v=⟨3,0,v.f,Fc⟩/\(¬FX v.f\/v.f=9221120237041090560))\/
 (v.kind=4/\v=⟨4,0,0,v.s⟩/\v.s.size<=64/\(Bj (Bk v.s)).isSome=true)
instance (v:BE):Decidable (DK v):=by unfold DK;infer_instance
theorem BE.one(v:BE):∀u∈v.cells,u.oneCell'=true:=by
 intro u hu;simp only[BE.cells,List.mem_cons,List.not_mem_nil,or_false] at hu;rcases hu with rfl|rfl|rfl|rfl<;>rfl
def DKey.zero:DKey:=⟨0,false,0,false,false,0⟩
def BX(i:List DKey)(id:Int):Option DKey:=i.find? fun k=>decide (k.id=id)
def Gv(i:List DKey)(id:Int)(v:BE):Prop:=∃k,BX i id=some k/\DK v/\v.kind=k.kind
def Lh{α:Type}(key:α->Int)(l:List α)(n:Nat):Prop:=∀i,1<=i->i<n->∀a b,l[i-1]?=some a->l[i]?=some b->key a<key b
abbrev dS(l:List Attr):Prop:=Lh Attr.key l l.length
abbrev dP(l:List Chg):Prop:=Lh Chg.key l l.length
def JF(l:List Attr):Prop:=¬dS l\/64<l.length\/∃a∈l,¬DK a.val
def GG(i:List DKey)(l:List Attr):Prop:=∃a∈l,¬Gv i a.key a.val
open Classical in
noncomputable def Bb(i:List DKey)(l:List Attr):Int:=if JF l then 3 else if GG i l then 4 else 0
def BE.zero:BE:=⟨0,0,0,Fc⟩
def KO(p:List Chg):Prop:=¬dP p\/64<p.length\/∃c∈p,(c.gone=true/\c.val≠BE.zero)\/(c.gone=false/\¬DK c.val)
def GU(i:List DKey)(p:List Chg):Prop:=∃c∈p,BX i c.key=none\/(c.gone=false/\¬Gv i c.key c.val)
open Classical in
noncomputable def DB(i:List DKey)(p:List Chg):Int:=if KO p then 3 else if GU i p then 4 else 0
def EK(k:DKey):Prop:=1<=k.id/\k.id<=1000/\1<=k.kind/\k.kind<=4/\0<=k.group/\k.group<=8/\(k.block=false->k.group=0)/\(k.block=true->k.before=false)
def Zx(o:List DKey)(n:Nat):Prop:=∀i,i<n->∀k,o[i]?=some k->EK k/\∀j,j<i->∀x,o[j]?=some x->x.id≠k.id
def Ew(i:List DKey):Prop:=i.length<=64/\Zx i i.length
def RF(l:List Attr):Nat:=(l.map fun a=>a.val.s.size).sum
def R9(l:List Chg):Nat:=(l.map fun a=>a.val.s.size).sum
theorem WQ(l:List Attr):Wc l=l.length+RF l:=by
 induction l with
 |nil=>rfl
 |cons a l i=>simp only[Wc,RF,List.map_cons,List.sum_cons,List.length_cons,MN] at i ⊢;omega
theorem X5(l:List Chg):WM l=l.length+R9 l:=by
 induction l with
 |nil=>rfl
 |cons a l i=>simp only[WM,R9,List.map_cons,List.sum_cons,List.length_cons,Rm] at i ⊢;omega
theorem Tx{l:List Attr}{k:Nat}(h:k<l.length):RF (l.take (k+1))=RF (l.take k)+l[k].val.s.size:=by
 rw[List.take_add_one,List.getElem?_eq_getElem h];simp only[RF,Option.toList,List.map_append,List.sum_append,List.map_cons,List.map_nil,List.sum_cons,List.sum_nil,Nat.add_zero]
theorem UX{l:List Chg}{k:Nat}(h:k<l.length):R9 (l.take (k+1))=R9 (l.take k)+l[k].val.s.size:=by
 rw[List.take_add_one,List.getElem?_eq_getElem h];simp only[R9,Option.toList,List.map_append,List.sum_append,List.map_cons,List.map_nil,List.sum_cons,List.sum_nil,Nat.add_zero]
theorem Pz{l:List Dop}{k:Nat}(h:k<l.length):Cf (l.take (k+1))=Cf (l.take k)+NB l[k]:=by
 rw[List.take_add_one,List.getElem?_eq_getElem h];simp only[Cf,Option.toList,List.map_append,List.sum_append,List.map_cons,List.map_nil,List.sum_cons,List.sum_nil,Nat.add_zero]
theorem VY(l:List Dop)(k:Nat):Cf (l.take k)<=Cf l:=by
 have:Cf l=Cf (l.take k)+Cf (l.drop k):=by
  conv=>lhs;rw[<-List.take_append_drop k l]
  simp only[Cf,List.map_append,List.sum_append]
 omega
theorem Y7(l:List Attr)(k:Nat):RF (l.take k)<=RF l:=by
 have:RF l=RF (l.take k)+RF (l.drop k):=by
  conv=>lhs;rw[<-List.take_append_drop k l]
  simp only[RF,List.map_append,List.sum_append]
 omega
theorem ZN(l:List Chg)(k:Nat):R9 (l.take k)<=R9 l:=by
 have:R9 l=R9 (l.take k)+R9 (l.drop k):=by
  conv=>lhs;rw[<-List.take_append_drop k l]
  simp only[R9,List.map_append,List.sum_append]
 omega
theorem Wz{S D:Nat->Prop}{v:Value}{x:List Dop}{w:World}(h:Bi S D w v x)(hb:Cf x<=1099511627776) :
  AB prog 34 [v] (fun v' w'=>v'=.int .i64 (Cf x)/\Grow w w') w:=by
 apply Zk;obtain⟨a,c,rfl,hm⟩:=h.shape;simp only[maxLen] at hm;refine Af (fun vs O=>∃k:Nat,k<=x.length/\vs=[.int .i64 (Cf (x.take k)),.int .i64 k]/\Grow w O) (fun vs _=>x.length-EF vs 1) ⟨0,Nat.zero_le _,rfl,Mod.refl _ _⟩ ?_;rintro vs O ⟨k,hk,rfl,V⟩ _;simp only[GJ];rw[AT,Av];refine AE (fun a8=>?_) fun ak=>?_
 .have o:k<x.length:=by omega
  have X:=Pz o;have a7:=VY x (k+1);obtain⟨p,r,rfl,_,hr,hc,rv,sv,pv,rfl,h1,h2,h3⟩:=(Bi.grow h V).get o;obtain⟨a1,c1,rfl,m1⟩:=h1.shape;obtain⟨a2,c2,rfl,m2⟩:=h2.shape;obtain⟨a3,c3,rfl,m3⟩:=h3.shape;have cl:∀{W},Grow O W->∀j u,[Value.int .u8 x[k].kind,.int .i64 x[k].n,.slice a1 x[k].BA.length c1,.slice a2 x[k].set.length c2,.slice a3 x[k].patch.length c3][j]?=some u->W.cell? ((p.add (k*5)).add j)=some u:=fun B j u hu=>by rw[Addr.add_add];exact B.cell (hc j u hu) fun h=>h
  simp only[NB,WQ,X5] at X;refine CZ (fun w2=>Grow O w2) (Mod.drew _ _) ?_;rw[AR,wrap64 (by omega) (by omega)];refine Ab o ?_;rw[AG];refine Au (fun W B=>cl B 2 _ rfl) ?_;rw[AT,AR,wrap64 (by omega) (by omega)];refine Ab o ?_;rw[AG];refine Au (fun W B=>cl B 3 _ rfl) ?_;rw[AT,AR,wrap64 (by omega) (by omega)];refine Ab o ?_;rw[AG];refine Au (fun W B=>cl B 4 _ rfl) ?_;rw[AT,AR,wrap64 (by omega) (by omega)];intro w2 g2;generalize hN:((Cf (x.take k):Nat):Int)+1+x[k].BA.length+x[k].set.length+x[k].patch.length=N;refine Af (fun vs w3=>∃i:Nat,i<=x[k].set.length/\vs=[.int .i64 (N+RF (x[k].set.take i)),.int .i64 i]/\Grow O w3) (fun vs _=>x[k].set.length-EF vs 1) ⟨0,Nat.zero_le _,by simp[RF],g2⟩ ?_;rintro vs w3 ⟨i,hi,rfl,Q⟩ _;simp only[GJ];refine Ab o ?_;rw[AG];refine AL (cl Q 3 _ rfl) ?_;rw[AT,Av];refine AE (fun Y=>?_) fun Z=>?_
  .have y:i<x[k].set.length:=by omega
   have E:=Tx y;have T:=Y7 x[k].set (i+1);refine Ab o ?_;rw[AG];refine AL (cl Q 3 _ rfl) ?_;obtain⟨q,r',rfl,_,a6,I,J⟩:=(h2.grow Q (by decide) fun _ _ h=>h).get y;subst J;refine Ab y ?_;rw[AG,AG,Addr.add_add,Addr.add_add];refine AL (I 4 _ rfl) ?_;rw[J6,AR,AR,AQ (by omega),wrap64 (by omega) (by omega)];refine⟨⟨i+1,y,by rw[E];congr 2;omega,Q⟩,by rw[BJ,BJ];omega⟩
  .have:i=x[k].set.length:=by omega
   subst this;rw[List.take_length];generalize al:N+RF x[k].set=N2;refine Af (fun vs w4=>∃i:Nat,i<=x[k].patch.length/\vs=[.int .i64 (N2+R9 (x[k].patch.take i)),.int .i64 i]/\Grow O w4) (fun vs _=>x[k].patch.length-EF vs 1) ⟨0,Nat.zero_le _,by simp[R9],Q⟩ ?_;rintro vs w4 ⟨i,hi,rfl,U⟩ _;simp only[GJ];refine Ab o ?_;rw[AG];refine AL (cl U 4 _ rfl) ?_;rw[AT,Av];refine AE (fun Y=>?_) fun Z=>?_
   .have y:i<x[k].patch.length:=by omega
    have E:=UX y;have T:=ZN x[k].patch (i+1);refine Ab o ?_;rw[AG];refine AL (cl U 4 _ rfl) ?_;obtain⟨q,r',rfl,_,a6,I,J⟩:=(h3.grow U (by decide) fun _ _ h=>h).get y;subst J;refine Ab y ?_;rw[AG,AG,Addr.add_add,Addr.add_add];refine AL (I 5 _ rfl) ?_;rw[J6,AR,AR,AQ (by omega),wrap64 (by omega) (by omega)];refine⟨⟨i+1,y,by rw[E];congr 2;omega,U⟩,by rw[BJ,BJ];omega⟩
   .have:i=x[k].patch.length:=by omega
    subst this;rw[List.take_length,AR,AQ (by omega)];refine⟨⟨k+1,o,?_,V.trans U⟩,by rw[BJ,BJ];omega⟩;congr 2
    omega
 .have:k=x.length:=by omega
  subst this;rw[List.take_length];exact⟨rfl,V⟩
structure NY where
 done:List Dop
 ins:List Dop
 gone:Int
def NY.z:NY:=⟨[],[],0⟩
def Ob(ins:List Dop)(gone:Int):List Dop:=if 0<gone then ins++[⟨3,gone,[],[],[]⟩] else ins
def cU(d:List Dop)(n:Int)(p:List Chg):List Dop:=
 match d.getLast? with
 |some o=>if o.kind=1/\o.patch=p then d.set (d.length-1) ⟨o.kind,IntKind.i64.wrap (o.n+n),o.BA,o.set,o.patch⟩ else d++[⟨1,n,[],[],p⟩]
 |none=>d++[⟨1,n,[],[],p⟩]
def cm(s:NY)(n:Int)(p:List Chg):NY:=if n<1 then s else⟨cU (s.done++Ob s.ins s.gone) n p,[],0⟩
def bb(ins:List Dop)(rs:List Int)(set:List Attr):List Dop:=
 match ins.getLast? with
 |some o=>if o.set=set then ins.set (ins.length-1) ⟨o.kind,o.n,o.BA++rs,o.set,o.patch⟩ else ins++[⟨2,0,rs,set,[]⟩]
 |none=>ins++[⟨2,0,rs,set,[]⟩]
def cy(s:NY)(rs:List Int)(set:List Attr):NY:=if rs=[] then s else⟨s.done,bb s.ins rs set,s.gone⟩
def cw(s:NY)(n:Int):NY:=⟨s.done,s.ins,IntKind.i64.wrap (s.gone+aa n 0)⟩
def Nt(s:NY)(o:Dop):NY:=if o.kind=1 then cm s o.n o.patch else if o.kind=2 then cy s o.BA o.set else cw s o.n
def Sh(x:List Dop):NY:=x.foldl Nt NY.z
def Pr(l:List Dop):Nat:=(l.map fun o=>o.BA.length).sum
def UZ(l:List Dop):Int:=(l.map fun o=>if o.kind=3 then o.n else 0).sum
def PL(i:List DKey)(x:List Dop):Prop:=(∃o∈x,¬FI o\/Bb i o.set=3\/DB i o.patch=3)\/536870912<Cg B0 x\/536870912<Cg CO x
def HH(i:List DKey)(x:List Dop):Prop:=∃o∈x,Bb i o.set≠0\/DB i o.patch≠0
open Classical in
noncomputable def Dq(i:List DKey)(x:List Dop):Int:=if PL i x then 3 else if HH i x then 4 else 0
end Go.Proofs.YtmdhibffnkhcnaaGreatDoor
namespace Go.K
open Go
theorem AF.conv{α:Type}{B e k:Nat}{S R:World->List Value->α->Prop}{w:World}{g n c:Nat}{l:List α}(h:AF B e k S w (.slice (some ⟨g,0,none⟩) n c) l)
 (T:∀i (o:i<l.length) (r:List Value),r.length=k->(∀u∈r,u.oneCell'=true)->(∀q u,r[q]?=some u->w.cell? ⟨g,i*k+q,none⟩=some u)->R w r l[i]):AF B e k R w (.slice (some ⟨g,0,none⟩) n c) l:=by
 obtain⟨rows,h1,U,E,Z⟩:=h;have j:∀r∈rows,r.length=k:=fun r hr=>(E r hr).1;have V:n=l.length:=by
  rcases h1.2 with⟨y,_⟩|⟨g',Q,X,y,_⟩
  .simp at y
  .simp only[Value.slice.injEq] at y;exact y.2.1
 subst V;refine⟨rows,h1,U,E,fun i r x hr I=>?_⟩;have o:i<l.length:=(List.getElem?_eq_some_iff.1 I).1;have J:x=l[i]:=by rw[List.getElem?_eq_getElem o] at I;exact(Option.some.inj I).symm
 subst J;have hm:=List.mem_of_getElem? hr;refine T i o r (j r hm) (E r hm).2 fun q u hu=>?_;have Y:q<k:=by rw[<-j r hm];exact(List.getElem?_eq_some_iff.1 hu).1
 have O:i*k+q<l.length*k:=by
  have:(i+1)*k<=l.length*k:=Nat.mul_le_mul_right _ o;rw[Nat.add_mul] at this;omega
 have:=h1.cellAt _ O;rw[G9 rows i q r j hr Y] at this;rw[<-hu];exact this
theorem AF.any{α:Type}{B e k:Nat}{i:World->List Value->α->Prop}{w:World}{v:Value}{l:List α}(h:AF B e k i w v l):AF B e k (fun _ _ _=>True) w v l:=by
 obtain⟨rows,h1,j,o,_⟩:=h;exact⟨rows,h1,j,o,fun _ _ _ _ _=>trivial⟩
theorem AF.aW{α:Type}{B e k:Nat}{w:World}{g n c:Nat}{l:List α}(h:AF B e k (fun _ _ _=>True) w (.slice (some ⟨g,0,none⟩) n c) l){i j:Nat}(y:i<l.length)(E:j<k){u:Value}(hu:u.oneCell'=true) :
  AF B e k (fun _ _ _=>True) (w.setCell ⟨g,i*k+j,none⟩ u) (.slice (some ⟨g,0,none⟩) n c) l:=by
 have x:=(AF.store (R':=fun _ _ _=>True) (x':=l[i]) h y E hu (fun _ _ _ _=>trivial) fun _ _=>trivial).2.2.1;have e:l.set i l[i]=l:=List.set_getElem_self y;rw[e] at x;have o:(⟨g,0,none⟩:Addr).add (i*k+j)=⟨g,i*k+j,none⟩:=by unfold Addr.add;split<;>simp_all
 rw[o] at x;exact x
theorem dL(W:World)(g o:Nat)(u:Value):Mod (fun b=>b=g) W (W.setCell ⟨g,o,none⟩ u):=Mod.setCell _ _ _ rfl
theorem AF.cellsOf{α:Type}{B e k:Nat}{R:World->List Value->α->Prop}{w:World}{g n c:Nat}{l:List α}(h:AF B e k R w (.slice (some ⟨g,0,none⟩) n c) l){i:Nat}(o:i<l.length) :
  ∃r,r.length=k/\(∀q u,r[q]?=some u->w.cell? ⟨g,i*k+q,none⟩=some u)/\R w r l[i]/\∀q,q<k->Live w ⟨g,i*k+q,none⟩:=by
 obtain⟨p,r,x,_,hr,hc,y⟩:=(AF.sl h).get o;cases x;have j:∀q,(⟨g,0,none⟩:Addr).add (i*k+q)=⟨g,i*k+q,none⟩:=fun q=>by unfold Addr.add;split<;>simp_all
 refine⟨r,hr,fun q u hu=>by rw[<-j];exact hc q u hu,y,fun q E=>?_⟩;obtain⟨g',I,_,hl⟩:=AF.live h o E;cases I;rw[j] at hl;exact hl
end Go.K
namespace Go.Proofs.YtmdhibffnkhcnaaGreatDoor
open Go Go.K Proofs.Tryz
end Go.Proofs.YtmdhibffnkhcnaaGreatDoor
namespace Go.K
open Go
theorem AF.len{α β:Type}{B e k:Nat}{R:World->List Value->α->Prop}{w:World}{v:Value}{l:List α}(h:AF B e k R w v l)(i:List β)(hl:i.length=l.length):AF B e k (fun _ _ (_:β)=>True) w v i:=by
 obtain⟨rows,h1,j,o,_⟩:=h;exact⟨rows,by rw[hl];exact h1,by rw[hl];exact j,o,fun _ _ _ _ _=>trivial⟩
end Go.K
namespace Go.Proofs.YtmdhibffnkhcnaaGreatDoor
open Go Go.K Proofs.Tryz
end Go.Proofs.YtmdhibffnkhcnaaGreatDoor
namespace Go.K
open Go
theorem BH.rows{α:Type}{S:Nat->Prop}{k:Nat}{R:World->List Value->α->Prop}{w:World}{a:Option Addr}{c n:Nat}{m:List α}(O:BH S k R w (.slice a n c) m)(B:∀r y,R w r y->∀u∈r,u.oneCell'=true) :
  ∃o:List (List Value),o.length=m.length/\(∀(i:Nat) (r:List Value),o[i]?=some r->r.length=k/\(∀u∈r,u.oneCell'=true)/\(∃p,a=some p/\∀j u,r[j]?=some u->w.cell? (p.add (i*k+j))=some u)/\∃y,m[i]?=some y/\R w r y):=by
 obtain⟨Z,c',e,_,_,E⟩:=O;cases e;have gen:∀q,q<=m.length->∃o:List (List Value),o.length=q/\(∀(i:Nat) (r:List Value),o[i]?=some r->r.length=k/\(∀u∈r,u.oneCell'=true)/\(∃p,a=some p/\∀j u,r[j]?=some u->w.cell? (p.add (i*k+j))=some u)/\∃y,m[i]?=some y/\R w r y):=by
  intro q;induction q with
  |zero=>exact fun _=>⟨[],rfl,fun i r h=>by simp at h⟩
  |succ q Q=>
   intro hq;obtain⟨rs,I,T⟩:=Q (by omega);obtain⟨p,r,U,f2,V,X,J⟩:=E q m[q] (by simp[show q<m.length by omega]);refine⟨rs++[r],by simp[I],fun i Y x=>?_⟩;by_cases hi:i<q
   .rw[List.getElem?_append_left (by omega)] at x;exact T i Y x
   .have:i=q:=by have:=(List.getElem?_eq_some_iff.1 x).1;simp[I] at this;omega
    subst this;rw[List.getElem?_append_right (by omega)] at x;simp[I] at x;subst x;exact⟨V,B _ _ J,⟨p,U,X⟩,m[i],by simp[show i<m.length by omega],J⟩
 exact gen m.length (Nat.le_refl _)
theorem QE{α:Type}{P:Program}{t ty e k bytes b:Nat}{R:World->List Value->α->Prop}{S:Nat->Prop}{w:World}{x:Value}{m:List α}(hE:Cu P t e k bytes)(hb:w.heap[b]?=some (.cells #[] e (0,0)))(O:BH S k R w x m)
 (E:∀w r y,R w r y->∀u∈r,u.oneCell'=true)(J:m.length*bytes<=140737488355328)(hR:∀w',w.grownBy w' (some b)->∀r y,R w r y->R w' r y) :
  ∃v' w',(Builtin.append_ #[t,t] ty [.slice (some ⟨b,0,none⟩) 0 0,x].toArray).run P w=.ok v' w'/\AF b e k R w' v' m/\Grow w w'/\∀g,v'.ownBlock=some g->g=b\/w.heap.size<=g:=by
 obtain⟨a,c,rfl,hm⟩:=O.shape;have a1:b<w.heap.size:=(Array.getElem?_eq_some_iff.1 hb).1;have ho:AF b e k R w (.slice (some ⟨b,0,none⟩) 0 0) ([]:List α):=⟨[],⟨by simp,.inr ⟨b,0,#[],rfl,Nat.le_refl _,hb,Nat.le_refl _,by simp[maxLen],by simp,by simp⟩⟩,rfl,by simp,by simp⟩;obtain⟨v',w',B,r2,r3,r4⟩:=AF.append (ty:=ty) hE ho O (fun _ _=>E _ _ _) (by simpa using J) (by omega) (by simpa using hm) (fun w' Q r y hy=>hR w' Q r y hy);refine⟨v',w',B,by simpa using r2,?_,fun g Q=>?_⟩
 .obtain⟨i,z,ht,hi,hz,hs,T,a6,hk⟩:=hE;obtain⟨o,g1,g2⟩:=BH.rows O (fun _ _=>E _ _ _);have I:∀r∈o,r.length=k:=fun r hr=>by obtain⟨j,hj⟩:=List.mem_iff_getElem?.1 hr;exact(g2 j r hj).1
  simp only[maxLen] at hm;by_cases U:m.length=0
  .have h0:(Builtin.append_ #[t,t] ty [.slice (some ⟨b,0,none⟩) 0 0,.slice a m.length c].toArray).run P w=.ok (.slice (some ⟨b,0,none⟩) 0 0) w:=by
    rw[U];cases a<;>simp[Builtin.append_,run_underlying ht,sizeOf,typeInfo,hi,Builtin.lenOf,Builtin.firstCells,storeCells,loadCells,loadCellsFrom]
   rw[h0] at B;cases B;exact Mod.refl _ _
  .obtain ⟨p,r,f1,_⟩:=O.get (i:=0) (by omega);subst f1;have hr:=run_append_grow (P:=P) w t ty e i z ht hi hz ⟨b,0,none⟩ 0 0 [] (by simp) (by simp) p m.length c o.flatten (by rw [EG o I,g1,hs]) (fun q u hu=>by
    obtain ⟨r,hr,V⟩:=Jg hk o I q u hu;obtain ⟨_,_,⟨p',X,Y⟩,_⟩:=g2 _ r hr;cases X;have:=Y _ u V;rwa [Nat.div_add_mod'] at this) (by omega) (by omega) (growslice_fits (by omega) (by rw [T];simpa using J))
   have Z:(Builtin.append_ #[t,t] ty [.slice (some ⟨b,0,none⟩) 0 0,.slice (some p) m.length c].toArray).run P w=_:=hr;rw[Z] at B;cases B;exact(Mod.drew _ _).trans (Mod.alloc _ _ _)
 .rcases r4 g Q with h|h
  .exact .inl (by simpa[Value.ownBlock] using h.symm)
  .exact .inr h
end Go.K
namespace Go.K
open Go
theorem RO{k:Nat}:∀(rows:List (List Value)) (j:Nat),(∀r∈rows,r.length=k)->rows.flatten.take (j*k)=(rows.take j).flatten:=by
 intro rows;induction rows with
 |nil=>intro j _;simp
 |cons r rows i=>
  intro j h;have h0:=h r (by simp);cases j with
  |zero=>simp
  |succ j=>
   rw[List.flatten_cons,List.take_succ_cons,List.flatten_cons,<-i j fun x o=>h x (by simp[o])];rw[List.take_append,List.take_of_length_le (by rw[h0,Nat.add_mul];omega)];congr 2
   rw[h0,Nat.add_mul];omega
theorem AF.take{α:Type}{B e k:Nat}{R:World->List Value->α->Prop}{w:World}{g n c:Nat}{l:List α}(h:AF B e k R w (.slice (some ⟨g,0,none⟩) n c) l){j:Nat}(y:j<=l.length):AF B e k R w (.slice (some ⟨g,0,none⟩) j c) (l.take j):=by
 obtain⟨rows,h1,O,Q,T⟩:=h;have o:∀r∈rows,r.length=k:=fun r hr=>(Q r hr).1;refine⟨rows.take j,⟨?_,?_⟩,by rw[List.length_take,List.length_take,O],fun r hr=>Q r (List.mem_of_mem_take hr),fun i r x hr E=>?_⟩
 .rw[EG _ fun r hr=>o r (List.mem_of_mem_take hr),List.length_take,List.length_take,O]
 .rcases h1.2 with⟨S,_⟩|⟨g',U,I,V,hb,X,S,hm,Y,ht⟩
  .cases S
  .cases V;refine .inr ⟨g,c,I,by rw[List.length_take,Nat.min_eq_left y],hb,X,by rw[List.length_take];omega,hm,Y,?_⟩;rw[<-RO rows j o,<-ht,List.take_take,List.length_take];congr 1
   rw[Nat.min_eq_left y,Nat.min_eq_left (Nat.mul_le_mul_right _ y)]
 .rw[List.getElem?_take] at hr E;split at hr
  .rename_i J;rw[if_pos J] at E;exact T i r x hr E
  .cases hr
theorem Ev{P:Program}{t e k:Nat}{i:TypeInfo}{g n c j:Nat}(ht:P.underlying t=some (.slice e))(x:P.info? e=some i)(hk:i.size=k)(y:j<=c)(w:World):(Instr.sliceAt t (.slice (some ⟨g,0,none⟩) n c) none (some (.int .i64 j)) none).run P w=.ok (.slice (some ⟨g,0,none⟩) j c) w:=by
 have o:P.elem t=e:=by simp[Program.elem,ht]
 rw[run_sliceAt_slice _ _ _ _ _ _ (by rw[o];exact ht),run_slice_h _ _ _ _ _ (by rw[o];exact ht) _ _ (by omega) (by omega),o];simp[sizeOf,typeInfo,x,hk,sliced,Addr.add]
theorem Ey{b:Nat}{vs:List Value}{q:Nat}{u:Value}{W:World}{K:World->Prop}(hc:∀j v,vs[j]?=some v->W.cell? ⟨b,j,none⟩=some v)(hl:∀j,j<vs.length->Live W ⟨b,j,none⟩)(o:q<vs.length)(h1:u.oneCell'=true)(B:u.cells=#[u])
 (E:∀W',Mod (fun x=>x=b) W W'->(∀j v,(vs.set q u)[j]?=some v->W'.cell? ⟨b,j,none⟩=some v)->(∀j,j<(vs.set q u).length->Live W' ⟨b,j,none⟩)->K W'):BD (.pointer (some ⟨b,q,none⟩)) u K W:=by
 refine(hl q o).st h1 B (E _ (Mod.setCell (M:=fun x=>x=b) W ⟨b,q,none⟩ u rfl) (fun j v i=>?_) fun j I=>(hl j (by simpa using I)).set _ _);by_cases e:j=q
 .subst e;rw[List.getElem?_set_self o] at i;cases i;obtain⟨J,y⟩:=Option.isSome_iff_exists.1 (hl j o).1;exact World.cell?_setCell_same _ _ _ y
 .rw[List.getElem?_set_ne (Ne.symm e)] at i;rw[World.cell?_setCell_other _ _ _ _ (fun e'=>by simp only[Addr.mk.injEq] at e';exact e e'.2.1.symm)];exact hc j v i
section
variable {α:Type}{e k:Nat}{R R':World->List Value->α->Prop}{w w':World}{v:Value}{l:List α}{M:Nat->Prop}
end
end Go.K
namespace Go.K
open Go
def Hx:List Value->Nat->List Value->List Value
 |r,_,[]=>r
 |r,p,v::vs=>Hx (r.set p v) (p+1) vs
theorem J7:∀(vs r:List Value) (p:Nat),(Hx r p vs).length=r.length:=by
 intro vs;induction vs with
 |nil=>intro r p;rfl
 |cons v vs i=>intro r p;rw[Hx,i,List.length_set]
theorem K9:∀(vs r:List Value) (p:Nat),p+vs.length<=r.length->Hx r p vs=r.take p++vs++r.drop (p+vs.length):=by
 intro vs;induction vs with
 |nil=>intro r p _;simp[Hx]
 |cons v vs i=>
  intro r p h;rw[List.length_cons] at h;rw[Hx,i _ _ (by rw[List.length_set];omega)];have h1:(r.set p v).take (p+1)=r.take p++[v]:=by
   rw[List.take_add_one,List.getElem?_set_self (by omega),List.take_set_of_le (Nat.le_refl _)];rfl
  rw[h1,List.drop_set_of_lt (by omega),List.length_cons,show p+1+vs.length=p+(vs.length+1) by omega];simp
theorem J8{vs r:List Value}(h:vs.length=r.length):Hx r 0 vs=vs:=by
 rw[K9 _ _ _ (by omega),Nat.zero_add,List.drop_eq_nil_of_le (by omega)];simp
theorem G3{vs r t:List Value}(h:vs.length=r.length):Hx (r++t) 0 vs=vs++t:=by
 rw[K9 _ _ _ (by simp;omega),Nat.zero_add];simp[h]
theorem Xa{vs r q t:List Value}{p:Nat}(i:q.length=p)(h:vs.length=r.length):Hx (q++r++t) p vs=q++vs++t:=by
 subst i;rw[K9 _ _ _ (by simp;omega)];simp[h]
theorem AF.rows{α:Type}{B e k:Nat}{R:World->List Value->α->Prop}{w:World}{v:Value}{l:List α}(h:AF B e k R w v l) :
  ∃rows:List (List Value),AF B e k (fun _ r y=>y=r) w v rows/\rows.length=l.length/\(∀r∈rows,r.length=k/\∀u∈r,u.oneCell'=true)/\∀(i:Nat) (r:List Value) (x:α),rows[i]?=some r->l[i]?=some x->R w r x:=by
 obtain⟨rows,h1,j,o,I⟩:=h;exact⟨rows,⟨rows,by rw[j];exact h1,rfl,o,fun i r x hr E=>by rw[hr] at E;cases E;rfl⟩,j,o,I⟩
theorem AF.aL{α:Type}{B e k:Nat}{R:World->List Value->α->Prop}{w:World}{v:Value}{l:List α}{rows:List (List Value)}(h:AF B e k (fun _ r y=>y=r) w v rows)(hl:rows.length=l.length)(E:∀(i:Nat) (r:List Value) (x:α),rows[i]?=some r->l[i]?=some x->R w r x):AF B e k R w v l:=by
 obtain⟨j,h1,I,J,O⟩:=h;have e:j=rows:=by
  refine List.ext_getElem I fun i Q o=>?_;exact(O i j[i] rows[i] (by simp[Q]) (by simp[o])).symm
 subst e;exact⟨j,by rw[<-hl];exact h1,hl,J,E⟩
theorem PT{B e k:Nat}{a:Addr}{n c i:Nat}:∀(vs:List Value) (p j:Nat) (w:World) (rows:List (List Value)),AF B e k (fun _ r y=>y=r) w (.slice (some a) n c) rows->(o:i<rows.length)->p+j+vs.length<=k->(∀u∈vs,u.oneCell'=true)->
  AF B e k (fun _ r y=>y=r) (Dw w (a.add (i*k+p)) j vs) (.slice (some a) n c) (rows.set i (Hx rows[i] (p+j) vs))/\Mod (fun b=>b=a.block) w (Dw w (a.add (i*k+p)) j vs):=by
 intro vs;induction vs with
 |nil=>intro p j w rows h o _ _;simp only[Dw,Hx,List.set_getElem_self];exact⟨h,Mod.refl _ _⟩
 |cons v vs I=>
  intro p j w rows h o hk h1;rw[List.length_cons] at hk;simp only[Dw,Hx,Addr.add_add];obtain⟨_,_,J,hm⟩:=AF.store (R':=fun _ r y=>y=r) (u:=v) (x':=rows[i].set (p+j) v) (j:=p+j) h o (by omega) (h1 v (by simp)) (fun r y _ O=>O) (fun r hr=>by rw[hr]);have x:i<(rows.set i (rows[i].set (p+j) v)).length:=by rw[List.length_set];exact o
  obtain⟨E,Q⟩:=I p (j+1) _ _ J x (by omega) fun u hu=>h1 u (by simp[hu]);rw[List.getElem_set_self,List.set_set] at E;rw[show i*k+(p+j)=i*k+p+j by omega] at *;exact⟨E,hm.trans Q⟩
theorem AF.MY{α:Type}{B e k:Nat}{R R':World->List Value->α->Prop}{w:World}{a:Addr}{n c i p m:Nat}{l:List α}{vs:List Value}{x':α}{K:World->Prop}(h:AF B e k R w (.slice (some a) n c) l)(Q:i<l.length)(hm:vs.length=m)(hk:p+m<=k)(h1:∀u∈vs,u.oneCell'=true)
 (T:∀w' r y,Mod (fun b=>b=a.block) w w'->y∈l->R w r y->R' w' r y)(U:∀w' r,Mod (fun b=>b=a.block) w w'->R w r l[i]->r.length=k->(∀u∈r,u.oneCell'=true)->R' w' (Hx r p vs) x')
 (V:∀w',AF B e k R' w' (.slice (some a) n c) (l.set i x')->Mod (fun b=>b=a.block) w w'->K w'):AZ m (.pointer (some (a.add (i*k+p)))) (.agg vs.toArray) K w:=by
 obtain⟨rows,S,hl,X,hr⟩:=h.rows;have o:i<rows.length:=by omega
 obtain⟨Y,J⟩:=PT vs p 0 w rows S o (by omega) h1;refine⟨_,vs,rfl,rfl,hm,h1,fun j hj=>?_,V _ (AF.aL Y (by rw[List.length_set,List.length_set,hl]) fun q r x I E=>?_) J⟩
 .obtain⟨g,Z,_,O⟩:=AF.live S o (j:=p+j) (by omega);cases Z;rw[Addr.add_add,show i*k+p+j=i*k+(p+j) by omega];exact O
 .by_cases e:i=q
  .subst e;rw[List.getElem?_set_self o] at I;rw[List.getElem?_set_self Q] at E;cases I;cases E;have:=X rows[i] (List.getElem_mem o);rw[Nat.add_zero];exact U _ _ J (hr i _ _ (List.getElem?_eq_getElem o) (List.getElem?_eq_getElem Q)) this.1 this.2
  .rw[List.getElem?_set_ne e] at I E;exact T _ _ _ J (List.mem_of_getElem? E) (hr q r x I E)
theorem SL:∀(vs:List Value) (l:List Value) (p j:Nat),(vs.zipIdx j).foldl (fun cs (x:Value×Nat)=>cs.setIfInBounds (p+x.2) x.1) l.toArray=(Hx l (p+j) vs).toArray:=by
 intro vs;induction vs with
 |nil=>intro l p j;rfl
 |cons v vs i=>
  intro l p j;have:=i (l.set (p+j) v) p (j+1);rw[<-Nat.add_assoc] at this;rw[List.zipIdx_cons,List.foldl_cons,Hx,<-this];simp
theorem Ce{j:Nat->Option (Nat×Nat)}{l vs:List Value}{i off len:Nat}{v:Value}{o:List (Nat×Value)}(hp:j i=some (off,len))(E:v.cells=vs.toArray)(hl:vs.length=len)(I:off+len<=l.length):Instr.fill j l.toArray ((i,v)::o)=Instr.fill j (Hx l off vs).toArray o:=by
 have B:=SL vs l off 0;rw[Nat.add_zero] at B;have y:(vs.toArray.zipIdx.foldl (fun cs (x:Value×Nat)=>cs.setIfInBounds (off+x.2) x.1) l.toArray)=(Hx l off vs).toArray:=by
  rw[<-B,<-Array.foldl_toList];simp
 have hc:(decide (vs.toArray.size≠len)||decide (off+vs.toArray.size>l.toArray.size))=false:=by simp[hl];omega
 simp only[Instr.fill,hp,E,hc,y];simp
theorem Ej{i:Nat->Option (Nat×Nat)}{l:List Value}:Instr.fill i l.toArray []=some l.toArray:=rfl
theorem range_zero{j:List Value}{k:Nat}(x:j.length=k)(hk:0<k):(Array.range (1*k)).map (j.toArray[· % j.toArray.size]!)=j.toArray:=by
 subst x;rw[Nat.one_mul];refine Array.ext (by simp) fun i h1 o=>?_;simp at h1 o;simp[Nat.mod_eq_of_lt o,o]
theorem Cw{j vs:List Value}{v:Value}{k:Nat}(o:j.length=k)(hk:0<k)(x:v.cells=vs.toArray)(hl:vs.length=k):Instr.fill (fun i=>some (i*k,k)) ((Array.range (1*k)).map (j.toArray[· % j.toArray.size]!)) [(0,v)]=some vs.toArray:=by
 rw[range_zero o hk,Ce (off:=0) (by simp) x hl (by omega),Ej,J8 (by omega)]
end Go.K
namespace Go.Proofs.YtmdhibffnkhcnaaGreatDoor
open Go
inductive Tr (α:Type) where
 |nil:Tr α
 |node (l:Tr α) (i:Nat) (x:α) (r:Tr α):Tr α
structure Nd (α:Type) where
 x:α
 l:Int
 r:Int
 h:Int
 s:Int
 m:Int
namespace Tr
section
variable {α:Type}(μ:α->Nat×Nat)
def root:Tr α->Int
 |nil=>-1
 |node _ i _ _=>i
def toL:Tr α->List α
 |nil=>[]
 |node l _ x r=>toL l++x::toL r
def idx:Tr α->List Nat
 |nil=>[]
 |node l i _ r=>idx l++i::idx r
def ht:Tr α->Nat
 |nil=>0
 |node l _ _ r=>1+max (ht l) (ht r)
def DC:Tr α->Nat
 |nil=>0
 |node l _ _ r=>DC l+DC r+1
def sz(l:List α):Nat:=(l.map fun x=>(μ x).1).sum
def mk(l:List α):Nat:=(l.map fun x=>(μ x).2).sum
theorem CG(l m:List α):sz μ (l++m)=sz μ l+sz μ m:=by simp[sz]
theorem E3(l m:List α):mk μ (l++m)=mk μ l+mk μ m:=by simp[mk]
theorem BU(x:α)(m:List α):sz μ (x::m)=(μ x).1+sz μ m:=by simp[sz]
theorem Ca(x:α)(m:List α):mk μ (x::m)=(μ x).2+mk μ m:=by simp[mk]
def Dd(t:Tr α)(x:α)(l r:Int):Nd α:=⟨x,l,r,t.ht,sz μ t.toL,mk μ t.toL⟩
def Holds(f:Nat->Option (Nd α)):Tr α->Prop
 |nil=>True
 |node l i x r=>Holds f l/\Holds f r/\f i=some (Dd μ (node l i x r) x l.root r.root)
theorem Jc{t:Tr α}(h:1<=t.ht):∃l i x r,t=node l i x r:=by
 cases t with
 |nil=>simp[ht] at h
 |node l i x r=>exact⟨l,i,x,r,rfl⟩
theorem Qa(t:Tr α):t.idx.length=t.DC/\t.toL.length=t.DC:=by
 induction t with
 |nil=>exact⟨rfl,rfl⟩
 |node l i x r h1 j=>simp only[idx,toL,DC,List.length_append,List.length_cons];omega
theorem Y2(t:Tr α):t.ht<=t.DC:=by
 induction t with
 |nil=>exact Nat.le_refl _
 |node l i x r h1 j=>simp only[ht,DC];omega
theorem Holds.frame{f B:Nat->Option (Nd α)}{t:Tr α}(h:Holds μ f t)(o:∀j∈t.idx,B j=f j):Holds μ B t:=by
 induction t with
 |nil=>trivial
 |node l i x r h1 E=>
  obtain⟨a,b,c⟩:=h;exact⟨h1 a fun j y=>o j (by simp[idx,y]),E b fun j y=>o j (by simp[idx,y]),by rw[o i (by simp[idx])];exact c⟩
theorem Holds.has{f:Nat->Option (Nd α)}{t:Tr α}(h:Holds μ f t){j:Nat}(o:j∈t.idx):∃n,f j=some n:=by
 induction t with
 |nil=>simp[idx] at o
 |node l i x r h1 y=>
  obtain⟨a,b,c⟩:=h;simp only[idx,List.mem_append,List.mem_cons] at o;rcases o with o|rfl|o
  .exact h1 a o
  .exact⟨_,c⟩
  .exact y b o
def EE{α:Type}(f:Nat->Option (Nd α))(i:Nat)(n:Option (Nd α)):Nat->Option (Nd α):=fun j=>if j=i then n else f j
theorem JC(f:Nat->Option (Nd α))(i:Nat)(n:Option (Nd α)):EE f i n i=n:=by simp[EE]
theorem DA{f:Nat->Option (Nd α)}{i j:Nat}(n:Option (Nd α))(h:j≠i):EE f i n j=f j:=by simp[EE,h]
theorem Holds.out{f:Nat->Option (Nd α)}{t:Tr α}(h:Holds μ f t){i:Nat}(n:Option (Nd α))(o:i∉t.idx):Holds μ (EE f i n) t:=
 h.frame μ fun j x=>DA n fun e=>o (e▸x)
theorem Holds.top{f:Nat->Option (Nd α)}{l r:Tr α}{i:Nat}{x:α}(hl:Holds μ f l)(hr:Holds μ f r)(j:i∉l.idx)(o:i∉r.idx) :
  Holds μ (EE f i (some (Dd μ (node l i x r) x l.root r.root))) (node l i x r):=
 ⟨hl.out μ _ j,hr.out μ _ o,JC _ _ _⟩
def FL(t:Tr α):Prop:=t.idx.Nodup
theorem Ax{l r:Tr α}{i:Nat}{x:α}:FL (node l i x r)↔FL l/\FL r/\i∉l.idx/\i∉r.idx/\∀j∈l.idx,j∉r.idx:=by
 unfold FL;simp only[idx,List.nodup_append,List.nodup_cons,List.mem_cons,ne_eq,forall_eq_or_imp];constructor
 .rintro⟨h1,⟨B,E⟩,o⟩;exact⟨h1,E,fun e=>(o i e).1 rfl,B,fun j y e=>(o j y).2 j e rfl⟩
 .rintro⟨h1,B,E,o,I⟩;exact⟨h1,⟨o,B⟩,fun j y=>⟨fun e=>E (e▸y),fun k hk e=>I j y (e▸hk)⟩⟩
def cV(t t':Tr α):Prop:=t'.toL=t.toL/\t'.idx.Perm t.idx
theorem SJ(a b c:Tr α)(i j:Nat)(x y:α):cV (node (node a j y b) i x c) (node a j y (node b i x c)):=by
 refine⟨by simp[toL],?_⟩;simp[idx]
theorem Ue(a b c:Tr α)(i j:Nat)(x y:α):cV (node a j y (node b i x c)) (node (node a j y b) i x c):=by
 refine⟨by simp[toL],?_⟩;simp[idx]
end
end Tr
structure Kd (α:Type) where
 μ:α->Nat×Nat
 cut:α->Nat->α×α
 meld:α->α->Option α
namespace Kd
variable {α β:Type}(k:Kd α)
def split:List α->Nat->List α×List α
 |[],_=>([],[])
 |x::t,at'=>if at'=0 then([],x::t) else if(k.μ x).1<=at' then(x::(split t (at'-(k.μ x).1)).1,(split t (at'-(k.μ x).1)).2) else([(k.cut x at').1],(k.cut x at').2::t)
theorem Kw(l:List α):k.split l 0=([],l):=by
 cases l with
 |nil=>rfl
 |cons x t=>simp[split]
theorem QG{l:List α}(t:List α){p:Nat}(h:p<=Tr.sz k.μ l):k.split (l++t) p=((k.split l p).1,(k.split l p).2++t):=by
 induction l generalizing p with
 |nil=>
  have:p=0:=by simpa[Tr.sz] using h
  subst this;rw[Kw];simp[Kw]
 |cons x l i=>
  rw[Tr.BU] at h;simp only[List.cons_append,split];by_cases h0:p=0
  .rw[if_pos h0,if_pos h0];rfl
  .rw[if_neg h0,if_neg h0];by_cases h1:(k.μ x).1<=p
   .rw[if_pos h1,if_pos h1,i (by omega)]
   .rw[if_neg h1,if_neg h1];rfl
theorem N6{l:List α}(t:List α){p:Nat}(h:Tr.sz k.μ l<p):k.split (l++t) p=(l++(k.split t (p-Tr.sz k.μ l)).1,(k.split t (p-Tr.sz k.μ l)).2):=by
 induction l generalizing p with
 |nil=>simp[Tr.sz]
 |cons x l i=>
  rw[Tr.BU] at h ⊢;simp only[List.cons_append,split];rw[if_neg (by omega),if_pos (by omega),i (by omega),Nat.sub_sub]
theorem LR(l r:List α)(x:α)(p:Nat):k.split (l++x::r) p =
  if p<=Tr.sz k.μ l then((k.split l p).1,(k.split l p).2++x::r) else if Tr.sz k.μ l+(k.μ x).1<=p then(l++x::(k.split r (p-Tr.sz k.μ l-(k.μ x).1)).1,(k.split r (p-Tr.sz k.μ l-(k.μ x).1)).2)
  else(l++[(k.cut x (p-Tr.sz k.μ l)).1],(k.cut x (p-Tr.sz k.μ l)).2::r):=by
 by_cases h:p<=Tr.sz k.μ l
 .rw[if_pos h,QG k _ h]
 .rw[if_neg h,N6 k _ (by omega)];simp only[split];rw[if_neg (by omega)];by_cases i:Tr.sz k.μ l+(k.μ x).1<=p
  .rw[if_pos i,if_pos (by omega)]
  .rw[if_neg i,if_neg (by omega)]
def part(x:α)(i j:Nat):α:=if 0<i then(k.cut (if j<(k.μ x).1 then(k.cut x j).1 else x) i).2 else if j<(k.μ x).1 then(k.cut x j).1 else x
def over:List α->Nat->Nat->List α
 |[],_,_=>[]
 |x::t,i,j=>(if i<min j (k.μ x).1 then[k.part x i (min j (k.μ x).1)] else[])++over t (i-(k.μ x).1) (j-(k.μ x).1)
theorem D8(l:List α){i j:Nat}(h:j<=i):k.over l i j=[]:=by
 induction l generalizing i j with
 |nil=>rfl
 |cons x l o=>simp only[over];rw[if_neg (by omega),o (by omega)];rfl
theorem O8(l t:List α)(i j:Nat):k.over (l++t) i j=k.over l i j++k.over t (i-Tr.sz k.μ l) (j-Tr.sz k.μ l):=by
 induction l generalizing i j with
 |nil=>simp[over,Tr.sz]
 |cons x l o=>
  simp only[List.cons_append,over,o,Tr.BU,List.append_assoc,Nat.sub_sub]
theorem K6(l:List α)(i j:Nat):k.over l i (min j (Tr.sz k.μ l))=k.over l i j:=by
 induction l generalizing i j with
 |nil=>rfl
 |cons x l o=>
  simp only[over,Tr.BU];rw[show min (min j ((k.μ x).1+Tr.sz k.μ l)) (k.μ x).1=min j (k.μ x).1 by omega,show min j ((k.μ x).1+Tr.sz k.μ l)-(k.μ x).1=min (j-(k.μ x).1) (Tr.sz k.μ l) by omega,o]
def CB(out:List α)(x:α):List α:=if(k.μ x).1=0 then out else
 match out.getLast? with
 |some y=>match k.meld y x with
  |some z=>out.dropLast++[z]
  |none=>out++[x]
 |none=>out++[x]
def melded(l:List α):List α:=l.foldl k.CB []
def Bn(t:List α)(i j:Nat)(l:List α):List α:=
 let a:=(k.split t i).1
 let b:=(k.split (k.split t i).2 (j-i)).2
 a.dropLast++k.melded (a.getLast?.toList++l++b.head?.toList)++b.tail
structure Ei (u:α->List β):Prop where
 size:∀x,(k.μ x).1=(u x).length
 cut1:∀x p,0<p->p<(u x).length->u (k.cut x p).1=(u x).take p/\u (k.cut x p).2=(u x).drop p
 melds:∀x y z,k.meld x y=some z->u z=u x++u y
variable {k}{u:α->List β}
theorem Ei.sz(h:k.Ei u)(l:List α):Tr.sz k.μ l=(l.flatMap u).length:=by
 induction l with
 |nil=>rfl
 |cons x l i=>rw[Tr.BU,i,h.size,List.flatMap_cons,List.length_append]
theorem Ei.split(h:k.Ei u)(l:List α)(p:Nat):((k.split l p).1.flatMap u=(l.flatMap u).take p)/\(k.split l p).2.flatMap u=(l.flatMap u).drop p:=by
 induction l generalizing p with
 |nil=>simp[Kd.split]
 |cons x l j=>
  simp only[Kd.split,List.flatMap_cons];by_cases h0:p=0
  .subst h0;simp
  .rw[if_neg h0];by_cases h1:(k.μ x).1<=p
   .rw[if_pos h1];have o:=h.size x;have i:(u x).length<=p:=by omega
    refine⟨?_,?_⟩
    .rw[List.flatMap_cons,(j _).1,List.take_append,List.take_of_length_le i,o]
    .rw[(j _).2,List.drop_append,List.drop_eq_nil_of_le i,o,List.nil_append]
   .rw[if_neg h1];have:=h.size x;obtain⟨c1,y⟩:=h.cut1 x p (by omega) (by omega);simp only[List.flatMap_cons,List.flatMap_nil,List.append_nil,c1,y,List.take_append,List.drop_append];rw[show p-(u x).length=0 by omega];simp
theorem Ei.part(h:k.Ei u)(x:α){i j:Nat}(o:i<j)(y:j<=(u x).length):u (k.part x i j)=((u x).take j).drop i:=by
 have B:=h.size x;have e:u (if j<(k.μ x).1 then(k.cut x j).1 else x)=(u x).take j:=by
  by_cases h1:j<(k.μ x).1
  .rw[if_pos h1,(h.cut1 x j (by omega) (by omega)).1]
  .rw[if_neg h1,List.take_of_length_le (by omega)]
 unfold Kd.part;by_cases h0:0<i
 .rw[if_pos h0,(h.cut1 _ i h0 (by rw[e,List.length_take];omega)).2,e]
 .rw[if_neg h0,e,show i=0 by omega,List.drop_zero]
theorem Ei.over(h:k.Ei u)(l:List α)(i j:Nat):(k.over l i j).flatMap u=((l.flatMap u).take j).drop i:=by
 induction l generalizing i j with
 |nil=>simp[Kd.over]
 |cons x l o=>
  have y:=h.size x;simp only[Kd.over,List.flatMap_append,List.flatMap_cons,o,List.take_append,List.drop_append,y,List.length_take];congr 1
  .by_cases h1:i<min j (u x).length
   .rw[if_pos h1];simp only[List.flatMap_cons,List.flatMap_nil,List.append_nil];have ht:(u x).take (min j (u x).length)=(u x).take j:=by rw[List.take_eq_take_iff];omega
    rw[h.part x (by omega) (by omega),ht]
   .rw[if_neg h1,List.drop_eq_nil_of_le (by rw[List.length_take];omega)];rfl
  .by_cases B:j<=(u x).length
   .rw[show j-(u x).length=0 by omega];simp
   .rw[show min j (u x).length=(u x).length by omega]
theorem Ei.CB(h:k.Ei u)(out:List α)(x:α):(k.CB out x).flatMap u=out.flatMap u++u x:=by
 unfold Kd.CB;by_cases h0:(k.μ x).1=0
 .rw[if_pos h0];have:u x=[]:=List.eq_nil_of_length_eq_zero (by rw[<-h.size];exact h0);rw[this,List.append_nil]
 .rw[if_neg h0];rcases List.eq_nil_or_concat out with rfl|⟨o,y,rfl⟩
  .simp
  .simp only[List.concat_eq_append,List.getLast?_append,List.getLast?_singleton,Option.some_or,List.dropLast_concat];cases hm:k.meld y x with
   |none=>simp
   |some z=>simp[h.melds _ _ _ hm]
theorem Ei.melded(h:k.Ei u)(l:List α):(k.melded l).flatMap u=l.flatMap u:=by
 have gen:∀(l out:List α),(l.foldl k.CB out).flatMap u=out.flatMap u++l.flatMap u:=by
  intro l;induction l with
  |nil=>intro out;simp
  |cons x l i=>intro out;rw[List.foldl_cons,i,h.CB];simp
 have e:=gen l [];rw[List.flatMap_nil,List.nil_append] at e;exact e
theorem Ei.Bn(h:k.Ei u)(t l:List α){i j:Nat}(B:i<=j):(k.Bn t i j l).flatMap u=(t.flatMap u).take i++l.flatMap u++(t.flatMap u).drop j:=by
 unfold Kd.Bn;obtain⟨E,I⟩:=h.split t i;obtain⟨O,x⟩:=h.split (k.split t i).2 (j-i);rw[I,List.drop_drop,show i+(j-i)=j by omega] at x;rw[<-E,<-x];simp only[List.flatMap_append,h.melded];generalize (k.split t i).1=a;generalize (k.split (k.split t i).2 (j-i)).2=b;have J:a.dropLast.flatMap u++a.getLast?.toList.flatMap u=a.flatMap u:=by
  rcases List.eq_nil_or_concat a with rfl|⟨o,y,rfl⟩
  .rfl
  .simp
 have eb:b.head?.toList.flatMap u++b.tail.flatMap u=b.flatMap u:=by
  cases b<;>simp
 rw[<-J,<-eb];simp only[List.append_assoc]
end Kd
structure ArS (α:Type) where
 ps:List (Option (Nd α))
 fr:List Nat
namespace ArS
variable {α:Type}
def f(A:ArS α):Nat->Option (Nd α):=fun i=>(A.ps[i]?).join
def Ok(A:ArS α):Prop:=(∀i∈A.fr,A.ps[i]?=some none)/\A.fr.Nodup
def z:ArS α:=⟨[],[]⟩
theorem dQ:Ok (z:ArS α):=⟨by simp[z],by simp[z]⟩
def put(A:ArS α)(i:Nat)(n:Nd α):ArS α:=⟨A.ps.set i (some n),A.fr⟩
def free(A:ArS α)(i:Nat):ArS α:=⟨A.ps.set i none,A.fr++[i]⟩
def num(A:ArS α):Nat:=match A.fr.getLast? with|some i=>i|none=>A.ps.length
def take(A:ArS α)(n:Nd α):ArS α:=match A.fr.getLast? with|some i=>⟨A.ps.set i (some n),A.fr.dropLast⟩|none=>⟨A.ps++[some n],A.fr⟩
theorem Hr{A:ArS α}{i:Nat}{n:Nd α}(h:A.f i=some n):i<A.ps.length/\A.ps[i]?=some (some n):=by
 unfold f at h;cases hp:A.ps[i]? with
 |none=>rw[hp] at h;cases h
 |some o=>rw[hp] at h;cases o with
  |none=>cases h
  |some m=>cases h;exact⟨(List.getElem?_eq_some_iff.1 hp).1,rfl⟩
theorem TF(A:ArS α){i:Nat}(x:i<A.ps.length)(o:Option (Nd α))(fr:List Nat):(⟨A.ps.set i o,fr⟩:ArS α).f=Tr.EE A.f i o:=by
 funext j
 unfold f Tr.EE;simp only[List.getElem?_set];by_cases h:i=j
 .subst h;rw[if_pos rfl,if_pos x,if_pos rfl];rfl
 .rw[if_neg h,if_neg fun e=>h e.symm]
theorem Iy{A:ArS α}{i:Nat}{n m:Nd α}(h:A.f i=some m):(A.put i n).f=Tr.EE A.f i (some n):=TF A (Hr h).1 _ _
theorem Zd{A:ArS α}{i:Nat}{n m:Nd α}(h:A.f i=some m)(ok:Ok A):Ok (A.put i n):=by
 refine⟨fun j y=>?_,ok.2⟩;have h1:=ok.1 j y;have x:=(Hr h).2;have o:i≠j:=fun e=>by subst e;rw[h1] at x;cases x
 show(A.ps.set i (some n))[j]?=_;rw[List.getElem?_set,if_neg o];exact h1
theorem Pv{A:ArS α}{i:Nat}{m:Nd α}(h:A.f i=some m):(A.free i).f=Tr.EE A.f i none:=TF A (Hr h).1 _ _
theorem Xx{A:ArS α}{i:Nat}{m:Nd α}(h:A.f i=some m)(ok:Ok A):Ok (A.free i):=by
 have x:=Hr h;have y:i∉A.fr:=fun e=>by have:=ok.1 i e;rw[this] at x;cases x.2
 refine⟨fun j o=>?_,List.nodup_append.2 ⟨ok.2,by simp,fun a ha b hb=>by simp at hb;subst hb;exact fun e=>y (e▸ha)⟩⟩;show(A.ps.set i none)[j]?=_;rw[List.getElem?_set];by_cases e:i=j
 .subst e;rw[if_pos rfl,if_pos x.1]
 .rw[if_neg e];rcases List.mem_append.1 o with o|o
  .exact ok.1 j o
  .simp at o;exact(e o.symm).elim
theorem P4{A:ArS α}(n:Nd α)(ok:Ok A):(A.take n).f=Tr.EE A.f A.num (some n)/\A.f A.num=none/\Ok (A.take n):=by
 unfold take num;rcases List.eq_nil_or_concat A.fr with y|⟨l,i,hc⟩
 .rw[y];simp only[List.getLast?_nil];refine⟨?_,by simp[f],⟨by simp,by simp⟩⟩;funext j
  unfold f Tr.EE;simp only[List.getElem?_append];by_cases h:j<A.ps.length
  .rw[if_pos h,if_neg (by omega)]
  .rw[if_neg h];by_cases e:j=A.ps.length
   .subst e;simp
   .rw[if_neg e,List.getElem?_eq_none (by simp;omega),List.getElem?_eq_none (by omega)]
 .rw[List.concat_eq_append] at hc;rw[hc];simp only[List.getLast?_append,List.getLast?_singleton,Option.some_or,List.dropLast_concat];have h1:=ok.1 i (by rw[hc];simp);have B:=(List.getElem?_eq_some_iff.1 h1).1;have o:=ok.2;rw[hc,List.nodup_append] at o;refine⟨TF A B _ _,by unfold f;rw[h1];rfl,⟨fun j x=>?_,o.1⟩⟩;show(A.ps.set i (some n))[j]?=_;rw[List.getElem?_set,if_neg fun e=>o.2.2 j x i (by simp) e.symm];exact ok.1 j (by rw[hc];simp[x])
end ArS
end Go.Proofs.YtmdhibffnkhcnaaGreatDoor
namespace Go.Proofs.YtmdhibffnkhcnaaGreatDoor
open Go Go.K Proofs.Tryz
def S8(v0:Value)(K:Cont)(w:World):Prop:=
 Ak v0 fun an=>
 EZ .i64 an (.int .i64 64) fun av=>
 AD av
 (K (.tuple #[(.pointer none),(.int .i64 3)]) w)
 (AB prog 29 [v0] (fun ax w1=>
 runK prog (Instr.makeMap 66 none) (fun ay w2=>
 Ae [(0,1),(1,1)] [(.slice none 0 0),(.map none)] [(0,ax),(1,ay)] fun b0=>
 BZ 68 b0 (fun o w3=>
 Ak v0 fun b1=>
 Ay [(.int .i64 0)] (fun vs y w4=>∀_:Env,
 Be .i64 (nth vs 0) b1 fun b2=>
 AD b2
 (Bf 6 v0 (nth vs 0) fun b3=>
 Ac 6 b3 (fun t22 w5=>
 Al 65 [(.int .i64 0),(.bool false),(.int .u8 0),(.bool false),(.bool false),(.int .i64 0)] (fun T w6=>
 AZ 6 T t22 (fun U=>
 Ar (fun _vs_1 w8=>∀_:Env,
 Aw [7] [[],[0],[0,1],[0,1,2],[],[4],[],[0,1,2,3,4,5,6]] w8.drew (fun M St=>
 AJ o fun b4=>
 AM 1 b4 fun b5=>
 BC (St 3) b5 fun b6=>
 AM 0 T fun b7=>
 BC (St 5) b7 fun b8=>
 Dv (St 6) 6 T fun t45=>
 runK prog (do Instr.mapUpdate 66 b6 b8 t45;pure undef) (fun _u w9=>
 Mod (M 7) w8.drew w9/\
 AX .i64 (nth vs 0) (.int .i64 1) fun t46=>
 y [t46] w9) w8.drew)) (fun J=>
 Ar (fun V X=>∀_:Env,
 AD (nth V 0)
 (K (.tuple #[(.pointer none),(.int .i64 3)]) X)
 (Ac 6 T (fun b9 ba=>
 AB prog 30 [b9] (fun bc Y=>
 Br bc fun bd=>
 AD bd
 (K (.tuple #[(.pointer none),(.int .i64 3)]) Y)
 (J [] Y)) ba) X)) (fun Z=>
 Aw [6,10,11] [[],[0],[0,1],[0,1,2],[],[4],[0,1,2,3,4,5],[0,1,2,3,4,5,6],[0,1,2,3,4,5,6,7],[0,1,2,3,4,5,6,7],[],[0,1,2,3,4,5,6,7,8,10],[0,1,2,3,4,5,6,7,8,9,10,11]] U.drew (fun i x=>
 AJ o fun t25=>
 AM 1 t25 fun bk=>
 BC (x 3) bk fun a1=>
 AM 0 T fun bl=>
 BC (x 5) bl fun a6=>
 (runK prog (Instr.lookup 66 a1 a6 true) (fun a7 B=>
 Mod (i 6) U.drew B/\
 AO 0 a7 fun bp=>
 AO 1 a7 fun bs=>
 Al 65 [(.int .i64 0),(.bool false),(.int .u8 0),(.bool false),(.bool false),(.int .i64 0)] (fun t7 E=>
 Mod (i 10) B E/\
 AZ 6 t7 bp (fun a8=>
 Mod (i 11) E a8/\
 Z [bs] a8) E) B) U.drew)/\
 (Al 65 [(.int .i64 0),(.bool false),(.int .u8 0),(.bool false),(.bool false),(.int .i64 0)] (fun ak I=>
 Mod (i 10) U.drew I/\
 runK prog (Instr.lookup 66 a1 a6 true) (fun j O=>
 Mod (i 6) I O/\
 AO 0 j fun Q=>
 AO 1 j fun S=>
 AZ 6 ak Q (fun al=>
 Mod (i 11) O al/\
 Z [S] al) O) I) U.drew))))) w6) w5) w4)
 (AJ o fun bx=>
 AM 0 bx fun c4=>
 AK c4 (fun t50 c6=>
 AB prog 31 [t50,(.func (.func 32) #[] #[])] (fun _t51 c7=>
 K (.tuple #[o,(.int .i64 0)]) c7) c6) w4)) w3) w2) w1) w)
variable {v0 v1 v2 v3 v4 v5 v6 v7 v8 v9:Value}{K:Cont}{w:World}
theorem cC(h:S8 v0 K w):AB prog 8 [v0] K w:=cO (aN (aO (aN (aO aE .nil)) (aN (aO (aN (.node [19] [(2,3),(6,8),(19,46)] (aN (aO aE (aO (aN (.cut [] [(2,3),(7,8),(23,38)] (.cut [8] [(7,8),(23,32)] (.dt [6,10,11] [[],[0],[0,1],[0,1,2],[],[4],(aR 6),(aR 7),(aR 8),(aR 8),[],[0,1,2,3,4,5,6,7,8,10],(aR 12)] [[6]] (.op 0 (.op 1 (.op 2 (.op 3 (.op 4 (.op 5 (.br (.op 6 (.op 7 (.op 8 (.op 9 (.op 10 (.op 11 (.op 12 .nil))))))) (.op 10 (.op 6 (.op 7 (.op 8 (.op 9 (.op 11 (.op 12 .nil))))))))))))))) (aN (aO aE .nil))) (.dc [7] [[],[0],[0,1],[0,1,2],[],[4],[],(aR 7)] []))) .nil))) .nil)) (aN aE))))) func8 h (by kernel_rfl)
theorem ZO(h: G5 v0 fun i=>
 AD (.bool i)
 (K (.slice none 0 0) w)
 (Bc 65 6 0 [] [] (fun t5 j=>
 runK prog (Builtin.append_ #[22,22] 22 [t5,v0].toArray) (fun o w2=>
 K o w2) j) w)):AB prog 29 [v0] K w:=cO (aN (aO (aN (aO aE .nil)) aE)) func29 h (by kernel_rfl)
theorem aP(h: BZ 65 v0 (fun i w1=>
 Ar (fun vs w2=>∀_:Env,
 AD (nth vs 0)
 (K (.bool false) w2)
 (AM 1 i fun o=>
 AK o (fun x w3=>
 AD x
 (AM 4 i fun t25=>
 AK t25 (fun y w4=>
 Br y fun B=>
 AD B
 (AM 5 i fun E=>
 AK E (fun I w5=>
 KA .i64 I (.int .i64 0) fun O=>
 AD O
 (AM 5 i fun Q=>
 AK Q (fun S w6=>
 Qp .i64 S (.int .i64 8) fun T=>
 K T w6) w5)
 (K (.bool false) w5)) w4)
 (K (.bool false) w4)) w3)
 (AM 5 i fun U=>
 AK U (fun t39 w7=>
 DT .i64 t39 (.int .i64 0) fun V=>
 K V w7) w3)) w2)) (fun J=>
 AM 0 i fun t4=>
 AK t4 (fun t5 w8=>
 Be .i64 t5 (.int .i64 1) fun t6=>
 AD t6
 (J [(.bool true)] w8)
 (AM 0 i fun t8=>
 AK t8 (fun t9 w9=>
 EZ .i64 t9 (.int .i64 1000) fun X=>
 AD X
 (J [(.bool true)] w9)
 (AM 2 i fun Y=>
 AK Y (fun Z j=>
 Be .u8 Z (.int .u8 1) fun a1=>
 AD a1
 (J [(.bool true)] j)
 (AM 2 i fun a6=>
 AK a6 (fun a7 a8=>
 EZ .u8 a7 (.int .u8 4) fun ak=>
 J [ak] a8) j)) w9)) w8)) w1)) w):AB prog 30 [v0] K w:=cO (aN (aO (.cut [3] [(3,21)] .nil (aO aE (aN (aO aE .nil)))) aE)) func30 h (by kernel_rfl)
theorem Yz(h: BZ 65 v0 (fun i j=>
 BZ 65 v1 (fun t3 w2=>
 AM 0 i fun t5=>
 AK t5 (fun o x=>
 AM 0 t3 fun y=>
 AK y (fun B w4=>
 AB prog 33 [o,B] (fun t9 E=>
 K t9 E) w4) x) w2) j) w):AB prog 32 [v0,v1] K w:=cO (aN aE) func32 h (by kernel_rfl)
theorem Zb(h: AB prog 73 [v0] (fun x y=>
 AB prog 73 [v1] (fun i w2=>
 AD x
 (AD i
 (K (.int .i64 0) w2)
 (K (.int .i64 (-1)) w2))
 (AD i
 (K (.int .i64 1) w2)
 (Be .i64 v0 v1 fun j=>
 AD j
 (K (.int .i64 (-1)) w2)
 (EZ .i64 v0 v1 fun o=>
 AD o
 (K (.int .i64 1) w2)
 (K (.int .i64 0) w2))))) y) w):AB prog 33 [v0,v1] K w:=cO (aN (aN (aN (aO (aN (aO (aO (aN (aO aE .nil)) aE) .nil)) (aO (aN (aO aE .nil)) (aO (aN (aO aE .nil)) (aO (aN (aO aE .nil)) aE))))))) func33 h (by kernel_rfl)
theorem XS(h: Al 65 [(.int .i64 0),(.bool false),(.int .u8 0),(.bool false),(.bool false),(.int .i64 0)] (fun t4 Q=>
 CX v0 fun T=>
 AD (.bool T)
 (Ae [(0,1),(1,1),(2,1),(3,1),(4,1),(5,1)] [(.int .i64 0),(.bool false),(.int .u8 0),(.bool false),(.bool false),(.int .i64 0)] [] fun o=>
 AZ 6 t4 o (fun w2=>
 Ac 6 t4 (fun U V=>
 K (.tuple #[U,(.bool false)]) V) w2) Q)
 (AJ v0 fun x=>
 AM 1 x fun y=>
 AK y (fun B w4=>
 runK prog (Instr.lookup 66 B v1 true) (fun i X=>
 AO 0 i fun E=>
 AO 1 i fun I=>
 Al 65 [(.int .i64 0),(.bool false),(.int .u8 0),(.bool false),(.bool false),(.int .i64 0)] (fun S Y=>
 AZ 6 S E (fun Z=>
 Ac 6 S (fun J w8=>
 AZ 6 t4 J (fun w9=>
 Ac 6 t4 (fun j O=>
 K (.tuple #[j,I]) O) w9) w8) Z) Y) X) w4) Q)) w):AB prog 131 [v0,v1] K w:=cO (aN (aO (aN (aO aE .nil)) (aN aE))) func131 h (by kernel_rfl)
theorem Z8(h: Dm .i64 v0 v0 fun t5=>
 K t5 w):AB prog 73 [v0] K w:=cO (aN aE) func73 h (by kernel_rfl)
end Go.Proofs.YtmdhibffnkhcnaaGreatDoor
namespace Go.K
open Go
def Im(w:World)(b:Nat)(l:List (Int×Value)):Prop:=∃j i,w.heap[b]?=some (.map j i)/\j.toList.map (fun e=>(e.key,e.val))=l.map fun p=>(Value.int .i64 p.1,p.2)
theorem Im.lt{w:World}{b:Nat}{l:List (Int×Value)}(h:Im w b l):b<w.heap.size:=by
 obtain⟨i,c,hb,_⟩:=h;exact(Array.getElem?_eq_some_iff.1 hb).1
theorem Im.mod{M:Nat->Prop}{w w':World}{b:Nat}{l:List (Int×Value)}(h:Im w b l)(hm:Mod M w w')(hb:¬M b):Im w' b l:=by
 have hl:=h.lt;obtain⟨i,c,h1,j⟩:=h;exact⟨i,c,(hm.same b hl hb).trans h1,j⟩
theorem Im.make(w:World):Im (w.alloc (.map #[] 0)) w.heap.size []:=⟨#[],0,(MapKept.heap_alloc w _).1,rfl⟩
theorem Jj(k:Int):∀(x:List MapEntry) (l:List (Int×Value)) (i:Nat),(x.map fun e=>(e.key,e.val))=(l.map fun p=>(Value.int .i64 p.1,p.2))->
  ∃r,Instr.findNow (.int .i64) (.int .i64 k) x i=some r/\((r=none/\l.find? (fun p=>decide (p.1=k))=none)\/∃j p,r=some (j,p.2)/\l.find? (fun p=>decide (p.1=k))=some p):=by
 intro x;induction x with
 |nil=>
  intro l i h;cases l with
  |nil=>exact⟨none,rfl,.inl ⟨rfl,rfl⟩⟩
  |cons p l=>simp at h
 |cons e x y=>
  intro l i h;cases l with
  |nil=>simp at h
  |cons p l=>
   simp only[List.map_cons,List.cons.injEq,Prod.mk.injEq] at h;obtain⟨⟨h1,B⟩,E⟩:=h;obtain⟨r,hr,o⟩:=MapKept.sameNow_of_keys (d:=.int .i64) (a:=.int .i64 k) (b:=e.key) rfl (by rw[h1];rfl);rw[h1] at o;cases r with
   |true=>
    have hk:k=p.1:=by have:=o.1 rfl;simpa using this
    exact⟨some (i,e.val),by simp[Instr.findNow,hr],.inr ⟨i,p,by rw[B],by simp[hk]⟩⟩
   |false=>
    have hk:¬p.1=k:=fun e=>by have:=o.2 (by rw[e]);cases this
    obtain⟨r,I,J⟩:=y l (i+1) E;refine⟨r,by simp[Instr.findNow,hr,I],?_⟩;simpa[List.find?_cons,hk] using J
theorem U4(k:Int):MapKept.IsKey (.int .i64) (.int .i64 k):=rfl
theorem KL{P:Program}{t kt et:TypeId}{z:Value}{w:World}{b:Nat}{l:List (Int×Value)}(ht:P.underlying t=some (.map kt et))(hk:P.underlying kt=some (.int .i64))(y:(zeroValue et).run P w=.ok z w)(h:Im w b l)(k:Int) :
  (Instr.lookup t (.map (some b)) (.int .i64 k) true).run P w=.ok (.tuple #[((l.find? fun p=>decide (p.1=k)).map (·.2)).getD z,.bool (l.find? fun p=>decide (p.1=k)).isSome]) w:=by
 obtain⟨B,o,hb,he⟩:=h;obtain⟨r,h1,i⟩:=Jj k B.toList l 0 he;have x:=MapKept.run_findKey (w:=w) hk h1;have hc:=fun em=>MapKept.run_checkKey (w:=w) hk (U4 k) em 9999;rcases i with⟨rfl,i⟩|⟨j,p,rfl,i⟩
 .simp[Instr.lookup,run_underlying ht,MapKept.run_getObj_map hb,hc,x,y,Result.andThen,i]
 .simp[Instr.lookup,run_underlying ht,MapKept.run_getObj_map hb,hc,x,Result.andThen,i]
theorem Pb{P:Program}{t kt et:TypeId}{w:World}{b:Nat}{l:List (Int×Value)}(ht:P.underlying t=some (.map kt et))(hk:P.underlying kt=some (.int .i64))(h:Im w b l)(k:Int)(v:Value)(y:l.find? (fun p=>decide (p.1=k))=none) :
  ∃w',(Instr.mapUpdate t (.map (some b)) (.int .i64 k) v).run P w=.ok () w'/\Im w' b (l++[(k,v)])/\Mod (fun x=>x=b) w w':=by
 obtain⟨B,i,hb,he⟩:=h;obtain⟨r,h1,o⟩:=Jj k B.toList l 0 he;have E:=MapKept.run_findKey (w:=w) hk h1;have hc:=fun em=>MapKept.run_checkKey (w:=w) hk (U4 k) em 9999;rcases o with⟨rfl,o⟩|⟨j,p,rfl,o⟩
 .refine⟨{ w with heap:=w.heap.setIfInBounds b (.map (B.push ⟨.int .i64 k,v,i⟩) (i+1)) },by simp[Instr.mapUpdate,run_underlying ht,MapKept.run_getObj_map hb,hc,E,MapKept.run_setObj_map _ hb,Result.andThen],⟨_,_,(MapKept.heap_set hb).1,?_⟩,⟨rfl,rfl,rfl,by simp,fun x _ I=>(MapKept.heap_set hb).2 x I⟩⟩;simp[he]
 .rw[o] at y;cases y
end Go.K
namespace Go.K
open Go
theorem Cs{a:Addr}{K:Bool->Prop}(h:K false):CX (.pointer (some a)) K:=⟨_,rfl,h⟩
theorem AS{A B:Prop}(h:B):AD (.bool false) A B:=h
theorem Ao{A B:Prop}(h:A):AD (.bool true) A B:=h
theorem AH{a:Addr}{K:Value->Prop}(h:K (.pointer (some a))):AJ (.pointer (some a)) K:=⟨_,rfl,h⟩
end Go.K
namespace Go.Proofs.YtmdhibffnkhcnaaGreatDoor
open Go Go.K Proofs.Tryz
theorem VJ:Cu prog 22 65 6 24:=⟨Tryz.t65,.agg #[.int .i64 0,.bool false,.int .u8 0,.bool false,.bool false,.int .i64 0],by kernel_rfl,by kernel_rfl,by kernel_rfl,by kernel_rfl,by kernel_rfl,by rfl,by decide⟩
theorem Nw:Cu prog 145 3 1 8:=⟨Tryz.t3,.int .i64 0,by kernel_rfl,by kernel_rfl,by kernel_rfl,by kernel_rfl,by kernel_rfl,by rfl,by decide⟩
open Classical in
theorem Xe{k:DKey}{w:World}:AB prog 30 [.agg k.cells.toArray] (fun v' w'=>v'=.bool (decide (EK k))/\Grow w w') w:=by
 apply aP;refine Db fun b x _ _ g hc _=>?_;have E:=hc 0 _ rfl;have l1:=hc 1 _ rfl;have l2:=hc 2 _ rfl;have S:=hc 4 _ rfl;have y:=hc 5 _ rfl;simp only[AG];have i:∀q:Bool,(q=true↔EK k)->Value.bool q=.bool (decide (EK k))/\Grow w x:=fun q h=>⟨by congr 1;rw[Bool.eq_iff_iff,h,decide_eq_true_eq],g⟩;refine AU (fun vs w2=>w2=x/\∃q:Bool,vs=[.bool q]/\(q=false↔1<=k.id/\k.id<=1000/\1<=k.kind/\k.kind<=4)) ?_ ?_
 .rintro vs _ ⟨rfl,q,rfl,I⟩ _;rename World=>x
  rw[CM,List.headD_cons];cases q with
  |true=>exact Ao (i false ⟨fun h=>(nomatch h),fun h=>by have:=I.2 ⟨h.1,h.2.1,h.2.2.1,h.2.2.2.1⟩;cases this⟩)
  |false=>
   obtain⟨h1,j,o,J⟩:=I.1 rfl;refine AS (AL l1 ?_);cases hb:k.block with
   |true=>
    refine Ao (AL S ?_);rw[An];cases O:k.before with
    |true=>exact AS (i false ⟨fun h=>(nomatch h),fun h=>by have:=h.2.2.2.2.2.2.2 hb;rw[O] at this;cases this⟩)
    |false=>
     refine Ao (AL y ?_);rw[Da];refine AE (fun Q=>?_) fun Q=>i false ⟨fun h=>(nomatch h),fun h=>by have:=h.2.2.2.2.1;omega⟩;refine AL y ?_;rw[HR];refine i _ ?_;rw[decide_eq_true_eq];exact⟨fun B=>⟨h1,j,o,J,Q,B,(fun e=>by rw[hb] at e;cases e),fun _=>O⟩,fun h=>h.2.2.2.2.2.1⟩
   |false=>
    refine AS (AL y ?_);rw[Am];refine i _ ?_;rw[decide_eq_true_eq];exact⟨fun B=>⟨h1,j,o,J,by omega,by omega,fun _=>B,fun e=>by rw[hb] at e;cases e⟩,fun h=>h.2.2.2.2.2.2.1 hb⟩
 .refine AL E ?_;rw[Av];refine AE (fun h1=>⟨rfl,true,rfl,⟨fun h=>(nomatch h),fun h=>by omega⟩⟩) fun h1=>?_;refine AL E ?_;rw[BL];refine AE (fun j=>⟨rfl,true,rfl,⟨fun h=>(nomatch h),fun h=>by omega⟩⟩) fun j=>?_;refine AL l2 ?_;rw[Av];refine AE (fun o=>⟨rfl,true,rfl,⟨fun h=>(nomatch h),fun h=>by omega⟩⟩) fun o=>?_;refine AL l2 ?_;rw[BL];refine⟨rfl,_,rfl,?_⟩;rw[decide_eq_false_iff_not];exact⟨fun h=>by omega,fun h=>by omega⟩
theorem RW{S:Nat->Prop}{v:Value}{l:List DKey}{w:World}(h:L0 S w v l)(hl:l.length<=1099511627776) :
  AB prog 29 [v] (fun v' w'=>AF w.heap.size 65 6 Fy w' v' l/\Grow w w') w:=by
 apply ZO;exact J1 (K:=fun v' w'=>AF w.heap.size 65 6 Fy w' v' l/\Grow w w') VJ h (by omega) (fun _ _ _=>Fy.one) (fun _ _ _ _ _ _ h=>h) fun _ _ h g=>⟨h,g⟩
def Ls(a b:Int):Int:=if a<b then -1 else if b<a then 1 else 0
theorem Y4{a b:Int}{w:World}:AB prog 33 [.int .i64 a,.int .i64 b] (fun v' w'=>v'=.int .i64 (Ls a b)/\w'=w) w:=by
 have i:∀(c:Int) (K:Cont),K (.bool false) w->AB prog 73 [.int .i64 c] K w:=by
  intro c K o;apply Z8;rw[Bg];rw[show(!decide (c=c))=false by simp];exact o
 apply Zb;refine i _ _ (i _ _ ?_);refine AS (AS ?_);rw[Av];unfold Ls;refine AE (fun h=>⟨by rw[if_pos h],rfl⟩) fun h=>?_;rw[BL];exact AE (fun j=>⟨by rw[if_neg h,if_pos j],rfl⟩) fun j=>⟨by rw[if_neg h,if_neg j],rfl⟩
def DG(D:Nat->Prop)(w:World)(v:Value)(ks:List DKey):Prop:=
 ∃b m i l,v=.pointer (some ⟨b,0,none⟩)/\D b/\D m/\w.cell? ⟨b,0,none⟩=some i/\w.cell? ⟨b,1,none⟩=some (.map (some m))/\BH D 6 Fy w i ks/\Im w m l/\
  ∀id:Int,(l.find? fun p=>decide (p.1=id)).map (·.2)=(BX ks id).map fun k=>.agg k.cells.toArray
theorem DG.mod{D M:Nat->Prop}{w w':World}{v:Value}{ks:List DKey}(h:DG D w v ks)(hm:Mod M w w')(i:∀b,b<w.heap.size->D b->¬M b):DG D w' v ks:=by
 obtain⟨b,m,y,l,rfl,h1,j,o,B,E,x,I⟩:=h;have hb:=World.block_lt_of_cell? w _ o;exact⟨b,m,y,l,rfl,h1,j,hm.cell o (i _ hb h1),hm.cell B (i _ hb h1),E.mod hm i (by decide) fun _ _ h=>h,x.mod hm (i _ x.lt j),I⟩
theorem DG.grow{D:Nat->Prop}{w w':World}{v:Value}{ks:List DKey}(h:DG D w v ks)(hm:Grow w w'):DG D w' v ks:=h.mod hm fun _ _ _ h=>h
theorem DG.sub{D D':Nat->Prop}{w:World}{v:Value}{ks:List DKey}(h:DG D w v ks)(i:∀b,b<w.heap.size->D b->D' b):DG D' w v ks:=by
 obtain⟨b,m,x,l,rfl,h1,y,j,B,E,o,I⟩:=h;exact⟨b,m,x,l,rfl,i _ (World.block_lt_of_cell? w _ j) h1,i _ o.lt y,j,B,E.sub i (by decide) fun _ _ h=>h,o,I⟩
theorem OX(w:World):(zeroValue 65).run prog w=.ok (.agg DKey.zero.cells.toArray) w:=Dl (by kernel_rfl) w
theorem Iu{D:Nat->Prop}{v:Value}{ks:List DKey}{w:World}(h:DG D w v ks)(id:Int) :
  AB prog 131 [v,.int .i64 id] (fun v' w'=>v'=.tuple #[.agg ((BX ks id).getD DKey.zero).cells.toArray,.bool (BX ks id).isSome]/\Grow w w') w:=by
 apply XS;obtain⟨b,m,kv,l,rfl,_,_,h3,J,h5,O,E⟩:=h;refine EI fun b4 w1 Q S i _ o=>?_;refine Cs (AS (AH ?_));rw[AG];refine AL (i.cell (by rw[AI];exact J) fun h=>h) ?_;refine Ai (KL underlying66 underlying3 (OX _) (O.mod i fun h=>h) id) ?_;have T:((l.find? fun p=>decide (p.1=id)).map (·.2)).getD (.agg DKey.zero.cells.toArray)=.agg ((BX ks id).getD DKey.zero).cells.toArray:=by
  rw[E];cases BX ks id<;>rfl
 have U:(l.find? fun p=>decide (p.1=id)).isSome=(BX ks id).isSome:=by
  have:=congrArg Option.isSome (E id);simpa using this
 rw[T,U];refine BK ?_;generalize (BX ks id).getD DKey.zero=k;refine BO (vs:=k.cells) rfl rfl (Fy.one (w:=w) (x:=k) rfl) fun b6 w3 V X I y _=>?_;refine Ah (vs:=k.cells) rfl y ?_;refine CT rfl (Fy.one (w:=w) (x:=k) rfl) (fun j Y=>(o j Y).mod I fun h=>h) fun w4 Z B _=>?_;refine Ah (vs:=k.cells) rfl B ⟨rfl,?_⟩;exact(i.trans I).next Z fun x hx e=>by omega
abbrev K1:World->List Value->Int->Prop:=fun _ r x=>r=[.int .i64 x]
theorem K1.one{w:World}{r:List Value}{x:Int}(h:K1 w r x):∀u∈r,u.oneCell'=true:=by
 subst h;intro u hu;simp at hu;subst hu;rfl
end Go.Proofs.YtmdhibffnkhcnaaGreatDoor
namespace Go.K
open Go
structure Ent (α:Type) where
 set:α
 held:Nat
structure Tab (α:Type) where
 places:List (Ent α)
 free:List Nat
 empty:Nat
def Tab.z(α:Type):Tab α:=⟨[],[],0⟩
structure Tab.Inv {α:Type} (G:α->Prop) (t:Tab α):Prop where
 PH:t.free.Nodup
 SY:∀i:Nat,i∈t.free↔∃p,t.places[i]?=some p/\p.held=0
 G2:∀(i j:Nat) (p q:Ent α),t.places[i]?=some p->t.places[j]?=some q->0<p.held->0<q.held->p.set=q.set->i=j
 ok:∀(i:Nat) (p:Ent α),t.places[i]?=some p->0<p.held->G p.set
def Tab.HK{α:Type}(t:Tab α)(i:Nat)(p:Ent α):Tab α:={ t with places:=t.places.set i p }
def Tab.put{α:Type}(t:Tab α)(s:α):Nat×Tab α:=match t.free.getLast? with
 |some i=>(i,{ t with places:=t.places.set i ⟨s,1⟩,free:=t.free.dropLast })
 |none=>(t.places.length,{ t with places:=t.places++[⟨s,1⟩] })
def Tab.drop{α:Type}(t:Tab α)(z:α)(i:Nat):Tab α:={ t with places:=t.places.set i ⟨z,0⟩,free:=t.free++[i] }
theorem Tab.Inv.z{α:Type}(G:α->Prop):(Tab.z α).Inv G:=⟨List.nodup_nil,fun i=>by simp[Tab.z],fun i j p q h=>by simp[Tab.z] at h,fun i p h=>by simp[Tab.z] at h⟩
theorem Tab.Inv.HK{α:Type}{G:α->Prop}{t:Tab α}(h:t.Inv G){i:Nat}{p:Ent α}(hp:t.places[i]?=some p)(h0:0<p.held){n:Nat}(hn:0<n):(t.HK i ⟨p.set,n⟩).Inv G:=by
 have Q:=(List.getElem?_eq_some_iff.1 hp).1;have key:∀(j:Nat) (q:Ent α),(t.places.set i ⟨p.set,n⟩)[j]?=some q->∃B:Ent α,t.places[j]?=some B/\B.set=q.set/\(0<q.held↔0<B.held):=by
  intro j q y;rw[List.getElem?_set,if_pos Q] at y;split at y
  .rename_i e;subst e;cases y;exact⟨p,hp,rfl,by simp only;omega⟩
  .exact⟨q,y,rfl,Iff.rfl⟩
 refine⟨h.PH,fun j=>?_,fun j k E S h1 I T U V=>?_,fun j E h1 I=>?_⟩
 .show j∈t.free↔∃q:Ent α,(t.places.set i ⟨p.set,n⟩)[j]?=some q/\q.held=0;rw[h.SY,List.getElem?_set,if_pos Q];split
  .rename_i e;subst e;constructor
   .rintro⟨q,o,x⟩;rw[hp] at o;cases o;omega
   .rintro⟨q,o,x⟩;cases o;simp only at x;omega
  .exact Iff.rfl
 .obtain⟨J,o,x,O⟩:=key j E h1;obtain⟨X,Y,Z,f3⟩:=key k S I;exact h.G2 j k J X o Y (O.1 T) (f3.1 U) (by rw[x,Z,V])
 .obtain⟨J,o,x,O⟩:=key j E h1;rw[<-x];exact h.ok j J o (O.1 I)
theorem MT{l:List Nat}(h:l.Nodup){i:Nat}(o:l.getLast?=some i)(j:Nat):j∈l.dropLast↔j∈l/\j≠i:=by
 have e:l=l.dropLast++[i]:=by
  cases l with
  |nil=>simp at o
  |cons a l=>
   rw[List.getLast?_eq_some_getLast (by simp)] at o;conv=>lhs;rw[<-List.dropLast_concat_getLast (l:=a::l) (by simp)]
   rw[Option.some.inj o]
 have x:(l.dropLast++[i]).Nodup:=e▸h;have hm:j∈l↔j∈l.dropLast++[i]:=by rw[<-e]
 rw[List.nodup_append] at x;rw[hm,List.mem_append,List.mem_singleton];constructor
 .intro y;exact⟨.inl y,fun e=>x.2.2 j y i (List.mem_singleton.2 rfl) e⟩
 .rintro⟨h1|h1,B⟩
  .exact h1
  .exact absurd h1 B
theorem Tab.FH{α:Type}{G:α->Prop}{t:Tab α}(h:t.Inv G){s:α}(Z:G s)(U:∀(i:Nat) (p:Ent α),t.places[i]?=some p->0<p.held->p.set≠s) :
  (t.put s).2.Inv G/\(t.put s).2.places[(t.put s).1]?=some ⟨s,1⟩/\(∀p:Ent α,t.places[(t.put s).1]?=some p->p.held=0)/\(∀j:Nat,j≠(t.put s).1->(t.put s).2.places[j]?=t.places[j]?)/\(t.put s).2.empty=t.empty:=by
 unfold Tab.put;cases hl:t.free.getLast? with
 |some i=>
  have V:i∈t.free:=List.mem_of_getLast? hl;obtain⟨p,hp,X⟩:=(h.SY i).1 V;have hi:=(List.getElem?_eq_some_iff.1 hp).1;have o:(t.places.set i ⟨s,1⟩)[i]?=some ⟨s,1⟩:=by rw[List.getElem?_set_self hi]
  have x:∀j:Nat,j≠i->(t.places.set i ⟨s,1⟩)[j]?=t.places[j]?:=fun j hj=>List.getElem?_set_ne (Ne.symm hj);refine⟨⟨h.PH.sublist (List.dropLast_sublist _),fun j=>?_,fun j k I Q h1 y S T J=>?_,fun j I h1 y=>?_⟩,o,fun q O=>?_,x,rfl⟩
  .show j∈t.free.dropLast↔∃q:Ent α,(t.places.set i ⟨s,1⟩)[j]?=some q/\q.held=0;rw[MT h.PH hl,h.SY];by_cases e:j=i
   .subst e;rw[o];constructor
    .rintro⟨_,y⟩;exact absurd rfl y
    .rintro⟨q,B,E⟩;cases B;cases E
   .rw[x j e];exact⟨fun h=>h.1,fun h=>⟨h,e⟩⟩
  .simp only at h1 y;by_cases B:j=i<;>by_cases E:k=i
   .rw[B,E]
   .subst B;rw[o] at h1;cases h1;rw[x k E] at y;exact absurd J.symm (U k Q y T)
   .subst E;rw[o] at y;cases y;rw[x j B] at h1;exact absurd J (U j I h1 S)
   .rw[x j B] at h1;rw[x k E] at y;exact h.G2 j k I Q h1 y S T J
  .simp only at h1;by_cases B:j=i
   .subst B;rw[o] at h1;cases h1;exact Z
   .rw[x j B] at h1;exact h.ok j I h1 y
  .simp only at O;rw[hp] at O;cases O;exact X
 |none=>
  have hf:t.free=[]:=List.getLast?_eq_none_iff.1 hl;have o:(t.places++[(⟨s,1⟩:Ent α)])[t.places.length]?=some ⟨s,1⟩:=by simp
  have x:∀j:Nat,j≠t.places.length->(t.places++[(⟨s,1⟩:Ent α)])[j]?=t.places[j]?:=by
   intro j hj;by_cases Y:j<t.places.length
   .rw[List.getElem?_append_left Y]
   .rw[List.getElem?_eq_none (by simp;omega),List.getElem?_eq_none (by omega)]
  refine⟨⟨h.PH,fun j=>?_,fun j k I Q h1 y S T J=>?_,fun j I h1 y=>?_⟩,o,fun q O=>?_,x,rfl⟩
  .show j∈t.free↔∃q:Ent α,(t.places++[(⟨s,1⟩:Ent α)])[j]?=some q/\q.held=0;by_cases e:j=t.places.length
   .subst e;rw[o,hf];constructor
    .intro h;simp at h
    .rintro⟨q,B,E⟩;cases B;cases E
   .rw[x j e,h.SY]
  .simp only at h1 y;by_cases B:j=t.places.length<;>by_cases E:k=t.places.length
   .rw[B,E]
   .subst B;rw[o] at h1;cases h1;rw[x k E] at y;exact absurd J.symm (U k Q y T)
   .subst E;rw[o] at y;cases y;rw[x j B] at h1;exact absurd J (U j I h1 S)
   .rw[x j B] at h1;rw[x k E] at y;exact h.G2 j k I Q h1 y S T J
  .simp only at h1;by_cases B:j=t.places.length
   .subst B;rw[o] at h1;cases h1;exact Z
   .rw[x j B] at h1;exact h.ok j I h1 y
  .simp only at O;rw[List.getElem?_eq_none (Nat.le_refl _)] at O;cases O
theorem Tab.Td{α:Type}{G:α->Prop}{t:Tab α}(h:t.Inv G){i:Nat}{p:Ent α}(hp:t.places[i]?=some p)(h0:0<p.held)(z:α):(t.drop z i).Inv G:=by
 have S:=(List.getElem?_eq_some_iff.1 hp).1;have E:i∉t.free:=fun hm=>by obtain⟨q,y,I⟩:=(h.SY i).1 hm;rw[hp] at y;cases y;omega
 have o:(t.places.set i ⟨z,0⟩)[i]?=some ⟨z,0⟩:=by rw[List.getElem?_set_self S]
 have x:∀j:Nat,j≠i->(t.places.set i ⟨z,0⟩)[j]?=t.places[j]?:=fun j T=>List.getElem?_set_ne (Ne.symm T);refine⟨?_,fun j=>?_,fun j k J U h1 B O Q V=>?_,fun j J h1 B=>?_⟩
 .show(t.free++[i]).Nodup;rw[List.nodup_append];exact⟨h.PH,by simp,fun a ha b hb=>by rw[List.mem_singleton] at hb;subst hb;intro e;exact E (e▸ha)⟩
 .show j∈t.free++[i]↔∃q:Ent α,(t.places.set i ⟨z,0⟩)[j]?=some q/\q.held=0;rw[List.mem_append,List.mem_singleton];by_cases e:j=i
  .subst e;rw[o];exact⟨fun _=>⟨_,rfl,rfl⟩,fun _=>.inr rfl⟩
  .rw[x j e,h.SY];exact⟨fun h=>h.resolve_right e,fun h=>.inl h⟩
 .simp only[Tab.drop] at h1 B;by_cases y:j=i
  .subst y;rw[o] at h1;cases h1;exact absurd O (Nat.lt_irrefl _)
  by_cases I:k=i
  .subst I;rw[o] at B;cases B;exact absurd Q (Nat.lt_irrefl _)
  rw[x j y] at h1;rw[x k I] at B;exact h.G2 j k J U h1 B O Q V
 .simp only[Tab.drop] at h1;by_cases y:j=i
  .subst y;rw[o] at h1;cases h1;exact absurd B (Nat.lt_irrefl _)
  .rw[x j y] at h1;exact h.ok j J h1 B
theorem He:∀{l m:List Nat},l.Nodup->l ⊆ m->l.length<=m.length:=by
 intro l;induction l with
 |nil=>intro m _ _;exact Nat.zero_le _
 |cons a l y=>
  intro m i j;rw[List.nodup_cons] at i;have ha:a∈m:=j List.mem_cons_self;have B:l ⊆ m.erase a:=fun x o=>(List.mem_erase_of_ne (fun e:x=a=>i.1 (e▸o))).2 (j (List.mem_cons_of_mem _ o));have:=y i.2 B;rw[List.length_erase_of_mem ha] at this;have:=List.length_pos_of_mem ha;simp only[List.length_cons];omega
theorem Tab.NX{α:Type}{G:α->Prop}{t:Tab α}(h:t.Inv G):t.free.length<=t.places.length:=by
 have j:t.free ⊆ List.range t.places.length:=fun i o=>by
  obtain⟨p,hp,_⟩:=(h.SY i).1 o;exact List.mem_range.2 (List.getElem?_eq_some_iff.1 hp).1
 have:=He h.PH j;simpa using this
end Go.K
namespace Go.Proofs.YtmdhibffnkhcnaaGreatDoor
open Go Go.K Proofs.Tryz
structure XP (g:AvK):Prop where
 at_:∀{v0 v1 K w},dV g v0 v1 K w->AB prog g.fat [v0,v1] K w
 totals:∀{v0 v1 K w},Qd g v0 v1 K w->AB prog g.ftotals [v0,v1] K w
 set:∀{v0 v1 v2 K w},bg g v0 v1 v2 K w->AB prog g.fset [v0,v1,v2] K w
 lift:∀{v0 v1 v2 K w},Uw g v0 v1 v2 K w->AB prog g.flift [v0,v1,v2] K w
 lean:∀{v0 v1 K w},Yr g v0 v1 K w->AB prog g.flean [v0,v1] K w
 balance:∀{v0 v1 v2 K w},Ng g v0 v1 v2 K w->AB prog g.fbalance [v0,v1,v2] K w
 join:∀{v0 v1 v2 v3 K w},Yd g v0 v1 v2 v3 K w->AB prog g.fjoin [v0,v1,v2,v3] K w
 first:∀{v0 v1 K w},T4 g v0 v1 K w->AB prog g.ffirst [v0,v1] K w
 last:∀{v0 v1 K w},Ys g v0 v1 K w->AB prog g.flast [v0,v1] K w
 concat:∀{v0 v1 v2 K w},Qw g v0 v1 v2 K w->AB prog g.fconcat [v0,v1,v2] K w
 drop:∀{v0 v1 K w},Va g v0 v1 K w->AB prog g.fdrop [v0,v1] K w
 over:∀{v0 v1 v2 K w},Ud g v0 v1 v2 K w->AB prog g.fOver [v0,v1,v2] K w
 overf:∀{v0 v1 v2 v3 K w},TU g v0 v1 v2 v3 K w->AB prog g.fOverf [v0,v1,v2,v3] K w
 size:∀{v0 K w},YX g v0 K w->AB prog g.fSize [v0] K w
 take:∀{v0 v1 K w},TT g v0 v1 K w->AB prog g.aTake [v0,v1] K w
 asked:∀{v0 v1 K w},Q5 g v0 v1 K w->AB prog g.aasked [v0,v1] K w
 free:∀{v0 v1 K w},Tm g v0 v1 K w->AB prog g.aFree [v0,v1] K w
 aat:∀{v0 v1 K w},cz g v0 v1 K w->AB prog g.aAt [v0,v1] K w
 put:∀{v0 v1 v2 K w},Ym g v0 v1 v2 K w->AB prog g.aPut [v0,v1,v2] K w
 new:∀{v0 K w},YY g v0 K w->AB prog g.fNew [v0] K w
 anew:∀{K w},Yw g K w->AB prog g.aNew [] K w
 okOverf:DF g.fOverf=true
def AvK.enc(g:AvK)(r:List Value):Value:=bif g.one then r.headD undef else .agg r.toArray
structure AvT (α:Type) extends AvK where
 k:Kd α
 R:(Nat->Prop)->World->List Value->α->Prop
 pb:Nat
 eb:Nat
 pb_le:pb<=512
 eb_le:eb<=512
 Epos:0<E
 E1:one=true->E=1
 rlen:∀{C w r x},R C w r x->r.length=E
 rone:∀{C w r x},R C w r x->∀u∈r,u.oneCell'=true
 rcell:∀{C w r x},R C w r x->(toAvK.enc r).cells=r.toArray
 rheap:∀{C:Nat->Prop} {w w' r x},R C w r x->(∀y,y<w.heap.size->C y->w'.heap[y]?=w.heap[y]?)->R C w' r x
 rsub:∀{C C':Nat->Prop} {w r x},R C w r x->(∀y,y<w.heap.size->C y->C' y)->R C' w r x
 zlen:zE.length=E
 zone:∀u∈zE,u.oneCell'=true
 elP:Cu prog tps tp (E+6) pb
 elE:Cu prog ts te E eb
 field0:∀(r t:List Value) (w:World),r.length=E->(∀u∈r,u.oneCell'=true)->t.length=5->(Instr.field tn (.agg (r++t).toArray) 0).run prog w=.ok (toAvK.enc r) w
 ok:XP toAvK
 cutμ:∀x p,0<p->p<(k.μ x).1->(k.μ (k.cut x p).1).1=p/\(k.μ (k.cut x p).2).1=(k.μ x).1-p/\(k.μ (k.cut x p).1).2+(k.μ (k.cut x p).2).2=(k.μ x).2
 meldμ:∀x y z,k.meld x y=some z->(k.μ z).1=(k.μ x).1+(k.μ y).1/\(k.μ z).2=(k.μ x).2+(k.μ y).2
 meas:∀{C w r x},R C w r x->BF prog DF vm [toAvK.enc r] (fun v w'=>v=.tuple #[.int .i64 (k.μ x).1,.int .i64 (k.μ x).2]/\Grow w w') w
theorem AvT.BR{α:Type}(g:AvT α){C M:Nat->Prop}{w w':World}{r:List Value}{x:α}(h:g.R C w r x)(hm:Mod M w w')(j:∀y,y<w.heap.size->C y->¬M y):g.R C w' r x:=g.rheap h fun y i hC=>hm.same y i (j y i hC)
def BQ{α:Type}(n:Nd α):List Value:=[.int .i64 n.l,.int .i64 n.r,.int .i64 n.h,.int .i64 n.s,.int .i64 n.m]
variable {α:Type}{g:AvT α}
def NN(g:AvT α)(C:Nat->Prop):World->List Value->Option (Nd α)->Prop:=fun w r o=>match o with
 |some n=>∃x,r=x++(BQ n++[.bool true])/\g.R C w x n.x
 |none=>∃q,r=q++[.bool false]/\q.length=g.E+5/\∀u∈q,u.oneCell'=true
theorem GL(n:Nd α):∀u∈BQ n,u.oneCell'=true:=by
 intro u hu;simp only[BQ,List.mem_cons,List.not_mem_nil,or_false] at hu;rcases hu with rfl|rfl|rfl|rfl|rfl<;>rfl
theorem NN.one{C:Nat->Prop}{w:World}{r:List Value}{o:Option (Nd α)}(h:NN g C w r o):∀u∈r,u.oneCell'=true:=by
 cases o with
 |none=>
  obtain⟨q,rfl,_,i⟩:=h;intro u hu;rcases List.mem_append.1 hu with hu|hu
  .exact i u hu
  .simp at hu;subst hu;rfl
 |some n=>
  obtain⟨x,rfl,j⟩:=h;intro u hu;rcases List.mem_append.1 hu with hu|hu
  .exact g.rone j u hu
  .rcases List.mem_append.1 hu with hu|hu
   .exact GL n u hu
   .simp at hu;subst hu;rfl
theorem NN.mod{C M:Nat->Prop}{w w':World}{r:List Value}{o:Option (Nd α)}(h:NN g C w r o)(hm:Mod M w w')(hC:∀b,b<w.heap.size->C b->¬M b):NN g C w' r o:=by
 cases o with
 |none=>exact h
 |some n=>obtain⟨x,rfl,i⟩:=h;exact⟨x,rfl,g.BR i hm hC⟩
theorem NN.sub{C i:Nat->Prop}{w:World}{r:List Value}{o:Option (Nd α)}(h:NN g C w r o)(hC:∀b,b<w.heap.size->C b->i b):NN g i w r o:=by
 cases o with
 |none=>exact h
 |some n=>obtain⟨x,rfl,j⟩:=h;exact⟨x,rfl,g.rsub j hC⟩
structure Hg (g:AvT α) (F C:Nat->Prop) (W:World) (c:Nat) (A:ArS α) (pl fr:Value):Prop where
 cells:∀j v,[pl,fr][j]?=some v->W.cell? ⟨c,j,none⟩=some v
 live:∀j,j<2->Live W ⟨c,j,none⟩
 FO:AF 0 g.tp (g.E+6) (NN g C) W pl A.ps
 JD:AF 0 3 1 K1 W fr (A.fr.map fun i:Nat=>(i:Int))
 ok:A.Ok
 fc:F c
 pF:∀x,pl.ownBlock=some x->F x/\x≠c
 fF:∀x,fr.ownBlock=some x->F x/\x≠c/\pl.ownBlock≠some x
 Ht:∀x,F x->¬C x
 lt:∀x,F x\/C x->x<W.heap.size
theorem Hg.mod{F C M:Nat->Prop}{W W':World}{c:Nat}{A:ArS α}{pl fr:Value}(h:Hg g F C W c A pl fr)(hm:Mod M W W')(o:∀x,F x\/C x->¬M x):Hg g F C W' c A pl fr:=
 ⟨fun j v B=>hm.cell (h.cells j v B) (o c (.inl h.fc)),fun j E=>(h.live j E).mod hm (o c (.inl h.fc)),AF.mod h.FO hm (fun x i=>o x (.inl (h.pF x i).1)) fun r x _ i=>i.mod hm fun y _ I=>o y (.inr I),
  AF.mod h.JD hm (fun x i=>o x (.inl (h.fF x i).1)) fun _ _ _ h=>h,h.ok,h.fc,h.pF,h.fF,h.Ht,fun x i=>Nat.lt_of_lt_of_le (h.lt x i) hm.size⟩
theorem Hg.grow{F C:Nat->Prop}{W W':World}{c:Nat}{A:ArS α}{pl fr:Value}(h:Hg g F C W c A pl fr)(hm:Grow W W'):Hg g F C W' c A pl fr:=h.mod hm fun _ _ h=>h
theorem Hg.sub{F C j:Nat->Prop}{W:World}{c:Nat}{A:ArS α}{pl fr:Value}(h:Hg g F C W c A pl fr)(hC:∀x,C x->j x)(B:∀x,F x->¬j x)(o:∀x,j x->x<W.heap.size):Hg g F j W c A pl fr:=
 ⟨h.cells,h.live,AF.mod h.FO (Mod.refl (fun _=>False) _) (fun _ _ h=>h) fun r x _ i=>i.sub fun y _ E=>hC y E,h.JD,h.ok,h.fc,h.pF,h.fF,B,fun x i=>i.elim (fun i=>h.lt x (.inl i)) (o x)⟩
theorem Hg.H9{F C:Nat->Prop}{W W':World}{c x:Nat}{A:ArS α}{pl fr:Value}{ps:List (Option (Nd α))}(h:Hg g F C W c A pl fr)(B:pl.ownBlock=some x)(hm:Mod (fun y=>y=x) W W')(hp:AF 0 g.tp (g.E+6) (NN g C) W' pl ps)(i:ArS.Ok ⟨ps,A.fr⟩):Hg g F C W' c ⟨ps,A.fr⟩ pl fr:=by
 obtain⟨Q,I⟩:=h.pF x B;exact⟨fun j v J=>hm.cell (h.cells j v J) fun e=>I e.symm,fun j O=>(h.live j O).mod hm fun e=>I e.symm,hp,AF.mod h.JD hm (fun y o e=>(h.fF y o).2.2 (by rw[B,e])) fun _ _ _ h=>h,i,h.fc,h.pF,h.fF,h.Ht,fun y o=>Nat.lt_of_lt_of_le (h.lt y o) hm.size⟩
theorem Kx{F C:Nat->Prop}{W:World}{c i:Nat}{A:ArS α}{pl fr:Value}{n:Nd α}(h:Hg g F C W c A pl fr)(O:A.f i=some n) :
  AB prog g.aasked [.pointer (some ⟨c,0,none⟩),.int .i64 i] (fun v' w'=>v'=.int .i64 0/\w'=W) W:=by
 apply g.ok.asked;unfold Q5;obtain⟨o,hp⟩:=ArS.Hr O;have I:=(List.getElem?_eq_some_iff.1 hp).2;obtain⟨S,T,j,_⟩:=h.FO.sl.shape;have y:=h.FO.sl;rw[j] at y;obtain⟨q,r,rfl,_,hr,hc,B⟩:=y.get o;rw[I] at B;obtain⟨x,rfl,Q⟩:=B;refine Cs (AS ?_);rw[Av];refine AE (fun e=>by omega) fun _=>?_;refine AH ?_;refine Bm (h.cells 0 _ rfl) ?_;rw[j,AT,Da];refine AE (fun e=>by omega) fun _=>?_;refine AH ?_;refine Bm (h.cells 0 _ rfl) ?_;rw[j];refine Ab o ?_;rw[AG,Addr.add_add];refine AL (v:=.bool true) (hc (g.E+5) _ ?_) ?_
 .have J:=g.rlen Q;rw[List.getElem?_append_right (by omega),J,show g.E+5-g.E=5 by omega];rfl
 rw[An];exact AS ⟨rfl,rfl⟩
theorem Qg{F C:Nat->Prop}{W:World}{c i:Nat}{A:ArS α}{pl fr:Value}{n:Nd α}(h:Hg g F C W c A pl fr)(hi:A.f i=some n) :
  AB prog g.aAt [.pointer (some ⟨c,0,none⟩),.int .i64 i] (fun v' w'=>∃r,v'=.tuple #[.agg (r++BQ n).toArray,.int .i64 0]/\g.R C w' r n.x/\Grow W w'/\∃p m k,pl=.slice (some p) m k/\∀u,r[0]?=some u->W.cell? (p.add (i*(g.E+6)))=some u) W:=by
 apply g.ok.aat;unfold cz;have V:g.toAvK.zN.length=g.E+5:=by rw[AvK.zN,List.length_append,g.zlen];rfl
 refine EI fun b4 w1 a6 a7 U _ X=>?_;have h1:=h.grow U;refine AA (Kx h1 hi) ?_;rintro _ _ ⟨rfl,rfl⟩;rename World=>w1
 refine Mo ?_;obtain⟨B,hp⟩:=ArS.Hr hi;have Y:=(List.getElem?_eq_some_iff.1 hp).2;obtain⟨pa,pc,I,_⟩:=h.FO.sl.shape;have J:=h.FO.sl;rw[I] at J;obtain⟨q,r,rfl,_,hr,O,Q⟩:=J.get B;rw[Y] at Q;obtain⟨x,rfl,Z⟩:=Q;have hx:=g.BR Z U fun _ _ _ h=>h;have hc:=fun j u hu=>U.cell (O j u hu) fun h=>h;have S:=g.rlen hx;refine AH ?_;refine Bm (h1.cells 0 _ rfl) ?_;rw[I];refine Ab B ?_;rw[AG,Addr.add_add];have T:∀u∈x++BQ n,u.oneCell'=true:=fun u hu=>by
  rcases List.mem_append.1 hu with hu|hu
  .exact g.rone hx u hu
  .exact GL n u hu
 have o:(x++BQ n).length=g.E+5:=by rw[List.length_append,S];rfl
 refine Ah (vs:=x++BQ n) o (fun j u hu=>?_) ?_
 .rw[Addr.add_add,Nat.add_zero];refine hc j u ?_;rw[<-List.append_assoc,List.getElem?_append_left (List.getElem?_eq_some_iff.1 hu).1];exact hu
 refine CT o T (fun j hj=>X j (by rw[V];exact hj)) fun w2 m2 a1 _=>?_;refine Ah o a1 ?_;have g2:Grow W w2:=U.next m2 fun y hy e=>by omega
 refine⟨x,rfl,g.BR hx m2 fun y _ hy e=>by subst e;have:=h.lt y (.inr hy);omega,g2,q,_,_,rfl,fun u hu=>?_⟩;have:=O 0 u (by rw[List.getElem?_append_left (by rw[S];exact g.Epos)];exact hu);rwa [Nat.add_zero] at this
theorem bE{F C:Nat->Prop}{W:World}{c i:Nat}{A:ArS α}{pl fr:Value}{n:Nd α}(h:Hg g F C W c A pl fr)(j:A.f i=some n) :
  AB prog g.aAt [.pointer (some ⟨c,0,none⟩),.int .i64 i] (fun v' w'=>∃r,v'=.tuple #[.agg (r++BQ n).toArray,.int .i64 0]/\g.R C w' r n.x/\Grow W w') W:=
 AA (Qg h j) fun _ _ ⟨r,h1,o,y,_⟩=>⟨r,h1,o,y⟩
theorem RE{F C:Nat->Prop}{W:World}{c i:Nat}{A:ArS α}{pl fr:Value}{n m:Nd α}{r:List Value}(h:Hg g F C W c A pl fr)(X:A.f i=some m)(hr:g.R C W r n.x) :
  AB prog g.aPut [.pointer (some ⟨c,0,none⟩),.int .i64 i,.agg (r++BQ n).toArray] (fun v' w'=>Hg g F C w' c (A.put i n) pl fr/\Mod (fun x=>pl.ownBlock=some x) W w') W:=by
 apply g.ok.put;unfold Ym;have Y:=g.rlen hr;have o:(r++BQ n).length=g.E+5:=by rw[List.length_append,Y];rfl
 have Q:∀u∈r++BQ n,u.oneCell'=true:=fun u hu=>by
  rcases List.mem_append.1 hu with hu|hu
  .exact g.rone hr u hu
  .exact GL n u hu
 refine Db fun b5 Z a8 ak g5 a1 _=>?_;have h1:=h.grow g5;refine AA (Kx h1 X) ?_;rintro _ _ ⟨rfl,rfl⟩;rename World=>Z
 refine Mo ?_;obtain⟨J,hp⟩:=ArS.Hr X;have V:Grow Z Z.drew:=Mod.drew _ _;have S:=h1.grow V;obtain⟨pa,pc,B,_⟩:=S.FO.sl.shape;have I:=S.FO;rw[B] at I;obtain⟨q,_,rfl,hq,_,_,_⟩:=I.sl.get J;have O:pl.ownBlock=some q.block:=by rw[B];exact hq.2
 have hF:=h.pF _ O;refine Ag (fun k y=>k=8/\y=q.block) ?_;refine AH ?_;rw[AG,AI];refine Aa ⟨S.cells 0 _ rfl,fun j hj e=>hF.2 e.2.symm⟩ ?_;have nb:∀j,¬((⟨b5,0,none⟩:Addr).add j).block=q.block:=fun j e=>by
  rw[BP] at e;have:=h.lt _ (.inl hF.1);simp only at e;omega
 refine CL o (fun j v hv=>⟨V.cell (a1 j v hv) fun h=>h,fun k _ e=>nb j e.2⟩) ?_;rw[B];refine Ab J ?_;rw[AG,Addr.add_add];have T:∀y,C y->¬y=q.block:=fun y hy e=>h.Ht _ hF.1 (e▸hy);refine AF.MY (R':=NN g C) (x':=some n) I J o (by omega) Q (fun w' r y hm _ hy=>hy.mod hm fun z _ hz=>T z hz) (fun w' r' hm U al an=>?_) fun w2 ho hm=>?_
 .have a6:=(List.getElem?_eq_some_iff.1 hp).2;rw[a6] at U;obtain⟨x',rfl,a7⟩:=U;refine⟨r,?_,g.BR (g.BR (g.BR hr g5 fun _ _ _ h=>h) V fun _ _ _ h=>h) hm fun z _ hz=>T z hz⟩;rw[<-List.append_assoc,G3 (by rw[o,List.length_append,g.rlen a7];rfl),List.append_assoc]
 .refine⟨hm.mono fun x _ e=>⟨rfl,e⟩,?_⟩;rw[<-B];have hA:=S.H9 O hm (by rw[B];exact ho) (ArS.Zd (n:=n) X S.ok);exact⟨hA,(g5.trans V).mono (fun _ _ h=>h.elim) |>.trans (hm.mono fun x _ e=>by rw[e];exact O)⟩
theorem Hg.dR{F F' C Q:Nat->Prop}{W W':World}{c:Nat}{A:ArS α}{pl fr B:Value}{ps:List (Option (Nd α))}{K:World->Prop}(h:Hg g F C W c A pl fr)(hm:Mod Q W W')(I:∀x,Q x->pl.ownBlock=some x)(S:∀x,F x->F' x)(J:∀x,F' x->F x\/W.heap.size<=x/\x<W'.heap.size)
 (T:AF 0 g.tp (g.E+6) (NN g C) W' B ps)(U:∀x,B.ownBlock=some x->pl.ownBlock=some x\/W.heap.size<=x/\F' x)(V:ArS.Ok ⟨ps,A.fr⟩)
 (Z:∀o,Hg g F' C o c ⟨ps,A.fr⟩ B fr->Mod (fun x=>x=c) W' o->K o):BD (.pointer (some ⟨c,0,none⟩)) B K W':=by
 have O:¬Q c:=fun e=>(h.pF c (I c e)).2 rfl;have a1:∀x,C x->¬Q x:=fun x i e=>h.Ht x (h.pF x (I x e)).1 i;have a6:=h.lt c (.inl h.fc);have X:∀x,x<W'.heap.size->C x->¬x=c:=fun x _ i e=>h.Ht c h.fc (e▸i);refine Ey (vs:=[pl,fr]) (fun j v hv=>hm.cell (h.cells j v hv) O) (fun j hj=>(h.live j hj).mod hm O) (q:=0) (show 0<2 by decide) T.one.1 T.one.2 fun o y hc hl=>?_;have Y:=AF.BM h.JD;refine Z o ⟨hc,hl,AF.mod T y (fun x i e=>?_) (fun r x _ i=>i.mod y X),AF.mod (AF.mod (R':=K1) h.JD hm (fun x i e=>(h.fF x i).2.2 (I x e)) fun _ _ _ h=>h) y (fun x i=>(h.fF x i).2.1) fun _ _ _ h=>h,V,S c h.fc,fun x i=>?_,fun x i=>⟨S x (h.fF x i).1,(h.fF x i).2.1,fun e=>?_⟩,fun x i hC=>?_,fun x i=>?_⟩ y
 .subst e;rcases U x i with e|e
  .exact(h.pF x e).2 rfl
  .omega
 .rcases U x i with e|e
  .exact⟨S x (h.pF x e).1,(h.pF x e).2⟩
  .exact⟨e.2,by omega⟩
 .rcases U x e with e|e
  .exact(h.fF x i).2.2 e
  .have:=(Y x i).2;omega
 .rcases J x i with e|e
  .exact h.Ht x e hC
  .have:=h.lt x (.inr hC);omega
 .have z1:=hm.size;have z2:=y.size;rcases i with i|i
  .rcases J x i with e|e
   .have:=h.lt x (.inl e);omega
   .omega
  .have:=h.lt x (.inr i);omega
theorem Hg.bZ{F F' C Mf:Nat->Prop}{W W':World}{c:Nat}{A:ArS α}{pl fr I:Value}{fl:List Nat}{K:World->Prop}(h:Hg g F C W c A pl fr)(hm:Mod Mf W W')(J:∀x,Mf x->fr.ownBlock=some x)(S:∀x,F x->F' x)(O:∀x,F' x->F x\/W.heap.size<=x/\x<W'.heap.size)
 (T:AF 0 3 1 K1 W' I (fl.map fun i:Nat=>(i:Int)))(Z:∀x,I.ownBlock=some x->fr.ownBlock=some x\/W.heap.size<=x/\F' x)(U:ArS.Ok ⟨A.ps,fl⟩)
 (hK:∀B,Hg g F' C B c ⟨A.ps,fl⟩ pl I->Mod (fun x=>x=c) W' B->K B):BD (.pointer (some ⟨c,1,none⟩)) I K W':=by
 have Q:¬Mf c:=fun e=>(h.fF c (J c e)).2.1 rfl;have V:∀x,C x->¬Mf x:=fun x o e=>h.Ht x (h.fF x (J x e)).1 o;have a1:=h.lt c (.inl h.fc);have X:∀x,x<W'.heap.size->C x->¬x=c:=fun x _ o e=>h.Ht c h.fc (e▸o);refine Ey (vs:=[pl,fr]) (fun j v hv=>hm.cell (h.cells j v hv) Q) (fun j hj=>(h.live j hj).mod hm Q) (q:=1) (show 1<2 by decide) T.one.1 T.one.2 fun B E hc hl=>?_;have Y:=AF.BM h.FO;refine hK B ⟨hc,hl,AF.mod (AF.mod (R':=NN g C) h.FO hm (fun x o e=>(h.fF x (J x e)).2.2 o) fun r x _ o=>o.mod hm fun y _ hy=>V y hy) E (fun x o=>(h.pF x o).2) (fun r x _ o=>o.mod E X),AF.mod T E (fun x o e=>?_) fun _ _ _ h=>h,U,S c h.fc,fun x o=>⟨S x (h.pF x o).1,(h.pF x o).2⟩,fun x o=>?_,fun x o hC=>?_,fun x o=>?_⟩ E
 .subst e;rcases Z x o with e|e
  .exact(h.fF x e).2.1 rfl
  .omega
 .rcases Z x o with e|e
  .exact⟨S x (h.fF x e).1,(h.fF x e).2⟩
  .exact⟨e.2,by omega,fun e2=>by have:=(Y x e2).2;omega⟩
 .rcases O x o with e|e
  .exact h.Ht x e hC
  .have:=h.lt x (.inr hC);omega
 .have z1:=hm.size;have z2:=E.size;rcases o with o|o
  .rcases O x o with e|e
   .have:=h.lt x (.inl e);omega
   .omega
  .have:=h.lt x (.inr o);omega
def Ky(g:AvT α)(F C:Nat->Prop)(W w':World)(c:Nat)(A:ArS α):Prop:=∃F' pl fr,(∀x,F x->F' x)/\(∀x,F' x->F x\/W.heap.size<=x)/\Hg g F' C w' c A pl fr/\Mod F W w'
theorem U5{F C:Nat->Prop}{W:World}{c i:Nat}{A:ArS α}{pl fr:Value}{n:Nd α}(h:Hg g F C W c A pl fr)(hi:A.f i=some n)(hs:A.ps.length<=109951162777) :
  AB prog g.aFree [.pointer (some ⟨c,0,none⟩),.int .i64 i] (fun v' w'=>Ky g F C W w' c (A.free i)) W:=by
 apply g.ok.free;unfold Tm;refine AA (Kx h hi) ?_;rintro _ _ ⟨rfl,rfl⟩;rename World=>W
 refine Mo ?_;obtain⟨Q,hp⟩:=ArS.Hr hi;obtain⟨pa,pc,B,_⟩:=h.FO.sl.shape;have o:=h.FO;rw[B] at o;obtain⟨q,_,rfl,hq,_,_,_⟩:=o.sl.get Q;have T:pl.ownBlock=some q.block:=by rw[B];exact hq.2
 have hF:=h.pF _ T;refine AH ?_;refine Bm (h.cells 0 _ rfl) ?_;refine⟨g.toAvK.zP.toArray,Ej,?_⟩;have U:g.toAvK.zP.length=g.E+6:=by rw[AvK.zP,List.length_append,g.zlen];rfl
 have V:g.toAvK.zP=(g.zE++[.int .i64 0,.int .i64 0,.int .i64 0,.int .i64 0,.int .i64 0])++[.bool false]:=by rw[AvK.zP];simp
 have X:∀u∈g.zE++[.int .i64 0,.int .i64 0,.int .i64 0,.int .i64 0,.int .i64 0],u.oneCell'=true:=fun u hu=>by
  rcases List.mem_append.1 hu with hu|hu
  .exact g.zone u hu
  .simp at hu;subst hu;rfl
 have a6:∀u∈g.toAvK.zP,u.oneCell'=true:=fun u hu=>by
  rw[V] at hu;rcases List.mem_append.1 hu with hu|hu
  .exact X u hu
  .simp at hu;subst hu;rfl
 rw[B];refine Ab Q ?_;have a7:∀y,C y->¬y=q.block:=fun y hy e=>h.Ht _ hF.1 (e▸hy);have key:=AF.MY (R':=NN g C) (x':=(none:Option (Nd α))) (p:=0) (vs:=g.toAvK.zP) (K:=fun w3=>AJ (.pointer (some ⟨c,0,none⟩)) fun a8=>AM 1 a8 fun t22=>AK t22 (fun ak w4=>Bc 3 1 1 [(.int .i64 0)] [(0,.int .i64 (i:Int))] (fun t25 w5=>runK prog (Builtin.append_ #[145,145] 145 [ak,t25].toArray) (fun al w6=>AJ (.pointer (some ⟨c,0,none⟩)) fun an=>AM 1 an fun av=>BD av al (fun w7=>(fun(v':Value) w'=>Ky g F C W w' c (A.free i)) (.int .i64 0) w7) w6) w5) w4) w3) o Q U (by omega) a6 (fun w' r y hm _ hy=>hy.mod hm fun z _ hz=>a7 z hz) (fun w' r' hm b2 ax b3=>?_) fun w2 ho hm=>?_
 .rw[Nat.add_zero] at key;exact key
 .rw[J8 (by rw[U,ax])];exact⟨_,V,by rw[List.length_append,g.zlen];rfl,X⟩
 have b4:i∉A.fr:=fun e=>by have:=h.ok.1 i e;rw[this] at hp;cases hp
 have O:=ArS.Xx hi h.ok;have b5:A.fr.length<=A.ps.length:=by
  have:A.fr ⊆ List.range A.ps.length:=fun x I=>List.mem_range.2 (List.getElem?_eq_some_iff.1 (h.ok.1 x I)).1;have:=He h.ok.2 this;simpa using this
 have Y:ArS.Ok ⟨A.ps.set i none,A.fr⟩:=⟨fun j hj=>O.1 j (List.mem_append_left _ hj),h.ok.2⟩;have h2:=h.H9 T hm (by rw[B];exact ho) Y;refine AH ?_;refine Bm (h2.cells 1 _ rfl) ?_;refine DP Nw h2.JD (Nat.zero_le _) (cs:=[.int .i64 i]) (x:=(i:Int)) (by kernel_rfl) rfl rfl (fun _ _ _=>K1.one) (fun _ _ _ _ _ _ h=>h) (by rw[List.length_map];dsimp only;omega) (by rw[List.length_map];simp only[maxLen];omega) fun b6 w7 J Z ay=>?_;refine AH ?_;rw[AG,AI];have S:(A.fr.map fun i:Nat=>(i:Int))++[(i:Int)]=(A.fr++[i]).map fun i:Nat=>(i:Int):=by simp
 dsimp only at J;rw [S] at J;have a1:=AF.BM J;have z2:=hm.size;refine Hg.bZ (F':=fun x=>F x\/w2.heap.size<=x/\x < w7.heap.size) h2 Z (fun _ h=>h) (fun _ h=>.inl h) (fun _ h=>h) J (fun x I=>by
  rcases ay x I with e|e
  .exact .inl e
  .exact .inr ⟨e,.inr ⟨e,(a1 x I).2⟩⟩) O fun w8 b0 b1=>⟨_,_,_,fun _ h=>.inl h,fun x I=>?_,b0,?_⟩
 .rcases I with I|I
  .exact .inl I
  .exact .inr (by omega)
 .exact((hm.mono fun x _ e=>by rw[e];exact hF.1).trans (Z.mono fun x _ e=>(h2.fF x e).1)).trans (b1.mono fun x _ e=>by rw[e];exact h.fc)
theorem Vz{C:Nat->Prop}{W:World}(hC:∀x,C x->x<W.heap.size) :
  AB prog g.aNew [] (fun v' w'=>v'=.pointer (some ⟨W.heap.size,0,none⟩)/\w'.heap.size=W.heap.size+1/\Grow W w'/\Hg g (fun x=>x=W.heap.size) C w' W.heap.size (ArS.z:ArS α) (.slice none 0 0) (.slice none 0 0)) W:=by
 apply g.ok.anew;unfold Yw;refine⟨[.slice none 0 0,.slice none 0 0].toArray,Ej,?_⟩;refine Db fun b I hb o y hc hl=>?_;subst hb;refine⟨rfl,o,y,⟨fun j v B=>by have:=hc j v B;rwa [AI] at this,fun j E=>by have:=hl j E;rwa [AI] at this,AF.nil,AF.nil,ArS.dQ,rfl,(fun _ h=>nomatch h),(fun _ h=>nomatch h),fun x i h=>?_,fun x i=>?_⟩⟩
 .have:=hC x h;omega
 .rcases i with i|i
  .omega
  .have:=hC x i;omega
theorem Vb{F C:Nat->Prop}{W:World}{c:Nat}{A:ArS α}{pl fr:Value}{n:Nd α}{r:List Value}(h:Hg g F C W c A pl fr)(hr:g.R C W r n.x)(hs:A.ps.length<=109951162777) :
  AB prog g.aTake [.pointer (some ⟨c,0,none⟩),.agg (r++BQ n).toArray] (fun v' w'=>v'=.int .i64 A.num/\Ky g F C W w' c (A.take n)) W:=by
 apply g.ok.take;unfold TT;have ba:=g.rlen hr;have o:(r++BQ n).length=g.E+5:=by rw[List.length_append,ba];rfl
 have ax:∀u∈r++BQ n,u.oneCell'=true:=fun u hu=>by
  rcases List.mem_append.1 hu with hu|hu
  .exact g.rone hr u hu
  .exact GL n u hu
 have bc:g.toAvK.zP.length=g.E+6:=by rw[AvK.zP,List.length_append,g.zlen];rfl
 have Q:Instr.fill (fun i=>[(0,g.E+5),(g.E+5,1)][i]?) g.toAvK.zP.toArray [(0,.agg (r++BQ n).toArray),(1,.bool true)]=some (r++(BQ n++[Value.bool true])).toArray:=by
  have bd:g.toAvK.zP=(g.zE++[Value.int .i64 0,Value.int .i64 0,Value.int .i64 0,Value.int .i64 0,Value.int .i64 0])++[Value.bool false]:=by rw[AvK.zP];simp
  have bk:(g.zE++[Value.int .i64 0,Value.int .i64 0,Value.int .i64 0,Value.int .i64 0,Value.int .i64 0]).length=g.E+5:=by rw[List.length_append,g.zlen];rfl
  rw[Ce (l:=g.toAvK.zP) (vs:=r++BQ n) (off:=0) (len:=g.E+5) rfl rfl o (by omega),bd,G3 (by rw[o,bk])];rw[Ce (l:=r++BQ n++[Value.bool false]) (off:=g.E+5) (len:=1) (vs:=[Value.bool true]) rfl rfl rfl (by rw[List.length_append,o];exact Nat.le_refl _)];have:=Xa (q:=r++BQ n) (r:=[Value.bool false]) (t:=[]) (vs:=[Value.bool true]) o rfl;rw[List.append_nil,List.append_nil] at this;rw[this,Ej,List.append_assoc]
 have I:(r++(BQ n++[Value.bool true])).length=g.E+6:=by rw[<-List.append_assoc,List.length_append,o];rfl
 have a7:∀u∈r++(BQ n++[Value.bool true]),u.oneCell'=true:=fun u hu=>by
  rw[<-List.append_assoc] at hu;rcases List.mem_append.1 hu with hu|hu
  .exact ax u hu
  .simp at hu;subst hu;rfl
 refine Db fun b3 w1 cd ch g3 ay _=>?_;have h1:=h.grow g3;have b0:=g.BR hr g3 fun _ _ _ h=>h;obtain⟨_,cc,J⟩:=ArS.P4 n h.ok;have cn:A.fr.length<=A.ps.length:=by
  have:A.fr ⊆ List.range A.ps.length:=fun x O=>List.mem_range.2 (List.getElem?_eq_some_iff.1 (h.ok.1 x O)).1;have:=He h.ok.2 this;simpa using this
 refine Cs (AS ?_);refine AH ?_;refine Bm (h1.cells 1 _ rfl) ?_;obtain⟨fa,fc,S,a8,_,bl,bp⟩:=h1.JD.shape;rw[List.length_map] at a8;rw[S,AT,A6,List.length_map,wrap64 (by omega) (by omega),Da];have nF:∀j x,F x->¬((⟨b3,0,none⟩:Addr).add j).block=x:=fun j x O e=>by
  rw[BP] at e;have:=h.lt x (.inl O);simp only at e;omega
 refine AE (fun cv=>?_) fun cx=>?_
 .have b1:0<A.fr.length:=by omega
  have ak:A.fr≠[]:=List.length_pos_iff.1 b1;obtain⟨i,hl⟩:∃i,A.fr.getLast?=some i:=⟨_,List.getLast?_eq_some_getLast ak⟩;have T:A.num=i:=by unfold ArS.num;rw[hl]
  have B:A.take n=⟨A.ps.set i (some n),A.fr.dropLast⟩:=by unfold ArS.take;rw[hl]
  cases fa with
  |none=>have:=bp rfl;rw[List.map_eq_nil_iff] at this;exact absurd this ak
  |some q=>
   obtain⟨gb,rfl,_,_,dk⟩:=bl q rfl;have b2:=h1.JD.sl;have a1:=h1.JD;rw[S,List.length_map] at b2 a1;refine AH ?_;refine Bm (h1.cells 1 _ rfl) ?_;rw[S,List.length_map];have hj:A.fr.length-1<(A.fr.map fun i:Nat=>(i:Int)).length:=by rw[List.length_map];omega
   obtain⟨_,r',e1,_,al,hc,rfl⟩:=b2.get hj;cases e1;have ev:(A.fr.map fun i:Nat=>(i:Int))[A.fr.length-1]=(i:Int):=by
    rw[List.getElem_map];rw[List.getLast?_eq_some_getLast ak,List.getLast_eq_getElem] at hl;rw[Option.some.inj hl]
   rw[ev] at hc;have en:((A.fr.length:Int)-1)=((A.fr.length-1:Nat):Int):=by omega
   rw[en];refine Ab (show A.fr.length-1<A.fr.length by omega) (AL (hc 0 _ rfl) ?_);refine AH ?_;refine Bm (h1.cells 1 _ rfl) ?_;rw[S,List.length_map];refine Ai (Ev (e:=3) (k:=1) (i:=Tryz.t3) (by kernel_rfl) (by kernel_rfl) (by kernel_rfl) (by omega) w1) ?_;refine AH ?_;rw[AG,AI];have ht:=AF.take a1 (j:=A.fr.length-1) (by rw[List.length_map];omega);have ed:(A.fr.map fun i:Nat=>(i:Int)).take (A.fr.length-1)=A.fr.dropLast.map fun i:Nat=>(i:Int):=by rw[List.dropLast_eq_take,List.map_take]
   rw[ed] at ht;have bs:ArS.Ok ⟨A.ps,A.fr.dropLast⟩:=⟨fun j hj=>h.ok.1 j ((List.dropLast_sublist _).mem hj),h.ok.2.sublist (List.dropLast_sublist _)⟩;refine Hg.bZ (F':=F) (fl:=A.fr.dropLast) (Mf:=fun _=>False) h1 (Mod.refl _ _) (fun _ h=>h.elim) (fun _ h=>h) (fun _ h=>.inl h) ht (fun x O=>.inl ?_) bs fun w2 bx an=>?_
   .rw[S];exact O
   have c4:A.ps[i]?=some none:=h.ok.1 i (List.mem_of_getLast? hl);have U:=(List.getElem?_eq_some_iff.1 c4).1;have X:Grow w2 w2.drew:=Mod.drew _ _;have Y:=bx.grow X;obtain⟨pa,pc,Z,_⟩:=Y.FO.sl.shape;have V:=Y.FO;rw[Z] at V;obtain⟨q,_,rfl,hq,_,_,_⟩:=V.sl.get U;have a6:pl.ownBlock=some q.block:=by rw[Z];exact hq.2
   have hF:=h.pF _ a6;refine Ag (fun k y=>k=8/\y=q.block) ?_;refine AH ?_;rw[AG,AI];refine Aa ⟨Y.cells 0 _ rfl,fun j hj e=>hF.2 e.2.symm⟩ ?_;refine CL o (fun j v hv=>⟨X.cell (an.cell (ay j v hv) fun e=>nF j c h.fc e) fun h=>h,fun k _ e=>nF j _ hF.1 e.2⟩) ?_;refine⟨_,Q,?_⟩;rw[Z];refine Ab U ?_;have b4:∀y,C y->¬y=q.block:=fun y hy e=>h.Ht _ hF.1 (e▸hy);have av:=g.BR (g.BR b0 an fun y _ hy e=>h.Ht c h.fc (e▸hy)) X fun _ _ _ h=>h;have key:=AF.MY (R':=NN g C) (x':=some n) (p:=0) (vs:=r++(BQ n++[Value.bool true])) (K:=fun w8=>Mod (fun y=>8=8/\y=q.block) w2.drew w8/\(Value.int .i64 (i:Int)=.int .i64 A.num/\Ky g F C W w8 c (A.take n))) V U I (by omega) a7 (fun w' r y hm _ hy=>hy.mod hm fun z _ hz=>b4 z hz) (fun w' r' hm al c6 dT=>?_) fun w3 ho hm=>?_
   .rw[Nat.add_zero] at key;exact key
   .rw[J8 (by rw[I,c6])];exact⟨r,rfl,g.BR av hm fun z _ hz=>b4 z hz⟩
   .rw[T,B];rw[B] at J;have c7:=Y.H9 a6 hm (by rw[Z];exact ho) J;refine⟨hm.mono fun x _ e=>⟨rfl,e⟩,rfl,F,pl,_,fun _ h=>h,fun _ h=>.inl h,c7,?_⟩;exact(((g3.mono fun _ _ h=>h.elim).trans (an.mono fun x _ e=>by rw[e];exact h.fc)).trans (X.mono fun _ _ h=>h.elim)).trans (hm.mono fun x _ e=>by rw[e];exact hF.1)
 .have b5:A.fr=[]:=List.eq_nil_of_length_eq_zero (by omega);have T:A.num=A.ps.length:=by unfold ArS.num;rw[b5];rfl
  have B:A.take n=⟨A.ps++[some n],A.fr⟩:=by unfold ArS.take;rw[b5];rfl
  rw[B] at J;have X:Grow w1 w1.drew:=Mod.drew _ _;have Y:=h1.grow X;have av:=g.BR b0 X fun _ _ _ h=>h;refine Ag (fun k y=>(k=8/\pl.ownBlock=some y)\/(k=11/\y=c)) ?_;have nM:∀k x,F x->x≠c->pl.ownBlock≠some x->¬((k=8/\pl.ownBlock=some x)\/(k=11/\x=c)):=fun k x _ h1 h2 e=>by
   rcases e with⟨_,e⟩|⟨_,e⟩
   .exact h2 e
   .exact h1 e
  have c8:∀j k,¬((k=8/\pl.ownBlock=some ((⟨b3,0,none⟩:Addr).add j).block)\/(k=11/\((⟨b3,0,none⟩:Addr).add j).block=c)):=fun j k e=>by
   rcases e with⟨_,e⟩|⟨_,e⟩
   .exact nF j _ (h.pF _ e).1 rfl
   .exact nF j _ h.fc e
  refine AH ?_;rw[AG,AI];refine Aa ⟨Y.cells 0 _ rfl,fun j hj e=>?_⟩ ?_
  .rcases e with⟨_,e⟩|⟨rfl,_⟩
   .exact(h.pF _ e).2 rfl
   .exact absurd hj (by decide)
  refine CL o (fun j v hv=>⟨X.cell (ay j v hv) fun h=>h,fun k _ e=>c8 j k e⟩) ?_;refine⟨_,Q,?_⟩;have b6:=Cw (v:=.agg (r++(BQ n++[Value.bool true])).toArray) (vs:=r++(BQ n++[Value.bool true])) bc (by omega) rfl I;have c9:=g.pb_le;refine Qb g.elP Y.FO (Nat.zero_le _) (cs:=r++(BQ n++[Value.bool true])) (x:=some n) b6 I ⟨r,rfl,av⟩ (fun _ _ _=>NN.one) (fun e3 e4 r' y e5 hm al=>al.mod hm fun x O hC e=>?_) ?_ (by simp only[maxLen];omega) (fun _ g=>Grow.mod g) fun w2 ca w3 ho m2 hm hn=>?_
  .rcases e with e|e
   .exact h.Ht x (h.pF x e).1 hC
   .have:=Y.lt x (.inr hC);omega
  .have:(A.ps.length+1)*g.pb<=(A.ps.length+1)*512:=Nat.mul_le_mul_left _ c9;omega
  refine ⟨m2.mono fun x _ e=>.inl ⟨rfl,e⟩,?_⟩;refine AH ?_;rw [AG,AI];have b7:=AF.BM ho;refine Hg.dR (F':=fun x=>F x\/w1.drew.heap.size<=x/\x < w3.heap.size) Y hm (fun _ h=>h) (fun _ h=>.inl h) (fun _ h=>h) ho (fun x O=>by
   rcases hn x O with e|e
   .exact .inl e
   .exact .inr ⟨e,.inr ⟨e,(b7 x O).2⟩⟩) J fun w4 b8 b9=>?_
  refine⟨b9.mono fun x _ e=>.inr ⟨rfl,e⟩,?_⟩;refine AH ?_;refine Bm (b8.cells 0 _ rfl) ?_;obtain⟨a2,c2,e2,_⟩:=ho.sl.shape;rw[e2,AT,A6,List.length_append,List.length_singleton,wrap64 (by omega) (by omega)];have zd:w1.heap.size<=w1.drew.heap.size:=X.size;refine⟨by rw[T];congr 1;omega,fun x=>F x\/w1.drew.heap.size<=x/\x<w3.heap.size,ca,fr,fun _ h=>.inl h,fun x O=>?_,by rw[B];exact b8,?_⟩
  .rcases O with O|O
   .exact .inl O
   .exact .inr (by omega)
  .exact(((g3.mono fun _ _ h=>h.elim).trans (X.mono fun _ _ h=>h.elim)).trans (hm.mono fun x _ e=>(h.pF x e).1)).trans (b9.mono fun x _ e=>by rw[e];exact h.fc)
end Go.Proofs.YtmdhibffnkhcnaaGreatDoor
namespace Go.K
open Go
structure Bx (W:World) (b:Nat) (vs:List Value):Prop where
 cells:∀j v,vs[j]?=some v->W.cell? ⟨b,j,none⟩=some v
 live:∀j,j<vs.length->Live W ⟨b,j,none⟩
theorem Bx.mod{M:Nat->Prop}{W W':World}{b:Nat}{vs:List Value}(h:Bx W b vs)(hm:Mod M W W')(i:¬M b):Bx W' b vs:=
 ⟨fun j v o=>hm.cell (h.cells j v o) i,fun j x=>(h.live j x).mod hm i⟩
theorem Bx.grow{W W':World}{b:Nat}{vs:List Value}(h:Bx W b vs)(hm:Grow W W'):Bx W' b vs:=h.mod hm fun h=>h
theorem Bx.Er{W:World}{b n:Nat}{vs:List Value}{K:Cont}(h:Bx W b vs)(i:vs.length=n)(o:K (.agg vs.toArray) W):Ac n (.pointer (some ⟨b,0,none⟩)) K W:=
 Ah i (fun j u hu=>by rw[AI];exact h.cells j u hu) o
theorem Bx.st{W:World}{b q:Nat}{vs:List Value}{u:Value}{K:World->Prop}(h:Bx W b vs)(i:q<vs.length)(h1:u.oneCell'=true)(j:u.cells=#[u])(o:∀W',Bx W' b (vs.set q u)->Mod (fun x=>x=b) W W'->K W'):BD (.pointer (some ⟨b,q,none⟩)) u K W:=
 Ey h.cells h.live i h1 j fun W' hm hc hl=>o W' ⟨hc,hl⟩ hm
theorem Bx.over{W:World}{b n:Nat}{vs us:List Value}{K:World->Prop}(h:Bx W b vs)(o:us.length=n)(hl:vs.length=n)(h1:∀v∈us,v.oneCell'=true)(y:∀W',Bx W' b us->Mod (fun x=>x=b) W W'->K W'):AZ n (.pointer (some ⟨b,0,none⟩)) (.agg us.toArray) K W:=
 CT o h1 (fun j B=>by rw[AI];exact h.live j (by omega)) fun W' hm hc i=>y W' ⟨fun j v E=>by have:=hc j v E;rwa [AI] at this,fun j B=>i _ (h.live j (by omega))⟩ hm
theorem Bx.new{t:TypeId}{n:Nat}{x vs:List Value}{K:Value->World->Prop}{w:World}(y:vs.length=n)(hl:x.length=n)(h1:∀v∈vs,v.oneCell'=true)(h:∀b i,w.heap.size<=b->Grow w i->Bx i b vs->K (.pointer (some ⟨b,0,none⟩)) i) :
  Al t x (fun t5 B=>AZ n t5 (.agg vs.toArray) (fun w4=>K t5 w4) B) w:=
 BO y hl h1 fun b i hb _ E hc o=>h b i (by omega) E ⟨fun j v I=>by have:=hc j v I;rwa [AI] at this,fun j J=>by have:=o j J;rwa [AI] at this⟩
theorem Bx.zero{t:TypeId}{x:List Value}{K:Cont}{w:World}(h:∀b i,w.heap.size<=b->Grow w i->Bx i b x->K (.pointer (some ⟨b,0,none⟩)) i):Al t x K w:=
 EI fun b i hb _ y hc o=>h b i (by omega) y ⟨fun j v B=>by have:=hc j v B;rwa [AI] at this,fun j E=>by have:=o j E;rwa [AI] at this⟩
theorem Bx.box{t:TypeId}{vs:List Value}{K:Cont}{w:World}(h:∀b i,w.heap.size<=b->Grow w i->Bx i b vs->K (.pointer (some ⟨b,0,none⟩)) i):BZ t (.agg vs.toArray) K w:=
 Db fun b i hb _ x hc o=>h b i (by omega) x ⟨fun j v y=>by have:=hc j v y;rwa [AI] at this,fun j B=>by have:=o j B;rwa [AI] at this⟩
theorem As{P:Program}{ok:Nat->Bool}{f:Value}{args:List Value}{K i:Cont}{w:World}(h:BF P ok f args K w)(hk:∀v w',K v w'->i v w'):BF P ok f args i w:=by
 obtain⟨a,b,c,j,o,h⟩:=h;exact⟨a,b,c,j,o,AA h hk⟩
theorem Bx.lt{W:World}{b:Nat}{vs:List Value}(h:Bx W b vs)(i:0<vs.length):b<W.heap.size:=World.block_lt_of_cell? W _ (h.cells 0 vs[0] (by simp[i]))
end Go.K
namespace Go.Proofs.YtmdhibffnkhcnaaGreatDoor
open Go Go.K Proofs.Tryz
variable {α:Type}{g:AvT α}
theorem AV{r:List Value}{n:Nd α}{E:Nat}(hr:r.length=E)(j:Nat):(r++BQ n)[E+j]?=(BQ n)[j]?:=by
 rw[List.getElem?_append_right (by omega),hr,Nat.add_sub_cancel_left]
theorem CQ{r:List Value}{n:Nd α}{E:Nat}(hr:r.length=E)(j:Nat)(u:Value):(r++BQ n).set (E+j) u=r++(BQ n).set j u:=by
 rw[List.set_append_right _ _ (by omega),hr,Nat.add_sub_cancel_left]
theorem BB{C:Nat->Prop}{w:World}{r:List Value}{x:α}(n:Nd α)(hr:g.R C w r x):(r++BQ n).length=g.E+5:=by rw[List.length_append,g.rlen hr];rfl
theorem Gm{C:Nat->Prop}{w:World}{r:List Value}{x:α}(n:Nd α)(hr:g.R C w r x):∀u∈r++BQ n,u.oneCell'=true:=fun u hu=>by
 rcases List.mem_append.1 hu with hu|hu
 .exact g.rone hr u hu
 .exact GL n u hu
theorem HI:g.toAvK.zN.length=g.E+5:=by rw[AvK.zN,List.length_append,g.zlen];rfl
abbrev YW(g:AvT α)(c:Nat)(i:Int):List Value:=[g.vm,g.vc,g.vd,.pointer (some ⟨c,0,none⟩),.int .i64 i]
structure Yg (g:AvT α) (F C:Nat->Prop) (W:World) (b c:Nat) (rt:Int) (A:ArS α) (pl fr:Value):Prop where
 box:Bx W b (YW g c rt)
 ar:Hg g (fun x=>F x/\x≠b) C W c A pl fr
 fb:F b/\¬C b
abbrev Fb(F:Nat->Prop)(b:Nat):Nat->Prop:=fun y=>F y/\y≠b
def DJ(g:AvT α)(F C:Nat->Prop)(W:World)(b:Nat)(i:Int)(A:ArS α):Prop:=∃c pl fr,Yg g F C W b c i A pl fr
theorem Yg.mod{F C M:Nat->Prop}{W W':World}{b c:Nat}{i:Int}{A:ArS α}{pl fr:Value}(h:Yg g F C W b c i A pl fr)(hm:Mod M W W')(j:∀x,F x\/C x->¬M x):Yg g F C W' b c i A pl fr:=
 ⟨h.box.mod hm (j b (.inl h.fb.1)),h.ar.mod hm fun x o=>j x (o.imp (fun h=>h.1) fun h=>h),h.fb⟩
theorem DJ.mod{F C M:Nat->Prop}{W W':World}{b:Nat}{i:Int}{A:ArS α}(h:DJ g F C W b i A)(hm:Mod M W W')(j:∀x,F x\/C x->¬M x):DJ g F C W' b i A:=by
 obtain⟨c,pl,fr,h⟩:=h;exact⟨c,pl,fr,h.mod hm j⟩
theorem DJ.grow{F C:Nat->Prop}{W W':World}{b:Nat}{i:Int}{A:ArS α}(h:DJ g F C W b i A)(hm:Grow W W'):DJ g F C W' b i A:=h.mod hm fun _ _ h=>h
theorem DJ.lt{F C:Nat->Prop}{W:World}{b:Nat}{i:Int}{A:ArS α}(h:DJ g F C W b i A):∀x,F x\/C x->x<W.heap.size:=by
 obtain⟨c,pl,fr,h⟩:=h;intro x j;by_cases e:x=b
 .subst e;exact h.box.lt (Nat.succ_pos _)
 .exact h.ar.lt x (j.imp (fun h=>⟨h,e⟩) fun h=>h)
theorem DJ.Ht{F C:Nat->Prop}{W:World}{b:Nat}{i:Int}{A:ArS α}(h:DJ g F C W b i A):∀x,F x->¬C x:=by
 obtain⟨c,pl,fr,h⟩:=h;intro x j;by_cases e:x=b
 .subst e;exact h.fb.2
 .exact h.ar.Ht x ⟨j,e⟩
theorem DJ.fb{F C:Nat->Prop}{W:World}{b:Nat}{i:Int}{A:ArS α}(h:DJ g F C W b i A):F b:=by obtain⟨c,pl,fr,h⟩:=h;exact h.fb.1
theorem DJ.ok{F C:Nat->Prop}{W:World}{b:Nat}{i:Int}{A:ArS α}(h:DJ g F C W b i A):A.Ok:=by obtain⟨c,pl,fr,h⟩:=h;exact h.ar.ok
theorem Pq{F C:Nat->Prop}{W:World}{b i:Nat}{V:Int}{A:ArS α}{n:Nd α}(h:DJ g F C W b V A)(X:A.f i=some n) :
  AB prog g.fat [.pointer (some ⟨b,0,none⟩),.int .i64 i] (fun v' w'=>∃r,v'=.agg (r++BQ n).toArray/\g.R C w' r n.x/\Grow W w') W:=by
 apply g.ok.at_;unfold dV;refine Bx.zero fun b4 w1 Y J Z=>?_;obtain⟨c,pl,fr,O⟩:=h;have j:=O.mod J fun _ _ h=>h;refine AH ?_;refine Bm (j.box.cells 3 _ rfl) ?_;refine AA (bE j.ar X) ?_;rintro _ w2 ⟨r,rfl,hr,Q⟩;refine BK ?_;have hl:=BB n hr;have S:=Gm n hr;refine Bx.new hl HI S fun b5 w3 a1 B B5=>?_;refine B5.Er hl ?_;have E:=(Z.grow Q).grow B;refine E.over hl (HI) S fun w4 o T=>?_;refine o.Er hl ?_;have I:Grow W w4:=((J.trans Q).trans B).next T fun y U e=>by omega
 exact⟨r,rfl,g.BR (g.BR hr B fun _ _ _ h=>h) T fun y _ U e=>by have:=O.ar.lt y (.inr U);omega,I⟩
theorem DQ{F C:Nat->Prop}{W:World}{b i:Nat}{J:Int}{A:ArS α}{n:Nd α}{K:Value->World->Prop}(h:DJ g F C W b J A)(O:A.f i=some n)
 (Q:∀r j w',Grow W w'->W.heap.size<=j->Bx w' j (r++BQ n)->g.R C w' r n.x->K (.pointer (some ⟨j,0,none⟩)) w') :
  AB prog g.fat [.pointer (some ⟨b,0,none⟩),.int .i64 i] (fun o S=>Al g.tn g.toAvK.zN (fun y w2=>AZ (g.E+5) y o (fun T=>K y T) w2) S) W:=by
 refine AA (Pq h O) ?_;rintro _ w4 ⟨r,rfl,hr,B⟩;refine Bx.new (BB n hr) HI (Gm n hr) fun U V X I Y=>?_;exact Q r U V (B.trans I) (by have:=B.size;omega) Y (g.BR hr I fun _ _ _ h=>h)
theorem ES{f:Nat->Option (Nd α)}{μ:α->Nat×Nat}{t:Tr α}{A:ArS α}(o:A.f=f)(h:Tr.Holds μ f t)(hu:Tr.FL t):t.ht<=A.ps.length/\t.DC<=A.ps.length:=by
 have i:t.idx ⊆ List.range A.ps.length:=fun x y=>by
  obtain⟨n,j⟩:=h.has μ y;rw[<-o] at j;exact List.mem_range.2 (ArS.Hr j).1
 have h1:=He hu i;have B:=(Tr.Qa t).1;have E:=Tr.Y2 t;simp only[List.length_range] at h1;omega
def Dc(g:AvT α)(l:List α):Prop:=Tr.sz g.k.μ l<=1099511627776/\Tr.mk g.k.μ l<=1099511627776
theorem Dc.app{l m:List α}(h:Dc g (l++m)):Dc g l/\Dc g m:=by
 obtain⟨h1,i⟩:=h;rw[Tr.CG] at h1;rw[Tr.E3] at i;exact⟨⟨by omega,by omega⟩,by omega,by omega⟩
theorem Dc.cons{x:α}{m:List α}(h:Dc g (x::m)):Dc g m/\(g.k.μ x).1+Tr.sz g.k.μ m<=1099511627776/\(g.k.μ x).2+Tr.mk g.k.μ m<=1099511627776:=by
 obtain⟨h1,i⟩:=h;rw[Tr.BU] at h1;rw[Tr.Ca] at i;exact⟨⟨by omega,by omega⟩,h1,i⟩
theorem Bs{F C:Nat->Prop}{W:World}{b:Nat}{I:Int}{A:ArS α}{t:Tr α}(h:DJ g F C W b I A)(ht:Tr.Holds g.k.μ A.f t) :
  AB prog g.ftotals [.pointer (some ⟨b,0,none⟩),.int .i64 t.root] (fun v' w'=>v'=.tuple #[.int .i64 t.ht,.int .i64 (Tr.sz g.k.μ t.toL),.int .i64 (Tr.mk g.k.μ t.toL)]/\Grow W w') W:=by
 apply g.ok.totals;unfold Qd;cases t with
 |nil=>
  simp only[Tr.root];rw[Am];refine AE (fun _=>?_) fun e=>(e rfl).elim;exact⟨rfl,Mod.refl _ _⟩
 |node l i x r=>
  simp only[Tr.root];rw[Am];refine AE (fun e=>by omega) fun _=>?_;obtain⟨_,_,J⟩:=ht;refine DQ h J fun U O y Q S B hr=>?_;have o:=g.rlen hr;refine CZ (fun w'=>Grow y w') (Mod.drew _ _) ?_;have hc:∀j v w',Grow y w'->(BQ (Tr.Dd g.k.μ (.node l i x r) x l.root r.root))[j]?=some v->w'.cell? ⟨O,g.E+j,none⟩=some v:=fun j v w' g' T=>g'.cell (B.cells (g.E+j) v (by rw[AV o];exact T)) fun h=>h;rw[AG,AI];refine Au (fun w' g'=>hc 2 _ w' g' rfl) ?_;rw[AG,AI];refine Au (fun w' g'=>hc 3 _ w' g' rfl) ?_;rw[AG,AI];refine Au (fun w' g'=>hc 4 _ w' g' rfl) ?_;intro w' g';exact⟨rfl,Q.trans g'⟩
theorem IH{o:Addr->Value->Prop}{b:Nat}{r:List Value}{k:Value->Prop}(hl:r.length=g.E)(x:∀j v,r[j]?=some v->o ⟨b,j,none⟩ v)(hk:k (g.toAvK.enc r)):MU g.toAvK o (.pointer (some ⟨b,0,none⟩)) k:=by
 unfold MU AvK.enc at *;cases i:g.one with
 |true=>
  have B:=g.E1 i;rw[i] at hk;simp only[cond_true] at hk ⊢;cases r with
  |nil=>simp at hl;omega
  |cons a r=>exact Aa (x 0 a rfl) hk
 |false=>
  rw[i] at hk;simp only[cond_false] at hk ⊢;exact CL hl (fun j v y=>by rw[AI];exact x j v y) hk
theorem ZE{a b:Nat}{k:Value->Prop}(h:k (.int .i64 (max a b:Nat))):Ju .i64 (.int .i64 a) (.int .i64 b) k:=by
 rw[Gq];have e:(if(b:Int)>(a:Int) then(b:Int) else(a:Int))=((max a b:Nat):Int):=by split<;>omega
 rw[e];exact h
theorem Bw{a b:Nat}{k:Value->Prop}(hb:a+b<=9223372036854775807)(h:k (.int .i64 (a+b:Nat))):AX .i64 (.int .i64 a) (.int .i64 b) k:=by
 rw[AR,wrap64 (by omega) (by omega)];have e:((a:Int)+(b:Int))=((a+b:Nat):Int):=by omega
 rw[e];exact h
theorem FW{F C:Nat->Prop}{W:World}{b i:Nat}{rt:Int}{A:ArS α}{n m:Nd α}{l r:Tr α}{S:List Value}(h:DJ g F C W b rt A)(hs:A.ps.length<=109951162777)(hi:A.f i=some m)(hr:g.R C W S n.x)(el:n.l=l.root)(er:n.r=r.root)
 (hl:Tr.Holds g.k.μ A.f l)(T:Tr.Holds g.k.μ A.f r)(ul:Tr.FL l)(ur:Tr.FL r)(hb:Dc g (l.toL++n.x::r.toL)) :
  AB prog g.fset [.pointer (some ⟨b,0,none⟩),.int .i64 i,.agg (S++BQ n).toArray] (fun _ w'=>DJ g F C w' b rt (A.put i (Tr.Dd g.k.μ (.node l i n.x r) n.x l.root r.root))/\Mod (Fb F b) W w') W:=by
 apply g.ok.set;unfold bg;have o:=g.rlen hr;have av:=BB n hr;obtain⟨b0,Y⟩:=hb.app;obtain⟨ax,b1,b2⟩:=Y.cons;have b3:=(ES rfl hl ul).1;have b4:=(ES rfl T ur).1;have Z:=hb.1;have a1:=hb.2;rw[Tr.CG,Tr.BU] at Z;rw[Tr.E3,Tr.Ca] at a1;refine Bx.box fun b5 w1 a6 g1 B=>?_;have h1:=h.grow g1;refine Bm (B.cells (g.E+0) _ (by rw[AV o];rfl)) ?_;rw[el];refine AA (Bs h1 hl) ?_;rintro _ w3 ⟨rfl,g3⟩;refine JZ ?_;rw[AG,AI];have B3:=B.grow g3;refine AL (B3.cells (g.E+1) _ (by rw[AV o];rfl)) ?_;rw[er];refine AA (Bs (h1.grow g3) T) ?_;rintro _ w5 ⟨rfl,g5⟩;refine JZ ?_;have gd:Grow w5 w5.drew:=Mod.drew _ _;have O:=((g1.trans g3).trans g5).trans gd;obtain⟨c,pl,fr,hT⟩:=h;have a7:=hT.mod O fun _ _ h=>h;have B5:=(B3.grow g5).grow gd;refine Ag (fun _ _=>False) ?_;refine AH ?_;rw[AG,AI,AG,AI];refine Aa ⟨a7.box.cells 0 _ rfl,fun _ _ e=>e⟩ ?_;rw[AG,AI];refine IH (r:=S) o (fun j v V=>⟨B5.cells j v (by rw[List.getElem?_append_left (List.getElem?_eq_some_iff.1 V).1];exact V),fun _ _ e=>e⟩) ?_;refine As (g.meas (g.BR hr O fun _ _ _ h=>h)) ?_;rintro _ w6 ⟨rfl,g6⟩;refine⟨g6.mono fun _ _ h=>h.elim,?_⟩;refine BK ?_;refine ZE ?_;refine Bw (a:=1) (by omega) ?_;refine Bw (by omega) ?_;refine Bw (by omega) ?_;refine Bw (by omega) ?_;refine Bw (by omega) ?_;rw[AG,AI];have B6:=B5.grow g6;refine B6.st (by omega) rfl rfl fun w7 B7 m7=>?_;rw[CQ o] at B7;rw[AG,AI];refine B7.st (by rw[List.length_append,o,List.length_set];exact Nat.add_lt_add_left (show 3<5 by decide) _) rfl rfl fun w8 B8 m8=>?_;rw[AG,AI];refine B8.st (by rw[List.length_set,List.length_append,o,List.length_set];exact Nat.add_lt_add_left (show 4<5 by decide) _) rfl rfl fun X B9 m9=>?_;have eB:((S++(BQ n).set 2 (.int .i64 ((1+max l.ht r.ht:Nat):Int))).set (g.E+3) (.int .i64 ((Tr.sz g.k.μ l.toL+Tr.sz g.k.μ r.toL+(g.k.μ n.x).1:Nat):Int))).set (g.E+4) (.int .i64 ((Tr.mk g.k.μ l.toL+Tr.mk g.k.μ r.toL+(g.k.μ n.x).2:Nat):Int))=S++BQ (Tr.Dd g.k.μ (.node l i n.x r) n.x l.root r.root):=by
  rw[List.set_append_right _ _ (by omega),List.set_append_right _ _ (by omega),o,Nat.add_sub_cancel_left,Nat.add_sub_cancel_left];simp only[BQ,Tr.Dd,Tr.ht,Tr.toL,List.set_cons_succ,List.set_cons_zero,el,er,Tr.CG,Tr.BU,Tr.E3,Tr.Ca];rw[show Tr.sz g.k.μ l.toL+Tr.sz g.k.μ r.toL+(g.k.μ n.x).1=Tr.sz g.k.μ l.toL+((g.k.μ n.x).1+Tr.sz g.k.μ r.toL) by omega,show Tr.mk g.k.μ l.toL+Tr.mk g.k.μ r.toL+(g.k.μ n.x).2=Tr.mk g.k.μ l.toL+((g.k.μ n.x).2+Tr.mk g.k.μ r.toL) by omega]
 rw[eB] at B9;have U:Grow X X.drew:=Mod.drew _ _;have ay:W.heap.size<=b5:=a6;have Q:Grow W X.drew:=((((O.trans g6).next m7 fun y hy e=>by omega).next m8 fun y hy e=>by omega).next m9 fun y hy e=>by omega).trans U;have I:=hT.mod Q fun _ _ h=>h;have a8:=B9.grow U;refine Ag (fun _ y=>F y/\y≠b) ?_;refine AH ?_;rw[AG,AI];refine Aa ⟨I.box.cells 3 _ rfl,fun _ _ e=>e.2 rfl⟩ ?_;have ak:¬F b5:=fun e=>by
  have:=DJ.lt (g:=g) ⟨c,pl,fr,hT⟩ b5 (.inl e);omega
 refine CL (BB (Tr.Dd g.k.μ (.node l i n.x r) n.x l.root r.root) hr) (fun j v V=>⟨by rw[AI];exact a8.cells j v V,fun _ _ e=>by rw[AI] at e;exact ak e.1⟩) ?_;refine AA (RE I.ar hi (n:=Tr.Dd g.k.μ (.node l i n.x r) n.x l.root r.root) (g.BR hr Q fun _ _ _ h=>h)) ?_;rintro _ al ⟨hA,an⟩;have J:Mod (fun y=>F y/\y≠b) X.drew al:=an.mono fun x _ e=>(I.ar.pF x e).1;refine⟨J,?_⟩;exact⟨⟨c,pl,fr,I.box.mod J fun e=>e.2 rfl,hA,I.fb⟩,(Q.mono fun _ _ h=>h.elim).trans J⟩
theorem LL{F C:Nat->Prop}{W:World}{b i:Nat}{I:Int}{A:ArS α}{n:Nd α}{l r:Tr α}(h:DJ g F C W b I A)(Z:A.ps.length<=109951162777)(J:A.f i=some n)(O:n.l=l.root)(Q:n.r=r.root)(hl:Tr.Holds g.k.μ A.f l)(hr:Tr.Holds g.k.μ A.f r)(S:Tr.FL l)(T:Tr.FL r) :
  AB prog g.flean [.pointer (some ⟨b,0,none⟩),.int .i64 i] (fun v' w'=>v'=.int .i64 ((l.ht:Int)-(r.ht:Int))/\Grow W w') W:=by
 apply g.ok.lean;unfold Yr;have U:=(ES rfl hl S).1;have V:=(ES rfl hr T).1;refine DQ h J fun rc bx w1 o X B x=>?_;have j:=g.rlen x;refine Bm (B.cells (g.E+0) _ (by rw[AV j];rfl)) ?_;rw[O];refine AA (Bs (h.grow o) hl) ?_;rintro _ w3 ⟨rfl,y⟩;refine JZ ?_;refine Bm ((B.grow y).cells (g.E+1) _ (by rw[AV j];rfl)) ?_;rw[Q];refine AA (Bs ((h.grow o).grow y) hr) ?_;rintro _ w5 ⟨rfl,Y⟩;refine JZ ?_;rw[A6,wrap64 (by omega) (by omega)];exact⟨rfl,(o.trans y).trans Y⟩
end Go.Proofs.YtmdhibffnkhcnaaGreatDoor
