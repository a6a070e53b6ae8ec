/- parts of the proof, written short by a program of ours -/
import Derived.Test.YtmdhibffnkhcnaaGreatDoorZTextProperUpto0
import Derived.Tactics
import Derived.Deep.Quiet
import Derived.RangeFuncIn
import Derived.TacticsIn
import Derived.Test.YtmdhibffnkhcnaaGreatDoorProg
import Derived.KernelRfl
import GoSem.Claims
import Derived.Laws.AppendOwnNone
import Derived.RangeFuncOwn
import Derived.RangeFuncLeaves
import Derived.WalkKit
set_option linter.unusedSimpArgs false
set_option linter.unusedVariables false
namespace Go.K
open Go
inductive Pb where
 |nil
 |node (L:List Nat) (W:List (Nat×Nat)) (a b:Pb)
 |cut (L:List Nat) (W:List (Nat×Nat)) (a b:Pb)
 |draw
 |dg (AP:List Nat) (AN Gs:List (List Nat))
 |dc (AP:List Nat) (AN Gs:List (List Nat))
 |dt (AP:List Nat) (AN Gs:List (List Nat)) (t:Ord)
def cF:List (Nat×Nat)->Nat->Bool
 |[],_=>false
 |(lo,i)::r,j=>(Nat.ble lo j&&Nat.ble j i)||cF r j
def lk:List Nat->List Value->Nat->Value->Value
 |[],_,_,d=>d
 |l::L,vs,j,d=>bif Nat.beq l j then vs.headD undef else lk L vs.tail j d
def mix(L:List Nat)(W:List (Nat×Nat))(vs:List Value)(h e:Env):Env:=fun j=>lk L vs j (bif cF W j then h j else e j)
def Hs(W:List (Nat×Nat)):Code->Bool
 |.region _ ops _=>ops.toList.all fun o=>match o.dst with | some d=>cF W d | none=>true
 |.seq a b=>Hs W a&&Hs W b
 |.cond _ a b=>Hs W a&&Hs W b
 |.block _ a=>Hs W a
 |.loop a=>Hs W a
 |.scope a=>Hs W a
 |.rangeFunc ..=>false
 |_=>true
def Wr:Code->Nat->Prop
 |.region _ ops _,j=>∃o∈ops.toList,o.dst=some j
 |.seq a b,j=>Wr a j\/Wr b j
 |.cond _ a b,j=>Wr a j\/Wr b j
 |.block _ a,j=>Wr a j
 |.loop a,j=>Wr a j
 |.scope a,j=>Wr a j
 |.rangeFunc ..,_=>True
 |_,_=>False
theorem Da{W:List (Nat×Nat)}:∀{c:Code},Hs W c=true->∀j,Wr c j->cF W j=true
 |.region _ ops _,h,j,⟨o,x,y⟩=>by
  simp only[Hs,List.all_eq_true] at h;have:=h o x;rw[y] at this;exact this
 |.seq a b,h,j,i=>by
  simp only[Hs,Bool.and_eq_true] at h;exact i.elim (Da h.1 j) (Da h.2 j)
 |.cond _ a b,h,j,i=>by
  simp only[Hs,Bool.and_eq_true] at h;exact i.elim (Da h.1 j) (Da h.2 j)
 |.block _ a,h,j,i=>Da (c:=a) h j i
 |.loop a,h,j,i=>Da (c:=a) h j i
 |.scope a,h,j,i=>Da (c:=a) h j i
 |.rangeFunc ..,h,_,_=>by simp[Hs] at h
 |.skip,_,_,i=>i.elim
 |.exit _,_,_,i=>i.elim
 |.label _,_,_,i=>i.elim
 |.goto _,_,_,i=>i.elim
 |.ret,_,_,i=>i.elim
 |.refuse _,_,_,i=>i.elim
theorem aG(e:Env)(L:List Nat)(j:Nat)(d:Value):lk L (L.map e) j d=if j∈L then e j else d:=by
 induction L with
 |nil=>simp[lk]
 |cons l L i=>
  simp only[lk,List.map_cons,List.headD_cons,List.tail_cons,i];cases hb:Nat.beq l j with
  |true=>have:=Nat.eq_of_beq_eq_true hb;subst this;simp
  |false=>
   have:j≠l:=by intro e;subst e;simp at hb
   simp[this]
theorem Oh{L:List Nat}{W:List (Nat×Nat)}{e e':Env}(h:∀j,cF W j=false->e' j=e j):mix L W (L.map e') e' e=e':=by
 funext j
 simp only[mix,aG];split
 .rfl
 .cases i:cF W j with
  |true=>simp
  |false=>simp[h j i]
variable (P:Program)(ok:Nat->Bool)(n:Nat)
def Kj(P:Program)(l:Nat)(args:List Value)(K:Cont)(w:World):Prop:=
 ∃f tmps i body,(Instr.yield l args.toArray).run P w=.ok (.round l f tmps i body) w/\RoundIn Fence.wide 0 P l f tmps i body w fun e w'=>∃v,e=.returned v/\K v w'
def CN(P:Program)(ok:Nat->Bool)(f:Value)(args:List Value)(K:Cont)(w:World):Prop:=
 BF P ok f args K w\/∃l,f=.func (.yield l) #[] #[]/\Kj P l args K w
def cC(o:Oper)(ρ:Operand->Value)(K:Cont)(w:World):Prop:=
 match o.op with
 |.call c=>match c.callee with
  |.value (.func _)=>Ee P ok o ρ K w
  |.value f=>CN P ok (ρ f) (c.args.toList.map ρ) K w
  |_=>Ee P ok o ρ K w
 |_=>Ee P ok o ρ K w
def JL(all:List Oper)(K:Env->World->Prop):List Oper->Nat->List (Nat×Option Bool)->Env->World->Prop
 |[],_,_,e,w=>K e w
 |o::x,i,kn,e,w=>
  bif Ek o.dst kn all then False else
  match o.guard with
  |none=>cC P ok o (ev e) (fun v w'=>JL all K x (i+1) kn (BG n e o.dst v) w') w
  |some (j,y)=>match Cb kn j with
   |some (some b)=>bif Ko b y then cC P ok o (ev e) (fun v w'=>JL all K x (i+1) kn (BG n e o.dst v) w') w
     else JL all K x (i+1) ((i,none)::kn) (BG n e o.dst undef) w
   |some none=>JL all K x (i+1) ((i,none)::kn) (BG n e o.dst undef) w
   |none=>match Bw all j with
    |some d=>bif Ek o.dst ((j,none)::kn) all then False else AD (e d)
      (bif y then cC P ok o (ev (EI n e d (.bool true))) (fun v w'=>JL all K x (i+1) ((j,some true) :: kn) (BG n (EI n e d (.bool true)) o.dst v) w') w
       else JL all K x (i+1) ((i,none) :: (j,some true) :: kn) (BG n (EI n e d (.bool true)) o.dst undef) w)
      (bif y then JL all K x (i+1) ((i,none) :: (j,some false) :: kn) (BG n (EI n e d (.bool false)) o.dst undef) w
       else cC P ok o (ev (EI n e d (.bool false))) (fun v w'=>JL all K x (i+1) ((j,some false) :: kn) (BG n (EI n e d (.bool false)) o.dst v) w') w)
    |none=>False
def BK(C:World->Prop)(x:Value)(K:Value->Prop):Prop:=∃a v,x=.pointer (some a)/\(∀w,C w->w.cell? a=some v)/\K v
def JI(C:World->Prop)(k:Nat)(x:Value)(K:Value->Prop):Prop:=
 ∃a vs,x=.pointer (some a)/\List.length vs=k/\(∀w,C w->∀j v,vs[j]?=some v->w.cell? (a.add j)=some v)/\K (.agg vs.toArray)
def Ev(P:Program)(C:World->Prop)(g:Nat)(args:List Value)(K:Value->Prop):Prop:=
 ∃v,(∀w,C w->AB P g args (fun v' w'=>v'=v/\C w') w)/\K v
def Bg(P:Program)(C:World->Prop)(s:Sem Value)(K:Value->Prop):Prop:=∃v,(∀w,C w->s.run P w=.ok v w)/\K v
def Yw(P:Program)(C:World->Prop)(g:Nat)(args:List Value)(K:Value->Prop):Prop:=∃v,(∀w,C w->(callFunc g args.toArray).run P w=.ok (.value v) w)/\K v
def Dc(w:World)(F:(World->Prop)->Prop):Prop:=∃C:World->Prop,C w.drew/\F C
def YS(C:World->Prop)(o:Oper)(ρ:Operand->Value)(K:Value->Prop)(w:World):Prop:=
 match o.op with
 |.load t x=>match Gz P t with | some (false,_)=>BK C (ρ x) K | some (true,k)=>JI C k (ρ x) K | none=>False
 |.binOp op t x y _=>bif GZ P op t y then L3 P op t y (ρ x) (ρ y) K False
   else Bg P C (BZ op t x y (ρ x) (ρ y)) K
 |.call c=>match c.callee with
  |.value (.func g)=>bif ok g then Ev P C g (c.args.toList.map ρ) K else Yw P C g (c.args.toList.map ρ) K
  |_=>bif CI P o then Ee P ok o ρ (fun v _=>K v) w else False
 |.convert s d x=>Bg P C (convert s d (ρ x)) K
 |.slice t x lo i j=>Bg P C (Instr.sliceAt t (ρ x) (lo.map ρ) (i.map ρ) (j.map ρ)) K
 |_=>bif CI P o then Ee P ok o ρ (fun v _=>K v) w else False
def JY(C:World->Prop)(all:List Oper)(K:Env->Prop)(w:World):List Oper->Nat->List (Nat×Option Bool)->Env->Prop
 |[],_,_,e=>K e
 |o::x,i,kn,e=>
  bif Ek o.dst kn all then False else
  match o.guard with
  |none=>YS P ok C o (ev e) (fun v=>JY C all K w x (i+1) kn (BG n e o.dst v)) w
  |some (j,y)=>match Cb kn j with
   |some (some b)=>bif Ko b y then YS P ok C o (ev e) (fun v=>JY C all K w x (i+1) kn (BG n e o.dst v)) w
     else JY C all K w x (i+1) ((i,none)::kn) (BG n e o.dst undef)
   |some none=>JY C all K w x (i+1) ((i,none)::kn) (BG n e o.dst undef)
   |none=>match Bw all j with
    |some d=>bif Ek o.dst ((j,none)::kn) all then False else AD (e d)
      (bif y then YS P ok C o (ev (EI n e d (.bool true))) (fun v=>JY C all K w x (i+1) ((j,some true) :: kn) (BG n (EI n e d (.bool true)) o.dst v)) w
       else JY C all K w x (i+1) ((i,none) :: (j,some true) :: kn) (BG n (EI n e d (.bool true)) o.dst undef))
      (bif y then JY C all K w x (i+1) ((i,none) :: (j,some false) :: kn) (BG n (EI n e d (.bool false)) o.dst undef)
       else YS P ok C o (ev (EI n e d (.bool false))) (fun v=>JY C all K w x (i+1) ((j,some false) :: kn) (BG n (EI n e d (.bool false)) o.dst v)) w)
    |none=>False
def TT(o:Oper):Bool:=match o.op with|.defer _=>false|_=>true
def KO:Code->Bool
 |.region _ ops draw=>!draw||ops.toList.all TT
 |.seq a b=>KO a&&KO b
 |.cond _ a b=>KO a&&KO b
 |.block _ a=>KO a
 |.loop a=>KO a
 |.skip=>true
 |.exit _=>true
 |.ret=>true
 |_=>false
def dQ(id:Nat)(Q:EQ):EQ:=fun ex e w=>match ex with
 |.exit i=>bif Nat.beq i id then Q .normal e w else Q (.exit i) e w
 |.normal=>Q .normal e w | .ret=>Q .ret e w | .goto l=>Q (.goto l) e w | .panic c=>Q (.panic c) e w | .outgrown=>Q .outgrown e w
def eO(Q:EQ):EQ:=fun ex e w=>match ex with
 |.goto _=>False
 |.normal=>Q .normal e w | .exit i=>Q (.exit i) e w | .ret=>Q .ret e w | .panic c=>Q (.panic c) e w | .outgrown=>Q .outgrown e w
def bL(N:Env->World->Prop)(Q:EQ):EQ:=fun ex e w=>match ex with
 |.normal=>N e w
 |.exit i=>Q (.exit i) e w | .ret=>Q .ret e w | .goto l=>Q (.goto l) e w | .panic c=>Q (.panic c) e w | .outgrown=>Q .outgrown e w
def D:Code->Pb->EQ->Env->World->Prop
 |.skip,_,Q,e,w=>Q .normal e w
 |.region _ ops draw,an,Q,e,w=>match draw with
  |false=>JL P ok n ops.toList (fun e w=>Q .normal e w) ops.toList 0 [] e w
  |true=>match an with
   |.draw=>bif Region.lexB .any ops then Dc w (fun C=>JY P ok n C ops.toList (fun e'=>∀w':World,C w'->Q .normal e' w') w ops.toList 0 [] e) else False
   |.dg AP AN Gs=>bif K1 n ops.toList AP AN Gs then Yt AP AN w.drew fun A M i=>Q9 P ok n ops.toList AP AN e w.drew A M i
     (Mo P ok n ops.toList AP AN e w.drew A M i (∀w',Mod (Lb AP M) w.drew w'->DU P ok n ops.toList AP A i w' (fun _=>true) (fun _ e'=>Q .normal e' w') ops.toList 0 [] e) Gs) AP else False
   |.dc AP AN Gs=>bif K1 n ops.toList AP AN Gs&&KT AP AN then Ax AP AN w.drew fun M i=>CV P ok n ops.toList AP M i w.drew (fun e' w'=>Q .normal e' w') ops.toList 0 [] e w.drew else False
   |.dt AP AN Gs t=>bif K1 n ops.toList AP AN Gs&&RF ops.toList.length AP AN t then Ax AP AN w.drew fun M i=>CL P ok n ops.toList AP M i w.drew (fun e' w'=>Q .normal e' w') t [] e w.drew else False
   |_=>False
 |.seq x y,an,Q,e,w=>match an with
  |.node _ _ a b=>D x a (bL (fun e' w'=>D y b Q e' w') Q) e w
  |.cut L W a b=>bif Hs W x then Aq (fun vs w'=>∀h:Env,D y b Q (mix L W vs h e) w') (fun J=>D x a (bL (fun e' w'=>J (L.map e') w') Q) e w) else False
  |_=>False
 |.cond c x y,an,Q,e,w=>match an with
  |.node _ _ a b=>AD (ev e c) (D x a Q e w) (D y b Q e w)
  |_=>False
 |.block id x,an,Q,e,w=>D x an (dQ id Q) e w
 |.loop x,an,Q,e,w=>match an with
  |.node L W a _=>bif Hs W x then Ay (L.map e) (fun vs j w'=>∀h:Env,D x a (bL (fun e' o=>j (L.map e') o) Q) (mix L W vs h e) w') w else False
  |_=>False
 |.exit id,_,Q,e,w=>Q (.exit id) e w
 |.ret,_,Q,e,w=>Q .ret e w
 |.label _,_,Q,e,w=>Q .normal e w
 |.scope x,an,Q,e,w=>D x an (eO Q) e w
 |_,_,_,_,_=>False
variable {P ok n}
def lift(n:Nat)(ds:List Deferred)(c:Code)(e:Env)(Q:EQ):Exit->Act->World->Prop:=fun ex a w=>∃e',Fr ds n e' a/\(∀j,¬Wr c j->e' j=e j)/\Q ex e' w
def Fl(ds:List Deferred)(n:Nat)(l:List Oper)(e:Env)(K:Env->World->Prop):Exit->Act->World->Prop:=
 fun ex a w=>ex=.normal/\∃e',Fr ds n e' a/\(∀j,(∀o∈l,o.dst≠some j)->e' j=e j)/\K e' w
theorem NP{ds:List Deferred}{l:List Oper}{o:Oper}{e:Env}{v:Value}{K:Env->World->Prop}{ex:Exit}{a:Act}{w:World}(h:Fl ds n l (BG n e o.dst v) K ex a w):Fl ds n (o::l) e K ex a w:=by
 obtain⟨h0,e',h1,y,B⟩:=h;refine⟨h0,e',h1,fun j x=>?_,B⟩;rw[y j (fun o' i=>x o' (by simp[i]))];exact Gm (x o (by simp))
abbrev Wd(ro:Option Nat):Fence:={ Fence.wide with round:=ro }
theorem Hz{F:Fence}{m:Nat}{ops:Array Oper}{Q Q':Exit->Act->World->Prop}(x:∀e a w,Q e a w->Q' e a w):∀(l:List Oper) (a:Act) (w:World),wpListIn F m P ops Q l a w->wpListIn F m P ops Q' l a w:=by
 have I:LetsOut Q->LetsOut Q':=fun⟨a,w,h⟩=>⟨a,w,x _ _ _ h⟩;intro l;induction l with
 |nil=>intro a w h;exact x _ _ _ h
 |cons o r j=>
  intro a w h;unfold wpListIn at h ⊢;split
  .rename_i B;rw[if_pos B] at h;unfold Oper.wpIn at h ⊢;refine⟨h.1,?_⟩;replace h:=h.2
   generalize (o.semAt F.round a.eval).run P w=J at h ⊢;match J,h with
   |.ok (.value v) w',h=>exact j _ _ h
   |.ok .skip w',h=>exact j _ _ h
   |.ok (.defer d) w',h=>exact j _ _ h
   |.ok (.enter f args) w',h=>
    exact ⟨h.1,CallsIn.mono h.2 fun E y i=>by
     cases E with
     |returned v=>exact j _ _ i
     |panicked O=>exact x _ _ _ i
     | outgrown=>exact I i⟩
   |.ok (.row row args) w',h=>exact⟨h.1,RowsIn.mono h.2 fun v y i=>j _ _ i⟩
   |.ok (.round l f tmps assign body) w',h=>
    exact ⟨h.1,RoundIn.mono h.2 fun E y i=>by
     cases E with
     |returned v=>exact j _ _ i
     |panicked O=>exact x _ _ _ i
     | outgrown=>exact I i⟩
   |.halt (.panic v) w',h=>exact x _ _ _ h
  .rename_i B;rw[if_neg B] at h;exact⟨h.1,j _ _ h.2⟩
theorem SG{ro:Option Nat}{m:Nat}{K:Cont}{w:World}{o:Oper}{a:Act}{next:Act->World->Prop}{Q:Exit->Act->World->Prop}{r:Result Next}
 (h:ER w r K P)(i:∀v w',K v w'->next (a.put o.dst v) w'):o.uponIn (Wd ro) m P a next Q r:=by
 match r,h with
 |.ok (.value v) w',h=>exact i _ _ h
 |.ok .skip w',h=>exact i _ _ h
 |.ok (.enter f args) w',h=>
  obtain⟨rfl,h⟩:=h;exact⟨(fun h=>by cases h),(callsIn_wide.2 (Calls.mono h fun e j ⟨v,he,x⟩=>by subst he;exact i _ _ x):CallsIn Fence.wide _ _ _ _ _ _)⟩
theorem OU{o:Oper}{ρ:Operand->Value}{K:Cont}{w:World}(h:Ee P ok o ρ K w):∀c,o.op≠.defer c:=by
 intro c hc;simp only[Ee,hc] at h
theorem Uf(I:CC P ok){ro:Option Nat}{m:Nat}{K:Cont}{w:World}{o:Oper}{a:Act}{e:Env}{next:Act->World->Prop}{Q:Exit->Act->World->Prop}(B:a.eval=ev e)
 (h:cC P ok o (ev e) K w)(T:∀v w',K v w'->next (a.put o.dst v) w'):o.wpIn (Wd ro) m P a w next Q:=by
 have G6:Ee P ok o (ev e) K w->o.wpIn (Wd ro) m P a w next Q:=by
  intro h;refine⟨fun _ _=>trivial,?_⟩;rw[Oper.semAt_eq _ _ _ (OU h),B];exact SG (IH I (fun _=>rfl) (fun _=>rfl) h) T
 obtain⟨x,op,i,pos,after,guard⟩:=o;cases op with
 |call c=>
  obtain⟨j,args,y⟩:=c;cases j with
  |value f=>
   have J:CN P ok (ev e f) (args.toList.map (ev e)) K w->(Ee P ok ⟨x,.call ⟨.value f,args,y⟩,i,pos,after,guard⟩ (ev e) K w↔BF P ok (ev e f) (args.toList.map (ev e)) K w)->Oper.wpIn (Wd ro) m P ⟨x,.call ⟨.value f,args,y⟩,i,pos,after,guard⟩ a w next Q:=by
    rintro(h|⟨l,U,fn,tmps,O,body,h1,V⟩) E
    .exact G6 (E.2 h)
    .refine⟨fun _ _=>trivial,?_⟩;rw[Oper.semAt_eq _ _ _ (by simp),B];have hr:(execOp (ev e) ⟨x,.call ⟨.value f,args,y⟩,i,pos,after,guard⟩).run P w=.ok (.round l fn tmps O body) w:=by
      simp only[execOp,resolve,U,Deferred.ofValue,pure_bind,invoke,FL];simpa[callFunc] using h1
     rw[hr];have X:=V.2;refine⟨(fun h=>by cases h),trivial,fun c cs _=>?_⟩;obtain⟨en,S,⟨v,rfl,Y⟩,Z⟩:=X c cs (room_wide _);exact⟨.returned v,S,T _ _ Y,Z⟩
   cases f with
   |func g=>exact G6 h
   |tmp t=>exact J h Iff.rfl
   |const v=>exact J h Iff.rfl
   |global g=>exact J h Iff.rfl
  |invoke r m=>exact G6 h
  |builtin b=>exact G6 h
 |_=>exact G6 h
theorem QW{ds:List Deferred}{ro:Option Nat}{m:Nat}(a7:CC P ok){ops:Array Oper}{K:Env->World->Prop}:∀(l:List Oper) (i:Nat) (kn:List (Nat×Option Bool)) (e:Env) (w:World) (a:Act),
  ops.toList.drop i=l->DJ ops.toList kn e->Fr ds n e a->JL P ok n ops.toList K l i kn e w->wpListIn (Wd ro) m P ops (Fl ds n l e K) l a w:=by
 intro l;induction l with
 |nil=>
  intro i kn e w a _ _ V h;exact⟨rfl,e,V,fun _ _=>rfl,h⟩
 |cons o x ih=>
  intro i kn e w a hl J V h;have a8:Bw ops.toList i=o.dst:=by
   have:ops.toList[i]?=some o:=by
    have:=congrArg (fun l=>l[0]?) hl;simpa using this
   rw[Bt,this];rfl
  have Z:ops.toList.drop (i+1)=x:=by
   have:=congrArg List.tail hl;simpa using this
  have Q:∀(v:Value) (a':Act) (w':World),wpListIn (Wd ro) m P ops (Fl ds n x (BG n e o.dst v) K) x a' w'->wpListIn (Wd ro) m P ops (Fl ds n (o::x) e K) x a' w':=
   fun v a' w' hh=>Hz (fun ex a w=>NP) x a' w' hh
  simp only[JL] at h;cases O:Ek o.dst kn ops.toList with
  |true=>simp only[O,cond_true] at h
  |false=>
   simp only[O,cond_false] at h;have Lf:∀B,(∀v,DJ ops.toList B (BG n e o.dst v))->cC P ok o (ev e) (fun v w'=>JL P ok n ops.toList K x (i+1) B (BG n e o.dst v) w') w->
     o.wpIn (Wd ro) m P a w (wpListIn (Wd ro) m P ops (Fl ds n (o::x) e K) x) (Fl ds n (o::x) e K):=by
    intro B hk X;refine Uf a7 V.eval X fun v w' S=>?_;exact Q v _ _ (ih (i+1) B _ w' _ Z (hk v) (V.put o.dst v) S)
   have y:∀B,DJ ops.toList B (BG n e o.dst undef)->JL P ok n ops.toList K x (i+1) ((i,none)::B) (BG n e o.dst undef) w->
     wpListIn (Wd ro) m P ops (Fl ds n (o::x) e K) x (a.put o.dst undef) w:=by
    intro B hk X;refine Q undef _ _ (ih (i+1) _ _ w _ Z (hk.cons ?_) (V.put o.dst undef) X);unfold yv;rw[a8];cases hd:o.dst with
    |none=>rfl
    |some d=>
     have:=(V.put o.dst undef).get d;rw[hd] at this;show bv (BG n e (some d) undef d)=none;rw[<-this];by_cases a1:d<a.tmps.size
     .simp[Act.put,a1];rfl
     .simp[Act.put,a1];rfl
   have hy:=fun j=>FG (n:=n) V (ops:=ops) (j:=j);unfold wpListIn;cases hg:o.guard with
   |none=>
    simp only[hg] at h;rw[if_pos (by simp[Region.wanted,hg])];exact(Lf kn (fun v=>J.put O v) h)
   |some g=>
    obtain⟨j,I⟩:=g;simp only[hg] at h;have hw:Region.wanted o (yielded ops a.tmps)=(yv ops.toList e j==some I):=by simp only[Region.wanted,hg,hy]
    rw[hw];cases Y:Cb kn j with
    |some b=>
     rw[J j b Y];simp only[Y] at h;cases b with
     |none=>
      simp only at h;rw[if_neg (by simp)];exact⟨fun _ _=>trivial,y kn (J.put O _) h⟩
     |some b=>
      simp only[GN] at h;cases T:(b==I) with
      |true=>
       simp only[T,cond_true] at h;rw[if_pos (by simpa using T)];exact(Lf kn (fun v=>J.put O v) h)
      |false=>
       simp only[T,cond_false] at h;rw[if_neg (by simpa using T)];exact⟨fun _ _=>trivial,y kn (J.put O _) h⟩
    |none=>
     simp only[Y] at h;cases hd:Bw ops.toList j with
     |none=>simp only[hd] at h
     |some d=>
      simp only[hd] at h;cases E:Ek o.dst ((j,none)::kn) ops.toList with
      |true=>simp only[E,cond_true] at h
      |false=>
       simp only[E,cond_false] at h;have a6:yv ops.toList e j=bv (e d):=by simp[yv,hd]
       have U:∀b,bv (e d)=b->∀v,DJ ops.toList ((j,b)::kn) (BG n e o.dst v):=fun b hb v=>
        (J.cons (a6.trans hb)).put (d:=o.dst) (by
         simp only[Ek] at E ⊢;cases ak:o.dst with
         |none=>rfl
         | some t=>rw [ak] at E;simpa [List.any_cons] using E) v
       rw[a6];rcases Dv h with⟨S,hb⟩|⟨S,hb⟩
       .rw[CS S] at hb;rw[S];cases I with
        |true=>
         simp only[cond_true] at hb;rw[if_pos (by rfl)];exact(Lf _ (U _ (by rw[S];rfl)) hb)
        |false=>
         simp only[cond_false] at hb;rw[if_neg (by simp[bv])];exact⟨fun _ _=>trivial,y _ (U _ (by rw[S];rfl) _) hb⟩
       .rw[CS S] at hb;rw[S];cases I with
        |true=>
         simp only[cond_true] at hb;rw[if_neg (by simp[bv])];exact⟨fun _ _=>trivial,y _ (U _ (by rw[S];rfl) _) hb⟩
        |false=>
         simp only[cond_false] at hb;rw[if_pos (by rfl)];exact(Lf _ (U _ (by rw[S];rfl)) hb)
theorem dP{C:World->Prop}{w:World}{v:Value}{r:Result Next}(_:C w)(h:ER w r (fun v' i=>v'=v/\C i/\(i=w\/∃f args o,r=.ok (.enter f args) o)) P):Oper.quietUpon P C w v r:=by
 match r,h with
 |.ok (.value v') i,h=>
  obtain⟨h1,_,j|⟨f,a,o,j⟩⟩:=h
  .exact⟨j,h1⟩
  .cases j
 |.ok .skip i,h=>
  obtain⟨h1,_,j|⟨f,a,o,j⟩⟩:=h
  .exact⟨j,h1.symm⟩
  .cases j
 |.ok (.enter f args) i,h=>exact⟨h.1,Calls.mono h.2 fun e o ⟨v',h1,j,x,_⟩=>⟨by rw[h1,j],x⟩⟩
theorem PW{w:World}{r:Result Next}{K j:Cont}(h:ER w r K P)(hk:∀v w',K v w'->j v w'):ER w r j P:=by
 match r,h with
 |.ok (.value v') i,h=>exact hk _ _ h
 |.ok .skip i,h=>exact hk _ _ h
 |.ok (.enter f args) i,h=>exact⟨h.1,Calls.mono h.2 fun e x ⟨v',h1,o⟩=>⟨v',h1,hk _ _ o⟩⟩
theorem Rb{ds:List Deferred}(T:CC P ok){C:World->Prop}{w:World}{o:Oper}{a:Act}{e:Env}{K:Value->Prop}{next:Act->Prop}(hf:Fr ds n e a)
 (h:YS P ok C o (ev e) K w)(X:∀v,K v->next (a.put o.dst v)):o.quiet P a C next:=by
 have E:=hf.eval;have conv:∀v,(∀w',C w'->Ee P ok o (ev e) (fun v' U=>v'=v/\U=w') w')->K v->o.quiet P a C next:=by
  intro v hv hk;refine⟨v,fun w' i=>?_,X v hk⟩;have:=IH T (fun _=>rfl) (fun _=>rfl) (hv w' i);unfold Oper.quietAt;rw[E];exact dP i (PW this fun v' U ⟨h1,j⟩=>⟨h1,j▸i,.inl j⟩)
 have Q:CI P o=true->Ee P ok o (ev e) (fun v _=>K v) w->o.quiet P a C next:=by
  intro hp S;obtain⟨v,h1,j⟩:=N9 hp S;exact conv v (fun w' _=>j _ w' ⟨rfl,rfl⟩) h1
 have B:(bif CI P o then Ee P ok o (ev e) (fun v _=>K v) w else False)->o.quiet P a C next:=by
  intro S;cases hp:CI P o with
  |true=>rw[hp] at S;exact Q hp S
  |false=>rw[hp] at S;exact S.elim
 obtain⟨V,op,O,pos,after,guard⟩:=o;cases op with
 |load t x=>
  simp only[YS] at h;split at h
  .rename_i k ha;obtain⟨p,v,h1,j,I⟩:=h;refine conv v (fun w' i=>?_) I;simp only[Ee,ha];exact⟨p,v,h1,j w' i,rfl,rfl⟩
  .rename_i k ha;obtain⟨p,vs,h1,hl,j,I⟩:=h;refine conv _ (fun w' i=>?_) I;simp only[Ee,ha];exact⟨p,vs,h1,hl,j w' i,rfl,rfl⟩
  .exact h.elim
 |binOp op t x y yt=>
  simp only[YS] at h;cases hp:GZ P op t y with
  |true=>
   rw[hp] at h;simp only[cond_true] at h;obtain⟨v,h1,j⟩:=Ff hp h;exact conv v (fun w' _=>j _ _ ⟨rfl,rfl⟩) h1
  |false=>
   rw[hp] at h;simp only[cond_false] at h;obtain⟨v,h1,j⟩:=h;refine⟨v,fun w' i=>?_,X v j⟩;unfold Oper.quietAt;rw[E];have:(execOp (ev e) ⟨V,.binOp op t x y yt,O,pos,after,guard⟩).run P w'=.ok (.value v) w':=by
    have I:=h1 w' i;simp only[BZ] at I;simp only[execOp];rw[Sem.run_bind,I];rfl
   rw[this];exact⟨rfl,rfl⟩
 |call c=>
  obtain⟨J,args,Y⟩:=c;simp only[YS] at h;cases J with
  |value f=>
   cases f with
   |func g=>
    simp only at h;have I:(execOp (ev e) ⟨V,.call ⟨.value (.func g),args,Y⟩,O,pos,after,guard⟩)=callFunc g (args.toList.map (ev e)).toArray:=by
     simp only[execOp,resolve,Deferred.ofValue,ev,pure_bind,invoke,FL];simp
    cases Z:ok g with
    |false=>
     rw[Z] at h;simp only[cond_false] at h;obtain⟨v,h1,j⟩:=h;refine⟨v,fun w' i=>?_,X v j⟩;unfold Oper.quietAt;rw[E,I,h1 w' i];exact⟨rfl,rfl⟩
    |true=>
     rw[Z] at h;simp only[cond_true] at h;obtain⟨v,h1,j⟩:=h;refine⟨v,fun w' i=>?_,X v j⟩;unfold Oper.quietAt;rw[E];rw[I,T g Z];exact⟨rfl,Calls.mono (h1 w' i) fun en w3 ⟨v',q1,q2,q3⟩=>⟨by rw[q1,q2],q3⟩⟩
   |_=>exact B h
  |_=>exact B h
 |convert s d x=>
  obtain⟨v,h1,j⟩:=h;exact conv v (fun w' i=>⟨v,w',h1 w' i,rfl,rfl⟩) j
 |slice t x lo hi mx=>
  obtain⟨v,h1,j⟩:=h;exact conv v (fun w' i=>⟨v,w',h1 w' i,rfl,rfl⟩) j
 |_=>exact B h
theorem Ik{C:World->Prop}{ops:Array Oper}{Q Q':Act->Prop}(x:∀a,Q a->Q' a):∀(l:List Oper) (a:Act),wpQuiet P ops C Q l a->wpQuiet P ops C Q' l a:=by
 intro l;induction l with
 |nil=>intro a h;exact x _ h
 |cons o r j=>
  intro a h;unfold wpQuiet at h ⊢;split
  .rename_i i;rw[if_pos i] at h;exact Oper.quiet_mono j h
  .rename_i i;rw[if_neg i] at h;exact j _ h
def HQ(ds:List Deferred)(n:Nat)(l:List Oper)(e:Env)(K:Env->Prop):Act->Prop:=fun i=>∃e',Fr ds n e' i/\(∀j,(∀o∈l,o.dst≠some j)->e' j=e j)/\K e'
theorem Py{ds:List Deferred}(a7:CC P ok){C:World->Prop}{ops:Array Oper}{K:Env->Prop}{w:World}:∀(l:List Oper) (i:Nat) (kn:List (Nat×Option Bool)) (e:Env) (a:Act),
  ops.toList.drop i=l->DJ ops.toList kn e->Fr ds n e a->JY P ok n C ops.toList K w l i kn e->
  wpQuiet P ops C (HQ ds n l e K) l a:=by
 intro l;induction l with
 |nil=>
  intro i kn e a _ _ V h;exact⟨e,V,fun _ _=>rfl,h⟩
 |cons o x ih=>
  intro i kn e a hl J V h;have a8:Bw ops.toList i=o.dst:=by
   have:ops.toList[i]?=some o:=by
    have:=congrArg (fun l=>l[0]?) hl;simpa using this
   rw[Bt,this];rfl
  have Z:ops.toList.drop (i+1)=x:=by
   have:=congrArg List.tail hl;simpa using this
  have Q:∀(v:Value) (a':Act),wpQuiet P ops C (HQ ds n x (BG n e o.dst v) K) x a'->wpQuiet P ops C (HQ ds n (o::x) e K) x a':=
   fun v a' hh=>Ik (fun a ⟨e',h1,h2,h3⟩=>⟨e',h1,fun j hj=>by
    rw [h2 j (fun o' ak=>hj o' (by simp [ak]))];exact Gm (hj o (by simp)),h3⟩) x a' hh
  simp only[JY] at h;cases O:Ek o.dst kn ops.toList with
  |true=>simp only[O,cond_true] at h
  |false=>
   simp only[O,cond_false] at h;have Lf:∀B,(∀v,DJ ops.toList B (BG n e o.dst v))->YS P ok C o (ev e) (fun v=>JY P ok n C ops.toList K w x (i+1) B (BG n e o.dst v)) w->
     o.quiet P a C (wpQuiet P ops C (HQ ds n (o::x) e K) x):=by
    intro B hk X;exact Rb a7 V X fun v S=>Q v _ (ih (i+1) B _ _ Z (hk v) (V.put o.dst v) S)
   have y:∀B,DJ ops.toList B (BG n e o.dst undef)->JY P ok n C ops.toList K w x (i+1) ((i,none)::B) (BG n e o.dst undef)->
     wpQuiet P ops C (HQ ds n (o::x) e K) x (a.put o.dst undef):=by
    intro B hk X;refine Q undef _ (ih (i+1) _ _ _ Z (hk.cons ?_) (V.put o.dst undef) X);unfold yv;rw[a8];cases hd:o.dst with
    |none=>rfl
    |some d=>
     have:=(V.put o.dst undef).get d;rw[hd] at this;show bv (BG n e (some d) undef d)=none;rw[<-this];by_cases a1:d<a.tmps.size
     .simp[Act.put,a1];rfl
     .simp[Act.put,a1];rfl
   have hy:=fun j=>FG (n:=n) V (ops:=ops) (j:=j);unfold wpQuiet;cases hg:o.guard with
   |none=>
    simp only[hg] at h;rw[if_pos (by simp[Region.wanted,hg])];exact Lf kn (fun v=>J.put O v) h
   |some g=>
    obtain⟨j,I⟩:=g;simp only[hg] at h;have hw:Region.wanted o (yielded ops a.tmps)=(yv ops.toList e j==some I):=by simp only[Region.wanted,hg,hy]
    rw[hw];cases Y:Cb kn j with
    |some b=>
     rw[J j b Y];simp only[Y] at h;cases b with
     |none=>
      simp only at h;rw[if_neg (by simp)];exact y kn (J.put O _) h
     |some b=>
      simp only[GN] at h;cases T:(b==I) with
      |true=>
       simp only[T,cond_true] at h;rw[if_pos (by simpa using T)];exact Lf kn (fun v=>J.put O v) h
      |false=>
       simp only[T,cond_false] at h;rw[if_neg (by simpa using T)];exact y kn (J.put O _) h
    |none=>
     simp only[Y] at h;cases hd:Bw ops.toList j with
     |none=>simp only[hd] at h
     |some d=>
      simp only[hd] at h;cases E:Ek o.dst ((j,none)::kn) ops.toList with
      |true=>simp only[E,cond_true] at h
      |false=>
       simp only[E,cond_false] at h;have a6:yv ops.toList e j=bv (e d):=by simp[yv,hd]
       have U:∀b,bv (e d)=b->∀v,DJ ops.toList ((j,b)::kn) (BG n e o.dst v):=fun b hb v=>
        (J.cons (a6.trans hb)).put (d:=o.dst) (by
         simp only[Ek] at E ⊢;cases al:o.dst with
         |none=>rfl
         | some t=>rw [al] at E;simpa [List.any_cons] using E) v
       rw[a6];rcases Dv h with⟨S,hb⟩|⟨S,hb⟩
       .rw[CS S] at hb;rw[S];cases I with
        |true=>
         simp only[cond_true] at hb;rw[if_pos (by rfl)];exact Lf _ (U _ (by rw[S];rfl)) hb
        |false=>
         simp only[cond_false] at hb;rw[if_neg (by simp[bv])];exact y _ (U _ (by rw[S];rfl) _) hb
       .rw[CS S] at hb;rw[S];cases I with
        |true=>
         simp only[cond_true] at hb;rw[if_neg (by simp[bv])];exact y _ (U _ (by rw[S];rfl) _) hb
        |false=>
         simp only[cond_false] at hb;rw[if_pos (by rfl)];exact Lf _ (U _ (by rw[S];rfl)) hb
theorem Up{ro:Option Nat}{m:Nat}{ops:Array Oper}{Q:Exit->Act->World->Prop}(O:¬LetsOut Q)(y:ro=none\/ops.toList.all TT=true):∀(l:List Nat) (a:Act) (w:World),wpOps P ops Q l a w->wpOpsIn (Wd ro) m P ops Q l a w:=by
 intro l;induction l with
 |nil=>intro a w h;exact h
 |cons i J j=>
  intro a w h;simp only[wpOps] at h;simp only[wpOpsIn];cases B:ops[i]? with
  |none=>simp only[B] at h ⊢;exact j _ _ h
  |some o=>
   simp only[B] at h ⊢;split
   .rename_i E;rw[if_pos E] at h;replace h:=h.resolve_right fun h=>O h.2
    refine⟨fun _ _=>trivial,?_⟩;have S:o.semAt ro a.eval=execOp a.eval o:=by
     rcases y with rfl|y
     .rfl
     .refine Oper.semAt_eq _ _ _ fun c hc=>?_;have:=List.all_eq_true.1 y o (by rw[Array.mem_toList_iff];exact Array.mem_of_getElem? B);simp[TT,hc] at this
    rw[show(Wd ro).round=ro from rfl,S];unfold Oper.wp at h;generalize (execOp a.eval o).run P w=r at h ⊢;match r,h with
    |.ok (.value v) w',h=>exact j _ _ h
    |.ok .skip w',h=>exact j _ _ h
    |.ok (.defer d) w',h=>exact j _ _ h
    |.ok (.enter f args) w',h=>
     refine⟨(fun h=>by cases h),(callsIn_wide.2 (Calls.mono h fun e x I=>?_):CallsIn Fence.wide _ _ _ _ _ _)⟩;cases e with
     |returned v=>exact j _ _ I
     |panicked U=>exact I
     |outgrown=>exact I
    |.ok (.row row args) w',h=>
     refine⟨(fun h=>by cases h),?_⟩;intro c cs _;obtain⟨v,x,h1,T⟩:=h c cs;exact⟨v,x,j _ _ h1,(StepsIn.of_steps T).mono fun m _=>fenced_wide P m⟩
    |.halt (.panic v) w',h=>exact h
   .rename_i E;rw[if_neg E] at h;exact⟨fun _ _=>trivial,j _ _ h⟩
theorem Ie{ro:Option Nat}{m:Nat}{id:Nat}{ops:Array Oper}{Q:Exit->Act->World->Prop}{a:Act}{w:World}(hm:P.follows .mixedOrders=true)(i:¬LetsOut Q)(j:ro=none\/ops.toList.all TT=true)
 (h:wpAny P .any ops Q ops.size (Array.replicate ops.size false) a { w with drawn:=w.drawn+1 }):(Code.region id ops true).wpIn (Wd ro) m P Q a w:=
 wpIn_region_draw fun t=>Up i j _ _ _ (by
  simp only [Region.schedule,hm,Bool.true_or,if_true];exact wpAny_sound ops.size t _ a _ h)
theorem HJ{ds:List Deferred}{all:List Oper}{e0:Env}{K:Env->World->Prop}:¬LetsOut (Ch ds all n e0 K):=by
 rintro⟨a,w,h,_⟩;cases h
theorem PO{ds:List Deferred}{L:List Nat}{e:Env}{a:Act}(i:Fr ds n e a):L.map (fun t=>a.tmps.getD t undef)=L.map e:=List.map_congr_left fun t _=>i.get t
theorem I9{ds:List Deferred}{ro:Option Nat}{m:Nat}(a6:CC P ok)(hm:P.follows .mixedOrders=true):∀(c:Code) (an:Pb) (Q:EQ) (e:Env) (w:World) (a:Act),ro=none\/KO c=true->Fr ds n e a->D P ok n c an Q e w->c.wpIn (Wd ro) m P (lift n ds c e Q) a w:=by
 intro c;induction c with
 |skip=>intro an Q e w a B S h;exact wpIn_skip ⟨e,S,fun _ _=>rfl,h⟩
 |exit id=>intro an Q e w a B S h;exact wpIn_exit ⟨e,S,fun _ _=>rfl,h⟩
 |ret=>intro an Q e w a B S h;exact wpIn_ret ⟨e,S,fun _ _=>rfl,h⟩
 |label l=>intro an Q e w a B S h;exact wpIn_label ⟨e,S,fun _ _=>rfl,h⟩
 |goto l=>intro an Q e w a B S h;exact h.elim
 |refuse y=>intro an Q e w a B S h;exact h.elim
 |scope x ih=>
  intro an Q e w a B S h;obtain rfl:ro=none:=B.resolve_right (by simp[KO]);refine(wpIn_wide (n:=m)).2 (wp_scope_straight (wp_mono ((wpIn_wide (n:=m)).1 (ih an (eO Q) e w a (.inl rfl) S h)) ?_));rintro ex T w' ⟨e',h1,O,J⟩;cases ex with
  |goto l=>exact J.elim
  |normal=>exact⟨e',h1,fun j E=>O j E,J⟩
  |exit i=>exact⟨e',h1,fun j E=>O j E,J⟩
  |ret=>exact⟨e',h1,fun j E=>O j E,J⟩
  |panic c=>exact⟨e',h1,fun j E=>O j E,J⟩
  |outgrown=>exact⟨e',h1,fun j E=>O j E,J⟩
 |rangeFunc f ps x y b4 b5=>intro an Q e w a B S h;exact h.elim
 |region id ops draw=>
  intro an Q e w a B S h;simp only[D] at h;cases draw with
  |false=>
   refine wpIn_region_list (Hz ?_ _ _ _ (QW a6 ops.toList 0 [] e w a rfl (fun j b hb=>by simp[Cb] at hb) S h));rintro ex T w' ⟨rfl,e',h1,O,J⟩;exact⟨e',h1,fun j E=>O j (fun o ho hd=>E ⟨o,ho,hd⟩),J⟩
  |true=>
   simp only at h;have hD:ro=none\/ops.toList.all TT=true:=B.imp (fun h=>h) fun h=>by simpa[KO] using h
   cases an with
   |draw=>
    simp only at h;cases U:Region.lexB .any ops with
    |false=>rw[U] at h;exact h.elim
    |true=>
     rw [U] at h;simp only [cond_true] at h;obtain ⟨C,hC,h⟩:=h;simp only [Region.lexB,Bool.and_eq_true] at U;have:=Py a6 ops.toList 0 [] e a rfl (fun j b hb=>by simp [Cb] at hb) S h;refine wpIn_mono (Q:=fun ex T w'=>ex=.normal/\lift n ds (.region id ops true) e Q .normal T w') (Ie hm (fun ⟨_,_,h,_⟩=>by cases h) hD ?_) (by rintro ex T w' ⟨rfl,h⟩;exact h);refine wpAny_of_quiet (Q:=fun T=>∀ w',C w'->lift n ds (.region id ops true) e Q .normal T w') (fun _ w' X h=>⟨rfl,h w' X⟩) _ _ _ _ hC ?_;have h9:=wpAnyQ_lex (C:=C) (md:=.any) U.1 ops.toList 0 (Array.replicate ops.size false) a (by simp) (by simpa using U.2) (Ik (Q':=fun T=>∀ w',C w'->lift n ds (.region id ops true) e Q .normal T w') (by
      rintro T ⟨e',h1,O,J⟩ w' X;exact ⟨e',h1,fun j E=>O j (fun o ho hd=>E ⟨o,ho,hd⟩),J w' X⟩) _ _ this)
     simpa using h9
   |dg AP AN Gs=>
    simp only at h;cases U:K1 n ops.toList AP AN Gs with
    |false=>rw[U] at h;exact h.elim
    |true=>
     rw[U] at h;simp only[cond_true] at h;refine wpIn_mono (Ie hm HJ hD (Np (K:=fun e w=>Q .normal e w) a6 hm S U h)) ?_;rintro ex T w' ⟨rfl,e',h1,O,J⟩;exact⟨e',h1,fun j E=>O j (fun o ho hd=>E ⟨o,ho,hd⟩),J⟩
   |dc AP AN Gs=>
    simp only at h;cases U:(K1 n ops.toList AP AN Gs&&KT AP AN) with
    |false=>rw[U] at h;exact h.elim
    |true=>
     rw[U] at h;simp only[cond_true] at h;simp only[Bool.and_eq_true] at U;refine wpIn_mono (Ie hm HJ hD (PK (K:=fun e w=>Q .normal e w) a6 hm S U.1 U.2 h)) ?_;rintro ex T w' ⟨rfl,e',h1,O,J⟩;exact⟨e',h1,fun j E=>O j (fun o ho hd=>E ⟨o,ho,hd⟩),J⟩
   |dt AP AN Gs t=>
    simp only at h;cases U:(K1 n ops.toList AP AN Gs&&RF ops.toList.length AP AN t) with
    |false=>rw[U] at h;exact h.elim
    |true=>
     rw[U] at h;simp only[cond_true] at h;simp only[Bool.and_eq_true] at U;refine wpIn_mono (Ie hm HJ hD (Oy (K:=fun e w=>Q .normal e w) a6 hm S U.1 U.2 h)) ?_;rintro ex T w' ⟨rfl,e',h1,O,J⟩;exact⟨e',h1,fun j E=>O j (fun o ho hd=>E ⟨o,ho,hd⟩),J⟩
   |_=>exact h.elim
 |cond c x y a8 ak=>
  intro an Q e w a B S h;cases an with
  |nil=>exact h.elim
  |cut=>exact h.elim
  |draw=>exact h.elim
  |dg=>exact h.elim
  |dc=>exact h.elim
  |dt=>exact h.elim
  |node L W Y Z=>
   have ax:a.eval c=ev e c:=by rw[S.eval]
   rcases Dv h with⟨hv,hb⟩|⟨hv,hb⟩
   .refine wpIn_cond_true (ax.trans hv) (wpIn_mono (a8 Y Q e w a (B.imp id fun h=>by simp only[KO,Bool.and_eq_true] at h;exact h.1) S hb) ?_);rintro ex T w' ⟨e',h1,O,J⟩;exact⟨e',h1,fun j E=>O j (fun V=>E (.inl V)),J⟩
   .refine wpIn_cond_false (ax.trans hv) (wpIn_mono (ak Z Q e w a (B.imp id fun h=>by simp only[KO,Bool.and_eq_true] at h;exact h.2) S hb) ?_);rintro ex T w' ⟨e',h1,O,J⟩;exact⟨e',h1,fun j E=>O j (fun V=>E (.inr V)),J⟩
 |block id x ih=>
  intro an Q e w a B S h;refine wpIn_block (wpIn_mono (ih an (dQ id Q) e w a B S h) ?_);rintro ex T w' ⟨e',h1,O,J⟩;cases ex with
  |exit i=>
   simp only[dQ] at J;simp only[Exit.inBlock];cases hb:Nat.beq i id with
   |true=>rw[hb] at J;rw[if_pos (Nat.eq_of_beq_eq_true hb)];exact⟨e',h1,O,J⟩
   |false=>
    rw[hb] at J;rw[if_neg (by intro e1;subst e1;simp at hb)];exact⟨e',h1,O,J⟩
  |_=>exact⟨e',h1,O,J⟩
 |seq x y a8 ak=>
  intro an Q e w a B S h;have al:∀{e1 e2:Env},(∀j,¬Wr x j->e1 j=e j)->(∀j,¬Wr y j->e2 j=e1 j)->∀j,¬Wr (.seq x y) j->e2 j=e j:=fun h1 O j E=>
   (O j fun V=>E (.inr V)).trans (h1 j fun V=>E (.inl V))
  have a7:∀{e1:Env},(∀j,¬Wr x j->e1 j=e j)->∀j,¬Wr (.seq x y) j->e1 j=e j:=fun h1 j E=>h1 j fun V=>E (.inl V);cases an with
  |nil=>exact h.elim
  |draw=>exact h.elim
  |dg=>exact h.elim
  |dc=>exact h.elim
  |dt=>exact h.elim
  |node L W Y Z=>
   refine wpIn_seq (wpIn_mono (a8 Y _ e w a (B.imp id fun h=>by simp only[KO,Bool.and_eq_true] at h;exact h.1) S h) ?_);rintro ex T w' ⟨e',h1,O,J⟩;cases ex with
   |normal=>
    refine wpIn_mono (ak Z Q e' w' T (B.imp id fun h=>by simp only[KO,Bool.and_eq_true] at h;exact h.2) h1 J) ?_;rintro ex b1 b2 ⟨av,h4,h5,h6⟩;exact⟨av,h4,al O h5,h6⟩
   |_=>exact⟨e',h1,a7 O,J⟩
  |cut L W Y Z=>
   simp only[D] at h;cases V:Hs W x with
   |false=>simp only[V,cond_false] at h
   |true=>
    simp only[V,cond_true] at h;obtain⟨I,hI,hG⟩:=h;refine wpIn_seq (wpIn_mono (a8 Y _ e w a (B.imp id fun h=>by simp only[KO,Bool.and_eq_true] at h;exact h.1) S hG) ?_);rintro ex T w' ⟨e',h1,O,J⟩;cases ex with
    |normal=>
     have h4:=hI _ _ J e';rw[Oh (fun j E=>O j fun X=>by rw[Da V j X] at E;cases E)] at h4;refine wpIn_mono (ak Z Q e' w' T (B.imp id fun h=>by simp only[KO,Bool.and_eq_true] at h;exact h.2) h1 h4) ?_;rintro ex b1 b2 ⟨av,h5,h6,h7⟩;exact⟨av,h5,al O h6,h7⟩
    |_=>exact⟨e',h1,a7 O,J⟩
 |loop x ih=>
  intro an Q e w a B S h;cases an with
  |nil=>exact h.elim
  |cut=>exact h.elim
  |draw=>exact h.elim
  |dg=>exact h.elim
  |dc=>exact h.elim
  |dt=>exact h.elim
  |node L W Y Z=>
   simp only[D] at h;cases V:Hs W x with
   |false=>simp only[V,cond_false] at h
   |true=>
    simp only[V,cond_true] at h;obtain⟨I,μ,h0,hR⟩:=h;refine wpIn_loop (fun T w'=>∃e',Fr ds n e' T/\(∀j,¬Wr x j->e' j=e j)/\I (L.map e') w') (fun T w'=>μ (L.map fun t=>T.tmps.getD t undef) w') ⟨e,S,fun _ _=>rfl,h0⟩ ?_;rintro a1 w1 ⟨e1,ay,b0,b3⟩;have h4:=hR _ _ b3 e1;rw[Oh (fun j E=>b0 j fun X=>by rw[Da V j X] at E;cases E)] at h4;refine wpIn_mono (ih Y _ e1 w1 a1 B ay h4) ?_;rintro ex a2 w2 ⟨e2,h5,h6,h7⟩;have h8:∀j,¬Wr x j->e2 j=e j:=fun j E=>(h6 j E).trans (b0 j E);cases ex with
    |normal=>
     refine⟨⟨e2,h5,h8,h7.1⟩,?_⟩;rw[PO h5,PO ay];exact h7.2
    |_=>exact⟨e2,h5,h8,h7⟩
def J1(P:Program):List ResultVar->Env->World->(List Value->Prop)->Prop
 |[],_,_,K=>K []
 |.tmp t::r,e,w,K=>J1 P r e w fun vs=>K (e t::vs)
 |.cell a t::r,e,w,K=>match Gz P t with
  |some (false,_)=>AK (e a) (fun v w'=>J1 P r e w' fun vs=>K (v::vs)) w
  |some (true,k)=>Ac k (e a) (fun v w'=>J1 P r e w' fun vs=>K (v::vs)) w
  |none=>False
def P1:List Value->Value
 |[v]=>v
 |vs=>.tuple vs.toArray
def bR(P:Program)(rs:List ResultVar)(K:Cont):EQ:=fun ex e w=>match ex with
 |.normal=>J1 P rs e w fun vs=>K (P1 vs) w
 |.ret=>J1 P rs e w fun vs=>K (P1 vs) w
 |_=>False
def IG(f:Func):Code:=match f.body with|some c=>c|none=>.skip
theorem Uh{ds:List Deferred}{e:Env}{a:Act}{w:World}(B:Fr ds n e a)(f:ResultVar->Sem Value)(E:∀t,f (.tmp t)=pure (a.tmps.getD t undef))(I:∀x t,f (.cell x t)=(do loadVar t (<- asAddr (a.tmps.getD x undef)))):∀(rs:List ResultVar) (K:List Value->Prop),J1 P rs e w K->
  ∃vs,(rs.mapM f:Sem (List Value)).run P w=.ok vs w/\K vs:=by
 intro rs;induction rs with
 |nil=>intro K h;exact⟨[],by simp,h⟩
 |cons r rs J=>
  intro K h;cases r with
  |tmp t=>
   obtain⟨vs,h1,j⟩:=J _ h;refine⟨_,?_,j⟩;rw[List.mapM_cons];rw[Sem.run_bind,E];simp only[Sem.run_pure,Result.andThen_ok];rw[Sem.run_bind,h1];simp only[Result.andThen_ok,Sem.run_pure,B.get]
  |cell x t=>
   simp only[J1] at h;have key:∀v,(loadVar t ·:Addr->Sem Value)=(loadVar t ·)->J1 P rs e w (fun vs=>K (v::vs))->(do loadVar t (<- asAddr (a.tmps.getD x undef)):Sem Value).run P w=.ok v w->
     ∃vs,((ResultVar.cell x t::rs).mapM f:Sem (List Value)).run P w=.ok vs w/\K vs:=by
    intro v _ y O;obtain⟨vs,h1,j⟩:=J _ y;refine⟨_,?_,j⟩;rw[List.mapM_cons];rw[Sem.run_bind,I,O];simp only[Result.andThen_ok];rw[Sem.run_bind,h1];simp only[Result.andThen_ok,Sem.run_pure]
   split at h
   .rename_i k ha;obtain⟨p,v,h1,j,y⟩:=h;refine key v rfl y ?_;have o:a.tmps.getD x undef=.pointer (some p):=(B.get x).trans h1;rw[Sem.run_bind,o];simp only[asAddr,Sem.run_pure,Result.andThen_ok];simp[loadVar,(EF ha w).1,j]
   .rename_i k ha;obtain⟨p,vs,h1,hl,j,y⟩:=h;refine key _ rfl y ?_;have o:a.tmps.getD x undef=.pointer (some p):=(B.get x).trans h1;rw[Sem.run_bind,o];simp only[asAddr,Sem.run_pure,Result.andThen_ok];have i:=run_loadCells_list (P:=P) (w:=w) p vs j;simp only[loadVar,Sem.run_bind,(EF ha w).1,(EF ha w).2,Result.andThen_ok,if_true];rw[<-hl,i];rfl
   .exact h.elim
theorem Fm{ds:List Deferred}{fn:Func}{e:Env}{a:Act}{w:World}{K:Cont}(i:Fr ds n e a)(h:J1 P fn.results.toList e w fun vs=>K (P1 vs) w) :
  ∃v,(results fn a.tmps).run P w=.ok v w/\K v w:=by
 obtain⟨vs,h1,j⟩:=Uh i (fun x=>match x with|.tmp t=>pure (a.tmps.getD t undef)|.cell y t=>do loadVar t (<- asAddr (a.tmps.getD y undef))) (fun _=>rfl) (fun _ _=>rfl) _ _ h;refine⟨_,?_,j⟩;unfold results;rw[Sem.run_bind,Array.mapM_eq_mapM_toList,Sem.run_map]
 erw [h1]
 simp only[Result.andThen_ok,Sem.run_pure];congr 1
 match vs with
 |[]=>rfl
 |[v]=>rfl
 |v::u::r=>simp[P1]
theorem Qk{args:List Value}{m:Nat}(x:args.length<=m):Fr [] m (nth args) { tmps:=args.toArray++Array.replicate (m-args.toArray.size) undef,defers:=[] }:=by
 have i:∀(l:List Value) (t:Nat),nth l t=l.getD t undef:=by
  intro l;induction l with
  |nil=>
   intro t;induction t with
   |zero=>rfl
   |succ t o=>simpa[nth] using o
  |cons v l o=>intro t;cases t with
   |zero=>simp[nth]
   |succ t=>simp[nth,o]
 refine⟨by simp;omega,fun t=>?_,rfl⟩;rw[i];simp only[Array.getD_eq_getD_getElem?,Array.getElem?_append,List.size_toArray,List.getElem?_toArray,List.getD_eq_getElem?_getD];split
 .rfl
 .rename_i y;rw[List.getElem?_eq_none (by omega)];cases j:(Array.replicate (m-args.length) undef)[t-args.length]? with
  |none=>rfl
  |some v=>
   rw[Array.getElem?_replicate] at j;split at j
   .cases j;rfl
   .cases j
theorem Ty{g:Nat}{fn:Func}{c:Code}{rs:List ResultVar}{args:List Value}{K:Cont}{w:World}{an:Pb}(i:CC P ok)(hm:P.follows .mixedOrders=true)(I:P.funcs[g]?=some fn)
 (hb:fn.body=some c)(J:fn.ntmps=n)(j:fn.results.toList=rs)(hl:Nat.ble args.length n=true)(h:D P ok n c an (bR P rs K) (nth args) w):AB P g args K w:=by
 refine calls_of_wp I hb ?_;have o:=Nat.le_of_ble_eq_true hl;subst J;have x:=Qk o;refine wp_mono ((wpIn_wide (n:=0)).1 (I9 (ds:=[]) (ro:=none) (m:=0) i hm c an _ _ w _ (.inl rfl) x h)) ?_;rintro ex O w' ⟨e',h1,_,y⟩;subst j;cases ex with
 |normal=>
  obtain⟨v,B,E⟩:=Fm h1 y;exact⟨h1.defers,v,B,v,rfl,E⟩
 |ret=>
  obtain⟨v,B,E⟩:=Fm h1 y;exact⟨h1.defers,v,B,v,rfl,E⟩
 |_=>exact y.elim
attribute [irreducible] D
end Go.K
namespace Go.Proofs.YtmdhibffnkhcnaaGreatDoor
open Go Go.K Proofs.Tryz
def eM:List Nat:=[2,3,4,5,6,7,8,9,10,11,12,13,14,15,16,17,18,19,20,21,22,23,24,25,26,27,28,29,30,31,32,33,34,35,36,37,38,39,40,41,42,43,44,45,46,47,48,49,50,51,52,53,54,55,56,57,58,59,60,61,62,63,64,65,66,67,68,69,70,71,72,73,74,75,76,77,78,79,80,81,82,83,84,85,86,87,88,89,90,91,92,93,94,95,96,97,98,99,100,101,102,103,104,105,106,107,108,109,110,111,112,113,114,115,116,117,118,119,120,121,122,123,124,125,126,127,128,129,130,131,132,133,134,135,136,137,138,139,140,141,142,143,144,145,146,147,148,149,150,151,152,153,154,155,156,157,158,159,160,161,162,163,164,165,166,167,168,169,170,171,172,173,174,175,176,177,178,179,180,181,182,183,184,185,186,187,188,189,190,191,192,193,194,195,196,197,198,199,200,201,202,203,204,205,206,207,208,209,210,211,212,213,214,215,216,217,218,219,220,221,222,223,224,225,226,227,228,229,230,231,232,233,234,235,236,237,238,239,240,241,242,243,244,245,246,247,248,249,250,251,252,253,254,255,256,258,259,260,261,262,263,264,265,266,267,268,269,270,271,272,273,274,275,276,277,278,279,280,281,282,283,284,286,287,288,289,290,291,292,293,294,295,296,297,298,299,300,337]
def DH(g:Nat):Bool:=eM.any fun x=>Nat.beq x g
theorem mixed:prog.follows .mixedOrders=true:=by kernel_rfl
set_option maxRecDepth 100000 in
theorem cz:∀g∈eM,∀args w,(callFunc g args).run prog w=.ok (.enter g args) w:=by
 unfold eM;simp only[List.forall_mem_cons];exact⟨call2,call3,call4,call5,call6,call7,call8,call9,call10,call11,call12,call13,call14,call15,call16,call17,call18,call19,call20,call21,call22,call23,call24,call25,call26,call27,call28,call29,call30,call31,call32,call33,call34,call35,call36,call37,call38,call39,call40,call41,call42,call43,call44,call45,call46,call47,call48,call49,call50,call51,call52,call53,call54,call55,call56,call57,call58,call59,call60,call61,call62,call63,call64,call65,call66,call67,call68,call69,call70,call71,call72,call73,call74,call75,call76,call77,call78,call79,call80,call81,call82,call83,call84,call85,call86,call87,call88,call89,call90,call91,call92,call93,call94,call95,call96,call97,call98,call99,call100,call101,call102,call103,call104,call105,call106,call107,call108,call109,call110,call111,call112,call113,call114,call115,call116,call117,call118,call119,call120,call121,call122,call123,call124,call125,call126,call127,call128,call129,call130,call131,call132,call133,call134,call135,call136,call137,call138,call139,call140,call141,call142,call143,call144,call145,call146,call147,call148,call149,call150,call151,call152,call153,call154,call155,call156,call157,call158,call159,call160,call161,call162,call163,call164,call165,call166,call167,call168,call169,call170,call171,call172,call173,call174,call175,call176,call177,call178,call179,call180,call181,call182,call183,call184,call185,call186,call187,call188,call189,call190,call191,call192,call193,call194,call195,call196,call197,call198,call199,call200,call201,call202,call203,call204,call205,call206,call207,call208,call209,call210,call211,call212,call213,call214,call215,call216,call217,call218,call219,call220,call221,call222,call223,call224,call225,call226,call227,call228,call229,call230,call231,call232,call233,call234,call235,call236,call237,call238,call239,call240,call241,call242,call243,call244,call245,call246,call247,call248,call249,call250,call251,call252,call253,call254,call255,call256,call258,call259,call260,call261,call262,call263,call264,call265,call266,call267,call268,call269,call270,call271,call272,call273,call274,call275,call276,call277,call278,call279,call280,call281,call282,call283,call284,call286,call287,call288,call289,call290,call291,call292,call293,call294,call295,call296,call297,call298,call299,call300,call337,fun g i=>nomatch i⟩
theorem FR:CC prog DH:=by
 intro g i;simp only[DH,List.any_eq_true] at i;obtain⟨x,j,hb⟩:=i;have:=Nat.eq_of_beq_eq_true hb;subst this;exact cz x j
end Go.Proofs.YtmdhibffnkhcnaaGreatDoor
namespace Go.K
open Go
section
variable {P:Program}{ok:Nat->Bool}{K:Cont}{k:Value->Prop}{w:World}
theorem Q8(b:Bool)(A B:Prop):AD (.bool b) A B=if b=true then A else B:=by cases b<;>simp[AD]
theorem XZ(p:Prop)[Decidable p](A B:Prop):AD (.bool (decide p)) A B=if p then A else B:=by
 rw[Q8];by_cases h:p<;>simp[h]
theorem V9(b:Bool)(x y:Value):K6 (.bool b) x y k=k (if b=true then x else y):=by cases b<;>simp[K6]
theorem AR(q:IntKind)(a b:Int):AX q (.int q a) (.int q b) k=k (.int q (q.wrap (a+b))):=propext ⟨fun⟨_,_,h1,i,h⟩=>by cases h1;cases i;exact h,fun h=>⟨_,_,rfl,rfl,h⟩⟩
theorem Av(q:IntKind)(a b:Int):BW q (.int q a) (.int q b) k=k (.int q (q.wrap (a-b))):=propext ⟨fun⟨_,_,h1,i,h⟩=>by cases h1;cases i;exact h,fun h=>⟨_,_,rfl,rfl,h⟩⟩
theorem bP(q:IntKind)(a b:Int):ZO q (.int q a) (.int q b) k=k (.int q (q.wrap (a*b))):=propext ⟨fun⟨_,_,h1,i,h⟩=>by cases h1;cases i;exact h,fun h=>⟨_,_,rfl,rfl,h⟩⟩
theorem A6(q:IntKind)(a b:Int):Bf q (.int q a) (.int q b) k=k (.bool (decide (a<b))):=propext ⟨fun⟨_,_,h1,i,h⟩=>by cases h1;cases i;exact h,fun h=>⟨_,_,rfl,rfl,h⟩⟩
theorem Ha(q:IntKind)(a b:Int):QI q (.int q a) (.int q b) k=k (.bool (decide (a<=b))):=propext ⟨fun⟨_,_,h1,i,h⟩=>by cases h1;cases i;exact h,fun h=>⟨_,_,rfl,rfl,h⟩⟩
theorem BJ(q:IntKind)(a b:Int):EU q (.int q a) (.int q b) k=k (.bool (decide (b<a))):=propext ⟨fun⟨_,_,h1,i,h⟩=>by cases h1;cases i;exact h,fun h=>⟨_,_,rfl,rfl,h⟩⟩
theorem Dq(q:IntKind)(a b:Int):KL q (.int q a) (.int q b) k=k (.bool (decide (b<=a))):=propext ⟨fun⟨_,_,h1,i,h⟩=>by cases h1;cases i;exact h,fun h=>⟨_,_,rfl,rfl,h⟩⟩
theorem Am(q:IntKind)(a b:Int):DK q (.int q a) (.int q b) k=k (.bool (decide (a=b))):=propext ⟨fun⟨_,_,h1,i,h⟩=>by cases h1;cases i;exact h,fun h=>⟨_,_,rfl,rfl,h⟩⟩
theorem Bh(q:IntKind)(a b:Int):Dx q (.int q a) (.int q b) k=k (.bool (!decide (a=b))):=propext ⟨fun⟨_,_,h1,i,h⟩=>by cases h1;cases i;exact h,fun h=>⟨_,_,rfl,rfl,h⟩⟩
theorem Gu(q:IntKind)(a b:Int):J3 q (.int q a) (.int q b) k=k (.int q (if b>a then b else a)):=propext ⟨fun⟨_,_,h1,i,h⟩=>by cases h1;cases i;exact h,fun h=>⟨_,_,rfl,rfl,h⟩⟩
theorem Gl(q:IntKind)(a b:Int):J8 q (.int q a) (.int q b) k=k (.int q (if b<a then b else a)):=propext ⟨fun⟨_,_,h1,i,h⟩=>by cases h1;cases i;exact h,fun h=>⟨_,_,rfl,rfl,h⟩⟩
theorem Zt(a b:Bool):Zn (.bool a) (.bool b) k=k (.bool (a==b)):=propext ⟨fun⟨_,_,h1,i,h⟩=>by cases h1;cases i;exact h,fun h=>⟨_,_,rfl,rfl,h⟩⟩
theorem Pf(a b:Bool):Tk (.bool a) (.bool b) k=k (.bool (!(a==b))):=propext ⟨fun⟨_,_,h1,i,h⟩=>by cases h1;cases i;exact h,fun h=>⟨_,_,rfl,rfl,h⟩⟩
theorem ah(a b:ByteArray):ZX (.string a) (.string b) k=k (.bool (decide (a=b))):=propext ⟨fun⟨_,_,h1,i,h⟩=>by cases h1;cases i;exact h,fun h=>⟨_,_,rfl,rfl,h⟩⟩
theorem aI(a b:ByteArray):bb (.string a) (.string b) k=k (.bool (!decide (a=b))):=propext ⟨fun⟨_,_,h1,i,h⟩=>by cases h1;cases i;exact h,fun h=>⟨_,_,rfl,rfl,h⟩⟩
theorem RK(a:Option Addr)(n c:Nat)(k:Bool->Prop):HA (.slice a n c) k=k a.isNone:=propext ⟨fun⟨_,_,_,h1,h⟩=>by cases h1;exact h,fun h=>⟨_,_,_,rfl,h⟩⟩
theorem WR(a:Option Addr)(k:Bool->Prop):CY (.pointer a) k=k a.isNone:=propext ⟨fun⟨_,h1,h⟩=>by cases h1;exact h,fun h=>⟨_,rfl,h⟩⟩
theorem Ap(a:Bool):Bs (.bool a) k=k (.bool (!a)):=propext ⟨fun⟨_,h1,h⟩=>by cases h1;exact h,fun h=>⟨_,rfl,h⟩⟩
theorem AS(a:Option Addr)(n c:Nat):Aj (.slice a n c) k=k (.int .i64 n):=propext ⟨fun⟨_,_,_,h1,h⟩=>by cases h1;exact h,fun h=>⟨_,_,_,rfl,h⟩⟩
theorem KG(s:ByteArray):Kz (.string s) k=k (.int .i64 s.size):=propext ⟨fun⟨_,h1,h⟩=>by cases h1;exact h,fun h=>⟨_,rfl,h⟩⟩
theorem U4(a:Addr):AJ (.pointer (some a)) k=k (.pointer (some a)):=propext ⟨fun⟨_,h1,h⟩=>by cases h1;exact h,fun h=>⟨_,rfl,h⟩⟩
theorem AG(off:Nat)(a:Addr):AM off (.pointer (some a)) k=k (.pointer (some (a.add off))):=propext ⟨fun⟨_,h1,h⟩=>by cases h1;exact h,fun h=>⟨_,rfl,h⟩⟩
theorem CR(vs:List Value):nth vs 0=vs.headD undef:=rfl
theorem VA(vs:List Value)(k:Nat):nth vs (k+1)=nth vs.tail k:=rfl
theorem Addr.add_add(a:Addr)(x y:Nat):(a.add x).add y=a.add (x+y):=by
 unfold Addr.add;split<;>split<;>simp_all<;>omega
theorem AY{s:Nat}{a:Addr}{n c:Nat}{q:IntKind}{j:Nat}(h1:j<n)(h:k (.pointer (some (a.add (j*s))))):Be s (.slice (some a) n c) (.int q (j:Int)) k:=
 ⟨_,_,_,_,_,rfl,rfl,by omega,by omega,by simpa using h⟩
theorem AL{a:Addr}{v:Value}(hc:w.cell? a=some v)(h:K v w):AK (.pointer (some a)) K w:=⟨a,v,rfl,hc,h⟩
theorem Ah{n:Nat}{a:Addr}{vs:List Value}(hl:vs.length=n)(hc:∀j v,vs[j]?=some v->w.cell? (a.add j)=some v)(h:K (.agg vs.toArray) w):Ac n (.pointer (some a)) K w:=⟨a,vs,rfl,hl,hc,h⟩
theorem As{C:World->Prop}{a:Addr}{v:Value}(hc:∀w,C w->w.cell? a=some v)(h:k v):BK C (.pointer (some a)) k:=⟨a,v,rfl,hc,h⟩
theorem Gt{C:World->Prop}{n:Nat}{a:Addr}{vs:List Value}(hl:vs.length=n)(hc:∀w,C w->∀j v,vs[j]?=some v->w.cell? (a.add j)=some v)(h:k (.agg vs.toArray)):JI C n (.pointer (some a)) k:=⟨a,vs,rfl,hl,hc,h⟩
theorem Je{a:Addr}{v u:Value}{K:World->Prop}(h1:v.oneCell'=true)(i:v.cells=#[v])(hc:w.cell? a=some u)(j:w.frozen? a=false)(h:K (w.setCell a v)):BB (.pointer (some a)) v K w:=⟨a,u,rfl,h1,i,hc,j,h⟩
theorem CJ{i:Nat}{vs:List Value}{v:Value}(j:vs[i]?=some v)(h:k v):AO i (.tuple vs.toArray) k:=⟨vs,v,rfl,j,h⟩
theorem AU{R:List Value->World->Prop}{G:(List Value->World->Prop)->Prop}(I:List Value->World->Prop)(h1:∀vs w,I vs w->R vs w)(i:G I):Aq R G:=⟨I,h1,i⟩
theorem Ae{i:List Value}{F:List Value->(List Value->World->Prop)->World->Prop}(I:List Value->World->Prop)(μ:List Value->World->Nat)(h0:I i w)(h:∀vs w,I vs w->F vs (fun j w'=>I j w'/\μ j w'<μ vs w) w):Ay i F w:=⟨I,μ,h0,h⟩
theorem AA{g:Nat}{args:List Value}{i:Cont}(h:AB P g args K w)(hk:∀v w',K v w'->i v w'):AB P g args i w:=
 Calls.mono h fun _ _ ⟨v,h1,j⟩=>⟨v,h1,hk _ _ j⟩
theorem Ai{s:Sem Value}{v:Value}{w':World}(h1:s.run P w=.ok v w')(h:K v w'):runK P s K w:=⟨v,w',h1,h⟩
theorem Pg{t:TypeId}{cs:List Value}(h:K (.pointer (some ⟨w.heap.size,0,none⟩)) (w.alloc (.cells cs.toArray t))):Al t cs K w:=h
theorem wrap64{x:Int}(h0:-9223372036854775808<=x)(h1:x<=9223372036854775807):IntKind.i64.wrap x=x:=by
 have i:(2:Int) ^ IntKind.i64.bits=18446744073709551616:=by decide
 have j:(2:Int) ^ (IntKind.i64.bits-1)=9223372036854775808:=by decide
 simp only[IntKind.wrap,i,j,IntKind.signed,Bool.true_and,decide_eq_true_eq];split<;>omega
theorem T4(w:World)(t:TypeId):∀(vs done j:List Value),j.length=vs.length->Dz (w.alloc (.cells (done++j).toArray t)) ⟨w.heap.size,0,none⟩ done.length vs=w.alloc (.cells (done++vs).toArray t):=by
 intro vs;induction vs with
 |nil=>intro done j hl;have:j=[]:=List.eq_nil_of_length_eq_zero hl;subst this;rfl
 |cons v vs E=>
  intro done j hl;cases j with
  |nil=>simp at hl
  |cons z j=>
   simp only[Dz];have h1:(w.alloc (.cells (done++z::j).toArray t)).setCell ((⟨w.heap.size,0,none⟩:Addr).add done.length) v=w.alloc (.cells ((done++[v])++j).toArray t):=by
    have o:(⟨w.heap.size,0,none⟩:Addr).add done.length=⟨w.heap.size,done.length,none⟩:=by unfold Addr.add;split<;>simp_all
    rw[o];simp only[World.setCell,World.alloc];congr 1
    rw[<-Array.toList_inj,Array.toList_modify];simp only[Array.toList_push];apply List.ext_getElem?;intro i;rw[List.getElem?_modify];by_cases x:w.heap.size=i
    .subst x;simp[List.getElem?_append,List.setIfInBounds_toArray]
    .rcases Nat.lt_or_gt_of_ne x with I|y
     .have J:¬i<w.heap.size:=by omega
      have B:¬i-w.heap.size=0:=by omega
      simp[x,List.getElem?_append,List.getElem?_singleton,J,B]
     .simp[x,List.getElem?_append,y]
   rw[h1];have:=E (done++[v]) j (by simpa using hl);simpa using this
theorem dK{t:TypeId}{o vs:List Value}{K:World->Prop}(hl:o.length=vs.length)(h1:∀v∈vs,v.oneCell'=true)(h:K (w.alloc (.cells vs.toArray t))) :
  Ab vs.length (.pointer (some ⟨w.heap.size,0,none⟩)) (.agg vs.toArray) K (w.alloc (.cells o.toArray t)):=by
 refine⟨_,vs,rfl,rfl,rfl,h1,fun j x=>?_,?_⟩
 .have i:(⟨w.heap.size,0,none⟩:Addr).add j=⟨w.heap.size,j,none⟩:=by unfold Addr.add;split<;>simp_all
  rw[i,World.cell?_alloc_new,World.frozen?_alloc_new];refine⟨?_,rfl⟩;have:j<o.length:=by omega
  simp[this]
 .have:=T4 w t vs [] o hl;simp only[List.nil_append,List.length_nil] at this;rw[this];exact h
end
theorem KS :
  (∀(b:Bool) (A B:Prop),AD (.bool b) A B=if b=true then A else B)/\
  (∀{p:Prop} [Decidable p],(decide p=true)=p)/\
  (∀{a b:Bool},((!a)=b)↔(a=!b))/\
  ((!true)=false)/\
  (∀{p:Prop} [Decidable p],decide p=false↔¬p)/\
  (∀{k:Value->Prop} (b:Bool) (x y:Value),K6 (.bool b) x y k=k (if b=true then x else y))/\
  (∀{k:Value->Prop} (q:IntKind) (a b:Int),AX q (.int q a) (.int q b) k=k (.int q (q.wrap (a+b))))/\
  (∀{k:Value->Prop} (q:IntKind) (a b:Int),BW q (.int q a) (.int q b) k=k (.int q (q.wrap (a-b))))/\
  (∀{k:Value->Prop} (q:IntKind) (a b:Int),ZO q (.int q a) (.int q b) k=k (.int q (q.wrap (a*b))))/\
  (∀{k:Value->Prop} (q:IntKind) (a b:Int),Bf q (.int q a) (.int q b) k=k (.bool (decide (a<b))))/\
  (∀{k:Value->Prop} (q:IntKind) (a b:Int),QI q (.int q a) (.int q b) k=k (.bool (decide (a<=b))))/\
  (∀{k:Value->Prop} (q:IntKind) (a b:Int),EU q (.int q a) (.int q b) k=k (.bool (decide (b<a))))/\
  (∀{k:Value->Prop} (q:IntKind) (a b:Int),KL q (.int q a) (.int q b) k=k (.bool (decide (b<=a))))/\
  (∀{k:Value->Prop} (q:IntKind) (a b:Int),DK q (.int q a) (.int q b) k=k (.bool (decide (a=b))))/\
  (∀{k:Value->Prop} (q:IntKind) (a b:Int),Dx q (.int q a) (.int q b) k=k (.bool (!decide (a=b))))/\
  (∀{k:Value->Prop} (q:IntKind) (a b:Int),J3 q (.int q a) (.int q b) k=k (.int q (if b>a then b else a)))/\
  (∀{k:Value->Prop} (q:IntKind) (a b:Int),J8 q (.int q a) (.int q b) k=k (.int q (if b<a then b else a)))/\
  (∀{k:Value->Prop} (a b:Bool),Zn (.bool a) (.bool b) k=k (.bool (a==b)))/\
  (∀{k:Value->Prop} (a b:Bool),Tk (.bool a) (.bool b) k=k (.bool (!(a==b))))/\
  (∀{k:Value->Prop} (a b:ByteArray),ZX (.string a) (.string b) k=k (.bool (decide (a=b))))/\
  (∀{k:Value->Prop} (a b:ByteArray),bb (.string a) (.string b) k=k (.bool (!decide (a=b))))/\
  (∀(a:Option Addr) (n c:Nat) (k:Bool->Prop),HA (.slice a n c) k=k a.isNone)/\
  (∀(a:Option Addr) (k:Bool->Prop),CY (.pointer a) k=k a.isNone)/\
  (∀{k:Value->Prop} (a:Bool),Bs (.bool a) k=k (.bool (!a)))/\
  (∀{k:Value->Prop} (a:Option Addr) (n c:Nat),Aj (.slice a n c) k=k (.int .i64 n))/\
  (∀{k:Value->Prop} (s:ByteArray),Kz (.string s) k=k (.int .i64 s.size))/\
  (∀{k:Value->Prop} (a:Addr),AJ (.pointer (some a)) k=k (.pointer (some a)))/\
  (∀{k:Value->Prop} (off:Nat) (a:Addr),AM off (.pointer (some a)) k=k (.pointer (some (a.add off))))/\
  (∀(a:Addr) (x y:Nat),(a.add x).add y=a.add (x+y))/\
  (∀(vs:List Value),nth vs 0=vs.headD undef)/\
  (∀(vs:List Value) (k:Nat),nth vs (k+1)=nth vs.tail k)/\
  (∀{a d:Value} {l:List Value},(a::l).headD d=a)/\
  (∀{a:Value} {l:List Value},(a::l).tail=l)/\
  ((none:Option Addr).isNone=true)/\
  (∀{a:Addr},(some a).isNone=false)/\
  ((false=true)=False)/\
  (∀{α:Type} {h:Decidable True} (t e:α),(@ite α True h t e)=t)/\
  (∀{α:Type} {h:Decidable False} (t e:α),(@ite α False h t e)=e):=
 ⟨@Q8,by simp,by intro a b;cases a<;>cases b<;>simp,by simp,by simp,@V9,@AR,@Av,@bP,@A6,@Ha,@BJ,@Dq,@Am,@Bh,@Gu,@Gl,@Zt,@Pf,@ah,@aI,@RK,@WR,@Ap,@AS,@KG,@U4,@AG,@Addr.add_add,@CR,@VA,by simp,by simp,by simp,by simp,by simp,by simp,by simp⟩
abbrev Grow(w w':World):Prop:=Mod (fun _=>False) w w'
theorem Grow.mod{M:Nat->Prop}{w w':World}(h:Grow w w'):Mod M w w':=Mod.mono h fun _ _ h=>h.elim
theorem Mod.below{w w':World}{B:Nat}{M:Nat->Prop}(h:Mod M w w')(j:B<=w.heap.size)(hm:∀b,M b->B<=b):RowKit.Below B w w':=
 ⟨h.os,h.tape,h.output,h.size,fun b hb=>h.same b (by omega) fun i=>by have:=hm b i;omega⟩
theorem Mod.drew(M:Nat->Prop)(w:World):Mod M w w.drew:=⟨rfl,rfl,rfl,Nat.le_refl _,fun _ _ _=>rfl⟩
theorem Mod.alloc(M:Nat->Prop)(w:World)(o:Obj):Mod M w (w.alloc o):=⟨rfl,rfl,rfl,by simp,fun b hb _=>RowKit.Below.heap_alloc w o b hb⟩
theorem Mod.setCell{M:Nat->Prop}(w:World)(a:Addr)(v:Value)(h:M a.block):Mod M w (w.setCell a v):=⟨rfl,rfl,rfl,by simp,fun b _ i=>RowKit.Below.heap_setCell w a v b fun e=>i (e▸h)⟩
theorem Mod.of_grownBy{w w':World}{row:Option Nat}(h:w.grownBy w' row):Mod (fun b=>row=some b) w w':=⟨h.os,h.tape,h.output,h.size,fun b hb i=>h.block b hb fun e=>i e.symm⟩
theorem Mod.cell{M:Nat->Prop}{w w':World}(h:Mod M w w'){a:Addr}{v:Value}(hc:w.cell? a=some v)(hm:¬M a.block):w'.cell? a=some v:=
 (World.cell?_of_block (h.same a.block (World.block_lt_of_cell? w a hc) hm)).trans hc
theorem Mod.frozen{M:Nat->Prop}{w w':World}(h:Mod M w w'){a:Addr}(hb:a.block<w.heap.size)(hm:¬M a.block):w'.frozen? a=w.frozen? a:=
 World.frozen?_of_block (h.same a.block hb hm)
def BH{α:Type}(S:Nat->Prop)(k:Nat)(R:World->List Value->α->Prop)(w:World)(v:Value)(l:List α):Prop:=
 ∃a c,v=.slice a l.length c/\l.length<=c/\c<=maxLen/\∀i x,l[i]?=some x->∃p r,a=some p/\S p.block/\r.length=k/\(∀j u,r[j]?=some u->w.cell? (p.add (i*k+j))=some u)/\R w r x
theorem BH.mono{α:Type}{S y:Nat->Prop}{k:Nat}{R R':World->List Value->α->Prop}{w w':World}{v:Value}{l:List α}(h:BH S k R w v l)
 (J:∀b,b<w.heap.size->S b->y b)(hb:∀b,b<w.heap.size->S b->w'.heap[b]?=w.heap[b]?)(hk:0<k)(O:∀r x,R w r x->R' w' r x):BH y k R' w' v l:=by
 obtain⟨a,c,h1,Q,T,U⟩:=h;refine⟨a,c,h1,Q,T,fun i x V=>?_⟩;obtain⟨p,r,X,B,E,I,Y⟩:=U i x V;have o:p.block<w.heap.size:=by
  cases r with
  |nil=>simp at E;omega
  |cons u r=>
   have:=World.block_lt_of_cell? w _ (I 0 u rfl);have e:(p.add (i*k+0)).block=p.block:=by unfold Addr.add;split<;>rfl
   rwa [e] at this
 refine⟨p,r,X,J _ o B,E,fun j u hu=>?_,O _ _ Y⟩;have e:(p.add (i*k+j)).block=p.block:=by unfold Addr.add;split<;>rfl
 rw[World.cell?_of_block (w:=w) (by rw[e];exact hb _ o B)];exact I j u hu
theorem BH.nil{α:Type}{S:Nat->Prop}{k:Nat}{R:World->List Value->α->Prop}{w:World}:BH S k R w (.slice none 0 0) []:=
 ⟨none,0,rfl,Nat.le_refl _,by simp[maxLen],fun i x j=>by simp at j⟩
def Dr(vs:List Value)(j:Nat):Nat:=match nth vs j with|.int _ n=>n.toNat|_=>0
theorem BH.get{α:Type}{S:Nat->Prop}{k:Nat}{R:World->List Value->α->Prop}{w:World}{a:Option Addr}{n c:Nat}{l:List α}(h:BH S k R w (.slice a n c) l){i:Nat}(o:i<l.length) :
  ∃p r,a=some p/\S p.block/\r.length=k/\(∀j u,r[j]?=some u->w.cell? (p.add (i*k+j))=some u)/\R w r l[i]:=by
 obtain⟨y,B,h1,E,I,x⟩:=h;cases h1;exact x i l[i] (by simp[o])
theorem BH.shape{α:Type}{S:Nat->Prop}{k:Nat}{R:World->List Value->α->Prop}{w:World}{v:Value}{l:List α}(h:BH S k R w v l):∃a c,v=.slice a l.length c/\l.length<=maxLen:=by
 obtain⟨i,j,h1,o,x,y⟩:=h;exact⟨i,j,h1,Nat.le_trans o x⟩
def AF{α:Type}(B e k:Nat)(R:World->List Value->α->Prop)(w:World)(v:Value)(l:List α):Prop:=
 ∃rows:List (List Value),w.ownsRow B e k v l.length rows.flatten/\rows.length=l.length/\(∀r∈rows,r.length=k/\∀u∈r,u.oneCell'=true)/\∀(i:Nat) (r:List Value) (x:α),rows[i]?=some r->l[i]?=some x->R w r x
theorem Ef{k:Nat}:∀(rows:List (List Value)),(∀r∈rows,r.length=k)->rows.flatten.length=rows.length*k:=by
 intro rows;induction rows with
 |nil=>intro _;simp
 |cons r rs i=>intro h;simp[i (fun r hr=>h r (by simp[hr])),h r (by simp),Nat.add_mul];omega
theorem HE{k:Nat}:∀(rows:List (List Value)) (i j:Nat) (r:List Value),(∀r∈rows,r.length=k)->rows[i]?=some r->j<k->rows.flatten[i*k+j]?=r[j]?:=by
 intro rows;induction rows with
 |nil=>intro i j r _ h;simp at h
 |cons y rs B=>
  intro i j r h o x;have h0:=h y (by simp);cases i with
  |zero=>simp at o;subst o;simp[List.getElem?_append,h0,x]
  |succ i=>
   have:=B i j r (fun r hr=>h r (by simp[hr])) (by simpa using o) x;rw[List.flatten_cons,List.getElem?_append_right (by rw[h0,Nat.add_mul];omega)];rw[<-this];congr 1;rw[h0,Nat.add_mul];omega
theorem N1{k:Nat}(hk:0<k):∀(rows:List (List Value)),(∀r∈rows,r.length=k)->∀(q:Nat) (u:Value),rows.flatten[q]?=some u->∃r,rows[q/k]?=some r/\r[q%k]?=some u:=by
 intro rows h q u hu;have hl:=Ef rows h;have i:q<rows.flatten.length:=(List.getElem?_eq_some_iff.1 hu).1;have h1:q/k<rows.length:=by rw[hl] at i;exact(Nat.div_lt_iff_lt_mul hk).2 i
 refine⟨rows[q/k],by simp[h1],?_⟩;rw[<-HE rows (q/k) (q%k) _ h (by simp[h1]) (Nat.mod_lt _ hk)];rw[Nat.div_add_mod' q k];exact hu
theorem AF.nil{α:Type}{B e k:Nat}{R:World->List Value->α->Prop}{w:World}:AF B e k R w (.slice none 0 0) []:=
 ⟨[],World.ownsRow_nil w B e k,rfl,by simp,by simp⟩
theorem AF.made{α:Type}{B e k:Nat}{R:World->List Value->α->Prop}{w:World}(i:B<=w.heap.size):AF B e k R (w.alloc (.cells #[] e)) (.slice (some ⟨w.heap.size,0,none⟩) 0 0) ([]:List α):=
 ⟨[],World.ownsRow_made w #[] 0 i (by simp[maxLen]) (by simp),rfl,by simp,by simp⟩
theorem AF.shape{α:Type}{B e k:Nat}{R:World->List Value->α->Prop}{w:World}{v:Value}{l:List α}(h:AF B e k R w v l) :
  ∃a c,v=.slice a l.length c/\l.length<=c/\c<=maxLen/\(∀p,a=some p->∃g,p=⟨g,0,none⟩/\B<=g/\g<w.heap.size/\v.ownBlock=some g)/\(a=none->l=[]):=by
 obtain⟨rows,h1,E,I,J⟩:=h;rcases h1.2 with⟨rfl,i⟩|⟨g,j,o,rfl,x,y,i,hm,_⟩
 .exact⟨none,0,by rw[i],by omega,by simp[maxLen],(fun p hp=>nomatch hp),fun _=>List.eq_nil_of_length_eq_zero i⟩
 .exact⟨some ⟨g,0,none⟩,j,rfl,i,hm,(fun p hp=>by cases hp;exact⟨g,rfl,x,(Array.getElem?_eq_some_iff.1 y).1,rfl⟩),(fun h=>nomatch h)⟩
theorem AF.sl{α:Type}{B e k:Nat}{R:World->List Value->α->Prop}{w:World}{v:Value}{l:List α}(h:AF B e k R w v l):BH (fun b=>B<=b/\v.ownBlock=some b) k R w v l:=by
 obtain⟨a,c,J,hc,hm,hp,O⟩:=h.shape;obtain⟨rows,h1,X,Q,S⟩:=h;refine⟨a,c,J,hc,hm,fun i x E=>?_⟩;have I:i<l.length:=(List.getElem?_eq_some_iff.1 E).1;cases a with
 |none=>rw[O rfl] at I;simp at I
 |some p=>
  obtain⟨g,rfl,T,U,y⟩:=hp p rfl;have hr:i<rows.length:=by omega
  have o:∀r∈rows,r.length=k:=fun r hr=>(Q r hr).1;refine⟨_,rows[i],rfl,⟨T,y⟩,o _ (by simp),fun j u hu=>?_,S i _ x (by simp[hr]) E⟩;have V:j<k:=by rw[<-o rows[i] (by simp)];exact(List.getElem?_eq_some_iff.1 hu).1
  refine h1.cells y _ u ?_;rw[HE rows i j rows[i] o (by simp[hr]) V];exact hu
theorem AF.mod{α:Type}{B e k:Nat}{R R':World->List Value->α->Prop}{w w':World}{v:Value}{l:List α}{M:Nat->Prop}(h:AF B e k R w v l)(hm:Mod M w w')(J:∀g,v.ownBlock=some g->¬M g)
 (O:∀r x,x∈l->R w r x->R' w' r x):AF B e k R' w' v l:=by
 obtain⟨rows,h1,Q,S,T⟩:=h;refine⟨rows,⟨h1.1,?_⟩,Q,S,fun i r x hr I=>O r x (List.mem_of_getElem? I) (T i r x hr I)⟩;rcases h1.2 with U|⟨g,y,E,rfl,hb,j,o⟩
 .exact .inl U
 .refine .inr ⟨g,y,E,rfl,hb,?_,o⟩;rw[hm.same g (Array.getElem?_eq_some_iff.1 j).1 (J g rfl)];exact j
def DE(P:Program)(t e size bytes:Nat):Prop:=∃i z,P.underlying t=some (.slice e)/\P.info? e=some i/\i.zero=some z/\i.size=size/\i.bytes=bytes/\z.cells.size=size/\0<size
theorem Lh{P:Program}{t ty B e k bytes:Nat}{w:World}{v:Value}{n:Nat}{xs:List Value}(hE:DE P t e k bytes)(x:w.ownsRow B e k v n xs)(a:Option Addr)(m c:Nat)(o:List Value)
 (hl:o.length=m*k)(ha:a=none->m=0)(O:∀p,a=some p->∀j u,o[j]?=some u->w.cell? (p.add j)=some u)(h1:∀u∈o,u.oneCell'=true)(Q:n+m<=maxLen)(J:(n+m)*bytes<=140737488355328)(hB:B<=w.heap.size) :
  ∃v' w',(Builtin.append_ #[t,t] ty #[v,.slice a m c]).run P w=.ok v' w'/\w'.ownsRow B e k v' (n+m) (xs++o)/\w.grownBy w' v.ownBlock/\(∀g,v'.ownBlock=some g->v.ownBlock=some g\/w.heap.size<=g):=by
 obtain⟨i,z,ht,hi,hz,rfl,rfl,Y,hk⟩:=hE;cases a with
 |none=>
  have hm:=ha rfl;subst hm;have:o=[]:=List.eq_nil_of_length_eq_zero (by simpa using hl);subst this;have a6:∃b s q,v=.slice b s q/\s<=q:=by
   rcases x.2 with⟨rfl,_⟩|⟨g,y,I,rfl,_,_,h,_⟩
   .exact⟨_,_,_,rfl,Nat.le_refl _⟩
   .exact⟨_,_,_,rfl,h⟩
  refine⟨v,w,?_,by simpa using x,⟨rfl,rfl,rfl,Nat.le_refl _,fun _ _ _=>rfl⟩,fun g V=>.inl V⟩;obtain⟨b,s,q,rfl,hq⟩:=a6;cases b<;>simp[Builtin.append_,run_underlying ht,sizeOf,typeInfo,hi,Builtin.lenOf,Builtin.firstCells,hq,storeCells]
 |some p=>
  have hn:=O p rfl;have a7:((n+m:Nat):Int)<=9223372036854775807:=by simp only[maxLen] at Q;omega
  rcases x.2 with⟨rfl,rfl⟩|⟨g,y,I,rfl,a8,V,an,ak,Z,S⟩
  .have T:w.ownsRow w.heap.size e i.size (.slice none 0 0) 0 xs:=⟨x.1,.inl ⟨rfl,rfl⟩⟩;obtain⟨v',w',r1,r2,r3,_⟩:=run_append_own (P:=P) w w.heap.size t ty e i z i.size i.bytes ht hi hz rfl rfl Y hk _ 0 xs T p m c o hl hn h1 Q J (Nat.le_refl _);refine⟨v',w',r1,⟨r2.1,?_⟩,r3,fun g V=>.inr (r2.lt g V).1⟩;rcases r2.2 with h|⟨g,y,I,q1,q2,q3⟩
   .exact .inl h
   .exact .inr ⟨g,y,I,q1,Nat.le_trans hB q2,q3⟩
  .by_cases E:n+m<=y
   .have a1:n*i.size+o.length<=I.size:=by rw[hl,Z,<-Nat.add_mul];exact Nat.mul_le_mul_right _ E
    have hr:=run_append_room (P:=P) w t ty e i ht hi g n y I V p m c o hl hn h1 E a1;have X:xs.length=n*i.size:=x.1;refine⟨_,_,hr,⟨by rw[List.length_append,X,hl,Nat.add_mul],.inr ⟨g,y,_,rfl,a8,setRow_heap w g I _ e _ V,E,ak,?_,?_⟩⟩,⟨rfl,rfl,rfl,?_,fun b _ hb=>setRow_other w g b _ (fun e=>hb (by simp[Value.ownBlock,e]))⟩,fun g' U=>.inl U⟩
    .have h0:I.toList.length=y*i.size:=by rw[Array.length_toList,Z]
     have h2:n*i.size+m*i.size<=y*i.size:=by rw[<-Nat.add_mul];exact Nat.mul_le_mul_right _ E
     simp only[List.size_toArray,List.length_append,List.length_take,List.length_drop,h0,hl];omega
    .rw[S,Nat.add_mul,<-X,<-hl,<-List.length_append];exact List.take_left
    .simp[World.setRow]
   .have holds:∀j u,xs[j]?=some u->w.cell? ((⟨g,0,none⟩:Addr).add j)=some u:=x.cells (g:=g) rfl;have hr:=run_append_grow (P:=P) w t ty e i z ht hi hz ⟨g,0,none⟩ n y xs x.1 holds p m c o hl hn (by omega) a7 (growslice_fits (by omega) J);have al:=grownCap_ge w (n+m) y e;have X:xs.length=n*i.size:=x.1;refine⟨_,_,hr,⟨by rw[List.length_append,X,hl,Nat.add_mul],.inr ⟨w.heap.size,_,_,rfl,hB,heap_alloc_new w.drew _,al,grownCap_le_maxLen w (n+m) y e Q,?_,?_⟩⟩,⟨rfl,rfl,rfl,by simp,fun b hb _=>RowKit.Below.heap_alloc w.drew _ b hb⟩,fun g' U=>.inr (by cases U;exact Nat.le_refl _)⟩
    .simp only[Array.size_append,List.size_toArray,size_zeroCells,Y,X,hl,<-Nat.add_mul];congr 1;omega
    .simp only[Array.toList_append];have h3:(n+m)*i.size=(xs++o).length:=by rw[List.length_append,X,hl,Nat.add_mul]
     rw[h3,List.take_append_of_le_length (Nat.le_refl _),List.take_length]
theorem AF.append{α:Type}{P:Program}{t ty B e k bytes:Nat}{R:World->List Value->α->Prop}{S:Nat->Prop}{w:World}{v x:Value}{l m:List α}(hE:DE P t e k bytes)(h:AF B e k R w v l)(hx:BH S k R w x m)
 (U:∀r y,R w r y->∀u∈r,u.oneCell'=true)(V:(l.length+m.length)*bytes<=140737488355328)(hB:B<=w.heap.size)(X:l.length+m.length<=maxLen)
 (hR:∀w',w.grownBy w' v.ownBlock->∀r y,R w r y->R w' r y) :
  runK P (Builtin.append_ #[t,t] ty [v,x].toArray) (fun v' w'=>AF B e k R w' v' (l++m)/\w.grownBy w' v.ownBlock/\(∀g,v'.ownBlock=some g->v.ownBlock=some g\/w.heap.size<=g)) w:=by
 obtain⟨i,z,ht,hi,hz,hs,hb,a7,hk⟩:=hE;have a8:=hx.shape;obtain⟨rows,h1,h2,h3,h4⟩:=h;obtain⟨a,c,rfl,hc,ak,Y⟩:=hx;have fin:∀(o:List (List Value)),o.length=m.length->(∀r∈o,r.length=k/\∀u∈r,u.oneCell'=true)->(∀(i:Nat) (r:List Value) (y:α),o[i]?=some r->m[i]?=some y->R w r y)->
   (∃v' w',(Builtin.append_ #[t,t] ty [v,.slice a m.length c].toArray).run P w=.ok v' w'/\w'.ownsRow B e k v' (l.length+m.length) (rows.flatten++o.flatten)/\w.grownBy w' v.ownBlock/\(∀g,v'.ownBlock=some g->v.ownBlock=some g\/w.heap.size<=g))->
   runK P (Builtin.append_ #[t,t] ty [v,.slice a m.length c].toArray) (fun v' w'=>AF B e k R w' v' (l++m)/\w.grownBy w' v.ownBlock/\(∀g,v'.ownBlock=some g->v.ownBlock=some g\/w.heap.size<=g)) w:=by
  rintro o Z e2 e3 ⟨v',w',r1,r2,r3,r4⟩;refine⟨v',w',r1,⟨rows++o,by rw[List.flatten_append,List.length_append];exact r2,by simp[h2,Z],?_,?_⟩,r3,r4⟩
  .intro r hr;rcases List.mem_append.1 hr with hr|hr
   .exact h3 r hr
   .exact e2 r hr
  .intro j r y hr Q;refine hR w' r3 r y ?_;by_cases I:j<l.length
   .rw[List.getElem?_append_left (by omega)] at hr;rw[List.getElem?_append_left I] at Q;exact h4 j r y hr Q
   .rw[List.getElem?_append_right (by omega)] at hr;rw[List.getElem?_append_right (by omega)] at Q;rw[h2] at hr;exact e3 _ r y hr Q
 have O:∃o:List (List Value),o.length=m.length/\(∀(i:Nat) (r:List Value),o[i]?=some r->r.length=k/\(∀u∈r,u.oneCell'=true)/\(∃p,a=some p/\∀j u,r[j]?=some u->w.cell? (p.add (i*k+j))=some u)/\∃y,m[i]?=some y/\R w r y):=by
  clear fin h4 h3 h2 h1 V X hR ak a8;have gen:∀q,q<=m.length->∃o:List (List Value),o.length=q/\(∀(i:Nat) (r:List Value),o[i]?=some r->r.length=k/\(∀u∈r,u.oneCell'=true)/\(∃p,a=some p/\∀j u,r[j]?=some u->w.cell? (p.add (i*k+j))=some u)/\∃y,m[i]?=some y/\R w r y):=by
   intro q;induction q with
   |zero=>exact fun _=>⟨[],rfl,fun i r h=>by simp at h⟩
   |succ q ih=>
    intro hq;obtain⟨rs,Z,e2⟩:=ih (by omega);obtain⟨p,r,f1,f2,f3,f4,f5⟩:=Y q m[q] (by simp[show q<m.length by omega]);refine⟨rs++[r],by simp[Z],fun i r' E=>?_⟩;by_cases hi:i<q
    .rw[List.getElem?_append_left (by omega)] at E;exact e2 i r' E
    .have:i=q:=by have:=(List.getElem?_eq_some_iff.1 E).1;simp[Z] at this;omega
     subst this;rw[List.getElem?_append_right (by omega)] at E;simp[Z] at E;subst E;exact⟨f3,U _ _ f5,⟨p,f1,f4⟩,m[i],by simp[show i<m.length by omega],f5⟩
  exact gen m.length (Nat.le_refl _)
 obtain⟨o,g1,T⟩:=O;have J:∀r∈o,r.length=k:=fun r hr=>by obtain⟨j,I⟩:=List.mem_iff_getElem?.1 hr;exact(T j r I).1
 refine fin o g1 (fun r hr=>by obtain⟨j,I⟩:=List.mem_iff_getElem?.1 hr;exact⟨(T j r I).1,(T j r I).2.1⟩) (fun j r y hr Q=>?_) ?_
 .obtain⟨_,_,_,y',a1,al⟩:=T j r hr;rw[Q] at a1;cases a1;exact al
 .refine Lh ⟨i,z,ht,hi,hz,hs,hb,a7,hk⟩ h1 a m.length c o.flatten (by rw[Ef o J,g1]) ?_ ?_ ?_ X V hB
  .intro ha;by_cases an:m.length=0
   .exact an
   .obtain⟨p,r,f1,_⟩:=Y 0 m[0] (by simp[show 0<m.length by omega]);rw[ha] at f1;cases f1
  .intro p hp q u hu;obtain⟨r,hr,av⟩:=N1 hk o J q u hu;obtain⟨_,_,⟨p',a6,ax⟩,_⟩:=T _ r hr;rw[hp] at a6;cases a6;have:=ax _ u av;rwa [Nat.div_add_mod'] at this
  .intro u hu;obtain⟨r,hr,ay⟩:=List.mem_flatten.1 hu;obtain⟨j,I⟩:=List.mem_iff_getElem?.1 hr;exact(T j r I).2.1 u ay
theorem Mod.next{M j:Nat->Prop}{w o w2:World}(h1:Mod j w o)(i:Mod M o w2)(y:∀b,b<w.heap.size->M b->j b):Mod j w w2:=
 ⟨i.os.trans h1.os,i.tape.trans h1.tape,i.output.trans h1.output,Nat.le_trans h1.size i.size,fun b hb x=>(i.same b (Nat.lt_of_lt_of_le hb h1.size) fun h=>x (y b hb h)).trans (h1.same b hb x)⟩
theorem BH.grow{α:Type}{S:Nat->Prop}{k:Nat}{R:World->List Value->α->Prop}{w w':World}{v:Value}{l:List α}(h:BH S k R w v l)(i:Grow w w')(hk:0<k)(j:∀r x,R w r x->R w' r x):BH S k R w' v l:=
 h.mono (fun _ _ h=>h) (fun b hb _=>i.same b hb fun h=>h) hk j
theorem BH.mod{α:Type}{S M:Nat->Prop}{k:Nat}{R:World->List Value->α->Prop}{w w':World}{v:Value}{l:List α}(h:BH S k R w v l)(i:Mod M w w')(j:∀b,b<w.heap.size->S b->¬M b)(hk:0<k)(o:∀r x,R w r x->R w' r x):BH S k R w' v l:=
 h.mono (fun _ _ h=>h) (fun b hb y=>i.same b hb (j b hb y)) hk o
theorem BH.sub{α:Type}{S i:Nat->Prop}{k:Nat}{R R':World->List Value->α->Prop}{w:World}{v:Value}{l:List α}(h:BH S k R w v l)(j:∀b,b<w.heap.size->S b->i b)(hk:0<k)(o:∀r x,R w r x->R' w r x):BH i k R' w v l:=
 h.mono j (fun _ _ _=>rfl) hk o
theorem AF.base{α:Type}{B x e k:Nat}{R:World->List Value->α->Prop}{w:World}{v:Value}{l:List α}(h:AF B e k R w v l)(hb:∀g,v.ownBlock=some g->x<=g):AF x e k R w v l:=by
 obtain⟨rows,h1,y,E,I⟩:=h;refine⟨rows,⟨h1.1,?_⟩,y,E,I⟩;rcases h1.2 with J|⟨g,j,o,rfl,O,i⟩
 .exact .inl J
 .exact .inr ⟨g,j,o,rfl,hb g rfl,i⟩
theorem Gn{e k:Nat}{K:Cont}{w:World}(h:K (.slice (some ⟨w.heap.size,0,none⟩) 0 0) (w.alloc (.cells #[] e))):Bc e k 0 [] [] K w:=by
 refine⟨#[],?_,h⟩;simp[Instr.fill,Array.range_zero']
theorem TH{k:Nat}:∀(rows:List (List Value)) (i j:Nat) (r:List Value) (u:Value),(∀r∈rows,r.length=k)->rows[i]?=some r->j<k->rows.flatten.set (i*k+j) u=(rows.set i (r.set j u)).flatten:=by
 intro rows;induction rows with
 |nil=>intro i j r u _ h;simp at h
 |cons x rs y=>
  intro i j r u h o B;have h0:=h x (by simp);cases i with
  |zero=>
   simp at o;subst o;simp only[List.flatten_cons,List.set_cons_zero,Nat.zero_mul,Nat.zero_add];rw[List.set_append_left _ _ (by omega)]
  |succ i=>
   have:=y i j r u (fun r hr=>h r (by simp[hr])) (by simpa using o) B;simp only[List.flatten_cons,List.set_cons_succ];rw[List.set_append_right _ _ (by rw[h0,Nat.add_mul];omega),<-this];congr 2;rw[h0,Nat.add_mul];omega
theorem AF.store{α:Type}{B e k:Nat}{R R':World->List Value->α->Prop}{w:World}{a:Addr}{n c:Nat}{l:List α}(h:AF B e k R w (.slice (some a) n c) l){i j:Nat}{u:Value}{x':α}(S:i<l.length)(hj:j<k)
 (hu:u.oneCell'=true)(X:∀r y,y∈l->R w r y->R' (w.setCell (a.add (i*k+j)) u) r y)(Y:∀r,R w r l[i]->R' (w.setCell (a.add (i*k+j)) u) (r.set j u) x') :
  (∃v,w.cell? (a.add (i*k+j))=some v)/\w.frozen? (a.add (i*k+j))=false/\AF B e k R' (w.setCell (a.add (i*k+j)) u) (.slice (some a) n c) (l.set i x')/\Mod (fun b=>b=a.block) w (w.setCell (a.add (i*k+j)) u):=by
 obtain⟨rows,h1,T,U,Z⟩:=h;have o:∀r∈rows,r.length=k:=fun r hr=>(U r hr).1;have I:i<rows.length:=by omega
 have V:∃g,a=⟨g,0,none⟩/\n=l.length:=by
  rcases h1.2 with⟨J,_⟩|⟨g',a1,a6,J,_⟩
  .simp at J
  .simp only[Value.slice.injEq,Option.some.injEq] at J;exact⟨g',J.1,J.2.1⟩
 obtain⟨g,rfl,rfl⟩:=V;have O:(⟨g,0,none⟩:Addr).add (i*k+j)=⟨g,i*k+j,none⟩:=by unfold Addr.add;split<;>simp_all
 rw[O] at X Y ⊢;have E:i*k+j<l.length*k:=by
  have:(i+1)*k<=l.length*k:=Nat.mul_le_mul_right _ S;rw[Nat.add_mul] at this;omega
 obtain⟨s1,s2⟩:=h1.stored (i*k+j) u;have Q:rows[i]?=some rows[i]:=by simp[I]
 refine⟨?_,h1.frozenAt _,?_,?_⟩
 .refine⟨(rows.flatten)[i*k+j]'(by rw[Ef rows o,T];exact E),?_⟩;rw[h1.cellAt _ E];simp[Ef rows o,T,E]
 .refine⟨rows.set i (rows[i].set j u),?_,by simp[T],?_,?_⟩
  .rw[List.length_set,<-TH rows i j rows[i] u o Q hj];exact s1
  .intro r hr;rcases List.mem_or_eq_of_mem_set hr with hr|rfl
   .exact U r hr
   .refine⟨by rw[List.length_set];exact o _ (by simp),fun y x=>?_⟩;rcases List.mem_or_eq_of_mem_set x with x|rfl
    .exact(U rows[i] (by simp)).2 y x
    .exact hu
  .intro q r y hr x;by_cases hq:i=q
   .subst hq;simp only[List.getElem?_set_self I,List.getElem?_set_self S,Option.some.injEq] at hr x;subst hr;subst x;exact Y _ (Z i _ _ Q (by simp[S]))
   .rw[List.getElem?_set_ne hq] at hr x;exact X r y (List.mem_of_getElem? x) (Z q r y hr x)
 .exact Mod.setCell _ _ _ rfl
end Go.K
namespace Go.K
open Go
def Vj(n:Nat)(e:Env):List Nat->List Value->Env
 |[],_=>e
 |p::ps,vs=>Vj n (EI n e p (vs.headD undef)) ps vs.tail
def Quiet(W W':World):Prop:=W'.os=W.os/\W'.tape=W.tape/\W'.output=W.output
theorem Quiet.trans{a b c:World}(h:Quiet a b)(k:Quiet b c):Quiet a c:=⟨k.1.trans h.1,k.2.1.trans h.2.1,k.2.2.trans h.2.2⟩
def KC(st:Prop)(P:Program)(E:Nat)(y:List Value)(o:Nat->List Value)(N:Nat)(I:Nat->Prop)(w:World):Prop:=
 ∀(l:Nat) (J:Nat->(Nat->Prop)->World->Prop) (x:(Nat->Prop)->World->Prop) (B:World),
  Mod (fun _=>False) w B->J 0 (fun _=>False) B->
  (∀k i j W W',J k i W->Mod (fun b=>¬st/\i b) W W'->(∀b,j b->(i b\/W.heap.size<=b)/\b<W'.heap.size)->J k j W')->
  (∀i j W W',x i W->Mod (fun b=>¬st/\i b) W W'->(∀b,j b->(i b\/W.heap.size<=b)/\b<W'.heap.size)->x j W')->
  (∀k i W,J k i W->∀b,b<w.heap.size->I b->W.heap[b]?=w.heap[b]?)->
  (∀k i W,k<N->J k i W->Kj P l (o k) (fun v W'=>W.heap.size<=W'.heap.size/\(∀b,i b->W'.heap[b]?=W.heap[b]?)/\Quiet W W'/\((v=.bool true/\J (k+1) i W')\/(v=.bool false/\x i W'))) W)->
  AB P E (.func (.yield l) #[] #[]::y) (fun _ W'=>∃i,J N i W'\/x i W') B
def dh(i:Nat->Prop)(w W W':World):Prop:=W.heap.size<=W'.heap.size/\(∀b,i b\/b=w.heap.size\/b=w.heap.size+1->W'.heap[b]?=W.heap[b]?)/\Quiet W W'
def cP(o:Nat->Prop)(w W:World)(J:World->Prop)(j:Exit->World->Prop):Exit->World->Prop:=fun x W'=>dh o w W W'/\match x with
 |.normal=>J W' | .ret=>j .ret W' | .exit i=>j (.exit i) W' | _=>False
def dB(j:Nat->Prop)(w W:World)(J:World->Prop)(x:Exit->World->Prop)(F:(Exit->World->Prop)->World->Prop)(o:World):Prop:=
 dh j w W o/\∀i,Mod (fun b=>b=w.heap.size+1) o i->F (cP j w i J x) i
def Nc(i:Nat->Prop)(w W:World):Prop:=∀b,i b->b<W.heap.size/\w.heap.size+2<=b
def H8(P:Program)(ok:Nat->Bool)(f:Value)(O:Nat)(cE:List Value->(((Exit->World->Prop)->World->Prop)->World->Prop)->World->Prop)(N:Exit->World->Prop)(w:World):Prop:=
 ∃st E y j n I,f=.func (.func E) #[] (List.toArray y)/\ok E=true/\KC st P E y j n I w/\(∀k,k<n->(j k).length=O)/\
 ∃(J:Nat->(Nat->Prop)->World->Prop) (B:Exit->(Nat->Prop)->World->Prop),
  J 0 (fun _=>False) w/\
  (∀k i o W W',J k i W->Mod (fun b=>(¬st/\i b)\/b=w.heap.size\/b=w.heap.size+1) W W'->(∀b,o b->(i b\/W.heap.size<=b)/\b<W'.heap.size/\w.heap.size+2<=b)->J k o W')/\
  (∀x i o W W',B x i W->Mod (fun b=>(¬st/\i b)\/b=w.heap.size\/b=w.heap.size+1) W W'->(∀b,o b->(i b\/W.heap.size<=b)/\b<W'.heap.size/\w.heap.size+2<=b)->B x o W')/\
  (∀k i W,J k i W->∀b,b<w.heap.size->I b->W.heap[b]?=w.heap[b]?)/\
  (∀k i W,k<n->J k i W->w.heap.size+2<=W.heap.size->Nc i w W->cE (j k) (dB i w W (J (k+1) i) (fun x=>B x i)) W)/\
  (∀i W,J n i W->Nc i w W->w.heap.size+2<=W.heap.size->W.heap[w.heap.size]?=some (.deferred (some []))->N .normal W)/\
  (∀x i W,B x i W->Nc i w W->w.heap.size+2<=W.heap.size->W.heap[w.heap.size]?=some (.deferred (some []))->N x W)
variable {P:Program}{ok:Nat->Bool}{n:Nat}
theorem Fk{l:Nat}{args:List Value}{K j:Cont}{w:World}(h:Kj P l args K w)(hk:∀v w',K v w'->j v w'):Kj P l args j w:=by
 obtain⟨f,tmps,i,body,h1,o⟩:=h;exact⟨f,tmps,i,body,h1,RoundIn.mono o fun e w' ⟨v,x,y⟩=>⟨v,x,hk _ _ y⟩⟩
theorem Fr.fill{ds:List Deferred}{a:Act}:∀(ps:List Nat) (vs:List Value) (e:Env) (a:Act),vs.length=ps.length->Fr ds n e a->Fr ds n (Vj n e ps vs) { a with tmps:=(ps.zip vs).foldl (fun t x=>t.setIfInBounds x.1 x.2) a.tmps }:=by
 intro ps;induction ps with
 |nil=>intro vs e a _ h;exact h
 |cons p ps i=>
  intro vs e a hl h;cases vs with
  |nil=>simp at hl
  |cons v vs=>
   have:=i vs (EI n e p v) (a.put (some p) v) (by simpa using hl) (h.put (some p) v);exact this
def bf:Exit->Option Code
 |.ret=>some .ret
 |.exit i=>some (.exit i)
 |_=>none
theorem NO{ds:List Deferred}(b0:CC P ok)(hm:P.follows .mixedOrders=true){g:Operand}{ps:Array Tmp}{x y:Code}{ax ay:Pb}{e:Env}{a:Act}{w:World}{N:Exit->World->Prop}(hf:Fr ds n e a)
 (hx:KO x=true)(hy:KO y=true)
 (h:H8 P ok (ev e g) ps.size (fun args bd W=>D P ok n x ax (bL (fun e' Z=>bd (fun post W2=>D P ok n y ay (fun ex _ X=>post ex X) e' W2) Z) (fun _ _ _=>False)) (Vj n e ps.toList args) W) N w) :
  (Code.rangeFunc g ps x y).wpIn (Wd none) 0 P (fun ex a' w'=>Fr ({ target:=.collected w.heap.size,args:=#[] }::ds) n e a'/\N ex w') a w:=by
 obtain⟨st,gf,b1,S,nn,Rd,bk,bl,b9,av,J,Jx,h0,hJ,Qa,JE,al,b2,b3⟩:=h;refine wpIn_rangeFunc ?_;intro fn _;have bp:a.eval g=.func (.func gf) #[] b1.toArray:=by rw[hf.eval];exact bk
 obtain⟨rec,E⟩:∃rec:LoopState->Option Code->Loop,rec=fun st pe=>{ state:=st,pending:=pe,fn,tmps:=a.tmps,params:=ps,assign:=x,body:=y,defers:=w.heap.size }:=⟨_,rfl⟩;obtain⟨Z,a6⟩:∃Z,(w.alloc (.deferred (some []))).alloc (.loop (rec .ready none))=Z:=⟨_,rfl⟩;have ba:Mod (fun _=>False) w Z:=by rw[<-a6];exact(Mod.alloc _ _ _).trans (Mod.alloc _ _ _)
 have e2:Z.heap.size=w.heap.size+2:=by rw[<-a6];simp
 have bs:Z.heap[w.heap.size+1]?=some (.loop (rec .ready none)):=by
  rw[<-a6];have:=World.alloc_heap_new (w.alloc (.deferred (some []))) (.loop (rec .ready none));rwa [World.size_alloc] at this
 have bx:Z.heap[w.heap.size]?=some (.deferred (some [])):=by
  rw[<-a6];exact(RowKit.Below.heap_alloc _ _ _ (by simp)).trans (World.alloc_heap_new w _)
 refine ⟨w.heap.size+1,[{ target:=.collected w.heap.size,args:=#[] }],Z,{ target:=.fn (.func gf) b1.toArray,args:=#[.func (.yield (w.heap.size+1)) #[] #[]] },Z,gf,
  (.func (.yield (w.heap.size+1)) #[] #[] :: b1).toArray,Z,?_,?_,fun _ _=>trivial,?_,(fun h=>by cases h),?_⟩
 .rw[<-a6,E];exact run_enterLoop_outer _ _ _ _ _
 .simp only[resolve,bp];simp[go_sem]
 .have:=b0 gf bl;simp[invoke,go_sem];exact this _ _
 have U:∀(M:Nat->Prop) (W:World) (b:Nat) (o:Obj),M b->Mod M W (W.putObj b o):=fun M W b o hb=>
  ⟨rfl,rfl,rfl,by simp,fun k _ hk=>World.putObj_heap_other fun e=>hk (e▸hb)⟩
 let J':Nat->(Nat->Prop)->World->Prop:=fun k j W=>J k j W/\Nc j w W/\w.heap.size+2<=W.heap.size/\W.heap[w.heap.size+1]?=some (.loop (rec .ready none))/\W.heap[w.heap.size]?=some (.deferred (some []))
 let c4:(Nat->Prop)->World->Prop:=fun j W=>∃ex c,bf ex=some c/\Jx ex j W/\Nc j w W/\w.heap.size+2<=W.heap.size/\W.heap[w.heap.size+1]?=some (.loop (rec .done (some c)))/\W.heap[w.heap.size]?=some (.deferred (some []))
 have an:∀(j Q:Nat->Prop) (W W':World),Nc j w W->w.heap.size+2<=W.heap.size->(∀b,Q b->(j b\/W.heap.size<=b)/\b<W'.heap.size)->Nc Q w W':=fun j Q W W' h1 c6 h2 b hb=>by
  obtain⟨h3|h3,h4⟩:=h2 b hb
  .exact⟨h4,(h1 b h3).2⟩
  .exact⟨h4,by omega⟩
 have b4:=b9 (w.heap.size+1) J' c4 Z ba ⟨hJ 0 _ _ w Z h0 (Grow.mod ba) (fun b hb=>hb.elim),fun b hb=>hb.elim,by omega,bs,bx⟩
  (fun k j Q W W' ⟨q1,O,q3,q4,q5⟩ I V=>⟨hJ k j Q W W' q1 (I.mono fun b _ hb=>.inl hb) (fun b hb=>⟨(V b hb).1,(V b hb).2,(an j Q W W' O q3 V b hb).2⟩),an j Q W W' O q3 V,by have:=I.size;omega,
   (I.same _ (by omega) fun hb=>by have:=(O _ hb.2).2;omega).trans q4,(I.same _ (by omega) fun hb=>by have:=(O _ hb.2).2;omega).trans q5⟩)
  (fun j Q W W' ⟨ex,c,hc,q1,O,q3,q4,q5⟩ I V=>⟨ex,c,hc,Qa ex j Q W W' q1 (I.mono fun b _ hb=>.inl hb) (fun b hb=>⟨(V b hb).1,(V b hb).2,(an j Q W W' O q3 V b hb).2⟩),an j Q W W' O q3 V,by have:=I.size;omega,
   (I.same _ (by omega) fun hb=>by have:=(O _ hb.2).2;omega).trans q4,(I.same _ (by omega) fun hb=>by have:=(O _ hb.2).2;omega).trans q5⟩)
  (fun k j W ⟨q1,_⟩ b hb hr=>JE k j W q1 b hb hr)
  ?_
 .refine(callsIn_wide.2 (Calls.mono b4 ?_):CallsIn Fence.wide _ _ _ _ _ _);rintro en W2 ⟨v,rfl,j,hh⟩;have a7:Fr ({ target:=.collected w.heap.size,args:=#[] }::ds) n e { a with defers:=[{ target:=.collected w.heap.size,args:=#[] }]++a.defers }:=⟨hf.size,hf.get,by simp[hf.defers]⟩;have T:∀o,Mod (fun b=>(¬st/\j b)\/b=w.heap.size\/b=w.heap.size+1) W2 (W2.putObj (w.heap.size+1) o):=fun o=>U _ _ _ _ (.inr (.inr rfl));rcases hh with⟨q1,O,q3,q4,q5⟩|⟨ex,c,hc,q1,O,q3,q4,q5⟩
  .obtain⟨o,ho⟩:∃o,(Instr.endLoop (w.heap.size+1)).run P W2=.ok none (W2.putObj (w.heap.size+1) o):=⟨_,by have:=run_endLoop (P:=P) q4 (by rw[E];simp);rw[E] at this;exact this⟩;refine⟨none,_,ho,a7,?_⟩;refine b2 j _ (hJ nn j j _ _ q1 (T _) fun b hb=>⟨.inl hb,by simpa using(O b hb).1,(O b hb).2⟩) (fun b hb=>⟨by simpa using(O b hb).1,(O b hb).2⟩) (by simpa using q3) ((World.putObj_heap_other (by omega)).trans q5)
  .obtain⟨o,ho⟩:∃o,(Instr.endLoop (w.heap.size+1)).run P W2=.ok (some c) (W2.putObj (w.heap.size+1) o):=⟨_,by have:=run_endLoop (P:=P) q4 (by rw[E];simp);rw[E] at this;exact this⟩;have key:N ex (W2.putObj (w.heap.size+1) o):=
    b3 ex j _ (Qa ex j j _ _ q1 (T _) fun b hb=>⟨.inl hb,by simpa using(O b hb).1,(O b hb).2⟩) (fun b hb=>⟨by simpa using(O b hb).1,(O b hb).2⟩) (by simpa using q3) ((World.putObj_heap_other (by omega)).trans q5)
   refine⟨some c,_,ho,?_⟩;cases ex with
   |ret=>cases hc;exact wpIn_ret ⟨a7,key⟩
   |exit i=>cases hc;exact wpIn_exit ⟨a7,key⟩
   |_=>cases hc
 .rintro k j W hk ⟨q1,O,q3,q4,q5⟩;have a8:=al k j W hk q1 q3 O;have bc:=run_yield (P:=P) (args:=(S k).toArray) q4 (by rw[E];simpa using av k hk);rw[E] at bc;refine⟨fn,_,x,y,bc,?_⟩;have a7:Fr [] n (Vj n e ps.toList (S k)) { tmps:=(ps.zip (S k).toArray).foldl (fun t x=>t.setIfInBounds x.1 x.2) a.tmps,defers:=[] }:=by
   have:=Fr.fill (ds:=[]) (a:=a) ps.toList (S k) e { a with defers:=[] } (by simpa using av k hk) ⟨hf.size,hf.get,rfl⟩;have e1:(ps.zip (S k).toArray).foldl (fun t x=>t.setIfInBounds x.1 x.2) a.tmps=(ps.toList.zip (S k)).foldl (fun t x=>t.setIfInBounds x.1 x.2) a.tmps:=by
    rw[<-Array.foldl_toList];simp
   rw[e1];exact this
  refine roundIn_of_wpIn (F:=Fence.wide) trivial ?_;refine wpIn_mono (I9 (ds:=[]) (ro:=some (w.heap.size+1)) (m:=0) b0 hm x ax _ _ W _ (.inr hx) a7 a8) ?_;rintro ex a1 Wa ⟨e1,c7,_,hb⟩;cases ex with
  |normal=>
   obtain⟨⟨dT,ak,c8⟩,b5⟩:=hb;have c9:=(ak (w.heap.size+1) (.inr (.inr rfl))).trans q4;have ca:=(ak w.heap.size (.inr (.inl rfl))).trans q5;refine⟨_,run_beginRound c9 (by rw[E]),?_⟩;have cc:=b5 (Wa.putObj (w.heap.size+1) (.loop { rec .ready none with state:=.busy })) (U _ _ _ _ rfl);have cd:(Wa.putObj (w.heap.size+1) (.loop { rec .ready none with state:=.busy })).heap[w.heap.size+1]?=some (.loop { rec .ready none with state:=.busy }):=World.putObj_heap_same (by omega);have ch:(Wa.putObj (w.heap.size+1) (.loop { rec .ready none with state:=.busy })).heap[w.heap.size]?=some (.deferred (some [])):=(World.putObj_heap_other (by omega)).trans ca;refine wpIn_mono (I9 (ds:=[]) (ro:=some (w.heap.size+1)) (m:=0) b0 hm y ay _ e1 _ _ (.inr hy) c7 cc) ?_;rintro ex a3 X ⟨e3,e4,_,⟨cn,b6,cv⟩,hp⟩;have c6:Wa.heap.size<=X.heap.size:=by simpa using cn
   have cx:=(b6 (w.heap.size+1) (.inr (.inr rfl))).trans cd;have dk:=(b6 w.heap.size (.inr (.inl rfl))).trans ch;have fin:∀(B:Option Code),(Instr.endRound (w.heap.size+1) B).run P X=.ok (.bool B.isNone) (X.putObj (w.heap.size+1) (.loop (rec (if B.isNone then .ready else .done) B)))/\
     (X.putObj (w.heap.size+1) (.loop (rec (if B.isNone then .ready else .done) B))).heap[w.heap.size+1]?=some (.loop (rec (if B.isNone then .ready else .done) B))/\
     (X.putObj (w.heap.size+1) (.loop (rec (if B.isNone then .ready else .done) B))).heap[w.heap.size]?=some (.deferred (some [])):=fun B=>by
    have:=run_endRound (P:=P) B cx;rw[E] at this ⊢;exact⟨this,World.putObj_heap_same (by omega),(World.putObj_heap_other (by omega)).trans dk⟩
   have b7:∀(o:Obj) b,j b->(X.putObj (w.heap.size+1) o).heap[b]?=W.heap[b]?:=fun o b hb=>by
    have h2:=(O b hb).2;rw[World.putObj_heap_other (by omega),b6 b (.inl hb),World.putObj_heap_other (by omega),ak b (.inl hb)]
   have qt:∀(o:Obj),Quiet W (X.putObj (w.heap.size+1) o):=fun o=>c8.trans cv;have Y:∀(o:Obj),Nc j w (X.putObj (w.heap.size+1) o):=fun o b hb=>⟨by have:=(O b hb).1;simp;omega,(O b hb).2⟩;have b8:∀(o:Obj) b,j b->(j b\/X.heap.size<=b)/\b<(X.putObj (w.heap.size+1) o).heap.size/\w.heap.size+2<=b:=fun o b hb=>⟨.inl hb,(Y o b hb).1,(O b hb).2⟩;have T:∀o,Mod (fun b=>(¬st/\j b)\/b=w.heap.size\/b=w.heap.size+1) X (X.putObj (w.heap.size+1) o):=fun o=>U _ _ _ _ (.inr (.inr rfl));cases ex with
   |normal=>
    obtain⟨f1,f2,f3⟩:=fin none;exact⟨_,_,f1,_,rfl,by simp;omega,b7 _,qt _,.inl ⟨rfl,hJ _ j j _ _ hp (T _) (b8 _),Y _,by simp;omega,f2,f3⟩⟩
   |ret=>
    obtain⟨f1,f2,f3⟩:=fin (some .ret);exact⟨_,_,f1,_,rfl,by simp;omega,b7 _,qt _,.inr ⟨rfl,.ret,.ret,rfl,Qa .ret j j _ _ hp (T _) (b8 _),Y _,by simp;omega,f2,f3⟩⟩
   |exit i=>
    obtain⟨f1,f2,f3⟩:=fin (some (.exit i));exact⟨_,_,f1,_,rfl,by simp;omega,b7 _,qt _,.inr ⟨rfl,.exit i,.exit i,rfl,Qa (.exit i) j j _ _ hp (T _) (b8 _),Y _,by simp;omega,f2,f3⟩⟩
   |_=>exact hp.elim
  |_=>exact hb.elim
def RL:List (Nat×(World->Prop))->Nat->World->Prop
 |[],_,_=>False
 |(j,N)::r,i,w=>bif Nat.beq i j then N w else RL r i w
def cB(j o:World->Prop)(L:List (Nat×(World->Prop)))(x:Exit)(w:World):Prop:=match x with
 |.normal=>j w | .ret=>o w | .exit i=>RL L i w | _=>False
theorem Sp{Q:Nat->World->Prop}{w:World}{i:Nat}:∀{L:List Nat},RL (L.map fun i=>(i,Q i)) i w->Q i w:=by
 intro L;induction L with
 |nil=>intro h;exact h.elim
 |cons j L o=>
  intro h;simp only[List.map_cons,RL] at h;cases hb:Nat.beq i j with
  |true=>rw[hb] at h;have:=Nat.eq_of_beq_eq_true hb;subst this;exact h
  |false=>rw[hb] at h;exact o h
def O3:Code->Bool
 |.rangeFunc ..=>true
 |.seq a b=>O3 a||O3 b
 |.block _ a=>O3 a
 |_=>false
def bX(id:Nat)(Q:EQ):EQ:=fun ex e w=>match ex with
 |.exit i=>bif Nat.beq i id then False else Q (.exit i) e w
 |.normal=>Q .normal e w | .ret=>Q .ret e w | .goto l=>Q (.goto l) e w | .panic c=>Q (.panic c) e w | .outgrown=>Q .outgrown e w
variable (P ok n)
def DM:Code->Pb->(Nat->EQ)->EQ->Env->World->Prop
 |.seq x y,an,Q,j,e,w=>match an with
  |.node _ _ a b=>bif O3 x then(bif KO y then DM x a (fun m=>bL (fun e' w'=>D P ok n y b (Q m) e' w') (Q m)) j e w else False)
    else D P ok n x a (bL (fun e' w'=>DM y b Q j e' w') j) e w
  |_=>False
 |.block id x,an,Q,j,e,w=>DM x an (fun m=>dQ id (Q m)) (bX id j) e w
 |.rangeFunc g ps x y,an,Q,_,e,w=>match an with
  |.node L _ B E=>bif KO x&&KO y then H8 P ok (ev e g) ps.size (fun args o W=>D P ok n x B (bL (fun e' I=>o (fun post J=>D P ok n y E (fun ex _ O=>post ex O) e' J) I) (fun _ _ _=>False)) (Vj n e ps.toList args) W) (cB (fun W=>Q w.heap.size .normal e W) (fun W=>Q w.heap.size .ret e W) (L.map fun i=>(i,fun W=>Q w.heap.size (.exit i) e W))) w else False
  |_=>False
 |_,_,_,_,_,_=>False
variable {P ok n}
def liftM(n:Nat)(Q:Nat->EQ)(i:EQ):Exit->Act->World->Prop:=fun ex a w=>
 (ex≠.normal/\∃e,Fr [] n e a/\i ex e w)\/∃m e,Fr [{ target:=.collected m,args:=#[] }] n e a/\Q m ex e w
theorem Ud(B:CC P ok)(hm:P.follows .mixedOrders=true):∀(c:Code) (an:Pb) (Q:Nat->EQ) (E:EQ) (e:Env) (w:World) (a:Act),Fr [] n e a->DM P ok n c an Q E e w->c.wpIn (Wd none) 0 P (liftM n Q E) a w:=by
 intro c;induction c with
 |seq x y O S=>
  intro an Q E e w a I h;cases an with
  |node L W T U=>
   simp only[DM] at h;cases hr:O3 x with
   |true=>
    simp only[hr,cond_true] at h;cases V:KO y with
    |false=>simp only[V,cond_false] at h
    |true=>
     simp only[V,cond_true] at h;refine wpIn_seq (wpIn_mono (O T _ _ e w a I h) ?_);rintro ex J w' (⟨o,e',h1,j⟩|⟨m,e',h1,j⟩)
     .cases ex with
      |normal=>exact absurd rfl o
      |_=>exact .inl ⟨o,e',h1,j⟩
     .cases ex with
      |normal=>
       refine wpIn_mono (I9 (ro:=none) (m:=0) B hm y U _ e' w' J (.inr V) h1 j) ?_;rintro ex Z a6 ⟨X,h4,_,h6⟩;exact .inr ⟨m,X,h4,h6⟩
      |_=>exact .inr ⟨m,e',h1,j⟩
   |false=>
    simp only[hr,cond_false] at h;refine wpIn_seq (wpIn_mono (I9 (ds:=[]) (ro:=none) (m:=0) B hm x T _ e w a (.inl rfl) I h) ?_);rintro ex J w' ⟨e',h1,_,j⟩;cases ex with
    |normal=>exact S U Q E e' w' J h1 j
    |_=>exact .inl ⟨by simp,e',h1,j⟩
  |_=>exact h.elim
 |block id x ih=>
  intro an Q E e w a I h;simp only[DM] at h;refine wpIn_block (wpIn_mono (ih an _ _ e w a I h) ?_);rintro ex J w' (⟨o,e',h1,j⟩|⟨m,e',h1,j⟩)
  .cases ex with
   |exit i=>
    simp only[bX] at j;simp only[Exit.inBlock];cases hb:Nat.beq i id with
    |true=>rw[hb] at j;exact j.elim
    |false=>
     rw[hb] at j;rw[if_neg (by intro Y;subst Y;simp at hb)];exact .inl ⟨by simp,e',h1,j⟩
   |normal=>exact absurd rfl o
   |_=>exact .inl ⟨by simp,e',h1,j⟩
  .cases ex with
   |exit i=>
    simp only[dQ] at j;simp only[Exit.inBlock];cases hb:Nat.beq i id with
    |true=>rw[hb] at j;rw[if_pos (Nat.eq_of_beq_eq_true hb)];exact .inr ⟨m,e',h1,j⟩
    |false=>
     rw[hb] at j;rw[if_neg (by intro Y;subst Y;simp at hb)];exact .inr ⟨m,e',h1,j⟩
   |_=>exact .inr ⟨m,e',h1,j⟩
 |rangeFunc g ps x y _ _=>
  intro an Q E e w a I h;cases an with
  |node L W T U=>
   simp only[DM] at h;cases hb:(KO x&&KO y) with
   |false=>simp only[hb,cond_false] at h
   |true=>
    simp only[hb,cond_true] at h;simp only[Bool.and_eq_true] at hb;refine wpIn_mono (NO B hm I hb.1 hb.2 h) ?_;rintro ex J w' ⟨h1,j⟩;refine .inr ⟨_,e,h1,?_⟩;cases ex with
    |normal=>exact j
    |ret=>exact j
    |exit i=>exact Sp (Q:=fun i W=>Q w.heap.size (.exit i) e W) j
    |_=>exact j.elim
  |_=>exact h.elim
 |_=>intro an Q E e w a I h;exact h.elim
end Go.K
namespace Go.K
open Go
variable {P:Program}{ok:Nat->Bool}{n:Nat}
def FC(m:Nat)(K:World->Prop)(w:World):Prop:=w.heap[m]?=some (.deferred (some []))/\K (w.putObj m (.deferred none))
def dA(P:Program)(m:Nat)(rs:List ResultVar)(K:Cont):EQ:=fun ex e w=>match ex with
 |.normal=>FC m (fun w=>J1 P rs e w fun vs=>K (P1 vs) w) w
 |.ret=>FC m (fun w=>J1 P rs e w fun vs=>K (P1 vs) w) w
 |_=>False
theorem GG{g:Nat}{fn:Func}{c:Code}{rs:List ResultVar}{args:List Value}{K:Cont}{w:World}{an:Pb}(j:CC P ok)(hm:P.follows .mixedOrders=true)(J:P.funcs[g]?=some fn)
 (hb:fn.body=some c)(O:fn.ntmps=n)(o:fn.results.toList=rs)(hl:Nat.ble args.length n=true)(h:DM P ok n c an (fun m=>dA P m rs K) (bR P rs K) (nth args) w):AB P g args K w:=by
 refine callsIn_wide.1 (callsIn_of_wp_marks (F:=Fence.wide) (n:=0) J hb trivial ?_);have x:=Nat.le_of_ble_eq_true hl;subst O o;refine wpIn_mono (Ud j hm c an _ _ _ w _ (Qk x) h) ?_;rintro ex I w' (⟨y,e,h1,i⟩|⟨m,e,h1,i⟩)
 .cases ex with
  |normal=>exact absurd rfl y
  |ret=>
   obtain⟨v,B,E⟩:=Fm h1 i;show LeavesInM _ _ _ _ _ _ _ _ _;rw[h1.defers];exact⟨v,B,v,rfl,E⟩
  |_=>exact i.elim
 .have key:∀(i:FC m (fun w=>J1 P fn.results.toList e w fun vs=>K (P1 vs) w) w'),LeavesInM Fence.wide 0 P fn I.tmps (fun e w'=>∃v,e=.returned v/\K v w') I.defers .returning w':=by
   rintro⟨Q,B⟩;obtain⟨v,E,S⟩:=Fm h1 B;rw[h1.defers];exact⟨by simp,.inl ⟨_,_,rfl,run_takeDeferred Q,v,E,v,rfl,S⟩⟩
  cases ex with
  |normal=>exact key i
  |ret=>exact key i
  |_=>exact i.elim
end Go.K
namespace Go.Proofs.YtmdhibffnkhcnaaGreatDoor
open Go Go.K Proofs.Tryz
structure AvK where
 E:Nat
 one:Bool
 zE:List Value
 te:Nat
 tn:Nat
 ts:Nat
 tp:Nat
 tps:Nat
 tt:Nat
 tT:Nat
 tk:Nat
 tA:Nat
 fat:Nat
 ftotals:Nat
 fset:Nat
 flift:Nat
 flean:Nat
 fbalance:Nat
 fjoin:Nat
 ffirst:Nat
 flast:Nat
 fconcat:Nat
 fsplit:Nat
 fdrop:Nat
 fpick:Nat
 fmelded:Nat
 fReplace:Nat
 fover:Nat
 fOver:Nat
 fOverf:Nat
 fSize:Nat
 fNew:Nat
 aTake:Nat
 aasked:Nat
 aFree:Nat
 aAt:Nat
 aPut:Nat
 aNew:Nat
 vm:Value
 vc:Value
 vd:Value
def AvK.zN(g:AvK):List Value:=g.zE++[.int .i64 0,.int .i64 0,.int .i64 0,.int .i64 0,.int .i64 0]
def AvK.zP(g:AvK):List Value:=g.zE++[.int .i64 0,.int .i64 0,.int .i64 0,.int .i64 0,.int .i64 0,.bool false]
def Mi(g:AvK)(i:Addr->Value->Prop)(x:Value)(k:Value->Prop):Prop:=bif g.one then BD i x k else EG i g.E x k
def dz(g:AvK)(v0 v1:Value)(K:Cont)(w:World):Prop:=
 Al g.tn g.zN (fun t4 B=>
 AJ v0 fun t9=>
 AM 3 t9 fun j=>
 AK j (fun o w2=>
 AB prog g.aAt [o,v1] (fun i I=>
 AO 0 i fun x=>
 AO 1 i fun _t15=>
 Al g.tn g.zN (fun t5 w4=>
 Ab (g.E+5) t5 x (fun J=>
 Ac (g.E+5) t5 (fun y O=>
 Ab (g.E+5) t4 y (fun Q=>
 Ac (g.E+5) t4 (fun S T=>
 K S T) Q) O) J) w4) I) w2) B) w
def Qx(g:AvK)(v0 v1:Value)(K:Cont)(w:World):Prop:=
 DK .i64 v1 (.int .i64 (-1)) fun t9=>
 AD t9
 (K (.tuple #[(.int .i64 0),(.int .i64 0),(.int .i64 0)]) w)
 (AB prog g.fat [v0,v1] (fun j O=>
 Al g.tn g.zN (fun i w2=>
 Ab (g.E+5) i j (fun Q=>
 Dc Q (fun C=>
 AM (g.E+2) i fun o=>
 BK C o fun x=>
 AM (g.E+3) i fun y=>
 BK C y fun B=>
 AM (g.E+4) i fun I=>
 BK C I fun J=>
 ∀w4:World,C w4->
 K (.tuple #[x,B,J]) w4)) w2) O) w)
def cQ(g:AvK)(v0 v1 v2:Value)(K:Cont)(w:World):Prop:=
 Ba g.tn v2 (fun t5 w1=>
 AM g.E t5 fun B=>
 AK B (fun I w2=>
 AB prog g.ftotals [v0,I] (fun j w3=>
 AO 0 j fun J=>
 AO 1 j fun O=>
 AO 2 j fun Q=>
 AM (g.E+1) t5 fun S=>
 AK S (fun t25 w4=>
 AB prog g.ftotals [v0,t25] (fun o T=>
 AO 0 o fun U=>
 AO 1 o fun V=>
 AO 2 o fun X=>
 Ax [7] [[],[0],[0,1],[0,1,2],[0,1,2,3],[],[5],[0,1,2,3,4,5,6],[0,1,2,3,4,5,6,7],[0,1,2,3,4,5,6,7,8],[0,1,2,3,4,5,6,7,8],[0,1,2,3,4,5,6,7,8,9],[0,1,2,3,4,5,6,7,8,9,10,11]] T.drew (fun M St=>
 AJ v0 fun Y=>
 AM 0 Y fun Z=>
 AM 0 Z fun a1=>
 BD (St 4) a1 fun a6=>
 AM 0 t5 fun a7=>
 Mi g (St 6) a7 fun a8=>
 BF prog DH a6 [a8] (fun x w6=>
 Mod (M 7) T.drew w6/\
 AO 0 x fun t39=>
 AO 1 x fun ak=>
 J3 .i64 J U fun al=>
 AX .i64 (.int .i64 1) al fun an=>
 AX .i64 O V fun av=>
 AX .i64 av t39 fun ax=>
 AX .i64 Q X fun ay=>
 AX .i64 ay ak fun b0=>
 AM (g.E+2) t5 fun t55=>
 BB t55 an (fun w7=>
 AM (g.E+3) t5 fun b1=>
 BB b1 ax (fun w8=>
 AM (g.E+4) t5 fun b2=>
 BB b2 b0 (fun w9=>
 Ax [6] [[],[0],[0,1],[0,1,2],[],[],[0,1,2,3,4,5]] w9.drew (fun b3 i=>
 AJ v0 fun b4=>
 AM 3 b4 fun b5=>
 BD (i 3) b5 fun b6=>
 EG (i 5) (g.E+5) t5 fun b7=>
 AB prog g.aPut [b6,v1,b7] (fun _t64 y=>
 Mod (b3 6) w9.drew y/\
 K (.tuple #[]) y) w9.drew)) w8) w7) w6) T.drew)) w4) w3) w2) w1) w
def VJ(g:AvK)(v0 v1 v2:Value)(K:Cont)(w:World):Prop:=
 AB prog g.fat [v0,v1] (fun y w1=>
 Al g.tn g.zN (fun j w2=>
 Ab (g.E+5) j y (fun w3=>
 AD v2
 (AM g.E j fun B=>
 AK B (fun o w4=>
 AB prog g.fat [v0,o] (fun I w5=>
 Al g.tn g.zN (fun t9 w6=>
 Ab (g.E+5) t9 I (fun w7=>
 AM (g.E+1) t9 fun J=>
 AK J (fun O w8=>
 AM g.E j fun t22=>
 BB t22 O (fun w9=>
 Ac (g.E+5) j (fun t25 Q=>
 AB prog g.fset [v0,v1,t25] (fun _t26 S=>
 AM (g.E+1) t9 fun T=>
 BB T v1 (fun U=>
 Ac (g.E+5) t9 (fun V X=>
 AB prog g.fset [v0,o,V] (fun _t32 Y=>
 K o Y) X) U) S) Q) w9) w8) w7) w6) w5) w4) w3)
 (AM (g.E+1) j fun Z=>
 AK Z (fun x a1=>
 AB prog g.fat [v0,x] (fun a6 a7=>
 Al g.tn g.zN (fun i a8=>
 Ab (g.E+5) i a6 (fun ak=>
 AM g.E i fun al=>
 AK al (fun t39 an=>
 AM (g.E+1) j fun av=>
 BB av t39 (fun ax=>
 Ac (g.E+5) j (fun ay b0=>
 AB prog g.fset [v0,v1,ay] (fun _t44 b1=>
 AM g.E i fun t46=>
 BB t46 v1 (fun b2=>
 Ac (g.E+5) i (fun b3 b4=>
 AB prog g.fset [v0,x,b3] (fun _t50 b5=>
 K x b5) b4) b2) b1) b0) ax) an) ak) a8) a7) a1) w3)) w2) w1) w
def ZC(g:AvK)(v0 v1:Value)(K:Cont)(w:World):Prop:=
 AB prog g.fat [v0,v1] (fun o Q=>
 Al g.tn g.zN (fun t5 w2=>
 Ab (g.E+5) t5 o (fun S=>
 AM g.E t5 fun x=>
 AK x (fun y w4=>
 AB prog g.ftotals [v0,y] (fun i T=>
 AO 0 i fun B=>
 AO 1 i fun _t21=>
 AO 2 i fun _t22=>
 AM (g.E+1) t5 fun t25=>
 AK t25 (fun I U=>
 AB prog g.ftotals [v0,I] (fun j V=>
 AO 0 j fun J=>
 AO 1 j fun _t29=>
 AO 2 j fun _t30=>
 BW .i64 B J fun O=>
 K O V) U) T) w4) S) w2) Q) w
def Nt(g:AvK)(v0 v1 v2:Value)(K:Cont)(w:World):Prop:=
 Ba g.tn v2 (fun t5 w1=>
 Ac (g.E+5) t5 (fun y w2=>
 AB prog g.fset [v0,v1,y] (fun _t11 w3=>
 AB prog g.flean [v0,v1] (fun o w4=>
 EU .i64 o (.int .i64 1) fun B=>
 AD B
 (AM g.E t5 fun I=>
 AK I (fun J w5=>
 AB prog g.flean [v0,J] (fun O w6=>
 Bf .i64 O (.int .i64 0) fun t22=>
 AD t22
 (AM g.E t5 fun Q=>
 AK Q (fun t25 w7=>
 AB prog g.flift [v0,t25,(.bool false)] (fun S w8=>
 AM g.E t5 fun T=>
 BB T S (fun w9=>
 Ac (g.E+5) t5 (fun U V=>
 AB prog g.fset [v0,v1,U] (fun _t31 X=>
 AB prog g.flift [v0,v1,(.bool true)] (fun Y Z=>
 K Y Z) X) V) w9) w8) w7) w6)
 (AB prog g.flift [v0,v1,(.bool true)] (fun i a1=>
 K i a1) w6)) w5) w4)
 (Bf .i64 o (.int .i64 (-1)) fun a6=>
 AD a6
 (AM (g.E+1) t5 fun t39=>
 AK t39 (fun a7 a8=>
 AB prog g.flean [v0,a7] (fun ak x=>
 EU .i64 ak (.int .i64 0) fun al=>
 AD al
 (AM (g.E+1) t5 fun an=>
 AK an (fun t45 av=>
 AB prog g.flift [v0,t45,(.bool true)] (fun t46 ax=>
 AM (g.E+1) t5 fun ay=>
 BB ay t46 (fun b0=>
 Ac (g.E+5) t5 (fun t50 b1=>
 AB prog g.fset [v0,v1,t50] (fun _t51 b2=>
 AB prog g.flift [v0,v1,(.bool false)] (fun b3 b4=>
 K b3 b4) b2) b1) b0) ax) av) x)
 (AB prog g.flift [v0,v1,(.bool false)] (fun j b5=>
 K j b5) x)) a8) w4)
 (K v1 w4))) w3) w2) w1) w
def Yx(g:AvK)(v0 v1 v2 v3:Value)(K:Cont)(w:World):Prop:=
 AB prog g.ftotals [v0,v1] (fun x w1=>
 AO 0 x fun t22=>
 AO 1 x fun _t23=>
 AO 2 x fun _t24=>
 AB prog g.ftotals [v0,v3] (fun y w2=>
 AO 0 y fun B=>
 AO 1 y fun _t30=>
 AO 2 y fun _t31=>
 AX .i64 B (.int .i64 1) fun I=>
 EU .i64 t22 I fun J=>
 AD J
 (AB prog g.fat [v0,v1] (fun t39 w3=>
 Al g.tn g.zN (fun i w4=>
 Ab (g.E+5) i t39 (fun w5=>
 AM (g.E+1) i fun O=>
 AK O (fun Q w6=>
 AB prog g.fjoin [v0,Q,v2,v3] (fun t45 w7=>
 AM (g.E+1) i fun t46=>
 BB t46 t45 (fun w8=>
 Ac (g.E+5) i (fun S w9=>
 AB prog g.fbalance [v0,v1,S] (fun t50 T=>
 K t50 T) w9) w8) w7) w6) w5) w4) w3) w2)
 (AX .i64 t22 (.int .i64 1) fun U=>
 EU .i64 B U fun t55=>
 AD t55
 (AB prog g.fat [v0,v3] (fun V X=>
 Al g.tn g.zN (fun j Y=>
 Ab (g.E+5) j V (fun Z=>
 AM g.E j fun a1=>
 AK a1 (fun a6 a7=>
 AB prog g.fjoin [v0,v1,v2,a6] (fun a8 ak=>
 AM g.E j fun al=>
 BB al a8 (fun an=>
 Ac (g.E+5) j (fun av ax=>
 AB prog g.fbalance [v0,v3,av] (fun ay b0=>
 K ay b0) ax) an) ak) a7) Z) Y) X) w2)
 (AB prog g.fat [v0,v2] (fun b1 b2=>
 Al g.tn g.zN (fun o b3=>
 Ab (g.E+5) o b1 (fun b4=>
 AM g.E o fun b5=>
 BB b5 v1 (fun b6=>
 AM (g.E+1) o fun t76=>
 BB t76 v3 (fun b7=>
 Ac (g.E+5) o (fun b8 b9=>
 AB prog g.fset [v0,v2,b8] (fun _t80 ba=>
 K v2 ba) b9) b7) b6) b4) b3) b2) w2))) w1) w
def US(g:AvK)(v0 v1:Value)(K:Cont)(w:World):Prop:=
 AB prog g.fat [v0,v1] (fun t9 X=>
 Al g.tn g.zN (fun i w2=>
 Ab (g.E+5) i t9 (fun Y=>
 AM g.E i fun o=>
 AK o (fun x w4=>
 DK .i64 x (.int .i64 (-1)) fun y=>
 AD y
 (AM (g.E+1) i fun B=>
 AK B (fun I Z=>
 K (.tuple #[I,v1]) Z) w4)
 (AM g.E i fun J=>
 AK J (fun O w6=>
 AB prog g.ffirst [v0,O] (fun j w7=>
 AO 0 j fun Q=>
 AO 1 j fun t22=>
 AM g.E i fun S=>
 BB S Q (fun w8=>
 Ac (g.E+5) i (fun T w9=>
 AB prog g.fbalance [v0,v1,T] (fun U V=>
 K (.tuple #[U,t22]) V) w9) w8) w7) w6) w4)) Y) w2) X) w
def ZD(g:AvK)(v0 v1:Value)(K:Cont)(w:World):Prop:=
 AB prog g.fat [v0,v1] (fun t9 X=>
 Al g.tn g.zN (fun i w2=>
 Ab (g.E+5) i t9 (fun Y=>
 AM (g.E+1) i fun o=>
 AK o (fun x w4=>
 DK .i64 x (.int .i64 (-1)) fun y=>
 AD y
 (AM g.E i fun B=>
 AK B (fun I Z=>
 K (.tuple #[I,v1]) Z) w4)
 (AM (g.E+1) i fun J=>
 AK J (fun O w6=>
 AB prog g.flast [v0,O] (fun j w7=>
 AO 0 j fun Q=>
 AO 1 j fun t22=>
 AM (g.E+1) i fun S=>
 BB S Q (fun w8=>
 Ac (g.E+5) i (fun T w9=>
 AB prog g.fbalance [v0,v1,T] (fun U V=>
 K (.tuple #[U,t22]) V) w9) w8) w7) w6) w4)) Y) w2) X) w
def RG(g:AvK)(v0 v1 v2:Value)(K:Cont)(w:World):Prop:=
 DK .i64 v1 (.int .i64 (-1)) fun j=>
 AD j
 (K v2 w)
 (AB prog g.flast [v0,v1] (fun i y=>
 AO 0 i fun o=>
 AO 1 i fun x=>
 AB prog g.fjoin [v0,o,x,v2] (fun t22 w2=>
 K t22 w2) y) w)
def P0(g:AvK)(v0 v1 v2:Value)(K:Cont)(w:World):Prop:=
 DK .i64 v1 (.int .i64 (-1)) fun fa=>
 AD fa
 (K (.tuple #[(.int .i64 (-1)),(.int .i64 (-1))]) w)
 (AB prog g.fat [v0,v1] (fun t22 w1=>
 Al g.tn g.zN (fun x w2=>
 Ab (g.E+5) x t22 (fun w3=>
 AM g.E x fun t25=>
 AK t25 (fun fe w4=>
 AB prog g.ftotals [v0,fe] (fun ay w5=>
 AO 0 ay fun _t28=>
 AO 1 ay fun ak=>
 AO 2 ay fun _t30=>
 Ax [7] [[],[0],[0,1],[0,1,2],[0,1,2,3],[],[5],[0,1,2,3,4,5,6],[0,1,2,3,4,5,6,7],[0,1,2,3,4,5,6,7,8],[0,1,2,3,4,5,6,7,8],[0,1,2,3,4,5,6,7,8,9],[0,1,2,3,4,5,6,7,8,9,10,11]] w5.drew (fun M St=>
 AJ v0 fun ff=>
 AM 0 ff fun fg=>
 AM 0 fg fun fh=>
 BD (St 4) fh fun fi=>
 AM 0 x fun fj=>
 Mi g (St 6) fj fun fk=>
 BF prog DH fi [fk] (fun t39 w6=>
 Mod (M 7) w5.drew w6/\
 AO 0 t39 fun dk=>
 AO 1 t39 fun _t41=>
 QI .i64 v2 ak fun t45=>
 AD t45
 (AM g.E x fun fo=>
 AK fo (fun fp w7=>
 AB prog g.fsplit [v0,fp,v2] (fun dT w8=>
 AO 0 dT fun fq=>
 AO 1 dT fun t53=>
 AM (g.E+1) x fun fs=>
 AK fs (fun fu w9=>
 AB prog g.fjoin [v0,t53,v1,fu] (fun fv fw=>
 K (.tuple #[fq,fv]) fw) w9) w8) w7) w6)
 (AX .i64 ak dk fun fx=>
 KL .i64 v2 fx fun t66=>
 AD t66
 (AM (g.E+1) x fun fy=>
 AK fy (fun t70 fz=>
 BW .i64 v2 ak fun fC=>
 BW .i64 fC dk fun fD=>
 AB prog g.fsplit [v0,t70,fD] (fun t76 fE=>
 AO 0 t76 fun t77=>
 AO 1 t76 fun fG=>
 AM g.E x fun fH=>
 AK fH (fun fI fJ=>
 AB prog g.fjoin [v0,fI,v1,t77] (fun fK fL=>
 K (.tuple #[fK,fG]) fL) fJ) fE) fz) w6)
 (Aq (fun vs fM=>∀_:Env,
 Dc fM (fun C=>
 AM g.E x fun e1=>
 BK C e1 fun e2=>
 AM (g.E+1) x fun e3=>
 BK C e3 fun e4=>
 ∀e5:World,C e5->
 Ac g.E (nth vs 0) (fun e6 fN=>
 AM 0 x fun e7=>
 Ab g.E e7 e6 (fun b0=>
 Ax [6] [[],[0],[0,1],[0,1,2],[],[],[0,1,2,3,4,5]] b0.drew (fun fO an=>
 AJ v0 fun e8=>
 AM 3 e8 fun e9=>
 BD (an 3) e9 fun ea=>
 EG (an 5) (g.E+5) x fun ec=>
 AB prog g.aPut [ea,v1,ec] (fun _t112 al=>
 Mod (fO 6) b0.drew al/\
 Ax [3,11,13] [[],[],[],[0,1,2],[],[],[5],[5,6],[5,6,7],[],[9],[0,1,2,3,5,6,7,8,9,10],[],[0,1,2,3,4,5,6,7,8,9,10,11,12],[0,1,2,3,4,5,6,7,8,9,10,11,12,13],[0,1,2,3,4,5,6,7,8,9,10,11,12,13,14]] al.drew (fun b1 av=>
 AB prog g.fjoin [v0,e2,v1,(.int .i64 (-1))] (fun ed b2=>
 Mod (b1 3) al.drew b2/\
 AJ v0 fun ee=>
 AM 3 ee fun ef=>
 BD (av 8) ef fun eh=>
 EG (av 9) g.E (nth vs 1) fun ej=>
 Af [(0,g.E),(g.E,1),(g.E+1,1),(g.E+2,1),(g.E+3,1),(g.E+4,1)] g.zN [(0,ej)] fun ek=>
 AB prog g.aTake [eh,ek] (fun en b3=>
 Mod (b1 11) b2 b3/\
 AB prog g.fjoin [v0,(.int .i64 (-1)),en,e4] (fun ep er=>
 Mod (b1 13) b3 er/\
 K (.tuple #[ed,ep]) er) b3) b2) al.drew)) b0.drew)) fN) e5)) (fun J=>
 Ax [10,14,15,16,17] [[],[0],[0,1],[0,1,2],[0,1,2,3],[],[5],[],[],[7,8],[0,1,2,3,4,5,6,7,8,9],[0,1,2,3,4,5,6,7,8,9,10],[0,1,2,3,4,5,6,7,8,9,10,11],[0,1,2,3,4,5,6,7,8,9,10,11],[],[],[0,1,2,3,4,5,6,7,8,9,10,11,12,14,15],[0,1,2,3,4,5,6,7,8,9,10,11,12,13,14,15,16]] w6.drew (fun i ax=>
 AJ v0 fun fP=>
 AM 0 fP fun fQ=>
 AM 1 fQ fun fR=>
 BD (ax 4) fR fun y=>
 AM 0 x fun fS=>
 EG (ax 6) g.E fS fun B=>
 BW .i64 v2 ak fun I=>
 (BF prog DH y [B,I] (fun et O=>
 Mod (i 10) w6.drew O/\
 AO 0 et fun eu=>
 AO 1 et fun ew=>
 (Al g.te g.zE (fun eA b4=>
 Mod (i 14) O b4/\
 Al g.te g.zE (fun eB b5=>
 Mod (i 15) b4 b5/\
 Ab g.E eA eu (fun b6=>
 Mod (i 16) b5 b6/\
 Ab g.E eB ew (fun eC=>
 Mod (i 17) b6 eC/\
 J [eA,eB] eC) b6) b5) b4) O)/\
 (Al g.te g.zE (fun Q b7=>
 Mod (i 15) O b7/\
 Al g.te g.zE (fun S b8=>
 Mod (i 14) b7 b8/\
 Ab g.E S eu (fun b9=>
 Mod (i 16) b8 b9/\
 Ab g.E Q ew (fun eI=>
 Mod (i 17) b9 eI/\
 J [S,Q] eI) b9) b8) b7) O)) w6.drew)/\
 ((Al g.te g.zE (fun j T=>
 Mod (i 14) w6.drew T/\
 (BF prog DH y [B,I] (fun U ba=>
 Mod (i 10) T ba/\
 AO 0 U fun bc=>
 AO 1 U fun bd=>
 Al g.te g.zE (fun V bk=>
 Mod (i 15) ba bk/\
 Ab g.E j bc (fun bl=>
 Mod (i 16) bk bl/\
 Ab g.E V bd (fun eL=>
 Mod (i 17) bl eL/\
 J [j,V] eL) bl) bk) ba) T)/\
 (Al g.te g.zE (fun X bp=>
 Mod (i 15) T bp/\
 BF prog DH y [B,I] (fun Y bs=>
 Mod (i 10) bp bs/\
 AO 0 Y fun bx=>
 AO 1 Y fun c4=>
 Ab g.E j bx (fun c6=>
 Mod (i 16) bs c6/\
 Ab g.E X c4 (fun eN=>
 Mod (i 17) c6 eN/\
 J [j,X] eN) c6) bs) bp) T)) w6.drew)/\
 (Al g.te g.zE (fun o Z=>
 Mod (i 15) w6.drew Z/\
 (BF prog DH y [B,I] (fun a1 c7=>
 Mod (i 10) Z c7/\
 AO 0 a1 fun c8=>
 AO 1 a1 fun c9=>
 Al g.te g.zE (fun a6 ca=>
 Mod (i 14) c7 ca/\
 Ab g.E a6 c8 (fun cc=>
 Mod (i 16) ca cc/\
 Ab g.E o c9 (fun eR=>
 Mod (i 17) cc eR/\
 J [a6,o] eR) cc) ca) c7) Z)/\
 (Al g.te g.zE (fun a7 cd=>
 Mod (i 14) Z cd/\
 BF prog DH y [B,I] (fun a8 ch=>
 Mod (i 10) cd ch/\
 AO 0 a8 fun cn=>
 AO 1 a8 fun cv=>
 Ab g.E a7 cn (fun cx=>
 Mod (i 16) ch cx/\
 Ab g.E o cv (fun eX=>
 Mod (i 17) cx eX/\
 J [a7,o] eX) cx) ch) cd) Z)) w6.drew))))))) w5.drew)) w4) w3) w2) w1) w)
def Vv(g:AvK)(v0 v1:Value)(K:Cont)(w:World):Prop:=
 DK .i64 v1 (.int .i64 (-1)) fun J=>
 AD J
 (K (.tuple #[]) w)
 (AB prog g.fat [v0,v1] (fun t9 O=>
 Al g.tn g.zN (fun t4 w2=>
 Ab (g.E+5) t4 t9 (fun Q=>
 AM g.E t4 fun i=>
 AK i (fun j w4=>
 AB prog g.fdrop [v0,j] (fun _t13 S=>
 AM (g.E+1) t4 fun o=>
 AK o (fun x T=>
 AB prog g.fdrop [v0,x] (fun _t17 U=>
 AJ v0 fun y=>
 AM 3 y fun B=>
 AK B (fun I V=>
 AB prog g.aFree [I,v1] (fun _t23 X=>
 K (.tuple #[]) X) V) U) T) S) w4) Q) w2) O) w)
def ZG(g:AvK)(v0 v1:Value)(K:Cont)(w:World):Prop:=
 Al g.te g.zE (fun t4 B=>
 AB prog g.fat [v0,v1] (fun I w2=>
 runK prog (Instr.field g.tn I 0) (fun t9 J=>
 Al g.te g.zE (fun t5 w4=>
 Ab g.E t5 t9 (fun O=>
 AJ v0 fun i=>
 AM 3 i fun j=>
 AK j (fun o Q=>
 AB prog g.aFree [o,v1] (fun _t15 S=>
 Ac g.E t5 (fun x T=>
 Ab g.E t4 x (fun U=>
 Ac g.E t4 (fun V y=>
 K V y) U) T) S) Q) O) w4) J) w2) B) w
def RY(g:AvK)(v0 v1:Value)(K:Cont)(w:World):Prop:=
 Aj v1 fun av=>
 Ay [(.slice none 0 0),(.int .i64 0)] (fun vs i w1=>∀_:Env,
 Bf .i64 (nth vs 1) av fun ax=>
 AD ax
 (Be g.E v1 (nth vs 1) fun ay=>
 Ac g.E ay (fun b0 w2=>
 Al g.te g.zE (fun t6 w3=>
 Ab g.E t6 b0 (fun w4=>
 Ax [6] [[],[0],[0,1],[0,1,2],[0,1,2,3],[],[0,1,2,3,4,5],[0,1,2,3,4,5,6],[0,1,2,3,4,5,6,7],[0,1,2,3,4,5,6,7],[0,1,2,3,4,5,6,7,8],[0,1,2,3,4,5,6,7,8,9,10]] w4.drew (fun M St=>
 AJ v0 fun b1=>
 AM 0 b1 fun b2=>
 AM 0 b2 fun t22=>
 BD (St 4) t22 fun b3=>
 EG (St 5) g.E t6 fun b4=>
 BF prog DH b3 [b4] (fun t25 B=>
 Mod (M 6) w4.drew B/\
 AO 0 t25 fun b5=>
 AO 1 t25 fun _t27=>
 DK .i64 b5 (.int .i64 0) fun b6=>
 AD b6
 (AX .i64 (nth vs 1) (.int .i64 1) fun b7=>
 i [(nth vs 0),b7] B)
 (Aq (fun _vs_1 w6=>∀_:Env,
 Ac g.E t6 (fun t55 w7=>
 Bc g.te g.E 1 g.zE [(0,t55)] (fun b8 w8=>
 runK prog (Builtin.append_ #[g.ts,g.ts] g.ts [(nth vs 0),b8].toArray) (fun b9 w9=>
 AX .i64 (nth vs 1) (.int .i64 1) fun O=>
 i [b9,O] w9) w8) w7) w6) (fun J=>
 Aj (nth vs 0) fun ba=>
 BW .i64 ba (.int .i64 1) fun Q=>
 KL .i64 Q (.int .i64 0) fun bc=>
 AD bc
 (Aq (fun I a1=>∀_:Env,
 AD (nth I 1)
 (Ac g.E (nth I 0) (fun bd bk=>
 Be g.E (nth vs 0) Q fun t53=>
 Ab g.E t53 bd (fun bl=>
 AX .i64 (nth vs 1) (.int .i64 1) fun S=>
 i [(nth vs 0),S] bl) bk) a1)
 (J [] a1)) (fun a6=>
 Ax [10,14,15] [[],[0],[0,1],[0,1,2],[0,1,2,3],[],[],[5,6],[5,6,7],[],[0,1,2,3,4,5,6,7,8,9],[0,1,2,3,4,5,6,7,8,9,10],[0,1,2,3,4,5,6,7,8,9,10,11],[0,1,2,3,4,5,6,7,8,9,10,11],[],[0,1,2,3,4,5,6,7,8,9,10,11,12,14],[0,1,2,3,4,5,6,7,8,9,10,11,12,13,14,15]] B.drew (fun j o=>
 AJ v0 fun bp=>
 AM 0 bp fun bs=>
 AM 2 bs fun t39=>
 BD (o 4) t39 fun a7=>
 Be g.E (nth vs 0) Q fun bx=>
 EG (o 8) g.E bx fun a8=>
 EG (o 9) g.E t6 fun t45=>
 (BF prog DH a7 [a8,t45] (fun t46 T=>
 Mod (j 10) B.drew T/\
 AO 0 t46 fun c4=>
 AO 1 t46 fun c6=>
 Al g.te g.zE (fun ak U=>
 Mod (j 14) T U/\
 Ab g.E ak c4 (fun al=>
 Mod (j 15) U al/\
 a6 [ak,c6] al) U) T) B.drew)/\
 (Al g.te g.zE (fun x V=>
 Mod (j 14) B.drew V/\
 BF prog DH a7 [a8,t45] (fun y X=>
 Mod (j 10) V X/\
 AO 0 y fun Y=>
 AO 1 y fun Z=>
 Ab g.E x Y (fun an=>
 Mod (j 15) X an/\
 a6 [x,Z] an) X) V) B.drew))))
 (J [] B)))) w4.drew)) w3) w2) w1)
 (K (nth vs 0) w1)) w
def PB(g:AvK)(v0 v1 v2 v3:Value)(K:Cont)(w:World):Prop:=
 AJ v0 fun t22=>
 AM 4 t22 fun Y=>
 AK Y (fun Z w1=>
 AB prog g.fsplit [v0,Z,v1] (fun O w2=>
 AO 0 O fun o=>
 AO 1 O fun a1=>
 BW .i64 v2 v1 fun a6=>
 AB prog g.fsplit [v0,a1,a6] (fun Q w3=>
 AO 0 Q fun a7=>
 AO 1 Q fun x=>
 AB prog g.fdrop [v0,a7] (fun _t40 w4=>
 Aq (fun vs w5=>∀_:Env,
 runK prog (Builtin.append_ #[g.ts,g.ts] g.ts [(nth vs 1),v3].toArray) (fun S w6=>
 Aq (fun j w7=>∀_:Env,
 AB prog g.fmelded [v0,(nth j 1)] (fun t76 w8=>
 Aj t76 fun t77=>
 Ay [(nth vs 0),(.int .i64 0)] (fun i y w9=>∀_:Env,
 Bf .i64 (nth i 1) t77 fun a8=>
 AD a8
 (Be g.E t76 (nth i 1) fun ak=>
 Ac g.E ak (fun al an=>
 Al g.te g.zE (fun T av=>
 Ab g.E T al (fun B=>
 Ax [8,9] [[],[],[],[2],[2,3],[2,3,4],[],[6],[2,3,4,5,6,7],[0,1,2,3,4,5,6,7,8],[0,1,2,3,4,5,6,7,8,9]] B.drew (fun M St=>
 AJ v0 fun ax=>
 AM 3 ax fun ay=>
 BD (St 5) ay fun b0=>
 EG (St 6) g.E T fun b1=>
 Af [(0,g.E),(g.E,1),(g.E+1,1),(g.E+2,1),(g.E+3,1),(g.E+4,1)] g.zN [(0,b1)] fun b2=>
 AB prog g.aTake [b0,b2] (fun b3 I=>
 Mod (M 8) B.drew I/\
 AB prog g.fjoin [v0,(nth i 0),b3,(.int .i64 (-1))] (fun b4 U=>
 Mod (M 9) I U/\
 AX .i64 (nth i 1) (.int .i64 1) fun b5=>
 y [b4,b5] U) I) B.drew)) av) an) w9)
 (AB prog g.fconcat [v0,(nth i 0),(nth j 0)] (fun b6 b7=>
 AJ v0 fun b8=>
 AM 4 b8 fun b9=>
 BB b9 b6 (fun ba=>
 K (.tuple #[]) ba) b7) w9)) w8) w7) (fun V=>
 Dx .i64 x (.int .i64 (-1)) fun bc=>
 AD bc
 (AB prog g.ffirst [v0,x] (fun X bd=>
 AO 0 X fun bk=>
 AO 1 X fun t66=>
 AB prog g.fpick [v0,t66] (fun bl bp=>
 Bc g.te g.E 1 g.zE [(0,bl)] (fun bs bx=>
 runK prog (Builtin.append_ #[g.ts,g.ts] g.ts [S,bs].toArray) (fun c4 c6=>
 V [bk,c4] c6) bx) bp) bd) w6)
 (V [x,S] w6))) w5) (fun J=>
 Dx .i64 o (.int .i64 (-1)) fun c7=>
 AD c7
 (AB prog g.flast [v0,o] (fun t46 c8=>
 AO 0 t46 fun c9=>
 AO 1 t46 fun ca=>
 AB prog g.fpick [v0,ca] (fun t53 cc=>
 Bc g.te g.E 1 g.zE [(0,t53)] (fun cd ch=>
 runK prog (Builtin.append_ #[g.ts,g.ts] g.ts [(.slice none 0 0),cd].toArray) (fun t55 cn=>
 J [c9,t55] cn) ch) cc) c8) w4)
 (J [o,(.slice none 0 0)] w4))) w3) w2) w1) w
def Tl(g:AvK)(v0 v1 v2 v3 v4:Value)(K:Cont)(w:World):Prop:=
 Aq (fun _vs w1=>∀_:Env,
 AB prog g.fat [v0,v1] (fun bl w2=>
 Al g.tn g.zN (fun j w3=>
 Ab (g.E+5) j bl (fun w4=>
 AM g.E j fun bp=>
 AK bp (fun bs w5=>
 AB prog g.ftotals [v0,bs] (fun S w6=>
 AO 0 S fun _t35=>
 AO 1 S fun i=>
 AO 2 S fun _t37=>
 Ax [7] [[],[0],[0,1],[0,1,2],[0,1,2,3],[],[5],[0,1,2,3,4,5,6],[0,1,2,3,4,5,6,7],[0,1,2,3,4,5,6,7,8],[0,1,2,3,4,5,6,7,8],[0,1,2,3,4,5,6,7,8,9],[0,1,2,3,4,5,6,7,8,9,10,11]] w6.drew (fun M St=>
 AJ v0 fun bx=>
 AM 0 bx fun c4=>
 AM 0 c4 fun c6=>
 BD (St 4) c6 fun c7=>
 AM 0 j fun c8=>
 Mi g (St 6) c8 fun t45=>
 BF prog DH c7 [t45] (fun t46 w7=>
 Mod (M 7) w6.drew w7/\
 AO 0 t46 fun x=>
 AO 1 t46 fun _t48=>
 Aq (fun _vs_1 w8=>∀_:Env,
 BW .i64 v2 i fun t66=>
 J3 .i64 t66 (.int .i64 0) fun T=>
 BW .i64 v3 i fun t70=>
 J8 .i64 t70 x fun U=>
 Aq (fun _vs_2 w9=>∀_:Env,
 AX .i64 i x fun Y=>
 QI .i64 v3 Y fun Z=>
 AD Z
 (K (.bool true) w9)
 (AM (g.E+1) j fun a1=>
 AK a1 (fun a6 c9=>
 BW .i64 v2 i fun a7=>
 BW .i64 a7 x fun a8=>
 J3 .i64 a8 (.int .i64 0) fun ak=>
 BW .i64 v3 i fun al=>
 BW .i64 al x fun an=>
 AB prog g.fover [v0,a6,ak,an,v4] (fun av ca=>
 K av ca) c9) w9)) (fun ax=>
 Bf .i64 T U fun cc=>
 AD cc
 (AM 0 j fun t76=>
 Ac g.E t76 (fun t77 cd=>
 Al g.te g.zE (fun o ch=>
 Ab g.E o t77 (fun y=>
 Aq (fun _vs_3 B=>∀_:Env,
 Aq (fun _vs_4 cn=>∀_:Env,
 Ac g.E o (fun ay cv=>
 CN prog DH v4 [ay] (fun b0 b1=>
 Bs b0 fun b2=>
 AD b2
 (K (.bool false) b1)
 (ax [] b1)) cv) cn) (fun b3=>
 EU .i64 T (.int .i64 0) fun cx=>
 AD cx
 (Ax [7,11] [[],[0],[0,1],[0,1,2],[0,1,2,3],[],[],[0,1,2,3,4,5,6],[0,1,2,3,4,5,6,7],[0,1,2,3,4,5,6,7,8],[0,1,2,3,4,5,6,7,8],[0,1,2,3,4,5,6,7,8,9,10]] B.drew (fun b4 I=>
 AJ v0 fun dk=>
 AM 0 dk fun dT=>
 AM 1 dT fun e1=>
 BD (I 4) e1 fun e2=>
 EG (I 5) g.E o fun b5=>
 BF prog DH e2 [b5,T] (fun O V=>
 Mod (b4 7) B.drew V/\
 AO 0 O fun _t103=>
 AO 1 O fun b6=>
 Ab g.E o b6 (fun b7=>
 Mod (b4 11) V b7/\
 b3 [] b7) V) B.drew))
 (b3 [] B))) (fun b8=>
 Bf .i64 U x fun e3=>
 AD e3
 (Ax [7,11] [[],[0],[0,1],[0,1,2],[0,1,2,3],[],[],[0,1,2,3,4,5,6],[0,1,2,3,4,5,6,7],[0,1,2,3,4,5,6,7,8],[0,1,2,3,4,5,6,7,8],[0,1,2,3,4,5,6,7,8,9]] y.drew (fun b9 Q=>
 AJ v0 fun e4=>
 AM 0 e4 fun e5=>
 AM 1 e5 fun e6=>
 BD (Q 4) e6 fun e7=>
 EG (Q 5) g.E o fun e8=>
 BF prog DH e7 [e8,U] (fun ba X=>
 Mod (b9 7) y.drew X/\
 AO 0 ba fun e9=>
 AO 1 ba fun _t91=>
 Ab g.E o e9 (fun bc=>
 Mod (b9 11) X bc/\
 b8 [] bc) X) y.drew))
 (b8 [] y))) ch) cd) w8)
 (ax [] w8))) (fun bd=>
 Bf .i64 v2 i fun ea=>
 AD ea
 (AM g.E j fun ec=>
 AK ec (fun t55 ed=>
 J8 .i64 v3 i fun ee=>
 AB prog g.fover [v0,t55,v2,ee,v4] (fun ef bk=>
 Bs ef fun eh=>
 AD eh
 (K (.bool false) bk)
 (bd [] bk)) ed) w7)
 (bd [] w7))) w6.drew)) w5) w4) w3) w2) w1) (fun J=>
 DK .i64 v1 (.int .i64 (-1)) fun ej=>
 AD ej
 (K (.bool true) w)
 (KL .i64 v2 v3 fun t25=>
 AD t25
 (K (.bool true) w)
 (J [] w)))
def U0(g:AvK)(v0 v1 v2:Value)(K:Cont)(w:World):Prop:=
 FO g.tt v0 (fun t3 i=>
 FO 3 v1 (fun t4 w2=>
 FO 3 v2 (fun t5 j=>
 K (.func (.func g.fOverf) #[] #[t3,t4,t5]) j) w2) i) w
def Tq(g:AvK)(v0 v1 v2 v3:Value)(K:Cont)(w:World):Prop:=
 Ax [8] [[],[],[1],[1,2],[1,2,3],[],[],[],[0,1,2,3,4,5,6,7]] w.drew (fun M i=>
 BD (i 0) v1 fun t5=>
 BD (i 1) v1 fun y=>
 AJ y fun B=>
 AM 4 B fun E=>
 BD (i 4) E fun t9=>
 BD (i 5) v2 fun j=>
 BD (i 6) v3 fun o=>
 AB prog g.fover [t5,t9,j,o,v0] (fun _t13 x=>
 Mod (M 8) w.drew x/\
 K (.tuple #[]) x) w.drew)
def Yr(g:AvK)(v0:Value)(K:Cont)(w:World):Prop:=
 AJ v0 fun t9=>
 AM 4 t9 fun j=>
 AK j (fun o y=>
 AB prog g.ftotals [v0,o] (fun i w2=>
 AO 0 i fun _t13=>
 AO 1 i fun x=>
 AO 2 i fun _t15=>
 K x w2) y) w
def Tp(g:AvK)(v0 v1:Value)(K:Cont)(w:World):Prop:=
 Ba g.tn v1 (fun t3 w1=>
 CY v0 fun b8=>
 AD (.bool b8)
 (K (.int .i64 (-1)) w1)
 (AJ v0 fun I=>
 AM 1 I fun J=>
 AK J (fun O w2=>
 Aj O fun Q=>
 BW .i64 Q (.int .i64 1) fun j=>
 KL .i64 j (.int .i64 0) fun S=>
 AD S
 (AJ v0 fun T=>
 AM 1 T fun U=>
 AK U (fun V w3=>
 Be 1 V j fun t22=>
 AK t22 (fun y w4=>
 AJ v0 fun X=>
 AM 1 X fun Y=>
 AK Y (fun Z w5=>
 runK prog (Instr.sliceAt 145 Z none (some j) none) (fun a1 w6=>
 AJ v0 fun a6=>
 AM 1 a6 fun a7=>
 BB a7 a1 (fun w7=>
 Ax [8] [[],[0],[0,1],[0,1,2],[],[],[5],[0,1,2,3,4,5,6],[0,1,2,3,4,5,6,7]] w7.drew (fun M St=>
 AJ v0 fun a8=>
 AM 0 a8 fun ak=>
 BD (St 3) ak fun al=>
 EG (St 5) (g.E+5) t3 fun an=>
 Af [(0,g.E+5),(g.E+5,1)] g.zP [(0,an),(1,(.bool true))] fun t39=>
 Be (g.E+6) al y fun av=>
 Ab (g.E+6) av t39 (fun w8=>
 Mod (M 8) w7.drew w8/\
 K y w8) w7.drew)) w6) w5) w4) w3) w2)
 (Ax [7,8,11] [[],[],[1],[1,2],[1,2,3],[],[5],[5,6],[1,2,3,4,5,6,7],[0,1,2,3,4,5,6,7,8],[0,1,2,3,4,5,6,7,8,9],[0,1,2,3,4,5,6,7,8,9,10]] w2.drew (fun o i=>
 AJ v0 fun ax=>
 AM 0 ax fun t45=>
 BD (i 4) t45 fun t46=>
 EG (i 5) (g.E+5) t3 fun ay=>
 Af [(0,g.E+5),(g.E+5,1)] g.zP [(0,ay),(1,(.bool true))] fun b0=>
 Bc g.tp (g.E+6) 1 g.zP [(0,b0)] (fun b1 w9=>
 Mod (o 7) w2.drew w9/\
 runK prog (Builtin.append_ #[g.tps,g.tps] g.tps [t46,b1].toArray) (fun t50 x=>
 Mod (o 8) w9 x/\
 AJ v0 fun b2=>
 AM 0 b2 fun b3=>
 BB b3 t50 (fun B=>
 Mod (o 11) x B/\
 AJ v0 fun b4=>
 AM 0 b4 fun t55=>
 AK t55 (fun b5 b6=>
 Aj b5 fun b7=>
 BW .i64 b7 (.int .i64 1) fun b9=>
 K b9 b6) B) x) w9) w2.drew))) w1)) w
def RM(g:AvK)(v0 v1:Value)(K:Cont)(w:World):Prop:=
 CY v0 fun X=>
 AD (.bool X)
 (K (.int .i64 1) w)
 (Bf .i64 v1 (.int .i64 0) fun i=>
 AD i
 (K (.int .i64 5) w)
 (AJ v0 fun j=>
 AM 0 j fun o=>
 AK o (fun x U=>
 Aj x fun y=>
 KL .i64 v1 y fun B=>
 AD B
 (K (.int .i64 5) U)
 (AJ v0 fun t22=>
 AM 0 t22 fun I=>
 AK I (fun J w2=>
 Be (g.E+6) J v1 fun O=>
 AM (g.E+5) O fun Q=>
 AK Q (fun S V=>
 Bs S fun T=>
 AD T
 (K (.int .i64 5) V)
 (K (.int .i64 0) V)) w2) U)) w))
def UE(g:AvK)(v0 v1:Value)(K:Cont)(w:World):Prop:=
 AB prog g.aasked [v0,v1] (fun T U=>
 Dx .i64 T (.int .i64 0) fun i=>
 AD i
 (K T U)
 (AJ v0 fun j=>
 AM 0 j fun o=>
 AK o (fun x w2=>
 Af [(0,g.E+5),(g.E+5,1)] g.zP [] fun y=>
 Be (g.E+6) x v1 fun B=>
 Ab (g.E+6) B y (fun V=>
 AJ v0 fun I=>
 AM 1 I fun t22=>
 AK t22 (fun J w4=>
 Bc 3 1 1 [(.int .i64 0)] [(0,v1)] (fun t25 X=>
 runK prog (Builtin.append_ #[145,145] 145 [J,t25].toArray) (fun O Y=>
 AJ v0 fun Q=>
 AM 1 Q fun S=>
 BB S O (fun Z=>
 K (.int .i64 0) Z) Y) X) w4) V) w2) U)) w
def dX(g:AvK)(v0 v1:Value)(K:Cont)(w:World):Prop:=
 Al g.tn g.zN (fun t4 S=>
 AB prog g.aasked [v0,v1] (fun i w2=>
 Dx .i64 i (.int .i64 0) fun o=>
 AD o
 (Al g.tn g.zN (fun T U=>
 Ac (g.E+5) T (fun x w4=>
 Ab (g.E+5) t4 x (fun V=>
 Ac (g.E+5) t4 (fun X Y=>
 K (.tuple #[X,i]) Y) V) w4) U) w2)
 (AJ v0 fun y=>
 AM 0 y fun B=>
 AK B (fun I Z=>
 Be (g.E+6) I v1 fun J=>
 AM 0 J fun O=>
 Ac (g.E+5) O (fun t22 w8=>
 Ab (g.E+5) t4 t22 (fun w9=>
 Ac (g.E+5) t4 (fun j Q=>
 K (.tuple #[j,(.int .i64 0)]) Q) w9) w8) Z) w2)) S) w
def Y7(g:AvK)(v0 v1 v2:Value)(K:Cont)(w:World):Prop:=
 Ba g.tn v2 (fun t5 S=>
 AB prog g.aasked [v0,v1] (fun i w2=>
 Dx .i64 i (.int .i64 0) fun j=>
 AD j
 (K i w2)
 (Ax [8] [[],[0],[0,1],[0,1,2],[],[],[0,1,2,3,4,5],[0,1,2,3,4,5,6],[0,1,2,3,4,5,6,7]] w2.drew (fun M O=>
 AJ v0 fun o=>
 AM 0 o fun x=>
 BD (O 3) x fun y=>
 EG (O 5) (g.E+5) t5 fun B=>
 Be (g.E+6) y v1 fun I=>
 AM 0 I fun J=>
 Ab (g.E+5) J B (fun Q=>
 Mod (M 8) w2.drew Q/\
 K (.int .i64 0) Q) w2.drew))) S) w
def Ys(g:AvK)(v0:Value)(K:Cont)(w:World):Prop:=
 Ba g.tk v0 (fun o i=>
 Ax [1,3] [[],[],[0,1],[0,1,2],[0,1,2,3]] i.drew (fun M x=>
 EG (x 0) 3 o fun t3=>
 AB prog g.aNew [] (fun t4 w2=>
 Mod (M 1) i.drew w2/\
 Af [(0,3),(3,1),(4,1)] [.nilFunc,.nilFunc,.nilFunc,(.pointer none),(.int .i64 0)] [(0,t3),(1,t4),(2,(.int .i64 (-1)))] fun t5=>
 Ba g.tT t5 (fun y j=>
 Mod (M 3) w2 j/\
 K y j) w2) i.drew)) w
def ZH(g:AvK)(K:Cont)(w:World):Prop:=
 Af [(0,1),(1,1)] [(.slice none 0 0),(.slice none 0 0)] [] fun i=>
 Ba g.tA i (fun j o=>
 K j o) w
def Tx(g:AvK)(v0:Value)(K:Cont)(w:World):Prop:=
 AJ v0 fun t9=>
 AM 4 t9 fun j=>
 AK j (fun o y=>
 AB prog g.ftotals [v0,o] (fun i w2=>
 AO 0 i fun _t13=>
 AO 1 i fun _t14=>
 AO 2 i fun x=>
 K x w2) y) w
def TU(g:AvK)(v0 v1 v2:Value)(K:Cont)(w:World):Prop:=
 AJ v0 fun J=>
 AM 4 J fun O=>
 AK O (fun Q w1=>
 Ay [v1,(.int .i64 0),Q] (fun vs i w2=>∀_:Env,
 Dx .i64 (nth vs 2) (.int .i64 (-1)) fun S=>
 AD S
 (AB prog g.fat [v0,(nth vs 2)] (fun t22 w3=>
 Al g.tn g.zN (fun x w4=>
 Ab (g.E+5) x t22 (fun w5=>
 AM g.E x fun t25=>
 AK t25 (fun T w6=>
 AB prog g.ftotals [v0,T] (fun o U=>
 AO 0 o fun _t28=>
 AO 1 o fun j=>
 AO 2 o fun y=>
 Ax [7] [[],[0],[0,1],[0,1,2],[0,1,2,3],[],[5],[0,1,2,3,4,5,6],[0,1,2,3,4,5,6,7],[0,1,2,3,4,5,6,7,8],[0,1,2,3,4,5,6,7,8],[0,1,2,3,4,5,6,7,8,9],[0,1,2,3,4,5,6,7,8,9,10,11]] U.drew (fun M St=>
 AJ v0 fun V=>
 AM 0 V fun X=>
 AM 0 X fun Y=>
 BD (St 4) Y fun Z=>
 AM 0 x fun a1=>
 Mi g (St 6) a1 fun a6=>
 BF prog DH Z [a6] (fun t39 I=>
 Mod (M 7) U.drew I/\
 AO 0 t39 fun B=>
 AO 1 t39 fun a7=>
 QI .i64 (nth vs 0) j fun a8=>
 AD a8
 (AM g.E x fun ak=>
 AK ak (fun al w9=>
 i [(nth vs 0),(nth vs 1),al] w9) I)
 (AX .i64 j B fun an=>
 Bf .i64 (nth vs 0) an fun av=>
 AD av
 (AX .i64 (nth vs 1) y fun ax=>
 AM 0 x fun t70=>
 Ac g.E t70 (fun ay b0=>
 BW .i64 (nth vs 0) j fun b1=>
 CN prog DH v2 [ay,b1] (fun b2 b3=>
 AX .i64 ax b2 fun t76=>
 K t76 b3) b0) I)
 (AX .i64 y a7 fun t45=>
 AX .i64 (nth vs 1) t45 fun t46=>
 AX .i64 j B fun t50=>
 BW .i64 (nth vs 0) t50 fun b4=>
 AM (g.E+1) x fun b5=>
 AK b5 (fun t53 b6=>
 i [b4,t46,t53] b6) I))) U.drew)) w6) w5) w4) w3) w2)
 (K (nth vs 1) w2)) w1) w
def Y9(g:AvK)(v0 v1 v2:Value)(K:Cont)(w:World):Prop:=
 AJ v0 fun I=>
 AM 4 I fun O=>
 AK O (fun Q w1=>
 Ay [v1,(.int .i64 0),Q] (fun vs i w2=>∀_:Env,
 Aq (fun _vs_1 w3=>∀_:Env,
 AB prog g.fat [v0,(nth vs 2)] (fun S w4=>
 Al g.tn g.zN (fun t9 w5=>
 Ab (g.E+5) t9 S (fun w6=>
 AM g.E t9 fun T=>
 AK T (fun U w7=>
 AB prog g.ftotals [v0,U] (fun o V=>
 AO 0 o fun _t33=>
 AO 1 o fun x=>
 AO 2 o fun j=>
 Ax [7] [[],[0],[0,1],[0,1,2],[0,1,2,3],[],[5],[0,1,2,3,4,5,6],[0,1,2,3,4,5,6,7],[0,1,2,3,4,5,6,7,8],[0,1,2,3,4,5,6,7,8],[0,1,2,3,4,5,6,7,8,9],[0,1,2,3,4,5,6,7,8,9,10,11]] V.drew (fun M St=>
 AJ v0 fun X=>
 AM 0 X fun t39=>
 AM 0 t39 fun Y=>
 BD (St 4) Y fun Z=>
 AM 0 t9 fun a1=>
 Mi g (St 6) a1 fun a6=>
 BF prog DH Z [a6] (fun y B=>
 Mod (M 7) V.drew B/\
 AO 0 y fun t45=>
 AO 1 y fun t46=>
 Bf .i64 (nth vs 0) j fun a7=>
 AD a7
 (AM g.E t9 fun a8=>
 AK a8 (fun ak al=>
 i [(nth vs 0),(nth vs 1),ak] al) B)
 (AX .i64 j t46 fun an=>
 Bf .i64 (nth vs 0) an fun t70=>
 AD t70
 (AX .i64 (nth vs 1) x fun av=>
 AM 0 t9 fun ax=>
 Ac g.E ax (fun t76 ay=>
 BW .i64 (nth vs 0) j fun b0=>
 CN prog DH v2 [t76,b0] (fun b1 b2=>
 AX .i64 av b1 fun b3=>
 K (.tuple #[b3,(.bool true)]) b2) ay) B)
 (AX .i64 x t45 fun t50=>
 AX .i64 (nth vs 1) t50 fun b4=>
 AX .i64 j t46 fun t55=>
 BW .i64 (nth vs 0) t55 fun b5=>
 AM (g.E+1) t9 fun b6=>
 AK b6 (fun b7 b8=>
 i [b5,b4,b7] b8) B))) V.drew)) w7) w6) w5) w4) w3) (fun J=>
 KL .i64 (nth vs 0) (.int .i64 0) fun b9=>
 AD b9
 (Dx .i64 (nth vs 2) (.int .i64 (-1)) fun ba=>
 AD ba
 (J [] w2)
 (K (.tuple #[(.int .i64 0),(.bool false)]) w2))
 (K (.tuple #[(.int .i64 0),(.bool false)]) w2))) w1) w
def Ni(g:AvK)(v0 v1 v2:Value)(K:Cont)(w:World):Prop:=
 DK .i64 v1 (.int .i64 (-1)) fun b7=>
 AD b7
 (K (.tuple #[(.int .i64 (-1)),(.int .i64 (-1))]) w)
 (AB prog g.fat [v0,v1] (fun t22 w1=>
 Al g.tn g.zN (fun i w2=>
 Ab (g.E+5) i t22 (fun w3=>
 AM g.E i fun t25=>
 AK t25 (fun b8 w4=>
 AB prog g.ftotals [v0,b8] (fun B w5=>
 AO 0 B fun _t28=>
 AO 1 B fun j=>
 AO 2 B fun _t30=>
 Ax [7] [[],[0],[0,1],[0,1,2],[0,1,2,3],[],[5],[0,1,2,3,4,5,6],[0,1,2,3,4,5,6,7],[0,1,2,3,4,5,6,7,8],[0,1,2,3,4,5,6,7,8],[0,1,2,3,4,5,6,7,8,9],[0,1,2,3,4,5,6,7,8,9,10,11]] w5.drew (fun M St=>
 AJ v0 fun b9=>
 AM 0 b9 fun ba=>
 AM 0 ba fun bc=>
 BD (St 4) bc fun bd=>
 AM 0 i fun bk=>
 Mi g (St 6) bk fun bl=>
 BF prog DH bd [bl] (fun t39 S=>
 Mod (M 7) w5.drew S/\
 AO 0 t39 fun T=>
 AO 1 t39 fun _t41=>
 QI .i64 v2 j fun t45=>
 AD t45
 (AM g.E i fun bp=>
 AK bp (fun bs w7=>
 AB prog g.fsplit [v0,bs,v2] (fun U w8=>
 AO 0 U fun bx=>
 AO 1 U fun t53=>
 AM (g.E+1) i fun c4=>
 AK c4 (fun c6 w9=>
 AB prog g.fjoin [v0,t53,v1,c6] (fun c7 c8=>
 K (.tuple #[bx,c7]) c8) w9) w8) w7) S)
 (AX .i64 j T fun c9=>
 KL .i64 v2 c9 fun t66=>
 AD t66
 (AM (g.E+1) i fun ca=>
 AK ca (fun t70 cc=>
 BW .i64 v2 j fun cd=>
 BW .i64 cd T fun ch=>
 AB prog g.fsplit [v0,t70,ch] (fun t76 cn=>
 AO 0 t76 fun t77=>
 AO 1 t76 fun cv=>
 AM g.E i fun cx=>
 AK cx (fun dk dT=>
 AB prog g.fjoin [v0,dk,v1,t77] (fun e1 e2=>
 K (.tuple #[e1,cv]) e2) dT) cn) cc) S)
 (Ax [10] [[],[0],[0,1],[0,1,2],[0,1,2,3],[],[5],[],[],[7,8],[0,1,2,3,4,5,6,7,8,9],[0,1,2,3,4,5,6,7,8,9,10],[0,1,2,3,4,5,6,7,8,9,10,11],[0,1,2,3,4,5,6,7,8,9,10,11],[0,1,2,3,4,5,6,7,8,9,10,11,12],[0,1,2,3,4,5,6,7,8,9,10,11,12,13,14]] S.drew (fun e3 x=>
 AJ v0 fun e4=>
 AM 0 e4 fun e5=>
 AM 1 e5 fun e6=>
 BD (x 4) e6 fun e7=>
 AM 0 i fun e8=>
 BD (x 6) e8 fun e9=>
 BW .i64 v2 j fun ea=>
 BF prog DH e7 [e9,ea] (fun V X=>
 Mod (e3 10) S.drew X/\
 AO 0 V fun ec=>
 AO 1 V fun ed=>
 Dc X (fun C=>
 AM g.E i fun Y=>
 BK C Y fun Z=>
 AM (g.E+1) i fun a1=>
 BK C a1 fun a6=>
 ∀a7:World,C a7->
 AM 0 i fun a8=>
 BB a8 ec (fun I=>
 Ax [6] [[],[0],[0,1],[0,1,2],[],[],[0,1,2,3,4,5]] I.drew (fun ee y=>
 AJ v0 fun ak=>
 AM 3 ak fun al=>
 BD (y 3) al fun an=>
 EG (y 5) (g.E+5) i fun av=>
 AB prog g.aPut [an,v1,av] (fun _t112 o=>
 Mod (ee 6) I.drew o/\
 Ax [3,11,13] [[],[],[],[0,1,2],[],[],[5],[5,6],[5,6,7],[],[9],[0,1,2,3,5,6,7,8,9,10],[],[0,1,2,3,4,5,6,7,8,9,10,11,12],[0,1,2,3,4,5,6,7,8,9,10,11,12,13],[0,1,2,3,4,5,6,7,8,9,10,11,12,13,14]] o.drew (fun J ax=>
 AB prog g.fjoin [v0,Z,v1,(.int .i64 (-1))] (fun ay O=>
 Mod (J 3) o.drew O/\
 AJ v0 fun b0=>
 AM 3 b0 fun b1=>
 BD (ax 8) b1 fun b2=>
 Af [(0,g.E),(g.E,1),(g.E+1,1),(g.E+2,1),(g.E+3,1),(g.E+4,1)] g.zN [(0,ed)] fun b3=>
 AB prog g.aTake [b2,b3] (fun b4 Q=>
 Mod (J 11) O Q/\
 AB prog g.fjoin [v0,(.int .i64 (-1)),b4,a6] (fun b5 b6=>
 Mod (J 13) Q b6/\
 K (.tuple #[ay,b5]) b6) Q) O) o.drew)) I.drew)) a7)) S.drew)))) w5.drew)) w4) w3) w2) w1) w)
def Va(g:AvK)(v0 v1:Value)(K:Cont)(w:World):Prop:=
 AB prog g.fat [v0,v1] (fun x y=>
 runK prog (Instr.field g.tn x 0) (fun t9 w2=>
 AJ v0 fun i=>
 AM 3 i fun j=>
 AK j (fun o B=>
 AB prog g.aFree [o,v1] (fun _t15 w4=>
 K t9 w4) B) w2) y) w
def Ol(g:AvK)(v0 v1:Value)(K:Cont)(w:World):Prop:=
 Aj v1 fun B=>
 Ay [(.slice none 0 0),(.int .i64 0)] (fun vs i w1=>∀_:Env,
 Bf .i64 (nth vs 1) B fun I=>
 AD I
 (Be g.E v1 (nth vs 1) fun O=>
 AK O (fun j w2=>
 AJ v0 fun Q=>
 AM 0 Q fun S=>
 AM 0 S fun t22=>
 AK t22 (fun T w3=>
 CN prog DH T [j] (fun t25 w4=>
 AO 0 t25 fun U=>
 AO 1 t25 fun _t27=>
 DK .i64 U (.int .i64 0) fun V=>
 AD V
 (AX .i64 (nth vs 1) (.int .i64 1) fun X=>
 i [(nth vs 0),X] w4)
 (Aq (fun _vs_1 w5=>∀_:Env,
 Bc g.te g.E 1 g.zE [(0,j)] (fun Y w6=>
 runK prog (Builtin.append_ #[g.ts,g.ts] g.ts [(nth vs 0),Y].toArray) (fun Z w7=>
 AX .i64 (nth vs 1) (.int .i64 1) fun o=>
 i [Z,o] w7) w6) w5) (fun J=>
 Aj (nth vs 0) fun a1=>
 BW .i64 a1 (.int .i64 1) fun x=>
 KL .i64 x (.int .i64 0) fun a6=>
 AD a6
 (Ax [10] [[],[0],[0,1],[0,1,2],[0,1,2,3],[],[],[5,6],[5,6,7],[],[0,1,2,3,4,5,6,7,8,9],[0,1,2,3,4,5,6,7,8,9,10],[0,1,2,3,4,5,6,7,8,9,10,11],[0,1,2,3,4,5,6,7,8,9,10,11],[0,1,2,3,4,5,6,7,8,9,10,11,12],[0,1,2,3,4,5,6,7,8,9,10,11,12,13,14]] w4.drew (fun M St=>
 AJ v0 fun a7=>
 AM 0 a7 fun a8=>
 AM 2 a8 fun t39=>
 BD (St 4) t39 fun ak=>
 Be g.E (nth vs 0) x fun al=>
 BD (St 8) al fun an=>
 BF prog DH ak [an,j] (fun t46 w8=>
 Mod (M 10) w4.drew w8/\
 AO 0 t46 fun av=>
 AO 1 t46 fun ax=>
 AD ax
 (Be g.E (nth vs 0) x fun t53=>
 BB t53 av (fun w9=>
 AX .i64 (nth vs 1) (.int .i64 1) fun y=>
 i [(nth vs 0),y] w9) w8)
 (J [] w8)) w4.drew))
 (J [] w4)))) w3) w2) w1)
 (K (nth vs 0) w1)) w
def Mc(g:AvK)(v0 v1 v2 v3:Value)(K:Cont)(w:World):Prop:=
 AJ v0 fun t22=>
 AM 4 t22 fun T=>
 AK T (fun U w1=>
 AB prog g.fsplit [v0,U,v1] (fun B w2=>
 AO 0 B fun o=>
 AO 1 B fun V=>
 BW .i64 v2 v1 fun X=>
 AB prog g.fsplit [v0,V,X] (fun I w3=>
 AO 0 I fun Y=>
 AO 1 I fun x=>
 AB prog g.fdrop [v0,Y] (fun _t40 w4=>
 Aq (fun vs w5=>∀_:Env,
 runK prog (Builtin.append_ #[g.ts,g.ts] g.ts [(nth vs 1),v3].toArray) (fun O w6=>
 Aq (fun j w7=>∀_:Env,
 AB prog g.fmelded [v0,(nth j 1)] (fun t76 w8=>
 Aj t76 fun t77=>
 Ay [(nth vs 0),(.int .i64 0)] (fun i y w9=>∀_:Env,
 Bf .i64 (nth i 1) t77 fun Z=>
 AD Z
 (Be g.E t76 (nth i 1) fun a1=>
 AK a1 (fun a6 a7=>
 AJ v0 fun a8=>
 AM 3 a8 fun ak=>
 AK ak (fun al an=>
 Af [(0,g.E),(g.E,1),(g.E+1,1),(g.E+2,1),(g.E+3,1),(g.E+4,1)] g.zN [(0,a6)] fun av=>
 AB prog g.aTake [al,av] (fun ax ay=>
 AB prog g.fjoin [v0,(nth i 0),ax,(.int .i64 (-1))] (fun b0 b1=>
 AX .i64 (nth i 1) (.int .i64 1) fun b2=>
 y [b0,b2] b1) ay) an) a7) w9)
 (AB prog g.fconcat [v0,(nth i 0),(nth j 0)] (fun b3 b4=>
 AJ v0 fun b5=>
 AM 4 b5 fun b6=>
 BB b6 b3 (fun b7=>
 K (.tuple #[]) b7) b4) w9)) w8) w7) (fun Q=>
 Dx .i64 x (.int .i64 (-1)) fun b8=>
 AD b8
 (AB prog g.ffirst [v0,x] (fun S b9=>
 AO 0 S fun ba=>
 AO 1 S fun t66=>
 AB prog g.fpick [v0,t66] (fun bc bd=>
 Bc g.te g.E 1 g.zE [(0,bc)] (fun bk bl=>
 runK prog (Builtin.append_ #[g.ts,g.ts] g.ts [O,bk].toArray) (fun bp bs=>
 Q [ba,bp] bs) bl) bd) b9) w6)
 (Q [x,O] w6))) w5) (fun J=>
 Dx .i64 o (.int .i64 (-1)) fun bx=>
 AD bx
 (AB prog g.flast [v0,o] (fun t46 c4=>
 AO 0 t46 fun c6=>
 AO 1 t46 fun c7=>
 AB prog g.fpick [v0,c7] (fun t53 c8=>
 Bc g.te g.E 1 g.zE [(0,t53)] (fun c9 ca=>
 runK prog (Builtin.append_ #[g.ts,g.ts] g.ts [(.slice none 0 0),c9].toArray) (fun t55 cc=>
 J [c6,t55] cc) ca) c8) c4) w4)
 (J [o,(.slice none 0 0)] w4))) w3) w2) w1) w
def QZ(g:AvK)(v0 v1 v2 v3 v4:Value)(K:Cont)(w:World):Prop:=
 Aq (fun _vs w1=>∀_:Env,
 AB prog g.fat [v0,v1] (fun b5 w2=>
 Al g.tn g.zN (fun j w3=>
 Ab (g.E+5) j b5 (fun w4=>
 AM g.E j fun b6=>
 AK b6 (fun b7 w5=>
 AB prog g.ftotals [v0,b7] (fun B w6=>
 AO 0 B fun _t35=>
 AO 1 B fun i=>
 AO 2 B fun _t37=>
 Ax [7] [[],[0],[0,1],[0,1,2],[0,1,2,3],[],[5],[0,1,2,3,4,5,6],[0,1,2,3,4,5,6,7],[0,1,2,3,4,5,6,7,8],[0,1,2,3,4,5,6,7,8],[0,1,2,3,4,5,6,7,8,9],[0,1,2,3,4,5,6,7,8,9,10,11]] w6.drew (fun M St=>
 AJ v0 fun b8=>
 AM 0 b8 fun b9=>
 AM 0 b9 fun ba=>
 BD (St 4) ba fun bc=>
 AM 0 j fun bd=>
 Mi g (St 6) bd fun t45=>
 BF prog DH bc [t45] (fun t46 w7=>
 Mod (M 7) w6.drew w7/\
 AO 0 t46 fun o=>
 AO 1 t46 fun _t48=>
 Aq (fun _vs_1 w8=>∀_:Env,
 BW .i64 v2 i fun t66=>
 J3 .i64 t66 (.int .i64 0) fun I=>
 BW .i64 v3 i fun t70=>
 J8 .i64 t70 o fun O=>
 Aq (fun _vs_2 w9=>∀_:Env,
 AX .i64 i o fun Q=>
 QI .i64 v3 Q fun S=>
 AD S
 (K (.bool true) w9)
 (AM (g.E+1) j fun T=>
 AK T (fun U bk=>
 BW .i64 v2 i fun V=>
 BW .i64 V o fun X=>
 J3 .i64 X (.int .i64 0) fun Y=>
 BW .i64 v3 i fun Z=>
 BW .i64 Z o fun a1=>
 AB prog g.fover [v0,U,Y,a1,v4] (fun a6 bl=>
 K a6 bl) bk) w9)) (fun a7=>
 Bf .i64 I O fun bp=>
 AD bp
 (AM 0 j fun t76=>
 AK t76 (fun t77 a8=>
 Aq (fun x ak=>∀_:Env,
 Aq (fun al bs=>∀_:Env,
 CN prog DH v4 [(nth al 0)] (fun an av=>
 Bs an fun ax=>
 AD ax
 (K (.bool false) av)
 (a7 [] av)) bs) (fun ay=>
 EU .i64 I (.int .i64 0) fun bx=>
 AD bx
 (AJ v0 fun c4=>
 AM 0 c4 fun c6=>
 AM 1 c6 fun c7=>
 AK c7 (fun c8 c9=>
 CN prog DH c8 [(nth x 0),I] (fun y ca=>
 AO 0 y fun _t103=>
 AO 1 y fun b0=>
 ay [b0] ca) c9) ak)
 (ay [(nth x 0)] ak))) (fun b1=>
 Bf .i64 O o fun cc=>
 AD cc
 (AJ v0 fun cd=>
 AM 0 cd fun ch=>
 AM 1 ch fun cn=>
 AK cn (fun cv cx=>
 CN prog DH cv [t77,O] (fun b2 dk=>
 AO 0 b2 fun dT=>
 AO 1 b2 fun _t91=>
 b1 [dT] dk) cx) a8)
 (b1 [t77] a8))) w8)
 (a7 [] w8))) (fun b3=>
 Bf .i64 v2 i fun e1=>
 AD e1
 (AM g.E j fun e2=>
 AK e2 (fun t55 e3=>
 J8 .i64 v3 i fun e4=>
 AB prog g.fover [v0,t55,v2,e4,v4] (fun e5 b4=>
 Bs e5 fun e6=>
 AD e6
 (K (.bool false) b4)
 (b3 [] b4)) e3) w7)
 (b3 [] w7))) w6.drew)) w5) w4) w3) w2) w1) (fun J=>
 DK .i64 v1 (.int .i64 (-1)) fun e7=>
 AD e7
 (K (.bool true) w)
 (KL .i64 v2 v3 fun t25=>
 AD t25
 (K (.bool true) w)
 (J [] w)))
structure BE where
 kind:Int
 n:Int
 f:Int
 s:ByteArray
 deriving DecidableEq
structure Attr where
 key:Int
 val:BE
 deriving DecidableEq
def BE.cells(v:BE):List Value:=[.int .u8 v.kind,.int .i64 v.n,.int .u64 v.f,.string v.s]
def Attr.cells(a:Attr):List Value:=.int .i64 a.key::a.val.cells
abbrev Cm:World->List Value->Attr->Prop:=fun _ r x=>r=x.cells
abbrev Cc(S:Nat->Prop)(w:World)(v:Value)(l:List Attr):Prop:=BH S 5 Cm w v l
theorem SQ(a b:Attr)(w:World) :
  (Op.equalIn 10000 79 (.agg a.cells.toArray) (.agg b.cells.toArray)).run prog w=.ok (decide (a=b)) w:=by
 have E:prog.underlying 79=some (.struct (prog.fieldsOf 79)):=by kernel_rfl
 have I:prog.underlying 77=some (.struct (prog.fieldsOf 77)):=by kernel_rfl
 have J:=underlying3;have O:=underlying5;have Q:=underlying2;have S:=underlying75;have T:=underlying9;rw[show(10000:Nat)=9999+1 from rfl,run_equalIn_agg w 9999 _ _ _ E Tryz.stoodInHeld79];simp only[Program.fieldsOf,underlying79,Attr.cells,BE.cells];have U:=Tryz.isAgg3;have V:=Tryz.isAgg77;have X:∀w,(sizeOf 77).run prog w=.ok 4 w:=fun w=>by simp only[sizeOf,Sem.run_bind,Tryz.typeInfo77,Result.andThen_ok,Sem.run_pure];rfl
 have a3:=Tryz.isAgg5;have a4:=Tryz.isAgg2;have a5:=Tryz.isAgg75;have Y:=Tryz.isAgg9;have Z:∀(x y:BE) (w:World),(Op.equalIn 9999 77 (.agg #[.int .u8 x.kind,.int .i64 x.n,.int .u64 x.f,.string x.s]) (.agg #[.int .u8 y.kind,.int .i64 y.n,.int .u64 y.f,.string y.s])).run prog w=.ok (decide (x=y)) w:=by
  intro x y w;rw[show(9999:Nat)=9998+1 from rfl,run_equalIn_agg w 9998 _ _ _ I Tryz.stoodInHeld77];simp only[Program.fieldsOf,underlying77];have i:∀a b:Int,(Op.equalIn 9998 5 (.int .u8 a) (.int .u8 b)).run prog w=.ok (a==b) w:=fun a b=>run_equalIn_int w 9997 _ _ _ a b O;have j:∀a b:Int,(Op.equalIn 9998 2 (.int .i64 a) (.int .i64 b)).run prog w=.ok (a==b) w:=fun a b=>run_equalIn_int w 9997 _ _ _ a b Q;have o:∀a b:Int,(Op.equalIn 9998 75 (.int .u64 a) (.int .u64 b)).run prog w=.ok (a==b) w:=fun a b=>run_equalIn_int w 9997 _ _ _ a b S;have e4:∀a b:ByteArray,(Op.equalIn 9998 9 (.string a) (.string b)).run prog w=.ok (a.toList==b.toList) w:=fun a b=>run_equalIn_string w 9997 _ a b T;have q:decide (x=y)=(x.kind==y.kind&&(x.n==y.n&&(x.f==y.f&&decide (x.s=y.s)))):=by
   cases x;cases y;rw[Bool.eq_iff_iff];simp[BE.mk.injEq]
  rw[q];simp[Op.eqFields,part,a3,a4,a5,Y,i,j,o,e4,toList_beq];by_cases h1:x.kind=y.kind<;>by_cases B:x.n=y.n<;>by_cases h3:x.f=y.f<;>by_cases h4:x.s=y.s<;>simp[h1,B,h3,h4]
 have i:∀a b:Int,(Op.equalIn 9999 3 (.int .i64 a) (.int .i64 b)).run prog w=.ok (a==b) w:=fun a b=>run_equalIn_int w 9998 _ _ _ a b J;have j:∀(x y:BE) (w:World),(Op.equalIn 9999 77 (.agg #[.int .u8 x.kind,.int .i64 x.n,.int .u64 x.f,.string x.s]) (.agg #[.int .u8 y.kind,.int .i64 y.n,.int .u64 y.f,.string y.s])).run prog w=.ok (decide (x=y)) w:=Z;have o:=j a.val b.val w;have x1:∀k q r s t:Value,(#[k,q,r,s,t]:Array Value).extract 1 5=#[q,r,s,t]:=fun _ _ _ _ _=>rfl;have q:decide (a=b)=(a.key==b.key&&decide (a.val=b.val)):=by
  cases a;cases b;rw[Bool.eq_iff_iff];simp[Attr.mk.injEq]
 rw[q];simp[Op.eqFields,part,U,V,X,i,x1,o];by_cases h1:a.key=b.key<;>by_cases B:a.val=b.val<;>simp[h1,B]
theorem Jt(xo yo:Operand)(a b:Attr)(w:World) :
  (BZ .neq 79 xo yo (.agg a.cells.toArray) (.agg b.cells.toArray)).run prog w=.ok (.bool (!decide (a=b))) w:=by
 simp only[BZ,Sem.run_bind,run_eqGuard_agg w .neq _ xo yo _ _ Tryz.eqGuardType79,Result.andThen_ok];rw[run_neq_struct,SQ];rfl
theorem GM:DE prog 43 79 5 48:=⟨Tryz.t79,.agg #[.int .i64 0,.int .u8 0,.int .i64 0,.int .u64 0,.string ⟨#[]⟩],by kernel_rfl,by kernel_rfl,by kernel_rfl,by kernel_rfl,by kernel_rfl,by rfl,by decide⟩
theorem Cm.one{w:World}{r:List Value}{x:Attr}(h:Cm w r x):∀u∈r,u.oneCell'=true:=by
 intro u hu;subst h;simp only[Attr.cells,BE.cells,List.mem_cons,List.not_mem_nil,or_false] at hu;rcases hu with rfl|rfl|rfl|rfl|rfl<;>rfl
abbrev GR(B:Nat)(w:World)(v:Value)(l:List Attr):Prop:=AF B 79 5 Cm w v l
structure Cw where
 n:Int
 set:List Attr
 deriving DecidableEq
def Ki(D:Nat->Prop)(w:World)(r:List Value)(b:Cw):Prop:=∃sv,r=[.int .i64 b.n,sv]/\Cc D w sv b.set
theorem Ki.one{D:Nat->Prop}{w:World}{r:List Value}{b:Cw}(h:Ki D w r b):∀u∈r,u.oneCell'=true:=by
 obtain⟨sv,rfl,i⟩:=h;obtain⟨a,c,rfl,_⟩:=i.shape;intro u hu;simp only[List.mem_cons,List.not_mem_nil,or_false] at hu;rcases hu with rfl|rfl<;>rfl
theorem Ki.mod{D D' M:Nat->Prop}{w w':World}{r:List Value}{b:Cw}(h:Ki D w r b)(hm:Mod M w w')(j:∀b,b<w.heap.size->D b->¬M b)(i:∀b,b<w.heap.size->D b->D' b):Ki D' w' r b:=by
 obtain⟨sv,rfl,o⟩:=h;exact⟨sv,rfl,o.mono i (fun b hb x=>hm.same b hb (j b hb x)) (by decide) fun _ _ h=>h⟩
theorem PX:DE prog 46 53 2 32:=⟨Tryz.t53,.agg #[.int .i64 0,.slice none 0 0],by kernel_rfl,by kernel_rfl,by kernel_rfl,by kernel_rfl,by kernel_rfl,by rfl,by decide⟩
abbrev HO(S D:Nat->Prop)(w:World)(v:Value)(l:List Cw):Prop:=BH S 2 (Ki D) w v l
def J6(D:Nat->Prop)(w:World)(r:List Value)(b:Cw):Prop:=∃sv,r=[.int .i64 b.n,sv]/\GR 0 w sv b.set/\∀g,sv.ownBlock=some g->D g
theorem J6.rd{D:Nat->Prop}{w:World}{r:List Value}{b:Cw}(h:J6 D w r b):Ki D w r b:=by
 obtain⟨sv,rfl,i,j⟩:=h;exact⟨sv,rfl,BH.sub (AF.sl i) (fun g _ o=>j g o.2) (by decide) fun _ _ h=>h⟩
theorem J6.one{D:Nat->Prop}{w:World}{r:List Value}{b:Cw}(h:J6 D w r b):∀u∈r,u.oneCell'=true:=h.rd.one
theorem J6.mod{D D' M:Nat->Prop}{w w':World}{r:List Value}{b:Cw}(h:J6 D w r b)(hm:Mod M w w')(E:∀b,b<w.heap.size->D b->¬M b)(o:∀b,b<w.heap.size->D b->D' b):J6 D' w' r b:=by
 obtain⟨sv,rfl,x,y⟩:=h;have j:∀g,sv.ownBlock=some g->g<w.heap.size:=by
  intro g i;obtain⟨a,c,rfl,_,_,hp,_⟩:=AF.shape x;cases a with
  |none=>cases i
  |some p=>obtain⟨g',rfl,h1,I,B⟩:=hp p rfl;rw[i] at B;cases B;exact I
 exact⟨sv,rfl,AF.mod x hm (fun g i=>E g (j g i) (y g i)) fun _ _ _ h=>h,fun g i=>o g (j g i) (y g i)⟩
def De(B:Nat)(w:World)(v:Value)(l:List Cw):Prop:=AF B 53 2 (J6 fun b=>B<=b/\v.ownBlock≠some b) w v l
theorem De.sl{B:Nat}{w:World}{v:Value}{l:List Cw}(h:De B w v l):HO (fun b=>B<=b/\v.ownBlock=some b) (fun b=>B<=b/\v.ownBlock≠some b) w v l:=
 BH.sub (AF.sl h) (fun _ _ h=>h) (by decide) fun _ _ h=>h.rd
def HX(l:List Cw)(set:List Attr):Bool:=match l.getLast? with|some b=>decide (b.set=set)|none=>false
def ET(l:List Cw)(n:Int)(set:List Attr):List Cw:=
 if n<=0 then l else
 match l.getLast? with
 |some b=>if b.set=set then l.set (l.length-1) ⟨IntKind.i64.wrap (b.n+n),b.set⟩ else l++[⟨n,set⟩]
 |none=>l++[⟨n,set⟩]
theorem OB(l:List Cw)(n:Int)(set:List Attr):(ET l n set).length<=l.length+1:=by
 unfold ET;split
 .omega
 .split
  .split<;>simp
  .simp
theorem cO{g:Nat}{fn:Func}{args:List Value}{K:Cont}{w:World}(an:Pb)(j:prog.funcs[g]?=some fn){b:Prop}(h:b)(hc:((fn.body.isSome&&Nat.ble args.length fn.ntmps),b)=(true,D prog DH fn.ntmps (IG fn) an (bR prog fn.results.toList K) (nth args) w)):AB prog g args K w:=by
 have hb:=(Prod.mk.inj hc).1;rw[(Prod.mk.inj hc).2] at h;rw[Bool.and_eq_true] at hb;refine Ty FR mixed j ?_ rfl rfl hb.2 h;obtain⟨x,i⟩:=Option.isSome_iff_exists.1 hb.1;rw[i,IG,i]
abbrev zF(l:List Value):List Value:=(.int .i32 0)::(.int .i32 0)::(.int .i32 0)::(.int .i32 0)::l
abbrev zR(l:List Value):List Value:=zF (zF (zF (zF (zF (zF (zF (zF l)))))))
abbrev aR:Nat->List Nat:=List.range
abbrev aN:Pb->Pb:=.node [] [] .nil
abbrev aO:Pb->Pb->Pb:=.node [] []
abbrev aE:Pb:=.node [] [] .nil .nil
variable {v0 v1 v2 v3 v4 v5 v6 v7 v8 v9:Value}{K:Cont}{w:World}
theorem bq(h: Aj v0 fun t7=>
 Aj v1 fun t9=>
 Dx .i64 t7 t9 fun o=>
 AD o
 (K (.bool false) w)
 (Ay [(.int .i64 0)] (fun vs i w1=>∀_:Env,
 Aj v0 fun x=>
 Bf .i64 (nth vs 0) x fun y=>
 AD y
 (Dc w1 (fun C=>
 Be 2 v0 (nth vs 0) fun B=>
 AM 0 B fun E=>
 BK C E fun I=>
 Be 2 v1 (nth vs 0) fun J=>
 AM 0 J fun t25=>
 BK C t25 fun O=>
 Dx .i64 I O fun Q=>
 AD Q
 (∀ w2:World,C w2->
 K (.bool false) w2)
 (Be 2 v0 (nth vs 0) fun S=>
 AM 1 S fun T=>
 BK C T fun U=>
 Be 2 v1 (nth vs 0) fun V=>
 AM 1 V fun X=>
 BK C X fun Y=>
 Ev prog C 58 [U,Y] fun t39=>
 Bs t39 fun Z=>
 ∀w3:World,C w3->
 AD Z
 (K (.bool false) w3)
 (AX .i64 (nth vs 0) (.int .i64 1) fun j=>
 i [j] w3))))
 (K (.bool true) w1)) w)):AB prog 35 [v0,v1] K w:=cO (aN (aO (aN (aO aE .nil)) (aO (aN (.node [5] [(4,5),(11,41)] (aO (aN aE) (aO (aO .draw (aO aE .nil)) .nil)) .nil)) aE))) func35 h (by kernel_rfl)
theorem ZM(h: Aj v0 fun Q=>
 Aj v1 fun t9=>
 Dx .i64 Q t9 fun j=>
 AD j
 (K (.bool false) w)
 (Ay [(.int .i64 0)] (fun vs i O=>∀_:Env,
 Aj v0 fun o=>
 Bf .i64 (nth vs 0) o fun x=>
 AD x
 (Dc O (fun C=>
 Be 5 v0 (nth vs 0) fun y=>
 JI C 5 y fun B=>
 Be 5 v1 (nth vs 0) fun E=>
 JI C 5 E fun I=>
 Bg prog C (BZ .neq 79 (.tmp 20) (.tmp 24) B I) fun t25=>
 ∀w2:World,C w2->
 AD t25
 (K (.bool false) w2)
 (AX .i64 (nth vs 0) (.int .i64 1) fun J=>
 i [J] w2)))
 (K (.bool true) O)) w)):AB prog 58 [v0,v1] K w:=cO (aN (aO (aN (aO aE .nil)) (aO (aN (.node [5] [(4,5),(11,25)] (aO (aN aE) (aO (aO .draw (aO aE .nil)) .nil)) .nil)) aE))) func58 h (by kernel_rfl)
theorem aw(h: Ay [(.slice none 0 0),(.int .i64 0)] (fun vs i j=>∀_:Env,
 Aj v0 fun Q=>
 Bf .i64 (nth vs 1) Q fun S=>
 AD S
 (Ax [11] [[],[],[],[1,2],[1,2,3],[1,2,3,4],[],[],[6,7],[6,7,8],[6,7,8,9],[0,1,2,3,4,5,6,7,8,9,10],[0,1,2,3,4,5,6,7,8,9,10,11]] j.drew (fun M O=>
 Be 2 v0 (nth vs 1) fun o=>
 AM 0 o fun x=>
 BD (O 5) x fun y=>
 Be 2 v0 (nth vs 1) fun B=>
 AM 1 B fun E=>
 BD (O 10) E fun I=>
 AB prog 113 [(nth vs 0),y,I] (fun t22 w2=>
 Mod (M 11) j.drew w2/\
 AX .i64 (nth vs 1) (.int .i64 1) fun J=>
 i [t22,J] w2) j.drew))
 (K (nth vs 0) j)) w):AB prog 56 [v0] K w:=cO (aN (aN (aO (aN (.node [3,4] [(3,22)] (aO (aN aE) (aO (.dc [11] [[],[],[],[1,2],[1,2,3],[1,2,3,4],[],[],[6,7],[6,7,8],[6,7,8,9],(aR 11),(aR 12)] []) .nil)) .nil)) aE))) func56 h (by kernel_rfl)
theorem aT(h: AB prog 56 [v0] (fun t4 i=>
 AB prog 35 [t4,v0] (fun j w2=>
 K j w2) i) w):AB prog 19 [v0] K w:=cO (aN aE) func19 h (by kernel_rfl)
theorem Zq(h: Ay [(.int .i64 0),(.int .i64 0)] (fun vs i E=>∀_:Env,
 Aj v0 fun I=>
 Bf .i64 (nth vs 1) I fun J=>
 AD J
 (Be 2 v0 (nth vs 1) fun j=>
 AM 0 j fun o=>
 AK o (fun x w2=>
 AX .i64 (nth vs 0) x fun y=>
 AX .i64 (nth vs 1) (.int .i64 1) fun B=>
 i [y,B] w2) E)
 (K (nth vs 0) E)) w):AB prog 20 [v0] K w:=cO (aN (aN (aO (aN (.node [3,4] [(3,17)] (aO (aN aE) aE) .nil)) aE))) func20 h (by kernel_rfl)
theorem XO(h: HA v0 fun i=>
 AD (.bool i)
 (K (.slice none 0 0) w)
 (Bc 79 5 0 [] [] (fun t5 j=>
 runK prog (Builtin.append_ #[43,43] 43 [t5,v0].toArray) (fun o w2=>
 K o w2) j) w)):AB prog 107 [v0] K w:=cO (aN (aO (aN (aO aE .nil)) aE)) func107 h (by kernel_rfl)
theorem YX(h: QI .i64 v1 (.int .i64 0) fun t9=>
 AD t9
 (K v0 w)
 (Aj v0 fun j=>
 BW .i64 j (.int .i64 1) fun i=>
 Aq (fun vs w1=>∀_:Env,
 AD (nth vs 0)
 (Be 2 v0 i fun o=>
 AM 0 o fun x=>
 AK x (fun y w2=>
 AX .i64 y v1 fun B=>
 Be 2 v0 i fun E=>
 AM 0 E fun I=>
 BB I B (fun w3=>
 K v0 w3) w2) w1)
 (Bc 79 5 0 [] [] (fun t39 w4=>
 runK prog (Builtin.append_ #[43,43] 43 [t39,v2].toArray) (fun O w5=>
 Af [(0,1),(1,1)] [(.int .i64 0),(.slice none 0 0)] [(0,v1),(1,O)] fun Q=>
 Bc 53 2 1 [(.int .i64 0),(.slice none 0 0)] [(0,Q)] (fun S w6=>
 runK prog (Builtin.append_ #[46,46] 46 [v0,S].toArray) (fun T w7=>
 K T w7) w6) w5) w4) w1)) (fun J=>
 KL .i64 i (.int .i64 0) fun U=>
 AD U
 (Be 2 v0 i fun V=>
 AM 1 V fun X=>
 AK X (fun Y w8=>
 AB prog 58 [Y,v2] (fun Z w9=>
 J [Z] w9) w8) w)
 (J [(.bool false)] w)))):AB prog 113 [v0,v1,v2] K w:=cO (aN (aO (aN (aO aE .nil)) (aN (aO (.cut [24] [(14,24)] .nil (aO (aN aE) .nil)) aE)))) func113 h (by kernel_rfl)
theorem ad(h: AB prog 107 [v0] (fun t4 i=>
 K t4 i) w):AB prog 52 [v0] K w:=cO (aN aE) func52 h (by kernel_rfl)
theorem YG(h: Aj v0 fun O=>
 Aj v1 fun t9=>
 Dx .i64 O t9 fun j=>
 AD j
 (K (.bool false) w)
 (Aj v0 fun o=>
 Ay [(.int .i64 0)] (fun vs i J=>∀_:Env,
 Bf .i64 (nth vs 0) o fun x=>
 AD x
 (Dc J (fun C=>
 Be 5 v0 (nth vs 0) fun y=>
 JI C 5 y fun B=>
 Be 5 v1 (nth vs 0) fun t22=>
 JI C 5 t22 fun E=>
 Bg prog C (BZ .neq 79 (.tmp 19) (.tmp 23) B E) fun I=>
 ∀w2:World,C w2->
 AD I
 (K (.bool false) w2)
 (AX .i64 (nth vs 0) (.int .i64 1) fun t25=>
 i [t25] w2)))
 (K (.bool true) J)) w)):AB prog 188 [v0,v1] K w:=cO (aN (aO (aN (aO aE .nil)) (aO (aN (.node [13] [(4,5),(13,25)] (aN (aO aE (aO (aN (aO .draw (aO aE .nil))) .nil))) .nil)) aE))) func188 h (by kernel_rfl)
end Go.Proofs.YtmdhibffnkhcnaaGreatDoor
namespace Go.Proofs.YtmdhibffnkhcnaaGreatDoor
open Go Go.K Proofs.Tryz
theorem dq{S Q:Nat->Prop}{a b:Value}{l m:List Attr}{w:World}(ha:Cc S w a l)(hb:Cc Q w b m) :
  AB prog 188 [a,b] (fun v w'=>v=.bool (decide (l=m))/\Grow w w') w:=by
 apply YG;obtain⟨V,X,rfl,B⟩:=ha.shape;obtain⟨pb,cb,rfl,E⟩:=hb.shape;simp only[KS];simp only[maxLen] at B E;by_cases i:l.length=m.length
 .rw[if_neg (show ¬¬(l.length:Int)=m.length by omega)];refine⟨fun vs w'=>∃k:Nat,k<=l.length/\vs=[.int .i64 k]/\Grow w w'/\l.take k=m.take k,fun vs _=>l.length-Dr vs 0,⟨0,Nat.zero_le _,rfl,Mod.refl _ _,rfl⟩,?_⟩;rintro vs T ⟨k,hk,rfl,y,ht⟩ h;simp only[KS];by_cases o:k<l.length
  .rw[if_pos (show(k:Int)<l.length by omega)];refine⟨fun w2=>Grow T w2,Mod.drew _ _,?_⟩;obtain⟨p,r,rfl,_,hr,hc,U⟩:=ha.get o;obtain⟨q,Y,rfl,_,I,J,O⟩:=hb.get (show k<m.length by omega);refine AY o (Gt hr (fun w2 x j u hu=>?_) ?_)
   .rw[Addr.add_add];exact x.cell (y.cell (hc j u hu) (fun h=>h)) (fun h=>h)
   refine AY (by omega) (Gt I (fun w2 x j u hu=>?_) ?_)
   .rw[Addr.add_add];exact x.cell (y.cell (J j u hu) (fun h=>h)) (fun h=>h)
   subst U;subst O;refine⟨_,fun w2 _=>Jt _ _ _ _ w2,fun w2 x=>?_⟩;simp only[KS];by_cases he:l[k]=m[k]
   .rw[if_neg (fun h=>h he)];refine⟨⟨k+1,by omega,by rw[wrap64 (by omega) (by omega)];rfl,y.trans x,?_⟩,?_⟩
    .rw[List.take_add_one,List.take_add_one,ht];simp[o,show k<m.length by omega,he]
    .simp only[Dr,nth,List.headD_cons];rw[wrap64 (by omega) (by omega)];omega
   .rw[if_pos he];refine⟨?_,y.trans x⟩;congr 1
    symm
    rw[decide_eq_false_iff_not];intro e;subst e;exact he rfl
  .rw[if_neg (show ¬(k:Int)<l.length by omega)];refine⟨?_,y⟩;congr 1;symm
   rw[decide_eq_true_eq];have:k=l.length:=by omega
   subst this;rw[List.take_length] at ht;rw[ht,i,List.take_length]
 .rw[if_pos (show ¬(l.length:Int)=m.length by omega)];refine⟨?_,Mod.refl _ _⟩;congr 1;symm
  rw[decide_eq_false_iff_not];intro e;exact i (by rw[e])
theorem MK{S:Nat->Prop}{v:Value}{l:List Attr}{w:World}(h:Cc S w v l)(hl:l.length*48<=140737488355328) :
  AB prog 107 [v] (fun v' w'=>GR w.heap.size w' v' l/\Grow w w') w:=by
 apply XO;obtain⟨a,c,rfl,hm⟩:=h.shape;cases a with
 |none=>
  simp only[KS];have:l=[]:=by
   cases l with
   |nil=>rfl
   |cons x l=>obtain⟨p,r,e,_⟩:=h.get (i:=0) (by simp);cases e
  subst this;exact⟨AF.nil,Mod.refl _ _⟩
 |some p=>
  simp only[KS];refine Gn ?_;have o:Grow w (w.alloc (.cells #[] 79)):=Mod.alloc _ _ _;have y:GR w.heap.size (w.alloc (.cells #[] 79)) (.slice (some ⟨w.heap.size,0,none⟩) 0 0) []:=AF.made (Nat.le_refl _);obtain⟨v',w',h1,B,E,I⟩:=AF.append (ty:=43) GM y (h.grow o (by decide) fun _ _ h=>h) (fun _ _=>Cm.one) (by simpa using hl) (by simp) (by simpa using hm) (fun _ _ _ _ h=>h);refine Ai h1 ⟨?_,o.next (Mod.of_grownBy E) ?_⟩
  .refine B.base fun g j=>?_;rcases I g j with h|h
   .cases h;exact Nat.le_refl _
   .simp only[World.size_alloc] at h;omega
  .intro b hb e;simp only[Value.ownBlock,Option.some.injEq] at e;omega
theorem G9{S:Nat->Prop}{v:Value}{l:List Attr}{w:World}(h:Cc S w v l)(hl:l.length*48<=140737488355328) :
  AB prog 52 [v] (fun v' w'=>GR w.heap.size w' v' l/\Grow w w') w:=by
 apply ad;exact MK h hl
theorem De.grow{B:Nat}{w w':World}{v:Value}{l:List Cw}{M:Nat->Prop}(h:De B w v l)(hm:Mod M w w')(i:∀b,b<w.heap.size->B<=b->¬M b):De B w' v l:=by
 refine AF.mod h hm (fun g j=>?_) fun r x _ y=>y.mod hm (fun b hb E=>i b hb E.1) fun _ _ h=>h;obtain⟨a,c,rfl,_,_,hp,_⟩:=AF.shape h;cases a with
 |none=>cases j
 |some p=>obtain⟨g',rfl,h1,I,o⟩:=hp p rfl;rw[j] at o;cases o;exact i g I h1
theorem SS{B:Nat}{w:World}{v sv:Value}{l:List Cw}{n:Int}{set:List Attr}{K:Cont}(h:De B w v l)(hB:B<=w.heap.size)(hs:GR 0 w sv set)(T:∀g,sv.ownBlock=some g->B<=g/\v.ownBlock≠some g/\g<w.heap.size)(hl:l.length<4398046511104)
 {Q1:World->Prop}{Q2:World->World->Prop}(U:∀o,Grow w o->Q1 o)
 (hK:∀o v' w',Grow w o->De B w' v' (l++[⟨n,set⟩])->Mod (fun b=>v.ownBlock=some b) o w'->Mod (fun b=>v.ownBlock=some b) w w'->(∀g,v'.ownBlock=some g->v.ownBlock=some g\/w.heap.size<=g)->Q2 o w'/\K v' w') :
  Bc 53 2 1 [.int .i64 0,.slice none 0 0] [(0,.agg #[.int .i64 n,sv])] (fun t o=>Q1 o/\runK prog (Builtin.append_ #[46,46] 46 [v,t].toArray) (fun v' w'=>Q2 o w'/\K v' w') o) w:=by
 obtain⟨sa,sc,V,a1,_⟩:=AF.shape hs;refine⟨#[.int .i64 n,sv],?_,?_⟩
 .subst V;kernel_rfl
 have I:Grow w (w.alloc (.cells #[.int .i64 n,sv] 53)):=Mod.alloc _ _ _;generalize Q:w.alloc (.cells #[.int .i64 n,sv] 53)=o at I ⊢;have hz:o.heap.size=w.heap.size+1:=by rw[<-Q];simp
 have h':AF B 53 2 (J6 fun b=>B<=b/\v.ownBlock≠some b/\b<o.heap.size) o v l:=by
  refine AF.mod h I (fun _ _ h=>h) fun r x _ E=>E.mod I (fun _ _ _ h=>h) fun b hb J=>⟨J.1,J.2,by omega⟩
 have E:BH (fun _=>True) 2 (J6 fun b=>B<=b/\v.ownBlock≠some b/\b<o.heap.size) o (.slice (some ⟨w.heap.size,0,none⟩) 1 1) [(⟨n,set⟩:Cw)]:=by
  refine⟨_,1,rfl,Nat.le_refl _,by simp[maxLen],fun i x E=>?_⟩;have hi:i=0:=by have:=(List.getElem?_eq_some_iff.1 E).1;simp at this;exact this
  subst hi;simp at E;subst E;refine⟨_,[.int .i64 n,sv],rfl,trivial,rfl,fun j u hu=>?_,sv,rfl,AF.mod hs I (fun _ _ h=>h) fun _ _ _ h=>h,fun g X=>by obtain⟨h1,Y,Z⟩:=T g X;exact⟨h1,Y,by omega⟩⟩;have S:(⟨w.heap.size,0,none⟩:Addr).add (0*2+j)=⟨w.heap.size,j,none⟩:=by unfold Addr.add;split<;>simp_all
  rw[S,<-Q,World.cell?_alloc_new];simpa using hu
 obtain⟨v',w',h1,Y,Z,h4⟩:=AF.append (ty:=46) PX h' E (fun _ _=>J6.one) (by simp;omega) (by omega) (by simp[maxLen];omega)
  (fun w' O r y hy=>hy.mod (Mod.of_grownBy O) (fun b _ J e=>J.2.1 e) fun _ _ h=>h)
 refine⟨U _ I,Ai h1 (hK o v' w' I ?_ (Mod.of_grownBy Z) (I.mod.next (Mod.of_grownBy Z) fun _ _ h=>h) fun g O=>?_)⟩
 .refine AF.mod Y (Mod.refl (fun _=>False) _) (fun _ _ h=>h) fun r x _ E=>E.mod (Mod.refl (fun _=>False) _) (fun _ _ _ h=>h) fun b hb J=>⟨J.1,fun e=>?_⟩;rcases h4 b e with h|h
  .exact J.2.1 h
  .omega
 .rcases h4 g O with h|h
  .exact .inl h
  .exact .inr (by omega)
theorem Ur{B:Nat}{w:World}{v sv:Value}{l:List Cw}{n:Int}{set:List Attr}{K:Cont}(h:De B w v l)(o:B<=w.heap.size)(x:GR 0 w sv set)(i:∀g,sv.ownBlock=some g->B<=g/\v.ownBlock≠some g/\g<w.heap.size)(hl:l.length<4398046511104)
 (y:∀v' w',De B w' v' (l++[⟨n,set⟩])->Mod (fun b=>v.ownBlock=some b) w w'->(∀g,v'.ownBlock=some g->v.ownBlock=some g\/w.heap.size<=g)->K v' w') :
  Bc 53 2 1 [.int .i64 0,.slice none 0 0] [(0,.agg #[.int .i64 n,sv])] (fun t j=>runK prog (Builtin.append_ #[46,46] 46 [v,t].toArray) K j) w:=by
 obtain⟨cs,h1,_,v',w',E,_,I⟩:=SS (Q1:=fun _=>True) (Q2:=fun _ _=>True) h o x i hl (fun _ _=>trivial) fun j v' w' _ k1 _ k2 J=>⟨trivial,y v' w' k1 k2 J⟩;exact⟨cs,h1,v',w',E,I⟩
end Go.Proofs.YtmdhibffnkhcnaaGreatDoor
