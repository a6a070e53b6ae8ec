/- parts of the proof, written short by a program of ours -/
import Derived.Test.YtmdhibffnkhcnaaGreatDoorZTextNormalUpto0
import Derived.Tactics
import Derived.Deep.Quiet
import Derived.RangeFuncIn
import Derived.TacticsIn
import Derived.Test.YtmdhibffnkhcnaaGreatDoorProg
import Derived.KernelRfl
import GoSem.Claims
import Derived.Laws.AppendOwnNone
import Derived.RangeFuncOwn
import Derived.RangeFuncLeaves
import Derived.WalkKit
set_option linter.unusedSimpArgs false
set_option linter.unusedVariables false
namespace Go.Proofs.YtmdhibffnkhcnaaGreatDoor
open Go Proofs.Tryz
variable {i j B:Nat}{w W w' W':World}{F S M:Nat->Prop}{v:Value}{vs cs args:List Value}{α:Type}{K:Cont}{e0:Env}{p:World->Prop}
section
inductive Qp where
 |nil
 |node (L:List Nat) (W:List (Nat×Nat)) (a b:Qp)
 |cut (L:List Nat) (W:List (Nat×Nat)) (a b:Qp)
 |draw
 |dg (AS:List Nat) (AN Gs:List (List Nat))
 |dc (AS:List Nat) (AN Gs:List (List Nat))
 |dt (AS:List Nat) (AN Gs:List (List Nat)) (t:Ord)
def gE:List (Nat×Nat)->Nat->Bool
 |[],_=>false
 |(lo,hi)::r,j=>(Nat.ble lo j&&Nat.ble j hi)||gE r j
def lk:List Nat->List Value->Nat->Value->Value
 |[],_,_,d=>d
 |l::L,vs,j,d=>bif Nat.beq l j then vs.headD undef else lk L vs.tail j d
def mix(L:List Nat)(W:List (Nat×Nat))(vs:List Value)(h e:Env):Env:=fun j=>lk L vs j (bif gE W j then h j else e j)
def Im(W:List (Nat×Nat)):Code->Bool
 |.region _ ops _=>ops.toList.all fun o=>match o.dst with | some d=>gE W d | none=>true
 |.seq a b=>Im W a&&Im W b
 |.cond _ a b=>Im W a&&Im W b
 |.block _ a=>Im W a
 |.loop a=>Im W a
 |.scope a=>Im W a
 |.rangeFunc ..=>false
 |_=>true
def Wr:Code->Nat->Prop
 |.region _ ops _,j=>∃o∈ops.toList,o.dst=some j
 |.seq a b,j=>Wr a j\/Wr b j
 |.cond _ a b,j=>Wr a j\/Wr b j
 |.block _ a,j=>Wr a j
 |.loop a,j=>Wr a j
 |.scope a,j=>Wr a j
 |.rangeFunc ..,_=>True
 |_,_=>False
theorem Dz{W:List (Nat×Nat)}:∀{c:Code},Im W c=true->∀j,Wr c j->gE W j=true
 |.region _ ops _,h,j,⟨o,B,E⟩=>by
  simp only[Im,kU] at h;have:=h o B;rw[E] at this;exact this
 |.seq a b,h,j,i=>by
  simp only[Im,TC] at h;exact i.elim (Dz h.1 j) (Dz h.2 j)
 |.cond _ a b,h,j,i=>by
  simp only[Im,TC] at h;exact i.elim (Dz h.1 j) (Dz h.2 j)
 |.block _ a,h,j,i=>Dz (c:=a) h j i
 |.loop a,h,j,i=>Dz (c:=a) h j i
 |.scope a,h,j,i=>Dz (c:=a) h j i
 |.rangeFunc ..,h,_,_=>by simp[Im] at h
 |.skip,_,_,i=>i.elim
 |.exit _,_,_,i=>i.elim
 |.label _,_,_,i=>i.elim
 |.goto _,_,_,i=>i.elim
 |.ret,_,_,i=>i.elim
 |.refuse _,_,_,i=>i.elim
theorem dd(e:Env)(L:List Nat)(j:Nat)(d:Value):lk L (L.map e) j d=if j∈L then e j else d:=by
 induction L with
 |nil=>simp[lk]
 |cons l L i=>
  simp only[lk,kL,Of,qT,i];cases hb:Nat.beq l j with
  |true=>have:=ka hb;subst this;simp
  |false=>
   have:j≠l:=by intro e;subst e;simp at hb
   simp[this]
theorem Pw{L:List Nat}{W:List (Nat×Nat)}{e e':Env}(h:∀j,gE W j=false->e' j=e j):mix L W (L.map e') e' e=e':=by
 funext j
 simp only[mix,dd];split
 .rfl
 .cases i:gE W j with
  |true=>simp
  |false=>simp[h j i]
variable (P:Program)(ok:Nat->Bool)(n:Nat)
def Li(P:Program)(l:Nat)(args:List Value)(K:Cont)(w:World):Prop:=
 ∃f tmps i body,(Instr.yield l args.toArray).run P w=.ok (.round l f tmps i body) w/\RoundIn Fence.wide 0 P l f tmps i body w fun e w'=>∃v,e=.returned v/\K v w'
def Ci(P:Program)(ok:Nat->Bool)(f:Value)(args:List Value)(K:Cont)(w:World):Prop:=
 BM P ok f args K w\/∃l,f=.func (.yield l) #[] #[]/\Li P l args K w
def fx(o:Oper)(ρ:Operand->Value)(K:Cont)(w:World):Prop:=
 match o.op with
 |.call c=>match c.callee with
  |.value (.func _)=>FB P ok o ρ K w
  |.value f=>Ci P ok (ρ f) (c.args.toList.map ρ) K w
  |_=>FB P ok o ρ K w
 |_=>FB P ok o ρ K w
def KG(all:List Oper)(K:Env->World->Prop):List Oper->Nat->List (Nat×Option Bool)->Env->World->Prop
 |[],_,_,e,w=>K e w
 |o::B,i,kn,e,w=>
  bif FJ o.dst kn all then False else
  match o.guard with
  |none=>fx P ok o (ev e) (fun v w'=>KG all K B (i+1) kn (BN n e o.dst v) w') w
  |some (j,E)=>match Cz kn j with
   |some (some b)=>bif Lt b E then fx P ok o (ev e) (fun v w'=>KG all K B (i+1) kn (BN n e o.dst v) w') w
     else KG all K B (i+1) ((i,none)::kn) (BN n e o.dst undef) w
   |some none=>KG all K B (i+1) ((i,none)::kn) (BN n e o.dst undef) w
   |none=>match CJ all j with
    |some d=>bif FJ o.dst ((j,none)::kn) all then False else AD (e d)
      (bif E then fx P ok o (ev (Eg n e d (.bool true))) (fun v w'=>KG all K B (i+1) ((j,some true) :: kn) (BN n (Eg n e d (.bool true)) o.dst v) w') w
       else KG all K B (i+1) ((i,none) :: (j,some true) :: kn) (BN n (Eg n e d (.bool true)) o.dst undef) w)
      (bif E then KG all K B (i+1) ((i,none) :: (j,some false) :: kn) (BN n (Eg n e d (.bool false)) o.dst undef) w
       else fx P ok o (ev (Eg n e d (.bool false))) (fun v w'=>KG all K B (i+1) ((j,some false) :: kn) (BN n (Eg n e d (.bool false)) o.dst v) w') w)
    |none=>False
def BJ(C:World->Prop)(x:Value)(K:Value->Prop):Prop:=∃a v,x=.pointer (some a)/\(∀w,C w->w.cell? a=some v)/\K v
def FT(C:World->Prop)(k:Nat)(x:Value)(K:Value->Prop):Prop:=
 ∃a vs,x=.pointer (some a)/\List.length vs=k/\(∀w,C w->∀j v,vs[j]?=some v->w.cell? (a.add j)=some v)/\K (.agg vs.toArray)
def Fa(P:Program)(C:World->Prop)(g:Nat)(args:List Value)(K:Value->Prop):Prop:=
 ∃v,(∀w,C w->AB P g args (fun v' w'=>v'=v/\C w') w)/\K v
def Bk(P:Program)(C:World->Prop)(s:Sem Value)(K:Value->Prop):Prop:=∃v,(∀w,C w->s.run P w=.ok v w)/\K v
def bF(P:Program)(C:World->Prop)(g:Nat)(args:List Value)(K:Value->Prop):Prop:=∃v,(∀w,C w->(callFunc g args.toArray).run P w=.ok (.value v) w)/\K v
def Cg(w:World)(F:(World->Prop)->Prop):Prop:=∃C:World->Prop,C w.drew/\F C
def aP(C:World->Prop)(o:Oper)(ρ:Operand->Value)(K:Value->Prop)(w:World):Prop:=
 match o.op with
 |.load t x=>match Hi P t with | some (false,_)=>BJ C (ρ x) K | some (true,k)=>FT C k (ρ x) K | none=>False
 |.binOp op t x y _=>bif HO P op t y then NL P op t y (ρ x) (ρ y) K False
   else Bk P C (BX op t x y (ρ x) (ρ y)) K
 |.call c=>match c.callee with
  |.value (.func g)=>bif ok g then Fa P C g (c.args.toList.map ρ) K else bF P C g (c.args.toList.map ρ) K
  |_=>bif CV P o then FB P ok o ρ (fun v _=>K v) w else False
 |.convert s d x=>Bk P C (convert s d (ρ x)) K
 |.slice t x lo hi i=>Bk P C (Instr.sliceAt t (ρ x) (lo.map ρ) (hi.map ρ) (i.map ρ)) K
 |_=>bif CV P o then FB P ok o ρ (fun v _=>K v) w else False
def Ka(C:World->Prop)(all:List Oper)(K:Env->Prop)(w:World):List Oper->Nat->List (Nat×Option Bool)->Env->Prop
 |[],_,_,e=>K e
 |o::B,i,kn,e=>
  bif FJ o.dst kn all then False else
  match o.guard with
  |none=>aP P ok C o (ev e) (fun v=>Ka C all K w B (i+1) kn (BN n e o.dst v)) w
  |some (j,E)=>match Cz kn j with
   |some (some b)=>bif Lt b E then aP P ok C o (ev e) (fun v=>Ka C all K w B (i+1) kn (BN n e o.dst v)) w
     else Ka C all K w B (i+1) ((i,none)::kn) (BN n e o.dst undef)
   |some none=>Ka C all K w B (i+1) ((i,none)::kn) (BN n e o.dst undef)
   |none=>match CJ all j with
    |some d=>bif FJ o.dst ((j,none)::kn) all then False else AD (e d)
      (bif E then aP P ok C o (ev (Eg n e d (.bool true))) (fun v=>Ka C all K w B (i+1) ((j,some true) :: kn) (BN n (Eg n e d (.bool true)) o.dst v)) w
       else Ka C all K w B (i+1) ((i,none) :: (j,some true) :: kn) (BN n (Eg n e d (.bool true)) o.dst undef))
      (bif E then Ka C all K w B (i+1) ((i,none) :: (j,some false) :: kn) (BN n (Eg n e d (.bool false)) o.dst undef)
       else aP P ok C o (ev (Eg n e d (.bool false))) (fun v=>Ka C all K w B (i+1) ((j,some false) :: kn) (BN n (Eg n e d (.bool false)) o.dst v)) w)
    |none=>False
def Uu(o:Oper):Bool:=match o.op with|.defer _=>false|_=>true
def LM:Code->Bool
 |.region _ ops draw=>!draw||ops.toList.all Uu
 |.seq a b=>LM a&&LM b
 |.cond _ a b=>LM a&&LM b
 |.block _ a=>LM a
 |.loop a=>LM a
 |.skip=>true
 |.exit _=>true
 |.ret=>true
 |_=>false
def iM(id:Nat)(Q:EQ):EQ:=fun ex e w=>match ex with
 |.exit i=>bif Nat.beq i id then Q .normal e w else Q (.exit i) e w
 |.normal=>Q .normal e w | .ret=>Q .ret e w | .goto l=>Q (.goto l) e w | .panic c=>Q (.panic c) e w | .outgrown=>Q .outgrown e w
def jC(Q:EQ):EQ:=fun ex e w=>match ex with
 |.goto _=>False
 |.normal=>Q .normal e w | .exit i=>Q (.exit i) e w | .ret=>Q .ret e w | .panic c=>Q (.panic c) e w | .outgrown=>Q .outgrown e w
def fJ(N:Env->World->Prop)(Q:EQ):EQ:=fun ex e w=>match ex with
 |.normal=>N e w
 |.exit i=>Q (.exit i) e w | .ret=>Q .ret e w | .goto l=>Q (.goto l) e w | .panic c=>Q (.panic c) e w | .outgrown=>Q .outgrown e w
def D:Code->Qp->EQ->Env->World->Prop
 |.skip,_,Q,e,w=>Q .normal e w
 |.region _ ops draw,an,Q,e,w=>match draw with
  |false=>KG P ok n ops.toList (fun e w=>Q .normal e w) ops.toList 0 [] e w
  |true=>match an with
   |.draw=>bif Region.lexB .any ops then Cg w (fun C=>Ka P ok n C ops.toList (fun e'=>∀w':World,C w'->Q .normal e' w') w ops.toList 0 [] e) else False
   |.dg AS AN Gs=>bif L8 n ops.toList AS AN Gs then bC AS AN w.drew fun A M i=>SO P ok n ops.toList AS AN e w.drew A M i
     (OI P ok n ops.toList AS AN e w.drew A M i (∀w',Mod (Mi AS M) w.drew w'->Dw P ok n ops.toList AS A i w' (fun _=>true) (fun _ e'=>Q .normal e' w') ops.toList 0 [] e) Gs) AS else False
   |.dc AS AN Gs=>bif L8 n ops.toList AS AN Gs&&LQ AS AN then Ay AS AN w.drew fun M i=>Cu P ok n ops.toList AS M i w.drew (fun e' w'=>Q .normal e' w') ops.toList 0 [] e w.drew else False
   |.dt AS AN Gs t=>bif L8 n ops.toList AS AN Gs&&SY ops.toList.length AS AN t then Ay AS AN w.drew fun M i=>Cc P ok n ops.toList AS M i w.drew (fun e' w'=>Q .normal e' w') t [] e w.drew else False
   |_=>False
 |.seq x y,an,Q,e,w=>match an with
  |.node _ _ a b=>D x a (fJ (fun e' w'=>D y b Q e' w') Q) e w
  |.cut L W a b=>bif Im W x then Ao (fun vs w'=>∀h:Env,D y b Q (mix L W vs h e) w') (fun J=>D x a (fJ (fun e' w'=>J (L.map e') w') Q) e w) else False
  |_=>False
 |.cond c x y,an,Q,e,w=>match an with
  |.node _ _ a b=>AD (ev e c) (D x a Q e w) (D y b Q e w)
  |_=>False
 |.block id x,an,Q,e,w=>D x an (iM id Q) e w
 |.loop x,an,Q,e,w=>match an with
  |.node L W a _=>bif Im W x then Aq (L.map e) (fun vs j w'=>∀h:Env,D x a (fJ (fun e' o=>j (L.map e') o) Q) (mix L W vs h e) w') w else False
  |_=>False
 |.exit id,_,Q,e,w=>Q (.exit id) e w
 |.ret,_,Q,e,w=>Q .ret e w
 |.label _,_,Q,e,w=>Q .normal e w
 |.scope x,an,Q,e,w=>D x an (jC Q) e w
 |_,_,_,_,_=>False
variable {P ok n}
def lift(n:Nat)(ds:List Deferred)(c:Code)(e:Env)(Q:EQ):Exit->Act->World->Prop:=fun ex a w=>∃e',Fr ds n e' a/\(∀j,¬Wr c j->e' j=e j)/\Q ex e' w
def Gn(ds:List Deferred)(n:Nat)(l:List Oper)(e:Env)(K:Env->World->Prop):Exit->Act->World->Prop:=
 fun ex a w=>ex=.normal/\∃e',Fr ds n e' a/\(∀j,(∀o∈l,o.dst≠some j)->e' j=e j)/\K e' w
theorem Oh{ds:List Deferred}{l:List Oper}{o:Oper}{e:Env}{K:Env->World->Prop}{ex:Exit}{a:Act}(h:Gn ds n l (BN n e o.dst v) K ex a w):Gn ds n (o::l) e K ex a w:=by
 obtain⟨h0,e',h1,E,I⟩:=h;refine⟨h0,e',h1,fun j B=>?_,I⟩;rw[E j (fun o' i=>B o' (by simp[i]))];exact HZ (B o (by simp))
abbrev Wd(ro:Option Nat):Fence:={ Fence.wide with round:=ro }
theorem Iv{F:Fence}{m:Nat}{ops:Array Oper}{Q Q':Exit->Act->World->Prop}(B:∀e a w,Q e a w->Q' e a w):∀(l:List Oper) (a:Act) (w:World),wpListIn F m P ops Q l a w->wpListIn F m P ops Q' l a w:=by
 have O:LetsOut Q->LetsOut Q':=fun⟨a,w,h⟩=>⟨a,w,B _ _ _ h⟩;intro l;induction l with
 |nil=>intro a w h;exact B _ _ _ h
 |cons o r j=>
  intro a w h;unfold wpListIn at h ⊢;split
  .rename_i I;rw[Io I] at h;unfold Oper.wpIn at h ⊢;refine⟨h.1,?_⟩;replace h:=h.2
   generalize (o.semAt F.round a.eval).run P w=S at h ⊢;match S,h with
   |.ok (.value v) w',h=>exact j _ _ h
   |.ok .skip w',h=>exact j _ _ h
   |.ok (.defer d) w',h=>exact j _ _ h
   |.ok (.enter f args) w',h=>
    exact ⟨h.1,CallsIn.mono h.2 fun J E i=>by
     cases J with
     |returned v=>exact j _ _ i
     |panicked T=>exact B _ _ _ i
     | outgrown=>exact O i⟩
   |.ok (.row row args) w',h=>exact⟨h.1,RowsIn.mono h.2 fun v E i=>j _ _ i⟩
   |.ok (.round l f tmps assign body) w',h=>
    exact ⟨h.1,RoundIn.mono h.2 fun J E i=>by
     cases J with
     |returned v=>exact j _ _ i
     |panicked T=>exact B _ _ _ i
     | outgrown=>exact O i⟩
   |.halt (.panic v) w',h=>exact B _ _ _ h
  .rename_i I;rw[C3 I] at h;exact⟨h.1,j _ _ h.2⟩
theorem Te{ro:Option Nat}{m:Nat}{o:Oper}{a:Act}{next:Act->World->Prop}{Q:Exit->Act->World->Prop}{r:Result Next}
 (h:Eo w r K P)(i:∀v w',K v w'->next (a.put o.dst v) w'):o.uponIn (Wd ro) m P a next Q r:=by
 match r,h with
 |.ok (.value v) w',h=>exact i _ _ h
 |.ok .skip w',h=>exact i _ _ h
 |.ok (.enter f args) w',h=>
  obtain⟨rfl,h⟩:=h;exact⟨(fun h=>by cases h),(qC.2 (nH h fun e j ⟨v,he,B⟩=>by subst he;exact i _ _ B):CallsIn Fence.wide _ _ _ _ _ _)⟩
theorem Pp{o:Oper}{ρ:Operand->Value}(h:FB P ok o ρ K w):∀c,o.op≠.defer c:=by
 intro c hc;simp only[FB,hc] at h
theorem V9(O:CP P ok){ro:Option Nat}{m:Nat}{o:Oper}{a:Act}{e:Env}{next:Act->World->Prop}{Q:Exit->Act->World->Prop}(I:a.eval=ev e)
 (h:fx P ok o (ev e) K w)(V:∀v w',K v w'->next (a.put o.dst v) w'):o.wpIn (Wd ro) m P a w next Q:=by
 have GQ:FB P ok o (ev e) K w->o.wpIn (Wd ro) m P a w next Q:=by
  intro h;refine⟨fun _ _=>trivial,?_⟩;rw[qi _ _ _ (Pp h),I];exact Te (JD O (fun _=>rfl) (fun _=>rfl) h) V
 obtain⟨B,op,i,pos,after,guard⟩:=o;cases op with
 |call c=>
  obtain⟨j,args,E⟩:=c;cases j with
  |value f=>
   have S:Ci P ok (ev e f) (args.toList.map (ev e)) K w->(FB P ok ⟨B,.call ⟨.value f,args,E⟩,i,pos,after,guard⟩ (ev e) K w↔BM P ok (ev e f) (args.toList.map (ev e)) K w)->Oper.wpIn (Wd ro) m P ⟨B,.call ⟨.value f,args,E⟩,i,pos,after,guard⟩ a w next Q:=by
    rintro(h|⟨l,X,fn,tmps,T,body,h1,Y⟩) J
    .exact GQ (J.2 h)
    .refine⟨fun _ _=>trivial,?_⟩;rw[qi _ _ _ (by simp),I];have hr:(execOp (ev e) ⟨B,.call ⟨.value f,args,E⟩,i,pos,after,guard⟩).run P w=.ok (.round l fn tmps T body) w:=by
      simp only[execOp,resolve,X,Deferred.ofValue,pure_bind,invoke,GI];simpa[callFunc] using h1
     rw[hr];have Z:=Y.2;refine⟨(fun h=>by cases h),trivial,fun c cs _=>?_⟩;obtain⟨en,U,⟨v,rfl,hv⟩,hs⟩:=Z c cs (room_wide _);exact⟨.returned v,U,V _ _ hv,hs⟩
   cases f with
   |func g=>exact GQ h
   |tmp t=>exact S h nj
   |const v=>exact S h nj
   |global g=>exact S h nj
  |invoke r m=>exact GQ h
  |builtin b=>exact GQ h
 |_=>exact GQ h
theorem Rm{ds:List Deferred}{ro:Option Nat}{m:Nat}(ak:CP P ok){ops:Array Oper}{K:Env->World->Prop}:∀(l:List Oper) (i:Nat) (kn:List (Nat×Option Bool)) (e:Env) (w:World) (a:Act),
  ops.toList.drop i=l->Dk ops.toList kn e->Fr ds n e a->KG P ok n ops.toList K l i kn e w->wpListIn (Wd ro) m P ops (Gn ds n l e K) l a w:=by
 intro l;induction l with
 |nil=>
  intro i kn e w a _ _ Y h;exact⟨rfl,e,Y,fun _ _=>rfl,h⟩
 |cons o B ih=>
  intro i kn e w a hl Q Y h;have al:CJ ops.toList i=o.dst:=by
   have:ops.toList[i]?=some o:=by
    have:=kM (fun l=>l[0]?) hl;simpa using this
   rw[CH,this];rfl
  have a6:ops.toList.drop (i+1)=B:=by
   have:=kM List.tail hl;simpa using this
  have T:∀(v:Value) (a':Act) (w':World),wpListIn (Wd ro) m P ops (Gn ds n B (BN n e o.dst v) K) B a' w'->wpListIn (Wd ro) m P ops (Gn ds n (o::B) e K) B a' w':=
   fun v a' w' hh=>Iv (fun ex a w=>Oh) B a' w' hh
  simp only[KG] at h;cases S:FJ o.dst kn ops.toList with
  |true=>simp only[S,kA] at h
  |false=>
   simp only[S,kF] at h;have Mm:∀I,(∀v,Dk ops.toList I (BN n e o.dst v))->fx P ok o (ev e) (fun v w'=>KG P ok n ops.toList K B (i+1) I (BN n e o.dst v) w') w->
     o.wpIn (Wd ro) m P a w (wpListIn (Wd ro) m P ops (Gn ds n (o::B) e K) B) (Gn ds n (o::B) e K):=by
    intro I hk Z;refine V9 ak Y.eval Z fun v w' U=>?_;exact T v _ _ (ih (i+1) I _ w' _ a6 (hk v) (Y.put o.dst v) U)
   have E:∀I,Dk ops.toList I (BN n e o.dst undef)->KG P ok n ops.toList K B (i+1) ((i,none)::I) (BN n e o.dst undef) w->
     wpListIn (Wd ro) m P ops (Gn ds n (o::B) e K) B (a.put o.dst undef) w:=by
    intro I hk Z;refine T undef _ _ (ih (i+1) _ _ w _ a6 (hk.cons ?_) (Y.put o.dst undef) Z);unfold yv;rw[al];cases hd:o.dst with
    |none=>rfl
    |some d=>
     have:=(Y.put o.dst undef).get d;rw[hd] at this;show bv (BN n e (some d) undef d)=none;rw[<-this];by_cases a7:d<a.tmps.size
     .simp[Act.put,a7];rfl
     .simp[Act.put,a7];rfl
   have hy:=fun j=>GC (n:=n) Y (ops:=ops) (j:=j);unfold wpListIn;cases hg:o.guard with
   |none=>
    simp only[hg] at h;rw[Io (by simp[Region.wanted,hg])];exact(Mm kn (fun v=>Q.put S v) h)
   |some g=>
    obtain⟨j,O⟩:=g;simp only[hg] at h;have hw:Region.wanted o (yielded ops a.tmps)=(yv ops.toList e j==some O):=by simp only[Region.wanted,hg,hy]
    rw[hw];cases a1:Cz kn j with
    |some b=>
     rw[Q j b a1];simp only[a1] at h;cases b with
     |none=>
      simp only at h;rw[C3 (by simp)];exact⟨fun _ _=>trivial,E kn (Q.put S _) h⟩
     |some b=>
      simp only[HD] at h;cases V:(b==O) with
      |true=>
       simp only[V,kA] at h;rw[Io (by simpa using V)];exact(Mm kn (fun v=>Q.put S v) h)
      |false=>
       simp only[V,kF] at h;rw[C3 (by simpa using V)];exact⟨fun _ _=>trivial,E kn (Q.put S _) h⟩
    |none=>
     simp only[a1] at h;cases hd:CJ ops.toList j with
     |none=>simp only[hd] at h
     |some d=>
      simp only[hd] at h;cases J:FJ o.dst ((j,none)::kn) ops.toList with
      |true=>simp only[J,kA] at h
      |false=>
       simp only[J,kF] at h;have a8:yv ops.toList e j=bv (e d):=by simp[yv,hd]
       have X:∀b,bv (e d)=b->∀v,Dk ops.toList ((j,b)::kn) (BN n e o.dst v):=fun b hb v=>
        (Q.cons (a8.trans hb)).put (d:=o.dst) (by
         simp only[FJ] at J ⊢;cases an:o.dst with
         |none=>rfl
         | some t=>rw [an] at J;simpa [List.any_cons] using J) v
       rw[a8];rcases EU h with⟨U,hb⟩|⟨U,hb⟩
       .rw[Cq U] at hb;rw[U];cases O with
        |true=>
         simp only[kA] at hb;rw[Io (by rfl)];exact(Mm _ (X _ (by rw[U];rfl)) hb)
        |false=>
         simp only[kF] at hb;rw[C3 (by simp[bv])];exact⟨fun _ _=>trivial,E _ (X _ (by rw[U];rfl) _) hb⟩
       .rw[Cq U] at hb;rw[U];cases O with
        |true=>
         simp only[kA] at hb;rw[C3 (by simp[bv])];exact⟨fun _ _=>trivial,E _ (X _ (by rw[U];rfl) _) hb⟩
        |false=>
         simp only[kF] at hb;rw[Io (by rfl)];exact(Mm _ (X _ (by rw[U];rfl)) hb)
theorem iL{C:World->Prop}{r:Result Next}(_:C w)(h:Eo w r (fun v' i=>v'=v/\C i/\(i=w\/∃f args o,r=.ok (.enter f args) o)) P):Oper.quietUpon P C w v r:=by
 match r,h with
 |.ok (.value v') i,h=>
  obtain⟨h1,_,j|⟨f,a,o,j⟩⟩:=h
  .exact⟨j,h1⟩
  .cases j
 |.ok .skip i,h=>
  obtain⟨h1,_,j|⟨f,a,o,j⟩⟩:=h
  .exact⟨j,h1.symm⟩
  .cases j
 |.ok (.enter f args) i,h=>exact⟨h.1,nH h.2 fun e o ⟨v',h1,j,B,_⟩=>⟨by rw[h1,j],B⟩⟩
theorem Qk{r:Result Next}{K j:Cont}(h:Eo w r K P)(hk:∀v w',K v w'->j v w'):Eo w r j P:=by
 match r,h with
 |.ok (.value v') i,h=>exact hk _ _ h
 |.ok .skip i,h=>exact hk _ _ h
 |.ok (.enter f args) i,h=>exact⟨h.1,nH h.2 fun e B ⟨v',h1,o⟩=>⟨v',h1,hk _ _ o⟩⟩
theorem S0{ds:List Deferred}(T:CP P ok){C:World->Prop}{o:Oper}{a:Act}{e:Env}{K:Value->Prop}{next:Act->Prop}(hf:Fr ds n e a)
 (h:aP P ok C o (ev e) K w)(X:∀v,K v->next (a.put o.dst v)):o.quiet P a C next:=by
 have E:=hf.eval;have conv:∀v,(∀w',C w'->FB P ok o (ev e) (fun v' U=>v'=v/\U=w') w')->K v->o.quiet P a C next:=by
  intro v hv hk;refine⟨v,fun w' i=>?_,X v hk⟩;have:=JD T (fun _=>rfl) (fun _=>rfl) (hv w' i);unfold Oper.quietAt;rw[E];exact iL i (Qk this fun v' U ⟨h1,j⟩=>⟨h1,j▸i,.inl j⟩)
 have Q:CV P o=true->FB P ok o (ev e) (fun v _=>K v) w->o.quiet P a C next:=by
  intro hp S;obtain⟨v,h1,j⟩:=PR hp S;exact conv v (fun w' _=>j _ w' ⟨rfl,rfl⟩) h1
 have B:(bif CV P o then FB P ok o (ev e) (fun v _=>K v) w else False)->o.quiet P a C next:=by
  intro S;cases hp:CV P o with
  |true=>rw[hp] at S;exact Q hp S
  |false=>rw[hp] at S;exact S.elim
 obtain⟨V,op,O,pos,after,guard⟩:=o;cases op with
 |load t x=>
  simp only[aP] at h;split at h
  .rename_i k ha;obtain⟨p,v,h1,j,I⟩:=h;refine conv v (fun w' i=>?_) I;simp only[FB,ha];exact⟨p,v,h1,j w' i,rfl,rfl⟩
  .rename_i k ha;obtain⟨p,vs,h1,hl,j,I⟩:=h;refine conv _ (fun w' i=>?_) I;simp only[FB,ha];exact⟨p,vs,h1,hl,j w' i,rfl,rfl⟩
  .exact h.elim
 |binOp op t x y yt=>
  simp only[aP] at h;cases hp:HO P op t y with
  |true=>
   rw[hp] at h;simp only[kA] at h;obtain⟨v,h1,j⟩:=Ge hp h;exact conv v (fun w' _=>j _ _ ⟨rfl,rfl⟩) h1
  |false=>
   rw[hp] at h;simp only[kF] at h;obtain⟨v,h1,j⟩:=h;refine⟨v,fun w' i=>?_,X v j⟩;unfold Oper.quietAt;rw[E];have:(execOp (ev e) ⟨V,.binOp op t x y yt,O,pos,after,guard⟩).run P w'=.ok (.value v) w':=by
    have I:=h1 w' i;simp only[BX] at I;simp only[execOp];rw[kD,I];rfl
   rw[this];exact⟨rfl,rfl⟩
 |call c=>
  obtain⟨J,args,Y⟩:=c;simp only[aP] at h;cases J with
  |value f=>
   cases f with
   |func g=>
    simp only at h;have I:(execOp (ev e) ⟨V,.call ⟨.value (.func g),args,Y⟩,O,pos,after,guard⟩)=callFunc g (args.toList.map (ev e)).toArray:=by
     simp only[execOp,resolve,Deferred.ofValue,ev,pure_bind,invoke,GI];simp
    cases Z:ok g with
    |false=>
     rw[Z] at h;simp only[kF] at h;obtain⟨v,h1,j⟩:=h;refine⟨v,fun w' i=>?_,X v j⟩;unfold Oper.quietAt;rw[E,I,h1 w' i];exact⟨rfl,rfl⟩
    |true=>
     rw[Z] at h;simp only[kA] at h;obtain⟨v,h1,j⟩:=h;refine⟨v,fun w' i=>?_,X v j⟩;unfold Oper.quietAt;rw[E];rw[I,T g Z];exact⟨rfl,nH (h1 w' i) fun en w3 ⟨v',q1,q2,q3⟩=>⟨by rw[q1,q2],q3⟩⟩
   |_=>exact B h
  |_=>exact B h
 |convert s d x=>
  obtain⟨v,h1,j⟩:=h;exact conv v (fun w' i=>⟨v,w',h1 w' i,rfl,rfl⟩) j
 |slice t x lo hi mx=>
  obtain⟨v,h1,j⟩:=h;exact conv v (fun w' i=>⟨v,w',h1 w' i,rfl,rfl⟩) j
 |_=>exact B h
theorem Je{C:World->Prop}{ops:Array Oper}{Q Q':Act->Prop}(B:∀a,Q a->Q' a):∀(l:List Oper) (a:Act),wpQuiet P ops C Q l a->wpQuiet P ops C Q' l a:=by
 intro l;induction l with
 |nil=>intro a h;exact B _ h
 |cons o r j=>
  intro a h;unfold wpQuiet at h ⊢;split
  .rename_i i;rw[Io i] at h;exact Oper.quiet_mono j h
  .rename_i i;rw[C3 i] at h;exact j _ h
def IC(ds:List Deferred)(n:Nat)(l:List Oper)(e:Env)(K:Env->Prop):Act->Prop:=fun i=>∃e',Fr ds n e' i/\(∀j,(∀o∈l,o.dst≠some j)->e' j=e j)/\K e'
theorem RD{ds:List Deferred}(ak:CP P ok){C:World->Prop}{ops:Array Oper}{K:Env->Prop}:∀(l:List Oper) (i:Nat) (kn:List (Nat×Option Bool)) (e:Env) (a:Act),
  ops.toList.drop i=l->Dk ops.toList kn e->Fr ds n e a->Ka P ok n C ops.toList K w l i kn e->
  wpQuiet P ops C (IC ds n l e K) l a:=by
 intro l;induction l with
 |nil=>
  intro i kn e a _ _ Y h;exact⟨e,Y,fun _ _=>rfl,h⟩
 |cons o B ih=>
  intro i kn e a hl Q Y h;have al:CJ ops.toList i=o.dst:=by
   have:ops.toList[i]?=some o:=by
    have:=kM (fun l=>l[0]?) hl;simpa using this
   rw[CH,this];rfl
  have a6:ops.toList.drop (i+1)=B:=by
   have:=kM List.tail hl;simpa using this
  have T:∀(v:Value) (a':Act),wpQuiet P ops C (IC ds n B (BN n e o.dst v) K) B a'->wpQuiet P ops C (IC ds n (o::B) e K) B a':=
   fun v a' hh=>Je (fun a ⟨e',h1,h2,h3⟩=>⟨e',h1,fun j hj=>by
    rw [h2 j (fun o' an=>hj o' (by simp [an]))];exact HZ (hj o (by simp)),h3⟩) B a' hh
  simp only[Ka] at h;cases S:FJ o.dst kn ops.toList with
  |true=>simp only[S,kA] at h
  |false=>
   simp only[S,kF] at h;have Mm:∀I,(∀v,Dk ops.toList I (BN n e o.dst v))->aP P ok C o (ev e) (fun v=>Ka P ok n C ops.toList K w B (i+1) I (BN n e o.dst v)) w->
     o.quiet P a C (wpQuiet P ops C (IC ds n (o::B) e K) B):=by
    intro I hk Z;exact S0 ak Y Z fun v U=>T v _ (ih (i+1) I _ _ a6 (hk v) (Y.put o.dst v) U)
   have E:∀I,Dk ops.toList I (BN n e o.dst undef)->Ka P ok n C ops.toList K w B (i+1) ((i,none)::I) (BN n e o.dst undef)->
     wpQuiet P ops C (IC ds n (o::B) e K) B (a.put o.dst undef):=by
    intro I hk Z;refine T undef _ (ih (i+1) _ _ _ a6 (hk.cons ?_) (Y.put o.dst undef) Z);unfold yv;rw[al];cases hd:o.dst with
    |none=>rfl
    |some d=>
     have:=(Y.put o.dst undef).get d;rw[hd] at this;show bv (BN n e (some d) undef d)=none;rw[<-this];by_cases a7:d<a.tmps.size
     .simp[Act.put,a7];rfl
     .simp[Act.put,a7];rfl
   have hy:=fun j=>GC (n:=n) Y (ops:=ops) (j:=j);unfold wpQuiet;cases hg:o.guard with
   |none=>
    simp only[hg] at h;rw[Io (by simp[Region.wanted,hg])];exact Mm kn (fun v=>Q.put S v) h
   |some g=>
    obtain⟨j,O⟩:=g;simp only[hg] at h;have hw:Region.wanted o (yielded ops a.tmps)=(yv ops.toList e j==some O):=by simp only[Region.wanted,hg,hy]
    rw[hw];cases a1:Cz kn j with
    |some b=>
     rw[Q j b a1];simp only[a1] at h;cases b with
     |none=>
      simp only at h;rw[C3 (by simp)];exact E kn (Q.put S _) h
     |some b=>
      simp only[HD] at h;cases V:(b==O) with
      |true=>
       simp only[V,kA] at h;rw[Io (by simpa using V)];exact Mm kn (fun v=>Q.put S v) h
      |false=>
       simp only[V,kF] at h;rw[C3 (by simpa using V)];exact E kn (Q.put S _) h
    |none=>
     simp only[a1] at h;cases hd:CJ ops.toList j with
     |none=>simp only[hd] at h
     |some d=>
      simp only[hd] at h;cases J:FJ o.dst ((j,none)::kn) ops.toList with
      |true=>simp only[J,kA] at h
      |false=>
       simp only[J,kF] at h;have a8:yv ops.toList e j=bv (e d):=by simp[yv,hd]
       have X:∀b,bv (e d)=b->∀v,Dk ops.toList ((j,b)::kn) (BN n e o.dst v):=fun b hb v=>
        (Q.cons (a8.trans hb)).put (d:=o.dst) (by
         simp only[FJ] at J ⊢;cases av:o.dst with
         |none=>rfl
         | some t=>rw [av] at J;simpa [List.any_cons] using J) v
       rw[a8];rcases EU h with⟨U,hb⟩|⟨U,hb⟩
       .rw[Cq U] at hb;rw[U];cases O with
        |true=>
         simp only[kA] at hb;rw[Io (by rfl)];exact Mm _ (X _ (by rw[U];rfl)) hb
        |false=>
         simp only[kF] at hb;rw[C3 (by simp[bv])];exact E _ (X _ (by rw[U];rfl) _) hb
       .rw[Cq U] at hb;rw[U];cases O with
        |true=>
         simp only[kA] at hb;rw[C3 (by simp[bv])];exact E _ (X _ (by rw[U];rfl) _) hb
        |false=>
         simp only[kF] at hb;rw[Io (by rfl)];exact Mm _ (X _ (by rw[U];rfl)) hb
theorem WQ{ro:Option Nat}{m:Nat}{ops:Array Oper}{Q:Exit->Act->World->Prop}(T:¬LetsOut Q)(E:ro=none\/ops.toList.all Uu=true):∀(l:List Nat) (a:Act) (w:World),wpOps P ops Q l a w->wpOpsIn (Wd ro) m P ops Q l a w:=by
 intro l;induction l with
 |nil=>intro a w h;exact h
 |cons i S j=>
  intro a w h;simp only[wpOps] at h;simp only[wpOpsIn];cases I:ops[i]? with
  |none=>simp only[I] at h ⊢;exact j _ _ h
  |some o=>
   simp only[I] at h ⊢;split
   .rename_i J;rw[Io J] at h;replace h:=h.resolve_right fun h=>T h.2
    refine⟨fun _ _=>trivial,?_⟩;have U:o.semAt ro a.eval=execOp a.eval o:=by
     rcases E with rfl|E
     .rfl
     .refine qi _ _ _ fun c hc=>?_;have:=kU.1 E o (by rw[Array.mem_toList_iff];exact qM I);simp[Uu,hc] at this
    rw[show(Wd ro).round=ro from rfl,U];unfold Oper.wp at h;generalize (execOp a.eval o).run P w=r at h ⊢;match r,h with
    |.ok (.value v) w',h=>exact j _ _ h
    |.ok .skip w',h=>exact j _ _ h
    |.ok (.defer d) w',h=>exact j _ _ h
    |.ok (.enter f args) w',h=>
     refine⟨(fun h=>by cases h),(qC.2 (nH h fun e B O=>?_):CallsIn Fence.wide _ _ _ _ _ _)⟩;cases e with
     |returned v=>exact j _ _ O
     |panicked X=>exact O
     |outgrown=>exact O
    |.ok (.row row args) w',h=>
     refine⟨(fun h=>by cases h),?_⟩;intro c cs _;obtain⟨v,B,h1,V⟩:=h c cs;exact⟨v,B,j _ _ h1,(StepsIn.of_steps V).mono fun m _=>fenced_wide P m⟩
    |.halt (.panic v) w',h=>exact h
   .rename_i J;rw[C3 J] at h;exact⟨fun _ _=>trivial,j _ _ h⟩
theorem JZ{ro:Option Nat}{m:Nat}{id:Nat}{ops:Array Oper}{Q:Exit->Act->World->Prop}{a:Act}(hm:P.follows .mixedOrders=true)(i:¬LetsOut Q)(j:ro=none\/ops.toList.all Uu=true)
 (h:wpAny P .any ops Q ops.size (Array.replicate ops.size false) a { w with drawn:=w.drawn+1 }):(Code.region id ops true).wpIn (Wd ro) m P Q a w:=
 wpIn_region_draw fun t=>WQ i j _ _ _ (by
  simp only [Region.schedule,hm,Bool.true_or,km];exact wpAny_sound ops.size t _ a _ h)
theorem H0{ds:List Deferred}{all:List Oper}{K:Env->World->Prop}:¬LetsOut (DE ds all n e0 K):=by
 rintro⟨a,w,h,_⟩;cases h
theorem Qc{ds:List Deferred}{L:List Nat}{e:Env}{a:Act}(i:Fr ds n e a):L.map (fun t=>a.tmps.getD t undef)=L.map e:=mj fun t _=>i.get t
theorem Jz{ds:List Deferred}{ro:Option Nat}{m:Nat}(a6:CP P ok)(hm:P.follows .mixedOrders=true):∀(c:Code) (an:Qp) (Q:EQ) (e:Env) (w:World) (a:Act),ro=none\/LM c=true->Fr ds n e a->D P ok n c an Q e w->c.wpIn (Wd ro) m P (lift n ds c e Q) a w:=by
 intro c;induction c with
 |skip=>intro an Q e w a B S h;exact wpIn_skip ⟨e,S,fun _ _=>rfl,h⟩
 |exit id=>intro an Q e w a B S h;exact wpIn_exit ⟨e,S,fun _ _=>rfl,h⟩
 |ret=>intro an Q e w a B S h;exact wpIn_ret ⟨e,S,fun _ _=>rfl,h⟩
 |label l=>intro an Q e w a B S h;exact wpIn_label ⟨e,S,fun _ _=>rfl,h⟩
 |goto l=>intro an Q e w a B S h;exact h.elim
 |refuse y=>intro an Q e w a B S h;exact h.elim
 |scope x ih=>
  intro an Q e w a B S h;obtain rfl:ro=none:=B.resolve_right (by simp[LM]);refine(wpIn_wide (n:=m)).2 (wp_scope_straight (wp_mono ((wpIn_wide (n:=m)).1 (ih an (jC Q) e w a (.inl rfl) S h)) ?_));rintro ex T w' ⟨e',h1,O,J⟩;cases ex with
  |goto l=>exact J.elim
  |normal=>exact⟨e',h1,fun j E=>O j E,J⟩
  |exit i=>exact⟨e',h1,fun j E=>O j E,J⟩
  |ret=>exact⟨e',h1,fun j E=>O j E,J⟩
  |panic c=>exact⟨e',h1,fun j E=>O j E,J⟩
  |outgrown=>exact⟨e',h1,fun j E=>O j E,J⟩
 |rangeFunc f ps x y b6 b7=>intro an Q e w a B S h;exact h.elim
 |region id ops draw=>
  intro an Q e w a B S h;simp only[D] at h;cases draw with
  |false=>
   refine wpIn_region_list (Iv ?_ _ _ _ (Rm a6 ops.toList 0 [] e w a rfl (fun j b hb=>by simp[Cz] at hb) S h));rintro ex T w' ⟨rfl,e',h1,O,J⟩;exact⟨e',h1,fun j E=>O j (fun o ho hd=>E ⟨o,ho,hd⟩),J⟩
  |true=>
   simp only at h;have hD:ro=none\/ops.toList.all Uu=true:=B.imp (fun h=>h) fun h=>by simpa[LM] using h
   cases an with
   |draw=>
    simp only at h;cases U:Region.lexB .any ops with
    |false=>rw[U] at h;exact h.elim
    |true=>
     rw [U] at h;simp only [kA] at h;obtain ⟨C,hC,h⟩:=h;simp only [Region.lexB,TC] at U;have:=RD a6 ops.toList 0 [] e a rfl (fun j b hb=>by simp [Cz] at hb) S h;refine mG (Q:=fun ex T w'=>ex=.normal/\lift n ds (.region id ops true) e Q .normal T w') (JZ hm (fun ⟨_,_,h,_⟩=>by cases h) hD ?_) (by rintro ex T w' ⟨rfl,h⟩;exact h);refine wpAny_of_quiet (Q:=fun T=>∀ w',C w'->lift n ds (.region id ops true) e Q .normal T w') (fun _ w' X h=>⟨rfl,h w' X⟩) _ _ _ _ hC ?_;have h9:=wpAnyQ_lex (C:=C) (md:=.any) U.1 ops.toList 0 (Array.replicate ops.size false) a (by simp) (by simpa using U.2) (Je (Q':=fun T=>∀ w',C w'->lift n ds (.region id ops true) e Q .normal T w') (by
      rintro T ⟨e',h1,O,J⟩ w' X;exact ⟨e',h1,fun j E=>O j (fun o ho hd=>E ⟨o,ho,hd⟩),J w' X⟩) _ _ this)
     simpa using h9
   |dg AS AN Gs=>
    simp only at h;cases U:L8 n ops.toList AS AN Gs with
    |false=>rw[U] at h;exact h.elim
    |true=>
     rw[U] at h;simp only[kA] at h;refine mG (JZ hm H0 hD (O5 (K:=fun e w=>Q .normal e w) a6 hm S U h)) ?_;rintro ex T w' ⟨rfl,e',h1,O,J⟩;exact⟨e',h1,fun j E=>O j (fun o ho hd=>E ⟨o,ho,hd⟩),J⟩
   |dc AS AN Gs=>
    simp only at h;cases U:(L8 n ops.toList AS AN Gs&&LQ AS AN) with
    |false=>rw[U] at h;exact h.elim
    |true=>
     rw[U] at h;simp only[kA] at h;simp only[TC] at U;refine mG (JZ hm H0 hD (QX (K:=fun e w=>Q .normal e w) a6 hm S U.1 U.2 h)) ?_;rintro ex T w' ⟨rfl,e',h1,O,J⟩;exact⟨e',h1,fun j E=>O j (fun o ho hd=>E ⟨o,ho,hd⟩),J⟩
   |dt AS AN Gs t=>
    simp only at h;cases U:(L8 n ops.toList AS AN Gs&&SY ops.toList.length AS AN t) with
    |false=>rw[U] at h;exact h.elim
    |true=>
     rw[U] at h;simp only[kA] at h;simp only[TC] at U;refine mG (JZ hm H0 hD (QD (K:=fun e w=>Q .normal e w) a6 hm S U.1 U.2 h)) ?_;rintro ex T w' ⟨rfl,e',h1,O,J⟩;exact⟨e',h1,fun j E=>O j (fun o ho hd=>E ⟨o,ho,hd⟩),J⟩
   |_=>exact h.elim
 |cond c x y a8 ak=>
  intro an Q e w a B S h;cases an with
  |nil=>exact h.elim
  |cut=>exact h.elim
  |draw=>exact h.elim
  |dg=>exact h.elim
  |dc=>exact h.elim
  |dt=>exact h.elim
  |node L W Y Z=>
   have ax:a.eval c=ev e c:=by rw[S.eval]
   rcases EU h with⟨hv,hb⟩|⟨hv,hb⟩
   .refine wpIn_cond_true (ax.trans hv) (mG (a8 Y Q e w a (B.imp id fun h=>by simp only[LM,TC] at h;exact h.1) S hb) ?_);rintro ex T w' ⟨e',h1,O,J⟩;exact⟨e',h1,fun j E=>O j (fun V=>E (.inl V)),J⟩
   .refine wpIn_cond_false (ax.trans hv) (mG (ak Z Q e w a (B.imp id fun h=>by simp only[LM,TC] at h;exact h.2) S hb) ?_);rintro ex T w' ⟨e',h1,O,J⟩;exact⟨e',h1,fun j E=>O j (fun V=>E (.inr V)),J⟩
 |block id x ih=>
  intro an Q e w a B S h;refine wpIn_block (mG (ih an (iM id Q) e w a B S h) ?_);rintro ex T w' ⟨e',h1,O,J⟩;cases ex with
  |exit i=>
   simp only[iM] at J;simp only[Exit.inBlock];cases hb:Nat.beq i id with
   |true=>rw[hb] at J;rw[Io (ka hb)];exact⟨e',h1,O,J⟩
   |false=>
    rw[hb] at J;rw[C3 (by intro e1;subst e1;simp at hb)];exact⟨e',h1,O,J⟩
  |_=>exact⟨e',h1,O,J⟩
 |seq x y a8 ak=>
  intro an Q e w a B S h;have al:∀{e1 e2:Env},(∀j,¬Wr x j->e1 j=e j)->(∀j,¬Wr y j->e2 j=e1 j)->∀j,¬Wr (.seq x y) j->e2 j=e j:=fun h1 O j E=>
   (O j fun V=>E (.inr V)).trans (h1 j fun V=>E (.inl V))
  have a7:∀{e1:Env},(∀j,¬Wr x j->e1 j=e j)->∀j,¬Wr (.seq x y) j->e1 j=e j:=fun h1 j E=>h1 j fun V=>E (.inl V);cases an with
  |nil=>exact h.elim
  |draw=>exact h.elim
  |dg=>exact h.elim
  |dc=>exact h.elim
  |dt=>exact h.elim
  |node L W Y Z=>
   refine wpIn_seq (mG (a8 Y _ e w a (B.imp id fun h=>by simp only[LM,TC] at h;exact h.1) S h) ?_);rintro ex T w' ⟨e',h1,O,J⟩;cases ex with
   |normal=>
    refine mG (ak Z Q e' w' T (B.imp id fun h=>by simp only[LM,TC] at h;exact h.2) h1 J) ?_;rintro ex b3 b4 ⟨av,h4,h5,h6⟩;exact⟨av,h4,al O h5,h6⟩
   |_=>exact⟨e',h1,a7 O,J⟩
  |cut L W Y Z=>
   simp only[D] at h;cases V:Im W x with
   |false=>simp only[V,kF] at h
   |true=>
    simp only[V,kA] at h;obtain⟨I,hI,hG⟩:=h;refine wpIn_seq (mG (a8 Y _ e w a (B.imp id fun h=>by simp only[LM,TC] at h;exact h.1) S hG) ?_);rintro ex T w' ⟨e',h1,O,J⟩;cases ex with
    |normal=>
     have h4:=hI _ _ J e';rw[Pw (fun j E=>O j fun X=>by rw[Dz V j X] at E;cases E)] at h4;refine mG (ak Z Q e' w' T (B.imp id fun h=>by simp only[LM,TC] at h;exact h.2) h1 h4) ?_;rintro ex b3 b4 ⟨av,h5,h6,h7⟩;exact⟨av,h5,al O h6,h7⟩
    |_=>exact⟨e',h1,a7 O,J⟩
 |loop x ih=>
  intro an Q e w a B S h;cases an with
  |nil=>exact h.elim
  |cut=>exact h.elim
  |draw=>exact h.elim
  |dg=>exact h.elim
  |dc=>exact h.elim
  |dt=>exact h.elim
  |node L W Y Z=>
   simp only[D] at h;cases V:Im W x with
   |false=>simp only[V,kF] at h
   |true=>
    simp only[V,kA] at h;obtain⟨I,μ,h0,hR⟩:=h;refine wpIn_loop (fun T w'=>∃e',Fr ds n e' T/\(∀j,¬Wr x j->e' j=e j)/\I (L.map e') w') (fun T w'=>μ (L.map fun t=>T.tmps.getD t undef) w') ⟨e,S,fun _ _=>rfl,h0⟩ ?_;rintro a1 w1 ⟨e1,ay,b0,b5⟩;have h4:=hR _ _ b5 e1;rw[Pw (fun j E=>b0 j fun X=>by rw[Dz V j X] at E;cases E)] at h4;refine mG (ih Y _ e1 w1 a1 B ay h4) ?_;rintro ex a2 w2 ⟨e2,h5,h6,h7⟩;have h8:∀j,¬Wr x j->e2 j=e j:=fun j E=>(h6 j E).trans (b0 j E);cases ex with
    |normal=>
     refine⟨⟨e2,h5,h8,h7.1⟩,?_⟩;rw[Qc h5,Qc ay];exact h7.2
    |_=>exact⟨e2,h5,h8,h7⟩
def K1(P:Program):List ResultVar->Env->World->(List Value->Prop)->Prop
 |[],_,_,K=>K []
 |.tmp t::r,e,w,K=>K1 P r e w fun vs=>K (e t::vs)
 |.cell a t::r,e,w,K=>match Hi P t with
  |some (false,_)=>AL (e a) (fun v w'=>K1 P r e w' fun vs=>K (v::vs)) w
  |some (true,k)=>Af k (e a) (fun v w'=>K1 P r e w' fun vs=>K (v::vs)) w
  |none=>False
def RG:List Value->Value
 |[v]=>v
 |vs=>.tuple vs.toArray
def fO(P:Program)(rs:List ResultVar)(K:Cont):EQ:=fun ex e w=>match ex with
 |.normal=>K1 P rs e w fun vs=>K (RG vs) w
 |.ret=>K1 P rs e w fun vs=>K (RG vs) w
 |_=>False
def JC(f:Func):Code:=match f.body with|some c=>c|none=>.skip
theorem WC{ds:List Deferred}{e:Env}{a:Act}(E:Fr ds n e a)(f:ResultVar->Sem Value)(I:∀t,f (.tmp t)=pure (a.tmps.getD t undef))(J:∀x t,f (.cell x t)=(do loadVar t (<- asAddr (a.tmps.getD x undef)))):∀(rs:List ResultVar) (K:List Value->Prop),K1 P rs e w K->
  ∃vs,(rs.mapM f:Sem (List Value)).run P w=.ok vs w/\K vs:=by
 intro rs;induction rs with
 |nil=>intro K h;exact⟨[],by simp,h⟩
 |cons r rs O=>
  intro K h;cases r with
  |tmp t=>
   obtain⟨vs,h1,j⟩:=O _ h;refine⟨_,?_,j⟩;rw[qS];rw[kD,I];simp only[k7,S3];rw[kD,h1];simp only[S3,k7,E.get]
  |cell x t=>
   simp only[K1] at h;have key:∀v,(loadVar t ·:Addr->Sem Value)=(loadVar t ·)->K1 P rs e w (fun vs=>K (v::vs))->(do loadVar t (<- asAddr (a.tmps.getD x undef)):Sem Value).run P w=.ok v w->
     ∃vs,((ResultVar.cell x t::rs).mapM f:Sem (List Value)).run P w=.ok vs w/\K vs:=by
    intro v _ B Q;obtain⟨vs,h1,j⟩:=O _ B;refine⟨_,?_,j⟩;rw[qS];rw[kD,J,Q];simp only[S3];rw[kD,h1];simp only[S3,k7]
   split at h
   .rename_i k ha;obtain⟨p,v,h1,j,B⟩:=h;refine key v rfl B ?_;have o:a.tmps.getD x undef=.pointer (some p):=(E.get x).trans h1;rw[kD,o];simp only[asAddr,k7,S3];simp[loadVar,(Ee ha w).1,j]
   .rename_i k ha;obtain⟨p,vs,h1,hl,j,B⟩:=h;refine key _ rfl B ?_;have o:a.tmps.getD x undef=.pointer (some p):=(E.get x).trans h1;rw[kD,o];simp only[asAddr,k7,S3];have i:=run_loadCells_list (P:=P) (w:=w) p vs j;simp only[loadVar,kD,(Ee ha w).1,(Ee ha w).2,S3,km];rw[<-hl,i];rfl
   .exact h.elim
theorem Gp{ds:List Deferred}{fn:Func}{e:Env}{a:Act}(i:Fr ds n e a)(h:K1 P fn.results.toList e w fun vs=>K (RG vs) w) :
  ∃v,(results fn a.tmps).run P w=.ok v w/\K v w:=by
 obtain⟨vs,h1,j⟩:=WC i (fun x=>match x with|.tmp t=>pure (a.tmps.getD t undef)|.cell y t=>do loadVar t (<- asAddr (a.tmps.getD y undef))) (fun _=>rfl) (fun _ _=>rfl) _ _ h;refine⟨_,?_,j⟩;unfold results;rw[kD,pd,Sem.run_map]
 erw [h1]
 simp only[S3,k7];congr 1
 match vs with
 |[]=>rfl
 |[v]=>rfl
 |v::u::r=>simp[RG]
theorem Ry{m:Nat}(B:args.length<=m):Fr [] m (nth args) { tmps:=args.toArray++Array.replicate (m-args.toArray.size) undef,defers:=[] }:=by
 have i:∀(l:List Value) (t:Nat),nth l t=l.getD t undef:=by
  intro l;induction l with
  |nil=>
   intro t;induction t with
   |zero=>rfl
   |succ t o=>simpa[nth] using o
  |cons v l o=>intro t;cases t with
   |zero=>simp[nth]
   |succ t=>simp[nth,o]
 refine⟨by simp;omega,fun t=>?_,rfl⟩;rw[i];simp only[ky,qN,mY,List.getElem?_toArray,lE];split
 .rfl
 .rename_i E;rw[kN (by omega)];cases j:(Array.replicate (m-args.length) undef)[t-args.length]? with
  |none=>rfl
  |some v=>
   rw[nJ] at j;split at j
   .cases j;rfl
   .cases j
theorem VQ{g:Nat}{fn:Func}{c:Code}{rs:List ResultVar}{an:Qp}(i:CP P ok)(hm:P.follows .mixedOrders=true)(O:P.funcs[g]?=some fn)
 (hb:fn.body=some c)(Q:fn.ntmps=n)(j:fn.results.toList=rs)(hl:Nat.ble args.length n=true)(h:D P ok n c an (fO P rs K) (nth args) w):AB P g args K w:=by
 refine calls_of_wp O hb ?_;have o:=lS hl;subst Q;have B:=Ry o;refine wp_mono ((wpIn_wide (n:=0)).1 (Jz (ds:=[]) (ro:=none) (m:=0) i hm c an _ _ w _ (.inl rfl) B h)) ?_;rintro ex S w' ⟨e',h1,_,E⟩;subst j;cases ex with
 |normal=>
  obtain⟨v,I,J⟩:=Gp h1 E;exact⟨h1.defers,v,I,v,rfl,J⟩
 |ret=>
  obtain⟨v,I,J⟩:=Gp h1 E;exact⟨h1.defers,v,I,v,rfl,J⟩
 |_=>exact E.elim
attribute [irreducible] D
end
def jB:List Nat:=[2,3,4,5,6,7,8,9,10,11,12,13,14,15,16,17,18,19,20,21,22,23,24,25,26,27,28,29,30,31,32,33,34,35,36,37,38,39,40,41,42,43,44,45,46,47,48,49,50,51,52,53,54,55,56,57,58,59,60,61,62,63,64,65,66,67,68,69,70,71,72,73,74,75,76,77,78,79,80,81,82,83,84,85,86,87,88,89,90,91,92,93,94,95,96,97,98,99,100,101,102,103,104,105,106,107,108,109,110,111,112,113,114,115,116,117,118,119,120,121,122,123,124,125,126,127,128,129,130,131,132,133,134,135,136,137,138,139,140,141,142,143,144,145,146,147,148,149,150,151,152,153,154,155,156,157,158,159,160,161,162,163,164,165,166,167,168,169,170,171,172,173,174,175,176,177,178,179,180,181,182,183,184,185,186,187,188,189,190,191,192,193,194,195,196,197,198,199,200,201,202,203,204,205,206,207,208,209,210,211,212,213,214,215,216,217,218,219,220,221,222,223,224,225,226,227,228,229,230,231,232,233,234,235,236,237,238,239,240,241,242,243,244,245,246,247,248,249,250,251,252,253,254,255,256,258,259,260,261,262,263,264,265,266,267,268,269,270,271,272,273,274,275,276,277,278,279,280,281,282,283,284,286,287,288,289,290,291,292,293,294,295,296,297,298,299,300,337]
def Dh(g:Nat):Bool:=jB.any fun x=>Nat.beq x g
theorem mixed:prog.follows .mixedOrders=true:=by kernel_rfl
set_option maxRecDepth 100000 in
theorem gq:∀g∈jB,∀args w,(callFunc g args).run prog w=.ok (.enter g args) w:=by
 unfold jB;simp only[List.forall_mem_cons];exact⟨call2,call3,call4,call5,call6,call7,call8,call9,call10,call11,call12,call13,call14,call15,call16,call17,call18,call19,call20,call21,call22,call23,call24,call25,call26,call27,call28,call29,call30,call31,call32,call33,call34,call35,call36,call37,call38,call39,call40,call41,call42,call43,call44,call45,call46,call47,call48,call49,call50,call51,call52,call53,call54,call55,call56,call57,call58,call59,call60,call61,call62,call63,call64,call65,call66,call67,call68,call69,call70,call71,call72,call73,call74,call75,call76,call77,call78,call79,call80,call81,call82,call83,call84,call85,call86,call87,call88,call89,call90,call91,call92,call93,call94,call95,call96,call97,call98,call99,call100,call101,call102,call103,call104,call105,call106,call107,call108,call109,call110,call111,call112,call113,call114,call115,call116,call117,call118,call119,call120,call121,call122,call123,call124,call125,call126,call127,call128,call129,call130,call131,call132,call133,call134,call135,call136,call137,call138,call139,call140,call141,call142,call143,call144,call145,call146,call147,call148,call149,call150,call151,call152,call153,call154,call155,call156,call157,call158,call159,call160,call161,call162,call163,call164,call165,call166,call167,call168,call169,call170,call171,call172,call173,call174,call175,call176,call177,call178,call179,call180,call181,call182,call183,call184,call185,call186,call187,call188,call189,call190,call191,call192,call193,call194,call195,call196,call197,call198,call199,call200,call201,call202,call203,call204,call205,call206,call207,call208,call209,call210,call211,call212,call213,call214,call215,call216,call217,call218,call219,call220,call221,call222,call223,call224,call225,call226,call227,call228,call229,call230,call231,call232,call233,call234,call235,call236,call237,call238,call239,call240,call241,call242,call243,call244,call245,call246,call247,call248,call249,call250,call251,call252,call253,call254,call255,call256,call258,call259,call260,call261,call262,call263,call264,call265,call266,call267,call268,call269,call270,call271,call272,call273,call274,call275,call276,call277,call278,call279,call280,call281,call282,call283,call284,call286,call287,call288,call289,call290,call291,call292,call293,call294,call295,call296,call297,call298,call299,call300,call337,fun g i=>nomatch i⟩
theorem Fc:CP prog Dh:=by
 intro g i;simp only[Dh,ny] at i;obtain⟨x,j,hb⟩:=i;have:=ka hb;subst this;exact gq x j
section
variable {P:Program}{ok:Nat->Bool}{K:Cont}{k:Value->Prop}{w:World}
theorem FC(b:Bool)(A B:Prop):AD (.bool b) A B=if b=true then A else B:=by cases b<;>simp[AD]
theorem ZO(p:Prop)[Decidable p](A B:Prop):AD (.bool (decide p)) A B=if p then A else B:=by
 rw[FC];by_cases h:p<;>simp[h]
theorem X9(b:Bool)(x y:Value):MC (.bool b) x y k=k (if b=true then x else y):=by cases b<;>simp[MC]
theorem AR(q:IntKind)(a b:Int):AX q (.int q a) (.int q b) k=k (.int q (q.wrap (a+b))):=propext ⟨fun⟨_,_,h1,i,h⟩=>by cases h1;cases i;exact h,fun h=>⟨_,_,rfl,rfl,h⟩⟩
theorem Av(q:IntKind)(a b:Int):BW q (.int q a) (.int q b) k=k (.int q (q.wrap (a-b))):=propext ⟨fun⟨_,_,h1,i,h⟩=>by cases h1;cases i;exact h,fun h=>⟨_,_,rfl,rfl,h⟩⟩
theorem fM(q:IntKind)(a b:Int):cB q (.int q a) (.int q b) k=k (.int q (q.wrap (a*b))):=propext ⟨fun⟨_,_,h1,i,h⟩=>by cases h1;cases i;exact h,fun h=>⟨_,_,rfl,rfl,h⟩⟩
theorem Ap(q:IntKind)(a b:Int):Bb q (.int q a) (.int q b) k=k (.bool (decide (a<b))):=propext ⟨fun⟨_,_,h1,i,h⟩=>by cases h1;cases i;exact h,fun h=>⟨_,_,rfl,rfl,h⟩⟩
theorem IJ(q:IntKind)(a b:Int):SQ q (.int q a) (.int q b) k=k (.bool (decide (a<=b))):=propext ⟨fun⟨_,_,h1,i,h⟩=>by cases h1;cases i;exact h,fun h=>⟨_,_,rfl,rfl,h⟩⟩
theorem BR(q:IntKind)(a b:Int):Eu q (.int q a) (.int q b) k=k (.bool (decide (b<a))):=propext ⟨fun⟨_,_,h1,i,h⟩=>by cases h1;cases i;exact h,fun h=>⟨_,_,rfl,rfl,h⟩⟩
theorem DX(q:IntKind)(a b:Int):Kk q (.int q a) (.int q b) k=k (.bool (decide (b<=a))):=propext ⟨fun⟨_,_,h1,i,h⟩=>by cases h1;cases i;exact h,fun h=>⟨_,_,rfl,rfl,h⟩⟩
theorem Al(q:IntKind)(a b:Int):DJ q (.int q a) (.int q b) k=k (.bool (decide (a=b))):=propext ⟨fun⟨_,_,h1,i,h⟩=>by cases h1;cases i;exact h,fun h=>⟨_,_,rfl,rfl,h⟩⟩
theorem Bm(q:IntKind)(a b:Int):EB q (.int q a) (.int q b) k=k (.bool (!decide (a=b))):=propext ⟨fun⟨_,_,h1,i,h⟩=>by cases h1;cases i;exact h,fun h=>⟨_,_,rfl,rfl,h⟩⟩
theorem G1(q:IntKind)(a b:Int):KM q (.int q a) (.int q b) k=k (.int q (if b>a then b else a)):=propext ⟨fun⟨_,_,h1,i,h⟩=>by cases h1;cases i;exact h,fun h=>⟨_,_,rfl,rfl,h⟩⟩
theorem HY(q:IntKind)(a b:Int):K3 q (.int q a) (.int q b) k=k (.int q (if b<a then b else a)):=propext ⟨fun⟨_,_,h1,i,h⟩=>by cases h1;cases i;exact h,fun h=>⟨_,_,rfl,rfl,h⟩⟩
theorem dE(a b:Bool):cy (.bool a) (.bool b) k=k (.bool (a==b)):=propext ⟨fun⟨_,_,h1,i,h⟩=>by cases h1;cases i;exact h,fun h=>⟨_,_,rfl,rfl,h⟩⟩
theorem Qt(a b:Bool):VD (.bool a) (.bool b) k=k (.bool (!(a==b))):=propext ⟨fun⟨_,_,h1,i,h⟩=>by cases h1;cases i;exact h,fun h=>⟨_,_,rfl,rfl,h⟩⟩
theorem eQ(a b:ByteArray):cN (.string a) (.string b) k=k (.bool (decide (a=b))):=propext ⟨fun⟨_,_,h1,i,h⟩=>by cases h1;cases i;exact h,fun h=>⟨_,_,rfl,rfl,h⟩⟩
theorem df(a b:ByteArray):fY (.string a) (.string b) k=k (.bool (!decide (a=b))):=propext ⟨fun⟨_,_,h1,i,h⟩=>by cases h1;cases i;exact h,fun h=>⟨_,_,rfl,rfl,h⟩⟩
theorem Sg(a:Option Addr)(n c:Nat)(k:Bool->Prop):Hg (.slice a n c) k=k a.isNone:=propext ⟨fun⟨_,_,_,h1,h⟩=>by cases h1;exact h,fun h=>⟨_,_,_,rfl,h⟩⟩
theorem JV(a:Option Addr)(k:Bool->Prop):CY (.pointer a) k=k a.isNone:=propext ⟨fun⟨_,h1,h⟩=>by cases h1;exact h,fun h=>⟨_,rfl,h⟩⟩
theorem Ar(a:Bool):CE (.bool a) k=k (.bool (!a)):=propext ⟨fun⟨_,h1,h⟩=>by cases h1;exact h,fun h=>⟨_,rfl,h⟩⟩
theorem AP(a:Option Addr)(n c:Nat):Ae (.slice a n c) k=k (.int .i64 n):=propext ⟨fun⟨_,_,_,h1,h⟩=>by cases h1;exact h,fun h=>⟨_,_,_,rfl,h⟩⟩
theorem LG(s:ByteArray):L6 (.string s) k=k (.int .i64 s.size):=propext ⟨fun⟨_,h1,h⟩=>by cases h1;exact h,fun h=>⟨_,rfl,h⟩⟩
theorem Bi(a:Addr):AJ (.pointer (some a)) k=k (.pointer (some a)):=propext ⟨fun⟨_,h1,h⟩=>by cases h1;exact h,fun h=>⟨_,rfl,h⟩⟩
theorem AG(off:Nat)(a:Addr):AM off (.pointer (some a)) k=k (.pointer (some (a.add off))):=propext ⟨fun⟨_,h1,h⟩=>by cases h1;exact h,fun h=>⟨_,rfl,h⟩⟩
theorem B0(vs:List Value):nth vs 0=vs.headD undef:=rfl
theorem Sb(vs:List Value)(k:Nat):nth vs (k+1)=nth vs.tail k:=rfl
theorem Addr.add_add(a:Addr)(x y:Nat):(a.add x).add y=a.add (x+y):=by
 unfold Addr.add;split<;>split<;>simp_all<;>omega
theorem AU{s:Nat}{a:Addr}{n c:Nat}{q:IntKind}(h1:j<n)(h:k (.pointer (some (a.add (j*s))))):BQ s (.slice (some a) n c) (.int q (j:Int)) k:=
 ⟨_,_,_,_,_,rfl,rfl,by omega,by omega,by simpa using h⟩
theorem AK{a:Addr}(hc:w.cell? a=some v)(h:K v w):AL (.pointer (some a)) K w:=⟨a,v,rfl,hc,h⟩
theorem Aj{n:Nat}{a:Addr}(hl:vs.length=n)(hc:∀j v,vs[j]?=some v->w.cell? (a.add j)=some v)(h:K (.agg vs.toArray) w):Af n (.pointer (some a)) K w:=⟨a,vs,rfl,hl,hc,h⟩
theorem Au{C:World->Prop}{a:Addr}(hc:∀w,C w->w.cell? a=some v)(h:k v):BJ C (.pointer (some a)) k:=⟨a,v,rfl,hc,h⟩
theorem Fl{C:World->Prop}{n:Nat}{a:Addr}(hl:vs.length=n)(hc:∀w,C w->∀j v,vs[j]?=some v->w.cell? (a.add j)=some v)(h:k (.agg vs.toArray)):FT C n (.pointer (some a)) k:=⟨a,vs,rfl,hl,hc,h⟩
theorem Kf{a:Addr}{v u:Value}{K:World->Prop}(h1:v.oneCell'=true)(i:v.cells=#[v])(hc:w.cell? a=some u)(j:w.frozen? a=false)(h:K (w.setCell a v)):BC (.pointer (some a)) v K w:=⟨a,u,rfl,h1,i,hc,j,h⟩
theorem CW(j:vs[i]?=some v)(h:k v):AQ i (.tuple vs.toArray) k:=⟨vs,v,rfl,j,h⟩
theorem AT{R:List Value->World->Prop}{G:(List Value->World->Prop)->Prop}(I:List Value->World->Prop)(h1:∀vs w,I vs w->R vs w)(i:G I):Ao R G:=⟨I,h1,i⟩
theorem Ab{i:List Value}{F:List Value->(List Value->World->Prop)->World->Prop}(I:List Value->World->Prop)(μ:List Value->World->Nat)(h0:I i w)(h:∀vs w,I vs w->F vs (fun j w'=>I j w'/\μ j w'<μ vs w) w):Aq i F w:=⟨I,μ,h0,h⟩
theorem AA{g:Nat}{i:Cont}(h:AB P g args K w)(hk:∀v w',K v w'->i v w'):AB P g args i w:=
 nH h fun _ _ ⟨v,h1,j⟩=>⟨v,h1,hk _ _ j⟩
theorem Ag{s:Sem Value}(h1:s.run P w=.ok v w')(h:K v w'):runK P s K w:=⟨v,w',h1,h⟩
theorem Qu{t:TypeId}(h:K (.pointer (some ⟨w.heap.size,0,none⟩)) (w.alloc (.cells cs.toArray t))):Am t cs K w:=h
theorem wrap64{x:Int}(h0:-9223372036854775808<=x)(h1:x<=9223372036854775807):IntKind.i64.wrap x=x:=by
 have i:(2:Int) ^ IntKind.i64.bits=18446744073709551616:=by decide
 have j:(2:Int) ^ (IntKind.i64.bits-1)=9223372036854775808:=by decide
 simp only[IntKind.wrap,i,j,IntKind.signed,nf,S6];split<;>omega
theorem VT(w:World)(t:TypeId):∀(vs done j:List Value),j.length=vs.length->EW (w.alloc (.cells (done++j).toArray t)) ⟨w.heap.size,0,none⟩ done.length vs=w.alloc (.cells (done++vs).toArray t):=by
 intro vs;induction vs with
 |nil=>intro done j hl;have:j=[]:=QC hl;subst this;rfl
 |cons v vs I=>
  intro done j hl;cases j with
  |nil=>simp at hl
  |cons z j=>
   simp only[EW];have h1:(w.alloc (.cells (done++z::j).toArray t)).setCell ((⟨w.heap.size,0,none⟩:Addr).add done.length) v=w.alloc (.cells ((done++[v])++j).toArray t):=by
    have o:(⟨w.heap.size,0,none⟩:Addr).add done.length=⟨w.heap.size,done.length,none⟩:=by unfold Addr.add;split<;>simp_all
    rw[o];simp only[World.setCell,World.alloc];congr 1
    rw[<-ot,Array.toList_modify];simp only[od];apply lW;intro i;rw[List.getElem?_modify];by_cases hi:w.heap.size=i
    .subst hi;simp[mz,List.setIfInBounds_toArray]
    .rcases pT hi with J|B
     .have O:¬i<w.heap.size:=by omega
      have E:¬i-w.heap.size=0:=by omega
      simp[hi,mz,List.getElem?_singleton,O,E]
     .simp[hi,mz,B]
   rw[h1];have:=I (done++[v]) j (by simpa using hl);simpa using this
theorem iF{t:TypeId}{o vs:List Value}{K:World->Prop}(hl:o.length=vs.length)(h1:∀v∈vs,v.oneCell'=true)(h:K (w.alloc (.cells vs.toArray t))) :
  Ac vs.length (.pointer (some ⟨w.heap.size,0,none⟩)) (.agg vs.toArray) K (w.alloc (.cells o.toArray t)):=by
 refine⟨_,vs,rfl,rfl,rfl,h1,fun j B=>?_,?_⟩
 .have i:(⟨w.heap.size,0,none⟩:Addr).add j=⟨w.heap.size,j,none⟩:=by unfold Addr.add;split<;>simp_all
  rw[i,oo,py];refine⟨?_,rfl⟩;have:j<o.length:=by omega
  simp[this]
 .have:=VT w t vs [] o hl;simp only[kS,kl] at this;rw[this];exact h
end
theorem KS :
  (∀(b:Bool) (A B:Prop),AD (.bool b) A B=if b=true then A else B)/\
  (∀{p:Prop} [Decidable p],(decide p=true)=p)/\
  (∀{a b:Bool},((!a)=b)↔(a=!b))/\
  ((!true)=false)/\
  (∀{p:Prop} [Decidable p],decide p=false↔¬p)/\
  (∀{k:Value->Prop} (b:Bool) (x y:Value),MC (.bool b) x y k=k (if b=true then x else y))/\
  (∀{k:Value->Prop} (q:IntKind) (a b:Int),AX q (.int q a) (.int q b) k=k (.int q (q.wrap (a+b))))/\
  (∀{k:Value->Prop} (q:IntKind) (a b:Int),BW q (.int q a) (.int q b) k=k (.int q (q.wrap (a-b))))/\
  (∀{k:Value->Prop} (q:IntKind) (a b:Int),cB q (.int q a) (.int q b) k=k (.int q (q.wrap (a*b))))/\
  (∀{k:Value->Prop} (q:IntKind) (a b:Int),Bb q (.int q a) (.int q b) k=k (.bool (decide (a<b))))/\
  (∀{k:Value->Prop} (q:IntKind) (a b:Int),SQ q (.int q a) (.int q b) k=k (.bool (decide (a<=b))))/\
  (∀{k:Value->Prop} (q:IntKind) (a b:Int),Eu q (.int q a) (.int q b) k=k (.bool (decide (b<a))))/\
  (∀{k:Value->Prop} (q:IntKind) (a b:Int),Kk q (.int q a) (.int q b) k=k (.bool (decide (b<=a))))/\
  (∀{k:Value->Prop} (q:IntKind) (a b:Int),DJ q (.int q a) (.int q b) k=k (.bool (decide (a=b))))/\
  (∀{k:Value->Prop} (q:IntKind) (a b:Int),EB q (.int q a) (.int q b) k=k (.bool (!decide (a=b))))/\
  (∀{k:Value->Prop} (q:IntKind) (a b:Int),KM q (.int q a) (.int q b) k=k (.int q (if b>a then b else a)))/\
  (∀{k:Value->Prop} (q:IntKind) (a b:Int),K3 q (.int q a) (.int q b) k=k (.int q (if b<a then b else a)))/\
  (∀{k:Value->Prop} (a b:Bool),cy (.bool a) (.bool b) k=k (.bool (a==b)))/\
  (∀{k:Value->Prop} (a b:Bool),VD (.bool a) (.bool b) k=k (.bool (!(a==b))))/\
  (∀{k:Value->Prop} (a b:ByteArray),cN (.string a) (.string b) k=k (.bool (decide (a=b))))/\
  (∀{k:Value->Prop} (a b:ByteArray),fY (.string a) (.string b) k=k (.bool (!decide (a=b))))/\
  (∀(a:Option Addr) (n c:Nat) (k:Bool->Prop),Hg (.slice a n c) k=k a.isNone)/\
  (∀(a:Option Addr) (k:Bool->Prop),CY (.pointer a) k=k a.isNone)/\
  (∀{k:Value->Prop} (a:Bool),CE (.bool a) k=k (.bool (!a)))/\
  (∀{k:Value->Prop} (a:Option Addr) (n c:Nat),Ae (.slice a n c) k=k (.int .i64 n))/\
  (∀{k:Value->Prop} (s:ByteArray),L6 (.string s) k=k (.int .i64 s.size))/\
  (∀{k:Value->Prop} (a:Addr),AJ (.pointer (some a)) k=k (.pointer (some a)))/\
  (∀{k:Value->Prop} (off:Nat) (a:Addr),AM off (.pointer (some a)) k=k (.pointer (some (a.add off))))/\
  (∀(a:Addr) (x y:Nat),(a.add x).add y=a.add (x+y))/\
  (∀(vs:List Value),nth vs 0=vs.headD undef)/\
  (∀(vs:List Value) (k:Nat),nth vs (k+1)=nth vs.tail k)/\
  (∀{a d:Value} {l:List Value},(a::l).headD d=a)/\
  (∀{a:Value} {l:List Value},(a::l).tail=l)/\
  ((none:Option Addr).isNone=true)/\
  (∀{a:Addr},(some a).isNone=false)/\
  ((false=true)=False)/\
  (∀{α:Type} {h:Decidable True} (t e:α),(@ite α True h t e)=t)/\
  (∀{α:Type} {h:Decidable False} (t e:α),(@ite α False h t e)=e):=
 ⟨@FC,by simp,by intro a b;cases a<;>cases b<;>simp,by simp,by simp,@X9,@AR,@Av,@fM,@Ap,@IJ,@BR,@DX,@Al,@Bm,@G1,@HY,@dE,@Qt,@eQ,@df,@Sg,@JV,@Ar,@AP,@LG,@Bi,@AG,@Addr.add_add,@B0,@Sb,by simp,by simp,by simp,by simp,by simp,by simp,by simp⟩
abbrev Grow(w w':World):Prop:=Mod (fun _=>False) w w'
theorem Grow.mod(h:Grow w w'):Mod M w w':=Mod.mono h fun _ _ h=>h.elim
theorem Mod.below(h:Mod M w w')(j:B<=w.heap.size)(hm:∀b,M b->B<=b):RowKit.Below B w w':=
 ⟨h.os,h.tape,h.output,h.size,fun b hb=>h.same b (by omega) fun i=>by have:=hm b i;omega⟩
theorem Mod.drew(M:Nat->Prop)(w:World):Mod M w w.drew:=⟨rfl,rfl,rfl,Lc _,fun _ _ _=>rfl⟩
theorem Mod.alloc(M:Nat->Prop)(w:World)(o:Obj):Mod M w (w.alloc o):=⟨rfl,rfl,rfl,by simp,fun b hb _=>oV w o b hb⟩
theorem Mod.setCell(w:World)(a:Addr)(v:Value)(h:M a.block):Mod M w (w.setCell a v):=⟨rfl,rfl,rfl,by simp,fun b _ i=>RowKit.Below.heap_setCell w a v b fun e=>i (e▸h)⟩
theorem Mod.of_grownBy{row:Option Nat}(h:w.grownBy w' row):Mod (fun b=>row=some b) w w':=⟨h.os,h.tape,h.output,h.size,fun b hb i=>h.block b hb fun e=>i e.symm⟩
theorem Mod.cell{M:Nat->Prop}{w w':World}(h:Mod M w w'){a:Addr}{v:Value}(hc:w.cell? a=some v)(hm:¬M a.block):w'.cell? a=some v:=
 (lO (h.same a.block (kT w a hc) hm)).trans hc
theorem Mod.frozen{M:Nat->Prop}{w w':World}(h:Mod M w w'){a:Addr}(hb:a.block<w.heap.size)(hm:¬M a.block):w'.frozen? a=w.frozen? a:=
 qD (h.same a.block hb hm)
def BB{α:Type}(S:Nat->Prop)(k:Nat)(R:World->List Value->α->Prop)(w:World)(v:Value)(l:List α):Prop:=
 ∃a c,v=.slice a l.length c/\l.length<=c/\c<=maxLen/\∀i x,l[i]?=some x->∃p r,a=some p/\S p.block/\r.length=k/\(∀j u,r[j]?=some u->w.cell? (p.add (i*k+j))=some u)/\R w r x
theorem BB.mono{α:Type}{S B:Nat->Prop}{k:Nat}{R R':World->List Value->α->Prop}{w w':World}{v:Value}{l:List α}(h:BB S k R w v l)
 (O:∀b,b<w.heap.size->S b->B b)(hb:∀b,b<w.heap.size->S b->w'.heap[b]?=w.heap[b]?)(hk:0<k)(Q:∀r x,R w r x->R' w' r x):BB B k R' w' v l:=by
 obtain⟨a,c,h1,T,U,V⟩:=h;refine⟨a,c,h1,T,U,fun i x X=>?_⟩;obtain⟨p,r,Y,E,I,J,Z⟩:=V i x X;have o:p.block<w.heap.size:=by
  cases r with
  |nil=>simp at I;omega
  |cons u r=>
   have:=kT w _ (J 0 u rfl);have e:(p.add (i*k+0)).block=p.block:=by unfold Addr.add;split<;>rfl
   rwa [e] at this
 refine⟨p,r,Y,O _ o E,I,fun j u hu=>?_,Q _ _ Z⟩;have e:(p.add (i*k+j)).block=p.block:=by unfold Addr.add;split<;>rfl
 rw[lO (w:=w) (by rw[e];exact hb _ o E)];exact J j u hu
theorem BB.nil{k:Nat}{R:World->List Value->α->Prop}:BB S k R w (.slice none 0 0) []:=
 ⟨none,0,rfl,Lc _,by simp[maxLen],fun i x j=>by simp at j⟩
def Ds(vs:List Value)(j:Nat):Nat:=match nth vs j with|.int _ n=>n.toNat|_=>0
theorem BB.get{k:Nat}{R:World->List Value->α->Prop}{a:Option Addr}{n c:Nat}{l:List α}(h:BB S k R w (.slice a n c) l)(hi:i<l.length) :
  ∃p r,a=some p/\S p.block/\r.length=k/\(∀j u,r[j]?=some u->w.cell? (p.add (i*k+j))=some u)/\R w r l[i]:=by
 obtain⟨B,E,h1,I,J,o⟩:=h;cases h1;exact o i l[i] (by simp[hi])
theorem BB.shape{k:Nat}{R:World->List Value->α->Prop}{l:List α}(h:BB S k R w v l):∃a c,v=.slice a l.length c/\l.length<=maxLen:=by
 obtain⟨i,j,h1,o,B,E⟩:=h;exact⟨i,j,h1,k8 o B⟩
def AE{α:Type}(B e k:Nat)(R:World->List Value->α->Prop)(w:World)(v:Value)(l:List α):Prop:=
 ∃rows:List (List Value),w.ownsRow B e k v l.length rows.flatten/\rows.length=l.length/\(∀r∈rows,r.length=k/\∀u∈r,u.oneCell'=true)/\∀(i:Nat) (r:List Value) (x:α),rows[i]?=some r->l[i]?=some x->R w r x
theorem FE{k:Nat}:∀(rows:List (List Value)),(∀r∈rows,r.length=k)->rows.flatten.length=rows.length*k:=by
 intro rows;induction rows with
 |nil=>intro _;simp
 |cons r rs i=>intro h;simp[i (fun r hr=>h r (by simp[hr])),h r (by simp),ku];omega
theorem Hv{k:Nat}:∀(rows:List (List Value)) (i j:Nat) (r:List Value),(∀r∈rows,r.length=k)->rows[i]?=some r->j<k->rows.flatten[i*k+j]?=r[j]?:=by
 intro rows;induction rows with
 |nil=>intro i j r _ h;simp at h
 |cons B rs E=>
  intro i j r h hi o;have h0:=h B (by simp);cases i with
  |zero=>simp at hi;subst hi;simp[mz,h0,o]
  |succ i=>
   have:=E i j r (fun r hr=>h r (by simp[hr])) (by simpa using hi) o;rw[nk,kH (by rw[h0,ku];omega)];rw[<-this];congr 1;rw[h0,ku];omega
theorem PK{k:Nat}(hk:0<k):∀(rows:List (List Value)),(∀r∈rows,r.length=k)->∀(q:Nat) (u:Value),rows.flatten[q]?=some u->∃r,rows[q/k]?=some r/\r[q%k]?=some u:=by
 intro rows h q u hu;have hl:=FE rows h;have i:q<rows.flatten.length:=(Bp.1 hu).1;have h1:q/k<rows.length:=by rw[hl] at i;exact(qO hk).2 i
 refine⟨rows[q/k],by simp[h1],?_⟩;rw[<-Hv rows (q/k) (q%k) _ h (by simp[h1]) (pU _ hk)];rw[pz q k];exact hu
theorem AE.nil{B e k:Nat}{R:World->List Value->α->Prop}:AE B e k R w (.slice none 0 0) []:=
 ⟨[],World.ownsRow_nil w B e k,rfl,by simp,by simp⟩
theorem AE.made{B e k:Nat}{R:World->List Value->α->Prop}(i:B<=w.heap.size):AE B e k R (w.alloc (.cells #[] e)) (.slice (some ⟨w.heap.size,0,none⟩) 0 0) ([]:List α):=
 ⟨[],World.ownsRow_made w #[] 0 i (by simp[maxLen]) (by simp),rfl,by simp,by simp⟩
theorem AE.shape{B e k:Nat}{R:World->List Value->α->Prop}{l:List α}(h:AE B e k R w v l) :
  ∃a c,v=.slice a l.length c/\l.length<=c/\c<=maxLen/\(∀p,a=some p->∃g,p=⟨g,0,none⟩/\B<=g/\g<w.heap.size/\v.ownBlock=some g)/\(a=none->l=[]):=by
 obtain⟨rows,h1,J,O,Q⟩:=h;rcases h1.2 with⟨rfl,i⟩|⟨g,j,o,rfl,E,I,i,hm,_⟩
 .exact⟨none,0,by rw[i],by omega,by simp[maxLen],(fun p hp=>nomatch hp),fun _=>QC i⟩
 .exact⟨some ⟨g,0,none⟩,j,rfl,i,hm,(fun p hp=>by cases hp;exact⟨g,rfl,E,(lf.1 I).1,rfl⟩),(fun h=>nomatch h)⟩
theorem AE.sl{B e k:Nat}{R:World->List Value->α->Prop}{l:List α}(h:AE B e k R w v l):BB (fun b=>B<=b/\v.ownBlock=some b) k R w v l:=by
 obtain⟨a,c,J,hc,hm,hp,O⟩:=h.shape;obtain⟨rows,h1,X,Q,S⟩:=h;refine⟨a,c,J,hc,hm,fun i x I=>?_⟩;have hi:i<l.length:=(Bp.1 I).1;cases a with
 |none=>rw[O rfl] at hi;simp at hi
 |some p=>
  obtain⟨g,rfl,T,U,E⟩:=hp p rfl;have hr:i<rows.length:=by omega
  have o:∀r∈rows,r.length=k:=fun r hr=>(Q r hr).1;refine⟨_,rows[i],rfl,⟨T,E⟩,o _ (by simp),fun j u hu=>?_,S i _ x (by simp[hr]) I⟩;have V:j<k:=by rw[<-o rows[i] (by simp)];exact(Bp.1 hu).1
  refine h1.cells E _ u ?_;rw[Hv rows i j rows[i] o (by simp[hr]) V];exact hu
theorem AE.mod{B e k:Nat}{R R':World->List Value->α->Prop}{l:List α}(h:AE B e k R w v l)(hm:Mod M w w')(O:∀g,v.ownBlock=some g->¬M g)
 (Q:∀r x,x∈l->R w r x->R' w' r x):AE B e k R' w' v l:=by
 obtain⟨rows,h1,S,T,U⟩:=h;refine⟨rows,⟨h1.1,?_⟩,S,T,fun i r x hr J=>Q r x (kx J) (U i r x hr J)⟩;rcases h1.2 with V|⟨g,E,I,rfl,hb,j,o⟩
 .exact .inl V
 .refine .inr ⟨g,E,I,rfl,hb,?_,o⟩;rw[hm.same g (lf.1 j).1 (O g rfl)];exact j
def DU(P:Program)(t e size bytes:Nat):Prop:=∃i z,P.underlying t=some (.slice e)/\P.info? e=some i/\i.zero=some z/\i.size=size/\i.bytes=bytes/\z.cells.size=size/\0<size
theorem Mo{P:Program}{t ty B e k bytes:Nat}{n:Nat}{xs:List Value}(hE:DU P t e k bytes)(E:w.ownsRow B e k v n xs)(a:Option Addr)(m c:Nat)(o:List Value)
 (hl:o.length=m*k)(ha:a=none->m=0)(S:∀p,a=some p->∀j u,o[j]?=some u->w.cell? (p.add j)=some u)(h1:∀u∈o,u.oneCell'=true)(T:n+m<=maxLen)(Q:(n+m)*bytes<=140737488355328)(hB:B<=w.heap.size) :
  ∃v' w',(Builtin.append_ #[t,t] ty #[v,.slice a m c]).run P w=.ok v' w'/\w'.ownsRow B e k v' (n+m) (xs++o)/\w.grownBy w' v.ownBlock/\(∀g,v'.ownBlock=some g->v.ownBlock=some g\/w.heap.size<=g):=by
 obtain⟨i,z,ht,hi,hz,rfl,rfl,a1,hk⟩:=hE;cases a with
 |none=>
  have hm:=ha rfl;subst hm;have:o=[]:=QC (by simpa using hl);subst this;have a8:∃b s q,v=.slice b s q/\s<=q:=by
   rcases E.2 with⟨rfl,_⟩|⟨g,I,O,rfl,_,_,h,_⟩
   .exact⟨_,_,_,rfl,Lc _⟩
   .exact⟨_,_,_,rfl,h⟩
  refine⟨v,w,?_,by simpa using E,⟨rfl,rfl,rfl,Lc _,fun _ _ _=>rfl⟩,fun g Y=>.inl Y⟩;obtain⟨b,s,q,rfl,hq⟩:=a8;cases b<;>simp[Builtin.append_,run_underlying ht,sizeOf,typeInfo,hi,Builtin.lenOf,Builtin.firstCells,hq,storeCells]
 |some p=>
  have hn:=S p rfl;have ak:((n+m:Nat):Int)<=9223372036854775807:=by simp only[maxLen] at T;omega
  rcases E.2 with⟨rfl,rfl⟩|⟨g,I,O,rfl,al,Y,ax,an,a6,U⟩
  .have V:w.ownsRow w.heap.size e i.size (.slice none 0 0) 0 xs:=⟨E.1,.inl ⟨rfl,rfl⟩⟩;obtain⟨v',w',r1,r2,r3,_⟩:=run_append_own (P:=P) w w.heap.size t ty e i z i.size i.bytes ht hi hz rfl rfl a1 hk _ 0 xs V p m c o hl hn h1 T Q (Lc _);refine⟨v',w',r1,⟨r2.1,?_⟩,r3,fun g Y=>.inr (r2.lt g Y).1⟩;rcases r2.2 with h|⟨g,I,O,q1,q2,q3⟩
   .exact .inl h
   .exact .inr ⟨g,I,O,q1,k8 hB q2,q3⟩
  .by_cases J:n+m<=I
   .have a7:n*i.size+o.length<=O.size:=by rw[hl,a6,<-ku];exact lF _ J
    have hr:=run_append_room (P:=P) w t ty e i ht hi g n I O Y p m c o hl hn h1 J a7;have Z:xs.length=n*i.size:=E.1;refine⟨_,_,hr,⟨by rw[Bq,Z,hl,ku],.inr ⟨g,I,_,rfl,al,setRow_heap w g O _ e _ Y,J,an,?_,?_⟩⟩,⟨rfl,rfl,rfl,?_,fun b _ hb=>setRow_other w g b _ (fun e=>hb (by simp[Value.ownBlock,e]))⟩,fun g' X=>.inl X⟩
    .have h0:O.toList.length=I*i.size:=by rw[mO,a6]
     have h2:n*i.size+m*i.size<=I*i.size:=by rw[<-ku];exact lF _ J
     simp only[mY,Bq,Mp,K8,h0,hl];omega
    .rw[U,ku,<-Z,<-hl,<-Bq];exact List.take_left
    .simp[World.setRow]
   .have holds:∀j u,xs[j]?=some u->w.cell? ((⟨g,0,none⟩:Addr).add j)=some u:=E.cells (g:=g) rfl;have hr:=run_append_grow (P:=P) w t ty e i z ht hi hz ⟨g,0,none⟩ n I xs E.1 holds p m c o hl hn (by omega) ak (growslice_fits (by omega) Q);have av:=grownCap_ge w (n+m) I e;have Z:xs.length=n*i.size:=E.1;refine⟨_,_,hr,⟨by rw[Bq,Z,hl,ku],.inr ⟨w.heap.size,_,_,rfl,hB,pV w.drew _,av,pW w (n+m) I e T,?_,?_⟩⟩,⟨rfl,rfl,rfl,by simp,fun b hb _=>oV w.drew _ b hb⟩,fun g' X=>.inr (by cases X;exact Lc _)⟩
    .simp only[pk,mY,qU,a1,Z,hl,<-ku];congr 1;omega
    .simp only[Array.toList_append];have h3:(n+m)*i.size=(xs++o).length:=by rw[Bq,Z,hl,ku]
     rw[h3,nU (Lc _),Nr]
theorem AE.append{P:Program}{t ty B e k bytes:Nat}{R:World->List Value->α->Prop}{v x:Value}{l m:List α}(hE:DU P t e k bytes)(h:AE B e k R w v l)(hx:BB S k R w x m)
 (U:∀r y,R w r y->∀u∈r,u.oneCell'=true)(V:(l.length+m.length)*bytes<=140737488355328)(hB:B<=w.heap.size)(X:l.length+m.length<=maxLen)
 (hR:∀w',w.grownBy w' v.ownBlock->∀r y,R w r y->R w' r y) :
  runK P (Builtin.append_ #[t,t] ty [v,x].toArray) (fun v' w'=>AE B e k R w' v' (l++m)/\w.grownBy w' v.ownBlock/\(∀g,v'.ownBlock=some g->v.ownBlock=some g\/w.heap.size<=g)) w:=by
 obtain⟨i,z,ht,hi,hz,hs,hb,a7,hk⟩:=hE;have a8:=hx.shape;obtain⟨rows,h1,h2,h3,h4⟩:=h;obtain⟨a,c,rfl,hc,ak,Y⟩:=hx;have fin:∀(o:List (List Value)),o.length=m.length->(∀r∈o,r.length=k/\∀u∈r,u.oneCell'=true)->(∀(i:Nat) (r:List Value) (y:α),o[i]?=some r->m[i]?=some y->R w r y)->
   (∃v' w',(Builtin.append_ #[t,t] ty [v,.slice a m.length c].toArray).run P w=.ok v' w'/\w'.ownsRow B e k v' (l.length+m.length) (rows.flatten++o.flatten)/\w.grownBy w' v.ownBlock/\(∀g,v'.ownBlock=some g->v.ownBlock=some g\/w.heap.size<=g))->
   runK P (Builtin.append_ #[t,t] ty [v,.slice a m.length c].toArray) (fun v' w'=>AE B e k R w' v' (l++m)/\w.grownBy w' v.ownBlock/\(∀g,v'.ownBlock=some g->v.ownBlock=some g\/w.heap.size<=g)) w:=by
  rintro o Z e2 e3 ⟨v',w',r1,r2,r3,r4⟩;refine⟨v',w',r1,⟨rows++o,by rw[List.flatten_append,Bq];exact r2,by simp[h2,Z],?_,?_⟩,r3,r4⟩
  .intro r hr;rcases DN.1 hr with hr|hr
   .exact h3 r hr
   .exact e2 r hr
  .intro j r y hr Q;refine hR w' r3 r y ?_;by_cases I:j<l.length
   .rw[Q0 (by omega)] at hr;rw[Q0 I] at Q;exact h4 j r y hr Q
   .rw[kH (by omega)] at hr;rw[kH (by omega)] at Q;rw[h2] at hr;exact e3 _ r y hr Q
 have O:∃o:List (List Value),o.length=m.length/\(∀(i:Nat) (r:List Value),o[i]?=some r->r.length=k/\(∀u∈r,u.oneCell'=true)/\(∃p,a=some p/\∀j u,r[j]?=some u->w.cell? (p.add (i*k+j))=some u)/\∃y,m[i]?=some y/\R w r y):=by
  clear fin h4 h3 h2 h1 V X hR ak a8;have gen:∀q,q<=m.length->∃o:List (List Value),o.length=q/\(∀(i:Nat) (r:List Value),o[i]?=some r->r.length=k/\(∀u∈r,u.oneCell'=true)/\(∃p,a=some p/\∀j u,r[j]?=some u->w.cell? (p.add (i*k+j))=some u)/\∃y,m[i]?=some y/\R w r y):=by
   intro q;induction q with
   |zero=>exact fun _=>⟨[],rfl,fun i r h=>by simp at h⟩
   |succ q ih=>
    intro hq;obtain⟨rs,Z,e2⟩:=ih (by omega);obtain⟨p,r,f1,f2,f3,f4,f5⟩:=Y q m[q] (by simp[show q<m.length by omega]);refine⟨rs++[r],by simp[Z],fun i r' E=>?_⟩;by_cases hi:i<q
    .rw[Q0 (by omega)] at E;exact e2 i r' E
    .have:i=q:=by have:=(Bp.1 E).1;simp[Z] at this;omega
     subst this;rw[kH (by omega)] at E;simp[Z] at E;subst E;exact⟨f3,U _ _ f5,⟨p,f1,f4⟩,m[i],by simp[show i<m.length by omega],f5⟩
  exact gen m.length (Lc _)
 obtain⟨o,g1,T⟩:=O;have J:∀r∈o,r.length=k:=fun r hr=>by obtain⟨j,I⟩:=lY.1 hr;exact(T j r I).1
 refine fin o g1 (fun r hr=>by obtain⟨j,I⟩:=lY.1 hr;exact⟨(T j r I).1,(T j r I).2.1⟩) (fun j r y hr Q=>?_) ?_
 .obtain⟨_,_,_,y',a1,al⟩:=T j r hr;rw[Q] at a1;cases a1;exact al
 .refine Mo ⟨i,z,ht,hi,hz,hs,hb,a7,hk⟩ h1 a m.length c o.flatten (by rw[FE o J,g1]) ?_ ?_ ?_ X V hB
  .intro ha;by_cases an:m.length=0
   .exact an
   .obtain⟨p,r,f1,_⟩:=Y 0 m[0] (by simp[show 0<m.length by omega]);rw[ha] at f1;cases f1
  .intro p hp q u hu;obtain⟨r,hr,av⟩:=PK hk o J q u hu;obtain⟨_,_,⟨p',a6,ax⟩,_⟩:=T _ r hr;rw[hp] at a6;cases a6;have:=ax _ u av;rwa [pz] at this
  .intro u hu;obtain⟨r,hr,ay⟩:=List.mem_flatten.1 hu;obtain⟨j,I⟩:=lY.1 hr;exact(T j r I).2.1 u ay
theorem Mod.next{M j:Nat->Prop}{w o w2:World}(h1:Mod j w o)(i:Mod M o w2)(E:∀b,b<w.heap.size->M b->j b):Mod j w w2:=
 ⟨i.os.trans h1.os,i.tape.trans h1.tape,i.output.trans h1.output,k8 h1.size i.size,fun b hb B=>(i.same b (WL hb h1.size) fun h=>B (E b hb h)).trans (h1.same b hb B)⟩
theorem BB.grow{k:Nat}{R:World->List Value->α->Prop}{l:List α}(h:BB S k R w v l)(i:Grow w w')(hk:0<k)(j:∀r x,R w r x->R w' r x):BB S k R w' v l:=
 h.mono (fun _ _ h=>h) (fun b hb _=>i.same b hb fun h=>h) hk j
theorem BB.mod{k:Nat}{R:World->List Value->α->Prop}{l:List α}(h:BB S k R w v l)(i:Mod M w w')(j:∀b,b<w.heap.size->S b->¬M b)(hk:0<k)(o:∀r x,R w r x->R w' r x):BB S k R w' v l:=
 h.mono (fun _ _ h=>h) (fun b hb B=>i.same b hb (j b hb B)) hk o
theorem BB.sub{S i:Nat->Prop}{k:Nat}{R R':World->List Value->α->Prop}{l:List α}(h:BB S k R w v l)(j:∀b,b<w.heap.size->S b->i b)(hk:0<k)(o:∀r x,R w r x->R' w r x):BB i k R' w v l:=
 h.mono j (fun _ _ _=>rfl) hk o
theorem AE.base{B E e k:Nat}{R:World->List Value->α->Prop}{l:List α}(h:AE B e k R w v l)(hb:∀g,v.ownBlock=some g->E<=g):AE E e k R w v l:=by
 obtain⟨rows,h1,I,J,O⟩:=h;refine⟨rows,⟨h1.1,?_⟩,I,J,O⟩;rcases h1.2 with Q|⟨g,j,o,rfl,S,i⟩
 .exact .inl Q
 .exact .inr ⟨g,j,o,rfl,hb g rfl,i⟩
theorem JK{e k:Nat}(h:K (.slice (some ⟨w.heap.size,0,none⟩) 0 0) (w.alloc (.cells #[] e))):Bg e k 0 [] [] K w:=by
 refine⟨#[],?_,h⟩;simp[Instr.fill,Array.range_zero']
theorem Uh{k:Nat}:∀(rows:List (List Value)) (i j:Nat) (r:List Value) (u:Value),(∀r∈rows,r.length=k)->rows[i]?=some r->j<k->rows.flatten.set (i*k+j) u=(rows.set i (r.set j u)).flatten:=by
 intro rows;induction rows with
 |nil=>intro i j r u _ h;simp at h
 |cons o rs B=>
  intro i j r u h hi E;have h0:=h o (by simp);cases i with
  |zero=>
   simp at hi;subst hi;simp only[nk,pX,pP,lp];rw[List.set_append_left _ _ (by omega)]
  |succ i=>
   have:=B i j r u (fun r hr=>h r (by simp[hr])) (by simpa using hi) E;simp only[nk,pS];rw[lC _ _ (by rw[h0,ku];omega),<-this];congr 2;rw[h0,ku];omega
theorem AE.store{B e k:Nat}{R R':World->List Value->α->Prop}{a:Addr}{n c:Nat}{l:List α}(h:AE B e k R w (.slice (some a) n c) l){u:Value}{x':α}(hi:i<l.length)(hj:j<k)
 (hu:u.oneCell'=true)(X:∀r y,y∈l->R w r y->R' (w.setCell (a.add (i*k+j)) u) r y)(Y:∀r,R w r l[i]->R' (w.setCell (a.add (i*k+j)) u) (r.set j u) x') :
  (∃v,w.cell? (a.add (i*k+j))=some v)/\w.frozen? (a.add (i*k+j))=false/\AE B e k R' (w.setCell (a.add (i*k+j)) u) (.slice (some a) n c) (l.set i x')/\Mod (fun b=>b=a.block) w (w.setCell (a.add (i*k+j)) u):=by
 obtain⟨rows,h1,T,U,Z⟩:=h;have o:∀r∈rows,r.length=k:=fun r hr=>(U r hr).1;have J:i<rows.length:=by omega
 have V:∃g,a=⟨g,0,none⟩/\n=l.length:=by
  rcases h1.2 with⟨O,_⟩|⟨g',a1,a6,O,_⟩
  .simp at O
  .simp only[mZ,i6] at O;exact⟨g',O.1,O.2.1⟩
 obtain⟨g,rfl,rfl⟩:=V;have Q:(⟨g,0,none⟩:Addr).add (i*k+j)=⟨g,i*k+j,none⟩:=by unfold Addr.add;split<;>simp_all
 rw[Q] at X Y ⊢;have I:i*k+j<l.length*k:=by
  have:(i+1)*k<=l.length*k:=lF _ hi;rw[ku] at this;omega
 obtain⟨s1,s2⟩:=h1.stored (i*k+j) u;have S:rows[i]?=some rows[i]:=by simp[J]
 refine⟨?_,h1.frozenAt _,?_,?_⟩
 .refine⟨(rows.flatten)[i*k+j]'(by rw[FE rows o,T];exact I),?_⟩;rw[h1.cellAt _ I];simp[FE rows o,T,I]
 .refine⟨rows.set i (rows[i].set j u),?_,by simp[T],?_,?_⟩
  .rw[kC,<-Uh rows i j rows[i] u o S hj];exact s1
  .intro r hr;rcases pf hr with hr|rfl
   .exact U r hr
   .refine⟨by rw[kC];exact o _ (by simp),fun y E=>?_⟩;rcases pf E with E|rfl
    .exact(U rows[i] (by simp)).2 y E
    .exact hu
  .intro q r y hr E;by_cases hq:i=q
   .subst hq;simp only[kI J,kI hi,i6] at hr E;subst hr;subst E;exact Y _ (Z i _ _ S (by simp[hi]))
   .rw[kh hq] at hr E;exact X r y (kx E) (Z q r y hr E)
 .exact Mod.setCell _ _ _ rfl
section
def Xd(n:Nat)(e:Env):List Nat->List Value->Env
 |[],_=>e
 |p::ps,vs=>Xd n (Eg n e p (vs.headD undef)) ps vs.tail
def Quiet(W W':World):Prop:=W'.os=W.os/\W'.tape=W.tape/\W'.output=W.output
theorem Quiet.trans{a b c:World}(h:Quiet a b)(k:Quiet b c):Quiet a c:=⟨k.1.trans h.1,k.2.1.trans h.2.1,k.2.2.trans h.2.2⟩
def K5(st:Prop)(P:Program)(O:Nat)(E:List Value)(o:Nat->List Value)(N:Nat)(Q:Nat->Prop)(w:World):Prop:=
 ∀(l:Nat) (J:Nat->(Nat->Prop)->World->Prop) (B:(Nat->Prop)->World->Prop) (I:World),
  Mod (fun _=>False) w I->J 0 (fun _=>False) I->
  (∀k i j W W',J k i W->Mod (fun b=>¬st/\i b) W W'->(∀b,j b->(i b\/W.heap.size<=b)/\b<W'.heap.size)->J k j W')->
  (∀i j W W',B i W->Mod (fun b=>¬st/\i b) W W'->(∀b,j b->(i b\/W.heap.size<=b)/\b<W'.heap.size)->B j W')->
  (∀k i W,J k i W->∀b,b<w.heap.size->Q b->W.heap[b]?=w.heap[b]?)->
  (∀k i W,k<N->J k i W->Li P l (o k) (fun v W'=>W.heap.size<=W'.heap.size/\(∀b,i b->W'.heap[b]?=W.heap[b]?)/\Quiet W W'/\((v=.bool true/\J (k+1) i W')\/(v=.bool false/\B i W'))) W)->
  AB P O (.func (.yield l) #[] #[]::E) (fun _ W'=>∃i,J N i W'\/B i W') I
def iW(i:Nat->Prop)(w W W':World):Prop:=W.heap.size<=W'.heap.size/\(∀b,i b\/b=w.heap.size\/b=w.heap.size+1->W'.heap[b]?=W.heap[b]?)/\Quiet W W'
def gO(o:Nat->Prop)(w W:World)(J:World->Prop)(j:Exit->World->Prop):Exit->World->Prop:=fun x W'=>iW o w W W'/\match x with
 |.normal=>J W' | .ret=>j .ret W' | .exit i=>j (.exit i) W' | _=>False
def gu(j:Nat->Prop)(w W:World)(J:World->Prop)(B:Exit->World->Prop)(F:(Exit->World->Prop)->World->Prop)(o:World):Prop:=
 iW j w W o/\∀i,Mod (fun b=>b=w.heap.size+1) o i->F (gO j w i J B) i
def Oy(i:Nat->Prop)(w W:World):Prop:=∀b,i b->b<W.heap.size/\w.heap.size+2<=b
def Iz(P:Program)(ok:Nat->Bool)(f:Value)(Q:Nat)(fz:List Value->(((Exit->World->Prop)->World->Prop)->World->Prop)->World->Prop)(N:Exit->World->Prop)(w:World):Prop:=
 ∃st I B j n O,f=.func (.func I) #[] (List.toArray B)/\ok I=true/\K5 st P I B j n O w/\(∀k,k<n->(j k).length=Q)/\
 ∃(J:Nat->(Nat->Prop)->World->Prop) (E:Exit->(Nat->Prop)->World->Prop),
  J 0 (fun _=>False) w/\
  (∀k i o W W',J k i W->Mod (fun b=>(¬st/\i b)\/b=w.heap.size\/b=w.heap.size+1) W W'->(∀b,o b->(i b\/W.heap.size<=b)/\b<W'.heap.size/\w.heap.size+2<=b)->J k o W')/\
  (∀x i o W W',E x i W->Mod (fun b=>(¬st/\i b)\/b=w.heap.size\/b=w.heap.size+1) W W'->(∀b,o b->(i b\/W.heap.size<=b)/\b<W'.heap.size/\w.heap.size+2<=b)->E x o W')/\
  (∀k i W,J k i W->∀b,b<w.heap.size->O b->W.heap[b]?=w.heap[b]?)/\
  (∀k i W,k<n->J k i W->w.heap.size+2<=W.heap.size->Oy i w W->fz (j k) (gu i w W (J (k+1) i) (fun x=>E x i)) W)/\
  (∀i W,J n i W->Oy i w W->w.heap.size+2<=W.heap.size->W.heap[w.heap.size]?=some (.deferred (some []))->N .normal W)/\
  (∀x i W,E x i W->Oy i w W->w.heap.size+2<=W.heap.size->W.heap[w.heap.size]?=some (.deferred (some []))->N x W)
variable {P:Program}{ok:Nat->Bool}{n:Nat}
theorem Gm{l:Nat}{K j:Cont}(h:Li P l args K w)(hk:∀v w',K v w'->j v w'):Li P l args j w:=by
 obtain⟨f,tmps,i,body,h1,o⟩:=h;exact⟨f,tmps,i,body,h1,RoundIn.mono o fun e w' ⟨v,B,E⟩=>⟨v,B,hk _ _ E⟩⟩
theorem Fr.fill{ds:List Deferred}{a:Act}:∀(ps:List Nat) (vs:List Value) (e:Env) (a:Act),vs.length=ps.length->Fr ds n e a->Fr ds n (Xd n e ps vs) { a with tmps:=(ps.zip vs).foldl (fun t x=>t.setIfInBounds x.1 x.2) a.tmps }:=by
 intro ps;induction ps with
 |nil=>intro vs e a _ h;exact h
 |cons p ps i=>
  intro vs e a hl h;cases vs with
  |nil=>simp at hl
  |cons v vs=>
   have:=i vs (Eg n e p v) (a.put (some p) v) (by simpa using hl) (h.put (some p) v);exact this
def fZ:Exit->Option Code
 |.ret=>some .ret
 |.exit i=>some (.exit i)
 |_=>none
theorem Og{ds:List Deferred}(b0:CP P ok)(hm:P.follows .mixedOrders=true){g:Operand}{ps:Array Tmp}{x y:Code}{ax ay:Qp}{e:Env}{a:Act}{N:Exit->World->Prop}(hf:Fr ds n e a)
 (hx:LM x=true)(hy:LM y=true)
 (h:Iz P ok (ev e g) ps.size (fun args bk W=>D P ok n x ax (fJ (fun e' Z=>bk (fun post W2=>D P ok n y ay (fun ex _ X=>post ex X) e' W2) Z) (fun _ _ _=>False)) (Xd n e ps.toList args) W) N w) :
  (Code.rangeFunc g ps x y).wpIn (Wd none) 0 P (fun ex a' w'=>Fr ({ target:=.collected w.heap.size,args:=#[] }::ds) n e a'/\N ex w') a w:=by
 obtain⟨st,gf,b3,S,nn,Rd,bl,bn,bb,av,J,Jx,h0,hJ,Rq,J8,al,b4,b5⟩:=h;refine wpIn_rangeFunc ?_;intro fn _;have bp:a.eval g=.func (.func gf) #[] b3.toArray:=by rw[hf.eval];exact bl
 obtain⟨rec,E⟩:∃rec:LoopState->Option Code->Loop,rec=fun st pe=>{ state:=st,pending:=pe,fn,tmps:=a.tmps,params:=ps,assign:=x,body:=y,defers:=w.heap.size }:=⟨_,rfl⟩;obtain⟨Z,a6⟩:∃Z,(w.alloc (.deferred (some []))).alloc (.loop (rec .ready none))=Z:=⟨_,rfl⟩;have bc:Mod (fun _=>False) w Z:=by rw[<-a6];exact(Mod.alloc _ _ _).trans (Mod.alloc _ _ _)
 have dT:Z.heap.size=w.heap.size+2:=by rw[<-a6];simp
 have bs:Z.heap[w.heap.size+1]?=some (.loop (rec .ready none)):=by
  rw[<-a6];have:=qV (w.alloc (.deferred (some []))) (.loop (rec .ready none));rwa [ow] at this
 have bx:Z.heap[w.heap.size]?=some (.deferred (some [])):=by
  rw[<-a6];exact(oV _ _ _ (by simp)).trans (qV w _)
 refine ⟨w.heap.size+1,[{ target:=.collected w.heap.size,args:=#[] }],Z,{ target:=.fn (.func gf) b3.toArray,args:=#[.func (.yield (w.heap.size+1)) #[] #[]] },Z,gf,
  (.func (.yield (w.heap.size+1)) #[] #[] :: b3).toArray,Z,?_,?_,fun _ _=>trivial,?_,(fun h=>by cases h),?_⟩
 .rw[<-a6,E];exact run_enterLoop_outer _ _ _ _ _
 .simp only[resolve,bp];simp[go_sem]
 .have:=b0 gf bn;simp[invoke,go_sem];exact this _ _
 have U:∀(M:Nat->Prop) (W:World) (b:Nat) (o:Obj),M b->Mod M W (W.putObj b o):=fun M W b o hb=>
  ⟨rfl,rfl,rfl,by simp,fun k _ hk=>lg fun e=>hk (e▸hb)⟩
 let J':Nat->(Nat->Prop)->World->Prop:=fun k j W=>J k j W/\Oy j w W/\w.heap.size+2<=W.heap.size/\W.heap[w.heap.size+1]?=some (.loop (rec .ready none))/\W.heap[w.heap.size]?=some (.deferred (some []))
 let c4:(Nat->Prop)->World->Prop:=fun j W=>∃ex c,fZ ex=some c/\Jx ex j W/\Oy j w W/\w.heap.size+2<=W.heap.size/\W.heap[w.heap.size+1]?=some (.loop (rec .done (some c)))/\W.heap[w.heap.size]?=some (.deferred (some []))
 have an:∀(j Q:Nat->Prop) (W W':World),Oy j w W->w.heap.size+2<=W.heap.size->(∀b,Q b->(j b\/W.heap.size<=b)/\b<W'.heap.size)->Oy Q w W':=fun j Q W W' h1 c6 h2 b hb=>by
  obtain⟨h3|h3,h4⟩:=h2 b hb
  .exact⟨h4,(h1 b h3).2⟩
  .exact⟨h4,by omega⟩
 have b6:=bb (w.heap.size+1) J' c4 Z bc ⟨hJ 0 _ _ w Z h0 (Grow.mod bc) (fun b hb=>hb.elim),fun b hb=>hb.elim,by omega,bs,bx⟩
  (fun k j Q W W' ⟨q1,O,q3,q4,q5⟩ I V=>⟨hJ k j Q W W' q1 (I.mono fun b _ hb=>.inl hb) (fun b hb=>⟨(V b hb).1,(V b hb).2,(an j Q W W' O q3 V b hb).2⟩),an j Q W W' O q3 V,by have:=I.size;omega,
   (I.same _ (by omega) fun hb=>by have:=(O _ hb.2).2;omega).trans q4,(I.same _ (by omega) fun hb=>by have:=(O _ hb.2).2;omega).trans q5⟩)
  (fun j Q W W' ⟨ex,c,hc,q1,O,q3,q4,q5⟩ I V=>⟨ex,c,hc,Rq ex j Q W W' q1 (I.mono fun b _ hb=>.inl hb) (fun b hb=>⟨(V b hb).1,(V b hb).2,(an j Q W W' O q3 V b hb).2⟩),an j Q W W' O q3 V,by have:=I.size;omega,
   (I.same _ (by omega) fun hb=>by have:=(O _ hb.2).2;omega).trans q4,(I.same _ (by omega) fun hb=>by have:=(O _ hb.2).2;omega).trans q5⟩)
  (fun k j W ⟨q1,_⟩ b hb hr=>J8 k j W q1 b hb hr)
  ?_
 .refine(qC.2 (nH b6 ?_):CallsIn Fence.wide _ _ _ _ _ _);rintro en W2 ⟨v,rfl,j,hh⟩;have a7:Fr ({ target:=.collected w.heap.size,args:=#[] }::ds) n e { a with defers:=[{ target:=.collected w.heap.size,args:=#[] }]++a.defers }:=⟨hf.size,hf.get,by simp[hf.defers]⟩;have T:∀o,Mod (fun b=>(¬st/\j b)\/b=w.heap.size\/b=w.heap.size+1) W2 (W2.putObj (w.heap.size+1) o):=fun o=>U _ _ _ _ (.inr (.inr rfl));rcases hh with⟨q1,O,q3,q4,q5⟩|⟨ex,c,hc,q1,O,q3,q4,q5⟩
  .obtain⟨o,ho⟩:∃o,(Instr.endLoop (w.heap.size+1)).run P W2=.ok none (W2.putObj (w.heap.size+1) o):=⟨_,by have:=run_endLoop (P:=P) q4 (by rw[E];simp);rw[E] at this;exact this⟩;refine⟨none,_,ho,a7,?_⟩;refine b4 j _ (hJ nn j j _ _ q1 (T _) fun b hb=>⟨.inl hb,by simpa using(O b hb).1,(O b hb).2⟩) (fun b hb=>⟨by simpa using(O b hb).1,(O b hb).2⟩) (by simpa using q3) ((lg (by omega)).trans q5)
  .obtain⟨o,ho⟩:∃o,(Instr.endLoop (w.heap.size+1)).run P W2=.ok (some c) (W2.putObj (w.heap.size+1) o):=⟨_,by have:=run_endLoop (P:=P) q4 (by rw[E];simp);rw[E] at this;exact this⟩;have key:N ex (W2.putObj (w.heap.size+1) o):=
    b5 ex j _ (Rq ex j j _ _ q1 (T _) fun b hb=>⟨.inl hb,by simpa using(O b hb).1,(O b hb).2⟩) (fun b hb=>⟨by simpa using(O b hb).1,(O b hb).2⟩) (by simpa using q3) ((lg (by omega)).trans q5)
   refine⟨some c,_,ho,?_⟩;cases ex with
   |ret=>cases hc;exact wpIn_ret ⟨a7,key⟩
   |exit i=>cases hc;exact wpIn_exit ⟨a7,key⟩
   |_=>cases hc
 .rintro k j W hk ⟨q1,O,q3,q4,q5⟩;have a8:=al k j W hk q1 q3 O;have bd:=run_yield (P:=P) (args:=(S k).toArray) q4 (by rw[E];simpa using av k hk);rw[E] at bd;refine⟨fn,_,x,y,bd,?_⟩;have a7:Fr [] n (Xd n e ps.toList (S k)) { tmps:=(ps.zip (S k).toArray).foldl (fun t x=>t.setIfInBounds x.1 x.2) a.tmps,defers:=[] }:=by
   have:=Fr.fill (ds:=[]) (a:=a) ps.toList (S k) e { a with defers:=[] } (by simpa using av k hk) ⟨hf.size,hf.get,rfl⟩;have e1:(ps.zip (S k).toArray).foldl (fun t x=>t.setIfInBounds x.1 x.2) a.tmps=(ps.toList.zip (S k)).foldl (fun t x=>t.setIfInBounds x.1 x.2) a.tmps:=by
    rw[<-Array.foldl_toList];simp
   rw[e1];exact this
  refine roundIn_of_wpIn (F:=Fence.wide) trivial ?_;refine mG (Jz (ds:=[]) (ro:=some (w.heap.size+1)) (m:=0) b0 hm x ax _ _ W _ (.inr hx) a7 a8) ?_;rintro ex a1 Wa ⟨e1,c7,_,hb⟩;cases ex with
  |normal=>
   obtain⟨⟨dv,ak,c8⟩,b7⟩:=hb;have c9:=(ak (w.heap.size+1) (.inr (.inr rfl))).trans q4;have ca:=(ak w.heap.size (.inr (.inl rfl))).trans q5;refine⟨_,run_beginRound c9 (by rw[E]),?_⟩;have cc:=b7 (Wa.putObj (w.heap.size+1) (.loop { rec .ready none with state:=.busy })) (U _ _ _ _ rfl);have cd:(Wa.putObj (w.heap.size+1) (.loop { rec .ready none with state:=.busy })).heap[w.heap.size+1]?=some (.loop { rec .ready none with state:=.busy }):=qE (by omega);have ch:(Wa.putObj (w.heap.size+1) (.loop { rec .ready none with state:=.busy })).heap[w.heap.size]?=some (.deferred (some [])):=(lg (by omega)).trans ca;refine mG (Jz (ds:=[]) (ro:=some (w.heap.size+1)) (m:=0) b0 hm y ay _ e1 _ _ (.inr hy) c7 cc) ?_;rintro ex a3 X ⟨e3,e2,_,⟨cn,b8,cv⟩,hp⟩;have c6:Wa.heap.size<=X.heap.size:=by simpa using cn
   have cx:=(b8 (w.heap.size+1) (.inr (.inr rfl))).trans cd;have dk:=(b8 w.heap.size (.inr (.inl rfl))).trans ch;have fin:∀(B:Option Code),(Instr.endRound (w.heap.size+1) B).run P X=.ok (.bool B.isNone) (X.putObj (w.heap.size+1) (.loop (rec (if B.isNone then .ready else .done) B)))/\
     (X.putObj (w.heap.size+1) (.loop (rec (if B.isNone then .ready else .done) B))).heap[w.heap.size+1]?=some (.loop (rec (if B.isNone then .ready else .done) B))/\
     (X.putObj (w.heap.size+1) (.loop (rec (if B.isNone then .ready else .done) B))).heap[w.heap.size]?=some (.deferred (some [])):=fun B=>by
    have:=run_endRound (P:=P) B cx;rw[E] at this ⊢;exact⟨this,qE (by omega),(lg (by omega)).trans dk⟩
   have b9:∀(o:Obj) b,j b->(X.putObj (w.heap.size+1) o).heap[b]?=W.heap[b]?:=fun o b hb=>by
    have h2:=(O b hb).2;rw[lg (by omega),b8 b (.inl hb),lg (by omega),ak b (.inl hb)]
   have qt:∀(o:Obj),Quiet W (X.putObj (w.heap.size+1) o):=fun o=>c8.trans cv;have Y:∀(o:Obj),Oy j w (X.putObj (w.heap.size+1) o):=fun o b hb=>⟨by have:=(O b hb).1;simp;omega,(O b hb).2⟩;have ba:∀(o:Obj) b,j b->(j b\/X.heap.size<=b)/\b<(X.putObj (w.heap.size+1) o).heap.size/\w.heap.size+2<=b:=fun o b hb=>⟨.inl hb,(Y o b hb).1,(O b hb).2⟩;have T:∀o,Mod (fun b=>(¬st/\j b)\/b=w.heap.size\/b=w.heap.size+1) X (X.putObj (w.heap.size+1) o):=fun o=>U _ _ _ _ (.inr (.inr rfl));cases ex with
   |normal=>
    obtain⟨f1,f2,f3⟩:=fin none;exact⟨_,_,f1,_,rfl,by simp;omega,b9 _,qt _,.inl ⟨rfl,hJ _ j j _ _ hp (T _) (ba _),Y _,by simp;omega,f2,f3⟩⟩
   |ret=>
    obtain⟨f1,f2,f3⟩:=fin (some .ret);exact⟨_,_,f1,_,rfl,by simp;omega,b9 _,qt _,.inr ⟨rfl,.ret,.ret,rfl,Rq .ret j j _ _ hp (T _) (ba _),Y _,by simp;omega,f2,f3⟩⟩
   |exit i=>
    obtain⟨f1,f2,f3⟩:=fin (some (.exit i));exact⟨_,_,f1,_,rfl,by simp;omega,b9 _,qt _,.inr ⟨rfl,.exit i,.exit i,rfl,Rq (.exit i) j j _ _ hp (T _) (ba _),Y _,by simp;omega,f2,f3⟩⟩
   |_=>exact hp.elim
  |_=>exact hb.elim
def Si:List (Nat×(World->Prop))->Nat->World->Prop
 |[],_,_=>False
 |(j,N)::r,i,w=>bif Nat.beq i j then N w else Si r i w
def fw(j o:World->Prop)(L:List (Nat×(World->Prop)))(x:Exit)(w:World):Prop:=match x with
 |.normal=>j w | .ret=>o w | .exit i=>Si L i w | _=>False
theorem UK{Q:Nat->World->Prop}:∀{L:List Nat},Si (L.map fun i=>(i,Q i)) i w->Q i w:=by
 intro L;induction L with
 |nil=>intro h;exact h.elim
 |cons j L o=>
  intro h;simp only[kL,Si] at h;cases hb:Nat.beq i j with
  |true=>rw[hb] at h;have:=ka hb;subst this;exact h
  |false=>rw[hb] at h;exact o h
def QI:Code->Bool
 |.rangeFunc ..=>true
 |.seq a b=>QI a||QI b
 |.block _ a=>QI a
 |_=>false
def bX(id:Nat)(Q:EQ):EQ:=fun ex e w=>match ex with
 |.exit i=>bif Nat.beq i id then False else Q (.exit i) e w
 |.normal=>Q .normal e w | .ret=>Q .ret e w | .goto l=>Q (.goto l) e w | .panic c=>Q (.panic c) e w | .outgrown=>Q .outgrown e w
variable (P ok n)
def DM:Code->Qp->(Nat->EQ)->EQ->Env->World->Prop
 |.seq x y,an,Q,j,e,w=>match an with
  |.node _ _ a b=>bif QI x then(bif LM y then DM x a (fun m=>fJ (fun e' w'=>D P ok n y b (Q m) e' w') (Q m)) j e w else False)
    else D P ok n x a (fJ (fun e' w'=>DM y b Q j e' w') j) e w
  |_=>False
 |.block id x,an,Q,j,e,w=>DM x an (fun m=>iM id (Q m)) (bX id j) e w
 |.rangeFunc g ps x y,an,Q,_,e,w=>match an with
  |.node L _ B E=>bif LM x&&LM y then Iz P ok (ev e g) ps.size (fun args o W=>D P ok n x B (fJ (fun e' I=>o (fun post J=>D P ok n y E (fun ex _ O=>post ex O) e' J) I) (fun _ _ _=>False)) (Xd n e ps.toList args) W) (fw (fun W=>Q w.heap.size .normal e W) (fun W=>Q w.heap.size .ret e W) (L.map fun i=>(i,fun W=>Q w.heap.size (.exit i) e W))) w else False
  |_=>False
 |_,_,_,_,_,_=>False
variable {P ok n}
def liftM(n:Nat)(Q:Nat->EQ)(i:EQ):Exit->Act->World->Prop:=fun ex a w=>
 (ex≠.normal/\∃e,Fr [] n e a/\i ex e w)\/∃m e,Fr [{ target:=.collected m,args:=#[] }] n e a/\Q m ex e w
theorem V6(B:CP P ok)(hm:P.follows .mixedOrders=true):∀(c:Code) (an:Qp) (Q:Nat->EQ) (E:EQ) (e:Env) (w:World) (a:Act),Fr [] n e a->DM P ok n c an Q E e w->c.wpIn (Wd none) 0 P (liftM n Q E) a w:=by
 intro c;induction c with
 |seq x y O S=>
  intro an Q E e w a I h;cases an with
  |node L W T U=>
   simp only[DM] at h;cases hr:QI x with
   |true=>
    simp only[hr,kA] at h;cases V:LM y with
    |false=>simp only[V,kF] at h
    |true=>
     simp only[V,kA] at h;refine wpIn_seq (mG (O T _ _ e w a I h) ?_);rintro ex J w' (⟨o,e',h1,j⟩|⟨m,e',h1,j⟩)
     .cases ex with
      |normal=>exact absurd rfl o
      |_=>exact .inl ⟨o,e',h1,j⟩
     .cases ex with
      |normal=>
       refine mG (Jz (ro:=none) (m:=0) B hm y U _ e' w' J (.inr V) h1 j) ?_;rintro ex Z a6 ⟨X,h4,_,h6⟩;exact .inr ⟨m,X,h4,h6⟩
      |_=>exact .inr ⟨m,e',h1,j⟩
   |false=>
    simp only[hr,kF] at h;refine wpIn_seq (mG (Jz (ds:=[]) (ro:=none) (m:=0) B hm x T _ e w a (.inl rfl) I h) ?_);rintro ex J w' ⟨e',h1,_,j⟩;cases ex with
    |normal=>exact S U Q E e' w' J h1 j
    |_=>exact .inl ⟨by simp,e',h1,j⟩
  |_=>exact h.elim
 |block id x ih=>
  intro an Q E e w a I h;simp only[DM] at h;refine wpIn_block (mG (ih an _ _ e w a I h) ?_);rintro ex J w' (⟨o,e',h1,j⟩|⟨m,e',h1,j⟩)
  .cases ex with
   |exit i=>
    simp only[bX] at j;simp only[Exit.inBlock];cases hb:Nat.beq i id with
    |true=>rw[hb] at j;exact j.elim
    |false=>
     rw[hb] at j;rw[C3 (by intro Y;subst Y;simp at hb)];exact .inl ⟨by simp,e',h1,j⟩
   |normal=>exact absurd rfl o
   |_=>exact .inl ⟨by simp,e',h1,j⟩
  .cases ex with
   |exit i=>
    simp only[iM] at j;simp only[Exit.inBlock];cases hb:Nat.beq i id with
    |true=>rw[hb] at j;rw[Io (ka hb)];exact .inr ⟨m,e',h1,j⟩
    |false=>
     rw[hb] at j;rw[C3 (by intro Y;subst Y;simp at hb)];exact .inr ⟨m,e',h1,j⟩
   |_=>exact .inr ⟨m,e',h1,j⟩
 |rangeFunc g ps x y _ _=>
  intro an Q E e w a I h;cases an with
  |node L W T U=>
   simp only[DM] at h;cases hb:(LM x&&LM y) with
   |false=>simp only[hb,kF] at h
   |true=>
    simp only[hb,kA] at h;simp only[TC] at hb;refine mG (Og B hm I hb.1 hb.2 h) ?_;rintro ex J w' ⟨h1,j⟩;refine .inr ⟨_,e,h1,?_⟩;cases ex with
    |normal=>exact j
    |ret=>exact j
    |exit i=>exact UK (Q:=fun i W=>Q w.heap.size (.exit i) e W) j
    |_=>exact j.elim
  |_=>exact h.elim
 |_=>intro an Q E e w a I h;exact h.elim
end
section
variable {P:Program}{ok:Nat->Bool}{n:Nat}
def Fx(m:Nat)(K:World->Prop)(w:World):Prop:=w.heap[m]?=some (.deferred (some []))/\K (w.putObj m (.deferred none))
def gr(P:Program)(m:Nat)(rs:List ResultVar)(K:Cont):EQ:=fun ex e w=>match ex with
 |.normal=>Fx m (fun w=>K1 P rs e w fun vs=>K (RG vs) w) w
 |.ret=>Fx m (fun w=>K1 P rs e w fun vs=>K (RG vs) w) w
 |_=>False
theorem G5{g:Nat}{fn:Func}{c:Code}{rs:List ResultVar}{an:Qp}(j:CP P ok)(hm:P.follows .mixedOrders=true)(Q:P.funcs[g]?=some fn)
 (hb:fn.body=some c)(S:fn.ntmps=n)(o:fn.results.toList=rs)(hl:Nat.ble args.length n=true)(h:DM P ok n c an (fun m=>gr P m rs K) (fO P rs K) (nth args) w):AB P g args K w:=by
 refine qC.1 (callsIn_of_wp_marks (F:=Fence.wide) (n:=0) Q hb trivial ?_);have B:=lS hl;subst S o;refine mG (V6 j hm c an _ _ _ w _ (Ry B) h) ?_;rintro ex O w' (⟨E,e,h1,i⟩|⟨m,e,h1,i⟩)
 .cases ex with
  |normal=>exact absurd rfl E
  |ret=>
   obtain⟨v,I,J⟩:=Gp h1 i;show LeavesInM _ _ _ _ _ _ _ _ _;rw[h1.defers];exact⟨v,I,v,rfl,J⟩
  |_=>exact i.elim
 .have key:∀(i:Fx m (fun w=>K1 P fn.results.toList e w fun vs=>K (RG vs) w) w'),LeavesInM Fence.wide 0 P fn O.tmps (fun e w'=>∃v,e=.returned v/\K v w') O.defers .returning w':=by
   rintro⟨T,I⟩;obtain⟨v,J,U⟩:=Gp h1 I;rw[h1.defers];exact⟨by simp,.inl ⟨_,_,rfl,run_takeDeferred T,v,J,v,rfl,U⟩⟩
  cases ex with
  |normal=>exact key i
  |ret=>exact key i
  |_=>exact i.elim
end
section
structure AvK where
 E:Nat
 one:Bool
 zE:List Value
 te:Nat
 tn:Nat
 ts:Nat
 tp:Nat
 tps:Nat
 tt:Nat
 tT:Nat
 tk:Nat
 tA:Nat
 fat:Nat
 ftotals:Nat
 fset:Nat
 flift:Nat
 flean:Nat
 fbalance:Nat
 fjoin:Nat
 ffirst:Nat
 flast:Nat
 fconcat:Nat
 fsplit:Nat
 fdrop:Nat
 fpick:Nat
 fmelded:Nat
 fReplace:Nat
 fover:Nat
 fOver:Nat
 fOverf:Nat
 fSize:Nat
 fNew:Nat
 aTake:Nat
 aasked:Nat
 aFree:Nat
 aAt:Nat
 aPut:Nat
 aNew:Nat
 vm:Value
 vc:Value
 vd:Value
def AvK.zN(g:AvK):List Value:=g.zE++[.int .i64 0,.int .i64 0,.int .i64 0,.int .i64 0,.int .i64 0]
def AvK.zP(g:AvK):List Value:=g.zE++[.int .i64 0,.int .i64 0,.int .i64 0,.int .i64 0,.int .i64 0,.bool false]
def OA(g:AvK)(i:Addr->Value->Prop)(x:Value)(k:Value->Prop):Prop:=bif g.one then BF i x k else EM i g.E x k
def iq(g:AvK)(v0 v1:Value)(K:Cont)(w:World):Prop:=
 Am g.tn g.zN (fun t4 J=>
 AJ v0 fun t9=>
 AM 3 t9 fun j=>
 AL j (fun o w2=>
 AB prog g.aAt [o,v1] (fun i O=>
 AQ 0 i fun B=>
 AQ 1 i fun _t15=>
 Am g.tn g.zN (fun t5 w4=>
 Ac (g.E+5) t5 B (fun Q=>
 Af (g.E+5) t5 (fun I S=>
 Ac (g.E+5) t4 I (fun T=>
 Af (g.E+5) t4 (fun U V=>
 K U V) T) S) Q) w4) O) w2) J) w
def SG(g:AvK)(v0 v1:Value)(K:Cont)(w:World):Prop:=
 DJ .i64 v1 (.int .i64 (-1)) fun t9=>
 AD t9
 (K (.tuple #[(.int .i64 0),(.int .i64 0),(.int .i64 0)]) w)
 (AB prog g.fat [v0,v1] (fun j S=>
 Am g.tn g.zN (fun i w2=>
 Ac (g.E+5) i j (fun T=>
 Cg T (fun C=>
 AM (g.E+2) i fun o=>
 BJ C o fun B=>
 AM (g.E+3) i fun I=>
 BJ C I fun J=>
 AM (g.E+4) i fun O=>
 BJ C O fun Q=>
 ∀w4:World,C w4->
 K (.tuple #[B,J,Q]) w4)) w2) S) w)
def gP(g:AvK)(v0 v1 v2:Value)(K:Cont)(w:World):Prop:=
 Bh g.tn v2 (fun t5 w1=>
 AM g.E t5 fun J=>
 AL J (fun O w2=>
 AB prog g.ftotals [v0,O] (fun j w3=>
 AQ 0 j fun Q=>
 AQ 1 j fun S=>
 AQ 2 j fun T=>
 AM (g.E+1) t5 fun U=>
 AL U (fun t25 w4=>
 AB prog g.ftotals [v0,t25] (fun o V=>
 AQ 0 o fun X=>
 AQ 1 o fun Y=>
 AQ 2 o fun Z=>
 Ay [7] [[],[0],[0,1],[0,1,2],[0,1,2,3],[],[5],[0,1,2,3,4,5,6],[0,1,2,3,4,5,6,7],[0,1,2,3,4,5,6,7,8],[0,1,2,3,4,5,6,7,8],[0,1,2,3,4,5,6,7,8,9],[0,1,2,3,4,5,6,7,8,9,10,11]] V.drew (fun M St=>
 AJ v0 fun a1=>
 AM 0 a1 fun a6=>
 AM 0 a6 fun a7=>
 BF (St 4) a7 fun a8=>
 AM 0 t5 fun ak=>
 OA g (St 6) ak fun al=>
 BM prog Dh a8 [al] (fun B w6=>
 Mod (M 7) V.drew w6/\
 AQ 0 B fun t39=>
 AQ 1 B fun an=>
 KM .i64 Q X fun av=>
 AX .i64 (.int .i64 1) av fun ax=>
 AX .i64 S Y fun ay=>
 AX .i64 ay t39 fun b0=>
 AX .i64 T Z fun b3=>
 AX .i64 b3 an fun b4=>
 AM (g.E+2) t5 fun t55=>
 BC t55 ax (fun w7=>
 AM (g.E+3) t5 fun b5=>
 BC b5 b0 (fun w8=>
 AM (g.E+4) t5 fun b6=>
 BC b6 b4 (fun w9=>
 Ay [6] [[],[0],[0,1],[0,1,2],[],[],[0,1,2,3,4,5]] w9.drew (fun b7 i=>
 AJ v0 fun b8=>
 AM 3 b8 fun b9=>
 BF (i 3) b9 fun ba=>
 EM (i 5) (g.E+5) t5 fun bb=>
 AB prog g.aPut [ba,v1,bb] (fun _t64 I=>
 Mod (b7 6) w9.drew I/\
 K (.tuple #[]) I) w9.drew)) w8) w7) w6) V.drew)) w4) w3) w2) w1) w
def Wx(g:AvK)(v0 v1 v2:Value)(K:Cont)(w:World):Prop:=
 AB prog g.fat [v0,v1] (fun I w1=>
 Am g.tn g.zN (fun j w2=>
 Ac (g.E+5) j I (fun w3=>
 AD v2
 (AM g.E j fun J=>
 AL J (fun o w4=>
 AB prog g.fat [v0,o] (fun O w5=>
 Am g.tn g.zN (fun t9 w6=>
 Ac (g.E+5) t9 O (fun w7=>
 AM (g.E+1) t9 fun Q=>
 AL Q (fun S w8=>
 AM g.E j fun t22=>
 BC t22 S (fun w9=>
 Af (g.E+5) j (fun t25 T=>
 AB prog g.fset [v0,v1,t25] (fun _t26 U=>
 AM (g.E+1) t9 fun V=>
 BC V v1 (fun X=>
 Af (g.E+5) t9 (fun Y Z=>
 AB prog g.fset [v0,o,Y] (fun _t32 a1=>
 K o a1) Z) X) U) T) w9) w8) w7) w6) w5) w4) w3)
 (AM (g.E+1) j fun a6=>
 AL a6 (fun B a7=>
 AB prog g.fat [v0,B] (fun a8 ak=>
 Am g.tn g.zN (fun i al=>
 Ac (g.E+5) i a8 (fun an=>
 AM g.E i fun av=>
 AL av (fun t39 ax=>
 AM (g.E+1) j fun ay=>
 BC ay t39 (fun b0=>
 Af (g.E+5) j (fun b3 b4=>
 AB prog g.fset [v0,v1,b3] (fun _t44 b5=>
 AM g.E i fun t46=>
 BC t46 v1 (fun b6=>
 Af (g.E+5) i (fun b7 b8=>
 AB prog g.fset [v0,B,b7] (fun _t50 b9=>
 K B b9) b8) b6) b5) b4) b0) ax) an) al) ak) a7) w3)) w2) w1) w
def bY(g:AvK)(v0 v1:Value)(K:Cont)(w:World):Prop:=
 AB prog g.fat [v0,v1] (fun o T=>
 Am g.tn g.zN (fun t5 w2=>
 Ac (g.E+5) t5 o (fun U=>
 AM g.E t5 fun B=>
 AL B (fun I w4=>
 AB prog g.ftotals [v0,I] (fun i V=>
 AQ 0 i fun J=>
 AQ 1 i fun _t21=>
 AQ 2 i fun _t22=>
 AM (g.E+1) t5 fun t25=>
 AL t25 (fun O X=>
 AB prog g.ftotals [v0,O] (fun j Y=>
 AQ 0 j fun Q=>
 AQ 1 j fun _t29=>
 AQ 2 j fun _t30=>
 BW .i64 J Q fun S=>
 K S Y) X) V) w4) U) w2) T) w
def O8(g:AvK)(v0 v1 v2:Value)(K:Cont)(w:World):Prop:=
 Bh g.tn v2 (fun t5 w1=>
 Af (g.E+5) t5 (fun I w2=>
 AB prog g.fset [v0,v1,I] (fun _t11 w3=>
 AB prog g.flean [v0,v1] (fun o w4=>
 Eu .i64 o (.int .i64 1) fun J=>
 AD J
 (AM g.E t5 fun O=>
 AL O (fun Q w5=>
 AB prog g.flean [v0,Q] (fun S w6=>
 Bb .i64 S (.int .i64 0) fun t22=>
 AD t22
 (AM g.E t5 fun T=>
 AL T (fun t25 w7=>
 AB prog g.flift [v0,t25,(.bool false)] (fun U w8=>
 AM g.E t5 fun V=>
 BC V U (fun w9=>
 Af (g.E+5) t5 (fun X Y=>
 AB prog g.fset [v0,v1,X] (fun _t31 Z=>
 AB prog g.flift [v0,v1,(.bool true)] (fun a1 a6=>
 K a1 a6) Z) Y) w9) w8) w7) w6)
 (AB prog g.flift [v0,v1,(.bool true)] (fun i a7=>
 K i a7) w6)) w5) w4)
 (Bb .i64 o (.int .i64 (-1)) fun a8=>
 AD a8
 (AM (g.E+1) t5 fun t39=>
 AL t39 (fun ak al=>
 AB prog g.flean [v0,ak] (fun an B=>
 Eu .i64 an (.int .i64 0) fun av=>
 AD av
 (AM (g.E+1) t5 fun ax=>
 AL ax (fun t45 ay=>
 AB prog g.flift [v0,t45,(.bool true)] (fun t46 b0=>
 AM (g.E+1) t5 fun b3=>
 BC b3 t46 (fun b4=>
 Af (g.E+5) t5 (fun t50 b5=>
 AB prog g.fset [v0,v1,t50] (fun _t51 b6=>
 AB prog g.flift [v0,v1,(.bool false)] (fun b7 b8=>
 K b7 b8) b6) b5) b4) b0) ay) B)
 (AB prog g.flift [v0,v1,(.bool false)] (fun j b9=>
 K j b9) B)) al) w4)
 (K v1 w4))) w3) w2) w1) w
def bG(g:AvK)(v0 v1 v2 v3:Value)(K:Cont)(w:World):Prop:=
 AB prog g.ftotals [v0,v1] (fun B w1=>
 AQ 0 B fun t22=>
 AQ 1 B fun _t23=>
 AQ 2 B fun _t24=>
 AB prog g.ftotals [v0,v3] (fun I w2=>
 AQ 0 I fun J=>
 AQ 1 I fun _t30=>
 AQ 2 I fun _t31=>
 AX .i64 J (.int .i64 1) fun O=>
 Eu .i64 t22 O fun Q=>
 AD Q
 (AB prog g.fat [v0,v1] (fun t39 w3=>
 Am g.tn g.zN (fun i w4=>
 Ac (g.E+5) i t39 (fun w5=>
 AM (g.E+1) i fun S=>
 AL S (fun T w6=>
 AB prog g.fjoin [v0,T,v2,v3] (fun t45 w7=>
 AM (g.E+1) i fun t46=>
 BC t46 t45 (fun w8=>
 Af (g.E+5) i (fun U w9=>
 AB prog g.fbalance [v0,v1,U] (fun t50 V=>
 K t50 V) w9) w8) w7) w6) w5) w4) w3) w2)
 (AX .i64 t22 (.int .i64 1) fun X=>
 Eu .i64 J X fun t55=>
 AD t55
 (AB prog g.fat [v0,v3] (fun Y Z=>
 Am g.tn g.zN (fun j a1=>
 Ac (g.E+5) j Y (fun a6=>
 AM g.E j fun a7=>
 AL a7 (fun a8 ak=>
 AB prog g.fjoin [v0,v1,v2,a8] (fun al an=>
 AM g.E j fun av=>
 BC av al (fun ax=>
 Af (g.E+5) j (fun ay b0=>
 AB prog g.fbalance [v0,v3,ay] (fun b3 b4=>
 K b3 b4) b0) ax) an) ak) a6) a1) Z) w2)
 (AB prog g.fat [v0,v2] (fun b5 b6=>
 Am g.tn g.zN (fun o b7=>
 Ac (g.E+5) o b5 (fun b8=>
 AM g.E o fun b9=>
 BC b9 v1 (fun ba=>
 AM (g.E+1) o fun t76=>
 BC t76 v3 (fun bb=>
 Af (g.E+5) o (fun bc bd=>
 AB prog g.fset [v0,v2,bc] (fun _t80 bk=>
 K v2 bk) bd) bb) ba) b8) b7) b6) w2))) w1) w
def Vu(g:AvK)(v0 v1:Value)(K:Cont)(w:World):Prop:=
 AB prog g.fat [v0,v1] (fun t9 Z=>
 Am g.tn g.zN (fun i w2=>
 Ac (g.E+5) i t9 (fun w3=>
 AM g.E i fun o=>
 AL o (fun B w4=>
 DJ .i64 B (.int .i64 (-1)) fun I=>
 AD I
 (AM (g.E+1) i fun J=>
 AL J (fun O w5=>
 K (.tuple #[O,v1]) w5) w4)
 (AM g.E i fun Q=>
 AL Q (fun S w6=>
 AB prog g.ffirst [v0,S] (fun j w7=>
 AQ 0 j fun T=>
 AQ 1 j fun t22=>
 AM g.E i fun U=>
 BC U T (fun w8=>
 Af (g.E+5) i (fun V w9=>
 AB prog g.fbalance [v0,v1,V] (fun X Y=>
 K (.tuple #[X,t22]) Y) w9) w8) w7) w6) w4)) w3) w2) Z) w
def bZ(g:AvK)(v0 v1:Value)(K:Cont)(w:World):Prop:=
 AB prog g.fat [v0,v1] (fun t9 Z=>
 Am g.tn g.zN (fun i w2=>
 Ac (g.E+5) i t9 (fun w3=>
 AM (g.E+1) i fun o=>
 AL o (fun B w4=>
 DJ .i64 B (.int .i64 (-1)) fun I=>
 AD I
 (AM g.E i fun J=>
 AL J (fun O w5=>
 K (.tuple #[O,v1]) w5) w4)
 (AM (g.E+1) i fun Q=>
 AL Q (fun S w6=>
 AB prog g.flast [v0,S] (fun j w7=>
 AQ 0 j fun T=>
 AQ 1 j fun t22=>
 AM (g.E+1) i fun U=>
 BC U T (fun w8=>
 Af (g.E+5) i (fun V w9=>
 AB prog g.fbalance [v0,v1,V] (fun X Y=>
 K (.tuple #[X,t22]) Y) w9) w8) w7) w6) w4)) w3) w2) Z) w
def Sa(g:AvK)(v0 v1 v2:Value)(K:Cont)(w:World):Prop:=
 DJ .i64 v1 (.int .i64 (-1)) fun j=>
 AD j
 (K v2 w)
 (AB prog g.flast [v0,v1] (fun i E=>
 AQ 0 i fun o=>
 AQ 1 i fun B=>
 AB prog g.fjoin [v0,o,B,v2] (fun t22 w2=>
 K t22 w2) E) w)
def RF(g:AvK)(v0 v1 v2:Value)(K:Cont)(w:World):Prop:=
 DJ .i64 v1 (.int .i64 (-1)) fun fa=>
 AD fa
 (K (.tuple #[(.int .i64 (-1)),(.int .i64 (-1))]) w)
 (AB prog g.fat [v0,v1] (fun t22 w1=>
 Am g.tn g.zN (fun B w2=>
 Ac (g.E+5) B t22 (fun w3=>
 AM g.E B fun t25=>
 AL t25 (fun fs w4=>
 AB prog g.ftotals [v0,fs] (fun b3 w5=>
 AQ 0 b3 fun _t28=>
 AQ 1 b3 fun an=>
 AQ 2 b3 fun _t30=>
 Ay [7] [[],[0],[0,1],[0,1,2],[0,1,2,3],[],[5],[0,1,2,3,4,5,6],[0,1,2,3,4,5,6,7],[0,1,2,3,4,5,6,7,8],[0,1,2,3,4,5,6,7,8],[0,1,2,3,4,5,6,7,8,9],[0,1,2,3,4,5,6,7,8,9,10,11]] w5.drew (fun M St=>
 AJ v0 fun fv=>
 AM 0 fv fun ga=>
 AM 0 ga fun gb=>
 BF (St 4) gb fun gd=>
 AM 0 B fun gf=>
 OA g (St 6) gf fun gg=>
 BM prog Dh gd [gg] (fun t39 w6=>
 Mod (M 7) w5.drew w6/\
 AQ 0 t39 fun dT=>
 AQ 1 t39 fun _t41=>
 SQ .i64 v2 an fun t45=>
 AD t45
 (AM g.E B fun gl=>
 AL gl (fun gm w7=>
 AB prog g.fsplit [v0,gm,v2] (fun e1 w8=>
 AQ 0 e1 fun gw=>
 AQ 1 e1 fun t53=>
 AM (g.E+1) B fun gA=>
 AL gA (fun gB w9=>
 AB prog g.fjoin [v0,t53,v1,gB] (fun gW h0=>
 K (.tuple #[gw,gW]) h0) w9) w8) w7) w6)
 (AX .i64 an dT fun h2=>
 Kk .i64 v2 h2 fun t66=>
 AD t66
 (AM (g.E+1) B fun h3=>
 AL h3 (fun t70 h4=>
 BW .i64 v2 an fun h5=>
 BW .i64 h5 dT fun h6=>
 AB prog g.fsplit [v0,t70,h6] (fun t76 h7=>
 AQ 0 t76 fun t77=>
 AQ 1 t76 fun h8=>
 AM g.E B fun h9=>
 AL h9 (fun hd hf=>
 AB prog g.fjoin [v0,hd,v1,t77] (fun hg hh=>
 K (.tuple #[hg,h8]) hh) hf) h7) h4) w6)
 (Ao (fun vs hj=>∀_:Env,
 Cg hj (fun C=>
 AM g.E B fun e2=>
 BJ C e2 fun e3=>
 AM (g.E+1) B fun e4=>
 BJ C e4 fun e5=>
 ∀e6:World,C e6->
 Af g.E (nth vs 0) (fun e7 hn=>
 AM 0 B fun e8=>
 Ac g.E e8 e7 (fun b4=>
 Ay [6] [[],[0],[0,1],[0,1,2],[],[],[0,1,2,3,4,5]] b4.drew (fun ho ax=>
 AJ v0 fun e9=>
 AM 3 e9 fun ea=>
 BF (ax 3) ea fun ec=>
 EM (ax 5) (g.E+5) B fun ed=>
 AB prog g.aPut [ec,v1,ed] (fun _t112 av=>
 Mod (ho 6) b4.drew av/\
 Ay [3,11,13] [[],[],[],[0,1,2],[],[],[5],[5,6],[5,6,7],[],[9],[0,1,2,3,5,6,7,8,9,10],[],[0,1,2,3,4,5,6,7,8,9,10,11,12],[0,1,2,3,4,5,6,7,8,9,10,11,12,13],[0,1,2,3,4,5,6,7,8,9,10,11,12,13,14]] av.drew (fun b5 ay=>
 AB prog g.fjoin [v0,e3,v1,(.int .i64 (-1))] (fun ee b6=>
 Mod (b5 3) av.drew b6/\
 AJ v0 fun ef=>
 AM 3 ef fun eh=>
 BF (ay 8) eh fun ej=>
 EM (ay 9) g.E (nth vs 1) fun ek=>
 Ah [(0,g.E),(g.E,1),(g.E+1,1),(g.E+2,1),(g.E+3,1),(g.E+4,1)] g.zN [(0,ek)] fun en=>
 AB prog g.aTake [ej,en] (fun eo b7=>
 Mod (b5 11) b6 b7/\
 AB prog g.fjoin [v0,(.int .i64 (-1)),eo,e5] (fun ep er=>
 Mod (b5 13) b7 er/\
 K (.tuple #[ee,ep]) er) b7) b6) av.drew)) b4.drew)) hn) e6)) (fun J=>
 Ay [10,14,15,16,17] [[],[0],[0,1],[0,1,2],[0,1,2,3],[],[5],[],[],[7,8],[0,1,2,3,4,5,6,7,8,9],[0,1,2,3,4,5,6,7,8,9,10],[0,1,2,3,4,5,6,7,8,9,10,11],[0,1,2,3,4,5,6,7,8,9,10,11],[],[],[0,1,2,3,4,5,6,7,8,9,10,11,12,14,15],[0,1,2,3,4,5,6,7,8,9,10,11,12,13,14,15,16]] w6.drew (fun i b0=>
 AJ v0 fun hq=>
 AM 0 hq fun hs=>
 AM 1 hs fun hv=>
 BF (b0 4) hv fun I=>
 AM 0 B fun hx=>
 EM (b0 6) g.E hx fun O=>
 BW .i64 v2 an fun Q=>
 (BM prog Dh I [O,Q] (fun et S=>
 Mod (i 10) w6.drew S/\
 AQ 0 et fun eu=>
 AQ 1 et fun ew=>
 (Am g.te g.zE (fun eA b8=>
 Mod (i 14) S b8/\
 Am g.te g.zE (fun eB b9=>
 Mod (i 15) b8 b9/\
 Ac g.E eA eu (fun ba=>
 Mod (i 16) b9 ba/\
 Ac g.E eB ew (fun eC=>
 Mod (i 17) ba eC/\
 J [eA,eB] eC) ba) b9) b8) S)/\
 (Am g.te g.zE (fun T bb=>
 Mod (i 15) S bb/\
 Am g.te g.zE (fun U bc=>
 Mod (i 14) bb bc/\
 Ac g.E U eu (fun bd=>
 Mod (i 16) bc bd/\
 Ac g.E T ew (fun eI=>
 Mod (i 17) bd eI/\
 J [U,T] eI) bd) bc) bb) S)) w6.drew)/\
 ((Am g.te g.zE (fun j V=>
 Mod (i 14) w6.drew V/\
 (BM prog Dh I [O,Q] (fun X bk=>
 Mod (i 10) V bk/\
 AQ 0 X fun bl=>
 AQ 1 X fun bn=>
 Am g.te g.zE (fun Y bp=>
 Mod (i 15) bk bp/\
 Ac g.E j bl (fun bs=>
 Mod (i 16) bp bs/\
 Ac g.E Y bn (fun eL=>
 Mod (i 17) bs eL/\
 J [j,Y] eL) bs) bp) bk) V)/\
 (Am g.te g.zE (fun Z bx=>
 Mod (i 15) V bx/\
 BM prog Dh I [O,Q] (fun a1 c4=>
 Mod (i 10) bx c4/\
 AQ 0 a1 fun c6=>
 AQ 1 a1 fun c7=>
 Ac g.E j c6 (fun c8=>
 Mod (i 16) c4 c8/\
 Ac g.E Z c7 (fun eN=>
 Mod (i 17) c8 eN/\
 J [j,Z] eN) c8) c4) bx) V)) w6.drew)/\
 (Am g.te g.zE (fun o a6=>
 Mod (i 15) w6.drew a6/\
 (BM prog Dh I [O,Q] (fun a7 c9=>
 Mod (i 10) a6 c9/\
 AQ 0 a7 fun ca=>
 AQ 1 a7 fun cc=>
 Am g.te g.zE (fun a8 cd=>
 Mod (i 14) c9 cd/\
 Ac g.E a8 ca (fun ch=>
 Mod (i 16) cd ch/\
 Ac g.E o cc (fun eR=>
 Mod (i 17) ch eR/\
 J [a8,o] eR) ch) cd) c9) a6)/\
 (Am g.te g.zE (fun ak cn=>
 Mod (i 14) a6 cn/\
 BM prog Dh I [O,Q] (fun al cv=>
 Mod (i 10) cn cv/\
 AQ 0 al fun cx=>
 AQ 1 al fun dk=>
 Ac g.E ak cx (fun dv=>
 Mod (i 16) cv dv/\
 Ac g.E o dk (fun eX=>
 Mod (i 17) dv eX/\
 J [ak,o] eX) dv) cv) cn) a6)) w6.drew))))))) w5.drew)) w4) w3) w2) w1) w)
def Xp(g:AvK)(v0 v1:Value)(K:Cont)(w:World):Prop:=
 DJ .i64 v1 (.int .i64 (-1)) fun Q=>
 AD Q
 (K (.tuple #[]) w)
 (AB prog g.fat [v0,v1] (fun t9 S=>
 Am g.tn g.zN (fun t4 w2=>
 Ac (g.E+5) t4 t9 (fun T=>
 AM g.E t4 fun i=>
 AL i (fun j w4=>
 AB prog g.fdrop [v0,j] (fun _t13 U=>
 AM (g.E+1) t4 fun o=>
 AL o (fun B V=>
 AB prog g.fdrop [v0,B] (fun _t17 X=>
 AJ v0 fun I=>
 AM 3 I fun J=>
 AL J (fun O Y=>
 AB prog g.aFree [O,v1] (fun _t23 Z=>
 K (.tuple #[]) Z) Y) X) V) U) w4) T) w2) S) w)
def bh(g:AvK)(v0 v1:Value)(K:Cont)(w:World):Prop:=
 Am g.te g.zE (fun t4 J=>
 AB prog g.fat [v0,v1] (fun O w2=>
 runK prog (Instr.field g.tn O 0) (fun t9 Q=>
 Am g.te g.zE (fun t5 w4=>
 Ac g.E t5 t9 (fun S=>
 AJ v0 fun i=>
 AM 3 i fun j=>
 AL j (fun o T=>
 AB prog g.aFree [o,v1] (fun _t15 U=>
 Af g.E t5 (fun B V=>
 Ac g.E t4 B (fun X=>
 Af g.E t4 (fun Y I=>
 K Y I) X) V) U) T) S) w4) Q) w2) J) w
def Sx(g:AvK)(v0 v1:Value)(K:Cont)(w:World):Prop:=
 Ae v1 fun ay=>
 Aq [(.slice none 0 0),(.int .i64 0)] (fun vs i w1=>∀_:Env,
 Bb .i64 (nth vs 1) ay fun b0=>
 AD b0
 (BQ g.E v1 (nth vs 1) fun b3=>
 Af g.E b3 (fun b4 w2=>
 Am g.te g.zE (fun t6 w3=>
 Ac g.E t6 b4 (fun w4=>
 Ay [6] [[],[0],[0,1],[0,1,2],[0,1,2,3],[],[0,1,2,3,4,5],[0,1,2,3,4,5,6],[0,1,2,3,4,5,6,7],[0,1,2,3,4,5,6,7],[0,1,2,3,4,5,6,7,8],[0,1,2,3,4,5,6,7,8,9,10]] w4.drew (fun M St=>
 AJ v0 fun b5=>
 AM 0 b5 fun b6=>
 AM 0 b6 fun t22=>
 BF (St 4) t22 fun b7=>
 EM (St 5) g.E t6 fun b8=>
 BM prog Dh b7 [b8] (fun t25 O=>
 Mod (M 6) w4.drew O/\
 AQ 0 t25 fun b9=>
 AQ 1 t25 fun _t27=>
 DJ .i64 b9 (.int .i64 0) fun ba=>
 AD ba
 (AX .i64 (nth vs 1) (.int .i64 1) fun bb=>
 i [(nth vs 0),bb] O)
 (Ao (fun _vs_1 w6=>∀_:Env,
 Af g.E t6 (fun t55 w7=>
 Bg g.te g.E 1 g.zE [(0,t55)] (fun bc w8=>
 runK prog (Builtin.append_ #[g.ts,g.ts] g.ts [(nth vs 0),bc].toArray) (fun bd w9=>
 AX .i64 (nth vs 1) (.int .i64 1) fun S=>
 i [bd,S] w9) w8) w7) w6) (fun J=>
 Ae (nth vs 0) fun bk=>
 BW .i64 bk (.int .i64 1) fun T=>
 Kk .i64 T (.int .i64 0) fun bl=>
 AD bl
 (Ao (fun Q a7=>∀_:Env,
 AD (nth Q 1)
 (Af g.E (nth Q 0) (fun bn bp=>
 BQ g.E (nth vs 0) T fun t53=>
 Ac g.E t53 bn (fun bs=>
 AX .i64 (nth vs 1) (.int .i64 1) fun U=>
 i [(nth vs 0),U] bs) bp) a7)
 (J [] a7)) (fun a8=>
 Ay [10,14,15] [[],[0],[0,1],[0,1,2],[0,1,2,3],[],[],[5,6],[5,6,7],[],[0,1,2,3,4,5,6,7,8,9],[0,1,2,3,4,5,6,7,8,9,10],[0,1,2,3,4,5,6,7,8,9,10,11],[0,1,2,3,4,5,6,7,8,9,10,11],[],[0,1,2,3,4,5,6,7,8,9,10,11,12,14],[0,1,2,3,4,5,6,7,8,9,10,11,12,13,14,15]] O.drew (fun j o=>
 AJ v0 fun bx=>
 AM 0 bx fun c4=>
 AM 2 c4 fun t39=>
 BF (o 4) t39 fun ak=>
 BQ g.E (nth vs 0) T fun c6=>
 EM (o 8) g.E c6 fun al=>
 EM (o 9) g.E t6 fun t45=>
 (BM prog Dh ak [al,t45] (fun t46 V=>
 Mod (j 10) O.drew V/\
 AQ 0 t46 fun c7=>
 AQ 1 t46 fun c8=>
 Am g.te g.zE (fun an X=>
 Mod (j 14) V X/\
 Ac g.E an c7 (fun av=>
 Mod (j 15) X av/\
 a8 [an,c8] av) X) V) O.drew)/\
 (Am g.te g.zE (fun B Y=>
 Mod (j 14) O.drew Y/\
 BM prog Dh ak [al,t45] (fun I Z=>
 Mod (j 10) Y Z/\
 AQ 0 I fun a1=>
 AQ 1 I fun a6=>
 Ac g.E B a1 (fun ax=>
 Mod (j 15) Z ax/\
 a8 [B,a6] ax) Z) Y) O.drew))))
 (J [] O)))) w4.drew)) w3) w2) w1)
 (K (nth vs 0) w1)) w
def QP(g:AvK)(v0 v1 v2 v3:Value)(K:Cont)(w:World):Prop:=
 AJ v0 fun t22=>
 AM 4 t22 fun a1=>
 AL a1 (fun a6 w1=>
 AB prog g.fsplit [v0,a6,v1] (fun S w2=>
 AQ 0 S fun o=>
 AQ 1 S fun a7=>
 BW .i64 v2 v1 fun a8=>
 AB prog g.fsplit [v0,a7,a8] (fun T w3=>
 AQ 0 T fun ak=>
 AQ 1 T fun B=>
 AB prog g.fdrop [v0,ak] (fun _t40 w4=>
 Ao (fun vs w5=>∀_:Env,
 runK prog (Builtin.append_ #[g.ts,g.ts] g.ts [(nth vs 1),v3].toArray) (fun U w6=>
 Ao (fun j w7=>∀_:Env,
 AB prog g.fmelded [v0,(nth j 1)] (fun t76 w8=>
 Ae t76 fun t77=>
 Aq [(nth vs 0),(.int .i64 0)] (fun i I w9=>∀_:Env,
 Bb .i64 (nth i 1) t77 fun al=>
 AD al
 (BQ g.E t76 (nth i 1) fun an=>
 Af g.E an (fun av ax=>
 Am g.te g.zE (fun V ay=>
 Ac g.E V av (fun O=>
 Ay [8,9] [[],[],[],[2],[2,3],[2,3,4],[],[6],[2,3,4,5,6,7],[0,1,2,3,4,5,6,7,8],[0,1,2,3,4,5,6,7,8,9]] O.drew (fun M St=>
 AJ v0 fun b0=>
 AM 3 b0 fun b3=>
 BF (St 5) b3 fun b4=>
 EM (St 6) g.E V fun b5=>
 Ah [(0,g.E),(g.E,1),(g.E+1,1),(g.E+2,1),(g.E+3,1),(g.E+4,1)] g.zN [(0,b5)] fun b6=>
 AB prog g.aTake [b4,b6] (fun b7 Q=>
 Mod (M 8) O.drew Q/\
 AB prog g.fjoin [v0,(nth i 0),b7,(.int .i64 (-1))] (fun b8 X=>
 Mod (M 9) Q X/\
 AX .i64 (nth i 1) (.int .i64 1) fun b9=>
 I [b8,b9] X) Q) O.drew)) ay) ax) w9)
 (AB prog g.fconcat [v0,(nth i 0),(nth j 0)] (fun ba bb=>
 AJ v0 fun bc=>
 AM 4 bc fun bd=>
 BC bd ba (fun bk=>
 K (.tuple #[]) bk) bb) w9)) w8) w7) (fun Y=>
 EB .i64 B (.int .i64 (-1)) fun bl=>
 AD bl
 (AB prog g.ffirst [v0,B] (fun Z bn=>
 AQ 0 Z fun bp=>
 AQ 1 Z fun t66=>
 AB prog g.fpick [v0,t66] (fun bs bx=>
 Bg g.te g.E 1 g.zE [(0,bs)] (fun c4 c6=>
 runK prog (Builtin.append_ #[g.ts,g.ts] g.ts [U,c4].toArray) (fun c7 c8=>
 Y [bp,c7] c8) c6) bx) bn) w6)
 (Y [B,U] w6))) w5) (fun J=>
 EB .i64 o (.int .i64 (-1)) fun c9=>
 AD c9
 (AB prog g.flast [v0,o] (fun t46 ca=>
 AQ 0 t46 fun cc=>
 AQ 1 t46 fun cd=>
 AB prog g.fpick [v0,cd] (fun t53 ch=>
 Bg g.te g.E 1 g.zE [(0,t53)] (fun cn cv=>
 runK prog (Builtin.append_ #[g.ts,g.ts] g.ts [(.slice none 0 0),cn].toArray) (fun t55 cx=>
 J [cc,t55] cx) cv) ch) ca) w4)
 (J [o,(.slice none 0 0)] w4))) w3) w2) w1) w
def VF(g:AvK)(v0 v1 v2 v3 v4:Value)(K:Cont)(w:World):Prop:=
 Ao (fun _vs w1=>∀_:Env,
 AB prog g.fat [v0,v1] (fun bs w2=>
 Am g.tn g.zN (fun j w3=>
 Ac (g.E+5) j bs (fun w4=>
 AM g.E j fun bx=>
 AL bx (fun c4 w5=>
 AB prog g.ftotals [v0,c4] (fun U w6=>
 AQ 0 U fun _t35=>
 AQ 1 U fun i=>
 AQ 2 U fun _t37=>
 Ay [7] [[],[0],[0,1],[0,1,2],[0,1,2,3],[],[5],[0,1,2,3,4,5,6],[0,1,2,3,4,5,6,7],[0,1,2,3,4,5,6,7,8],[0,1,2,3,4,5,6,7,8],[0,1,2,3,4,5,6,7,8,9],[0,1,2,3,4,5,6,7,8,9,10,11]] w6.drew (fun M St=>
 AJ v0 fun c6=>
 AM 0 c6 fun c7=>
 AM 0 c7 fun c8=>
 BF (St 4) c8 fun c9=>
 AM 0 j fun ca=>
 OA g (St 6) ca fun t45=>
 BM prog Dh c9 [t45] (fun t46 w7=>
 Mod (M 7) w6.drew w7/\
 AQ 0 t46 fun B=>
 AQ 1 t46 fun _t48=>
 Ao (fun _vs_1 w8=>∀_:Env,
 BW .i64 v2 i fun t66=>
 KM .i64 t66 (.int .i64 0) fun V=>
 BW .i64 v3 i fun t70=>
 K3 .i64 t70 B fun X=>
 Ao (fun _vs_2 w9=>∀_:Env,
 AX .i64 i B fun a1=>
 SQ .i64 v3 a1 fun a6=>
 AD a6
 (K (.bool true) w9)
 (AM (g.E+1) j fun a7=>
 AL a7 (fun a8 cc=>
 BW .i64 v2 i fun ak=>
 BW .i64 ak B fun al=>
 KM .i64 al (.int .i64 0) fun an=>
 BW .i64 v3 i fun av=>
 BW .i64 av B fun ax=>
 AB prog g.fover [v0,a8,an,ax,v4] (fun ay cd=>
 K ay cd) cc) w9)) (fun b0=>
 Bb .i64 V X fun ch=>
 AD ch
 (AM 0 j fun t76=>
 Af g.E t76 (fun t77 cn=>
 Am g.te g.zE (fun o cv=>
 Ac g.E o t77 (fun I=>
 Ao (fun _vs_3 O=>∀_:Env,
 Ao (fun _vs_4 cx=>∀_:Env,
 Af g.E o (fun b3 dk=>
 Ci prog Dh v4 [b3] (fun b4 b5=>
 CE b4 fun b6=>
 AD b6
 (K (.bool false) b5)
 (b0 [] b5)) dk) cx) (fun b7=>
 Eu .i64 V (.int .i64 0) fun dv=>
 AD dv
 (Ay [7,11] [[],[0],[0,1],[0,1,2],[0,1,2,3],[],[],[0,1,2,3,4,5,6],[0,1,2,3,4,5,6,7],[0,1,2,3,4,5,6,7,8],[0,1,2,3,4,5,6,7,8],[0,1,2,3,4,5,6,7,8,9,10]] O.drew (fun b8 Q=>
 AJ v0 fun dT=>
 AM 0 dT fun e1=>
 AM 1 e1 fun e2=>
 BF (Q 4) e2 fun e3=>
 EM (Q 5) g.E o fun b9=>
 BM prog Dh e3 [b9,V] (fun S Y=>
 Mod (b8 7) O.drew Y/\
 AQ 0 S fun _t103=>
 AQ 1 S fun ba=>
 Ac g.E o ba (fun bb=>
 Mod (b8 11) Y bb/\
 b7 [] bb) Y) O.drew))
 (b7 [] O))) (fun bc=>
 Bb .i64 X B fun e4=>
 AD e4
 (Ay [7,11] [[],[0],[0,1],[0,1,2],[0,1,2,3],[],[],[0,1,2,3,4,5,6],[0,1,2,3,4,5,6,7],[0,1,2,3,4,5,6,7,8],[0,1,2,3,4,5,6,7,8],[0,1,2,3,4,5,6,7,8,9]] I.drew (fun bd T=>
 AJ v0 fun e5=>
 AM 0 e5 fun e6=>
 AM 1 e6 fun e7=>
 BF (T 4) e7 fun e8=>
 EM (T 5) g.E o fun e9=>
 BM prog Dh e8 [e9,X] (fun bk Z=>
 Mod (bd 7) I.drew Z/\
 AQ 0 bk fun ea=>
 AQ 1 bk fun _t91=>
 Ac g.E o ea (fun bl=>
 Mod (bd 11) Z bl/\
 bc [] bl) Z) I.drew))
 (bc [] I))) cv) cn) w8)
 (b0 [] w8))) (fun bn=>
 Bb .i64 v2 i fun ec=>
 AD ec
 (AM g.E j fun ed=>
 AL ed (fun t55 ee=>
 K3 .i64 v3 i fun ef=>
 AB prog g.fover [v0,t55,v2,ef,v4] (fun eh bp=>
 CE eh fun ej=>
 AD ej
 (K (.bool false) bp)
 (bn [] bp)) ee) w7)
 (bn [] w7))) w6.drew)) w5) w4) w3) w2) w1) (fun J=>
 DJ .i64 v1 (.int .i64 (-1)) fun ek=>
 AD ek
 (K (.bool true) w)
 (Kk .i64 v2 v3 fun t25=>
 AD t25
 (K (.bool true) w)
 (J [] w)))
def Wc(g:AvK)(v0 v1 v2:Value)(K:Cont)(w:World):Prop:=
 GM g.tt v0 (fun t3 i=>
 GM 3 v1 (fun t4 w2=>
 GM 3 v2 (fun t5 j=>
 K (.func (.func g.fOverf) #[] #[t3,t4,t5]) j) w2) i) w
def VJ(g:AvK)(v0 v1 v2 v3:Value)(K:Cont)(w:World):Prop:=
 Ay [8] [[],[],[1],[1,2],[1,2,3],[],[],[],[0,1,2,3,4,5,6,7]] w.drew (fun M i=>
 BF (i 0) v1 fun t5=>
 BF (i 1) v1 fun E=>
 AJ E fun I=>
 AM 4 I fun J=>
 BF (i 4) J fun t9=>
 BF (i 5) v2 fun j=>
 BF (i 6) v3 fun o=>
 AB prog g.fover [t5,t9,j,o,v0] (fun _t13 B=>
 Mod (M 8) w.drew B/\
 K (.tuple #[]) B) w.drew)
def bA(g:AvK)(v0:Value)(K:Cont)(w:World):Prop:=
 AJ v0 fun t9=>
 AM 4 t9 fun j=>
 AL j (fun o E=>
 AB prog g.ftotals [v0,o] (fun i w2=>
 AQ 0 i fun _t13=>
 AQ 1 i fun B=>
 AQ 2 i fun _t15=>
 K B w2) E) w
def VI(g:AvK)(v0 v1:Value)(K:Cont)(w:World):Prop:=
 Bh g.tn v1 (fun t3 w1=>
 CY v0 fun b8=>
 AD (.bool b8)
 (K (.int .i64 (-1)) w1)
 (AJ v0 fun O=>
 AM 1 O fun Q=>
 AL Q (fun S w2=>
 Ae S fun T=>
 BW .i64 T (.int .i64 1) fun j=>
 Kk .i64 j (.int .i64 0) fun U=>
 AD U
 (AJ v0 fun V=>
 AM 1 V fun X=>
 AL X (fun Y w3=>
 BQ 1 Y j fun t22=>
 AL t22 (fun I w4=>
 AJ v0 fun Z=>
 AM 1 Z fun a1=>
 AL a1 (fun a6 w5=>
 runK prog (Instr.sliceAt 145 a6 none (some j) none) (fun a7 w6=>
 AJ v0 fun a8=>
 AM 1 a8 fun ak=>
 BC ak a7 (fun w7=>
 Ay [8] [[],[0],[0,1],[0,1,2],[],[],[5],[0,1,2,3,4,5,6],[0,1,2,3,4,5,6,7]] w7.drew (fun M St=>
 AJ v0 fun al=>
 AM 0 al fun an=>
 BF (St 3) an fun av=>
 EM (St 5) (g.E+5) t3 fun ax=>
 Ah [(0,g.E+5),(g.E+5,1)] g.zP [(0,ax),(1,(.bool true))] fun t39=>
 BQ (g.E+6) av I fun ay=>
 Ac (g.E+6) ay t39 (fun w8=>
 Mod (M 8) w7.drew w8/\
 K I w8) w7.drew)) w6) w5) w4) w3) w2)
 (Ay [7,8,11] [[],[],[1],[1,2],[1,2,3],[],[5],[5,6],[1,2,3,4,5,6,7],[0,1,2,3,4,5,6,7,8],[0,1,2,3,4,5,6,7,8,9],[0,1,2,3,4,5,6,7,8,9,10]] w2.drew (fun o i=>
 AJ v0 fun b0=>
 AM 0 b0 fun t45=>
 BF (i 4) t45 fun t46=>
 EM (i 5) (g.E+5) t3 fun b3=>
 Ah [(0,g.E+5),(g.E+5,1)] g.zP [(0,b3),(1,(.bool true))] fun b4=>
 Bg g.tp (g.E+6) 1 g.zP [(0,b4)] (fun b5 w9=>
 Mod (o 7) w2.drew w9/\
 runK prog (Builtin.append_ #[g.tps,g.tps] g.tps [t46,b5].toArray) (fun t50 B=>
 Mod (o 8) w9 B/\
 AJ v0 fun b6=>
 AM 0 b6 fun b7=>
 BC b7 t50 (fun J=>
 Mod (o 11) B J/\
 AJ v0 fun b9=>
 AM 0 b9 fun t55=>
 AL t55 (fun ba bb=>
 Ae ba fun bc=>
 BW .i64 bc (.int .i64 1) fun bd=>
 K bd bb) J) B) w9) w2.drew))) w1)) w
def Sj(g:AvK)(v0 v1:Value)(K:Cont)(w:World):Prop:=
 CY v0 fun Z=>
 AD (.bool Z)
 (K (.int .i64 1) w)
 (Bb .i64 v1 (.int .i64 0) fun i=>
 AD i
 (K (.int .i64 5) w)
 (AJ v0 fun j=>
 AM 0 j fun o=>
 AL o (fun B X=>
 Ae B fun I=>
 Kk .i64 v1 I fun J=>
 AD J
 (K (.int .i64 5) X)
 (AJ v0 fun t22=>
 AM 0 t22 fun O=>
 AL O (fun Q w2=>
 BQ (g.E+6) Q v1 fun S=>
 AM (g.E+5) S fun T=>
 AL T (fun U Y=>
 CE U fun V=>
 AD V
 (K (.int .i64 5) Y)
 (K (.int .i64 0) Y)) w2) X)) w))
def Vd(g:AvK)(v0 v1:Value)(K:Cont)(w:World):Prop:=
 AB prog g.aasked [v0,v1] (fun V X=>
 EB .i64 V (.int .i64 0) fun i=>
 AD i
 (K V X)
 (AJ v0 fun j=>
 AM 0 j fun o=>
 AL o (fun B w2=>
 Ah [(0,g.E+5),(g.E+5,1)] g.zP [] fun I=>
 BQ (g.E+6) B v1 fun J=>
 Ac (g.E+6) J I (fun Y=>
 AJ v0 fun O=>
 AM 1 O fun t22=>
 AL t22 (fun Q w4=>
 Bg 3 1 1 [(.int .i64 0)] [(0,v1)] (fun t25 Z=>
 runK prog (Builtin.append_ #[145,145] 145 [Q,t25].toArray) (fun S w6=>
 AJ v0 fun T=>
 AM 1 T fun U=>
 BC U S (fun w7=>
 K (.int .i64 0) w7) w6) Z) w4) Y) w2) X)) w
def iP(g:AvK)(v0 v1:Value)(K:Cont)(w:World):Prop:=
 Am g.tn g.zN (fun t4 U=>
 AB prog g.aasked [v0,v1] (fun i w2=>
 EB .i64 i (.int .i64 0) fun o=>
 AD o
 (Am g.tn g.zN (fun V X=>
 Af (g.E+5) V (fun B w4=>
 Ac (g.E+5) t4 B (fun Y=>
 Af (g.E+5) t4 (fun Z w6=>
 K (.tuple #[Z,i]) w6) Y) w4) X) w2)
 (AJ v0 fun I=>
 AM 0 I fun J=>
 AL J (fun O w7=>
 BQ (g.E+6) O v1 fun Q=>
 AM 0 Q fun S=>
 Af (g.E+5) S (fun t22 w8=>
 Ac (g.E+5) t4 t22 (fun w9=>
 Af (g.E+5) t4 (fun j T=>
 K (.tuple #[j,(.int .i64 0)]) T) w9) w8) w7) w2)) U) w
def bR(g:AvK)(v0 v1 v2:Value)(K:Cont)(w:World):Prop:=
 Bh g.tn v2 (fun t5 U=>
 AB prog g.aasked [v0,v1] (fun i w2=>
 EB .i64 i (.int .i64 0) fun j=>
 AD j
 (K i w2)
 (Ay [8] [[],[0],[0,1],[0,1,2],[],[],[0,1,2,3,4,5],[0,1,2,3,4,5,6],[0,1,2,3,4,5,6,7]] w2.drew (fun M S=>
 AJ v0 fun o=>
 AM 0 o fun B=>
 BF (S 3) B fun I=>
 EM (S 5) (g.E+5) t5 fun J=>
 BQ (g.E+6) I v1 fun O=>
 AM 0 O fun Q=>
 Ac (g.E+5) Q J (fun T=>
 Mod (M 8) w2.drew T/\
 K (.int .i64 0) T) w2.drew))) U) w
def bB(g:AvK)(v0:Value)(K:Cont)(w:World):Prop:=
 Bh g.tk v0 (fun o i=>
 Ay [1,3] [[],[],[0,1],[0,1,2],[0,1,2,3]] i.drew (fun M B=>
 EM (B 0) 3 o fun t3=>
 AB prog g.aNew [] (fun t4 w2=>
 Mod (M 1) i.drew w2/\
 Ah [(0,3),(3,1),(4,1)] [.nilFunc,.nilFunc,.nilFunc,(.pointer none),(.int .i64 0)] [(0,t3),(1,t4),(2,(.int .i64 (-1)))] fun t5=>
 Bh g.tT t5 (fun E j=>
 Mod (M 3) w2 j/\
 K E j) w2) i.drew)) w
def bj(g:AvK)(K:Cont)(w:World):Prop:=
 Ah [(0,1),(1,1)] [(.slice none 0 0),(.slice none 0 0)] [] fun i=>
 Bh g.tA i (fun j o=>
 K j o) w
def VP(g:AvK)(v0:Value)(K:Cont)(w:World):Prop:=
 AJ v0 fun t9=>
 AM 4 t9 fun j=>
 AL j (fun o E=>
 AB prog g.ftotals [v0,o] (fun i w2=>
 AQ 0 i fun _t13=>
 AQ 1 i fun _t14=>
 AQ 2 i fun B=>
 K B w2) E) w
def Uw(g:AvK)(v0 v1 v2:Value)(K:Cont)(w:World):Prop:=
 AJ v0 fun Q=>
 AM 4 Q fun S=>
 AL S (fun T w1=>
 Aq [v1,(.int .i64 0),T] (fun vs i w2=>∀_:Env,
 EB .i64 (nth vs 2) (.int .i64 (-1)) fun U=>
 AD U
 (AB prog g.fat [v0,(nth vs 2)] (fun t22 w3=>
 Am g.tn g.zN (fun B w4=>
 Ac (g.E+5) B t22 (fun w5=>
 AM g.E B fun t25=>
 AL t25 (fun V w6=>
 AB prog g.ftotals [v0,V] (fun o X=>
 AQ 0 o fun _t28=>
 AQ 1 o fun j=>
 AQ 2 o fun I=>
 Ay [7] [[],[0],[0,1],[0,1,2],[0,1,2,3],[],[5],[0,1,2,3,4,5,6],[0,1,2,3,4,5,6,7],[0,1,2,3,4,5,6,7,8],[0,1,2,3,4,5,6,7,8],[0,1,2,3,4,5,6,7,8,9],[0,1,2,3,4,5,6,7,8,9,10,11]] X.drew (fun M St=>
 AJ v0 fun Y=>
 AM 0 Y fun Z=>
 AM 0 Z fun a1=>
 BF (St 4) a1 fun a6=>
 AM 0 B fun a7=>
 OA g (St 6) a7 fun a8=>
 BM prog Dh a6 [a8] (fun t39 O=>
 Mod (M 7) X.drew O/\
 AQ 0 t39 fun J=>
 AQ 1 t39 fun ak=>
 SQ .i64 (nth vs 0) j fun al=>
 AD al
 (AM g.E B fun an=>
 AL an (fun av w9=>
 i [(nth vs 0),(nth vs 1),av] w9) O)
 (AX .i64 j J fun ax=>
 Bb .i64 (nth vs 0) ax fun ay=>
 AD ay
 (AX .i64 (nth vs 1) I fun b0=>
 AM 0 B fun t70=>
 Af g.E t70 (fun b3 b4=>
 BW .i64 (nth vs 0) j fun b5=>
 Ci prog Dh v2 [b3,b5] (fun b6 b7=>
 AX .i64 b0 b6 fun t76=>
 K t76 b7) b4) O)
 (AX .i64 I ak fun t45=>
 AX .i64 (nth vs 1) t45 fun t46=>
 AX .i64 j J fun t50=>
 BW .i64 (nth vs 0) t50 fun b8=>
 AM (g.E+1) B fun b9=>
 AL b9 (fun t53 ba=>
 i [b8,t46,t53] ba) O))) X.drew)) w6) w5) w4) w3) w2)
 (K (nth vs 1) w2)) w1) w
def bT(g:AvK)(v0 v1 v2:Value)(K:Cont)(w:World):Prop:=
 AJ v0 fun Q=>
 AM 4 Q fun S=>
 AL S (fun T w1=>
 Aq [v1,(.int .i64 0),T] (fun vs i w2=>∀_:Env,
 Ao (fun _vs_1 w3=>∀_:Env,
 AB prog g.fat [v0,(nth vs 2)] (fun U w4=>
 Am g.tn g.zN (fun t9 w5=>
 Ac (g.E+5) t9 U (fun w6=>
 AM g.E t9 fun V=>
 AL V (fun X w7=>
 AB prog g.ftotals [v0,X] (fun o Y=>
 AQ 0 o fun _t33=>
 AQ 1 o fun B=>
 AQ 2 o fun j=>
 Ay [7] [[],[0],[0,1],[0,1,2],[0,1,2,3],[],[5],[0,1,2,3,4,5,6],[0,1,2,3,4,5,6,7],[0,1,2,3,4,5,6,7,8],[0,1,2,3,4,5,6,7,8],[0,1,2,3,4,5,6,7,8,9],[0,1,2,3,4,5,6,7,8,9,10,11]] Y.drew (fun M St=>
 AJ v0 fun Z=>
 AM 0 Z fun t39=>
 AM 0 t39 fun a1=>
 BF (St 4) a1 fun a6=>
 AM 0 t9 fun a7=>
 OA g (St 6) a7 fun a8=>
 BM prog Dh a6 [a8] (fun I O=>
 Mod (M 7) Y.drew O/\
 AQ 0 I fun t45=>
 AQ 1 I fun t46=>
 Bb .i64 (nth vs 0) j fun ak=>
 AD ak
 (AM g.E t9 fun al=>
 AL al (fun an av=>
 i [(nth vs 0),(nth vs 1),an] av) O)
 (AX .i64 j t46 fun ax=>
 Bb .i64 (nth vs 0) ax fun t70=>
 AD t70
 (AX .i64 (nth vs 1) B fun ay=>
 AM 0 t9 fun b0=>
 Af g.E b0 (fun t76 b3=>
 BW .i64 (nth vs 0) j fun b4=>
 Ci prog Dh v2 [t76,b4] (fun b5 b6=>
 AX .i64 ay b5 fun b7=>
 K (.tuple #[b7,(.bool true)]) b6) b3) O)
 (AX .i64 B t45 fun t50=>
 AX .i64 (nth vs 1) t50 fun b8=>
 AX .i64 j t46 fun t55=>
 BW .i64 (nth vs 0) t55 fun b9=>
 AM (g.E+1) t9 fun ba=>
 AL ba (fun bb bc=>
 i [b9,b8,bb] bc) O))) Y.drew)) w7) w6) w5) w4) w3) (fun J=>
 Kk .i64 (nth vs 0) (.int .i64 0) fun bd=>
 AD bd
 (EB .i64 (nth vs 2) (.int .i64 (-1)) fun bk=>
 AD bk
 (J [] w2)
 (K (.tuple #[(.int .i64 0),(.bool false)]) w2))
 (K (.tuple #[(.int .i64 0),(.bool false)]) w2))) w1) w
def O2(g:AvK)(v0 v1 v2:Value)(K:Cont)(w:World):Prop:=
 DJ .i64 v1 (.int .i64 (-1)) fun bb=>
 AD bb
 (K (.tuple #[(.int .i64 (-1)),(.int .i64 (-1))]) w)
 (AB prog g.fat [v0,v1] (fun t22 w1=>
 Am g.tn g.zN (fun i w2=>
 Ac (g.E+5) i t22 (fun w3=>
 AM g.E i fun t25=>
 AL t25 (fun bc w4=>
 AB prog g.ftotals [v0,bc] (fun J w5=>
 AQ 0 J fun _t28=>
 AQ 1 J fun j=>
 AQ 2 J fun _t30=>
 Ay [7] [[],[0],[0,1],[0,1,2],[0,1,2,3],[],[5],[0,1,2,3,4,5,6],[0,1,2,3,4,5,6,7],[0,1,2,3,4,5,6,7,8],[0,1,2,3,4,5,6,7,8],[0,1,2,3,4,5,6,7,8,9],[0,1,2,3,4,5,6,7,8,9,10,11]] w5.drew (fun M St=>
 AJ v0 fun bd=>
 AM 0 bd fun bk=>
 AM 0 bk fun bl=>
 BF (St 4) bl fun bn=>
 AM 0 i fun bp=>
 OA g (St 6) bp fun bs=>
 BM prog Dh bn [bs] (fun t39 U=>
 Mod (M 7) w5.drew U/\
 AQ 0 t39 fun V=>
 AQ 1 t39 fun _t41=>
 SQ .i64 v2 j fun t45=>
 AD t45
 (AM g.E i fun bx=>
 AL bx (fun c4 w7=>
 AB prog g.fsplit [v0,c4,v2] (fun X w8=>
 AQ 0 X fun c6=>
 AQ 1 X fun t53=>
 AM (g.E+1) i fun c7=>
 AL c7 (fun c8 w9=>
 AB prog g.fjoin [v0,t53,v1,c8] (fun c9 ca=>
 K (.tuple #[c6,c9]) ca) w9) w8) w7) U)
 (AX .i64 j V fun cc=>
 Kk .i64 v2 cc fun t66=>
 AD t66
 (AM (g.E+1) i fun cd=>
 AL cd (fun t70 ch=>
 BW .i64 v2 j fun cn=>
 BW .i64 cn V fun cv=>
 AB prog g.fsplit [v0,t70,cv] (fun t76 cx=>
 AQ 0 t76 fun t77=>
 AQ 1 t76 fun dk=>
 AM g.E i fun dv=>
 AL dv (fun dT e1=>
 AB prog g.fjoin [v0,dT,v1,t77] (fun e2 e3=>
 K (.tuple #[e2,dk]) e3) e1) cx) ch) U)
 (Ay [10] [[],[0],[0,1],[0,1,2],[0,1,2,3],[],[5],[],[],[7,8],[0,1,2,3,4,5,6,7,8,9],[0,1,2,3,4,5,6,7,8,9,10],[0,1,2,3,4,5,6,7,8,9,10,11],[0,1,2,3,4,5,6,7,8,9,10,11],[0,1,2,3,4,5,6,7,8,9,10,11,12],[0,1,2,3,4,5,6,7,8,9,10,11,12,13,14]] U.drew (fun e4 B=>
 AJ v0 fun e5=>
 AM 0 e5 fun e6=>
 AM 1 e6 fun e7=>
 BF (B 4) e7 fun e8=>
 AM 0 i fun e9=>
 BF (B 6) e9 fun ea=>
 BW .i64 v2 j fun ec=>
 BM prog Dh e8 [ea,ec] (fun Y Z=>
 Mod (e4 10) U.drew Z/\
 AQ 0 Y fun ed=>
 AQ 1 Y fun ee=>
 Cg Z (fun C=>
 AM g.E i fun a1=>
 BJ C a1 fun a6=>
 AM (g.E+1) i fun a7=>
 BJ C a7 fun a8=>
 ∀ak:World,C ak->
 AM 0 i fun al=>
 BC al ed (fun O=>
 Ay [6] [[],[0],[0,1],[0,1,2],[],[],[0,1,2,3,4,5]] O.drew (fun ef I=>
 AJ v0 fun an=>
 AM 3 an fun av=>
 BF (I 3) av fun ax=>
 EM (I 5) (g.E+5) i fun ay=>
 AB prog g.aPut [ax,v1,ay] (fun _t112 o=>
 Mod (ef 6) O.drew o/\
 Ay [3,11,13] [[],[],[],[0,1,2],[],[],[5],[5,6],[5,6,7],[],[9],[0,1,2,3,5,6,7,8,9,10],[],[0,1,2,3,4,5,6,7,8,9,10,11,12],[0,1,2,3,4,5,6,7,8,9,10,11,12,13],[0,1,2,3,4,5,6,7,8,9,10,11,12,13,14]] o.drew (fun Q b0=>
 AB prog g.fjoin [v0,a6,v1,(.int .i64 (-1))] (fun b3 S=>
 Mod (Q 3) o.drew S/\
 AJ v0 fun b4=>
 AM 3 b4 fun b5=>
 BF (b0 8) b5 fun b6=>
 Ah [(0,g.E),(g.E,1),(g.E+1,1),(g.E+2,1),(g.E+3,1),(g.E+4,1)] g.zN [(0,ee)] fun b7=>
 AB prog g.aTake [b6,b7] (fun b8 T=>
 Mod (Q 11) S T/\
 AB prog g.fjoin [v0,(.int .i64 (-1)),b8,a8] (fun b9 ba=>
 Mod (Q 13) T ba/\
 K (.tuple #[b3,b9]) ba) T) S) o.drew)) O.drew)) ak)) U.drew)))) w5.drew)) w4) w3) w2) w1) w)
def XT(g:AvK)(v0 v1:Value)(K:Cont)(w:World):Prop:=
 AB prog g.fat [v0,v1] (fun B E=>
 runK prog (Instr.field g.tn B 0) (fun t9 w2=>
 AJ v0 fun i=>
 AM 3 i fun j=>
 AL j (fun o I=>
 AB prog g.aFree [o,v1] (fun _t15 w4=>
 K t9 w4) I) w2) E) w
def Pz(g:AvK)(v0 v1:Value)(K:Cont)(w:World):Prop:=
 Ae v1 fun O=>
 Aq [(.slice none 0 0),(.int .i64 0)] (fun vs i w1=>∀_:Env,
 Bb .i64 (nth vs 1) O fun Q=>
 AD Q
 (BQ g.E v1 (nth vs 1) fun S=>
 AL S (fun j w2=>
 AJ v0 fun T=>
 AM 0 T fun U=>
 AM 0 U fun t22=>
 AL t22 (fun V w3=>
 Ci prog Dh V [j] (fun t25 w4=>
 AQ 0 t25 fun X=>
 AQ 1 t25 fun _t27=>
 DJ .i64 X (.int .i64 0) fun Y=>
 AD Y
 (AX .i64 (nth vs 1) (.int .i64 1) fun Z=>
 i [(nth vs 0),Z] w4)
 (Ao (fun _vs_1 w5=>∀_:Env,
 Bg g.te g.E 1 g.zE [(0,j)] (fun a1 w6=>
 runK prog (Builtin.append_ #[g.ts,g.ts] g.ts [(nth vs 0),a1].toArray) (fun a6 w7=>
 AX .i64 (nth vs 1) (.int .i64 1) fun o=>
 i [a6,o] w7) w6) w5) (fun J=>
 Ae (nth vs 0) fun a7=>
 BW .i64 a7 (.int .i64 1) fun B=>
 Kk .i64 B (.int .i64 0) fun a8=>
 AD a8
 (Ay [10] [[],[0],[0,1],[0,1,2],[0,1,2,3],[],[],[5,6],[5,6,7],[],[0,1,2,3,4,5,6,7,8,9],[0,1,2,3,4,5,6,7,8,9,10],[0,1,2,3,4,5,6,7,8,9,10,11],[0,1,2,3,4,5,6,7,8,9,10,11],[0,1,2,3,4,5,6,7,8,9,10,11,12],[0,1,2,3,4,5,6,7,8,9,10,11,12,13,14]] w4.drew (fun M St=>
 AJ v0 fun ak=>
 AM 0 ak fun al=>
 AM 2 al fun t39=>
 BF (St 4) t39 fun an=>
 BQ g.E (nth vs 0) B fun av=>
 BF (St 8) av fun ax=>
 BM prog Dh an [ax,j] (fun t46 w8=>
 Mod (M 10) w4.drew w8/\
 AQ 0 t46 fun ay=>
 AQ 1 t46 fun b0=>
 AD b0
 (BQ g.E (nth vs 0) B fun t53=>
 BC t53 ay (fun w9=>
 AX .i64 (nth vs 1) (.int .i64 1) fun I=>
 i [(nth vs 0),I] w9) w8)
 (J [] w8)) w4.drew))
 (J [] w4)))) w3) w2) w1)
 (K (nth vs 0) w1)) w
def N5(g:AvK)(v0 v1 v2 v3:Value)(K:Cont)(w:World):Prop:=
 AJ v0 fun t22=>
 AM 4 t22 fun V=>
 AL V (fun X w1=>
 AB prog g.fsplit [v0,X,v1] (fun O w2=>
 AQ 0 O fun o=>
 AQ 1 O fun Y=>
 BW .i64 v2 v1 fun Z=>
 AB prog g.fsplit [v0,Y,Z] (fun Q w3=>
 AQ 0 Q fun a1=>
 AQ 1 Q fun B=>
 AB prog g.fdrop [v0,a1] (fun _t40 w4=>
 Ao (fun vs w5=>∀_:Env,
 runK prog (Builtin.append_ #[g.ts,g.ts] g.ts [(nth vs 1),v3].toArray) (fun S w6=>
 Ao (fun j w7=>∀_:Env,
 AB prog g.fmelded [v0,(nth j 1)] (fun t76 w8=>
 Ae t76 fun t77=>
 Aq [(nth vs 0),(.int .i64 0)] (fun i I w9=>∀_:Env,
 Bb .i64 (nth i 1) t77 fun a6=>
 AD a6
 (BQ g.E t76 (nth i 1) fun a7=>
 AL a7 (fun a8 ak=>
 AJ v0 fun al=>
 AM 3 al fun an=>
 AL an (fun av ax=>
 Ah [(0,g.E),(g.E,1),(g.E+1,1),(g.E+2,1),(g.E+3,1),(g.E+4,1)] g.zN [(0,a8)] fun ay=>
 AB prog g.aTake [av,ay] (fun b0 b3=>
 AB prog g.fjoin [v0,(nth i 0),b0,(.int .i64 (-1))] (fun b4 b5=>
 AX .i64 (nth i 1) (.int .i64 1) fun b6=>
 I [b4,b6] b5) b3) ax) ak) w9)
 (AB prog g.fconcat [v0,(nth i 0),(nth j 0)] (fun b7 b8=>
 AJ v0 fun b9=>
 AM 4 b9 fun ba=>
 BC ba b7 (fun bb=>
 K (.tuple #[]) bb) b8) w9)) w8) w7) (fun T=>
 EB .i64 B (.int .i64 (-1)) fun bc=>
 AD bc
 (AB prog g.ffirst [v0,B] (fun U bd=>
 AQ 0 U fun bk=>
 AQ 1 U fun t66=>
 AB prog g.fpick [v0,t66] (fun bl bn=>
 Bg g.te g.E 1 g.zE [(0,bl)] (fun bp bs=>
 runK prog (Builtin.append_ #[g.ts,g.ts] g.ts [S,bp].toArray) (fun bx c4=>
 T [bk,bx] c4) bs) bn) bd) w6)
 (T [B,S] w6))) w5) (fun J=>
 EB .i64 o (.int .i64 (-1)) fun c6=>
 AD c6
 (AB prog g.flast [v0,o] (fun t46 c7=>
 AQ 0 t46 fun c8=>
 AQ 1 t46 fun c9=>
 AB prog g.fpick [v0,c9] (fun t53 ca=>
 Bg g.te g.E 1 g.zE [(0,t53)] (fun cc cd=>
 runK prog (Builtin.append_ #[g.ts,g.ts] g.ts [(.slice none 0 0),cc].toArray) (fun t55 ch=>
 J [c8,t55] ch) cd) ca) c7) w4)
 (J [o,(.slice none 0 0)] w4))) w3) w2) w1) w
def Rp(g:AvK)(v0 v1 v2 v3 v4:Value)(K:Cont)(w:World):Prop:=
 Ao (fun _vs w1=>∀_:Env,
 AB prog g.fat [v0,v1] (fun b9 w2=>
 Am g.tn g.zN (fun j w3=>
 Ac (g.E+5) j b9 (fun w4=>
 AM g.E j fun ba=>
 AL ba (fun bb w5=>
 AB prog g.ftotals [v0,bb] (fun O w6=>
 AQ 0 O fun _t35=>
 AQ 1 O fun i=>
 AQ 2 O fun _t37=>
 Ay [7] [[],[0],[0,1],[0,1,2],[0,1,2,3],[],[5],[0,1,2,3,4,5,6],[0,1,2,3,4,5,6,7],[0,1,2,3,4,5,6,7,8],[0,1,2,3,4,5,6,7,8],[0,1,2,3,4,5,6,7,8,9],[0,1,2,3,4,5,6,7,8,9,10,11]] w6.drew (fun M St=>
 AJ v0 fun bc=>
 AM 0 bc fun bd=>
 AM 0 bd fun bk=>
 BF (St 4) bk fun bl=>
 AM 0 j fun bn=>
 OA g (St 6) bn fun t45=>
 BM prog Dh bl [t45] (fun t46 w7=>
 Mod (M 7) w6.drew w7/\
 AQ 0 t46 fun o=>
 AQ 1 t46 fun _t48=>
 Ao (fun _vs_1 w8=>∀_:Env,
 BW .i64 v2 i fun t66=>
 KM .i64 t66 (.int .i64 0) fun Q=>
 BW .i64 v3 i fun t70=>
 K3 .i64 t70 o fun S=>
 Ao (fun _vs_2 w9=>∀_:Env,
 AX .i64 i o fun T=>
 SQ .i64 v3 T fun U=>
 AD U
 (K (.bool true) w9)
 (AM (g.E+1) j fun V=>
 AL V (fun X bp=>
 BW .i64 v2 i fun Y=>
 BW .i64 Y o fun Z=>
 KM .i64 Z (.int .i64 0) fun a1=>
 BW .i64 v3 i fun a6=>
 BW .i64 a6 o fun a7=>
 AB prog g.fover [v0,X,a1,a7,v4] (fun a8 bs=>
 K a8 bs) bp) w9)) (fun ak=>
 Bb .i64 Q S fun bx=>
 AD bx
 (AM 0 j fun t76=>
 AL t76 (fun t77 al=>
 Ao (fun B an=>∀_:Env,
 Ao (fun av c4=>∀_:Env,
 Ci prog Dh v4 [(nth av 0)] (fun ax ay=>
 CE ax fun b0=>
 AD b0
 (K (.bool false) ay)
 (ak [] ay)) c4) (fun b3=>
 Eu .i64 Q (.int .i64 0) fun c6=>
 AD c6
 (AJ v0 fun c7=>
 AM 0 c7 fun c8=>
 AM 1 c8 fun c9=>
 AL c9 (fun ca cc=>
 Ci prog Dh ca [(nth B 0),Q] (fun I cd=>
 AQ 0 I fun _t103=>
 AQ 1 I fun b4=>
 b3 [b4] cd) cc) an)
 (b3 [(nth B 0)] an))) (fun b5=>
 Bb .i64 S o fun ch=>
 AD ch
 (AJ v0 fun cn=>
 AM 0 cn fun cv=>
 AM 1 cv fun cx=>
 AL cx (fun dk dv=>
 Ci prog Dh dk [t77,S] (fun b6 dT=>
 AQ 0 b6 fun e1=>
 AQ 1 b6 fun _t91=>
 b5 [e1] dT) dv) al)
 (b5 [t77] al))) w8)
 (ak [] w8))) (fun b7=>
 Bb .i64 v2 i fun e2=>
 AD e2
 (AM g.E j fun e3=>
 AL e3 (fun t55 e4=>
 K3 .i64 v3 i fun e5=>
 AB prog g.fover [v0,t55,v2,e5,v4] (fun e6 b8=>
 CE e6 fun e7=>
 AD e7
 (K (.bool false) b8)
 (b7 [] b8)) e4) w7)
 (b7 [] w7))) w6.drew)) w5) w4) w3) w2) w1) (fun J=>
 DJ .i64 v1 (.int .i64 (-1)) fun e8=>
 AD e8
 (K (.bool true) w)
 (Kk .i64 v2 v3 fun t25=>
 AD t25
 (K (.bool true) w)
 (J [] w)))
structure BK where
 kind:Int
 n:Int
 f:Int
 s:ByteArray
 deriving DecidableEq
structure Attr where
 key:Int
 val:BK
 deriving DecidableEq
def BK.cells(v:BK):List Value:=[.int .u8 v.kind,.int .i64 v.n,.int .u64 v.f,.string v.s]
def Attr.cells(a:Attr):List Value:=.int .i64 a.key::a.val.cells
abbrev DD:World->List Value->Attr->Prop:=fun _ r x=>r=x.cells
abbrev Cf(S:Nat->Prop)(w:World)(v:Value)(l:List Attr):Prop:=BB S 5 DD w v l
theorem Tp(a b:Attr)(w:World) :
  (Op.equalIn 10000 79 (.agg a.cells.toArray) (.agg b.cells.toArray)).run prog w=.ok (decide (a=b)) w:=by
 have E:prog.underlying 79=some (.struct (prog.fieldsOf 79)):=by kernel_rfl
 have I:prog.underlying 77=some (.struct (prog.fieldsOf 77)):=by kernel_rfl
 have J:=underlying3;have O:=underlying5;have Q:=underlying2;have S:=underlying75;have T:=underlying9;rw[show(10000:Nat)=9999+1 from rfl,pE w 9999 _ _ _ E Tryz.stoodInHeld79];simp only[Program.fieldsOf,underlying79,Attr.cells,BK.cells];have U:=Tryz.isAgg3;have V:=Tryz.isAgg77;have X:∀w,(sizeOf 77).run prog w=.ok 4 w:=fun w=>by simp only[sizeOf,kD,Tryz.typeInfo77,S3,k7];rfl
 have a3:=Tryz.isAgg5;have a4:=Tryz.isAgg2;have a5:=Tryz.isAgg75;have Y:=Tryz.isAgg9;have Z:∀(x y:BK) (w:World),(Op.equalIn 9999 77 (.agg #[.int .u8 x.kind,.int .i64 x.n,.int .u64 x.f,.string x.s]) (.agg #[.int .u8 y.kind,.int .i64 y.n,.int .u64 y.f,.string y.s])).run prog w=.ok (decide (x=y)) w:=by
  intro x y w;rw[show(9999:Nat)=9998+1 from rfl,pE w 9998 _ _ _ I Tryz.stoodInHeld77];simp only[Program.fieldsOf,underlying77];have i:∀a b:Int,(Op.equalIn 9998 5 (.int .u8 a) (.int .u8 b)).run prog w=.ok (a==b) w:=fun a b=>mR w 9997 _ _ _ a b O;have j:∀a b:Int,(Op.equalIn 9998 2 (.int .i64 a) (.int .i64 b)).run prog w=.ok (a==b) w:=fun a b=>mR w 9997 _ _ _ a b Q;have o:∀a b:Int,(Op.equalIn 9998 75 (.int .u64 a) (.int .u64 b)).run prog w=.ok (a==b) w:=fun a b=>mR w 9997 _ _ _ a b S;have e4:∀a b:ByteArray,(Op.equalIn 9998 9 (.string a) (.string b)).run prog w=.ok (a.toList==b.toList) w:=fun a b=>run_equalIn_string w 9997 _ a b T;have q:decide (x=y)=(x.kind==y.kind&&(x.n==y.n&&(x.f==y.f&&decide (x.s=y.s)))):=by
   cases x;cases y;rw[mi];simp[BK.mk.injEq]
  rw[q];simp[Op.eqFields,part,a3,a4,a5,Y,i,j,o,e4,toList_beq];by_cases h1:x.kind=y.kind<;>by_cases B:x.n=y.n<;>by_cases h3:x.f=y.f<;>by_cases h4:x.s=y.s<;>simp[h1,B,h3,h4]
 have i:∀a b:Int,(Op.equalIn 9999 3 (.int .i64 a) (.int .i64 b)).run prog w=.ok (a==b) w:=fun a b=>mR w 9998 _ _ _ a b J;have j:∀(x y:BK) (w:World),(Op.equalIn 9999 77 (.agg #[.int .u8 x.kind,.int .i64 x.n,.int .u64 x.f,.string x.s]) (.agg #[.int .u8 y.kind,.int .i64 y.n,.int .u64 y.f,.string y.s])).run prog w=.ok (decide (x=y)) w:=Z;have o:=j a.val b.val w;have x1:∀k q r s t:Value,(#[k,q,r,s,t]:Array Value).extract 1 5=#[q,r,s,t]:=fun _ _ _ _ _=>rfl;have q:decide (a=b)=(a.key==b.key&&decide (a.val=b.val)):=by
  cases a;cases b;rw[mi];simp[Attr.mk.injEq]
 rw[q];simp[Op.eqFields,part,U,V,X,i,x1,o];by_cases h1:a.key=b.key<;>by_cases B:a.val=b.val<;>simp[h1,B]
theorem Kw(xo yo:Operand)(a b:Attr)(w:World) :
  (BX .neq 79 xo yo (.agg a.cells.toArray) (.agg b.cells.toArray)).run prog w=.ok (.bool (!decide (a=b))) w:=by
 simp only[BX,kD,pG w .neq _ xo yo _ _ Tryz.eqGuardType79,S3];rw[qW,Tp];rfl
theorem IX:DU prog 43 79 5 48:=⟨Tryz.t79,.agg #[.int .i64 0,.int .u8 0,.int .i64 0,.int .u64 0,.string ⟨#[]⟩],by kernel_rfl,by kernel_rfl,by kernel_rfl,by kernel_rfl,by kernel_rfl,by rfl,by decide⟩
theorem DD.one{r:List Value}{x:Attr}(h:DD w r x):∀u∈r,u.oneCell'=true:=by
 intro u hu;subst h;simp only[Attr.cells,BK.cells,I3,kV,mI] at hu;rcases hu with rfl|rfl|rfl|rfl|rfl<;>rfl
abbrev IH(B:Nat)(w:World)(v:Value)(l:List Attr):Prop:=AE B 79 5 DD w v l
structure Gu where
 n:Int
 set:List Attr
 deriving DecidableEq
def Mt(D:Nat->Prop)(w:World)(r:List Value)(b:Gu):Prop:=∃sv,r=[.int .i64 b.n,sv]/\Cf D w sv b.set
theorem Mt.one{D:Nat->Prop}{r:List Value}{b:Gu}(h:Mt D w r b):∀u∈r,u.oneCell'=true:=by
 obtain⟨sv,rfl,i⟩:=h;obtain⟨a,c,rfl,_⟩:=i.shape;intro u hu;simp only[I3,kV,mI] at hu;rcases hu with rfl|rfl<;>rfl
theorem Mt.mod{D D' M:Nat->Prop}{r:List Value}{b:Gu}(h:Mt D w r b)(hm:Mod M w w')(j:∀b,b<w.heap.size->D b->¬M b)(i:∀b,b<w.heap.size->D b->D' b):Mt D' w' r b:=by
 obtain⟨sv,rfl,o⟩:=h;exact⟨sv,rfl,o.mono i (fun b hb B=>hm.same b hb (j b hb B)) (by decide) fun _ _ h=>h⟩
theorem Xu:DU prog 46 53 2 32:=⟨Tryz.t53,.agg #[.int .i64 0,.slice none 0 0],by kernel_rfl,by kernel_rfl,by kernel_rfl,by kernel_rfl,by kernel_rfl,by rfl,by decide⟩
abbrev SZ(S D:Nat->Prop)(w:World)(v:Value)(l:List Gu):Prop:=BB S 2 (Mt D) w v l
def iC(l:List Gu)(set:List Attr):Bool:=match l.getLast? with|some b=>decide (b.set=set)|none=>false
def IN(l:List Gu)(n:Int)(set:List Attr):List Gu:=
 if n<=0 then l else
 match l.getLast? with
 |some b=>if b.set=set then l.set (l.length-1) ⟨IntKind.i64.wrap (b.n+n),b.set⟩ else l++[⟨n,set⟩]
 |none=>l++[⟨n,set⟩]
theorem cO{g:Nat}{fn:Func}(an:Qp)(j:prog.funcs[g]?=some fn){b:Prop}(h:b)(hc:((fn.body.isSome&&Nat.ble args.length fn.ntmps),b)=(true,D prog Dh fn.ntmps (JC fn) an (fO prog fn.results.toList K) (nth args) w)):AB prog g args K w:=by
 have hb:=(Prod.mk.inj hc).1;rw[(Prod.mk.inj hc).2] at h;rw[TC] at hb;refine VQ Fc mixed j ?_ rfl rfl hb.2 h;obtain⟨x,i⟩:=jV.1 hb.1;rw[i,JC,i]
abbrev zF(l:List Value):List Value:=(.int .i32 0)::(.int .i32 0)::(.int .i32 0)::(.int .i32 0)::l
abbrev zR(l:List Value):List Value:=zF (zF (zF (zF (zF (zF (zF (zF l)))))))
abbrev aR:Nat->List Nat:=List.range
abbrev aQ0(l:List (List Nat)):List (List Nat):=[]::[0]::[0,1]::[0,1,2]::aR 4::l
abbrev aN:Qp->Qp:=.node [] [] .nil
abbrev aO:Qp->Qp->Qp:=.node [] []
abbrev aE:Qp:=.node [] [] .nil .nil
variable {v0 v1 v2 v3 v4 v5 v6 v7 v8 v9:Value}{K:Cont}{w:World}
theorem fk(h: Ae v0 fun t7=>
 Ae v1 fun t9=>
 EB .i64 t7 t9 fun o=>
 AD o
 (K (.bool false) w)
 (Aq [(.int .i64 0)] (fun vs i w1=>∀_:Env,
 Ae v0 fun B=>
 Bb .i64 (nth vs 0) B fun E=>
 AD E
 (Cg w1 (fun C=>
 BQ 2 v0 (nth vs 0) fun I=>
 AM 0 I fun J=>
 BJ C J fun O=>
 BQ 2 v1 (nth vs 0) fun Q=>
 AM 0 Q fun t25=>
 BJ C t25 fun S=>
 EB .i64 O S fun T=>
 AD T
 (∀ w2:World,C w2->
 K (.bool false) w2)
 (BQ 2 v0 (nth vs 0) fun U=>
 AM 1 U fun V=>
 BJ C V fun X=>
 BQ 2 v1 (nth vs 0) fun Y=>
 AM 1 Y fun Z=>
 BJ C Z fun a1=>
 Fa prog C 58 [X,a1] fun t39=>
 CE t39 fun a6=>
 ∀w3:World,C w3->
 AD a6
 (K (.bool false) w3)
 (AX .i64 (nth vs 0) (.int .i64 1) fun j=>
 i [j] w3))))
 (K (.bool true) w1)) w)):AB prog 35 [v0,v1] K w:=cO (aN (aO (aN (aO aE .nil)) (aO (aN (.node [5] [(4,5),(11,41)] (aO (aN aE) (aO (aO .draw (aO aE .nil)) .nil)) .nil)) aE))) func35 h (by kernel_rfl)
theorem bz(h: Ae v0 fun T=>
 Ae v1 fun t9=>
 EB .i64 T t9 fun j=>
 AD j
 (K (.bool false) w)
 (Aq [(.int .i64 0)] (fun vs i S=>∀_:Env,
 Ae v0 fun o=>
 Bb .i64 (nth vs 0) o fun B=>
 AD B
 (Cg S (fun C=>
 BQ 5 v0 (nth vs 0) fun E=>
 FT C 5 E fun I=>
 BQ 5 v1 (nth vs 0) fun J=>
 FT C 5 J fun O=>
 Bk prog C (BX .neq 79 (.tmp 20) (.tmp 24) I O) fun t25=>
 ∀w2:World,C w2->
 AD t25
 (K (.bool false) w2)
 (AX .i64 (nth vs 0) (.int .i64 1) fun Q=>
 i [Q] w2)))
 (K (.bool true) S)) w)):AB prog 58 [v0,v1] K w:=cO (aN (aO (aN (aO aE .nil)) (aO (aN (.node [5] [(4,5),(11,25)] (aO (aN aE) (aO (aO .draw (aO aE .nil)) .nil)) .nil)) aE))) func58 h (by kernel_rfl)
theorem ZC(h: Hg v0 fun i=>
 AD (.bool i)
 (K (.slice none 0 0) w)
 (Bg 79 5 0 [] [] (fun t5 j=>
 runK prog (Builtin.append_ #[43,43] 43 [t5,v0].toArray) (fun o w2=>
 K o w2) j) w)):AB prog 107 [v0] K w:=cO (aN (aO (aN (aO aE .nil)) aE)) func107 h (by kernel_rfl)
theorem Y8(h: AB prog 188 [v0,v1] (fun i j=>
 K i j) w):AB prog 118 [v0,v1] K w:=cO (aN aE) func118 h (by kernel_rfl)
theorem eM(h: AB prog 107 [v0] (fun t4 i=>
 K t4 i) w):AB prog 52 [v0] K w:=cO (aN aE) func52 h (by kernel_rfl)
theorem Z9(h: Ae v0 fun S=>
 Ae v1 fun t9=>
 EB .i64 S t9 fun j=>
 AD j
 (K (.bool false) w)
 (Ae v0 fun o=>
 Aq [(.int .i64 0)] (fun vs i Q=>∀_:Env,
 Bb .i64 (nth vs 0) o fun B=>
 AD B
 (Cg Q (fun C=>
 BQ 5 v0 (nth vs 0) fun E=>
 FT C 5 E fun I=>
 BQ 5 v1 (nth vs 0) fun t22=>
 FT C 5 t22 fun J=>
 Bk prog C (BX .neq 79 (.tmp 19) (.tmp 23) I J) fun O=>
 ∀w2:World,C w2->
 AD O
 (K (.bool false) w2)
 (AX .i64 (nth vs 0) (.int .i64 1) fun t25=>
 i [t25] w2)))
 (K (.bool true) Q)) w)):AB prog 188 [v0,v1] K w:=cO (aN (aO (aN (aO aE .nil)) (aO (aN (.node [13] [(4,5),(13,25)] (aN (aO aE (aO (aN (aO .draw (aO aE .nil))) .nil))) .nil)) aE))) func188 h (by kernel_rfl)
end
theorem dO{a b:Value}{l m:List Attr}(ha:Cf S w a l)(hb:Cf F w b m) :
  AB prog 188 [a,b] (fun v w'=>v=.bool (decide (l=m))/\Grow w w') w:=by
 apply Z9;obtain⟨Y,Z,rfl,I⟩:=ha.shape;obtain⟨pb,cb,rfl,J⟩:=hb.shape;simp only[KS];simp only[maxLen] at I J;by_cases i:l.length=m.length
 .rw[C3 (show ¬¬(l.length:Int)=m.length by omega)];refine⟨fun vs w'=>∃k:Nat,k<=l.length/\vs=[.int .i64 k]/\Grow w w'/\l.take k=m.take k,fun vs _=>l.length-Ds vs 0,⟨0,Nn _,rfl,Mod.refl _ _,rfl⟩,?_⟩;rintro vs V ⟨k,hk,rfl,E,ht⟩ h;simp only[KS];by_cases o:k<l.length
  .rw[Io (show(k:Int)<l.length by omega)];refine⟨fun w2=>Grow V w2,Mod.drew _ _,?_⟩;obtain⟨p,r,rfl,_,hr,hc,X⟩:=ha.get o;obtain⟨q,r',rfl,_,O,Q,T⟩:=hb.get (show k<m.length by omega);refine AU o (Fl hr (fun w2 B j u hu=>?_) ?_)
   .rw[Addr.add_add];exact B.cell (E.cell (hc j u hu) (fun h=>h)) (fun h=>h)
   refine AU (by omega) (Fl O (fun w2 B j u hu=>?_) ?_)
   .rw[Addr.add_add];exact B.cell (E.cell (Q j u hu) (fun h=>h)) (fun h=>h)
   subst X;subst T;refine⟨_,fun w2 _=>Kw _ _ _ _ w2,fun w2 B=>?_⟩;simp only[KS];by_cases he:l[k]=m[k]
   .rw[C3 (fun h=>h he)];refine⟨⟨k+1,by omega,by rw[wrap64 (by omega) (by omega)];rfl,E.trans B,?_⟩,?_⟩
    .rw[No,No,ht];simp[o,show k<m.length by omega,he]
    .simp only[Ds,nth,Of];rw[wrap64 (by omega) (by omega)];omega
   .rw[Io he];refine⟨?_,E.trans B⟩;congr 1
    symm
    rw[kW];intro e;subst e;exact he rfl
  .rw[C3 (show ¬(k:Int)<l.length by omega)];refine⟨?_,E⟩;congr 1;symm
   rw[S6];have:k=l.length:=by omega
   subst this;rw[Nr] at ht;rw[ht,i,Nr]
 .rw[Io (show ¬(l.length:Int)=m.length by omega)];refine⟨?_,Mod.refl _ _⟩;congr 1;symm
  rw[kW];intro e;exact i (by rw[e])
theorem XR{S i:Nat->Prop}{a b:Value}{l m:List Attr}(ha:Cf S w a l)(hb:Cf i w b m) :
  AB prog 118 [a,b] (fun v w'=>v=.bool (decide (l=m))/\Grow w w') w:=by
 apply Y8;exact dO ha hb
theorem Nh{l:List Attr}(h:Cf S w v l)(hl:l.length*48<=140737488355328) :
  AB prog 107 [v] (fun v' w'=>IH w.heap.size w' v' l/\Grow w w') w:=by
 apply ZC;obtain⟨a,c,rfl,hm⟩:=h.shape;cases a with
 |none=>
  simp only[KS];have:l=[]:=by
   cases l with
   |nil=>rfl
   |cons x l=>obtain⟨p,r,e,_⟩:=h.get (i:=0) (by simp);cases e
  subst this;exact⟨AE.nil,Mod.refl _ _⟩
 |some p=>
  simp only[KS];refine JK ?_;have o:Grow w (w.alloc (.cells #[] 79)):=Mod.alloc _ _ _;have B:IH w.heap.size (w.alloc (.cells #[] 79)) (.slice (some ⟨w.heap.size,0,none⟩) 0 0) []:=AE.made (Lc _);obtain⟨v',w',h1,E,I,J⟩:=AE.append (ty:=43) IX B (h.grow o (by decide) fun _ _ h=>h) (fun _ _=>DD.one) (by simpa using hl) (by simp) (by simpa using hm) (fun _ _ _ _ h=>h);refine Ag h1 ⟨?_,o.next (Mod.of_grownBy I) ?_⟩
  .refine E.base fun g j=>?_;rcases J g j with h|h
   .cases h;exact Lc _
   .simp only[ow] at h;omega
  .intro b hb e;simp only[Value.ownBlock,i6] at e;omega
theorem Fz{l:List Attr}(h:Cf S w v l)(hl:l.length*48<=140737488355328) :
  AB prog 52 [v] (fun v' w'=>IH w.heap.size w' v' l/\Grow w w') w:=by
 apply eM;exact Nh h hl
theorem HH{t:TypeId}(h:vs[j]?=some v):(w.alloc (.cells vs.toArray t)).cell? ((⟨w.heap.size,0,none⟩:Addr).add j)=some v:=by
 have i:(⟨w.heap.size,0,none⟩:Addr).add j=⟨w.heap.size,j,none⟩:=by unfold Addr.add;split<;>simp_all
 rw[i,oo];simpa using h
theorem AE.BA{B e k:Nat}{R:World->List Value->α->Prop}{l:List α}(h:AE B e k R w v l):∀g,v.ownBlock=some g->B<=g/\g<w.heap.size:=by
 obtain⟨a,c,rfl,_,_,hp,_⟩:=AE.shape h;intro g i;cases a with
 |none=>cases i
 |some p=>obtain⟨g',rfl,h1,o,j⟩:=hp p rfl;rw[i] at j;cases j;exact⟨h1,o⟩
theorem BB.GQ{k:Nat}{R:World->List Value->α->Prop}{l:List α}(h:BB S k R w v l)(hk:0<k):BB (fun b=>S b/\b<w.heap.size) k R w v l:=
 h.sub (fun b hb i=>⟨i,hb⟩) hk fun _ _ h=>h
def bE(l:List Gu):List Gu:=l.foldl (fun acc b=>IN acc b.n b.set) []
structure Cel where
 r:Int
 set:List Attr
 deriving DecidableEq
def M0(D:Nat->Prop)(w:World)(r:List Value)(c:Cel):Prop:=∃sv,r=[.int .i32 c.r,sv]/\Cf D w sv c.set
theorem M0.one{D:Nat->Prop}{r:List Value}{b:Cel}(h:M0 D w r b):∀u∈r,u.oneCell'=true:=by
 obtain⟨sv,rfl,i⟩:=h;obtain⟨a,c,rfl,_⟩:=i.shape;intro u hu;simp only[I3,kV,mI] at hu;rcases hu with rfl|rfl<;>rfl
theorem M0.mod{D D' M:Nat->Prop}{r:List Value}{b:Cel}(h:M0 D w r b)(hm:Mod M w w')(j:∀b,b<w.heap.size->D b->¬M b)(i:∀b,b<w.heap.size->D b->D' b):M0 D' w' r b:=by
 obtain⟨sv,rfl,o⟩:=h;exact⟨sv,rfl,o.mono i (fun b hb B=>hm.same b hb (j b hb B)) (by decide) fun _ _ h=>h⟩
theorem WW:DU prog 40 45 2 32:=⟨Tryz.t45,.agg #[.int .i32 0,.slice none 0 0],by kernel_rfl,by kernel_rfl,by kernel_rfl,by kernel_rfl,by kernel_rfl,by rfl,by decide⟩
abbrev Jk(S D:Nat->Prop)(w:World)(v:Value)(l:List Cel):Prop:=BB S 2 (M0 D) w v l
def Cel.inl(c:Cel):List Attr:=if c.r=10 then[] else c.set
def gD(l:List Cel):List Gu:=l.foldl (fun acc c=>IN acc 1 c.inl) []
theorem Na{a b:Value}{l m:List Attr}(ha:Cf S w a l)(hb:Cf F w b m) :
  AB prog 58 [a,b] (fun v w'=>v=.bool (decide (l=m))/\Grow w w') w:=by
 apply bz;obtain⟨Y,Z,rfl,I⟩:=ha.shape;obtain⟨pb,cb,rfl,J⟩:=hb.shape;simp only[KS];simp only[maxLen] at I J;by_cases i:l.length=m.length
 .rw[C3 (show ¬¬(l.length:Int)=m.length by omega)];refine Ab (fun vs w'=>∃k:Nat,k<=l.length/\vs=[.int .i64 k]/\Grow w w'/\l.take k=m.take k) (fun vs _=>l.length-Ds vs 0) ⟨0,Nn _,rfl,Mod.refl _ _,rfl⟩ ?_;rintro vs V ⟨k,hk,rfl,E,ht⟩ h;simp only[KS];by_cases o:k<l.length
  .rw[Io (show(k:Int)<l.length by omega)];refine⟨fun w2=>Grow V w2,Mod.drew _ _,?_⟩;obtain⟨p,r,rfl,_,hr,hc,X⟩:=ha.get o;obtain⟨q,r',rfl,_,O,Q,T⟩:=hb.get (show k<m.length by omega);refine AU o (Fl hr (fun w2 B j u hu=>?_) ?_)
   .rw[Addr.add_add];exact B.cell (E.cell (hc j u hu) (fun h=>h)) (fun h=>h)
   refine AU (by omega) (Fl O (fun w2 B j u hu=>?_) ?_)
   .rw[Addr.add_add];exact B.cell (E.cell (Q j u hu) (fun h=>h)) (fun h=>h)
   subst X;subst T;refine⟨_,fun w2 _=>Kw _ _ _ _ w2,fun w2 B=>?_⟩;simp only[KS];by_cases he:l[k]=m[k]
   .rw[C3 (fun h=>h he)];refine⟨⟨k+1,by omega,by rw[wrap64 (by omega) (by omega)];rfl,E.trans B,?_⟩,?_⟩
    .rw[No,No,ht];simp[o,show k<m.length by omega,he]
    .simp only[Ds,nth,Of];rw[wrap64 (by omega) (by omega)];omega
   .rw[Io he];refine⟨?_,E.trans B⟩;congr 1
    symm
    rw[kW];intro e;subst e;exact he rfl
  .rw[C3 (show ¬(k:Int)<l.length by omega)];refine⟨?_,E⟩;congr 1;symm
   rw[S6];have:k=l.length:=by omega
   subst this;rw[Nr] at ht;rw[ht,i,Nr]
 .rw[Io (show ¬(l.length:Int)=m.length by omega)];refine⟨?_,Mod.refl _ _⟩;congr 1;symm
  rw[kW];intro e;exact i (by rw[e])
theorem UU{S Y D D':Nat->Prop}{a b:Value}{l m:List Gu}(ha:SZ S D w a l)(hb:SZ Y D' w b m) :
  AB prog 35 [a,b] (fun v w'=>v=.bool (decide (l=m))/\Grow w w') w:=by
 apply fk;obtain⟨pa,ca,rfl,Q⟩:=ha.shape;obtain⟨pb,cb,rfl,T⟩:=hb.shape;simp only[KS];simp only[maxLen] at Q T;by_cases B:l.length=m.length
 .rw[C3 (show ¬¬(l.length:Int)=m.length by omega)];refine Ab (fun vs w'=>∃k:Nat,k<=l.length/\vs=[.int .i64 k]/\Grow w w'/\l.take k=m.take k) (fun vs _=>l.length-Ds vs 0) ⟨0,Nn _,rfl,Mod.refl _ _,rfl⟩ ?_;rintro vs V ⟨k,hk,rfl,E,ht⟩ h;simp only[KS];by_cases j:k<l.length
  .rw[Io (show(k:Int)<l.length by omega)];refine⟨fun w2=>Grow V w2,Mod.drew _ _,?_⟩;obtain⟨p,r,rfl,_,hr,hc,sv,rfl,Z⟩:=ha.get j;obtain⟨q,r',rfl,_,a1,O,a6,rfl,U⟩:=hb.get (show k<m.length by omega);have o:∀w2,Grow V w2->∀{a:Addr} {v:Value},w.cell? a=some v->w2.cell? a=some v:=fun w2 i _ _ hc=>i.cell (E.cell hc (fun h=>h)) (fun h=>h);refine AU j ?_;simp only[KS];refine Au (fun w2 i=>o w2 i (hc 0 _ rfl)) (AU (by omega) ?_);simp only[KS];refine Au (fun w2 i=>o w2 i (O 0 _ rfl)) ?_;simp only[KS];by_cases I:l[k].n=m[k].n
   .rw[C3 (fun h=>h I)];refine AU j ?_;simp only[KS];refine Au (fun w2 i=>o w2 i (hc 1 _ rfl)) (AU (by omega) ?_);simp only[KS];refine Au (fun w2 i=>o w2 i (O 1 _ rfl)) ?_;refine⟨_,fun w2 i=>AA (Na ((Z.grow E (by decide) fun _ _ h=>h).grow i (by decide) fun _ _ h=>h) ((U.grow E (by decide) fun _ _ h=>h).grow i (by decide) fun _ _ h=>h)) fun v X ⟨e,J⟩=>⟨e,i.trans J⟩,?_⟩;simp only[KS];intro X J;by_cases he:l[k].set=m[k].set
    .rw[C3 (fun h=>h he)];refine⟨⟨k+1,by omega,by rw[wrap64 (by omega) (by omega)];rfl,E.trans J,?_⟩,?_⟩
     .have e:l[k]=m[k]:=by
       cases h1:l[k];cases i:m[k];rw[h1,i] at I he;simp only at I he;rw[I,he]
      rw[No,No,ht];simp[j,show k<m.length by omega,e]
     .simp only[Ds,nth,Of];rw[wrap64 (by omega) (by omega)];omega
    .rw[Io he];refine⟨?_,E.trans J⟩;congr 1;symm
     rw[kW];intro e;subst e;exact he rfl
   .rw[Io I];intro X J;refine⟨?_,E.trans J⟩;congr 1;symm
    rw[kW];intro e;subst e;exact I rfl
  .rw[C3 (show ¬(k:Int)<l.length by omega)];refine⟨?_,E⟩;congr 1;symm
   rw[S6];have:k=l.length:=by omega
   subst this;rw[Nr] at ht;rw[ht,B,Nr]
 .rw[Io (show ¬(l.length:Int)=m.length by omega)];refine⟨?_,Mod.refl _ _⟩;congr 1;symm
  rw[kW];intro e;exact B (by rw[e])
theorem BO(a:Addr)(x:Nat):(a.add x).block=a.block:=by unfold Addr.add;split<;>rfl
theorem Mod.putObj(w:World)(b:Nat)(o:Obj)(h:M b):Mod M w (w.putObj b o):=⟨rfl,rfl,rfl,by simp,fun k _ hk=>lg fun e=>hk (e▸h)⟩
theorem Lz{o:Nat->Prop}{O:Exit->World->Prop}{F:(Exit->World->Prop)->World->Prop}{B:World}(hm:Mod M W B)(Q:w.heap.size+2<=W.heap.size)(j:Oy o w W)
 (E:∀b,b<W.heap.size->M b->¬o b/\b≠w.heap.size/\b≠w.heap.size+1)(h:∀I,Mod (fun b=>b=w.heap.size+1) B I->F (gO o w I p O) I):gu o w W p O F B:=by
 refine⟨⟨hm.size,fun b hb=>hm.same b ?_ fun i=>?_,hm.os,hm.tape,hm.output⟩,h⟩
 .rcases hb with hb|rfl|rfl
  .exact(j b hb).1
  .omega
  .omega
 .rcases hb with hb|rfl|rfl
  .exact(E _ (j b hb).1 i).1 hb
  .exact(E _ (by omega) i).2.1 rfl
  .exact(E _ (by omega) i).2.2 rfl
theorem Pd{o:Nat->Prop}(hm:Mod M W W')(E:w.heap.size+2<=W.heap.size)(j:∀b,o b->b<W.heap.size)
 (B:∀b,b<W.heap.size->M b->¬o b/\b≠w.heap.size/\b≠w.heap.size+1):iW o w W W':=by
 refine⟨hm.size,fun b hb=>hm.same b ?_ fun i=>?_,hm.os,hm.tape,hm.output⟩
 .rcases hb with hb|rfl|rfl
  .exact j b hb
  .omega
  .omega
 .rcases hb with hb|rfl|rfl
  .exact(B _ (j b hb) i).1 hb
  .exact(B _ (by omega) i).2.1 rfl
  .exact(B _ (by omega) i).2.2 rfl
def Marks(i:List Nat)(W:World):Prop:=i.Nodup/\∀m∈i,W.heap[m]?=some (.deferred (some []))
theorem AE.one{B e k:Nat}{R:World->List Value->α->Prop}{l:List α}(h:AE B e k R w v l):v.oneCell'=true/\v.cells=#[v]:=by
 obtain⟨a,c,rfl,_⟩:=AE.shape h;exact⟨rfl,rfl⟩
def J7(a b:Int):Int:=if b>a then b else a
theorem BB.made{k:Nat}{R:World->List Value->α->Prop}{t:TypeId}{l:List α}(rows:List (List Value))(hr:∀r∈rows,r.length=k)(hl:rows.length=l.length)(o:l.length<=maxLen)
 (E:∀(i:Nat) (r:List Value) (x:α),rows[i]?=some r->l[i]?=some x->R (w.alloc (.cells rows.flatten.toArray t)) r x):BB (fun b=>b=w.heap.size) k R (w.alloc (.cells rows.flatten.toArray t)) (.slice (some ⟨w.heap.size,0,none⟩) l.length l.length) l:=by
 refine⟨_,_,rfl,Lc _,o,fun i x B=>?_⟩;have hi:i<rows.length:=by rw[hl];exact(Bp.1 B).1
 refine⟨_,rows[i],rfl,rfl,hr _ (by simp),fun j u hu=>?_,E i _ x (by simp[hi]) B⟩;have I:j<k:=by rw[<-hr rows[i] (by simp)];exact(Bp.1 hu).1
 refine HH ?_;rw[Hv rows i j rows[i] hr (by simp[hi]) I];exact hu
end Go.Proofs.YtmdhibffnkhcnaaGreatDoor
