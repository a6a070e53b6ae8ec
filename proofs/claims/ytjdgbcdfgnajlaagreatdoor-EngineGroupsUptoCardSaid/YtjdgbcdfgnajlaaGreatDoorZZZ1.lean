/- parts of the proof, written short by a program of ours -/
import Derived.Test.YtjdgbcdfgnajlaaGreatDoorZZZ0
set_option linter.all false
set_option maxRecDepth 100000
namespace Go.Proofs.YtjdgbcdfgnajlaaGreatDoor
open Go Proofs.Tryz
variable {e c B:Nat}{S M S':d_}{w W w' W' w0:c_}{v:b_}{cs vs args:U_}{α:Type}{K:Cont}
section
def mY(n:Nat)(e:Env):X_->U_->Env
 |[],_=>e
 |p::ps,vs=>mY n (JU n e p (vs.headD undef)) ps vs.tail
def Quiet(W W':c_):Prop:=W'.os=W.os/\W'.tape=W.tape/\W'.output=W.output
def Quiet.trans{a b c:c_}(h:Quiet a b)(k:Quiet b c):Quiet a c:=⟨k.1.trans h.1,k.2.1.trans h.2.1,k.2.2.trans h.2.2⟩
def QG(st:Prop)(P:Program)(V:Nat)(cap:U_)(O:Nat->U_)(N:Nat)(Rd:d_)(w:c_):Prop:=∀(l:Nat) (J:Nat->(d_)->c_->Prop) (Q:(d_)->c_->Prop) (U:c_),AF (λ_=>False) w U->J 0 (λ_=>False) U->(∀k j I W W',J k j W->AF (λb=>¬st/\j b) W W'->(∀b,I b->(j b\/W.heap.size<=b)/\b<W'.heap.size)->J k I W')->(∀j I W W',Q j W->AF (λb=>¬st/\j b) W W'->(∀b,I b->(j b\/W.heap.size<=b)/\b<W'.heap.size)->Q I W')->(∀k j W,J k j W->∀b,b<w.heap.size->Rd b->W.heap[b]?=w.heap[b]?)->(∀k j W,k<N->J k j W->Ob P l (O k) (λv W'=>W.heap.size<=W'.heap.size/\(∀b,j b->W'.heap[b]?=W.heap[b]?)/\Quiet W W'/\((v=.bool true/\J (k+1) j W')\/(v=.bool false/\Q j W'))) W)->AD P V (.func (.yield l) #[] #[]::cap) (λ_ W'=>∃j,J N j W'\/Q j W') U
def re(V:d_)(U:d_)(P:Program)(X:Nat)(cap:U_)(A_:Nat->(d_)->c_->U_->Prop)(N:Nat)(Rd:d_)(w:c_):Prop:=∀(l:Nat) (J:Nat->(d_)->c_->Prop) (O:(d_)->c_->Prop) (Q:c_),AF (λ_=>False) w Q->J 0 V Q->(∀k j I W W',J k j W->AF (λb=>U b/\j b) W W'->(∀b,I b->(j b\/W.heap.size<=b)/\b<W'.heap.size)->J k I W')->(∀j I W W',O j W->AF (λb=>U b/\j b) W W'->(∀b,I b->(j b\/W.heap.size<=b)/\b<W'.heap.size)->O I W')->(∀k j W,J k j W->∀b,b<w.heap.size->Rd b->W.heap[b]?=w.heap[b]?)->(∀k j W args,k<N->J k j W->A_ k j W args->Ob P l args (λv W'=>W.heap.size<=W'.heap.size/\(∀b,j b->W'.heap[b]?=W.heap[b]?)/\Quiet W W'/\((v=.bool true/\J (k+1) j W')\/(v=.bool false/\O j W'))) W)->AD P X (.func (.yield l) #[] #[]::cap) (λ_ W'=>∃j,J N j W'\/O j W') Q
def QG.i{st:Prop}{P:Program}{I N:Nat}{j:Nat->U_}{Rd:d_}(h:QG st P I cs j N Rd w):re (λ_=>False) (λ_=>¬st) P I cs (λk _ _ a=>a=j k) N Rd w:=λl J O Q g h0 hJ VZ QI hr=>h l J O Q g h0 hJ VZ QI λk U W hk V=>hr k U W _ hk V rfl
def wM(j:d_)(w W W':c_):Prop:=W.heap.size<=W'.heap.size/\(∀b,j b\/b=w.heap.size\/b=w.heap.size+1->W'.heap[b]?=W.heap[b]?)/\Quiet W W'
def iS(I:d_)(w W:c_)(J:c_->Prop)(j:Exit->c_->Prop):Exit->c_->Prop:=λx W'=>wM I w W W'/\match x with
 |.normal=>J W' | .ret=>j .ret W' | .exit i=>j (.exit i) W' | _=>False
def dS(I:d_)(w W:c_)(J:c_->Prop)(O:Exit->c_->Prop)(F:(Exit->c_->Prop)->c_->Prop)(N:c_):Prop:=wM I w W N/\∀j,AF (λb=>b=w.heap.size+1) N j->F (iS I w j J O) j
def rp(j:d_)(w W:c_):Prop:=∀b,j b->b<W.heap.size/\w.heap.size+2<=b
def U8(j:d_)(w W:c_):Prop:=∀b,j b->b<W.heap.size/\b≠w.heap.size/\b≠w.heap.size+1
def OX(P:Program)(ok:Nat->Bool)(f:b_)(X:Nat)(qU:U_->(((Exit->c_->Prop)->c_->Prop)->c_->Prop)->c_->Prop)(N:Exit->c_->Prop)(w:c_):Prop:=∃Q U V cap A_ n Rd,f=.func (.func V) #[] (List.toArray cap)/\ok V=true/\re Q U P V cap A_ n Rd w/\(∀k j W args,k<n->A_ k j W args->args.length=X)/\(∀b,Q b->b<w.heap.size)/\ ∃(J:Nat->(d_)->c_->Prop) (O:Exit->(d_)->c_->Prop),J 0 Q w/\ (∀k j I W W',J k j W->AF (λb=>(U b/\j b)\/b=w.heap.size\/b=w.heap.size+1) W W'->(∀b,I b->(j b\/W.heap.size<=b)/\b<W'.heap.size/\b≠w.heap.size/\b≠w.heap.size+1)->J k I W')/\ (∀x j I W W',O x j W->AF (λb=>(U b/\j b)\/b=w.heap.size\/b=w.heap.size+1) W W'->(∀b,I b->(j b\/W.heap.size<=b)/\b<W'.heap.size/\b≠w.heap.size/\b≠w.heap.size+1)->O x I W')/\ (∀k j W,J k j W->∀b,b<w.heap.size->Rd b->W.heap[b]?=w.heap[b]?)/\ (∀k j W args,k<n->A_ k j W args->J k j W->w.heap.size+2<=W.heap.size->U8 j w W->qU args (dS j w W (J (k+1) j) (λx=>O x j)) W)/\ (∀j W,J n j W->U8 j w W->w.heap.size+2<=W.heap.size->W.heap[w.heap.size]?=some (.deferred (some []))->N .normal W)/\ (∀x j W,O x j W->U8 j w W->w.heap.size+2<=W.heap.size->W.heap[w.heap.size]?=some (.deferred (some []))->N x W)
def Nf{P:Program}{ok:Nat->Bool}{f:b_}{qU:U_->(((Exit->c_->Prop)->c_->Prop)->c_->Prop)->c_->Prop}{N:Exit->c_->Prop} (h:∃ st U cap O n Rd,f=.func (.func U) #[] (List.toArray cap)/\ok U=true/\QG st P U cap O n Rd w/\(∀ k,k < n->(O k).length=c)/\ ∃(J:Nat->(d_)->c_->Prop) (Q:Exit->(d_)->c_->Prop),J 0 (λ_=>False) w/\ (∀k j I W W',J k j W->AF (λb=>(¬st/\j b)\/b=w.heap.size\/b=w.heap.size+1) W W'->(∀b,I b->(j b\/W.heap.size<=b)/\b<W'.heap.size/\w.heap.size+2<=b)->J k I W')/\ (∀x j I W W',Q x j W->AF (λb=>(¬st/\j b)\/b=w.heap.size\/b=w.heap.size+1) W W'->(∀b,I b->(j b\/W.heap.size<=b)/\b<W'.heap.size/\w.heap.size+2<=b)->Q x I W')/\ (∀k j W,J k j W->∀b,b<w.heap.size->Rd b->W.heap[b]?=w.heap[b]?)/\ (∀k j W,k<n->J k j W->w.heap.size+2<=W.heap.size->rp j w W->qU (O k) (dS j w W (J (k+1) j) (λx=>Q x j)) W)/\ (∀j W,J n j W->rp j w W->w.heap.size+2<=W.heap.size->W.heap[w.heap.size]?=some (.deferred (some []))->N .normal W)/\ (∀ x j W,Q x j W->rp j w W->w.heap.size+2<=W.heap.size->W.heap[w.heap.size]?=some (.deferred (some []))->N x W)):OX P ok f c qU N w:=by
 obtain⟨st,U,cap,O,n,Rd,h1,h2,h3,h4,J,Q,h5,hJ,hX,h6,h7,h8,h9⟩:=h;have up:∀{j I:d_} {W W':c_},(w.heap.size<=W.heap.size/\∀b,j b->w.heap.size+2<=b)->W.heap.size<=W'.heap.size->(∀b,I b->(j b\/W.heap.size<=b)/\b<W'.heap.size/\b≠w.heap.size/\b≠w.heap.size+1)->(w.heap.size<=W'.heap.size/\∀b,I b->w.heap.size+2<=b):=B_;have ok:∀{j:d_} {W:c_},(∀b,j b->w.heap.size+2<=b)->U8 j w W->rp j w W:=λh V b hb=>⟨(V b hb).1,h b hb⟩;refine⟨_,λ_=>¬st,U,cap,_,n,Rd,h1,h2,h3.i,B_,L_,λk j W=>J k j W/\w.heap.size<=W.heap.size/\∀b,j b->w.heap.size+2<=b,λx j W=>Q x j W/\w.heap.size<=W.heap.size/\∀b,j b->w.heap.size+2<=b,B_,?_,?_,B_,?_,B_,B_⟩;intro k j I W W' h hm V;grind[AF.size];intro k j I W W' h hm V;grind[AF.size];rintro k j W _ hk rfl h hz V;have e:dS j w W (λW=>J (k+1) j W/\w.heap.size<=W.heap.size/\∀b,j b->w.heap.size+2<=b) (λx W=>Q x j W/\w.heap.size<=W.heap.size/\∀b,j b->w.heap.size+2<=b)=dS j w W (J (k+1) j) λx=>Q x j:=by
  funext F W1;unfold dS;refine propext (and_congr_right λX=>forall_congr' λY=>imp_congr_right λhm=>?_);have a1:w.heap.size<=Y.heap.size:=by have:=X.1;have:=hm.size;omega
  have e2:iS j w Y (λW=>J (k+1) j W/\w.heap.size<=W.heap.size/\∀b,j b->w.heap.size+2<=b) (λx W=>Q x j W/\w.heap.size<=W.heap.size/\∀b,j b->w.heap.size+2<=b)=iS j w Y (J (k+1) j) λx=>Q x j:=by
   funext x W3;unfold iS;refine propext (and_congr_right λZ=>?_);have a6:w.heap.size<=W3.heap.size:=by have:=Z.1;omega
   grind
  rw[e2]
 grind
variable {P:Program}{ok:Nat->Bool}{n:Nat}
def HO{l:Nat}{K N:Cont}(h:Ob P l args K w)(hk:∀v w',K v w'->N v w'):Ob P l args N w:=by
 obtain⟨f,j,J,I,h1,O⟩:=h;exact⟨f,j,J,I,h1,(by grind[Go.RoundIn.mono])⟩
def Fr.fill{ds:Z'}{a:Act}:∀(ps:X_) (vs:U_) (e:Env) (a:Act),vs.length=ps.length->Fr ds n e a->Fr ds n (mY n e ps vs) { a with tmps:=(ps.zip vs).foldl (λt x=>t.setIfInBounds x.1 x.2) a.tmps }:=by
 intro ps;induction ps with
 |nil=>intro vs e a _ h;exact h
 |cons p ps j=>
  intro vs e a hl h;cases vs with
  |nil=>grind
  |cons v vs=>
   have:=j vs (JU n e p v) (a.put (some p) v) (by simpa using hl) (h.put (some p) v);exact this
def vg:Exit->Option Code
 |.ret=>some .ret
 |.exit i=>some (.exit i)
 |_=>none
def U9{ds:Z'}(al:DU P ok)(hm:P.follows .mixedOrders=true){g:Operand}{ps:Array Tmp}{x y:Code}{ax ay:Hp}{e:Env}{a:Act}{N:Exit->c_->Prop}(hf:Fr ds n e a) (hx:Qe x=true)(hy:Qe y=true) (h:OX P ok (ev e g) ps.size (λargs bx W=>D P ok n x ax (vT (λe' W1=>bx (λpost W2=>D P ok n y ay (λex _ Z=>post ex Z) e' W2) W1) (λ_ _ _=>False)) (mY n e ps.toList args) W) N w) : (Code.rangeFunc g ps x y).wpIn (Wd none) 0 P (λex a' w'=>Fr ({ target:=.collected w.heap.size,args:=#[] }::ds) n e a'/\N ex w') a w:=by
 obtain⟨I0,Mv,gf,cap,A_,nn,Rd,c4,c6,ba,bb,c7,J,Jx,h0,hJ,VZ,QI,a8,an,av⟩:=h;apply wpIn_rangeFunc;intro fn _;have c8:a.eval g=.func (.func gf) #[] cap.toArray:=by rw[hf.eval];exact c4
 obtain⟨rec,O⟩:∃rec:LoopState->Option Code->Loop,rec=λst pe=>{ state:=st,pending:=pe,fn,tmps:=a.tmps,params:=ps,assign:=x,body:=y,defers:=w.heap.size }:=⟨_,rfl⟩;obtain⟨W1,bk⟩:∃W1,(w.alloc (.deferred (some []))).alloc (.loop (rec .ready none))=W1:=⟨_,rfl⟩;have c9:AF (λ_=>False) w W1:=by rw[<-bk];exact(AF.alloc _ _ _).trans (AF.alloc _ _ _)
 have e4:W1.heap.size=w.heap.size+2:=by rw[<-bk];simp
 have ca:W1.heap[w.heap.size+1]?=some (.loop (rec .ready none)):=by
  grind[World.alloc_heap_new]
 have cc:W1.heap[w.heap.size]?=some (.deferred (some [])):=by
  grind[RowKit.Below.heap_alloc,World.alloc_heap_new]
 refine ⟨w.heap.size+1,[{ target:=.collected w.heap.size,args:=#[] }],W1,{ target:=.fn (.func gf) cap.toArray,args:=#[.func (.yield (w.heap.size+1)) #[] #[]] },W1,gf,
  (.func (.yield (w.heap.size+1)) #[] #[] :: cap).toArray,W1,?_,?_,λ_ _=>trivial,?_,(λh=>by cases h),?_⟩
 grind[Go.run_enterLoop_outer];simp only[resolve,c8];simp[go_sem];have:=al gf c6;simp[invoke,go_sem];grind;have aa:∀(M:d_) (W:c_) (b:Nat) (o:Obj),M b->AF M W (W.putObj b o):=λM W b o hb=>
  ⟨rfl,rfl,rfl,E_,(by grind[World.putObj_heap_other])⟩
 let J':Nat->(d_)->c_->Prop:=λk I W=>J k I W/\U8 I w W/\w.heap.size+2<=W.heap.size/\W.heap[w.heap.size+1]?=some (.loop (rec .ready none))/\W.heap[w.heap.size]?=some (.deferred (some []))
 let cq:(d_)->c_->Prop:=λI W=>∃ex c,vg ex=some c/\Jx ex I W/\U8 I w W/\w.heap.size+2<=W.heap.size/\W.heap[w.heap.size+1]?=some (.loop (rec .done (some c)))/\W.heap[w.heap.size]?=some (.deferred (some []))
 have bl:∀(I X:d_) (W W':c_),U8 I w W->w.heap.size+2<=W.heap.size->(∀b,X b->(I b\/W.heap.size<=b)/\b<W'.heap.size)->U8 X w W':=λI X W W' h1 KM h2 b hb=>by
  obtain⟨h3|h3,h4⟩:=h2 b hb;exact⟨h4,(h1 b h3).2⟩;omega
 have b0:=ba (w.heap.size+1) J' cq W1 c9 ⟨(by grind[AG.T_]),λb hb=>by have:=c7 b hb;omega,E,ca,cc⟩
  (λk I X W W' ⟨q1,Q,q3,q4,q5⟩ U Y=>⟨hJ k I X W W' q1 (by grind[AF.mono]) (λb hb=>⟨(Y b hb).1,(Y b hb).2,(bl I X W W' Q q3 Y b hb).2⟩),B_,by have:=U.size;omega,
   (U.Ak _ E λhb=>by have:=(Q _ hb.2).2;omega).trans q4,(U.Ak _ E λhb=>by have:=(Q _ hb.2).2;omega).trans q5⟩)
  (λI X W W' ⟨ex,c,hc,q1,Q,q3,q4,q5⟩ U Y=>⟨ex,c,hc,VZ ex I X W W' q1 (by grind[AF.mono]) (λb hb=>⟨(Y b hb).1,(Y b hb).2,(bl I X W W' Q q3 Y b hb).2⟩),B_,by have:=U.size;omega,
   (U.Ak _ E λhb=>by have:=(Q _ hb.2).2;omega).trans q4,(U.Ak _ E λhb=>by have:=(Q _ hb.2).2;omega).trans q5⟩)
  B_
  ?_
 .refine(aDd.2 (aBu b0 ?_):CallsIn Fence.wide _ _ _ _ _ _);rintro en W2 ⟨v,rfl,I,hh⟩;have b6:Fr ({ target:=.collected w.heap.size,args:=#[] }::ds) n e { a with defers:=[{ target:=.collected w.heap.size,args:=#[] }]++a.defers }:=⟨hf.size,hf.get,by simp[hf.defers]⟩;have V:∀o,AF (λb=>(Mv b/\I b)\/b=w.heap.size\/b=w.heap.size+1) W2 (W2.putObj (w.heap.size+1) o):=B_;rcases hh with⟨q1,Q,q3,q4,q5⟩|⟨ex,c,hc,q1,Q,q3,q4,q5⟩
  .obtain⟨o,ho⟩:∃o,(Instr.endLoop (w.heap.size+1)).run P W2=.ok none (W2.putObj (w.heap.size+1) o):=⟨_,by have:=run_endLoop (P:=P) q4 (by rw[O];simp);rw[O] at this;exact this⟩;refine⟨none,_,ho,b6,an I _ (hJ nn I I _ _ q1 (V _) λb hb=>⟨.inl hb,by simpa using(Q b hb).1,(Q b hb).2⟩) (λb hb=>⟨by simpa using(Q b hb).1,(Q b hb).2⟩) (by simpa using q3) (by grind[World.putObj_heap_other])⟩
  obtain⟨o,ho⟩:∃o,(Instr.endLoop (w.heap.size+1)).run P W2=.ok (some c) (W2.putObj (w.heap.size+1) o):=⟨_,by have:=run_endLoop (P:=P) q4 (by rw[O];simp);rw[O] at this;exact this⟩;have key:N ex (W2.putObj (w.heap.size+1) o):=
   av ex I _ (VZ ex I I _ _ q1 (V _) λb hb=>⟨.inl hb,by simpa using(Q b hb).1,(Q b hb).2⟩) (λb hb=>⟨by simpa using(Q b hb).1,(Q b hb).2⟩) (by simpa using q3) (by grind[World.putObj_heap_other])
  refine⟨some c,_,ho,?_⟩;cases ex with
  |ret=>cases hc<;>grind[Go.wpIn_ret]
  |exit i=>cases hc<;>grind[Go.wpIn_exit]
  |_=>cases hc
 .rintro k I W args hk ⟨q1,Q,q3,q4,q5⟩ hE;have a7:=a8 k I W args hk hE q1 q3 Q;have bp:=run_yield (P:=P) (args:=args.toArray) q4 (by rw[O];simpa using bb k _ _ args hk hE);rw[O] at bp;refine⟨fn,_,x,y,bp,?_⟩;have b6:Fr [] n (mY n e ps.toList args) { tmps:=(ps.zip args.toArray).foldl (λt x=>t.setIfInBounds x.1 x.2) a.tmps,defers:=[] }:=by
   have:=Fr.fill (ds:=[]) (a:=a) ps.toList args e { a with defers:=[] } B_ ⟨hf.size,hf.get,rfl⟩;have e1:(ps.zip args.toArray).foldl (λt x=>t.setIfInBounds x.1 x.2) a.tmps=(ps.toList.zip args).foldl (λt x=>t.setIfInBounds x.1 x.2) a.tmps:=by
    rw[<-Array.foldl_toList];simp
   grind
  apply roundIn_of_wpIn (F:=Fence.wide) trivial;apply aBE (OA (ds:=[]) (ro:=some (w.heap.size+1)) (m:=0) al hm x ax _ _ W _ (.inr hx) b6 a7);rintro ex a1 Wa ⟨e1,cu,_,hb⟩;cases ex with
  |normal=>
   obtain⟨⟨e2,ak,cx⟩,b7⟩:=hb;have e5:=(ak w.heap.size (.inr (.inl rfl))).trans q5;refine⟨_,run_beginRound ((ak (w.heap.size+1) (.inr (.inr rfl))).trans q4) (by rw[O]),?_⟩;have da:=b7 (Wa.putObj (w.heap.size+1) (.loop { rec .ready none with state:=.busy })) (aa _ _ _ _ rfl);have dk:(Wa.putObj (w.heap.size+1) (.loop { rec .ready none with state:=.busy })).heap[w.heap.size+1]?=some (.loop { rec .ready none with state:=.busy }):=World.putObj_heap_same E;have dr:(Wa.putObj (w.heap.size+1) (.loop { rec .ready none with state:=.busy })).heap[w.heap.size]?=some (.deferred (some [])):=by grind[World.putObj_heap_other]
   apply aBE (OA (ds:=[]) (ro:=some (w.heap.size+1)) (m:=0) al hm y ay _ e1 _ _ (.inr hy) cu da);rintro ex a3 Z ⟨e3,e6,_,⟨dz,bs,dT⟩,hp⟩;have KM:Wa.heap.size<=Z.heap.size:=by simpa using dz
   have e7:=(bs w.heap.size (.inr (.inl rfl))).trans dr;have HA:∀(j:Option Code),(Instr.endRound (w.heap.size+1) j).run P Z=.ok (.bool j.isNone) (Z.putObj (w.heap.size+1) (.loop (rec (if j.isNone then .ready else .done) j)))/\
     (Z.putObj (w.heap.size+1) (.loop (rec (if j.isNone then .ready else .done) j))).heap[w.heap.size+1]?=some (.loop (rec (if j.isNone then .ready else .done) j))/\
     (Z.putObj (w.heap.size+1) (.loop (rec (if j.isNone then .ready else .done) j))).heap[w.heap.size]?=some (.deferred (some [])):=λj=>by
    have:=run_endRound (P:=P) j ((bs (w.heap.size+1) (.inr (.inr rfl))).trans dk);grind[Go.World.putObj_heap_same,World.putObj_heap_other]
   have b8:∀(o:Obj) b,I b->(Z.putObj (w.heap.size+1) o).heap[b]?=W.heap[b]?:=λo b hb=>by
    have h2:=(Q b hb).2;grind[World.putObj_heap_other]
   have qt:∀(o:Obj),Quiet W (Z.putObj (w.heap.size+1) o):=λo=>cx.trans dT;have a6:∀(o:Obj),U8 I w (Z.putObj (w.heap.size+1) o):=λo b hb=>⟨by have:=(Q b hb).1;grind,(Q b hb).2⟩;have b9:∀(o:Obj) b,I b->(I b\/Z.heap.size<=b)/\b<(Z.putObj (w.heap.size+1) o).heap.size/\b≠w.heap.size/\b≠w.heap.size+1:=λo b hb=>⟨.inl hb,(a6 o b hb).1,(Q b hb).2⟩;have V:∀o,AF (λb=>(Mv b/\I b)\/b=w.heap.size\/b=w.heap.size+1) Z (Z.putObj (w.heap.size+1) o):=B_;cases ex with
   |normal=>
    obtain⟨f1,f2,f3⟩:=HA none;exact⟨_,_,f1,_,rfl,by simp;omega,b8 _,qt _,.inl ⟨rfl,hJ _ I I _ _ hp (V _) (b9 _),a6 _,B_,f2,f3⟩⟩
   |ret=>
    obtain⟨f1,f2,f3⟩:=HA (some .ret);exact⟨_,_,f1,_,rfl,by simp;omega,b8 _,qt _,.inr ⟨rfl,.ret,.ret,rfl,VZ .ret I I _ _ hp (V _) (b9 _),a6 _,B_,f2,f3⟩⟩
   |exit i=>
    obtain⟨f1,f2,f3⟩:=HA (some (.exit i));exact⟨_,_,f1,_,rfl,by simp;omega,b8 _,qt _,.inr ⟨rfl,.exit i,.exit i,rfl,VZ (.exit i) I I _ _ hp (V _) (b9 _),a6 _,B_,f2,f3⟩⟩
   |_=>exact hp.elim
  |_=>exact hb.elim
def ag:List (Nat×(c_->Prop))->Nat->c_->Prop
 |[],_,_=>False
 |(j,N)::r,i,w=>bif Nat.beq i j then N w else ag r i w
def vy(j I:c_->Prop)(L:List (Nat×(c_->Prop)))(x:Exit)(w:c_):Prop:=match x with
 |.normal=>j w | .ret=>I w | .exit i=>ag L i w | _=>False
def eO{Q:Nat->c_->Prop}{i:Nat}:∀{L:X_},ag (L.map λi=>(i,Q i)) i w->Q i w:=by
 intro L;induction L<;>grind[ag,Nat.eq_of_beq_eq_true]
def Tx:Code->Bool
 |.rangeFunc ..=>true
 |.seq a b=>Tx a||Tx b
 |.block _ a=>Tx a
 |_=>false
def bX(id:Nat)(Q:EQ):EQ:=λex e w=>match ex with
 |.exit i=>bif Nat.beq i id then False else Q (.exit i) e w
 |.normal=>Q .normal e w | .ret=>Q .ret e w | .goto l=>Q (.goto l) e w | .panic c=>Q (.panic c) e w | .outgrown=>Q .outgrown e w
variable (P ok n)
def DM:Code->Hp->(Nat->EQ)->EQ->Env->c_->Prop
 |.seq x y,j,Q,I,e,w=>match j with
  |.node _ _ a b=>bif Tx x then(bif Qe y then DM x a (λm=>vT (λe' w'=>D P ok n y b (Q m) e' w') (Q m)) I e w else False)
    else D P ok n x a (vT (λe' w'=>DM y b Q I e' w') I) e w
  |_=>False
 |.block id x,j,Q,I,e,w=>DM x j (λm=>xR id (Q m)) (bX id I) e w
 |.rangeFunc g ps x y,j,Q,_,e,w=>match j with
  |.node L _ N O=>bif Qe x&&Qe y then OX P ok (ev e g) ps.size (λargs J W=>D P ok n x N (vT (λe' U=>J (λpost V=>D P ok n y O (λex _ X=>post ex X) e' V) U) (λ_ _ _=>False)) (mY n e ps.toList args) W) (vy (λW=>Q w.heap.size .normal e W) (λW=>Q w.heap.size .ret e W) (L.map λi=>(i,λW=>Q w.heap.size (.exit i) e W))) w else False
  |_=>False
 |_,_,_,_,_,_=>False
variable {P ok n}
def Zk(n:Nat)(Q:Nat->EQ)(j:EQ):Exit->Act->c_->Prop:=λex a w=>(ex≠.normal/\∃e,Fr [] n e a/\j ex e w)\/∃m e,Fr [{ target:=.collected m,args:=#[] }] n e a/\Q m ex e w
def jl(N:DU P ok)(hm:P.follows .mixedOrders=true):∀(c:Code) (J:Hp) (Q:Nat->EQ) (O:EQ) (e:Env) (w:c_) (a:Act),Fr [] n e a->DM P ok n c J Q O e w->c.wpIn (Wd none) 0 P (Zk n Q O) a w:=by
 intro c;induction c with
 |seq x y Z a6=>
  intro J Q O e w a U h;cases J with
  |node L W a1 a2=>
   simp only[DM] at h;cases hr:Tx x with
   |true=>
    simp only[hr,aBP] at h;cases hy:Qe y with
    |false=>grind
    |true=>
     simp only[hy,aBP] at h;refine wpIn_seq (aBE (Z a1 _ _ e w a U h) ?_);rintro ex V Y (⟨X,I,h1,j⟩|⟨m,I,h1,j⟩);cases ex with
     |normal=>grind
     |_=>exact .inl ⟨X,I,h1,j⟩
     cases ex with
     |normal=>
      apply aBE (OA (ro:=none) (m:=0) N hm y a2 _ I Y V (.inr hy) h1 j);rintro ex a8 aa ⟨a7,h4,_,h6⟩;exact .inr ⟨m,a7,h4,h6⟩
     |_=>exact .inr ⟨m,I,h1,j⟩
   |false=>
    simp only[hr,aBO] at h;refine wpIn_seq (aBE (OA (ds:=[]) (ro:=none) (m:=0) N hm x a1 _ e w a (.inl rfl) U h) ?_);rintro ex V Y ⟨I,h1,_,j⟩;cases ex with
    |normal=>exact a6 a2 Q O I Y V h1 j
    |_=>exact .inl ⟨E_,I,h1,j⟩
  |_=>exact h.elim
 |block id x ih=>
  refine λJ Q O e w a U h=>wpIn_block (aBE (ih J _ _ e w a U h) ?_);rintro ex V Y (⟨X,I,h1,j⟩|⟨m,I,h1,j⟩);cases ex with
  |exit i=>
   simp only[bX] at j;simp only[Exit.inBlock];cases hb:Nat.beq i id with
   |true=>grind
   |false=>
    rw[hb] at j;rw[By (by intro e1;subst e1;simp at hb)];exact .inl ⟨E_,I,h1,j⟩
  |normal=>grind
  |_=>exact .inl ⟨E_,I,h1,j⟩
  cases ex with
  |exit i=>
   simp only[xR] at j;simp only[Exit.inBlock];cases hb:Nat.beq i id with
   |true=>rw[hb] at j;rw[Ix (sY hb)];exact .inr ⟨m,I,h1,j⟩
   |false=>
    rw[hb] at j;rw[By (by intro e1;subst e1;simp at hb)];exact .inr ⟨m,I,h1,j⟩
  |_=>exact .inr ⟨m,I,h1,j⟩
 |rangeFunc g ps x y _ _=>
  intro J Q O e w a U h;cases J with
  |node L W a1 a2=>
   simp only[DM] at h;cases hb:(Qe x&&Qe y) with
   |false=>grind
   |true=>
    simp only[hb,aBP] at h;simp only[aE] at hb;apply aBE (U9 N hm U hb.1 hb.2 h);rintro ex V Y ⟨h1,j⟩;refine .inr ⟨_,e,h1,?_⟩;cases ex with
    |normal=>exact j
    |ret=>exact j
    |exit i=>exact eO (Q:=λi W=>Q w.heap.size (.exit i) e W) j
    |_=>exact j.elim
  |_=>exact h.elim
 |_=>intro J Q O e w a U h;exact h.elim
end
section
variable {P:Program}{ok:Nat->Bool}{n:Nat}
def PN(m:Nat)(K:c_->Prop)(w:c_):Prop:=w.heap[m]?=some (.deferred (some []))/\K (w.putObj m (.deferred none))
def Pm(P:Program)(m:Nat)(rs:List ResultVar)(K:Cont):EQ:=λex e w=>match ex with
 |.normal=>PN m (λw=>P3 P rs e w λvs=>K (Ye vs) w) w
 |.ret=>PN m (λw=>P3 P rs e w λvs=>K (Ye vs) w) w
 |_=>False
def cM{g:Nat}{fn:Func}{c:Code}{rs:List ResultVar}{V:Hp}(J:DU P ok)(hm:P.follows .mixedOrders=true)(Y:P.funcs[g]?=some fn) (hb:fn.body=some c)(Z:fn.ntmps=n)(N:fn.results.toList=rs)(hl:Nat.ble args.length n=true)(h:DM P ok n c V (λm=>Pm P m rs K) (Kg P rs K) (Bf args) w):AD P g args K w:=by
 refine aDd.1 (callsIn_of_wp_marks (F:=Fence.wide) (n:=0) Y hb trivial ?_);have O:=aAl hl;subst Z N;apply aBE (jl J hm c V _ _ _ w _ (Zf O) h);rintro ex X I (⟨a1,e,h1,j⟩|⟨m,e,h1,j⟩);cases ex with
 |normal=>grind
 |ret=>
  obtain⟨v,Q,U⟩:=JM h1 j;show LeavesInM _ _ _ _ _ _ _ _ _;rw[h1.defers];exact⟨v,Q,v,rfl,U⟩
 |_=>exact j.elim
 have key:∀(j:PN m (λw=>P3 P fn.results.toList e w λvs=>K (Ye vs) w) I),LeavesInM Fence.wide 0 P fn X.tmps (λe I=>∃v,e=.returned v/\K v I) X.defers .returning I:=by
  rintro⟨h3,Q⟩;obtain⟨v,U,h6⟩:=JM h1 Q;rw[h1.defers];exact⟨E_,.inl ⟨_,_,rfl,run_takeDeferred h3,v,U,v,rfl,h6⟩⟩
 cases ex with
 |normal=>exact key j
 |ret=>exact key j
 |_=>exact j.elim
end
section
def NC:Code->Bool
 |.rangeFunc ..=>true
 |.seq a b=>NC a||NC b
 |.cond _ a b=>NC a||NC b
 |.block _ a=>NC a
 |.loop a=>NC a
 |.scope a=>NC a
 |_=>false
def tV(j:U_)(N:X_)(F:U_->X_->(U_->X_->c_->Prop)->c_->Prop)(w:c_):Prop:=∃(I:U_->X_->c_->Prop) (μ:U_->c_->Nat),I j N w/\∀vs N w,I vs N w->F vs N (λJ O w'=>I J O w'/\μ J w'<μ vs w) w
section
variable (P:Program)(ok:Nat->Bool)(n:Nat)
end
variable {P:Program}{ok:Nat->Bool}{n:Nat}
def Y3:X_->(c_->Prop)->c_->Prop
 |[],K,w=>K w
 |m::j,K,w=>w.heap[m]?=some (.deferred (some []))/\Y3 j K (w.putObj m (.deferred none))
end
structure AvK where
 E:Nat
 one:Bool
 zE:U_
 te:Nat
 tn:Nat
 ts:Nat
 tp:Nat
 tps:Nat
 tt:Nat
 tT:Nat
 tk:Nat
 tA:Nat
 fat:Nat
 ftotals:Nat
 fset:Nat
 flift:Nat
 flean:Nat
 fbalance:Nat
 fjoin:Nat
 ffirst:Nat
 flast:Nat
 fconcat:Nat
 fsplit:Nat
 fdrop:Nat
 fpick:Nat
 fmelded:Nat
 fReplace:Nat
 fover:Nat
 fOver:Nat
 fOverf:Nat
 fSize:Nat
 fNew:Nat
 aTake:Nat
 aasked:Nat
 aFree:Nat
 aAt:Nat
 aPut:Nat
 aNew:Nat
 vm:b_
 vc:b_
 vd:b_
def AvK.zN(g:AvK):U_:=g.zE++[zIq 0,zIq 0,zIq 0,zIq 0,zIq 0]
def AvK.zP(g:AvK):U_:=g.zE++[zIq 0,zIq 0,zIq 0,zIq 0,zIq 0,.bool false]
def UY(g:AvK)(St:Addr->b_->Prop)(x:b_)(k:b_->Prop):Prop:=bif g.one then EV St x k else Ij St g.E x k
def Gat(g:AvK)(v0 v1:b_)(K:Cont)(w:c_):Prop:=Cv g.tn g.zN (λt4 Q=>Aw v0 λt9=>BX 3 t9 λI=>BR I (λJ w2=>l_ g.aAt [J,v1] (λj U=>Az 0 j λN=>Az 1 j λ_t15=>Cv g.tn g.zN (λt5 w4=>Bv (g.E+5) t5 N (λV=>DJ (g.E+5) t5 (λO X=>Bv (g.E+5) t4 O (λY=>DJ (g.E+5) t4 (λZ w8=>K Z w8) Y) X) V) w4) U) w2) Q) w
def Z1(g:AvK)(v0 v1:b_)(K:Cont)(w:c_):Prop:=P2 .i64 v1 (zIq (-1)) λt9=>Af t9 (K (.tuple #[(zIq 0),(zIq 0),(zIq 0)]) w) (l_ g.fat [v0,v1] (λI X=>Cv g.tn g.zN (λj w2=>Bv (g.E+5) j I (λY=>Mj Y (λC=>BX (g.E+2) j λJ=>Ik C J λN=>BX (g.E+3) j λO=>Ik C O λQ=>BX (g.E+4) j λU=>Ik C U λV=>∀w4:c_,C w4->K (.tuple #[N,Q,V]) w4)) w2) X) w)
def wQ(g:AvK)(v0 v1 v2:b_)(K:Cont)(w:c_):Prop:=JK g.tn v2 (λt5 w1=>BX g.E t5 λQ=>BR Q (λU w2=>l_ g.ftotals [v0,U] (λI w3=>Az 0 I λV=>Az 1 I λX=>Az 2 I λY=>BX (g.E+1) t5 λZ=>BR Z (λt25 w4=>l_ g.ftotals [v0,t25] (λJ w5=>Az 0 J λa1=>Az 1 J λa6=>Az 2 J λa7=>DP [7] (i_ [0,1,3,7,15,0,32,127,255,511,511,1023,4095]) w5.drew (λM St=>Aw v0 λa8=>BX 0 a8 λaa=>BX 0 aa λak=>EV (St 4) ak λal=>BX 0 t5 λan=>UY g (St 6) an λav=>Bb prog EP al [av] (λN w6=>AF (M 7) w5.drew w6/\ Az 0 N λt39=>Az 1 N λax=>P6 .i64 V a1 λay=>Cl .i64 (zIq 1) ay λb0=>Cl .i64 X a6 λb6=>Cl .i64 b6 t39 λb7=>Cl .i64 Y a7 λb8=>Cl .i64 b8 ax λb9=>BX (g.E+2) t5 λt55=>Cc t55 b0 (λw7=>BX (g.E+3) t5 λba=>Cc ba b7 (λw8=>BX (g.E+4) t5 λbb=>Cc bb b9 (λw9=>DP [6] (i_ [0,1,3,7,0,0,63]) w9.drew (λbk j=>Aw v0 λbl=>BX 3 bl λbp=>EV (j 3) bp λbs=>Ij (j 5) (g.E+5) t5 λbx=>l_ g.aPut [bs,v1,bx] (λ_t64 O=>AF (bk 6) w9.drew O/\ K (.tuple #[]) O) w9.drew)) w8) w7) w6) w5.drew)) w4) w3) w2) w1) w
def lK(g:AvK)(v0 v1 v2:b_)(K:Cont)(w:c_):Prop:=l_ g.fat [v0,v1] (λO w1=>Cv g.tn g.zN (λI w2=>Bv (g.E+5) I O (λw3=>Af v2 (BX g.E I λQ=>BR Q (λJ w4=>l_ g.fat [v0,J] (λU w5=>Cv g.tn g.zN (λt9 w6=>Bv (g.E+5) t9 U (λw7=>BX (g.E+1) t9 λV=>BR V (λX w8=>BX g.E I λt22=>Cc t22 X (λw9=>DJ (g.E+5) I (λt25 Y=>l_ g.fset [v0,v1,t25] (λ_t26 Z=>BX (g.E+1) t9 λa1=>Cc a1 v1 (λa6=>DJ (g.E+5) t9 (λa7 a8=>l_ g.fset [v0,J,a7] (λ_t32 aa=>K J aa) a8) a6) Z) Y) w9) w8) w7) w6) w5) w4) w3) (BX (g.E+1) I λak=>BR ak (λN al=>l_ g.fat [v0,N] (λan av=>Cv g.tn g.zN (λj ax=>Bv (g.E+5) j an (λay=>BX g.E j λb0=>BR b0 (λt39 b6=>BX (g.E+1) I λb7=>Cc b7 t39 (λb8=>DJ (g.E+5) I (λb9 ba=>l_ g.fset [v0,v1,b9] (λ_t44 bb=>BX g.E j λt46=>Cc t46 v1 (λbk=>DJ (g.E+5) j (λbl bp=>l_ g.fset [v0,N,bl] (λ_t50 bs=>K N bs) bp) bk) bb) ba) b8) b6) ay) ax) av) al) w3)) w2) w1) w
def sy(g:AvK)(v0 v1:b_)(K:Cont)(w:c_):Prop:=l_ g.fat [v0,v1] (λJ Y=>Cv g.tn g.zN (λt5 w2=>Bv (g.E+5) t5 J (λZ=>BX g.E t5 λN=>BR N (λO w4=>l_ g.ftotals [v0,O] (λj w5=>Az 0 j λQ=>Az 1 j λ_t21=>Az 2 j λ_t22=>BX (g.E+1) t5 λt25=>BR t25 (λU w6=>l_ g.ftotals [v0,U] (λI w7=>Az 0 I λV=>Az 1 I λ_t29=>Az 2 I λ_t30=>EO .i64 Q V λX=>K X w7) w6) w5) w4) Z) w2) Y) w
def Vd(g:AvK)(v0 v1 v2:b_)(K:Cont)(w:c_):Prop:=JK g.tn v2 (λt5 w1=>DJ (g.E+5) t5 (λO w2=>l_ g.fset [v0,v1,O] (λ_t11 w3=>l_ g.flean [v0,v1] (λJ w4=>Xq .i64 J (zIq 1) λQ=>Af Q (BX g.E t5 λU=>BR U (λV w5=>l_ g.flean [v0,V] (λX w6=>HZ .i64 X (zIq 0) λt22=>Af t22 (BX g.E t5 λY=>BR Y (λt25 w7=>l_ g.flift [v0,t25,(.bool false)] (λZ w8=>BX g.E t5 λa1=>Cc a1 Z (λw9=>DJ (g.E+5) t5 (λa6 a7=>l_ g.fset [v0,v1,a6] (λ_t31 a8=>l_ g.flift [v0,v1,(.bool true)] (λaa ak=>K aa ak) a8) a7) w9) w8) w7) w6) (l_ g.flift [v0,v1,(.bool true)] (λj al=>K j al) w6)) w5) w4) (HZ .i64 J (zIq (-1)) λan=>Af an (BX (g.E+1) t5 λt39=>BR t39 (λav ax=>l_ g.flean [v0,av] (λay N=>Xq .i64 ay (zIq 0) λb0=>Af b0 (BX (g.E+1) t5 λb6=>BR b6 (λt45 b7=>l_ g.flift [v0,t45,(.bool true)] (λt46 b8=>BX (g.E+1) t5 λb9=>Cc b9 t46 (λba=>DJ (g.E+5) t5 (λt50 bb=>l_ g.fset [v0,v1,t50] (λ_t51 bk=>l_ g.flift [v0,v1,(.bool false)] (λbl bp=>K bl bp) bk) bb) ba) b8) b7) N) (l_ g.flift [v0,v1,(.bool false)] (λI bs=>K I bs) N)) ax) w4) (K v1 w4))) w3) w2) w1) w
def sV(g:AvK)(v0 v1 v2 v3:b_)(K:Cont)(w:c_):Prop:=l_ g.ftotals [v0,v1] (λN w1=>Az 0 N λt22=>Az 1 N λ_t23=>Az 2 N λ_t24=>l_ g.ftotals [v0,v3] (λO w2=>Az 0 O λQ=>Az 1 O λ_t30=>Az 2 O λ_t31=>Cl .i64 Q (zIq 1) λU=>Xq .i64 t22 U λV=>Af V (l_ g.fat [v0,v1] (λt39 w3=>Cv g.tn g.zN (λj w4=>Bv (g.E+5) j t39 (λw5=>BX (g.E+1) j λX=>BR X (λY w6=>l_ g.fjoin [v0,Y,v2,v3] (λt45 w7=>BX (g.E+1) j λt46=>Cc t46 t45 (λw8=>DJ (g.E+5) j (λZ w9=>l_ g.fbalance [v0,v1,Z] (λt50 a1=>K t50 a1) w9) w8) w7) w6) w5) w4) w3) w2) (Cl .i64 t22 (zIq 1) λa6=>Xq .i64 Q a6 λt55=>Af t55 (l_ g.fat [v0,v3] (λa7 a8=>Cv g.tn g.zN (λI aa=>Bv (g.E+5) I a7 (λak=>BX g.E I λal=>BR al (λan av=>l_ g.fjoin [v0,v1,v2,an] (λax ay=>BX g.E I λb0=>Cc b0 ax (λb6=>DJ (g.E+5) I (λb7 b8=>l_ g.fbalance [v0,v3,b7] (λb9 ba=>K b9 ba) b8) b6) ay) av) ak) aa) a8) w2) (l_ g.fat [v0,v2] (λbb bk=>Cv g.tn g.zN (λJ bl=>Bv (g.E+5) J bb (λbp=>BX g.E J λbs=>Cc bs v1 (λbx=>BX (g.E+1) J λt76=>Cc t76 v3 (λc4=>DJ (g.E+5) J (λc6 c7=>l_ g.fset [v0,v2,c6] (λ_t80 c8=>K v2 c8) c7) c4) bx) bp) bl) bk) w2))) w1) w
def jZ(g:AvK)(v0 v1:b_)(K:Cont)(w:c_):Prop:=l_ g.fat [v0,v1] (λt9 w1=>Cv g.tn g.zN (λj w2=>Bv (g.E+5) j t9 (λw3=>BX g.E j λJ=>BR J (λN w4=>P2 .i64 N (zIq (-1)) λO=>Af O (BX (g.E+1) j λQ=>BR Q (λU w5=>K (.tuple #[U,v1]) w5) w4) (BX g.E j λV=>BR V (λX w6=>l_ g.ffirst [v0,X] (λI w7=>Az 0 I λY=>Az 1 I λt22=>BX g.E j λZ=>Cc Z Y (λw8=>DJ (g.E+5) j (λa1 w9=>l_ g.fbalance [v0,v1,a1] (λa6 a7=>K (.tuple #[a6,t22]) a7) w9) w8) w7) w6) w4)) w3) w2) w1) w
def tC(g:AvK)(v0 v1:b_)(K:Cont)(w:c_):Prop:=l_ g.fat [v0,v1] (λt9 w1=>Cv g.tn g.zN (λj w2=>Bv (g.E+5) j t9 (λw3=>BX (g.E+1) j λJ=>BR J (λN w4=>P2 .i64 N (zIq (-1)) λO=>Af O (BX g.E j λQ=>BR Q (λU w5=>K (.tuple #[U,v1]) w5) w4) (BX (g.E+1) j λV=>BR V (λX w6=>l_ g.flast [v0,X] (λI w7=>Az 0 I λY=>Az 1 I λt22=>BX (g.E+1) j λZ=>Cc Z Y (λw8=>DJ (g.E+5) j (λa1 w9=>l_ g.fbalance [v0,v1,a1] (λa6 a7=>K (.tuple #[a6,t22]) a7) w9) w8) w7) w6) w4)) w3) w2) w1) w
def aM(g:AvK)(v0 v1 v2:b_)(K:Cont)(w:c_):Prop:=P2 .i64 v1 (zIq (-1)) λI=>Af I (K v2 w) (l_ g.flast [v0,v1] (λj O=>Az 0 j λJ=>Az 1 j λN=>l_ g.fjoin [v0,J,N,v2] (λt22 w2=>K t22 w2) O) w)
def Yc(g:AvK)(v0 v1 v2:b_)(K:Cont)(w:c_):Prop:=P2 .i64 v1 (zIq (-1)) λgb=>Af gb (K (.tuple #[(zIq (-1)),(zIq (-1))]) w) (l_ g.fat [v0,v1] (λt22 w1=>Cv g.tn g.zN (λO w2=>Bv (g.E+5) O t22 (λw3=>BX g.E O λt25=>BR t25 (λgd w4=>l_ g.ftotals [v0,gd] (λb9 w5=>Az 0 b9 λ_t28=>Az 1 b9 λay=>Az 2 b9 λ_t30=>DP [7] (i_ [0,1,3,7,15,0,32,127,255,511,511,1023,4095]) w5.drew (λM St=>Aw v0 λgf=>BX 0 gf λgg=>BX 0 gg λgl=>EV (St 4) gl λgm=>BX 0 O λgq=>UY g (St 6) gq λgu=>Bb prog EP gm [gu] (λt39 w6=>AF (M 7) w5.drew w6/\ Az 0 t39 λe9=>Az 1 t39 λ_t41=>fX .i64 v2 ay λt45=>Af t45 (BX g.E O λgv=>BR gv (λgw w7=>l_ g.fsplit [v0,gw,v2] (λea w8=>Az 0 ea λgx=>Az 1 ea λt53=>BX (g.E+1) O λgy=>BR gy (λgA w9=>l_ g.fjoin [v0,t53,v1,gA] (λgB gD=>K (.tuple #[gx,gB]) gD) w9) w8) w7) w6) (Cl .i64 ay e9 λgO=>Xf .i64 v2 gO λt66=>Af t66 (BX (g.E+1) O λgR=>BR gR (λt70 gW=>EO .i64 v2 ay λh0=>EO .i64 h0 e9 λh2=>l_ g.fsplit [v0,t70,h2] (λt76 h3=>Az 0 t76 λt77=>Az 1 t76 λh4=>BX g.E O λh5=>BR h5 (λh6 h7=>l_ g.fjoin [v0,h6,v1,t77] (λh8 h9=>K (.tuple #[h8,h4]) h9) h7) h3) gW) w6) (Dm (λvs hd=>∀_:Env,Mj hd (λC=>BX g.E O λec=>Ik C ec λed=>BX (g.E+1) O λee=>Ik C ee λef=>∀eh:c_,C eh->DJ g.E (Bf vs 0) (λej hf=>BX 0 O λek=>Bv g.E ek ej (λba=>DP [6] (i_ [0,1,3,7,0,0,63]) ba.drew (λhg b6=>Aw v0 λen=>BX 3 en λeo=>EV (b6 3) eo λep=>Ij (b6 5) (g.E+5) O λer=>l_ g.aPut [ep,v1,er] (λ_t112 b0=>AF (hg 6) ba.drew b0/\ DP [3,11,13] (i_ [0,0,0,7,0,0,32,96,224,0,512,2031,0,8191,16383,32767]) b0.drew (λbb b7=>l_ g.fjoin [v0,ed,v1,(zIq (-1))] (λet bk=>AF (bb 3) b0.drew bk/\ Aw v0 λeu=>BX 3 eu λew=>EV (b7 8) ew λez=>Ij (b7 9) g.E (Bf vs 1) λeA=>DQ [(0,g.E),(g.E,1),(g.E+1,1),(g.E+2,1),(g.E+3,1),(g.E+4,1)] g.zN [(0,eA)] λeB=>l_ g.aTake [ez,eB] (λeC bl=>AF (bb 11) bk bl/\ l_ g.fjoin [v0,(zIq (-1)),eC,ef] (λeH eI=>AF (bb 13) bl eI/\ K (.tuple #[et,eH]) eI) bl) bk) b0.drew)) ba.drew)) hf) eh)) (λJ=>DP [10,14,15,16,17] (i_ [0,1,3,7,15,0,32,0,0,384,1023,2047,4095,4095,0,0,57343,131071]) w6.drew (λj b8=>Aw v0 λhh=>BX 0 hh λhj=>BX 1 hj λhn=>EV (b8 4) hn λQ=>BX 0 O λho=>Ij (b8 6) g.E ho λU=>EO .i64 v2 ay λV=>(Bb prog EP Q [U,V] (λeL X=>AF (j 10) w6.drew X/\ Az 0 eL λeN=>Az 1 eL λeR=>(Cv g.te g.zE (λeX bp=>AF (j 14) X bp/\ Cv g.te g.zE (λfa bs=>AF (j 15) bp bs/\ Bv g.E eX eN (λbx=>AF (j 16) bs bx/\ Bv g.E fa eR (λfo=>AF (j 17) bx fo/\ J [eX,fa] fo) bx) bs) bp) X)/\ (Cv g.te g.zE (λY c4=>AF (j 15) X c4/\ Cv g.te g.zE (λZ c6=>AF (j 14) c4 c6/\ Bv g.E Z eN (λc7=>AF (j 16) c6 c7/\ Bv g.E Y eR (λfs=>AF (j 17) c7 fs/\ J [Z,Y] fs) c7) c6) c4) X)) w6.drew)/\ ((Cv g.te g.zE (λI a1=>AF (j 14) w6.drew a1/\ (Bb prog EP Q [U,V] (λa6 c8=>AF (j 10) a1 c8/\ Az 0 a6 λc9=>Az 1 a6 λca=>Cv g.te g.zE (λa7 cc=>AF (j 15) c8 cc/\ Bv g.E I c9 (λcq=>AF (j 16) cc cq/\ Bv g.E a7 ca (λfv=>AF (j 17) cq fv/\ J [I,a7] fv) cq) cc) c8) a1)/\ (Cv g.te g.zE (λa8 cu=>AF (j 15) a1 cu/\ Bb prog EP Q [U,V] (λaa cx=>AF (j 10) cu cx/\ Az 0 aa λda=>Az 1 aa λdk=>Bv g.E I da (λdr=>AF (j 16) cx dr/\ Bv g.E a8 dk (λfx=>AF (j 17) dr fx/\ J [I,a8] fx) dr) cx) cu) a1)) w6.drew)/\ (Cv g.te g.zE (λN ak=>AF (j 15) w6.drew ak/\ (Bb prog EP Q [U,V] (λal dz=>AF (j 10) ak dz/\ Az 0 al λdT=>Az 1 al λe1=>Cv g.te g.zE (λan e2=>AF (j 14) dz e2/\ Bv g.E an dT (λe3=>AF (j 16) e2 e3/\ Bv g.E N e1 (λfy=>AF (j 17) e3 fy/\ J [an,N] fy) e3) e2) dz) ak)/\ (Cv g.te g.zE (λav e4=>AF (j 14) ak e4/\ Bb prog EP Q [U,V] (λax e5=>AF (j 10) e4 e5/\ Az 0 ax λe6=>Az 1 ax λe7=>Bv g.E av e6 (λe8=>AF (j 16) e5 e8/\ Bv g.E N e7 (λga=>AF (j 17) e8 ga/\ J [av,N] ga) e8) e5) e4) ak)) w6.drew))))))) w5.drew)) w4) w3) w2) w1) w)
def mz(g:AvK)(v0 v1:b_)(K:Cont)(w:c_):Prop:=P2 .i64 v1 (zIq (-1)) λV=>Af V (K (.tuple #[]) w) (l_ g.fat [v0,v1] (λt9 X=>Cv g.tn g.zN (λt4 w2=>Bv (g.E+5) t4 t9 (λY=>BX g.E t4 λj=>BR j (λI w4=>l_ g.fdrop [v0,I] (λ_t13 Z=>BX (g.E+1) t4 λJ=>BR J (λN w6=>l_ g.fdrop [v0,N] (λ_t17 w7=>Aw v0 λO=>BX 3 O λQ=>BR Q (λU w8=>l_ g.aFree [U,v1] (λ_t23 w9=>K (.tuple #[]) w9) w8) w7) w6) Z) w4) Y) w2) X) w)
def tK(g:AvK)(v0 v1:b_)(K:Cont)(w:c_):Prop:=Cv g.te g.zE (λt4 Q=>l_ g.fat [v0,v1] (λU w2=>runK prog (Instr.field g.tn U 0) (λt9 V=>Cv g.te g.zE (λt5 w4=>Bv g.E t5 t9 (λX=>Aw v0 λj=>BX 3 j λI=>BR I (λJ Y=>l_ g.aFree [J,v1] (λ_t15 Z=>DJ g.E t5 (λN w8=>Bv g.E t4 N (λw9=>DJ g.E t4 (λr0 O=>K r0 O) w9) w8) Z) Y) X) w4) V) w2) Q) w
def bC(g:AvK)(v0 v1:b_)(K:Cont)(w:c_):Prop:=Dz v1 λb7=>GM [g_,(zIq 0)] (λvs j w1=>∀_:Env,HZ .i64 (Bf vs 1) b7 λb8=>Af b8 (KY g.E v1 (Bf vs 1) λb9=>DJ g.E b9 (λba w2=>Cv g.te g.zE (λt6 w3=>Bv g.E t6 ba (λw4=>DP [6] (i_ [0,1,3,7,15,0,63,127,255,255,511,2047]) w4.drew (λM St=>Aw v0 λbb=>BX 0 bb λbk=>BX 0 bk λt22=>EV (St 4) t22 λbl=>Ij (St 5) g.E t6 λbp=>Bb prog EP bl [bp] (λt25 U=>AF (M 6) w4.drew U/\ Az 0 t25 λbs=>Az 1 t25 λ_t27=>P2 .i64 bs (zIq 0) λbx=>Af bx (Cl .i64 (Bf vs 1) (zIq 1) λc4=>j [(Bf vs 0),c4] U) (Dm (λ_vs_1 w6=>∀_:Env,DJ g.E t6 (λt55 w7=>EE g.te g.E 1 g.zE [(0,t55)] (λc6 w8=>runK prog (Builtin.append_ #[g.ts,g.ts] g.ts [(Bf vs 0),c6].toArray) (λc7 w9=>Cl .i64 (Bf vs 1) (zIq 1) λX=>j [c7,X] w9) w8) w7) w6) (λJ=>Dz (Bf vs 0) λc8=>EO .i64 c8 (zIq 1) λY=>Xf .i64 Y (zIq 0) λc9=>Af c9 (Dm (λV al=>∀_:Env,Af (Bf V 1) (DJ g.E (Bf V 0) (λca cc=>KY g.E (Bf vs 0) Y λt53=>Bv g.E t53 ca (λcq=>Cl .i64 (Bf vs 1) (zIq 1) λZ=>j [(Bf vs 0),Z] cq) cc) al) (J [] al)) (λan=>DP [10,14,15] (i_ [0,1,3,7,15,0,0,96,224,0,1023,2047,4095,4095,0,24575,65535]) U.drew (λI N=>Aw v0 λcu=>BX 0 cu λcx=>BX 2 cx λt39=>EV (N 4) t39 λav=>KY g.E (Bf vs 0) Y λda=>Ij (N 8) g.E da λax=>Ij (N 9) g.E t6 λt45=>(Bb prog EP av [ax,t45] (λt46 a1=>AF (I 10) U.drew a1/\ Az 0 t46 λdk=>Az 1 t46 λdr=>Cv g.te g.zE (λay a6=>AF (I 14) a1 a6/\ Bv g.E ay dk (λb0=>AF (I 15) a6 b0/\ an [ay,dr] b0) a6) a1) U.drew)/\ (Cv g.te g.zE (λO a7=>AF (I 14) U.drew a7/\ Bb prog EP av [ax,t45] (λQ a8=>AF (I 10) a7 a8/\ Az 0 Q λaa=>Az 1 Q λak=>Bv g.E O aa (λb6=>AF (I 15) a8 b6/\ an [O,ak] b6) a8) a7) U.drew)))) (J [] U)))) w4.drew)) w3) w2) w1) (K (Bf vs 0) w1)) w
def Xa(g:AvK)(v0 v1 v2 v3:b_)(K:Cont)(w:c_):Prop:=Aw v0 λt22=>BX 4 t22 λaa=>BR aa (λak w1=>l_ g.fsplit [v0,ak,v1] (λX w2=>Az 0 X λN=>Az 1 X λal=>EO .i64 v2 v1 λan=>l_ g.fsplit [v0,al,an] (λY w3=>Az 0 Y λav=>Az 1 Y λO=>l_ g.fdrop [v0,av] (λ_t40 w4=>Dm (λvs w5=>∀_:Env,runK prog (Builtin.append_ #[g.ts,g.ts] g.ts [(Bf vs 1),v3].toArray) (λZ w6=>Dm (λI w7=>∀_:Env,l_ g.fmelded [v0,(Bf I 1)] (λt76 w8=>Dz t76 λt77=>GM [(Bf vs 0),(zIq 0)] (λj Q w9=>∀_:Env,HZ .i64 (Bf j 1) t77 λax=>Af ax (KY g.E t76 (Bf j 1) λay=>DJ g.E ay (λb0 b6=>Cv g.te g.zE (λa1 b7=>Bv g.E a1 b0 (λU=>DP [8,9] (i_ [0,0,0,4,12,28,0,64,252,511,1023]) U.drew (λM St=>Aw v0 λb8=>BX 3 b8 λb9=>EV (St 5) b9 λba=>Ij (St 6) g.E a1 λbb=>DQ [(0,g.E),(g.E,1),(g.E+1,1),(g.E+2,1),(g.E+3,1),(g.E+4,1)] g.zN [(0,bb)] λbk=>l_ g.aTake [ba,bk] (λbl V=>AF (M 8) U.drew V/\ l_ g.fjoin [v0,(Bf j 0),bl,(zIq (-1))] (λbp a6=>AF (M 9) V a6/\ Cl .i64 (Bf j 1) (zIq 1) λbs=>Q [bp,bs] a6) V) U.drew)) b7) b6) w9) (l_ g.fconcat [v0,(Bf j 0),(Bf I 0)] (λbx c4=>Aw v0 λc6=>BX 4 c6 λc7=>Cc c7 bx (λc8=>K (.tuple #[]) c8) c4) w9)) w8) w7) (λa7=>TB .i64 O (zIq (-1)) λc9=>Af c9 (l_ g.ffirst [v0,O] (λa8 ca=>Az 0 a8 λcc=>Az 1 a8 λt66=>l_ g.fpick [v0,t66] (λcq cu=>EE g.te g.E 1 g.zE [(0,cq)] (λcx da=>runK prog (Builtin.append_ #[g.ts,g.ts] g.ts [Z,cx].toArray) (λdk dr=>a7 [cc,dk] dr) da) cu) ca) w6) (a7 [O,Z] w6))) w5) (λJ=>TB .i64 N (zIq (-1)) λdz=>Af dz (l_ g.flast [v0,N] (λt46 dT=>Az 0 t46 λe1=>Az 1 t46 λe2=>l_ g.fpick [v0,e2] (λt53 e3=>EE g.te g.E 1 g.zE [(0,t53)] (λe4 e5=>runK prog (Builtin.append_ #[g.ts,g.ts] g.ts [g_,e4].toArray) (λt55 e6=>J [e1,t55] e6) e5) e3) dT) w4) (J [N,g_] w4))) w3) w2) w1) w
def gi(g:AvK)(v0 v1 v2 v3 v4:b_)(K:Cont)(w:c_):Prop:=Dm (λ_vs w1=>∀_:Env,l_ g.fat [v0,v1] (λcq w2=>Cv g.tn g.zN (λI w3=>Bv (g.E+5) I cq (λw4=>BX g.E I λcu=>BR cu (λcx w5=>l_ g.ftotals [v0,cx] (λZ w6=>Az 0 Z λ_t35=>Az 1 Z λj=>Az 2 Z λ_t37=>DP [7] (i_ [0,1,3,7,15,0,32,127,255,511,511,1023,4095]) w6.drew (λM St=>Aw v0 λda=>BX 0 da λdk=>BX 0 dk λdr=>EV (St 4) dr λdz=>BX 0 I λdT=>UY g (St 6) dT λt45=>Bb prog EP dz [t45] (λt46 w7=>AF (M 7) w6.drew w7/\ Az 0 t46 λO=>Az 1 t46 λ_t48=>Dm (λ_vs_1 w8=>∀_:Env,EO .i64 v2 j λt66=>P6 .i64 t66 (zIq 0) λa1=>EO .i64 v3 j λt70=>QB .i64 t70 O λa6=>Dm (λ_vs_2 w9=>∀_:Env,Cl .i64 j O λaa=>fX .i64 v3 aa λak=>Af ak (K (.bool true) w9) (BX (g.E+1) I λal=>BR al (λan e1=>EO .i64 v2 j λav=>EO .i64 av O λax=>P6 .i64 ax (zIq 0) λay=>EO .i64 v3 j λb0=>EO .i64 b0 O λb6=>l_ g.fover [v0,an,ay,b6,v4] (λb7 e2=>K b7 e2) e1) w9)) (λb8=>HZ .i64 a1 a6 λe3=>Af e3 (BX 0 I λt76=>DJ g.E t76 (λt77 e4=>Cv g.te g.zE (λN e5=>Bv g.E N t77 (λQ=>Dm (λ_vs_3 U=>∀_:Env,Dm (λ_vs_4 e6=>∀_:Env,DJ g.E N (λb9 e7=>Co prog EP v4 [b9] (λba bb=>MU ba λbk=>Af bk (K (.bool false) bb) (b8 [] bb)) e7) e6) (λbl=>Xq .i64 a1 (zIq 0) λe8=>Af e8 (DP [7,11] (i_ [0,1,3,7,15,0,0,127,255,511,511,2047]) U.drew (λbp V=>Aw v0 λe9=>BX 0 e9 λea=>BX 1 ea λec=>EV (V 4) ec λed=>Ij (V 5) g.E N λbs=>Bb prog EP ed [bs,a1] (λX a7=>AF (bp 7) U.drew a7/\ Az 0 X λ_t103=>Az 1 X λbx=>Bv g.E N bx (λc4=>AF (bp 11) a7 c4/\ bl [] c4) a7) U.drew)) (bl [] U))) (λc6=>HZ .i64 a6 O λee=>Af ee (DP [7,11] (i_ [0,1,3,7,15,0,0,127,255,511,511,1023]) Q.drew (λc7 Y=>Aw v0 λef=>BX 0 ef λeh=>BX 1 eh λej=>EV (Y 4) ej λek=>Ij (Y 5) g.E N λen=>Bb prog EP ek [en,a6] (λc8 a8=>AF (c7 7) Q.drew a8/\ Az 0 c8 λeo=>Az 1 c8 λ_t91=>Bv g.E N eo (λc9=>AF (c7 11) a8 c9/\ c6 [] c9) a8) Q.drew)) (c6 [] Q))) e5) e4) w8) (b8 [] w8))) (λca=>HZ .i64 v2 j λep=>Af ep (BX g.E I λer=>BR er (λt55 et=>QB .i64 v3 j λeu=>l_ g.fover [v0,t55,v2,eu,v4] (λew cc=>MU ew λez=>Af ez (K (.bool false) cc) (ca [] cc)) et) w7) (ca [] w7))) w6.drew)) w5) w4) w3) w2) w1) (λJ=>P2 .i64 v1 (zIq (-1)) λeA=>Af eA (K (.bool true) w) (Xf .i64 v2 v3 λt25=>Af t25 (K (.bool true) w) (J [] w)))
def kX(g:AvK)(v0 v1 v2:b_)(K:Cont)(w:c_):Prop:=OD g.tt v0 (λt3 j=>OD 3 v1 (λt4 w2=>OD 3 v2 (λt5 I=>K (.func (.func g.fOverf) #[] #[t3,t4,t5]) I) w2) j) w
def iA(g:AvK)(v0 v1 v2 v3:b_)(K:Cont)(w:c_):Prop:=DP [8] (i_ [0,0,2,6,14,0,0,0,255]) w.drew (λM St=>EV (St 0) v1 λt5=>EV (St 1) v1 λN=>Aw N λO=>BX 4 O λQ=>EV (St 4) Q λt9=>EV (St 5) v2 λj=>EV (St 6) v3 λI=>l_ g.fover [t5,t9,j,I,v0] (λ_t13 J=>AF (M 8) w.drew J/\ K (.tuple #[]) J) w.drew)
def sP(g:AvK)(v0:b_)(K:Cont)(w:c_):Prop:=Aw v0 λt9=>BX 4 t9 λI=>BR I (λJ O=>l_ g.ftotals [v0,J] (λj w2=>Az 0 j λ_t13=>Az 1 j λN=>Az 2 j λ_t15=>K N w2) O) w
def hU(g:AvK)(v0 v1:b_)(K:Cont)(w:c_):Prop:=JK g.tn v1 (λt3 w1=>JI v0 λb8=>Af (.bool b8) (K (zIq (-1)) w1) (Aw v0 λU=>BX 1 U λV=>BR V (λX w2=>Dz X λY=>EO .i64 Y (zIq 1) λI=>Xf .i64 I (zIq 0) λZ=>Af Z (Aw v0 λa1=>BX 1 a1 λa6=>BR a6 (λa7 w3=>KY 1 a7 I λt22=>BR t22 (λO w4=>Aw v0 λa8=>BX 1 a8 λaa=>BR aa (λak w5=>runK prog (Instr.sliceAt 119 ak none (some I) none) (λal w6=>Aw v0 λan=>BX 1 an λav=>Cc av al (λw7=>DP [8] (i_ [0,1,3,7,0,0,32,127,255]) w7.drew (λM St=>Aw v0 λax=>BX 0 ax λay=>EV (St 3) ay λb0=>Ij (St 5) (g.E+5) t3 λb6=>DQ [(0,g.E+5),(g.E+5,1)] g.zP [(0,b6),(1,(.bool true))] λt39=>KY (g.E+6) b0 O λb7=>Bv (g.E+6) b7 t39 (λw8=>AF (M 8) w7.drew w8/\ K O w8) w7.drew)) w6) w5) w4) w3) w2) (DP [7,8,11] (i_ [0,0,2,6,14,0,32,96,254,511,1023,2047]) w2.drew (λJ j=>Aw v0 λb9=>BX 0 b9 λt45=>EV (j 4) t45 λt46=>Ij (j 5) (g.E+5) t3 λba=>DQ [(0,g.E+5),(g.E+5,1)] g.zP [(0,ba),(1,(.bool true))] λbb=>EE g.tp (g.E+6) 1 g.zP [(0,bb)] (λbk w9=>AF (J 7) w2.drew w9/\ runK prog (Builtin.append_ #[g.tps,g.tps] g.tps [t46,bk].toArray) (λt50 N=>AF (J 8) w9 N/\ Aw v0 λbl=>BX 0 bl λbp=>Cc bp t50 (λQ=>AF (J 11) N Q/\ Aw v0 λbs=>BX 0 bs λt55=>BR t55 (λbx c4=>Dz bx λc6=>EO .i64 c6 (zIq 1) λc7=>K c7 c4) Q) N) w9) w2.drew))) w1)) w
def ai(g:AvK)(v0 v1:b_)(K:Cont)(w:c_):Prop:=JI v0 λb7=>Af (.bool b7) (K (zIq 1) w) (HZ .i64 v1 (zIq 0) λj=>Af j (K (zIq 5) w) (Aw v0 λI=>BX 0 I λJ=>BR J (λN w1=>Dz N λO=>Xf .i64 v1 O λQ=>Af Q (K (zIq 5) w1) (Aw v0 λt22=>BX 0 t22 λU=>BR U (λV w2=>KY (g.E+6) V v1 λX=>BX (g.E+5) X λY=>BR Y (λZ w3=>MU Z λa1=>Af a1 (K (zIq 5) w3) (K (zIq 0) w3)) w2) w1)) w))
def jI(g:AvK)(v0 v1:b_)(K:Cont)(w:c_):Prop:=l_ g.aasked [v0,v1] (λt8 w1=>TB .i64 t8 (zIq 0) λj=>Af j (K t8 w1) (Aw v0 λI=>BX 0 I λJ=>BR J (λN w2=>DQ [(0,g.E+5),(g.E+5,1)] g.zP [] λO=>KY (g.E+6) N v1 λQ=>Bv (g.E+6) Q O (λw3=>Aw v0 λU=>BX 1 U λt22=>BR t22 (λV w4=>EE 3 1 1 [(zIq 0)] [(0,v1)] (λt25 w5=>runK prog (Builtin.append_ #[119,119] 119 [V,t25].toArray) (λX w6=>Aw v0 λY=>BX 1 Y λZ=>Cc Z X (λw7=>K (zIq 0) w7) w6) w5) w4) w3) w2) w1)) w
def xW(g:AvK)(v0 v1:b_)(K:Cont)(w:c_):Prop:=Cv g.tn g.zN (λt4 Z=>l_ g.aasked [v0,v1] (λj w2=>TB .i64 j (zIq 0) λJ=>Af J (Cv g.tn g.zN (λt7 w3=>DJ (g.E+5) t7 (λN w4=>Bv (g.E+5) t4 N (λw5=>DJ (g.E+5) t4 (λr0 w6=>K (.tuple #[r0,j]) w6) w5) w4) w3) w2) (Aw v0 λO=>BX 0 O λQ=>BR Q (λU w7=>KY (g.E+6) U v1 λV=>BX 0 V λX=>DJ (g.E+5) X (λt22 w8=>Bv (g.E+5) t4 t22 (λw9=>DJ (g.E+5) t4 (λI Y=>K (.tuple #[I,(zIq 0)]) Y) w9) w8) w7) w2)) Z) w
def sj(g:AvK)(v0 v1 v2:b_)(K:Cont)(w:c_):Prop:=JK g.tn v2 (λt5 Y=>l_ g.aasked [v0,v1] (λj w2=>TB .i64 j (zIq 0) λI=>Af I (K j w2) (DP [8] (i_ [0,1,3,7,0,0,63,127,255]) w2.drew (λM St=>Aw v0 λJ=>BX 0 J λN=>EV (St 3) N λO=>Ij (St 5) (g.E+5) t5 λQ=>KY (g.E+6) O v1 λU=>BX 0 U λV=>Bv (g.E+5) V Q (λX=>AF (M 8) w2.drew X/\ K (zIq 0) X) w2.drew))) Y) w
def sS(g:AvK)(v0:b_)(K:Cont)(w:c_):Prop:=JK g.tk v0 (λJ j=>DP [1,3] (i_ [0,0,3,7,15]) j.drew (λM St=>Ij (St 0) 3 J λt3=>l_ g.aNew [] (λt4 w2=>AF (M 1) j.drew w2/\ DQ [(0,3),(3,1),(4,1)] [.nilFunc,.nilFunc,.nilFunc,(.pointer none),(zIq 0)] [(0,t3),(1,t4),(2,(zIq (-1)))] λt5=>JK g.tT t5 (λN I=>AF (M 3) w2 I/\ K N I) w2) j.drew)) w
def tM(g:AvK)(K:Cont)(w:c_):Prop:=DQ [(0,1),(1,1)] [g_,g_] [] λj=>JK g.tA j (λI J=>K I J) w
def iL(g:AvK)(v0:b_)(K:Cont)(w:c_):Prop:=Aw v0 λt9=>BX 4 t9 λI=>BR I (λJ O=>l_ g.ftotals [v0,J] (λj w2=>Az 0 j λ_t13=>Az 1 j λ_t14=>Az 2 j λN=>K N w2) O) w
def gE(g:AvK)(v0 v1 v2:b_)(K:Cont)(w:c_):Prop:=Aw v0 λV=>BX 4 V λX=>BR X (λY w1=>GM [v1,(zIq 0),Y] (λvs j w2=>∀_:Env,TB .i64 (Bf vs 2) (zIq (-1)) λZ=>Af Z (l_ g.fat [v0,(Bf vs 2)] (λt22 w3=>Cv g.tn g.zN (λN w4=>Bv (g.E+5) N t22 (λw5=>BX g.E N λt25=>BR t25 (λa1 w6=>l_ g.ftotals [v0,a1] (λJ w7=>Az 0 J λ_t28=>Az 1 J λI=>Az 2 J λO=>DP [7] (i_ [0,1,3,7,15,0,32,127,255,511,511,1023,4095]) w7.drew (λM St=>Aw v0 λa6=>BX 0 a6 λa7=>BX 0 a7 λa8=>EV (St 4) a8 λaa=>BX 0 N λak=>UY g (St 6) ak λal=>Bb prog EP aa [al] (λt39 U=>AF (M 7) w7.drew U/\ Az 0 t39 λQ=>Az 1 t39 λan=>fX .i64 (Bf vs 0) I λav=>Af av (BX g.E N λax=>BR ax (λay w9=>j [(Bf vs 0),(Bf vs 1),ay] w9) U) (Cl .i64 I Q λb0=>HZ .i64 (Bf vs 0) b0 λb6=>Af b6 (Cl .i64 (Bf vs 1) O λb7=>BX 0 N λt70=>DJ g.E t70 (λb8 b9=>EO .i64 (Bf vs 0) I λba=>Co prog EP v2 [b8,ba] (λbb bk=>Cl .i64 b7 bb λt76=>K t76 bk) b9) U) (Cl .i64 O an λt45=>Cl .i64 (Bf vs 1) t45 λt46=>Cl .i64 I Q λt50=>EO .i64 (Bf vs 0) t50 λbl=>BX (g.E+1) N λbp=>BR bp (λt53 bs=>j [bl,t46,t53] bs) U))) w7.drew)) w6) w5) w4) w3) w2) (K (Bf vs 1) w2)) w1) w
def sr(g:AvK)(v0 v1 v2:b_)(K:Cont)(w:c_):Prop:=Aw v0 λV=>BX 4 V λX=>BR X (λY w1=>GM [v1,(zIq 0),Y] (λvs j w2=>∀_:Env,Dm (λ_vs_1 w3=>∀_:Env,l_ g.fat [v0,(Bf vs 2)] (λZ w4=>Cv g.tn g.zN (λt9 w5=>Bv (g.E+5) t9 Z (λw6=>BX g.E t9 λa1=>BR a1 (λa6 w7=>l_ g.ftotals [v0,a6] (λN w8=>Az 0 N λ_t33=>Az 1 N λO=>Az 2 N λI=>DP [7] (i_ [0,1,3,7,15,0,32,127,255,511,511,1023,4095]) w8.drew (λM St=>Aw v0 λa7=>BX 0 a7 λt39=>BX 0 t39 λa8=>EV (St 4) a8 λaa=>BX 0 t9 λak=>UY g (St 6) ak λal=>Bb prog EP aa [al] (λQ U=>AF (M 7) w8.drew U/\ Az 0 Q λt45=>Az 1 Q λt46=>HZ .i64 (Bf vs 0) I λan=>Af an (BX g.E t9 λav=>BR av (λax ay=>j [(Bf vs 0),(Bf vs 1),ax] ay) U) (Cl .i64 I t46 λb0=>HZ .i64 (Bf vs 0) b0 λt70=>Af t70 (Cl .i64 (Bf vs 1) O λb6=>BX 0 t9 λb7=>DJ g.E b7 (λt76 b8=>EO .i64 (Bf vs 0) I λb9=>Co prog EP v2 [t76,b9] (λba bb=>Cl .i64 b6 ba λbk=>K (.tuple #[bk,(.bool true)]) bb) b8) U) (Cl .i64 O t45 λt50=>Cl .i64 (Bf vs 1) t50 λbl=>Cl .i64 I t46 λt55=>EO .i64 (Bf vs 0) t55 λbp=>BX (g.E+1) t9 λbs=>BR bs (λbx c4=>j [bp,bl,bx] c4) U))) w8.drew)) w7) w6) w5) w4) w3) (λJ=>Xf .i64 (Bf vs 0) (zIq 0) λc6=>Af c6 (TB .i64 (Bf vs 2) (zIq (-1)) λc7=>Af c7 (J [] w2) (K (.tuple #[(zIq 0),(.bool false)]) w2)) (K (.tuple #[(zIq 0),(.bool false)]) w2))) w1) w
def VW(g:AvK)(v0 v1 v2:b_)(K:Cont)(w:c_):Prop:=P2 .i64 v1 (zIq (-1)) λc4=>Af c4 (K (.tuple #[(zIq (-1)),(zIq (-1))]) w) (l_ g.fat [v0,v1] (λt22 w1=>Cv g.tn g.zN (λj w2=>Bv (g.E+5) j t22 (λw3=>BX g.E j λt25=>BR t25 (λc6 w4=>l_ g.ftotals [v0,c6] (λQ w5=>Az 0 Q λ_t28=>Az 1 Q λI=>Az 2 Q λ_t30=>DP [7] (i_ [0,1,3,7,15,0,32,127,255,511,511,1023,4095]) w5.drew (λM St=>Aw v0 λc7=>BX 0 c7 λc8=>BX 0 c8 λc9=>EV (St 4) c9 λca=>BX 0 j λcc=>UY g (St 6) cc λcq=>Bb prog EP ca [cq] (λt39 Z=>AF (M 7) w5.drew Z/\ Az 0 t39 λa1=>Az 1 t39 λ_t41=>fX .i64 v2 I λt45=>Af t45 (BX g.E j λcu=>BR cu (λcx w7=>l_ g.fsplit [v0,cx,v2] (λa6 w8=>Az 0 a6 λda=>Az 1 a6 λt53=>BX (g.E+1) j λdk=>BR dk (λdr w9=>l_ g.fjoin [v0,t53,v1,dr] (λdz dT=>K (.tuple #[da,dz]) dT) w9) w8) w7) Z) (Cl .i64 I a1 λe1=>Xf .i64 v2 e1 λt66=>Af t66 (BX (g.E+1) j λe2=>BR e2 (λt70 e3=>EO .i64 v2 I λe4=>EO .i64 e4 a1 λe5=>l_ g.fsplit [v0,t70,e5] (λt76 e6=>Az 0 t76 λt77=>Az 1 t76 λe7=>BX g.E j λe8=>BR e8 (λe9 ea=>l_ g.fjoin [v0,e9,v1,t77] (λec ed=>K (.tuple #[ec,e7]) ed) ea) e6) e3) Z) (DP [10] (i_ [0,1,3,7,15,0,32,0,0,384,1023,2047,4095,4095,8191,32767]) Z.drew (λee N=>Aw v0 λef=>BX 0 ef λeh=>BX 1 eh λej=>EV (N 4) ej λek=>BX 0 j λen=>EV (N 6) en λeo=>EO .i64 v2 I λep=>Bb prog EP ek [eo,ep] (λa7 a8=>AF (ee 10) Z.drew a8/\ Az 0 a7 λer=>Az 1 a7 λet=>Mj a8 (λC=>BX g.E j λaa=>Ik C aa λak=>BX (g.E+1) j λal=>Ik C al λan=>∀av:c_,C av->BX 0 j λax=>Cc ax er (λU=>DP [6] (i_ [0,1,3,7,0,0,63]) U.drew (λeu O=>Aw v0 λay=>BX 3 ay λb0=>EV (O 3) b0 λb6=>Ij (O 5) (g.E+5) j λb7=>l_ g.aPut [b6,v1,b7] (λ_t112 J=>AF (eu 6) U.drew J/\ DP [3,11,13] (i_ [0,0,0,7,0,0,32,96,224,0,512,2031,0,8191,16383,32767]) J.drew (λV b8=>l_ g.fjoin [v0,ak,v1,(zIq (-1))] (λb9 X=>AF (V 3) J.drew X/\ Aw v0 λba=>BX 3 ba λbb=>EV (b8 8) bb λbk=>DQ [(0,g.E),(g.E,1),(g.E+1,1),(g.E+2,1),(g.E+3,1),(g.E+4,1)] g.zN [(0,et)] λbl=>l_ g.aTake [bk,bl] (λbp Y=>AF (V 11) X Y/\ l_ g.fjoin [v0,(zIq (-1)),bp,an] (λbs bx=>AF (V 13) Y bx/\ K (.tuple #[b9,bs]) bx) Y) X) J.drew)) U.drew)) av)) Z.drew)))) w5.drew)) w4) w3) w2) w1) w)
def mH(g:AvK)(v0 v1:b_)(K:Cont)(w:c_):Prop:=l_ g.fat [v0,v1] (λN O=>runK prog (Instr.field g.tn N 0) (λt9 w2=>Aw v0 λj=>BX 3 j λI=>BR I (λJ Q=>l_ g.aFree [J,v1] (λ_t15 w4=>K t9 w4) Q) w2) O) w
def Wj(g:AvK)(v0 v1:b_)(K:Cont)(w:c_):Prop:=Dz v1 λU=>GM [g_,(zIq 0)] (λvs j w1=>∀_:Env,HZ .i64 (Bf vs 1) U λV=>Af V (KY g.E v1 (Bf vs 1) λX=>BR X (λI w2=>Aw v0 λY=>BX 0 Y λZ=>BX 0 Z λt22=>BR t22 (λa1 w3=>Co prog EP a1 [I] (λt25 w4=>Az 0 t25 λa6=>Az 1 t25 λ_t27=>P2 .i64 a6 (zIq 0) λa7=>Af a7 (Cl .i64 (Bf vs 1) (zIq 1) λa8=>j [(Bf vs 0),a8] w4) (Dm (λ_vs_1 w5=>∀_:Env,EE g.te g.E 1 g.zE [(0,I)] (λaa w6=>runK prog (Builtin.append_ #[g.ts,g.ts] g.ts [(Bf vs 0),aa].toArray) (λak w7=>Cl .i64 (Bf vs 1) (zIq 1) λN=>j [ak,N] w7) w6) w5) (λJ=>Dz (Bf vs 0) λal=>EO .i64 al (zIq 1) λO=>Xf .i64 O (zIq 0) λan=>Af an (DP [10] (i_ [0,1,3,7,15,0,0,96,224,0,1023,2047,4095,4095,8191,32767]) w4.drew (λM St=>Aw v0 λav=>BX 0 av λax=>BX 2 ax λt39=>EV (St 4) t39 λay=>KY g.E (Bf vs 0) O λb0=>EV (St 8) b0 λb6=>Bb prog EP ay [b6,I] (λt46 w8=>AF (M 10) w4.drew w8/\ Az 0 t46 λb7=>Az 1 t46 λb8=>Af b8 (KY g.E (Bf vs 0) O λt53=>Cc t53 b7 (λw9=>Cl .i64 (Bf vs 1) (zIq 1) λQ=>j [(Bf vs 0),Q] w9) w8) (J [] w8)) w4.drew)) (J [] w4)))) w3) w2) w1) (K (Bf vs 0) w1)) w
def UK(g:AvK)(v0 v1 v2 v3:b_)(K:Cont)(w:c_):Prop:=Aw v0 λt22=>BX 4 t22 λa1=>BR a1 (λa6 w1=>l_ g.fsplit [v0,a6,v1] (λU w2=>Az 0 U λN=>Az 1 U λa7=>EO .i64 v2 v1 λa8=>l_ g.fsplit [v0,a7,a8] (λV w3=>Az 0 V λaa=>Az 1 V λO=>l_ g.fdrop [v0,aa] (λ_t40 w4=>Dm (λvs w5=>∀_:Env,runK prog (Builtin.append_ #[g.ts,g.ts] g.ts [(Bf vs 1),v3].toArray) (λX w6=>Dm (λI w7=>∀_:Env,l_ g.fmelded [v0,(Bf I 1)] (λt76 w8=>Dz t76 λt77=>GM [(Bf vs 0),(zIq 0)] (λj Q w9=>∀_:Env,HZ .i64 (Bf j 1) t77 λak=>Af ak (KY g.E t76 (Bf j 1) λal=>BR al (λan av=>Aw v0 λax=>BX 3 ax λay=>BR ay (λb0 b6=>DQ [(0,g.E),(g.E,1),(g.E+1,1),(g.E+2,1),(g.E+3,1),(g.E+4,1)] g.zN [(0,an)] λb7=>l_ g.aTake [b0,b7] (λb8 b9=>l_ g.fjoin [v0,(Bf j 0),b8,(zIq (-1))] (λba bb=>Cl .i64 (Bf j 1) (zIq 1) λbk=>Q [ba,bk] bb) b9) b6) av) w9) (l_ g.fconcat [v0,(Bf j 0),(Bf I 0)] (λbl bp=>Aw v0 λbs=>BX 4 bs λbx=>Cc bx bl (λc4=>K (.tuple #[]) c4) bp) w9)) w8) w7) (λY=>TB .i64 O (zIq (-1)) λc6=>Af c6 (l_ g.ffirst [v0,O] (λZ c7=>Az 0 Z λc8=>Az 1 Z λt66=>l_ g.fpick [v0,t66] (λc9 ca=>EE g.te g.E 1 g.zE [(0,c9)] (λcc cq=>runK prog (Builtin.append_ #[g.ts,g.ts] g.ts [X,cc].toArray) (λcu cx=>Y [c8,cu] cx) cq) ca) c7) w6) (Y [O,X] w6))) w5) (λJ=>TB .i64 N (zIq (-1)) λda=>Af da (l_ g.flast [v0,N] (λt46 dk=>Az 0 t46 λdr=>Az 1 t46 λdz=>l_ g.fpick [v0,dz] (λt53 dT=>EE g.te g.E 1 g.zE [(0,t53)] (λe1 e2=>runK prog (Builtin.append_ #[g.ts,g.ts] g.ts [g_,e1].toArray) (λt55 e3=>J [dr,t55] e3) e2) dT) dk) w4) (J [N,g_] w4))) w3) w2) w1) w
def ZS(g:AvK)(v0 v1 v2 v3 v4:b_)(K:Cont)(w:c_):Prop:=Dm (λ_vs w1=>∀_:Env,l_ g.fat [v0,v1] (λbs w2=>Cv g.tn g.zN (λI w3=>Bv (g.E+5) I bs (λw4=>BX g.E I λbx=>BR bx (λc4 w5=>l_ g.ftotals [v0,c4] (λU w6=>Az 0 U λ_t35=>Az 1 U λj=>Az 2 U λ_t37=>DP [7] (i_ [0,1,3,7,15,0,32,127,255,511,511,1023,4095]) w6.drew (λM St=>Aw v0 λc6=>BX 0 c6 λc7=>BX 0 c7 λc8=>EV (St 4) c8 λc9=>BX 0 I λca=>UY g (St 6) ca λt45=>Bb prog EP c9 [t45] (λt46 w7=>AF (M 7) w6.drew w7/\ Az 0 t46 λN=>Az 1 t46 λ_t48=>Dm (λ_vs_1 w8=>∀_:Env,EO .i64 v2 j λt66=>P6 .i64 t66 (zIq 0) λV=>EO .i64 v3 j λt70=>QB .i64 t70 N λX=>Dm (λ_vs_2 w9=>∀_:Env,Cl .i64 j N λY=>fX .i64 v3 Y λZ=>Af Z (K (.bool true) w9) (BX (g.E+1) I λa1=>BR a1 (λa6 cc=>EO .i64 v2 j λa7=>EO .i64 a7 N λa8=>P6 .i64 a8 (zIq 0) λaa=>EO .i64 v3 j λak=>EO .i64 ak N λal=>l_ g.fover [v0,a6,aa,al,v4] (λan cq=>K an cq) cc) w9)) (λav=>HZ .i64 V X λcu=>Af cu (BX 0 I λt76=>BR t76 (λt77 ax=>Dm (λO ay=>∀_:Env,Dm (λb0 cx=>∀_:Env,Co prog EP v4 [(Bf b0 0)] (λb6 b7=>MU b6 λb8=>Af b8 (K (.bool false) b7) (av [] b7)) cx) (λb9=>Xq .i64 V (zIq 0) λda=>Af da (Aw v0 λdk=>BX 0 dk λdr=>BX 1 dr λdz=>BR dz (λdT e1=>Co prog EP dT [(Bf O 0),V] (λQ e2=>Az 0 Q λ_t103=>Az 1 Q λba=>b9 [ba] e2) e1) ay) (b9 [(Bf O 0)] ay))) (λbb=>HZ .i64 X N λe3=>Af e3 (Aw v0 λe4=>BX 0 e4 λe5=>BX 1 e5 λe6=>BR e6 (λe7 e8=>Co prog EP e7 [t77,X] (λbk e9=>Az 0 bk λea=>Az 1 bk λ_t91=>bb [ea] e9) e8) ax) (bb [t77] ax))) w8) (av [] w8))) (λbl=>HZ .i64 v2 j λec=>Af ec (BX g.E I λed=>BR ed (λt55 ee=>QB .i64 v3 j λef=>l_ g.fover [v0,t55,v2,ef,v4] (λeh bp=>MU eh λej=>Af ej (K (.bool false) bp) (bl [] bp)) ee) w7) (bl [] w7))) w6.drew)) w5) w4) w3) w2) w1) (λJ=>P2 .i64 v1 (zIq (-1)) λek=>Af ek (K (.bool true) w) (Xf .i64 v2 v3 λt25=>Af t25 (K (.bool true) w) (J [] w)))
structure As where
 AR:Int
 n:Int
 f:Int
 s:ByteArray
 deriving DecidableEq
structure Attr where
 key:Int
 val:As
 deriving DecidableEq
abbrev _root_.Go.V_:=List Attr
def As.cells(v:As):U_:=[.int .u8 v.AR,zIq v.n,.int .u64 v.f,.string v.s]
def Attr.cells(a:Attr):U_:=zIq a.key::a.val.cells
abbrev CC:c_->U_->Attr->Prop:=λ_ r x=>r=x.cells
abbrev Bo(S:d_)(w:c_)(v:b_)(l:V_):Prop:=Al S 5 CC w v l
def dE(a b:Attr)(w:c_) : (Op.equalIn 10000 143 (.agg a.cells.toArray) (.agg b.cells.toArray)).run prog w=.ok (decide (a=b)) w:=by
 have J:prog.underlying 143=some (.struct (prog.fieldsOf 143)):=D_;have N:prog.underlying 78=some (.struct (prog.fieldsOf 78)):=D_;have u1:=underlying3;have u2:=underlying5;have u3:=underlying2;have u4:=underlying76;have u5:=underlying9;rw[show(10000:Nat)=9999+1 from rfl,aCi w 9999 _ _ _ J Tryz.stoodInHeld143];simp only[Program.fieldsOf,underlying143,Attr.cells,As.cells];have O:=Tryz.isAgg3;have Q:=Tryz.isAgg78;have U:∀w,(sizeOf 78).run prog w=.ok 4 w:=λw=>by simp only[sizeOf,aR,Tryz.typeInfo78,Ty,aAY];rfl
 have Z:=Tryz.isAgg5;have a4:=Tryz.isAgg2;have a5:=Tryz.isAgg76;have V:∀(x y:As) (w:c_),(Op.equalIn 9999 78 (.agg #[.int .u8 x.AR,zIq x.n,.int .u64 x.f,.string x.s]) (.agg #[.int .u8 y.AR,zIq y.n,.int .u64 y.f,.string y.s])).run prog w=.ok (decide (x=y)) w:=by
  intro x y w;rw[show(9999:Nat)=9998+1 from rfl,aCi w 9998 _ _ _ N Tryz.stoodInHeld78];simp only[Program.fieldsOf,underlying78];have j:∀a b:Int,(Op.equalIn 9998 5 (.int .u8 a) (.int .u8 b)).run prog w=.ok (a==b) w:=by grind[run_equalIn_int]
  have I:∀a b:Int,(Op.equalIn 9998 2 (zIq a) (zIq b)).run prog w=.ok (a==b) w:=by grind[run_equalIn_int]
  have X:∀a b:Int,(Op.equalIn 9998 76 (.int .u64 a) (.int .u64 b)).run prog w=.ok (a==b) w:=by grind[run_equalIn_int]
  have Y:∀a b:ByteArray,(Op.equalIn 9998 9 (.string a) (.string b)).run prog w=.ok (a.toList==b.toList) w:=by grind[run_equalIn_string]
  have q:decide (x=y)=(x.AR==y.AR&&(x.n==y.n&&(x.f==y.f&&decide (x.s=y.s)))):=by
   cases x;cases y<;>grind
  rw[q];simp[Op.eqFields,part,Z,a4,a5,Tryz.isAgg9,j,I,X,Y,toList_beq];grind
 have j:∀a b:Int,(Op.equalIn 9999 3 (zIq a) (zIq b)).run prog w=.ok (a==b) w:=by grind[run_equalIn_int]
 have I:∀(x y:As) (w:c_),(Op.equalIn 9999 78 (.agg #[.int .u8 x.AR,zIq x.n,.int .u64 x.f,.string x.s]) (.agg #[.int .u8 y.AR,zIq y.n,.int .u64 y.f,.string y.s])).run prog w=.ok (decide (x=y)) w:=V;have q:decide (a=b)=(a.key==b.key&&decide (a.val=b.val)):=by
  cases a;cases b<;>grind
 rw[q];simp[Op.eqFields,part,O,Q,U,j,I a.val b.val w];grind
def WU(xo yo:Operand)(a b:Attr)(w:c_) : (Di .neq 143 xo yo (.agg a.cells.toArray) (.agg b.cells.toArray)).run prog w=.ok (.bool (!decide (a=b))) w:=by
 simp only[Di,aR,aCj w .neq _ xo yo _ _ Tryz.eqGuardType143,Ty];rw[aDS,dE];rfl
def GC:DD prog 47 143 5 48:=⟨Tryz.t143,.agg #[zIq 0,.int .u8 0,zIq 0,.int .u64 0,.string ⟨#[]⟩],D_,D_,D_,D_,D_,by rfl,C0⟩
def CC.one{r:U_}{x:Attr}(h:CC w r x):∀u∈r,u.oneCell'=true:=by
 intro u hu;subst h;simp only[Attr.cells,As.cells,S6,aAU,aBn] at hu;rcases hu with rfl|rfl|rfl|rfl|rfl<;>rfl
abbrev Kh(B:Nat)(w:c_)(v:b_)(l:V_):Prop:=AB B 143 5 CC w v l
structure Blk where
 n:Int
 set:V_
 deriving DecidableEq
structure Pr (T:Type) where
 Me:T
 AAY:T->T->T
 wJ:(Env->T)->T
 AAd:(c_->Prop)->(c_->T)->T
 zy:(Nat->d_)->Nat->c_->c_->T->T
 drw:c_->c_
 KM:c_->Nat
 un:b_
 c:{i1:b_}->b_
 ci:IntKind->Nat->b_
 cn:IntKind->Nat->b_
 UL:U_->Array b_
 wz:Bool->Bool
 nt:U_->Nat->b_
 Af:b_->T->T->T
 Mm:b_->b_->b_->(b_->T)->T
 Cv:TypeId->U_->(b_->c_->T)->c_->T
 OD:TypeId->b_->(b_->c_->T)->c_->T
 JK:TypeId->b_->(b_->c_->T)->c_->T
 BR:b_->(b_->c_->T)->c_->T
 DJ:Nat->b_->(b_->c_->T)->c_->T
 Cc:b_->b_->(c_->T)->c_->T
 Bv:Nat->b_->b_->(c_->T)->c_->T
 Aw:b_->(b_->T)->T
 Cl:IntKind->b_->b_->(b_->T)->T
 EO:IntKind->b_->b_->(b_->T)->T
 bH:IntKind->b_->b_->(b_->T)->T
 HZ:IntKind->b_->b_->(b_->T)->T
 fX:IntKind->b_->b_->(b_->T)->T
 Xq:IntKind->b_->b_->(b_->T)->T
 Xf:IntKind->b_->b_->(b_->T)->T
 P2:IntKind->b_->b_->(b_->T)->T
 TB:IntKind->b_->b_->(b_->T)->T
 P6:IntKind->b_->b_->(b_->T)->T
 QB:IntKind->b_->b_->(b_->T)->T
 cB:b_->b_->(b_->T)->T
 bV:b_->b_->(b_->T)->T
 bR:b_->b_->(b_->T)->T
 fI:b_->b_->(b_->T)->T
 NY:b_->(Bool->T)->T
 JI:b_->(Bool->T)->T
 MU:b_->(b_->T)->T
 BX:Nat->b_->(b_->T)->T
 KY:Nat->b_->b_->(b_->T)->T
 DQ:List (Nat×Nat)->U_->List (Nat×b_)->(b_->T)->T
 EE:TypeId->Nat->Nat->U_->List (Nat×b_)->(b_->c_->T)->c_->T
 Az:Nat->b_->(b_->T)->T
 Dz:b_->(b_->T)->T
 RT:b_->(b_->T)->T
 AD:Nat->U_->(b_->c_->T)->c_->T
 WN:Nat->U_->(b_->c_->T)->c_->T
 Bb:b_->U_->(b_->c_->T)->c_->T
 Co:b_->U_->(b_->c_->T)->c_->T
 runK:Sem b_->(b_->c_->T)->c_->T
 aw:Sem b_->(b_->T)->T
 EV:(Addr->b_->Prop)->b_->(b_->T)->T
 Ij:(Addr->b_->Prop)->Nat->b_->(b_->T)->T
 Ik:(c_->Prop)->b_->(b_->T)->T
 SN:(c_->Prop)->Nat->b_->(b_->T)->T
 Ru:(c_->Prop)->Nat->U_->(b_->T)->T
 Zw:(c_->Prop)->Nat->U_->(b_->T)->T
 Lt:(c_->Prop)->Sem b_->(b_->T)->T
 Mj:c_->((c_->Prop)->T)->T
 DP:X_->List X_->c_->((Nat->d_)->(Nat->Addr->b_->Prop)->T)->T
 GM:U_->(U_->(U_->c_->T)->c_->T)->c_->T
 Dm:(U_->c_->T)->((U_->c_->T)->T)->T
 tV:U_->X_->(U_->X_->(U_->X_->c_->T)->c_->T)->c_->T
 OX:b_->Nat->(U_->(((Exit->c_->T)->c_->T)->c_->T)->c_->T)->(Exit->c_->T)->c_->T
 vy:(c_->T)->(c_->T)->List (Nat×(c_->T))->Exit->c_->T
 PN:Nat->(c_->T)->c_->T
 Y3:X_->(c_->T)->c_->T
 ug:{i1:BinOp}->{i2:TypeId}->{i3 i4:Operand}->b_->b_->Sem b_
 sun:{i1:UnOp}->b_->Sem b_
 six:{i1:TypeId}->b_->b_->Sem b_
 vI:{i1:TypeId}->List (Nat×b_)->Sem b_
 tP:{i1 i2:TypeId}->b_->Sem b_
 mV:{i1:TypeId}->b_->Option b_->Option b_->Option b_->Sem b_
 uU:{i1:TypeId}->{i2:Nat}->b_->Sem b_
 tz:{i1:TypeId}->b_->b_->Sem b_
 vR:{i1:TypeId}->Option b_->Sem b_
 xY:{i1:TypeId}->b_->b_->Sem b_
 wk:{i1:TypeId}->b_->Sem b_
 wm:{i1:TypeId}->{i2:Bool}->b_->b_->Sem b_
 jz:{i1:TypeId}->b_->b_->b_->Sem b_
 pk:{i1:TypeId}->b_->b_->Sem b_
 uG:{i1:TypeId}->b_->b_->b_->Sem b_
 tY:{i1:TypeId}->b_->Sem b_
 wW:{i1:Bool}->{i2:TypeId}->b_->Sem b_
 uP:b_->Sem b_
 xC:{i1 i2:TypeId}->{i3:Bool}->b_->Sem b_
 AAJ:{i1:Array TypeId}->{i2:TypeId}->b_->Sem b_
 qs:{i1:Array TypeId}->{i2:TypeId}->U_->Sem b_
 wh:{i1:Array TypeId}->{i2:TypeId}->U_->Sem b_
 AAc:{i1:Array TypeId}->{i2:TypeId}->U_->Sem b_
 AAa:{i1:Array TypeId}->{i2:TypeId}->U_->Sem b_
 AAB:{i1:Array TypeId}->{i2:TypeId}->U_->Sem b_
 vC:{i1:Array TypeId}->{i2:TypeId}->U_->Sem b_
 qO:{i1:Array TypeId}->{i2:TypeId}->U_->Sem b_
def vl(n:Nat):Int:=n
def Gb(n:Nat):vl (no_index (OfNat.ofNat n))=(OfNat.ofNat n:Int):=rfl
inductive Tg where
 |b (x:Bool)
 |v (x:b_)
abbrev TE:=Nat->Tg
abbrev KN:=List (Nat×Option Bool)
def Tg.val:Tg->b_|.b x=>.bool x|.v x=>x
section
variable {T:Type}(p:Pr T)(P:Program)(ok:Nat->Bool)
def pcv(v:b_):Tg:=match v with
 |.bool b=>.b b
 |.int k i=>match i with | .ofNat n=>.v (p.ci k n) | .negSucc n=>.v (p.cn k (n+1))
 |w=>.v (p.c (i1:=w))
def fV(e:TE)(x:Operand):Tg:=match x with
 |.tmp t=>e t
 |.const v=>pcv p v
 |.global g=>.v (e_ g)
 |.func g=>.v (.func (.func g) (p.UL []) (p.UL []))
def MW(e:TE)(d:Option Nat)(v:Tg):TE:=match d with|some i=>λj=>bif Nat.beq j i then v else e j|none=>e
def ZC:List Oper->Nat->Nat
 |o::_,0=>match o.dst with | some d=>d | none=>0
 |_::r,j+1=>ZC r j
 |[],_=>0
def pgt:List Oper->Nat->Option Oper
 |o::_,0=>some o
 |_::r,j+1=>pgt r j
 |[],_=>none
def pzs(z:b_):U_:=z.cells.toList.map λv=>(pcv p v).val
def ui(op:BinOp)(t:TypeId)(yo:Operand)(x y:b_)(K:b_->T)(F:T):T:=
 match P.underlying t with
 |some (.int k)=>match op with
  |.add=>p.Cl k x y K | .sub=>p.EO k x y K | .mul=>p.bH k x y K
  |.lss=>p.HZ k x y K | .leq=>p.fX k x y K | .gtr=>p.Xq k x y K | .geq=>p.Xf k x y K
  |.eql=>p.P2 k x y K | .neq=>p.TB k x y K
  |_=>F
 |some .bool=>match op with
  |.eql=>p.cB x y K | .neq=>p.bV x y K
  |_=>F
 |some .string=>match op with
  |.eql=>p.bR x y K | .neq=>p.fI x y K
  |_=>F
 |some (.slice _)=>bif R8 yo then match op with
   |.eql=>p.NY x λb=>K (.bool b)
   |.neq=>p.NY x λb=>K (.bool (p.wz b))
   |_=>F
  else F
 |some (.pointer _)=>bif Rj yo then match op with
   |.eql=>p.JI x λb=>K (.bool b)
   |.neq=>p.JI x λb=>K (.bool (p.wz b))
   |_=>F
  else F
 |_=>F
def wL(J:Bool)(o:Oper)(ρ:Operand->Tg)(K:Tg->c_->T)(w:c_):T:=
 match o.op with
 |.move x=>K (ρ x) w
 |.assign x=>K (ρ x) w
 |.pick c a b=>match ρ c with
  |.b true=>K (ρ a) w
  |.b false=>K (ρ b) w
  |.v x=>p.Mm x (ρ a).val (ρ b).val λv=>K (.v v) w
 |.alloc t=>match Hd P t with | some z=>p.Cv t (pzs p z) (λv w=>K (.v v) w) w | none=>p.Me
 |.box t x=>match Gj P t with | some (false,_)=>p.OD t (ρ x).val (λv w=>K (.v v) w) w | some (true,_)=>p.JK t (ρ x).val (λv w=>K (.v v) w) w | none=>p.Me
 |.load t x=>match Gj P t with | some (false,_)=>p.BR (ρ x).val (λv w=>K (.v v) w) w | some (true,k)=>p.DJ k (ρ x).val (λv w=>K (.v v) w) w | none=>p.Me
 |.store t a x=>match Gj P t with
  |some (false,_)=>p.Cc (ρ a).val (ρ x).val (λw=>K (.v p.un) w) w
  |some (true,k)=>p.Bv k (ρ a).val (ρ x).val (λw=>K (.v p.un) w) w
  |none=>p.Me
 |.nilCheck x=>p.Aw (ρ x).val λv=>K (.v v) w
 |.binOp op t x y _=>ui p P op t y (ρ x).val (ρ y).val (λv=>K (.v v) w) (p.runK (p.ug (i1:=op) (i2:=t) (i3:=x) (i4:=y) (ρ x).val (ρ y).val) (λv w=>K (.v v) w) w)
 |.unOp op _ x=>match op with
  |.not=>p.MU (ρ x).val λv=>K (.v v) w
  |o=>p.runK (p.sun (i1:=o) (ρ x).val) (λv w=>K (.v v) w) w
 |.fieldAddr s x f=>match P.underlying s with
  |some (.struct j)=>match j.toList[f]? with
   |some f=>p.BX f.offset (ρ x).val λv=>K (.v v) w
   |none=>p.Me
  |_=>p.Me
 |.indexAddr t x i=>match P.underlying t with
  |some (.slice e)=>match P.info? e with | some f=>p.KY f.size (ρ x).val (ρ i).val λv=>K (.v v) w | none=>p.Me
  |_=>p.runK (p.six (i1:=t) (ρ x).val (ρ i).val) (λv w=>K (.v v) w) w
 |.build t BP=>match P.underlying t with
  |some (.struct j)=>match Hd P t with
   |some z=>match Ga P j.toList with
    |some l=>p.DQ l (pzs p z) (BP.toList.map λq=>(q.1,(ρ q.2).val)) λv=>K (.v v) w
    |none=>p.Me
   |none=>p.Me
  |_=>p.runK (p.vI (i1:=t) (BP.toList.map λq=>(q.1,(ρ q.2).val))) (λv w=>K (.v v) w) w
 |.buildSlice t len BP=>match P.underlying t with
  |some (.slice e)=>match P.info? e with
   |some i=>bif Nat.blt 0 (len*i.size) then
     match i.zero with|some z=>p.EE e i.size len (pzs p z) (BP.toList.map λq=>(q.1,(ρ q.2).val)) (λv w=>K (.v v) w) w|none=>p.Me
    else p.EE e i.size len [] (BP.toList.map λq=>(q.1,(ρ q.2).val)) (λv w=>K (.v v) w) w
   |none=>p.Me
  |_=>p.Me
 |.extract t i=>p.Az i (ρ t).val λv=>K (.v v) w
 |.makeFunc fn I cap=>K (.v (.func fn (p.UL (I.toList.map λx=>(ρ x).val)) (p.UL (cap.toList.map λx=>(ρ x).val)))) w
 |.convert s d x=>p.runK (p.tP (i1:=s) (i2:=d) (ρ x).val) (λv w=>K (.v v) w) w
 |.slice t x lo hi mx=>p.runK (p.mV (i1:=t) (ρ x).val (lo.map λx=>(ρ x).val) (hi.map λx=>(ρ x).val) (mx.map λx=>(ρ x).val)) (λv w=>K (.v v) w) w
 |.field t x f=>p.runK (p.uU (i1:=t) (i2:=f) (ρ x).val) (λv w=>K (.v v) w) w
 |.index t x i=>p.runK (p.tz (i1:=t) (ρ x).val (ρ i).val) (λv w=>K (.v v) w) w
 |.makeMap t r=>p.runK (p.vR (i1:=t) (r.map λx=>(ρ x).val)) (λv w=>K (.v v) w) w
 |.makeSlice t l c=>p.runK (p.xY (i1:=t) (ρ l).val (ρ c).val) (λv w=>K (.v v) w) w
 |.makeInterface t x=>p.runK (p.wk (i1:=t) (ρ x).val) (λv w=>K (.v v) w) w
 |.lookup t x i b=>p.runK (p.wm (i1:=t) (i2:=b) (ρ x).val (ρ i).val) (λv w=>K (.v v) w) w
 |.mapUpdate t m k x=>p.runK (p.jz (i1:=t) (ρ m).val (ρ k).val (ρ x).val) (λv w=>K (.v v) w) w
 |.insert t m k x=>p.runK (p.jz (i1:=t) (ρ m).val (ρ k).val (ρ x).val) (λv w=>K (.v v) w) w
 |.mapEntry t m k=>p.runK (p.pk (i1:=t) (ρ m).val (ρ k).val) (λv w=>K (.v v) w) w
 |.entryStore t m s x=>p.runK (p.uG (i1:=t) (ρ m).val (ρ s).val (ρ x).val) (λv w=>K (.v v) w) w
 |.range t x=>p.runK (p.tY (i1:=t) (ρ x).val) (λv w=>K (.v v) w) w
 |.next it s=>p.runK (p.wW (i1:=s) (i2:=o.type) (ρ it).val) (λv w=>K (.v v) w) w
 |.entry it=>p.runK (p.uP (ρ it).val) (λv w=>K (.v v) w) w
 |.typeAssert x N nU b=>p.runK (p.xC (i1:=N) (i2:=nU) (i3:=b) (ρ x).val) (λv w=>K (.v v) w) w
 |.call c=>match c.callee with
  |.value f=>match f with
   |.func g=>bif ok g then p.AD g (c.args.toList.map λx=>(ρ x).val) (λv w=>K (.v v) w) w else p.WN g (c.args.toList.map λx=>(ρ x).val) (λv w=>K (.v v) w) w
   |f=>bif J then p.Bb (ρ f).val (c.args.toList.map λx=>(ρ x).val) (λv w=>K (.v v) w) w else p.Co (ρ f).val (c.args.toList.map λx=>(ρ x).val) (λv w=>K (.v v) w) w
  |.builtin b=>match b with
   |.len=>match c.argTypes.toList,c.args.toList with
    |[t],[x]=>match P.underlying t with
     |some (.slice _)=>p.Dz (ρ x).val λv=>K (.v v) w
     |some .string=>p.RT (ρ x).val λv=>K (.v v) w
     |_=>p.runK (p.AAJ (i1:=c.argTypes) (i2:=o.type) (ρ x).val) (λv w=>K (.v v) w) w
    |_,_=>p.Me
   |.append=>p.runK (p.qs (i1:=c.argTypes) (i2:=o.type) (c.args.toList.map λx=>(ρ x).val)) (λv w=>K (.v v) w) w
   |.copy=>p.runK (p.wh (i1:=c.argTypes) (i2:=o.type) (c.args.toList.map λx=>(ρ x).val)) (λv w=>K (.v v) w) w
   |.cap=>p.runK (p.AAc (i1:=c.argTypes) (i2:=o.type) (c.args.toList.map λx=>(ρ x).val)) (λv w=>K (.v v) w) w
   |.max=>match P.underlying o.type,c.args.toList with
    |some (.int k),[x,y]=>p.P6 k (ρ x).val (ρ y).val λv=>K (.v v) w
    |_,_=>p.runK (p.AAa (i1:=c.argTypes) (i2:=o.type) (c.args.toList.map λx=>(ρ x).val)) (λv w=>K (.v v) w) w
   |.min=>match P.underlying o.type,c.args.toList with
    |some (.int k),[x,y]=>p.QB k (ρ x).val (ρ y).val λv=>K (.v v) w
    |_,_=>p.runK (p.AAB (i1:=c.argTypes) (i2:=o.type) (c.args.toList.map λx=>(ρ x).val)) (λv w=>K (.v v) w) w
   |.clear=>p.runK (p.vC (i1:=c.argTypes) (i2:=o.type) (c.args.toList.map λx=>(ρ x).val)) (λv w=>K (.v v) w) w
   |.delete=>p.runK (p.qO (i1:=c.argTypes) (i2:=o.type) (c.args.toList.map λx=>(ρ x).val)) (λv w=>K (.v v) w) w
   |_=>p.Me
  |_=>p.Me
 |_=>p.Me
def AAO(C:c_->Prop)(o:Oper)(ρ:Operand->Tg)(K:Tg->c_->T)(w:c_):T:=
 match o.op with
 |.load t x=>match Gj P t with | some (false,_)=>p.Ik C (ρ x).val λv=>K (.v v) w | some (true,k)=>p.SN C k (ρ x).val λv=>K (.v v) w | none=>p.Me
 |.binOp op t x y _=>ui p P op t y (ρ x).val (ρ y).val (λv=>K (.v v) w) (p.Lt C (p.ug (i1:=op) (i2:=t) (i3:=x) (i4:=y) (ρ x).val (ρ y).val) (λv=>K (.v v) w))
 |.convert s d x=>p.Lt C (p.tP (i1:=s) (i2:=d) (ρ x).val) (λv=>K (.v v) w)
 |.slice t x lo hi mx=>p.Lt C (p.mV (i1:=t) (ρ x).val (lo.map λx=>(ρ x).val) (hi.map λx=>(ρ x).val) (mx.map λx=>(ρ x).val)) (λv=>K (.v v) w)
 |.call c=>match c.callee with
  |.value f=>match f with
   |.func g=>bif ok g then p.Ru C g (c.args.toList.map λx=>(ρ x).val) (λv=>K (.v v) w) else p.Zw C g (c.args.toList.map λx=>(ρ x).val) (λv=>K (.v v) w)
   |_=>p.Me
  |_=>wL p P ok true o ρ K w
 |_=>wL p P ok true o ρ K w
def zp(BU:X_)(M:Nat->d_)(St:Nat->Addr->b_->Prop)(i:Nat)(o:Oper)(ρ:Operand->Tg)(K:Tg->c_->T)(w:c_):T:=
 bif Ge BU i then wL p P ok true o ρ (λv j=>p.zy M i w j (K v j)) w
 else match o.op with
 |.load t x=>match Gj P t with | some (false,_)=>p.EV (St i) (ρ x).val λv=>K (.v v) w | some (true,k)=>p.Ij (St i) k (ρ x).val λv=>K (.v v) w | none=>p.Me
 |.binOp op t x y _=>ui p P op t y (ρ x).val (ρ y).val (λv=>K (.v v) w) (p.aw (p.ug (i1:=op) (i2:=t) (i3:=x) (i4:=y) (ρ x).val (ρ y).val) (λv=>K (.v v) w))
 |_=>wL p P ok true o ρ K w
def fZ(X:Oper->(Operand->Tg)->(Tg->c_->T)->c_->T)(all:List Oper)(K:TE->c_->T):List Oper->Nat->KN->TE->c_->T
 |[],_,_,e,w=>K e w
 |o::r,i,kn,e,w=>match o.guard with
  |none=>X o (fV p e) (λv w=>fZ X all K r (i+1) kn (MW e o.dst v) w) w
  |some (j,I)=>match Hk kn j with
   |some (some b)=>bif Pc b I then X o (fV p e) (λv w=>fZ X all K r (i+1) kn (MW e o.dst v) w) w
     else fZ X all K r (i+1) ((i,none)::kn) (MW e o.dst (.v p.un)) w
   |some none=>fZ X all K r (i+1) ((i,none)::kn) (MW e o.dst (.v p.un)) w
   |none=>match e (ZC all j) with
    |.b b=>bif Pc b I then X o (fV p e) (λv w=>fZ X all K r (i+1) ((j,some b)::kn) (MW e o.dst v) w) w
      else fZ X all K r (i+1) ((i,none)::(j,some b)::kn) (MW e o.dst (.v p.un)) w
    |.v v=>p.Af v
      (bif I then X o (fV p (MW e (some (ZC all j)) (.b true))) (λv w=>fZ X all K r (i+1) ((j,some true) :: kn) (MW (MW e (some (ZC all j)) (.b true)) o.dst v) w) w
       else fZ X all K r (i+1) ((i,none) :: (j,some true) :: kn) (MW (MW e (some (ZC all j)) (.b true)) o.dst (.v p.un)) w)
      (bif I then fZ X all K r (i+1) ((i,none) :: (j,some false) :: kn) (MW (MW e (some (ZC all j)) (.b false)) o.dst (.v p.un)) w
       else X o (fV p (MW e (some (ZC all j)) (.b false))) (λv w=>fZ X all K r (i+1) ((j,some false) :: kn) (MW (MW e (some (ZC all j)) (.b false)) o.dst v) w) w)
def di(X:Nat->Oper->(Operand->Tg)->(Tg->c_->T)->c_->T)(all:List Oper)(K:TE->c_->T):Ord->KN->TE->c_->T
 |.nil,_,e,w=>K e w
 |.br a b,kn,e,w=>p.AAY (di X all K a kn e w) (di X all K b kn e w)
 |.op i r,kn,e,w=>match pgt all i with
  |none=>p.Me
  |some o=>match o.guard with
  |none=>X i o (fV p e) (λv w=>di X all K r kn (MW e o.dst v) w) w
  |some (j,I)=>match Hk kn j with
   |some (some b)=>bif Pc b I then X i o (fV p e) (λv w=>di X all K r kn (MW e o.dst v) w) w
     else di X all K r ((i,none)::kn) (MW e o.dst (.v p.un)) w
   |some none=>di X all K r ((i,none)::kn) (MW e o.dst (.v p.un)) w
   |none=>match e (ZC all j) with
    |.b b=>bif Pc b I then X i o (fV p e) (λv w=>di X all K r ((j,some b)::kn) (MW e o.dst v) w) w
      else di X all K r ((i,none)::(j,some b)::kn) (MW e o.dst (.v p.un)) w
    |.v v=>p.Af v
      (bif I then X i o (fV p (MW e (some (ZC all j)) (.b true))) (λv w=>di X all K r ((j,some true) :: kn) (MW (MW e (some (ZC all j)) (.b true)) o.dst v) w) w
       else di X all K r ((i,none) :: (j,some true) :: kn) (MW (MW e (some (ZC all j)) (.b true)) o.dst (.v p.un)) w)
      (bif I then di X all K r ((i,none) :: (j,some false) :: kn) (MW (MW e (some (ZC all j)) (.b false)) o.dst (.v p.un)) w
       else X i o (fV p (MW e (some (ZC all j)) (.b false))) (λv w=>di X all K r ((j,some false) :: kn) (MW (MW e (some (ZC all j)) (.b false)) o.dst v) w) w)
def plk:X_->Nat->U_->Nat->Tg->Tg
 |[],_,_,_,d=>d
 |l::L,k,vs,j,d=>bif Nat.beq l j then .v (p.nt vs k) else plk L (k+1) vs j d
def pmx(L:X_)(W:List (Nat×Nat))(vs:U_)(h:Env)(e:TE):TE:=λj=>plk p L 0 vs j (bif wE W j then .v (h j) else e j)
abbrev PQ(T:Type):=Exit->TE->c_->T
def wG(N:TE->c_->T)(Q:PQ T):PQ T:=λex e w=>match ex with|.normal=>N e w|x=>Q x e w
def pbE(id:Nat)(Q:PQ T):PQ T:=λex e w=>match ex with|.exit i=>bif Nat.beq i id then Q .normal e w else Q (.exit i) e w|x=>Q x e w
def pD:Code->Hp->PQ T->TE->c_->T
 |.skip,_,Q,e,w=>Q .normal e w
 |.region _ ops Ec,I,Q,e,w=>match Ec with
  |false=>fZ p (λo=>wL p P ok false o) ops.toList (λe w=>Q .normal e w) ops.toList 0 [] e w
  |true=>match I with
   |.Ec=>p.Mj w λC=>fZ p (λo=>AAO p P ok C o) ops.toList (λe _=>p.AAd C λw=>Q .normal e w) ops.toList 0 [] e w
   |.dt BU AN _ t=>p.DP BU AN (p.drw w) λM St=>di p (λi o=>zp p P ok BU M St i o) ops.toList (λe w=>Q .normal e w) t [] e (p.drw w)
   |_=>p.Me
 |.seq x y,I,Q,e,w=>match I with
  |.node _ _ a b=>pD x a (wG (λe w=>pD y b Q e w) Q) e w
  |.cut L W a b=>p.Dm (λvs w=>p.wJ λh=>pD y b Q (pmx p L W vs h e) w) (λJ=>pD x a (wG (λe w=>J (L.map λj=>(e j).val) w) Q) e w)
  |_=>p.Me
 |.cond c x y,I,Q,e,w=>match I with
  |.node _ _ a b=>match fV p e c with
   |.b true=>pD x a Q e w
   |.b false=>pD y b Q e w
   |.v v=>p.Af v (pD x a Q e w) (pD y b Q e w)
  |_=>p.Me
 |.block id x,I,Q,e,w=>pD x I (pbE id Q) e w
 |.loop x,I,Q,e,w=>match I with
  |.node L W a _=>p.GM (L.map λj=>(e j).val) (λvs N w=>p.wJ λh=>pD x a (wG (λe w=>N (L.map λj=>(e j).val) w) Q) (pmx p L W vs h e) w) w
  |_=>p.Me
 |.exit id,_,Q,e,w=>Q (.exit id) e w
 |.ret,_,Q,e,w=>Q .ret e w
 |.label _,_,Q,e,w=>Q .normal e w
 |.scope x,I,Q,e,w=>pD x I Q e w
 |_,_,_,_,_=>p.Me
def puL:TE->Nat->X_->U_->TE
 |e,_,[],_=>e
 |e,k,j::r,vs=>puL (MW e (some j) (.v (p.nt vs k))) (k+1) r vs
def pRF(rd:Nat->PQ T)(g:Operand)(ps:X_)(x y:Code)(L:X_)(J N:Hp)(e:TE)(w:c_):T:=p.OX (fV p e g).val ps.length (λargs I w=>pD p P ok x J (wG (λe w=>I (λpost w=>pD p P ok y N (λex _ w=>post ex w) e w) w) (λ_ _ _=>p.Me)) (puL p e 0 ps args) w) (p.vy (λj=>rd (p.KM w) .normal e j) (λj=>rd (p.KM w) .ret e j) (L.map λi=>(i,λj=>rd (p.KM w) (.exit i) e j))) w
def xk:Code->Hp->(Nat->PQ T)->PQ T->TE->c_->T
 |.seq x y,I,Q,j,e,w=>match I with
  |.node _ _ a b=>bif Tx x then xk x a (λm=>wG (λe w=>pD p P ok y b (Q m) e w) (Q m)) j e w
    else pD p P ok x a (wG (λe w=>xk y b Q j e w) j) e w
  |_=>p.Me
 |.block id x,I,Q,j,e,w=>xk x I (λm=>pbE id (Q m)) (λex e w=>match ex with | .exit i=>bif Nat.beq i id then p.Me else j (.exit i) e w | x=>j x e w) e w
 |.rangeFunc g ps x y,I,Q,_,e,w=>match I with
  |.node L _ J N=>pRF p P ok Q g ps.toList x y L J N e w
  |_=>p.Me
 |_,_,_,_,_,_=>p.Me
def Ub(rs:List ResultVar)(e:TE)(w:c_)(K:U_->c_->T):T:=match rs with
 |[]=>K [] w
 |.tmp t::r=>Ub r e w λvs w=>K ((e t).val::vs) w
 |.cell a t::r=>match Gj P t with
  |some (false,_)=>p.BR (e a).val (λv w=>Ub r e w λvs w=>K (v::vs) w) w
  |some (true,k)=>p.DJ k (e a).val (λv w=>Ub r e w λvs w=>K (v::vs) w) w
  |none=>p.Me
def ptu:U_->b_
 |[v]=>v
 |vs=>.tuple (p.UL vs)
def yr(rs:List ResultVar)(K:b_->c_->T):PQ T:=λex e w=>match ex with
 |.normal=>Ub p P rs e w λvs w=>K (ptu p vs) w
 |.ret=>Ub p P rs e w λvs w=>K (ptu p vs) w
 |_=>p.Me
def pin:U_->Nat->Tg
 |[],_=>.v p.un
 |v::_,0=>.v v
 |_::r,j+1=>pin r j
def pF(f:Func)(j:Hp)(args:U_)(K:b_->c_->T)(w:c_):T:=pD p P ok (Br f) j (yr p P f.results.toList K) (pin p args) w
def pFM(f:Func)(j:Hp)(args:U_)(K:b_->c_->T)(w:c_):T:=
 xk p P ok (Br f) j (λm ex e w=>match ex with|.normal=>p.PN m (λw=>yr p P f.results.toList K .normal e w) w|.ret=>p.PN m (λw=>yr p P f.results.toList K .ret e w) w|_=>p.Me) (yr p P f.results.toList K) (pin p args) w
end
abbrev PB:=(T:Type)->(b_->c_->T)->(T)->(T->T->T)->((Env->T)->T)->((c_->Prop)->(c_->T)->T)->((Nat->d_)->Nat->c_->c_->T->T)->(c_->c_)->(c_->Nat)->(b_)->({i1:b_}->b_)->(IntKind->Nat->b_)->(IntKind->Nat->b_)->(U_->Array b_)->(Bool->Bool)->(U_->Nat->b_)->(b_->T->T->T)->(b_->b_->b_->(b_->T)->T)->(TypeId->U_->(b_->c_->T)->c_->T)->(TypeId->b_->(b_->c_->T)->c_->T)->(TypeId->b_->(b_->c_->T)->c_->T)->(b_->(b_->c_->T)->c_->T)->(Nat->b_->(b_->c_->T)->c_->T)->(b_->b_->(c_->T)->c_->T)->(Nat->b_->b_->(c_->T)->c_->T)->(b_->(b_->T)->T)->(IntKind->b_->b_->(b_->T)->T)->(IntKind->b_->b_->(b_->T)->T)->(IntKind->b_->b_->(b_->T)->T)->(IntKind->b_->b_->(b_->T)->T)->(IntKind->b_->b_->(b_->T)->T)->(IntKind->b_->b_->(b_->T)->T)->(IntKind->b_->b_->(b_->T)->T)->(IntKind->b_->b_->(b_->T)->T)->(IntKind->b_->b_->(b_->T)->T)->(IntKind->b_->b_->(b_->T)->T)->(IntKind->b_->b_->(b_->T)->T)->(b_->b_->(b_->T)->T)->(b_->b_->(b_->T)->T)->(b_->b_->(b_->T)->T)->(b_->b_->(b_->T)->T)->(b_->(Bool->T)->T)->(b_->(Bool->T)->T)->(b_->(b_->T)->T)->(Nat->b_->(b_->T)->T)->(Nat->b_->b_->(b_->T)->T)->(List (Nat×Nat)->U_->List (Nat×b_)->(b_->T)->T)->(TypeId->Nat->Nat->U_->List (Nat×b_)->(b_->c_->T)->c_->T)->(Nat->b_->(b_->T)->T)->(b_->(b_->T)->T)->(b_->(b_->T)->T)->(Nat->U_->(b_->c_->T)->c_->T)->(Nat->U_->(b_->c_->T)->c_->T)->(b_->U_->(b_->c_->T)->c_->T)->(b_->U_->(b_->c_->T)->c_->T)->(Sem b_->(b_->c_->T)->c_->T)->(Sem b_->(b_->T)->T)->((Addr->b_->Prop)->b_->(b_->T)->T)->((Addr->b_->Prop)->Nat->b_->(b_->T)->T)->((c_->Prop)->b_->(b_->T)->T)->((c_->Prop)->Nat->b_->(b_->T)->T)->((c_->Prop)->Nat->U_->(b_->T)->T)->((c_->Prop)->Nat->U_->(b_->T)->T)->((c_->Prop)->Sem b_->(b_->T)->T)->(c_->((c_->Prop)->T)->T)->(X_->List X_->c_->((Nat->d_)->(Nat->Addr->b_->Prop)->T)->T)->(U_->(U_->(U_->c_->T)->c_->T)->c_->T)->((U_->c_->T)->((U_->c_->T)->T)->T)->(U_->X_->(U_->X_->(U_->X_->c_->T)->c_->T)->c_->T)->(b_->Nat->(U_->(((Exit->c_->T)->c_->T)->c_->T)->c_->T)->(Exit->c_->T)->c_->T)->((c_->T)->(c_->T)->List (Nat×(c_->T))->Exit->c_->T)->(Nat->(c_->T)->c_->T)->(X_->(c_->T)->c_->T)->({i1:BinOp}->{i2:TypeId}->{i3 i4:Operand}->b_->b_->Sem b_)->({i1:UnOp}->b_->Sem b_)->({i1:TypeId}->b_->b_->Sem b_)->({i1:TypeId}->List (Nat×b_)->Sem b_)->({i1 i2:TypeId}->b_->Sem b_)->({i1:TypeId}->b_->Option b_->Option b_->Option b_->Sem b_)->({i1:TypeId}->{i2:Nat}->b_->Sem b_)->({i1:TypeId}->b_->b_->Sem b_)->({i1:TypeId}->Option b_->Sem b_)->({i1:TypeId}->b_->b_->Sem b_)->({i1:TypeId}->b_->Sem b_)->({i1:TypeId}->{i2:Bool}->b_->b_->Sem b_)->({i1:TypeId}->b_->b_->b_->Sem b_)->({i1:TypeId}->b_->b_->Sem b_)->({i1:TypeId}->b_->b_->b_->Sem b_)->({i1:TypeId}->b_->Sem b_)->({i1:Bool}->{i2:TypeId}->b_->Sem b_)->(b_->Sem b_)->({i1 i2:TypeId}->{i3:Bool}->b_->Sem b_)->({i1:Array TypeId}->{i2:TypeId}->b_->Sem b_)->({i1:Array TypeId}->{i2:TypeId}->U_->Sem b_)->({i1:Array TypeId}->{i2:TypeId}->U_->Sem b_)->({i1:Array TypeId}->{i2:TypeId}->U_->Sem b_)->({i1:Array TypeId}->{i2:TypeId}->U_->Sem b_)->({i1:Array TypeId}->{i2:TypeId}->U_->Sem b_)->({i1:Array TypeId}->{i2:TypeId}->U_->Sem b_)->({i1:Array TypeId}->{i2:TypeId}->U_->Sem b_)->T
abbrev PE(F:(T:Type)->Pr T->(b_->c_->T)->T)(B:PB):Prop:=∀(T:Type) (K:b_->c_->T) (x0:T) (x1:T->T->T) (x2:(Env->T)->T) (x3:(c_->Prop)->(c_->T)->T) (x4:(Nat->d_)->Nat->c_->c_->T->T) (x5:c_->c_) (x6:c_->Nat) (x7:b_) (x8:{i1:b_}->b_) (x9:IntKind->Nat->b_) (j:IntKind->Nat->b_) (I:U_->Array b_) (J:Bool->Bool) (N:U_->Nat->b_) (O:b_->T->T->T) (Q:b_->b_->b_->(b_->T)->T) (U:TypeId->U_->(b_->c_->T)->c_->T) (V:TypeId->b_->(b_->c_->T)->c_->T) (X:TypeId->b_->(b_->c_->T)->c_->T) (Y:b_->(b_->c_->T)->c_->T) (Z:Nat->b_->(b_->c_->T)->c_->T) (a1:b_->b_->(c_->T)->c_->T) (a6:Nat->b_->b_->(c_->T)->c_->T) (a7:b_->(b_->T)->T) (a8:IntKind->b_->b_->(b_->T)->T) (aa:IntKind->b_->b_->(b_->T)->T) (ak:IntKind->b_->b_->(b_->T)->T) (al:IntKind->b_->b_->(b_->T)->T) (an:IntKind->b_->b_->(b_->T)->T) (av:IntKind->b_->b_->(b_->T)->T) (ax:IntKind->b_->b_->(b_->T)->T) (ay:IntKind->b_->b_->(b_->T)->T) (b0:IntKind->b_->b_->(b_->T)->T) (b6:IntKind->b_->b_->(b_->T)->T) (b7:IntKind->b_->b_->(b_->T)->T) (b8:b_->b_->(b_->T)->T) (b9:b_->b_->(b_->T)->T) (ba:b_->b_->(b_->T)->T) (bb:b_->b_->(b_->T)->T) (bk:b_->(Bool->T)->T) (bl:b_->(Bool->T)->T) (bp:b_->(b_->T)->T) (bs:Nat->b_->(b_->T)->T) (bx:Nat->b_->b_->(b_->T)->T) (c4:List (Nat×Nat)->U_->List (Nat×b_)->(b_->T)->T) (c6:TypeId->Nat->Nat->U_->List (Nat×b_)->(b_->c_->T)->c_->T) (c7:Nat->b_->(b_->T)->T) (c8:b_->(b_->T)->T) (c9:b_->(b_->T)->T) (ca:Nat->U_->(b_->c_->T)->c_->T) (cc:Nat->U_->(b_->c_->T)->c_->T) (cq:b_->U_->(b_->c_->T)->c_->T) (cu:b_->U_->(b_->c_->T)->c_->T) (cx:Sem b_->(b_->c_->T)->c_->T) (da:Sem b_->(b_->T)->T) (dk:(Addr->b_->Prop)->b_->(b_->T)->T) (dr:(Addr->b_->Prop)->Nat->b_->(b_->T)->T) (dz:(c_->Prop)->b_->(b_->T)->T) (dT:(c_->Prop)->Nat->b_->(b_->T)->T) (e1:(c_->Prop)->Nat->U_->(b_->T)->T) (e2:(c_->Prop)->Nat->U_->(b_->T)->T) (e3:(c_->Prop)->Sem b_->(b_->T)->T) (e4:c_->((c_->Prop)->T)->T) (e5:X_->List X_->c_->((Nat->d_)->(Nat->Addr->b_->Prop)->T)->T) (e6:U_->(U_->(U_->c_->T)->c_->T)->c_->T) (e7:(U_->c_->T)->((U_->c_->T)->T)->T) (e8:U_->X_->(U_->X_->(U_->X_->c_->T)->c_->T)->c_->T) (e9:b_->Nat->(U_->(((Exit->c_->T)->c_->T)->c_->T)->c_->T)->(Exit->c_->T)->c_->T) (ea:(c_->T)->(c_->T)->List (Nat×(c_->T))->Exit->c_->T) (ec:Nat->(c_->T)->c_->T) (ed:X_->(c_->T)->c_->T) (ee:{i1:BinOp}->{i2:TypeId}->{i3 i4:Operand}->b_->b_->Sem b_) (ef:{i1:UnOp}->b_->Sem b_) (eh:{i1:TypeId}->b_->b_->Sem b_) (ej:{i1:TypeId}->List (Nat×b_)->Sem b_) (ek:{i1 i2:TypeId}->b_->Sem b_) (en:{i1:TypeId}->b_->Option b_->Option b_->Option b_->Sem b_) (eo:{i1:TypeId}->{i2:Nat}->b_->Sem b_) (ep:{i1:TypeId}->b_->b_->Sem b_) (er:{i1:TypeId}->Option b_->Sem b_) (et:{i1:TypeId}->b_->b_->Sem b_) (eu:{i1:TypeId}->b_->Sem b_) (ew:{i1:TypeId}->{i2:Bool}->b_->b_->Sem b_) (ez:{i1:TypeId}->b_->b_->b_->Sem b_) (eA:{i1:TypeId}->b_->b_->Sem b_) (eB:{i1:TypeId}->b_->b_->b_->Sem b_) (eC:{i1:TypeId}->b_->Sem b_) (eH:{i1:Bool}->{i2:TypeId}->b_->Sem b_) (eI:b_->Sem b_) (eL:{i1 i2:TypeId}->{i3:Bool}->b_->Sem b_) (eN:{i1:Array TypeId}->{i2:TypeId}->b_->Sem b_) (eR:{i1:Array TypeId}->{i2:TypeId}->U_->Sem b_) (eX:{i1:Array TypeId}->{i2:TypeId}->U_->Sem b_) (fa:{i1:Array TypeId}->{i2:TypeId}->U_->Sem b_) (fo:{i1:Array TypeId}->{i2:TypeId}->U_->Sem b_) (fs:{i1:Array TypeId}->{i2:TypeId}->U_->Sem b_) (fv:{i1:Array TypeId}->{i2:TypeId}->U_->Sem b_) (fx:{i1:Array TypeId}->{i2:TypeId}->U_->Sem b_),F T (Pr.mk x0 x1 x2 x3 x4 x5 x6 x7 @x8 x9 j I J N O Q U V X Y Z a1 a6 a7 a8 aa ak al an av ax ay b0 b6 b7 b8 b9 ba bb bk bl bp bs bx c4 c6 c7 c8 c9 ca cc cq cu cx da dk dr dz dT e1 e2 e3 e4 e5 e6 e7 e8 e9 ea ec ed @ee @ef @eh @ej @ek @en @eo @ep @er @et @eu @ew @ez @eA @eB @eC @eH eI @eL @eN @eR @eX @fa @fo @fs @fv @fx) K=B T K x0 x1 x2 x3 x4 x5 x6 x7 @x8 x9 j I J N O Q U V X Y Z a1 a6 a7 a8 aa ak al an av ax ay b0 b6 b7 b8 b9 ba bb bk bl bp bs bx c4 c6 c7 c8 c9 ca cc cq cu cx da dk dr dz dT e1 e2 e3 e4 e5 e6 e7 e8 e9 ea ec ed @ee @ef @eh @ej @ek @en @eo @ep @er @et @eu @ew @ez @eA @eB @eC @eH eI @eL @eN @eR @eX @fa @fo @fs @fv @fx
abbrev PI(P:Program)(ok:Nat->Bool)(K:Cont)(B:PB):Prop:=B Prop K False And (λF=>∀h:Env,F h) (λC F=>∀w:c_,C w->F w) (λM i w j A=>AF (M i) w j/\A) World.drew (λw=>w.heap.size) undef (λ{v}=>v) (λk n=>Value.int k (vl n)) (λk n=>Value.int k (-vl n)) List.toArray not Bf Af Mm Cv OD JK BR DJ Cc Bv Aw Cl EO bH HZ fX Xq Xf P2 TB P6 QB cB bV bR fI NY JI MU BX KY DQ EE Az Dz RT (AD P) (WN P) (Bb P ok) (Co P ok) (runK P) (aw P) EV Ij Ik SN (Ru P) (Zw P) (Lt P) Mj DP GM Dm tV (OX P ok) vy PN Y3 (λ{o t x y} a b=>Di o t x y a b) (λ{o} a=>Op.unary o a) (λ{t} a b=>Instr.indexAt t a b) (λ{t} l=>Instr.build t l.toArray) (λ{s d} a=>convert s d a) (λ{t} a b c d=>Instr.sliceAt t a b c d) (λ{t f} a=>Instr.field t a f) (λ{t} a b=>Instr.index t a b) (λ{t} a=>Instr.makeMap t a) (λ{t} a b=>Instr.makeSlice t a b) (λ{t} a=>Instr.makeInterface t a) (λ{t b} x i=>Instr.lookup t x i b) (λ{t} m k x=>do Instr.mapUpdate t m k x;pure undef) (λ{t} m k=>Instr.mapEntry t m k) (λ{t} m s x=>do Instr.entryStore t m s x;pure undef) (λ{t} x=>Instr.range t x) (λ{s t} x=>Instr.next x s t) Instr.entry (λ{I t b} x=>Instr.typeAssert x I t b) (λ{a t} x=>Builtin.len_ a t #[x]) (λ{a t} l=>Builtin.append_ a t l.toArray) (λ{a t} l=>Builtin.copy_ a t l.toArray) (λ{a t} l=>Builtin.cap_ a t l.toArray) (λ{a t} l=>Builtin.max_ a t l.toArray) (λ{a t} l=>Builtin.min_ a t l.toArray) (λ{a t} l=>Builtin.clear_ a t l.toArray) (λ{a t} l=>Builtin.delete_ a t l.toArray)
abbrev PG(P:Program)(ok:Nat->Bool)(f:Func)(j:Hp)(l:U_)(w:c_):(T:Type)->Pr T->(b_->c_->T)->T:=λ_ p K=>pF p P ok f j l K w
abbrev PGM(P:Program)(ok:Nat->Bool)(f:Func)(j:Hp)(l:U_)(w:c_):(T:Type)->Pr T->(b_->c_->T)->T:=λ_ p K=>pFM p P ok f j l K w
abbrev PX(P:Program)(ok:Nat->Bool)(K:Cont)(F:(T:Type)->Pr T->(b_->c_->T)->T)(B:PB)(R:Prop):Prop:=PE F B/\PI P ok K B=R
section
variable {P:Program}{ok:Nat->Bool}{g:Nat}{fn:Func}{l:U_}{K:Cont}{w:c_}{S:Prop}
def zL(h:(fn.body.isSome&&Nat.ble l.length fn.ntmps)=true):fn.body=some (Br fn)/\Nat.ble l.length fn.ntmps=true:=by
 simp only[aE] at h;refine⟨?_,h.2⟩;unfold Br;cases hb:fn.body with
 |none=>rw[hb] at h;exact absurd h.1 (by decide)
 |some c=>rfl
def okS(I:Hp)(j:DU P ok)(hm:P.follows .mixedOrders=true)(J:P.funcs[g]?=some fn)(hc:(fn.body.isSome&&Nat.ble l.length fn.ntmps)=true)(h:S)(e:S=D P ok fn.ntmps (Br fn) I (Kg P fn.results.toList K) (Bf l) w):AD P g l K w:=iU (n:=fn.ntmps) j hm J (zL hc).1 rfl rfl (zL hc).2 (Eq.mp e h)
def okM(I:Hp)(j:DU P ok)(hm:P.follows .mixedOrders=true)(J:P.funcs[g]?=some fn)(hc:(fn.body.isSome&&Nat.ble l.length fn.ntmps)=true)(h:S)(e:S=DM P ok fn.ntmps (Br fn) I (λm=>Pm P m fn.results.toList K) (Kg P fn.results.toList K) (Bf l) w):AD P g l K w:=cM (n:=fn.ntmps) j hm J (zL hc).1 rfl rfl (zL hc).2 (Eq.mp e h)
def DG:Code->Hp->Hp
 |.seq x y,j=>match j with
  |.node L W a b=>.node L W (DG x a) (DG y b)
  |.cut L W a b=>.cut L W (DG x a) (DG y b)
  |_=>.node [] [] (DG x .nil) (DG y .nil)
 |.cond _ x y,j=>match j with
  |.node L W a b=>.node L W (DG x a) (DG y b)
  |_=>.node [] [] (DG x .nil) (DG y .nil)
 |.rangeFunc _ _ x y,j=>match j with
  |.node L W a b=>.node L W (DG x a) (DG y b)
  |_=>.node [] [] (DG x .nil) (DG y .nil)
 |.loop x,j=>match j with
  |.node L W a _=>.node L W (DG x a) .nil
  |_=>.node [] [] (DG x .nil) .nil
 |.block _ x,j=>DG x j
 |.scope x,j=>DG x j
 |_,j=>j
def iE:Nat->Nat->Nat->X_
 |0,_,_=>[]
 |k+1,i,n=>bif Nat.beq (Nat.mod n 2) 1 then i::iE k (i+1) (Nat.div n 2) else iE k (i+1) (Nat.div n 2)
def Hp.dm(BU m:X_):Hp:=.dc BU (m.map (iE m.length 0)) []
def Hp.y(b:Hp):Hp:=.node [] [] .nil b
def Hp.x(a:Hp):Hp:=.node [] [] a .nil
def Hp.z(a b:Hp):Hp:=.node [] [] a b
def Ve(fn:Func)(l:U_)(X:Prop):Prop:=bif fn.body.isSome&&Nat.ble l.length fn.ntmps then X else False
def VR{X:Prop}(h:Ve fn l X):(fn.body.isSome&&Nat.ble l.length fn.ntmps)=true/\X:=by
 unfold Ve at h;cases hb:(fn.body.isSome&&Nat.ble l.length fn.ntmps) with
 |false=>rw[hb] at h;exact h.elim
 |true=>rw[hb] at h;exact⟨rfl,h⟩
def okZ(I:Hp)(j:DU P ok)(hm:P.follows .mixedOrders=true)(J:P.funcs[g]?=some fn)(h:S)(e:S=Ve fn l (D P ok fn.ntmps (Br fn) (DG (Br fn) I) (Kg P fn.results.toList K) (Bf l) w)):AD P g l K w:=okS _ j hm J (VR (Eq.mp e h)).1 (VR (Eq.mp e h)).2 rfl
def AAF(I:Hp)(j:DU P ok)(hm:P.follows .mixedOrders=true)(J:P.funcs[g]?=some fn)(h:S)(e:S=Ve fn l (DM P ok fn.ntmps (Br fn) (DG (Br fn) I) (λm=>Pm P m fn.results.toList K) (Kg P fn.results.toList K) (Bf l) w)):AD P g l K w:=okM _ j hm J (VR (Eq.mp e h)).1 (VR (Eq.mp e h)).2 rfl
end
section
abbrev ZX(K:Cont)(f:Func)(j:Hp)(l:U_)(w:c_)(B:PB)(R:Prop):Prop:=PX prog EP K (PG prog EP f (DG (Br f) j) l w) B R
abbrev yi(K:Cont)(f:Func)(j:Hp)(l:U_)(w:c_)(B:PB)(R:Prop):Prop:=PX prog EP K (PGM prog EP f (DG (Br f) j) l w) B R
variable {g:Nat}{fn:Func}{l:U_}{K:Cont}{w:c_}{S:Prop}
def oZ(j:Hp)(I:prog.funcs[g]?=some fn)(h:S)(e:S=Ve fn l (D prog EP fn.ntmps (Br fn) (DG (Br fn) j) (Kg prog fn.results.toList K) (Bf l) w)):l_ g l K w:=okZ j Eo mixed I h e
def yp(j:Hp)(I:prog.funcs[g]?=some fn)(h:S)(e:S=Ve fn l (DM prog EP fn.ntmps (Br fn) (DG (Br fn) j) (λm=>Pm prog m fn.results.toList K) (Kg prog fn.results.toList K) (Bf l) w)):l_ g l K w:=AAF j Eo mixed I h e
variable {v0 v1 v2 v3 v4 v5:b_}
def O_{R:Cont->c_->Prop}{B:Cont->c_->PB}(I:prog.funcs[g]?=some fn)(h:R K w)(j:Hp:=.nil)(_p:∀K w,ZX K fn j [] w (B K w) (R K w):=by exact λ_ _=>⟨λ_=>by intros;conv=>lhs;reduce,by dsimp only[PI,Gb]⟩)(e:∀K w,R K w=Ve fn [] (D prog EP fn.ntmps (Br fn) (DG (Br fn) j) (Kg prog fn.results.toList K) (Bf []) w):=by intros;kernel_rfl):l_ g [] K w:=oZ j I h (e _ _)
def I_{R:b_->Cont->c_->Prop}{B:b_->Cont->c_->PB}(I:prog.funcs[g]?=some fn)(h:R v0 K w)(j:Hp:=.nil)(_p:∀v0 K w,ZX K fn j [v0] w (B v0 K w) (R v0 K w):=by exact λ_ _ _=>⟨λ_=>by intros;conv=>lhs;reduce,by dsimp only[PI,Gb]⟩)(e:∀v0 K w,R v0 K w=Ve fn [v0] (D prog EP fn.ntmps (Br fn) (DG (Br fn) j) (Kg prog fn.results.toList K) (Bf [v0]) w):=by intros;kernel_rfl):l_ g [v0] K w:=oZ j I h (e _ _ _)
def H_{R:b_->b_->Cont->c_->Prop}{B:b_->b_->Cont->c_->PB}(I:prog.funcs[g]?=some fn)(h:R v0 v1 K w)(j:Hp:=.nil)(_p:∀v0 v1 K w,ZX K fn j [v0,v1] w (B v0 v1 K w) (R v0 v1 K w):=by exact λ_ _ _ _=>⟨λ_=>by intros;conv=>lhs;reduce,by dsimp only[PI,Gb]⟩)(e:∀v0 v1 K w,R v0 v1 K w=Ve fn [v0,v1] (D prog EP fn.ntmps (Br fn) (DG (Br fn) j) (Kg prog fn.results.toList K) (Bf [v0,v1]) w):=by intros;kernel_rfl):l_ g [v0,v1] K w:=oZ j I h (e _ _ _ _)
def J_{R:b_->b_->b_->Cont->c_->Prop}{B:b_->b_->b_->Cont->c_->PB}(I:prog.funcs[g]?=some fn)(h:R v0 v1 v2 K w)(j:Hp:=.nil)(_p:∀v0 v1 v2 K w,ZX K fn j [v0,v1,v2] w (B v0 v1 v2 K w) (R v0 v1 v2 K w):=by exact λ_ _ _ _ _=>⟨λ_=>by intros;conv=>lhs;reduce,by dsimp only[PI,Gb]⟩)(e:∀v0 v1 v2 K w,R v0 v1 v2 K w=Ve fn [v0,v1,v2] (D prog EP fn.ntmps (Br fn) (DG (Br fn) j) (Kg prog fn.results.toList K) (Bf [v0,v1,v2]) w):=by intros;kernel_rfl):l_ g [v0,v1,v2] K w:=oZ j I h (e _ _ _ _ _)
def N_{R:b_->b_->b_->b_->Cont->c_->Prop}{B:b_->b_->b_->b_->Cont->c_->PB}(I:prog.funcs[g]?=some fn)(h:R v0 v1 v2 v3 K w)(j:Hp:=.nil)(_p:∀v0 v1 v2 v3 K w,ZX K fn j [v0,v1,v2,v3] w (B v0 v1 v2 v3 K w) (R v0 v1 v2 v3 K w):=by exact λ_ _ _ _ _ _=>⟨λ_=>by intros;conv=>lhs;reduce,by dsimp only[PI,Gb]⟩)(e:∀v0 v1 v2 v3 K w,R v0 v1 v2 v3 K w=Ve fn [v0,v1,v2,v3] (D prog EP fn.ntmps (Br fn) (DG (Br fn) j) (Kg prog fn.results.toList K) (Bf [v0,v1,v2,v3]) w):=by intros;kernel_rfl):l_ g [v0,v1,v2,v3] K w:=oZ j I h (e _ _ _ _ _ _)
def P_{R:b_->b_->b_->b_->b_->Cont->c_->Prop}{B:b_->b_->b_->b_->b_->Cont->c_->PB}(I:prog.funcs[g]?=some fn)(h:R v0 v1 v2 v3 v4 K w)(j:Hp:=.nil)(_p:∀v0 v1 v2 v3 v4 K w,ZX K fn j [v0,v1,v2,v3,v4] w (B v0 v1 v2 v3 v4 K w) (R v0 v1 v2 v3 v4 K w):=by exact λ_ _ _ _ _ _ _=>⟨λ_=>by intros;conv=>lhs;reduce,by dsimp only[PI,Gb]⟩)(e:∀v0 v1 v2 v3 v4 K w,R v0 v1 v2 v3 v4 K w=Ve fn [v0,v1,v2,v3,v4] (D prog EP fn.ntmps (Br fn) (DG (Br fn) j) (Kg prog fn.results.toList K) (Bf [v0,v1,v2,v3,v4]) w):=by intros;kernel_rfl):l_ g [v0,v1,v2,v3,v4] K w:=oZ j I h (e _ _ _ _ _ _ _)
def R_{R:b_->b_->b_->b_->b_->b_->Cont->c_->Prop}{B:b_->b_->b_->b_->b_->b_->Cont->c_->PB}(I:prog.funcs[g]?=some fn)(h:R v0 v1 v2 v3 v4 v5 K w)(j:Hp:=.nil)(_p:∀v0 v1 v2 v3 v4 v5 K w,ZX K fn j [v0,v1,v2,v3,v4,v5] w (B v0 v1 v2 v3 v4 v5 K w) (R v0 v1 v2 v3 v4 v5 K w):=by exact λ_ _ _ _ _ _ _ _=>⟨λ_=>by intros;conv=>lhs;reduce,by dsimp only[PI,Gb]⟩)(e:∀v0 v1 v2 v3 v4 v5 K w,R v0 v1 v2 v3 v4 v5 K w=Ve fn [v0,v1,v2,v3,v4,v5] (D prog EP fn.ntmps (Br fn) (DG (Br fn) j) (Kg prog fn.results.toList K) (Bf [v0,v1,v2,v3,v4,v5]) w):=by intros;kernel_rfl):l_ g [v0,v1,v2,v3,v4,v5] K w:=oZ j I h (e _ _ _ _ _ _ _ _)
def P'{R:b_->b_->Cont->c_->Prop}{B:b_->b_->Cont->c_->PB}(I:prog.funcs[g]?=some fn)(h:R v0 v1 K w)(j:Hp:=.nil)(_p:∀v0 v1 K w,yi K fn j [v0,v1] w (B v0 v1 K w) (R v0 v1 K w):=by exact λ_ _ _ _=>⟨λ_=>by intros;conv=>lhs;reduce,by dsimp only[PI,Gb]⟩)(e:∀v0 v1 K w,R v0 v1 K w=Ve fn [v0,v1] (DM prog EP fn.ntmps (Br fn) (DG (Br fn) j) (λm=>Pm prog m fn.results.toList K) (Kg prog fn.results.toList K) (Bf [v0,v1]) w):=by intros;kernel_rfl):l_ g [v0,v1] K w:=yp j I h (e _ _ _ _)
def O'{R:b_->b_->b_->Cont->c_->Prop}{B:b_->b_->b_->Cont->c_->PB}(I:prog.funcs[g]?=some fn)(h:R v0 v1 v2 K w)(j:Hp:=.nil)(_p:∀v0 v1 v2 K w,yi K fn j [v0,v1,v2] w (B v0 v1 v2 K w) (R v0 v1 v2 K w):=by exact λ_ _ _ _ _=>⟨λ_=>by intros;conv=>lhs;reduce,by dsimp only[PI,Gb]⟩)(e:∀v0 v1 v2 K w,R v0 v1 v2 K w=Ve fn [v0,v1,v2] (DM prog EP fn.ntmps (Br fn) (DG (Br fn) j) (λm=>Pm prog m fn.results.toList K) (Kg prog fn.results.toList K) (Bf [v0,v1,v2]) w):=by intros;kernel_rfl):l_ g [v0,v1,v2] K w:=yp j I h (e _ _ _ _ _)
def Q_{R:b_->b_->b_->b_->Cont->c_->Prop}{B:b_->b_->b_->b_->Cont->c_->PB}(I:prog.funcs[g]?=some fn)(h:R v0 v1 v2 v3 K w)(j:Hp:=.nil)(_p:∀v0 v1 v2 v3 K w,yi K fn j [v0,v1,v2,v3] w (B v0 v1 v2 v3 K w) (R v0 v1 v2 v3 K w):=by exact λ_ _ _ _ _ _=>⟨λ_=>by intros;conv=>lhs;reduce,by dsimp only[PI,Gb]⟩)(e:∀v0 v1 v2 v3 K w,R v0 v1 v2 v3 K w=Ve fn [v0,v1,v2,v3] (DM prog EP fn.ntmps (Br fn) (DG (Br fn) j) (λm=>Pm prog m fn.results.toList K) (Kg prog fn.results.toList K) (Bf [v0,v1,v2,v3]) w):=by intros;kernel_rfl):l_ g [v0,v1,v2,v3] K w:=yp j I h (e _ _ _ _ _ _)
def Sa{R:b_->b_->b_->b_->b_->Cont->c_->Prop}{B:b_->b_->b_->b_->b_->Cont->c_->PB}(I:prog.funcs[g]?=some fn)(h:R v0 v1 v2 v3 v4 K w)(j:Hp:=.nil)(_p:∀v0 v1 v2 v3 v4 K w,yi K fn j [v0,v1,v2,v3,v4] w (B v0 v1 v2 v3 v4 K w) (R v0 v1 v2 v3 v4 K w):=by exact λ_ _ _ _ _ _ _=>⟨λ_=>by intros;conv=>lhs;reduce,by dsimp only[PI,Gb]⟩)(e:∀v0 v1 v2 v3 v4 K w,R v0 v1 v2 v3 v4 K w=Ve fn [v0,v1,v2,v3,v4] (DM prog EP fn.ntmps (Br fn) (DG (Br fn) j) (λm=>Pm prog m fn.results.toList K) (Kg prog fn.results.toList K) (Bf [v0,v1,v2,v3,v4]) w):=by intros;kernel_rfl):l_ g [v0,v1,v2,v3,v4] K w:=yp j I h (e _ _ _ _ _ _ _)
end
def uS{a b:b_}{l m:V_}(ha:Bo S w a l)(hb:Bo S' w b m) : l_ 82 [a,b] (λv w'=>v=.bool (decide (l=m))/\AG w w') w:=by
 refine H_ func82 ?_ (.y (.y (.x (.y (.node [13] [(4,5),(13,25)] (.y (.y (.x (.y (.x .Ec))))) .nil)))));obtain⟨pa,ca,rfl,N⟩:=ha.AK;obtain⟨pb,cb,rfl,O⟩:=hb.AK;simp only[KS];simp only[maxLen] at N O;by_cases X:l.length=m.length;rw[By (show ¬¬(l.length:Int)=m.length by omega)];refine⟨λvs w'=>∃k:Nat,k<=l.length/\vs=[zIq k]/\AG w w'/\l.take k=m.take k,λvs _=>l.length-Da vs 0,⟨0,Lc _,rfl,AF.refl _ _,rfl⟩,?_⟩;rintro vs Y ⟨k,hk,rfl,Z,ht⟩ h;simp only[KS];by_cases I:k<l.length;rw[Ix (show(k:Int)<l.length by omega)];refine⟨AG Y,AF.drew _ _,?_⟩;obtain⟨p,r,rfl,_,hr,hc,hx⟩:=ha.get I;obtain⟨q,r',rfl,_,Q,a1,U⟩:=hb.get (show k<m.length by omega);refine AV I (Ki hr (λJ V j u hu=>?_) ?_);grind[Addr.add_add,AF.cell];refine AV E (Ki Q (λJ V j u hu=>?_) ?_);grind[Addr.add_add,AF.cell];subst hx;subst U;refine⟨_,λJ _=>WU _ _ _ _ J,λJ V=>?_⟩;simp only[KS];by_cases he:l[k]=m[k];rw[By (λh=>h he)];refine⟨⟨k+1,E,by grind[wrap64],Z.trans V,?_⟩,?_⟩;grind[List.take_add_one];simp only[Da,Bf,HK];grind[wrap64];grind[AF.trans,decide_eq_false_iff_not];grind;grind[AF.refl,decide_eq_false_iff_not]
def OM{a b:b_}{l m:V_}(ha:Bo S w a l)(hb:Bo S' w b m) : l_ 40 [a,b] (λv w'=>v=.bool (decide (l=m))/\AG w w') w:=by
 refine H_ func40 ?_;exact uS ha hb
def MK{l:V_}(h:Bo S w v l)(hl:l.length*48<=140737488355328) : l_ 146 [v] (λv' w'=>Kh w.heap.size w' v' l/\AG w w') w:=by
 refine I_ func146 ?_;obtain⟨a,c,rfl,hm⟩:=h.AK;cases a with
 |none=>
  simp only[KS];have:l=[]:=by
   cases l with
   |nil=>rfl
   |cons x l=>obtain⟨p,r,e,_⟩:=h.get (i:=0) E_;cases e
  grind[AB.nil,AF.refl]
 |some p=>
  simp only[KS];apply EW;have j:AG w (w.alloc (.cells #[] 143)):=AF.alloc _ _ _;have I:Kh w.heap.size (w.alloc (.cells #[] 143)) (.slice (f_ w.heap.size) 0 0) []:=AB.Rz (DN _);obtain⟨v',w',h1,N,J,O⟩:=AB.append (ty:=47) GC I (h.S_ j C0 C_) (λ_ _=>CC.one) (by simpa using hl) E_ (by simpa using hm) B_;refine AY h1 ⟨?_,j.next (AF.BO J) ?_⟩;grind;intro b hb e;simp only[Value.ownBlock,gn] at e;omega
def GL{l:V_}(h:Bo S w v l)(hl:l.length*48<=140737488355328) : l_ 80 [v] (λv' w'=>Kh w.heap.size w' v' l/\AG w w') w:=by
 refine I_ func80 ?_;exact MK h hl
theorem Ia{t:TypeId}{j:Nat}(h:vs[j]?=some v):(w.alloc (.cells vs.toArray t)).cell? ((⟨w.heap.size,0,none⟩:Addr).add j)=some v:=by
 have I:(⟨w.heap.size,0,none⟩:Addr).add j=⟨w.heap.size,j,none⟩:=by unfold Addr.add;grind
 grind[World.cell?_alloc_new]
theorem AB.Am{B e k:Nat}{R:c_->U_->α->Prop}{l:List α}(h:AB B e k R w v l):∀g,v.ownBlock=some g->B<=g/\g<w.heap.size:=by
 obtain⟨a,c,rfl,_,_,hp,_⟩:=AB.AK h;intro g j;cases a with
 |none=>cases j
 |some p=>grind
theorem Al.JW{k:Nat}{R:c_->U_->α->Prop}{l:List α}(h:Al S k R w v l)(hk:0<k):Al (λb=>S b/\b<w.heap.size) k R w v l:=h.sub B_ hk C_
structure Cel where
 r:Int
 set:V_
 deriving DecidableEq
abbrev _root_.Go.Y_:=List Cel
def Ky(D:d_)(w:c_)(r:U_)(c:Cel):Prop:=∃sv,r=[.int .i32 c.r,sv]/\Bo D w sv c.set
theorem Ky.one{D:d_}{r:U_}{b:Cel}(h:Ky D w r b):∀u∈r,u.oneCell'=true:=by
 obtain⟨sv,rfl,j⟩:=h;obtain⟨a,c,rfl,_⟩:=j.AK;intro u hu;simp only[S6,aAU,aBn] at hu;rcases hu with rfl|rfl<;>rfl
def Ky.T_{D D' M:d_}{r:U_}{b:Cel}(h:Ky D w r b)(hm:AF M w w')(J:∀b,b<w.heap.size->D b->¬M b)(j:∀b,b<w.heap.size->D b->D' b):Ky D' w' r b:=by
 obtain⟨sv,rfl,I⟩:=h;exact⟨sv,rfl,I.mono j (by grind[AF.Ak]) C0 C_⟩
def Wk:DD prog 38 49 2 32:=⟨Tryz.t49,.agg #[.int .i32 0,g_],D_,D_,D_,D_,D_,by rfl,C0⟩
abbrev Be(S D:d_)(w:c_)(v:b_)(l:Y_):Prop:=Al S 2 (Ky D) w v l
theorem Ai(a:Addr)(x:Nat):(a.add x).block=a.block:=by unfold Addr.add;grind
def AF.putObj(w:c_)(b:Nat)(o:Obj)(h:M b):AF M w (w.putObj b o):=⟨rfl,rfl,rfl,E_,(by grind[World.putObj_heap_other])⟩
def La{j:d_}{J:c_->Prop}{O:Exit->c_->Prop}{F:(Exit->c_->Prop)->c_->Prop}{M Q:d_}(hm:AF M W w')(X:w.heap.size+2<=W.heap.size)(U:∀b,j b->b<W.heap.size/\Q b) (Y:∀b,b<W.heap.size->M b->¬j b/\b≠w.heap.size/\b≠w.heap.size+1)(h:∀N,AF (λb=>b=w.heap.size+1) w' N->F (iS j w N J O) N):dS j w W J O F w':=by
 refine⟨⟨hm.size,λb hb=>hm.Ak b ?_ λV=>?_,hm.os,hm.tape,hm.output⟩,h⟩;grind;grind
def Pa{j:d_}(hm:AF M W W')(N:w.heap.size+2<=W.heap.size)(I:∀b,j b->b<W.heap.size) (O:∀b,b<W.heap.size->M b->¬j b/\b≠w.heap.size/\b≠w.heap.size+1):wM j w W W':=by
 refine⟨hm.size,λb hb=>hm.Ak b ?_ λJ=>?_,hm.os,hm.tape,hm.output⟩;grind;grind
theorem AB.one{B e k:Nat}{R:c_->U_->α->Prop}{l:List α}(h:AB B e k R w v l):v.oneCell'=true/\v.cells=#[v]:=by
 obtain⟨a,c,rfl,_⟩:=AB.AK h;exact⟨rfl,rfl⟩
def QH(a b:Int):Int:=if b>a then b else a
def Al.Rz{k:Nat}{R:c_->U_->α->Prop}{t:TypeId}{l:List α}(Ao:List U_)(hr:∀r∈Ao,r.length=k)(hl:Ao.length=l.length)(I:l.length<=maxLen) (J:∀(i:Nat) (r:U_) (x:α),Ao[i]?=some r->l[i]?=some x->R (w.alloc (.cells Ao.flatten.toArray t)) r x):Al (λb=>b=w.heap.size) k R (w.alloc (.cells Ao.flatten.toArray t)) (.slice (f_ w.heap.size) l.length l.length) l:=by
 refine⟨_,_,rfl,DN _,I,λi x N=>?_⟩;have hi:i<Ao.length:=B_;refine⟨_,Ao[i],rfl,rfl,hr _ E_,λj u hu=>?_,B_⟩;have O:j<k:=B_;grind[Ia,LK]
def Gv(l:List α):l=[]\/∃i b,l=i++[b]:=by
 rcases l9 l with h|⟨i,b,h⟩<;>grind
def Hu{p:List α->Prop}(h0:p [])(h1:∀l a,p l->p (l++[a])):∀l,p l:=by
 intro l;have:∀n,∀l:List α,l.length=n->p l:=by
  intro n;induction n with
  |zero=>grind
  |succ n j=>
   intro l hl;rcases Gv l with rfl|⟨i,b,rfl⟩<;>grind
 grind
def Be.S_{S D:d_}{l:Y_}(h:Be S D w v l)(j:AG w w'):Be S D w' v l:=Al.S_ h j C0 λ_ _ I=>I.T_ j E' C_
def nN(n:Int)(s:V_):List V_:=List.replicate n.toNat s
def pl(l:List Blk):List V_:=l.flatMap λb=>nN b.n b.set
theorem Ae{p:Prop}[Decidable p]{A B:Prop}(h1:p->A)(j:¬p->B):Af (.bool (decide p)) A B:=by
 rw[qE];grind
def neZ{q:IntKind}{a:Int}{A B:Prop}(h:B):TB q (.int q a) (.int q a) λt=>Af t A B:=by
 rw[FQ,ys rfl];exact h
def Ha:(∀(l:U_) k,Bf l (k+1)=Bf l.tail k)/\(∀l:U_,Bf l 0=l.headD undef)/\(∀(a:b_) l d,(a::l).headD d=a)/\∀(a:b_) l,(a::l).tail=l:=⟨XC,Bh,λ_ _ _=>rfl,λ_ _=>rfl⟩
theorem AH(g x:Nat):(⟨g,0,none⟩:Addr).add x=⟨g,x,none⟩:=by unfold Addr.add;grind
def fl0{b q:Nat}{K:b_->c_->Prop}(hc:w.cell? ⟨b,q,none⟩=some v)(h:K v w):BX q (e_ b) λt=>BR t K w:=by
 rw[AE,AH];exact AI hc h
def Bg(w:c_)(a:Addr):Prop:=(w.cell? a).isSome=true/\w.frozen? a=false
theorem Bg.set{a:Addr}(h:Bg w a)(b:Addr)(u:b_):Bg (w.setCell b u) a:=by
 refine⟨?_,by rw[World.frozen?_setCell];exact h.2⟩;obtain⟨v,j⟩:=lP.1 h.1;by_cases e:b=a<;>grind[World.cell?_setCell_same,World.cell?_setCell_other]
theorem Bg.T_{a:Addr}(h:Bg w a)(hm:AF M w w')(j:¬M a.block):Bg w' a:=by
 obtain⟨v,I⟩:=lP.1 h.1;exact⟨by grind[AF.cell],(hm.X9 (lA w a I) j).trans h.2⟩
def Bg.st{a:Addr}{u:b_}{K:c_->Prop}(h:Bg w a)(h1:u.oneCell'=true)(j:u.cells=#[u])(I:K (w.setCell a u)):Cc (.pointer (some a)) u K w:=by
 obtain⟨v,J⟩:=lP.1 h.1;exact O6 h1 j J h.2 I
theorem AB.Cq{B e k:Nat}{R:c_->U_->α->Prop}{a:Option Addr}{n c:Nat}{l:List α}(h:AB B e k R w (.slice a n c) l){i j:Nat}(hi:i<l.length)(X:j<k) : ∃g,a=f_ g/\n=l.length/\Bg w ((⟨g,0,none⟩:Addr).add (i*k+j)):=by
 obtain⟨Ao,h1,Y,Z,h4⟩:=h;have Q:∀r∈Ao,r.length=k:=B_;have J:∃g,a=f_ g/\n=l.length:=by
  rcases h1.2 with⟨V,hn⟩|⟨g',O,U,V,_⟩<;>grind
 obtain⟨g,rfl,rfl⟩:=J;refine⟨g,rfl,rfl,?_⟩;have I:(⟨g,0,none⟩:Addr).add (i*k+j)=⟨g,i*k+j,none⟩:=by unfold Addr.add;grind
 have N:i*k+j<l.length*k:=by
  have:(i+1)*k<=l.length*k:=y9 _ hi;grind
 rw[I];refine⟨?_,h1.frozenAt _⟩;rw[h1.cellAt _ N];grind[Eb]
structure Chg where
 key:Int
 Ar:Bool
 val:As
 deriving DecidableEq
abbrev _root_.Go.W_:=List Chg
def Chg.cells(a:Chg):U_:=zIq a.key::.bool a.Ar::a.val.cells
abbrev CO:c_->U_->Chg->Prop:=λ_ r x=>r=x.cells
abbrev Bk:c_->U_->Int->Prop:=λ_ r x=>r=[.int .i32 x]
abbrev LQ(S:d_)(w:c_)(v:b_)(l:V'):Prop:=Al S 1 Bk w v l
abbrev DY(S:d_)(w:c_)(v:b_)(l:W_):Prop:=Al S 6 CO w v l
def Bk.one{r:U_}{x:Int}(h:Bk w r x):∀u∈r,u.oneCell'=true:=by
 subst h;intro u hu;simp at hu;subst hu;rfl
def CO.one{r:U_}{x:Chg}(h:CO w r x):∀u∈r,u.oneCell'=true:=by
 intro u hu;subst h;simp only[Chg.cells,As.cells,S6,aAU,aBn] at hu;rcases hu with rfl|rfl|rfl|rfl|rfl|rfl<;>rfl
def Ju:DD prog 81 21 1 4:=⟨Tryz.t21,.int .i32 0,D_,D_,D_,D_,D_,by rfl,C0⟩
def GR:DD prog 33 80 6 56:=⟨Tryz.t80,.agg #[zIq 0,.bool false,.int .u8 0,zIq 0,.int .u64 0,.string ⟨#[]⟩],D_,D_,D_,D_,D_,by rfl,C0⟩
def RR(n:Nat)(x y:As)(w:c_) : (Op.equalIn (n+2) 78 (.agg x.cells.toArray) (.agg y.cells.toArray)).run prog w=.ok (decide (x=y)) w:=by
 have j:prog.underlying 78=some (.struct (prog.fieldsOf 78)):=D_;have X:=underlying5;have Y:=underlying2;have Z:=underlying76;have u5:=underlying9;have Q:=Tryz.isAgg5;have U:=Tryz.isAgg2;have V:=Tryz.isAgg76;rw[aCi w (n+1) _ _ _ j Tryz.stoodInHeld78];simp only[Program.fieldsOf,underlying78,As.cells];have I:∀a b:Int,(Op.equalIn (n+1) 5 (.int .u8 a) (.int .u8 b)).run prog w=.ok (a==b) w:=by grind[run_equalIn_int]
 have J:∀a b:Int,(Op.equalIn (n+1) 2 (zIq a) (zIq b)).run prog w=.ok (a==b) w:=by grind[run_equalIn_int]
 have N:∀a b:Int,(Op.equalIn (n+1) 76 (.int .u64 a) (.int .u64 b)).run prog w=.ok (a==b) w:=by grind[run_equalIn_int]
 have O:∀a b:ByteArray,(Op.equalIn (n+1) 9 (.string a) (.string b)).run prog w=.ok (a.toList==b.toList) w:=by grind[run_equalIn_string]
 have q:decide (x=y)=(x.AR==y.AR&&(x.n==y.n&&(x.f==y.f&&decide (x.s=y.s)))):=by
  cases x;cases y<;>grind
 rw[q];simp[Op.eqFields,part,Q,U,V,Tryz.isAgg9,I,J,N,O,toList_beq];grind
def fz(a b:Chg)(w:c_) : (Op.equalIn 10000 80 (.agg a.cells.toArray) (.agg b.cells.toArray)).run prog w=.ok (decide (a=b)) w:=by
 have j:prog.underlying 80=some (.struct (prog.fieldsOf 80)):=D_;rw[show(10000:Nat)=9999+1 from rfl,aCi w 9999 _ _ _ j Tryz.stoodInHeld80];simp only[Program.fieldsOf,underlying80,Chg.cells,As.cells];have I:=Tryz.isAgg3;have J:=Tryz.isAgg78;have N:∀w,(sizeOf 78).run prog w=.ok 4 w:=λw=>by simp only[sizeOf,aR,Tryz.typeInfo78,Ty,aAY];rfl
 have O:∀a b:Int,(Op.equalIn 9999 3 (zIq a) (zIq b)).run prog w=.ok (a==b) w:=by grind[run_equalIn_int,underlying3]
 have Q:∀a b:Bool,(Op.equalIn 9999 4 (.bool a) (.bool b)).run prog w=.ok (a==b) w:=by grind[Go.run_equalIn_bool,underlying4]
 have U:(Op.equalIn 9999 78 (.agg #[.int .u8 a.val.AR,zIq a.val.n,.int .u64 a.val.f,.string a.val.s]) (.agg #[.int .u8 b.val.AR,zIq b.val.n,.int .u64 b.val.f,.string b.val.s])).run prog w=.ok (decide (a.val=b.val)) w:=RR 9997 a.val b.val w;have q:decide (a=b)=(a.key==b.key&&(a.Ar==b.Ar&&decide (a.val=b.val))):=by
  cases a;cases b<;>grind
 rw[q];simp[Op.eqFields,part,I,J,Tryz.isAgg4,N,O,Q,U];grind
theorem YT(xo yo:Operand)(a b:Chg)(w:c_) : (Di .neq 80 xo yo (.agg a.cells.toArray) (.agg b.cells.toArray)).run prog w=.ok (.bool (!decide (a=b))) w:=by
 simp only[Di,aR,aCj w .neq _ xo yo _ _ Tryz.eqGuardType80,Ty];rw[aDS,fz];rfl
def Ka(xo yo:Operand)(a b:As)(w:c_) : (Di .eql 78 xo yo (.agg a.cells.toArray) (.agg b.cells.toArray)).run prog w=.ok (.bool (decide (a=b))) w:=by
 simp only[Di,aR,aCj w .eql _ xo yo _ _ Tryz.eqGuardType78,Ty];rw[run_eql_struct,RR 9998];rfl
def Q9(xo yo:Operand)(a b:As)(w:c_) : (Di .neq 78 xo yo (.agg a.cells.toArray) (.agg b.cells.toArray)).run prog w=.ok (.bool (!decide (a=b))) w:=by
 simp only[Di,aR,aCj w .neq _ xo yo _ _ Tryz.eqGuardType78,Ty];rw[aDS,RR 9998];rfl
structure Dop where
 AR:Int
 n:Int
 AZ:V'
 set:V_
 AU:W_
 deriving DecidableEq
abbrev _root_.Go.U':=List Dop
def B0(D:d_)(w:c_)(r:U_)(o:Dop):Prop:=∃rv sv j,r=[.int .u8 o.AR,zIq o.n,rv,sv,j]/\LQ D w rv o.AZ/\Bo D w sv o.set/\DY D w j o.AU
def B0.one{D:d_}{r:U_}{o:Dop}(h:B0 D w r o):∀u∈r,u.oneCell'=true:=by
 obtain⟨U,sv,J,rfl,h1,j,I⟩:=h;obtain⟨N,c1,rfl,_⟩:=h1.AK;obtain⟨O,c2,rfl,_⟩:=j.AK;obtain⟨V,Q,rfl,_⟩:=I.AK;intro u hu;simp only[S6,aAU,aBn] at hu;rcases hu with rfl|rfl|rfl|rfl|rfl<;>rfl
theorem B0.T_{D D' M:d_}{r:U_}{o:Dop}(h:B0 D w r o)(hm:AF M w w')(Q:∀b,b<w.heap.size->D b->¬M b)(j:∀b,b<w.heap.size->D b->D' b):B0 D' w' r o:=by
 obtain⟨O,sv,I,rfl,h1,J,N⟩:=h;exact⟨O,sv,I,rfl,h1.mono j (by grind[AF.Ak]) C0 C_,J.mono j (by grind[AF.Ak]) C0 C_,N.mono j (by grind[AF.Ak]) C0 C_⟩
def GU:DD prog 31 126 5 88:=⟨Tryz.t126,.agg #[.int .u8 0,zIq 0,g_,g_,g_],D_,D_,D_,D_,D_,by rfl,C0⟩
abbrev Ag(S D:d_)(w:c_)(v:b_)(l:U'):Prop:=Al S 5 (B0 D) w v l
theorem Ag.S_{S D:d_}{l:U'}(h:Ag S D w v l)(j:AG w w'):Ag S D w' v l:=Al.S_ h j C0 λ_ _ I=>I.T_ j E' C_
theorem Ag.T_{S D M:d_}{l:U'}(h:Ag S D w v l)(hm:AF M w w')(J:∀b,b<w.heap.size->S b->¬M b)(j:∀b,b<w.heap.size->D b->¬M b):Ag S D w' v l:=
 Al.mono h C_ (by grind[AF.Ak]) C0 λ_ _ I=>I.T_ hm j C_
def Kt(D:d_)(w:c_)(r:U_)(o:Dop):Prop:=∃rv sv j,r=[.int .u8 o.AR,zIq o.n,rv,sv,j]/\ (AB 0 21 1 Bk w rv o.AZ/\∀g,rv.ownBlock=some g->D g)/\(Kh 0 w sv o.set/\∀g,sv.ownBlock=some g->D g)/\(AB 0 80 6 CO w j o.AU/\∀g,j.ownBlock=some g->D g)
theorem RC{e k:Nat}{R:c_->U_->α->Prop}{D:d_}{l:List α}(hk:0<k)(h:AB 0 e k R w v l/\∀g,v.ownBlock=some g->D g):Al D k R w v l:=Al.sub (AB.sl h.1) B_ hk C_
def MH{e k:Nat}{R:c_->U_->α->Prop}{D D' M:d_}{l:List α}(h:AB 0 e k R w v l/\∀g,v.ownBlock=some g->D g)(hm:AF M w w')(J:∀b,b<w.heap.size->D b->¬M b)(I:∀b,b<w.heap.size->D b->D' b) (N:∀r x,R w r x->R w' r x):AB 0 e k R w' v l/\∀g,v.ownBlock=some g->D' g:=⟨AB.T_ h.1 hm (λg j=>J g (AB.Am h.1 g j).2 (h.2 g j)) B_,λg j=>I g (AB.Am h.1 g j).2 (h.2 g j)⟩
def Kt.rd{D:d_}{r:U_}{o:Dop}(h:Kt D w r o):B0 D w r o:=by
 obtain⟨N,sv,j,rfl,h1,I,J⟩:=h;exact⟨N,sv,j,rfl,RC C0 h1,RC C0 I,RC C0 J⟩
def Kt.one{D:d_}{r:U_}{o:Dop}(h:Kt D w r o):∀u∈r,u.oneCell'=true:=h.rd.one
def Kt.T_{D D' M:d_}{r:U_}{o:Dop}(h:Kt D w r o)(hm:AF M w w')(I:∀b,b<w.heap.size->D b->¬M b)(j:∀b,b<w.heap.size->D b->D' b):Kt D' w' r o:=by
 obtain⟨Q,sv,J,rfl,h1,N,O⟩:=h;exact⟨Q,sv,J,rfl,MH h1 hm I j C_,MH N hm I j C_,MH O hm I j C_⟩
def Bs(B:Nat)(w:c_)(v:b_)(l:U'):Prop:=AB B 126 5 (Kt λb=>B<=b/\v.ownBlock≠some b) w v l
def Bs.sl{l:U'}(h:Bs B w v l):Ag (λb=>B<=b/\v.ownBlock=some b) (λb=>B<=b/\v.ownBlock≠some b) w v l:=Al.sub (AB.sl h) C_ C0 λ_ _ h=>h.rd
def Bs.S_{l:U'}(h:Bs B w v l)(hm:AF M w w')(I:∀b,b<w.heap.size->B<=b->¬M b):Bs B w' v l:=AB.T_ h hm (λg j=>I g (AB.Am h g j).2 (AB.Am h g j).1) λr x _ J=>J.T_ hm B_ C_
def Bs.reads{l:U'}(h:Bs B w v l):Ag (λb=>B<=b/\b<w.heap.size) (λb=>B<=b/\b<w.heap.size) w v l:=Al.sub (Bs.sl h) E C0 λr x j=>j.T_ j0 E' E
structure DKey where
 id:Int
 block:Bool
 AR:Int
 after:Bool
 Ib:Bool
 HJ:Int
 deriving DecidableEq
abbrev _root_.Go.X':=List DKey
def DKey.cells(k:DKey):U_:=[zIq k.id,.bool k.block,.int .u8 k.AR,.bool k.after,.bool k.Ib,zIq k.HJ]
abbrev Hg:c_->U_->DKey->Prop:=λ_ r x=>r=x.cells
abbrev Mh(S:d_)(w:c_)(v:b_)(l:X'):Prop:=Al S 6 Hg w v l
def Hg.one{r:U_}{x:DKey}(h:Hg w r x):∀u∈r,u.oneCell'=true:=by
 intro u hu;subst h;simp only[DKey.cells,S6,aAU,aBn] at hu;rcases hu with rfl|rfl|rfl|rfl|rfl|rfl<;>rfl
def Zb(a:Attr):Nat:=a.val.s.size+1
def qS(a:Chg):Nat:=a.val.s.size+1
def Pz(_:Attr):Nat:=1
def V6(_:Chg):Nat:=1
def JS(l:V_):Nat:=(l.map Pz).sum
def Jd(l:W_):Nat:=(l.map V6).sum
def EN(o:Dop):Nat:=1+o.AZ.length+JS o.set+Jd o.AU
def Av(l:U'):Nat:=(l.map EN).sum
def L4{P:Program}{t e k bytes:Nat}{R:c_->U_->α->Prop}{l:List α}(O:DD P t e k bytes)(h:Al S k R w v l)(hl:l.length*bytes<=140737488355328) (Q:∀w r y,R w r y->∀u∈r,u.oneCell'=true)(U:∀j w2 r y,w.heap.size<=j.heap.size->AF (λb=>w.heap.size<=b) j w2->R j r y->R w2 r y) (V:∀v' w',AB w.heap.size e k R w' v' l->AG w w'->K v' w') : NY v λb4=>Af (.bool b4) (K g_ w) (EE e k 0 [] [] (λt5 j=>runK P (Builtin.append_ #[t,t] t [t5,v].toArray) (λX w2=>K X w2) j) w):=by
 obtain⟨a,c,rfl,hm⟩:=h.AK;have hk:=O;obtain⟨_,_,_,_,_,_,_,_,I⟩:=hk;cases a with
 |none=>
  simp only[KS];have:l=[]:=by
   cases l with
   |nil=>rfl
   |cons x l=>obtain⟨p,r,e,_⟩:=h.get (i:=0) E_;cases e
  grind[AB.nil,AF.refl]
 |some p=>
  simp only[KS];apply EW;have J:AG w (w.alloc (.cells #[] e)):=AF.alloc _ _ _;have Y:AB w.heap.size e k R (w.alloc (.cells #[] e)) (.slice (f_ w.heap.size) 0 0) ([]:List α):=AB.Rz (DN _);obtain⟨v',w',h1,h2,Z,h4⟩:=AB.append (ty:=t) O Y ((h.JW I).S_ J I λr x hx=>U _ _ _ _ (DN _) J.T_ hx) B_ (by simpa using hl) E_ (by simpa using hm) (λw' N r y hy=>U _ _ _ _ J.size ((AF.BO N).mono λb _ e=>by simp only[Value.ownBlock,gn] at e;omega) hy);refine AY h1 (V _ _ ?_ (J.next (AF.BO Z) ?_));grind;intro b hb e;simp only[Value.ownBlock,gn] at e;omega
theorem BM{p:Prop}[Decidable p]{A B:Prop}(h1:p->B)(j:¬p->A):Af (.bool (!decide p)) A B:=by
 by_cases h:p;rw[ys h];exact h1 h;rw[zk h];exact j h
def qp[DecidableEq α]{P:Program}{k:Nat}{R R':c_->U_->α->Prop}{a b:Option Addr}{l m:List α}{bin:b_->b_->Sem b_} (ha:Al S k R w (.slice a l.length e) l)(hb:Al S' k R' w (.slice b m.length c) m)(a7:l.length=m.length)(hm:l.length<=maxLen) (N:∀r Q x y I,R w r x->R' w Q y->(bin (.agg r.toArray) (.agg Q.toArray)).run P I=.ok (.bool (!decide (x=y))) I) (hK:∀w',AG w w'->K (.bool (decide (l=m))) w') : GM [(zIq 0)] (λvs J I=>∀ _:Env,HZ .i64 (Bf vs 0) (zIq l.length) λU=>Af U (Mj I (λC=>KY k (.slice a l.length e) (Bf vs 0) λV=>SN C k V λX=>KY k (.slice b m.length c) (Bf vs 0) λt22=>SN C k t22 λY=>Lt P C (bin X Y) λZ=>∀ w2:c_,C w2->Af Z (K (.bool false) w2) (Cl .i64 (Bf vs 0) (zIq 1) λt25=>J [t25] w2))) (K (.bool true) I)) w:=by
 simp only[maxLen] at hm;apply Aa (λvs w'=>∃k:Nat,k<=l.length/\vs=[zIq k]/\AG w w'/\l.take k=m.take k) (λvs _=>l.length-Da vs 0) ⟨0,Lc _,rfl,AF.refl _ _,rfl⟩;rintro vs I ⟨q,hq,rfl,hg,ht⟩ h;simp only[KS];by_cases O:q<l.length;rw[Ix (show(q:Int)<l.length by omega)];refine⟨AG I,AF.drew _ _,?_⟩;obtain⟨p,r,rfl,_,hr,hc,hx⟩:=ha.get O;obtain⟨p',Q,rfl,_,a1,a8,a6⟩:=hb.get (show q<m.length by omega);refine AV O (Ki hr (λw2 h2 j u hu=>?_) ?_);grind[Addr.add_add,AF.cell];refine AV E (Ki a1 (λw2 h2 j u hu=>?_) ?_);grind[Addr.add_add,AF.cell];refine⟨_,λw2 _=>N _ _ _ _ w2 hx a6,λw2 h2=>?_⟩;simp only[KS];by_cases he:l[q]=m[q];rw[By (λh=>h he)];refine⟨⟨q+1,E,by grind[wrap64],hg.trans h2,?_⟩,?_⟩;grind[List.take_add_one];grind[Da,Bf,wrap64];grind[decide_eq_false_iff_not,AF.trans];grind
def jO{q:IntKind}{R:c_->U_->Int->Prop}{a b:Option Addr}{l m:V'} (ha:Al S 1 R w (.slice a l.length e) l)(hb:Al S' 1 R w (.slice b m.length c) m)(a7:l.length=m.length)(hm:l.length<=maxLen) (I:∀r x,R w r x->r=[.int q x]) (hK:∀w',AG w w'->K (.bool (decide (l=m))) w') : GM [(zIq 0)] (λvs j O=>∀ _:Env,HZ .i64 (Bf vs 0) (zIq l.length) λQ=>Af Q (Mj O (λC=>KY 1 (.slice a l.length e) (Bf vs 0) λU=>Ik C U λV=>KY 1 (.slice b m.length c) (Bf vs 0) λt22=>Ik C t22 λX=>TB q V X λY=>∀ w2:c_,C w2->Af Y (K (.bool false) w2) (Cl .i64 (Bf vs 0) (zIq 1) λt25=>j [t25] w2))) (K (.bool true) O)) w:=by
 simp only[maxLen] at hm;apply Aa (λvs w'=>∃k:Nat,k<=l.length/\vs=[zIq k]/\AG w w'/\l.take k=m.take k) (λvs _=>l.length-Da vs 0) ⟨0,Lc _,rfl,AF.refl _ _,rfl⟩;rintro vs O ⟨i,hi,rfl,Z,ht⟩ h;simp only[KS];by_cases J:i<l.length;rw[Ix (show(i:Int)<l.length by omega)];refine⟨AG O,AF.drew _ _,?_⟩;obtain⟨p,r,rfl,_,hr,hc,hx⟩:=ha.get J;obtain⟨p',r',rfl,_,a8,a1,a6⟩:=hb.get (show i<m.length by omega);obtain rfl:=I _ _ hx;obtain rfl:=I _ _ a6;refine AV J (BC (v:=.int q l[i]) (λw2 N=>N.cell (Z.cell (hc 0 _ rfl) F_) F_) ?_);refine AV E (BC (v:=.int q m[i]) (λw2 N=>N.cell (Z.cell (a1 0 _ rfl) F_) F_) ?_);simp only[KS];intro w2 N;by_cases he:l[i]=m[i];rw[By (λh=>h he)];refine⟨⟨i+1,E,by grind[wrap64],Z.trans N,?_⟩,?_⟩;grind[List.take_add_one];grind[Da,Bf,wrap64];grind[decide_eq_false_iff_not,AF.trans];grind
def Oj{l:V'}(h:Al S 1 Bk w v l)(hl:l.length*4<=140737488355328) : l_ 150 [v] (λv' w'=>AB w.heap.size 21 1 Bk w' v' l/\AG w w') w:=by
 refine I_ func150 ?_;exact L4 Ju h hl (λ_ _ _=>Bk.one) B_ λv' w' h1 j=>And.intro h1 j
def Ol{l:W_}(h:Al S 6 CO w v l)(hl:l.length*56<=140737488355328) : l_ 120 [v] (λv' w'=>AB w.heap.size 80 6 CO w' v' l/\AG w w') w:=by
 refine I_ func120 ?_;exact L4 GR h hl (λ_ _ _=>CO.one) B_ λv' w' h1 j=>And.intro h1 j
def Ag.JW{S D:d_}{l:U'}(h:Ag S D w v l):Ag (λb=>S b/\b<w.heap.size) (λb=>D b/\b<w.heap.size) w v l:=Al.sub h B_ C0 λr x j=>j.T_ j0 E' B_
def Qn{S D:d_}{l:U'}(h:Ag S D w v l)(hl:l.length*88<=140737488355328) : l_ 149 [v] (λv' w'=>AB w.heap.size 126 5 (B0 λb=>D b/\b<w.heap.size) w' v' l/\AG w w') w:=by
 refine I_ func149 ?_;exact L4 GU h.JW hl (λ_ _ _=>B0.one) (λJ O r y N hm j=>j.T_ hm E C_) λv' w' h1 I=>And.intro h1 I
def Wi{l:W_}(h:DY S w v l)(hl:l.length*56<=140737488355328) : l_ 151 [v] (λv' w'=>AB w.heap.size 80 6 CO w' v' l/\AG w w') w:=by
 refine I_ func151 ?_;exact Ol h hl
def uQ{a b:b_}{l m:V'}(ha:Al S 1 Bk w a l)(hb:Al S' 1 Bk w b m) : l_ 302 [a,b] (λv w'=>v=.bool (decide (l=m))/\AG w w') w:=by
 refine H_ func302 ?_ (.y (.y (.x (.y (.node [13] [(4,5),(13,25)] (.y (.y (.x (.y (.x .Ec))))) .nil)))));obtain⟨N,O,rfl,I⟩:=ha.AK;obtain⟨pb,cb,rfl,J⟩:=hb.AK;simp only[AO];refine neP (λj=>?_) λj=>?_;exact jO (K:=λv w'=>v=.bool (decide (l=m))/\AG w w') ha hb E I C_ B_;grind[AF.refl,decide_eq_false_iff_not]
def vJ{a b:b_}{l m:W_}(ha:Al S 6 CO w a l)(hb:Al S' 6 CO w b m) : l_ 257 [a,b] (λv w'=>v=.bool (decide (l=m))/\AG w w') w:=by
 refine H_ func257 ?_ (.y (.y (.x (.y (.node [13] [(4,5),(13,25)] (.y (.y (.x (.y (.x .Ec))))) .nil)))));obtain⟨N,O,rfl,I⟩:=ha.AK;obtain⟨pb,cb,rfl,J⟩:=hb.AK;simp only[AO];refine neP (λj=>?_) λj=>?_;exact qp (K:=λv w'=>v=.bool (decide (l=m))/\AG w w') (bin:=λx y=>Di .neq 80 _ _ x y) ha hb E I (by grind[YT]) B_;grind[AF.refl,decide_eq_false_iff_not]
def XT{a b:b_}{l m:W_}(ha:DY S w a l)(hb:DY S' w b m) : l_ 167 [a,b] (λv w'=>v=.bool (decide (l=m))/\AG w w') w:=by
 refine H_ func167 ?_;exact vJ ha hb
def CN{t:TypeId}(h:∀b I,b=w.heap.size->I.heap.size=w.heap.size+1->AG w I->(∀j v,vs[j]?=some v->I.cell? ((⟨b,0,none⟩:Addr).add j)=some v)->(∀j,j<vs.length->Bg I ((⟨b,0,none⟩:Addr).add j))->K (e_ b) I):JK t (.agg vs.toArray) K w:=by
 refine⟨vs,rfl,?_⟩;refine h w.heap.size _ rfl E_ (AF.alloc _ _ _) (λj v N=>Ia N) λj O=>?_;have J:(⟨w.heap.size,0,none⟩:Addr).add j=⟨w.heap.size,j,none⟩:=by unfold Addr.add;grind
 rw[J];refine⟨?_,World.frozen?_alloc_new ..⟩;grind[World.cell?_alloc_new]
def oj{t:TypeId}{N vs:U_}{K:b_->c_->Prop}(hl:N.length=vs.length)(h1:∀v∈vs,v.oneCell'=true)(h:∀b I,b=w.heap.size->I.heap.size=w.heap.size+1->AG w I->(∀j v,vs[j]?=some v->I.cell? ((⟨b,0,none⟩:Addr).add j)=some v)->(∀j,j<vs.length->Bg I ((⟨b,0,none⟩:Addr).add j))->K (e_ b) I) : Cv t N (λt5 O=>Bv vs.length t5 (.agg vs.toArray) (λw4=>K t5 w4) O) w:=by
 refine YG (xL hl h1 ?_);obtain⟨J,e,Q⟩:=CN (t:=t) (K:=K) (w:=w) h;have:vs=J:=by
  grind
 subst this;exact Q
def BA{t:TypeId}{n:Nat}{J vs:U_}{K:b_->c_->Prop}(N:vs.length=n)(hl:J.length=n)(h1:∀v∈vs,v.oneCell'=true)(h:∀b I,b=w.heap.size->I.heap.size=w.heap.size+1->AG w I->(∀j v,vs[j]?=some v->I.cell? ((⟨b,0,none⟩:Addr).add j)=some v)->(∀j,j<vs.length->Bg I ((⟨b,0,none⟩:Addr).add j))->K (e_ b) I) : Cv t J (λt5 O=>Bv n t5 (.agg vs.toArray) (λw4=>K t5 w4) O) w:=by
 subst N;exact oj hl h1 h
def Ee{P:Program}{ok:Nat->Bool}{g:Nat}(j:ok g=true)(h:AD P g args K w):Co P ok (.func (.func g) #[] #[]) args K w:=.inl ⟨g,[],[],rfl,j,by simpa using h⟩
def AP{St:Addr->b_->Prop}{a:Addr}{k:b_->Prop}(h:St a v)(hk:k v):EV St (.pointer (some a)) k:=⟨a,v,rfl,h,hk⟩
theorem DH{St:Addr->b_->Prop}{m:Nat}{a:Addr}{k:b_->Prop}(hl:vs.length=m)(h:∀j v,vs[j]?=some v->St (a.add j) v)(hk:k (.agg vs.toArray)):Ij St m (.pointer (some a)) k:=⟨a,vs,rfl,hl,h,hk⟩
def DL{F:(c_->Prop)->Prop}(C:c_->Prop)(h0:C w.drew)(h:F C):Mj w F:=⟨C,h0,h⟩
def Ac{BU:X_}{AN:List X_}{F:(Nat->d_)->(Nat->Addr->b_->Prop)->Prop}(M:Nat->d_)(h:F M (cF BU AN M w0)):DP BU AN w0 F:=⟨M,h⟩
def TT{b:Nat}:∀(vs:U_) (i:Nat) (W:c_),(∀j,i<=j->j<i+vs.length->Bg W ((⟨b,0,none⟩:Addr).add j))->AF (λx=>x=b) W (Fj W ⟨b,0,none⟩ i vs)/\(∀j u,vs[j]?=some u->(Fj W ⟨b,0,none⟩ i vs).cell? ((⟨b,0,none⟩:Addr).add (i+j))=some u)/\(∀j,j<i->(Fj W ⟨b,0,none⟩ i vs).cell? ((⟨b,0,none⟩:Addr).add j)=W.cell? ((⟨b,0,none⟩:Addr).add j))/\(∀a,Bg W a->Bg (Fj W ⟨b,0,none⟩ i vs) a):=by
 intro vs;induction vs with
 |nil=>intro i W _;exact⟨AF.refl _ _,B_,I',M_⟩
 |cons x vs J=>
  intro i W hl;simp only[Fj];obtain⟨N,X,O,Y⟩:=J (i+1) (W.setCell ((⟨b,0,none⟩:Addr).add i) x) (λj h1 Q=>(hl j E (by simp;omega)).set _ _);refine⟨(AF.setCell _ _ _ (by rw[AH])).trans N,λj u hu=>?_,λj U=>?_,(by grind[Bg.set])⟩;cases j with
  |zero=>
   simp at hu;subst hu;obtain⟨V,I⟩:=lP.1 (hl i (DN _) E_).1;exact(O i E).trans (vk _ _ _ I)
  |succ j=>
   grind
  grind[World.cell?_setCell_other,AH]
def BI{b n:Nat}{K:c_->Prop}(I:vs.length=n)(h1:∀v∈vs,v.oneCell'=true)(hl:∀j,j<n->Bg W ((⟨b,0,none⟩:Addr).add j)) (J:∀W',AF (λx=>x=b) W W'->(∀j u,vs[j]?=some u->W'.cell? ((⟨b,0,none⟩:Addr).add j)=some u)->(∀a,Bg W a->Bg W' a)->K W'):Bv n (e_ b) (.agg vs.toArray) K W:=by
 obtain⟨N,O,_,Q⟩:=TT (b:=b) vs 0 W (λj _ U=>hl j E);exact⟨_,vs,rfl,rfl,I,h1,hl,B_⟩
def Ce{t:TypeId}(h:∀b J,b=w.heap.size->J.heap.size=w.heap.size+1->AG w J->(∀j v,cs[j]?=some v->J.cell? ((⟨b,0,none⟩:Addr).add j)=some v)->(∀j,j<cs.length->Bg J ((⟨b,0,none⟩:Addr).add j))->K (e_ b) J):Cv t cs K w:=by
 apply YG;obtain⟨N,e,O⟩:=CN (t:=t) (vs:=cs) (K:=K) (w:=w) h;have:cs=N:=B_;subst this;exact O
theorem Qh(x:Int):-9223372036854775808<=IntKind.i64.wrap x/\IntKind.i64.wrap x<=9223372036854775807:=by
 have j:(2:Int) ^ IntKind.i64.bits=18446744073709551616:=C0;have I:(2:Int) ^ (IntKind.i64.bits-1)=9223372036854775808:=C0;simp only[IntKind.wrap,j,I,IntKind.signed,aCf,ub];omega
def AL{n:Nat}(h:(n:Int)+1<=9223372036854775807):Value.int .i64 (IntKind.i64.wrap ((n:Int)+1))=.int .i64 ((n+1:Nat):Int):=by
 grind[wrap64]
theorem DW{q:IntKind}{n:Int}{r:U_}:Da (.int q n::r) 0=n.toNat:=rfl
theorem BV{a:b_}{q:IntKind}{n:Int}{r:U_}:Da (a::.int q n::r) 1=n.toNat:=rfl
def po{a b:b_}{q:IntKind}{n:Int}{r:U_}:Da (a::b::.int q n::r) 2=n.toNat:=rfl
def DZ(r:Int):Prop:=0<=r/\r<55296\/57344<=r/\r<=1114111
instance (r:Int):Decidable (DZ r):=by unfold DZ;infer_instance
def HQ(o:Dop):Prop:=(o.AR=1/\o.AZ=[]/\o.set=[]/\1<=o.n/\o.n<=536870912)\/(o.AR=3/\o.AZ=[]/\o.set=[]/\o.AU=[]/\1<=o.n/\o.n<=536870912)\/ (o.AR=2/\(∀r∈o.AZ,DZ r)/\o.n=0/\o.AU=[]/\1<=o.AZ.length/\o.AZ.length<=536870912)
instance (o:Dop):Decidable (HQ o):=by unfold HQ;infer_instance
theorem vo{l:List α}:((l.length:Int)=0)↔l=[]:=by
 grind[List.eq_nil_of_length_eq_zero]
def RP(o:Dop):Int:=if o.AR=2 then o.AZ.length else o.n
def EF(f:Dop->Int)(x:U'):Int:=x.foldl (λs o=>IntKind.i64.wrap (s+f o)) 0
theorem IB{f:Dop->Int}{x:U'}{k:Nat}(h:k<x.length):EF f (x.take (k+1))=IntKind.i64.wrap (EF f (x.take k)+f x[k]):=by
 grind[List.take_add_one,EF]
def CU(o:Dop):Int:=if o.AR=2 then 0 else o.n
def Cr(o:Dop):Int:=if o.AR=3 then 0 else RP o
def Gk{f:Dop->Int}{m:Int}(hm:0<=m)(x:U')(h:∀o∈x,0<=f o/\f o<=m)(hb:x.length*m<=4611686018427387904):EF f x=(x.map f).sum/\0<=EF f x/\EF f x<=x.length*m:=by
 induction x using Hu with
 |h0=>grind[EF]
 |h1 x o j=>
  have I:∀o∈x,0<=f o/\f o<=m:=B_;have J:=h o E_;have e:((x++[o]).length:Int)*m=x.length*m+m:=by simp[Int.add_mul]
  rw[e] at hb;obtain⟨O,Q,U⟩:=j I E;have N:EF f (x++[o])=IntKind.i64.wrap (EF f x+f o):=by simp[EF]
  grind[wrap64]
def FW{P:Program}{t e k:Nat}{i:TypeInfo}{R:c_->U_->α->Prop}{a:Option Addr}{n c:Nat}{l:List α}{j:Nat}(ht:P.underlying t=some (.slice e))(hi:P.info? e=some i)(hk:i.size=k) (h:Al S k R w (.slice a n c) l)(X:j<=l.length)(N:∀v',Al S k R w v' (l.drop j)->K v' w):runK P (Instr.sliceAt t (.slice a n c) (some (zIq j)) none none) K w:=by
 obtain⟨Y,Z,O,h1,h2,Q⟩:=h;cases O;have I:P.elem t=e:=by simp[Program.elem,ht]
 refine⟨sliced a j l.length c k,w,?_,N _ ?_⟩;rw[aAz _ _ _ _ _ _ (by rw[I];exact ht),run_slice_l _ _ _ _ _ (by rw[I];exact ht) _ _ E E,I];simp[sizeOf,typeInfo,hi,hk];unfold sliced;refine⟨_,_,by rw[I3],B_,E,λq x J=>?_⟩;rw[so] at J;obtain⟨p,r,rfl,hS,hr,hc,U⟩:=Q _ x J;have V:=(Ad.1 J).1;rw[By E];refine⟨p.add (j*k),r,rfl,by grind[Ai],hr,λm u hu=>?_,U⟩;grind[Addr.add_add]
def SQ{P:Program}{t e k:Nat}{i:TypeInfo}{R:c_->U_->α->Prop}{a:Option Addr}{n c:Nat}{l:List α}{j:Nat}(ht:P.underlying t=some (.slice e))(hi:P.info? e=some i)(hk:i.size=k) (h:Al S k R w (.slice a n c) l)(Q:j<=l.length)(J:∀v',Al S k R w v' (l.take j)->K v' w):runK P (Instr.sliceAt t (.slice a n c) none (some (zIq j)) none) K w:=by
 obtain⟨U,V,N,h1,X,Y⟩:=h;cases N;have I:P.elem t=e:=by simp[Program.elem,ht]
 refine⟨sliced a 0 j c k,w,?_,J _ ?_⟩;rw[aAz _ _ _ _ _ _ (by rw[I];exact ht),aDT _ _ _ _ _ (by rw[I];exact ht) _ _ E E,I];simp[sizeOf,typeInfo,hi,hk];unfold sliced;have hl:(l.take j).length=j:=B_;refine⟨_,_,by rw[hl,Nat.sub_zero],E,E,λq x O=>?_⟩;rw[aAr] at O;grind[Ai,Addr.add_add]
abbrev LI:c_->U_->Int->Prop:=λ_ r x=>r=[.int .u8 x]
abbrev CE(S:d_)(w:c_)(v:b_)(l:V'):Prop:=Al S 1 LI w v l
def CK(s:ByteArray):V':=s.data.toList.map λb=>(b.toNat:Int)
def O4(r:Int):Nat:=if r<128 then 1 else if r<2048 then 2 else if r<65536 then 3 else 4
def ET{e k len:Nat}{BP:List (Nat×b_)}(j:Instr.fill (λi=>some (i*k,k)) ((Array.range (len*k)).map (vs.toArray[· % vs.toArray.size]!)) BP=some cs.toArray)(h:K (.slice (f_ w.heap.size) len len) (w.alloc (.cells cs.toArray e))):EE e k len vs BP K w:=⟨_,j,h⟩
def E0(b0:Int):Option (Nat×Int):=if 240<=b0 then some (4,IntKind.i32.wrap (IntKind.i32.wrap b0-240)) else if 224<=b0 then some (3,IntKind.i32.wrap (IntKind.i32.wrap b0-224)) else if 192<=b0 then some (2,IntKind.i32.wrap (IntKind.i32.wrap b0-192)) else if 128<=b0 then none else some (1,IntKind.i32.wrap b0)
def Kq(b:V'):Nat->Nat->Int->Option Int
 |0,_,r=>some r
 |k+1,i,r=>match b[i]? with
  |some c=>if c<128\/191<c then none else Kq b k (i+1) (IntKind.i32.wrap (IntKind.i32.wrap (IntKind.i32.wrap (r*64)+IntKind.i32.wrap c)-128))
  |none=>none
def DB(b:V'):Int×Nat:=match E0 (b.headD 0) with
 |none=>(0,0)
 |some (n,r)=>if b.length<n then(0,0) else match Kq b (n-1) 1 r with
  |none=>(0,0)
  |some r=>if DZ r/\O4 r=n then(r,n) else(0,0)
def ZH{b0 r:Int}{n:Nat}(h:E0 b0=some (n,r)):1<=n/\n<=4:=by
 grind[E0]
def eV(b:V'):(DB b).2<=b.length/\(DB b).2<=4:=by
 unfold DB;split;omega;rename_i n r h;have:=ZH h;grind
def Np{P:Program}{t e k bytes B:Nat}{R:c_->U_->α->Prop}{l:List α}{x:α}{BP:List (Nat×b_)}(X:DD P t e k bytes)(h:AB B e k R w v l)(hB:B<=w.heap.size) (Y:Instr.fill (λi=>some (i*k,k)) ((Array.range (1*k)).map (vs.toArray[· % vs.toArray.size]!)) BP=some cs.toArray)(Z:cs.length=k)(hx:R w cs x)(U:∀w r y,R w r y->∀u∈r,u.oneCell'=true) (hR:∀I w2 r y,w.heap.size<=I.heap.size->AF (λb=>v.ownBlock=some b\/w.heap.size<=b) I w2->R I r y->R w2 r y)(J:(l.length+1)*bytes<=140737488355328)(O:l.length+1<=maxLen) {Q1:c_->Prop}{Q2:c_->c_->Prop}(Q:∀I,AG w I->Q1 I) (hK:∀I v' w',AB B e k R w' v' (l++[x])->AF (λb=>v.ownBlock=some b) I w'->AF (λb=>v.ownBlock=some b) w w'->(∀g,v'.ownBlock=some g->v.ownBlock=some g\/w.heap.size<=g)->Q2 I w'/\K v' w') : EE e k 1 vs BP (λs I=>Q1 I/\runK P (Builtin.append_ #[t,t] t [v,s].toArray) (λv' w'=>Q2 I w'/\K v' w') I) w:=by
 refine⟨_,Y,?_⟩;have N:AG w (w.alloc (.cells cs.toArray e)):=AF.alloc _ _ _;have hc:∀j u,cs[j]?=some u->(w.alloc (.cells cs.toArray e)).cell? ((⟨w.heap.size,0,none⟩:Addr).add j)=some u:=λj u hu=>Ia hu;have hz:(w.alloc (.cells cs.toArray e)).heap.size=w.heap.size+1:=E_;generalize w.alloc (.cells cs.toArray e)=I at N hc hz ⊢;have h':AB B e k R I v l:=AB.T_ h N C_ (by grind[AG.T_]);have hs:Al (λ_=>True) k R I (.slice (f_ w.heap.size) 1 1) [x]:=by
  refine⟨_,1,rfl,DN _,by simp[maxLen],λi y hy=>?_⟩;have hi:i=0:=B_;grind[AG.T_]
 obtain⟨v',w',h1,h2,V,h4⟩:=AB.append (ty:=t) X h' hs B_ (by simpa using J) E (by simpa using O) (by grind[AF.BO,AF.mono]);refine⟨Q _ N,AY h1 (hK I v' w' h2 (AF.BO V) (N.T_.next (AF.BO V) C_) λg a1=>?_)⟩;grind
def Dv{P:Program}{t e k bytes B:Nat}{R:c_->U_->α->Prop}{l:List α}{x:α}{BP:List (Nat×b_)}(Q:DD P t e k bytes)(h:AB B e k R w v l)(U:B<=w.heap.size) (V:Instr.fill (λi=>some (i*k,k)) ((Array.range (1*k)).map (vs.toArray[· % vs.toArray.size]!)) BP=some cs.toArray)(N:cs.length=k)(X:R w cs x)(j:∀w r y,R w r y->∀u∈r,u.oneCell'=true) (Y:∀I w2 r y,w.heap.size<=I.heap.size->AF (λb=>v.ownBlock=some b\/w.heap.size<=b) I w2->R I r y->R w2 r y)(J:(l.length+1)*bytes<=140737488355328)(O:l.length+1<=maxLen) (hK:∀v' w',AB B e k R w' v' (l++[x])->AF (λb=>v.ownBlock=some b) w w'->(∀g,v'.ownBlock=some g->v.ownBlock=some g\/w.heap.size<=g)->K v' w') : EE e k 1 vs BP (λs I=>runK P (Builtin.append_ #[t,t] t [v,s].toArray) K I) w:=by
 obtain⟨c,h1,_,v',w',Z,_,h3⟩:=Np (t:=t) (K:=K) (Q1:=λ_=>True) (Q2:=λ_ _=>True) Q h U V N X j Y J O (λ_ _=>trivial) B_;exact⟨c,h1,v',w',Z,h3⟩
def LP{P:Program}{t e k bytes:Nat}{R:c_->U_->α->Prop}{l:List α}{x:α}{BP:List (Nat×b_)}(U:DD P t e k bytes)(h:AB w0.heap.size e k R w v l)(Q:AG w0 w)
 (V:Instr.fill (λi=>some (i*k,k)) ((Array.range (1*k)).map (vs.toArray[· % vs.toArray.size]!)) BP=some cs.toArray)(N:cs.length=k)(X:R w cs x)(j:∀w r y,R w r y->∀u∈r,u.oneCell'=true)
 (Y:∀I w2 r y,w.heap.size<=I.heap.size->AF (λb=>v.ownBlock=some b\/w.heap.size<=b) I w2->R I r y->R w2 r y)(J:(l.length+1)*bytes<=140737488355328)(O:l.length+1<=maxLen)
 (Z:∀v' w',AB w0.heap.size e k R w' v' (l++[x])->AG w0 w'->K v' w') :
  EE e k 1 vs BP (λs I=>runK P (Builtin.append_ #[t,t] t [v,s].toArray) K I) w:=
 Dv U h Q.size V N X j Y J O λv' w' h1 h2 _=>Z v' w' h1 (Q.next h2 λb hb e=>by have:=(AB.Am h b e).1;omega)
def Ps:Nat->V'->Option V'
 |0,b=>if b=[] then some [] else none
 |f+1,b=>if b=[] then some [] else if(DB b).2=0 then none else(Ps f (b.drop (DB b).2)).map ((DB b).1::·)
def Bn(b:V'):Option V':=Ps b.length b
theorem Yi:∀(f g:Nat) (b:V'),b.length<=f->b.length<=g->Ps f b=Ps g b:=by
 intro f;induction f with
 |zero=>
  intro g b j I;have:b=[]:=Of E;subst this;cases g<;>simp[Ps]
 |succ f J=>
  intro g b j I;cases g<;>grind[Ps]
theorem Iq{b:V'}(hb:b≠[]):Bn b=if(DB b).2=0 then none else(Bn (b.drop (DB b).2)).map ((DB b).1::·):=by
 unfold Bn;obtain⟨n,j⟩:∃n,b.length=n+1:=⟨b.length-1,by grind[List.length_pos_iff]⟩;grind[Ps,Yi]
def Xp(W:c_)(c:Array b_)(t:TypeId)(fr:Nat×Nat)(i:Nat):(W.alloc (.cells c t fr)).cell? ⟨W.heap.size,i,none⟩=c[i]?:=by
 have h:(W.alloc (.cells c t fr)).heap[W.heap.size]?=some (.cells c t fr):=aBm W _;unfold World.cell?;grind
def Vf{s:ByteArray}(Q:s.size*4<=140737488355328)(J:∀v w',AG w w'->CE (λ_=>True) w' v (CK s)->K v w'):runK prog (convert 9 32 (.string s)) K w:=by
 refine⟨_,_,run_bytes_of_string w _ _ 5 s D_ D_ D_,J _ _ ((AF.drew (λ_=>False) w).trans (AF.alloc _ _ _)) ?_⟩;have hl:(CK s).length=s.size:=by simp[CK]
 have hm:s.size<=maxLen:=by simp only[maxLen];omega
 refine⟨_,_,by rw[hl],by grind[Go.grownCap_ge],aBv _ _ _ _ hm,λi x N=>⟨_,[.int .u8 x],rfl,trivial,rfl,λj u hu=>?_,rfl⟩⟩;have O:j=0:=B_;subst O;simp at hu;subst hu;rw[AH,aB9,aA3];have hi:=(Ad.1 N).1;rw[hl] at hi;have I:x=((s.data[i]'hi).toNat:Int):=by
  grind[CK]
 subst I;apply(Xp w.drew _ _ _ i).trans;simp[bytesRow,aDN,hi]
def LH(f:Int):Prop:=9218868437227405312<f.tmod 9223372036854775808
instance (f:Int):Decidable (LH f):=by unfold LH;infer_instance
def JF:ByteArray:=ByteArray.mk #[]
def EC(v:As):Prop:=(v.AR=1/\v=⟨1,v.n,0,JF⟩/\(v.n=0\/v.n=1))\/(v.AR=2/\v=⟨2,v.n,0,JF⟩)\/(v.AR=3/\v=⟨3,0,v.f,JF⟩/\(¬LH v.f\/v.f=9221120237041090560))\/ (v.AR=4/\v=⟨4,0,0,v.s⟩/\v.s.size<=64/\(Bn (CK v.s)).isSome=true)
instance (v:As):Decidable (EC v):=by unfold EC;infer_instance
def As.one(v:As):∀u∈v.cells,u.oneCell'=true:=by
 intro u hu;simp only[As.cells,S6,aAU,aBn] at hu;rcases hu with rfl|rfl|rfl|rfl<;>rfl
def DKey.zero:DKey:=⟨0,false,0,false,false,0⟩
def BW(j:X')(id:Int):Option DKey:=j.find? λk=>decide (k.id=id)
def I8(j:X')(id:Int)(v:As):Prop:=∃k,BW j id=some k/\EC v/\v.AR=k.AR
def Sq{α:Type}(key:α->Int)(l:List α)(n:Nat):Prop:=∀i,1<=i->i<n->∀a b,l[i-1]?=some a->l[i]?=some b->key a<key b
abbrev AAV(l:V_):Prop:=Sq Attr.key l l.length
abbrev AAN(l:W_):Prop:=Sq Chg.key l l.length
def OW(l:V_):Prop:=¬AAV l\/64<l.length\/∃a∈l,¬EC a.val
def Nx(j:X')(l:V_):Prop:=∃a∈l,¬I8 j a.key a.val
open Classical in
noncomputable def CD(j:X')(l:V_):Int:=if OW l then 3 else if Nx j l then 4 else 0
def As.zero:As:=⟨0,0,0,JF⟩
def Qp(p:W_):Prop:=¬AAN p\/64<p.length\/∃c∈p,(c.Ar=true/\c.val≠As.zero)\/(c.Ar=false/\¬EC c.val)
def J8(j:X')(p:W_):Prop:=∃c∈p,BW j c.key=none\/(c.Ar=false/\¬I8 j c.key c.val)
open Classical in
noncomputable def De(j:X')(p:W_):Int:=if Qp p then 3 else if J8 j p then 4 else 0
def E9(k:DKey):Prop:=1<=k.id/\k.id<=1000/\1<=k.AR/\k.AR<=4/\0<=k.HJ/\k.HJ<=8/\(k.block=false->k.HJ=0)/\(k.block=true->k.Ib=false)
def ud(I:X')(n:Nat):Prop:=∀i,i<n->∀k,I[i]?=some k->E9 k/\∀j,j<i->∀J,I[j]?=some J->J.id≠k.id
def FL(j:X'):Prop:=j.length<=64/\ud j j.length
theorem JC(l:V_):JS l=l.length:=by
 induction l<;>grind[JS,Pz]
theorem Kf(l:W_):Jd l=l.length:=by
 induction l<;>grind[Jd,V6]
def FH{l:U'}{o:Dop}(h:o∈l):EN o<=Av l:=by
 induction l<;>grind[Av]
theorem Bi(l:U'):l.length<=Av l:=by
 induction l<;>grind[Av,EN]
theorem Lx(l:U')(k:Nat):Av (l.take k)<=Av l:=by
 grind[Av,List.take_append_drop]
end Go.Proofs.YtjdgbcdfgnajlaaGreatDoor
