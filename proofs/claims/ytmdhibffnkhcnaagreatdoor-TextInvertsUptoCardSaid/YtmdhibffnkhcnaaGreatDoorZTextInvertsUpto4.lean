/- parts of the proof, written short by a program of ours -/
import Derived.Test.YtmdhibffnkhcnaaGreatDoorZTextInvertsUpto3
set_option linter.unusedSimpArgs false
set_option linter.unusedVariables false
set_option linter.defProp false
namespace Go.Proofs.YtmdhibffnkhcnaaGreatDoor
open Go Proofs.Tryz
variable {c N:Nat}{w W w' W':World}{F S C:Nat->Prop}{v:Value}{most:Int}{vs:List Value}{α:Type}{K:Cont}{P:Program}
section
section
variable {α:Type}{g:AvT α}
def UG{out:List α}{x:α}(h:Tr.sz g.k.μ out+(g.k.μ x).1<=1099511627776):Tr.sz g.k.μ (g.k.CO out x)<=Tr.sz g.k.μ out+(g.k.μ x).1:=by
 unfold Kd.CO;by_cases h0:(g.k.μ x).1=0
 .rw[DN h0];omega
 .rw[Bq h0];rcases lK out with rfl|⟨o,y,rfl⟩
  .simp[Tr.sz]
  .rw[lb] at h ⊢;simp only[WL,gC,lM,l9];cases hm:g.k.meld y x with
   |none=>rw[Tr.CT,Tr.Bb];simp[Tr.sz]
   |some z=>
    have:=(g.meldμ _ _ _ hm).1;simp only[Tr.CT,Tr.Bb];omega
def Ro(l:List α)(h:Tr.sz g.k.μ l<=1099511627776):Tr.sz g.k.μ (g.k.melded l)<=Tr.sz g.k.μ l:=by
 have gen:∀(l out:List α),Tr.sz g.k.μ out+Tr.sz g.k.μ l<=1099511627776->Tr.sz g.k.μ (l.foldl g.k.CO out)<=Tr.sz g.k.μ out+Tr.sz g.k.μ l:=by
  intro l;induction l with
  |nil=>intro out _;simp[Tr.sz]
  |cons x l i=>
   intro out h;rw[Tr.Bb] at h ⊢;rw[me];have h1:=UG (g:=g) (out:=out) (x:=x) (by omega);have j:=i (g.k.CO out x) (by omega);omega
 have:=gen l [] (by simpa[Tr.sz] using h);unfold Kd.melded;simpa[Tr.sz] using this
def dV{l:List α}{x:α}(h:x∈l):(g.k.μ x).1<=Tr.sz g.k.μ l:=by
 induction l with
 |nil=>simp at h
 |cons y l i=>
  rw[Tr.Bb];rcases K8.1 h with rfl|h
  .omega
  .have:=i h;omega
end
variable {α:Type}{g:AvN α}
def HK(k:Kd α)(l:List α):(k.melded l).length<=l.length:=by
 have gen:∀(l out:List α),(l.foldl k.CO out).length<=out.length+l.length:=by
  intro l;induction l with
  |nil=>intro out;simp
  |cons x l i=>
   intro out;rw[me,S5];have h1:=i (k.CO out x);have j:(k.CO out x).length<=out.length+1:=by
    unfold Kd.CO;split
    .omega
    .split
     .split
      .simp
      .simp
     .simp
   omega
 have:=gen l [];unfold Kd.melded;simpa using this
def Kz(k:Kd α)(l:List α)(x:α):k.melded (l++[x])=k.CO (k.melded l) x:=by
 unfold Kd.melded;rw[mC];rfl
def RT(k:Kd α)(j:∀x y z,k.meld x y=some z->0<(k.μ x).1->0<(k.μ z).1)(l:List α):∀x∈k.melded l,0<(k.μ x).1:=by
 have gen:∀(l out:List α),(∀x∈out,0<(k.μ x).1)->∀x∈l.foldl k.CO out,0<(k.μ x).1:=by
  intro l;induction l with
  |nil=>intro out h;exact h
  |cons y l o=>
   intro out h;rw[me];refine o _ ?_;unfold Kd.CO;split
   .exact h
   .split
    .rename_i z B;have m:=mj B;split
     .rename_i q I;intro x i;rcases C3.1 i with i|i
      .exact h x (List.dropLast_subset _ i)
      .simp at i;subst i;exact j _ _ _ I (h _ m)
     .intro x i;rcases C3.1 i with i|i
      .exact h x i
      .simp at i;subst i;omega
    .intro x i;rcases C3.1 i with i|i
     .exact h x i
     .simp at i;subst i;omega
 exact gen l [] (by simp)
set_option maxRecDepth 4000 in
def bj:MC g.toAvT:=by
 intro F C S W b rt A v l h hv hl hb;apply g.okN.melded;unfold TD;obtain⟨va,vc,rfl,hm⟩:=hv.shape;have ec:=hb.1;have c9:=hv.GN g.Epos;rw[AP];refine AX (fun vs W'=>∃(i:Nat) (out:Value),i<=l.length/\vs=[out,zI i]/\AE W.heap.size g.te g.E (g.R C) W' out (g.k.melded (l.take i))/\Grow W W') (fun vs _=>l.length-De vs 1)
  ⟨0,_,Nn _,rfl,AE.nil,Mod.refl _ _⟩ ?_
 rintro vs W1 ⟨i,out,hi,rfl,ho,g1⟩ _;simp only[GC];refine Hj (fun ed=>?_) fun ca=>?_;rotate_left
 .have:i=l.length:=by omega
  subst this;rw[PF] at ho;exact⟨ho,g1⟩
 have I:i<l.length:=by omega
 obtain⟨p,r,rfl,hS,hr,hc,bd⟩:=c9.get I;have cc:=g.Rc.1 bd;subst cc;have X:l.take (i+1)=l.take i++[l[i]]:=by rw[No];simp[I]
 have bk:Tr.sz g.k.μ (l.take i)+(g.k.μ l[i]).1<=Tr.sz g.k.μ l:=by
  have e:Tr.sz g.k.μ l=Tr.sz g.k.μ (l.take (i+1))+Tr.sz g.k.μ (l.drop (i+1)):=by rw[<-Tr.CT,S6]
  rw[X,Tr.CT,Tr.Bb] at e;simp only[Tr.sz,lp,my] at e ⊢;omega
 have B:g.k.melded (l.take (i+1))=g.k.CO (g.k.melded (l.take i)) l[i]:=by rw[X,Kz]
 have cd:=Ro (g:=g.toAvT) (l.take i) (by omega);have al:=RT g.k (fun x y z hz h0=>by have:=(g.meldμ x y z hz).1;omega) (l.take i);have bl:=HK g.k (l.take i);rw[Lc,lA hi] at bl;generalize hx:l[i]=x at hr hc bd bk B;generalize g.k.melded (l.take i)=L at ho B cd al bl;have J:=CQ (g:=g) x;have ch:=cells_one (g:=g) x;refine AT I (Ah J (fun j u hu=>by rw[Addr.add_add];exact g1.cell (hc j u hu) fun h=>h) ?_);refine Bx.new J g.zlen ch fun b6 w4 ee g4 B6=>?_;have a7:Grow w4 w4.drew:=Mod.drew _ _;have bn:=(g1.trans g4).trans a7;obtain⟨c,pl,fr,hT⟩:=id h;have cn:=hT.mod bn fun _ _ h=>h;have bp:=B6.grow a7;have s1:=g1.size;have s4:=g4.size;have cv:=B6.lt (by rw[J];exact g.Epos);have ef:∀y,C y->y<W.heap.size:=fun y U=>h.lt y (.inr U);refine Af (fun _ _=>False) ?_;refine AI ?_;rw[AG,AH,AG,AH];refine AU ⟨cn.box.cells 0 _ rfl,fun _ _ e=>e⟩ ?_;refine Ch J (fun j v hv=>⟨by rw[AH];exact bp.cells j v hv,fun _ _ e=>e⟩) ?_;have cx:∀{w},BK prog Cq g.vm [.agg (g.cells x).toArray] (fun v w'=>v=.tuple #[zI (g.k.μ x).1,zI (g.k.μ x).2]/\Grow w w') w:=fun{w}=>by
  have:=g.meas (C:=C) (w:=w) (x:=x) (g.Rc.2 rfl);rwa [TI] at this
 refine Aw cx ?_;rintro _ w5 ⟨rfl,g5⟩;refine⟨g5.mono fun _ _ h=>h.elim,?_⟩;refine BO ?_;have a8:=bn.trans g5;have b0:=bp.grow g5;have Y:AE W.heap.size g.te g.E (g.R C) w5 out L:=AE.mod ho ((g4.trans a7).trans g5) (fun _ _ h=>h) fun r y _ U=>g.Rc.2 (g.Rc.1 U);have eh:l.length<=109951162777:=hl;rw[Aj];refine AF (fun h0=>?_) fun h0=>?_
 .have ak:(g.k.μ x).1=0:=by omega
  rw[AQ,AO (by omega)];refine⟨⟨i+1,out,I,rfl,?_,a8⟩,by rw[BD,BD];omega⟩;rw[B];unfold Kd.CO;rw[DN ak];exact Y
 have ak:(g.k.μ x).1≠0:=by omega
 refine AV (fun _ W'=>Grow W W'/\AE W.heap.size g.te g.E (g.R C) W' out L/\Bx W' b6 (g.cells x)/\g.k.CO L x=L++[x]) ?_ ?_
 .rintro _ W6 ⟨O,Z,da,em⟩ _;refine da.E0 J ?_;have bs:=DC (v:=.agg (g.cells x).toArray) (vs:=g.cells x) g.zlen g.Epos rfl J;have dk:=g.eb_le;refine Da g.elE Z O.size (cs:=g.cells x) (x:=x) bs J (g.Rc.2 rfl) (fun _ _ _ U=>g.rone U) (fun _ _ r y _ _ U=>g.Rc.2 (g.Rc.1 U)) ?_ (by simp only[maxLen];omega) fun v' w7 dT m7 ej=>?_
  .have:(L.length+1)*g.eb<=(L.length+1)*512:=oE _ dk;omega
  rw[AQ,AO (by omega)];refine⟨⟨i+1,v',I,rfl,by rw[B,em];exact dT,O.next m7 fun y U e=>by have:=(AE.Ax Z y e).1;omega⟩,by rw[BD,BD];omega⟩
 obtain⟨oa,oc,rfl,ek,eo,e1,e2⟩:=Y.shape;rw[AP,Aq,wrap64 (by omega) (by omega),DW];refine AF (fun ca=>?_) fun e3=>?_;rotate_left
 .have e4:L=[]:=QC (by omega);refine⟨a8,Y,b0,?_⟩;unfold Kd.CO;rw[Bq ak,e4];rfl
 have b1:0<L.length:=by omega
 obtain⟨o,y,a1⟩:∃o y,L=o++[y]:=⟨L.dropLast,L.getLast (lh.1 b1),(py _).symm⟩;have Q:L.length=o.length+1:=by rw[a1];simp
 have a6:L.length-1<L.length:=by omega
 have e5:L[L.length-1]=y:=by
  have:L[L.length-1]?=some y:=by rw[Q,a1];simp
  exact kW ((By a6).symm.trans this)
 have bx:y∈L:=by rw[a1];simp
 have m:g.k.CO L x=match g.k.meld y x with|some z=>o++[z]|none=>L++[x]:=by
  unfold Kd.CO;rw[Bq ak,a1];simp only[WL,gC,lM,l9];cases g.k.meld y x<;>rfl
 cases oa with
 |none=>have:=e2 rfl;rw[this] at b1;simp at b1
 |some q=>
  obtain⟨gb,rfl,ep,er,et⟩:=e1 q rfl;have en:((L.length:Int)-1)=((L.length-1:Nat):Int):=by omega
  rw[en];have e3:gb≠b6:=fun e=>by
   have:=(AE.Ax ho gb rfl).2;omega
  refine AV (fun vs W'=>∃T,vs=[.pointer (some ⟨T,0,none⟩),.bool (g.k.meld y x).isSome]/\Grow w5 W'/\∀z,g.k.meld y x=some z->Bx W' T (g.cells z)) ?_ ?_
  .rintro _ W6 ⟨T,rfl,O,hz⟩ _;simp only[GC];have Z:AE W.heap.size g.te g.E (g.R C) W6 (.slice (some ⟨gb,0,none⟩) L.length oc) L:=AE.mod Y O (fun _ _ h=>h) fun r y _ U=>g.Rc.2 (g.Rc.1 U);have c4:=a8.trans O;cases b2:g.k.meld y x with
   |none=>
    rw[b2] at m;exact AS ⟨c4,Z,b0.grow O,m⟩
   |some z=>
    rw[b2] at m;refine Ak ?_;refine(hz z b2).E0 (CQ z) ?_;refine AT a6 ?_;have key:=AE.OI (R':=g.R C) (x':=z) (p:=0) (vs:=g.cells z) (K:=fun b7=>AW .i64 (zI (i:Int)) (zI 1) fun c6=>(∃(i':Nat) (an:Value),i'<=l.length/\[Value.slice (some ⟨gb,0,none⟩) L.length oc,c6]=[an,zI (i':Int)]/\AE W.heap.size g.te g.E (g.R C) b7 an (g.k.melded (l.take i'))/\Grow W b7)/\l.length-De [Value.slice (some ⟨gb,0,none⟩) L.length oc,c6] 1<l.length-De [Value.slice (some ⟨gb,0,none⟩) L.length oc,zI (i:Int)] 1) Z a6 (CQ z) (by omega) (cells_one z) (fun w' r y' _ _ e6=>g.Rc.2 (g.Rc.1 e6)) (fun w' r _ _ b8 _=>by rw[LU (by rw[CQ,b8])];exact g.Rc.2 rfl) fun b7 av e7=>?_
    .rw[lD] at key;exact key
    .rw[AQ,AO (by omega)];refine⟨⟨i+1,_,I,rfl,?_,c4.next e7 fun b' eu e=>by simp only at e;omega⟩,by rw[BD,BD];omega⟩;rw[B,m];have:L.set (L.length-1) z=o++[z]:=by rw[Q,a1];simp
     rw[this] at av;have el:(o++[z]).length=L.length:=by simp[Q]
     exact av
  .have V:Grow w5 w5.drew:=Mod.drew _ _;have e8:=hT.mod (a8.trans V) fun _ _ h=>h;have hd:=(AE.mod (R':=g.R C) Y V (fun _ _ h=>h) fun r y _ U=>g.Rc.2 (g.Rc.1 U)).sl;obtain⟨q',r',e',ew,b8,e9,c7⟩:=hd.get a6;cases e';have ax:=g.Rc.1 c7;rw[e5] at ax;subst ax;have s5:=V.size;have ey:=g5.size;have eA:=a7.size;have ea:=hT.box.lt (S3 _);have gm:∀{W1 W2:World},Grow W1 W2->Mod (fun y=>w5.drew.heap.size<=y) W1 W2:=fun g=>g.mono fun _ _ h=>h.elim;have eB:=dV (g:=g.toAvT) bx;have c8:∀{w},BK prog Cq g.vd [.agg (g.cells y).toArray,.agg (g.cells x).toArray] (fun v w'=>Grow w w'/\∃r,r.length=g.E/\(∀u∈r,u.oneCell'=true)/\v=.tuple #[.agg r.toArray,.bool (g.k.meld y x).isSome]/\∀z,g.k.meld y x=some z->r=g.cells z) w:=g.meldc (al y bx) (by omega) (by omega);refine Af (fun _ y=>w5.drew.heap.size<=y) ?_;refine AI ?_;rw[AG,AH,AG,AH];refine AU ⟨e8.box.cells 2 _ rfl,fun _ _ e=>by simp only at e;omega⟩ ?_;refine AT a6 ?_;refine Ch b8 (fun j v hv=>⟨by rw[Addr.add_add];exact e9 j v hv,fun _ _ e=>by rw[Addr.add_add,AH] at e;simp only at e;omega⟩) ?_;refine Ch J (fun j v hv=>⟨by rw[AH];exact(b0.grow V).cells j v hv,fun _ _ e=>by rw[AH] at e;simp only at e;omega⟩) ?_;refine⟨?_,?_⟩
   .refine Aw c8 ?_;rintro _ w6 ⟨O,r,b9,ba,rfl,bb⟩;refine⟨gm O,BO ?_⟩;refine Bx.zero fun T w7 ay g7 bc=>⟨gm g7,?_⟩;refine bc.over b9 g.zlen ba fun w8 B8 m8=>⟨m8.mono fun x _ e=>by rw[e];have:=O.size;omega,?_⟩;have s6:=O.size;exact⟨T,rfl,((V.trans O).trans g7).next m8 fun y U e=>by omega,fun z hz=>by rw[<-bb z hz];exact B8⟩
   .refine Bx.zero fun T w7 ay g7 bc=>⟨gm g7,?_⟩;refine Aw c8 ?_;rintro _ w6 ⟨O,r,b9,ba,rfl,bb⟩;refine⟨gm O,BO ?_⟩;refine(bc.grow O).over b9 g.zlen ba fun w8 B8 m8=>⟨m8.mono fun x _ e=>by rw[e];exact ay,?_⟩;exact⟨T,rfl,((V.trans g7).trans O).next m8 fun y U e=>by omega,fun z hz=>by rw[<-bb z hz];exact B8⟩
end
section
variable {α:Type}{g:AvT α}
def Hy.jx{F i C:Nat->Prop}{W j w2:World}{b:Nat}{m:Int}{o q:ArS α}{L:List α}{I:List Nat}{t:Tr α}(O:∀x,F x->i x)(B:∀x,i x->F x\/W.heap.size<=x)(J:Mod (Fb F b) W j)(S:X0 g i C j w2 b m o L I t q):Mod (Fb F b) W w2:=
 J.next S.mod fun x Q e=>by
  rcases B x e.1 with e'|e'
  .exact⟨e',e.2⟩
  .omega
structure jg (g:AvT α) (F C:Nat->Prop) (W:World) (b:Nat) (rt:Int) (A:ArS α) (al bl L:List α) (a' b':Tr α) (mv:Value) (W':World) (A':ArS α) (F':Nat->Prop):Prop where
 k1:∀x,F x->F' x
 k2:∀x,F' x->F x\/W.heap.size<=x
 EH:Dj g F' C W' b rt A'
 mod:Mod (Fb F b) W W'
 ha:Tr.Holds g.k.μ A'.f a'
 hb:Tr.Holds g.k.μ A'.f b'
 Hn:(a'.idx++b'.idx).Nodup
 row:AE W.heap.size g.te g.E (g.R C) W' mv L
 nF:∀x,mv.ownBlock=some x->¬F' x
 ta:a'.toL=al
 tb:b'.toL=bl
 len:A'.ps.length<=A.ps.length+2
def Xp(g:AvT α)(F C:Nat->Prop)(W w':World)(b:Nat)(i:Int)(A:ArS α):Prop:=∃F',(∀x,F x->F' x)/\(∀x,F' x->F x\/W.heap.size<=x)/\Dj g F' C w' b i A/\Mod F W w'
def Rh(g:AvT α):Prop:=∀{F C S:Nat->Prop} {W:World} {b i j:Nat} {A:ArS α} {T:Tr α} {v:Value} {L:List α},Dj g F C W b T.root A->A.ps.length+L.length<=109951162000->Tr.Holds g.k.μ A.f T->Tr.GG T->BB S g.E (g.R C) W v L->(∀x,S x->¬F x)->i<=j->j<=1099511627776->
 Dy g T.toL->Dy g (g.k.CB T.toL i j L)->Dy g ((g.k.split T.toL i).1.getLast?.toList++L++(g.k.split (g.k.split T.toL i).2 (j-i)).2.head?.toList)->
 AB prog g.fReplace [.pointer (some ⟨b,0,none⟩),zI (i:Int),zI (j:Int),v] (fun _ w'=>∃m o,m.toL=g.k.CB T.toL i j L/\Xp g F C W w' b m.root o/\Tr.Holds g.k.μ o.f m/\Tr.GG m/\o.ps.length<=A.ps.length+L.length+4) W
def AE.Gk{B e k:Nat}{b:Nat}{i:Int}{A:ArS α}{l:List α}(h:AE B e k (g.R C) W v l)(ht:Dj g F C W b i A)(hm:Mod (Fb F b) W W')(j:∀x,v.ownBlock=some x->¬F x):AE B e k (g.R C) W' v l:=
 AE.mod h hm (fun x m e=>j x m e.1) fun r y _ o=>g.BZ o hm fun z _ q e=>ht.Iw z e.1 q
def jQ(g:AvK)(KK:Value->Value->Value->World->Prop)(v0 v1 v2 v3:Value)(w:World):Prop:=
 AK v0 fun t22=>
 AM 4 t22 fun Q=>
 AJ Q (fun T w1=>
 AB prog g.fsplit [v0,T,v1] (fun o w2=>
 AR 0 o fun j=>
 AR 1 o fun U=>
 BR .i64 v2 v1 fun V=>
 AB prog g.fsplit [v0,U,V] (fun q w3=>
 AR 0 q fun X=>
 AR 1 q fun m=>
 AB prog g.fdrop [v0,X] (fun _t40 w4=>
 Ao (fun vs w5=>∀_:Env,
 runK prog (Builtin.append_ #[g.ts,g.ts] g.ts [(nth vs 1),v3].toArray) (fun B w6=>
 Ao (fun i w7=>∀_:Env,
 AB prog g.fmelded [v0,(nth i 1)] (fun t76 w8=>KK (nth vs 0) (nth i 0) t76 w8) w7) (fun I=>
 Dp .i64 m (zI (-1)) fun Y=>
 AD Y
 (AB prog g.ffirst [v0,m] (fun O Z=>
 AR 0 O fun a1=>
 AR 1 O fun t66=>
 AB prog g.fpick [v0,t66] (fun a6 a7=>
 Ba g.te g.E 1 g.zE [(0,a6)] (fun a8 ak=>
 runK prog (Builtin.append_ #[g.ts,g.ts] g.ts [B,a8].toArray) (fun al an=>
 I [a1,al] an) ak) a7) Z) w6)
 (I [m,B] w6))) w5) (fun J=>
 Dp .i64 j (zI (-1)) fun av=>
 AD av
 (AB prog g.flast [v0,j] (fun t46 ax=>
 AR 0 t46 fun ay=>
 AR 1 t46 fun b0=>
 AB prog g.fpick [v0,b0] (fun t53 b1=>
 Ba g.te g.E 1 g.zE [(0,t53)] (fun b2 b6=>
 runK prog (Builtin.append_ #[g.ts,g.ts] g.ts [(.slice none 0 0),b2].toArray) (fun t55 b7=>
 J [ay,t55] b7) b6) b1) ax) w4)
 (J [j,(.slice none 0 0)] w4))) w3) w2) w1) w
set_option maxRecDepth 4000 in
def Qb{b i j:Nat}{A:ArS α}{T:Tr α}{L:List α}{KK:Value->Value->Value->World->Prop}(bs:Oa g)(bx:RZ g)(ef:MC g)(c4:∀l p,Dy g l->Dy g (g.k.split l p).1/\Dy g (g.k.split l p).2)
 (h:Dj g F C W b T.root A)(hs:A.ps.length+L.length<=109951162000)(hh:Tr.Holds g.k.μ A.f T)(hu:Tr.GG T)(hv:BB S g.E (g.R C) W v L)(hS:∀x,S x->¬F x)(fa:i<=j)(hj:j<=1099511627776)
 (c6:Dy g T.toL)(c7:Dy g ((g.k.split T.toL i).1.getLast?.toList++L++(g.k.split (g.k.split T.toL i).2 (j-i)).2.head?.toList))
 (hK:∀J U mv W' A' F',jg g F C W b T.root A (g.k.split T.toL i).1.dropLast (g.k.split (g.k.split T.toL i).2 (j-i)).2.tail (g.k.melded ((g.k.split T.toL i).1.getLast?.toList++L++(g.k.split (g.k.split T.toL i).2 (j-i)).2.head?.toList)) J U mv W' A' F'->KK (zI J.root) (zI U.root) mv W') :
  jQ g.toAvK KK (.pointer (some ⟨b,0,none⟩)) (zI (i:Int)) (zI (j:Int)) v W:=by
 unfold jQ;have eh:=h.lt;have V:∀y,C y->y<W.heap.size:=fun y X=>eh y (.inr X);obtain⟨c,pl,fr,hT⟩:=id h;refine AI ?_;refine Bh (hT.box.cells 4 _ rfl) ?_;refine AA (bs T h (by omega) hh hu c6 (p:=i) (by omega)) ?_;rintro _ w2 ⟨a,a1,A1,rfl,S1⟩;refine BO ?_;rw[Aq,wrap64 (by omega) (by omega),show((j:Int)-(i:Int))=((j-i:Nat):Int) by omega];obtain⟨F1,x1,x2,h1,m1⟩:=S1.iG;obtain⟨n1,n2,n3⟩:=kM.1 S1.Hn;have l1:=S1.len;have b7:=c4 T.toL i c6;refine AA (bs a1 h1 (by omega) S1.hr n2 (by rw[S1.r1];exact b7.2) (p:=j-i) (by omega)) ?_;rintro _ w3 ⟨gone,bt,A2,rfl,S2⟩;refine BO ?_;obtain⟨F2,y1,y2,h2,m2⟩:=S2.iG;obtain⟨o1,o2,o3⟩:=kM.1 S2.Hn;have l2:=S2.len;have ej:=c4 (g.k.split T.toL i).2 (j-i) b7.2;have al:∀q∈a.idx,q∉a1.idx/\q∉gone.idx++bt.idx:=fun q I=>by
  have hr:q∉a1.idx:=fun e=>n3 q I q e rfl;refine⟨hr,fun e=>?_⟩;rcases S2.idx q e with e|e
  .exact hr e
  .obtain⟨m,hm⟩:=S1.hl.has g.k.μ I;rw[hm] at e;cases e
 have ek:Tr.Holds g.k.μ A2.f a:=S1.hl.frame g.k.μ fun q I=>S2.same q (al q I).1 (al q I).2;refine AA (Up gone h2 (by omega) S2.hl o1) ?_;rintro _ w4 ⟨A3,T3,c8,l3⟩;obtain⟨F3,z1,z2,h3,m3⟩:=T3;have en:Tr.Holds g.k.μ A3.f a:=ek.frame g.k.μ fun q I=>c8 q fun e=>(al q I).2 (jS _ e);have c9:Tr.Holds g.k.μ A3.f bt:=S2.hr.frame g.k.μ fun q I=>c8 q fun e=>o3 q e q I rfl;have an:(a.idx++bt.idx).Nodup:=kM.2 ⟨n1,o2,fun q I q' a6 e=>(al q I).2 (kI _ (e▸a6))⟩;have s1:=m1.size;have s2:=m2.size;have s3:=m3.size;have ca:∀x,F x->F3 x:=fun x o=>z1 x (y1 x (x1 x o));have b8:∀x,F3 x->F x\/W.heap.size<=x:=fun x o=>by
  rcases z2 x o with e|e
  .rcases y2 x e with e|e
   .exact x2 x e
   .exact .inr (by omega)
  .exact .inr (by omega)
 have cc:Mod (Fb F b) W w4:=by
  refine(m1.next m2 fun x o e=>?_).next m3 fun x o e=>?_
  .rcases x2 x e.1 with e'|e'
   .exact⟨e',e.2⟩
   .omega
  .rcases y2 x e.1 with e'|e'
   .rcases x2 x e' with e'|e'
    .exact⟨e',e.2⟩
    .omega
   .omega
 have ea:a.toL=(g.k.split T.toL i).1:=S1.l1;have eb:bt.toL=(g.k.split (g.k.split T.toL i).2 (j-i)).2:=by rw[S2.r1,S1.r1]
 have cd:Dy g a.toL:=by rw[ea];exact b7.1
 have ch:Dy g bt.toL:=by rw[eb];exact ej.2
 rw [<-ea,<-eb] at c7 hK;have cn:=g.eb_le;have ay:∀ (w:World) (r:List Value) (y:α),g.R C w r y->∀ u ∈ r,u.oneCell'=true:=fun _ _ _ X=>g.rone X;have cv:∀ r:List Value,r.length=g.E->(g.toAvK.enc r).cells=r.toArray->Instr.fill (fun i=>some (i * g.E,g.E)) ((Array.range (1 * g.E)).map (g.zE.toArray[· % g.zE.toArray.size]!)) [(0,g.toAvK.enc r)]=some r.toArray:=fun r hr hc=>DC g.zlen g.Epos hc hr;refine AV (fun vs W'=>∃ (J:Tr α) (av:Value) (A4:ArS α) (F4:Nat->Prop),vs=[zI J.root,av]/\(∀ x,F x->F4 x)/\(∀ x,F4 x->F x\/W.heap.size<=x)/\Dj g F4 C W' b T.root A4/\Mod (Fb F b) W W'/\Tr.Holds g.k.μ A4.f J/\Tr.Holds g.k.μ A4.f bt/\(J.idx++bt.idx).Nodup/\
  AE W.heap.size g.te g.E (g.R C) W' av a.toL.getLast?.toList/\(∀ x,av.ownBlock=some x->¬ F4 x)/\J.toL=a.toL.dropLast/\A4.ps.length<=A.ps.length+2) ?_ ?_
 rotate_left
 .rw[Bk];refine AY (fun e=>?_) fun e=>?_
  .have el:a=.nil:=by
    cases a with
    |nil=>rfl
    |node x q z y=>simp only[Tr.root] at e;omega
   subst el;exact⟨.nil,_,A3,F3,rfl,ca,b8,h3,cc,trivial,c9,an,AE.nil,(fun _ o=>nomatch o),rfl,by omega⟩
  .have cx:a≠.nil:=fun e'=>by subst e';exact e rfl
   refine AA (QX a cx h3 (by omega) en n1 cd) ?_;rintro _ fo ⟨J,k,m,A4,rfl,E4,e4⟩;refine BO ?_;have l4:=E4.len;have b0:∀q,q∈J.idx\/q=k->q∈a.idx:=fun q I=>E4.idx.mem_iff.1 (by rcases I with I|rfl<;>simp[*]);refine AA (bx E4.EH (by omega) E4.Qr) ?_;rintro _ eo ⟨r,rfl,hr,Y,u1,u2,h5,m5⟩;have a7:=g.rlen hr;have s4:=E4.mod.size;have s5:=m5.size;have a8:=ArS.RS E4.Qr;have b9:Tr.Holds g.k.μ (A4.free k).f J:=by rw[a8];exact E4.holds.out g.k.μ _ (E4.Hn n1).2
   have ba:Tr.Holds g.k.μ (A4.free k).f bt:=by
    rw[a8];refine(c9.frame g.k.μ fun q I=>E4.same q fun e=>(kM.1 an).2.2 q e q I rfl).out g.k.μ _ fun e=>?_;exact(kM.1 an).2.2 k (b0 k (.inr rfl)) k e rfl
   have bb:Mod (Fb F b) W eo:=by
    have da:∀x,x<W.heap.size->Fb F3 b x->Fb F b x:=fun x o e=>by
     rcases b8 x e.1 with e'|e'
     .exact⟨e',e.2⟩
     .omega
    exact(cc.next E4.mod da).next m5 da
   refine Da (R:=g.R C) g.elE (AE.nil (B:=W.heap.size)) bb.size (cs:=r) (x:=m.x) (cv r a7 (g.rcell hr)) a7 hr ay (fun w1 w2 r y hw hm X=>g.BZ X hm fun z hz hC e=>?_) (by simp only[lG];omega) (by simp[maxLen]) fun av ep ho dk hn=>?_
   .rcases e with e|e
    .cases e
    .have:=V z hC;have:=bb.size;omega
   have er:Dj g Y C ep b T.root (A4.free k):=h5.mod dk fun x o e=>nomatch e
   refine⟨J,av,A4.free k,Y,rfl,fun x o=>u1 x (ca x o),fun x o=>?_,er,bb.next dk (fun x o e=>nomatch e),b9,ba,?_,?_,fun x o hF=>?_,?_,?_⟩
   .rcases u2 x o with e|e
    .exact b8 x e
    .exact .inr (by omega)
   .refine kM.2 ⟨(E4.Hn n1).1,o2,fun q I q' a6 e=>?_⟩;exact(kM.1 an).2.2 q (b0 q (.inl I)) q' a6 e
   .rw[e4];simpa using ho
   .rcases hn x o with e|e
    .cases e
    .have:=h5.lt x (.inl hF);omega
   .rw[e4];simp
   .simp only[ArS.free,kJ];omega
 rintro _ W5 ⟨J,av,A4,F4,rfl,f1,f2,h4,m4,dT,et,ak,ax,b1,ta,l4⟩ _;simp only[GC];have eu:BB (fun x=>S x/\x<W.heap.size) g.E (g.R C) W v L:=hv.GN g.Epos;have ew:BB (fun x=>S x/\x<W.heap.size) g.E (g.R C) W5 v L:=BB.mod eu m4 (fun x _ o e=>hS x o.1 e.1) g.Epos fun r y X=>g.BZ X m4 fun z _ hz e=>h.Iw z e.1 hz;have fs:a.toL.getLast?.toList.length<=1:=by cases a.toL.getLast?<;>simp
 have e1:(a.toL.getLast?.toList.length+L.length) * g.eb<=(a.toL.getLast?.toList.length+L.length) * 512:=oE _ cn;obtain ⟨e3,w6,r6,bc,ey,eA⟩:=AE.append (P:=prog) (ty:=g.ts) g.elE ax ew (fun r y X=>g.rone X) (by omega) m4.size (by simp only [maxLen];omega) (fun w' eB r y X=>g.BZ X (Mod.of_grownBy eB) fun z hz hC e=>by
  have:=(AE.Ax ax z e).1;have:=V z hC;omega)
 refine Ae r6 ?_;have m6:=Mod.of_grownBy ey;have h6:Dj g F4 C w6 b T.root A4:=h4.mod m6 fun x o e=>by
  rcases o with o|o
  .exact b1 x e o
  .have:=(AE.Ax ax x e).1;have:=V x o;omega
 have bd:Mod (Fb F b) W w6:=m4.next m6 fun x o e=>by have:=(AE.Ax ax x e).1;omega
 have O:∀x,e3.ownBlock=some x->¬F4 x:=fun x o hF=>by
  rcases eA x o with e|e
  .exact b1 x e hF
  .have:=h4.lt x (.inl hF);omega
 have eX:(a.toL.getLast?.toList++L).length<=L.length+1:=by rw[Bp];omega
 refine AV (fun vs W'=>∃ (U:Tr α) (Z:Value) (A5:ArS α) (Y:Nat->Prop),vs=[zI U.root,Z]/\(∀ x,F x->Y x)/\(∀ x,Y x->F x\/W.heap.size<=x)/\Dj g Y C W' b T.root A5/\Mod (Fb F b) W W'/\Tr.Holds g.k.μ A5.f J/\Tr.Holds g.k.μ A5.f U/\(J.idx++U.idx).Nodup/\
  AE W.heap.size g.te g.E (g.R C) W' Z (a.toL.getLast?.toList++L++bt.toL.head?.toList)/\(∀ x,Z.ownBlock=some x->¬ Y x)/\U.toL=bt.toL.tail/\A5.ps.length<=A.ps.length+2) ?_ ?_
 rotate_left
 .rw[Bk];obtain⟨_,fv,bk⟩:=kM.1 ak;refine AY (fun e=>?_) fun e=>?_
  .have el:bt=.nil:=by
    cases bt with
    |nil=>rfl
    |node x q z y=>simp only[Tr.root] at e;omega
   subst el;exact⟨.nil,_,A4,F4,rfl,f1,f2,h6,bd,dT,trivial,ak,by simpa[Tr.toL] using bc,O,rfl,l4⟩
  .have e6:bt≠.nil:=fun e'=>by subst e';exact e rfl
   refine AA (Uj bt e6 h6 (by omega) et o2 ch) ?_;rintro _ ga ⟨U,k,m,A5,rfl,E5,e5⟩;refine BO ?_;have l5:=E5.len;have b2:∀q,q∈U.idx\/q=k->q∈bt.idx:=fun q I=>E5.idx.mem_iff.1 (by rcases I with I|rfl<;>simp[*]);have e7:=AE.Gk (g:=g) bc h6 E5.mod O;refine AA (bx E5.EH (by omega) E5.Qr) ?_;rintro _ eC ⟨r,rfl,hr,Y,u1,u2,e8,bl⟩;have a7:=g.rlen hr;have s6:=E5.mod.size;have s7:=bl.size;have gb:=bd.size;have a8:=ArS.RS E5.Qr;have Q:=AE.Gk (g:=g) e7 E5.EH bl O;have b9:Tr.Holds g.k.μ (A5.free k).f J:=by
    rw[a8];refine(dT.frame g.k.μ fun q I=>E5.same q fun e=>bk q I q e rfl).out g.k.μ _ fun e=>?_;exact bk k e k (b2 k (.inr rfl)) rfl
   have ba:Tr.Holds g.k.μ (A5.free k).f U:=by rw[a8];exact E5.holds.out g.k.μ _ (E5.Hn o2).2
   have bn:Mod (Fb F b) W eC:=by
    have e9:∀x,x<W.heap.size->Fb F4 b x->Fb F b x:=fun x o e=>by
     rcases f2 x e.1 with e'|e'
     .exact⟨e',e.2⟩
     .omega
    exact(bd.next E5.mod e9).next bl e9
   have b6:∀x,e3.ownBlock=some x->¬Y x:=fun x o hF=>by
    rcases u2 x hF with e|e
    .exact O x o e
    .have:=(AE.Ax bc x o).2;omega
   have e2:((a.toL.getLast?.toList++L).length+1)*g.eb<=((a.toL.getLast?.toList++L).length+1)*512:=oE _ cn;refine Da (R:=g.R C) g.elE Q bn.size (cs:=r) (x:=m.x) (cv r a7 (g.rcell hr)) a7 hr ay (fun w1 w2 r y hw hm X=>g.BZ X hm fun z hz hC e=>?_) (by omega) (by simp only[maxLen];omega) fun Z eI ho ec hn=>?_
   .rcases e with e|e
    .have:=(AE.Ax Q z e).1;have:=V z hC;omega
    .have:=V z hC;have:=bn.size;omega
   have eL:Dj g Y C eI b T.root (A5.free k):=e8.mod ec fun x o e=>by
    rcases o with o|o
    .exact b6 x e o
    .have:=(AE.Ax Q x e).1;have:=V x o;omega
   refine⟨U,Z,A5.free k,Y,rfl,fun x o=>u1 x (f1 x o),fun x o=>?_,eL,bn.next ec (fun x o e=>by have:=(AE.Ax Q x e).1;omega),b9,ba,?_,?_,fun x o hF=>?_,?_,?_⟩
   .rcases u2 x o with e|e
    .exact f2 x e
    .exact .inr (by omega)
   .refine kM.2 ⟨(kM.1 ak).1,(E5.Hn o2).1,fun q I q' a6 e=>?_⟩;exact bk q I q' (b2 q' (.inl a6)) e
   .rw[e5];simpa using ho
   .rcases hn x o with e|e
    .exact b6 x e hF
    .have:=e8.lt x (.inl hF);omega
   .rw[e5];rfl
   .simp only[ArS.free,kJ];omega
 rintro _ W7 ⟨U,Z,A5,Y,rfl,p1,p2,h7,m7,eN,eR,ed,ee,gd,tb,l7⟩ _;simp only[GC];have gf:bt.toL.head?.toList.length<=1:=by cases bt.toL.head?<;>simp
 refine AA (ef h7 ee.sl (by rw[Bp];omega) c7) ?_;rintro mv w8 ⟨bp,g8⟩;have s7:=m7.size;refine hK J U mv w8 A5 Y ⟨p1,p2,h7.grow g8,m7.trans (g8.mono fun _ _ h=>h.elim),eN,eR,ed,AE.base bp fun x o=>by have:=(AE.Ax bp x o).1;omega,fun x o hF=>?_,ta,tb,l7⟩;have:=(AE.Ax bp x o).1;have:=h7.lt x (.inl hF);omega
end
section
variable {α:Type}
structure TN (g:AvT α) (F C:Nat->Prop) (W:World) (b:Nat) (rt:Int) (A:ArS α) (al bl M:List α) (b':Tr α) (mv:Value) (k:Nat) (t:Tr α) (W':World) (A':ArS α) (F':Nat->Prop):Prop where
 k1:∀x,F x->F' x
 k2:∀x,F' x->F x\/W.heap.size<=x
 EH:Dj g F' C W' b rt A'
 mod:Mod (Fb F b) W W'
 ht:Tr.Holds g.k.μ A'.f t
 hb:Tr.Holds g.k.μ A'.f b'
 Hn:(t.idx++b'.idx).Nodup
 row:AE W.heap.size g.te g.E (g.R C) W' mv M
 nF:∀x,mv.ownBlock=some x->¬F' x
 tt:t.toL=al++M.take k
 tb:b'.toL=bl
 len:A'.ps.length<=A.ps.length+2+k
def jg.put{g:AvT α}{b:Nat}{i:Int}{A:ArS α}{j m M:List α}{o q:Tr α}{B:Value}{I:ArS α}{F':Nat->Prop}(h:jg g F C W b i A j m M o q B W' I F'):TN g F C W b i A j m M q B 0 o W' I F':=
 ⟨h.k1,h.k2,h.EH,h.mod,h.ha,h.hb,h.Hn,h.row,h.nF,by rw[h.ta];simp,h.tb,by have:=h.len;omega⟩
def TN.done{g:AvT α}{b:Nat}{A:ArS α}{X Y M:List α}{I t:Tr α}{j:ArS α}{F':Nat->Prop}{L:List α}(h:TN g F C W b most A X Y M I v M.length t W' j F')(hN:A.ps.length+M.length<=109951162500)(hL:X++M++Y=L)(J:Dy g L)(hM:M.length+2<=N)(hF:F b) :
  AB prog g.fconcat [.pointer (some ⟨b,0,none⟩),zI t.root,zI I.root] (fun O Q=>AK (.pointer (some ⟨b,0,none⟩)) fun T=>AM 4 T fun U=>Av U O (fun V=>(fun(_:Value) w'=>∃o j,o.toL=L/\Xp g F C W w' b o.root j/\Tr.Holds g.k.μ j.f o/\Tr.GG o/\j.ps.length<=A.ps.length+N) (.tuple #[]) V) Q) W':=by
 have hl:=h.len;have Z:=h.tt;rw[PF] at Z;have eL:t.toL++I.toL=L:=by rw[Z,h.tb,hL]
 refine AA (Rv h.EH (by omega) h.ht h.hb h.Hn (by rw[eL];exact J)) ?_;rintro _ w2 ⟨t2,A2,rfl,i⟩;obtain⟨c,pl,fr,B⟩:=i.EH;refine AI ?_;rw[AG,AH];refine B.box.st (q:=4) (show 4<5 by decide) rfl rfl fun w3 B3 m3=>?_;have m2:=Hy.jx h.k1 h.k2 h.mod i;refine⟨t2,A2,by rw[i.toL];exact eL,⟨F',h.k1,h.k2,⟨c,pl,fr,B3,?_,B.fb⟩,?_⟩,i.holds,i.idx.nodup_iff.2 h.Hn,by rw[i.len];omega⟩
 .exact B.ar.mod m3 fun x m e=>by
   rcases m with m|m
   .exact m.2 e
   .exact B.fb.2 (e▸m)
 .exact(m2.mono fun x _ e=>e.1).trans (m3.mono fun x _ e=>by rw[e];exact hF)
def TN.step{g:AvT α}{b:Nat}{A:ArS α}{J bl M:List α}{Q t:Tr α}{k:Nat}{i:ArS α}{F' B:Nat->Prop}(h:TN g F C W b most A J bl M Q v k t W' i F')(hk:k<M.length)(hN:A.ps.length+M.length<=109951162500)
 (q1:∀x,F' x->B x)(q2:∀x,B x->F' x\/W'.heap.size<=x)(h1:Dj g B C w b most (i.take ⟨M[k],0,0,0,0,0⟩))(m1:Mod (Fb F' b) W' w)(U:Dy g (J++M)) :
  AB prog g.fjoin [.pointer (some ⟨b,0,none⟩),zI t.root,zI i.num,zI (-1)] (fun v2 W2=>∃t2 A2,v2=zI t2.root/\Mod (Fb B b) w W2/\TN g F C W b most A J bl M Q v (k+1) t2 W2 A2 B) w:=by
 have hl:=h.len;obtain⟨I,V,tok⟩:=ArS.Rf (⟨M[k],0,0,0,0,0⟩:Nd α) h.EH.ok;obtain⟨u1,u2,u3⟩:=kM.1 h.Hn;have nt:i.num∉t.idx:=fun e=>by
  obtain⟨m,hm⟩:=h.ht.has g.k.μ e;rw[V] at hm;cases hm
 have nb:i.num∉Q.idx:=fun e=>by
  obtain⟨m,hm⟩:=h.hb.has g.k.μ e;rw[V] at hm;cases hm
 have a1:Tr.Holds g.k.μ (i.take ⟨M[k],0,0,0,0,0⟩).f t:=by rw[I];exact h.ht.out g.k.μ _ nt
 have a6:Tr.Holds g.k.μ (i.take ⟨M[k],0,0,0,0,0⟩).f Q:=by rw[I];exact h.hb.out g.k.μ _ nb
 have a7:(i.take ⟨M[k],0,0,0,0,0⟩).f i.num=some ⟨M[k],0,0,0,0,0⟩:=by rw[I,Tr.KD]
 have X:Tr.GG (.node t i.num M[k] .nil):=Tr.BC.2 ⟨u1,nf,nt,(fun e=>nomatch e),fun q _ e=>nomatch e⟩;have ax:=QJ i (⟨M[k],0,0,0,0,0⟩:Nd α);have a8:M.take (k+1)=M.take k++[M[k]]:=by rw[No];simp[hk]
 have eL:(Tr.node t i.num M[k] .nil).toL=J++M.take (k+1):=by rw[a8];simp only[Tr.toL,h.tt,Of]
 have ak:Dy g (Tr.node t i.num M[k] .nil).toL:=by
  rw[eL];have e:J++M=(J++M.take (k+1))++M.drop (k+1):=by rw[Of,S6]
  rw[e] at U;exact U.app.1
 refine AA (Fu (l:=t) (r:=.nil) (t.Df+(Tr.nil:Tr α).Df) (Mp _) h1 (by omega) a7 a1 trivial X ak) ?_;rintro _ W2 ⟨t2,A2,rfl,j⟩;have s1:=h.mod.size;have s2:=m1.size;have w1:Mod (Fb F b) W w:=h.mod.next m1 fun x o e=>by
  rcases h.k2 x e.1 with e'|e'
  .exact⟨e',e.2⟩
  .omega
 have Y:∀q∈Q.idx,q∉(Tr.node t i.num M[k] .nil).idx:=fun q O e=>by
  simp only[Tr.idx,C3,K8,kU,mb] at e;rcases e with e|e
  .exact u3 q e q O rfl
  .exact nb (e▸O)
 have an:∀x,x<W.heap.size->B x->F x:=fun x o e=>by
  rcases q2 x e with e|e
  .rcases h.k2 x e with e|e
   .exact e
   .omega
  .omega
 have Z:∀x,v.ownBlock=some x->¬B x:=fun x o e=>by
  rcases q2 x e with e|e
  .exact h.nF x o e
  .have:=(AE.Ax h.row x o).2;omega
 refine⟨t2,A2,rfl,j.mod,fun x o=>q1 x (h.k1 x o),fun x o=>?_,j.EH,w1.next j.mod fun x o e=>⟨an x o e.1,e.2⟩,j.holds,a6.frame g.k.μ fun q O=>j.same q (Y q O),?_,AE.Gk (AE.Gk h.row h.EH m1 h.nF) h1 j.mod Z,Z,j.toL.trans eL,h.tb,by rw[j.len];omega⟩
 .rcases q2 x o with e|e
  .exact h.k2 x e
  .exact .inr (by omega)
 .exact kM.2 ⟨j.idx.nodup_iff.2 X,u2,fun q O q' av e=>Y q' av (e▸j.idx.mem_iff.1 O)⟩
variable {g:AvN α}
def Vn(l:List α)(p:Nat)(h:Dy g.toAvT l):Dy g.toAvT (g.k.split l p).1/\Dy g.toAvT (g.k.split l p).2:=h.split p
def js(g:AvK)(v0:Value)(K:Cont):Value->Value->Value->World->Prop:=fun a0 b0 t76 w8=>Ac t76 fun t77=>
  Ap [a0,(zI 0)] (fun i j w9=>∀_:Env,
  BU .i64 (nth i 1) t77 fun I=>
  AD I
  (BM g.E t76 (nth i 1) fun J=>
  Aa g.E J (fun O Q=>
  Al g.te g.zE (fun q T=>
  Ab g.E q O (fun m=>
  Au [8,9] [[],[],[],[2],[2,3],[2,3,4],[],[6],[2,3,4,5,6,7],[0,1,2,3,4,5,6,7,8],[0,1,2,3,4,5,6,7,8,9]] m.drew (fun M St=>
  AK v0 fun U=>
  AM 3 U fun V=>
  As (St 5) V fun X=>
  Eg (St 6) g.E q fun Y=>
  Ai [(0,g.E),(g.E,1),(g.E+1,1),(g.E+2,1),(g.E+3,1),(g.E+4,1)] g.zN [(0,Y)] fun Z=>
  AB prog g.aTake [X,Z] (fun a1 o=>
  Mod (M 8) m.drew o/\
  AB prog g.fjoin [v0,(nth i 0),a1,(zI (-1))] (fun a6 B=>
  Mod (M 9) o B/\
  AW .i64 (nth i 1) (zI 1) fun a7=>
  j [a6,a7] B) o) m.drew)) T) Q) w9)
  (AB prog g.fconcat [v0,(nth i 0),b0] (fun a8 ak=>
  AK v0 fun al=>
  AM 4 al fun an=>
  Av an a8 (fun av=>K (.tuple #[]) av) ak) w9)) w8
def PW(g:AvK)(v0 v1 v2 v3:Value)(K:Cont)(w:World):QW g v0 v1 v2 v3 K w=jQ g (js g v0 K) v0 v1 v2 v3 w:=rfl
set_option maxRecDepth 4000 in
def Xn:Rh g.toAvT:=by
 intro F C S W b i j A T v L h hs Z hu hv hS a1 hj a6 B a7;apply g.okN.replace;rw[PW];refine Qb dq ie bj Vn h hs Z hu hv hS a1 hj a6 a7 ?_;intro a' b' mv W8 A8 F8 P;unfold js;have Q:=HK g.k ((g.k.split T.toL i).1.getLast?.toList++L++(g.k.split (g.k.split T.toL i).2 (j-i)).2.head?.toList);have b8:(g.k.split T.toL i).1.getLast?.toList.length<=1:=by cases(g.k.split T.toL i).1.getLast?<;>simp
 have b9:(g.k.split (g.k.split T.toL i).2 (j-i)).2.head?.toList.length<=1:=by cases(g.k.split (g.k.split T.toL i).2 (j-i)).2.head?<;>simp
 rw[Bp,Bp] at Q;have U:=P.put;have V:(g.k.split T.toL i).1.dropLast++g.k.melded ((g.k.split T.toL i).1.getLast?.toList++L++(g.k.split (g.k.split T.toL i).2 (j-i)).2.head?.toList)++(g.k.split (g.k.split T.toL i).2 (j-i)).2.tail=g.k.CB T.toL i j L:=rfl;generalize (g.k.split T.toL i).1.dropLast=al at U V;generalize (g.k.split (g.k.split T.toL i).2 (j-i)).2.tail=bl at U V;generalize g.k.melded ((g.k.split T.toL i).1.getLast?.toList++L++(g.k.split (g.k.split T.toL i).2 (j-i)).2.head?.toList)=M at U V Q;have a8:Dy g.toAvT (al++M):=by rw[<-V] at B;exact B.app.1
 obtain⟨ma,mc,ak,_⟩:=U.row.shape;subst ak;rw[AP];refine AX (fun vs W'=>∃(k:Nat) (t:Tr α) (A':ArS α) (F':Nat->Prop),k<=M.length/\vs=[zI t.root,zI k]/\TN g.toAvT F C W b T.root A al bl M b' (.slice ma M.length mc) k t W' A' F') (fun vs _=>M.length-De vs 1) ⟨0,a',A8,F8,Nn _,rfl,U⟩ ?_;rintro vs W9 ⟨k,t,A9,F9,hk,rfl,O⟩ _;simp only[GC];refine Hj (fun ba=>?_) fun bb=>?_
 .have m:k<M.length:=by omega
  obtain ⟨q,r,rfl,hq,hr,hc,an⟩:=O.row.sl.get m;have av:=g.Rc.1 an;subst av;have o:=CQ (g:=g) M[k];refine AT m (Ah o (fun j u hu=>by rw [Addr.add_add];exact hc j u hu) ?_);refine Bx.new o g.zlen (cells_one (g:=g) M[k]) fun ax I b7 ay X=>?_;have gd:Grow I I.drew:=Mod.drew _ _;have g9:=ay.trans gd;have b0:=O.EH.grow g9;obtain ⟨c,pl,fr,hR⟩:=id b0;have bc:=O.len;have Y:=X.lt (by rw [o];exact g.Epos);have sd:=gd.size;refine Af (fun _ y=>Fb F9 b y\/I.drew.heap.size<=y) ?_;refine AI ?_;rw [AG,AH];refine AU ⟨hR.box.cells 3 _ rfl,fun _ _ e=>by
   rcases e with e|e
   .exact e.2 rfl
   .have:=hR.box.lt (S3 _);simp only at e;omega⟩ ?_
  refine Ch o (fun j v hv=>⟨by rw [AH];exact (X.grow gd).cells j v hv,fun _ _ e=>by
   rw[AH] at e;rcases e with e|e
   .have:=O.EH.lt ax (.inl e.1);omega
   .simp only at e;omega⟩) ?_
  refine⟨_,cm o M[k],?_⟩;refine AA (Ll hR (n:=⟨M[k],0,0,0,0,0⟩) (g.Rc.2 rfl) (by omega)) ?_;rintro _ bd ⟨rfl,F1,q1,q2,b1,J⟩;have s9:=g9.size;have bk:=J.size;refine⟨J.mono fun x _ e=>.inl e,?_⟩;refine AA (TN.step O m (by omega) q1 (fun x hx=>(q2 x hx).imp (fun h=>h) fun h=>by omega) b1 ((g9.mono fun _ _ h=>h.elim).trans J) a8) ?_;rintro _ bn ⟨t2,A2,rfl,b2,b6⟩;refine⟨b2.mono fun x _ e=>?_,?_⟩
  .rcases q2 x e.1 with e'|e'
   .exact .inl ⟨e',e.2⟩
   .exact .inr e'
  rw[AQ,AO (by omega)];exact⟨⟨k+1,t2,A2,F1,m,rfl,b6⟩,by rw[BD,BD];omega⟩
 .have:k=M.length:=by omega
  subst this;refine AA (TN.done O (N:=L.length+4) (by omega) V B (by omega) h.fb) ?_;intro bp bs Z;exact Z
end
section
structure cM (g:AvK):Prop where
 split:∀{v0 v1 v2 K w},O4 g v0 v1 v2 K w->AB prog g.fsplit [v0,v1,v2] K w
 pick:∀{v0 v1 K w},XV g v0 v1 K w->AB prog g.fpick [v0,v1] K w
 melded:∀{v0 v1 K w},P7 g v0 v1 K w->AB prog g.fmelded [v0,v1] K w
 replace:∀{v0 v1 v2 v3 K w},N9 g v0 v1 v2 v3 K w->AB prog g.fReplace [v0,v1,v2,v3] K w
 over:∀{v0 v1 v2 v3 v4 K w},Ru g v0 v1 v2 v3 v4 K w->AB prog g.fover [v0,v1,v2,v3,v4] K w
structure Av1 (α:Type) extends AvT α where
 one1:one=true
 ok1:cM toAvK
 μ1:∀x,k.μ x=(1,0)
 meld0:∀x y,k.meld x y=none
 meldc:∀{C w r s x y},R C w r x->R C w s y->BK prog Cq vd [toAvK.enc r,toAvK.enc s] (fun v w'=>Grow w w'/\∃u,v=.tuple #[u,.bool false]) w
variable {α:Type}{g:Av1 α}
def E1:g.E=1:=g.E1 g.one1
def WS{r:List Value}{x:α}(h:g.R C w r x):r=[g.toAvK.enc r]:=by
 have hl:=g.rlen h;rw[E1] at hl;unfold AvK.enc;rw[g.one1];match r,hl with
 |[a],_=>rfl
def jC:RZ g.toAvT:=by
 intro F C W b i T A n h q hi;apply g.ok1.pick;unfold XV;refine AA (RO h hi) ?_;rintro _ w2 ⟨r,rfl,hr,j⟩;refine Ae (g.field0 r (BV n) w2 (g.rlen hr) (g.rone hr) rfl) ?_;obtain⟨c,pl,fr,m⟩:=h.grow j;refine AI ?_;refine Bh (m.box.cells 3 _ rfl) ?_;refine AA (L2 m hi q) ?_;rintro _ U ⟨F',B,I,J,o⟩;have V:=j.size;exact⟨r,rfl,g.BZ hr o fun z _ O e=>h.Iw z e.1 O,F',B,fun x Q=>(I x Q).imp (fun h=>h) fun h=>by omega,J,(j.mono fun _ _ h=>h.elim).trans o⟩
def iK{a:Value}(ha:a.cells=#[a])(x:α):Instr.fill (fun i=>[(0,g.E),(g.E,1),(g.E+1,1),(g.E+2,1),(g.E+3,1),(g.E+4,1)][i]?) g.toAvK.zN.toArray [(0,a)]=some ([a]++BV (⟨x,0,0,0,0,0⟩:Nd α)).toArray:=by
 have j:=g.zlen;rw[DB (l:=g.toAvK.zN) (vs:=[a]) (off:=0) (len:=g.E) rfl ha E1.symm (by rw[H9];omega),FQ,AvK.zN,Hp (by rw[j,E1];rfl)];rfl
set_option maxRecDepth 4000 in
def YI:MC g.toAvT:=by
 intro F C S W b rt A v l h hv hl hb;apply g.ok1.melded;unfold P7;obtain⟨va,vc,rfl,hm⟩:=hv.shape;have al:=hv.GN g.Epos;have an:∀y,C y->y<W.heap.size:=fun y m=>h.lt y (.inr m);rw[AP];refine AX (fun vs W'=>∃(i:Nat) (out:Value),i<=l.length/\vs=[out,zI i]/\AE W.heap.size g.te g.E (g.R C) W' out (g.k.melded (l.take i))/\Grow W W') (fun vs _=>l.length-De vs 1)
  ⟨0,_,Nn _,rfl,AE.nil,Mod.refl _ _⟩ ?_
 rintro vs W1 ⟨i,out,hi,rfl,ho,Q⟩ _;simp only[GC];refine Hj (fun bb=>?_) fun av=>?_;rotate_left
 .have:i=l.length:=by omega
  subst this;rw[PF] at ho;exact⟨ho,Q⟩
 have o:i<l.length:=by omega
 obtain⟨p,r,rfl,hS,hr,hc,O⟩:=al.get o;have U:l.take (i+1)=l.take i++[l[i]]:=by rw[No];simp[o]
 have j:g.k.melded (l.take (i+1))=g.k.CO (g.k.melded (l.take i)) l[i]:=by rw[U,Kz]
 have a1:=HK g.k (l.take i);rw[Lc,lA hi] at a1;generalize hx:l[i]=x at O j;generalize g.k.melded (l.take i)=L at ho j a1;have ax:g.k.CO L x=L++[x]:=by
  unfold Kd.CO;rw[g.μ1,Bq (by decide)];cases L.getLast? with
  |none=>rfl
  |some y=>simp only[g.meld0]
 have er:=WS O;have B:=g.BZ O Q fun _ _ _ h=>h;have I:=g.rcell O;generalize g.toAvK.enc r=a at er I;subst er;have ay:W1.cell? (p.add (i*g.E))=some a:=Q.cell (by have:=hc 0 a rfl;rwa [lD] at this) fun h=>h;refine AT o (AL ay ?_);obtain⟨c,pl,fr,hT⟩:=id h;have b0:=hT.mod Q fun _ _ h=>h;refine AI ?_;rw[AG,AH,AG,AH];refine AL (b0.box.cells 0 _ rfl) ?_;have b1:∀{w},Grow W1 w->BK prog Cq g.vm [a] (fun v w'=>v=.tuple #[zI 1,zI 0]/\Grow w w') w:=fun{w} gw=>by
  have:=g.meas (C:=C) (w:=w) (x:=x) (g.BZ B gw fun _ _ _ h=>h);rw[g.μ1,show g.toAvK.enc [a]=a by unfold AvK.enc;rw[g.one1];rfl] at this;exact this
 refine .inl (Aw (b1 (Mod.refl _ _)) ?_);rintro _ w4 ⟨rfl,g4⟩;refine BO ?_;rw[Aj];refine AF (fun e=>by cases e) fun _=>?_;have J:=Q.trans g4;have kR:∀{w w':World} {r:List Value} {y:α},Grow W w->Grow w w'->g.R C w r y->g.R C w' r y:=fun _ gw m=>g.BZ m gw fun _ _ _ h=>h;have V:AE W.heap.size g.te g.E (g.R C) w4 out L:=AE.mod ho g4 (fun _ _ h=>h) fun r y _ m=>kR Q g4 m;have bc:l.length<=109951162777:=hl;refine AV (fun _ W'=>Grow w4 W') ?_ ?_
 .rintro _ W6 g6 _;have X:AE W.heap.size g.te g.E (g.R C) W6 out L:=AE.mod V g6 (fun _ _ h=>h) fun r y _ m=>kR J g6 m;have Y:=J.trans g6;have b2:=g.eb_le;have a6:=DC (v:=a) (vs:=[a]) g.zlen g.Epos I (by rw[E1];rfl);refine Da g.elE X Y.size (cs:=[a]) (x:=x) a6 (by rw[E1];rfl) (kR Q (g4.trans g6) B) (fun _ _ _ m=>g.rone m) (fun w1 w2 r y hw hm m=>g.BZ m hm fun z hz hC e=>?_) ?_ (by simp only[maxLen];omega) fun v' w7 b6 m7 bd=>?_
  .have:=an z hC;rcases e with e|e
   .have:=(AE.Ax X z e).1;omega
   .have:=Y.size;omega
  .have:(L.length+1)*g.eb<=(L.length+1)*512:=oE _ b2;omega
  rw[AQ,AO (by omega)];refine⟨⟨i+1,v',o,rfl,by rw[j,ax];exact b6,Y.next m7 fun y m e=>by have:=(AE.Ax X y e).1;omega⟩,by rw[BD,BD];omega⟩
 obtain⟨oa,oc,rfl,bk,bl,b7,b8⟩:=V.shape;rw[AP,Aq,wrap64 (by omega) (by omega),DW];refine AF (fun av=>?_) fun bn=>Mod.refl _ _;have a7:0<L.length:=by omega
 have a8:L.length-1<L.length:=by omega
 cases oa with
 |none=>have:=b8 rfl;rw[this] at a7;simp at a7
 |some q=>
  obtain⟨gb,rfl,bp,bs,bx⟩:=b7 q rfl;have en:((L.length:Int)-1)=((L.length-1:Nat):Int):=by omega
  rw[en];have gd:Grow w4 w4.drew:=Mod.drew _ _;have b9:=hT.mod (J.trans gd) fun _ _ h=>h;have hd:=(AE.mod (R':=g.R C) V gd (fun _ _ h=>h) fun r y _ m=>kR J gd m).sl;obtain⟨q',r',e',c4,c6,ba,T⟩:=hd.get a8;cases e';have ak:=WS T;have Z:=fun{w:World} (gw:Grow w4.drew w)=>g.meldc (C:=C) (w:=w) (kR (J.trans gd) gw T) (kR Q ((g4.trans gd).trans gw) B);rw[show g.toAvK.enc [a]=a by unfold AvK.enc;rw[g.one1];rfl] at Z;generalize g.toAvK.enc r'=a' at ak Z;subst ak;refine Af (fun _ _=>False) ?_;refine AI ?_;rw[AG,AH,AG,AH];refine AU ⟨b9.box.cells 2 _ rfl,fun _ _ e=>e⟩ ?_;refine AT a8 ?_;refine AU ⟨by have:=ba 0 a' rfl;rwa [lD] at this,fun _ _ e=>e⟩ ?_;refine Aw (Z (Mod.refl _ _)) ?_;rintro _ w8 ⟨g8,u,rfl⟩;refine⟨g8.mono fun _ _ h=>h.elim,BO ?_⟩;exact AS (gd.trans g8)
end
section
variable {α:Type}{g:Av1 α}
set_option maxRecDepth 4000 in
def dM:Oa g.toAvT:=by
 intro C b rt t;induction t with
 |nil=>
  intro F W A p h hs _ _ _ _;apply g.ok1.split;unfold O4;simp only[Tr.root];rw[Aj];refine AF (fun _=>?_) fun e=>(e rfl).elim;exact⟨.nil,.nil,A,rfl,⟨⟨F,fun _ h=>h,fun _ h=>.inl h,h,Mod.refl _ _⟩,rfl,rfl,trivial,trivial,nf,(fun q o=>nomatch o),fun _ _ _=>rfl,rH _⟩⟩
 |node l i x r ay b0=>
  intro F W A p h hs hh hu hb hp;obtain⟨hl,hr,hi⟩:=id hh;obtain⟨u1,u2,u3,u4,u5⟩:=Tr.BC.1 hu;have J:=g.k.Mt l.toL r.toL x p;have b1:=hb.1;have b2:=hb.2;simp only[Tr.toL,Tr.CT,Tr.Bb] at b1;simp only[Tr.toL,Tr.Fo,Tr.Cy] at b2;have nF:∀{z:Nat},W.heap.size<=z->∀x,F x\/C x->x≠z:=fun hz x X e=>by have:=h.lt x X;omega
  apply g.ok1.split;unfold O4;simp only[Tr.root];rw[Aj];refine AF (fun e=>by omega) fun _=>?_;refine Dq h hi fun rc bx w3 g3 a8 B ak=>?_;have O:=g.rlen ak;have h3:=h.grow g3;refine Bh (B.cells (g.E+0) _ (by rw[AZ O];rfl)) ?_;refine AA (CE h3 hl) ?_;rintro _ w5 ⟨rfl,g5⟩;refine Kj ?_;have Y:Grow w5 w5.drew:=Mod.drew _ _;have al:=(g3.trans g5).trans Y;obtain⟨c,pl,fr,hT⟩:=id h;have b6:=hT.mod al fun _ _ h=>h;have B5:=(B.grow g5).grow Y;refine Af (fun _ _=>False) ?_;refine AI ?_;rw[AG,AH,AG,AH];refine AU ⟨b6.box.cells 0 _ rfl,fun _ _ e=>e⟩ ?_;rw[AG,AH];refine JK (g:=g.toAvT) (r:=rc) O (fun j v hv=>⟨B5.cells j v (by rw[Q0 (Ad.1 hv).1];exact hv),fun _ _ e=>e⟩) ?_;refine Aw (g.meas (C:=C) (x:=x) (g.BZ ak ((g5.trans Y)) fun _ _ _ h=>h)) ?_;rintro _ w6 ⟨rfl,g6⟩;refine⟨g6.mono fun _ _ h=>h.elim,?_⟩;refine BO ?_;have V:=al.trans g6;have ba:=V.size;have h6:=h.grow V;have B6:=B5.grow g6;rw[IG];refine AF (fun bb=>?_) fun b9=>?_
  .have an:p<=Tr.sz g.k.μ l.toL:=by omega
   rw[DN an] at J;refine Bh (B6.cells (g.E+0) _ (by rw[AZ O];rfl)) ?_;refine AA (ay h6 hs hl u1 hb.app.1 hp) ?_;rintro _ w8 ⟨a,c1,A1,rfl,m⟩;refine BO ?_;obtain⟨F1,k1,k2,h8,Z⟩:=m.iG;have B8:=B6.mod Z fun e=>nF a8 bx (.inl e.1) rfl;refine Bh (B8.cells (g.E+1) _ (by rw[AZ O];rfl)) ?_;obtain⟨e1,e2,e3,e4⟩:=IK m hi hr hu;have a1:Dy g.toAvT (Tr.node c1 i x r).toL:=by
    obtain⟨q1,q2⟩:=FA (g:=g.toAvT) l.toL p;constructor
    .simp only[Tr.toL,Tr.CT,Tr.Bb,m.r1];omega
    .simp only[Tr.toL,Tr.Fo,Tr.Cy,m.r1];omega
   have b7:=m.len;refine AA (Fu (c1.Df+r.Df) (Mp _) h8 (by omega) e1 m.hr e2 e3 a1) ?_;rintro _ b8 ⟨t2,A2,rfl,I⟩;have perm:=I.idx;have sm:∀q,q∈t2.idx↔q∈(Tr.node c1 i x r).idx:=fun q=>I.idx.mem_iff;have s8:=Z.size;refine⟨a,t2,A2,rfl,⟨⟨F1,k1,fun x X=>(k2 x X).imp (fun h=>h) fun h=>by omega,I.EH,((V.mono fun _ _ h=>h.elim).trans Z).next I.mod fun x X e=>?_⟩,?_,?_,m.hl.frame g.k.μ fun q o=>I.same q (e4 q o),I.holds,?_,fun q o=>?_,fun q Q T=>?_,by rw[I.len];omega⟩⟩
   .rcases k2 x e.1 with e'|e'
    .exact⟨e',e.2⟩
    .omega
   .rw[m.l1];simp only[Tr.toL,J]
   .rw[I.toL];simp only[Tr.toL,Tr.EB,m.r1,J]
   .exact kM.2 ⟨(kM.1 m.Hn).1,I.idx.nodup_iff.2 e3,fun q o q' a6 e=>e4 q o (e▸(sm q').1 a6)⟩
   .rcases C3.1 o with o|o
    .rcases m.idx q (jS _ o) with e|e
     .exact .inl (by simp[Tr.idx,e])
     .exact .inr e
    .have:=(sm q).1 o;simp only[Tr.idx,C3,K8] at this ⊢;rcases this with e|e|e
     .rcases m.idx q (kI _ e) with e|e
      .exact .inl (.inl e)
      .exact .inr e
     .exact .inl (.inr (.inl e))
     .exact .inl (.inr (.inr e))
   .simp only[Tr.idx,C3,K8,qo] at Q;have U:q∉(Tr.node c1 i x r).idx:=fun e=>T (kI _ ((sm q).2 e));refine(I.same q U).trans (m.same q Q.1 fun e=>?_);rcases C3.1 e with e|e
    .exact T (jS _ e)
    .exact U (by simp[Tr.idx,e])
  have a7:¬p<=Tr.sz g.k.μ l.toL:=by omega
  rw[Bq a7] at J;refine CJ (by omega) ?_;rw[DW];refine AF (fun bc=>?_) fun av=>?_
  .have ax:Tr.sz g.k.μ l.toL+(g.k.μ x).1<=p:=by omega
   rw[DN ax] at J;refine Bh (B6.cells (g.E+1) _ (by rw[AZ O];rfl)) ?_;refine Gh (by omega) (by omega) (Gh (by omega) (by omega) ?_);refine AA (b0 h6 hs hr u2 hb.app.2.cons.1 (p:=p-Tr.sz g.k.μ l.toL-(g.k.μ x).1) (by omega)) ?_;rintro _ w8 ⟨a,c1,A1,rfl,m⟩;refine BO ?_;obtain⟨F1,k1,k2,h8,Z⟩:=m.iG;have B8:=B6.mod Z fun e=>nF a8 bx (.inl e.1) rfl;refine Bh (B8.cells (g.E+0) _ (by rw[AZ O];rfl)) ?_;obtain⟨e1,e2,e3,e4⟩:=He m hi hl hu;have a1:Dy g.toAvT (Tr.node l i x a).toL:=by
    obtain⟨q1,q2⟩:=FA (g:=g.toAvT) r.toL (p-Tr.sz g.k.μ l.toL-(g.k.μ x).1);constructor
    .simp only[Tr.toL,Tr.CT,Tr.Bb,m.l1];omega
    .simp only[Tr.toL,Tr.Fo,Tr.Cy,m.l1];omega
   have b7:=m.len;refine AA (Fu (l.Df+a.Df) (Mp _) h8 (by omega) e1 e2 m.hl e3 a1) ?_;rintro _ b8 ⟨t2,A2,rfl,I⟩;have sm:∀q,q∈t2.idx↔q∈(Tr.node l i x a).idx:=fun q=>I.idx.mem_iff;have s8:=Z.size;refine⟨t2,c1,A2,rfl,⟨⟨F1,k1,fun x X=>(k2 x X).imp (fun h=>h) fun h=>by omega,I.EH,((V.mono fun _ _ h=>h.elim).trans Z).next I.mod fun x X e=>?_⟩,?_,?_,I.holds,m.hr.frame g.k.μ fun q o=>I.same q (e4 q o),?_,fun q o=>?_,fun q Q T=>?_,by rw[I.len];omega⟩⟩
   .rcases k2 x e.1 with e'|e'
    .exact⟨e',e.2⟩
    .omega
   .rw[I.toL];simp only[Tr.toL,Tr.EB,m.l1,J]
   .rw[m.r1];simp only[Tr.toL,J]
   .exact kM.2 ⟨I.idx.nodup_iff.2 e3,(kM.1 m.Hn).2.1,fun q o q' a6 e=>e4 q' a6 (e▸(sm q).1 o)⟩
   .rcases C3.1 o with o|o
    .have:=(sm q).1 o;simp only[Tr.idx,C3,K8] at this ⊢;rcases this with e|e|e
     .exact .inl (.inl e)
     .exact .inl (.inr (.inl e))
     .rcases m.idx q (jS _ e) with e|e
      .exact .inl (.inr (.inr e))
      .exact .inr e
    .rcases m.idx q (kI _ o) with e|e
     .exact .inl (by simp[Tr.idx,e])
     .exact .inr e
   .simp only[Tr.idx,C3,K8,qo] at Q;have U:q∉(Tr.node l i x a).idx:=fun e=>T (jS _ ((sm q).2 e));refine(I.same q U).trans (m.same q Q.2.2 fun e=>?_);rcases C3.1 e with e|e
    .exact U (by simp[Tr.idx,e])
    .exact T (kI _ e)
  exfalso;have:=g.μ1 x;rw[this] at av;omega
def iJ(g:AvK)(v0:Value)(K:Cont):Value->Value->Value->World->Prop:=fun a0 b0 t76 w8=>Ac t76 fun t77=>
  Ap [a0,(zI 0)] (fun i j w9=>∀_:Env,
  BU .i64 (nth i 1) t77 fun m=>
  AD m
  (BM g.E t76 (nth i 1) fun o=>
  AJ o (fun q B=>
  AK v0 fun I=>
  AM 3 I fun J=>
  AJ J (fun O Q=>
  Ai [(0,g.E),(g.E,1),(g.E+1,1),(g.E+2,1),(g.E+3,1),(g.E+4,1)] g.zN [(0,q)] fun T=>
  AB prog g.aTake [O,T] (fun U V=>
  AB prog g.fjoin [v0,(nth i 0),U,(zI (-1))] (fun X Y=>
  AW .i64 (nth i 1) (zI 1) fun Z=>
  j [X,Z] Y) V) Q) B) w9)
  (AB prog g.fconcat [v0,(nth i 0),b0] (fun a1 a6=>
  AK v0 fun a7=>
  AM 4 a7 fun a8=>
  Av a8 a1 (fun ak=>K (.tuple #[]) ak) a6) w9)) w8
def Oz(g:AvK)(v0 v1 v2 v3:Value)(K:Cont)(w:World):N9 g v0 v1 v2 v3 K w=jQ g (iJ g v0 K) v0 v1 v2 v3 w:=rfl
set_option maxRecDepth 4000 in
def SU:Rh g.toAvT:=by
 intro F C S W b i j A T v L h hs V hu hv hS X hj Y B Z;apply g.ok1.replace;rw[Oz];refine Qb dM jC YI (fun l p h=>h.split p) h hs V hu hv hS X hj Y Z ?_;intro a' b' mv W8 A8 F8 P;unfold iJ;have J:=HK g.k ((g.k.split T.toL i).1.getLast?.toList++L++(g.k.split (g.k.split T.toL i).2 (j-i)).2.head?.toList);have an:(g.k.split T.toL i).1.getLast?.toList.length<=1:=by cases(g.k.split T.toL i).1.getLast?<;>simp
 have av:(g.k.split (g.k.split T.toL i).2 (j-i)).2.head?.toList.length<=1:=by cases(g.k.split (g.k.split T.toL i).2 (j-i)).2.head?<;>simp
 rw[Bp,Bp] at J;have O:=P.put;have Q:(g.k.split T.toL i).1.dropLast++g.k.melded ((g.k.split T.toL i).1.getLast?.toList++L++(g.k.split (g.k.split T.toL i).2 (j-i)).2.head?.toList)++(g.k.split (g.k.split T.toL i).2 (j-i)).2.tail=g.k.CB T.toL i j L:=rfl;generalize (g.k.split T.toL i).1.dropLast=al at O Q;generalize (g.k.split (g.k.split T.toL i).2 (j-i)).2.tail=bl at O Q;generalize g.k.melded ((g.k.split T.toL i).1.getLast?.toList++L++(g.k.split (g.k.split T.toL i).2 (j-i)).2.head?.toList)=M at O Q J;have a1:Dy g.toAvT (al++M):=by rw[<-Q] at B;exact B.app.1
 obtain⟨ma,mc,a6,_⟩:=O.row.shape;subst a6;rw[AP];refine AX (fun vs W'=>∃(k:Nat) (t:Tr α) (A':ArS α) (F':Nat->Prop),k<=M.length/\vs=[zI t.root,zI k]/\TN g.toAvT F C W b T.root A al bl M b' (.slice ma M.length mc) k t W' A' F') (fun vs _=>M.length-De vs 1) ⟨0,a',A8,F8,Nn _,rfl,O⟩ ?_;rintro vs W9 ⟨k,t,A9,F9,hk,rfl,U⟩ _;simp only[GC];refine Hj (fun ax=>?_) fun ay=>?_
 .have m:k<M.length:=by omega
  obtain⟨q,r,rfl,hq,hr,hc,I⟩:=U.row.sl.get m;have er:=WS I;have o:=g.rcell I;generalize g.toAvK.enc r=a at er o;subst er;have b0:=U.len;refine AT m (AL (by have:=hc 0 a rfl;rwa [lD] at this) ?_);obtain⟨c,pl,fr,hR⟩:=id U.EH;refine AI ?_;refine Bh (hR.box.cells 3 _ rfl) ?_;refine⟨_,iK o M[k],?_⟩;refine AA (Ll hR (n:=⟨M[k],0,0,0,0,0⟩) I (by omega)) ?_;rintro _ b1 ⟨rfl,F1,q1,q2,a7,a8⟩;refine AA (TN.step U m (by omega) q1 q2 a7 a8 a1) ?_;rintro _ b2 ⟨t2,A2,rfl,b6,ak⟩;rw[AQ,AO (by omega)];exact⟨⟨k+1,t2,A2,F1,m,rfl,ak⟩,by rw[BD,BD];omega⟩
 .have:k=M.length:=by omega
  subst this;refine AA (TN.done U (N:=L.length+4) (by omega) Q B (by omega) h.fb) ?_;intro b7 b8 V;exact V
end
def AE.heap{B e k:Nat}{R R':World->List Value->α->Prop}{l:List α}(h:AE B e k R w v l)(J:∀g,v.ownBlock=some g->w'.heap[g]?=w.heap[g]?)(O:∀r x,x∈l->R w r x->R' w' r x):AE B e k R' w' v l:=by
 obtain⟨rows,h1,Q,T,U⟩:=h;refine⟨rows,⟨h1.1,?_⟩,Q,T,fun i r x hr I=>O r x (lS I) (U i r x hr I)⟩;rcases h1.2 with V|⟨g,m,o,rfl,hb,q,j⟩
 .exact .inl V
 .refine .inr ⟨g,m,o,rfl,hb,?_,j⟩;rw[J g rfl];exact q
def Bx.heap{b:Nat}(h:Bx W b vs)(i:W'.heap[b]?=W.heap[b]?):Bx W' b vs:=by
 refine⟨fun j v m=>(lz (w:=W) i).trans (h.cells j v m),fun j o=>?_⟩;obtain⟨h1,q⟩:=h.live j o;exact⟨by rw[lz (w:=W) i];exact h1,(ql i).trans q⟩
section
variable {α:Type}{g:AvT α}
def Ou.heap{r:List Value}{o:Option (Nd α)}(h:Ou g C w r o)(i:∀y,y<w.heap.size->C y->w'.heap[y]?=w.heap[y]?):Ou g C w' r o:=by
 cases o with
 |none=>exact h
 |some n=>obtain⟨x,rfl,j⟩:=h;exact⟨x,rfl,g.rheap j i⟩
def Il.heap{A:ArS α}{pl fr:Value}(h:Il g F C W c A pl fr)(m:∀x,F x\/C x->W'.heap[x]?=W.heap[x]?)(q:W.heap.size<=W'.heap.size):Il g F C W' c A pl fr:=by
 have B:Bx W c [pl,fr]:=⟨h.cells,h.live⟩;have i:=B.heap (m c (.inl h.fc));exact⟨i.cells,i.live,AE.heap h.GH (fun x j=>m x (.inl (h.pF x j).1)) fun r o _ I=>I.heap fun y _ J=>m y (.inr J),AE.heap h.KE (fun x j=>m x (.inl (h.fF x j).1)) fun _ _ _ h=>h,h.ok,h.fc,h.pF,h.fF,h.Iw,fun x j=>X8 (h.lt x j) q⟩
def Dj.heap{b:Nat}{i:Int}{A:ArS α}(h:Dj g F C W b i A)(j:∀x,F x\/C x->W'.heap[x]?=W.heap[x]?)(m:W.heap.size<=W'.heap.size):Dj g F C W' b i A:=by
 obtain⟨c,pl,fr,h⟩:=h;exact⟨c,pl,fr,h.box.heap (j b (.inl h.fb.1)),h.ar.heap (fun x o=>j x (o.imp (fun h=>h.1) fun h=>h)) m,h.fb⟩
structure PH (P:Program) (l:Nat) (J:Nat->(Nat->Prop)->World->Prop) (Jx:(Nat->Prop)->World->Prop) (w:World) (Rd:Nat->Prop) (encs:Nat->List Value) (N:Nat):Prop where
 hJ:∀k It It' W W',J k It W->Grow W W'->(∀b,It' b->(It b\/W.heap.size<=b)/\b<W'.heap.size)->J k It' W'
 O0:∀It It' W W',Jx It W->Grow W W'->(∀b,It' b->(It b\/W.heap.size<=b)/\b<W'.heap.size)->Jx It' W'
 Ir:∀k It W,J k It W->∀b,b<w.heap.size->Rd b->W.heap[b]?=w.heap[b]?
 Z8:∀k It W,k<N->J k It W->KP P l (encs k) (fun v W'=>W.heap.size<=W'.heap.size/\(∀b,It b->W'.heap[b]?=W.heap[b]?)/\Quiet W W'/\((v=.bool true/\J (k+1) It W')\/(v=.bool false/\Jx It W'))) W
def P5(J:Nat->(Nat->Prop)->World->Prop)(m:(Nat->Prop)->World->Prop)(k:Nat)(j:Nat->Prop)(W:World)(v:Value)(W':World):Prop:=
 W.heap.size<=W'.heap.size/\(∀b,j b->W'.heap[b]?=W.heap[b]?)/\Quiet W W'/\∃i,(∀b,j b->i b)/\(∀b,i b->b<W'.heap.size)/\((v=.bool true/\J k i W')\/(v=.bool false/\m i W'))
def PH.ofSeq{Q:Nat}{q:List Value}{i:Nat->List Value}{Rd:Nat->Prop}
 (h:∀l J B m,Grow w m->PH P l J B w Rd i N->J 0 (fun _=>False) m->w.heap.size<=m.heap.size->AB P Q (.func (.yield l) #[] #[]::q) (fun _ W'=>∃o,J N o W'\/B o W') m):Jy True P Q q i N Rd w:=by
 intro l J B m T h0 hJ O0 Ir hr;refine h l J B m T ⟨fun k o j W W' h1 I O=>hJ k o j W W' h1 (I.mono fun _ _ e=>e.elim) O,fun o j W W' h1 I O=>O0 o j W W' h1 (I.mono fun _ _ e=>e.elim) O,Ir,hr⟩ h0 T.size
end
section
variable {α:Type}{g:AvN α}
def Na(k:Kd α)(l:List α){i:Nat}(j:Nat)(h:Tr.sz k.μ l<=i):k.over l i j=[]:=by
 rw[<-k.MW,k.Eb _ (by omega)]
set_option maxRecDepth 4000 in
def iX{b l N:Nat}{A:ArS α}{J:Nat->(Nat->Prop)->World->Prop}{Jx:(Nat->Prop)->World->Prop}{V:Nat->List Value}(hw:Dj g.toAvT F C w b most A)(hs:A.ps.length<=109951162777)(H:PH prog l J Jx w (fun x=>F x\/C x) V N) :
  ∀(t:Tr α) (i j Z:Nat) (O:Nat->Prop) (W:World),Tr.Holds g.k.μ A.f t->Dy g.toAvT t.toL->i<=1099511627776->j<=1099511627776->J Z O W->w.heap.size<=W.heap.size->(∀x,O x->x<W.heap.size)->Z+(g.k.over t.toL i j).length<=N->(∀m (hm:m<(g.k.over t.toL i j).length),V (Z+m)=[.agg (g.cells (g.k.over t.toL i j)[m]).toArray])->
   AB prog g.fover [.pointer (some ⟨b,0,none⟩),zI t.root,zI (i:Int),zI (j:Int),.func (.yield l) #[] #[]] (P5 J Jx (Z+(g.k.over t.toL i j).length) O W) W:=by
 intro t;induction t with
 |nil=>
  intro i j Z O W _ _ _ _ hJ hz ax _ _;apply g.okN.over;unfold VJ;simp only[Tr.root];refine AV (fun _ _=>False) (fun _ _ h=>h.elim) ?_;rw[Aj];refine AF (fun _=>?_) fun e=>(e rfl).elim;exact⟨Mp _,fun _ _=>rfl,⟨rfl,rfl,rfl⟩,O,fun _ h=>h,ax,.inl ⟨rfl,hJ⟩⟩
 |node lt q x b9 ey eA=>
  intro i j Z O W hh hb hi hj hJ hz ax hN Q;obtain⟨hl,hr,hq⟩:=id hh;have eL:(Tr.node lt q x b9).toL=lt.toL++x::b9.toL:=rfl;rw[eL] at hb hN Q ⊢;have eB:=hb.1;simp only[Tr.CT,Tr.Bb] at eB;rw[g.k.Qj] at hN Q ⊢;apply g.okN.over;unfold VJ;simp only[Tr.root];refine AV (fun _ W'=>W'=W/\i<j) ?_ ?_;rotate_left
  .rw[Aj];refine AF (fun e=>by omega) fun _=>?_;rw[DW];refine AF (fun e=>?_) fun e=>⟨rfl,by omega⟩;rw[g.k.Eb _ (by omega:j<=i),g.k.Eb _ (by omega:j-Tr.sz g.k.μ lt.toL<=i-Tr.sz g.k.μ lt.toL)];exact⟨Mp _,fun _ _=>rfl,⟨rfl,rfl,rfl⟩,O,fun _ h=>h,ax,.inl ⟨rfl,hJ⟩⟩
  rintro _ W' ⟨rfl,gw⟩ _;rename World=>W
  have EH:∀{k O W'},J k O W'->w.heap.size<=W'.heap.size->Dj g.toAvT F C W' b most A:=fun{k O W'} h1 h2=>hw.heap (fun y o=>H.Ir k O W' h1 y (hw.lt y o) o) h2;refine Dq (EH hJ hz) hq fun rc T w4 g4 gb B c6=>?_;have ba:=g.rlen c6;have bp:=g.Rc.1 c6;have eC:=(EH hJ hz).grow g4;refine Bh (B.cells (g.E+0) _ (by rw[AZ ba];rfl)) ?_;refine AA (CE eC hl) ?_;rintro _ w6 ⟨rfl,g6⟩;refine Kj ?_;have e5:Grow w6 w6.drew:=Mod.drew _ _;have e6:=(g4.trans g6).trans e5;obtain⟨c,pl,fr,hT⟩:=(EH hJ hz).grow e6;have B6:=(B.grow g6).grow e5;refine Af (fun _ _=>False) ?_;refine AI ?_;rw[AG,AH,AG,AH];refine AU ⟨hT.box.cells 0 _ rfl,fun _ _ e=>e⟩ ?_;rw[AG,AH];refine JK (g:=g.toAvT) (r:=rc) ba (fun j v hv=>⟨B6.cells j v (by rw[Q0 (Ad.1 hv).1];exact hv),fun _ _ e=>e⟩) ?_;refine Aw (g.meas (C:=C) (x:=x) (g.Rc.2 bp)) ?_;rintro _ w7 ⟨rfl,g7⟩;refine⟨g7.mono fun _ _ h=>h.elim,?_⟩;refine BO ?_;have al:=e6.trans g7;have B7:=B6.grow g7;have eu:=B7.lt (by rw[BI _ c6];omega);have gA:=al.size;have ay:∀y,(O y\/y=T)->(O y\/W.heap.size<=y)/\y<w7.heap.size:=fun y o=>by
   rcases o with o|o
   .have:=ax y o;exact⟨.inl o,by omega⟩
   .exact⟨.inr (by omega),by omega⟩
  have e7:=H.hJ Z O (fun y=>O y\/y=T) W w7 hJ al ay;have eI:∀y,O y->w7.heap[y]?=W.heap[y]?:=fun y o=>al.same y (ax y o) fun h=>h;obtain⟨X1,c7⟩:∃X,X=g.k.over lt.toL i j:=⟨_,rfl⟩;obtain⟨Y,c8⟩:∃Y,Y=i-Tr.sz g.k.μ lt.toL:=⟨_,rfl⟩;obtain⟨j',bb⟩:∃j',j'=j-Tr.sz g.k.μ lt.toL:=⟨_,rfl⟩;obtain⟨X2,c9⟩:∃X,X=(if Y<min j' (g.k.μ x).1 then[g.k.part x Y (min j' (g.k.μ x).1)] else[]):=⟨_,rfl⟩;obtain⟨X3,an⟩:∃X,X=g.k.over b9.toL (Y-(g.k.μ x).1) (j'-(g.k.μ x).1):=⟨_,rfl⟩;have eX:g.k.over lt.toL i j++g.k.over (x::b9.toL) (i-Tr.sz g.k.μ lt.toL) (j-Tr.sz g.k.μ lt.toL)=X1++(X2++X3):=by rw[c7,c9,an,c8,bb];rfl
  rw[eX] at hN Q ⊢;simp only[Bp] at hN;have ca:∀m (hm:m<X1.length),V (Z+m)=[.agg (g.cells X1[m]).toArray]:=fun m hm=>by
   rw[Q m (by simp;omega)];simp[mw hm]
  have cc:∀m (hm:m<X2.length),V (Z+X1.length+m)=[.agg (g.cells X2[m]).toArray]:=fun m hm=>by
   have:=Q (X1.length+m) (by simp;omega);rw[mL,this];simp[mU,mw hm]
  have cd:∀m (hm:m<X3.length),V (Z+X1.length+X2.length+m)=[.agg (g.cells X3[m]).toArray]:=fun m hm=>by
   have:=Q (X1.length+(X2.length+m)) (by simp;omega);rw[show Z+X1.length+X2.length+m=Z+(X1.length+(X2.length+m)) by omega,this];simp[mU]
  let St:Nat->World->Prop:=fun k W'=>∃I,(∀y,O y->I y)/\I T/\(∀y,I y->y<W'.heap.size)/\J k I W'/\(w7.heap.size<=W'.heap.size/\Quiet w7 W')/\(∀y,O y\/y=T->W'.heap[y]?=w7.heap[y]?)
  have done:∀{k W'} (v:Value) (I:Nat->Prop),(∀y,O y->I y)->(∀y,I y->y<W'.heap.size)->w7.heap.size<=W'.heap.size/\Quiet w7 W'->(∀y,O y->W'.heap[y]?=w7.heap[y]?)->((v=.bool true/\J k I W')\/(v=.bool false/\Jx I W'))->P5 J Jx k O W v W':=fun v I h1 h2 h3 h4 h5=>
   ⟨by omega,fun y o=>(h4 y o).trans (eI y o),Quiet.trans ⟨al.os,al.tape,al.output⟩ h3.2,I,h1,h2,h5⟩
  refine AV (fun _ W'=>St (Z+X1.length) W') ?_ ?_;rotate_left
  .refine Hj (fun e8=>?_) fun e9=>?_
   .refine Bh (B7.cells (g.E+0) _ (by rw[AZ ba];rfl)) ?_;rw[HU];have em:(if((Tr.sz g.k.μ lt.toL:Nat):Int)<(j:Int) then((Tr.sz g.k.μ lt.toL:Nat):Int) else(j:Int))=((min j (Tr.sz g.k.μ lt.toL):Nat):Int):=by split<;>omega
    rw[em];have ak:g.k.over lt.toL i (min j (Tr.sz g.k.μ lt.toL))=X1:=by rw[c7,g.k.MW]
    refine AA (ey i (min j (Tr.sz g.k.μ lt.toL)) Z (fun y=>O y\/y=T) w7 hl hb.app.1 hi (by omega) e7 (by omega) (fun y o=>(ay y o).2) (by rw[ak];omega) (fun m hm=>?_)) ?_
    .have ch:m<X1.length:=by rw[<-ak];exact hm
     rw[ca m ch];simp only[ak]
    rw[ak];rintro v W2 ⟨z1,z2,zq,I,q1,q2,q3⟩;rcases q3 with⟨rfl,cn⟩|⟨rfl,cn⟩
    .rw[An];exact AS ⟨I,fun y o=>q1 y (.inl o),q1 T (.inr rfl),q2,cn,⟨z1,zq⟩,z2⟩
    .rw[An];exact Ak (done (.bool false) I (fun y o=>q1 y (.inl o)) q2 ⟨z1,zq⟩ (fun y o=>z2 y (.inl o)) (.inr ⟨rfl,cn⟩))
   .have e0:X1=[]:=by rw[c7];exact Na g.k lt.toL j (by omega)
    rw[e0];exact⟨fun y=>O y\/y=T,fun y o=>.inl o,.inr rfl,fun y o=>(ay y o).2,e7,⟨Mp _,rfl,rfl,rfl⟩,fun _ _=>rfl⟩
  rintro _ W8 ⟨a6,a1,a2,a3,cv,z8,U⟩ _;have B8:=B7.heap (U T (.inr rfl));rw[Aq,wrap64 (by omega) (by omega),Gj];have eN:(if(0:Int)>(i:Int)-((Tr.sz g.k.μ lt.toL:Nat):Int) then(0:Int) else(i:Int)-((Tr.sz g.k.μ lt.toL:Nat):Int))=(Y:Int):=by rw[c8];split<;>omega
  rw[eN,Aq,wrap64 (by omega) (by omega),HU];obtain⟨to,cx⟩:∃to:Int,to=(if(((g.k.μ x).1:Nat):Int)<(j:Int)-((Tr.sz g.k.μ lt.toL:Nat):Int) then(((g.k.μ x).1:Nat):Int) else(j:Int)-((Tr.sz g.k.μ lt.toL:Nat):Int)):=⟨_,rfl⟩;rw[<-cx];have bs:(Y:Int)<to↔Y<min j' (g.k.μ x).1:=by rw[cx,bb];split<;>omega
  have ea:Y<min j' (g.k.μ x).1->to=((min j' (g.k.μ x).1:Nat):Int):=fun h=>by rw[cx,bb];split<;>omega
  refine AV (fun _ W'=>St (Z+X1.length+X2.length) W') ?_ ?_
  .rintro _ W9 ⟨ec,c1,c2,c3,ed,z9,a7⟩ _;refine CJ (by omega) ?_;rw[IG];refine AF (fun gB=>?_) fun gW=>?_
   .have e3:X3=[]:=by rw[an];exact g.k.Eb _ (by omega)
    rw[e3];simp only[kK,Bp];exact done (.bool true) ec c1 c3 z9 (fun y o=>a7 y (.inl o)) (.inl ⟨rfl,by rw[<-mL];exact ed⟩)
   .have B9:=B7.heap (a7 T (.inr rfl));refine Bh (B9.cells (g.E+1) _ (by rw[AZ ba];rfl)) ?_;rw[Aq,wrap64 (by omega) (by omega),Aq,wrap64 (by omega) (by omega),Gj];have e1:(if(0:Int)>(i:Int)-((Tr.sz g.k.μ lt.toL:Nat):Int)-(((g.k.μ x).1:Nat):Int) then(0:Int) else(i:Int)-((Tr.sz g.k.μ lt.toL:Nat):Int)-(((g.k.μ x).1:Nat):Int))=((Y-(g.k.μ x).1:Nat):Int):=by rw[c8];split<;>omega
    rw[e1,Aq,wrap64 (by omega) (by omega),Aq,wrap64 (by omega) (by omega)];have e2:(j:Int)-((Tr.sz g.k.μ lt.toL:Nat):Int)-(((g.k.μ x).1:Nat):Int)=((j'-(g.k.μ x).1:Nat):Int):=by rw[bb];omega
    rw[e2];refine AA (eA (Y-(g.k.μ x).1) (j'-(g.k.μ x).1) (Z+X1.length+X2.length) ec W9 hr hb.app.2.cons.1 (by omega) (by omega) ed (by omega) c3 (by rw[<-an];omega) (fun m hm=>?_)) ?_
    .have ch:m<X3.length:=by rw[an];exact hm
     rw[cd m ch];simp only[an]
    rw[<-an];rintro v W2 ⟨u1,u2,uq,I,q1,q2,q3⟩;refine done v I (fun y o=>q1 y (c1 y o)) q2 ⟨by omega,z9.2.trans uq⟩ (fun y o=>(u2 y (c1 y o)).trans (a7 y (.inl o))) ?_;simp only[Bp];rwa [<-mL,<-mL]
  .refine Hj (fun e8=>?_) fun e9=>?_;rotate_left
   .have e2:X2=[]:=by rw[c9,Bq fun e=>e9 (bs.2 e)]
    rw[e2];exact⟨a6,a1,a2,a3,cv,z8,U⟩
   have b0:=bs.1 e8;have ee:=ea b0;have e2:X2=[g.k.part x Y (min j' (g.k.μ x).1)]:=by rw[c9,DN b0]
   generalize hP:min j' (g.k.μ x).1=P at b0 ee e2;have gf:P<=(g.k.μ x).1:=by omega
   have b1:=CQ (g:=g) x;rw[AG,AH];refine Ah (vs:=g.cells x) b1 (fun j v hv=>?_) ?_
   .rw[AH];refine B8.cells j v ?_;rw[show rc=g.cells x from bp,Q0 (Ad.1 hv).1];exact hv
   refine Bx.new b1 g.zlen (cells_one (g:=g) x) fun bc ef gl bd bk=>?_;have ew:=bk.lt (by rw[b1];exact g.Epos);have da:∀{p:Nat} {w},0<p->p<(g.k.μ x).1->BK prog Cq g.vc [.agg (g.cells x).toArray,zI (p:Int)] (fun v w'=>v=.tuple #[.agg (g.cells (g.k.cut x p).1).toArray,.agg (g.cells (g.k.cut x p).2).toArray]/\Grow w w') w:=fun h1 h2=>g.cutc h1 h2 (by omega);have bx:∀{W'},Grow W8 W'->∃c pl fr,cK g.toAvT F C W' b c most A pl fr:=fun gg=>(EH cv (by omega)).grow gg;refine AV (fun _ W'=>Grow W8 W'/\Bx W' bc (g.cells (if P<(g.k.μ x).1 then(g.k.cut x P).1 else x))) ?_ ?_;rotate_left
   .rw[Am];refine AF (fun h1=>?_) fun h1=>⟨bd,by rw[Bq (by omega)];exact bk⟩;have eh:P<(g.k.μ x).1:=by omega
    have gd:Grow ef ef.drew:=Mod.drew _ _;obtain⟨c',eR,fa,dk⟩:=bx (bd.trans gd);have zd:=gd.size;refine Af (fun _ y=>y=bc) ?_;refine AI ?_;rw[AG,AH,AG,AH];refine AU ⟨dk.box.cells 1 _ rfl,fun k hk _=>nomatch (show k∈([]:List Nat) from hk)⟩ ?_;refine Ch b1 (fun j v hv=>⟨by rw[AH];exact(bk.grow gd).cells j v hv,fun k hk _=>nomatch (show k∈([]:List Nat) from hk)⟩) ?_;rw[ee];refine Aw (da (by omega) eh) ?_;rintro _ fo ⟨rfl,a8⟩;refine⟨a8.mono fun _ _ h=>h.elim,BO ?_⟩;refine((bk.grow gd).grow a8).over (CQ _) b1 (cells_one _) fun fs dT b2=>⟨b2,?_⟩;have h0:=bd.size;exact⟨((bd.trans gd).trans a8).next b2 fun y o e=>by omega,by rw[DN eh];exact dT⟩
   rintro _ ej ⟨bl,bn⟩ _;have ek:∀x',x'=(if P<(g.k.μ x).1 then(g.k.cut x P).1 else x)->(g.k.μ x').1=P:=fun x' e=>by
    rw[e];split
    .exact(g.cutμ x P (by omega) (by assumption)).1
    .omega
   generalize fv:(if P<(g.k.μ x).1 then(g.k.cut x P).1 else x)=x' at bn ek;have gm:=ek x' rfl;have b6:g.k.part x Y P=if 0<Y then(g.k.cut x' Y).2 else x':=by unfold Kd.part;rw[fv]
   refine AV (fun _ W'=>Grow W8 W'/\Bx W' bc (g.cells (g.k.part x Y P))) ?_ ?_;rotate_left
   .rw[BL];refine AF (fun h1=>?_) fun h1=>⟨bl,by rw[b6,Bq (by omega)];exact bn⟩;have gd:Grow ej ej.drew:=Mod.drew _ _;obtain⟨c',eR,fa,dk⟩:=bx (bl.trans gd);have zd:=gd.size;have h6:=bl.size;have c4:=CQ (g:=g) x';refine Af (fun _ y=>y=bc) ?_;refine AI ?_;rw[AG,AH,AG,AH];refine AU ⟨dk.box.cells 1 _ rfl,fun k hk _=>nomatch (show k∈([]:List Nat) from hk)⟩ ?_;refine Ch c4 (fun j v hv=>⟨by rw[AH];exact(bn.grow gd).cells j v hv,fun k hk _=>nomatch (show k∈([]:List Nat) from hk)⟩) ?_;refine Aw (g.cutc (x:=x') (p:=Y) (by omega) (by omega) (by omega)) ?_;rintro _ fo ⟨rfl,a8⟩;refine⟨a8.mono fun _ _ h=>h.elim,BO ?_⟩;refine((bn.grow gd).grow a8).over (CQ _) c4 (cells_one _) fun fs dT b2=>⟨b2,?_⟩;exact⟨((bl.trans gd).trans a8).next b2 fun y o e=>by omega,by rw[b6,DN (by omega)];exact dT⟩
   rintro _ en ⟨av,ga⟩ _;refine ga.E0 (CQ _) ?_;have h7:=av.size;have h8:=z8.1;have eo:=H.hJ _ a6 a6 W8 en cv av fun y o=>⟨.inl o,by have:=a3 y o;omega⟩;refine .inr ⟨l,rfl,?_⟩;have ep:X2.length=1:=by rw[e2];rfl
   have b7:=cc 0 (by omega);simp only[lD,e2,qp] at b7;rw[<-b7];refine FJ (H.Z8 _ a6 en (by omega) eo) ?_;rintro v er ⟨y1,y2,yq,y3⟩;have b8:∀y,a6 y->er.heap[y]?=W8.heap[y]?:=fun y o=>(y2 y o).trans (av.same y (a3 y o) fun h=>h);have et:Quiet w7 er:=(z8.2.trans ⟨av.os,av.tape,av.output⟩).trans yq;rcases y3 with⟨rfl,e4⟩|⟨rfl,e4⟩
   .rw[An];refine AS ⟨a6,a1,a2,fun y o=>by have:=a3 y o;omega,by rw[ep];exact e4,⟨by omega,et⟩,fun y o=>?_⟩;exact(b8 y (by rcases o with o|rfl;exact a1 y o;exact a2)).trans (U y o)
   .rw[An];exact Ak (done (.bool false) a6 a1 (fun y o=>by have:=a3 y o;omega) ⟨by omega,et⟩ (fun y o=>(b8 y (a1 y o)).trans (U y (.inl o))) (.inr ⟨rfl,e4⟩))
end
section
variable {α:Type}
def VK(g:AvT α):Prop:=∀{F C:Nat->Prop} {W:World} {b i j:Nat} {A:ArS α} {T:Tr α},Dj g F C W b T.root A->A.ps.length<=109951162777->Tr.Holds g.k.μ A.f T->Tr.GG T->Dy g T.toL->i<=1099511627776->j<=1099511627776->
 AB prog g.fOver [.pointer (some ⟨b,0,none⟩),zI (i:Int),zI (j:Int)] (fun v' w'=>∃ (o vals:List Value) (Rd:Nat->Prop),v'=.func (.func g.fOverf) #[] o.toArray/\Grow W w'/\vals.length=(g.k.over T.toL i j).length/\(∀ m (h1:m < vals.length) (q:m < (g.k.over T.toL i j).length),∃ r,vals[m]=g.toAvK.enc r/\g.R C w' r (g.k.over T.toL i j)[m])/\
  (∀ x,Rd x->(F x\/C x\/W.heap.size<=x)/\x < w'.heap.size)/\Jy True prog g.fOverf o (fun k=>[vals.getD k undef]) vals.length Rd w') W
def D8{t:TypeId}{x:Value}(j:x.cells=#[x])(h:∀b i,w.heap.size<=b->Grow w i->Bx i b [x]->K (.pointer (some ⟨b,0,none⟩)) i):Ec t x K w:=
 ⟨j,Bx.zero h⟩
def N4{g:AvT α}{b i j b3 b4 b5:Nat}{A:ArS α}{T:Tr α}{q:Nat->List Value}(h:Dj g F C w b T.root A)(B3:Bx w b3 [.pointer (some ⟨b,0,none⟩)])(B4:Bx w b4 [zI (i:Int)])(B5:Bx w b5 [zI (j:Int)])
 (U:∀ l J Q m,Grow w m->PH prog l J Q w (fun x=>F x\/C x\/x=b3\/x=b4\/x=b5) q N->J 0 (fun _=>False) m->w.heap.size<=m.heap.size->
   AB prog g.fover [.pointer (some ⟨b,0,none⟩),zI T.root,zI (i:Int),zI (j:Int),.func (.yield l) #[] #[]] (P5 J Q N (fun _=>False) m) m) :
  Jy True prog g.fOverf [.pointer (some ⟨b3,0,none⟩),.pointer (some ⟨b4,0,none⟩),.pointer (some ⟨b5,0,none⟩)] q N (fun x=>F x\/C x\/x=b3\/x=b4\/x=b5) w:=by
 refine PH.ofSeq fun l J Q m g1 H hJ hz=>?_;apply g.ok.overf;unfold VP;have V:Grow m m.drew:=Mod.drew _ _;have o:=g1.trans V;obtain⟨c,pl,fr,hT⟩:=h.grow o;have z:=V.size;refine Af (fun _ _=>True) ?_;have B:=B3.grow o;have X:=B4.grow o;have Y:=B5.grow o;refine AU ⟨B.cells 0 _ rfl,fun k hk _=>nomatch (show k∈([]:List Nat) from hk)⟩ ?_;refine AU ⟨B.cells 0 _ rfl,fun k hk _=>nomatch (show k∈([]:List Nat) from hk)⟩ ?_;refine AI ?_;rw[AG,AH];refine AU ⟨hT.box.cells 4 _ rfl,fun k hk _=>nomatch (show k∈([]:List Nat) from hk)⟩ ?_;refine AU ⟨X.cells 0 _ rfl,fun k hk _=>nomatch (show k∈([]:List Nat) from hk)⟩ ?_;refine AU ⟨Y.cells 0 _ rfl,fun k hk _=>nomatch (show k∈([]:List Nat) from hk)⟩ ?_;have Z:=H.hJ 0 (fun _=>False) (fun _=>False) m m.drew hJ V fun _ h=>h.elim;refine AA (U l J Q m.drew o H Z (by omega)) ?_;rintro v w2 ⟨a1,_,hq,I,_,_,O⟩;refine⟨⟨hq.1,hq.2.1,hq.2.2,a1,fun x _ hx=>(hx trivial).elim⟩,?_⟩;rcases O with⟨_,O⟩|⟨_,O⟩
 .exact⟨I,.inl O⟩
 .exact⟨I,.inr O⟩
def SI{g:AvN α}:VK g.toAvT:=by
 intro F C W b i j A T h X Y hu hb hi Z;apply g.ok.over;unfold Wf;refine D8 rfl fun b3 w1 a1 O Q=>?_;refine D8 rfl fun b4 w2 a6 I U=>?_;refine D8 rfl fun b5 w3 a7 q V=>?_;have o:=(O.trans I).trans q;have B:=h.grow o;have s1:=O.size;have s2:=I.size;refine⟨[.pointer (some ⟨b3,0,none⟩),.pointer (some ⟨b4,0,none⟩),.pointer (some ⟨b5,0,none⟩)],(g.k.over T.toL i j).map fun x=>.agg (g.cells x).toArray,_,rfl,o,by rw[Iq],fun m h1 h2=>⟨g.cells (g.k.over T.toL i j)[m],by rw[TI,mS],g.Rc.2 rfl⟩,fun x hx=>?_,N4 B ((Q.grow I).grow q) (U.grow q) V fun l J Jx w4 g4 H hJ hz=>?_⟩
 .have q3:=Q.lt (S3 _);have q4:=U.lt (S3 _);have q5:=V.lt (S3 _);have s3:=q.size;rcases hx with e|e|e|e|e
  .exact⟨.inl e,B.lt x (.inl e)⟩
  .exact⟨.inr (.inl e),B.lt x (.inr e)⟩
  .exact⟨.inr (.inr (by omega)),by omega⟩
  .exact⟨.inr (.inr (by omega)),by omega⟩
  .exact⟨.inr (.inr (by omega)),by omega⟩
 .have H':PH prog l J Jx w3 (fun x=>F x\/C x) _ _:=⟨H.hJ,H.O0,fun k It W hJ b hb hr=>H.Ir k It W hJ b hb (hr.elim .inl fun h=>.inr (.inl h)),H.Z8⟩;have key:=iX B X H' T i j 0 (fun _=>False) w4 Y hb hi Z hJ hz (fun _ h=>h.elim) (by rw[Iq];omega) (fun m hm=>?_)
  .rw[Iq];rw[mG] at key;exact key
  .simp[List.getD,hm]
end
end Go.Proofs.YtmdhibffnkhcnaaGreatDoor
