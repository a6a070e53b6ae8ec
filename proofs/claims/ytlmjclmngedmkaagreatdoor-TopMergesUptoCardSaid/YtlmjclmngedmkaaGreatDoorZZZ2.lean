/- parts of the proof -/
import Derived.Test.YtlmjclmngedmkaaGreatDoorZZZ1
set_option linter.all false
set_option maxRecDepth 100000
namespace Go.Proofs.YtlmjclmngedmkaaGreatDoor
open Go Proofs.Tryz
variable {j e c B N:Nat}{w W W' w' w0:e_}{S F C M:f_}{v sv:d_}{most:Int}{cs vs:V_}{α:Type}{ty:TypeId}{ks:Y'}{K:Cont}{P:Program}{yo xo:Operand}
section
section
variable {α:Type}{g:AvT α}
def au{out:List α}{x:α}(h:Tr.sz g.k.μ out+(g.k.μ x).1<=1099511627776):Tr.sz g.k.μ (g.k.DA out x)<=Tr.sz g.k.μ out+(g.k.μ x).1:=by
 unfold Kd.DA;by_cases h0:(g.k.μ x).1=0;rw[Cx h0];omega;rw[Bp h0];rcases tG out with rfl|⟨o,y,rfl⟩;simp[Tr.sz];rw[vq] at h ⊢;simp only[R0,WJ,vz,wK];cases hm:g.k.meld y x with
 |none=>rw[Tr.DI,Tr.CF];simp[Tr.sz]
 |some z=>
  have:=(g.meldμ _ _ _ hm).1;simp[Tr.DI,Tr.CF];omega
def Xv(l:List α)(h:Tr.sz g.k.μ l<=1099511627776):Tr.sz g.k.μ (g.k.melded l)<=Tr.sz g.k.μ l:=by
 have gen:∀(l out:List α),Tr.sz g.k.μ out+Tr.sz g.k.μ l<=1099511627776->Tr.sz g.k.μ (l.foldl g.k.DA out)<=Tr.sz g.k.μ out+Tr.sz g.k.μ l:=by
  intro l;induction l with
  |nil=>intro out _;simp[Tr.sz]
  |cons x l i=>
   intro out h;rw[Tr.CF] at h ⊢;rw[wP];have h1:=au (g:=g) (out:=out) (x:=x) E;have j:=i (g.k.DA out x) E;omega
 have:=gen l [] (by simpa[Tr.sz] using h);unfold Kd.melded;simpa[Tr.sz] using this
def pU{l:List α}{x:α}(h:x∈l):(g.k.μ x).1<=Tr.sz g.k.μ l:=by
 induction l with
 |nil=>simp at h
 |cons y l i=>
  rw[Tr.CF];rcases I3.1 h with rfl|h;omega;have:=i h;omega
end
variable {α:Type}{g:AvN α}
def Jm(k:Kd α)(l:List α):(k.melded l).length<=l.length:=by
 have gen:∀(l out:List α),(l.foldl k.DA out).length<=out.length+l.length:=by
  intro l;induction l with
  |nil=>intro out;simp
  |cons x l i=>
   intro out;rw[wP,Hn];have h1:=i (k.DA out x);have j:(k.DA out x).length<=out.length+1:=by
    unfold Kd.DA;split;omega;split;split;simp;simp;simp
   omega
 have:=gen l [];unfold Kd.melded;simpa using this
def Od(k:Kd α)(l:List α)(x:α):k.melded (l++[x])=k.DA (k.melded l) x:=by
 unfold Kd.melded;rw[wG];rfl
def XU(k:Kd α)(j:∀x y z,k.meld x y=some z->0<(k.μ x).1->0<(k.μ z).1)(l:List α):∀x∈k.melded l,0<(k.μ x).1:=by
 have gen:∀(l out:List α),(∀x∈out,0<(k.μ x).1)->∀x∈l.foldl k.DA out,0<(k.μ x).1:=by
  intro l;induction l with
  |nil=>intro out h;exact h
  |cons y l o=>
   intro out h;rw[wP];apply o _;unfold Kd.DA;split;exact h;split;rename_i z B;split;rename_i q I;intro x i;rcases DN.1 i with i|i;exact h x (List.dropLast_subset _ i);simp at i;subst i;exact j _ _ _ I (h _ (xI B));intro x i;rcases DN.1 i with i|i;exact h x i;simp at i;subst i;omega;intro x i;rcases DN.1 i with i|i;exact h x i;simp at i;subst i;omega
 exact gen l [] D_
def nh:Qh g.toAvT:=by
 intro F C S W b rt A v l h hv hl hb;apply g.okN.melded;unfold ZG;obtain⟨va,vc,rfl,hm⟩:=hv.AO;have eo:=hb.1;have dk:=hv.JR g.Epos;rw[AP];refine AX (λvs W'=>∃(i:Nat) (out:d_),i<=l.length/\vs=[out,zI i]/\AG W.heap.size g.te g.E (g.R C) W' out (g.k.melded (l.take i))/\AI W W') (λvs _=>l.length-Di vs 1)
  ⟨0,_,Hw _,rfl,AG.nil,AK.refl _ _⟩ ?_
 rintro vs W1 ⟨i,out,hi,rfl,ho,g1⟩ _;simp only[Iu];refine HP (λep=>?_) λdr=>?_;rotate_left;have:i=l.length:=E;subst this;rw[Nr] at ho;exact⟨ho,g1⟩;have J:i<l.length:=E;obtain⟨p,r,rfl,hS,hr,hc,c4⟩:=dk.get J;have dT:=g.Rc.1 c4;subst dT;have Z:l.take (i+1)=l.take i++[l[i]]:=by rw[Lc];simp[J]
 have c6:Tr.sz g.k.μ (l.take i)+(g.k.μ l[i]).1<=Tr.sz g.k.μ l:=by
  have e:Tr.sz g.k.μ l=Tr.sz g.k.μ (l.take (i+1))+Tr.sz g.k.μ (l.drop (i+1)):=by rw[<-Tr.DI,QC]
  rw[Z,Tr.DI,Tr.CF] at e;simp only[Tr.sz,wh,xm] at e ⊢;omega
 have I:g.k.melded (l.take (i+1))=g.k.DA (g.k.melded (l.take i)) l[i]:=by rw[Z,Od]
 have e1:=Xv (g:=g.toAvT) (l.take i) E;have an:=XU g.k (λx y z hz h0=>by have:=(g.meldμ x y z hz).1;omega) (l.take i);have c7:=Jm g.k (l.take i);rw[K8,u6 hi] at c7;generalize hx:l[i]=x at hr hc c4 c6 I;generalize g.k.melded (l.take i)=L at ho I e1 an c7;have O:=DC (g:=g) x;have e2:=FF (g:=g) x;refine AW J (Ab O (λj u hu=>by rw[Addr.add_add];exact g1.cell (hc j u hu) E_) ?_);refine Bx.new O g.zlen e2 λb6 w4 er g4 B6=>?_;have aa:AI w4 w4.drew:=AK.drew _ _;have c8:=(g1.trans g4).trans aa;obtain⟨c,pl,fr,hT⟩:=id h;have e3:=hT.U' c8 C0;have c9:=B6.U_ aa;have s1:=g1.size;have s4:=g4.size;have e4:=B6.lt (by rw[O];exact g.Epos);have et:∀y,C y->y<W.heap.size:=λy Y=>h.lt y (.inr Y);refine Ag (λ_ _=>False) ?_;refine AJ ?_;rw[AB,AH,AB,AH];refine AU ⟨e3.box.cells 0 _ rfl,C0⟩ ?_;refine DF O (λj v hv=>⟨by rw[AH];exact c9.cells j v hv,C0⟩) ?_;have e5:∀{w},Be prog En g.vm [.agg (g.cells x).toArray] (λv w'=>v=.tuple #[zI (g.k.μ x).1,zI (g.k.μ x).2]/\AI w w') w:=λ{w}=>by
  have:=g.meas (C:=C) (w:=w) (x:=x) (g.Rc.2 rfl);rwa [ZQ] at this
 refine BI e5 ?_;rintro _ w5 ⟨rfl,g5⟩;refine⟨g5.mono E',?_⟩;refine Bv ?_;have ak:=c8.trans g5;have b7:=c9.U_ g5;have a1:AG W.heap.size g.te g.E (g.R C) w5 out L:=AG.U' ho ((g4.trans aa).trans g5) C0 λr y _ Y=>g.Rc.2 (g.Rc.1 Y);have eu:l.length<=109951162777:=hl;rw[Aj];refine AE (λh0=>?_) λh0=>?_;have al:(g.k.μ x).1=0:=E;rw[AR,AM E];refine⟨⟨i+1,out,J,rfl,?_,ak⟩,by rw[BE,BE];omega⟩;rw[I];unfold Kd.DA;rw[Cx al];exact a1;have al:(g.k.μ x).1≠0:=E;refine AV (λ_ W'=>AI W W'/\AG W.heap.size g.te g.E (g.R C) W' out L/\Bx W' b6 (g.cells x)/\g.k.DA L x=L++[x]) ?_ ?_;rintro _ W6 ⟨Q,a6,e6,em⟩ _;refine e6.GN O ?_;have ca:=Dj (v:=.agg (g.cells x).toArray) (vs:=g.cells x) g.zlen g.Epos rfl O;have e7:=g.eb_le;refine FL g.elE a6 Q.size (cs:=g.cells x) (x:=x) ca O (g.Rc.2 rfl) (λ_ _ _ Y=>g.rone Y) (λ_ _ r y _ _ Y=>g.Rc.2 (g.Rc.1 Y)) ?_ L_ λv' w7 e8 m7 ew=>?_;have:(L.length+1)*g.eb<=(L.length+1)*512:=ym _ e7;omega;rw[AR,AM E];refine⟨⟨i+1,v',J,rfl,by rw[I,em];exact e8,Q.next m7 λy Y e=>by have:=(AG.Az a6 y e).1;omega⟩,by rw[BE,BE];omega⟩;obtain⟨oa,oc,rfl,ey,ez,e9,ea⟩:=a1.AO;rw[AP,A6,wrap64 E E,DR];refine AE (λdr=>?_) λec=>?_;rotate_left;have ed:L=[]:=Kx E;refine⟨ak,a1,b7,?_⟩;unfold Kd.DA;rw[Bp al,ed];rfl;have b8:0<L.length:=E;obtain⟨o,y,a7⟩:∃o y,L=o++[y]:=⟨L.dropLast,L.getLast (wN.1 b8),(aAR _).symm⟩;have U:L.length=o.length+1:=by rw[a7];simp
 have a8:L.length-1<L.length:=E;have ee:L[L.length-1]=y:=by
  have:L[L.length-1]?=some y:=by rw[U,a7];simp
  exact r9 ((By a8).symm.trans this)
 have cc:y∈L:=by rw[a7];simp
 have B:g.k.DA L x=match g.k.meld y x with|some z=>o++[z]|none=>L++[x]:=by
  unfold Kd.DA;rw[Bp al,a7];simp only[R0,WJ,vz,wK]<;>cases g.k.meld y x<;>rfl
 cases oa with
 |none=>have:=ea rfl;rw[this] at b8;simp at b8
 |some q=>
  obtain⟨gb,rfl,eA,eB,eC⟩:=e9 q rfl;have en:((L.length:Int)-1)=((L.length-1:Nat):Int):=E;rw[en];have ec:gb≠b6:=λe=>by
   have:=(AG.Az ho gb rfl).2;omega
  refine AV (λvs W'=>∃V,vs=[g_ V,.bool (g.k.meld y x).isSome]/\AI w5 W'/\∀z,g.k.meld y x=some z->Bx W' V (g.cells z)) ?_ ?_;rintro _ W6 ⟨V,rfl,Q,hz⟩ _;simp only[JS,wL];have a6:AG W.heap.size g.te g.E (g.R C) W6 (.slice (h_ gb) L.length oc) L:=AG.U' a1 Q C0 λr y _ Y=>g.Rc.2 (g.Rc.1 Y);have ch:=ak.trans Q;cases b9:g.k.meld y x with
  |none=>
   rw[b9] at B;exact AS ⟨ch,a6,b7.U_ Q,B⟩
  |some z=>
   rw[b9] at B;refine Ai ?_;refine(hz z b9).GN (DC z) ?_;refine AW a8 ?_;have key:=AG.TX (R':=g.R C) (x':=z) (p:=0) (vs:=g.cells z) (K:=λba=>DX .i64 (zI (i:Int)) (zI 1) λcu=>(∃(i':Nat) (av:d_),i'<=l.length/\[Value.slice (h_ gb) L.length oc,cu]=[av,zI (i':Int)]/\AG W.heap.size g.te g.E (g.R C) ba av (g.k.melded (l.take i'))/\AI W ba)/\l.length-Di [Value.slice (h_ gb) L.length oc,cu] 1<l.length-Di [Value.slice (h_ gb) L.length oc,zI (i:Int)] 1) a6 a8 (DC z) E (FF z) (λw' r y' _ _ ef=>g.Rc.2 (g.Rc.1 ef)) (λw' r _ _ bb _=>by rw[PZ (by rw[DC,bb])];exact g.Rc.2 rfl) λba ax eh=>?_;rw[ua] at key;exact key;rw[AR,AM E];refine⟨⟨i+1,_,J,rfl,?_,ch.next eh λb' eI e=>by simp only at e;omega⟩,by rw[BE,BE];omega⟩;rw[I,B];have:L.set (L.length-1) z=o++[z]:=by rw[U,a7];simp
   rw[this] at ax;have el:(o++[z]).length=L.length:=by simp[U]
   exact ax
  have X:AI w5 w5.drew:=AK.drew _ _;have ei:=hT.U' (ak.trans X) C0;have hd:=(AG.U' (R':=g.R C) a1 X C0 λr y _ Y=>g.Rc.2 (g.Rc.1 Y)).sl;obtain⟨q',r',e',eL,bb,ej,cx⟩:=hd.get a8;cases e';have ay:=g.Rc.1 cx;rw[ee] at ay;subst ay;have s5:=X.size;have eN:=g5.size;have eR:=aa.size;have ek:=hT.box.lt (P9 _);have gm:∀{W1 W2:e_},AI W1 W2->AK (λy=>w5.drew.heap.size<=y) W1 W2:=λg=>g.mono E';have eV:=pU (g:=g.toAvT) cc;have dj:∀{w},Be prog En g.vd [.agg (g.cells y).toArray,.agg (g.cells x).toArray] (λv w'=>AI w w'/\∃r,r.length=g.E/\(∀u∈r,u.oneCell'=true)/\v=.tuple #[.agg r.toArray,.bool (g.k.meld y x).isSome]/\∀z,g.k.meld y x=some z->r=g.cells z) w:=g.meldc (an y cc) E E;refine Ag (λ_ y=>w5.drew.heap.size<=y) ?_;refine AJ ?_;rw[AB,AH,AB,AH];refine AU ⟨ei.box.cells 2 _ rfl,λ_ _ e=>by simp only at e;omega⟩ ?_;refine AW a8 ?_;refine DF bb (λj v hv=>⟨by rw[Addr.add_add];exact ej j v hv,λ_ _ e=>by rw[Addr.add_add,AH] at e;simp only at e;omega⟩) ?_;refine DF O (λj v hv=>⟨by rw[AH];exact(b7.U_ X).cells j v hv,λ_ _ e=>by rw[AH] at e;simp only at e;omega⟩) ?_;refine⟨?_,?_⟩;refine BI dj ?_;rintro _ w6 ⟨Q,r,bk,bl,rfl,bp⟩;refine⟨gm Q,Bv ?_⟩;refine Bx.zero λV w7 b0 g7 bs=>⟨gm g7,?_⟩;refine bs.Au bk g.zlen bl λw8 B8 m8=>⟨m8.mono λx _ e=>by rw[e];have:=Q.size;omega,?_⟩;have s6:=Q.size;exact⟨V,rfl,((X.trans Q).trans g7).next m8 E,λz hz=>by rw[<-bp z hz];exact B8⟩;refine Bx.zero λV w7 b0 g7 bs=>⟨gm g7,?_⟩;refine BI dj ?_;rintro _ w6 ⟨Q,r,bk,bl,rfl,bp⟩;refine⟨gm Q,Bv ?_⟩;refine(bs.U_ Q).Au bk g.zlen bl λw8 B8 m8=>⟨m8.mono λx _ e=>by rw[e];exact b0,?_⟩;exact⟨V,rfl,((X.trans g7).trans Q).next m8 E,λz hz=>by rw[<-bp z hz];exact B8⟩
end
section
variable {α:Type}{g:AvT α}
def Ki.vS{W i w2:e_}{b:Nat}{j:Int}{o B:ArS α}{L:List α}{I:X'}{t:Tr α}(Q:∀x,F x->M x)(J:∀x,M x->F x\/W.heap.size<=x)(O:AK (Fb F b) W i)(S:kB g M C i w2 b j o L I t B):AK (Fb F b) W w2:=
 O.next S.U' λx U e=>by
  rcases J x e.1 with e'|e';exact⟨e',e.2⟩;omega
structure uU (g:AvT α) (F C:f_) (W:e_) (b:Nat) (rt:Int) (A:ArS α) (al bl L:List α) (a' b':Tr α) (mv:d_) (W':e_) (A':ArS α) (F':f_):Prop where
 k1:∀x,F x->F' x
 k2:∀x,F' x->F x\/W.heap.size<=x
 FZ:Ex g F' C W' b rt A'
 U':AK (Fb F b) W W'
 ha:Tr.Ac g.k.μ A'.f a'
 hb:Tr.Ac g.k.μ A'.f b'
 KV:(a'.idx++b'.idx).Nodup
 row:AG W.heap.size g.te g.E (g.R C) W' mv L
 nF:∀x,mv.ownBlock=some x->¬F' x
 ta:a'.toL=al
 tb:b'.toL=bl
 len:A'.ps.length<=A.ps.length+2
def ji(g:AvT α)(F C:f_)(W w':e_)(b:Nat)(i:Int)(A:ArS α):Prop:=∃F',(∀x,F x->F' x)/\(∀x,F' x->F x\/W.heap.size<=x)/\Ex g F' C w' b i A/\AK F W w'
def Xk(g:AvT α):Prop:=∀{F C S:f_} {W:e_} {b i j:Nat} {A:ArS α} {T:Tr α} {v:d_} {L:List α},Ex g F C W b T.root A->A.ps.length+L.length<=109951162000->Tr.Ac g.k.μ A.f T->Tr.H7 T->BC S g.E (g.R C) W v L->(∀x,S x->¬F x)->i<=j->j<=1099511627776->FN g T.toL->FN g (g.k.Cw T.toL i j L)->FN g ((g.k.split T.toL i).1.getLast?.toList++L++(g.k.split (g.k.split T.toL i).2 (j-i)).2.head?.toList)->AF prog g.fReplace [g_ b,zI (i:Int),zI (j:Int),v] (λ_ w'=>∃o B,o.toL=g.k.Cw T.toL i j L/\ji g F C W w' b o.root B/\Tr.Ac g.k.μ B.f o/\Tr.H7 o/\B.ps.length<=A.ps.length+L.length+4) W
def AG.H8{B e k:Nat}{b:Nat}{i:Int}{A:ArS α}{l:List α}(h:AG B e k (g.R C) W v l)(ht:Ex g F C W b i A)(hm:AK (Fb F b) W W')(j:∀x,v.ownBlock=some x->¬F x):AG B e k (g.R C) W' v l:=AG.U' h hm (λx o e=>j x o e.1) λr y _ I=>g.Bw I hm λz _ J e=>ht.MP z e.1 J
def tQ(g:AvK)(KK:d_->d_->d_->e_->Prop)(v0 v1 v2 v3:d_)(w:e_):Prop:=Ar v0 λt22=>BZ 4 t22 λV=>BV V (λX w1=>AF prog g.fsplit [v0,X,v1] (λB w2=>Ay 0 B λj=>Ay 1 B λY=>Ec .i64 v2 v1 λZ=>AF prog g.fsplit [v0,Y,Z] (λI w3=>Ay 0 I λa1=>Ay 1 I λo=>AF prog g.fdrop [v0,a1] (λ_t40 w4=>D3 (λvs w5=>∀_:Env,runK prog (Builtin.append_ #[g.ts,g.ts] g.ts [(Bm vs 1),v3].toArray) (λO w6=>D3 (λi w7=>∀_:Env,AF prog g.fmelded [v0,(Bm i 1)] (λt76 w8=>KK (Bm vs 0) (Bm i 0) t76 w8) w7) (λQ=>T0 .i64 o (zI (-1)) λa6=>Al a6 (AF prog g.ffirst [v0,o] (λU a7=>Ay 0 U λa8=>Ay 1 U λt66=>AF prog g.fpick [v0,t66] (λaa ak=>Eb g.te g.E 1 g.zE [(0,aa)] (λal an=>runK prog (Builtin.append_ #[g.ts,g.ts] g.ts [O,al].toArray) (λav ax=>Q [a8,av] ax) an) ak) a7) w6) (Q [o,O] w6))) w5) (λJ=>T0 .i64 j (zI (-1)) λay=>Al ay (AF prog g.flast [v0,j] (λt46 b0=>Ay 0 t46 λb6=>Ay 1 t46 λb7=>AF prog g.fpick [v0,b7] (λt53 b8=>Eb g.te g.E 1 g.zE [(0,t53)] (λb9 ba=>runK prog (Builtin.append_ #[g.ts,g.ts] g.ts [i_,b9].toArray) (λt55 bb=>J [b6,t55] bb) ba) b8) b0) w4) (J [j,i_] w4))) w3) w2) w1) w
def V4{b i j:Nat}{A:ArS α}{T:Tr α}{L:List α}{KK:d_->d_->d_->e_->Prop}(c9:Tp g)(ca:XZ g)(eo:Qh g)(cc:∀l p,FN g l->FN g (g.k.split l p).1/\FN g (g.k.split l p).2) (h:Ex g F C W b T.root A)(hs:A.ps.length+L.length<=109951162000)(hh:Tr.Ac g.k.μ A.f T)(hu:Tr.H7 T)(hv:BC S g.E (g.R C) W v L)(hS:∀x,S x->¬F x)(fs:i<=j)(hj:j<=1099511627776) (ch:FN g T.toL)(cu:FN g ((g.k.split T.toL i).1.getLast?.toList++L++(g.k.split (g.k.split T.toL i).2 (j-i)).2.head?.toList)) (hK:∀Q X mv W' A' F',uU g F C W b T.root A (g.k.split T.toL i).1.dropLast (g.k.split (g.k.split T.toL i).2 (j-i)).2.tail (g.k.melded ((g.k.split T.toL i).1.getLast?.toList++L++(g.k.split (g.k.split T.toL i).2 (j-i)).2.head?.toList)) Q X mv W' A' F'->KK (zI Q.root) (zI X.root) mv W') : tQ g.toAvK KK (g_ b) (zI (i:Int)) (zI (j:Int)) v W:=by
 unfold tQ;have Y:∀y,C y->y<W.heap.size:=λy Z=>h.lt y (.inr Z);obtain⟨c,pl,fr,hT⟩:=id h;apply AJ;rw[AB,AH];apply AD (hT.box.cells 4 _ rfl);apply AA (c9 T h E hh hu ch (p:=i) E);rintro _ w2 ⟨a,a6,A1,rfl,S1⟩;refine Bv ?_;rw[A6,wrap64 E E,(E:((j:Int)-(i:Int))=((j-i:Nat):Int))];obtain⟨F1,x1,x2,h1,m1⟩:=S1.rN;obtain⟨n1,n2,n3⟩:=r8.1 S1.KV;have l1:=S1.len;have b9:=cc T.toL i ch;refine AA (c9 a6 h1 E S1.hr n2 (by rw[S1.r1];exact b9.2) (p:=j-i) E) ?_;rintro _ w3 ⟨Ak,O,A2,rfl,S2⟩;refine Bv ?_;obtain⟨F2,y1,y2,h2,m2⟩:=S2.rN;obtain⟨o1,o2,o3⟩:=r8.1 S2.KV;have l2:=S2.len;have al:∀q∈a.idx,q∉a6.idx/\q∉Ak.idx++O.idx:=λq I=>by
  have hr:q∉a6.idx:=λe=>n3 q I q e rfl;refine⟨hr,λe=>?_⟩;rcases S2.idx q e with e|e;exact hr e;obtain⟨m,hm⟩:=S1.hl.LF g.k.μ I;rw[hm] at e;cases e
 have ep:Tr.Ac g.k.μ A2.f a:=S1.hl.frame g.k.μ λq I=>S2.Ap q (al q I).1 (al q I).2;apply AA (cP Ak h2 E S2.hl o1);rintro _ w4 ⟨A3,T3,cx,l3⟩;obtain⟨F3,z1,z2,h3,m3⟩:=T3;have er:Tr.Ac g.k.μ A3.f a:=ep.frame g.k.μ λq I=>cx q λe=>(al q I).2 (oJ _ e);have dj:Tr.Ac g.k.μ A3.f O:=S2.hr.frame g.k.μ λq I=>cx q λe=>o3 q e q I rfl;have an:(a.idx++O.idx).Nodup:=r8.2 ⟨n1,o2,λq I q' a7 e=>(al q I).2 (py _ (e▸a7))⟩;have s1:=m1.size;have s2:=m2.size;have s3:=m3.size;have dk:∀x,F x->F3 x:=λx o=>z1 x (y1 x (x1 x o));have ba:∀x,F3 x->F x\/W.heap.size<=x:=λx o=>by
  rcases z2 x o with e|e;rcases y2 x e with e|e;exact x2 x e;exact .inr E;exact .inr E
 have dr:AK (Fb F b) W w4:=by
  refine(m1.next m2 λx o e=>?_).next m3 λx o e=>?_
  rcases x2 x e.1 with J|J;exact⟨J,e.2⟩;omega;rcases y2 x e.1 with J|J;rcases x2 x J with J|J;exact⟨J,e.2⟩;omega;omega
 have ea:a.toL=(g.k.split T.toL i).1:=S1.l1;have eb:O.toL=(g.k.split (g.k.split T.toL i).2 (j-i)).2:=by rw[S2.r1,S1.r1]
 have dT:FN g a.toL:=by rw[ea];exact b9.1
 have e3:FN g O.toL:=by rw[eb];exact(cc (g.k.split T.toL i).2 (j-i) b9.2).2
 rw [<-ea,<-eb] at cu hK;have e6:=g.eb_le;have ay:∀ (w:e_) (r:V_) (y:α),g.R C w r y->∀ u ∈ r,u.oneCell'=true:=λ_ _ _ Z=>g.rone Z;have e7:∀ r:V_,r.length=g.E->(g.toAvK.enc r).cells=r.toArray->Instr.fill (λi=>some (i * g.E,g.E)) ((Array.range (1 * g.E)).map (g.zE.toArray[· % g.zE.toArray.size]!)) [(0,g.toAvK.enc r)]=some r.toArray:=λr hr hc=>Dj g.zlen g.Epos hc hr;refine AV (λvs W'=>∃ (Q:Tr α) (av:d_) (A4:ArS α) (F4:f_),vs=[zI Q.root,av]/\(∀ x,F x->F4 x)/\(∀ x,F4 x->F x\/W.heap.size<=x)/\Ex g F4 C W' b T.root A4/\AK (Fb F b) W W'/\Tr.Ac g.k.μ A4.f Q/\Tr.Ac g.k.μ A4.f O/\(Q.idx++O.idx).Nodup/\
  AG W.heap.size g.te g.E (g.R C) W' av a.toL.getLast?.toList/\(∀ x,av.ownBlock=some x->¬ F4 x)/\Q.toL=a.toL.dropLast/\A4.ps.length<=A.ps.length+2) ?_ ?_
 rotate_left;rw[BH];refine AT (λe=>?_) λe=>?_;have el:a=.nil:=by
  cases a with
  |nil=>rfl
  |node x q z y=>simp only[Tr.root] at e;omega
 subst el;exact⟨.nil,_,A3,F3,rfl,dk,ba,h3,dr,trivial,dj,an,AG.nil,(λ_ o=>nomatch o),rfl,E⟩;have e8:a≠.nil:=λJ=>by subst J;exact e rfl
 apply AA (V0 a e8 h3 E er n1 dT);rintro _ fv ⟨Q,k,m,A4,rfl,E4,e4⟩;refine Bv ?_;have l4:=E4.len;have b0:∀q,q∈Q.idx\/q=k->q∈a.idx:=λq I=>E4.idx.mem_iff.1 (by rcases I with I|rfl<;>simp[*]);apply AA (ca E4.FZ E E4.WZ);rintro _ et ⟨r,rfl,hr,F5,u1,u2,h5,m5⟩;have a8:=g.rlen hr;have s4:=E4.U'.size;have s5:=m5.size;have aa:=ArS.XT E4.WZ;have bb:Tr.Ac g.k.μ (A4.free k).f Q:=by rw[aa];exact E4.holds.out g.k.μ _ (E4.KV n1).2
 have bk:Tr.Ac g.k.μ (A4.free k).f O:=by
  rw[aa];refine(dj.frame g.k.μ λq I=>E4.Ap q λe=>(r8.1 an).2.2 q e q I rfl).out g.k.μ _ λe=>?_;exact(r8.1 an).2.2 k (b0 k (.inr rfl)) k e rfl
 have bl:AK (Fb F b) W et:=by
  have e9:∀x,x<W.heap.size->Fb F3 b x->Fb F b x:=λx o e=>by
   rcases ba x e.1 with J|J;exact⟨J,e.2⟩;omega
  exact(dr.next E4.U' e9).next m5 e9
 refine FL (R:=g.R C) g.elE (AG.nil (B:=W.heap.size)) bl.size (cs:=r) (x:=m.x) (e7 r a8 (g.rcell hr)) a8 hr ay (λw1 w2 r y hw hm Z=>g.Bw Z hm λz hz hC e=>?_) (by simp[gC];omega) (by simp[maxLen]) λav eu ho ec hn=>?_;rcases e with e|e;cases e;have:=Y z hC;have:=bl.size;omega;have ew:Ex g F5 C eu b T.root (A4.free k):=h5.U' ec λx o e=>nomatch e
 refine⟨Q,av,A4.free k,F5,rfl,λx o=>u1 x (dk x o),λx o=>?_,ew,bl.next ec (λx o e=>nomatch e),bb,bk,?_,?_,λx o hF=>?_,?_,?_⟩;rcases u2 x o with e|e;exact ba x e;exact .inr E;refine r8.2 ⟨(E4.KV n1).1,o2,λq I q' a7 e=>?_⟩;exact(r8.1 an).2.2 q (b0 q (.inl I)) q' a7 e;rw[e4];simpa using ho;rcases hn x o with e|e;cases e;have:=h5.lt x (.inl hF);omega;rw[e4];simp;simp[ArS.free,q7];omega;rintro _ W5 ⟨Q,av,A4,F4,rfl,f1,f2,h4,m4,ed,ey,ak,ax,b6,ta,l4⟩ _;simp only[Iu];have ez:BC (λx=>S x/\x<W.heap.size) g.E (g.R C) W v L:=hv.JR g.Epos;have eA:BC (λx=>S x/\x<W.heap.size) g.E (g.R C) W5 v L:=BC.U' ez m4 (λx _ o e=>hS x o.1 e.1) g.Epos λr y Z=>g.Bw Z m4 λz _ hz e=>h.MP z e.1 hz;have fx:a.toL.getLast?.toList.length<=1:=by cases a.toL.getLast?<;>simp
 have e1:(a.toL.getLast?.toList.length+L.length) * g.eb<=(a.toL.getLast?.toList.length+L.length) * 512:=ym _ e6;obtain ⟨ee,w6,r6,bp,eB,eC⟩:=AG.append (P:=prog) (ty:=g.ts) g.elE ax eA (λr y Z=>g.rone Z) E m4.size L_ (λw' eI r y Z=>g.Bw Z (AK.BQ eI) λz hz hC e=>by
  have:=(AG.Az ax z e).1;have:=Y z hC;omega)
 apply AZ r6;have m6:=AK.BQ eB;have h6:Ex g F4 C w6 b T.root A4:=h4.U' m6 λx o e=>by
  rcases o with o|o;exact b6 x e o;have:=(AG.Az ax x e).1;have:=Y x o;omega
 have bs:AK (Fb F b) W w6:=m4.next m6 λx o e=>by have:=(AG.Az ax x e).1;omega
 have U:∀x,ee.ownBlock=some x->¬F4 x:=λx o hF=>by
  rcases eC x o with e|e;exact b6 x e hF;have:=h4.lt x (.inl hF);omega
 have fo:(a.toL.getLast?.toList++L).length<=L.length+1:=by rw[Ad];omega
 refine AV (λvs W'=>∃ (X:Tr α) (a1:d_) (A5:ArS α) (F5:f_),vs=[zI X.root,a1]/\(∀ x,F x->F5 x)/\(∀ x,F5 x->F x\/W.heap.size<=x)/\Ex g F5 C W' b T.root A5/\AK (Fb F b) W W'/\Tr.Ac g.k.μ A5.f Q/\Tr.Ac g.k.μ A5.f X/\(Q.idx++X.idx).Nodup/\
  AG W.heap.size g.te g.E (g.R C) W' a1 (a.toL.getLast?.toList++L++O.toL.head?.toList)/\(∀ x,a1.ownBlock=some x->¬ F5 x)/\X.toL=O.toL.tail/\A5.ps.length<=A.ps.length+2) ?_ ?_
 rotate_left;rw[BH];obtain⟨_,ga,c4⟩:=r8.1 ak;refine AT (λe=>?_) λe=>?_;have el:O=.nil:=by
  cases O with
  |nil=>rfl
  |node x q z y=>simp only[Tr.root] at e;omega
 subst el;exact⟨.nil,_,A4,F4,rfl,f1,f2,h6,bs,ed,trivial,ak,by simpa[Tr.toL] using bp,U,rfl,l4⟩;have ef:O≠.nil:=λJ=>by subst J;exact e rfl
 apply AA (cA O ef h6 E ey o2 e3);rintro _ gb ⟨X,k,m,A5,rfl,E5,e5⟩;refine Bv ?_;have l5:=E5.len;have b7:∀q,q∈X.idx\/q=k->q∈O.idx:=λq I=>E5.idx.mem_iff.1 (by rcases I with I|rfl<;>simp[*]);apply AA (ca E5.FZ E E5.WZ);rintro _ eL ⟨r,rfl,hr,F5,u1,u2,eh,c6⟩;have a8:=g.rlen hr;have s6:=E5.U'.size;have s7:=c6.size;have gd:=bs.size;have aa:=ArS.XT E5.WZ;have V:=AG.H8 (g:=g) (AG.H8 (g:=g) bp h6 E5.U' U) E5.FZ c6 U;have bb:Tr.Ac g.k.μ (A5.free k).f Q:=by
  rw[aa];refine(ed.frame g.k.μ λq I=>E5.Ap q λe=>c4 q I q e rfl).out g.k.μ _ λe=>?_;exact c4 k e k (b7 k (.inr rfl)) rfl
 have bk:Tr.Ac g.k.μ (A5.free k).f X:=by rw[aa];exact E5.holds.out g.k.μ _ (E5.KV o2).2
 have c7:AK (Fb F b) W eL:=by
  have ei:∀x,x<W.heap.size->Fb F4 b x->Fb F b x:=λx o e=>by
   rcases f2 x e.1 with J|J;exact⟨J,e.2⟩;omega
  exact(bs.next E5.U' ei).next c6 ei
 have b8:∀x,ee.ownBlock=some x->¬F5 x:=λx o hF=>by
  rcases u2 x hF with e|e;exact U x o e;have:=(AG.Az bp x o).2;omega
 have e2:((a.toL.getLast?.toList++L).length+1)*g.eb<=((a.toL.getLast?.toList++L).length+1)*512:=ym _ e6;refine FL (R:=g.R C) g.elE V c7.size (cs:=r) (x:=m.x) (e7 r a8 (g.rcell hr)) a8 hr ay (λw1 w2 r y hw hm Z=>g.Bw Z hm λz hz hC e=>?_) E L_ λa1 eN ho ej hn=>?_;rcases e with e|e;have:=(AG.Az V z e).1;have:=Y z hC;omega;have:=Y z hC;have:=c7.size;omega;have eR:Ex g F5 C eN b T.root (A5.free k):=eh.U' ej λx o e=>by
  rcases o with o|o;exact b8 x e o;have:=(AG.Az V x e).1;have:=Y x o;omega
 refine⟨X,a1,A5.free k,F5,rfl,λx o=>u1 x (f1 x o),λx o=>?_,eR,c7.next ej (λx o e=>by have:=(AG.Az V x e).1;omega),bb,bk,?_,?_,λx o hF=>?_,?_,?_⟩;rcases u2 x o with e|e;exact f2 x e;exact .inr E;refine r8.2 ⟨(r8.1 ak).1,(E5.KV o2).1,λq I q' a7 e=>?_⟩;exact c4 q I q' (b7 q' (.inl a7)) e;rw[e5];simpa using ho;rcases hn x o with e|e;exact b8 x e hF;have:=eh.lt x (.inl hF);omega;rw[e5];rfl;simp only[ArS.free,q7];omega;rintro _ W7 ⟨X,a1,A5,F5,rfl,p1,p2,h7,m7,eV,eX,ek,en,gf,tb,l7⟩ _;simp only[JS,wL];have gg:O.toL.head?.toList.length<=1:=by cases O.toL.head?<;>simp
 refine AA (eo h7 en.sl (by rw[Ad];omega) cu) ?_;rintro mv w8 ⟨c8,g8⟩;have s7:=m7.size;refine hK Q X mv w8 A5 F5 ⟨p1,p2,h7.U_ g8,m7.trans (g8.mono E'),eV,eX,ek,AG.Bk c8 λx o=>by have:=(AG.Az c8 x o).1;omega,λx o hF=>?_,ta,tb,l7⟩;have:=(AG.Az c8 x o).1;have:=h7.lt x (.inl hF);omega
end
section
variable {α:Type}
structure ZY (g:AvT α) (F C:f_) (W:e_) (b:Nat) (rt:Int) (A:ArS α) (al bl M:List α) (b':Tr α) (mv:d_) (k:Nat) (t:Tr α) (W':e_) (A':ArS α) (F':f_):Prop where
 k1:∀x,F x->F' x
 k2:∀x,F' x->F x\/W.heap.size<=x
 FZ:Ex g F' C W' b rt A'
 U':AK (Fb F b) W W'
 ht:Tr.Ac g.k.μ A'.f t
 hb:Tr.Ac g.k.μ A'.f b'
 KV:(t.idx++b'.idx).Nodup
 row:AG W.heap.size g.te g.E (g.R C) W' mv M
 nF:∀x,mv.ownBlock=some x->¬F' x
 tt:t.toL=al++M.take k
 tb:b'.toL=bl
 len:A'.ps.length<=A.ps.length+2+k
def uU.put{g:AvT α}{b:Nat}{i:Int}{A:ArS α}{j o M:List α}{B I:Tr α}{J:d_}{O:ArS α}{F':f_}(h:uU g F C W b i A j o M B I J W' O F'):ZY g F C W b i A j o M I J 0 B W' O F':=
 ⟨h.k1,h.k2,h.FZ,h.U',h.ha,h.hb,h.KV,h.row,h.nF,by rw[h.ta];simp,h.tb,by have:=h.len;omega⟩
def ZY.done{g:AvT α}{b:Nat}{A:ArS α}{Z bl M:List α}{J t:Tr α}{j:ArS α}{F':f_}{L:List α}(h:ZY g F C W b most A Z bl M J v M.length t W' j F')(hN:A.ps.length+M.length<=109951162500)(hL:Z++M++bl=L)(O:FN g L)(hM:M.length+2<=N)(hF:F b) : AF prog g.fconcat [g_ b,zI t.root,zI J.root] (λQ U=>Ar (g_ b) λV=>BZ 4 V λX=>Cu X Q (λY=>(λ(_:d_) w'=>∃B j,B.toL=L/\ji g F C W w' b B.root j/\Tr.Ac g.k.μ j.f B/\Tr.H7 B/\j.ps.length<=A.ps.length+N) (.tuple #[]) Y) U) W':=by
 have hl:=h.len;have hT:=h.tt;rw[Nr] at hT;have eL:t.toL++J.toL=L:=by rw[hT,h.tb,hL]
 refine AA (X6 h.FZ E h.ht h.hb h.KV (by rw[eL];exact O)) ?_;rintro _ w2 ⟨t2,A2,rfl,i⟩;obtain⟨c,pl,fr,I⟩:=i.FZ;apply AJ;rw[AB,AH];refine I.box.st (q:=4) (B_:4<5) rfl rfl λw3 B3 m3=>?_;refine⟨t2,A2,by rw[i.toL];exact eL,⟨F',h.k1,h.k2,⟨c,pl,fr,B3,?_,I.fb⟩,?_⟩,i.holds,i.idx.nodup_iff.2 h.KV,by rw[i.len];omega⟩;exact I.ar.U' m3 λx o e=>by
  rcases o with o|o;exact o.2 e;exact I.fb.2 (e▸o)
 exact((Ki.vS h.k1 h.k2 h.U' i).mono λx _ e=>e.1).trans (m3.mono λx _ e=>by rw[e];exact hF)
def ZY.step{g:AvT α}{b:Nat}{A:ArS α}{I bl M:List α}{O t:Tr α}{k:Nat}{W' Q:e_}{i:ArS α}{F' F1:f_}(h:ZY g F C W b most A I bl M O v k t W' i F')(hk:k<M.length)(hN:A.ps.length+M.length<=109951162500) (q1:∀x,F' x->F1 x)(q2:∀x,F1 x->F' x\/W'.heap.size<=x)(h1:Ex g F1 C Q b most (i.take ⟨M[k],0,0,0,0,0⟩))(m1:AK (Fb F' b) W' Q)(U:FN g (I++M)) : AF prog g.fjoin [g_ b,zI t.root,zI i.num,zI (-1)] (λv2 W2=>∃t2 A2,v2=zI t2.root/\AK (Fb F1 b) Q W2/\ZY g F C W b most A I bl M O v (k+1) t2 W2 A2 F1) Q:=by
 have hl:=h.len;obtain⟨B,V,tok⟩:=ArS.Xf (⟨M[k],0,0,0,0,0⟩:Nd α) h.FZ.ok;obtain⟨u1,u2,u3⟩:=r8.1 h.KV;have nt:i.num∉t.idx:=λe=>by
  obtain⟨m,hm⟩:=h.ht.LF g.k.μ e;rw[V] at hm;cases hm
 have nb:i.num∉O.idx:=λe=>by
  obtain⟨m,hm⟩:=h.hb.LF g.k.μ e;rw[V] at hm;cases hm
 have a1:Tr.Ac g.k.μ (i.take ⟨M[k],0,0,0,0,0⟩).f t:=by rw[B];exact h.ht.out g.k.μ _ nt
 have a6:Tr.Ac g.k.μ (i.take ⟨M[k],0,0,0,0,0⟩).f O:=by rw[B];exact h.hb.out g.k.μ _ nb
 have a7:(i.take ⟨M[k],0,0,0,0,0⟩).f i.num=some ⟨M[k],0,0,0,0,0⟩:=by rw[B,Tr.NZ]
 have X:Tr.H7 (.node t i.num M[k] .nil):=Tr.BP.2 ⟨u1,yr,nt,(λe=>nomatch e),λq _ e=>nomatch e⟩;have av:=Vc i (⟨M[k],0,0,0,0,0⟩:Nd α);have a8:M.take (k+1)=M.take k++[M[k]]:=by rw[Lc];simp[hk]
 have eL:(Tr.node t i.num M[k] .nil).toL=I++M.take (k+1):=by rw[a8];simp[Tr.toL,h.tt,Mp]
 have aa:FN g (Tr.node t i.num M[k] .nil).toL:=by
  rw[eL];have e:I++M=(I++M.take (k+1))++M.drop (k+1):=by rw[Mp,QC]
  rw[e] at U;exact U.KM.1
 apply AA (Hk (l:=t) (r:=.nil) (t.Er+(Tr.nil:Tr α).Er) (HK _) h1 E a7 a1 trivial X aa);rintro _ W2 ⟨t2,A2,rfl,j⟩;have s1:=h.U'.size;have s2:=m1.size;have w1:AK (Fb F b) W Q:=h.U'.next m1 λx o e=>by
  rcases h.k2 x e.1 with e'|e';exact⟨e',e.2⟩;omega
 have Y:∀q∈O.idx,q∉(Tr.node t i.num M[k] .nil).idx:=λq J e=>by
  simp[Tr.idx,DN,I3,wA,xx] at e;rcases e with e|e;exact u3 q e q J rfl;exact nb (e▸J)
 have ak:∀x,x<W.heap.size->F1 x->F x:=λx o e=>by
  rcases q2 x e with e|e;rcases h.k2 x e with e|e;exact e;omega;omega
 have Z:∀x,v.ownBlock=some x->¬F1 x:=λx o e=>by
  rcases q2 x e with e|e;exact h.nF x o e;have:=(AG.Az h.row x o).2;omega
 refine⟨t2,A2,rfl,j.U',λx o=>q1 x (h.k1 x o),λx o=>?_,j.FZ,w1.next j.U' λx o e=>⟨ak x o e.1,e.2⟩,j.holds,a6.frame g.k.μ λq J=>j.Ap q (Y q J),?_,AG.H8 (AG.H8 h.row h.FZ m1 h.nF) h1 j.U' Z,Z,j.toL.trans eL,h.tb,by rw[j.len];omega⟩;rcases q2 x o with e|e;exact h.k2 x e;exact .inr E;exact r8.2 ⟨j.idx.nodup_iff.2 X,u2,λq J q' an e=>Y q' an (e▸j.idx.mem_iff.1 J)⟩
variable {g:AvN α}
def eZ(l:List α)(p:Nat)(h:FN g.toAvT l):FN g.toAvT (g.k.split l p).1/\FN g.toAvT (g.k.split l p).2:=h.split p
def vF(g:AvK)(v0:d_)(K:Cont):d_->d_->d_->e_->Prop:=λa0 b0 t76 w8=>E3 t76 λt77=>G8 [a0,(zI 0)] (λi j w9=>∀_:Env,Hm .i64 (Bm i 1) t77 λO=>Al O (Lb g.E t76 (Bm i 1) λQ=>DT g.E Q (λU V=>Cl g.te g.zE (λI X=>Bu g.E I U (λo=>DK [8,9] (k_ [0,0,0,4,12,28,0,64,252,511,1023]) o.drew (λM St=>Ar v0 λY=>BZ 3 Y λZ=>Ea (St 5) Z λa1=>Hz (St 6) g.E I λa6=>DW [(0,g.E),(g.E,1),(g.E+1,1),(g.E+2,1),(g.E+3,1),(g.E+4,1)] g.zN [(0,a6)] λa7=>AF prog g.aTake [a1,a7] (λa8 B=>AK (M 8) o.drew B/\ AF prog g.fjoin [v0,(Bm i 0),a8,(zI (-1))] (λaa J=>AK (M 9) B J/\ DX .i64 (Bm i 1) (zI 1) λak=>j [aa,ak] J) B) o.drew)) X) V) w9) (AF prog g.fconcat [v0,(Bm i 0),b0] (λal an=>Ar v0 λav=>BZ 4 av λax=>Cu ax al (λay=>K (.tuple #[]) ay) an) w9)) w8
def Uk(g:AvK)(v0 v1 v2 v3:d_)(K:Cont)(w:e_):Vx g v0 v1 v2 v3 K w=tQ g (vF g v0 K) v0 v1 v2 v3 w:=rfl
def jf:Xk g.toAvT:=by
 intro F C S W b i j A T v L h hs hh hu hv hS a1 hj a6 I a7;apply g.okN.replace;rw[Uk];apply V4 pZ sO nh eZ h hs hh hu hv hS a1 hj a6 a7;intro a' b' mv W8 A8 F8 P;unfold vF;have U:=Jm g.k ((g.k.split T.toL i).1.getLast?.toList++L++(g.k.split (g.k.split T.toL i).2 (j-i)).2.head?.toList);have b8:(g.k.split T.toL i).1.getLast?.toList.length<=1:=by cases(g.k.split T.toL i).1.getLast?<;>simp
 have b9:(g.k.split (g.k.split T.toL i).2 (j-i)).2.head?.toList.length<=1:=by cases(g.k.split (g.k.split T.toL i).2 (j-i)).2.head?<;>simp
 rw[Ad,Ad] at U;have V:=P.put;have X:(g.k.split T.toL i).1.dropLast++g.k.melded ((g.k.split T.toL i).1.getLast?.toList++L++(g.k.split (g.k.split T.toL i).2 (j-i)).2.head?.toList)++(g.k.split (g.k.split T.toL i).2 (j-i)).2.tail=g.k.Cw T.toL i j L:=rfl;generalize (g.k.split T.toL i).1.dropLast=al at V X;generalize (g.k.split (g.k.split T.toL i).2 (j-i)).2.tail=bl at V X;generalize g.k.melded ((g.k.split T.toL i).1.getLast?.toList++L++(g.k.split (g.k.split T.toL i).2 (j-i)).2.head?.toList)=M at V X U;have a8:FN g.toAvT (al++M):=by rw[<-X] at I;exact I.KM.1
 obtain ⟨ma,mc,aa,_⟩:=V.row.AO;subst aa;rw [AP];apply AX (λvs W'=>∃ (k:Nat) (t:Tr α) (A':ArS α) (F':f_),k<=M.length/\vs=[zI t.root,zI k]/\ZY g.toAvT F C W b T.root A al bl M b' (.slice ma M.length mc) k t W' A' F') (λvs _=>M.length - Di vs 1) ⟨0,a',A8,F8,Hw _,rfl,V⟩;rintro vs W9 ⟨k,t,A9,F9,hk,rfl,Q⟩ _;simp only [Iu];refine HP (λba=>?_) λbb=>?_;have o:k < M.length:=E;obtain ⟨q,r,rfl,hq,hr,hc,ak⟩:=Q.row.sl.get o;have an:=g.Rc.1 ak;subst an;have B:=DC (g:=g) M[k];refine AW o (Ab B (λj u hu=>by rw [Addr.add_add];exact hc j u hu) ?_);refine Bx.new B g.zlen (FF (g:=g) M[k]) λav J b7 ax Y=>?_;have gd:AI J J.drew:=AK.drew _ _;have g9:=ax.trans gd;obtain ⟨c,pl,fr,hR⟩:=id (Q.FZ.U_ g9);have bk:=Q.len;have Z:=Y.lt (by rw [B];exact g.Epos);have sd:=gd.size;apply Ag (λ_ y=>Fb F9 b y\/J.drew.heap.size<=y);apply AJ;rw [AB,AH];refine AU ⟨hR.box.cells 3 _ rfl,λ_ _ e=>by
  rcases e with e | e;exact e.2 rfl;have:=hR.box.lt (P9 _);simp only at e;omega⟩ ?_
 refine DF B (λj v hv=>⟨by rw [AH];exact (Y.U_ gd).cells j v hv,λ_ _ e=>by
  rw [AH] at e;rcases e with e | e;have:=Q.FZ.lt av (.inl e.1);omega;simp only at e;omega⟩) ?_
 refine⟨_,ot B M[k],?_⟩;apply AA (Py hR (n:=⟨M[k],0,0,0,0,0⟩) (g.Rc.2 rfl) E);rintro _ bp ⟨rfl,F1,q1,q2,ay,O⟩;have bs:=O.size;refine⟨O.mono λx _ e=>.inl e,?_⟩;apply AA (ZY.step Q o E q1 (λx hx=>(q2 x hx).imp E_ E) ay ((g9.mono E').trans O) a8);rintro _ c4 ⟨t2,A2,rfl,b0,b6⟩;refine⟨b0.mono λx _ e=>?_,?_⟩;rcases q2 x e.1 with e'|e';exact .inl ⟨e',e.2⟩;exact .inr e';rw[AR,AM E];exact⟨⟨k+1,t2,A2,F1,o,rfl,b6⟩,by rw[BE,BE];omega⟩;have:k=M.length:=E;subst this;apply AA (ZY.done Q (N:=L.length+4) E X I E h.fb);intro c6 c7 hh;exact hh
end
section
structure oK (g:AvK):Prop where
 split:∀{v0 v1 v2 K w},UM g v0 v1 v2 K w->AF prog g.fsplit [v0,v1,v2] K w
 pick:∀{v0 v1 K w},jM g v0 v1 K w->AF prog g.fpick [v0,v1] K w
 melded:∀{v0 v1 K w},VM g v0 v1 K w->AF prog g.fmelded [v0,v1] K w
 replace:∀{v0 v1 v2 v3 K w},TJ g v0 v1 v2 v3 K w->AF prog g.fReplace [v0,v1,v2,v3] K w
 Au:∀{v0 v1 v2 v3 v4 K w},X5 g v0 v1 v2 v3 v4 K w->AF prog g.fover [v0,v1,v2,v3,v4] K w
structure Av1 (α:Type) extends AvT α where
 one1:one=true
 ok1:oK toAvK
 μ1:∀x,k.μ x=(1,0)
 meld0:∀x y,k.meld x y=none
 meldc:∀{C w r s x y},R C w r x->R C w s y->Be prog En vd [toAvK.enc r,toAvK.enc s] (λv w'=>AI w w'/\∃u,v=.tuple #[u,.bool false]) w
variable {α:Type}{g:Av1 α}
def E1:g.E=1:=g.E1 g.one1
def gO{r:V_}{x:α}(h:g.R C w r x):r=[g.toAvK.enc r]:=by
 have hl:=g.rlen h;rw[E1] at hl;unfold AvK.enc;rw[g.one1];match r,hl with
 |[a],_=>rfl
def se:XZ g.toAvT:=by
 intro F C W b i Z A n h I hi;apply g.ok1.pick;unfold jM;apply AA (XP h hi);rintro _ X ⟨r,rfl,hr,j⟩;apply AZ (g.field0 r (Bs n) X (g.rlen hr) (g.rone hr) rfl);obtain⟨c,pl,fr,o⟩:=h.U_ j;apply AJ;rw[AB,AH];apply AD (o.box.cells 3 _ rfl);apply AA (QT o hi I);rintro _ w7 ⟨Y,J,O,Q,B⟩;have s2:=j.size;exact⟨r,rfl,g.Bw hr B λz _ U e=>h.MP z e.1 U,Y,J,λx V=>(O x V).imp E_ E,Q,(j.mono E').trans B⟩
def rR{a:d_}(ha:a.cells=#[a])(x:α):Instr.fill (λi=>[(0,g.E),(g.E,1),(g.E+1,1),(g.E+2,1),(g.E+3,1),(g.E+4,1)][i]?) g.toAvK.zN.toArray [(0,a)]=some ([a]++Bs (⟨x,0,0,0,0,0⟩:Nd α)).toArray:=by
 rw[EK (l:=g.toAvK.zN) (vs:=[a]) (off:=0) (len:=g.E) rfl ha E1.symm (by rw[Kq];omega),HM,AvK.zN,KX (by rw[g.zlen,E1];rfl)];rfl
def kJ:Qh g.toAvT:=by
 intro F C S W b rt A v l h hv hl hb;apply g.ok1.melded;unfold VM;obtain⟨va,vc,rfl,hm⟩:=hv.AO;have an:=hv.JR g.Epos;have av:∀y,C y->y<W.heap.size:=λy o=>h.lt y (.inr o);rw[AP];refine AX (λvs W'=>∃(i:Nat) (out:d_),i<=l.length/\vs=[out,zI i]/\AG W.heap.size g.te g.E (g.R C) W' out (g.k.melded (l.take i))/\AI W W') (λvs _=>l.length-Di vs 1)
  ⟨0,_,Hw _,rfl,AG.nil,AK.refl _ _⟩ ?_
 rintro vs W1 ⟨i,out,hi,rfl,ho,U⟩ _;simp only[Iu];refine HP (λbb=>?_) λax=>?_;rotate_left;have:i=l.length:=E;subst this;rw[Nr] at ho;exact⟨ho,U⟩;have B:i<l.length:=E;obtain⟨p,r,rfl,hS,hr,hc,Q⟩:=an.get B;have X:l.take (i+1)=l.take i++[l[i]]:=by rw[Lc];simp[B]
 have j:g.k.melded (l.take (i+1))=g.k.DA (g.k.melded (l.take i)) l[i]:=by rw[X,Od]
 have a7:=Jm g.k (l.take i);rw[K8,u6 hi] at a7;generalize hx:l[i]=x at Q j;generalize g.k.melded (l.take i)=L at ho j a7;have ay:g.k.DA L x=L++[x]:=by
  unfold Kd.DA;rw[g.μ1,Bp B_];cases L.getLast? with
  |none=>rfl
  |some y=>simp only[g.meld0]
 have er:=gO Q;have I:=g.Bw Q U F_;have J:=g.rcell Q;generalize g.toAvK.enc r=a at er J;subst er;have b0:=U.cell (by have:=hc 0 a rfl;rwa [ua] at this) E_;refine AW B (AD b0 ?_);obtain⟨c,pl,fr,hT⟩:=id h;apply AJ;rw[AB,AH,AB,AH];apply AD ((hT.U' U C0).box.cells 0 _ rfl);have b6:∀{w},AI W1 w->Be prog En g.vm [a] (λv w'=>v=.tuple #[zI 1,zI 0]/\AI w w') w:=λ{w} gw=>by
  have:=g.meas (C:=C) (w:=w) (x:=x) (g.Bw I gw F_);rw[g.μ1,show g.toAvK.enc [a]=a by unfold AvK.enc;rw[g.one1];rfl] at this;exact this
 refine .inl (BI (b6 (AK.refl _ _)) ?_);rintro _ w4 ⟨rfl,g4⟩;refine Bv ?_;rw[Aj];refine AE M' λ_=>?_;have O:=U.trans g4;have kR:∀{w w':e_} {r:V_} {y:α},AI W w->AI w w'->g.R C w r y->g.R C w' r y:=λ_ gw o=>g.Bw o gw F_;have Y:=AG.U' ho g4 C0 λr y _ o=>kR U g4 o;have bk:=hl;refine AV (λ_ W'=>AI w4 W') ?_ ?_;rintro _ W6 g6 _;have Z:=AG.U' Y g6 C0 λr y _ o=>kR O g6 o;have a1:=O.trans g6;have a8:=Dj (v:=a) (vs:=[a]) g.zlen g.Epos J (by rw[E1];rfl);refine FL g.elE Z a1.size (cs:=[a]) (x:=x) a8 (by rw[E1];rfl) (kR U (g4.trans g6) I) (λ_ _ _ o=>g.rone o) (λw1 w2 r y hw hm o=>g.Bw o hm λz hz hC e=>?_) ?_ L_ λv' w7 b7 m7 bl=>?_;have:=av z hC;rcases e with e|e;have:=(AG.Az Z z e).1;omega;have:=a1.size;omega;have:(L.length+1)*g.eb<=(L.length+1)*512:=ym _ g.eb_le;omega;rw[AR,AM E];refine⟨⟨i+1,v',B,rfl,by rw[j,ay];exact b7,a1.next m7 λy o e=>by have:=(AG.Az Z y e).1;omega⟩,by rw[BE,BE];omega⟩;obtain⟨oa,oc,rfl,bp,bs,b8,b9⟩:=Y.AO;rw[AP,A6,wrap64 E E,DR];refine AE (λax=>?_) λc4=>AK.refl _ _;have aa:0<L.length:=E;have ak:L.length-1<L.length:=E;cases oa with
 |none=>have:=b9 rfl;rw[this] at aa;simp at aa
 |some q=>
  obtain⟨gb,rfl,c6,c7,c8⟩:=b8 q rfl;have en:((L.length:Int)-1)=((L.length-1:Nat):Int):=E;rw[en];have gd:AI w4 w4.drew:=AK.drew _ _;have hd:=(AG.U' (R':=g.R C) Y gd C0 λr y _ o=>kR O gd o).sl;obtain⟨q',r',e',c9,ca,ba,V⟩:=hd.get ak;cases e';have al:=gO V;have a6:=λ{w:e_} (gw:AI w4.drew w)=>g.meldc (C:=C) (w:=w) (kR (O.trans gd) gw V) (kR U ((g4.trans gd).trans gw) I);rw[show g.toAvK.enc [a]=a by unfold AvK.enc;rw[g.one1];rfl] at a6;generalize g.toAvK.enc r'=a' at al a6;subst al;apply Ag (λ_ _=>False);apply AJ;rw[AB,AH,AB,AH];apply AU ⟨(hT.U' (O.trans gd) C0).box.cells 2 _ rfl,C0⟩;apply AW ak;refine AU ⟨by have:=ba 0 a' rfl;rwa [ua] at this,C0⟩ ?_;apply BI (a6 (AK.refl _ _));rintro _ w8 ⟨g8,u,rfl⟩;refine⟨g8.mono E',Bv ?_⟩;exact AS (gd.trans g8)
end
section
variable {α:Type}{g:Av1 α}
def pP:Tp g.toAvT:=by
 intro C b rt t;induction t with
 |nil=>
  intro F W A p h hs _ _ _ _;apply g.ok1.split;unfold UM;simp only[Tr.root];rw[Aj];refine AE (λ_=>?_) λe=>(e rfl).elim;exact⟨.nil,.nil,A,rfl,⟨⟨F,M_,J_,h,AK.refl _ _⟩,rfl,rfl,trivial,trivial,yr,(λq I=>nomatch I),I_,aBT _⟩⟩
 |node l i x r ay b0=>
  intro F W A p h hs hh hu hb hp;obtain⟨hl,hr,hi⟩:=id hh;obtain⟨u1,u2,u3,u4,u5⟩:=Tr.BP.1 hu;have O:=g.k.RS l.toL r.toL x p;have b6:=hb.1;have b7:=hb.2;simp[Tr.toL,Tr.DI,Tr.CF] at b6;simp[Tr.toL,Tr.Hf,Tr.EB] at b7;have nF:∀{z:Nat},W.heap.size<=z->∀x,F x\/C x->x≠z:=λhz x Z e=>by have:=h.lt x Z;omega
  apply g.ok1.split;unfold UM;simp only[Tr.root];rw[Aj];refine AE E λ_=>?_;refine E8 h hi λrc bx w3 g3 aa B ak=>?_;have Q:=g.rlen ak;refine Iw (B.cells (g.E+0) _ (by rw[Am Q];rfl)) ?_;apply AA (Ci (h.U_ g3) hl);rintro _ w5 ⟨rfl,g5⟩;refine OI ?_;have a1:AI w5 w5.drew:=AK.drew _ _;have al:=(g3.trans g5).trans a1;obtain⟨c,pl,fr,hT⟩:=id h;have B5:=(B.U_ g5).U_ a1;apply Ag (λ_ _=>False);apply AJ;rw[AB,AH,AB,AH];apply AU ⟨(hT.U' al C0).box.cells 0 _ rfl,C0⟩;rw[AB,AH];refine MN (g:=g.toAvT) (r:=rc) Q (λj v hv=>⟨B5.cells j v (by rw[PF (Bq.1 hv).1];exact hv),C0⟩) ?_;apply BI (g.meas (C:=C) (x:=x) (g.Bw ak ((g5.trans a1)) F_));rintro _ w6 ⟨rfl,g6⟩;refine⟨g6.mono E',?_⟩;refine Bv ?_;have Y:=al.trans g6;have bb:=Y.size;have h6:=h.U_ Y;have B6:=B5.U_ g6;rw[GI];refine AE (λbk=>?_) λba=>?_;have an:p<=Tr.sz g.k.μ l.toL:=E;rw[Cx an] at O;refine Iw (B6.cells (g.E+0) _ (by rw[Am Q];rfl)) ?_;apply AA (ay h6 hs hl u1 hb.KM.1 hp);rintro _ w8 ⟨a,c1,A1,rfl,o⟩;refine Bv ?_;obtain⟨F1,k1,k2,h8,m8⟩:=o.rN;refine Iw ((B6.U' m8 λe=>nF aa bx (.inl e.1) rfl).cells (g.E+1) _ (by rw[Am Q];rfl)) ?_;obtain⟨e1,e2,e3,e4⟩:=LD o hi hr hu;have a6:FN g.toAvT (Tr.node c1 i x r).toL:=by
   obtain⟨q1,q2⟩:=G1 (g:=g.toAvT) l.toL p;constructor;simp only[Tr.toL,Tr.DI,Tr.CF,o.r1];omega;simp only[Tr.toL,Tr.Hf,Tr.EB,o.r1];omega
  have b8:=o.len;apply AA (Hk (c1.Er+r.Er) (HK _) h8 E e1 o.hr e2 e3 a6);rintro _ b9 ⟨t2,A2,rfl,J⟩;have Ix:=J.idx;have sm:∀q,q∈t2.idx↔q∈(Tr.node c1 i x r).idx:=λq=>J.idx.mem_iff;have s8:=m8.size;refine⟨a,t2,A2,rfl,⟨⟨F1,k1,λx Z=>(k2 x Z).imp E_ E,J.FZ,((Y.mono E').trans m8).next J.U' λx Z e=>?_⟩,?_,?_,o.hl.frame g.k.μ λq I=>J.Ap q (e4 q I),J.holds,?_,λq I=>?_,λq U V=>?_,by rw[J.len];omega⟩⟩;rcases k2 x e.1 with e'|e';exact⟨e',e.2⟩;omega;rw[o.l1];simp[Tr.toL,O];rw[J.toL];simp[Tr.toL,Tr.FH,o.r1,O];exact r8.2 ⟨(r8.1 o.KV).1,J.idx.nodup_iff.2 e3,λq I q' a7 e=>e4 q I (e▸(sm q').1 a7)⟩;rcases DN.1 I with I|I;rcases o.idx q (oJ _ I) with e|e;exact .inl n';exact .inr e;have:=(sm q).1 I;simp[Tr.idx,DN,I3] at this ⊢;rcases this with e|e|e;rcases o.idx q (py _ e) with e|e;exact .inl (.inl e);exact .inr e;exact .inl (.inr (.inl e));exact .inl (.inr (.inr e));simp only[Tr.idx,DN,I3,aAu] at U;have X:q∉(Tr.node c1 i x r).idx:=λe=>V (py _ ((sm q).2 e));refine(J.Ap q X).trans (o.Ap q U.1 λe=>?_);rcases DN.1 e with e|e;exact V (oJ _ e);exact X n';have a8:¬p<=Tr.sz g.k.μ l.toL:=E;rw[Bp a8] at O;apply Cy E;rw[DR];refine AE (λbl=>?_) λav=>?_;have ax:Tr.sz g.k.μ l.toL+(g.k.μ x).1<=p:=E;rw[Cx ax] at O;refine Iw (B6.cells (g.E+1) _ (by rw[Am Q];rfl)) ?_;refine Ir E E (Ir E E ?_);apply AA (b0 h6 hs hr u2 hb.KM.2.cons.1 (p:=p-Tr.sz g.k.μ l.toL-(g.k.μ x).1) E);rintro _ w8 ⟨a,c1,A1,rfl,o⟩;refine Bv ?_;obtain⟨F1,k1,k2,h8,m8⟩:=o.rN;refine Iw ((B6.U' m8 λe=>nF aa bx (.inl e.1) rfl).cells (g.E+0) _ (by rw[Am Q];rfl)) ?_;obtain⟨e1,e2,e3,e4⟩:=KG o hi hl hu;have a6:FN g.toAvT (Tr.node l i x a).toL:=by
   obtain⟨q1,q2⟩:=G1 (g:=g.toAvT) r.toL (p-Tr.sz g.k.μ l.toL-(g.k.μ x).1);constructor;simp only[Tr.toL,Tr.DI,Tr.CF,o.l1];omega;simp only[Tr.toL,Tr.Hf,Tr.EB,o.l1];omega
  have b8:=o.len;apply AA (Hk (l.Er+a.Er) (HK _) h8 E e1 e2 o.hl e3 a6);rintro _ b9 ⟨t2,A2,rfl,J⟩;have sm:∀q,q∈t2.idx↔q∈(Tr.node l i x a).idx:=λq=>J.idx.mem_iff;have s8:=m8.size;refine⟨t2,c1,A2,rfl,⟨⟨F1,k1,λx Z=>(k2 x Z).imp E_ E,J.FZ,((Y.mono E').trans m8).next J.U' λx Z e=>?_⟩,?_,?_,J.holds,o.hr.frame g.k.μ λq I=>J.Ap q (e4 q I),?_,λq I=>?_,λq U V=>?_,by rw[J.len];omega⟩⟩;rcases k2 x e.1 with e'|e';exact⟨e',e.2⟩;omega;rw[J.toL];simp[Tr.toL,Tr.FH,o.l1,O];rw[o.r1];simp[Tr.toL,O];exact r8.2 ⟨J.idx.nodup_iff.2 e3,(r8.1 o.KV).2.1,λq I q' a7 e=>e4 q' a7 (e▸(sm q).1 I)⟩;rcases DN.1 I with I|I;have:=(sm q).1 I;simp[Tr.idx,DN,I3] at this ⊢;rcases this with e|e|e;exact .inl (.inl e);exact .inl (.inr (.inl e));rcases o.idx q (oJ _ e) with e|e;exact .inl (.inr (.inr e));exact .inr e;rcases o.idx q (py _ I) with e|e;exact .inl n';exact .inr e;simp[Tr.idx,DN,I3,aAu] at U;have X:q∉(Tr.node l i x a).idx:=λe=>V (oJ _ ((sm q).2 e));refine(J.Ap q X).trans (o.Ap q U.2.2 λe=>?_);rcases DN.1 e with e|e;exact X n';exact V (py _ e);exfalso;have:=g.μ1 x;rw[this] at av;omega
def rQ(g:AvK)(v0:d_)(K:Cont):d_->d_->d_->e_->Prop:=λa0 b0 t76 w8=>E3 t76 λt77=>G8 [a0,(zI 0)] (λi j w9=>∀_:Env,Hm .i64 (Bm i 1) t77 λo=>Al o (Lb g.E t76 (Bm i 1) λB=>BV B (λI J=>Ar v0 λO=>BZ 3 O λQ=>BV Q (λU V=>DW [(0,g.E),(g.E,1),(g.E+1,1),(g.E+2,1),(g.E+3,1),(g.E+4,1)] g.zN [(0,I)] λX=>AF prog g.aTake [U,X] (λY Z=>AF prog g.fjoin [v0,(Bm i 0),Y,(zI (-1))] (λa1 a6=>DX .i64 (Bm i 1) (zI 1) λa7=>j [a1,a7] a6) Z) V) J) w9) (AF prog g.fconcat [v0,(Bm i 0),b0] (λa8 aa=>Ar v0 λak=>BZ 4 ak λal=>Cu al a8 (λan=>K (.tuple #[]) an) aa) w9)) w8
def UE(g:AvK)(v0 v1 v2 v3:d_)(K:Cont)(w:e_):TJ g v0 v1 v2 v3 K w=tQ g (rQ g v0 K) v0 v1 v2 v3 w:=rfl
def Yg:Xk g.toAvT:=by
 intro F C S W b i j A T v L h hs X hu hv hS Y hj Z I a1;apply g.ok1.replace;rw[UE];apply V4 pP se kJ (λl p h=>h.split p) h hs X hu hv hS Y hj Z a1;intro a' b' mv W8 A8 F8 P;unfold rQ;have O:=Jm g.k ((g.k.split T.toL i).1.getLast?.toList++L++(g.k.split (g.k.split T.toL i).2 (j-i)).2.head?.toList);have an:(g.k.split T.toL i).1.getLast?.toList.length<=1:=by cases(g.k.split T.toL i).1.getLast?<;>simp
 have av:(g.k.split (g.k.split T.toL i).2 (j-i)).2.head?.toList.length<=1:=by cases(g.k.split (g.k.split T.toL i).2 (j-i)).2.head?<;>simp
 rw[Ad,Ad] at O;have Q:=P.put;have U:(g.k.split T.toL i).1.dropLast++g.k.melded ((g.k.split T.toL i).1.getLast?.toList++L++(g.k.split (g.k.split T.toL i).2 (j-i)).2.head?.toList)++(g.k.split (g.k.split T.toL i).2 (j-i)).2.tail=g.k.Cw T.toL i j L:=rfl;generalize (g.k.split T.toL i).1.dropLast=al at Q U;generalize (g.k.split (g.k.split T.toL i).2 (j-i)).2.tail=bl at Q U;generalize g.k.melded ((g.k.split T.toL i).1.getLast?.toList++L++(g.k.split (g.k.split T.toL i).2 (j-i)).2.head?.toList)=M at Q U O;have a6:FN g.toAvT (al++M):=by rw[<-U] at I;exact I.KM.1
 obtain⟨ma,mc,a7,_⟩:=Q.row.AO;subst a7;rw[AP];apply AX (λvs W'=>∃(k:Nat) (t:Tr α) (A':ArS α) (F':f_),k<=M.length/\vs=[zI t.root,zI k]/\ZY g.toAvT F C W b T.root A al bl M b' (.slice ma M.length mc) k t W' A' F') (λvs _=>M.length-Di vs 1) ⟨0,a',A8,F8,Hw _,rfl,Q⟩;rintro vs W9 ⟨k,t,A9,F9,hk,rfl,V⟩ _;simp only[Iu];refine HP (λax=>?_) λay=>?_;have o:k<M.length:=E;obtain⟨q,r,rfl,hq,hr,hc,J⟩:=V.row.sl.get o;have er:=gO J;have B:=g.rcell J;generalize g.toAvK.enc r=a at er B;subst er;have b0:=V.len;refine AW o (AD (by have:=hc 0 a rfl;rwa [ua] at this) ?_);obtain⟨c,pl,fr,hR⟩:=id V.FZ;apply AJ;rw[AB,AH];apply AD (hR.box.cells 3 _ rfl);refine⟨_,rR B M[k],?_⟩;apply AA (Py hR (n:=⟨M[k],0,0,0,0,0⟩) J E);rintro _ b6 ⟨rfl,F1,q1,q2,a8,aa⟩;apply AA (ZY.step V o E q1 q2 a8 aa a6);rintro _ b7 ⟨t2,A2,rfl,b8,ak⟩;rw[AR,AM E];exact⟨⟨k+1,t2,A2,F1,o,rfl,ak⟩,by rw[BE,BE];omega⟩;have:k=M.length:=E;subst this;apply AA (ZY.done V (N:=L.length+4) E U I E h.fb);intro b9 ba X;exact X
end
def AG.heap{B e k:Nat}{R R':e_->V_->α->Prop}{l:List α}(h:AG B e k R w v l)(O:∀g,v.ownBlock=some g->w'.heap[g]?=w.heap[g]?)(Q:∀r x,x∈l->R w r x->R' w' r x):AG B e k R' w' v l:=by
 obtain⟨An,h1,U,V,X⟩:=h;refine⟨An,⟨h1.1,?_⟩,U,V,λi r x hr J=>Q r x (wD J) (X i r x hr J)⟩;rcases h1.2 with Y|⟨g,cap,o,rfl,hb,I,j⟩;exact .inl Y;refine .inr ⟨g,cap,o,rfl,hb,?_,j⟩;rw[O g rfl];exact I
def Bx.heap{b:Nat}(h:Bx W b vs)(i:W'.heap[b]?=W.heap[b]?):Bx W' b vs:=by
 refine⟨λj v o=>(xA (w:=W) i).trans (h.cells j v o),λj B=>?_⟩;obtain⟨h1,I⟩:=h.Cb j B;exact⟨by rw[xA (w:=W) i];exact h1,(aA4 i).trans I⟩
section
variable {α:Type}{g:AvT α}
def UA.heap{r:V_}{o:Option (Nd α)}(h:UA g C w r o)(i:∀y,y<w.heap.size->C y->w'.heap[y]?=w.heap[y]?):UA g C w' r o:=by
 cases o with
 |none=>exact h
 |some n=>obtain⟨x,rfl,j⟩:=h;exact⟨x,rfl,g.rheap j i⟩
def Ll.heap{A:ArS α}{pl fr:d_}(h:Ll g F C W c A pl fr)(B:∀x,F x\/C x->W'.heap[x]?=W.heap[x]?)(I:W.heap.size<=W'.heap.size):Ll g F C W' c A pl fr:=by
 have J:Bx W c [pl,fr]:=⟨h.cells,h.Cb⟩;have i:=J.heap (B c (.inl h.fc));exact⟨i.cells,i.Cb,AG.heap h.IE (λx j=>B x (.inl (h.pF x j).1)) λr o _ O=>O.heap λy _ Q=>B y (.inr Q),AG.heap h.Ns (λx j=>B x (.inl (h.fF x j).1)) F_,h.ok,h.fc,h.pF,h.fF,h.MP,λx j=>Nn (h.lt x j) I⟩
def Ex.heap{b:Nat}{i:Int}{A:ArS α}(h:Ex g F C W b i A)(j:∀x,F x\/C x->W'.heap[x]?=W.heap[x]?)(o:W.heap.size<=W'.heap.size):Ex g F C W' b i A:=by
 obtain⟨c,pl,fr,h⟩:=h;exact⟨c,pl,fr,h.box.heap (j b (.inl h.fb.1)),h.ar.heap (λx B=>j x (B.imp (λh=>h.1) E_)) o,h.fb⟩
structure UX (P:Program) (l:Nat) (J:Nat->(f_)->e_->Prop) (Jx:(f_)->e_->Prop) (w:e_) (Rd:f_) (encs:Nat->V_) (N:Nat):Prop where
 hJ:∀k It It' W W',J k It W->AI W W'->(∀b,It' b->(It b\/W.heap.size<=b)/\b<W'.heap.size)->J k It' W'
 UF:∀It It' W W',Jx It W->AI W W'->(∀b,It' b->(It b\/W.heap.size<=b)/\b<W'.heap.size)->Jx It' W'
 MU:∀k It W,J k It W->∀b,b<w.heap.size->Rd b->W.heap[b]?=w.heap[b]?
 mH:∀k It W,k<N->J k It W->Nk P l (encs k) (λv W'=>W.heap.size<=W'.heap.size/\(∀b,It b->W'.heap[b]?=W.heap[b]?)/\Quiet W W'/\((v=.bool true/\J (k+1) It W')\/(v=.bool false/\Jx It W'))) W
def VJ(J:Nat->(f_)->e_->Prop)(o:(f_)->e_->Prop)(k:Nat)(j:f_)(W:e_)(v:d_)(W':e_):Prop:=W.heap.size<=W'.heap.size/\(∀b,j b->W'.heap[b]?=W.heap[b]?)/\Quiet W W'/\∃i,(∀b,j b->i b)/\(∀b,i b->b<W'.heap.size)/\((v=.bool true/\J k i W')\/(v=.bool false/\o i W'))
def UX.tC{i:Nat->V_}{Rd:f_} (h:∀l J I o,AI w o->UX P l J I w Rd i N->J 0 (λ_=>False) o->w.heap.size<=o.heap.size->AF P e (.func (.yield l) #[] #[]::cs) (λ_ W'=>∃B,J N B W'\/I B W') o):PL True P e cs i N Rd w:=by
 intro l J I o V h0 hJ UF MU hr;refine h l J I o V ⟨λk B j W W' h1 O Q=>hJ k B j W W' h1 (O.mono E') Q,λB j W W' h1 O Q=>UF B j W W' h1 (O.mono E') Q,MU,hr⟩ h0 V.size
end
section
variable {α:Type}{g:AvN α}
def SM(k:Kd α)(l:List α){i:Nat}(j:Nat)(h:Tr.sz k.μ l<=i):k.Au l i j=[]:=by
 rw[<-k.Q8,k.GF _ E]
def sC{b l N:Nat}{A:ArS α}{J:Nat->(f_)->e_->Prop}{Jx:(f_)->e_->Prop}{Z:Nat->V_}(hw:Ex g.toAvT F C w b most A)(hs:A.ps.length<=109951162777)(H:UX prog l J Jx w (λx=>F x\/C x) Z N) : ∀(t:Tr α) (i j k0:Nat) (Q:f_) (W:e_),Tr.Ac g.k.μ A.f t->FN g.toAvT t.toL->i<=1099511627776->j<=1099511627776->J k0 Q W->w.heap.size<=W.heap.size->(∀x,Q x->x<W.heap.size)->k0+(g.k.Au t.toL i j).length<=N->(∀m (hm:m<(g.k.Au t.toL i j).length),Z (k0+m)=[.agg (g.cells (g.k.Au t.toL i j)[m]).toArray])->AF prog g.fover [g_ b,zI t.root,zI (i:Int),zI (j:Int),.func (.yield l) #[] #[]] (VJ J Jx (k0+(g.k.Au t.toL i j).length) Q W) W:=by
 intro t;induction t with
 |nil=>
  intro i j k0 Q W _ _ _ _ hJ hz an _ _;apply g.okN.Au;unfold dQ;simp[Tr.root];apply AV (λ_ _=>False) (λ_ _ h=>h.elim);rw[Aj];refine AE (λ_=>?_) λe=>(e rfl).elim;exact⟨HK _,λ_ _=>rfl,⟨rfl,rfl,rfl⟩,Q,λ_ h=>h,an,.inl ⟨rfl,hJ⟩⟩
 |node lt q x ba eC eI=>
  intro i j k0 Q W hh hb hi hj hJ hz an hN U;obtain⟨hl,hr,hq⟩:=id hh;have eL:(Tr.node lt q x ba).toL=lt.toL++x::ba.toL:=rfl;rw[eL] at hb hN U ⊢;have eN:=hb.1;simp[Tr.DI,Tr.CF] at eN;rw[g.k.WE] at hN U ⊢;apply g.okN.Au;unfold dQ;simp only[Tr.root];refine AV (λ_ I=>I=W/\i<j) ?_ ?_;rotate_left;rw[Aj];refine AE E λ_=>?_;rw[DR];refine AE (λe=>?_) λe=>⟨rfl,E⟩;rw[g.k.GF _ (by omega:j<=i),g.k.GF _ (by omega:j-Tr.sz g.k.μ lt.toL<=i-Tr.sz g.k.μ lt.toL)];exact⟨HK _,I_,⟨rfl,rfl,rfl⟩,Q,M_,an,.inl ⟨rfl,hJ⟩⟩;rintro _ I ⟨rfl,gq⟩ _;rename e_=>W;have FZ:∀{k Q I},J k Q I->w.heap.size<=I.heap.size->Ex g.toAvT F C I b most A:=λ{k Q I} h1 h2=>hw.heap (λy o=>H.MU k Q I h1 y (hw.lt y o) o) h2;refine E8 (FZ hJ hz) hq λrc V w4 g4 gl B ca=>?_;have bb:=g.rlen ca;have c6:=g.Rc.1 ca;refine Iw (B.cells (g.E+0) _ (by rw[Am bb];rfl)) ?_;apply AA (Ci ((FZ hJ hz).U_ g4) hl);rintro _ w6 ⟨rfl,g6⟩;refine OI ?_;have ec:AI w6 w6.drew:=AK.drew _ _;have ed:=(g4.trans g6).trans ec;obtain⟨c,pl,fr,hT⟩:=(FZ hJ hz).U_ ed;have B6:=(B.U_ g6).U_ ec;apply Ag (λ_ _=>False);apply AJ;rw[AB,AH,AB,AH];apply AU ⟨hT.box.cells 0 _ rfl,C0⟩;rw[AB,AH];refine MN (g:=g.toAvT) (r:=rc) bb (λj v hv=>⟨B6.cells j v (by rw[PF (Bq.1 hv).1];exact hv),C0⟩) ?_;apply BI (g.meas (C:=C) (x:=x) (g.Rc.2 c6));rintro _ w7 ⟨rfl,g7⟩;refine⟨g7.mono E',?_⟩;refine Bv ?_;have av:=ed.trans g7;have B7:=B6.U_ g7;have eA:=B7.lt (by rw[Ba _ ca];omega);have ax:∀y,(Q y\/y=V)->(Q y\/W.heap.size<=y)/\y<w7.heap.size:=λy o=>by
   rcases o with o|o;have:=an y o;exact⟨.inl o,E⟩;exact⟨.inr (by omega),by omega⟩
  have ee:=H.hJ k0 Q (λy=>Q y\/y=V) W w7 hJ av ax;have eR:∀y,Q y->w7.heap[y]?=W.heap[y]?:=λy o=>av.Ap y (an y o) λh=>h;obtain⟨X1,cc⟩:∃X,X=g.k.Au lt.toL i j:=⟨_,rfl⟩;obtain⟨i',ch⟩:∃i',i'=i-Tr.sz g.k.μ lt.toL:=⟨_,rfl⟩;obtain⟨j',bk⟩:∃j',j'=j-Tr.sz g.k.μ lt.toL:=⟨_,rfl⟩;obtain⟨X2,cu⟩:∃X,X=(if i'<min j' (g.k.μ x).1 then[g.k.part x i' (min j' (g.k.μ x).1)] else[]):=⟨_,rfl⟩;obtain⟨X3,ak⟩:∃X,X=g.k.Au ba.toL (i'-(g.k.μ x).1) (j'-(g.k.μ x).1):=⟨_,rfl⟩;have eX:g.k.Au lt.toL i j++g.k.Au (x::ba.toL) (i-Tr.sz g.k.μ lt.toL) (j-Tr.sz g.k.μ lt.toL)=X1++(X2++X3):=by rw[cc,cu,ak,ch,bk];rfl
  rw[eX] at hN U ⊢;simp[Ad] at hN;have cx:∀m (hm:m<X1.length),Z (k0+m)=[.agg (g.cells X1[m]).toArray]:=λm hm=>by
   rw[U m (by simp;omega)];simp[xi hm]
  have dj:∀m (hm:m<X2.length),Z (k0+X1.length+m)=[.agg (g.cells X2[m]).toArray]:=λm hm=>by
   have:=U (X1.length+m) (by simp;omega);rw[wx,this];simp[xL,xi hm]
  have dk:∀m (hm:m<X3.length),Z (k0+X1.length+X2.length+m)=[.agg (g.cells X3[m]).toArray]:=λm hm=>by
   have:=U (X1.length+(X2.length+m)) (by simp;omega);rw[(E:k0+X1.length+X2.length+m=k0+(X1.length+(X2.length+m))),this];simp[xL]
  let St:Nat->e_->Prop:=λk I=>∃O,(∀y,Q y->O y)/\O V/\(∀y,O y->y<I.heap.size)/\J k O I/\(w7.heap.size<=I.heap.size/\Quiet w7 I)/\(∀y,Q y\/y=V->I.heap[y]?=w7.heap[y]?)
  have done:∀{k I} (v:d_) (O:f_),(∀y,Q y->O y)->(∀y,O y->y<I.heap.size)->w7.heap.size<=I.heap.size/\Quiet w7 I->(∀y,Q y->I.heap[y]?=w7.heap[y]?)->((v=.bool true/\J k O I)\/(v=.bool false/\Jx O I))->VJ J Jx k Q W v I:=λv O h1 h2 h3 h4 h5=>
   ⟨E,λy o=>(h4 y o).trans (eR y o),Quiet.trans ⟨av.os,av.tape,av.output⟩ h3.2,O,h1,h2,h5⟩
  refine AV (λ_ I=>St (k0+X1.length) I) ?_ ?_;rotate_left;refine HP (λef=>?_) λeh=>?_;refine Iw (B7.cells (g.E+0) _ (by rw[Am bb];rfl)) ?_;rw[Iv];have em:(if((Tr.sz g.k.μ lt.toL:Nat):Int)<(j:Int) then((Tr.sz g.k.μ lt.toL:Nat):Int) else(j:Int))=((min j (Tr.sz g.k.μ lt.toL):Nat):Int):=by split<;>omega
  rw[em];have aa:g.k.Au lt.toL i (min j (Tr.sz g.k.μ lt.toL))=X1:=by rw[cc,g.k.Q8]
  refine AA (eC i (min j (Tr.sz g.k.μ lt.toL)) k0 (λy=>Q y\/y=V) w7 hl hb.KM.1 hi E ee E (λy o=>(ax y o).2) (by rw[aa];omega) (λm hm=>?_)) ?_;have dr:m<X1.length:=by rw[<-aa];exact hm
  rw[cx m dr];simp[aa];rw[aa];rintro v W2 ⟨z1,z2,zq,O,q1,q2,q3⟩;rcases q3 with⟨rfl,dT⟩|⟨rfl,dT⟩;rw[Aq];exact AS ⟨O,λy o=>q1 y (.inl o),q1 V (.inr rfl),q2,dT,⟨z1,zq⟩,z2⟩;rw[Aq];exact Ai (done (.bool false) O (λy o=>q1 y (.inl o)) q2 ⟨z1,zq⟩ (λy o=>z2 y (.inl o)) (.inr ⟨rfl,dT⟩));have e0:X1=[]:=by rw[cc];exact SM g.k lt.toL j E
  rw[e0];exact⟨λy=>Q y\/y=V,λy o=>.inl o,.inr rfl,λy o=>(ax y o).2,ee,⟨HK _,rfl,rfl,rfl⟩,I_⟩;rintro _ W8 ⟨a6,a1,a2,a3,e4,z8,Y⟩ _;rw[A6,wrap64 E E,HS];have eV:(if(0:Int)>(i:Int)-((Tr.sz g.k.μ lt.toL:Nat):Int) then(0:Int) else(i:Int)-((Tr.sz g.k.μ lt.toL:Nat):Int))=(i':Int):=by rw[ch];split<;>omega
  rw[eV,A6,wrap64 E E,Iv];obtain⟨to,e5⟩:∃to:Int,to=(if(((g.k.μ x).1:Nat):Int)<(j:Int)-((Tr.sz g.k.μ lt.toL:Nat):Int) then(((g.k.μ x).1:Nat):Int) else(j:Int)-((Tr.sz g.k.μ lt.toL:Nat):Int)):=⟨_,rfl⟩;rw[<-e5];have c7:(i':Int)<to↔i'<min j' (g.k.μ x).1:=by rw[e5,bk];split<;>omega
  have ei:i'<min j' (g.k.μ x).1->to=((min j' (g.k.μ x).1:Nat):Int):=λh=>by rw[e5,bk];split<;>omega
  refine AV (λ_ I=>St (k0+X1.length+X2.length) I) ?_ ?_;rintro _ W9 ⟨ej,c1,c2,c3,ek,z9,a7⟩ _;apply Cy E;rw[GI];refine AE (λgr=>?_) λgu=>?_;have e3:X3=[]:=by rw[ak];exact g.k.GF _ E
  rw[e3];simp[Ty,Ad];exact done (.bool true) ej c1 c3 z9 (λy o=>a7 y (.inl o)) (.inl ⟨rfl,by rw[<-wx];exact ek⟩);have B9:=B7.heap (a7 V (.inr rfl));refine Iw (B9.cells (g.E+1) _ (by rw[Am bb];rfl)) ?_;rw[A6,wrap64 E E,A6,wrap64 E E,HS];have e1:(if(0:Int)>(i:Int)-((Tr.sz g.k.μ lt.toL:Nat):Int)-(((g.k.μ x).1:Nat):Int) then(0:Int) else(i:Int)-((Tr.sz g.k.μ lt.toL:Nat):Int)-(((g.k.μ x).1:Nat):Int))=((i'-(g.k.μ x).1:Nat):Int):=by rw[ch];split<;>omega
  rw[e1,A6,wrap64 E E,A6,wrap64 E E];have e2:(j:Int)-((Tr.sz g.k.μ lt.toL:Nat):Int)-(((g.k.μ x).1:Nat):Int)=((j'-(g.k.μ x).1:Nat):Int):=by rw[bk];omega
  rw[e2];refine AA (eI (i'-(g.k.μ x).1) (j'-(g.k.μ x).1) (k0+X1.length+X2.length) ej W9 hr hb.KM.2.cons.1 E E ek E c3 (by rw[<-ak];omega) (λm hm=>?_)) ?_;have dr:m<X3.length:=by rw[ak];exact hm
  rw[dk m dr];simp[ak];rw[<-ak];rintro v W2 ⟨u1,u2,uq,O,q1,q2,q3⟩;apply done v O (λy o=>q1 y (c1 y o)) q2 ⟨E,z9.2.trans uq⟩ (λy o=>(u2 y (c1 y o)).trans (a7 y (.inl o)));simp[Ad];rwa [<-wx,<-wx]
  .refine HP (λef=>?_) λeh=>?_;rotate_left;have e2:X2=[]:=by rw[cu,Bp λe=>eh (c7.2 e)]
   rw[e2];exact⟨a6,a1,a2,a3,e4,z8,Y⟩;have ay:=c7.1 ef;have en:=ei ay;have e2:X2=[g.k.part x i' (min j' (g.k.μ x).1)]:=by rw[cu,Cx ay]
   generalize hP:min j' (g.k.μ x).1=P at ay en e2;have b0:=DC (g:=g) x;rw[AB,AH];refine Ab (vs:=g.cells x) b0 (λj v hv=>?_) ?_;rw[AH];apply(B7.heap (Y V (.inr rfl))).cells j v;rw[show rc=g.cells x from c6,PF (Bq.1 hv).1];exact hv;refine Bx.new b0 g.zlen (FF (g:=g) x) λbl eo gm e6 bp=>?_;have eB:=bp.lt (by rw[b0];exact g.Epos);have e7:∀{p:Nat} {w},0<p->p<(g.k.μ x).1->Be prog En g.vc [.agg (g.cells x).toArray,.int .i64 (p:Int)] (λv w'=>v=.tuple #[.agg (g.cells (g.k.cut x p).1).toArray,.agg (g.cells (g.k.cut x p).2).toArray]/\AI w w') w:=λh1 h2=>g.cutc h1 h2 E;have c8:∀{I},AI W8 I->∃c pl fr,oH g.toAvT F C I b c most A pl fr:=λgg=>(FZ e4 E).U_ gg;refine AV (λ_ I=>AI W8 I/\Bx I bl (g.cells (if P<(g.k.μ x).1 then(g.k.cut x P).1 else x))) ?_ ?_;rotate_left;rw[As];refine AE (λh1=>?_) λh1=>⟨e6,by rw[Bp E];exact bp⟩;have ep:P<(g.k.μ x).1:=E;have gd:AI eo eo.drew:=AK.drew _ _;obtain⟨c',fo,fs,e8⟩:=c8 (e6.trans gd);have zd:=gd.size;apply Ag (λ_ y=>y=bl);apply AJ;rw[AB,AH,AB,AH];apply AU ⟨e8.box.cells 1 _ rfl,λk hk _=>nomatch (show k∈([]:X') from hk)⟩;refine DF b0 (λj v hv=>⟨by rw[AH];exact(bp.U_ gd).cells j v hv,λk hk _=>nomatch (show k∈([]:X') from hk)⟩) ?_;rw[en];apply BI (e7 E ep);rintro _ fv ⟨rfl,a8⟩;refine⟨a8.mono E',Bv ?_⟩;refine((bp.U_ gd).U_ a8).Au (DC _) b0 (FF _) λfx e9 b6=>⟨b6,?_⟩;exact⟨((e6.trans gd).trans a8).next b6 E,by rw[Cx ep];exact e9⟩;rintro _ er ⟨bs,c4⟩ _;have et:∀x',x'=(if P<(g.k.μ x).1 then(g.k.cut x P).1 else x)->(g.k.μ x').1=P:=λx' e=>by
    rw[e];split;exact(g.cutμ x P E (by assumption)).1;omega
   generalize ga:(if P<(g.k.μ x).1 then(g.k.cut x P).1 else x)=x' at c4 et;have gp:=et x' rfl;have b7:g.k.part x i' P=if 0<i' then(g.k.cut x' i').2 else x':=by unfold Kd.part;rw[ga]
   refine AV (λ_ I=>AI W8 I/\Bx I bl (g.cells (g.k.part x i' P))) ?_ ?_;rotate_left;rw[BM];refine AE (λh1=>?_) λh1=>⟨bs,by rw[b7,Bp E];exact c4⟩;have gd:AI er er.drew:=AK.drew _ _;obtain⟨c',fo,fs,e8⟩:=c8 (bs.trans gd);have zd:=gd.size;have gv:=bs.size;have c9:=DC (g:=g) x';apply Ag (λ_ y=>y=bl);apply AJ;rw[AB,AH,AB,AH];apply AU ⟨e8.box.cells 1 _ rfl,λk hk _=>nomatch (show k∈([]:X') from hk)⟩;refine DF c9 (λj v hv=>⟨by rw[AH];exact(c4.U_ gd).cells j v hv,λk hk _=>nomatch (show k∈([]:X') from hk)⟩) ?_;apply BI (g.cutc (x:=x') (p:=i') E E E);rintro _ fv ⟨rfl,a8⟩;refine⟨a8.mono E',Bv ?_⟩;refine((c4.U_ gd).U_ a8).Au (DC _) c9 (FF _) λfx e9 b6=>⟨b6,?_⟩;exact⟨((bs.trans gd).trans a8).next b6 E,by rw[b7,Cx E];exact e9⟩;rintro _ eu ⟨al,gb⟩ _;apply gb.GN (DC _);have gw:=al.size;have gx:=z8.1;have ew:=H.hJ _ a6 a6 W8 eu e4 al λy o=>⟨.inl o,by have:=a3 y o;omega⟩;refine .inr ⟨l,rfl,?_⟩;have ey:X2.length=1:=by rw[e2];rfl
   have b8:=dj 0 E;simp[ua,e2,zy] at b8;rw[<-b8];apply HD (H.mH _ a6 eu E ew);rintro v gf ⟨y1,y2,yq,y3⟩;have b9:∀y,a6 y->gf.heap[y]?=W8.heap[y]?:=λy o=>(y2 y o).trans (al.Ap y (a3 y o) E_);have ez:=(z8.2.trans ⟨al.os,al.tape,al.output⟩).trans yq;rcases y3 with⟨rfl,ea⟩|⟨rfl,ea⟩;rw[Aq];refine AS ⟨a6,a1,a2,λy o=>by have:=a3 y o;omega,by rw[ey];exact ea,⟨E,ez⟩,λy o=>?_⟩;exact(b9 y (by rcases o with o|rfl;exact a1 y o;exact a2)).trans (Y y o);rw[Aq];exact Ai (done (.bool false) a6 a1 (λy o=>by have:=a3 y o;omega) ⟨E,ez⟩ (λy o=>(b9 y (a1 y o)).trans (Y y (.inl o))) (.inr ⟨rfl,ea⟩))
end
section
variable {α:Type}
def dR(g:AvT α):Prop:=∀{F C:f_} {W:e_} {b i j:Nat} {A:ArS α} {T:Tr α},Ex g F C W b T.root A->A.ps.length<=109951162777->Tr.Ac g.k.μ A.f T->Tr.H7 T->FN g T.toL->i<=1099511627776->j<=1099511627776->AF prog g.fOver [g_ b,zI (i:Int),zI (j:Int)] (λv' w'=>∃ (cap vals:V_) (Rd:f_),v'=.func (.func g.fOverf) #[] cap.toArray/\AI W w'/\vals.length=(g.k.Au T.toL i j).length/\(∀ m (h1:m < vals.length) (o:m < (g.k.Au T.toL i j).length),∃ r,vals[m]=g.toAvK.enc r/\g.R C w' r (g.k.Au T.toL i j)[m])/\ (∀ x,Rd x->(F x\/C x\/W.heap.size<=x)/\x < w'.heap.size)/\PL True prog g.fOverf cap (λk=>[vals.getD k undef]) vals.length Rd w') W
def ES{t:TypeId}{x:d_}(j:x.cells=#[x])(h:∀b i,w.heap.size<=b->AI w i->Bx i b [x]->K (g_ b) i):Lz t x K w:=⟨j,Bx.zero h⟩
def TB{g:AvT α}{b i j b3 b4 b5:Nat}{A:ArS α}{T:Tr α}{I:Nat->V_}(h:Ex g F C w b T.root A)(B3:Bx w b3 [g_ b])(B4:Bx w b4 [zI (i:Int)])(B5:Bx w b5 [zI (j:Int)]) (X:∀ l J V o,AI w o->UX prog l J V w (λx=>F x\/C x\/x=b3\/x=b4\/x=b5) I N->J 0 (λ_=>False) o->w.heap.size<=o.heap.size->AF prog g.fover [g_ b,zI T.root,zI (i:Int),zI (j:Int),.func (.yield l) #[] #[]] (VJ J V N (λ_=>False) o) o) : PL True prog g.fOverf [g_ b3,g_ b4,g_ b5] I N (λx=>F x\/C x\/x=b3\/x=b4\/x=b5) w:=by
 refine UX.tC λl J V o g1 H hJ hz=>?_;apply g.ok.overf;unfold dW;have Y:AI o o.drew:=AK.drew _ _;have B:=g1.trans Y;obtain⟨c,pl,fr,hT⟩:=h.U_ B;have z:=Y.size;apply Ag (λ_ _=>True);have O:=B3.U_ B;apply AU ⟨O.cells 0 _ rfl,λk hk _=>nomatch (show k∈([]:X') from hk)⟩;apply AU ⟨O.cells 0 _ rfl,λk hk _=>nomatch (show k∈([]:X') from hk)⟩;apply AJ;rw[AB,AH];apply AU ⟨hT.box.cells 4 _ rfl,λk hk _=>nomatch (show k∈([]:X') from hk)⟩;apply AU ⟨(B4.U_ B).cells 0 _ rfl,λk hk _=>nomatch (show k∈([]:X') from hk)⟩;apply AU ⟨(B5.U_ B).cells 0 _ rfl,λk hk _=>nomatch (show k∈([]:X') from hk)⟩;apply AA (X l J V o.drew B H (H.hJ 0 (λ_=>False) (λ_=>False) o o.drew hJ Y K_) E);rintro v w2 ⟨Z,_,hq,Q,_,_,U⟩;refine⟨⟨hq.1,hq.2.1,hq.2.2,Z,λx _ hx=>(hx trivial).elim⟩,?_⟩;rcases U with⟨_,U⟩|⟨_,U⟩;exact⟨Q,.inl U⟩;exact⟨Q,.inr U⟩
def YU{g:AvN α}:dR g.toAvT:=by
 intro F C W b i j A T h X Y hu hb hi Z;apply g.ok.Au;unfold gk;refine ES rfl λb3 w1 a1 g1 O=>?_;refine ES rfl λb4 w2 a6 Q U=>?_;refine ES rfl λb5 w3 a7 B V=>?_;have o:=(g1.trans Q).trans B;have I:=h.U_ o;refine⟨[g_ b3,g_ b4,g_ b5],(g.k.Au T.toL i j).map λx=>.agg (g.cells x).toArray,_,rfl,o,by rw[FA],λm h1 h2=>⟨g.cells (g.k.Au T.toL i j)[m],by rw[ZQ,wz],g.Rc.2 rfl⟩,λx hx=>?_,TB I ((O.U_ Q).U_ B) (U.U_ B) V λl J Jx w4 g4 H hJ hz=>?_⟩;have q3:=O.lt (P9 _);have q4:=U.lt (P9 _);have q5:=V.lt (P9 _);have s3:=B.size;rcases hx with e|e|e|e|e;exact⟨.inl e,I.lt x (.inl e)⟩;exact⟨.inr (.inl e),I.lt x (.inr e)⟩;exact⟨.inr (.inr E),E⟩;exact⟨.inr (.inr E),E⟩;exact⟨.inr (.inr E),E⟩;have H':UX prog l J Jx w3 (λx=>F x\/C x) _ _:=⟨H.hJ,H.UF,λk It W hJ b hb hr=>H.MU k It W hJ b hb (hr.elim .inl λh=>.inr (.inl h)),H.mH⟩;have key:=sC I X H' T i j 0 (λ_=>False) w4 Y hb hi Z hJ hz K_ (by rw[FA];omega) (λm hm=>?_);rw[FA];rw[wS] at key;exact key;simp[List.getD,hm]
end
def MV:AvK where
 E:=2
 one:=false
 zE:=[zI 0,zI 0]
 te:=178
 tn:=387
 ts:=171
 tp:=445
 tps:=416
 tt:=254
 tT:=335
 tk:=330
 tA:=418
 fat:=290
 ftotals:=291
 fset:=364
 flift:=367
 flean:=366
 fbalance:=363
 fjoin:=350
 ffirst:=348
 flast:=346
 fconcat:=352
 fsplit:=344
 fdrop:=345
 fpick:=347
 fmelded:=349
 fReplace:=322
 fover:=243
 fOver:=179
 fOverf:=242
 fSize:=288
 fNew:=238
 aTake:=351
 aasked:=355
 aFree:=362
 aAt:=331
 aPut:=361
 aNew:=289
 vm:=.func (.func 239) #[] #[]
 vc:=.func (.func 240) #[] #[]
 vd:=.func (.func 241) #[] #[]
def kD:lz MV where
 jz:=λh=>oZ .nil func290 h C_
 totals:=λh=>oZ (.y (.y (.y (.x .D8)))) func291 h C_
 set:=λh=>oZ (.y (.y (.y (.z (.dm [7] [0,1,3,7,15,0,32,127,255,511,511,1023,4095]) (.y (.dm [6] [0,1,3,7,0,0,63])))))) func364 h C_
 PH:=λh=>oZ .nil func367 h C_
 iF:=λh=>oZ .nil func366 h C_
 LI:=λh=>oZ .nil func363 h C_
 join:=λh=>oZ .nil func350 h C_
 first:=λh=>oZ .nil func348 h C_
 Jr:=λh=>oZ .nil func346 h C_
 concat:=λh=>oZ .nil func352 h C_
 drop:=λh=>oZ .nil func345 h C_
 Au:=λh=>oZ .nil func179 h C_
 overf:=λh=>oZ (.dm [8] [0,0,2,6,14,0,0,0,255]) func242 h C_
 size:=λh=>oZ .nil func288 h C_
 take:=λh=>oZ (.y (.y (.z (.y (.y (.x (.y (.y (.x (.dm [8] [0,1,3,7,0,0,32,127,255]))))))) (.x (.dc [7,8,11] (k_ [0,0,2,6,14,0,32,96,254,511,1023,2047]) [[7,8]]))))) func351 h C_
 QD:=λh=>oZ .nil func355 h C_
 free:=λh=>oZ .nil func362 h C_
 aat:=λh=>oZ .nil func331 h C_
 put:=λh=>oZ (.y (.y (.x (.dm [8] [0,1,3,7,0,0,63,127,255])))) func361 h C_
 new:=λh=>oZ (.y (.x (.dc [1,3] (k_ [0,0,3,7,15]) [[1]]))) func238 h C_
 anew:=λh=>oZ .nil func289 h C_
 okOverf:=C_
def fS:iG MV where
 split:=λh=>oZ (.y (.y (.y (.y (.z (.dm [7] [0,1,3,7,15,0,32,127,255,511,511,1023,4095]) (.y (.cut [14,15] [(14,15),(86,99)] (.dt [10,14,15,16,17] (k_ [0,1,3,7,15,0,32,0,0,384,1023,2047,4095,4095,0,0,57343,131071]) [[10]] (.op 0 (.op 1 (.op 2 (.op 3 (.op 4 (.op 5 (.op 6 (.op 7 (.op 8 (.op 9 (.br (.op 10 (.op 11 (.op 12 (.op 13 (.br (.op 14 (.op 15 (.op 16 (.op 17 .nil)))) (.op 15 (.op 14 (.op 16 (.op 17 .nil))))))))) (.br (.op 14 (.br (.op 10 (.op 11 (.op 12 (.op 13 (.op 15 (.op 16 (.op 17 .nil))))))) (.op 15 (.op 10 (.op 11 (.op 12 (.op 13 (.op 16 (.op 17 .nil))))))))) (.op 15 (.br (.op 10 (.op 11 (.op 12 (.op 13 (.op 14 (.op 16 (.op 17 .nil))))))) (.op 14 (.op 10 (.op 11 (.op 12 (.op 13 (.op 16 (.op 17 .nil)))))))))))))))))))))) (.z .D8 (.y (.z (.dm [6] [0,1,3,7,0,0,63]) (.x (.dm [3,11,13] [0,0,0,7,0,0,32,96,224,0,512,2031,0,8191,16383,32767])))))))))))) func344 h C_
 pick:=λh=>oZ .nil func347 h C_
 melded:=λh=>oZ (.y (.x (.y (.node [4,14] [(4,4),(6,11),(14,58)] (.y (.y (.x (.y (.z (.x (.dm [6] [0,1,3,7,15,0,63,127,255,255,511,2047])) (.cut [] [(9,11),(30,53)] (.y (.y (.x (.cut [10,11] [(10,11),(35,48)] (.dt [10,14,15] (k_ [0,1,3,7,15,0,0,96,224,0,1023,2047,4095,4095,0,24575,65535]) [[10]] (.op 0 (.op 1 (.op 2 (.op 3 (.op 4 (.op 5 (.op 6 (.op 7 (.op 8 (.op 9 (.br (.op 10 (.op 11 (.op 12 (.op 13 (.op 14 (.op 15 (.op 16 .nil))))))) (.op 14 (.op 10 (.op 11 (.op 12 (.op 13 (.op 15 (.op 16 .nil))))))))))))))))))) .nil)))) .nil)))))) .nil)))) func349 h C_
 replace:=λh=>oZ (.y (.y (.y (.y (.cut [8,12] [(8,8),(12,14),(41,55)] .nil (.y (.cut [11,12] [(11,12),(15,16),(59,73)] .nil (.x (.y (.node [8,78] [(8,8),(18,18),(78,92)] (.y (.y (.x (.y (.dm [8,9] [0,0,0,4,12,28,0,64,252,511,1023]))))) .nil)))))))))) func322 h C_
 Au:=λh=>oZ (.y (.cut [] [(10,10),(20,26)] .nil (.y (.y (.z (.dm [7] [0,1,3,7,15,0,32,127,255,511,511,1023,4095]) (.cut [] [(10,10),(49,63)] .nil (.y (.cut [] [(10,10),(19,19),(73,108)] (.y (.x (.y (.cut [] [(78,91)] (.y (.x (.dc [7,11] (k_ [0,1,3,7,15,0,0,127,255,511,511,1023]) [[7]]))) (.cut [] [(92,104)] (.y (.x (.dc [7,11] (k_ [0,1,3,7,15,0,0,127,255,511,511,2047]) [[7]]))) .nil))))) .nil)))))))) func243 h C_
def OA:AvK where
 E:=1
 one:=true
 zE:=[i_]
 te:=47
 tn:=392
 ts:=174
 tp:=433
 tps:=421
 tt:=261
 tT:=347
 tk:=342
 tA:=423
 fat:=293
 ftotals:=294
 fset:=338
 flift:=358
 flean:=357
 fbalance:=337
 fjoin:=305
 ffirst:=303
 flast:=301
 fconcat:=307
 fsplit:=299
 fdrop:=300
 fpick:=302
 fmelded:=304
 fReplace:=264
 fover:=251
 fOver:=184
 fOverf:=250
 fSize:=270
 fNew:=246
 aTake:=306
 aasked:=356
 aFree:=336
 aAt:=332
 aPut:=335
 aNew:=292
 vm:=.func (.func 247) #[] #[]
 vc:=.func (.func 248) #[] #[]
 vd:=.func (.func 249) #[] #[]
def lY:lz OA where
 jz:=λh=>oZ .nil func293 h C_
 totals:=λh=>oZ (.y (.y (.y (.x .D8)))) func294 h C_
 set:=λh=>oZ (.y (.y (.y (.z (.dm [7] [0,1,3,7,15,0,32,127,255,511,511,1023,4095]) (.y (.dm [6] [0,1,3,7,0,0,63])))))) func338 h C_
 PH:=λh=>oZ .nil func358 h C_
 iF:=λh=>oZ .nil func357 h C_
 LI:=λh=>oZ .nil func337 h C_
 join:=λh=>oZ .nil func305 h C_
 first:=λh=>oZ .nil func303 h C_
 Jr:=λh=>oZ .nil func301 h C_
 concat:=λh=>oZ .nil func307 h C_
 drop:=λh=>oZ .nil func300 h C_
 Au:=λh=>oZ .nil func184 h C_
 overf:=λh=>oZ (.dm [8] [0,0,2,6,14,0,0,0,255]) func250 h C_
 size:=λh=>oZ .nil func270 h C_
 take:=λh=>oZ (.y (.y (.z (.y (.y (.x (.y (.y (.x (.dm [8] [0,1,3,7,0,0,32,127,255]))))))) (.x (.dc [7,8,11] (k_ [0,0,2,6,14,0,32,96,254,511,1023,2047]) [[7,8]]))))) func306 h C_
 QD:=λh=>oZ .nil func356 h C_
 free:=λh=>oZ .nil func336 h C_
 aat:=λh=>oZ .nil func332 h C_
 put:=λh=>oZ (.y (.y (.x (.dm [8] [0,1,3,7,0,0,63,127,255])))) func335 h C_
 new:=λh=>oZ (.y (.x (.dc [1,3] (k_ [0,0,3,7,15]) [[1]]))) func246 h C_
 anew:=λh=>oZ .nil func292 h C_
 okOverf:=C_
def fK:oK OA where
 split:=λh=>oZ (.y (.y (.y (.y (.z (.dm [7] [0,1,3,7,15,0,32,127,255,511,511,1023,4095]) (.y (.z (.dm [10] [0,1,3,7,15,0,32,0,0,384,1023,2047,4095,4095,8191,32767]) (.z .D8 (.y (.z (.dm [6] [0,1,3,7,0,0,63]) (.x (.dm [3,11,13] [0,0,0,7,0,0,32,96,224,0,512,2031,0,8191,16383,32767])))))))))))) func299 h C_
 pick:=λh=>oZ .nil func302 h C_
 melded:=λh=>oZ (.y (.x (.y (.node [4,14] [(4,4),(6,11),(14,58)] (.y (.y (.x (.y (.y (.cut [] [(9,11),(30,53)] (.y (.y (.x (.x (.dm [10] [0,1,3,7,15,0,0,96,224,0,1023,2047,4095,4095,8191,32767]))))) .nil)))))) .nil)))) func304 h C_
 replace:=λh=>oZ (.y (.y (.y (.y (.cut [8,12] [(8,8),(12,14),(41,55)] .nil (.y (.cut [11,12] [(11,12),(15,16),(59,73)] .nil (.x (.y (.node [8,78] [(8,8),(18,18),(78,92)] .nil .nil)))))))))) func264 h C_
 Au:=λh=>oZ (.y (.cut [] [(10,10),(20,26)] .nil (.y (.y (.z (.dm [7] [0,1,3,7,15,0,32,127,255,511,511,1023,4095]) (.cut [] [(10,10),(49,63)] .nil (.y (.cut [] [(10,10),(19,19),(73,108)] (.y (.x (.y (.cut [19] [(19,19),(78,91)] .nil (.cut [19] [(19,19),(92,104)] .nil .nil))))) .nil)))))))) func251 h C_
def Ip:AvK where
 E:=33
 one:=false
 zE:=[.int .i32 0,.int .i32 0,.int .i32 0,.int .i32 0,.int .i32 0,.int .i32 0,.int .i32 0,.int .i32 0,.int .i32 0,.int .i32 0,.int .i32 0,.int .i32 0,.int .i32 0,.int .i32 0,.int .i32 0,.int .i32 0,.int .i32 0,.int .i32 0,.int .i32 0,.int .i32 0,.int .i32 0,.int .i32 0,.int .i32 0,.int .i32 0,.int .i32 0,.int .i32 0,.int .i32 0,.int .i32 0,.int .i32 0,.int .i32 0,.int .i32 0,.int .i32 0,zI 0]
 te:=249
 tn:=382
 ts:=360
 tp:=439
 tps:=411
 tt:=244
 tT:=323
 tk:=318
 tA:=413
 fat:=287
 ftotals:=255
 fset:=342
 flift:=360
 flean:=359
 fbalance:=341
 fjoin:=317
 ffirst:=315
 flast:=313
 fconcat:=319
 fsplit:=311
 fdrop:=312
 fpick:=314
 fmelded:=316
 fReplace:=267
 fover:=235
 fOver:=174
 fOverf:=234
 fSize:=187
 fNew:=226
 aTake:=318
 aasked:=354
 aFree:=340
 aAt:=330
 aPut:=339
 aNew:=286
 vm:=.func (.func 227) #[] #[]
 vc:=.func (.func 230) #[] #[]
 vd:=.func (.func 232) #[] #[]
def mP:lz Ip where
 jz:=λh=>oZ .nil func287 h C_
 totals:=λh=>oZ (.y (.y (.y (.x .D8)))) func255 h C_
 set:=λh=>oZ (.y (.y (.y (.z (.dm [7] [0,1,3,7,15,0,32,127,255,511,511,1023,4095]) (.y (.dm [6] [0,1,3,7,0,0,63])))))) func342 h C_
 PH:=λh=>oZ .nil func360 h C_
 iF:=λh=>oZ .nil func359 h C_
 LI:=λh=>oZ .nil func341 h C_
 join:=λh=>oZ .nil func317 h C_
 first:=λh=>oZ .nil func315 h C_
 Jr:=λh=>oZ .nil func313 h C_
 concat:=λh=>oZ .nil func319 h C_
 drop:=λh=>oZ .nil func312 h C_
 Au:=λh=>oZ .nil func174 h C_
 overf:=λh=>oZ (.dm [8] [0,0,2,6,14,0,0,0,255]) func234 h C_
 size:=λh=>oZ .nil func187 h C_
 take:=λh=>oZ (.y (.y (.z (.y (.y (.x (.y (.y (.x (.dm [8] [0,1,3,7,0,0,32,127,255]))))))) (.x (.dc [7,8,11] (k_ [0,0,2,6,14,0,32,96,254,511,1023,2047]) [[7,8]]))))) func318 h C_
 QD:=λh=>oZ .nil func354 h C_
 free:=λh=>oZ .nil func340 h C_
 aat:=λh=>oZ .nil func330 h C_
 put:=λh=>oZ (.y (.y (.x (.dm [8] [0,1,3,7,0,0,63,127,255])))) func339 h C_
 new:=λh=>oZ (.y (.x (.dc [1,3] (k_ [0,0,3,7,15]) [[1]]))) func226 h C_
 anew:=λh=>oZ .nil func286 h C_
 okOverf:=C_
def iI:iG Ip where
 split:=λh=>oZ (.y (.y (.y (.y (.z (.dm [7] [0,1,3,7,15,0,32,127,255,511,511,1023,4095]) (.y (.cut [14,15] [(14,15),(86,99)] (.dt [10,14,15,16,17] (k_ [0,1,3,7,15,0,32,0,0,384,1023,2047,4095,4095,0,0,57343,131071]) [[10]] (.op 0 (.op 1 (.op 2 (.op 3 (.op 4 (.op 5 (.op 6 (.op 7 (.op 8 (.op 9 (.br (.op 10 (.op 11 (.op 12 (.op 13 (.br (.op 14 (.op 15 (.op 16 (.op 17 .nil)))) (.op 15 (.op 14 (.op 16 (.op 17 .nil))))))))) (.br (.op 14 (.br (.op 10 (.op 11 (.op 12 (.op 13 (.op 15 (.op 16 (.op 17 .nil))))))) (.op 15 (.op 10 (.op 11 (.op 12 (.op 13 (.op 16 (.op 17 .nil))))))))) (.op 15 (.br (.op 10 (.op 11 (.op 12 (.op 13 (.op 14 (.op 16 (.op 17 .nil))))))) (.op 14 (.op 10 (.op 11 (.op 12 (.op 13 (.op 16 (.op 17 .nil)))))))))))))))))))))) (.z .D8 (.y (.z (.dm [6] [0,1,3,7,0,0,63]) (.x (.dm [3,11,13] [0,0,0,7,0,0,32,96,224,0,512,2031,0,8191,16383,32767])))))))))))) func311 h C_
 pick:=λh=>oZ .nil func314 h C_
 melded:=λh=>oZ (.y (.x (.y (.node [4,14] [(4,4),(6,11),(14,58)] (.y (.y (.x (.y (.z (.x (.dm [6] [0,1,3,7,15,0,63,127,255,255,511,2047])) (.cut [] [(9,11),(30,53)] (.y (.y (.x (.cut [10,11] [(10,11),(35,48)] (.dt [10,14,15] (k_ [0,1,3,7,15,0,0,96,224,0,1023,2047,4095,4095,0,24575,65535]) [[10]] (.op 0 (.op 1 (.op 2 (.op 3 (.op 4 (.op 5 (.op 6 (.op 7 (.op 8 (.op 9 (.br (.op 10 (.op 11 (.op 12 (.op 13 (.op 14 (.op 15 (.op 16 .nil))))))) (.op 14 (.op 10 (.op 11 (.op 12 (.op 13 (.op 15 (.op 16 .nil))))))))))))))))))) .nil)))) .nil)))))) .nil)))) func316 h C_
 replace:=λh=>oZ (.y (.y (.y (.y (.cut [8,12] [(8,8),(12,14),(41,55)] .nil (.y (.cut [11,12] [(11,12),(15,16),(59,73)] .nil (.x (.y (.node [8,78] [(8,8),(18,18),(78,92)] (.y (.y (.x (.y (.dm [8,9] [0,0,0,4,12,28,0,64,252,511,1023]))))) .nil)))))))))) func267 h C_
 Au:=λh=>oZ (.y (.cut [] [(10,10),(20,26)] .nil (.y (.y (.z (.dm [7] [0,1,3,7,15,0,32,127,255,511,511,1023,4095]) (.cut [] [(10,10),(49,63)] .nil (.y (.cut [] [(10,10),(19,19),(73,108)] (.y (.x (.y (.cut [] [(78,91)] (.y (.x (.dc [7,11] (k_ [0,1,3,7,15,0,0,127,255,511,511,1023]) [[7]]))) (.cut [] [(92,104)] (.y (.x (.dc [7,11] (k_ [0,1,3,7,15,0,0,127,255,511,511,2047]) [[7]]))) .nil))))) .nil)))))))) func235 h C_
def ru(b i j:Nat):(⟨b,i,none⟩:Addr).add j=⟨b,i+j,none⟩:=by rw[<-AH b i,Addr.add_add,AH]
def Uo(b:Nat):∀(us:V_) (p:Nat) (w:e_),w.setCells b p us=FE w ⟨b,0,none⟩ p us:=by
 intro us;induction us with
 |nil=>intro p w;rfl
 |cons v us i=>intro p w;rw[World.setCells,FE,AH,i]
def Bx.copy{b o O dc sl sc:Nat}{a:Addr}{vs us:V_}{Q U ty i:TypeId}(hu:P.underlying Q=some (.slice i))(Y:(P.info? i).map (·.size)=some 1) (h:Bx W b vs)(Z:us.length=min sl O)(V:us=[]\/o+us.length<=vs.length)(I:∀j v,us[j]?=some v->W.cell? (a.add j)=some v)(h1:∀v∈us,v.oneCell'=true) (X:∀W',Bx W' b (L7 vs o us)->AK (λx=>x=b) W W'->K (zI (us.length:Int)) W') : runK P (Builtin.copy_ #[Q,U] ty [Value.slice (some ⟨b,o,none⟩) O dc,.slice (some a) sl sc].toArray) K W:=by
 have B:∀j,j<us.length->Cv W ⟨b,o+j,none⟩:=λj J=>by
  rcases V with e|e;subst e;exact(aBC _ J).elim;exact h.Cb _ E
 apply AZ (run_copy_cells W Q U ty i b o O dc a sl sc us hu Y Z I (λj J=>(B j J).1) (λj J=>(B j J).2) h1);rw[Uo];rcases V with e|e;subst e;exact X _ h (AK.refl _ _);have:=h.FE us o W vs e;exact X _ this.1 this.2
def iQ:prog.underlying 247=some (.array (prog.arrayLen 247) (prog.elem 247))/\prog.arrayLen 247=32/\prog.elem 247=21:=by
 have hu:=underlying247;have i:prog.arrayLen 247=32:=by simp[Program.arrayLen,hu]
 have j:prog.elem 247=21:=by simp[Program.elem,hu]
 exact⟨by rw[i,j];exact hu,i,j⟩
def iZ(w:e_):(sizeOf 21).run prog w=.ok 1 w:=by
 simp[sizeOf,Tryz.typeInfo21,S6];rfl
def oe{b i:Nat}(h:i<32)(j:K (.pointer (some ⟨b,i,none⟩)) W):runK prog (Instr.indexAt 247 (g_ b) (zI (i:Int))) K W:=by
 obtain⟨ht,o,B⟩:=iQ;refine AZ ?_ j;rw[run_indexAt_array W _ _ _ _ ht,Cx ⟨E,by rw[o];omega⟩,B,iZ,S6,wI,xd,AH]
def RJ{b:Nat}(i:K (.slice (h_ b) 32 32) W):runK prog (Instr.sliceAt 247 (g_ b) none none none) K W:=by
 obtain⟨ht,j,o⟩:=iQ;refine AZ ?_ i;rw[run_sliceAt_array_all W _ _ ht,o,iZ,S6,j];simp[slicedAt,AH]
def nK{b h:Nat}(B:h<=32)(j:K (.slice (h_ b) h 32) W):runK prog (Instr.sliceAt 247 (g_ b) none (some (zI (h:Int))) none) K W:=by
 obtain⟨ht,i,o⟩:=iQ;refine AZ ?_ j;rw[run_sliceAt_array_h W _ _ ht _ _ E (by rw[i];omega),o,iZ,S6,i];simp[slicedAt,AH]
def tj{b l:Nat}(hl:l<=32)(j:K (.slice (some ⟨b,if 32=l then 0 else l,none⟩) (32-l) (32-l)) W):runK prog (Instr.sliceAt 247 (g_ b) (some (zI (l:Int))) none none) K W:=by
 obtain⟨ht,i,o⟩:=iQ;refine AZ ?_ j;rw[run_sliceAt_array_l W _ _ ht _ _ E (by rw[i];omega),o,iZ,S6,i];simp[slicedAt,wI,xd,AH];by_cases e:32=l;rw[Cx e,Cx e];rw[Bp e,Bp e]
def oV{b l h:Nat}(hl:l<=h)(B:h<=32)(j:K (.slice (some ⟨b,if 32=l then 0 else l,none⟩) (h-l) (32-l)) W):runK prog (Instr.sliceAt 247 (g_ b) (some (zI (l:Int))) (some (zI (h:Int))) none) K W:=by
 obtain⟨ht,i,o⟩:=iQ;refine AZ ?_ j;rw[run_sliceAt_array_lh W _ _ ht _ _ _ _ E E (by rw[i];omega),o,iZ,S6,i];simp[slicedAt,wI,xd,AH];by_cases e:32=l;rw[Cx e,Cx e];rw[Bp e,Bp e]
def Tj{e d:Nat}{k:IntKind}(he:P.plainKey e=true)(hu:P.underlying e=some (.int k)){xs o:Array d_}:∀is:X',(∀i∈is,∃a b,xs[i*1]?=some (.int k a)/\o[i*1]?=some (.int k b))->∃r,(Op.eqItems (d+1) e 1 xs o is).run P w=.ok r w:=by
 intro is;induction is with
 |nil=>intro _;exact⟨true,by simp[Op.eqItems]⟩
 |cons i is B=>
  intro h;obtain⟨a,b,h1,I⟩:=h i D_;obtain⟨r,hr⟩:=B λj J=>h j (by simp[J]);simp only[Op.eqItems,td,run_part_plain w he h1,run_part_plain w he I,yC w d e k k a b hu,S6];cases a==b;exact⟨false,D_⟩;exact⟨r,by simpa using hr⟩
def sB{xs o:X_}(I:xs.length=32)(J:o.length=32)(O:∀r:Bool,K (.bool r) W) : runK prog (ET .eql 247 xo yo (.agg (xs.map (Value.int .i32)).toArray) (.agg (o.map (Value.int .i32)).toArray)) K W:=by
 have hu:=underlying21;have hp:prog.plainKey 21=true:=by simp[Program.plainKey,hu]
 have hc:prog.cellsOf 21=1:=C_;obtain⟨i,hi⟩:∃i,prog.info? 21=some i:=⟨Tryz.t21,C_⟩;have key:∃r,(Op.equalIn 10000 247 (.agg (xs.map (Value.int .i32)).toArray) (.agg (o.map (Value.int .i32)).toArray)).run prog W=.ok r W:=by
  rw[run_equalIn_array W 9999 _ _ underlying247 hi,hc];refine Tj (d:=9998) hp hu _ λj Q=>?_;have B:=xh.1 Q;exact⟨xs[j]'(E),o[j]'(E),by simp[I,B],by simp[J,B]⟩
 obtain⟨r,hr⟩:=key;refine AZ (v:=.bool r) (w':=W) ?_ (O r);have U:prog.eqGuardType prog.depth 247=false:=C_;have V:(eqGuard .eql 247 xo yo (.agg (xs.map (Value.int .i32)).toArray) (.agg (o.map (Value.int .i32)).toArray)).run prog W=.ok () W:=by
  simp[eqGuard,U]
 simp[ET,td,V,S6];rw[run_eql_struct,hr];rfl
structure Ck where
 l:X_
 le:l.length<=32
abbrev _root_.Go.c_:=List Ck
namespace Ck
def nil:Ck:=⟨[],D_⟩
def tk(c:Ck)(i:Nat):Ck:=⟨c.l.take i,by have:=c.le;simp only[K8];omega⟩
def dp(c:Ck)(i:Nat):Ck:=⟨c.l.drop i,by have:=c.le;simp only[FB];omega⟩
def jn(a b:Ck):Ck:=if h:a.l.length+b.l.length<=32 then⟨a.l++b.l,by simpa using h⟩ else nil
def all(c:Ck):X_:=c.l++List.replicate (32-c.l.length) 0
def cells(c:Ck):V_:=c.all.map (Value.int .i32)++[zI (c.l.length:Int)]
def NF(c:Ck):c.all.length=32:=by have:=c.le;simp[all];omega
def len(c:Ck):c.cells.length=33:=by simp[cells,c.NF]
def one(c:Ck):∀u∈c.cells,u.oneCell'=true:=λu hu=>by
 simp only[cells,DN,i7,so] at hu;rcases hu with⟨_,_,rfl⟩|rfl<;>rfl
def n(c:Ck):c.cells[32]?=some (zI (c.l.length:Int)):=by
 rw[cells,qz (by rw[FA,c.NF];exact HK _),FA,c.NF];rfl
def rz(c:Ck){u:d_}(h:(c.all.map (Value.int .i32))[j]?=some u):c.cells[j]?=some u:=by
 rw[cells,PF (Bq.1 h).1];exact h
def get(c:Ck)(h:j<c.l.length):c.cells[j]?=some (.int .i32 c.l[j]):=by
 refine c.rz ?_;rw[vy,all,PF h,By h];rfl
def fill(c:Ck){us:X_}(h:c.l.length+us.length<=32):(L7 c.cells c.l.length (us.map (Value.int .i32))).set 32 (zI ((c.l.length+us.length:Nat):Int))=cells ⟨c.l++us,by simpa using h⟩:=by
 have i:c.cells=c.l.map (Value.int .i32)++(List.replicate (32-c.l.length) (Value.int .i32 0)++[zI (c.l.length:Int)]):=by
  simp[cells,all]
 have j:c.cells.take c.l.length=c.l.map (Value.int .i32):=by rw[i,y9 (by simp)]
 have o:c.cells.drop (c.l.length+us.length)=List.replicate (32-c.l.length-us.length) (Value.int .i32 0)++[zI (c.l.length:Int)]:=by
  rw[i,<-yG,yW (by simp),List.drop_append_of_le_length (by simp;omega),List.drop_replicate]
 rw[RB _ _ _ (by rw[c.len];simp;omega),j,FA,o,<-Mp,wV _ _ (by simp;omega)];have B:32-(c.l.map (Value.int .i32)++us.map (Value.int .i32)++List.replicate (32-c.l.length-us.length) (Value.int .i32 0)).length=0:=by simp;omega
 rw[B];simp[cells,all,aAq]
def gE{us:X_}(h:us.length<=32):(L7 nil.cells 0 (us.map (Value.int .i32))).set 32 (zI (us.length:Int))=cells ⟨us,h⟩:=by
 have:=fill nil (us:=us) (by simpa[nil] using h);simp only[nil,gC,wS,u7] at this;exact this
end Ck
abbrev Bj(l:X_):Nat:=l.count 10
def rC(c:Ck):AF prog 228 [.agg c.cells.toArray] (λv w'=>v=zI (c.l.length:Int)/\AI w w') w:=by
 apply H_ func228;refine Bx.box λb j hb i B=>?_;rw[AB,AH];exact AD (B.cells 32 _ c.n) ⟨rfl,i⟩
def VP(c:Ck)(i:Nat):AF prog 253 [.agg c.cells.toArray,zI (i:Int)] (λv w'=>v=zI (Bj (c.l.take i):Int)/\AI w w') w:=by
 refine G_ func253 ?_ (.y (.x (.y (.node [4,11] [(4,5),(11,21)] .nil .nil))));refine Bx.box λb O hb U B=>?_;rw[HS,AB,AH];apply AD (B.cells 32 _ c.n);have V:=c.le;have e:∀{k:d_->Prop},k (zI ((min i c.l.length:Nat):Int))->QO .i64 (zI (if(0:Int)>(i:Int) then 0 else(i:Int))) (zI (c.l.length:Int)) k:=λ{k} h=>by
  rw[Bp E,Iv];have:(if(c.l.length:Int)<(i:Int) then(c.l.length:Int) else(i:Int))=((min i c.l.length:Nat):Int):=by split<;>omega
  rw[this];exact h
 apply e;apply AX (λvs W=>∃k:Nat,k<=min i c.l.length/\vs=[zI (Bj (c.l.take k):Int),zI k]/\W=O) (λvs _=>32-Di vs 1) ⟨0,Hw _,rfl,rfl⟩;rintro vs _ ⟨k,hk,rfl,rfl⟩ _;rename e_=>O;simp only[Iu];refine HP (λX=>?_) λY=>?_;have j:k<c.l.length:=E;rw[AB,AH];refine oe E (AD (B.cells k _ (c.get j)) ?_);rw[Aj];have Q:c.l.take (k+1)=c.l.take k++[c.l[k]]:=by rw[Lc];simp[j]
 have hb:Bj (c.l.take k)<=32:=vx List.count_le_length (by rw[K8];omega);refine AE (λo=>?_) λo=>?_;have I:Bj (c.l.take (k+1))=Bj (c.l.take k)+1:=by rw[Q,Bj,yb,o];simp
 rw[AR,wrap64 E E,AR,wrap64 E E];refine⟨⟨k+1,E,?_,rfl⟩,by rw[BE,BE];omega⟩;rw[I];rfl;have I:Bj (c.l.take (k+1))=Bj (c.l.take k):=by
  have:¬c.l[k]=(10:Int):=o;rw[Q,Bj,yb];simp[this]
 rw[AR,wrap64 E E];refine⟨⟨k+1,E,?_,rfl⟩,by rw[BE,BE];omega⟩;rw[I];rfl;have J:k=min i c.l.length:=E;subst J;refine⟨?_,U⟩;rw[show c.l.take (min i c.l.length)=c.l.take i by
  rcases Nat.le_total i c.l.length with h|h;rw[u6 h];rw[Nat.min_eq_right h,Nr,wM h]]
def Vn(c:Ck):AF prog 229 [.agg c.cells.toArray] (λv w'=>v=zI (Bj c.l:Int)/\AI w w') w:=by
 apply H_ func229;refine Bx.box λb o hb i B=>?_;apply B.GN c.len;rw[AB,AH];apply AD (B.cells 32 _ c.n);apply AA (VP c c.l.length);rintro _ I ⟨rfl,j⟩;exact⟨by rw[Nr],i.trans j⟩
def JB:X_->Nat->Option Nat
 |[],_=>none
 |r::t,k=>if r=10 then(match k with | 0=>some 0 | k+1=>(JB t k).map (·+1)) else(JB t k).map (·+1)
def JD(r:Int)(t:X_)(k:Nat):JB (r::t) k=if r=10 then(match k with|0=>some 0|k+1=>(JB t k).map (·+1)) else(JB t k).map (·+1):=by cases k<;>rfl
def uf:Option Nat->d_
 |some i=>.tuple #[.int .i64 (i:Int),.bool true]
 |none=>.tuple #[.int .i64 0,.bool false]
def UK(c:Ck){k:Nat}(hk:k<=1099511627776):AF prog 273 [.agg c.cells.toArray,zI (k:Int)] (λv w'=>v=uf (JB c.l k)/\AI w w') w:=by
 refine G_ func273 ?_ (.y (.x (.y (.node [1,9] [(1,1),(4,6),(9,22)] .nil .nil))));refine Bx.box λb U hb V B=>?_;rw[AB,AH];apply AD (B.cells 32 _ c.n);have X:=c.le;refine AX (λvs W=>∃i m:Nat,i<=c.l.length/\m<=k/\vs=[zI m,zI i]/\JB c.l k=(JB (c.l.drop i) m).map (·+i)/\W=U) (λvs _=>32-Di vs 1) ⟨0,k,Hw _,HK _,rfl,by rw[xP];cases JB c.l k<;>rfl,rfl⟩ ?_;rintro vs _ ⟨i,m,hi,hm,rfl,j,rfl⟩ _;rename e_=>U;simp only[Iu];refine HP (λY=>?_) λZ=>?_;have I:i<c.l.length:=E;rw[AB,AH];refine oe E (AD (B.cells i _ (c.get I)) ?_);rw[BH];rw[wT I,JD] at j;have O:∀o:Option Nat,(o.map (·+1)).map (·+i)=o.map (·+(i+1)):=λo=>by cases o<;>simp;omega
 refine AT (λQ=>?_) λQ=>?_;have J:=Q;rw[Cx J] at j;rw[Aj];refine AE (λh0=>?_) λh0=>?_;obtain rfl:m=0:=E;exact⟨by rw[j];simp[uf],V⟩;obtain⟨m,rfl⟩:∃m',m=m'+1:=⟨m-1,E⟩;simp only[O] at j;rw[A6,wrap64 E E,AR,wrap64 E E];refine⟨⟨i+1,m,I,E,?_,j,rfl⟩,by rw[BE,BE];omega⟩;congr 2;omega;have J:=Q;rw[Bp J,O] at j;rw[AR,wrap64 E E];exact⟨⟨i+1,m,I,hm,rfl,j,rfl⟩,by rw[BE,BE];omega⟩;obtain rfl:i=c.l.length:=E;rw[xq] at j;exact⟨by rw[j];rfl,V⟩
def jZ(c:Ck):AF prog 175 [.agg c.cells.toArray] (λv w'=>AG w.heap.size 21 1 CM w' v c.l/\AI w w') w:=by
 apply H_ func175;refine Bx.box λb V hb J B=>?_;have I:=c.le;rw[AB,AB,AH,AH];refine AD (B.cells 32 _ c.n) (nK I ?_);refine AA (Nu (S:=λ_=>True) (l:=c.l) ⟨_,_,rfl,E,by simp[maxLen],λi x O=>⟨_,[.int .i32 x],rfl,trivial,rfl,λj u hu=>?_,rfl⟩⟩ E) ?_;obtain⟨hi,rfl⟩:=Bq.1 O;obtain⟨rfl,rfl⟩:j=0/\u=.int .i32 c.l[i]:=by
  cases j with
  |zero=>simp at hu;exact⟨rfl,hu.symm⟩
  |succ j=>simp at hu
 rw[AH];exact B.cells _ _ (by simpa using c.get hi);rintro v X ⟨o,Q⟩;have:=J.size;exact⟨AG.Bk o λg U=>by have:=(AG.Az o g U).1;omega,J.trans Q⟩
def jY(c:Ck){i:Nat}(hi:i<=c.l.length):AF prog 231 [.agg c.cells.toArray,zI (i:Int)] (λv w'=>v=.tuple #[.agg (c.tk i).cells.toArray,.agg (c.dp i).cells.toArray,zI 0]/\AI w w') w:=by
 refine G_ func231 ?_ (.y (.cut [] [(6,16)] .nil (.cut [] [(17,23)] (.dt [1,4,5,7] (k_ [0,1,0,0,12,31,63,127]) [[1,4,5]] (.op 0 (.op 2 (.op 3 (.br (.op 1 (.op 4 (.op 5 (.op 6 (.op 7 .nil))))) (.op 4 (.op 1 (.op 5 (.op 6 (.op 7 .nil)))))))))) (.cut [] [(24,32)] (.dt [1,6,7,9] (k_ [0,1,0,0,0,16,60,127,255,511]) [[1,6,7]] (.op 0 (.op 2 (.op 3 (.op 4 (.op 5 (.br (.op 1 (.op 6 (.op 7 (.op 8 (.op 9 .nil))))) (.op 6 (.op 1 (.op 7 (.op 8 (.op 9 .nil)))))))))))) .nil))));refine Bx.box λb2 w1 a6 g1 B2=>?_;refine Bx.zero λb4 w2 a7 g2 B4=>?_;refine Bx.zero λb5 w3 a8 Z B5=>?_;have V:=c.le;have l2:=B2.lt (by rw[c.len];omega);have l4:=B4.lt B_;have l5:=B5.lt B_;have C2:=(B2.U_ g2).U_ Z;have C4:Bx w3 b4 Ck.nil.cells:=B4.U_ Z;have C5:Bx w3 b5 Ck.nil.cells:=B5;have z1:=g1.size;have z2:=g2.size;have z3:=Z.size;have hu:=underlying46;have hs:(prog.info? 21).map (·.size)=some 1:=C_;have Q:(c.l.take i).length=i:=by rw[K8];omega
 have U:(c.l.drop i).length=c.l.length-i:=FB;have O:∀l:X_,∀v∈l.map (Value.int .i32),v.oneCell'=true:=λl v X=>by
  obtain⟨_,_,rfl⟩:=i7.1 X;rfl
 refine AV (λ_ W=>W=w3) ?_ ?_
 .rintro _ W rfl _;refine AV (λ_ J=>Bx J b2 c.cells/\Bx J b4 (c.tk i).cells/\Bx J b5 Ck.nil.cells/\AI w J/\W.heap.size<=J.heap.size) ?_ ?_
  .rintro _ W1 ⟨D2,D4,D5,gW,zW⟩ _;refine AV (λ_ J=>Bx J b4 (c.tk i).cells/\Bx J b5 (c.dp i).cells/\AI w J) ?_ ?_
   .rintro _ W2 ⟨E4,E5,a1⟩ _;refine E4.GN (Ck.len _) (E5.GN (Ck.len _) ?_);refine E4.Au (Ck.len _) (Ck.len _) (Ck.one _) λW3 F4 o=>?_;refine(E5.U' o E).Au (Ck.len _) (Ck.len _) (Ck.one _) λW4 F5 m4=>?_;refine(F4.U' m4 E).GN (Ck.len _) (F5.GN (Ck.len _) ⟨rfl,?_⟩);exact(a1.next o E).next m4 E
   .have B:AI W1 W1.drew:=AK.drew _ _;have Y:=D2.U_ B;have H4:=D4.U_ B;apply Ag (λ_ y=>y=b5);rw[AB,AB,AB,AH,AH,AH];refine AU ⟨Y.cells 32 _ c.n,λ_ _ e=>by simp only at e;omega⟩ ?_;refine⟨RJ ⟨AK.refl _ _,oV hi V ⟨AK.refl _ _,?_⟩⟩,oV hi V ⟨AK.refl _ _,RJ ⟨AK.refl _ _,?_⟩⟩⟩ <;>
    .refine(D5.U_ B).copy hu hs (us:=(c.l.drop i).map (Value.int .i32)) (by rw[FA,U];omega) (.inr (by rw[FA,U,Ck.len];omega)) (λj v X=>?_) (O _) λW2 I5 I=>?_
     .obtain⟨hj,rfl⟩:=Bq.1 X;rw[FA,U] at hj;rw[Bp E,wz,List.getElem_drop,ru];exact Y.cells (i+j) _ (c.get E)
     refine⟨I,?_⟩;rw[AB,AH];refine I5.st (q:=32) (by rw[PY,Ck.len];omega) rfl rfl λW3 J5 o=>⟨o,?_⟩;rw[FA] at J5;rw[Ck.gE (us:=c.l.drop i) E] at J5;refine⟨((D4.U_ B).U' I E).U' o E,J5,?_⟩;exact(((gW.trans B).next I E)).next o E
  .have B:AI W W.drew:=AK.drew _ _;have Y:=C2.U_ B;apply Ag (λ_ y=>y=b4);rw[AB,AB,AH,AH];refine⟨RJ ⟨AK.refl _ _,nK E ⟨AK.refl _ _,?_⟩⟩,nK E ⟨AK.refl _ _,RJ ⟨AK.refl _ _,?_⟩⟩⟩ <;>
   .refine(C4.U_ B).copy hu hs (us:=(c.l.take i).map (Value.int .i32)) (by rw[FA,Q];omega) (.inr (by rw[FA,Q,Ck.len];omega)) (λj v X=>?_) (O _) λW2 I4 I=>?_
    .obtain⟨hj,rfl⟩:=Bq.1 X;rw[FA,Q] at hj;rw[AH,wz,yc];exact Y.cells j _ (c.get E)
    refine⟨I,?_⟩;rw[AB,AH];refine I4.st (q:=32) (by rw[PY,Ck.len];omega) rfl rfl λW3 J4 o=>⟨o,?_⟩;rw[FA] at J4;rw[Ck.gE (us:=c.l.take i) E] at J4;have zd:=B.size;have s2:=I.size;have s3:=o.size;refine⟨(Y.U' I E).U' o E,J4,((C5.U_ B).U' I E).U' o E,?_,E⟩;exact(((((g1.trans g2).trans Z).trans B).next I E)).next o E
 .rw[As];refine AE E λ_=>?_;rw[AB,AH];apply AD (C2.cells 32 _ c.n);rw[BM];exact AE E I_
structure Spn where
 n:Nat
 id:Int
 deriving DecidableEq
abbrev _root_.Go.Z':=List Spn
namespace Spn
def u(s:Spn):X_:=List.replicate s.n s.id
def KQ:Option Int->Z'->Prop
 |_,[]=>True
 |p,s::t=>0<s.n/\p≠some s.id/\KQ (some s.id) t
def rn(x:Int):Option Int->X_->Nat
 |_,[]=>0
 |p,y::t=>(if y=x/\p≠some x then 1 else 0)+rn x (some y) t
def JW(p:Option Int)(l:X_):Option Int:=match l.getLast? with|some y=>some y|none=>p
def XR(p:Option Int)(y:Int)(l:X_):JW p (y::l)=JW (some y) l:=by
 unfold JW;cases l with
 |nil=>rfl
 |cons z l=>rw[aA1];cases h:(z::l).getLast? with
  |none=>simp at h
  |some q=>rfl
def Pu(x:Int)(p:Option Int)(l m:X_):rn x p (l++m)=rn x p l+rn x (JW p l) m:=by
 induction l generalizing p with
 |nil=>simp[rn,JW]
 |cons y l i=>rw[No,rn,rn,i,XR];omega
def qO(x:Int)(p:Option Int)(n:Nat)(y:Int):rn x p (List.replicate (n+1) y)=if y=x/\p≠some x then 1 else 0:=by
 induction n generalizing p with
 |zero=>simp[rn]
 |succ n i=>
  rw[wB,rn,i];by_cases h:y=x
  .subst h;simp
  .simp[h]
def bJ(p:Option Int)(n:Nat)(y:Int):JW p (List.replicate (n+1) y)=some y:=by
 unfold JW;rw[List.getLast?_replicate];simp
def dK(x:Int)(p:Option Int)(l:Z')(h:KQ p l):l.countP (λs=>decide (s.id=x))=rn x p (l.flatMap u):=by
 induction l generalizing p with
 |nil=>rfl
 |cons s l i=>
  obtain⟨h1,j,o⟩:=h;obtain⟨m,hm⟩:∃m,s.n=m+1:=⟨s.n-1,by omega⟩;rw[zR,i _ o,vr,Pu,u,hm,qO,bJ];by_cases h:s.id=x
  .subst h;simp[j];omega
  .simp[h]
def Fx(p:Option Int)(l:Z'):Option Int:=match l.getLast? with|some s=>some s.id|none=>p
def VF(p:Option Int)(y:Spn)(l:Z'):Fx p (y::l)=Fx (some y.id) l:=by
 unfold Fx;cases l with
 |nil=>rfl
 |cons z l=>rw[aA1];cases h:(z::l).getLast? with
  |none=>simp at h
  |some q=>rfl
def KA{p:Option Int}{l m:Z'}:KQ p (l++m)↔KQ p l/\KQ (Fx p l) m:=by
 induction l generalizing p with
 |nil=>simp[KQ,Fx]
 |cons s l i=>rw[No,KQ,KQ,i,VF];constructor<;>(rintro⟨h1,j⟩;simp_all)
def VD{p:Option Int}{l:Z'}:KQ p l↔KQ none l/\∀s∈l.head?,p≠some s.id:=by
 cases l with
 |nil=>simp[KQ]
 |cons s l=>
  simp only[KQ,List.head?_cons,Option.mem_def,S5,forall_eq'];exact⟨λ⟨a,b,c⟩=>⟨⟨a,by simp,c⟩,b⟩,λ⟨⟨a,b,c⟩,d⟩=>⟨a,d,c⟩⟩
def Qi{p:Option Int}{l:Z'}(h:KQ p l):KQ none l:=(VD.1 h).1
def kd:Kd Spn where
 μ:=λs=>(s.n,0)
 cut:=λs p=>(⟨p,s.id⟩,⟨s.n-p,s.id⟩)
 meld:=λa b=>if a.id=b.id then some ⟨a.n+b.n,a.id⟩ else none
def FQ:kd.HI u where
 size:=λs=>by simp[kd,u]
 cut1:=λs p h0 h1=>by
  rw[u,wu] at h1;simp only[kd,u,List.take_replicate,List.drop_replicate];exact⟨by rw[u6 (by omega)],trivial⟩
 melds:=λa b c h=>by
  simp only[kd] at h;split at h
  .rename_i e;cases h;simp only[u,e,yi]
  .cases h
def N8{out:Z'}(x:Spn)(h:KQ none out):KQ none (kd.DA out x)/\(∀y,out.head?=some y->∃z,(kd.DA out x).head?=some z/\z.id=y.id)/\(0<x.n->Fx none (kd.DA out x)=some x.id)/\(out=[]->0<x.n->(kd.DA out x).head?=some x)/\(x.n=0->kd.DA out x=out):=by
 unfold Kd.DA;rw[show(kd.μ x).1=x.n from rfl];by_cases h0:x.n=0
 .rw[Cx h0];exact⟨h,λy B=>⟨y,B,rfl⟩,λh1=>by omega,λ_ h1=>by omega,λ_=>rfl⟩
 .rw[Bp h0];rcases tG out with rfl|⟨o,y,rfl⟩
  .simp[KQ,Fx];omega
  .rw[vq] at h ⊢;obtain⟨h1,j⟩:=KA.1 h;simp only[R0,WJ,vz,wK];by_cases hm:y.id=x.id
   .rw[show kd.meld y x=some ⟨y.n+x.n,y.id⟩ by simp[kd,hm]];refine⟨KA.2 ⟨h1,?_,j.2.1,trivial⟩,λz i=>?_,λ_=>by simp[Fx,hm],λe=>by simp at e,λe=>(h0 e).elim⟩
    .have:=j.1;simp only;omega
    .cases o with
     |nil=>simp at i;subst i;exact⟨_,rfl,rfl⟩
     |cons w o=>exact⟨z,by simpa using i,rfl⟩
   .rw[show kd.meld y x=none by simp[kd,hm]];refine⟨KA.2 ⟨h,by omega,by simp[Fx,hm],trivial⟩,λz i=>⟨z,?_,rfl⟩,λ_=>by simp[Fx],λe=>by simp at e,λe=>(h0 e).elim⟩;rw[List.head?_append,i];rfl
def MO(l:Z'):∀out,KQ none out->KQ none (l.foldl kd.DA out)/\(∀y,out.head?=some y->∃z,(l.foldl kd.DA out).head?=some z/\z.id=y.id):=by
 induction l with
 |nil=>exact λout h=>⟨h,λy i=>⟨y,i,rfl⟩⟩
 |cons x l o=>
  intro out h;obtain⟨a,b,_⟩:=N8 x h;obtain⟨c,d⟩:=o _ a;refine⟨c,λy i=>?_⟩;obtain⟨z,B,e⟩:=b y i;obtain⟨I,j,J⟩:=d z B;exact⟨I,j,J.trans e⟩
def TG(l:Z')(at':Nat):∀p,KQ p l->KQ p (kd.split l at').1/\KQ none (kd.split l at').2:=by
 induction l generalizing at' with
 |nil=>intro p _;exact⟨trivial,trivial⟩
 |cons s l i=>
  intro p h;simp only[Kd.split];by_cases h0:at'=0
  .rw[Cx h0];exact⟨trivial,Qi h⟩
  .rw[Bp h0];obtain⟨a,b,c⟩:=h;by_cases h1:(kd.μ s).1<=at'
   .rw[Cx h1];obtain⟨d,e⟩:=i (at'-(kd.μ s).1) _ c;exact⟨⟨a,b,d⟩,e⟩
   .rw[Bp h1];simp only[kd] at h1;exact⟨⟨by simp only[kd];omega,b,trivial⟩,by simp only[kd];omega,by simp,c⟩
def Vu(y z:Option Spn)(l:Z')(j:∀s∈y,0<s.n)(o:∀s∈z,0<s.n) : (∀s∈y,∃t,(kd.melded (y.toList++l++z.toList)).head?=some t/\t.id=s.id)/\(∀s∈z,Fx none (kd.melded (y.toList++l++z.toList))=some s.id):=by
 constructor
 .intro s i;cases i;have:=j s rfl;unfold Kd.melded;simp only[yz,No,u7,wP];have hm:=N8 s (out:=[]) trivial;obtain⟨B,h1,I⟩:=(MO (l++z.toList) _ hm.1).2 s (hm.2.2.2.1 rfl this);exact⟨B,h1,I⟩
 .intro s i;cases i;have:=o s rfl;unfold Kd.melded;rw[yz,wG,wP,yn];exact(N8 s (MO _ [] trivial).1).2.2.1 this
def NI{p:Option Int}{l:Z'}(h:KQ p l):∀s∈l,0<s.n:=by
 induction l generalizing p with
 |nil=>intro s i;simp at i
 |cons x l j=>
  intro s i;rcases I3.1 i with rfl|i
  .exact h.1
  .exact j h.2.2 s i
def iV{a b M:Z'}(ha:KQ none a)(hb:KQ none b)(hm:KQ none M)(O:∀s∈a.getLast?,∃t,M.head?=some t/\t.id=s.id)(Q:∀s∈b.head?,Fx none M=some s.id):KQ none (a.dropLast++M++b.tail):=by
 rw[KA,KA];refine⟨⟨?_,?_⟩,?_⟩
 .rcases tG a with rfl|⟨o,y,rfl⟩
  .exact trivial
  .rw[vq] at *;rw[wK];exact(KA.1 ha).1
 .rw[VD];refine⟨hm,λs B=>?_⟩;rcases tG a with rfl|⟨o,y,rfl⟩
  .simp[Fx]
  .rw[vq] at *;rw[wK];obtain⟨q,I,j⟩:=O y (by simp);have:s=q:=by rw[Option.mem_def] at B;rw[B] at I;exact r9 I
   rw[this,j];exact(KA.1 ha).2.2.1
 .cases b with
  |nil=>exact trivial
  |cons z b=>
   have i:=Q z (by simp);have e:Fx none (a.dropLast++M)=some z.id:=by
    unfold Fx at i ⊢;rw[R0];cases J:M.getLast? with
    |some s=>rw[J] at i;exact i
    |none=>rw[J] at i;cases i
   rw[e];exact hb.2.2
def K4{t:Z'}(i j:Nat)(l:Z')(h:KQ none t):KQ none (kd.Cw t i j l):=by
 obtain⟨ha,o⟩:=TG t i _ h;obtain⟨_,hb⟩:=TG (kd.split t i).2 (j-i) _ o;obtain⟨I,J⟩:=Vu (kd.split t i).1.getLast? (kd.split (kd.split t i).2 (j-i)).2.head? l (λs B=>NI ha s (xI B)) (λs B=>NI hb s (List.mem_of_head? B));exact iV ha hb (MO _ [] trivial).1 I J
def ag(x:Int)(P Q Q' R:X_)(h1:P≠[]->Q.head?=Q'.head?/\Q≠[]/\Q'≠[])(o:R≠[]->Q.getLast?=Q'.getLast?/\Q≠[]/\Q'≠[]) : rn x none (P++Q++R)+rn x none Q'=rn x none (P++Q'++R)+rn x none Q:=by
 rw[Pu,Pu,Pu x none (P++Q'),Pu x none P Q'];have first:∀(p:Option Int) (Q Q':X_),Q.head?=Q'.head?->Q≠[]->Q'≠[]->rn x p Q+rn x none Q'=rn x p Q'+rn x none Q:=by
  intro p Q Q' h B i;cases Q with
  |nil=>exact(B rfl).elim
  |cons a Q=>cases Q' with
   |nil=>exact(i rfl).elim
   |cons b Q'=>
    simp only[List.head?_cons,S5] at h;subst h;simp only[rn];omega
 have O:rn x (JW none P) Q+rn x none Q'=rn x (JW none P) Q'+rn x none Q:=by
  cases P with
  |nil=>simp only[JW,aAp];omega
  |cons a P=>obtain⟨j,I,J⟩:=h1 (by simp);exact first _ _ _ j I J
 have U:rn x (JW none (P++Q)) R=rn x (JW none (P++Q')) R:=by
  cases R with
  |nil=>rfl
  |cons a R=>
   obtain⟨j,_⟩:=o (by simp);congr 1;unfold JW;rw[R0,R0,j]
 omega
end Spn
def Spn.cells(s:Spn):V_:=[zI (s.n:Int),zI s.id]
def Spn.one(q:Spn):∀u∈q.cells,u.oneCell'=true:=λu hu=>by
 simp[Spn.cells,I3,wA,xx] at hu;rcases hu with rfl|rfl<;>rfl
def UZ{r t:V_}{A_:Nat}(h:r.length=A_):(r++t).toArray.extract 0 A_=r.toArray:=by
 subst h;simp
def Zx(s:Spn):Be prog En MV.vm [.agg s.cells.toArray] (λv w'=>v=.tuple #[zI (s.n:Int),zI 0]/\AI w w') w:=by
 refine⟨_,[],[],rfl,C_,?_⟩;apply H_ func239;refine Bx.box λb j hb i B=>?_;rw[AB,AH];exact AD (B.cells 0 _ rfl) ⟨rfl,i⟩
def du(s:Spn){p:Nat}(h0:0<p)(h1:p<s.n)(h2:s.n<=1099511627776):Be prog En MV.vc [.agg s.cells.toArray,zI (p:Int)] (λv w'=>v=.tuple #[.agg (Spn.cells ⟨p,s.id⟩).toArray,.agg (Spn.cells ⟨s.n-p,s.id⟩).toArray]/\AI w w') w:=by
 refine⟨_,[],[],rfl,C_,?_⟩;refine G_ func240 ?_ (.y (.x (.dm [11,12] [0,0,2,7,0,16,0,112,0,256,1008,15,4095])));refine Bx.box λb2 w1 Z Q U=>?_;refine Bx.zero λb4 w2 a1 I V=>?_;refine Bx.zero λb5 X a6 B Y=>?_;have j:AI X X.drew:=AK.drew _ _;have i:=((U.U_ I).U_ B).U_ j;have l2:=U.lt (P9 _);have l4:=V.lt B_;have l5:=Y.lt B_;have z1:=Q.size;have z2:=I.size;have z3:=B.size;have zd:=j.size;apply Ag (λ_ y=>y=b4\/y=b5);rw[AB,AH];refine AU ⟨i.cells 1 _ rfl,λ_ _ e=>by rcases e with e|e<;>simp only at e<;>omega⟩ ?_;refine⟨(Spn.cells ⟨p,s.id⟩).toArray,C_,?_⟩;show BZ _ _ _;rw[AB,AH];refine AU ⟨i.cells 0 _ rfl,λ_ _ e=>by rcases e with e|e<;>simp only at e<;>omega⟩ ?_;apply Ir E E;rw[AB,AH];refine AU ⟨i.cells 1 _ rfl,λ_ _ e=>by rcases e with e|e<;>simp only at e<;>omega⟩ ?_;refine⟨(Spn.cells ⟨s.n-p,s.id⟩).toArray,C_,?_⟩;have o:=Spn.one;refine((V.U_ B).U_ j).Au rfl rfl (o _) λw4 C4 J=>⟨J.mono λ_ _ e=>.inl e,?_⟩;refine((Y.U_ j).U' J E).Au rfl rfl (o _) λw5 C5 O=>⟨O.mono λ_ _ e=>.inr e,?_⟩;refine(C4.U' O E).GN rfl (C5.GN rfl ⟨rfl,?_⟩);exact((((Q.trans I).trans B).trans j).next J E).next O E
def Zc(a b:Spn)(h1:a.n<=1099511627776)(h2:b.n<=1099511627776):Be prog En MV.vd [.agg a.cells.toArray,.agg b.cells.toArray] (λv w'=>AI w w'/\v=.tuple #[.agg (Spn.cells ⟨a.n+b.n,a.id⟩).toArray,.bool (decide (a.id=b.id))]) w:=by
 refine⟨_,[],[],rfl,C_,?_⟩;refine G_ func241 ?_ (.y (.x (.dm [13] [0,1,0,4,15,0,32,127,0,256,0,1024,3840,255,16383])));refine Bx.box λb2 w1 X J O=>?_;refine Bx.box λb3 w2 Y I Q=>?_;refine Bx.zero λb4 U Z B B4=>?_;have j:AI U U.drew:=AK.drew _ _;have i:=((O.U_ I).U_ B).U_ j;have o:=(Q.U_ B).U_ j;have l2:=O.lt (P9 _);have l3:=Q.lt (P9 _);have z1:=J.size;have z2:=I.size;have z3:=B.size;have zd:=j.size;apply Ag (λ_ y=>y=b4);rw[AB,AH];refine AU ⟨i.cells 0 _ rfl,λ_ _ e=>by simp only at e;omega⟩ ?_;rw[AB,AH];refine AU ⟨o.cells 0 _ rfl,λ_ _ e=>by simp only at e;omega⟩ ?_;apply Cy E;rw[AB,AH];refine AU ⟨i.cells 1 _ rfl,λ_ _ e=>by simp only at e;omega⟩ ?_;refine⟨(Spn.cells ⟨a.n+b.n,a.id⟩).toArray,C_,?_⟩;show BZ _ _ _;rw[AB,AH];refine AU ⟨i.cells 1 _ rfl,λ_ _ e=>by simp only at e;omega⟩ ?_;rw[AB,AH];refine AU ⟨o.cells 1 _ rfl,λ_ _ e=>by simp only at e;omega⟩ ?_;rw[Aj];refine(B4.U_ j).Au rfl rfl (Spn.one _) λw4 C4 V=>⟨V,?_⟩;refine C4.GN rfl ⟨?_,rfl⟩;exact(((J.trans I).trans B).trans j).next V E
def Ej:AvN Spn where
 toAvK:=MV
 k:=Spn.kd
 R:=λ_ _ r x=>r=x.cells
 pb:=64
 eb:=16
 pb_le:=B_
 eb_le:=B_
 Epos:=B_
 E1:=M'
 rlen:=λh=>by subst h;rfl
 rone:=λh=>by subst h;exact Spn.one _
 rcell:=λh=>by subst h;rfl
 rheap:=λh _=>h
 rsub:=λh _=>h
 zlen:=rfl
 zone:=Spn.one ⟨0,0⟩
 elP:=⟨Tryz.t445,.agg #[zI 0,zI 0,zI 0,zI 0,zI 0,zI 0,zI 0,.bool false],C_,C_,C_,C_,C_,by rfl,B_⟩
 elE:=⟨Tryz.t178,.agg #[zI 0,zI 0],C_,C_,C_,C_,C_,by rfl,B_⟩
 field0:=λr t w hr _ ht=>by
  have e:(Instr.field 387 (.agg (r++t).toArray) 0).run prog w=.ok (.agg ((r++t).toArray.extract 0 2)) w:=by
   have hu:=underlying387;have o:=Tryz.isAgg178;have z:∀w,(sizeOf 178).run prog w=.ok 2 w:=λw=>by simp only[sizeOf,td,Tryz.typeInfo178,S6,xV];rfl
   simp[Instr.field,run_underlying hu,part,o,z,asAgg]
  rw[UZ (A_:=2) hr] at e;exact e
 ok:=kD
 cutμ:=λx p h0 h1=>⟨rfl,rfl,rfl⟩
 meldμ:=λx y z h=>by
  simp only[Spn.kd] at h;split at h
  .cases h;exact⟨rfl,rfl⟩
  .cases h
 meas:=λ{C w r x} h=>by subst h;exact Zx x
 one0:=rfl
 okN:=fS
 cells:=Spn.cells
 Rc:=yY
 cutc:=λ{w x p} h0 h1 j=>du x h0 h1 j
 meldc:=λ{w x y} _ h1 j=>BI (Zc x y h1 j) λv w' h=>⟨h.1,Spn.cells ⟨x.n+y.n,x.id⟩,rfl,Spn.one _,by rw [h.2];by_cases e:x.id=y.id <;> simp [Spn.kd,e],λz i=>by
  simp only[Spn.kd] at i;split at i
  .cases i;rfl
  .cases i⟩
def Ug(l:X_):∀v∈l.map (Value.int .i32),v.oneCell'=true:=λv i=>by
 obtain⟨_,_,rfl⟩:=i7.1 i;rfl
def lj(a b:Ck):AF prog 233 [.agg a.cells.toArray,.agg b.cells.toArray] (λv w'=>v=.tuple #[.agg (a.jn b).cells.toArray,zI (if a.l.length+b.l.length<=32 then 0 else 8)]/\AI w w') w:=by
 refine G_ func233 ?_ (.y (.y (.cut [] [(5,5),(13,22)] .nil (.cut [] [(23,35)] (.dt [1,5,9,10,13] (k_ [0,1,0,0,8,28,0,0,128,448,1020,2047,4095,8191]) [[1,5,9,10]] (.op 0 (.op 2 (.op 3 (.op 4 (.op 6 (.op 7 (.op 8 (.br (.op 1 (.br (.op 5 (.op 9 (.op 10 (.op 11 (.op 12 (.op 13 .nil)))))) (.op 9 (.op 5 (.op 10 (.op 11 (.op 12 (.op 13 .nil)))))))) (.br (.op 5 (.br (.op 1 (.op 9 (.op 10 (.op 11 (.op 12 (.op 13 .nil)))))) (.op 9 (.br (.op 1 (.op 10 (.op 11 (.op 12 (.op 13 .nil))))) (.op 10 (.op 1 (.op 11 (.op 12 (.op 13 .nil))))))))) (.op 9 (.br (.op 1 (.op 5 (.op 10 (.op 11 (.op 12 (.op 13 .nil)))))) (.op 5 (.br (.op 1 (.op 10 (.op 11 (.op 12 (.op 13 .nil))))) (.op 10 (.op 1 (.op 11 (.op 12 (.op 13 .nil))))))))))))))))))) .nil))));refine Bx.box λJ w1 a7 g1 B2=>?_;refine Bx.box λb3 w2 a8 g2 B3=>?_;refine Bx.zero λb4 V aa X B4=>?_;have ha:=a.le;have hb:=b.le;have l2:=B2.lt (by rw[a.len];omega);have l3:=B3.lt (by rw[b.len];omega);have O:=(B2.U_ g2).U_ X;have Y:=B3.U_ X;have Z:Bx V b4 Ck.nil.cells:=B4;have o:=(g1.trans g2).trans X;have hu:=underlying46;have hs:(prog.info? 21).map (·.size)=some 1:=C_;rw[AB,AH];apply AD (O.cells 32 _ a.n);rw[AB,AH];apply AD (Y.cells 32 _ b.n);rw[AR,wrap64 E E,BM];refine AE (λak=>?_) λal=>?_;refine⟨Ck.nil.cells.toArray,C_,?_⟩;show Bu _ _ _ _ _;refine Z.Au (Ck.len _) (Ck.len _) (Ck.one _) λW D4 m=>?_;refine D4.GN (Ck.len _) ⟨?_,o.next m E⟩;rw[Bp E,Ck.jn,dif_neg E];have i:a.l.length+b.l.length<=32:=E;have ej:a.jn b=⟨a.l++b.l,by simpa using i⟩:=aBg i;refine AV (λ_ W=>W=V) ?_ ?_;rintro _ W rfl _;refine AV (λ_ W'=>Bx W' J (a.jn b).cells/\Bx W' b4 Ck.nil.cells/\AI w W') ?_ ?_;rintro _ W1 ⟨D2,D4,gW⟩ _;apply D2.GN (Ck.len _);refine D4.Au (Ck.len _) (Ck.len _) (Ck.one _) λW2 E4 m=>?_;exact E4.GN (Ck.len _) ⟨by rw[Cx i],gW.next m E⟩
 .have Q:AI W W.drew:=AK.drew _ _;have H2:=O.U_ Q;have H3:=Y.U_ Q;have a1:(L7 a.cells a.l.length (b.l.map (Value.int .i32)))[32]?=some (zI (a.l.length:Int)):=by
   rw[RB _ _ _ (by rw[a.len,FA];omega),qz (by simp[a.len];omega),wH];have:a.l.length+(b.l.map (Value.int .i32)).length+(32-(a.cells.take a.l.length++b.l.map (Value.int .i32)).length)=32:=by simp[a.len];omega
   rw[this];exact a.n
  apply Ag (λk y=>(k=10\/k=13)/\y=J);simp only[AB,AH];refine AU ⟨H2.cells 32 _ a.n,λj B e=>?_⟩ ?_;have a6:j∈[1,9]:=B;simp only[I3,wA,xx] at a6;omega;refine AU ⟨H3.cells 32 _ b.n,λj B e=>by have e2:b3=J:=e.2;omega⟩ ?_
  repeat' first
   |with_reducible exact AK.refl _ _
   |with_reducible apply tj ha
   |with_reducible apply nK hb
   |with_reducible apply AD (H2.cells 32 _ a.n)
   |with_reducible refine And.intro ?_ ?_
  all_goals
   refine H2.copy hu hs (us:=b.l.map (Value.int .i32)) (by rw [FA];omega) (by
    by_cases e:b.l=[];rw[e];exact .inl rfl;have:0<b.l.length:=wN.2 e;refine .inr ?_;rw[Bp E,FA,a.len];omega) (λj v hv=>by
    obtain ⟨B,rfl⟩:=Bq.1 hv;rw [FA] at B;rw [AH,wz];exact H3.cells j _ (b.get B)) (Ug _) λW2 U m2=>⟨m2.mono λ_ _ e=>⟨D_,e⟩,?_⟩
   have I:Bx W2 J (L7 a.cells a.l.length (b.l.map (Value.int .i32))):=by
    by_cases e:32=a.l.length;have:b.l=[]:=ys.1 E;rw[this] at U ⊢;exact U;rw[Bp e] at U;exact U
   try refine AD (I.cells 32 _ a1) ⟨AK.refl _ _,?_⟩
   rw[FA,AR,wrap64 E E];refine I.st (q:=32) (by rw[PY,Ck.len];omega) rfl rfl λW3 J2 m3=>⟨m3.mono λ_ _ e=>⟨D_,e⟩,?_⟩;have ee:((a.l.length:Int)+(b.l.length:Int))=((a.l.length+b.l.length:Nat):Int):=E;rw[ee,Ck.fill a i] at J2;rw[ej];exact⟨J2,((Z.U_ Q).U' m2 E).U' m3 E,((o.trans Q).next m2 E).next m3 E⟩
 rw[AB,AH];refine Ab (vs:=a.all.map (Value.int .i32)) (by rw[FA,a.NF]) (λj u hu=>by rw[AH];exact O.cells j u (a.rz hu)) ?_;apply AZ (v:=.agg ((List.replicate 32 (0:Int)).map (Value.int .i32)).toArray) (w':=V) C_;refine sB a.NF D_ λr=>?_;cases r;exact AS rfl;apply Ai;rw[AB,AH];apply AD (O.cells 32 _ a.n);rw[Aj];refine AE (λh0=>?_) I_;apply Y.GN (Ck.len _);refine Z.Au (Ck.len _) (Ck.len _) (Ck.one _) λW2 E4 m=>?_;refine E4.GN (Ck.len _) ⟨?_,o.next m E⟩;have:a.l=[]:=ys.1 E;have e1:a.jn b=b:=by rw[ej];simp[this,u7]
 rw[Cx i,e1]
def Ck.kd:Kd Ck where
 μ:=λc=>(c.l.length,Bj c.l)
 cut:=λc p=>(c.tk p,c.dp p)
 meld:=λa b=>if a.l.length+b.l.length<=32 then some (a.jn b) else none
def lE(c:Ck):Be prog En Ip.vm [.agg c.cells.toArray] (λv w'=>v=.tuple #[zI (c.l.length:Int),zI (Bj c.l:Int)]/\AI w w') w:=by
 refine⟨_,[],[],rfl,C_,?_⟩;refine H_ func227 ?_ (.y (.x (.dm [1,3] [0,1,0,7,15,31])));refine Bx.box λb i hb Q B=>?_;have o:AI i i.drew:=AK.drew _ _;have I:=B.U_ o;apply Ag (λ_ _=>False);refine DF c.len (λj u hu=>⟨by rw[AH];exact I.cells j u hu,C0⟩) ?_;apply AA (rC c);rintro _ V ⟨rfl,J⟩;refine⟨J,DF c.len (λj u hu=>⟨by rw[AH];exact I.cells j u hu,C0⟩) ?_⟩;apply AA (Vn c);rintro _ U ⟨rfl,O⟩;exact⟨O,rfl,((Q.trans o).trans J).trans O⟩
def pQ(c:Ck){p:Nat}(h:p<=c.l.length):Be prog En Ip.vc [.agg c.cells.toArray,zI (p:Int)] (λv w'=>v=.tuple #[.agg (c.tk p).cells.toArray,.agg (c.dp p).cells.toArray]/\AI w w') w:=by
 refine⟨_,[],[],rfl,C_,?_⟩;refine G_ func230 ?_ (.y (.y (.x (.dm [2,3] [0,0,1,7]))));refine Bx.box λb2 w1 a1 g1 B2=>?_;refine Bx.zero λb4 w2 a6 Y B4=>?_;refine Bx.zero λb5 w3 a7 Q B5=>?_;apply((B2.U_ Y).U_ Q).GN c.len;apply AA (jY c h);rintro _ w5 ⟨rfl,U⟩;refine OI ?_;refine Bx.zero λb6 w6 a8 V B6=>?_;refine Bx.zero λb7 X aa I B7=>?_;have l4:=B4.lt B_;have l5:=B5.lt B_;have l6:=B6.lt B_;have z1:=g1.size;have z2:=Y.size;have z3:=Q.size;have z5:=U.size;have z6:=V.size;have z7:=I.size;have C4:Bx X b4 Ck.nil.cells:=(((B4.U_ Q).U_ U).U_ V).U_ I;have C5:Bx X b5 Ck.nil.cells:=((B5.U_ U).U_ V).U_ I;have C6:Bx X b6 Ck.nil.cells:=B6.U_ I;have C7:Bx X b7 Ck.nil.cells:=B7;have Z:=((((g1.trans Y).trans Q).trans U).trans V).trans I;refine C6.Au (Ck.len _) (Ck.len _) (Ck.one _) λw8 D6 J=>?_;refine(C7.U' J E).Au (Ck.len _) (Ck.len _) (Ck.one _) λw9 D7 O=>?_;have B:AI w9 w9.drew:=AK.drew _ _;have zd:=B.size;have s8:=J.size;have s9:=O.size;have E5:=((C5.U' J E).U' O E).U_ B;apply Ag (λ_ y=>y=b4\/y=b5);refine DF (Ck.len _) (λj u hu=>⟨by rw[AH];exact((D6.U' O E).U_ B).cells j u hu,λ_ _ e=>by rcases e with e|e<;>simp[AH] at e<;>omega⟩) ?_;refine DF (Ck.len _) (λj u hu=>⟨by rw[AH];exact(D7.U_ B).cells j u hu,λ_ _ e=>by rcases e with e|e<;>simp[AH] at e<;>omega⟩) ?_;refine(((C4.U' J E).U' O E).U_ B).Au (Ck.len _) (Ck.len _) (Ck.one _) λak F4 i=>⟨i.mono λ_ _ e=>.inl e,?_⟩;refine(E5.U' i E).Au (Ck.len _) (Ck.len _) (Ck.one _) λal F5 o=>⟨o.mono λ_ _ e=>.inr e,?_⟩;refine(F4.U' o E).GN (Ck.len _) (F5.GN (Ck.len _) ⟨rfl,?_⟩);exact(((((Z.next J E).next O E).trans B).next i E).next o E)
def nB(a b:Ck):Be prog En Ip.vd [.agg a.cells.toArray,.agg b.cells.toArray] (λv w'=>AI w w'/\v=.tuple #[.agg (a.jn b).cells.toArray,.bool (decide (a.l.length+b.l.length<=32))]) w:=by
 refine⟨_,[],[],rfl,C_,?_⟩;apply G_ func232;refine Bx.box λb2 w1 X J Y=>?_;refine Bx.box λb3 w2 Z j B3=>?_;refine Bx.zero λb4 w3 a1 i O=>?_;refine((Y.U_ j).U_ i).GN a.len ((B3.U_ i).GN b.len ?_);apply AA (lj a b);rintro _ w6 ⟨rfl,o⟩;refine Bv ?_;refine Bx.zero λb6 Q a6 B U=>?_;have l4:=O.lt B_;have l6:=U.lt B_;have z1:=J.size;have z2:=j.size;have z3:=i.size;have z6:=o.size;have z7:=B.size;have C4:Bx Q b4 Ck.nil.cells:=(O.U_ o).U_ B;have C6:Bx Q b6 Ck.nil.cells:=U;refine C6.Au (Ck.len _) (Ck.len _) (Ck.one _) λw8 D6 V=>?_;apply D6.GN (Ck.len _);rw[Aj];refine(C4.U' V E).Au (Ck.len _) (Ck.len _) (Ck.one _) λa7 F4 I=>?_;refine F4.GN (Ck.len _) ⟨(((((J.trans j).trans i).trans o).trans B).next V E).next I E,?_⟩;by_cases h:a.l.length+b.l.length<=32;simp[h];simp[h]
def BO:AvN Ck where
 toAvK:=Ip
 k:=Ck.kd
 R:=λ_ _ r x=>r=x.cells
 pb:=184
 eb:=136
 pb_le:=B_
 eb_le:=B_
 Epos:=B_
 E1:=M'
 rlen:=λh=>by subst h;exact Ck.len _
 rone:=λh=>by subst h;exact Ck.one _
 rcell:=λh=>by subst h;rfl
 rheap:=λh _=>h
 rsub:=λh _=>h
 zlen:=rfl
 zone:=Ck.one Ck.nil
 elP:=⟨Tryz.t439,.agg (Ck.nil.cells++([zI 0,zI 0,zI 0,zI 0,zI 0,.bool false]:V_)).toArray,C_,C_,C_,C_,C_,by rfl,B_⟩
 elE:=⟨Tryz.t249,.agg Ck.nil.cells.toArray,C_,C_,C_,C_,C_,by rfl,B_⟩
 field0:=λr t w hr _ ht=>by
  have e:(Instr.field 382 (.agg (r++t).toArray) 0).run prog w=.ok (.agg ((r++t).toArray.extract 0 33)) w:=by
   have hu:=underlying382;have o:=Tryz.isAgg249;have z:∀w,(sizeOf 249).run prog w=.ok 33 w:=λw=>by simp only[sizeOf,td,Tryz.typeInfo249,S6,xV];rfl
   simp[Instr.field,run_underlying hu,part,o,z,asAgg]
  rw[UZ (A_:=33) hr] at e;exact e
 ok:=mP
 cutμ:=λx p h0 h1=>by
  have B:p<x.l.length:=h1;refine⟨?_,?_,?_⟩
  .show(x.l.take p).length=p;rw[K8];omega
  .show(x.l.drop p).length=x.l.length-p;rw[FB]
  .show Bj (x.l.take p)+Bj (x.l.drop p)=Bj x.l;rw[Bj,Bj,<-yb,QC]
 meldμ:=λx y z h=>by
  simp only[Ck.kd] at h;split at h
  .rename_i j;cases h;have I:x.jn y=⟨x.l++y.l,by simpa using j⟩:=aBg j;show(x.jn y).l.length=_/\Bj (x.jn y).l=_;rw[I];exact⟨Ad,yb⟩
  .cases h
 meas:=λ{C w r x} h=>by subst h;exact lE x
 one0:=rfl
 okN:=iI
 cells:=Ck.cells
 Rc:=yY
 cutc:=λ{w x p} h0 h1 J=>pQ x (Nat.le_of_lt h1)
 meldc:=λ{w x y} _ h1 J=>BI (nB x y) λv w' h=>⟨h.1,(x.jn y).cells,Ck.len _,Ck.one _,by
  rw[h.2];by_cases e:x.l.length+y.l.length<=32<;>simp[Ck.kd,e],λz i=>by
  simp only[Ck.kd] at i;split at i
  .cases i;rfl
  .cases i⟩
def DH(i:Int):Nat:=if i<194 then 0 else if i<224 then 2 else if i<240 then 3 else if i<245 then 4 else 0
def MX(i:Int):Int:=if i=224 then 160 else if i=240 then 144 else 128
def MA(i:Int):Int:=if i=237 then 159 else if i=244 then 143 else 191
def wrap32{x:Int}(h0:-2147483648<=x)(h1:x<2147483648):IntKind.i32.wrap x=x:=by
 have i:(2:Int) ^ IntKind.i32.bits=4294967296:=B_;have j:(2:Int) ^ (IntKind.i32.bits-1)=2147483648:=B_;simp[IntKind.wrap,i,j,IntKind.signed,zC,S9];split<;>omega
def Gw{b:X_}{i k:Nat}{c r:Int}(hc:b[i]?=some c)(h0:0<=r)(h1:r<16777216)(c0:0<=c)(c1:c<256):KJ b (k+1) i r=if c<128\/191<c then none else KJ b k (i+1) (r*64+c-128):=by
 simp[KJ,hc];rw[wrap32 (x:=r*64) E E,wrap32 (x:=c) E E,wrap32 (x:=r*64+c) E E,wrap32 (x:=r*64+c-128) E E]
def fA{i:Int}(h0:240<=i)(h1:i<256):EF i=some (4,i-240):=by
 unfold EF;rw[Cx h0,wrap32 (x:=i) E E,wrap32 E E]
def oO{i:Int}(h0:224<=i)(h1:i<240):EF i=some (3,i-224):=by
 unfold EF;rw[Bp E,Cx h0,wrap32 (x:=i) E E,wrap32 E E]
def dP{i:Int}(h0:192<=i)(h1:i<224):EF i=some (2,i-192):=by
 unfold EF;rw[Bp E,Bp E,Cx h0,wrap32 (x:=i) E E,wrap32 E E]
def Pt{i:Int}{t:X_}(h0:0<=i)(h1:i<128):Dw (i::t)=(i,1):=by
 have j:EF i=some (1,i):=by
  unfold EF;rw[Bp E,Bp E,Bp E,Bp E,wrap32 E E]
 unfold Dw;rw[JS,j];simp only[Hn,KJ,zz];rw[Bp E,Cx ⟨by unfold Dc;omega,by unfold Ky;rw[Cx h1]⟩]
def Ed{i:Int}{t:X_}(h1:i<256)(h:(i::t).length<DH i):Dw (i::t)=(0,0):=by
 unfold Dw;rw[JS];unfold DH at h;split at h;omega;split at h;rw[dP E E];simp only;rw[Cx h];split at h;rw[oO E E];simp only;rw[Cx h];split at h;rw[fA E E];simp only;rw[Cx h];omega
def Yb{b:X_}:∀{k i:Nat} {r x:Int},KJ b k i r=some x->(∀y∈b,0<=y/\y<256)->0<=r->r*64 ^ k<1073741824->k<=3->r*64 ^ k<=x/\x<=r*64 ^ k+64 ^ k-1:=by
 intro k;induction k with
 |zero=>intro i r x h _ _ _ _;simp[KJ] at h;cases h;simp
 |succ k I=>
  intro i r x h hb h0 h1 hk;cases hc:b[i]? with
  |none=>simp[KJ,hc] at h
  |some c=>
   have o:=hb c (wE.2 ⟨i,hc⟩);have e:(64:Int) ^ (k+1)=64*64 ^ k:=by rw[Int.pow_succ];omega
   rw[e] at h1;have hp:(1:Int)<=64 ^ k:=by
    rcases(E:k=0\/k=1\/k=2) with rfl|rfl|rfl<;>decide
   have B:r*(64*64 ^ k)=(r*64)*64 ^ k:=by rw[Int.mul_assoc]
   rw[B] at h1;have hr:r*64<=r*64*64 ^ k:=by
    have:=Int.mul_le_mul_of_nonneg_left hp (E:0<=r*64);omega
   rw[Gw hc h0 E o.1 o.2] at h;split at h;cases h;rename_i J;have O:(r*64+c-128)*64 ^ k=r*64*64 ^ k+(c-128)*64 ^ k:=by rw[(E:r*64+c-128=r*64+(c-128)),Int.add_mul]
   have Q:(c-128)*64 ^ k<=63*64 ^ k:=aAI E E;have U:0<=(c-128)*64 ^ k:=Int.mul_nonneg E E;have V:(64:Int) ^ k<=4096:=by
    rcases(E:k=0\/k=1\/k=2) with rfl|rfl|rfl<;>decide
   by_cases j:(r*64+c-128)*64 ^ k<1073741824;have:=I h hb E j E;rw[e,B];omega;exfalso;rw[O] at j;have X:r*64*64 ^ k<=1073741824-64*64 ^ k:=by
    rcases(E:k=0\/k=1\/k=2) with rfl|rfl|rfl;simp[Int.pow_zero] at *;omega;simp[Int.pow_one] at *;omega;rw[(B_:(64:Int) ^ 2=4096)] at *;omega
   omega
def U9{i:Int}{t:X_}(hb:∀y∈i::t,0<=y/\y<256)(h0:128<=i)(h:DH i=0):Dw (i::t)=(0,0):=by
 have h1:=(hb i ub).2;have hc:i<194\/245<=i:=by
  unfold DH at h
  (repeat' split at h)<;>omega
 unfold Dw;rw[JS];by_cases I:i<192;have B:EF i=none:=by
  unfold EF;rw[Bp E,Bp E,Bp E,Cx h0]
 rw[B];by_cases J:i<194;rw[dP E E];simp only;split;rfl;split;rfl;rename_i x j;have:=Yb j hb E E E;rw[Bp];rintro⟨_,o⟩;unfold Ky at o;rw[Cx E] at o;omega;rw[fA E E];simp only;split;rfl;split;rfl;rename_i x j;have:=Yb j hb E E E;rw[Bp];rintro⟨hm,_⟩;unfold Dc at hm;omega
def jm{j c1:Int}{t:X_}(h:DH j=2)(c0:0<=c1)(c2:c1<256) : Dw (j::c1::t)=if MX j<=c1/\c1<=MA j then((j-192)*64+(c1-128),2) else(0,0):=by
 have hb:194<=j/\j<224:=by
  unfold DH at h
  (repeat' split at h)<;>omega
 have hl:MX j=128:=by unfold MX;rw[Bp E,Bp E]
 have o:MA j=191:=by unfold MA;rw[Bp E,Bp E]
 unfold Dw;rw[JS,dP E E];simp only;rw[Bp D_,Gw (b:=j::c1::t) (i:=1) (c:=c1) rfl E E c0 c2,hl,o];by_cases hc:c1<128\/191<c1;rw[Cx hc,Bp E];rw[Bp hc,Cx E];simp[KJ];rw[Cx ⟨by unfold Dc;omega,by unfold Ky;rw[Bp E,Cx E]⟩];congr 1;omega
def jJ{j c1 c2:Int}{t:X_}(h:DH j=3)(c0:0<=c1)(B:c1<256)(d0:0<=c2)(I:c2<256) : Dw (j::c1::c2::t)=if(MX j<=c1/\c1<=MA j)/\128<=c2/\c2<=191 then((j-224)*4096+(c1-128)*64+(c2-128),3) else(0,0):=by
 have hb:224<=j/\j<240:=by
  unfold DH at h
  (repeat' split at h)<;>omega
 have hl:MX j=if j=224 then 160 else 128:=by
  unfold MX;split;rfl;rw[Bp E]
 have Q:MA j=if j=237 then 159 else 191:=by
  unfold MA;split;rfl;rw[Bp E]
 unfold Dw;rw[JS,oO E E];simp only;rw[Bp D_,Gw (b:=j::c1::c2::t) (i:=1) (c:=c1) rfl E E c0 B,hl,Q];by_cases hc:c1<128\/191<c1;rw[Cx hc,Bp];rintro⟨⟨h1,J⟩,_⟩;split at h1<;>split at J<;>omega;rw[Bp hc,Gw (b:=j::c1::c2::t) (i:=2) (c:=c2) rfl E E d0 I];by_cases O:c2<128\/191<c2;rw[Cx O,Bp E];rw[Bp O];simp[KJ];by_cases ha:((if j=224 then(160:Int) else 128)<=c1/\c1<=(if j=237 then(159:Int) else 191));have U:=(show(_/\128<=c2/\c2<=191) from⟨ha,E⟩);rw[Cx U,Cx];congr 1;omega;obtain⟨h1,J⟩:=ha;refine⟨?_,?_⟩;unfold Dc;split at h1<;>split at J<;>omega;unfold Ky;rw[Bp (by split at h1<;>omega),Bp (by split at h1<;>omega),Cx E];rw[Bp (λx:(_/\128<=c2/\c2<=191)=>ha x.1),Bp];rintro⟨hm,o⟩;apply ha;unfold Dc at hm;have:¬(j-224)*64*64+(c1-128)*64+c2-128<2048:=by
  intro V;unfold Ky at o;split at o;cases o;split at o;cases o;omega
 constructor;split<;>omega;split<;>omega
def iM{j c1 c2 o:Int}{t:X_}(h:DH j=4)(c0:0<=c1)(I:c1<256)(d0:0<=c2)(J:c2<256)(e0:0<=o)(O:o<256) : Dw (j::c1::c2::o::t)=if(MX j<=c1/\c1<=MA j)/\(128<=c2/\c2<=191)/\128<=o/\o<=191 then((j-240)*262144+(c1-128)*4096+(c2-128)*64+(o-128),4) else(0,0):=by
 have hb:240<=j/\j<245:=by
  unfold DH at h
  (repeat' split at h)<;>omega
 have hl:MX j=if j=240 then 144 else 128:=by unfold MX;rw[Bp E]
 have V:MA j=if j=244 then 143 else 191:=by unfold MA;rw[Bp E]
 unfold Dw;rw[JS,fA E E];simp only;rw[Bp D_,Gw (b:=j::c1::c2::o::t) (i:=1) (c:=c1) rfl E E c0 I,hl,V];by_cases hc:c1<128\/191<c1;rw[Cx hc,Bp];rintro⟨⟨h1,Q⟩,_⟩;split at h1<;>split at Q<;>omega;rw[Bp hc,Gw (b:=j::c1::c2::o::t) (i:=2) (c:=c2) rfl E E d0 J];by_cases U:c2<128\/191<c2;rw[Cx U,Bp E];rw[Bp U,Gw (b:=j::c1::c2::o::t) (i:=3) (c:=o) rfl E E e0 O];by_cases he:o<128\/191<o;rw[Cx he,Bp E];rw[Bp he];simp[KJ];by_cases ha:((if j=240 then(144:Int) else 128)<=c1/\c1<=(if j=244 then(143:Int) else 191));have X:=(show(_/\(128<=c2/\c2<=191)/\128<=o/\o<=191) from⟨ha,E⟩);rw[Cx X,Cx];congr 1;omega;obtain⟨h1,Q⟩:=ha;refine⟨?_,?_⟩;unfold Dc;split at h1<;>split at Q<;>omega;unfold Ky;rw[Bp (by split at h1<;>omega),Bp (by split at h1<;>omega),Bp (by split at h1<;>omega)];rw[Bp (λx:(_/\(128<=c2/\c2<=191)/\128<=o/\o<=191)=>ha x.1),Bp];rintro⟨hm,B⟩;apply ha;unfold Dc at hm;have:¬((j-240)*64+(c1-128))*64*64+(c2-128)*64+o-128<65536:=by
  intro Y;unfold Ky at B;split at B;cases B;split at B;cases B;split at B;cases B;omega
 constructor;split<;>omega;split<;>omega
def MH{b:X_}(hb:b≠[]):(CT b).isSome=(decide ((Dw b).2≠0)&&(CT (b.drop (Dw b).2)).isSome):=by
 rw[RT hb];by_cases h:(Dw b).2=0;simp[h];simp[h]
def Su:CT ([]:X_)=some []:=by simp[CT,NN]
def XS:∀{k:Nat} {b:X_},k<=b.length->(∀j x,j<k->b[j]?=some x->0<=x/\x<128)->(CT b).isSome=(CT (b.drop k)).isSome:=by
 intro k;induction k with
 |zero=>intro b _ _;rw[xP]
 |succ k i=>
  intro b hk h;cases b with
  |nil=>simp at hk
  |cons o t=>
   have h0:=h 0 o E rfl;rw[MH D_,Pt h0.1 h0.2];simp only[yA];simp only[ne_eq,Nat.one_ne_zero,not_false_eq_true,decide_true,zC,xP];exact i (by simpa using hk) λj x I B=>h (j+1) x E B
def XN(n:Nat):(FloatKind.f64.format.order n n != some .eq)=decide (IK (n:Int)):=by
 have h1:Ieee.double.signWeight=9223372036854775808:=B_;have j:Ieee.double.infRung=9218868437227405312:=B_;have o:Ieee.double.binade=4503599627370496:=B_;have B:IK (n:Int)↔9218868437227405312<n%9223372036854775808:=by
  unfold IK;rw[Int.tmod_eq_emod_of_nonneg E];omega
 have i:∀x:Int,compare x x=.eq:=λx=>by simp[compare,compareOfLessAndEq]
 have I:∀x:Nat,compare x x=.eq:=λx=>by simp[compare,compareOfLessAndEq]
 rw[show decide (IK (n:Int))=decide (9218868437227405312<n%9223372036854775808) from xX.2 B];show((Ieee.double.read n).order (Ieee.double.read n) != some .eq)=_;unfold Ieee.Format.read;simp[h1,j,o];split;rename_i J;have:¬9218868437227405312<n%9223372036854775808:=E;simp only[Ieee.Datum.order,i,WL this];rfl;split;have:¬9218868437227405312<n%9223372036854775808:=E;simp only[Ieee.Datum.order,i,WL this];rfl;split;have:¬9218868437227405312<n%9223372036854775808:=E;simp only[Ieee.Datum.order,I,WL this];rfl;have:9218868437227405312<n%9223372036854775808:=E;simp only[Ieee.Datum.order,TC this];rfl
def LZ(x:Int):Prop:=0<=x/\x<18446744073709551616
def Q7(a b:Int):Int:=((a.toNat ||| b.toNat:Nat):Int)
def Gc{x:Int}(h:LZ x):IntKind.u64.wrap x=x:=by
 have i:(2:Int) ^ IntKind.u64.bits=18446744073709551616:=B_;unfold LZ at h;simp only[IntKind.wrap,i,IntKind.signed,zL];rw[Bp B_];omega
def sY{a b:Int}(ha:LZ a)(hb:LZ b):((BitVec.ofInt 64 a ||| BitVec.ofInt 64 b).toNat:Int)=Q7 a b:=by
 unfold LZ at ha hb;unfold Q7;rw[aBD,xC,xC];have e:((2 ^ 64:Nat):Int)=18446744073709551616:=B_;rw[e,xe ha.1 ha.2,xe hb.1 hb.2]
def qL{a b:Int}(ha:LZ a)(hb:LZ b):((BitVec.ofInt 64 a &&& BitVec.ofInt 64 b).toNat:Int)=((a.toNat &&& b.toNat:Nat):Int):=by
 unfold LZ at ha hb;rw[aA2,xC,xC];have e:((2 ^ 64:Nat):Int)=18446744073709551616:=B_;rw[e,xe ha.1 ha.2,xe hb.1 hb.2]
def GB{a b:Int}(ha:LZ a)(hb:LZ b):LZ (Q7 a b):=by
 unfold LZ at *;unfold Q7;have:a.toNat ||| b.toNat<2 ^ 64:=Nat.or_lt_two_pow E E
 omega
def aW(x:Int)(j:Nat):Prop:=x.toNat.testBit (8*j+7)=true
def aW.l{a b:Int}(h:aW a j):aW (Q7 a b) j:=by
 unfold aW Q7 at *;rw[wI,aBM,h,aBh]
def aW.r{a b:Int}(h:aW b j):aW (Q7 a b) j:=by
 unfold aW Q7 at *;rw[wI,aBM,h,Bool.or_true]
def iW{x:Int}(i:j<8)(h0:128<=x)(h1:x<256):LZ (x*2 ^ (8*j))/\aW (x*2 ^ (8*j)) j:=by
 obtain⟨n,rfl⟩:∃n:Nat,x=n:=⟨x.toNat,E⟩;have e:((n:Int)*2 ^ (8*j))=((n*2 ^ (8*j):Nat):Int):=by rw[Int.natCast_mul,Int.natCast_pow];rfl
 have hp:n*2 ^ (8*j)<2 ^ (8+8*j):=by
  rw[Nat.pow_add];exact aAa E (Nat.pow_pos B_)
 have o:2 ^ (8+8*j)<=2 ^ 64:=Nat.pow_le_pow_right B_ E;refine⟨?_,?_⟩;rw[e];unfold LZ;omega;rw[e];unfold aW;rw[wI,Nat.testBit_mul_two_pow];simp[(E:8*j<=8*j+7),decide_true,zC,(E:8*j+7-8*j=7)];rw[zo,S9];omega
def gP{x:Int}(i:j<8)(h0:0<=x)(h1:x<256):LZ (x*2 ^ (8*j)):=by
 obtain⟨n,rfl⟩:∃n:Nat,x=n:=⟨x.toNat,E⟩;have e:((n:Int)*2 ^ (8*j))=((n*2 ^ (8*j):Nat):Int):=by rw[Int.natCast_mul,Int.natCast_pow];rfl
 have hp:n*2 ^ (8*j)<2 ^ (8+8*j):=by
  rw[Nat.pow_add];exact aAa E (Nat.pow_pos B_)
 have o:2 ^ (8+8*j)<=2 ^ 64:=Nat.pow_le_pow_right B_ E;rw[e];unfold LZ;omega
def eg{x:Int}(h:x.toNat &&& 9259542123273814144=0)(o:j<8):¬aW x j:=by
 intro i;unfold aW at i;have:(x.toNat &&& 9259542123273814144).testBit (8*j+7)=true:=by
  rw[Nat.testBit_and,i,zC];rcases(E:j=0\/j=1\/j=2\/j=3\/j=4\/j=5\/j=6\/j=7) with rfl|rfl|rfl|rfl|rfl|rfl|rfl|rfl<;>decide
 rw[h,Nat.zero_testBit] at this;cases this
def Gf{t e k:Nat}{i:TypeInfo}{a:Option Addr}{n c j:Nat}(ht:P.underlying t=some (.slice e))(hi:P.info? e=some i)(hk:i.size=k)(B:j<=n)(w:e_):(Instr.sliceAt t (.slice a n c) (some (zI j)) none none).run P w=.ok (sliced a j n c k) w:=by
 have o:P.elem t=e:=by simp[Program.elem,ht]
 rw[xb _ _ _ _ _ _ (by rw[o];exact ht),run_slice_l _ _ _ _ _ (by rw[o];exact ht) _ _ E E,o];simp[sizeOf,typeInfo,hi,hk]
def OW{k:Nat}{R:e_->V_->α->Prop}{a:Option Addr}{n c:Nat}{l:List α}(h:BC S k R w (.slice a n c) l)(Q:j<=l.length):BC S k R w (sliced a j n c k) (l.drop j):=by
 obtain⟨U,V,o,h1,X,B⟩:=h;cases o;unfold sliced;refine⟨_,_,by rw[FB],by rw[FB];omega,E,λq x i=>?_⟩;rw[wH] at i;obtain⟨p,r,rfl,I,hr,hc,J⟩:=B _ x i;have O:=(Bq.1 i).1;rw[Bp E];refine⟨p.add (j*k),r,rfl,by rw[Av];exact I,hr,λm u hu=>?_,J⟩;rw[Addr.add_add,<-wx,<-wF];exact hc m u hu
def RV{t e k:Nat}{i:TypeInfo}{a:Option Addr}{n c:Nat}(ht:P.underlying t=some (.slice e))(hi:P.info? e=some i)(hk:i.size=k)(hc:n<=c)(w:e_):∃o,(Instr.sliceAt t (.slice a n c) none (some (zI n)) (some (zI n))).run P w=.ok (.slice o n n) w/\(0<n->o=a):=by
 have j:P.elem t=e:=by simp[Program.elem,ht]
 refine⟨if n=0 then a else a.map (·.add (0*k)),?_,λh=>?_⟩;rw[xb _ _ _ _ _ _ (by rw[j];exact ht)];simp[Instr.slice,run_underlying ht,Instr.sliceBounds,run_sliceBound,hc,sizeOf,typeInfo,hi,Result.andThen];rw[Bp E];cases a with
 |none=>rfl
 |some a=>simp[Addr.add]
def KL{t e n s:Nat}{i:TypeInfo}{k:IntKind}{a:Addr}{j:Int}(ht:P.underlying t=some (.array n e))(hi:P.info? e=some i)(o:i.size=s)(h0:0<=j)(h1:j<n):(Instr.indexAt t (.pointer (some a)) (.int k j)).run P w=.ok (.pointer (some (a.add (j.toNat*s)))) w:=by
 simp[Instr.indexAt,Instr.sureAddr,run_underlying ht,asIntOf,sizeOf,typeInfo,hi,o,h0,h1,Result.andThen]
def Ee{s d:TypeId}{q k:IntKind}{n:Int}(w:e_)(i:(P.underlying s).isSome=true)(j:P.underlying d=some (.int k)):(convert s d (.int q n)).run P w=.ok (.int k (k.wrap n)) w:=by
 obtain⟨e,he⟩:=pj.mp i;simp[convert,run_underlying he,run_underlying j,Conv.intToInt]
def Yl{t:TypeId}{k q:IntKind}{a:Int}{n:Nat}(w:e_)(i:n<=k.bits):(ET .shl t xo yo (.int k a) (.int q n)).run P w=.ok (.int k (k.wrap (a*2 ^ n))) w:=by
 have h0:¬((n:Int)<0):=E;simp[ET,eqGuard,binOp,Op.shift,u6 i,h0]
def LP{t:TypeId}{k q:IntKind}{a:Int}{n:Nat}(w:e_)(i:n<=k.bits):(ET .shr t xo yo (.int k a) (.int q n)).run P w=.ok (.int k (a.fdiv (2 ^ n))) w:=by
 have h0:¬((n:Int)<0):=E;simp[ET,eqGuard,binOp,Op.shift,u6 i,h0]
def Ja{t:TypeId}{k:IntKind}{a b:Int}(w:e_):(ET .or t xo yo (.int k a) (.int k b)).run P w=.ok (.int k (k.wrap (BitVec.ofInt k.bits a ||| BitVec.ofInt k.bits b).toNat)) w/\(ET .and t xo yo (.int k a) (.int k b)).run P w=.ok (.int k (k.wrap (BitVec.ofInt k.bits a &&& BitVec.ofInt k.bits b).toNat)) w:=by
 constructor<;>simp[ET,eqGuard,binOp,Op.intBits]
def E9{t:TypeId}{a b:Int}(w:e_)(ha:LZ a)(hb:LZ b):(ET .or t xo yo (.int .u64 a) (.int .u64 b)).run prog w=.ok (.int .u64 (Q7 a b)) w:=by
 rw[(Ja w).1];have e:((BitVec.ofInt IntKind.u64.bits a ||| BitVec.ofInt IntKind.u64.bits b).toNat:Int)=Q7 a b:=sY ha hb;rw[e,Gc (GB ha hb)]
def OP{t:TypeId}{a b:Int}(w:e_)(ha:LZ a)(hb:LZ b):(ET .and t xo yo (.int .u64 a) (.int .u64 b)).run prog w=.ok (.int .u64 ((a.toNat &&& b.toNat:Nat):Int)) w:=by
 rw[(Ja w).2];have e:((BitVec.ofInt IntKind.u64.bits a &&& BitVec.ofInt IntKind.u64.bits b).toNat:Int)=((a.toNat &&& b.toNat:Nat):Int):=qL ha hb;rw[e,Gc ⟨E,?_⟩];have:=Nat.and_le_left (n:=a.toNat) (m:=b.toNat);have:=ha.2;have:=ha.1;omega
def ju(x:Int)(j:Nat):Int:=x*2 ^ (8*j)
def JV(b:X_):Int:=Q7 (Q7 (Q7 (Q7 (Q7 (Q7 (Q7 (b.getD 0 0) (ju (b.getD 1 0) 1)) (ju (b.getD 2 0) 2)) (ju (b.getD 3 0) 3)) (ju (b.getD 4 0) 4)) (ju (b.getD 5 0) 5)) (ju (b.getD 6 0) 6)) (ju (b.getD 7 0) 7)
abbrev Bn(b:X_):Prop:=∀x∈b,0<=x/\x<256
def Bn.getD{b:X_}(h:Bn b)(j:Nat):0<=b.getD j 0/\b.getD j 0<256:=by
 rw[wC];cases e:b[j]? with
 |none=>simp
 |some x=>exact h x (wE.2 ⟨j,e⟩)
def Bn.drop{b:X_}(h:Bn b)(j:Nat):Bn (b.drop j):=λx i=>h x (aR i)
def TZ{x:Int}(h:0<=x/\x<256):LZ x:=⟨h.1,E⟩
def Jn{b:X_}(h:Bn b):LZ (JV b):=by
 have u:∀j,j<8->LZ (ju (b.getD j 0) j):=λj i=>gP i (h.getD j).1 (h.getD j).2;unfold JV;exact GB (GB (GB (GB (GB (GB (GB (TZ (h.getD 0)) (u 1 B_)) (u 2 B_)) (u 3 B_)) (u 4 B_)) (u 5 B_)) (u 6 B_)) (u 7 B_)
def iE{b:X_}(h:Bn b)(o:j<8)(B:128<=b.getD j 0):aW (JV b) j:=by
 have i:=(iW o B (h.getD j).2).2;unfold JV;rcases(E:j=0\/j=1\/j=2\/j=3\/j=4\/j=5\/j=6\/j=7) with rfl|rfl|rfl|rfl|rfl|rfl|rfl|rfl;rw[(E:b.getD 0 0*2 ^ (8*0)=b.getD 0 0)] at i;exact .l (.l (.l (.l (.l (.l (.l i))))));exact .l (.l (.l (.l (.l (.l (.r i))))));exact .l (.l (.l (.l (.l (.r i)))));exact .l (.l (.l (.l (.r i))));exact .l (.l (.l (.r i)));exact .l (.l (.r i));exact .l (.r i);exact .r i
def Gq{C:e_->Prop}{p:Addr}{n c:Nat}{b:Int}{m:Int}{k:d_->Prop}(J:j<n)(hm:m=8*j)(i:j<8)(hb:0<=b/\b<256)(hc:∀w,C w->w.cell? (p.add (j*1))=some (.int .u8 b))(hk:k (.int .u64 (ju b j))) : Lb 1 (.slice (some p) n c) (zI j) λo=>JZ C o λB=>K6 prog C (convert 5 59 B) λI=>K6 prog C (ET .shl 59 xo yo I (.int .u64 m)) k:=by
 refine AW J (BR hc ⟨.int .u64 (IntKind.u64.wrap b),λw _=>Ee (k:=.u64) w C_ C_,?_⟩);rw[Gc (TZ hb)];subst hm;refine⟨_,λw _=>?_,hk⟩;have e:=Yl (P:=prog) (t:=59) (xo:=xo) (yo:=yo) (k:=.u64) (q:=.u64) (a:=b) (n:=8*j) w (by show 8*j<=64;omega);rw[Gc (gP i hb.1 hb.2)] at e;have O:((8*j:Nat):Int)=8*(j:Int):=E;rw[O] at e;exact e
def YP{b:X_}(h:Cc S w v b)(hb:Bn b)(hl:8<=b.length) : AF prog 198 [v] (λv' w'=>v'=.int .u64 (JV b)/\AI w w') w:=by
 refine H_ func198 ?_ (.y (.z (.x (.x .D8)) (.x .D8)));obtain⟨a,c,rfl,hm⟩:=h.AO;have cell:∀j (i:j<b.length),∃p,a=some p/\w.cell? (p.add (j*1))=some (.int .u8 (b.getD j 0)):=by
  intro j i;obtain⟨p,r,rfl,_,hr,hc,rfl⟩:=h.get i;refine⟨p,rfl,?_⟩;rw[wC,By i];exact hc 0 _ rfl
 obtain⟨p,rfl,c0⟩:=cell 0 E;have o:∀j,j<b.length->w.cell? (p.add (j*1))=some (.int .u8 (b.getD j 0)):=λj i=>by obtain⟨X,e,hc⟩:=cell j i;cases e;exact hc
 apply DY (λB=>AI w B) (AK.drew _ _);have hc:∀j,j<b.length->∀B,AI w B->B.cell? (p.add (j*1))=some (.int .u8 (b.getD j 0)):=λj i B g=>g.cell (o j i) E_;have u:∀j,j<8->LZ (ju (b.getD j 0) j):=λj i=>gP i (hb.getD j).1 (hb.getD j).2;refine AW (j:=0) E (BR (hc 0 E) ⟨.int .u64 (IntKind.u64.wrap (b.getD 0 0)),λw _=>Ee (k:=.u64) w C_ C_,?_⟩);rw[Gc (TZ (hb.getD 0))];have I:=TZ (hb.getD 0);refine Gq (j:=1) E rfl B_ (hb.getD 1) (hc 1 E) ⟨_,λw _=>E9 w I (u 1 B_),?_⟩;have V:=GB I (u 1 B_);refine Gq (j:=2) E rfl B_ (hb.getD 2) (hc 2 E) ⟨_,λw _=>E9 w V (u 2 B_),?_⟩;have J:=GB V (u 2 B_);refine Gq (j:=3) E rfl B_ (hb.getD 3) (hc 3 E) ⟨_,λw _=>E9 w J (u 3 B_),?_⟩;have O:=GB J (u 3 B_);refine Gq (j:=4) E rfl B_ (hb.getD 4) (hc 4 E) ⟨_,λw _=>E9 w O (u 4 B_),?_⟩;have Q:=GB O (u 4 B_);refine Gq (j:=5) E rfl B_ (hb.getD 5) (hc 5 E) ⟨_,λw _=>E9 w Q (u 5 B_),?_⟩;have U:=GB Q (u 5 B_);refine Gq (j:=6) E rfl B_ (hb.getD 6) (hc 6 E) ⟨_,λw _=>E9 w U (u 6 B_),?_⟩;refine Gq (j:=7) E rfl B_ (hb.getD 7) (hc 7 E) ⟨_,λw _=>E9 w (GB U (u 6 B_)) (u 7 B_),?_⟩;exact λB g=>⟨rfl,g⟩
def Fo{b:X_}(hb:Bn b)(h:((JV b).toNat &&& 9259542123273814144:Nat)=0)(i:j<8):b.getD j 0<128:=by
 have:=eg h i;have o:¬128<=b.getD j 0:=λo=>this (iE hb i o);omega
def QE(x:Int):Int:=if x<194 then 241 else if x<224 then 2 else if x=224 then 19 else if x=237 then 35 else if x<240 then 3 else if x=240 then 52 else if x<244 then 4 else if x=244 then 68 else 241
def Qb(j:Nat):Int:=if j=1 then 160 else if j=3 then 144 else if j<5 then 128 else 0
def Qw(j:Nat):Int:=if j=2 then 159 else if j=4 then 143 else if j<5 then 191 else 0
structure DV (w:e_):Prop where
 size:1<w.heap.size
 first:∀j:Nat,128<=j->j<256->w.cell? ⟨0,j,none⟩=some (.int .u8 (QE j))
 Xh:∀j:Nat,j<16->w.cell? ⟨1,j*2,none⟩=some (.int .u8 (Qb j))/\w.cell? ⟨1,j*2+1,none⟩=some (.int .u8 (Qw j))
def DV.U_(h:DV w)(g:AI w w'):DV w':=⟨Nn h.size g.size,λj h1 o=>g.cell (h.first j h1 o) E_,λj i=>⟨g.cell (h.Xh j i).1 E_,g.cell (h.Xh j i).2 E_⟩⟩
def qZ{x:Int}(h0:128<=x)(h1:x<256):∃(f:Int) (z j:Nat),QE x=f/\0<=f/\f<256/\(f.toNat &&& 7)=z/\f/16=j/\j<16/\(z=DH x\/DH x=0/\z=1)/\(DH x≠0->Qb j=MX x/\Qw j=MA x):=by
 unfold QE DH MX MA;by_cases i:x<194;exact⟨241,1,15,by rw[Cx i],B_,B_,B_,B_,B_,by rw[Cx i];exact .inr ⟨rfl,rfl⟩,by rw[Cx i];exact λh=>absurd rfl h⟩;rw[Bp i,Bp i];by_cases o:x<224;rw[Cx o,Cx o];exact⟨2,2,0,rfl,B_,B_,B_,B_,B_,.inl rfl,λ_=>⟨by rw[Bp E,Bp E];rfl,by rw[Bp E,Bp E];rfl⟩⟩;rw[Bp o,Bp o];by_cases J:x=224;subst J;exact⟨19,3,1,rfl,B_,B_,B_,B_,B_,.inl rfl,λ_=>⟨rfl,rfl⟩⟩;rw[Bp J,Bp J];by_cases O:x=237;subst O;exact⟨35,3,2,rfl,B_,B_,B_,B_,B_,.inl rfl,λ_=>⟨rfl,rfl⟩⟩;rw[Bp O,Bp O];by_cases B:x<240;rw[Cx B,Cx B];exact⟨3,3,0,rfl,B_,B_,B_,B_,B_,.inl rfl,λ_=>⟨by rw[Bp E];rfl,by rw[Bp E];rfl⟩⟩;rw[Bp B,Bp B];by_cases I:x=240;subst I;exact⟨52,4,3,rfl,B_,B_,B_,B_,B_,.inl rfl,λ_=>⟨rfl,rfl⟩⟩;rw[Bp I,Bp I];by_cases Q:x<244;rw[Cx Q,Cx E];exact⟨4,4,0,rfl,B_,B_,B_,B_,B_,.inl rfl,λ_=>⟨rfl,by rw[Bp E];rfl⟩⟩;rw[Bp Q];by_cases U:x=244;subst U;exact⟨68,4,4,rfl,B_,B_,B_,B_,B_,.inl rfl,λ_=>⟨rfl,rfl⟩⟩;rw[Bp U,Bp E];exact⟨241,1,15,rfl,B_,B_,B_,B_,B_,.inr ⟨rfl,rfl⟩,λh=>absurd rfl h⟩
def Vk(x:Int):DH x=0\/DH x=2\/DH x=3\/DH x=4:=by
 unfold DH
 (repeat' split)<;>simp
def ic{t:TypeId}{a:Int}{z:Nat}(w:e_)(h0:0<=a)(h1:a<256)(i:(a.toNat &&& 7)=z):(ET .and t xo yo (.int .u8 a) (.int .u8 7)).run prog w=.ok (.int .u8 z) w:=by
 rw[(Ja w).2];have e:((BitVec.ofInt IntKind.u8.bits a &&& BitVec.ofInt IntKind.u8.bits 7).toNat:Int)=((a.toNat &&& 7:Nat):Int):=by
  show((BitVec.ofInt 8 a &&& BitVec.ofInt 8 7).toNat:Int)=_;rw[aA2,xC,xC];have e:((2 ^ 8:Nat):Int)=256:=B_;rw[e,xe h0 h1];rfl
 have j:=i▸Nat.and_le_right;rw[e,i];congr 2;have o:(2:Int) ^ IntKind.u8.bits=256:=B_;simp only[IntKind.wrap,o,IntKind.signed,zL];rw[Bp B_];omega
def YL(v:d_):Nat:=match v with|.slice _ n _=>n|_=>0
def PR{l:X_}{k:Nat}(hl:Bn l)(hk:k<=l.length)(h:∀j,j<k->l.getD j 0<128):(CT l).isSome=(CT (l.drop k)).isSome:=by
 refine XS hk λj x o i=>?_;have:=h j o;rw[wC,i] at this;exact⟨(hl x (wE.2 ⟨j,i⟩)).1,this⟩
def Ld(l:X_)(k j:Nat):(l.drop k).getD j 0=l.getD (k+j) 0:=by
 rw[wC,wC,wH]
def IP{a b c:Nat}(h:((a ||| b) &&& c)=0):(a &&& c)=0/\(b &&& c)=0:=by
 rw[Nat.and_or_distrib_right] at h;exact Nat.or_eq_zero_iff.1 h
def T8{n:Nat}(h:((n &&& (9259542123273814144:Int).toNat:Nat):Int)=0):(n &&& 9259542123273814144)=0:=Int.ofNat_inj.1 h
def fR{b:X_}(h:Cc S w v b)(hb:Bn b)(hT:DV w) : AF prog 127 [v] (λv' w'=>v'=.bool (CT b).isSome/\AI w w') w:=by
 refine H_ func127 ?_ (.y (.y (.x (.node [0] [(0,0),(2,6),(13,187)] (.y (.y (.z (.y (.x (.y (.x (.cut [31] [(23,31)] .nil (.x (.y (.cut [46] [(34,46)] .D8 (.x (.y (.node [0] [(0,0),(49,71)] (.x (.x .D8)) .nil))))))))))) (.y (.y (.y (.y (.y (.z (.cut [] [(2,2),(85,103)] (.x .D8) .nil) (.y (.z (.cut [] [(2,2),(108,138)] (.x .D8) .nil) (.y (.x (.cut [] [(2,2),(143,185)] (.x .D8) .nil)))))))))))))) .nil))));have hu:prog.underlying 42=some (.slice 5):=C_;have hi:prog.info? 5=some Tryz.t5:=C_;have hs:Tryz.t5.size=1:=C_;obtain⟨a,c,rfl,hm⟩:=h.AO;obtain⟨_,_,e0,ed,_,_⟩:=id h;cases e0;rw[AP,AP];obtain⟨a',ee,ef⟩:=RV (a:=a) (n:=b.length) (c:=c) hu hi hs ed w;apply AZ ee;have h':Cc S w (.slice a' b.length b.length) b:=by
  obtain⟨_,_,e0,h1,h2,h3⟩:=h;cases e0;refine⟨_,_,rfl,HK _,hm,λi x hx=>?_⟩;obtain⟨p,r,rfl,q⟩:=h3 i x hx;have:=(Bq.1 hx).1;exact⟨p,r,ef E,q⟩
 apply AX (λvs W=>∃l v1,vs=[v1]/\Cc S W v1 l/\Bn l/\(CT b).isSome=(CT l).isSome/\AI w W) (λvs _=>YL (Bm vs 0)) ⟨b,_,rfl,h',hb,rfl,AK.refl _ _⟩;rintro vs W ⟨l,v1,rfl,hl,hB,ba,gW⟩ _;rw[Bh,JS];obtain⟨p1,c1,rfl,eh⟩:=hl.AO;simp[maxLen] at eh;rw[AP,BM];refine AE (λc8=>?_) λey=>?_;rotate_left;have:l=[]:=Kx E;subst this;exact⟨by rw[ba,Su];rfl,gW⟩;have Q:∀{B:e_} {v':d_} {Y:X_},Cc S B v' Y->Bn Y->(CT l).isSome=(CT Y).isSome->Y.length<l.length->AI w B->
   ((∃l v1,[v']=[v1]/\Cc S B v1 l/\Bn l/\(CT b).isSome=(CT l).isSome/\AI w B)/\YL (Bm [v'] 0)<YL (Bm [Value.slice p1 l.length c1] 0)):=by
  intro B v' Y h1 h2 h3 h4 h5;obtain⟨q,d,rfl,_⟩:=h1.AO;exact⟨⟨Y,_,rfl,h1,h2,ba.trans h3,h5⟩,h4⟩
 have sl:∀{B:e_} {q:Option Addr} {n d j:Nat} {Y:X_} {K:Cont},Cc S B (.slice q n d) Y->j<=Y.length->(∀v',Cc S B v' (Y.drop j)->K v' B)->runK prog (Instr.sliceAt 42 (.slice q n d) (some (zI j)) none none) K B:=
  λh1 h2 h3=>Ev (e:=5) (i:=Tryz.t5) hu hi hs h1 h2 h3
 have ge:∀{W1 W2:e_} {v':d_} {Y:X_},Cc S W1 v' Y->AI W1 W2->Cc S W2 v' Y:=λh1 g=>h1.U_ g B_ C0;have wq:∀{W1:e_} {v':d_} {Y:X_} {K:d_->Prop},Cc S W1 v' Y->Bn Y->8<=Y.length->K (.int .u64 (JV Y))->Qy prog (λW2=>AI W1 W2) 198 [v'] K:=by
  intro W1 v' Y K h1 h2 h3 h4;refine⟨_,λw2 g=>AA (YP (ge h1 g) h2 h3) ?_,h4⟩;rintro _ w3 ⟨rfl,g3⟩;exact⟨rfl,g.trans g3⟩
 obtain⟨x,t,rfl⟩:∃x t,l=x::t:=by cases l with|nil=>simp at c8|cons x t=>exact⟨x,t,rfl⟩
 have hx:=hB x ub;have U:Bn t:=λy hy=>hB y (aN _ hy);obtain⟨p,r,rfl,_,hr,hc,rfl⟩:=hl.get (i:=0) D_;have cx:W.cell? (p.add (0*1+0))=some (.int .u8 x):=hc 0 _ rfl;refine AW (j:=0) D_ (AD cx ?_);show Hm .u8 (.int .u8 x) _ _;refine HP (λei=>?_) λez=>?_;have c9:(CT (x::t)).isSome=(CT t).isSome:=by
  have:=PR (l:=x::t) (k:=1) hB D_ λj hj=>by
   have:j=0:=E;subst this;exact ei
  simpa using this
 refine sl hl (j:=1) D_ λv2 aa=>?_;rw[yA,xP] at aa;obtain⟨q2,d2,rfl,_⟩:=aa.AO;refine AV (λvs W2=>AI W W2/\∃q:Bool,vs=[.bool q]/\(q=true->8<=t.length/\∀j,j<8->t.getD j 0<128)) ?_ ?_;rintro vs W2 ⟨g2,q,rfl,hq⟩ _;rw[Bh,JS];cases q with
 |false=>exact AS (Q (ge aa g2) U c9 D_ (gW.trans g2))
 |true=>
  obtain⟨h8,ek⟩:=hq rfl;refine Ai (sl (ge aa g2) (j:=8) h8 λv3 V=>?_);have X:Bn (t.drop 8):=Bn.drop U 8;have b9:(CT (x::t)).isSome=(CT (t.drop 8)).isSome:=c9.trans (PR U h8 ek);have cc:(t.drop 8).length<(x::t).length:=by simp;omega
  generalize t.drop 8=l3 at V X b9 cc;obtain⟨q3,d3,rfl,_⟩:=V.AO;refine AV (λvs W3=>AI W W3/\AI W2 W3/\∃q:Bool,vs=[.bool q]/\(q=true->16<=l3.length/\∀j,j<16->l3.getD j 0<128)) ?_ ?_;rintro vs W3 ⟨g3,ch,q,rfl,hq⟩ _;rw[Bh,JS];cases q with
  |false=>exact AS (Q (ge V ch) X b9 cc (gW.trans g3))
  |true=>
   obtain⟨bb,cu⟩:=hq rfl;refine Ai (sl (ge V ch) (j:=16) bb λv4 en=>?_);refine AX (λvs W4=>∃l4 v5,vs=[v5]/\Cc S W4 v5 l4/\Bn l4/\(CT (x::t)).isSome=(CT l4).isSome/\l4.length<(x::t).length/\AI W W4) (λvs _=>YL (Bm vs 0))
    ⟨_,_,rfl,en,Bn.drop X 16,b9.trans (PR X bb cu),by simp only[FB];omega,g3⟩ ?_
   rintro vs W4 ⟨l4,v5,rfl,a8,J,bk,dj,g4⟩ _;rw[Bh,JS];obtain⟨q5,d5,rfl,_⟩:=a8.AO;apply DY (λB=>AI W4 B) (AK.drew _ _);rw[AP,BM];refine AE (λeA=>?_) λ_=>λB o=>Q (ge a8 o) J bk dj (gW.trans (g4.trans o));have run:=λ(j:Nat) (hj:j<=l4.length) (w':e_)=>Gf (a:=q5) (n:=l4.length) (c:=d5) hu hi hs hj w';have bl:=λ(j:Nat) (hj:j<=l4.length)=>OW a8 hj;apply wq a8 J E;refine⟨_,λw' _=>run 8 E w',?_⟩;refine wq (bl 8 E) (Bn.drop J 8) (by simp[FB];omega) ?_;have u0:=Jn J;have u1:=Jn (Bn.drop J 8);have u2:=Jn (Bn.drop J 16);have u3:=Jn (Bn.drop J 24);refine⟨_,λw' _=>E9 w' u0 u1,?_⟩;refine⟨_,λw' _=>run 16 E w',?_⟩;refine wq (bl 16 E) (Bn.drop J 16) (by simp[FB];omega) ?_;refine⟨_,λw' _=>run 24 E w',?_⟩;refine wq (bl 24 E) (Bn.drop J 24) (by simp[FB];omega) ?_;refine⟨_,λw' _=>E9 w' u2 u3,?_⟩;refine⟨_,λw' _=>E9 w' (GB u0 u1) (GB u2 u3),?_⟩;refine⟨_,λw' _=>OP w' (GB (GB u0 u1) (GB u2 u3)) (by unfold LZ;decide),?_⟩;show Ru .u64 (.int .u64 _) _ _;rw[Aj];intro B o;refine AE (λhz=>?_) λ_=>Q (ge a8 o) J bk dj (gW.trans (g4.trans o));have ak:((Q7 (Q7 (JV l4) (JV (l4.drop 8))) (Q7 (JV (l4.drop 16)) (JV (l4.drop 24)))).toNat &&& 9259542123273814144:Nat)=0:=T8 hz;simp[Q7,wI] at ak;obtain⟨z1,z2⟩:=IP ak;obtain⟨z3,z4⟩:=IP z1;obtain⟨z5,z6⟩:=IP z2;have eo:∀j,j<32->l4.getD j 0<128:=by
    intro j hj;rcases(E:j<8\/8<=j/\j<16\/16<=j/\j<24\/24<=j) with h|h|h|h;exact Fo J z3 h;have:=Fo (Bn.drop J 8) z4 (j:=j-8) E;rw[Ld,(E:8+(j-8)=j)] at this;exact this;have:=Fo (Bn.drop J 16) z5 (j:=j-16) E;rw[Ld,(E:16+(j-16)=j)] at this;exact this;have:=Fo (Bn.drop J 24) z6 (j:=j-24) E;rw[Ld,(E:24+(j-24)=j)] at this;exact this
   refine sl (ge a8 o) (j:=32) E λv6 dk=>?_;obtain⟨q6,d6,rfl,_⟩:=dk.AO;refine⟨⟨_,_,rfl,dk,Bn.drop J 32,bk.trans (PR J E eo),by simp only[FB];omega,g4.trans o⟩,?_⟩;show(l4.drop 32).length<l4.length;rw[FB];omega
  apply DY (λB=>AI W2 B) (AK.drew _ _);rw[AP,BM];refine AE (λbb=>?_) λ_=>λB o=>⟨g2.trans o,o,false,rfl,λh=>(nomatch h)⟩;apply wq V X E;refine⟨_,λw' _=>Gf (a:=q3) (n:=l3.length) (c:=d3) hu hi hs (j:=8) E w',?_⟩;refine wq (OW V E) (Bn.drop X 8) (by simp[FB];omega) ?_;have u0:=Jn X;have u1:=Jn (Bn.drop X 8);refine⟨_,λw' _=>E9 w' u0 u1,?_⟩;refine⟨_,λw' _=>OP w' (GB u0 u1) (by unfold LZ;decide),?_⟩;show Ru .u64 (.int .u64 _) _ _;rw[Aj];intro B o;refine⟨g2.trans o,o,_,rfl,λhz=>?_⟩;rw[S9] at hz;have ak:((Q7 (JV l3) (JV (l3.drop 8))).toNat &&& 9259542123273814144:Nat)=0:=T8 hz;simp[Q7,wI] at ak;obtain⟨z1,z2⟩:=IP ak;refine⟨E,λj hj=>?_⟩;rcases(E:j<8\/8<=j) with h|h;exact Fo X z1 h;have:=Fo (Bn.drop X 8) z2 (j:=j-8) E;rw[Ld,(E:8+(j-8)=j)] at this;exact this
 rw[AP,BM];refine AE (λh8=>?_) λ_=>⟨AK.refl _ _,false,rfl,λh=>(nomatch h)⟩;apply AA (YP aa U E);rintro _ W2 ⟨rfl,g2⟩;refine AZ (OP W2 (Jn U) (by unfold LZ;decide)) ?_;rw[Aj];refine⟨g2,_,rfl,λhz=>?_⟩;rw[S9] at hz;exact⟨E,λj hj=>Fo U (T8 hz) hj⟩;have O:Dw (x::t)=(0,0)->∀{B},AI w B->Value.bool false=.bool (CT b).isSome/\AI w B:=λe B g=>⟨by rw[ba,MH D_,e];rfl,g⟩;have Cs:∀{n:Nat} {r:Int},Dw (x::t)=(r,n)->0<n->(CT (x::t)).isSome=(CT ((x::t).drop n)).isSome:=by
  intro n r e hn;rw[MH D_,e];show(decide (n≠0)&&_)=_;rw[TC (E:n≠0),zC]
 obtain⟨f,z,j,hf,ep,er,hz,hj,dr,eB,al⟩:=qZ (x:=x) E hx.2;have dT:=hT.U_ gW;have cf:W.cell? (Addr.add ⟨0,0,none⟩ (x.toNat*1))=some (.int .u8 f):=by
  rw[AH,xd,<-hf];have:=dT.first x.toNat E E;rwa [(E:((x.toNat:Nat):Int)=x)] at this
 refine AZ (KL (n:=256) (e:=5) (i:=Tryz.t5) (s:=1) C_ C_ C_ hx.1 E) (AD cf ?_);apply AZ (ic W ep er hz);apply AZ (Ee (k:=.i64) W C_ C_);have eC:=hz▸Nat.and_le_right;rw[wrap64 E E];apply AZ (LP (n:=4) W B_);have ej:f.fdiv (2 ^ 4)=(j:Int):=by
  rw[xW _ B_,<-hj];rfl
 rw[ej];apply AZ (KL (n:=16) (e:=290) (i:=Tryz.t290) (s:=2) C_ C_ C_ E E);rw[wI,AH];obtain⟨ca,cb⟩:=dT.Xh j dr;refine Ab (vs:=[.int .u8 (Qb j),.int .u8 (Qw j)]) rfl (λq u hu=>?_) ?_;rcases q with _|_|q;cases hu;exact ca;cases hu;exact cb;simp at hu;refine BJ (vs:=[.int .u8 (Qb j),.int .u8 (Qw j)]) rfl rfl n_ λb6 W2 e4 eI g6 e5 _=>?_;have bp:=e5 0 _ rfl;have bs:=e5 1 _ rfl;have I:=gW.trans g6;have Z:=ge hl g6;rw[Aj];refine AE (λh2=>?_) λh2=>?_;have eL:z=2:=E;have Ln:DH x=2:=E;obtain⟨e6,e7⟩:=al E;refine AV (λ_ W3=>AI W2 W3/\2<=(x::t).length/\(CT (x::t)).isSome=(CT ((x::t).drop 2)).isSome) ?_ ?_;rintro vs W3 ⟨g3,an,av⟩ _;refine sl (ge Z g3) (j:=2) an λv3 V=>?_;exact Q V (Bn.drop hB 2) av (by rw[FB];omega) (I.trans g3);apply DY (λB=>AI W2 B) (AK.drew _ _);rw[AP,As];refine AE (λe8=>λB o=>O (Ed hx.2 (by rw[Ln];omega)) (I.trans o)) λa1=>?_;obtain⟨y1,t1,rfl⟩:∃y t',t=y::t':=by cases t with|nil=>simp at a1|cons y t'=>exact⟨y,t',rfl⟩
 have a6:=U y1 ub;have hn:=jm (t:=t1) Ln a6.1 a6.2;obtain⟨_,r1,e1,_,e9,ax,rfl⟩:=Z.get (i:=1) D_;cases e1;have a7:=ax 0 _ rfl;refine AW (j:=1) D_ (BR (λw' g=>g.cell a7 E_) ?_);rw[AB];apply BR (λw' g=>g.cell bp E_);show Hm .u8 (.int .u8 y1) _ _;rw[As];refine AE (λay=>λB o=>O (by rw[hn,Bp E]) (I.trans o)) λay=>?_;rw[AB];apply BR (λw' g=>g.cell bs E_);refine AW (j:=1) D_ (BR (λw' g=>g.cell a7 E_) ?_);show Hm .u8 _ (.int .u8 y1) _;rw[As];intro B o;refine AE (λb0=>O (by rw[hn,Bp E]) (I.trans o)) λb0=>?_;exact⟨o,D_,Cs (by rw[hn,Cx E]) B_⟩;rw[Aj];refine AE (λh3=>?_) λh3=>?_;have eN:z=3:=E;have Ln:DH x=3:=E;obtain⟨e6,e7⟩:=al E;refine AV (λ_ W3=>AI W2 W3/\3<=(x::t).length/\(CT (x::t)).isSome=(CT ((x::t).drop 3)).isSome) ?_ ?_;rintro vs W3 ⟨g3,an,av⟩ _;refine sl (ge Z g3) (j:=3) an λv3 V=>?_;exact Q V (Bn.drop hB 3) av (by rw[FB];omega) (I.trans g3);apply DY (λB=>AI W2 B) (AK.drew _ _);rw[AP,As];refine AE (λe8=>λB o=>O (Ed hx.2 (by rw[Ln];omega)) (I.trans o)) λa1=>?_;obtain⟨y1,y2,t1,rfl⟩:∃y y2 t',t=y::y2::t':=by
  rcases t with _|⟨y,_|⟨y2,t'⟩⟩;simp at a1;simp at a1;exact⟨y,y2,t',rfl⟩
 have a6:=U y1 ub;have b7:=U y2 (aN _ ub);have hn:=jJ (t:=t1) Ln a6.1 a6.2 b7.1 b7.2;obtain⟨_,r1,e1,_,e9,ax,rfl⟩:=Z.get (i:=1) D_;cases e1;have a7:=ax 0 _ rfl;obtain⟨_,r2,e2,_,et,c4,rfl⟩:=Z.get (i:=2) D_;cases e2;have b8:=c4 0 _ rfl;refine AW (j:=1) D_ (BR (λw' g=>g.cell a7 E_) ?_);rw[AB];apply BR (λw' g=>g.cell bp E_);show Hm .u8 (.int .u8 y1) _ _;rw[As];refine AE (λay=>λB o=>O (by rw[hn,Bp E]) (I.trans o)) λay=>?_;rw[AB];apply BR (λw' g=>g.cell bs E_);refine AW (j:=1) D_ (BR (λw' g=>g.cell a7 E_) ?_);show Hm .u8 _ (.int .u8 y1) _;rw[As];refine AE (λb0=>λB o=>O (by rw[hn,Bp E]) (I.trans o)) λb0=>?_;refine AW (j:=2) D_ (BR (λw' g=>g.cell b8 E_) ?_);show Hm .u8 (.int .u8 y2) _ _;rw[As];refine AE (λc6=>λB o=>O (by rw[hn,Bp E]) (I.trans o)) λc6=>?_;refine AW (j:=2) D_ (BR (λw' g=>g.cell b8 E_) ?_);show Hm .u8 _ (.int .u8 y2) _;rw[As];intro B o;refine AE (λc7=>O (by rw[hn,Bp E]) (I.trans o)) λc7=>?_;exact⟨o,D_,Cs (by rw[hn,Cx E]) B_⟩;rw[Aj];refine AE (λh4=>?_) λh4=>?_;have eR:z=4:=E;have Ln:DH x=4:=E;obtain⟨e6,e7⟩:=al E;refine AV (λ_ W3=>AI W2 W3/\4<=(x::t).length/\(CT (x::t)).isSome=(CT ((x::t).drop 4)).isSome) ?_ ?_;rintro vs W3 ⟨g3,an,av⟩ _;refine sl (ge Z g3) (j:=4) an λv3 V=>?_;exact Q V (Bn.drop hB 4) av (by rw[FB];omega) (I.trans g3);apply DY (λB=>AI W2 B) (AK.drew _ _);rw[AP,As];refine AE (λe8=>λB o=>O (Ed hx.2 (by rw[Ln];omega)) (I.trans o)) λa1=>?_;obtain⟨y1,y2,y3,t1,rfl⟩:∃y y2 y3 t',t=y::y2::y3::t':=by
  rcases t with _|⟨y,_|⟨y2,_|⟨y3,t'⟩⟩⟩;simp at a1;simp at a1;simp at a1;exact⟨y,y2,y3,t',rfl⟩
 have a6:=U y1 ub;have b7:=U y2 (aN _ ub);have ea:=U y3 (aN _ (aN _ ub));have hn:=iM (t:=t1) Ln a6.1 a6.2 b7.1 b7.2 ea.1 ea.2;obtain⟨_,r1,e1,_,e9,ax,rfl⟩:=Z.get (i:=1) D_;cases e1;have a7:=ax 0 _ rfl;obtain⟨_,r2,e2,_,et,c4,rfl⟩:=Z.get (i:=2) D_;cases e2;have b8:=c4 0 _ rfl;obtain⟨_,r3,e3,_,b9,eu,rfl⟩:=Z.get (i:=3) D_;cases e3;have ec:=eu 0 _ rfl;refine AW (j:=1) D_ (BR (λw' g=>g.cell a7 E_) ?_);rw[AB];apply BR (λw' g=>g.cell bp E_);show Hm .u8 (.int .u8 y1) _ _;rw[As];refine AE (λay=>λB o=>O (by rw[hn,Bp E]) (I.trans o)) λay=>?_;rw[AB];apply BR (λw' g=>g.cell bs E_);refine AW (j:=1) D_ (BR (λw' g=>g.cell a7 E_) ?_);show Hm .u8 _ (.int .u8 y1) _;rw[As];refine AE (λb0=>λB o=>O (by rw[hn,Bp E]) (I.trans o)) λb0=>?_;refine AW (j:=2) D_ (BR (λw' g=>g.cell b8 E_) ?_);show Hm .u8 (.int .u8 y2) _ _;rw[As];refine AE (λc6=>λB o=>O (by rw[hn,Bp E]) (I.trans o)) λc6=>?_;refine AW (j:=2) D_ (BR (λw' g=>g.cell b8 E_) ?_);show Hm .u8 _ (.int .u8 y2) _;rw[As];refine AE (λc7=>λB o=>O (by rw[hn,Bp E]) (I.trans o)) λc7=>?_;refine AW (j:=3) D_ (BR (λw' g=>g.cell ec E_) ?_);show Hm .u8 (.int .u8 y3) _ _;rw[As];refine AE (λew=>λB o=>O (by rw[hn,Bp E]) (I.trans o)) λew=>?_;refine AW (j:=3) D_ (BR (λw' g=>g.cell ec E_) ?_);show Hm .u8 _ (.int .u8 y3) _;rw[As];intro B o;refine AE (λe4=>O (by rw[hn,Bp E]) (I.trans o)) λe4=>?_;exact⟨o,D_,Cs (by rw[hn,Cx E]) B_⟩;exact O (U9 hB E (by have:=Vk x;omega)) I
def O6:Nat->Nat->X_
 |0,n=>[(n:Int)]
 |f+1,n=>if n<=127 then[(n:Int)] else((n%128+128:Nat):Int)::O6 f (n/128)
def uv(n:Nat):X_:=O6 9 n
def H0(n:Int):Nat:=if 0<=n then(2*n).toNat else(-2*n-1).toNat
def Vq{a b:Int}(h:H0 a=H0 b):a=b:=by
 unfold H0 at h;split at h<;>split at h<;>omega
def IY{n:Int}(h0:-9223372036854775808<=n)(h1:n<=9223372036854775807):H0 n<18446744073709551616:=by
 unfold H0;split<;>omega
def kO:∀{f n m:Nat} {x y:X_},n<128 ^ (f+1)->m<128 ^ (f+1)->O6 f n++x=O6 f m++y->n=m/\x=y:=by
 intro f;induction f with
 |zero=>
  intro n m x y _ _ h;simp[O6,wZ] at h;exact⟨E,h.2⟩
 |succ f j=>
  intro n m x y o hm h;rw[aA6] at o hm;simp[O6] at h;by_cases h1:n<=127<;>by_cases i:m<=127;rw[Cx h1,Cx i] at h;simp[wZ] at h;exact⟨E,h.2⟩;rw[Cx h1,Bp i] at h;simp[No,wZ] at h;omega;rw[Bp h1,Cx i] at h;simp[No,wZ] at h;omega;rw[Bp h1,Bp i] at h;simp[No,wZ] at h;have:=j (yd E) (yd E) h.2;exact⟨E,this.2⟩
def RM{n m:Nat}{x y:X_}(i:n<18446744073709551616)(hm:m<18446744073709551616)(h:uv n++x=uv m++y):n=m/\x=y:=by
 exact kO E E h
def Ca:∀(f n:Nat),1<=(O6 f n).length/\(O6 f n).length<=f+1:=by
 intro f;induction f with
 |zero=>intro n;simp[O6]
 |succ f i=>
  intro n;simp[O6];split;simp;have:=i (n/128);simp[Hn];omega
def iN:∀(f n:Nat),n<128 ^ (f+1)->∀x∈O6 f n,0<=x/\x<256:=by
 intro f;induction f with
 |zero=>intro n j x i;simp[O6] at i;subst i;simp at j;omega
 |succ f o=>
  intro n j x i;rw[aA6] at j;simp[O6] at i;split at i;simp at i;omega;rcases I3.1 i with rfl|i;omega;exact o _ (yd E) x i
def EC{n:Nat}(i:n<18446744073709551616):∀x∈uv n,0<=x/\x<256:=by
 exact iN 9 n E
def PT(a:Attr):Prop:=(-9223372036854775808<=a.key/\a.key<=9223372036854775807)/\(0<=a.val.kind/\a.val.kind<256)/\(-9223372036854775808<=a.val.n/\a.val.n<=9223372036854775807)/\(0<=a.val.f/\a.val.f<18446744073709551616)/\a.val.s.size<18446744073709551616
def OF(a:Attr):X_:=uv (H0 a.key)++(uv a.val.kind.toNat++(uv (H0 a.val.n)++(uv a.val.f.toNat++(uv a.val.s.size++CA a.val.s))))
def Ho(l:W_):X_:=l.flatMap OF
def XF{s t:ByteArray}(h:CA s=CA t):s=t:=by
 unfold CA at h;cases s;cases t;simp[ByteArray.mk.injEq];exact aAE.1 ((List.map_inj_right (f:=λb:UInt8=>(b.toNat:Int)) (λa b e=>UInt8.toNat_inj.1 (Int.ofNat_inj.1 e))).1 h)
def DE(s:ByteArray):(CA s).length=s.size:=by simp[CA]
def iR{a b:Attr}(ha:PT a)(hb:PT b){x y:X_}(h:OF a++x=OF b++y):a=b/\x=y:=by
 obtain⟨i,a2,o,a4,X⟩:=ha;obtain⟨j,b2,B,b4,Y⟩:=hb;unfold OF at h;simp[Mp] at h;obtain⟨I,h⟩:=RM (IY i.1 i.2) (IY j.1 j.2) h;obtain⟨e2,h⟩:=RM E E h;obtain⟨J,h⟩:=RM (IY o.1 o.2) (IY B.1 B.2) h;obtain⟨e4,h⟩:=RM E E h;obtain⟨O,h⟩:=RM X Y h;obtain⟨Q,h⟩:=List.append_inj h (by rw[DE,DE,O]);refine⟨?_,h⟩;obtain⟨ak,U⟩:=a;obtain⟨bk,bv⟩:=b;obtain⟨Z,v2,v3,v4⟩:=U;obtain⟨u1,u2,V,u4⟩:=bv;simp only at *;have:=Vq I;have:=Vq J;have:=XF Q;have:Z=u1:=E;have:v3=V:=E;subst_vars;rfl
def eY:∀{l m:W_},(∀a∈l,PT a)->(∀a∈m,PT a)->Ho l=Ho m->l=m:=by
 have ne:∀a x,OF a++x≠[]:=λa x e=>by
  have:=Ca 9 (H0 a.key);have h:=tZ List.length e;simp only[OF,Ad,gC,uv] at h;omega
 intro l;induction l with
 |nil=>
  intro m _ hm h;cases m with
  |nil=>rfl
  |cons b m=>exact absurd h.symm (by simpa[Ho] using ne b (Ho m))
 |cons a l j=>
  intro m hl hm h;cases m with
  |nil=>exact absurd h (by simpa[Ho] using ne a (Ho l))
  |cons b m=>
   simp[Ho,vr] at h;obtain⟨rfl,o⟩:=iR (hl a ub) (hm b ub) h;rw[j (λx i=>hl x (aN _ i)) (λx i=>hm x (aN _ i)) (show Ho l=Ho m from o)]
def Ow(l:X_):ByteArray:=⟨(l.map λx=>UInt8.ofNat x.toNat).toArray⟩
def Jp{l:X_}(h:∀x∈l,0<=x/\x<256):CA (Ow l)=l:=by
 unfold CA Ow;simp[xn];conv=>rhs;rw[<-List.map_id l]
 refine yj λx i=>?_;have:=h x i;simp[Function.comp,UInt8.toNat_ofNat',id];omega
def bS{a:Attr}(h:PT a):∀x∈OF a,0<=x/\x<256:=by
 obtain⟨j,I,o,J,B⟩:=h;intro x i;simp[OF,DN] at i;rcases i with i|i|i|i|i|i;exact EC (IY j.1 j.2) x i;exact EC E x i;exact EC (IY o.1 o.2) x i;exact EC E x i;exact EC B x i;simp[CA,i7] at i;obtain⟨b,_,rfl⟩:=i;have:=b.toNat_lt;omega
def Nx{l:W_}(h:∀a∈l,PT a):∀x∈Ho l,0<=x/\x<256:=by
 intro x i;simp[Ho,xu] at i;obtain⟨a,ha,i⟩:=i;exact bS (h a ha) x i
def GU(l:W_):ByteArray:=Ow (Ho l)
def ML{l m:W_}(hl:∀a∈l,PT a)(hm:∀a∈m,PT a)(h:GU l=GU m):l=m:=by
 apply eY hl hm;rw[<-Jp (Nx hl),<-Jp (Nx hm)];exact tZ CA h
def GC(t:Tab W_)(f:d_->Option d_):Prop:=∀s v,f (.string s)=some v↔∃(i:Nat) (p:Ent W_),t.AQ[i]?=some p/\0<p.held/\s=GU p.set/\v=zI ((i:Int)+1)
def V6(ks:W_->Prop)(s:W_):Prop:=s≠[]/\(∀a∈s,PT a)/\ks s
def GC.some{K:W_->Prop}{t:Tab W_}{f:d_->Option d_}(h:GC t f)(hi:t.Inv (V6 K)){s:W_}(o:∀a∈s,PT a)(B:f (.string (GU s))=some v):∃i n:Nat,t.AQ[i]?=.some ⟨s,n⟩/\0<n/\v=zI ((i:Int)+1):=by
 obtain⟨i,p,h1,j,I,J⟩:=(h _ _).1 B;have:=ML o (hi.ok i p h1 j).2.1 I;subst this;exact⟨i,p.held,h1,j,J⟩
def GC.none{t:Tab W_}{f:d_->Option d_}(h:GC t f){s:W_}(j:f (.string (GU s))=Option.none):∀(i:Nat) (p:Ent W_),t.AQ[i]?=.some p->0<p.held->p.set≠s:=by
 rintro i p h1 o rfl;have:=(h (GU p.set) _).2 ⟨i,p,h1,o,rfl,rfl⟩;rw[j] at this;cases this
def GC.Kt{t:Tab W_}{f:d_->Option d_}(h:GC t f){i:Nat}{p:Ent W_}(hp:t.AQ[i]?=.some p)(h0:0<p.held){n:Nat}(O:0<n):GC (t.Kt i ⟨p.set,n⟩) f:=by
 intro s v;rw[h s v];have hi:=(Bq.1 hp).1;constructor;rintro⟨j,q,h1,J,B,I⟩;by_cases e:j=i;subst e;rw[hp] at h1;cases h1;exact⟨j,⟨p.set,n⟩,by show(t.AQ.set j _)[j]?=_;rw[sT hi],O,B,I⟩;exact⟨j,q,by show(t.AQ.set i _)[j]?=_;rw[vu (yH e)];exact h1,J,B,I⟩;rintro⟨j,q,h1,J,B,I⟩;have o:(t.AQ.set i ⟨p.set,n⟩)[j]?=.some q:=h1;by_cases e:j=i;subst e;rw[sT hi] at o;cases o;exact⟨j,p,hp,h0,B,I⟩;rw[vu (yH e)] at o;exact⟨j,q,o,J,B,I⟩
open Classical in
def GC.put{K:W_->Prop}{t:Tab W_}{f:d_->Option d_}(h:GC t f)(hi:t.Inv (V6 K)){s:W_}(Q:V6 K s)(U:f (.string (GU s))=Option.none) : GC (t.put s).2 (λV=>if V=.string (GU s) then Option.some (zI (((t.put s).1:Int)+1)) else f V):=by
 obtain⟨_,h1,Z,X,_⟩:=Tab.Ht hi Q (h.none U);intro Y v;simp[ze];constructor;intro O;split at O;rename_i e;subst e;cases O;exact⟨_,_,h1,Nat.one_pos,rfl,rfl⟩;obtain⟨j,p,i,B,o,I⟩:=(h Y v).1 O;have J:j≠(t.put s).1:=by
  rintro rfl;have:=Z p i;omega
 exact⟨j,p,(X j J).trans i,B,o,I⟩;rintro⟨j,p,i,B,o,I⟩;by_cases J:j=(t.put s).1;subst J;rw[h1] at i;cases i;rw[Cx o,I];rw[X j J] at i;rw[Bp];exact(h Y v).2 ⟨j,p,i,B,o,I⟩;intro e;rw[e] at o;exact h.none U j p i B (ML (hi.ok j p i B).2.1 Q.2.1 o.symm)
open Classical in
def GC.drop{K:W_->Prop}{t:Tab W_}{f:d_->Option d_}(h:GC t f)(hi:t.Inv (V6 K)){i:Nat}{p:Ent W_}(hp:t.AQ[i]?=.some p)(h0:0<p.held) : GC (t.drop [] i) (λY=>if Y=.string (GU p.set) then Option.none else f Y):=by
 have I:(t.AQ.set i ⟨[],0⟩)[i]?=.some ⟨[],0⟩:=sT ((Bq.1 hp).1);have B:∀j:Nat,j≠i->(t.AQ.set i (⟨[],0⟩:Ent W_))[j]?=t.AQ[j]?:=λj J=>vu (yH J);intro Z v;simp only[ze];constructor;intro V;split at V;cases V;rename_i e;obtain⟨j,q,U,O,Q,X⟩:=(h Z v).1 V;have J:j≠i:=by
  rintro rfl;rw[hp] at U;cases U;exact e Q
 exact⟨j,q,(B j J).trans U,O,Q,X⟩;rintro⟨j,q,U,O,Q,X⟩;have o:(t.AQ.set i (⟨[],0⟩:Ent W_))[j]?=.some q:=U;by_cases J:j=i;subst J;rw[I] at o;cases o;exact absurd O (aAK _);rw[B j J] at o;rw[Bp];exact(h Z v).2 ⟨j,q,o,O,Q,X⟩;intro e;rw[e] at Q;exact J (hi.KV j i q p o hp O h0 (ML (hi.ok j q o O).2.1 (hi.ok i p hp h0).2.1 Q.symm))
def GC.z:GC (Tab.z _) (λ_=>Option.none):=λs v=>by simp[Tab.z]
def V1(w:e_)(r:Nat):Nat:=match w.heap[r]? with|some (.stringIter _ p)=>p|_=>0
def Ts{r:Nat}{s:ByteArray}{Ct:Nat}(h:w.heap[r]?=some (.stringIter s Ct))(hp:Ct<s.size) : (Instr.next (g_ r) true ty).run P w=.ok (.tuple #[.bool true,zI Ct,.int .i32 (Utf8.decode s Ct).1]) { w with heap:=w.heap.setIfInBounds r (.stringIter s (Ct+(Utf8.decode s Ct).2)) }:=by
 simp[Instr.next,getObj,setObj,td,Sem.run,h,Result.andThen,hp];simp[goInt]
def Ro{r:Nat}{s:ByteArray}{Ct:Nat}(h:w.heap[r]?=some (.stringIter s Ct))(hp:¬Ct<s.size) : (Instr.next (g_ r) true ty).run P w=.ok (.tuple #[.bool false]) w:=by
 simp only[Instr.next,getObj,td,Sem.run,h,Result.andThen,hp,xF];rfl
def AK.setObj(w:e_)(r:Nat)(o o':Obj)(h:w.heap[r]?=some o):AK (λb=>b=r) w { w with heap:=w.heap.setIfInBounds r o' }:=⟨rfl,rfl,rfl,D_,λx _ i=>(aAH h).2 x i⟩
def LS{b:X_}(h:Cc S w v b)(hb:Bn b):(convert 42 9 v).run prog w=.ok (.string (Ow b)) w:=by
 obtain⟨a,c,rfl,hm⟩:=h.AO;cases a with
 |none=>
  have:b=[]:=by
   cases b with
   |nil=>rfl
   |cons x b=>obtain⟨p,r,e,_⟩:=h.get (i:=0) D_;cases e
  subst this;exact run_convert_bytes_nil w 42 5 C_ C_ _ _ _ C_
 |some p=>
  have hl:(b.map λx=>UInt8.ofNat x.toNat).length=b.length:=D_;have:=run_convert_bytes_back (P:=prog) w 42 9 5 p c (b.map λx=>UInt8.ofNat x.toNat) C_ C_ C_ (λj o=>by
   rw [hl] at o;obtain ⟨_,r,e,_,hr,hc,rfl⟩:=h.get o;cases e;have:=hc 0 _ rfl;rw [xd,ua] at this;rw [this];have B:=hb b[j] (Q0 o);simp [wz,UInt8.toNat_ofNat'];congr 2;omega)
  rw[hl] at this;exact this
def Uc{s:ByteArray}{Ct:Nat}{r:Int}{n:Nat}(hp:Ct<s.size)(h:Dw ((CA s).drop Ct)=(r,n))(Q:n≠0):((Utf8.decode s Ct).1:Int)=r/\(Utf8.decode s Ct).2=n:=by
 have o:∀k c,((CA s).drop Ct)[k]?=some c->Ct+k<s.size/\(((s.get! (Ct+k)).toNat:Nat):Int)=c:=by
  intro k c hc;rw[wH] at hc;have V:Ct+k<s.size:=by
   have:=(Bq.1 hc).1;rwa [DE] at this
  refine⟨V,?_⟩;have hg:s.get! (Ct+k)=s[Ct+k]'V:=by
   simp[ByteArray.get!,zS,V];rfl
  rw[hg];simp only[CA,vy] at hc;have a6:Ct+k<s.data.toList.length:=by simpa using V
  rw[By a6] at hc;have:=r9 hc;exact this
 have X:Bn ((CA s).drop Ct):=λx hx=>by
  have:=aR hx;simp[CA,i7] at this;obtain⟨b,_,rfl⟩:=this;have:=b.toNat_lt;omega
 have a7:((CA s).drop Ct).length≠0:=by rw[FB,DE];omega
 generalize (CA s).drop Ct=l at h o X a7;obtain⟨i,t,rfl⟩:∃x t,l=x::t:=by cases l with|nil=>simp at a7|cons x t=>exact⟨x,t,rfl⟩
 obtain⟨_,e0⟩:=o 0 i rfl;have h0:=X i ub;generalize Y:(s.get! (Ct+0)).toNat=U at e0;by_cases ha:i<128;rw[Pt h0.1 ha] at h;cases h;simp only[Utf8.decode,Y];rw[Cx E];exact⟨e0,rfl⟩;rcases Vk i with j|j|j|j;rw[U9 X E j] at h;cases h;exact absurd rfl Q;cases t with
 |nil=>rw[Ed h0.2 (by rw[j];simp)] at h;cases h;exact absurd rfl Q
 |cons c1 t=>
  have h1:=X c1 D_;obtain⟨l1,e1⟩:=o 1 c1 rfl;generalize O:(s.get! (Ct+1)).toNat=J at e1;rw[jm j h1.1 h1.2] at h;split at h;rename_i hc;cases h;have a8:194<=i/\i<224:=by
   unfold DH at j
   (repeat' split at j)<;>omega
  have B:128<=MX i:=by
   unfold MX;split;decide;split<;>decide
  have I:MA i<=191:=by
   unfold MA;split;decide;split<;>decide
  have q1:(U/32==6&&(decide (Ct+1<s.size)&&J/64==2))=true:=by
   simp[aE,zZ,S9];exact⟨E,l1,E⟩
  simp only[Utf8.decode,Y,O];rw[Bp E,Cx q1,Cx E];exact⟨E,rfl⟩;cases h;exact absurd rfl Q
 rcases t with _|⟨c1,_|⟨c2,t⟩⟩;rw[Ed h0.2 (by rw[j];simp)] at h;cases h;exact absurd rfl Q;rw[Ed h0.2 (by rw[j];simp)] at h;cases h;exact absurd rfl Q;have h1:=X c1 D_;have h2:=X c2 D_;obtain⟨l1,e1⟩:=o 1 c1 rfl;obtain⟨l2,e2⟩:=o 2 c2 rfl;generalize O:(s.get! (Ct+1)).toNat=J at e1;generalize a1:(s.get! (Ct+2)).toNat=Z at e2;rw[jJ j h1.1 h1.2 h2.1 h2.2] at h;split at h;rename_i hc;cases h;have a8:224<=i/\i<240:=by
  unfold DH at j
  (repeat' split at j)<;>omega
 have B:(if i=224 then(160:Int) else 128)<=c1:=by
  refine aAb ?_ hc.1.1;unfold MX;split;decide;split<;>decide
 have I:c1<=(if i=237 then(159:Int) else 191):=by
  apply aAb hc.1.2;unfold MA;split;decide;split<;>decide
 have aa:128<=c1:=by split at B<;>omega
 have ak:c1<=191:=by split at I<;>omega
 have q1:¬(U/32==6&&(decide (Ct+1<s.size)&&J/64==2))=true:=by
  simp only[aE,zZ,S9];rintro⟨x,_⟩;omega
 have q2:(U/16==14&&(decide (Ct+1<s.size)&&J/64==2)&&(decide (Ct+2<s.size)&&Z/64==2))=true:=by
  simp[aE,zZ,S9];exact⟨⟨E,l1,E⟩,l2,E⟩
 have q3:(decide (U%16*4096+J%64*64+Z%64 ≥ 2048)&&Utf8.valid ((U%16*4096+J%64*64+Z%64:Nat):Int))=true:=by
  simp[Utf8.valid,aE,yB,S9];refine⟨by split at B<;>omega,?_⟩;split at I;left;omega;by_cases hb:i<237;left;omega;right;omega
 simp only[Utf8.decode,Y,O,a1];rw[Bp E,Bp q1,Cx q2,Cx q3];exact⟨E,rfl⟩;cases h;exact absurd rfl Q;rcases t with _|⟨c1,_|⟨c2,_|⟨c3,t⟩⟩⟩;rw[Ed h0.2 (by rw[j];simp)] at h;cases h;exact absurd rfl Q;rw[Ed h0.2 (by rw[j];simp)] at h;cases h;exact absurd rfl Q;rw[Ed h0.2 (by rw[j];simp)] at h;cases h;exact absurd rfl Q;have h1:=X c1 D_;have h2:=X c2 D_;have h3:=X c3 D_;obtain⟨l1,e1⟩:=o 1 c1 rfl;obtain⟨l2,e2⟩:=o 2 c2 rfl;obtain⟨l3,e3⟩:=o 3 c3 rfl;generalize O:(s.get! (Ct+1)).toNat=J at e1;generalize a1:(s.get! (Ct+2)).toNat=Z at e2;generalize al:(s.get! (Ct+3)).toNat=m3 at e3;rw[iM j h1.1 h1.2 h2.1 h2.2 h3.1 h3.2] at h;split at h;rename_i hc;cases h;have a8:240<=i/\i<245:=by
  unfold DH at j
  (repeat' split at j)<;>omega
 have B:(if i=240 then(144:Int) else 128)<=c1:=by
  refine aAb ?_ hc.1.1;unfold MX;rw[Bp (E:¬i=224)];exact aAL _
 have I:c1<=(if i=244 then(143:Int) else 191):=by
  apply aAb hc.1.2;unfold MA;rw[Bp (E:¬i=237)];exact aAL _
 have aa:128<=c1:=by split at B<;>omega
 have ak:c1<=191:=by split at I<;>omega
 have q1:¬(U/32==6&&(decide (Ct+1<s.size)&&J/64==2))=true:=by
  simp only[aE,zZ,S9];rintro⟨x,_⟩;omega
 have q2:¬(U/16==14&&(decide (Ct+1<s.size)&&J/64==2)&&(decide (Ct+2<s.size)&&Z/64==2))=true:=by
  simp only[aE,zZ,S9];rintro⟨⟨x,_⟩,_⟩;omega
 have q3:(U/8==30&&(decide (Ct+1<s.size)&&J/64==2)&&(decide (Ct+2<s.size)&&Z/64==2)&&(decide (Ct+3<s.size)&&m3/64==2))=true:=by
  simp[aE,zZ,S9];exact⟨⟨⟨E,l1,E⟩,l2,E⟩,l3,E⟩
 have q4:(decide (U%8*262144+J%64*4096+Z%64*64+m3%64 ≥ 65536)&&Utf8.valid ((U%8*262144+J%64*4096+Z%64*64+m3%64:Nat):Int))=true:=by
  simp[Utf8.valid,aE,yB,S9];refine⟨by split at B<;>omega,?_⟩;right;split at I<;>omega
 simp only[Utf8.decode,Y,O,a1,al];rw[Bp E,Bp q1,Bp q2,Cx q3,Cx q4];exact⟨E,rfl⟩;cases h;exact absurd rfl Q
def VZ{b:X_}(h:Cc S w v b)(hb:Bn b)(hT:DV w)(hl:b.length*4<=140737488355328) :
  AF prog 66 [v] (λv' w'=>AI w w'/\match CT b with
   |some l=>∃sl,v'=.tuple #[sl,.int .i64 0]/\AG w.heap.size 21 1 CM w' sl l
   | none=>v'=.tuple #[i_,.int .i64 3]) w:=by
 refine H_ func66 ?_ (.y (.y (.y (.x (.y (.node [4] [(4,4),(6,6),(13,19)] .nil .nil))))));apply AA (fR h hb hT);rintro _ O ⟨rfl,Y⟩;rw[Aq];cases hr:CT b with
 |none=>exact Ai ⟨Y,rfl⟩
 |some rs=>
  refine AS (AZ (LS (h.U_ Y (by decide) λ_ _ h=>h) hb) ?_);have Z:CA (Ow b)=b:=Jp hb;have Ln:(Ow b).size=b.length:=by rw[<-DE,Z]
  generalize Ow b=s at Z Ln;apply AZ (run_range_string O 9 s (by kernel_rfl));have hit:=World.iter_heap O s 0;have g2:AI O (O.iter s 0):=AK.alloc _ _ _;have ak:=Y.size;generalize O.iter s 0=w2 at hit g2;generalize al:O.heap.size=r at hit;have an:w.heap.size<=r:=by omega
  refine AX (λvs W=>∃(Ct:Nat) (lv:d_) (Xh:X_),Ct<=b.length/\Xh.length<=Ct/\vs=[lv]/\W.heap[r]?=some (.stringIter s Ct)/\AG w.heap.size 21 1 CM W lv Xh/\lv.ownBlock≠some r/\AI w W/\CT b=(CT (b.drop Ct)).map (Xh++·)) (λ_ W=>b.length-V1 W r)
   ⟨0,_,[],Hw _,HK _,rfl,hit,AG.nil,(λh=>nomatch h),Y.trans g2,by simp⟩ ?_
  rintro vs W ⟨Ct,lv,Xh,a7,a8,rfl,hi,ho,B,gW,i⟩ _;have o:V1 W r=Ct:=by simp[V1,hi]
  by_cases I:Ct<s.size;have aa:Ct<b.length:=by omega
  have a1:b.drop Ct≠[]:=by intro e;have:=tZ List.length e;simp at this;omega
  have J:=bO (b.drop Ct);rw[FB] at J;rw[RT a1] at i;have a6:∃q n,Dw (b.drop Ct)=(q,n):=⟨_,_,rfl⟩;obtain⟨q,n,hq⟩:=a6;rw[hq] at i J;simp only at i J;have hn:n≠0:=by
   intro e;rw[Cx e,hr] at i;cases i
  rw[Bp hn] at i;obtain⟨d1,d2⟩:=Uc (s:=s) I (by rw[Z];exact hq) hn;apply AZ (Ts hi I);rw[d1,d2];refine Af (vs:=[_,_,_]) (by rfl) (Ai (Af (vs:=[_,_,_]) (by rfl) ?_));have m3:=AK.setObj W r _ (.stringIter s (Ct+n)) hi;have j:({ W with heap:=W.heap.setIfInBounds r (.stringIter s (Ct+n)) }:e_).heap[r]?=some (.stringIter s (Ct+n)):=((aAH (o':=.stringIter s (Ct+n)) hi).1);generalize ({ W with heap:=W.heap.setIfInBounds r (.stringIter s (Ct+n)) }:e_)=W3 at m3 j;have Q:AG w.heap.size 21 1 CM W3 lv Xh:=AG.U' ho m3 (λg hg e=>B (e▸hg)) λ_ _ _ h=>h;have U:=gW.next m3 λx hx e=>by omega
  show Eb _ _ _ _ [(0,.int .i32 q)] _ _;refine FL Lg Q U.size (cs:=[.int .i32 q]) (x:=q) (by kernel_rfl) rfl rfl (λ_ _ _=>CM.one) (λ_ _ _ _ _ _ h=>h) (by omega) (by simp[maxLen];omega) λv' w' h1 h2 h3=>?_;have V:=(wo.1 j).1;have X:=(h2.Ap r V B).trans j;refine⟨⟨Ct+n,v',Xh++[q],by omega,by simp;omega,rfl,X,h1,λe=>?_,U.next h2 λx hx e=>?_,?_⟩,?_⟩;rcases h3 r e with e|e;exact B e;omega;have:=(AG.Az Q x e).1;omega;rw[i,yG];cases CT (b.drop (Ct+n))<;>simp;rw[o];have:V1 w' r=Ct+n:=by simp[V1,X]
  rw[this];omega;apply AZ (Ro hi I);refine Af (vs:=[_]) (by rfl) (AS ?_);have:Ct=b.length:=by omega
  subst this;rw[xq,Su,hr] at i;simp[xE,S5,Ty] at i;subst i;exact⟨gW,lv,rfl,ho⟩
def jV{n:Nat}:(callFunc 220 #[.float .f64 n]).run prog w=.ok (.value (.int .u64 n)) w:=by
 have B : (Tryz.f220.name == "runtime.NumGoroutine") = false := C_
 have o:Tryz.f220.body.isNone=true:=C_;have i:Extern.findNext Tryz.f220=none:=C_;have j:Extern.find Tryz.f220=some Extern.MathFloatBits.float64bits:=C_;simp[callFunc,program,mark,td,Sem.run,Result.andThen,func220,i,j,yE];rfl
def dY{n:Int}:(callFunc 154 #[.int .u64 n]).run prog w=.ok (.value (.float .f64 n.toNat)) w:=by
 have B : (Tryz.f154.name == "runtime.NumGoroutine") = false := C_
 have o:Tryz.f154.body.isNone=true:=C_;have i:Extern.findNext Tryz.f154=none:=C_;have j:Extern.find Tryz.f154=some Extern.MathFloatBits.float64frombits:=C_;simp[callFunc,program,mark,td,Sem.run,Result.andThen,func154,i,j,yE];rfl
def dC{n:Nat}:AF prog 219 [.float .f64 n] (λv w'=>v=.bool (decide (IK (n:Int)))/\w'=w) w:=by
 apply H_ func219;refine AZ (v:=.bool (decide (IK (n:Int)))) (w':=w) ?_ ⟨rfl,rfl⟩;rw[<-XN];simp[ET,eqGuard,binOp,Op.floatCmp]
def nN{b:Bool}:AF prog 151 [.bool b] (λv w'=>v=.agg (⟨1,if b then 1 else 0,0,HO⟩:BF).cells.toArray/\AI w w') w:=by
 apply H_ func151;refine EJ λb2 w1 a1 a6 g2 _ I=>?_;refine⟨(⟨1,0,0,HO⟩:BF).cells.toArray,C_,?_⟩;refine BJ (vs:=(⟨1,0,0,HO⟩:BF).cells) rfl rfl (BF.one _) λB Z a7 a8 V J O=>?_;have Q:=g2.trans V;cases b with
 |true=>
  apply Ai;rw[AB];apply(O 1 B_).st rfl rfl;rw[AH];have m:=AK.setCell (M:=λx=>x=B) Z ⟨B,1,none⟩ (zI 1) rfl;have hc:∀j u,(⟨1,1,0,HO⟩:BF).cells[j]?=some u->(Z.setCell ⟨B,1,none⟩ (zI 1)).cell? ((⟨B,0,none⟩:Addr).add j)=some u:=by
   intro j u hu;rw [AH];by_cases e:j=1;subst e;have h1:=(O 1 B_).1;rw [AH] at h1;obtain ⟨u',X⟩:=pj.1 h1;cases hu;exact cO _ _ _ X;rw [Of _ _ _ _ (λe'=>by simp only [Addr.mk.injEq] at e';exact e e'.2.1.symm)];have:=J j u (by
    rcases j with _ | _ | _ | _ | j;exact hu;exact absurd rfl e;exact hu;exact hu;exact hu)
   rwa [AH] at this
  have i:=λj U=>((I j U).U' V E_).U' m (λe=>by rw[AH] at e;have:b2=B:=e;omega);generalize Z.setCell ⟨B,1,none⟩ (zI 1)=w3 at m hc i ⊢;apply Ab (vs:=(⟨1,1,0,HO⟩:BF).cells) rfl hc;refine CJ rfl (BF.one _) (λj U=>i j U) λw4 Y o _=>?_;refine Ab (vs:=(⟨1,1,0,HO⟩:BF).cells) rfl o ⟨rfl,?_⟩;exact(Q.next m E).next Y E
 |false=>
  apply AS;apply Ab (vs:=(⟨1,0,0,HO⟩:BF).cells) rfl J;refine CJ rfl (BF.one _) (λj U=>(I j U).U' V E_) λw4 Y o _=>?_;refine Ab (vs:=(⟨1,0,0,HO⟩:BF).cells) rfl o ⟨rfl,?_⟩;exact Q.next Y E
def ql{n:Int}:AF prog 152 [zI n] (λv w'=>v=.agg (⟨2,n,0,HO⟩:BF).cells.toArray/\AI w w') w:=by
 apply H_ func152;refine EJ λU V B I J _ i=>?_;refine⟨(⟨2,n,0,HO⟩:BF).cells.toArray,C_,?_⟩;refine CJ rfl (BF.one _) (λj O=>i j O) λX Q o _=>?_;refine Ab (vs:=(⟨2,n,0,HO⟩:BF).cells) rfl o ⟨rfl,?_⟩;exact J.next Q E
def gi{n:Nat}:AF prog 153 [.float .f64 n] (λv w'=>v=.agg (⟨3,0,if IK (n:Int) then 9221120237041090560 else n,HO⟩:BF).cells.toArray/\AI w w') w:=by
 apply H_ func153;refine EJ λY Q U V O _ o=>?_;apply AA dC;rintro _ _ ⟨rfl,rfl⟩;rename e_=>Q;by_cases B:IK (n:Int);rw[TC B];refine Ai ⟨(⟨3,0,9221120237041090560,HO⟩:BF).cells.toArray,C_,?_⟩;refine CJ rfl (BF.one _) (λj I=>o j I) λX J i _=>?_;refine Ab (vs:=(⟨3,0,9221120237041090560,HO⟩:BF).cells) rfl i ⟨by rw[Cx B],?_⟩;exact O.next J E;rw[WL B];refine AS ⟨_,_,jV,?_⟩;refine⟨(⟨3,0,(n:Int),HO⟩:BF).cells.toArray,C_,?_⟩;refine CJ rfl (BF.one _) (λj I=>o j I) λX J i _=>?_;refine Ab (vs:=(⟨3,0,(n:Int),HO⟩:BF).cells) rfl i ⟨by rw[Bp B],?_⟩;exact O.next J E
def TP(s:ByteArray):Prop:=s.size<=64/\(CT (CA s)).isSome=true
instance (s:ByteArray):Decidable (TP s):=by unfold TP;infer_instance
def Oy(s:ByteArray):Bn (CA s):=λx i=>by
 simp[CA,i7] at i;obtain⟨b,_,rfl⟩:=i;have:=b.toNat_lt;omega
def kl{s:ByteArray}(hT:DV w):AF prog 155 [.string s] (λv w'=>v=(if TP s then .tuple #[.agg (⟨4,0,0,s⟩:BF).cells.toArray,zI 0] else .tuple #[.agg (⟨0,0,0,HO⟩:BF).cells.toArray,zI 3])/\AI w w') w:=by
 apply H_ func155;refine EJ λY w1 a6 a7 Z _ B=>?_;rw[PU,BM];refine AE (λa1=>?_) λa8=>?_;refine⟨(⟨0,0,0,HO⟩:BF).cells.toArray,C_,?_⟩;refine CJ rfl (BF.one _) (λj i=>B j i) λw4 m4 Q _=>?_;refine Ab (vs:=(⟨0,0,0,HO⟩:BF).cells) rfl Q ⟨by rw[Bp (λh=>by have:=h.1;omega)],?_⟩;exact Z.next m4 E;refine US E λv3 w3 g3 U=>?_;have I:=Z.trans g3;have V:∀j,j<4->Cv w3 ((⟨Y,0,none⟩:Addr).add j):=λj i=>(B j i).U' g3 E_;refine AA (VZ U (Oy s) (hT.U_ I) (by rw[DE];omega)) ?_;rintro v5 w5 ⟨g5,hm⟩;have J:∀j,j<4->Cv w5 ((⟨Y,0,none⟩:Addr).add j):=λj i=>(V j i).U' g5 E_;have O:=I.trans g5;cases hr:CT (CA s) with
 |none=>
  rw[hr] at hm;subst hm;refine Bv ?_;rw[BH];refine AT M' λ_=>?_;refine⟨(⟨0,0,0,HO⟩:BF).cells.toArray,C_,?_⟩;refine CJ rfl (BF.one _) (λj i=>J j i) λw6 X o _=>?_;refine Ab (vs:=(⟨0,0,0,HO⟩:BF).cells) rfl o ⟨by rw[Bp (λh=>by have:=h.2;rw[hr] at this;cases this)],?_⟩;exact O.next X E
 |some l=>
  rw[hr] at hm;obtain⟨sl,rfl,_⟩:=hm;refine Bv ?_;refine KU ?_;refine⟨(⟨4,0,0,s⟩:BF).cells.toArray,C_,?_⟩;refine CJ rfl (BF.one _) (λj i=>J j i) λw6 X o _=>?_;refine Ab (vs:=(⟨4,0,0,s⟩:BF).cells) rfl o ⟨by rw[Cx ⟨E,by rw[hr];rfl⟩],?_⟩;exact O.next X E
def Te{v:BF}(hT:DV w)(h0:0<=v.f) : AF prog 86 [.agg v.cells.toArray] (λv' w'=>v'=.bool (decide (EE v))/\AI w w') w:=by
 refine H_ func86 ?_ (.y (.x (.y (.y (.z (.x .D8) (.y (.z (.x .D8) (.y (.x (.x .D8))))))))));refine CN λb X _ hz g hc _=>?_;have l1:=hc 1 _ rfl;have key:∀(b:Bool) w',AI w w'->(b=true↔EE v)->Value.bool b=.bool (decide (EE v))/\AI w w':=λb w' g h=>⟨by congr 1;rw[xk,h,S9],g⟩;have no:∀w',AI w w'->¬EE v->Value.bool false=.bool (decide (EE v))/\AI w w':=λw' g h=>key false w' g (by simp[yR,aBb];exact h);have B:∀j u,v.cells[j]?=some u->X.cell? ((⟨b,0,none⟩:Addr).add j)=some u:=hc;simp only[AB];apply AD (hc 0 _ rfl);rw[Aj];refine AE (λk1=>?_) λk1=>?_;apply DY (λi=>AI X i) (AK.drew _ _);refine J8 (vs:=v.cells) rfl (λi o j u hu=>o.cell (B j u hu) E_) (BR (λi o=>o.cell l1 E_) ?_);rw[Aj];refine⟨_,λi o=>AA nN (by rintro _ O ⟨rfl,I⟩;exact⟨rfl,o.trans I⟩),?_⟩;refine⟨_,λi _=>J1 _ _ v ⟨1,if decide (v.n=1) then 1 else 0,0,HO⟩ i,?_⟩;intro O I;apply key _ _ (g.trans I);rw[S9];constructor;intro e;refine .inl ⟨k1,?_,?_⟩;by_cases h1:v.n=1;rw[h1];simpa[h1] using e;have en:v.n=0:=by rw[e];simp[h1]
 rw[en];simpa[h1] using e;by_cases h1:v.n=1;exact .inr h1;left;rw[e];simp[h1];rintro(h|h|h|h);obtain⟨_,e,J⟩:=h;rcases J with J|J;rw[J] at e ⊢;exact e;rw[J] at e ⊢;exact e;omega;omega;omega;rw[Aj];refine AE (λk2=>?_) λk2=>?_;apply DY (λi=>AI X i) (AK.drew _ _);refine J8 (vs:=v.cells) rfl (λi o j u hu=>o.cell (B j u hu) E_) (BR (λi o=>o.cell l1 E_) ?_);refine⟨_,λi o=>AA ql (by rintro _ O ⟨rfl,I⟩;exact⟨rfl,o.trans I⟩),?_⟩;refine⟨_,λi _=>J1 _ _ v ⟨2,v.n,0,HO⟩ i,?_⟩;intro O I;apply key _ _ (g.trans I);rw[S9];refine⟨λh=>.inr (.inl ⟨k2,h⟩),λh=>?_⟩;rcases h with h|h|h|h;omega;exact h.2;omega;omega;rw[Aj];refine AE (λZ=>?_) λZ=>?_;apply DY (λi=>AI X i) (AK.drew _ _);refine J8 (vs:=v.cells) rfl (λi o j u hu=>o.cell (B j u hu) E_) (BR (λi o=>o.cell (hc 2 _ rfl) E_) ?_);refine⟨_,λi _=>dY,?_⟩;refine⟨_,λi o=>AA gi (by rintro _ O ⟨rfl,I⟩;exact⟨rfl,o.trans I⟩),?_⟩;refine⟨_,λi _=>J1 _ _ v _ i,?_⟩;intro O I;apply key _ _ (g.trans I);have ef:((v.f.toNat:Nat):Int)=v.f:=E;rw[S9,ef];constructor;intro e;refine .inr (.inr (.inl ⟨Z,?_,?_⟩));by_cases J:IK v.f;rw[Cx J] at e;rw[tZ BF.f e];exact e;rw[Bp J] at e;exact e;by_cases J:IK v.f;rw[Cx J] at e;exact .inr (tZ BF.f e);exact .inl J;rintro(h|h|h|h);omega;omega;obtain⟨_,e,J⟩:=h;by_cases hh:IK v.f;rw[Cx hh];rw[J.resolve_left λx=>x hh] at e;exact e;rw[Bp hh];exact e;omega;rw[Aj];refine AE (λk4=>?_) λk4=>no _ g ?_;refine AD (hc 3 _ rfl) (AA (kl (hT.U_ g)) ?_);rintro v3 O ⟨rfl,I⟩;have Q:=g.trans I;by_cases U:TP v.s;rw[Cx U];refine Bv ?_;refine BJ (vs:=(⟨4,0,0,v.s⟩:BF).cells) rfl rfl (BF.one _) λb4 w4 _ _ Y V _=>?_;rw[Aj];refine AE (λ_=>?_) λe=>(e rfl).elim;apply Ab (vs:=v.cells) rfl (λj u hu=>(I.trans Y).cell (B j u hu) E_);refine Ab (vs:=(⟨4,0,0,v.s⟩:BF).cells) rfl V (AZ (J1 _ _ v ⟨4,0,0,v.s⟩ w4) ?_);apply key _ _ (Q.trans Y);rw[S9];refine⟨λe=>.inr (.inr (.inr ⟨k4,e,U.1,U.2⟩)),λh=>?_⟩;rcases h with h|h|h|h;omega;omega;omega;exact h.2.1;rw[Bp U];refine Bv ?_;refine BJ (vs:=(⟨0,0,0,HO⟩:BF).cells) rfl rfl (BF.one _) λb4 w4 _ _ Y V _=>?_;rw[Aj];refine AE M' λ_=>no _ (Q.trans Y) ?_;rintro(h|h|h|h);omega;omega;omega;exact U ⟨h.2.2.1,h.2.2.2⟩;rintro(h|h|h|h);exact k1 h.1;exact k2 h.1;exact Z h.1;exact k4 h.1
section
variable {α:Type}[Inhabited α]
def ND(enc:α->V_)(k:Nat)(hk:∀x,(enc x).length=k)(d:Array α):(Sort.flatK enc k d).toList=(d.toList.map enc).flatten:=by
 refine wm λt=>?_;have hl:∀r∈d.toList.map enc,r.length=k:=λr hr=>by obtain⟨x,_,rfl⟩:=i7.1 hr;exact hk x
 have B:(d.toList.map enc).flatten.length=d.size*k:=by rw[ED _ hl,FA,yN]
 by_cases ht:t<d.size*k;have i:0<k:=by
  rcases Nat.eq_zero_or_pos k with h|h;subst h;simp at ht;exact h
 have I:(Sort.flatK enc k d).toList[t]?=some (Sort.flatK enc k d)[t]!:=by
  have j:t<(Sort.flatK enc k d).size:=by simpa using ht
  rw[wU,yU j,zS _ t j]
 rw[I,Sort.get_flatK enc k d t ht];have o:=Ke (d.toList.map enc) (t/k) (t%k) (enc d[t/k]!) hl (by simp[(aBI i).2 ht]) (aAF _ i);rw[zQ t k] at o;rw[o];have hm:t%k<(enc d[t/k]!).length:=by rw[hk];exact aAF _ i
 rw[By hm,zS (enc d[t/k]!) _ hm];rw[i6 (by simp;omega),i6 (by omega)]
def L4(F i:Array d_)(h:F.size<=i.size):(Sort.putCells id 0 F i).size=i.size/\(Sort.putCells id 0 F i).toList.take F.size=F.toList:=by
 refine⟨by simp[Sort.putCells],wm λt=>?_⟩;by_cases ht:t<F.size;rw[wY,Cx ht,wU,wU];have h1:t<i.size:=E;simp[Sort.putCells,ht,h1];rw[wY,Bp ht,i6 (by simp;omega)]
def Qg{enc:α->V_}{k:Nat}{g m e:Nat}{d:Array α}{os:Array Obj}{i:Array d_}(o:w.heap[g]?=some (.cells i e (0,0))) : (Go.Proofs.sortWorldK enc k w g 0 m d os).heap[g]?=some (.cells (Sort.putCells id 0 (Sort.flatK enc k d) i) e (0,0))/\AK (λb=>b=g) w (Go.Proofs.sortWorldK enc k w g 0 m d os):=by
 have Ln:(w.heap.modify g (Sort.onCells (Sort.putCells id 0 (Sort.flatK enc k d)))).size=w.heap.size:=D_;have j:(Go.Proofs.sortWorldK enc k w g 0 m d os).heap=w.heap.modify g (Sort.onCells (Sort.putCells id 0 (Sort.flatK enc k d)))++os:=rfl;refine⟨?_,⟨rfl,rfl,rfl,by rw[j,zw,Ln];omega,λb hb B=>?_⟩⟩;rw[j,aAg (by rw[Ln];exact((wo.1 o).1)),aBK,Cx rfl,o];rfl;rw[j,aAg (by rw[Ln];exact hb),aBK,Bp (λh=>B h.symm)]
def AG.XD{B e k:Nat}{R:e_->V_->α->Prop}{enc:α->V_}(hk:∀x,(enc x).length=k)(h1:∀x,∀v∈enc x,v.oneCell'=true)(hR:∀w r x,R w r x↔r=enc x){g n c:Nat}{l:List α}(h:AG B e k R w (.slice (h_ g) n c) l) : n=l.length/\g<w.heap.size/\Sort.HoldsK enc k w g 0 l.toArray/\∀(m:Nat) (d:Array α) (os:Array Obj),d.size=l.length->AG B e k R (Go.Proofs.sortWorldK enc k w g 0 m d os) (.slice (h_ g) n c) d.toList/\AK (λb=>b=g) w (Go.Proofs.sortWorldK enc k w g 0 m d os):=by
 obtain⟨An,h2,h3,h4,h5⟩:=h;obtain⟨q1,q2⟩:=h2;rcases q2 with⟨q,_⟩|⟨g',cap,I,q,hg,V,hn,hm,o,O⟩;cases q;cases q;have Y:g<w.heap.size:=(wo.1 V).1;have J:An=l.map enc:=by
  refine wm λi=>?_;rw[vy];by_cases hi:i<l.length;have Q:i<An.length:=E;rw[By hi,By Q,xE,(hR w An[i] l[i]).1 (h5 i _ _ (By Q) (By hi))];rw[i6 E,i6 E];rfl
 have U:l.length*k<=c*k:=wj _ hn;refine⟨rfl,Y,λj Z=>?_,λm d os X=>?_⟩;rw[zX] at Z;have a1:j<l.length*k:=by simpa using Z
 have a6:j<I.size:=by rw[o];omega
 have e0:(Sort.flatK enc k l.toArray).toList=An.flatten:=by rw[ND enc k hk,J]
 have e1:An.flatten[j]?=some (Sort.flatK enc k l.toArray)[j]!:=by
  have hs:j<(Sort.flatK enc k l.toArray).size:=by rw[zX];exact Z
  rw[<-e0,wU,yU hs,zS _ j hs]
 rw[<-O,wY,Cx a1,wU] at e1;rw[wS];refine⟨?_,?_⟩;simp[World.cell?,V];exact e1;simp[World.frozen?,V];obtain⟨r1,r2⟩:=Qg (enc:=enc) (k:=k) (m:=m) (d:=d) (os:=os) V;refine⟨⟨d.toList.map enc,⟨?_,.inr ⟨g,c,_,by have e:d.toList.length=l.length:=X;rw[e],hg,r1,?_,hm,?_,?_⟩⟩,D_,λr hr=>?_,λi r x hr hx=>?_⟩,r2⟩;have:=ED (d.toList.map enc) (k:=k) λr hr=>by obtain⟨x,_,rfl⟩:=i7.1 hr;exact hk x
 simpa using this;rw[yN,X];exact hn;rw[(L4 (Sort.flatK enc k d) I (by rw[zX,X,o];exact U)).1];exact o;have:=(L4 (Sort.flatK enc k d) I (by rw[zX,X,o];exact U)).2;rw[zX] at this;rw[yN,this,ND enc k hk];obtain⟨x,_,rfl⟩:=i7.1 hr;exact⟨hk x,h1 x⟩;rw[vy] at hr;rw[hx] at hr;exact(hR _ _ _).2 (r9 hr).symm
end
def Uy:Go.Shelf.Ren:=⟨λ|6=>27|15=>82|14=>81|28=>149|29=>150|20=>141|21=>142|22=>143|23=>144|24=>145|25=>146|26=>147|27=>148|46=>214|47=>215|48=>216|49=>217|50=>218|57=>276|n=>n,λ|22=>22|24=>58|25=>80|3=>3|39=>136|0=>0|53=>220|55=>59|4=>4|46=>213|45=>212|50=>217|5=>5|9=>9|66=>297|70=>301|76=>371|77=>372|n=>n,λ|n=>n⟩
def Ye:Go.Proofs.SlLaysF0.n6 prog Uy:={mixed:=C_,f6:=⟨Tryz.f27.name,B_,func27.trans (tZ some C_)⟩,f14:=⟨Tryz.f81.name,B_,func81.trans (tZ some C_)⟩,f15:=func82.trans (tZ some C_),f20:=⟨Tryz.f141.name,B_,func141.trans (tZ some C_)⟩,f21:=⟨Tryz.f142.name,B_,func142.trans (tZ some C_)⟩,f22:=⟨Tryz.f143.name,B_,func143.trans (tZ some C_)⟩,f23:=⟨Tryz.f144.name,B_,func144.trans (tZ some C_)⟩,f24:=⟨Tryz.f145.name,B_,func145.trans (tZ some C_)⟩,f25:=⟨Tryz.f146.name,B_,func146.trans (tZ some C_)⟩,f26:=⟨Tryz.f147.name,B_,func147.trans (tZ some C_)⟩,f27:=⟨Tryz.f148.name,B_,func148.trans (tZ some C_)⟩,f28:=func149.trans (tZ some C_),f29:=func150.trans (tZ some C_),f46:=⟨Tryz.f214.name,B_,func214.trans (tZ some C_)⟩,f47:=func215.trans (tZ some C_),f48:=func216.trans (tZ some C_),f49:=⟨Tryz.f217.name,B_,func217.trans (tZ some C_)⟩,f50:=⟨Tryz.f218.name,B_,func218.trans (tZ some C_)⟩,f57:=⟨Tryz.f276.name,B_,func276.trans (tZ some C_)⟩,t0:=underlying0,a0:=Tryz.isAgg0,z0:=Tryz.sizeOf0,v0:=Tryz.zeroValue0,t3:=underlying3,a3:=Tryz.isAgg3,z3:=Tryz.sizeOf3,v3:=Tryz.zeroValue3,t4:=underlying4,a4:=Tryz.isAgg4,z4:=Tryz.sizeOf4,v4:=Tryz.zeroValue4,t5:=underlying5,a5:=Tryz.isAgg5,z5:=Tryz.sizeOf5,v5:=Tryz.zeroValue5,t9:=underlying9,a9:=Tryz.isAgg9,z9:=Tryz.sizeOf9,v9:=Tryz.zeroValue9,t22:=underlying22,a22:=Tryz.isAgg22,z22:=Tryz.sizeOf22,v22:=Tryz.zeroValue22,t25:=underlying80,a25:=Tryz.isAgg80,z25:=Tryz.sizeOf80,v25:=Tryz.zeroValue80,t39:=underlying136,a39:=Tryz.isAgg136,z39:=Tryz.sizeOf136,v39:=Tryz.zeroValue136,t45:=underlying212,a45:=Tryz.isAgg212,z45:=Tryz.sizeOf212,v45:=Tryz.zeroValue212,t46:=underlying213,a46:=Tryz.isAgg213,z46:=Tryz.sizeOf213,v46:=Tryz.zeroValue213,t50:=underlying217,a50:=Tryz.isAgg217,z50:=Tryz.sizeOf217,v50:=Tryz.zeroValue217,t53:=underlying220,a53:=Tryz.isAgg220,z53:=Tryz.sizeOf220,v53:=Tryz.zeroValue220,t55:=underlying59,a55:=Tryz.isAgg59,z55:=Tryz.sizeOf59,v55:=Tryz.zeroValue59,t66:=underlying297,a66:=Tryz.isAgg297,z66:=Tryz.sizeOf297,v66:=Tryz.zeroValue297,t70:=underlying301,a70:=Tryz.isAgg301,z70:=Tryz.sizeOf301,v70:=Tryz.zeroValue301,t76:=underlying371,a76:=Tryz.isAgg371,z76:=Tryz.sizeOf371,v76:=Tryz.zeroValue371,t77:=underlying372,a77:=Tryz.isAgg372,z77:=Tryz.sizeOf372,v77:=Tryz.zeroValue372 }
def lF(x y:DKey)(W:e_):Calls prog 28 #[.agg x.cells.toArray,.agg y.cells.toArray] W λe w'=>e=.returned (zI (NS x.id y.id))/\∃q i,w'=Sort.grow (W.drewN q) i:=by
 have h:AF prog 28 [.agg x.cells.toArray,.agg y.cells.toArray] (λv w'=>v=zI (NS x.id y.id)/\∃i,w'=Sort.grow W i) W:=by
  apply G_ func28;refine⟨x.cells,rfl,⟨y.cells,rfl,WY ?_⟩⟩;rw[AB];have c1:∀j u,x.cells[j]?=some u->((W.alloc (.cells x.cells.toArray 58)).alloc (.cells y.cells.toArray 58)).cell? ((⟨W.heap.size,0,none⟩:Addr).add j)=some u:=λj u hu=>(AK.alloc (λ_=>False) _ _).cell (Fi hu) E_;have c2:∀j u,y.cells[j]?=some u->((W.alloc (.cells x.cells.toArray 58)).alloc (.cells y.cells.toArray 58)).cell? ((⟨(W.alloc (.cells x.cells.toArray 58)).heap.size,0,none⟩:Addr).add j)=some u:=λj u hu=>Fi hu;apply AD (c1 0 _ rfl);rw[AB];apply AD (c2 0 _ rfl);apply AA cj;rintro _ _ ⟨rfl,rfl⟩;exact⟨rfl,_,by rw[Sort.alloc_eq_grow,Sort.alloc_eq_grow,Sort.grow_grow]⟩
 apply yh h;rintro e w' ⟨v,rfl,rfl,i,rfl⟩;exact⟨rfl,0,i,rfl⟩
def qY:Sort.SWO (Go.Proofs.ltOf λx y:DKey=>NS x.id y.id):=by
 have e:∀x y:DKey,Go.Proofs.ltOf (λx y:DKey=>NS x.id y.id) x y=decide (x.id<y.id):=λx y=>by
  unfold Go.Proofs.ltOf NS;by_cases h1:x.id<y.id;simp[h1];by_cases i:y.id<x.id<;>simp[h1,i]
 exact⟨λx=>by rw[e];simp,λx y z h1 i=>by rw[e] at *;simp at *;omega,λx y z h1 i=>by rw[e] at *;simp at *;omega⟩
instance:Inhabited DKey:=⟨DKey.zero⟩
def dg{o:Y'}(h:AG B 58 6 IC w v o)(hl:o.length<=1099511627776) : AF prog 27 [v,.func (.func 28) #[] #[]] (λ_ w'=>∃ks:Y',ks.Perm o/\ks.Pairwise (λx y=>x.id<=y.id)/\AG B 58 6 IC w' v ks/\AK (λb=>v.ownBlock=some b) w w') w:=by
 obtain⟨a,c,rfl,_,_,hp,hn⟩:=h.AO;cases a with
 |none=>
  have e:=hn rfl;subst e;apply yh (Go.Proofs.AnyF.slices_SortFunc_none Ye none c _ w);rintro _ _ ⟨rfl,rfl⟩;exact⟨_,rfl,[],xQ _,List.Pairwise.nil,h,AK.refl _ _⟩
 |some p=>
  obtain⟨g,rfl,_,Q,a1⟩:=hp p rfl;obtain⟨_,_,hH,hS⟩:=AG.XD (enc:=DKey.cells) (λ_=>rfl) (λx=>IC.one (w:=w) (x:=x) rfl) (λ_ _ _=>yY) h;have hc:=Go.Proofs.AnyQ.slices_SortFunc Ye 6 Tryz.isAgg58 Tryz.sizeOf58 DKey.cells (λ_=>rfl) (λx=>IC.one (w:=w) (x:=x) rfl) (λx y=>NS x.id y.id) qY 28 #[] g 0 c o.toArray w (Cs _ rfl) (λm os dk _ x y=>lF x y _) hH Q (by simp;omega);rw[xw] at hc;apply yh hc;rintro _ _ ⟨rfl,I,m,os,J,O,rfl⟩;obtain⟨h1,V,X⟩:=J;have Y:I.size=o.length:=by rw[h1,xw]
  obtain⟨o1,o2⟩:=hS m I os Y;refine⟨_,rfl,I.toList,?_,?_,o1,o2.mono λb _ e=>by rw[e];rfl⟩;have e1:I.extract 0 o.length=I:=by rw[<-Y];exact Array.extract_size
  have e2:o.toArray.extract 0 o.length=o.toArray:=by
   have:=Array.extract_size (xs:=o.toArray);rwa [xw] at this
  rw[e1,e2] at X;simpa using X;rw[xM];intro i j hi Z U;simp[yN] at hi Z;have:=O i j (Hw _) U (by omega);rw[zS I i hi,zS I j Z] at this;have e:Go.Proofs.ltOf (λx y:DKey=>NS x.id y.id) I[j] I[i]=decide (I[j].id<I[i].id):=by
   unfold Go.Proofs.ltOf NS;by_cases h1:I[j].id<I[i].id;simp[h1];by_cases V:I[i].id<I[j].id<;>simp[h1,V]
  rw[e] at this;simp[wQ] at this;simp[Array.getElem_toList];omega
def Rp(i:Y'):Prop:=i.Pairwise λx y=>x.id≠y.id
def NT{o:Y'}:Gb o↔o.length<=64/\(∀k∈o,Cq k)/\Rp o:=by
 unfold Gb qE Rp;rw[xM];constructor;rintro⟨h1,I⟩;refine⟨h1,λk hk=>?_,λi j hi J O=>?_⟩;obtain⟨i,hi,rfl⟩:=List.getElem_of_mem hk;exact(I i hi _ (By hi)).1;exact(I j J _ (By J)).2 i O _ (By hi);rintro⟨h1,I,Q⟩;refine⟨h1,λi hi k hk=>?_⟩;rw[By hi] at hk;cases hk;refine⟨I _ (Q0 hi),λj J U B=>?_⟩;rw[By E] at B;cases B;exact Q j i E hi J
def P5{L:Y'}{id:Int}:(L.map λk=>(k.id,(Value.agg k.cells.toArray))).find? (λp=>decide (p.1=id))=(Bg L id).map λk=>(k.id,.agg k.cells.toArray):=by
 unfold Bg;rw[List.find?_map];rfl
def SX{L:Y'}(B:Rp L){id:Int}{k:DKey}:Bg L id=some k↔k∈L/\k.id=id:=by
 induction L with
 |nil=>simp[Bg]
 |cons x L I=>
  unfold Rp at B;rw[we] at B;have j:=I B.2;unfold Bg at j ⊢;by_cases o:x.id=id;rw[List.find?_cons_of_pos (by simpa using o)];simp[S5,I3];constructor;rintro rfl;exact⟨.inl rfl,o⟩;rintro⟨rfl|hk,i⟩;rfl;exact(B.1 k hk (by rw[o,i])).elim;rw[List.find?_cons_of_neg (by simpa using o),j];constructor;rintro⟨h1,i⟩;exact⟨aN _ h1,i⟩;rintro⟨h1,i⟩;rcases I3.1 h1 with rfl|h1;exact(o i).elim;exact⟨h1,i⟩
def Rp.Ix{L L':Y'}(hp:L.Perm L')(h:Rp L):Rp L':=(hp.pairwise_iff (R:=λx y:DKey=>x.id≠y.id) λh=>h.symm).1 h
def YD{L L':Y'}(hp:L.Perm L')(i:Rp L)(id:Int):Bg L id=Bg L' id:=by
 refine Option.ext λk=>?_;rw[SX i,SX (i.Ix hp),hp.mem_iff]
def bI{L:Y'}(i:Rp L)(j:L.Pairwise λx y=>x.id<=y.id):L.Pairwise λx y=>x.id<y.id:=by
 refine(List.Pairwise.and i j).imp λ{x y} h=>?_;obtain⟨h1,o⟩:=h;omega
structure cQ (w0 W:e_) (b m:Nat) (kv:d_) (keys:Y') (i:Nat):Prop where
 c0:W.cell? ⟨b,0,none⟩=some kv
 c1:W.cell? ⟨b,1,none⟩=some (.map (some m))
 row:AG w0.heap.size 58 6 IC W kv keys
 mp:NC W m ((keys.take i).map λk=>(k.id,.agg k.cells.toArray))
 hb:w0.heap.size<=b
 hm:w0.heap.size<=m
 ne:m≠b
 EV:∀g,kv.ownBlock=some g->g≠m/\g≠b
 g:AI w0 W
def cQ.U_{b m i:Nat}{B:d_}{j:Y'}(h:cQ w0 W b m B j i)(o:AI W W'):cQ w0 W' b m B j i:=⟨o.cell h.c0 E_,o.cell h.c1 E_,AG.U' h.row o C0 F_,h.mp.U' o E_,h.hb,h.hm,h.ne,h.EV,h.g.trans o⟩
open Classical in
def Qe{o:Y'}(h:Mh S w sv o) : AF prog 6 [sv] (λv' w'=>AI w w'/\((Gb o/\∃ (kv:d_) (ks:Y'),v'=.tuple #[kv,zI 0]/\ks.Perm o/\ks.Pairwise (λx y=>x.id < y.id)/\Cg (λb=>w.heap.size<=b) w' kv ks)\/ (¬ Gb o/\v'=.tuple #[.pointer none,zI 3]))) w:=by
 refine H_ func6 ?_ (.y (.y (.y (.x (.y (.node [19] [(2,3),(6,8),(19,46)] (.y (.y (.x (.y (.cut [] [(2,3),(7,8),(23,38)] (.cut [8] [(7,8),(23,32)] (.dt [6,10,11] (k_ [0,1,3,7,0,16,63,127,255,255,0,1535,4095]) [[6]] (.op 0 (.op 1 (.op 2 (.op 3 (.op 4 (.op 5 (.br (.op 6 (.op 7 (.op 8 (.op 9 (.op 10 (.op 11 (.op 12 .nil))))))) (.op 10 (.op 6 (.op 7 (.op 8 (.op 9 (.op 11 (.op 12 .nil))))))))))))))) .nil) (.dm [7] [0,1,3,7,0,16,0,127])))))) .nil))))));obtain⟨a,c,rfl,b9⟩:=h.AO;simp[maxLen] at b9;rw[AP,BM];refine AE (λh6=>⟨AK.refl _ _,.inr ⟨by rintro⟨h,_⟩;omega,rfl⟩⟩) λh6=>?_;apply AA (Zf h E);rintro v1 J ⟨o1,g1⟩;apply AZ (v:=.map (some J.heap.size)) (w':=J.alloc (.map #[] 0)) rfl;have g2:AI J (J.alloc (.map #[] 0)):=AK.alloc _ _ _;have a7:NC (J.alloc (.map #[] 0)) J.heap.size []:=NC.make J;have ba:(J.alloc (.map #[] 0)).heap.size=J.heap.size+1:=D_;generalize J.alloc (.map #[] 0)=w2 at g2 a7 ba ⊢;obtain⟨ra,rc,rfl,_,_,_,_⟩:=o1.AO;refine⟨#[.slice ra o.length rc,.map (some J.heap.size)],C_,?_⟩;refine CN (vs:=[.slice ra o.length rc,.map (some J.heap.size)]) λb w3 hb bp g3 a8 _=>?_;have z1:=g1.size;have z2:=g2.size;have a1:∀g,(Value.slice ra o.length rc).ownBlock=some g->g<J.heap.size:=λg hg=>(AG.Az o1 g hg).2;have I0:cQ w w3 b J.heap.size (.slice ra o.length rc) o 0:=
  ⟨by have:=a8 0 _ rfl;rwa [AH] at this,by have:=a8 1 _ rfl;rwa [AH] at this,AG.U' o1 (g2.trans g3) C0 F_,by simpa using a7.U' g3 E_,E,E,E,λg hg=>by have:=a1 g hg;omega,(g1.trans g2).trans g3⟩
 generalize Value.slice ra o.length rc=rv at I0 a1 ⊢;clear a8 a7 o1;generalize J.heap.size=m at *;rw [AP];apply AX (λvs W=>∃ i:Nat,i<=o.length/\vs=[zI i]/\cQ w W b m rv o i/\qE o i) (λvs _=>o.length - Di vs 0) ⟨0,Hw _,rfl,I0,λi hi=>by omega⟩;rintro vs W ⟨i,hi,rfl,I,a6⟩ _;rw [Bh,JS,As];refine AE (λbs=>?_) λc4=>?_;have B:i < o.length:=E;have X:o[i]?=some o[i]:=By B;obtain ⟨p,r,rfl,_,hr,hc,rfl⟩:=(h.U_ I.g B_ C0).get B;refine AW B (Ab hr (λj u hu=>by rw [Addr.add_add];exact hc j u hu) ?_);refine BJ (vs:=o[i].cells) rfl rfl (IC.one (w:=w) (x:=o[i]) rfl) λb6 W1 c7 c8 g6 aa _=>?_;have I1:=I.U_ g6;have b8:∀ W',AI W1 W'->¬ Gb o->(λv' w'=>AI w w'/\((Gb o/\∃ (kv:d_) (ks:Y'),v'=.tuple #[kv,zI 0]/\ks.Perm o/\ks.Pairwise (λx y=>x.id < y.id)/\Cg (λb=>w.heap.size<=b) w' kv ks)\/
  (¬ Gb o/\v'=.tuple #[.pointer none,zI 3]))) (Value.tuple #[.pointer none,zI 3]) W':=λW' g hn=>⟨I1.g.trans g,.inr ⟨hn,rfl⟩⟩
 refine AV (λ_ Y=>AI W1 Y/\Bg (o.take i) o[i].id=none/\Cq o[i]) ?_ ?_;rintro _ Y ⟨O,Z,ak⟩ _;apply Ag (λk y=>k=7/\y=m);have V:AI Y Y.drew:=AK.drew _ _;have Q:=(I1.U_ O).U_ V;have c6:∀j u,o[i].cells[j]?=some u->Y.drew.cell? ((⟨b6,0,none⟩:Addr).add j)=some u:=λj u hu=>(O.trans V).cell (aa j u hu) E_;apply AJ;rw[AB];refine AU ⟨by rw[AH];exact Q.c1,λj U e=>by obtain⟨rfl,_⟩:=e;exact absurd U B_⟩ ?_;rw[AB];refine AU ⟨c6 0 _ rfl,λj U e=>by obtain⟨rfl,_⟩:=e;exact absurd U B_⟩ ?_;refine DF (vs:=o[i].cells) rfl (λj u hu=>⟨c6 j u hu,λj U e=>by obtain⟨rfl,_⟩:=e;exact absurd U B_⟩) ?_;obtain⟨W4,an,av,m4⟩:=XA underlying73 underlying3 Q.mp o[i].id (.agg o[i].cells.toArray) (by rw[P5,Z];rfl);refine AZ (v:=undef) (w':=W4) (by simp[an,S6]) ⟨m4.mono λy _ e=>⟨rfl,e⟩,?_⟩;rw[AR,AM E];refine⟨⟨i+1,B,rfl,⟨m4.cell Q.c0 (λe=>Q.ne e.symm),m4.cell Q.c1 (λe=>Q.ne e.symm),AG.U' Q.row m4 (λg hg e=>(Q.EV g hg).1 e) F_,?_,Q.hb,Q.hm,Q.ne,Q.EV,Q.g.next m4 λx hx e=>by have:=Q.hm;omega⟩,λq hq k hk=>?_⟩,by rw[CL,CL];omega⟩;rw[Lc,X,S7];exact av;by_cases e:q=i;subst e;rw[X] at hk;cases hk;refine⟨ak,λj U k' bb e=>?_⟩;unfold Bg at Z;rw[aAh] at Z;exact Z k' (wD (by rw[wY,Cx U];exact bb)) (by simpa using e);exact a6 q E k hk;refine AV (λvs Y=>AI W1 Y/\vs=[.bool (Bg (o.take i) o[i].id).isSome]) ?_ ?_;rintro _ Y ⟨O,rfl⟩ _;rw[Bh,JS];cases hf:Bg (o.take i) o[i].id with
 |some k'=>
  refine Ai (b8 _ O λhM=>?_);obtain⟨j,U,e⟩:=List.getElem_of_mem (zU hf);rw[K8] at U;rw[yc] at e;exact(hM.2 i B _ X).2 j E k' (by rw[By E,e]) (by simpa using(aAS hf))
 |none=>
  refine AS (Ab (vs:=o[i].cells) rfl (λj u hu=>O.cell (aa j u hu) E_) ?_);apply AA mS;rintro _ W3 ⟨rfl,ax⟩;rw[Aq];refine AT (λak=>⟨O.trans ax,rfl,ak⟩) λay=>b8 _ (O.trans ax) λhM=>ay (hM.2 i B _ X).1
 apply Ag (λk y=>k=11/\W1.heap.size<=y);have V:AI W1 W1.drew:=AK.drew _ _;have Id:=I1.U_ V;apply AJ;rw[AB];refine AU ⟨by rw[AH];exact Id.c1,λj U e=>by obtain⟨rfl,_⟩:=e;exact absurd U B_⟩ ?_;rw[AB];refine AU ⟨V.cell (aa 0 _ rfl) E_,λj U e=>by obtain⟨rfl,_⟩:=e;exact absurd U B_⟩ ?_;have look:∀W',AI W1.drew W'->(Instr.lookup 73 (.map (some m)) (zI o[i].id) true).run prog W'=.ok (.tuple #[.agg (((Bg (o.take i) o[i].id)).getD DKey.zero).cells.toArray,.bool (Bg (o.take i) o[i].id).isSome]) W':=λW' g'=>by
  have:=Ps underlying73 underlying3 (VU W') (Id.mp.U' g' E_) o[i].id;rw[this,P5];cases Bg (o.take i) o[i].id<;>rfl
 generalize (Bg (o.take i) o[i].id).getD DKey.zero=kz at look;have one:=IC.one (w:=w) (x:=kz) rfl;refine⟨?_,?_⟩;refine AZ (look _ (AK.refl _ _)) ⟨AK.refl _ _,?_⟩;refine Bv ?_;refine EJ λb7 W5 bk bl g7 _ al=>⟨g7.mono E',?_⟩;refine CJ rfl one al λW6 m6 _ _=>⟨m6.mono λy _ e=>⟨rfl,by have:=V.size;omega⟩,?_,rfl⟩;exact(V.trans g7).next m6 λx hx e=>by have:=V.size;omega
 refine EJ λb7 W5 bk bl g7 _ al=>⟨g7.mono E',?_⟩;refine AZ (look _ g7) ⟨AK.refl _ _,?_⟩;refine Bv ?_;refine CJ rfl one al λW6 m6 _ _=>⟨m6.mono λy _ e=>⟨rfl,by have:=V.size;omega⟩,?_,rfl⟩;exact(V.trans g7).next m6 λx hx e=>by have:=V.size;omega
 have:i=o.length:=E;subst this;apply AJ;rw[AB];refine AD (by rw[AH];exact I.c0) ?_;apply AA (dg I.row E);rintro _ Y ⟨ks,hp,hs,o2,m2⟩;have hM:Gb o:=⟨E,a6⟩;obtain⟨_,_,hd⟩:=NT.1 hM;have b0:=hd.Ix hp.symm;refine⟨I.g.next m2 λx hx e=>by have:=(AG.Az I.row x e).1;omega,.inl ⟨hM,_,ks,rfl,hp,bI b0 hs,b,m,rv,_,rfl,I.hb,I.hm,m2.cell I.c0 λe=>(I.EV _ e).2 rfl,m2.cell I.c1 λe=>(I.EV _ e).2 rfl,(AG.sl o2).sub (λ_ _ h=>h.1) B_ C0,I.mp.U' m2 λe=>(I.EV _ e).1 rfl,λid=>?_⟩⟩;rw[Nr,P5,YD hp b0];cases Bg o id<;>rfl
def Ox:∀{l i:Y'},l.Perm i->l.Pairwise (λx y=>x.id<y.id)->i.Pairwise (λx y=>x.id<y.id)->l=i:=by
 intro l;induction l with
 |nil=>intro i hp _ _;exact(List.nil_perm.1 hp).symm
 |cons x l I=>
  intro i hp h B;cases i with
  |nil=>exact absurd hp.length_eq D_
  |cons y i=>
   rw[we] at h B;have e:x=y:=by
    have j:=hp.mem_iff.1 ub;have o:=hp.mem_iff.2 ub;rcases I3.1 j with e|j;exact e;rcases I3.1 o with e|o;exact e.symm;have h1:=h.1 y o;have J:=B.1 x j;omega
   subst e;rw[I (List.perm_cons x |>.1 hp) h.2 B.2]
def lI(l:Y')(hl:l.length<=1000):Mh (λb=>b=w.heap.size) (w.alloc (.cells (l.map DKey.cells).flatten.toArray 58)) (.slice (h_ w.heap.size) l.length l.length) l:=by
 refine BC.Xn (t:=58) (l.map DKey.cells) (λr hr=>by obtain⟨x,_,rfl⟩:=i7.1 hr;rfl) D_ L_ λi r x hr j=>?_;rw[vy,j] at hr;exact(r9 hr).symm
open Classical in
def Un{D:f_}{id:Int}{x:BF}(h:Cg D w v ks)(Q:DV w)(h0:0<=x.f) : AF prog 87 [v,zI id,.agg x.cells.toArray] (λv' w'=>v'=.bool (decide (II ks id x))/\AI w w') w:=by
 apply I' func87;have O:∀w',AI w w'->¬II ks id x->Value.bool false=.bool (decide (II ks id x))/\AI w w':=λw' g h=>⟨by rw[WL h],g⟩;refine CN λb w1 _ hz g hc _=>?_;apply AA (Ks (h.U_ g) id);rintro _ w2 ⟨rfl,U⟩;refine Bv ?_;generalize hk:(Bg ks id).getD DKey.zero=k;refine BJ (vs:=k.cells) rfl rfl (IC.one (w:=w) (x:=k) rfl) λb5 w3 V X Y I _=>?_;have o:=U.trans Y;have i:=g.trans o;cases B:Bg ks id with
 |none=>
  rw[Option.isSome_none];exact O _ i (by rintro⟨k,e,_⟩;rw[B] at e;cases e)
 |some Z=>
  rw[B] at hk;simp[zO] at hk;subst hk;rw[Option.isSome_some];apply Ai;rw[AB];apply AD (I 2 _ rfl);rw[AB];apply AD (o.cell (hc 0 _ rfl) E_);rw[Aj];refine AE (λhe=>?_) λhe=>O _ i (by rintro⟨k,e,_,h⟩;rw[B] at e;cases e;exact he h.symm);refine Ab (vs:=x.cells) rfl (λj u hu=>o.cell (hc j u hu) E_) (AA (Te (Q.U_ i) h0) ?_);rintro _ w4 ⟨rfl,g4⟩;refine⟨?_,i.trans g4⟩;congr 1;rw[xX];constructor;intro J;exact⟨Z,B,J,he.symm⟩;rintro⟨_,_,J,_⟩;exact J
def TD{B e k:Nat}{R:e_->V_->α->Prop}{a:Addr}{n c:Nat}{l:List α}{i j:Nat}{u:d_}{x':α}{K:e_->Prop}(h:AG B e k R W (.slice (some a) n c) l)(hi:i<l.length)(J:j<k) (hu:u.oneCell'=true)(o:u.cells=#[u])(O:∀I w2 r y,R I r y->R w2 r y)(Q:∀I w2 r,R I r l[i]->R w2 (r.set j u) x') (U:∀W',AG B e k R W' (.slice (some a) n c) (l.set i x')->AK (λb=>b=a.block) W W'->K W'):Cu (.pointer (some (a.add (i*k+j)))) u K W:=by
 obtain⟨⟨v,V⟩,X,Y,hm⟩:=AG.store (R':=R) (u:=u) (x':=x') (j:=j) h hi J hu (λr y _ hr=>O _ _ _ _ hr) (λr hr=>Q _ _ _ hr);exact OE hu o V X (U _ Y hm)
section
def Kj:Kd W_ where
 μ:=λ_=>(1,0)
 cut:=λx _=>(x,[])
 meld:=λ_ _=>none
def Zi(v:d_):Be prog En OA.vm [v] (λv w'=>v=.tuple #[zI 1,zI 0]/\AI w w') w:=by
 refine⟨_,[],[],rfl,C_,?_⟩;apply H_ func247;exact⟨rfl,AK.refl _ _⟩
def aq(a b:d_):Be prog En OA.vd [a,b] (λv w'=>AI w w'/\∃u,v=.tuple #[u,.bool false]) w:=by
 refine⟨_,[],[],rfl,C_,?_⟩;apply G_ func249;exact⟨AK.refl _ _,_,rfl⟩
abbrev Dr(C:f_)(w:e_)(r:V_)(x:W_):Prop:=∃sv,r=[sv]/\CI C w sv x
def Bb:Av1 W_ where
 toAvK:=OA
 k:=Kj
 R:=Dr
 pb:=72
 eb:=24
 pb_le:=B_
 eb_le:=B_
 Epos:=B_
 E1:=I_
 rlen:=λ⟨_,e,_⟩=>by subst e;rfl
 rone:=λ⟨sv,e,h⟩ u hu=>by
  subst e;obtain⟨a,c,rfl,_⟩:=h.AO;simp at hu;subst hu;rfl
 rcell:=λ⟨sv,e,h⟩=>by
  subst e;obtain⟨a,c,rfl,_⟩:=h.AO;rfl
 rheap:=λ⟨sv,e,h⟩ i=>⟨sv,e,h.mono C0 i B_ C0⟩
 rsub:=λ⟨sv,e,h⟩ i=>⟨sv,e,h.sub i B_ C0⟩
 zlen:=rfl
 zone:=λu hu=>by
  have hu:u∈[i_]:=hu;simp at hu;subst hu;rfl
 elP:=⟨Tryz.t433,.agg #[i_,zI 0,zI 0,zI 0,zI 0,zI 0,.bool false],C_,C_,C_,C_,C_,by rfl,B_⟩
 elE:=⟨Tryz.t47,i_,C_,C_,C_,C_,C_,by rfl,B_⟩
 field0:=λr t w hr o ht=>by
  match r,hr with
  |[a],_=>
   have hu:=underlying392;have j:=Tryz.isAgg47;have e:(Instr.field 392 (.agg ([a]++t).toArray) 0).run prog w=.ok a w:=by
    simp[Instr.field,run_underlying hu,part,j,asAgg]
   exact e
 ok:=lY
 cutμ:=λx p h0 h1=>by simp only[Kj] at h1;omega
 meldμ:=λx y z h=>by cases h
 meas:=λ{C w r x} _=>Zi _
 one1:=rfl
 ok1:=fK
 μ1:=I_
 meld0:=I_
 meldc:=λ{C w r s x y} _ _=>aq _ _
def dO(g:AvK)(v0:d_)(K:Cont)(w:e_):Prop:=D3 (λ_vs U=>∀_:Env,Ar v0 λi=>BZ 0 i λj=>BV j (λo w2=>K o w2) U) (λJ=>Ar v0 λt4=>BZ 0 t4 λt5=>BV t5 (λV Q=>IU V λX=>Al (.bool X) (DW [(0,1),(1,1),(2,1)] [.nilFunc,.nilFunc,.nilFunc] [(0,g.vm),(1,g.vc),(2,g.vd)] λt9=>AF prog g.fNew [t9] (λB w4=>Ar v0 λI=>BZ 0 I λO=>Cu O B (λY=>J [] Y) w4) Q) (J [] Q)) w)
def qy(g:AvK)(ft:Nat)(v0:d_)(K:Cont)(w:e_):Prop:=IU v0 λb4=>Al (.bool b4) (K (zI 0) w) (AF prog ft [v0] (λi j=>AF prog g.fSize [i] (λo w2=>K o w2) j) w)
def ke(fl:Nat)(v0 v1 v2:d_)(K:Cont)(w:e_):Prop:=IU v0 λI=>Al (.bool I) (K (zI 1) w) (Hm .i64 v1 (zI 0) λi=>Al i (K (zI 5) w) (ZA .i64 v1 v2 λj=>Al j (K (zI 5) w) (AF prog fl [v0] (λo B=>ZA .i64 v2 o λt22=>Al t22 (K (zI 5) B) (K (zI 0) B)) w)))
structure od (g:AvK) where
 ft:Nat
 fl:Nat
 fb:Nat
 Zw:∀{v0 K w},dO g v0 K w->AF prog ft [v0] K w
 len:∀{v0 K w},qy g ft v0 K w->AF prog fl [v0] K w
 uh:∀{v0 v1 v2 K w},ke fl v0 v1 v2 K w->AF prog fb [v0,v1,v2] K w
 vV:g.vm.cells=#[g.vm]
 vl:g.vc.cells=#[g.vc]
 vZ:g.vd.cells=#[g.vd]
def L8:od MV:=⟨178,236,176,λh=>oZ (.y (.cut [] [(3,12)] .nil .nil)) func178 h C_,λh=>oZ .nil func236 h C_,λh=>oZ .nil func176 h C_,rfl,rfl,rfl⟩
def Gp:od OA:=⟨183,199,180,λh=>oZ (.y (.cut [] [(3,12)] .nil .nil)) func183 h C_,λh=>oZ .nil func199 h C_,λh=>oZ .nil func180 h C_,rfl,rfl,rfl⟩
def GZ:od Ip:=⟨173,118,172,λh=>oZ (.y (.cut [] [(3,12)] .nil .nil)) func173 h C_,λh=>oZ .nil func118 h C_,λh=>oZ .nil func172 h C_,rfl,rfl,rfl⟩
variable {α:Type}{g:AvT α}
def fD(g:AvT α)(F C:f_)(W:e_)(b:Nat)(l:List α)(N:Nat):Prop:=∃A T,Ex g F C W b T.root A/\Tr.Ac g.k.μ A.f T/\Tr.H7 T/\T.toL=l/\A.ps.length<=N
def fD.U'{b N:Nat}{l:List α}(h:fD g F C W b l N)(hm:AK M W W')(i:∀x,F x\/C x->¬M x):fD g F C W' b l N:=by
 obtain⟨A,T,h,r⟩:=h;exact⟨A,T,h.U' hm i,r⟩
def dL(hC:∀x,C x->x<W.heap.size) : AF prog g.fNew [.agg #[g.vm,g.vc,g.vd]] (λv' w'=>∃b F,v'=g_ b/\W.heap.size<=b/\(∀x,F x->W.heap.size<=x)/\fD g F C w' b [] 0/\AI W w') W:=by
 apply g.ok.new;unfold oD;refine Bx.box (vs:=[g.vm,g.vc,g.vd]) λb1 o Z X B1=>?_;have O:AI o o.drew:=AK.drew _ _;have z1:=X.size;have zd:=O.size;apply Ag (λ_ _=>False);refine DF (vs:=[g.vm,g.vc,g.vd]) rfl (λj v hv=>⟨by rw[AH];exact(B1.U_ O).cells j v hv,C0⟩) ?_;refine AA (kS (g:=g) (C:=C) λx Q=>by have:=hC x Q;omega) ?_;rintro _ w2 ⟨rfl,a1,U,hA⟩;refine⟨U.mono E',?_⟩;have B:Instr.fill (λi=>[(0,3),(3,1),(4,1)][i]?) [Value.nilFunc,.nilFunc,.nilFunc,.pointer none,zI 0].toArray [(0,.agg [g.vm,g.vc,g.vd].toArray),(1,g_ o.drew.heap.size),(2,zI (-1))]=some (nm g o.drew.heap.size (-1)).toArray:=by
  rw[EK (vs:=[g.vm,g.vc,g.vd]) (off:=0) (len:=3) rfl rfl rfl B_,EK (vs:=[g_ o.drew.heap.size]) (off:=3) (len:=1) rfl rfl rfl (by simp[L7]),EK (vs:=[zI (-1)]) (off:=4) (len:=1) rfl rfl rfl (by simp[L7]),HM];rfl
 refine⟨_,B,?_⟩;refine Bx.box λI w3 a6 J Y=>⟨J.mono E',?_⟩;have z2:=U.size;have z3:=J.size;have V:=Y.lt (P9 _);refine⟨I,λx=>x=o.drew.heap.size\/x=I,rfl,E,λx Q=>by rcases Q with e|e<;>omega,⟨ArS.z,.nil,⟨o.drew.heap.size,i_,i_,Y,?_,.inr rfl,λh=>by have:=hC I h;omega⟩,trivial,yr,rfl,Hw _⟩,((X.trans O).trans U).trans J⟩;have e:(λx=>(x=o.drew.heap.size\/x=I)/\x≠I)=λx=>x=o.drew.heap.size:=by
  funext x;refine propext ⟨λh=>h.1.elim E_ λe=>(h.2 e).elim,λh=>⟨.inl h,E⟩⟩
 rw[e];exact hA.U_ J
structure Eu (g:AvT α) (F C:f_) (W:e_) (b bt:Nat) (l:List α) (N:Nat):Prop where
 box:Bx W b [g_ bt]
 FZ:fD g (λx=>F x/\x≠b) C W bt l N
 fb:F b/\¬C b
def Eu.U'{b bt N:Nat}{l:List α}(h:Eu g F C W b bt l N)(hm:AK M W W')(i:∀x,F x\/C x->¬M x):Eu g F C W' b bt l N:=⟨h.box.U' hm (i b (.inl h.fb.1)),h.FZ.U' hm λx j=>i x (j.imp (λh=>h.1) E_),h.fb⟩
def Eu.U_{b bt N:Nat}{l:List α}(h:Eu g F C W b bt l N)(hm:AI W W'):Eu g F C W' b bt l N:=h.U' hm C0
def Eu.lt{b bt N:Nat}{l:List α}(h:Eu g F C W b bt l N):∀x,F x\/C x->x<W.heap.size:=by
 obtain⟨A,T,h1,_⟩:=h.FZ;intro x i;by_cases e:x=b;subst e;exact h.box.lt (P9 _);exact h1.lt x (i.imp (λh=>⟨h,e⟩) E_)
def Eu.MP{b bt N:Nat}{l:List α}(h:Eu g F C W b bt l N):∀x,F x->¬C x:=by
 obtain⟨A,T,h1,_⟩:=h.FZ;intro x i;by_cases e:x=b;subst e;exact h.fb.2;exact h1.MP x ⟨i,e⟩
def Fm{b bt N:Nat}{l:List α}(o:od g.toAvK)(h:Eu g F C W b bt l N):AF prog o.ft [g_ b] (λv' w'=>v'=g_ bt/\w'=W) W:=by
 apply o.Zw;unfold dO;refine AV (λ_ i=>i=W) ?_ ?_;rintro _ _ rfl _;rename e_=>W;apply AJ;rw[AB,AH];exact AD (h.box.cells 0 _ rfl) ⟨rfl,rfl⟩;apply AJ;rw[AB,AH];apply AD (h.box.cells 0 _ rfl);exact Dp (AS rfl)
def pz{b:Nat}(o:od g.toAvK)(I:Bx W b [.pointer none])(hb:¬C b)(hC:∀x,C x->x<W.heap.size) : AF prog o.ft [g_ b] (λv' w'=>∃bt F,v'=g_ bt/\Eu g F C w' b bt [] 0/\(∀x,F x->x=b\/W.heap.size<=x)/\AK (λx=>x=b) W w') W:=by
 apply o.Zw;unfold dO;have Q:=I.lt (P9 _);refine AV (λ_ O=>∃bt F,Eu g F C O b bt [] 0/\(∀x,F x->x=b\/W.heap.size<=x)/\AK (λx=>x=b) W O) ?_ ?_;rintro _ O ⟨bt,F,h,X,Y⟩ _;apply AJ;rw[AB,AH];exact AD (h.box.cells 0 _ rfl) ⟨bt,F,rfl,h,X,Y⟩;apply AJ;rw[AB,AH];apply AD (I.cells 0 _ rfl);refine⟨none,rfl,Ai ?_⟩;have B:Instr.fill (λi=>[(0,1),(1,1),(2,1)][i]?) [Value.nilFunc,.nilFunc,.nilFunc].toArray [(0,g.vm),(1,g.vc),(2,g.vd)]=some [g.vm,g.vc,g.vd].toArray:=by
  rw[EK (vs:=[g.vm]) (off:=0) (len:=1) rfl o.vV rfl B_,EK (vs:=[g.vc]) (off:=1) (len:=1) rfl o.vl rfl (by simp[L7]),EK (vs:=[g.vd]) (off:=2) (len:=1) rfl o.vZ rfl (by simp[L7]),HM];rfl
 refine⟨_,B,?_⟩;apply AA (dL (g:=g) hC);rintro _ w4 ⟨bt,F,rfl,Z,hF,hT,U⟩;apply AJ;rw[AB,AH];refine(I.U_ U).st (q:=0) (B_:0<1) rfl rfl λw5 B5 V=>?_;have J:=hT.U' V λx j e=>by
  rcases j with j|j;have:=hF x j;omega;exact hb (e▸j)
 refine⟨bt,λx=>F x\/x=b,⟨B5,?_,.inr rfl,hb⟩,λx j=>?_,(U.mono E').trans V⟩;have e:(λx=>(F x\/x=b)/\x≠b)=F:=by
  funext x;refine propext ⟨λh=>h.1.elim E_ λe=>(h.2 e).elim,λh=>⟨.inl h,λe=>?_⟩⟩;have:=hF x h;omega
 rw[e];exact J;rcases j with j|j;exact .inr (hF x j);exact .inl j
def RG{b bt N:Nat}{l:List α}(o:od g.toAvK)(h:Eu g F C W b bt l N):AF prog o.fl [g_ b] (λv' w'=>v'=zI (Tr.sz g.k.μ l)/\AI W w') W:=by
 apply o.len;unfold qy;refine Dp (AS ?_);apply AA (Fm o h);rintro _ _ ⟨rfl,rfl⟩;rename e_=>W;obtain⟨A,T,h1,i,B,j,I⟩:=h.FZ;have:=VV h1 i;rw[j] at this;exact this
def dS{b:Nat}(o:od g.toAvK)(j:Bx W b [.pointer none])(hb:¬C b)(hC:∀x,C x->x<W.heap.size) : AF prog o.fl [g_ b] (λv' w'=>v'=zI 0/\∃bt F,Eu g F C w' b bt [] 0/\(∀x,F x->x=b\/W.heap.size<=x)/\AK (λx=>x=b) W w') W:=by
 apply o.len;unfold qy;refine Dp (AS ?_);apply AA (pz o j hb hC);rintro _ O ⟨bt,F,rfl,h,B,I⟩;obtain⟨A,T,k1,k2,Q,J,U⟩:=h.FZ;have:=VV k1 k2;rw[J] at this;apply AA this;rintro _ V ⟨rfl,i⟩;exact⟨rfl,bt,F,h.U_ i,B,I.trans (i.mono E')⟩
def Vr(i j n:Int):Int:=if i<0 then 5 else if j<i then 5 else if n<j then 5 else 0
def Mn{b bt N:Nat}{l:List α}{i j:Int}(o:od g.toAvK)(h:Eu g F C W b bt l N):AF prog o.fb [g_ b,zI i,zI j] (λv' w'=>v'=zI (Vr i j (Tr.sz g.k.μ l))/\AI W w') W:=by
 apply o.uh;unfold ke Vr;refine Dp (AS ?_);rw[As];refine AE (λe=>⟨by rw[Cx e],AK.refl _ _⟩) λB=>?_;rw[BM];refine AE (λe=>⟨by rw[Bp B,Cx e],AK.refl _ _⟩) λI=>?_;apply AA (RG o h);rintro _ Q ⟨rfl,J⟩;rw[BM];refine AE (λe=>⟨by rw[Bp B,Bp I,Cx e],J⟩) λO=>⟨by rw[Bp B,Bp I,Bp O],J⟩
def L5{b bt N i j:Nat}{l L:List α}(Q:Xk g)(h:Eu g F C W b bt l N)(hN:N+L.length<=109951162000)(U:BC S g.E (g.R C) W v L)(V:∀x,S x->¬F x)(B:i<=j)(X:j<=1099511627776) (Y:FN g l)(Z:FN g (g.k.Cw l i j L))(b3:FN g ((g.k.split l i).1.getLast?.toList++L++(g.k.split (g.k.split l i).2 (j-i)).2.head?.toList)) : AF prog g.fReplace [g_ bt,zI (i:Int),zI (j:Int),v] (λ_ w'=>∃F',(∀x,F x->F' x)/\(∀x,F' x->F x\/W.heap.size<=x)/\Eu g F' C w' b bt (g.k.Cw l i j L) (N+L.length+4)/\AK F W w') W:=by
 obtain⟨A,T,h1,h2,h3,rfl,h5⟩:=h.FZ;have I:=h.box.lt (P9 _);apply AA (Q h1 E h2 h3 U (λx o e=>V x o e.1) B X Y Z b3);rintro _ w' ⟨T',A',e1,⟨F',k1,k2,k3,J⟩,e2,e3,e4⟩;refine⟨λx=>F' x\/x=b,λx o=>?_,λx o=>?_,⟨h.box.U' J λe=>e.2 rfl,⟨A',T',?_,e2,e3,e1,E⟩,.inr rfl,h.fb.2⟩,J.mono λx _ e=>e.1⟩;by_cases e:x=b;exact .inr e;exact .inl (k1 x ⟨o,e⟩);rcases o with o|rfl;exact(k2 x o).imp (λh=>h.1) E_;exact .inl h.fb.1;have e:(λx=>(F' x\/x=b)/\x≠b)=F':=by
  funext x;refine propext ⟨λh=>h.1.elim E_ λe=>(h.2 e).elim,λo=>⟨.inl o,λe=>?_⟩⟩;rcases k2 x o with O|O;exact O.2 e;omega
 rw[e];exact k3
end
abbrev CE(l:c_):X_:=l.flatMap Ck.l
def JG:Ck.kd.HI Ck.l where
 size:=I_
 cut1:=λ_ _ _ _=>⟨rfl,rfl⟩
 melds:=λa b c h=>by
  simp only[Ck.kd] at h;split at h;rename_i i;cases h;have j:a.jn b=⟨a.l++b.l,by simpa using i⟩:=aBg i;rw[j];cases h
def Io(l:c_):Tr.sz Ck.kd.μ l=(CE l).length:=JG.sz l
def UH(l:c_):Tr.mk Ck.kd.μ l=Bj (CE l):=by
 induction l with
 |nil=>rfl
 |cons c l i=>rw[Tr.EB,i];show Bj c.l+Bj (CE l)=Bj (c.l++CE l);rw[Bj,Bj,Bj,yb]
def WG(l r:Tr Ck)(i:Nat)(x:Ck):CE (Tr.node l i x r).toL=CE l.toL++(x.l++CE r.toL):=by
 simp[CE,Tr.toL]
def Fw(l:X_):Bj l<=l.length:=List.count_le_length
def Gg(a b:X_):Bj (a++b)=Bj a+Bj b:=yb
def Px(a b:X_)(k:Nat):JB (a++b) k=if k<Bj a then JB a k else(JB b (k-Bj a)).map (·+a.length):=by
 induction a generalizing k with
 |nil=>simp[Bj]
 |cons r a j=>
  have i:∀o:Option Nat,(o.map (·+a.length)).map (·+1)=o.map (·+(r::a).length):=λo=>by cases o<;>simp;omega
  rw[No,JD,JD];by_cases h:r=10;have e:Bj (r::a)=Bj a+1:=by rw[h];simp[Bj]
  rw[Cx h,Cx h,e];cases k with
  |zero=>simp
  |succ k=>
   simp only[j];by_cases hk:k<Bj a;rw[Cx hk,Cx E];rw[Bp hk,Bp E,i,Nat.add_sub_add_right]
  have e:Bj (r::a)=Bj a:=by simp[Bj,h]
  rw[Bp h,Bp h,e,j];by_cases hk:k<Bj a;rw[Cx hk,Cx hk];rw[Bp hk,Bp hk,i]
def PW{l:X_}{k:Nat}(h:k<Bj l):∃i,JB l k=some i/\i<l.length:=by
 induction l generalizing k with
 |nil=>simp[Bj] at h
 |cons r a j=>
  rw[JD];by_cases e:r=10;rw[Cx e];cases k with
  |zero=>exact⟨0,rfl,by simp⟩
  |succ k=>
   obtain⟨i,h1,o⟩:=j (k:=k) (by rw[e] at h;simp[Bj] at h ⊢;omega);exact⟨i+1,by simp[h1],by simp;omega⟩
  rw[Bp e];obtain⟨i,h1,o⟩:=j (k:=k) (by simpa[Bj,e] using h);exact⟨i+1,by simp[h1],by simp;omega⟩
def rL(A:ArS Ck)(v:d_):Nat:=match v with
 |.int _ i=>if i<0 then 0 else match A.f i.toNat with
  |some n=>(n.h:Int).toNat
  |none=>0
 |_=>0
def HB{A:ArS Ck}{t:Tr Ck}(h:Tr.Ac Ck.kd.μ A.f t):rL A (zI t.root)=t.ht:=by
 cases t with
 |nil=>rfl
 |node l i x r=>
  obtain⟨_,_,hi⟩:=h;have e:rL A (.int .i64 ((i:Nat):Int))=match A.f i with
   |some n=>(n.h:Int).toNat
   |none=>0:=by
   unfold rL;simp only[wI];exact Bp E
  show rL A (zI ((i:Nat):Int))=_;rw[e,hi];simp[Tr.FH]
def XQ{v0 v1 v2:d_}(h:ck Ip v0 v1 v2 K w):AF prog 252 [v0,v1,v2] K w:=oZ (.y (.x (.y (.node [1,6,7] [(1,1),(6,13),(18,76)] (.y (.y (.y (.x (.dm [7] [0,1,3,7,15,0,32,127,255,511,511,1023,4095]))))) .nil)))) func252 h C_
def Zd{v0 v1 v2:d_}(h:oY Ip v0 v1 v2 K w):AF prog 271 [v0,v1,v2] K w:=oZ (.y (.x (.y (.node [1,6,8] [(1,1),(6,14),(19,81)] (.cut [] [(19,24)] .nil (.y (.y (.x (.dm [7] [0,1,3,7,15,0,32,127,255,511,511,1023,4095]))))) .nil)))) func271 h C_
def WV{v0:d_}(h:dh Ip v0 K w):AF prog 213 [v0] K w:=oZ .nil func213 h C_
def WB{b p:Nat}{A:ArS Ck}{T:Tr Ck}(h:Ex BO.toAvT F C W b T.root A)(hh:Tr.Ac BO.k.μ A.f T)(hp:p<=1099511627776)(hb:FN BO.toAvT T.toL) : AF prog 252 [g_ b,zI (p:Int),.func (.func 253) #[] #[]] (λv' w'=>v'=zI (Bj ((CE T.toL).take p):Int)/\AI W w') W:=by
 apply XQ;unfold ck;apply AJ;obtain⟨c,pl,fr,Y⟩:=id h;rw[AB,AH];apply AD (Y.box.cells 4 _ rfl);have Z:(CE T.toL).length<=1099511627776:=by rw[<-Io];exact hb.1
 have hN:Bj ((CE T.toL).take p)<=1099511627776:=vx (Fw _) (by rw[K8];omega);generalize a1:Bj ((CE T.toL).take p)=N at hN;refine AX (λvs W'=>∃(t:Tr Ck) (q m:Nat),vs=[zI (q:Int),zI (m:Int),zI t.root]/\Tr.Ac BO.k.μ A.f t/\(CE t.toL).length<=1099511627776/\q<=p/\m+Bj ((CE t.toL).take q)=N/\AI W W')
  (λvs _=>rL A (Bm vs 2)) ⟨T,p,0,rfl,hh,Z,HK _,by rw[wS];exact a1,AK.refl _ _⟩ ?_
 rintro vs W1 ⟨t,q,m,rfl,I,O,hq,hm,Q⟩ _;simp only[Iu];rw[BH];cases t with
 |nil=>
  refine AT (λ_=>?_) λe=>(e rfl).elim;have:m=N:=by simpa[CE,Tr.toL,Bj] using hm
  subst this;exact⟨rfl,Q⟩
 |node l i x r=>
  obtain⟨hl,hr,hi⟩:=id I;rw[WG l r i x] at hm O;rw[Ad,Ad] at O;have h1:=h.U_ Q;refine AT (λe=>by simp only[Tr.root] at e;omega) λ_=>?_;simp only[Tr.root];refine E8 h1 hi λrc bx w3 g3 ak B U=>?_;have o:=BO.rlen U;obtain rfl:rc=x.cells:=U;refine Iw (B.cells (BO.E+0) _ (by rw[Am o];rfl)) ?_;apply AA (Ci (h1.U_ g3) hl);rintro _ w5 ⟨rfl,g5⟩;refine OI ?_;have V:AI w5 w5.drew:=AK.drew _ _;have X:=(g3.trans g5).trans V;obtain⟨c,pl,fr,Y⟩:=id h1;have B5:=(B.U_ g5).U_ V;apply Ag (λ_ _=>False);apply AJ;rw[AB,AH,AB,AH];apply AU ⟨(Y.U' X C0).box.cells 0 _ rfl,C0⟩;rw[AB,AH];refine MN (g:=BO.toAvT) (r:=x.cells) o (λj v hv=>⟨B5.cells j v (by rw[PF (Bq.1 hv).1];exact hv),C0⟩) ?_;apply BI (BO.meas (C:=C) (x:=x) rfl);rintro _ w6 ⟨rfl,g6⟩;refine⟨g6.mono E',?_⟩;refine Bv ?_;have J:=X.trans g6;have B6:=B5.U_ g6;have es:Tr.sz BO.k.μ l.toL=(CE l.toL).length:=Io _;have em:Tr.mk BO.k.μ l.toL=Bj (CE l.toL):=UH _;have a6:(BO.k.μ x).1=x.l.length:=rfl;have a7:(BO.k.μ x).2=Bj x.l:=rfl;rw[es,em,a6,a7,GI];refine AE (λal=>?_) λaa=>?_;rw[xZ E] at hm;refine Iw (B6.cells (BO.E+0) _ (by rw[Am o];rfl)) ?_;refine⟨⟨l,q,m,rfl,hl,E,hq,hm,Q.trans J⟩,?_⟩;refine zf (ye (HB hl)) (Nn ?_ (ye (HB I).symm));simp only[Tr.ht];omega;rw[yP,wM (by omega:(CE l.toL).length<=q),Gg] at hm;apply Cy E;refine HP (λan=>?_) λav=>?_;rw[xZ E] at hm;apply Cy E;rw[AB,AH];refine Ab (vs:=x.cells) o (λj u hu=>by rw[AH];exact B6.cells j u (by rw[PF (Bq.1 hu).1];exact hu)) ?_;apply Ir E E;apply Fa C_;apply AA (VP x _);rintro _ ax ⟨rfl,a8⟩;refine Cy E ⟨?_,(Q.trans J).trans a8⟩;congr 2;omega;rw[yP,wM (by omega:x.l.length<=q-(CE l.toL).length),Gg] at hm;refine Cy E (Cy E (Cy E (Ir E E ?_)));refine Iw (B6.cells (BO.E+1) _ (by rw[Am o];rfl)) ?_;refine⟨⟨r,q-((CE l.toL).length+x.l.length),m+(Bj (CE l.toL)+Bj x.l),rfl,hr,E,E,?_,Q.trans J⟩,?_⟩;rw[aAq] at hm;omega;have e1:=HB I;refine zf (ye (HB hr)) (Nn ?_ (ye e1.symm));simp[Tr.ht];omega
def sE(c:Ck){k i:Nat}(hk:k<=1099511627776)(h:JB c.l k=some i):AF prog 272 [.agg c.cells.toArray,zI (k:Int)] (λv w'=>v=zI (i:Int)/\AI w w') w:=by
 apply G_ func272;refine Bx.box λb I hb j B=>?_;apply B.GN c.len;apply AA (UK c hk);rintro _ J ⟨rfl,o⟩;rw[h,uf];exact Af (vs:=[_,_]) (by rfl) (Af (vs:=[_,_]) (by rfl) ⟨rfl,j.trans o⟩)
def mq{b k p:Nat}{A:ArS Ck}{T:Tr Ck}(h:Ex BO.toAvT F C W b T.root A)(hh:Tr.Ac BO.k.μ A.f T)(hk:k<=1099511627776)(hb:FN BO.toAvT T.toL)(hp:JB (CE T.toL) k=some p) : AF prog 271 [g_ b,zI (k:Int),.func (.func 272) #[] #[]] (λv' w'=>v'=.tuple #[zI (p:Int),.bool true]/\AI W w') W:=by
 apply Zd;unfold oY;apply AJ;obtain⟨c,pl,fr,hT⟩:=id h;rw[AB,AH];apply AD (hT.box.cells 4 _ rfl);have av:(CE T.toL).length<=1099511627776:=by rw[<-Io];exact hb.1
 refine AX (λvs W'=>∃(t:Tr Ck) (q m z:Nat),vs=[zI (q:Int),zI (m:Int),zI t.root]/\Tr.Ac BO.k.μ A.f t/\m+(CE t.toL).length<=1099511627776/\q<=k/\JB (CE t.toL) q=some z/\m+z=p/\AI W W')
  (λvs _=>rL A (Bm vs 2)) ⟨T,k,0,p,rfl,hh,E,HK _,hp,wS _,AK.refl _ _⟩ ?_
 rintro vs W1 ⟨t,q,m,z,rfl,J,Q,hq,o,a1,Z⟩ _;simp only[Iu];refine AV (λ_ W'=>W'=W1) ?_ ?_;rotate_left;rw[DR];refine AE (λ_=>?_) λe=>(e E).elim;rw[BH];refine AT (λe=>?_) I_;cases t with
 |nil=>cases o
 |node l i x r=>simp only[Tr.root] at e;omega
 rintro _ _ rfl _;rename e_=>W1;cases t with
 |nil=>cases o
 |node l i x r=>
  obtain⟨hl,hr,hi⟩:=id J;rw[WG l r i x] at o Q;rw[Ad,Ad] at Q;have h1:=h.U_ Z;simp only[Tr.root];refine E8 h1 hi λrc bx w3 g3 ax B U=>?_;have I:=BO.rlen U;obtain rfl:rc=x.cells:=U;refine Iw (B.cells (BO.E+0) _ (by rw[Am I];rfl)) ?_;apply AA (Ci (h1.U_ g3) hl);rintro _ w5 ⟨rfl,g5⟩;refine OI ?_;have V:AI w5 w5.drew:=AK.drew _ _;have X:=(g3.trans g5).trans V;obtain⟨c,pl,fr,hT⟩:=id h1;have B5:=(B.U_ g5).U_ V;apply Ag (λ_ _=>False);apply AJ;rw[AB,AH,AB,AH];apply AU ⟨(hT.U' X C0).box.cells 0 _ rfl,C0⟩;rw[AB,AH];refine MN (g:=BO.toAvT) (r:=x.cells) I (λj v hv=>⟨B5.cells j v (by rw[PF (Bq.1 hv).1];exact hv),C0⟩) ?_;apply BI (BO.meas (C:=C) (x:=x) rfl);rintro _ w6 ⟨rfl,g6⟩;refine⟨g6.mono E',?_⟩;refine Bv ?_;have O:=X.trans g6;have B6:=B5.U_ g6;have es:Tr.sz BO.k.μ l.toL=(CE l.toL).length:=Io _;have em:Tr.mk BO.k.μ l.toL=Bj (CE l.toL):=UH _;have a6:(BO.k.μ x).1=x.l.length:=rfl;have a7:(BO.k.μ x).2=Bj x.l:=rfl;rw[es,em,a6,a7,As];have ay:=Fw x.l;have b0:=Fw (CE l.toL);rw[Px] at o;refine AE (λb6=>?_) λal=>?_;rw[Cx E] at o;refine Iw (B6.cells (BO.E+0) _ (by rw[Am I];rfl)) ?_;refine⟨⟨l,q,m,z,rfl,hl,E,hq,o,a1,Z.trans O⟩,?_⟩;refine zf (ye (HB hl)) (Nn ?_ (ye (HB J).symm));simp[Tr.ht];omega;rw[Bp E,Px] at o;apply Cy E;refine HP (λb7=>?_) λb8=>?_;rw[Cx E] at o;obtain⟨i',Y,rfl⟩:=y0.1 o;have an:i'<x.l.length:=by
   obtain⟨i2,k1,k2⟩:=PW (l:=x.l) (k:=q-Bj (CE l.toL)) E;rw[Y] at k1;cases k1;exact k2
  apply Cy E;rw[AB,AH];refine Ab (vs:=x.cells) I (λj u hu=>by rw[AH];exact B6.cells j u (by rw[PF (Bq.1 hu).1];exact hu)) ?_;apply Ir E E;apply Fa C_;apply AA (sE x E Y);rintro _ b9 ⟨rfl,a8⟩;refine Cy E ⟨?_,(Z.trans O).trans a8⟩;have e:m+(CE l.toL).length+i'=p:=E;rw[e];rw[Bp E] at o;obtain⟨z1,aa,rfl⟩:=y0.1 o;obtain⟨z2,ak,rfl⟩:=y0.1 aa;refine Cy E (Cy E (Cy E (Ir E E ?_)));refine Iw (B6.cells (BO.E+1) _ (by rw[Am I];rfl)) ?_;refine⟨⟨r,q-(Bj (CE l.toL)+Bj x.l),m+((CE l.toL).length+x.l.length),z2,rfl,hr,E,E,?_,E,Z.trans O⟩,?_⟩;rw[<-aAq];exact ak;have e1:=HB J;refine zf (ye (HB hr)) (Nn ?_ (ye e1.symm));simp[Tr.ht];omega
end Go.Proofs.YtlmjclmngedmkaaGreatDoor
