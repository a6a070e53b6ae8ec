/- parts of the proof, written short by a program of ours -/
import Derived.Test.YtjdgbcdfgnajlaaGreatDoorZZZ8
set_option linter.all false
set_option maxRecDepth 100000
namespace Go.Proofs.YtjdgbcdfgnajlaaGreatDoor
open Go Proofs.Tryz
variable {S F M S':d_}{w W W' w0:c_}{v sv fr:b_}{most:Int}{cs args:U_}{α:Type}{ks:X'}{s:V_}{K:Cont}{P:Program}{d:Y_}{yo xo:Operand}
def HD(w:c_)(Z sT ty O:TypeId)(g o I Q:Nat)(a:Addr)(J U:Nat)(N:Array b_)(t:TypeId)(cs:U_)(i:TypeInfo) (hu:P.underlying Z=some (.slice O))(hi:P.info? O=some i)(hg:w.heap[g]?=some (.cells N t (0,0)))(hn:cs.length=min J I*i.size) (V:∀j v,cs[j]?=some v->w.cell? (a.add j)=some v)(X:o+cs.length<=N.size)(h1:∀v∈cs,v.oneCell'=true) : (Builtin.copy_ #[Z,sT] ty #[.slice (some ⟨g,o,none⟩) I Q,.slice (some a) J U]).run P w =.ok (goInt (min J I)) (w.setRow g (N.toList.take o++cs++N.toList.drop (o+cs.length)).toArray):=by
 have hl:=aCO (P:=P) w a cs V;have Y:=run_storeCells_at P g o t cs 0 N w hg (by simpa using X) h1;simp[Builtin.copy_,run_underlying hu,Builtin.lenOf,Builtin.firstCells,sizeOf,typeInfo,hi,hn.symm,hl,Y];show goInt ((min J I:Nat):Int)=_;congr 1;omega
def AF.setRow(w:c_)(g:Nat)(cs:Array b_):AF (λb=>b=g) w (w.setRow g cs):=⟨rfl,rfl,rfl,by simp[World.setRow],(by grind[Go.setRow_other])⟩
section
variable {P:Program}
def ZQ(P:Program)(tS J:TypeId)(N v0 v1 m:b_)(K:c_->Prop)(w:c_):Prop:=DP [4,7,8] (i_ [0,0,0,6,15,0,0,96,255]) w.drew λM _=>Cl .i64 v1 m λq=>runK P (Instr.sliceAt tS N (some q) none none) (λd j=>AF (M 4) w.drew j/\runK P (Instr.sliceAt tS v0 (some v1) none none) (λu I=>AF (M 7) j I/\runK P (Builtin.copy_ #[tS,tS] J #[d,u]) (λ_ w2=>AF (M 8) I w2/\K w2) I) j) w.drew/\ runK P (Instr.sliceAt tS v0 (some v1) none none) (λu j=>AF (M 7) w.drew j/\runK P (Instr.sliceAt tS N (some q) none none) (λd I=>AF (M 4) j I/\runK P (Builtin.copy_ #[tS,tS] J #[d,u]) (λ_ w2=>AF (M 8) I w2/\K w2) I) j) w.drew
def je(P:Program)(tS j:TypeId)(O Q:Nat)(v0 v1 v2:b_)(K:Cont)(w:c_):Prop:=runK P (Instr.sliceAt tS v0 (some v1) none none) (λ_ w=>Dz v2 λm=>P2 .i64 m (zIq 0) λc=>Af c (K v0 w) (Dz v0 λn=>P2 .i64 v1 n λc=>Af c (runK P (Builtin.append_ #[tS,tS] tS #[v0,v2]) (λv w=>K v w) w) (Cl .i64 n m λI=>runK P (Builtin.cap_ #[tS] j #[v0]) (λcp w=>Xq .i64 I cp λc=>Af c (runK P (Instr.sliceAt tS v0 none (some v1) none) (λa w=>Cl .i64 n m λx=>EO .i64 x v1 λx=>runK P (Builtin.append_ #[tS,j] tS #[a,x]) (λN w=>runK P (Instr.sliceAt tS N (some v1) none none) (λt w=>runK P (Builtin.copy_ #[tS,tS] j #[t,v2]) (λ_ w=>ZQ P tS j N v0 v1 m (λw=>K N w) w) w) w) w) w) (Cl .i64 n m λI=>runK P (Instr.sliceAt tS v0 none (some I) none) (λs w=>Cl .i64 v1 m λq=>runK P (Instr.sliceAt tS s (some q) none none) (λt w=>WN P O [v2,t] (λc w=>MU c λc=>Af c (Dm (λ_ w=>∀_:Env,runK P (Instr.sliceAt tS s (some v1) none none) (λt w=>runK P (Builtin.copy_ #[tS,tS] j #[t,v2]) (λ_ w=>K s w) w) w) λJ=>ZQ P tS j s s v1 m (λw=>J [] w) w) (runK P (Instr.sliceAt tS s (some n) none none) (λt w=>runK P (Builtin.copy_ #[tS,tS] j #[t,v2]) (λ_ w=>runK P (Instr.sliceAt tS s (some v1) none none) (λt w=>AD P Q [t,m] (λ_ w=>K s w) w) w) w) w)) w) w) w)) w))) w
def Tp{tS j:TypeId}{I v0 d u r:b_}{i:Nat}{g:Nat}{K:c_->Prop}{w w2:c_}(hi:i<4611686018427387904)(h1:∀w,(Instr.sliceAt tS I (some (zIq ((i+1:Nat):Int))) none none).run P w=.ok d w)(J:∀w,(Instr.sliceAt tS v0 (some (zIq (i:Int))) none none).run P w=.ok u w) (N:(Builtin.copy_ #[tS,tS] j #[d,u]).run P w.drew=.ok r w2)(m:AF (λb=>b=g) w.drew w2)(O:K w2):ZQ P tS j I v0 (zIq (i:Int)) (zIq ((1:Nat):Int)) K w:=by
 apply Ac (λ_ b=>b=g);rw[AQ,wrap64 E E];grind[AY,AF.refl]
def Fv{tS e k:Nat}{j:TypeInfo}{g o n c l:Nat}(ht:P.underlying tS=some (.slice e))(hi:P.info? e=some j)(hk:j.size=k)(hl:l<=n)(hc:n<=c)(I:l<c)(w:c_) : (Instr.sliceAt tS (.slice (some ⟨g,o,none⟩) n c) (some (zIq (l:Int))) none none).run P w=.ok (.slice (some ⟨g,o+l*k,none⟩) (n-l) (c-l)) w:=by
 rw[EZ (e:=e) (k:=k) (i:=j) ht hi hk E w];unfold sliced;grind[FI]
def QO{L N:List α}{p:Nat}(h:p+N.length<=L.length):(L.take p++N++L.drop (p+N.length)).length=L.length:=B_
def XB{L N:List α}{p r:Nat}(h:p<=L.length):(L.take p++N++L.drop r).take (p+N.length)=L.take p++N:=by
 grind
def bG{L N:List α}{p r:Nat}(h:p<=L.length):(L.take p++N++L.drop r).drop p=N++L.drop r:=by
 grind
def bh{L N:List α}{p q r:Nat}(h:p<=L.length)(j:q<=p):(L.take p++N++L.drop r).take q=L.take q:=by
 grind
def qQ{tS tI tB e k bytes B Bq i n c gO gR:Nat}{O J:U_}{ki:IntKind}(hE:DD P tS e k bytes)(c4:P.underlying tI=some (.int ki))(Y:w.ownsRow B e k v n O)(hq:w.ownsRow Bq e k (.slice (f_ Bq) 1 c) 1 J)(c6:∀g,v.ownBlock=some g->g≠Bq) (c7:i<=n)(hB:B<=w.heap.size)(bx:(2*n+2)*bytes<=140737488355328)(b8:0<bytes)(ef:∀u∈O,u.oneCell'=true)(av:∀u∈J,u.oneCell'=true) (b9:∀(a b:Addr) (la ca lb cb:Nat) (w:c_),(callFunc gO #[.slice (some a) la ca,.slice (some b) lb cb]).run P w=((Extern.SlicesOverlaps.overlaps #[tS,tS] #[tB] #[.slice (some a) la ca,.slice (some b) lb cb]).run P w).andThen λv w=>.ok (.value v) w) (hK:∀v' w',w'.ownsRow B e k v' (n+1) (O.take (i*k)++J++O.drop (i*k))->AF (λb=>v.ownBlock=some b) w w'->(∀g,v'.ownBlock=some g->v.ownBlock=some g\/w.heap.size<=g)->K v' w') : je P tS tI gO gR v (zIq (i:Int)) (.slice (f_ Bq) 1 c) K w:=by
 obtain⟨I,z,ht,Q,hz,rfl,rfl,c8,c9⟩:=id hE;have hx:=Y.1;have V:=hq.1;rw[aCE] at V;have eh:n*1<=n*I.bytes:=aA6 _ b8;have e9:(2*n+2)*1<=(2*n+2)*I.bytes:=aA6 _ b8;have ea:(n+1-i)*I.bytes<=(2*n+2)*I.bytes:=y9 _ E;have ec:(n+1)*I.bytes<=(2*n+2)*I.bytes:=y9 _ E;have ba:∀j u,J[j]?=some u->w.cell? ⟨Bq,j,none⟩=some u:=λj u hu=>by have:=hq.cells (g:=Bq) rfl j u hu;rwa [AH] at this
 have cc:∃a cap,v=.slice a n cap/\n<=cap:=by
  rcases Y.2 with⟨rfl,rfl⟩|⟨g,cap,U,rfl,_,_,h,_⟩<;>grind
 obtain⟨a,cap,rfl,ed⟩:=cc;unfold je;apply AY (EZ ht Q rfl c7 w);rw[AO];refine eqP E λ_=>?_;rw[AO];refine eqP (λe=>?_) λej=>?_;obtain rfl:i=n:=E;obtain⟨v',w',r1,r2,r3,r4⟩:=Mg (ty:=tS) hE Y (f_ Bq) 1 c J (by rw[V,aCE]) (λe=>nomatch e) (by grind[AH]) av M' E hB;refine AY r1 (hK v' w' ?_ (AF.BO r3) r4);grind;rcases Y.2 with⟨_,rfl⟩|⟨g,ee,U,hv,cu,hh,bb,bk,cx,da⟩;omega;cases hv;have dk:i<n:=E;have dr:U.toList.length=cap*I.size:=by rw[aBW,cx]
 have dz:g≠Bq:=c6 g rfl;have k1:(i+1)*I.size=i*I.size+I.size:=by rw[aBd,aCE]
 have k2:(n+1)*I.size=n*I.size+I.size:=by rw[aBd,aCE]
 have k3:(n-i)*I.size=n*I.size-i*I.size:=Nat.sub_mul _ _ _;have k4:i*I.size+I.size<=n*I.size:=by rw[<-k1];exact y9 _ dk
 have k5:n*I.size<=cap*I.size:=y9 _ bb;have dT:O.take (i*I.size)=U.toList.take (i*I.size):=B_;have bl:∀j u,(O.drop (i*I.size))[j]?=some u->w.cell? ⟨g,0+i*I.size+j,none⟩=some u:=λj u hu=>by
  rw[so] at hu;have:=Y.cells (g:=g) rfl (i*I.size+j) u hu;grind[AH]
 have bp:∀u∈O.drop (i*I.size),u.oneCell'=true:=B_;have al:(O.drop (i*I.size)).length=(n-i)*I.size:=B_;have ek:cap<=9223372036854775807:=by simp only[maxLen] at bk;omega
 rw[AQ,wrap64 E E];apply AY (VE ht);refine gtP (λen=>?_) λeo=>?_
 .have ep:cap=n:=E;refine AY (I9 (h:=i) ht Q rfl E) ?_;rw[By E,AQ,wrap64 E E,A6,wrap64 E E];simp only[aAa,aDe,AH];have He:(Builtin.firstCells I.size i (.slice (f_ g) i cap)).run P w.drew=.ok (O.take (i*I.size)).toArray w.drew:=by
   have a8:(O.take (i*I.size)).length=i*I.size:=B_;have:=aCO (P:=P) w.drew ⟨g,0,none⟩ (O.take (i*I.size)) λj u hu=>by
    have hj:j<i*I.size:=B_;rw[aC8 hj] at hu;exact Y.cells (g:=g) rfl j u hu
   rw[a8] at this;simpa[Builtin.firstCells] using this
  have e1:(n:Int)+((1:Nat):Int)-(i:Int)=((n+1-i:Nat):Int):=E;rw[e1];have hr:=Go.Lib.run_append_grow_zeros (ty:=tS) w tS tI e I z .i64 ki ht c4 Q hz (f_ g) i cap _ He (n+1-i) E c9 E E E (aCw E B_);have aa:=aDR w (i+(n+1-i)) cap e;have ax:=aBv w (i+(n+1-i)) cap e M';have e4:i+(n+1-i)=n+1:=E;rw[e4] at hr aa ax;apply AY hr;generalize grownCap w (n+1) cap e=gc at aa ax ⊢;have er:(n+1)*I.size<=gc*I.size:=y9 _ aa;have a8:(O.take (i*I.size)).length=i*I.size:=by rw[S5,hx];omega
  generalize an:(O.take (i*I.size)).toArray++Builtin.zeroCells z.cells (n+1-i)++Builtin.zeroCells z.cells (gc-(n+1))=UL;have ay:UL.toList.length=gc*I.size:=by
   rw[<-an,aBW];simp only[aC3,aAy,aCx,c8,a8,<-aBd];grind
  have bs:UL.toList.take (i*I.size)=O.take (i*I.size):=by
   rw[<-an];simp only[Array.toList_append,Q0];rw[aA8 (by simp[a8]),aAZ (by simp[a8])]
  have Z:=aBm w.drew (.cells UL e);have m1:AG w (w.drew.alloc (.cells UL e)):=(AF.drew _ _).trans (AF.alloc _ _ _);generalize w.drew.alloc (.cells UL e)=w1 at Z m1 ⊢;have e5:w.drew.heap.size=w.heap.size:=rfl;rw[e5] at Z;generalize et:w.heap.size=h at *;have eu:g<h:=B_;refine AY (Fv ht Q rfl E aa E _) ?_;have ak:=HD (P:=P) w1 tS tS tI e h (0+i*I.size) (n+1-i) (gc-i) ⟨Bq,0,none⟩ 1 c UL e J I ht Q Z (by rw[V,aAD E,aCE]) (λj u hu=>by rw[AH];exact m1.cell (ba j u hu) F_) (by rw[<-aBW,ay,V];omega) av;apply AY ak;rw[aBy];have l2:=QO (L:=UL.toList) (N:=J) (p:=i*I.size) E;have t2:=XB (L:=UL.toList) (N:=J) (p:=i*I.size) (r:=i*I.size+J.length) E;rw[bs,V] at t2;rw[V] at l2 ⊢;have a6:=aC2 w1 h UL (UL.toList.take (i*I.size)++J++UL.toList.drop (i*I.size+I.size)).toArray e (0,0) Z;have m2:=AF.setRow w1 h (UL.toList.take (i*I.size)++J++UL.toList.drop (i*I.size+I.size)).toArray;rw[bs] at l2 a6 m2 ⊢;generalize O.take (i*I.size)++J++UL.toList.drop (i*I.size+I.size)=L2 at l2 t2 a6 m2 ⊢;generalize w1.setRow h L2.toArray=w2 at a6 m2 ⊢;have e6:=HD (P:=P) w2.drew tS tS tI e h (0+(i+1)*I.size) (n+1-(i+1)) (gc-(i+1)) ⟨g,0+i*I.size,none⟩ (n-i) (cap-i) L2.toArray e (O.drop (i*I.size)) I ht Q a6 B_ (λj u hu=>by rw[FI];exact m2.cell (m1.cell (bl j u hu) F_) B_) (by rw[al,k3,aAy,l2,ay,k1];omega) bp;refine Tp E (λ_=>Fv ht Q rfl E aa E _) (λ_=>Fv ht Q rfl E bb E _) e6 (AF.setRow _ _ _) ?_;rw[aBy,k1];have l3:=QO (L:=L2) (N:=O.drop (i*I.size)) (p:=i*I.size+I.size) E;have t3:=XB (L:=L2) (N:=O.drop (i*I.size)) (p:=i*I.size+I.size) (r:=i*I.size+I.size+(O.drop (i*I.size)).length) E;rw[t2] at t3;have m3:=AF.setRow w2.drew h (L2.take (i*I.size+I.size)++O.drop (i*I.size)++L2.drop (i*I.size+I.size+(O.drop (i*I.size)).length)).toArray;refine hK _ _ ⟨?_,.inr ⟨h,gc,_,rfl,hB,aC2 w2.drew h L2.toArray (L2.take (i*I.size+I.size)++O.drop (i*I.size)++L2.drop (i*I.size+I.size+(O.drop (i*I.size)).length)).toArray e (0,0) a6,aa,ax,?_,?_⟩⟩ ?_ λg' b0=>.inr (by cases b0;grind);simp only[Bp,a8,V,al,k3];omega;rw[aAy,l3,l2,ay];have e3:(n+1)*I.size=i*I.size+I.size+(O.drop (i*I.size)).length:=E;grind;have mm:AF (λb=>b=h) w w2:=(m1.mono λ_ _ h=>h.elim:AF (λb=>b=h) w w1).trans m2;have e7:AF (λb=>b=h) w2 w2.drew:=AF.drew _ _;exact((mm.trans e7).trans m3).mono E
 .have X:n+1<=cap:=E;rw[AQ,wrap64 E E];have e1:(n:Int)+((1:Nat):Int)=((n+1:Nat):Int):=E;rw[e1];apply AY (I9 (h:=n+1) ht Q rfl X);rw[By E,AQ,wrap64 E E];simp only[aAa,aDe,AH];have e2:(i:Int)+((1:Nat):Int)=((i+1:Nat):Int):=E;rw[e2];refine AY (Fv ht Q rfl E X E _) ?_;obtain⟨a7,b6⟩:∃a7,w.heap[Bq]?=some (.cells a7 e (0,0)):=by
   rcases hq.2 with⟨h,_⟩|⟨q,cq,a7,h,_,hh,_⟩;cases h;grind
  have b7:U.size≠0:=E;refine⟨.bool false,w,?_,?_⟩;apply(b9 _ _ _ _ _ _ w).trans;rw[Go.Lib.run_overlaps_apart w tS tB e ht I.size (λw=>by simp[sizeOf,typeInfo,Q]) ⟨Bq,0,none⟩ ⟨g,0+(i+1)*I.size,none⟩ _ _ _ _ (λe=>dz e.symm) e e a7.size U.size (by simp[World.shape?,b6]) (by simp[World.shape?,hh]) b7 (by simp[World.frozen?,b6]) (by simp[World.frozen?,b6])];rfl;dsimp only;rw[Aj];apply Ab;have l1:=QO (L:=U.toList) (N:=O.drop (i*I.size)) (p:=i*I.size+I.size) (by have:(n+1)*I.size<=cap*I.size:=y9 _ X;omega);have d1:=bG (L:=U.toList) (N:=O.drop (i*I.size)) (p:=i*I.size+I.size) (r:=i*I.size+I.size+(O.drop (i*I.size)).length) E;have a1:=bh (L:=U.toList) (N:=O.drop (i*I.size)) (p:=i*I.size+I.size) (r:=i*I.size+I.size+(O.drop (i*I.size)).length) (q:=i*I.size) E E;have ak:=HD (P:=P) w.drew tS tS tI e g (0+(i+1)*I.size) (n+1-(i+1)) (cap-(i+1)) ⟨g,0+i*I.size,none⟩ (n+1-i) (cap-i) U e (O.drop (i*I.size)) I ht Q hh B_ (λj u hu=>by rw[FI];exact bl j u hu) (by have:(n+1)*I.size<=cap*I.size:=y9 _ X;omega) bp;rw[aBy,k1] at ak;have Z:=aC2 w.drew g U (U.toList.take (i*I.size+I.size)++O.drop (i*I.size)++U.toList.drop (i*I.size+I.size+(O.drop (i*I.size)).length)).toArray e (0,0) hh;have m1:=AF.setRow w.drew g (U.toList.take (i*I.size+I.size)++O.drop (i*I.size)++U.toList.drop (i*I.size+I.size+(O.drop (i*I.size)).length)).toArray;generalize U.toList.take (i*I.size+I.size)++O.drop (i*I.size)++U.toList.drop (i*I.size+I.size+(O.drop (i*I.size)).length)=L1 at l1 d1 a1 ak Z m1;generalize w.drew.setRow g L1.toArray=w1 at ak Z m1;refine AT (λ_ W=>W=w1) (λvs W e _=>?_) (Tp E (λ_=>?_) (λ_=>Fv ht Q rfl E X E _) ak m1 rfl);rotate_left;have:=Fv (tS:=tS) (g:=g) (o:=0) (n:=n+1) (c:=cap) (l:=i+1) ht Q rfl E X E (w:=‹c_›);grind;subst e;refine AY (Fv ht Q rfl E X E _) ?_;have mw:AF (λb=>b=g) w W:=(AF.drew _ _:AF (λb=>b=g) w w.drew).trans m1;have e8:=HD (P:=P) W tS tS tI e g (0+i*I.size) (n+1-i) (cap-i) ⟨Bq,0,none⟩ 1 c L1.toArray e J I ht Q Z (by rw[V,aAD E,aCE]) (λj u hu=>by rw[AH];exact mw.cell (ba j u hu) B_) (by rw[aAy,l1,dr,V];omega) av;apply AY e8;rw[aBy,V];have a6:=aC2 W g L1.toArray (L1.take (i*I.size)++J++L1.drop (i*I.size+I.size)).toArray e (0,0) Z;have m2:=AF.setRow W g (L1.take (i*I.size)++J++L1.drop (i*I.size+I.size)).toArray;have l2:=QO (L:=L1) (N:=J) (p:=i*I.size) E;rw[V] at l2;refine hK _ _ ⟨?_,.inr ⟨g,cap,_,rfl,cu,a6,X,bk,?_,?_⟩⟩ ((mw.trans m2).mono λb _ e=>by rw[e];rfl) λg' b0=>.inl b0;simp only[Bp,S5,hx,V,al,k3];omega;grind;rw[a1,d1,<-dT];show List.take _ (O.take (i*I.size)++J++(O.drop (i*I.size)++_))=_;rw[<-Q0];exact aCm (by simp only[Bp,S5,hx,V,al,k3];omega)
def kg{k i:Nat}:∀(Ao:List U_),(∀r∈Ao,r.length=k)->∀i,(Ao.take i).flatten=Ao.flatten.take (i*k)/\(Ao.drop i).flatten=Ao.flatten.drop (i*k):=by
 intro Ao;induction Ao with
 |nil=>grind
 |cons r Ao j=>
  intro h i;have hr:=h r E_;cases i with
  |zero=>simp
  |succ i=>
   obtain⟨h1,I⟩:=j (λr hr=>h r (by simp[hr])) i;have e:(i+1)*k=r.length+i*k:=B_;rw[aAX,aAQ,aBH,aBH,e,List.take_length_add_append,List.drop_length_add_append,h1,I];grind
def aV{cs:α->U_}{tS tI tB e k bytes B Q i c gO gR:Nat}{l:List α}{x:α}{ki:IntKind}(hE:DD P tS e k bytes)(V:P.underlying tI=some (.int ki))(ho:AB B e k (λ_ r a=>r=cs a) w v l) (hq:AB Q e k (λ_ r a=>r=cs a) w (.slice (f_ Q) 1 c) [x])(X:∀g,v.ownBlock=some g->g≠Q)(Y:i<=l.length)(hB:B<=w.heap.size)(I:(2*l.length+2)*bytes<=140737488355328)(Z:0<bytes) (J:∀(a b:Addr) (la ca lb cb:Nat) (w:c_),(callFunc gO #[.slice (some a) la ca,.slice (some b) lb cb]).run P w=((Extern.SlicesOverlaps.overlaps #[tS,tS] #[tB] #[.slice (some a) la ca,.slice (some b) lb cb]).run P w).andThen λv w=>.ok (.value v) w) (hK:∀v' w',AB B e k (λ_ r a=>r=cs a) w' v' (l.take i++x::l.drop i)->AF (λb=>v.ownBlock=some b) w w'->(∀g,v'.ownBlock=some g->v.ownBlock=some g\/w.heap.size<=g)->K v' w') : je P tS tI gO gR v (zIq (i:Int)) (.slice (f_ Q) 1 c) K w:=by
 obtain⟨Ao,h1,h2,h3,h4⟩:=ho;obtain⟨rq,q1,q2,q3,q4⟩:=hq;have a1:∀r∈Ao,r.length=k:=B_;obtain⟨r0,rfl⟩:∃r,rq=[r]:=aCX.1 q2;have e0:=q4 0 r0 x rfl rfl;obtain⟨f1,f2⟩:=kg (i:=i) Ao a1 i;refine qQ hE V h1 (by simpa using q1) X Y hB I Z (λu hu=>?_) B_ J λv' w' o m hb=>hK v' w' ⟨Ao.take i++r0::Ao.drop i,?_,by simp[h2],λr hr=>?_,λj r y hr hy=>?_⟩ m hb;grind[List.mem_flatten];grind;grind;have N:(Ao.take i).length=i:=B_;have O:(l.take i).length=i:=B_;rcases Nat.lt_trichotomy j i with U|U|U;rw[u6 E,aC8 U] at hr hy;grind;subst U;rw[nm E,N,aCb] at hr;rw[nm E,O,aCb] at hy;grind;rw[nm E,N,show j-i=(j-i-1)+1 by omega,aBG,so] at hr;rw[nm E,O,show j-i=(j-i-1)+1 by omega,aBG,so] at hy;grind
end
def ng{n:Nat}(j:n<9223372036854775808)(h:K (.int .u64 n) w):runK prog (convert 3 168 (zIq n)) K w:=by
 refine AY (DS (k:=.u64) w D_ D_) ?_;rw[Ds ⟨E,E⟩];exact h
def pL{n:Nat}(j:n<9223372036854775808)(h:K (zIq n) w):runK prog (convert 168 3 (.int .u64 n)) K w:=by
 refine AY (DS (k:=.i64) w D_ D_) ?_;grind[wrap64]
def vn{r:Nat}{t:TypeId}(h:K (.int .u64 ((r/2:Nat):Int)) w):runK prog (Di .shr t xo yo (.int .u64 r) (.int .u64 1)) K w:=by
 refine AY (Nw (n:=1) w C0) ?_;grind
def eJ{a:Attr}{k:Int}:l_ 308 [.agg a.cells.toArray,zIq k] (λv' w'=>v'=zIq (Md a.key k)/\AG w w') w:=by
 refine H_ func308 ?_;refine Bx.box (vs:=a.cells) λb j hb I B=>?_;apply fl_i (B.cells 0 _ rfl);apply AA YB;rintro _ _ ⟨rfl,rfl⟩;grind
structure lJ {α:Type} (key:α->Int) (s:List α) (x:Int) (i:Nat) (b:Bool):Prop where
 le:i<=s.length
 lo:∀m (hm:m<s.length),m<i->key s[m]<x
 zz:b=true->∃hi:i<s.length,key s[i]=x
 no:b=false->∀m (hm:m<s.length),i<=m->x<key s[m]
def lJ.none{key:α->Int}{s:List α}{x:Int}{i:Nat}(h:lJ key s x i false):∀a∈s,key a≠x:=by
 intro a ha;obtain⟨m,hm,rfl⟩:=aA2.1 ha;rcases aDi m i with j|j;have:=h.lo m hm j;omega;have:=h.no rfl m hm j;omega
def pU(k:Nat)(v0 v1 v2:b_)(K:Cont)(w:c_):Prop:=Dz v0 λv=>GM [zIq 0,v] (λvs j w=>∀ _:Env,HZ .i64 (Bf vs 0) (Bf vs 1) λc=>Af c (Cl .i64 (Bf vs 0) (Bf vs 1) λv=>runK prog (convert 3 168 v) (λv w=>runK prog (Di .shr 168 (.tmp 21) (.const (.int .u64 1)) v (.int .u64 1)) (λv w=>runK prog (convert 168 3 v) (λv w=>KY k v0 v λp=>DJ k p (λu w=>Co prog EP v2 [u,v1] (λr w=>HZ .i64 r (zIq 0) λc=>Af c (Cl .i64 v (zIq 1) λv=>j [v,Bf vs 1] w) (j [Bf vs 0,v] w)) w) w) w) w) w) (HZ .i64 (Bf vs 0) v λc=>Af c (KY k v0 (Bf vs 0) λp=>DJ k p (λu w=>Co prog EP v2 [u,v1] (λr w=>P2 .i64 r (zIq 0) λb=>K (.tuple #[Bf vs 0,b]) w) w) w) (K (.tuple #[Bf vs 0,.bool false]) w))) w
def ad{k:Nat}{cs:α->U_}{key:α->Int}{v Q:b_}{s:List α}{x:Int}(hk:0<k)(h:Al S k (λ_ r a=>r=cs a) w v s)(hs:s.Pairwise λa b=>key a<key b)(hl:s.length<=1000000) (hf:∀W a (K:Cont),AG w W->(∀W',AG W W'->K (zIq (Md (key a) x)) W')->Co prog EP Q [.agg (cs a).toArray,zIq x] K W)(O:∀w' i b,AG w w'->lJ key s x i b->K (.tuple #[zIq (i:Nat),.bool b]) w'):pU k v (zIq x) Q K w:=by
 unfold pU;obtain⟨a,c,rfl,_⟩:=h.AK;have a6:∀i j (hi:i<s.length) (I:j<s.length),i<j->key s[i]<key s[j]:=by grind[List.pairwise_iff_getElem]
 have fn:∀{W:c_} {i:Nat} {K:Cont} (hi:i<s.length),AG w W->(∀W',AG w W'->K (zIq (Md (key s[i]) x)) W')->KY k (.slice a s.length c) (zIq (i:Int)) λt=>DJ k t (λt' w5=>Co prog EP Q [t',zIq x] K w5) W:=λ{W i K} hi g O=>by
  obtain⟨p,r,rfl,_,hr,hc,rfl⟩:=(Al.S_ h g hk C_).get hi;refine AV hi (AX hr (by grind[Addr.add_add]) ?_);exact hf W _ _ g (by grind[AF.trans])
 rw[AO];refine Aa (λvs W=>∃(i j:Nat),i<=j/\j<=s.length/\vs=[zIq i,zIq j]/\AG w W/\(∀m (hm:m<s.length),m<i->key s[m]<x)/\(∀m (hm:m<s.length),j<=m->x<=key s[m])) (λvs _=>Da vs 1-Da vs 0) ⟨0,s.length,Lc _,DN _,rfl,AF.refl _ _,E,E⟩ ?_;rintro vs W ⟨i,j,a7,I,rfl,g,lo,J⟩ _;simp only[Ha];refine Cn (λU=>?_) λa8=>?_;rw[AQ,wrap64 E E,show((i:Int)+(j:Int))=((i+j:Nat):Int) by omega];refine ng E (vn (pL E ?_));have V:i<=(i+j)/2:=E;have X:(i+j)/2<j:=E;generalize (i+j)/2=m at *;have Y:m<s.length:=E;refine fn Y g λW' N=>?_;rw[DX];unfold Md;refine Ae (λe=>?_) λe=>?_;have hk:key s[m]<x:=by
  omega
 rw[AQ,AL E];refine⟨⟨m+1,j,E,I,rfl,N,λq hq Z=>?_,J⟩,by rw[BV,DW,BV,DW];omega⟩;grind;have hk:x<=key s[m]:=by
  omega
 refine⟨⟨i,m,V,E,rfl,N,lo,λq hq Z=>?_⟩,by rw[BV,DW,BV,DW];omega⟩;grind;obtain rfl:i=j:=E;refine Cn (λU=>?_) λa1=>O W i false g ⟨I,lo,(λe=>nomatch e),E⟩;have Yz:i<s.length:=E;refine fn Yz g λW' N=>?_;rw[CI];have h1:=J i Yz (DN _);unfold Md;rw[By E];by_cases e:key s[i]=x;rw[By E];exact O W' i true N ⟨I,lo,B_,λe=>nomatch e⟩;rw[Ix E];refine O W' i false N ⟨I,lo,(λe=>nomatch e),λ_ m hm X=>?_⟩;grind
def Wy{k:Int}(h:Bo S w v s)(j:Dg s)(hl:s.length<=1000000) : l_ 218 [v,zIq k] (λv' w'=>AG w w'/\∃(i:Nat) (b:Bool),v'=.tuple #[zIq i,.bool b]/\lJ Attr.key s k i b) w:=by
 refine H_ func218 ?_;refine AA (K:=λv' w'=>AG w w'/\∃(i:Nat) (b:Bool),v'=.tuple #[zIq i,.bool b]/\lJ Attr.key s k i b) ?_ ?_;rotate_left;rintro _ w' ⟨g,i,b,rfl,I⟩;exact Bt (vs:=[_,_]) (by rfl) (Bt (vs:=[_,_]) (by rfl) ⟨g,i,b,rfl,I⟩);refine J_ func307 ?_ (.y (.y (.y (.x (.node [9,10] [(9,11),(15,34)] .nil .nil)))));rw[show ∀a b c K w,S307 a b c K w=pU 5 a b c K w from I'];refine ad (cs:=Attr.cells) (key:=Attr.key) C0 h j hl (λW a K g J=>?_) B_;refine Ee D_ (AA eJ ?_);grind
def Y0{k:Int}(h:Bo S w v s)(X:Dg s)(hl:s.length<=1000000) : l_ 126 [v,zIq k] (λv' w'=>AG w w'/\v'=.tuple #[.agg ((KL s k).getD As.zero).cells.toArray,.bool (KL s k).isSome]) w:=by
 refine H_ func126 ?_;refine Bx.zero λb w1 hb O B=>?_;refine AA (Wy (h.S_ O C0 C_) X hl) ?_;rintro _ Z ⟨Q,i,t,rfl,hr⟩;apply BD;have U:=B.S_ Q;have J:=O.trans Q;have HA:∀{W:c_} {x:As} {K:Cont},AF (λy=>y=b) Z W->Bx W b x.cells->(∀V,AG w V->K (.agg x.cells.toArray) V)->DJ 4 (e_ b) K W:=λ{W x K} m I hK=>I.GJ rfl (by grind[AF.next]);rw[Aj];cases t with
 |true=>
  obtain⟨hi,hk⟩:=hr.zz rfl;apply AM;have e:KL s k=some s[i].val:=by
   unfold KL;have:s.find? (λa=>decide (a.key=k))=some s[i]:=by
    rw[aCe];grind[List.pairwise_iff_getElem]
   grind
  rw[e];obtain⟨a,c,rfl,_⟩:=h.AK;obtain⟨p,r,rfl,_,hr,hc,rfl⟩:=(h.S_ J C0 C_).get hi;apply AV hi;rw[AE,Addr.add_add];apply AX (vs:=s[i].val.cells) rfl (λj u hu=>by rw[Addr.add_add,aBh];exact hc (1+j) u (by rw[aCZ];exact hu));refine U.Ax (us:=s[i].val.cells) rfl rfl (As.one _) λY I N=>?_;exact HA N I B_
 |false=>
  apply Ab;rw[HM hr.none];refine⟨As.zero.cells.toArray,by rfl,?_⟩;refine U.Ax (us:=As.zero.cells) rfl rfl (As.one _) λY I N=>?_;exact HA N I B_
def pH{p:W_}(h:Bo S w sv s)(hp:DY S' w fr p)(hs:Dg s)(hl:s.length<=1000000)(al:p.length<=1000000) : l_ 164 [sv,fr] (λv' w'=>AB w.heap.size 80 6 CO w' v' (Fw s p)/\AG w w') w:=by
 refine H_ func164 ?_ (.y (.y (.x (.y (.node [5,12] [(5,5),(7,9),(12,56)] (.y (.y (.cut [5] [(5,5),(7,9),(14,55)] (.y (.y (.cut [23] [(23,34)] .nil .nil))) .nil))) .nil)))));obtain⟨pa,pc,rfl,_⟩:=hp.AK;have a6:∀k,(Fw s (p.take k)).length<=k:=by grind[Fw]
 rw[AO];apply Aa (λvs W=>∃(k:Nat) (Q:b_),k<=p.length/\vs=[Q,zIq k]/\AB w.heap.size 80 6 CO W Q (Fw s (p.take k))/\AG w W) (λvs _=>p.length-Da vs 1) ⟨0,_,Lc _,rfl,AB.nil,AF.refl _ _⟩;rintro vs W ⟨k,Q,hk,rfl,ho,g⟩ _;simp only[Ha];refine Cn (λan=>?_) λav=>?_;rotate_left;grind;have N:k<p.length:=E;have U:Fw s (p.take (k+1))=Fw s (p.take k)++(ON s p[k]).toList:=by
  unfold Fw;rw[No,Hc N,List.filterMap_append];grind
 refine AT (λvs W'=>∃I,vs=[I]/\AB w.heap.size 80 6 CO W' I (Fw s (p.take (k+1)))/\AG w W') ?_ ?_;rintro vs W' ⟨I,rfl,a7,g'⟩ _;simp only[HK];rw[AQ,AL E];exact⟨⟨k+1,I,N,rfl,a7,g'⟩,by grind[BV]⟩;obtain⟨q,r,rfl,_,hr,hc,rfl⟩:=(hp.S_ g C0 C_).get N;refine AV N (AX hr (by grind[Addr.add_add]) ?_);refine Bx.new (vs:=p[k].cells) rfl rfl (CO.one (w:=W) (x:=p[k]) rfl) λb7 w4 ax g4 B7=>?_;apply fl_i (B7.cells 0 _ rfl);have X:=g.trans g4;refine AA (Y0 (h.S_ X C0 C_) hs hl) ?_;rintro _ w5 ⟨g5,rfl⟩;apply BD;refine Bx.new (vs:=((KL s p[k].key).getD As.zero).cells) rfl rfl (As.one _) λb8 Y ay g6 B8=>?_;have V:=g5.trans g6;have Z:=X.trans V;have J:=B7.S_ V;have a1:AB w.heap.size 80 6 CO Y Q (Fw s (p.take k)):=AB.T_ ho (g4.trans V) C_ E';have b0:=a6 k;have push:∀{O:c_} {K:Cont} {BP:List (Nat×b_)} (c:Chg),AG Y O->Instr.fill (λi=>some (i*6,6)) ((Array.range (1*6)).map ([zIq 0,.bool false,.int .u8 0,zIq 0,.int .u64 0,.string (ByteArray.mk #[])].toArray[· % [zIq 0,.bool false,.int .u8 0,zIq 0,.int .u64 0,.string (ByteArray.mk #[])].toArray.size]!)) BP=some c.cells.toArray->ON s p[k]=some c->
   (∀v' w',(∃I,[v']=[I]/\AB w.heap.size 80 6 CO w' I (Fw s (p.take (k+1)))/\AG w w')->K v' w')->
   EE 80 6 1 [zIq 0,.bool false,.int .u8 0,zIq 0,.int .u64 0,.string (ByteArray.mk #[])] BP (λa8 aa=>runK prog (Builtin.append_ #[33,33] 33 [Q,a8].toArray) K aa) O:=λ{O K BP} c gw hf hc hK=>by
  have ak:AB w.heap.size 80 6 CO O Q (Fw s (p.take k)):=AB.T_ a1 gw C_ E';refine LP (w0:=w) GR ak (Z.trans gw) (cs:=c.cells) (x:=c) hf rfl rfl (λ_ _ _=>CO.one) B_ E E λv' w' o' g'=>hK v' w' ⟨v',rfl,?_,g'⟩;grind
 have Ak:ON s p[k]=none->∀{O:c_},AG Y O->∃I,[Q]=[I]/\AB w.heap.size 80 6 CO O I (Fw s (p.take (k+1)))/\AG w O:=λhn {O} gw=>⟨Q,rfl,by rw[U,hn,Option.toList_none,aO];exact AB.T_ a1 gw C_ E',Z.trans gw⟩;refine AT (λvs W'=>∃t:Bool,vs=[.bool t]/\Y=W'/\(t=true↔∃v,KL s p[k].key=some v/\(p[k].Ar=true\/v≠p[k].val))) ?_ ?_;rotate_left;cases hv:KL s p[k].key with
 |none=>exact AM B_
 |some v=>
  rw[hv] at B8;apply Ab;apply fl_i (J.cells 1 _ rfl);cases hg:p[k].Ar with
  |true=>exact Ab B_
  |false=>
   apply AM;apply B8.GJ rfl;rw[AE,AH];apply AX (vs:=p[k].val.cells) rfl (λj u hu=>by rw[FI];exact J.cells (2+j) u (by rw[aCZ];exact hu));refine AY (Q9 _ _ v p[k].val Y) ⟨_,rfl,rfl,?_⟩;grind
 rintro _ _ ⟨t,rfl,rfl,ht⟩ _;simp only[HK];cases t with
 |true=>
  apply Ab;obtain⟨v,hv,b6⟩:=ht.1 rfl;rw[hv] at B8;apply fl_i (J.cells 0 _ rfl);apply B8.GJ rfl;refine⟨(⟨p[k].key,false,v⟩:Chg).cells.toArray,by rfl,?_⟩;refine push ⟨p[k].key,false,v⟩ (AF.refl _ _) D_ ?_ C_;grind[ON]
 |false=>
  apply AM;rw[Aj];cases hv:KL s p[k].key with
  |some v=>
   refine AM (Ak ?_ (AF.refl _ _));grind[ON]
  |none=>
   apply Ab;apply fl_i (J.cells 1 _ rfl);rw[Aj];cases hg:p[k].Ar with
   |true=>
    refine AM (Ak ?_ (AF.refl _ _));grind[ON]
   |false=>
    apply Ab;apply fl_i (J.cells 0 _ rfl);refine⟨(⟨p[k].key,true,As.zero⟩:Chg).cells.toArray,by rfl,?_⟩;refine push ⟨p[k].key,true,As.zero⟩ (AF.refl _ _) D_ ?_ C_;grind[ON]
def Hf(ks:X')(f:DKey->Bool)(s:V_):V_:=s.filter λa=>match BW ks a.key with|some k=>f k|none=>false
theorem JZ(ks:X')(f:DKey->Bool)(s:V_):(Hf ks f s).length<=s.length:=aBB _ _
def VK{S A_:d_}{f:DKey->Bool}(hS:CG A_ w sv ks)(h:Bo S w v s)(hl:s.length<=1000000) (hf:∀W (k:DKey) (K:Cont),AG w W->(∀W',AG W W'->K (.bool (f k)) W')->Co prog EP fr [.agg k.cells.toArray] K W) : l_ 168 [sv,v,fr] (λv' w'=>AB w.heap.size 143 5 CC w' v' (Hf ks f s)/\AG w w') w:=by
 refine J_ func168 ?_ (.y (.y (.x (.y (.node [7,14] [(7,7),(9,11),(14,35)] (.y (.y (.cut [7] [(7,7),(9,11),(16,34)] .nil .nil))) .nil)))));obtain⟨a,c,rfl,_⟩:=h.AK;rw[AO];apply Aa (λvs W=>∃(i:Nat) (O:b_),i<=s.length/\vs=[O,zIq i]/\AB w.heap.size 143 5 CC W O (Hf ks f (s.take i))/\AG w W) (λvs _=>s.length-Da vs 1) ⟨0,_,Lc _,rfl,AB.nil,AF.refl _ _⟩;rintro vs W ⟨i,O,hi,rfl,ho,g⟩ _;simp only[Ha];refine Cn (λa8=>?_) λaa=>?_;rotate_left;grind;have j:i<s.length:=E;have Y:=JZ ks f (s.take i);rw[S5] at Y;refine AT (λvs W'=>∃I,vs=[I]/\AB w.heap.size 143 5 CC W' I (Hf ks f (s.take (i+1)))/\AG w W') ?_ ?_;rintro vs W' ⟨I,rfl,ak,g'⟩ _;simp only[HK];rw[AQ,AL E];grind[BV];obtain⟨p,r,rfl,_,hr,hc,rfl⟩:=(h.S_ g C0 C_).get j;refine AV j (AX hr (by grind[Addr.add_add]) ?_);refine Bx.new (vs:=s[i].cells) rfl rfl (CC.one (w:=W) (x:=s[i]) rfl) λb9 W1 al g1 B9=>?_;apply fl_i (B9.cells 0 _ rfl);have Q:=g.trans g1;apply AA (IW (hS.S_ Q) _);rintro _ W2 ⟨rfl,g2⟩;refine Bt (vs:=[_,_]) rfl (Bt (vs:=[_,_]) rfl (Bx.new (vs:=((BW ks s[i].key).getD DKey.zero).cells) rfl rfl (Hg.one (w:=W) (x:=(BW ks s[i].key).getD DKey.zero) rfl) λan W3 a7 g3 U=>?_));have J:=g2.trans g3;have N:=Q.trans J;have V:AB w.heap.size 143 5 CC W3 O (Hf ks f (s.take i)):=AB.T_ ho (g1.trans J) C_ E';have Z:Hf ks f (s.take (i+1))=Hf ks f (s.take i)++Hf ks f [s[i]]:=by
  grind[Hf,List.take_add_one]
 cases hk:BW ks s[i].key with
 |none=>
  grind[Hf,AM]
 |some k=>
  rw[hk] at U;apply Ab;apply U.GJ rfl;refine hf W3 k _ N λW4 X=>?_;cases av:f k with
  |false=>
   have e2:Hf ks f [s[i]]=[]:=by grind[Hf]
   rw[e2,aO] at Z;exact AM ⟨O,rfl,by rw[Z];exact AB.T_ V X C_ E',N.trans X⟩
  |true=>
   have e2:Hf ks f [s[i]]=[s[i]]:=by grind[Hf]
   rw[e2] at Z;apply Ab;have a1:=B9.S_ (J.trans X);apply a1.GJ rfl;have a6:AB w.heap.size 143 5 CC W4 O (Hf ks f (s.take i)):=AB.T_ V X C_ E';refine LP (w0:=w) GC a6 (N.trans X) (cs:=s[i].cells) (x:=s[i]) D_ rfl rfl (λ_ _ _=>CC.one) B_ E E λv' w' o' g'=>?_;exact B_
def dX{k:DKey}:l_ 172 [.agg k.cells.toArray] (λv w'=>v=.bool (k.block&&k.after)/\AG w w') w:=by
 refine I_ func172 ?_;refine Bx.box λb J hb j B=>?_;apply fl_i (B.cells 1 _ rfl);cases I:k.block with
 |false=>exact AM ⟨rfl,j⟩
 |true=>
  apply Ab;exact fl_i (B.cells 3 _ rfl) B_
def cK{k:DKey}:l_ 169 [.agg k.cells.toArray] (λv w'=>v=.bool (!k.block&&k.after)/\AG w w') w:=by
 refine I_ func169 ?_;refine Bx.box λb J hb j B=>?_;apply fl_i (B.cells 1 _ rfl);rw[Aj];cases I:k.block with
 |true=>exact AM ⟨rfl,j⟩
 |false=>
  apply Ab;exact fl_i (B.cells 3 _ rfl) B_
def fS{k:DKey}:l_ 170 [.agg k.cells.toArray] (λv w'=>v=.bool (!k.block&&k.Ib)/\AG w w') w:=by
 refine I_ func170 ?_;refine Bx.box λb J hb j B=>?_;apply fl_i (B.cells 1 _ rfl);rw[Aj];cases I:k.block with
 |true=>exact AM ⟨rfl,j⟩
 |false=>
  apply Ab;exact fl_i (B.cells 4 _ rfl) B_
def eW(ks:X')(s:V_):V_:=Hf ks (λk=>k.block&&k.after) s
def nA{S A_:d_}(j:CG A_ w sv ks)(h:Bo S w v s)(hl:s.length<=1000000) : l_ 98 [sv,v] (λv' w'=>AB w.heap.size 143 5 CC w' v' (eW ks s)/\AG w w') w:=by
 refine H_ func98 ?_;refine AA (VK (f:=λk=>k.block&&k.after) j h hl λW k K g I=>?_) C_;refine Ee D_ (AA dX ?_);grind
def qd{c:Chg}{r:V_}:∀{l:V_},(∀x∈l,x.key<c.key)->Jh c (l++r)=l++Jh c r/\E8 c (l++r)=E8 c r:=by
 intro l;induction l with
 |nil=>grind
 |cons a l j=>
  grind[Jh,E8]
def Yl(s:V_)(a:Attr):V_:=CF s [⟨a.key,false,a.val⟩]
def ri{a:Attr}{i:Nat}(h:lJ Attr.key s a.key i false):s.take i++a::s.drop i=Yl s a:=by
 have hl:∀x∈s.take i,x.key<a.key:=λx j=>by
  obtain⟨m,hm,rfl⟩:=aA2.1 j;rw[aBg];exact h.lo m B_ B_
 have hr:∀x∈s.drop i,a.key<x.key:=λx j=>by
  obtain⟨m,hm,rfl⟩:=aA2.1 j;rw[aC5];exact h.no rfl _ B_ E
 obtain⟨l1,l2⟩:=qd (c:=⟨a.key,false,a.val⟩) (r:=s.drop i) hl;obtain⟨h1,I⟩:=kZ (c:=⟨a.key,false,a.val⟩) hr;rw[Nr] at l1 l2;unfold Yl;rw[CF,l1,l2,h1,I,aO];simp[O0,CF]
theorem gp{a b:Addr}{j I J cb:Nat}:(callFunc 335 #[.slice (some a) j I,.slice (some b) J cb]).run prog w=((Extern.SlicesOverlaps.overlaps #[47,47] #[4] #[.slice (some a) j I,.slice (some b) J cb]).run prog w).andThen λv w=>.ok (.value v) w:=by
 have h:prog.funcs[335]?=some Tryz.f335:=func335
 have U : (Tryz.f335.name == "runtime.NumGoroutine") = false := D_
 have N:Tryz.f335.body.isNone=true:=D_;have O:Extern.findNext Tryz.f335=none:=D_;have Q:Extern.find Tryz.f335=some (Extern.SlicesOverlaps.overlaps #[47,47] #[4]):=D_;simp only[callFunc,program,mark,aR,Sem.run,Result.andThen,h,U,N,O,Q,aBa,aAW,aAh];generalize Sem.run _ (Extern.SlicesOverlaps.overlaps _ _ _) w=r;cases r<;>rfl
def jw{a:Attr}(h:Bo S w v s)(hs:Dg s)(hl:s.length<=1000000)(hn:∀x∈s,x.key≠a.key) : l_ 171 [v,.agg a.cells.toArray] (λv' w'=>Bo (λx=>w.heap.size<=x/\x<w'.heap.size) w' v' (Yl s a)/\AG w w') w:=by
 refine H_ func171 ?_ (.y (.y (.y (.x (.dt [1,4,5] (i_ [0,1,0,0,8,31,63]) [] (.op 0 (.op 2 (.op 3 (.br (.op 1 (.op 4 (.op 5 (.op 6 .nil)))) (.op 4 (.op 1 (.op 5 (.op 6 .nil)))))))))))));refine Bx.box (vs:=a.cells) λb w1 hb g1 B=>?_;apply fl_i (B.cells 0 _ rfl);refine AA (Wy (h.S_ g1 C0 C_) hs hl) ?_;rintro _ I ⟨g2,i,t,rfl,hr⟩;apply BD;cases t with
 |true=>obtain⟨hi,e⟩:=hr.zz rfl;exact(hn _ (S7 hi) e).elim
 |false=>
  have N:=g1.trans g2;have Y:=gdr I;have B2:=(B.S_ g2).S_ Y;have h2:=h.S_ (N.trans Y) C0 C_;have ov:∀{Q:c_} {sv:b_} {q:Nat} {K:Cont},AB I.heap.size 143 5 CC Q sv s->AB q 143 5 CC Q (.slice (f_ q) 1 1) [a]->(∀g,sv.ownBlock=some g->g≠q)->AG I.drew Q->
    (∀v' O,AF (λb=>I.heap.size<=b) Q O->(Bo (λx=>w.heap.size<=x/\x<O.heap.size) O v' (Yl s a)/\AG w O)->K v' O)->l_ 258 [sv,zIq (i:Int),.slice (f_ q) 1 1] K Q:=by
   intro Q sv q K o1 o2 Z V hK;have z4:=V.size;have a1:I.drew.heap.size=I.heap.size:=rfl;have a6:=N.size;refine J_ func258 ?_ (.y (.y (.y (.y (.y (.y (.z (.y (.x (.y (.y (.x (.dt [4,7,8] (i_ [0,0,0,6,15,0,0,96,255]) [] (.op 0 (.op 1 (.op 2 (.op 3 (.op 5 (.op 6 (.br (.op 4 (.op 7 (.op 8 .nil))) (.op 7 (.op 4 (.op 8 .nil)))))))))))))))) (.y (.x (.y (.x (.cut [] [(69,77)] (.dt [4,7,8] (i_ [0,0,0,6,15,0,0,96,255]) [] (.op 0 (.op 1 (.op 2 (.op 3 (.op 5 (.op 6 (.br (.op 4 (.op 7 (.op 8 .nil))) (.op 7 (.op 4 (.op 8 .nil))))))))))) .nil))))))))))));rw[show ∀a b c K w,S258 a b c K w=je prog 47 3 335 336 a b c K w from I'];refine aV (cs:=Attr.cells) (ki:=.i64) (tB:=4) GC D_ o1 o2 Z hr.le E E C0 (by grind[gp]) λv' O o5 m5 _=>?_;rw[ri hr] at o5;exact hK v' O (by grind[AF.mono,AB.Am]) ⟨Al.sub (AB.sl o5) E C0 C_,((N.trans Y).trans V).next m5 λx hx e=>by have:=(AB.Am o1 x e).1;omega⟩
  apply AM;apply Ac (λj y=>j=5/\I.heap.size<=y);refine DH (vs:=a.cells) rfl (λj u hu=>⟨by grind[AH,Bx.cells],λk hk e=>by have:=e.1;subst this;exact absurd hk C0⟩) ?_;have J:∀{W:c_},AB W.heap.size 143 5 CC (W.alloc (.cells a.cells.toArray 143)) (.slice (f_ W.heap.size) 1 1) [a]:=AB.KU (DN _) rfl (CC.one (w:=w) rfl) rfl;have a1:I.drew.heap.size=I.heap.size:=rfl;refine⟨?_,?_⟩;refine AA (MK h2 E) ?_;rintro cv w3 ⟨o3,g3⟩;refine⟨B_,ET (CY (v:=.agg a.cells.toArray) (vs:=a.cells) (k:=5) rfl C0 rfl rfl) ?_⟩;have U:AG w3 (w3.alloc (.cells a.cells.toArray 143)):=AF.alloc _ _ _;exact⟨B_,ov (AB.T_ o3 U C_ E') J (λg X=>by have:=(AB.Am o3 g X).2;omega) (g3.trans U) B_⟩;refine ET (CY (v:=.agg a.cells.toArray) (vs:=a.cells) (k:=5) rfl C0 rfl rfl) ?_;have U:AG I.drew (I.drew.alloc (.cells a.cells.toArray 143)):=AF.alloc _ _ _;refine⟨B_,AA (MK (h2.S_ U C0 C_) E) ?_⟩;rintro cv Q ⟨o4,V⟩;have za:=U.size;have hq:I.drew.heap.size<(I.drew.alloc (.cells a.cells.toArray 143)).heap.size:=(AB.Am (J (W:=I.drew)) _ rfl).2;exact⟨B_,ov (AB.BY o4 λg X=>by have:=(AB.Am o4 g X).1;omega) (AB.T_ J V C_ E') (λg X=>by have:=(AB.Am o4 g X).1;omega) (U.trans V) B_⟩
def Js(set:V_)(a:Attr):V_:=if(KL set a.key).isSome then set else Yl set a
def Zc(ks:X')(l r:V_):V_:=(Hf ks (λk=>!k.block&&k.Ib) r).foldl Js (Hf ks (λk=>!k.block&&k.after) l)
def WM{a:Attr}(h:Dg s):Dg (Js s a):=by
 unfold Js;split;exact h;exact FZ h (aBs _ _)
theorem kA{a x:Attr}(h:x∈Js s a):x∈s\/x=a:=by
 unfold Js at h;split at h;grind;rcases KA h with h|⟨c,hc,_,rfl⟩;grind;rw[uN.1 hc];grind
def rK(c:Chg)(s:V_):(Jh c s).length+(E8 c s).length<=s.length:=by
 induction s with
 |nil=>exact DN 0
 |cons x s j=>
  grind[Jh,E8]
def Wz{a:Attr}:(Js s a).length<=s.length+1:=by
 unfold Js;split;omega;unfold Yl;simp only[CF,Bp,O0,aBa,aAW,aAw];have:=rK ⟨a.key,false,a.val⟩ s;omega
def YL{k:Int}(h:(KL s k).isSome=false):∀x∈s,x.key≠k:=by
 grind[KL]
def Xm{f:DKey->Bool}(h:Dg s):Dg (Hf ks f s):=aCD _ h
def uJ{l r:V_}(hl:Dg l):Dg (Zc ks l r)/\(∀x∈Zc ks l r,x∈l\/x∈r)/\(Zc ks l r).length<=l.length+r.length:=by
 unfold Zc;have h0:Dg (Hf ks (λk=>!k.block&&k.after) l):=Xm hl;have h1:∀x∈Hf ks (λk=>!k.block&&k.after) l,x∈l\/x∈r:=λx I=>.inl (aAb.1 I).1;have U:=JZ ks (λk=>!k.block&&k.after) l;have J:∀x∈Hf ks (λk=>!k.block&&k.Ib) r,x∈r:=λx I=>(aAb.1 I).1;have V:=JZ ks (λk=>!k.block&&k.Ib) r;have key:∀(j:V_) (s:V_),Dg s->(∀x∈s,x∈l\/x∈r)->(∀x∈j,x∈r)->Dg (j.foldl Js s)/\(∀x∈j.foldl Js s,x∈l\/x∈r)/\(j.foldl Js s).length<=s.length+j.length:=by
  intro j;induction j with
  |nil=>grind
  |cons y j N=>
   intro s a b c;obtain⟨O,Q,Y⟩:=N (Js s y) (WM a) (by grind[kA]) B_;have:=Wz (s:=s) (a:=y);exact⟨O,Q,B_⟩
 obtain⟨k1,k2,X⟩:=key _ _ h0 h1 J;exact⟨k1,k2,E⟩
def mE{S S' A_:d_}{sv lv rv:b_}{l r:V_}(hS:CG A_ w sv ks)(h:Bo S w lv l)(h':Bo S' w rv r)(hl:l.length<=10000)(hr:r.length<=10000)(O:Dg l) : l_ 97 [sv,lv,rv] (λv' w'=>Bo (λx=>w.heap.size<=x/\x<w'.heap.size) w' v' (Zc ks l r)/\AG w w') w:=by
 refine J_ func97 ?_ (.y (.y (.x (.y (.node [7,19] [(7,7),(9,11),(19,35)] .nil .nil)))));refine AA (VK (f:=λk=>!k.block&&k.after) hS h E λW k K g hK=>?_) ?_;refine Ee D_ (AA cK ?_);grind;rintro lo W1 ⟨o1,X⟩;refine AA (VK (f:=λk=>!k.block&&k.Ib) (hS.S_ X) (h'.S_ X C0 C_) E λW k K g hK=>?_) ?_;refine Ee D_ (AA fS ?_);grind;rintro ro Y ⟨o2,g2⟩;unfold Zc;have h0:Dg (Hf ks (λk=>!k.block&&k.after) l):=Xm O;have h2:=JZ ks (λk=>!k.block&&k.after) l;have h4:=JZ ks (λk=>!k.block&&k.Ib) r;generalize Hf ks (λk=>!k.block&&k.after) l=A at *;generalize Hf ks (λk=>!k.block&&k.Ib) r=B at *;have rB:=AB.sl o2;have rA:Bo (λx=>w.heap.size<=x/\x<Y.heap.size) Y lo A:=((AB.sl o1).S_ g2 C0 C_).sub E C0 C_;obtain⟨a2,c2,rfl,_⟩:=AB.AK o2;rw[AO];apply Aa (λvs W=>∃(k:Nat) (sv:b_),k<=B.length/\vs=[sv,zIq k]/\Bo (λx=>w.heap.size<=x/\x<W.heap.size) W sv ((B.take k).foldl Js A)/\Dg ((B.take k).foldl Js A)/\((B.take k).foldl Js A).length<=A.length+k/\AG Y W) (λvs _=>B.length-Da vs 1) ⟨0,lo,Lc _,rfl,rA,h0,DN _,AF.refl _ _⟩;rintro vs W ⟨k,sv,hk,rfl,J,N,a6,g⟩ _;simp only[Ha];refine Cn (λa7=>?_) λa8=>?_;rotate_left;grind[AF.trans];have I:k<B.length:=E;have V:(B.take (k+1)).foldl Js A=Js ((B.take k).foldl Js A) B[k]:=by grind[List.take_add_one]
 generalize (B.take k).foldl Js A=C at *;obtain⟨p,q,rfl,_,hr,hc,rfl⟩:=(rB.S_ g C0 C_).get I;refine AV I (AX hr (by grind[Addr.add_add]) ?_);refine BA (vs:=B[k].cells) rfl rfl (CC.one (w:=w) rfl) λb7 w4 aa ak g4 Z _=>?_;apply fl_i (Z 0 _ rfl);refine AA (Y0 (J.S_ g4 C0 C_) N E) ?_;rintro _ w5 ⟨g5,rfl⟩;apply BD;refine BA (vs:=((KL C B[k].key).getD As.zero).cells) rfl rfl (As.one _) λb8 w6 al an g6 av _=>?_;have j:=(g4.trans g5).trans g6;rw[Aj,AQ,AL E];rw[show Js C B[k]=if(KL C B[k].key).isSome then C else Yl C B[k] from rfl] at V;cases e:(KL C B[k].key).isSome with
 |true=>
  rw[e,Ix rfl] at V;apply AM;exact⟨⟨k+1,sv,I,rfl,by rw[V];exact(J.S_ j C0 C_).sub E C0 C_,B_,B_,g.trans j⟩,by grind[BV]⟩
 |false=>
  rw[e,By C0] at V;apply Ab;apply AX (vs:=B[k].cells) rfl (by grind[AF.cell]);refine AA (jw (J.S_ j C0 C_) N E (YL e)) ?_;rintro a1 w7 ⟨h7,g7⟩;have z7:=g7.size;have zW:=(((X.trans g2).trans g).trans j).size;have Q:=Wz (s:=C) (a:=B[k]);have U:=WM (a:=B[k]) N;unfold Js at Q U;rw[e,By C0] at Q U;rw[AQ,AL E];exact⟨⟨k+1,a1,I,rfl,by rw[V];exact h7.sub E C0 C_,B_,B_,g.trans (j.trans g7)⟩,by rw[BV,BV];omega⟩
def oI{x:W_}{c:Chg}{i:Nat}(h:lJ Chg.key x c.key i false):x.take i++c::x.drop i=GW x [c]:=by
 have hl:∀d∈x.take i,d.key<c.key:=λd j=>by
  obtain⟨m,hm,rfl⟩:=aA2.1 j;rw[aBg];exact h.lo m B_ B_
 have hr:∀d∈x.drop i,c.key<d.key:=λd j=>by
  obtain⟨m,hm,rfl⟩:=aA2.1 j;rw[aC5];exact h.no rfl _ B_ E
 have K4:∀{l r:W_},(∀d∈l,d.key<c.key)->H7 c (l++r)=l++H7 c r/\Er c (l++r)=Er c r:=by
  intro l r;induction l with
  |nil=>grind
  |cons a l I=>
   grind[H7,Er]
 obtain⟨l1,l2⟩:=K4 (r:=x.drop i) hl;obtain⟨h1,J⟩:=jv hr;grind[List.take_append_drop,GW]
theorem fJ{a b:Addr}{j I J cb:Nat}:(callFunc 216 #[.slice (some a) j I,.slice (some b) J cb]).run prog w=((Extern.SlicesOverlaps.overlaps #[33,33] #[4] #[.slice (some a) j I,.slice (some b) J cb]).run prog w).andThen λv w=>.ok (.value v) w:=by
 have h:prog.funcs[216]?=some Tryz.f216:=func216
 have U : (Tryz.f216.name == "runtime.NumGoroutine") = false := D_
 have N:Tryz.f216.body.isNone=true:=D_;have O:Extern.findNext Tryz.f216=none:=D_;have Q:Extern.find Tryz.f216=some (Extern.SlicesOverlaps.overlaps #[33,33] #[4]):=D_;simp only[callFunc,program,mark,aR,Sem.run,Result.andThen,h,U,N,O,Q,aBa,aAW,aAh];generalize Sem.run _ (Extern.SlicesOverlaps.overlaps _ _ _) w=r;cases r<;>rfl
def qe{a:Chg}{k:Int}:l_ 215 [.agg a.cells.toArray,zIq k] (λv' w'=>v'=zIq (Md a.key k)/\AG w w') w:=by
 refine H_ func215 ?_;refine Bx.box (vs:=a.cells) λb j hb I B=>?_;apply fl_i (B.cells 0 _ rfl);apply AA YB;rintro _ _ ⟨rfl,rfl⟩;grind
def uf{x:W_}{k:Int}(h:DY S w v x)(j:EA x)(hl:x.length<=1000000) : l_ 122 [v,zIq k] (λv' w'=>AG w w'/\∃(i:Nat) (b:Bool),v'=.tuple #[zIq i,.bool b]/\lJ Chg.key x k i b) w:=by
 refine H_ func122 ?_;refine AA (K:=λv' w'=>AG w w'/\∃(i:Nat) (b:Bool),v'=.tuple #[zIq i,.bool b]/\lJ Chg.key x k i b) ?_ ?_;rotate_left;rintro _ w' ⟨g,i,b,rfl,I⟩;exact Bt (vs:=[_,_]) (by rfl) (Bt (vs:=[_,_]) (by rfl) ⟨g,i,b,rfl,I⟩);refine J_ func214 ?_ (.y (.y (.y (.x (.node [9,10] [(9,11),(15,34)] .nil .nil)))));rw[show ∀a b c K w,S214 a b c K w=pU 6 a b c K w from I'];refine ad (cs:=Chg.cells) (key:=Chg.key) C0 h j hl (λW a K g J=>?_) B_;refine Ee D_ (AA qe ?_);grind
def rf{x:W_}{o:Int}{i:Nat}(h:lJ Chg.key x o i true)(J:EA x):∃hi:i<x.length,MR x o=some x[i]:=by
 obtain⟨hi,e⟩:=h.zz rfl;refine⟨hi,?_⟩;unfold MR;rw[aCe];refine⟨by simp[e],i,hi,rfl,λj I=>?_⟩;have:=h.lo j E I;grind
def sH{B i:Nat}{x:W_}{o:Int}(N:AB B 80 6 CO w sv x)(hl:x.length<=1000)(V:B<=w.heap.size)(hr:lJ Chg.key x o i false) (O:∀v' w',AB B 80 6 CO w' v' (GW x [⟨o,true,As.zero⟩])->AF (λb=>sv.ownBlock=some b) w w'->(∀g,v'.ownBlock=some g->sv.ownBlock=some g\/w.heap.size<=g)->K v' w') : DQ [(0,1),(1,1),(2,4)] [(zIq 0),(.bool false),(.int .u8 0),(zIq 0),(.int .u64 0),(.string (ByteArray.mk #[]))] [(0,zIq o),(1,.bool true)] (λv=>EE 80 6 1 [(zIq 0),(.bool false),(.int .u8 0),(zIq 0),(.int .u64 0),(.string (ByteArray.mk #[]))] [(0,v)] (λv w=>l_ 123 [sv,zIq (i:Int),v] K w) w):=by
 refine⟨(⟨o,true,As.zero⟩:Chg).cells.toArray,by rfl,?_⟩;refine ET (CY (v:=.agg (⟨o,true,As.zero⟩:Chg).cells.toArray) (vs:=(⟨o,true,As.zero⟩:Chg).cells) (k:=6) rfl C0 rfl rfl) ?_;have I:AG w (w.alloc (.cells (⟨o,true,As.zero⟩:Chg).cells.toArray 80)):=AF.alloc _ _ _;have j:AB w.heap.size 80 6 CO (w.alloc (.cells (⟨o,true,As.zero⟩:Chg).cells.toArray 80)) (.slice (f_ w.heap.size) 1 1) [⟨o,true,As.zero⟩]:=AB.KU (DN _) rfl (CO.one (w:=w) (x:=⟨o,true,As.zero⟩) rfl) rfl;have X:=I.size;refine J_ func123 ?_ (.y (.y (.y (.y (.y (.y (.z (.y (.x (.y (.y (.x (.dt [4,7,8] (i_ [0,0,0,6,15,0,0,96,255]) [] (.op 0 (.op 1 (.op 2 (.op 3 (.op 5 (.op 6 (.br (.op 4 (.op 7 (.op 8 .nil))) (.op 7 (.op 4 (.op 8 .nil)))))))))))))))) (.y (.x (.y (.x (.cut [] [(69,77)] (.dt [4,7,8] (i_ [0,0,0,6,15,0,0,96,255]) [] (.op 0 (.op 1 (.op 2 (.op 3 (.op 5 (.op 6 (.br (.op 4 (.op 7 (.op 8 .nil))) (.op 7 (.op 4 (.op 8 .nil))))))))))) .nil))))))))))));rw[show ∀a b c K w,S123 a b c K w=je prog 33 3 216 217 a b c K w from I'];refine aV (cs:=Chg.cells) (ki:=.i64) (tB:=4) GR D_ (AB.T_ N I C_ E') j (by grind[AB.Am]) hr.le E E C0 (by grind[fJ]) λv' Q J U Y=>?_;rw[oI (c:=⟨o,true,As.zero⟩) hr] at J;exact O v' Q J ((I.mono λ_ _ h=>h.elim:AF (λb=>sv.ownBlock=some b) w _).trans U) B_
def cL{x:W_}{l:V'}(n:Nat)(h:KT x (l.take n)=none):KT x l=none:=by
 grind[List.take_append_drop,WC]
def dZ{x p:W_}(n:Nat)(h:MT ks x (p.take n)=none):MT ks x p=none:=by
 grind[List.take_append_drop,WX]
def ie{x:W_}{o:Int}:KT x [o]=Ua x o:=by
 grind[KT]
theorem gh{x:W_}{c:Chg}:MT ks x [c]=if c.Ar then some x else KT x (En ks c.key):=by
 grind[MT]
def Le{D S:d_}{p:W_}(hS:CG D w sv ks)(hp:DY S w v p)(hP:EX ks p)(an:ks.length<=64) :
  l_ 67 [sv,v] (λv' w'=>AG w w'/\match Qd ks p with
   |some q=>∃qv,v'=.tuple #[qv,.int .i64 0]/\DY (λx=>w.heap.size<=x/\x<w'.heap.size) w' qv q
   | none=>v'=.tuple #[g_,.int .i64 3]) w:=by
 refine H_ func67 ?_ (.y (.y (.x (.y (.node [6,17] [(4,6),(8,8),(10,12),(17,58)] (.y (.y (.x (.y (.y (.y (.node [6,28] [(4,6),(10,12),(28,57)] (.y (.y (.cut [6] [(4,6),(10,12),(30,56)] .nil .nil))) .nil))))))) .nil)))));have bl:=hP.2.1;refine AA (Ol hp E) ?_;rintro P1 W0 ⟨o0,g0⟩;have a6:DY (λy=>y<w.heap.size) w v p:=hp.sub (λb hb h=>hb) C0 C_;obtain⟨pa,pc,rfl,_⟩:=a6.AK;rw[AO];refine Aa (λvs W=>∃(k:Nat) (X:b_) (x:W_),k<=p.length/\vs=[X,zIq k]/\MT ks p (p.take k)=some x/\bo ks p x/\AB w.heap.size 80 6 CO W X x/\AG w W) (λvs _=>p.length-Da vs 1) ⟨0,P1,p,Lc _,rfl,rfl,⟨hP,K_⟩,o0,g0⟩ ?_;rintro vs W ⟨k,X,x,hk,rfl,hx,hC,ho,g⟩ _;simp only[Ha];refine Cn (λbp=>?_) λbs=>?_;rotate_left;obtain rfl:k=p.length:=E;rw[WL] at hx;unfold Qd;rw[hx];exact⟨g,X,rfl,Al.sub (AB.sl ho) E C0 C_⟩;have V:k<p.length:=E;have J:MT ks p (p.take (k+1))=if p[k].Ar then some x else KT x (En ks p[k].key):=by
  grind[List.take_add_one,WX,gh]
 obtain⟨q,r,rfl,_,hr,hc,rfl⟩:=(a6.S_ g C0 C_).get V;refine AV V (AX hr (by grind[Addr.add_add]) ?_);refine BA (vs:=p[k].cells) rfl rfl (CO.one (w:=w) (x:=p[k]) rfl) λb7 Y bx c4 g4 a7 _=>?_;have Z:AB w.heap.size 80 6 CO Y X x:=AB.T_ ho g4 C_ E';apply fl_i (a7 1 _ rfl);cases hg:p[k].Ar with
 |true=>
  rw[hg,Ix rfl] at J;apply Ab;rw[AQ,AL E];exact⟨⟨k+1,X,x,V,rfl,J,hC,Z,g.trans g4⟩,by grind[BV]⟩
 |false=>
 rw[hg,By C0] at J;apply AM;apply fl_i (a7 0 _ rfl);refine AA (dM (hS.S_ (g.trans g4)) E p[k].key) ?_;rintro gv U ⟨og,g5⟩;have av:AB w.heap.size 80 6 CO U X x:=AB.T_ Z g5 C_ E';have gin:∀o∈En ks p[k].key,∃k∈ks,k.id=o:=by grind[OU]
 have c6:=dL (ks:=ks) (id:=p[k].key);have zW:=g.size;have a8:Al (λy=>Y.heap.size<=y/\y<U.heap.size) 1 Ew U gv (En ks p[k].key):=Al.sub (AB.sl og) E C0 C_;generalize En ks p[k].key=G at *;obtain⟨ga,gc,rfl,_⟩:=a8.AK;rw[AO];have al:∀b,X.ownBlock=some b->b<Y.heap.size:=λb hb=>(AB.Am Z b hb).2;refine Aa (λvs W=>∃(m:Nat) (j:b_) (y:W_),m<=G.length/\vs=[j,zIq m]/\KT x (G.take m)=some y/\bo ks p y/\AB w.heap.size 80 6 CO W j y/\AG w W/\Al (λy=>Y.heap.size<=y/\y<U.heap.size) 1 Ew W (.slice ga G.length gc) G/\(∀b,j.ownBlock=some b->b<Y.heap.size\/U.heap.size<=b)/\U.heap.size<=W.heap.size) (λvs _=>G.length-Da vs 1) ⟨0,X,x,Lc _,rfl,rfl,hC,av,(g.trans g4).trans g5,a8,B_,DN _⟩ ?_;rintro vs W ⟨m,j,y,hm,rfl,hy,N,a1,gW,ax,ay,KM⟩ _;simp only[HK,aAc];refine Cn (λbb=>?_) λbk=>?_;rotate_left;obtain rfl:m=G.length:=E;rw[WL] at hy;rw[hy] at J;rw[AQ,AL E];exact⟨⟨k+1,j,y,V,rfl,J,N,a1,gW⟩,by grind[BV]⟩;have O:m<G.length:=E;have I:KT x (G.take (m+1))=Ua y G[m]:=by
  rw[No,Hc O,WC,hy];exact ie
 refine AT (λvs W'=>∃(j:b_) (y:W_),vs=[j]/\KT x (G.take (m+1))=some y/\bo ks p y/\AB w.heap.size 80 6 CO W' j y/\AG w W'/\Al (λy=>Y.heap.size<=y/\y<U.heap.size) 1 Ew W' (.slice ga G.length gc) G/\(∀b,j.ownBlock=some b->b<Y.heap.size\/U.heap.size<=b)/\U.heap.size<=W'.heap.size) ?_ ?_;rintro vs W' ⟨b0,y2,rfl,h1,h2,h3,h4,h5,h6⟩ _;rw[AQ,AL E];simp only[HK];exact⟨⟨m+1,b0,y2,O,rfl,h1,h2,h3,h4,h5,h6⟩,by rw[BV,BV];omega⟩;obtain⟨q2,r2,rfl,_,c7,b6,rfl⟩:=ax.get O;refine AV O (AI (by have:=b6 0 _ rfl;exact this) ?_);have c8:=N.uL.2.1;refine AA (uf (AB.sl a1) N.uL.1 E) ?_;rintro _ W7 ⟨g7,i,b,rfl,hf⟩;apply BD;have Q:AB w.heap.size 80 6 CO W7 j y:=AB.T_ a1 g7 C_ E';have aa:Al (λy=>Y.heap.size<=y/\y<U.heap.size) 1 Ew W7 (.slice (some q2) G.length gc) G:=by grind[Al.S_]
 unfold Ua at I;cases b with
 |true=>
  obtain⟨hi,e⟩:=rf hf N.uL.1;rw[e] at I;dsimp only at I;apply Ab;obtain⟨ya,yc,b8,_⟩:=AB.AK Q;subst b8;obtain⟨q3,r3,rfl,_,c9,b9,rfl⟩:=(AB.sl Q).get hi;apply AV hi;rw[AE,Addr.add_add];apply AI (b9 1 _ rfl);rw[Aj];cases ak:y[i].Ar with
  |false=>
   rw[ak] at I;apply Ab;have hn:Qd ks p=none:=dZ (k+1) (by rw[J];exact cL (m+1) (by rw[I];rfl));grind[AF.trans]
  |true=>
   rw[ak] at I;apply AM;rw[Aj];apply AM;exact⟨_,y,rfl,I,N,Q,gW.trans g7,aa,ay,by have:=g7.size;omega⟩
 |false=>
  have ba:MR y G[m]=none:=HV hf.none;rw[ba] at I;apply AM;rw[Aj];apply Ab;have zw:=gW.size;have z7:=g7.size;refine sH Q E E hf λv' W8 o8 m8 n8=>?_;refine⟨v',_,rfl,I,?_,o8,(gW.trans g7).next m8 λb hb e=>by have:=(AB.Am Q b e).1;omega,aa.T_ m8 (λb hb h e=>?_) C0 C_,λb hb=>?_,by have:=m8.size;omega⟩;exact Zt an N (gin _ (S7 O)) (by grind[Ua]);grind;grind
def Mx(ks:X')(ty j:V_)(r:Int):Dop:=⟨2,0,[r],if r=10 then eW ks j else ty,[]⟩
def IG(ks:X')(p:Int)(l:V')(ty j:V_):U':=⟨1,p,[],[],[]⟩::l.map (Mx ks ty j)
def bQ(x:U')(o:Dop):BE (x++[o])=BF (BE x) o:=by grind[BE]
def gI{A_ S S1 S2 S3:d_}{sv lv av rv nv:b_}{p:Int}{l:V'}{left right j:V_}(hS:CG A_ w sv ks)(hl:LQ S w lv l) (h1:Bo S1 w av left)(h2:Bo S2 w rv right)(h3:Bo S3 w nv j)(b1:left.length<=10000)(b2:right.length<=10000)(b3:j.length<=1000000)(Z:Dg left)(hm:Av (IG ks p l (Zc ks left right) j)<=68719476736) : l_ 49 [sv,zIq p,lv,av,rv,nv] (λv' w'=>Bs w.heap.size w' v' (BJ (IG ks p l (Zc ks left right) j))/\AG w w') w:=by
 refine R_ func49 ?_ (.y (.y (.y (.y (.x (.y (.node [32] [(17,18),(32,45)] (.y (.y (.x (.y (.y (.cut [18] [(18,18),(37,39)] .nil .nil)))))) .nil)))))));have ax:CG (λy=>y<w.heap.size) w sv ks:=hS.sub λb hb h=>hb;have a1:LQ (λy=>y<w.heap.size) w lv l:=hl.sub (λb hb h=>hb) C0 C_;have ay:Bo (λy=>y<w.heap.size) w av left:=h1.sub (λb hb h=>hb) C0 C_;have b0:Bo (λy=>y<w.heap.size) w rv right:=h2.sub (λb hb h=>hb) C0 C_;have b6:Bo (λy=>y<w.heap.size) w nv j:=h3.sub (λb hb h=>hb) C0 C_;apply AA Lw;rintro _ w1 ⟨g1,b,bp,bs,rfl,bx⟩;have a6:El (λy=>w.heap.size<=y) w1 b MkS.z:=by grind[El.sub]
 refine AA (EI (n:=p) (p:=[]) (S:=λ_=>False) a6 Al.nil L_ C0 E_) ?_;rintro _ U ⟨b7,m2⟩;have z1:=g1.size;have z2:=m2.size;have O:AG w U:=by grind[AF.next]
 have a7:=ax.S_ O;refine AA (mE a7 (ay.S_ O C0 C_) (b0.S_ O C0 C_) b1 b2 Z) ?_;rintro tv w3 ⟨o3,g3⟩;generalize Zc ks left right=I at *;refine AA (nA (a7.S_ g3) ((b6.S_ O C0 C_).S_ g3 C0 C_) b3) ?_;rintro X N ⟨o4,g4⟩;have z3:=g3.size;have z4:=g4.size;have b8:=O.trans (g3.trans g4);have t3:Bo (λy=>U.heap.size<=y/\y<N.heap.size) N tv (I):=(o3.S_ g4 C0 C_).sub E C0 C_;have t4:Bo (λy=>U.heap.size<=y/\y<N.heap.size) N X (eW ks j):=(AB.sl o4).sub E C0 C_;have a8:El (λy=>w.heap.size<=y/\(y<U.heap.size\/N.heap.size<=y)) N b (FM MkS.z p []):=(b7.lt.T_ (g3.trans g4) C_).sub E;have ex:∀k,BE ((IG ks p l I j).take (k+1))=((l.take k).map (Mx ks I j)).foldl BF (FM MkS.z p []):=by
  intro k;unfold BE IG;rw[aAX,aAg,aAI];rfl
 have e0:FM MkS.z p []=BE ((IG ks p l I j).take 1):=(ex 0).symm;rw[e0] at a8;have c4:l.length+1<=Av (IG ks p l I j):=by have:=Bi (IG ks p l I j);simpa[IG] using this
 obtain⟨a,c,rfl,_⟩:=a1.AK;rw[AO];apply Aa (λvs W=>∃k:Nat,k<=l.length/\vs=[zIq k]/\El (λy=>w.heap.size<=y/\(y<U.heap.size\/N.heap.size<=y)) W b (BE ((IG ks p l I j).take (k+1)))/\AF (λy=>w.heap.size<=y/\(y<U.heap.size\/N.heap.size<=y)) N W) (λvs _=>l.length-Da vs 0) ⟨0,Lc _,rfl,a8,AF.refl _ _⟩;rintro vs W ⟨k,hk,rfl,hI,g⟩ _;simp only[Bh,HK];refine Cn (λc6=>?_) λc7=>?_;rotate_left;obtain rfl:k=l.length:=E;rw[aAZ (by simp[IG])] at hI;have c8:=II (IG ks p l I j);refine AA (LR hI E) ?_;rintro v5 w5 ⟨aa,g5⟩;have z:=g.size;refine⟨AB.T_ (AB.BY aa λg hg=>by have:=(AB.Am aa g hg).1;omega) j0 C_ λr x _ hx=>hx.T_ j0 E' B_,?_⟩;exact(b8.next g λx hx e=>by have:=e.1;omega).trans g5;have Q:k<l.length:=E;have zW:=g.size;have b9:AG w W:=by grind[AF.next]
 obtain⟨q,r,rfl,_,hr,hc,rfl⟩:=(a1.S_ b9 C0 C_).get Q;refine AV Q (AI (by have:=hc 0 _ rfl;exact this) ?_);refine AT (λvs J=>∃V,vs=[V]/\J=W/\Bo (λy=>U.heap.size<=y/\y<N.heap.size) W V (Mx ks I j l[k]).set) ?_ ?_;rotate_left;refine eqP (λhe=>?_) λhe=>?_;refine⟨X,rfl,rfl,?_⟩;show Bo _ W X (if l[k]=10 then eW ks j else I);rw[Ix he];exact Al.T_ t4 g E C0 C_;refine⟨tv,rfl,rfl,?_⟩;show Bo _ W tv (if l[k]=10 then eW ks j else I);rw[By he];exact Al.T_ t3 g E C0 C_;rintro vs J ⟨V,rfl,rfl,ak⟩ _;simp only[HK];refine ET (CY (v:=.int .i32 l[k]) (vs:=[.int .i32 l[k]]) (k:=1) rfl C0 rfl rfl) ?_;have ga:AG J (J.alloc (.cells [Value.int .i32 l[k]].toArray 21)):=AF.alloc _ _ _;have ho:AB J.heap.size 21 1 Bk (J.alloc (.cells [Value.int .i32 l[k]].toArray 21)) (.slice (f_ J.heap.size) 1 1) [l[k]]:=AB.KU (DN _) rfl (λu hu=>by simp at hu;subst hu;rfl) rfl;have c9:=ga.size;have ba:El (λy=>(w.heap.size<=y/\(y<U.heap.size\/N.heap.size<=y))/\y<J.heap.size) (J.alloc (.cells [Value.int .i32 l[k]].toArray 21)) b (BE ((IG ks p l I j).take (k+1))):=by grind[El.lt,El.T_]
 have bb:LQ (λy=>(U.heap.size<=y/\y<N.heap.size)\/y=J.heap.size) (J.alloc (.cells [Value.int .i32 l[k]].toArray 21)) (.slice (f_ J.heap.size) 1 1) [l[k]]:=Al.sub (AB.sl ho) (λx hx h=>.inr (by have:=h.2;simp only[Value.ownBlock,gn] at this;exact this.symm)) C0 C_;have al:Bo (λy=>(U.heap.size<=y/\y<N.heap.size)\/y=J.heap.size) (J.alloc (.cells [Value.int .i32 l[k]].toArray 21)) V (Mx ks I j l[k]).set:=(ak.S_ ga C0 C_).sub (λ_ _ h=>.inl h) C0 C_;have ca:=II ((IG ks p l I j).take (k+1));have bk:=Lx (IG ks p l I j) (k+1);have cc:=Bi (BE ((IG ks p l I j).take (k+1))).Aq;have an:Mx ks I j l[k]∈IG ks p l I j:=aAi _ (WJ.2 ⟨l[k],S7 Q,rfl⟩);have cq:=FH an;have cu:(Mx ks I j l[k]).set.length<=JS (Mx ks I j l[k]).set:=by rw[JC];omega
 have bl:JS (Mx ks I j l[k]).set<=EN (Mx ks I j l[k]):=by grind[EN]
 refine AA (ID ba bb al E E (λo ho=>?_) E_ E) ?_;have h1:=FH ho;simp only[EN] at h1;simp only[aAw];omega;rintro _ W3 ⟨h3,m3⟩;rw[AQ,AL E];refine⟨⟨k+1,Q,rfl,?_,?_⟩,by grind[DW]⟩;have e1:(IG ks p l I j).take (k+1+1)=(IG ks p l I j).take (k+1)++[Mx ks I j l[k]]:=by
  rw[No (i:=k+1)];congr 1;simp[IG,Hc Q]
 rw[e1,bQ];exact h3.sub λy Y=>by rcases Y with Y|Y;(exact Y.1);(exact⟨E,.inr E⟩)
 exact(g.trans (ga.mono G_)).trans (m3.mono λy _ Y=>Y.1)
def Nk{ok:Nat->Bool}{g:Nat}(j:ok g=true)(h:AD P g (args++cs) K w):Co P ok (.func (.func g) #[] cs.toArray) args K w:=.inl ⟨g,[],cs,rfl,j,by simpa using h⟩
section
variable {S D A_:d_}{v sv:b_}{d:Y_}{ks:X'}{w:c_}
def qn{p:Cel->Bool}{J:b_}(h:Be S D w v d)(N:∀W r c (K:Cont),c∈d->AG w W->Ky D W r c->(∀W',AG W W'->K (.bool (p c)) W')->Co prog EP J [.agg r.toArray] K W) : l_ 319 [v,J] (λv' w'=>v'=.bool (d.any p)/\AG w w') w:=by
 refine H_ func319 ?_;refine AA (K:=λv' w'=>AG w w'/\∃z:Int,v'=zIq z/\(0<=z↔d.any p=true)) ?_ ?_;rotate_left;rintro _ w' ⟨g,z,rfl,X⟩;rw[JP];exact B_;refine H_ func365 ?_ (.y (.x (.y (.node [8] [(4,5),(8,18)] .nil .nil))));obtain⟨a,c,rfl,I⟩:=h.AK;simp only[maxLen] at I;rw[AO];apply Aa (λvs W=>∃i:Nat,i<=d.length/\vs=[zIq i]/\AG w W/\(d.take i).any p=false) (λvs _=>d.length-Da vs 0) ⟨0,Lc _,rfl,AF.refl _ _,rfl⟩;rintro vs W ⟨i,hi,rfl,g,Y⟩ _;rw[Bh,HK];refine Cn (λO=>?_) λQ=>?_;rotate_left;obtain rfl:i=d.length:=E;grind;have j:i<d.length:=E;obtain⟨q,r,rfl,_,hr,hc,U⟩:=(h.S_ g).get j;refine AV j (AX hr (by grind[Addr.add_add]) ?_);refine N W r d[i] _ (S7 j) g U λW' V=>?_;cases hp:p d[i] with
 |true=>exact Ab (by grind[AF.trans])
 |false=>
  apply AM;rw[AQ,AL E];exact⟨⟨i+1,j,rfl,g.trans V,by grind[List.take_add_one]⟩,by grind[DW]⟩
structure S0 (ks:X') (d:Y_):Prop where
 len:1<=d.length/\d.length<=536870912
 cel:∀c∈d,DZ c.r/\E3 ks c.set
 LW:(BK d).getLast?=some 10
 part:∀c∈d,EM ks (!decide (c.r=10)) c.set=[]
def ZV(hS:CG A_ w sv ks)(h:Be S D w v d)(hT:CH w)(hI:∀c∈d,∀a∈c.set,0<=a.val.f) : l_ 254 [sv,v] (λv' w'=>AG w w'/\((S0 ks d/\v'=zIq 0)\/(¬S0 ks d/\∃c:Int,c≠0/\v'=zIq c))) w:=by
 classical
 refine H_ func254 ?_ (.y (.y (.x (.cut [7] [(7,15)] .nil .nil))));have a6:sv.cells=#[sv]:=by
  obtain⟨b,m,kv,l,rfl,_⟩:=hS;rfl
 have a7:v.cells=#[v]:=by
  obtain⟨a,c,rfl,_⟩:=h.AK;rfl
 have al:d.length<=maxLen:=by
  grind[Al.AK]
 refine DV a6 λb2 w1 an g1 B2=>DV a7 λb3 w2 av g2 X=>?_;have j:=g1.trans g2;have O:=B2.S_ g2;have any:∀{p:Cel->Bool} {f:Nat} {W:c_} {K:Cont},EP f=true->AG w2 W->(∀W r c (K:Cont),c∈d->AG w2 W->Ky D W r c->(∀V,AG W V->K (.bool (p c)) V)->l_ f [.agg r.toArray,e_ b2] K W)->(∀V,AG w2 V->K (.bool (d.any p)) V)->Co prog EP (.func (.func 318) #[] #[e_ b3]) [.func (.func f) #[] #[e_ b2]] K W:=λ{p f W K} a8 g hf hK=>by
  refine Nk (cs:=[e_ b3]) D_ ?_;refine H_ func318 ?_;apply AI ((X.S_ g).cells 0 _ rfl);refine AA (qn (p:=p) (h.S_ (j.trans g)) λV r c K' hc g' hr aa=>?_) ?_;exact Nk (cs:=[e_ b2]) a8 (hf V r c K' hc (g.trans g') hr aa);grind[AF.trans]
 have no:∀{p:Cel->Bool} {c0:Int} {W:c_},AG w2 W->(∀c∈d,p c=true->¬S0 ks d)->c0≠0->d.any p=true->AG w W/\((S0 ks d/\zIq c0=zIq 0)\/(¬S0 ks d/\∃c:Int,c≠0/\zIq c0=zIq c)):=by grind[AF.trans]
 refine AT (λvs W=>w2=W/\vs=[.bool (decide (d.length<1\/536870912<d.length))]) ?_ ?_;rotate_left;apply AI (X.cells 0 _ rfl);obtain⟨a,c,rfl,_⟩:=h.AK;rw[AO];refine Cn (λe=>⟨rfl,by rw[ys (.inl E)]⟩) λe1=>?_;apply AI (X.cells 0 _ rfl);rw[AO,Hj];refine⟨rfl,?_⟩;have e:((536870912:Int)<(d.length:Int))↔(d.length<1\/536870912<d.length):=E;rw[aBo.2 e];rintro _ _ ⟨rfl,rfl⟩ _;rw[Bh,HK];refine Ae (by grind[S0.len]) λY=>?_;refine any (p:=λc=>decide (¬DZ c.r\/CD ks c.set=3)) D_ (AF.refl _ _) (λW r c K hc g hr hK=>?_) λw3 g3=>?_
 .refine H_ func320 ?_;refine Bx.box (vs:=r) λb W1 hb I B=>?_;obtain⟨Q,rfl,Z⟩:=hr.T_ I E' C_;apply fl_i (B.cells 0 _ rfl);apply AA XA;rintro _ _ ⟨rfl,rfl⟩;rw[Aj];refine BM (λhm=>?_) λhm=>?_;rotate_left;grind;have J:=g.trans I;apply AI ((O.S_ J).cells 0 _ rfl);apply fl_i (B.cells 1 _ rfl);apply AA (QU (hS.S_ (j.trans J)) Z (hT.S_ (j.trans J)) (hI c hc));rintro _ W2 ⟨rfl,U⟩;rw[CI];grind[AF.trans]
 cases ha:d.any (λc=>decide (¬DZ c.r\/CD ks c.set=3)) with
 |true=>exact Ab (by grind[S0.cel,FC])
 |false=>
 apply AM;refine any (p:=λc=>!decide (CD ks c.set=0)) D_ g3 (λW r c K hc g hr hK=>?_) λw4 g4=>?_;refine H_ func322 ?_;refine Bx.box (vs:=r) λb W1 hb I B=>?_;obtain⟨Q,rfl,Z⟩:=hr.T_ I E' C_;have J:=g.trans I;apply AI ((O.S_ J).cells 0 _ rfl);apply fl_i (B.cells 1 _ rfl);apply AA (QU (hS.S_ (j.trans J)) Z (hT.S_ (j.trans J)) (hI c hc));rintro _ W2 ⟨rfl,U⟩;rw[FQ];grind[AF.trans];cases hb:d.any (λc=>!decide (CD ks c.set=0)) with
 |true=>exact Ab (by grind[FC,S0.cel])
 |false=>
 apply AM;have N:∀c∈d,DZ c.r/\E3 ks c.set:=by grind[FC]
 apply AI ((X.S_ g4).cells 0 _ rfl);apply AI ((X.S_ g4).cells 0 _ rfl);obtain⟨i,hi,el⟩:∃i,∃hi:i<d.length,d.length=i+1:=⟨d.length-1,E,E⟩;have hL:(BK d).getLast?=some d[i].r:=by
  grind
 obtain⟨a,c,rfl,_⟩:=h.AK;rw[AO,A6,wrap64 E E,show((d.length:Int)-1)=(i:Int) by omega];obtain⟨q,r,rfl,_,hr,hc,Q,rfl,_⟩:=(h.S_ (j.trans g4)).get hi;apply AV hi;rw[AE,Addr.add_add];apply AI (hc 0 _ rfl);refine neP (λa1=>?_) λa1=>⟨j.trans g4,.inr ⟨(by grind[S0.LW]),6,C0,rfl⟩⟩;refine any (p:=λc=>decide ((0:Int)<(EM ks (!decide (c.r=10)) c.set).length)) D_ g4 (λW r c K hc g hr hK=>?_) λw5 g5=>?_;refine H_ func323 ?_;refine Bx.box (vs:=r) λb W1 hb I B=>?_;obtain⟨Q,rfl,Z⟩:=hr.T_ I E' C_;have J:=g.trans I;apply AI ((O.S_ J).cells 0 _ rfl);apply fl_i (B.cells 1 _ rfl);apply fl_i (B.cells 0 _ rfl);rw[FQ];have Y:=(N c hc).2.2.1;refine AA (Nu (hS.S_ (j.trans J)) Z E) ?_;rintro pv W2 ⟨ak,U⟩;obtain⟨pa,pc,rfl,_⟩:=ak.AK;rw[AO,Hj];exact hK _ (I.trans U);cases hq:d.any (λc=>decide ((0:Int)<(EM ks (!decide (c.r=10)) c.set).length)) with
 |true=>exact Ab (no g5 (by grind[S0.part]) C0 hq)
 |false=>
 refine AM ⟨j.trans g5,.inl ⟨⟨E,N,by rw[hL,a1],λc hc=>?_⟩,rfl⟩⟩;have h1:=List.any_eq_false.1 hq c hc;simp only[ub] at h1;exact Of E
def fC(I:CG A_ w sv ks)(h:Be S D w v d)(J:CH w)(j:Ig ks d)(hC:∀c∈d,Nv ks c)(hp:1<=d.length)(hl:d.length<=536870912) : l_ 254 [sv,v] (λv' w'=>v'=zIq 0/\AG w w') w:=by
 apply AA (ZV I h J λc hc a ha=>((j.set c hc).2 a ha).2.2.2.1.1);rintro _ w' ⟨g,⟨_,rfl⟩|⟨N,_⟩⟩;grind;exact(N ⟨⟨hp,hl⟩,λc hc=>⟨(hC c hc).1,(j.set c hc).1⟩,j.LW,λc hc=>aBY.2 λa ha=>by rw[WD ((hC c hc).2 a ha)];decide⟩).elim
end
def I6(f:Int):List (Int×W_)->U'
 |[]=>[]
 |a::l=>⟨1,a.1-f,[],[],[]⟩::⟨1,1,[],[],a.2⟩::I6 (a.1+1) l
def Qo(s:MkS×Int)(a:Int×W_):MkS×Int:=(FM (FM s.1 (a.1-s.2) []) 1 a.2,a.1+1)
def Va:∀(l:List (Int×W_)) (s:MkS×Int),(l.foldl Qo s).1=(I6 s.2 l).foldl BF s.1:=by
 intro l;induction l with
 |nil=>intro s;rfl
 |cons a l j=>
  intro s;rw[aAg,j,I6,aAg,aAg];rfl
theorem bL:∀(l:List (Int×W_)) (f:Int) (k:Nat),I6 f (l.take k)=(I6 f l).take (2*k):=by
 intro l;induction l with
 |nil=>grind[I6]
 |cons a l j=>
  intro f k;cases k<;>grind[I6]
def TI{l:List (Int×W_)}(ha:Al S 1 Ew w v (l.map (·.1)))(hb:∀a∈l,0<=a.1/\a.1<=1099511627776)(hp:∀a∈l,a.2.length<=1000000)(hm:Av (I6 0 l)<=68719476736) (hf:∀W (k:Nat) (hk:k<l.length) (K:Cont),AG w W->(∀pv W',AG W W'->DY (λy=>y<w.heap.size\/W.heap.size<=y) W' pv (l[k]).2->K pv W')->Co prog EP sv [zIq (k:Int)] K W) : l_ 124 [v,sv] (λv' w'=>Bs w.heap.size w' v' (BJ (I6 0 l))/\AG w w') w:=by
 refine H_ func124 ?_ (.y (.y (.y (.x (.y (.node [6,12] [(6,8),(12,29)] .nil .nil))))));have N:Al (λy=>y<w.heap.size) 1 Ew w v (l.map (·.1)):=Al.sub ha (λb hb h=>hb) C0 C_;obtain⟨aa,ac,rfl,O⟩:=N.AK;simp only[maxLen,Nn] at O;apply AA Lw;rintro _ w1 ⟨g1,b,ak,al,rfl,an⟩;have Q:El (λy=>w.heap.size<=y) w1 b MkS.z:=by grind[El.sub]
 rw[AO,Nn];have tJ:∀k,Av (((l.take k).foldl Qo (MkS.z,0)).1).done+Av (((l.take k).foldl Qo (MkS.z,0)).1).Aq<=137438953472:=λk=>by
  rw[Va];have h1:=II (I6 0 (l.take k));grind[Lx,bL,BE]
 refine Aa (λvs W=>∃k:Nat,k<=l.length/\vs=[zIq ((l.take k).foldl Qo (MkS.z,0)).2,zIq k]/\El (λy=>w.heap.size<=y) W b ((l.take k).foldl Qo (MkS.z,0)).1/\AG w W/\0<=((l.take k).foldl Qo (MkS.z,0)).2/\((l.take k).foldl Qo (MkS.z,0)).2<=1099511627777) (λvs _=>l.length-Da vs 1) ⟨0,Lc _,rfl,Q,g1,Int.le_refl 0,show(0:Int)<=1099511627777 by decide⟩ ?_;rintro vs W ⟨k,hk,rfl,Y,g,f0,f1⟩ _;simp only[Ha];refine Cn (λax=>?_) λay=>?_;rotate_left;obtain rfl:k=l.length:=E;have bk:=tJ l.length;rw[WL] at Y bk;refine AA (LR Y E) ?_;rintro v5 w5 ⟨J,g5⟩;have z:=g.size;rw[Va] at J;exact⟨AB.T_ (AB.BY J λg hg=>by have:=(AB.Am J g hg).1;omega) j0 C_ λr x _ hx=>hx.T_ j0 E' B_,g.trans g5⟩;have j:k<l.length:=E;have I:=S7 j;obtain⟨b0,b1⟩:=hb _ I;have b6:=hp _ I;have bk:=tJ k;have U:=tJ (k+1);have V:(l.take (k+1)).foldl Qo (MkS.z,0)=Qo ((l.take k).foldl Qo (MkS.z,0)) l[k]:=by rw[No,Hc j,aAj];rfl
 rw[V] at U;obtain⟨q,r,rfl,_,hr,hc,X⟩:=(Al.S_ N g C0 C_).get (i:=k) B_;rw[aBZ] at X;subst X;generalize (l.take k).foldl Qo (MkS.z,0)=sf at *;obtain⟨s,f⟩:=sf;simp only at Y f0 f1 bk U;refine AV j (AI (by have:=hc 0 _ rfl;exact this) ?_);rw[A6,wrap64 E E];have l1:=Bi s.done;have l2:=Bi s.Aq;have zW:=g.size;refine AA (EI (n:=l[k].1-f) (p:=[]) (S:=λ_=>False) Y Al.nil L_ E E_) ?_;rintro _ W2 ⟨a1,m2⟩;have g2:AG w W2:=by grind[AF.next]
 have z2:=m2.size;refine hf W2 k j _ g2 λpv W3 g3 a6=>?_;have a7:El (λx=>(w.heap.size<=x\/W.heap.size<=x)/\x<W2.heap.size) W3 b (FM s (l[k].1-f) []):=a1.lt.T_ g3 C_;have dl:(FM s (l[k].1-f) []).done.length+(FM s (l[k].1-f) []).Aq.length<=s.done.length+s.Aq.length+2:=by
  unfold FM;split;omega;have e1:(GI (s.done++BS s.Aq s.Ar) (l[k].1-f) []).length<=(s.done++BS s.Aq s.Ar).length+1:=by
   unfold GI;split;split<;>simp<;>omega;simp<;>omega
  have e2:(BS s.Aq s.Ar).length<=s.Aq.length+1:=by unfold BS;split<;>simp
  grind
 refine AA (EI (n:=1) (p:=l[k].2) a7 a6 E E E) ?_;rintro _ W4 ⟨a8,m4⟩;have z3:=g3.size;rw[AQ,wrap64 E E,AQ,AL E];refine⟨⟨k+1,j,by rw[V];rfl,by rw[V];exact a8.sub E,(g2.trans g3).next m4 E,by rw[V];show 0<=l[k].1+1;omega,by rw[V];show l[k].1+1<=_;omega⟩,by rw[BV,BV];omega⟩
def sI{D S Sp:d_}{l:V'}{p q:W_}(V:CG D w sv ks)(ha:Al S 1 Ew w v l)(hp:DY Sp w fr p)(hT:CH w)(X:∀c∈p,0<=c.val.f)(hm:De ks p=0)(I:ks.length<=64)(hq:Qd ks p=some q)(hb:∀a∈l,0<=a/\a<=1099511627776)(hd:Av (I6 0 (l.map (·,q)))<=68719476736) : l_ 68 [sv,v,fr] (λv' w'=>AG w w'/\((Cg ks false p≠[]/\∃xv,v'=.tuple #[xv,zIq 7])\/(Cg ks false p=[]/\∃xv,v'=.tuple #[xv,zIq 0]/\Bs w.heap.size w' xv (BJ (I6 0 (l.map (·,q))))))) w:=by
 refine J_ func68 ?_;have Y:=FX.1 hm;have a7:=Y.2.1;apply AA (Ld V hp hT X);rintro _ w1 ⟨rfl,Z⟩;rw[hm];refine neP (λ_=>?_) λe=>(e rfl).elim;refine AA (Le (V.S_ Z) (hp.S_ Z C0 C_) Y I) ?_;rw[hq];rintro _ w2 ⟨g2,qv,rfl,J⟩;apply BD;have z1:=Z.size;have a8:=(QM I Y hq).uL.2.1;obtain⟨qa,qc,rfl,_⟩:=id J.AK;refine Bx.zero λb w3 aa g3 B3=>?_;have z2:=g2.size;refine B3.st (q:=0) (show 0<1 by decide) rfl rfl λw4 B4 m4=>?_;rw[aBx] at B4;have j:AG w w4:=by grind[AF.trans,AF.next]
 have N:DY (λy=>y<w2.heap.size) w4 (.slice qa q.length qc) q:=(Al.T_ ((J.S_ g3 C0 C_).sub (λx U h=>h.2) C0 C_) m4 E C0 C_);refine neP (λ_=>?_) λe=>(e rfl).elim;refine AA (Jt (b:=false) (V.S_ j) (hp.S_ j C0 C_) E) ?_;rintro rv w5 ⟨a1,g5⟩;obtain⟨ra,rc,rfl,_⟩:=id a1.AK;have O:=j.trans g5;rw[AO];refine gtP B_ λh0=>?_;have a6:Cg ks false p=[]:=Of E;have ak:(l.map λa=>(a,q)).map (·.1)=l:=by rw[aBR];exact aDV _
 refine AA (TI (l:=l.map (·,q)) (S:=S) (by grind[Al.S_]) (λa ha=>?_) (λa ha=>?_) hd λW k hk K gW hK=>?_) ?_;obtain⟨x,U,rfl⟩:=WJ.1 ha;grind;obtain⟨x,U,rfl⟩:=WJ.1 ha;grind;refine Nk (cs:=[_]) D_ ?_;refine H_ func125 ?_;have gd:AG w4 W:=g5.trans gW;refine AI ((B4.S_ gd).cells 0 _ rfl) (hK _ W (AF.refl _ _) ?_);rw[aBZ];exact(N.S_ gd C0 C_).sub (λy hy h=>.inl (by have:=g3.size;have:=m4.size;have:=g5.size;omega)) C0 C_;rintro xv w6 ⟨Q,g6⟩;have z5:=O.size;exact⟨O.trans g6,.inr ⟨a6,_,rfl,AB.T_ (AB.BY Q λg hg=>by have:=(AB.Am Q g hg).1;omega) j0 C_ λr x _ U=>U.T_ j0 E' B_⟩⟩
def vW{lv sv:b_}{l:V'}(h:LQ S w lv l)(U:Bo S' w sv s)(hl:l.length<=1000000000)(V:s.length<=64) : l_ 325 [lv,sv] (λv' w'=>G6 w.heap.size w.heap.size w' v' (l.map λr=>(⟨r,s⟩:Cel))/\AG w w') w:=by
 refine H_ func325 ?_ (.y (.y (.x (.y (.node [5,10] [(5,5),(7,7),(10,21)] .nil .nil)))));obtain⟨a,c,rfl,_⟩:=h.AK;rw[AO];apply Aa (λvs W=>∃(i:Nat) (I:b_),i<=l.length/\vs=[I,zIq i]/\G6 w.heap.size w.heap.size W I ((l.take i).map λr=>(⟨r,s⟩:Cel))/\AG w W) (λvs _=>l.length-Da vs 1) ⟨0,_,Lc _,rfl,G6.nil,AF.refl _ _⟩;rintro vs W ⟨i,I,hi,rfl,O,g⟩ _;simp only[Ha];refine Cn (λX=>?_) λY=>?_;rotate_left;grind;have j:i<l.length:=E;obtain⟨p,r,rfl,_,hr,hc,rfl⟩:=(h.S_ g C0 C_).get j;refine AV j (AI (by have:=hc 0 _ rfl;exact this) ?_);apply AA (GL (U.S_ g C0 C_) E);rintro v1 Z ⟨Q,J⟩;have z:=g.size;have z1:=J.size;have a1:∀b,I.ownBlock=some b->w.heap.size<=b/\b<W.heap.size:=λb e=>by
  obtain⟨_,q,_⟩:=O;grind[AB.Am]
 obtain⟨a4,k4,e4,_⟩:=AB.AK Q;refine⟨#[.int .i32 l[i],v1],by subst e4;kernel_rfl,?_⟩;refine Od (c:=⟨l[i],s⟩) (D':=λx=>W.heap.size<=x/\x<Z.heap.size) (O.S_ J) E ((AB.sl Q).sub E C0 C_) B_ B_ λN W' h' m' _=>?_;rw[AQ,AL E];refine⟨⟨i+1,N,j,rfl,?_,(g.trans J).next m' B_⟩,by grind[BV]⟩;grind[List.take_add_one]
def fq{S D:d_}(h:Be S D w v d)(hl:d.length<=1000000000)(hs:∀c∈d,c.set.length<=64) : l_ 327 [v] (λv' w'=>G6 w.heap.size w.heap.size w' v' d/\AG w w') w:=by
 refine I_ func327 ?_ (.y (.y (.x (.y (.node [9] [(4,4),(9,22)] .nil .nil)))));have h':Be S (λb=>D b/\b<w.heap.size) w v d:=h.sub C_ C0 λr x hx=>hx.T_ j0 E' B_;refine AA (K:=λv' w'=>AB w.heap.size 49 2 (Ky λb=>D b/\b<w.heap.size) w' v' d/\AG w w') ?_ ?_;refine I_ func367 ?_;exact L4 Wk h' E (by grind[Ky.one]) (λw1 w2 r y hz hm hy=>hy.T_ hm E C_) λv' w' h1 h2=>And.intro h1 h2;rintro v1 w1 ⟨Z,g1⟩;obtain⟨a1,c1,rfl,b0,b6,hp,hn⟩:=AB.AK Z;rw[AO];cases a1 with
 |none=>
  have:=hn rfl;subst this;apply Aa (λvs w2=>vs=[zIq 0]/\w2=w1) (λ_ _=>0) ⟨rfl,rfl⟩;rintro vs _ ⟨rfl,rfl⟩ _;rw[Bh,HK];exact Cn (λh=>by simp at h) λ_=>⟨⟨λ_=>False,AB.T_ Z j0 C_ B_,L_⟩,g1⟩
 |some p1=>
  obtain⟨g,rfl,b7,b8,_⟩:=hp _ rfl;refine Aa (λvs O=>∃i:Nat,i<=d.length/\vs=[.int .i64 i]/\AB w.heap.size 49 2 (λ_ _ _=>True) O (.slice (f_ g) d.length c1) d/\AF (λb=>b=g) w1 O/\(∀j (h1:j<d.length),i<=j->∃sv,O.cell? ⟨g,j*2+1,none⟩=some sv/\Bo (λb=>D b/\b<w.heap.size) O sv d[j].set)/\(∀j (h1:j<d.length),O.cell? ⟨g,j*2,none⟩=some (.int .i32 d[j].r))/\∀j (h1:j<d.length),j<i->∃sv,O.cell? ⟨g,j*2+1,none⟩=some sv/\Bo (λb=>w.heap.size<=b/\b<O.heap.size/\b≠g) O sv d[j].set) (λvs _=>d.length-Da vs 0) ⟨0,Lc _,rfl,Z.any,AF.refl _ _,λj h1 _=>?_,λj h1=>?_,E⟩ ?_;obtain⟨r,hr,a6,⟨sv,rfl,al⟩,_⟩:=AB.cellsOf Z h1;grind;obtain⟨r,hr,a6,⟨sv,rfl,al⟩,_⟩:=AB.cellsOf Z h1;exact a6 0 _ rfl;rintro vs W ⟨i,hi,rfl,oA,mA,Ao,a7,N⟩ _;rw[Bh,HK,DX];have zA:=mA.size;refine Ae (λb9=>?_) λba=>?_;rotate_left;obtain rfl:i=d.length:=E;refine⟨⟨λb=>w.heap.size<=b/\b<W.heap.size/\b≠g,AB.conv oA λj hj r an J a8=>?_,B_⟩,(by grind[AF.next])⟩;obtain⟨sv,hc,Q⟩:=N j hj hj;match r,an with
  |[u0,u1],_=>
   have e0:=(a8 0 u0 rfl).symm.trans (a7 j hj);have e1:=(a8 1 u1 rfl).symm.trans hc;cases e0;cases e1;exact⟨_,rfl,Q⟩
  have I:i<d.length:=E;obtain⟨sv,hc,Q⟩:=Ao i I (DN _);apply AV I;rw[AH,AE,FI];apply AI hc;apply AA (GL Q B_);rintro Y V ⟨oS,X⟩;obtain⟨aa,av⟩:=oS.one;have z4:=X.size;apply AV I;rw[AH,AE,FI];have ak:AB w.heap.size 49 2 (λ_ _ _=>True) V (.slice (f_ g) d.length c1) d:=AB.T_ oA X C_ λ_ _ _ _=>trivial;obtain⟨_,_,_,_,bb⟩:=AB.cellsOf ak I;apply Bg.st B_ aa av;have m5:=P8 V g (i*2+1) Y;have z5:=m5.size;rw[AQ,AL E];refine⟨⟨i+1,I,rfl,AB.O8 ak I (j:=1) C0 aa,(mA.next X G_).next m5 C_,λj h1 h2=>?_,λj h1=>?_,λj h1 h2=>?_⟩,by rw[DW,DW];omega⟩;obtain⟨U,ax,J⟩:=Ao j h1 E;refine⟨U,?_,(J.S_ X C0 C_).T_ m5 E C0 C_⟩;rw[S9 V _ _ Y B_];grind[AF.cell];rw[S9 V _ _ Y B_];grind[AF.cell];by_cases ay:j=i;subst ay;refine⟨Y,vk V _ Y (X.cell hc F_),(((AB.sl oS).sub (S':=λb=>w.heap.size<=b/\b<V.heap.size/\b≠g) E C0 C_).T_ m5 E C0 C_).sub E C0 C_⟩;obtain⟨U,ax,J⟩:=N j h1 E;refine⟨U,?_,((J.S_ X C0 C_).T_ m5 E C0 C_).sub E C0 C_⟩;rw[S9 V _ _ Y B_];grind[AF.cell]
section
variable {w:c_}{sv dv xv:b_}{ks:X'}{d:Y_}{x:U'}{A_ Sd Dd Sx Dx Rd:d_}{b3 b4 b5:Nat}
def fD(hS:CG A_ w sv ks)(hd:Be Sd Dd w dv d)(hx:Ag Sx Dx w xv x)(B3:Bx w b3 [sv])(B4:Bx w b4 [dv])(B5:Bx w b5 [xv]) (hR:∀y,y<w.heap.size->(A_ y\/Sd y\/Dd y\/Sx y\/Dx y\/y=b3\/y=b5)->Rd y)(h4:∀y,Rd y->y≠b4/\y<w.heap.size) (hg:∀o∈x,An ks o/\Ah o<=536870912)(ht:BG x<=d.length)(dr:∀c∈d,c.set.length<=64)(gW:d.length<=536870912) : re (λy=>y=b4) (λy=>y=b4) prog 324 [e_ b5,e_ b4,e_ b3] (λk N W a=>∃(r:U_) (c:Cel),a=[.agg r.toArray]/\(Bz ks d x)[k]?=some c/\Ky (λy=>N y/\y≠b4) W r c) (Bz ks d x).length Rd w:=by
 intro yl J Jx w1 g1 h0 dz gO QI bx;refine N_ func324 ?_ (.z (.y (.node [14] [(6,7),(9,9),(14,56)] (.y (.y (.x (.y (.y (.cut [7] [(7,7),(18,40)] (.y (.y (.y (.y (.x (.dt [3,7,9] (i_ [0,0,2,7,0,0,32,112,15,511]) [[3]] (.op 0 (.op 1 (.op 2 (.op 4 (.op 5 (.op 6 (.br (.op 3 (.op 8 (.op 7 (.op 9 .nil)))) (.op 7 (.op 3 (.op 8 (.op 9 .nil))))))))))))))))) (.y (.node [43] [(9,9),(43,55)] .nil .nil)))))))) .nil)) (.y (.node [60] [(11,11),(60,68)] .nil .nil)));have h5:=B4.lt (P9 _);have z1:=g1.size;have fo:CG Rd w sv ks:=by grind[CG.sub]
 have fs:Be Rd Rd w dv d:=hd.sub B_ C0 λr c hc=>hc.T_ j0 E' B_;have dT:Ag Rd Rd w xv x:=hx.sub B_ C0 λr o ho=>ho.T_ j0 E' B_;have R3:Rd b3:=by grind[Bx.lt]
 let St:Nat->(d_)->c_->Prop:=λk N W=>J k N W/\AF (λy=>¬Rd y) w W/\N b4/\∀y,N y->y<W.heap.size
 have fv:St 0 (λy=>y=b4) w1:=⟨h0,g1.mono G_,rfl,E⟩;have al:∀{k N W O},St k N W->AG W O->St k (λy=>N y\/(W.heap.size<=y/\y<O.heap.size)) O:=λ{k N W O} ⟨j,m,i4,il⟩ g=>by
  have zg:=g.size;exact⟨dz k N _ W O j (g.mono G_) λy hy=>⟨hy.imp id And.left,B_⟩,(by grind[AF.next]),.inl i4,B_⟩
 have e3:∀{k:Nat} {N:d_} {W:c_} {r:U_} {K:Cont},St k N W->(∃c,(Bz ks d x)[k]?=some c/\Ky (λy=>N y/\y≠b4) W r c)->(∀O,St (k+1) N O->AF (λy=>¬(N y\/Rd y)) W O->K (.bool true) O)->(∀O,(∃N,J (Bz ks d x).length N O\/Jx N O)->K (.bool false) O)->Co prog EP (.func (.yield yl) #[] #[]) [.agg r.toArray] K W:=λ{k N W r K} ⟨j,m,i4,il⟩ ⟨c,hc,c4⟩ hT hF=>by
  have hk:k<(Bz ks d x).length:=by
   rcases aDi k (Bz ks d x).length with h|h;exact h;rw[aBL h] at hc;cases hc
  refine .inr ⟨yl,rfl,HO (bx k N W _ hk j ⟨r,c,rfl,hc,c4⟩) ?_⟩;rintro vv W3 ⟨fx,cu,hq,⟨rfl,e5⟩|⟨rfl,VZ⟩⟩;have e6:=QI (k+1) N W3 e5;refine hT W3 ⟨e5,⟨hq.1.trans m.os,hq.2.1.trans m.tape,hq.2.2.trans m.output,by have:=m.size;omega,λb hb hn=>e6 b hb (aB3.1 hn)⟩,i4,λy hy=>by have:=il y hy;omega⟩ ⟨hq.1,hq.2.1,hq.2.2,fx,λb hb hn=>?_⟩;rcases aB3.1 hn with h|h;exact cu b h;exact(e6 b (h4 b h).2 h).trans (m.Ak b (h4 b h).2 λe=>e h).symm;exact hF W3 ⟨N,.inr VZ⟩
 have e7:∀{k N W U},St k N W->AF (λy=>y=b4) W U->St k N U:=λ{k N W U} ⟨j,m0,i4,il⟩ m=>by
  have zm:=m.size;exact⟨dz k N N W U j (m.mono λb _ e=>⟨e,e▸i4⟩) λy hy=>⟨.inl hy,by have:=il y hy;omega⟩,m0.next m λb hb e hr=>(h4 b hr).1 e,i4,λy hy=>by have:=il y hy;omega⟩
 have c6:∀{U:c_} {v:b_} {l:Y_},AF (λy=>¬Rd y) w U->Be Rd Rd w v l->Be Rd Rd U v l:=λm h=>h.T_ m (λb _ h e=>e h) C0 λr c hc=>hc.T_ m (λb _ h e=>e h) C_;have KF:∀{U:c_} {v:b_} {l:Y_},AF (λy=>¬Rd y) w U->Be Rd Rd U v l->Be Rd Rd w v l:=λm h=>Al.mono h C_ (λb hb hs=>(m.Ak b (h4 b hs).2 λe=>e hs).symm) C0 λr c ⟨sv,e,hs⟩=>⟨sv,e,Al.mono hs C_ (λb hb hs=>(m.Ak b (h4 b hs).2 λe=>e hs).symm) C0 C_⟩;apply AI ((B5.S_ g1).cells 0 _ rfl);obtain⟨xa,xc,rfl,e8⟩:=dT.AK;simp[maxLen] at e8;rw[AO];refine Aa (λvs W=>∃(i k:Nat) (N:d_) (Q:Y_) (c7:b_),i<=x.length/\vs=[zIq i]/\St k N W/\Bx W b4 [c7]/\Be Rd Rd w c7 Q/\BG (x.drop i)<=Q.length/\k<=(Bz ks d x).length/\(Bz ks d x).drop k=Bz ks Q (x.drop i)/\(∀c∈Q,c∈d)/\Q.length<=d.length) (λvs _=>x.length-Da vs 0)
  ⟨0,0,_,d,dv,Lc _,rfl,fv,B4.S_ g1,fs,ht,Lc _,rfl,M_,DN _⟩ ?_
 rintro vs W ⟨i,k,N,Q,c7,hi,rfl,a1,e9,b0,ba,h6,Y,an,ea⟩ _;rw[Bh,HK];refine Cn (λec=>?_) λed=>?_;rotate_left
 .obtain rfl:i=x.length:=E;rw[aAv,Bz] at Y;have fy:k+Q.length=(Bz ks d x).length:=by rw[<-Y,I3];omega
  apply AI (e9.cells 0 _ rfl);apply AA (fq (b0.T_ a1.2.1 (λb _ h e=>e h) C0 λr c hc=>hc.T_ a1.2.1 (λb _ h e=>e h) C_) E λc hc=>dr c (an c hc));rintro v2 w2 ⟨o2,g2⟩;have aa:=al a1 g2;have bk:Be (λy=>N y\/(W.heap.size<=y/\y<w2.heap.size)) (λy=>(N y\/(W.heap.size<=y/\y<w2.heap.size))/\y≠b4) w2 v2 Q:=(o2.rd (DN _)).sub E C0 λr c hc=>hc.T_ j0 E' λb hb h=>⟨.inr h,λe=>by have:=a1.2.1.size;omega⟩;obtain⟨va,vc,rfl,_⟩:=bk.AK;rw[AO];apply Aa (λvs O=>∃(m:Nat) (N:d_),m<=Q.length/\vs=[zIq m]/\St (k+m) N O/\Be N (λy=>N y/\y≠b4) O (.slice va Q.length vc) Q) (λvs _=>Q.length-Da vs 0) ⟨0,_,Lc _,rfl,aa,bk⟩;rintro vs W ⟨m,N,hm,rfl,a1,bk⟩ _;rw[Bh,HK];refine Cn (λec=>?_) λed=>?_;rotate_left;obtain rfl:m=Q.length:=E;rw[fy] at a1;exact⟨N,.inl a1.1⟩;have a6:m<Q.length:=E;obtain⟨p,r,rfl,_,hr,hc,c4⟩:=bk.get a6;refine AV a6 (AX hr j1 ?_);refine Bx.new (vs:=r) hr rfl c4.one λh7 W1 gR cx ga=>?_;apply ga.GJ hr;refine e3 (al a1 cx) ⟨Q[m],by rw[<-so,Y];exact Hc a6,c4.T_ cx E' λb hb h=>⟨.inl h.1,h.2⟩⟩ (λO ee b7=>?_) λO h=>?_;rw[Aj];apply AM;rw[AQ,AL E];exact⟨⟨m+1,λy=>N y\/(W.heap.size<=y/\y<W1.heap.size),a6,rfl,E,Al.mono (bk.S_ cx) (λ_ _ h=>.inl h) (λb hb h=>b7.Ak b hb λe=>e (.inl (.inl h))) C0 λr c hc=>hc.T_ b7 (λb _ h e=>e (.inl (.inl h.1))) λb _ h=>⟨.inl h.1,h.2⟩⟩,by rw[DW,DW];omega⟩;rw[Aj];exact Ab h
 have av:i<x.length:=E;rw[y8 av] at ba Y;obtain⟨ef,eh⟩:=hg x[i] (S7 av);obtain⟨q,r,rfl,gb,hr,hc,ca⟩:=dT.get av;obtain⟨rv,ax,pv,rfl,o1,o2,o3⟩:=id ca;have ej:∀{u a},w.cell? a=some u->Rd a.block->W.cell? a=some u:=λhu hb=>a1.2.1.cell hu λe=>e hb;refine AV av (AX hr (λj u hu=>by rw[Addr.add_add];exact ej (hc j u hu) (by rw[Ai];exact gb)) ?_);refine Bx.new (vs:=[.int .u8 x[i].AR,zIq x[i].n,rv,ax,pv]) hr rfl ca.one λb6 W1 gf g6 B6=>?_;have X:=al a1 g6;have b8:=e9.S_ g6;have bl:N b6\/(W.heap.size<=b6/\b6<W1.heap.size):=.inr ⟨gf,B6.lt (P9 _)⟩;generalize ek:(λy=>N y\/(W.heap.size<=y/\y<W1.heap.size))=bp at X;replace bl:bp b6:=by rw[<-ek];exact bl
 have cc:b6≠b4:=λe=>by have:=a1.2.1.size;omega
 refine AT (λvs O=>∃(lv V:b_) (l Z:Y_) (I:d_),vs=[lv]/\St k I O/\Bx O b6 [.int .u8 x[i].AR,zIq x[i].n,rv,ax,pv]/\I b6/\Bx O b4 [V]/\Be Rd Rd w V Z/\Be (λy=>I y\/Rd y) (λy=>I y\/Rd y) O lv l/\BG (x.drop (i+1))<=Z.length/\(k+l.length<=(Bz ks d x).length/\(Bz ks d x).drop k=l.map (CJ ks x[i].AU)++Bz ks Z (x.drop (i+1)))/\(∀c∈Z,c∈d)/\Z.length<=d.length/\(∀c∈l,c.set.length<=64)) ?_ ?_
 .rintro _ W0 ⟨lv,V,l,Z,gg,rfl,eo,gl,gm,gq,gu,ep,gv,⟨gw,er⟩,dk,et,gx⟩ _;rw[Bh,HK];obtain⟨la,lc,rfl,eu⟩:=ep.AK;simp[maxLen] at eu;rw[AO];apply Aa (λvs O=>∃(m:Nat) (I:d_),m<=l.length/\vs=[zIq m]/\St (k+m) I O/\Bx O b6 [.int .u8 x[i].AR,zIq x[i].n,rv,ax,pv]/\I b6/\Bx O b4 [V]/\Be (λy=>I y\/Rd y) (λy=>I y\/Rd y) O (.slice la l.length lc) l) (λvs _=>l.length-Da vs 0) ⟨0,gg,Lc _,rfl,eo,gl,gm,gq,ep⟩;rintro vs W2 ⟨m,c8,hm,rfl,aa,ew,ez,eA,eB⟩ _;rw[Bh,HK];refine Cn (λec=>?_) λed=>?_;rotate_left;obtain rfl:m=l.length:=E;rw[AQ,AL E];exact⟨⟨i+1,k+l.length,c8,Z,V,av,rfl,aa,eA,gu,gv,gw,by rw[<-aA0,er,aCl (Nn _)],dk,et⟩,by rw[DW,DW];omega⟩;have a6:m<l.length:=E;obtain⟨p,r',rfl,_,gy,gA,eC,rfl,eH⟩:=eB.get a6;have eI:∀u∈[Value.int .i32 l[m].r,eC],u.oneCell'=true:=by
   obtain⟨sa,sc,rfl,_⟩:=eH.AK;intro u hu;simp[S6,aAU,aBn] at hu;rcases hu with rfl|rfl<;>rfl
  refine AV a6 (AX gy (λj u hu=>by rw[Addr.add_add];exact gA j u hu) ?_);refine Bx.new (vs:=[.int .i32 l[m].r,eC]) rfl rfl eI λb9 W3 h8 g9 B9=>?_;have m3:=aa.2.1.next g9 G_;apply AI (m3.cell (B3.cells 0 _ rfl) λe=>e R3);apply B9.GJ rfl;apply fl_i ((ew.S_ g9).cells 4 _ rfl);have h9:x[i].AU.length<=64:=by
   rcases ef with⟨_,_,_,_,hp⟩|⟨_,_,_,hp,_⟩|⟨_,_,_,hp,_⟩;exact hp.2.1;rw[hp];simp;rw[hp];simp
  have hf:=gx _ (S7 a6);apply AA (Xw (fo.T_ m3 λb _ h e=>e h) (eH.S_ g9 C0 C_) (o3.T_ m3 (λb _ h e=>e h) C0 C_) E);rintro _ W4 ⟨eL,rfl,oc,g4⟩;have c9:=g9.trans g4;have hh:=g9.size;refine e3 (r:=[.int .i32 l[m].r,eL]) (al aa c9) ⟨CJ ks x[i].AU l[m],?_,eL,rfl,(AB.sl oc).sub (λb hb h=>⟨E,λe=>by have:=h.1;have:=m3.size;omega⟩) C0 C_⟩ (λO ee b7=>?_) λO h=>?_;rw[<-so,er,u6 (by rw[Nn];exact a6),aAM,Hc a6];rfl;rw[Aj];apply AM;rw[AQ,AL E];have q4:=aa.2.2.1;refine⟨⟨m+1,λy=>c8 y\/(W2.heap.size<=y/\y<W4.heap.size),a6,rfl,E,(ew.S_ c9).T_ b7 λe=>e (.inl (.inl ez)),.inl ez,(eA.S_ c9).T_ b7 λe=>e (.inl (.inl q4)),?_⟩,by rw[DW,DW];omega⟩;have up:∀y,c8 y\/Rd y->(c8 y\/(W2.heap.size<=y/\y<W4.heap.size))\/Rd y:=λy h=>h.elim (λh=>.inl (.inl h)) .inr;exact Al.mono (eB.S_ c9) (λb _ h=>up b h) (λb hb h=>b7.Ak b hb λe=>e (up b h)) C0 λr c hc=>hc.T_ b7 (λb _ h e=>e (up b h)) λb _ h=>up b h;rw[Aj];exact Ab h
 apply fl_i (B6.cells 0 _ rfl);rw[CI];rcases ef with⟨kd,_,_,n1,_⟩|⟨kd,_,_,_,n1⟩|⟨kd,_,_,gB,hv,eN⟩;obtain⟨e1,e2,_,e4⟩:=Ph (ks:=ks) (x:=x.drop (i+1)) (d:=Q) kd;rw[e1] at ba;rw[e4] at Y;have en:x[i].n=(x[i].n.toNat:Int):=E;generalize hn:x[i].n.toNat=n at *;refine Ae E λ_=>?_;refine eqP (λ_=>?_) (absurd kd);obtain⟨da,dc,rfl,_⟩:=b0.AK;have gd:=gdr W1;have Bd:=b8.S_ gd;have ld:∀{l:X_} {bb q:Nat} {u:b_},(∀j∈l,j≠9)->W1.drew.cell? ⟨bb,q,none⟩=some u->W1.drew.cell? ⟨bb,q,none⟩=some u/\∀j∈l,¬((λj y=>j=9/\y=b4) j (⟨bb,q,none⟩:Addr).block):=λhl hc=>⟨hc,λj hj e=>hl j hj e.1⟩;have eR:W1.drew.cell? ⟨b6,1,none⟩=some (zIq (n:Int)):=by rw[<-en];exact(B6.S_ gd).cells 1 _ rfl
 apply Ac (λj y=>j=9/\y=b4);apply AP (ld C0 (Bd.cells 0 _ rfl));rw[AE,AH];apply AP (ld C0 eR);apply AP (ld C0 (Bd.cells 0 _ rfl));rw[AE,AH];apply AP (ld C0 eR);have mD:=X.2.1.next gd G_;have HA:∀{a7 a8:b_} {J:b_->c_->Prop},Be Rd Rd w a7 (Q.take n)->Be Rd Rd w a8 (Q.drop n)->(∀U,St k bp U->Bx U b6 [.int .u8 x[i].AR,zIq x[i].n,rv,ax,pv]->Bx U b4 [a8]->J a7 U)->Cc (e_ b4) a8 (λU=>AF (λy=>9=9/\y=b4) W1.drew U/\J a7 U) W1.drew:=λ{a7 a8 J} ay ak hJ=>by
  obtain⟨ta,tc,rfl,_⟩:=id ak;refine Bd.st (q:=0) (show 0<1 by decide) rfl rfl λU B' m'=>⟨m'.mono E,?_⟩;have mu:=(gd.mono G_).trans m';exact hJ U (e7 X mu) (B6.T_ mu cc) B'
 have cq:∀{a7 a8:b_},Be Rd Rd w a7 (Q.take n)->Be Rd Rd w a8 (Q.drop n)->∀U,St k bp U->Bx U b6 [.int .u8 x[i].AR,zIq x[i].n,rv,ax,pv]->Bx U b4 [a8]->∃(lv V:b_) (l Z:Y_) (I:d_),[a7]=[lv]/\St k I U/\Bx U b6 [.int .u8 x[i].AR,zIq x[i].n,rv,ax,pv]/\I b6/\Bx U b4 [V]/\Be Rd Rd w V Z/\Be (λy=>I y\/Rd y) (λy=>I y\/Rd y) U lv l/\BG (x.drop (i+1))<=Z.length/\(k+l.length<=(Bz ks d x).length/\(Bz ks d x).drop k=l.map (CJ ks x[i].AU)++Bz ks Z (x.drop (i+1)))/\(∀c∈Z,c∈d)/\Z.length<=d.length/\(∀c∈l,c.set.length<=64):=λ{a7 a8} ay ak U h1 h2 h3=>
  ⟨a7,a8,Q.take n,Q.drop n,bp,rfl,h1,h2,bl,h3,ak,(c6 h1.2.1 ay).sub (λb _ h=>.inr h) C0 λr c hc=>hc.T_ j0 E' λb _ h=>.inr h,by rw[I3];omega,⟨by have:=r9 List.length Y;rw[I3,Bp,Nn] at this;omega,Y⟩,λc hc=>an c (oy hc),by rw[I3];omega,λc hc=>dr c (an c (zF hc))⟩
 have eX:∀{K:Cont},(∀v',Be Rd Rd w v' (Q.take n)->K v' W1.drew)->runK prog (Instr.sliceAt 38 (.slice da Q.length dc) none (some (.int .i64 (n:Int))) none) K W1.drew:=λhK=>SQ (e:=49) (k:=2) (i:=Tryz.t49) D_ D_ D_ (c6 mD b0) (j:=n) E λv' bs=>hK v' (KF mD bs);have fa:∀{K:Cont},(∀v',Be Rd Rd w v' (Q.drop n)->K v' W1.drew)->runK prog (Instr.sliceAt 38 (.slice da Q.length dc) (some (.int .i64 (n:Int))) none none) K W1.drew:=λhK=>FW (e:=49) (k:=2) (i:=Tryz.t49) D_ D_ D_ (c6 mD b0) (j:=n) E λv' bs=>hK v' (KF mD bs);constructor;exact eX λa7 ay=>⟨AF.refl _ _,fa λa8 ak=>⟨AF.refl _ _,HA (J:=λt U=>(λvs O=>∃(lv V:b_) (l Z:Y_) (I:d_),vs=[lv]/\St k I O/\Bx O b6 [.int .u8 x[i].AR,.int .i64 x[i].n,rv,ax,pv]/\I b6/\Bx O b4 [V]/\Be Rd Rd w V Z/\Be (λy=>I y\/Rd y) (λy=>I y\/Rd y) O lv l/\BG (x.drop (i+1))<=Z.length/\(k+l.length<=(Bz ks d x).length/\(Bz ks d x).drop k=l.map (CJ ks x[i].AU)++Bz ks Z (x.drop (i+1)))/\(∀c∈Z,c∈d)/\Z.length<=d.length/\(∀c∈l,c.set.length<=64)) [t] U) ay ak (cq ay ak)⟩⟩;exact fa λa8 ak=>⟨AF.refl _ _,eX λa7 ay=>⟨AF.refl _ _,HA (J:=λt U=>(λvs O=>∃(lv V:b_) (l Z:Y_) (I:d_),vs=[lv]/\St k I O/\Bx O b6 [.int .u8 x[i].AR,.int .i64 x[i].n,rv,ax,pv]/\I b6/\Bx O b4 [V]/\Be Rd Rd w V Z/\Be (λy=>I y\/Rd y) (λy=>I y\/Rd y) O lv l/\BG (x.drop (i+1))<=Z.length/\(k+l.length<=(Bz ks d x).length/\(Bz ks d x).drop k=l.map (CJ ks x[i].AU)++Bz ks Z (x.drop (i+1)))/\(∀c∈Z,c∈d)/\Z.length<=d.length/\(∀c∈l,c.set.length<=64)) [t] U) ay ak (cq ay ak)⟩⟩;obtain⟨e1,_,_,e4⟩:=Pg (ks:=ks) (x:=x.drop (i+1)) (d:=Q) kd;rw[e1] at ba;rw[e4] at Y;have en:x[i].n=(x[i].n.toNat:Int):=E;generalize hn:x[i].n.toNat=n at *;refine Ae E λ_=>?_;refine eqP E λ_=>?_;obtain⟨da,dc,rfl,_⟩:=b0.AK;apply AI (b8.cells 0 _ rfl);apply fl_i (B6.cells 1 _ rfl);rw[en];refine FW (e:=49) (k:=2) (i:=Tryz.t49) D_ D_ D_ (c6 X.2.1 b0) (j:=n) E λv' bs=>?_;have q1:=KF X.2.1 bs;obtain⟨ta,tc,rfl,_⟩:=q1.AK;refine b8.st (q:=0) (show 0<1 by decide) rfl rfl λU B' mu=>?_;exact⟨_,_,[],Q.drop n,bp,rfl,e7 X mu,by rw[<-en];exact B6.T_ mu cc,bl,B',q1,Al.nil,by rw[I3];omega,⟨E,Y⟩,λc hc=>an c (oy hc),by rw[I3];omega,λc hc=>nomatch hc⟩;obtain⟨e1,_,_,e4⟩:=Px (ks:=ks) (x:=x.drop (i+1)) (d:=Q) kd;rw[e1] at ba;rw[e4] at Y;refine Ae (λ_=>?_) (absurd kd);apply fl_i (B6.cells 2 _ rfl);apply fl_i (B6.cells 3 _ rfl);have hz:x[i].AZ.length<=536870912:=by rw[Ah,Ix kd] at eh;exact eh
 have m1:=X.2.1;apply AA (vW (o1.T_ m1 (λb _ h e=>e h) C0 C_) (o2.T_ m1 (λb _ h e=>e h) C0 C_) E eN.2.1);rintro lv W2 ⟨gD,g2⟩;refine⟨lv,c7,_,Q,_,rfl,al X g2,B6.S_ g2,.inl bl,b8.S_ g2,b0,(gD.rd (DN _)).sub E C0 λr c hc=>hc.T_ j0 E' E,ba,⟨by have:=r9 List.length Y;rw[I3,Bp] at this;omega,by rw[Y,gB,aBR];rfl⟩,an,ea,λc hc=>?_⟩;obtain⟨r0,_,rfl⟩:=WJ.1 hc;exact eN.2.1
end
section
variable {S D Sx Dx A_:d_}{w:c_}{sv dv xv:b_}{ks:X'}{d:Y_}{x:U'}
def cN(Z:CG A_ w sv ks)(hd:Be S D w dv d)(hx:Ag Sx Dx w xv x)(hT:CH w)(hG:Ig ks d)(hC:∀c∈d,Nv ks c)(hI:∀o∈x,Is o)(hl:x.length<=1073741824)(e1:d.length<=536870912)(hm:Cs x<=536870912)(ay:Bl ks x=0)(b0:1<=d.length) : l_ 163 [sv,dv,xv,zIq most] (λv' w'=>AG w w'/\((Ef ks x d.length most=0/\∃ov,v'=.tuple #[ov,zIq 0]/\G6 w.heap.size w.heap.size w' ov (Bz ks d x))\/(Ef ks x d.length most≠0/\∃ov,v'=.tuple #[ov,zIq (Ef ks x d.length most)]))) w:=by
 refine Q_ func163 ?_;apply AA (LY Z hx hT (by grind[Is.o]));rintro _ w1 ⟨rfl,g1⟩;rw[ay];refine neP (λ_=>?_) λe=>(e rfl).elim;refine AA (fC (Z.S_ g1) (hd.S_ g1) (hT.S_ g1) hG hC b0 E) ?_;rintro _ w2 ⟨rfl,g2⟩;refine neP (λ_=>?_) λe=>(e rfl).elim;have J:=g1.trans g2;have a1:Dz dv=Dz (.slice (hd.AK.choose) d.length (hd.AK.choose_spec.choose)):=by
  grind
 rw[a1,AO];refine AA (VU (n:=d.length) (most:=most) (Z.S_ J) (Ag.S_ hx J) (hT.S_ J) (by grind[Is.o]) E E) ?_;rintro _ w3 ⟨rfl,g3⟩;have a6:=J.trans g3;refine neP (λa7=>?_) B_;have hF:=(Ca (ks:=ks) E).1 a7;refine Bx.zero λc w4 hc g4 Bc=>?_;have dk:=Bc.lt (P9 _);have e2:=a6.size;refine J_ func255 ?_;have b6:sv.cells=#[sv]:=by
  obtain⟨b,m,kv,l,rfl,_⟩:=Z;rfl
 have b7:dv.cells=#[dv]:=by
  obtain⟨a,c,rfl,_⟩:=hd.AK;rfl
 have b9:xv.cells=#[xv]:=by
  obtain⟨a,c,rfl,_⟩:=hx.AK;rfl
 refine DV b6 λb3 w5 e3 g5 B3=>?_;have dr:=B3.lt (P9 _);refine DV b7 λb4 w6 e4 g6 B4=>?_;have dz:=B4.lt (P9 _);refine DV b9 λb5 W e5 g7 B5=>?_;have a8:=(g5.trans g6).trans g7;have N:=(a6.trans g4).trans a8;have z7:=g7.size;have ba:CG (λy=>A_ y/\y<w.heap.size) W sv ks:=(Z.sub λb hb h=>⟨h,hb⟩).S_ N;have bb:Be (λy=>S y/\y<w.heap.size) (λy=>D y/\y<w.heap.size) W dv d:=Be.S_ (hd.sub B_ C0 λr c hc=>hc.T_ j0 E' B_) N;have bk:Ag (λy=>Sx y/\y<w.heap.size) (λy=>Dx y/\y<w.heap.size) W xv x:=Ag.S_ (hx.sub B_ C0 λr o ho=>ho.T_ j0 E' B_) N;have bl:=fD (Rd:=λy=>y<W.heap.size/\y≠c/\y≠b4) ba bb bk (B3.S_ (g6.trans g7)) (B4.S_ g7) B5 E E hF.Eo hF.MA (λc hc=>(hG.set c hc).len) E;have hN:=KX (ks:=ks) (λo ho=>(hF.Eo o ho).1) hF.MA;have aa:=Bc.S_ a8;have dT:c<W.heap.size:=aa.lt (P9 _);have bp:b4<W.heap.size:=E;refine⟨_,_,_,_,_,_,_,rfl,D_,bl,B_,E,?_⟩;refine⟨λk X W'=>∃(out:b_),Bx W' c [out]/\G6 (W.heap.size+2) (W.heap.size+2) W' out ((Bz ks d x).take k)/\AF (λy=>y=c\/y=b4) W W'/\k<=(Bz ks d x).length/\(∀y,X y->y=b4\/W.heap.size+2<=y)/\∀g,out.ownBlock=some g->¬X g/\g<W'.heap.size,λ_ _ _=>False,⟨_,aa,by grind[G6.nil],AF.refl _ _,Lc _,λy e=>.inl e,λg e=>nomatch e⟩,?_,λ_ _ _ _ _ h=>h.elim,?_,?_,?_,λ_ _ _ h=>h.elim⟩;rintro k X e6 W1 W2 ⟨out,B1,q,m,hk,ak,al⟩ hm I;have zm:=m.size;have zn:=hm.size;refine⟨out,B1.T_ hm (λe=>?_),q.T_ hm (λy e=>?_),m.next hm (λy hy e=>?_),hk,λy hy=>?_,λg hg=>⟨λh=>?_,?_⟩⟩;omega;omega;omega;grind;grind;grind;grind[AF.Ak]
 .rintro k X W1 _ hk ⟨r,cc,rfl,bs,Q⟩ ⟨out,B1,q,m,e7,ak,al⟩ hz I;have hr:r.length=2:=by
   obtain⟨bx,rfl,_⟩:=id Q;rfl
  refine Bx.new (vs:=r) hr rfl Q.one λb8 W5 e8 Y B8=>?_;refine La Y hz I G_ λW6 j=>?_;have z8:=Y.size;have z9:=j.size;have c4:=B8.lt E;have B6:=(B1.S_ Y).T_ j E;have c6:=B8.T_ j E;have q6:=(q.S_ Y).T_ j E;have c7:=(Q.T_ Y E' C_).T_ j B_ C_;apply AI (B6.cells 0 _ rfl);apply c6.GJ hr;obtain⟨bx,rfl,c8⟩:=c7;refine Od (c:=cc) q6 E c8 (λy hy=>⟨B_,by have:=(I y hy.1).1;omega,B_⟩) (by rw[S5];omega) λan W9 q9 m9 n9=>?_;have e9:=m9.size;have ea:c<W1.heap.size:=E;have av:∀g,out.ownBlock=some g->W.heap.size+2<=g:=λg e=>by
   obtain⟨_,q',_⟩:=q;exact(AB.Am q' g e).1
  have B9:=B6.T_ m9 λe=>by have:=av c e;omega
  obtain⟨D9,ax,_⟩:=id q9;obtain⟨c9,ca⟩:=ax.one;refine B9.st (q:=0) (show 0<1 by decide) c9 ca λcq cu U=>?_;have ec:=U.size;have O:AF (λx=>x=c\/out.ownBlock=some x) W6 cq:=(m9.mono λ_ _ e=>.inr e).trans (U.mono λ_ _ e=>.inl e);have cx:¬X c:=B_;refine⟨Pa O E (λb hb=>by have:=(I b hb).1;omega) (λb _ e=>?_),an,cu,?_,?_,hk,ak,λg hg=>?_⟩;rcases e with rfl|e;exact⟨cx,E,E⟩;have:=av b e;exact⟨(al b e).1,E,E⟩;rw[No,bs];exact q9.T_ U E;refine((m.next Y G_).next j E).next O λx hx e=>?_
  grind;rcases n9 g hg with h|h;grind;refine⟨λhI=>by have:=(I g hI).1;omega,?_⟩;have:=(AB.Am ax g hg).2;omega
 rintro X W1 ⟨out,B1,q,m,_⟩ _ _ da;refine AI (B1.cells 0 _ rfl) ⟨da,?_⟩;have V:AF (λb=>b=W.heap.size) W1 (W1.putObj W.heap.size (.deferred none)):=AF.putObj _ _ _ rfl;refine⟨(N.next m E).next V E,.inl ⟨a7,_,rfl,?_⟩⟩;rw[WL] at q;have ed:=V.size;obtain⟨D,q1,q2⟩:=q.T_ V E;exact⟨D,AB.BY q1 (by grind[AB.Am]),B_⟩
def bS(hS:CG A_ w sv ks)(hd:Be S D w dv d)(hx:Ag Sx Dx w xv x)(hT:CH w)(hG:Ig ks d)(hC:∀c∈d,Nv ks c)(hI:∀o∈x,Is o)(hl:x.length<=1073741824)(cx:d.length<=536870912)(hm:Cs x<=536870912)(hF:Ii ks x d.length 536870912)(ef:Av (EY ks d x)<=137438953472) : l_ 93 [sv,dv,xv] (λv' w'=>AG w w'/\∃bv,v'=.tuple #[bv,zIq 0]/\Ag (λy=>w.heap.size<=y/\y<w'.heap.size) (λy=>w.heap.size<=y/\y<w'.heap.size) w' bv (BJ (EY ks d x))) w:=by
 refine J_ func93 ?_ (.y (.y (.y (.y (.x (.y (.node [1,28] [(1,1),(12,12),(14,14),(28,76)] (.y (.y (.x (.y (.y (.x (.y (.node [45] [(14,14),(45,71)] (.y (.y (.x (.y (.y (.dm [9,10,11] [0,0,2,0,0,16,0,64,192,504,1022,2047])))))) .nil)))))))) .nil)))))));have dk:=hS.sub λb hb h=>hb;have dr:=hd.sub (λb hb h=>hb) C0 λr c hc=>hc.T_ j0 E' λy hy h=>hy;have bs:=hx.sub (λb hb h=>hb) C0 λr o ho=>ho.T_ j0 E' λy hy h=>hy;apply AA (cN hS hd hx hT hG hC hI hl cx hm hF.JX hF.DA.1);rintro _ w1 ⟨g1,⟨_,ov,rfl,_⟩|⟨e,_⟩⟩;rotate_left;exact(e ((Ca E).2 hF)).elim;apply BD;refine neP (λ_=>?_) λe=>(e rfl).elim;apply AA Lw;rintro _ w2 ⟨g2,b,eh,ej,rfl,dz⟩;obtain⟨xa,xc,rfl,ed⟩:=bs.AK;rw[AO];have z1:=g1.size
 let St:U'->(d_)->c_->Prop:=λy F W=>El F W b (BE y)/\(∀z,F z->w.heap.size<=z/\z<W.heap.size)/\AF (λz=>w.heap.size<=z) w W
 have S_:∀{y F W X},St y F W->AG W X->St y F X:=by grind[El.T_,Nat.lt_of_lt_of_le,AF.size,AF.next]
 have ax:∀{y:U'} {o:Dop} {F:d_} {W X:c_},St y F W->El (λz=>F z\/W.heap.size<=z) X b (BF (BE y) o)->AF F W X->St (y++[o]) (λz=>(F z\/W.heap.size<=z)/\z<X.heap.size) X:=λ{y o F W X} ⟨a1,a2,a3⟩ h m=>⟨by rw[Ow];exact h.lt,λz U=>⟨by rcases U.1 with h|h;exact(a2 z h).1;have:=a3.size;omega,U.2⟩,a3.next m λz _ U=>(a2 z U).1⟩;have dT:∀{W},AF (λz=>w.heap.size<=z) w W->CG (λy=>y<w.heap.size) W sv ks:=λm=>dk.T_ m E;have ba:∀{W:c_} {v:b_} {l:Y_},AF (λz=>w.heap.size<=z) w W->Be (λy=>y<w.heap.size) (λy=>y<w.heap.size) w v l->Be (λy=>y<w.heap.size) (λy=>y<w.heap.size) W v l:=λm h=>h.T_ m E C0 λr c hc=>hc.T_ m E C_;have KF:∀{W:c_} {v:b_} {l:Y_},AF (λz=>w.heap.size<=z) w W->Be (λy=>y<w.heap.size) (λy=>y<w.heap.size) W v l->Be (λy=>y<w.heap.size) (λy=>y<w.heap.size) w v l:=λm h=>Al.mono h C_ (λb hb hs=>(m.Ak b hs E).symm) C0 λr c ⟨sv,e,hs⟩=>⟨sv,e,Al.mono hs C_ (λb hb hs=>(m.Ak b hs E).symm) C0 C_⟩;have PR:∀{y z:U'},y++z=EY ks d x->(BE y).done.length+(BE y).Aq.length<=274877906944/\Av (BE y).Aq<=274877906944:=λ{y z} e=>by
  have h1:=II y;have h2:Av y<=Av (EY ks d x):=by rw[<-e,IA];omega
  have h3:=Bi (BE y).done;have h4:=Bi (BE y).Aq;omega
 refine Aa (λvs W=>∃(i:Nat) (O:Y_) (aa:b_) (y:U') (F:d_),i<=x.length/\vs=[aa,zIq i]/\St y F W/\Be (λy=>y<w.heap.size) (λy=>y<w.heap.size) w aa O/\BG (x.drop i)<=O.length/\y++EY ks O (x.drop i)=EY ks d x/\(∀c∈O,c∈d)/\O.length<=d.length) (λvs _=>x.length-Da vs 1)
  ⟨0,d,dv,[],λz=>z=b,Lc _,rfl,⟨dz,E,(g1.trans g2).mono G_⟩,dr,hF.MA,rfl,M_,DN _⟩ ?_
 rintro vs W ⟨i,O,aa,y,F,hi,rfl,Y,ak,al,N,Z,bx⟩ _;simp only[Ha];refine Cn (λe2=>?_) λe4=>?_;rotate_left;obtain rfl:i=x.length:=E;rw[aAv,EY,aO] at N;obtain⟨a1,a2,a3⟩:=Y;have h1:=II y;rw[N] at h1 a1;refine AA (LR a1 E) ?_;rintro bv X ⟨ho,g'⟩;have zW:=a3.size;refine⟨(a3.next g' G_).mono E,bv,rfl,?_⟩;exact ho.reads.sub E C0 λr o ho=>ho.T_ j0 E' E;have I:i<x.length:=E;rw[y8 I] at al N;obtain⟨bk,ek⟩:=hF.Eo x[i] (S7 I);obtain⟨q,r,rfl,eo,hr,hc,ay⟩:=bs.get I;obtain⟨rv,c4,pv,rfl,o1,o2,o3⟩:=id ay;refine AV I (AX hr (λj u hu=>by rw[Addr.add_add];exact Y.2.2.cell (hc j u hu) λe=>by rw[Ai] at e;omega) ?_);refine Bx.new (vs:=[.int .u8 x[i].AR,zIq x[i].n,rv,c4,pv]) hr rfl ay.one λb6 W1 ep g6 B6=>?_;have Q:=S_ Y g6;have F6:¬F b6:=λe=>by have:=(Y.2.1 b6 e).2;omega
 have zW:=Y.2.2.size;have e5:=B6.lt (P9 _);apply fl_i (B6.cells 0 _ rfl);rw[CI];by_cases k2:x[i].AR=2;refine Ae (λ_=>?_) (absurd k2);obtain⟨e1,_,e3,_⟩:=Px (ks:=ks) (x:=x.drop (i+1)) (d:=O) k2;rw[e1] at al;rw[e3] at N;apply fl_i (B6.cells 2 _ rfl);obtain⟨ra,rc,rfl,_⟩:=o1.AK;rw[AO];obtain⟨a1,a2,a3⟩:=Q;apply AA (Ja a1);rintro _ W2 ⟨h2,m2⟩;rw[AQ,AL E];have zm:=m2.size;refine⟨⟨i+1,O,aa,y++[⟨3,x[i].AZ.length,[],[],[]⟩],F,I,rfl,⟨by rw[Ow];exact h2,λz U=>⟨(a2 z U).1,by have:=(a2 z U).2;omega⟩,a3.next m2 λz _ U=>(a2 z U).1⟩,ak,al,by rw[Q0];exact N,Z,bx⟩,by rw[BV,BV];omega⟩;refine Ae (λe=>absurd e k2) λ_=>?_;have c6:x[i].AR=1\/x[i].AR=3:=by
  rcases bk with⟨k,_⟩|⟨k,_⟩|⟨k,_⟩;omega;omega;omega
 have er:1<=x[i].n:=by
  rcases bk with⟨_,_,_,n,_⟩|⟨_,_,_,_,n⟩|⟨k,_⟩;exact n;exact n;omega
 have ee:x[i].AU.length<=64:=by
  rcases bk with⟨_,_,_,_,hp⟩|⟨_,_,_,hp,_⟩|⟨k,_⟩;exact hp.2.1;rw[hp];simp;omega
 obtain⟨e1,e3⟩:BG (x[i]::x.drop (i+1))=x[i].n.toNat+BG (x.drop (i+1))/\EY ks O (x[i]::x.drop (i+1))=(O.take x[i].n.toNat).map (if x[i].AR=3 then HR else NZ ks x[i].AU)++EY ks (O.drop x[i].n.toNat) (x.drop (i+1)):=by
  rcases c6 with k|k;obtain⟨q1,_,q3,_⟩:=Ph (ks:=ks) (x:=x.drop (i+1)) (d:=O) k;exact⟨q1,by rw[q3,By E]⟩;obtain⟨q1,_,q3,_⟩:=Pg (ks:=ks) (x:=x.drop (i+1)) (d:=O) k;exact⟨q1,by rw[q3,Ix k]⟩
 rw[e1] at al;rw[e3] at N;have en:x[i].n=(x[i].n.toNat:Int):=E;generalize hn:x[i].n.toNat=n at *;apply fl_i (B6.cells 1 _ rfl);rw[en];obtain⟨da,dc,rfl,_⟩:=ak.AK;refine SQ (e:=49) (k:=2) (i:=Tryz.t49) D_ D_ D_ (ba Q.2.2 ak) (j:=n) E λlv e6=>?_;have c7:=KF Q.2.2 e6;have e7:∀c∈O.take n,c∈d:=λc hc=>Z c (zF hc);have et:(O.take n).length=n:=by rw[S5];omega
 generalize hL:O.take n=L at *;obtain⟨la,lc,rfl,_⟩:=c7.AK;rw[AO];generalize an:(if x[i].AR=3 then HR else NZ ks x[i].AU)=fo at N;refine Aa (λvs X=>∃(m:Nat) (F':d_),m<=L.length/\vs=[zIq m]/\St (y++(L.take m).map fo) F' X/\¬F' b6/\Bx X b6 [.int .u8 x[i].AR,zIq x[i].n,rv,c4,pv]) (λvs _=>L.length-Da vs 0) ⟨0,F,Lc _,rfl,by rw[aBS,aCI,aO];exact Q,F6,B6⟩ ?_;rintro vs W2 ⟨m,F2,eu,rfl,J,av,bl⟩ _;rw[HK];refine Cn (λe2=>?_) λe4=>?_;rotate_left;obtain rfl:m=L.length:=E;rw[WL] at J;apply fl_i (bl.cells 1 _ rfl);rw[en];refine FW (e:=49) (k:=2) (i:=Tryz.t49) D_ D_ D_ (ba J.2.2 ak) (j:=n) E λv' e8=>?_;rw[AQ,AL E];exact⟨⟨i+1,O.drop n,v',y++L.map fo,F2,I,rfl,J,KF J.2.2 e8,by rw[I3];omega,by rw[Q0];exact N,λc hc=>Z c (oy hc),by rw[I3];omega⟩,by rw[BV,BV];omega⟩;have V:m<L.length:=E;have e9:(y++(L.take m).map fo)++((L.drop m).map fo++EY ks (O.drop n) (x.drop (i+1)))=EY ks d x:=by
  rw[<-N,Q0,<-Q0 ((L.take m).map fo),<-u7,Nr]
 obtain⟨ew,ez⟩:=PR e9;have a6:y++(L.take (m+1)).map fo=(y++(L.take m).map fo)++[fo L[m]]:=by
  rw[No,Hc V,u7,Q0];rfl
 obtain⟨p,r',rfl,_,ea,ec,c8,rfl,c9⟩:=(ba J.2.2 c7).get V;have ca:∀u∈[Value.int .i32 L[m].r,c8],u.oneCell'=true:=by
  obtain⟨sa,sc,rfl,_⟩:=c9.AK;intro u hu;simp[S6,aAU,aBn] at hu;rcases hu with rfl|rfl<;>rfl
 have cc:=hG.set _ (e7 _ (S7 V));have eA:=cc.len;refine AV V (AX ea (λj u hu=>by rw [Addr.add_add];exact ec j u hu) ?_);refine Bx.new (vs:=[.int .i32 L[m].r,c8]) rfl rfl ca λb9 W3 eB g9 B9=>?_;have a7:=S_ J g9;have bp:=bl.S_ g9;have eC:=B9.lt (P9 _);have e5:=bl.lt (P9 _);have b0:=c9.S_ g9 C0 C_;apply fl_i (bp.cells 0 _ rfl);refine eqP (λk3=>?_) λk3=>?_;rw [Ix k3] at an;subst an;apply fl_i (B9.cells 0 _ rfl);apply ET (CY (v:=.int .i32 L[m].r) (vs:=[.int .i32 L[m].r]) (k:=1) rfl C0 rfl rfl);have ga:AG W3 (W3.alloc (.cells [Value.int .i32 L[m].r].toArray 21)):=AF.alloc _ _ _;have ho:AB W3.heap.size 21 1 Bk (W3.alloc (.cells [Value.int .i32 L[m].r].toArray 21)) (.slice (f_ W3.heap.size) 1 1) [L[m].r]:=AB.KU (DN _) rfl (λu hu=>by simp at hu;subst hu;rfl) rfl;apply fl_i ((B9.S_ ga).cells 1 _ rfl);have b7:=S_ a7 ga;refine AA (ID (S:=λz=>z < w.heap.size\/z=W3.heap.size) b7.1 (Al.sub (AB.sl ho) (λz U h=>.inr (by have:=h.2;simp [Value.ownBlock,gn] at this;exact this.symm)) C0 C_) ((b0.S_ ga C0 C_).sub (λ_ _ h=>.inl h) C0 C_) (λz U e=>by
  have h1:=a7.2.1 z e;omega) E (λo ho=>?_) E_ E) ?_
 have h1:=FH ho;simp only[EN] at h1;simp only[aAw];omega;rintro _ W4 ⟨h4,m4⟩;have z4:=m4.size;have za:=ga.size;rw[AQ,AL E];refine⟨⟨m+1,_,V,rfl,by rw[a6];exact(ax (o:=HR L[m]) b7 h4 m4),λe=>?_,((bp.S_ ga).T_ m4 av)⟩,by rw[DW,DW];omega⟩;rcases e.1 with e|e;exact av e;omega;rw[By k3] at an;subst an;have gd:=gdr W3;have zd:W3.drew.heap.size=W3.heap.size:=rfl;have a8:=S_ a7 gd;have cq:=bp.S_ gd;have cu:=B9.S_ gd;apply Ac (λj z=>j=11/\F2 z);have ld:∀{l:X_} {bb q:Nat} {u:b_},(∀j∈l,j≠11)->W3.drew.cell? ⟨bb,q,none⟩=some u->W3.drew.cell? ⟨bb,q,none⟩=some u/\∀j∈l,¬((λj z=>j=11/\F2 z) j (⟨bb,q,none⟩:Addr).block):=λhl hc=>⟨hc,λj hj e=>hl j hj e.1⟩;rw[AE,AH];apply AP (ld C0 (cu.cells 1 _ rfl));rw[AE,AH];apply AP (ld C0 (cq.cells 4 _ rfl));rw[AE,AH];apply AP (ld C0 (cu.cells 0 _ rfl));rw[CI];have m3:=a8.2.2;apply AA (Jt (b:=decide (L[m].r=10)) (dT m3) (o3.T_ m3 E C0 C_) E);rintro v4 W4 ⟨h4,g4⟩;refine⟨g4.mono G_,?_⟩;have eH:(Cg ks (decide (L[m].r=10)) x[i].AU).length<=x[i].AU.length:=aBB _ _;apply AA (pH ((b0.S_ gd C0 C_).S_ g4 C0 C_) h4 cc.1.1 E E);rintro v5 W5 ⟨o5,g5⟩;refine⟨g5.mono G_,?_⟩;have b8:=S_ (S_ a8 g4) g5;have z4:=g4.size;have z5:=g5.size;have eI:(Fw L[m].set (Cg ks (decide (L[m].r=10)) x[i].AU)).length<=64:=by
  have:(Fw L[m].set (Cg ks (decide (L[m].r=10)) x[i].AU)).length<=(Cg ks (decide (L[m].r=10)) x[i].AU).length:=aC7 _ _;omega
 apply AA (EI (n:=1) (S:=λz=>W4.heap.size<=z) b8.1 ((AB.sl o5).sub (λz U h=>h.1) C0 C_) (λz U e=>by have:=(a8.2.1 z e).2;omega) E E);rintro _ W6 ⟨h6,m6⟩;have z6:=m6.size;refine⟨m6.mono λz _ e=>⟨rfl,e⟩,?_⟩;rw[AQ,AL E];refine⟨⟨m+1,_,V,rfl,by rw[a6];exact(ax (o:=NZ ks x[i].AU L[m]) b8 h6 m6),λe=>?_,((cq.S_ (g4.trans g5)).T_ m6 av)⟩,by rw[DW,DW];omega⟩;rcases e.1 with e|e;exact av e;omega
end
def HL.T_{b:Nat}{ks:HKs}{h:Hist}(j:HL w0 F W b ks h)(hm:AF M W W')(J:∀x,M x->¬F x/\¬ks.S x/\w0.heap.size<=x):HL w0 F W' b ks h:=⟨j.Yz.T_ hm B_,λx I=>⟨(j.hF x I).1,Mp (j.hF x I).2 hm.size⟩,j.g.next hm B_⟩
def HL.ss{b:Nat}{ks:HKs}{h:Hist}(j:HL w0 F W b ks h):∀x,ks.S x->¬F x:=by
 obtain⟨C,sv,uv,N,O,I⟩:=j.Yz;exact λx J=>(I.ss x J).2
structure EgA where
 b:Nat
 t:TxA
 h:Nat
abbrev yf(sv:b_)(e:EgA)(most:Int)(cv:b_):U_:=[sv,e_ e.t.b,e_ e.h,zIq most,cv]
structure K1 (w0:c_) (Ft Fh Fc:d_) (W:c_) (e:EgA) (cv:b_) (σ:SKs) (most:Int) (d clip:Y_) (H:Hist):Prop where
 box:Bx W e.b (yf σ.sv e most cv)
 tx:KB .f w0 Ft W e.t σ most d
 hi:HL w0 Fh W e.h ⟨σ.ks,σ.S⟩ H
 cl:Be Fc Fc W cv clip
 cw:∀x,Fc x->w0.heap.size<=x/\x<W.heap.size
 bw:w0.heap.size<=e.b/\¬σ.S e.b
 bn:¬Ft e.b/\¬Fh e.b/\¬Fc e.b
 th:∀x,Ft x->¬Fh x/\¬Fc x
 hc:∀x,Fh x->¬Fc x
def Ku(w0:c_)(F:d_)(W:c_)(e:EgA)(σ:SKs)(most:Int)(d clip:Y_)(H:Hist):Prop:=∃Ft Fh Fc cv,K1 w0 Ft Fh Fc W e cv σ most d clip H/\∀x,(x=e.b\/Ft x\/Fh x\/Fc x)->F x
def sA(w0:c_)(F:d_)(W W':c_)(e:EgA)(σ:SKs)(most:Int)(d clip:Y_)(H:Hist):Prop:=∃F',(∀x,F' x->F x\/W.heap.size<=x)/\Ku w0 F' W' e σ most d clip H/\AF F W W'
section
variable {w0:c_}{F Ft Fh Fc:d_}{W W':c_}{e:EgA}{cv:b_}{σ:SKs}{most:Int}{d clip:Y_}{H:Hist} 
def K1.S_(h:K1 w0 Ft Fh Fc W e cv σ most d clip H)(g:AG W W'):K1 w0 Ft Fh Fc W' e cv σ most d clip H:=⟨h.box.S_ g,h.tx.S_ g,h.hi.S_ g,h.cl.S_ g,λx j=>⟨(h.cw x j).1,Mp (h.cw x j).2 g.size⟩,h.bw,h.bn,h.th,h.hc⟩
def Ku.S_(h:Ku w0 F W e σ most d clip H)(g:AG W W'):Ku w0 F W' e σ most d clip H:=by
 obtain⟨j,I,J,N,h,hF⟩:=h;exact⟨j,I,J,N,h.S_ g,hF⟩
def K1.text{d':Y_}(h:K1 w0 Ft Fh Fc W e cv σ most d clip H)(hm:AF Ft W W')(hF:∀x,S x->Ft x\/W.heap.size<=x)(ht:KB .f w0 S W' e.t σ most d'):K1 w0 S Fh Fc W' e cv σ most d' clip H:=by
 have hl:=h.tx.hl;refine ⟨h.box.T_ hm h.bn.1,ht,h.hi.T_ hm λx j=>⟨(h.th x j).1,(hl x j).2.2,(hl x j).1⟩,h.cl.T_ hm (λx _ j e=>(h.th x e).2 j) C0 λr c hc=>hc.T_ hm (λx _ j e=>(h.th x e).2 j) C_,
  λx j=>⟨(h.cw x j).1,Mp (h.cw x j).2 hm.size⟩,h.bw,⟨λJ=>?_,h.bn.2⟩,λx j=>?_,h.hc⟩
 rcases hF _ J with J|J;exact h.bn.1 J;have:=h.box.lt E_;omega;rcases hF _ j with J|J;exact h.th x J;exact⟨λN=>by have:=(h.hi.hF x N).2;omega,(by grind[K1.cw])⟩
def K1.nK{J:d_}{H':Hist}(h:K1 w0 Ft Fh Fc W e cv σ most d clip H)(hm:AF Fh W W')(hF:∀x,J x->Fh x\/W.heap.size<=x)(ht:HL w0 J W' e.h ⟨σ.ks,σ.S⟩ H'):K1 w0 Ft J Fc W' e cv σ most d clip H':=by
 have hl:=h.tx.hl;refine ⟨h.box.T_ hm h.bn.2.1,h.tx.T_ hm λx j=>⟨λI=>(h.th x I).1 j,λI=>h.hi.ss x I j,(h.hi.hF x j).1⟩,ht,h.cl.T_ hm (λx _ j e=>h.hc x e j) C0 λr c hc=>hc.T_ hm (λx _ j e=>h.hc x e j) C_,
  λx j=>⟨(h.cw x j).1,Mp (h.cw x j).2 hm.size⟩,h.bw,⟨h.bn.1,λI=>?_,h.bn.2.2⟩,λx j=>⟨λN=>?_,(h.th x j).2⟩,λx j N=>?_⟩
 rcases hF _ I with I|I;exact h.bn.2.1 I;have:=h.box.lt E_;omega;rcases hF _ N with I|I;exact(h.th x j).1 I;grind;rcases hF _ j with I|I;exact h.hc x I N;have:=(h.cw x N).2;omega
def K1.i(h:K1 w0 Ft Fh Fc W e cv σ most d clip H):Ku w0 (λx=>x=e.b\/Ft x\/Fh x\/Fc x) W e σ most d clip H:=⟨Ft,Fh,Fc,cv,h,M_⟩
theorem K1.lt(h:K1 w0 Ft Fh Fc W e cv σ most d clip H):∀x,(x=e.b\/Ft x\/Fh x\/Fc x)->w0.heap.size<=x/\x<W.heap.size:=by
 rintro x (rfl|j|j|j);exact⟨h.bw.1,h.box.lt E_⟩;exact⟨(h.tx.hl x j).1,(h.tx.hl x j).2.1⟩;exact h.hi.hF x j;exact h.cw x j
theorem K1.T_(h:K1 w0 Ft Fh Fc W e cv σ most d clip H)(hm:AF M W W')(I:∀x,M x->¬(x=e.b\/Ft x\/Fh x\/Fc x)/\¬σ.S x/\w0.heap.size<=x):K1 w0 Ft Fh Fc W' e cv σ most d clip H:=⟨h.box.T_ hm B_,h.tx.T_ hm B_,h.hi.T_ hm B_,h.cl.T_ hm B_ C0 λr c hc=>hc.T_ hm B_ C_,λx j=>⟨(h.cw x j).1,Mp (h.cw x j).2 hm.size⟩,h.bw,h.bn,h.th,h.hc⟩
def Ku.T_(h:Ku w0 F W e σ most d clip H)(hm:AF M W W')(O:∀x,M x->¬F x/\¬σ.S x/\w0.heap.size<=x):Ku w0 F W' e σ most d clip H:=by
 obtain⟨j,I,J,N,h,hF⟩:=h;exact⟨j,I,J,N,(by grind[K1.T_]),hF⟩
def sA.Ma{F':d_}(h:sA w0 F W W' e σ most d clip H)(hF:∀x,F x->F' x):sA w0 F' W W' e σ most d clip H:=by
 obtain⟨N,I,h1,J⟩:=h;exact⟨N,λx j=>(I x j).imp (hF x) id,h1,J.mono λx _ j=>hF x j⟩
def CZ(h:Bx W e.b (yf σ.sv e most v)):l_ 32 [e_ e.b] (λv' w'=>v'=.bool false/\w'=W) W:=by
 refine I_ func32 ?_;refine Dq (AM (AJ ?_));exact fl_i (h.cells 1 _ rfl) (Dq ⟨rfl,rfl⟩)
def kO(h:Ku w0 F W e σ most d clip H):l_ 18 [e_ e.b] (λv' w'=>v'=zIq (d.length:Int)/\AG W w') W:=by
 obtain⟨j,I,J,N,h,hF⟩:=h;refine I_ func18 ?_;apply AA (CZ h.box);rintro _ _ ⟨rfl,rfl⟩;apply AM;apply nfl_i (h.box.cells 1 _ rfl);exact AA (Fe h.tx) C_
def Mu(h:Ku w0 F W e σ most d clip H)(V:∀c∈d,Dw σ.ks c.set)(X:d.length<=536870912) : l_ 11 [e_ e.b] (λv' w'=>G6 W.heap.size W.heap.size w' v' d/\AG W w') W:=by
 obtain⟨Ft,Fh,Fc,cv,h,hF⟩:=h;refine I_ func11 ?_ (.y (.y (.x (.dm [8,9] [0,1,3,7,0,16,48,112,240,511,1023,2047,2047,4095,16383]))));apply AA (CZ h.box);rintro _ _ ⟨rfl,rfl⟩;rename c_=>W;apply AM;have J:=gdr W;have I:=h.S_ J;apply Ac (λ_ _=>False);apply AJ;rw[AE,AH];refine AP ⟨I.box.cells 1 _ rfl,C_⟩ ?_;apply AJ;rw[AE,AH];refine AP ⟨I.box.cells 1 _ rfl,C_⟩ ?_;apply AA (Fe I.tx);rintro _ W1 ⟨rfl,N⟩;refine⟨E,?_⟩;have:=NP (i:=0) (j:=d.length) (I.S_ N).tx (Lc _) (DN _) V X;apply AA this;rintro _ W2 ⟨ov,rfl,hc,Y⟩;refine⟨E,?_⟩;apply BD;rw[WL,aAG] at hc;have z:=(J.trans N).size;obtain⟨D,O,Q⟩:=hc;exact⟨⟨D,AB.BY O λg Z=>by have:=(AB.Am O g Z).1;omega,λx U=>⟨by have:=(Q x U).1;omega,(Q x U).2⟩⟩,(J.trans N).trans Y⟩
end
section
variable {F C:d_}{W:c_}{b:Nat}{sv uv rv ov:b_}{ks:HKs}{mx:Nat}{us rs Ba:Z_}
def L5{q:Nat}{a:Option Addr}{n c:Nat}(h:Au F C W b sv ks uv rv ov mx us rs true Ba)(J:W.cell? ⟨b,q,none⟩=some (.slice a n c)) : l_ 83 [e_ b,.pointer (some ⟨b,q,none⟩),v] (λv' w'=>v'=.tuple #[.agg #[g_,g_],zIq 9]/\AG W w') W:=by
 refine J_ func83 ?_ (.y (.y (.y (.y (.y (.x (.dc [5,6,8] (i_ [0,0,2,6,0,16,62,127,255]) [[5,6]])))))));refine Ce λV X N O I _ Q=>?_;have j:=h.S_ I;apply AJ;refine AI (I.cell J F_) ?_;rw[AO,A6];apply nfl_i (j.cells 5 _ rfl);refine Ab ⟨#[g_,g_],D_,?_⟩;refine BI (vs:=[g_,g_]) rfl (λu hu=>by simp at hu;subst hu;rfl) E λU m hc _=>?_;exact AX rfl hc (by grind[AF.next])
def TN(h:IU Hb 2 (CL C) W uv us):∃a n c,uv=.slice a n c:=by
 obtain⟨a,c,e,_⟩:=h.sl C0;grind
end
section
variable {F:d_}{W:c_}{b:Nat}{ks:HKs}{h:Hist}
def cZ(Y:Fa F W b ks h)(Q:h.op=true) : l_ 41 [e_ b] (λv' w'=>∃cv,v'=.tuple #[cv,zIq 9]/\AG W w') W:=by
 refine I_ func41 ?_ (.y (.y (.cut [4,5] [(4,5),(9,19)] (.dt [7,11,12] (i_ [0,0,2,6,0,16,48,127,255,511,511,0,3071,8191]) [[7]] (.op 0 (.op 1 (.op 2 (.op 3 (.op 4 (.op 5 (.op 6 (.br (.op 7 (.op 8 (.op 9 (.op 10 (.op 11 (.op 12 (.op 13 .nil))))))) (.op 11 (.op 7 (.op 8 (.op 9 (.op 10 (.op 12 (.op 13 .nil)))))))))))))))) .nil)));apply AA (FJ Y);rintro _ _ ⟨rfl,rfl⟩;rename c_=>W;obtain⟨C,sv,uv,rv,ov,N⟩:=Y;rw[Q] at N;obtain⟨ua,un,uc,rfl⟩:=TN N.Wv;rw[Aj];apply AM;refine AT (λvs X=>∃J,vs=[e_ J,zIq 9]/\(∀j v,([g_,g_]:U_)[j]?=some v->X.cell? ((⟨J,0,none⟩:Addr).add j)=some v)/\AG W X) ?_ ?_;rintro _ X ⟨J,rfl,hc,g2⟩ _;simp only[Ha];rw[AE];apply AI (hc 1 _ rfl);apply AA (EK (S:=λ_=>False) (D:=λ_=>False) (x:=[]) Al.nil (by simp[Av]));grind[AF.trans];have O:=gdr W;have zd:W.drew.heap.size=W.heap.size:=rfl;apply Ac (λk y=>k=12/\W.heap.size<=y);apply AJ;rw[AE,AH];apply AJ;rw[AE,AH];refine⟨?_,?_⟩;refine AA (L5 (q:=3) (N.S_ O) (O.cell (N.cells 3 _ rfl) F_)) ?_;rintro _ w5 ⟨rfl,Z⟩;refine⟨B_,?_⟩;apply BD;refine Ce λJ w6 U a1 g6 _ a6=>⟨B_,?_⟩;have z5:=Z.size;refine BI (vs:=[g_,g_]) rfl (λu hu=>by simp at hu;subst hu;rfl) E λw7 m7 I _=>⟨(by grind[AF.mono]),J,rfl,I,(by grind[AF.trans,AF.next])⟩;refine Ce λJ w8 U a7 V _ a8=>⟨B_,?_⟩;have z8:=V.size;refine AA (L5 (q:=3) ((N.S_ O).S_ V) (V.cell (O.cell (N.cells 3 _ rfl) F_) F_)) ?_;rintro _ w9 ⟨rfl,g9⟩;refine⟨B_,?_⟩;apply BD;refine BI (vs:=[g_,g_]) rfl (λu hu=>by simp at hu;subst hu;rfl) (by grind[Bg.T_]) λw7 m7 I _=>⟨(by grind[AF.mono]),J,rfl,I,(by grind[AF.trans,AF.next])⟩
def bF(Y:Fa F W b ks h)(Q:h.op=true) : l_ 43 [e_ b] (λv' w'=>∃cv,v'=.tuple #[cv,zIq 9]/\AG W w') W:=by
 refine I_ func43 ?_ (.y (.y (.cut [4,5] [(4,5),(9,19)] (.dt [7,11,12] (i_ [0,0,2,6,0,16,48,127,255,511,511,0,3071,8191]) [[7]] (.op 0 (.op 1 (.op 2 (.op 3 (.op 4 (.op 5 (.op 6 (.br (.op 7 (.op 8 (.op 9 (.op 10 (.op 11 (.op 12 (.op 13 .nil))))))) (.op 11 (.op 7 (.op 8 (.op 9 (.op 10 (.op 12 (.op 13 .nil)))))))))))))))) .nil)));apply AA (FJ Y);rintro _ _ ⟨rfl,rfl⟩;rename c_=>W;obtain⟨C,sv,uv,rv,ov,N⟩:=Y;rw[Q] at N;obtain⟨ua,un,uc,rfl⟩:=TN N.Yk;rw[Aj];apply AM;refine AT (λvs X=>∃J,vs=[e_ J,zIq 9]/\(∀j v,([g_,g_]:U_)[j]?=some v->X.cell? ((⟨J,0,none⟩:Addr).add j)=some v)/\AG W X) ?_ ?_;rintro _ X ⟨J,rfl,hc,g2⟩ _;simp only[Ha];rw[AE];apply AI (hc 0 _ rfl);apply AA (EK (S:=λ_=>False) (D:=λ_=>False) (x:=[]) Al.nil (by simp[Av]));grind[AF.trans];have O:=gdr W;have zd:W.drew.heap.size=W.heap.size:=rfl;apply Ac (λk y=>k=12/\W.heap.size<=y);apply AJ;rw[AE,AH];apply AJ;rw[AE,AH];refine⟨?_,?_⟩;refine AA (L5 (q:=4) (N.S_ O) (O.cell (N.cells 4 _ rfl) F_)) ?_;rintro _ w5 ⟨rfl,Z⟩;refine⟨B_,?_⟩;apply BD;refine Ce λJ w6 U a1 g6 _ a6=>⟨B_,?_⟩;have z5:=Z.size;refine BI (vs:=[g_,g_]) rfl (λu hu=>by simp at hu;subst hu;rfl) E λw7 m7 I _=>⟨(by grind[AF.mono]),J,rfl,I,(by grind[AF.trans,AF.next])⟩;refine Ce λJ w8 U a7 V _ a8=>⟨B_,?_⟩;have z8:=V.size;refine AA (L5 (q:=4) ((N.S_ O).S_ V) (V.cell (O.cell (N.cells 4 _ rfl) F_) F_)) ?_;rintro _ w9 ⟨rfl,g9⟩;refine⟨B_,?_⟩;apply BD;refine BI (vs:=[g_,g_]) rfl (λu hu=>by simp at hu;subst hu;rfl) (by grind[Bg.T_]) λw7 m7 I _=>⟨(by grind[AF.mono]),J,rfl,I,(by grind[AF.trans,AF.next])⟩
end
structure Cx (w W0:c_) (Sx Dx Sy Dy:d_) (b c d:Nat):Prop where
 b1:w.heap.size<=b
 c1:w.heap.size<=c
 d1:w.heap.size<=d
 b2:b<W0.heap.size
 c2:c<W0.heap.size
 d2:d<W0.heap.size
 bc:b≠c
 bd:b≠d
 cd:c≠d
 x:∀z,Sx z\/Dx z->z<w.heap.size
 y:∀z,Sy z\/Dy z->z<w.heap.size
def fY(W0 W:c_)(b:Nat)(F:d_):Prop:=∀z,F z->(z=b\/W0.heap.size<=z)/\z<W.heap.size
section
variable {w W0 W W' We:c_}{Sx Dx Sy Dy F:d_}{b c d:Nat}{u v:U'}{s s':MkS}
def Cx.after(j:Cx w W0 Sx Dx Sy Dy b c d)(hF:fY W0 W b F)(N:X5 W F We b s')(Q:NU Sx Dx W c u)(rv:NU Sy Dy W d v)(g:AG w W)(h0:W0.heap.size<=W.heap.size) : (∃F',El F' We b s'/\fY W0 We b F')/\NU Sx Dx We c u/\NU Sy Dy We d v/\AG w We/\W0.heap.size<=We.heap.size:=by
 obtain⟨F',h1,J,O⟩:=N;have U:¬F c:=λe=>by have:=(hF c e).1;have:=j.bc;have:=j.c2;omega
 have V:¬F d:=λe=>by have:=(hF d e).1;have:=j.bd;have:=j.d2;omega
 have X:∀z,z<w.heap.size->¬F z:=λz I e=>by have:=(hF z e).1;have:=j.b1;have:=j.b2;omega
 refine⟨⟨F',h1,λz I=>⟨?_,(J z I).2⟩⟩,(by grind[NU.T_,Cx.x]),(by grind[NU.T_,Cx.y]),(by grind[AF.next]),py h0 O.size⟩;rcases(J z I).1 with e|e;exact(hF z e).1;omega
def Cx.lZ(I:Cx w W0 Sx Dx Sy Dy b c d)(hm:El F W b s)(hF:fY W0 W b F)(m:AF (λz=>z=c) W W')(rv:NU Sy Dy W d v)(g:AG w W)(h0:W0.heap.size<=W.heap.size) : El F W' b s/\fY W0 W' b F/\NU Sy Dy W' d v/\AG w W'/\W0.heap.size<=W'.heap.size:=by
 have:=I.bc;have:=I.c2;have:=I.c1;have:=I.cd;refine⟨hm.T_ m λz j e=>by have:=(hF z j).1;omega,λz j=>⟨(hF z j).1,Mp (hF z j).2 m.size⟩,rv.T_ m E (λz j e=>by have:=I.y z (.inl j);omega) λz j e=>by have:=I.y z (.inr j);omega,(by grind[AF.next]),py h0 m.size⟩
def Cx.tR(I:Cx w W0 Sx Dx Sy Dy b c d)(hm:El F W b s)(hF:fY W0 W b F)(m:AF (λz=>z=d) W W')(J:NU Sx Dx W c u)(g:AG w W)(h0:W0.heap.size<=W.heap.size) : El F W' b s/\fY W0 W' b F/\NU Sx Dx W' c u/\AG w W'/\W0.heap.size<=W'.heap.size:=by
 have:=I.bd;have:=I.d2;have:=I.d1;have:=I.cd;refine⟨hm.T_ m λz j e=>by have:=(hF z j).1;omega,λz j=>⟨(hF z j).1,Mp (hF z j).2 m.size⟩,J.T_ m E (λz j e=>by have:=I.x z (.inl j);omega) λz j e=>by have:=I.x z (.inr j);omega,(by grind[AF.next]),py h0 m.size⟩
def Cx.AAj(hm:El F W b s)(hF:fY W0 W b F)(g:AG W W'):El F W' b s/\fY W0 W' b F:=⟨hm.T_ g C_,λz j=>⟨(hF z j).1,Mp (hF z j).2 g.size⟩⟩
end
section
variable {ks:X'}
def NL(o:Dop)(x:U'):BB (o::x)=Ah o+BB x:=by simp[BB]
def KE{o:Dop}{x:U'}:CT (Ah o) (o::x)=x:=by simp[CT]
def SH{A_ S D S' D':d_}{sv xv yv:b_}{x y:U'}(bx:ks.length<=64)(hS:CG A_ w sv ks)(hx:Ag S D w xv x)(hy:Ag S' D' w yv y)(hT:CH w)(gx:∀o∈x,An ks o/\nS o)(gy:∀o∈y,An ks o/\nS o)(mx:Bl ks x=0)(my:Bl ks y=0)(hb:BB x+BB y<=2147483648)(gf:EF CU (Lb ks x y)<=536870912)(gg:EF Cr (Lb ks x y)<=536870912) : l_ 256 [sv,xv,yv] (λv' w'=>∃zv,v'=.tuple #[zv,zIq 0]/\Bs w.heap.size w' zv (Lb ks x y)/\AG w w') w:=by
 refine J_ func256 ?_ (.y (.y (.y (.y (.y (.z (.node [] [(12,12),(28,60)] .nil .nil) (.x (.node [] [(61,67)] .nil .nil))))))));apply AA (rH hS hx hy hT B_ B_ mx my);rintro _ w1 ⟨rfl,g1⟩;refine neP (λ_=>?_) λe=>(e rfl).elim;apply AA Lw;rintro _ w2 ⟨g2,b,gl,gm,rfl,dT⟩;have e4:=Ag.JW hx;have e5:=Ag.JW hy;have z1:=g1.size;obtain⟨xa,xc,rfl,_⟩:=hx.AK;obtain⟨ya,yc,rfl,_⟩:=hy.AK;refine⟨#[.slice xa x.length xc,zIq 0],D_,?_⟩;refine CN (vs:=[.slice xa x.length xc,zIq 0]) λc w3 hc gq g3 c4 e6=>⟨#[.slice ya y.length yc,zIq 0],D_,?_⟩;refine CN (vs:=[.slice ya y.length yc,zIq 0]) λd w4 hd gw g4 c6 e7=>?_;have ba:=((g1.trans g2).trans g3).trans g4;have O:Cx w w4 (λz=>S z/\z<w.heap.size) (λz=>D z/\z<w.heap.size) (λz=>S' z/\z<w.heap.size) (λz=>D' z/\z<w.heap.size) b c d:=
  ⟨E,E,E,E,E,E,E,E,E,E,E⟩
 have rx:NU (λz=>S z/\z<w.heap.size) (λz=>D z/\z<w.heap.size) w4 c x:=by
  refine⟨_,x,0,⟨by have:=g4.cell (c4 0 _ rfl) F_;rwa [AH] at this,by have:=g4.cell (c4 1 _ rfl) F_;rwa [AH] at this,λj hj=>by have:=(e6 j hj).T_ g4 F_;rwa [AH] at this,Ag.S_ e4 ba,E,(by grind[An.Sc,HN])⟩,λo r e=>by have:=(An.m (gx o (by rw[e];simp)).1).2;omega,?_⟩;cases x<;>grind[JR,UQ]
 have ry:NU (λz=>S' z/\z<w.heap.size) (λz=>D' z/\z<w.heap.size) w4 d y:=by
  refine⟨_,y,0,⟨by have:=c6 0 _ rfl;rwa [AH] at this,by have:=c6 1 _ rfl;rwa [AH] at this,λj hj=>by have:=e7 j hj;rwa [AH] at this,Ag.S_ e5 ba,E,(by grind[An.Sc,HN])⟩,λo r e=>by have:=(An.m (gy o (by rw[e];simp)).1).2;omega,?_⟩;cases y<;>grind[JR,UQ]
 have e8:Fk (E3 ks) (EX ks) MkS.z 0:=⟨by simp[MkS.z],by simp[MkS.z],by simp[MkS.z],by simp[MkS.z,BB]⟩;generalize (λz=>S z/\z<w.heap.size)=Sx at O rx;generalize (λz=>D z/\z<w.heap.size)=Dx at O rx;generalize (λz=>S' z/\z<w.heap.size)=Sy at O ry;generalize (λz=>D' z/\z<w.heap.size)=Dy at O ry;have hE:CG (λz=>A_ z/\z<w.heap.size) w sv ks:=by grind[CG.sub]
 have nF:∀{W:c_} {F:d_},fY w4 W b F->∀z,z<w.heap.size->¬F z:=λhF z U e=>by have:=(hF z e).1;omega
 refine Aa (λvs W=>∃(u v:U') (s:MkS) (F:d_) (t:Nat),vs=[]/\El F W b s/\fY w4 W b F/\Fk (E3 ks) (EX ks) s t/\t+BB u+BB v<=BB x+BB y/\NU Sx Dx W c u/\NU Sy Dy W d v/\(∀o∈u,SP ks o)/\(∀o∈v,SP ks o)/\SX ks s u v=SX ks MkS.z x y/\AG w W/\w4.heap.size<=W.heap.size)
  (λ_ W=>Fx W c+Fx W d) ⟨x,y,MkS.z,_,0,rfl,dT.T_ (g3.trans g4) C_,λz U=>⟨.inl U,by subst U;omega⟩,e8,E,rx,ry,HN mx,HN my,rfl,ba,DN _⟩ ?_
 rintro _ W ⟨u,v,s,F,t,rfl,hm,hF,hs,b6,ru,rv,gu,gv,J,g,h0⟩ _;have bb:∀{q:U'} {o:Dop},o∈q->Ah o<=BB q:=MJ;apply AA (Lo rv);rintro _ _ ⟨rfl,rfl⟩;rw[Aj];cases v with
 |nil=>
  rw[ys rfl];apply AM;rw[vw λo ho=>An.Sc (gu o ho).1 (gu o ho).2] at J;refine Aa (λvs W=>∃(u:U') (s:MkS) (F:d_) (t:Nat),vs=[]/\El F W b s/\fY w4 W b F/\Fk (E3 ks) (EX ks) s t/\t+BB u<=BB x+BB y/\NU Sx Dx W c u/\NU Sy Dy W d []/\(∀o∈u,SP ks o)/\u.foldl BF s=SX ks MkS.z x y/\AG w W/\w4.heap.size<=W.heap.size)
   (λ_ W=>Fx W c) ⟨u,s,F,t,rfl,hm,hF,hs,E,ru,rv,gu,J,g,h0⟩ ?_
  rintro _ W ⟨u,s,F,t,rfl,hm,hF,hs,b6,ru,rv,gu,J,g,h0⟩ _;apply AA (Lo ru);rintro _ _ ⟨rfl,rfl⟩;rename c_=>W;rw[Aj];cases u with
  |nil=>
   rw[ys rfl];apply AM;subst J;obtain⟨q1,q2,q3⟩:=hs.tJ E;apply AA (LR hm q1);rintro zv w5 ⟨oz,g5⟩;have ez:Sm (SX ks MkS.z x y)=Lb ks x y:=rfl;rw[ez] at oz;apply AA (MD (Bs.sl oz));rintro _ w6 ⟨rfl,g6⟩;refine gtP E λ_=>?_;apply AA (O9 (Ag.S_ (Bs.sl oz) g6));rintro _ w7 ⟨rfl,g7⟩;refine gtP E λ_=>?_;refine⟨zv,rfl,?_,((g.trans g5).trans g6).trans g7⟩;have o7:=Bs.S_ oz (g6.trans g7) E';unfold Bs at o7 ⊢;refine AB.BY (AB.T_ o7 j0 C_ λr o _ ho=>ho.T_ j0 E' B_) λz U=>by have:=(AB.Am o7 z U).1;omega
  |cons o u=>
   rw[zk E_];apply Ab;obtain⟨ho,e9⟩:=gu o E_;have ea:=bb (show o∈o::u by simp);have op:=An.Sc ho E;apply AA (Ln ru (n:=536870912) C0 C0);rintro _ W1 ⟨r,o',u',rfl,hr,V,m1,⟨e,_⟩|⟨o1,u1,e,rfl,rfl,b7⟩⟩;simp at e;cases e;have I:min 536870912 (Ah o)=Ah o:=E;rw[I,MP op] at hr;rw[I,KE] at V;obtain⟨av,N,X,ax,ay⟩:=O.lZ hm hF m1 rv g h0;rw[NL] at b6;apply AA (Uj av hr (λz U e=>nF N z (O.x z (.inr U)) e) hs ho E);rintro _ W2 hL;obtain⟨⟨F2,a6,a7⟩,a8,Z,b0,aa⟩:=O.after N hL V X ax ay;refine⟨⟨u,BF s o,F2,t+Ah o,rfl,a6,a7,(by grind[Gm]),E,a8,Z,B_,J,b0,aa⟩,?_⟩;obtain⟨_,_,_,mL⟩:=hL;rw[V.DT mL λe=>by have:=(N c e).1;omega];exact b7
 |cons o v=>
  rw[zk E_];apply Ab;obtain⟨ho,e9⟩:=gv o E_;have ea:=bb (show o∈o::v by simp);have op:=An.Sc ho E;apply AA (XZ rv);rintro _ _ ⟨rfl,rfl⟩;refine eqP (λk2=>?_) λk2=>?_;rw[vq op k2] at J;apply AA (Ln rv (n:=536870912) C0 C0);rintro _ W1 ⟨r,o',v',rfl,hr,X,m1,⟨e,_⟩|⟨o1,v1,e,rfl,rfl,b7⟩⟩;simp at e;cases e;have I:min 536870912 (Ah o)=Ah o:=E;rw[I,MP op] at hr;rw[I,KE] at X;obtain⟨av,N,V,ax,ay⟩:=O.tR hm hF m1 ru g h0;rw[NL] at b6;apply AA (Uj av hr (λz U e=>nF N z (O.y z (.inr U)) e) hs ho E);rintro _ W2 hL;obtain⟨⟨F2,a6,a7⟩,a8,Z,b0,aa⟩:=O.after N hL V X ax ay;refine⟨⟨u,v,BF s o,F2,t+Ah o,rfl,a6,a7,(by grind[Gm]),E,a8,Z,gu,B_,J,b0,aa⟩,?_⟩;obtain⟨_,_,_,mL⟩:=hL;rw[V.DT mL λe=>by have:=(N c e).1;omega,X.DT mL λe=>by have:=(N d e).1;omega,ru.DT m1 O.cd];omega;apply AA (XZ ru);rintro _ _ ⟨rfl,rfl⟩;rename c_=>W;rw[CI];have c7:∀(a:Dop) (n:Nat),1<=n->n<=Ah o->(u=[]/\a=⟨1,n,[],[],[]⟩/\n=Ah o\/∃Y u1,u=Y::u1/\Y.AR≠3/\n=min (Ah Y) (Ah o)/\a=ER n Y)->
    An ks a/\Ah a=n/\a.AR≠3/\SX ks (IM ks s a (ER n o)) (CT n u) (CT n (o::v))=SX ks MkS.z x y/\BB (CT n u)+BB (CT n (o::v))+n<=BB u+BB (o::v):=by
   intro a n ak an hc;have tv:=N8 (x:=v) an;rcases hc with⟨rfl,rfl,rfl⟩|⟨Y,u1,rfl,k3,I,rfl⟩;refine⟨.inl ⟨rfl,rfl,rfl,by simp only;omega,Io⟩,by simp[Ah],E_,?_,?_⟩;rw[pZ op k2] at J;rw[MP op,KE];exact J;grind[CT];obtain⟨ga,ec⟩:=gu Y E_;have na:n<=Ah Y:=E;have tu:=N8 (x:=u1) na;refine⟨TU ga ak na,Lz na,by grind[KJ],?_,E⟩;rw[qT (An.Sc ga E) op k3 k2 I] at J;exact J
  have step:(∀ Y u1,u=Y :: u1->Y.AR≠3)->l_ 333 [e_ c] (λed ee=>l_ 333 [e_ d] (λfy ef=>QB .i64 ed fy λc8=>
    l_ 332 [e_ c,c8] (λeh ej=>l_ 332 [e_ d,c8] (λek eo=>l_ 334 [sv,e_ b,eh,ek] (λ_ W'=>
     (∃ (u v:U') (s:MkS) (F:d_) (t:Nat),([]:U_)=[]/\El F W' b s/\fY w4 W' b F/\Fk (E3 ks) (EX ks) s t/\t+BB u+BB v<=BB x+BB y/\NU Sx Dx W' c u/\NU Sy Dy W' d v/\(∀ o ∈ u,SP ks o)/\(∀ o ∈ v,SP ks o)/\SX ks s u v=SX ks MkS.z x y/\AG w W'/\w4.heap.size<=W'.heap.size)/\Fx W' c+Fx W' d < Fx W c+Fx W d) eo) ej) ef) ee) W:=by
   refine λep=>AA (WA ru) ?_;rintro _ W1 ⟨rfl,c9⟩;have X:=rv.T_ c9 F_ C_ C_;apply AA (WA X);rintro _ W2 ⟨rfl,er⟩;have Q:=c9.trans er;have a8:=ru.T_ Q F_ C_ λ_ _ h=>h;have Z:=rv.T_ Q (λh=>h) (λ_ _ h=>h) λ_ _ h=>h;obtain⟨a6,a7⟩:=Cx.AAj hm hF Q;have et:=g.trans Q;have aa:=py h0 Q.size;have gA:=ru.DT Q λh=>h;have gB:=rv.DT Q λh=>h;rw[Hh];obtain⟨n,hn⟩:∃n:Nat,n=min (OO u) (Ah o):=⟨_,rfl⟩;have en:(if((OO (o::v):Nat):Int)<((OO u:Nat):Int) then((OO (o::v):Nat):Int) else((OO u:Nat):Int))=(n:Int):=by
    rw[NS];omega
   rw[en];have ca:=op.DA;have ak:1<=n:=by
    cases u with
    |nil=>rw[Th,Nat.min_eq_right op.le] at hn;rw[hn];exact ca
    |cons a u1=>have:=(An.m (gu a (by simp)).1).2;rw[NS] at hn;omega
   have an:n<=Ah o:=by omega
   apply AA (Ln a8 (n:=n) ak (by omega));rintro _ W3 ⟨r,a,u',rfl,hr,cc,m3,bk⟩;obtain⟨eu,ew,eA,eB,eC⟩:=O.lZ a6 a7 m3 Z et aa;apply AA (Ln eA (n:=n) ak (by omega));rintro _ W4 ⟨r2,o2,v2,rfl,cq,bl,m4,⟨e,_⟩|⟨o1,v1,e,rfl,rfl,b7⟩⟩
   .simp at e
   cases e;have bp:min n (Ah o)=n:=by omega
   rw[bp] at cq bl;obtain⟨eH,al,cu,b9,eI⟩:=O.tR eu ew m4 cc eB eC;have eL:(u=[]/\a=⟨1,n,[],[],[]⟩/\n=Ah o\/∃Y u1,u=Y::u1/\Y.AR≠3/\n=min (Ah Y) (Ah o)/\a=ER n Y)/\u'=CT n u/\Fx W3 c<=Fx W2 c:=by
    rcases bk with⟨hu,ha,b8,da⟩|⟨Y,u1,hu,ha,b8,da⟩
    .subst hu;rw[Th,Nat.min_eq_right op.le] at hn;exact⟨.inl ⟨rfl,ha,by omega⟩,b8,by omega⟩
    .subst hu;rw[NS] at hn;have bs:min n (Ah Y)=n:=by omega
     rw[bs] at ha b8;exact⟨.inr ⟨Y,u1,rfl,ep _ _ rfl,hn,ha⟩,b8,by omega⟩
   obtain⟨dk,rfl,gb⟩:=eL;obtain⟨ga,la,ka,dr,gd⟩:=c7 a n ak an dk;have dz:=TU ho ak an;have eN:=hr.T_ m4 (λz _ U e=>by have:=O.x z (.inr U);omega) λ_ _ h=>h;have eR:=hE.S_ b9;apply AA (oq bx eR (λz U e=>nF al z U.2 e) eH (λz U=>(al z U).2) eN (λz U e=>nF al z (O.x z (.inr U)) e) cq (λz U e=>nF al z (O.y z (.inr U)) e) hs ga dz (by omega) (by rw[la,Lz an]) (by rw[KJ];exact k2));rintro _ W5 hL;obtain⟨⟨F5,eX,fa⟩,fo,fs,fv,fx⟩:=O.after al hL cu bl b9 eI;refine⟨⟨CT n u,CT n (o::v),_,F5,t+n,rfl,eX,fa,eF bx hs ga dz la (Lz an) (by rw[KJ];exact k2) ka ak (by omega),by omega,fo,fs,OC gu,OC gv,dr,fv,fx⟩,?_⟩;obtain⟨_,_,_,mL⟩:=hL;have e1:Fx W5 c=Fx W3 c:=by rw[cu.DT mL λe=>by have:=(al c e).1;omega,cc.DT m4 O.cd]
   have e2:=bl.DT mL λe=>by have:=(al d e).1;omega
   have e3:=Z.DT m3 λe=>O.cd e.symm;omega
  cases u with
  |nil=>exact Ae (λe=>by simp[iN] at e) λ_=>step λY u1 e=>by simp at e
  |cons a u=>
   refine Ae (λk3=>?_) λk3=>step λY u1 e=>by cases e;exact k3
   obtain⟨ga,ec⟩:=gu a (by simp);have gD:=bb (show a∈a::u by simp);have oa:=An.Sc ga (by omega);rw[vQ oa op k3 k2] at J;apply AA (Ln ru (n:=536870912) (by decide) (by decide));rintro _ W1 ⟨r,o',u',rfl,hr,V,m1,⟨e,_⟩|⟨o1,u1,e,rfl,rfl,b7⟩⟩
   .simp at e
   cases e;have I:min 536870912 (Ah a)=Ah a:=by omega
   rw[I,MP oa] at hr;rw[I,KE] at V;obtain⟨av,N,X,ax,ay⟩:=O.lZ hm hF m1 rv g h0;rw[NL a u] at b6;apply AA (Uj av hr (λz U e=>nF N z (O.x z (.inr U)) e) hs ga (by omega));rintro _ W2 hL;obtain⟨⟨F2,a6,a7⟩,a8,Z,b0,aa⟩:=O.after N hL V X ax ay;refine⟨⟨u,o::v,BF s a,F2,t+Ah a,rfl,a6,a7,Gm hs ga (by omega),by omega,a8,Z,λq hq=>gu q (by simp[hq]),gv,J,b0,aa⟩,?_⟩;obtain⟨_,_,_,mL⟩:=hL;rw[V.DT mL λe=>by have:=(N c e).1;omega,X.DT mL λe=>by have:=(N d e).1;omega,rv.DT m1 λe=>O.cd e.symm];omega
end
end Go.Proofs.YtjdgbcdfgnajlaaGreatDoor
