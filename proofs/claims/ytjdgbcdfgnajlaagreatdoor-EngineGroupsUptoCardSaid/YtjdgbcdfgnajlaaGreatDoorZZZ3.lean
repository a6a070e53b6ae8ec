/- parts of the proof, written short by a program of ours -/
import Derived.Test.YtjdgbcdfgnajlaaGreatDoorZZZ2
set_option linter.all false
set_option maxRecDepth 100000
namespace Go.Proofs.YtjdgbcdfgnajlaaGreatDoor
open Go Proofs.Tryz
variable {c:Nat}{S F C M:d_}{w W w' W':c_}{v:b_}{most:Int}{cs vs args:U_}{α:Type}{K:Cont}{P:Program}
structure Bx (W:c_) (b:Nat) (vs:U_):Prop where
 cells:∀j v,vs[j]?=some v->W.cell? ⟨b,j,none⟩=some v
 Cq:∀j,j<vs.length->Bg W ⟨b,j,none⟩
def Bx.T_{b:Nat}(h:Bx W b vs)(hm:AF M W W')(I:¬M b):Bx W' b vs:=
 ⟨(by grind[AF.cell,Bx.cells]),λj J=>(h.Cq j J).T_ hm I⟩
theorem Bx.S_{b:Nat}(h:Bx W b vs)(hm:AG W W'):Bx W' b vs:=h.T_ hm F_
def Bx.GJ{b n:Nat}(h:Bx W b vs)(j:vs.length=n)(I:K (.agg vs.toArray) W):DJ n (e_ b) K W:=
 AX j (by grind[AH,Bx.cells]) I
def Bx.st{b q:Nat}{u:b_}{K:c_->Prop}(h:Bx W b vs)(j:q<vs.length)(h1:u.oneCell'=true)(I:u.cells=#[u])(J:∀W',Bx W' b (vs.set q u)->AF (λx=>x=b) W W'->K W'):Cc (.pointer (some ⟨b,q,none⟩)) u K W:=DC h.cells h.Cq j h1 I λW' hm hc hl=>J W' ⟨hc,hl⟩ hm
theorem Bx.Ax{b n:Nat}{vs us:U_}{K:c_->Prop}(h:Bx W b vs)(j:us.length=n)(hl:vs.length=n)(h1:∀v∈us,v.oneCell'=true)(I:∀W',Bx W' b us->AF (λx=>x=b) W W'->K W'):Bv n (e_ b) (.agg us.toArray) K W:=
 BI j h1 (by grind[AH,Bx.Cq]) λW' hm hc J=>I W' ⟨(by grind[AH]),(by grind[Bx.Cq])⟩ hm
def Bx.new{t:TypeId}{n:Nat}{K:b_->c_->Prop}(J:vs.length=n)(hl:cs.length=n)(h1:∀v∈vs,v.oneCell'=true)(h:∀b j,w.heap.size<=b->AG w j->Bx j b vs->K (e_ b) j) :
  Cv t cs (λt5 N=>Bv n t5 (.agg vs.toArray) (λw4=>K t5 w4) N) w:=
 BA J hl h1 λb j hb _ O hc Q=>h b j E O ⟨(by grind[AH]),(by grind[AH])⟩
def Bx.zero{t:TypeId}(h:∀b j,w.heap.size<=b->AG w j->Bx j b cs->K (e_ b) j):Cv t cs K w:=
 Ce λb j hb _ J hc N=>h b j E J ⟨(by grind[AH]),(by grind[AH])⟩
theorem Bx.box{t:TypeId}(h:∀b j,w.heap.size<=b->AG w j->Bx j b vs->K (e_ b) j):JK t (.agg vs.toArray) K w:=
 CN λb j hb _ I hc J=>h b j E I ⟨(by grind[AH]),(by grind[AH])⟩
def BL{ok:Nat->Bool}{f:b_}{K j:Cont}(h:Bb P ok f args K w)(hk:∀v w',K v w'->j v w'):Bb P ok f args j w:=by
 obtain⟨a,b,c,I,J,h⟩:=h;exact⟨a,b,c,I,J,AA h hk⟩
theorem Bx.lt{b:Nat}(h:Bx W b vs)(j:0<vs.length):b<W.heap.size:=lA W _ (h.cells 0 vs[0] (by simp[j]))
section
variable {α:Type}{g:AvT α}
def Ap{r:U_}{n:Nd α}{A_:Nat}(hr:r.length=A_)(j:Nat):(r++Bu n)[A_+j]?=(Bu n)[j]?:=by
 grind
def Dj{r:U_}{n:Nd α}{A_:Nat}(hr:r.length=A_)(j:Nat)(u:b_):(r++Bu n).set (A_+j) u=r++(Bu n).set j u:=by
 grind
theorem BZ{r:U_}{x:α}(n:Nd α)(hr:g.R C w r x):(r++Bu n).length=g.E+5:=by rw[Bp,g.rlen hr];rfl
def Kc{r:U_}{x:α}(n:Nd α)(hr:g.R C w r x):∀u∈r++Bu n,u.oneCell'=true:=by grind[AvT.rone,Jq]
def Li:g.toAvK.zN.length=g.E+5:=by rw[AvK.zN,Bp,g.zlen];rfl
abbrev sO(g:AvT α)(c:Nat)(j:Int):U_:=[g.vm,g.vc,g.vd,e_ c,zIq j]
structure jH (g:AvT α) (F C:d_) (W:c_) (b c:Nat) (rt:Int) (A:ArS α) (pl fr:b_):Prop where
 box:Bx W b (sO g c rt)
 ar:FG g (λx=>F x/\x≠b) C W c A pl fr
 fb:F b/\¬C b
abbrev Fb(F:d_)(b:Nat):d_:=λy=>F y/\y≠b
def Ea(g:AvT α)(F C:d_)(W:c_)(b:Nat)(j:Int)(A:ArS α):Prop:=∃c pl fr,jH g F C W b c j A pl fr
def jH.T_{b c:Nat}{j:Int}{A:ArS α}{pl fr:b_}(h:jH g F C W b c j A pl fr)(hm:AF M W W')(I:∀x,F x\/C x->¬M x):jH g F C W' b c j A pl fr:=⟨h.box.T_ hm (I b (.inl h.fb.1)),h.ar.T_ hm B_,h.fb⟩
theorem Ea.T_{b:Nat}{j:Int}{A:ArS α}(h:Ea g F C W b j A)(hm:AF M W W')(I:∀x,F x\/C x->¬M x):Ea g F C W' b j A:=by
 obtain⟨c,pl,fr,h⟩:=h;exact⟨c,pl,fr,h.T_ hm I⟩
def Ea.S_{b:Nat}{j:Int}{A:ArS α}(h:Ea g F C W b j A)(hm:AG W W'):Ea g F C W' b j A:=by grind[Ea.T_]
theorem Ea.lt{b:Nat}{j:Int}{A:ArS α}(h:Ea g F C W b j A):∀x,F x\/C x->x<W.heap.size:=by
 obtain⟨c,pl,fr,h⟩:=h;intro x I;by_cases e:x=b;subst e;exact h.box.lt (P9 _);exact h.ar.lt x B_
def Ea.NO{b:Nat}{j:Int}{A:ArS α}(h:Ea g F C W b j A):∀x,F x->¬C x:=by
 obtain⟨c,pl,fr,h⟩:=h;intro x I;by_cases e:x=b;grind[jH.fb];exact h.ar.NO x ⟨I,e⟩
theorem Ea.fb{b:Nat}{j:Int}{A:ArS α}(h:Ea g F C W b j A):F b:=by obtain⟨c,pl,fr,h⟩:=h;exact h.fb.1
def Ea.ok{b:Nat}{j:Int}{A:ArS α}(h:Ea g F C W b j A):A.Ok:=by obtain⟨c,pl,fr,h⟩:=h;exact h.ar.ok
def Yj{b i:Nat}{A:ArS α}{n:Nd α}(h:Ea g F C W b most A)(hi:A.f i=some n) : l_ g.fat [e_ b,zIq i] (λv' w'=>∃r,v'=.agg (r++Bu n).toArray/\g.R C w' r n.x/\AG W w') W:=by
 apply g.ok.nU;unfold Gat;refine Bx.zero λb4 w1 Z N B4=>?_;obtain⟨c,pl,fr,O⟩:=h;have j:=O.T_ N C_;apply nfl_i (j.box.cells 3 _ rfl);apply AA (vj j.ar hi);rintro _ w2 ⟨r,rfl,hr,Q⟩;apply BD;have hl:=BZ n hr;have U:=Kc n hr;refine Bx.new hl Li U λb5 w3 a1 V B5=>?_;apply B5.GJ hl;refine((B4.S_ Q).S_ V).Ax hl (Li) U λw4 I X=>?_;apply I.GJ hl;have J:AG W w4:=((N.trans Q).trans V).next X E
 exact⟨r,rfl,g.Bw (by grind[AvT.Bw]) X λy _ hy e=>by have:=O.ar.lt y (.inr hy);omega,J⟩
def FD{b i:Nat}{A:ArS α}{n:Nd α}{K:b_->c_->Prop}(h:Ea g F C W b most A)(hi:A.f i=some n) (Q:∀r j w',AG W w'->W.heap.size<=j->Bx w' j (r++Bu n)->g.R C w' r n.x->K (e_ j) w') : l_ g.fat [e_ b,zIq i] (λI U=>Cv g.tn g.toAvK.zN (λJ w2=>Bv (g.E+5) J I (λV=>K J V) w2) U) W:=by
 apply AA (Yj h hi);rintro _ w4 ⟨r,rfl,hr,N⟩;refine Bx.new (BZ n hr) Li (Kc n hr) λX Y Z g7 B7=>?_;exact Q r X Y (N.trans g7) (by have:=N.size;omega) B7 (by grind[AvT.Bw])
def H8{f:Nat->Option (Nd α)}{μ:α->Nat×Nat}{t:Tr α}{A:ArS α}(I:A.f=f)(h:Tr.AW μ f t)(hu:Tr.Ic t):t.ht<=A.ps.length/\t.Cz<=A.ps.length:=by
 have j:t.idx ⊆ List.range A.ps.length:=λx J=>by
  obtain⟨n,N⟩:=h.LA μ J;rw[<-I] at N;grind[ArS.Mk]
 have h1:=MO hu j;grind[Tr.Dk,Tr.tZ]
def FU(g:AvT α)(l:List α):Prop:=Tr.sz g.k.μ l<=1099511627776/\Tr.mk g.k.μ l<=1099511627776
def FU.K4{l m:List α}(h:FU g (l++m)):FU g l/\FU g m:=by
 obtain⟨h1,j⟩:=h;rw[Tr.Dh] at h1;rw[Tr.JQ] at j;exact⟨⟨E,E⟩,E,E⟩
def FU.cons{x:α}{m:List α}(h:FU g (x::m)):FU g m/\(g.k.μ x).1+Tr.sz g.k.μ m<=1099511627776/\(g.k.μ x).2+Tr.mk g.k.μ m<=1099511627776:=by
 obtain⟨h1,j⟩:=h;rw[Tr.CP] at h1;rw[Tr.FK] at j;exact⟨⟨E,E⟩,h1,j⟩
def Ct{b:Nat}{N:Int}{A:ArS α}{t:Tr α}(h:Ea g F C W b N A)(ht:Tr.AW g.k.μ A.f t) : l_ g.ftotals [e_ b,zIq t.root] (λv' w'=>v'=.tuple #[zIq t.ht,zIq (Tr.sz g.k.μ t.toL),zIq (Tr.mk g.k.μ t.toL)]/\AG W w') W:=by
 apply g.ok.totals;unfold Z1;cases t with
 |nil=>
  simp only[Tr.root];exact eqP (λ_=>⟨rfl,AF.refl _ _⟩) λe=>(e rfl).elim
 |node l i x r=>
  simp only[Tr.root];refine eqP E λ_=>?_;obtain⟨_,_,hi⟩:=ht;refine FD h hi λX O J Q U B hr=>?_;have V:=g.rlen hr;refine DL (AG J) (AF.drew _ _) ?_;have hc:∀j v w',AG J w'->(Bu (Tr.Ey g.k.μ (.node l i x r) x l.root r.root))[j]?=some v->w'.cell? ⟨O,g.E+j,none⟩=some v:=by grind[AF.cell,Bx.cells]
  rw[AE,AH];apply BC (λw' I=>hc 2 _ w' I rfl);rw[AE,AH];apply BC (λw' I=>hc 3 _ w' I rfl);rw[AE,AH];apply BC (λw' I=>hc 4 _ w' I rfl);exact λw' I=>⟨rfl,Q.trans I⟩
def NK{St:Addr->b_->Prop}{b:Nat}{r:U_}{k:b_->Prop}(hl:r.length=g.E)(J:∀j v,r[j]?=some v->St ⟨b,j,none⟩ v)(hk:k (g.toAvK.enc r)):UY g.toAvK St (e_ b) k:=by
 unfold UY AvK.enc at *;cases I:g.one with
 |true=>
  have N:=g.E1 I;rw[I] at hk;simp only[aBP] at hk ⊢;cases r with
  |nil=>grind
  |cons a r=>exact AP (J 0 a rfl) hk
 |false=>
  grind[DH,AH]
def tw{a b:Nat}{k:b_->Prop}(h:k (zIq (max a b:Nat))):P6 .i64 (zIq a) (zIq b) k:=by
 rw[Hi];grind
def DI{a b:Nat}{k:b_->Prop}(hb:a+b<=9223372036854775807)(h:k (zIq (a+b:Nat))):Cl .i64 (zIq a) (zIq b) k:=by
 rw[AQ,wrap64 E E];grind
def JA{b i:Nat}{A:ArS α}{n m:Nd α}{l r:Tr α}(h:Ea g F C W b most A)(hi:A.f i=some m)(hr:g.R C W cs n.x)(el:n.l=l.root)(er:n.r=r.root) (hl:Tr.AW g.k.μ A.f l)(V:Tr.AW g.k.μ A.f r)(ul:Tr.Ic l)(ur:Tr.Ic r)(hb:FU g (l.toL++n.x::r.toL)) : l_ g.fset [e_ b,zIq i,.agg (cs++Bu n).toArray] (λ_ w'=>Ea g F C w' b most (A.put i (Tr.Ey g.k.μ (.node l i n.x r) n.x l.root r.root))/\AF (Fb F b) W w') W:=by
 apply g.ok.set;unfold wQ;have hs:=h.ok.2.2;have I:=g.rlen hr;have aa:=BZ n hr;obtain⟨ak,al⟩:=hb.K4;have an:=(H8 rfl hl ul).1;have av:=(H8 rfl V ur).1;have Y:=hb.1;have Z:=hb.2;rw[Tr.Dh,Tr.CP] at Y;rw[Tr.JQ,Tr.FK] at Z;refine Bx.box λb5 w1 ax g1 B=>?_;have h1:=h.S_ g1;apply fl_i (B.cells (g.E+0) _ (by rw[Ap I];rfl));rw[el];apply AA (Ct h1 hl);rintro _ w3 ⟨rfl,g3⟩;apply Hz;rw[AE,AH];have B3:=B.S_ g3;apply AI (B3.cells (g.E+1) _ (by rw[Ap I];rfl));rw[er];apply AA (Ct (h1.S_ g3) V);rintro _ w5 ⟨rfl,g5⟩;apply Hz;have gd:=gdr w5;have O:=((g1.trans g3).trans g5).trans gd;obtain⟨c,pl,fr,hT⟩:=h;have a1:=hT.T_ O C_;have B5:=(B3.S_ g5).S_ gd;apply Ac (λ_ _=>False);apply AJ;rw[AE,AH,AE,AH];refine AP ⟨a1.box.cells 0 _ rfl,C_⟩ ?_;rw[AE,AH];refine NK (r:=cs) I (λj v hv=>⟨B5.cells j v B_,C_⟩) ?_;refine BL (g.meas (g.Bw hr O E')) ?_;rintro _ w6 ⟨rfl,g6⟩;refine⟨E,?_⟩;apply BD;apply tw;refine DI (a:=1) E ?_;refine DI E ?_;refine DI E ?_;refine DI E ?_;refine DI E ?_;rw[AE,AH];refine(B5.S_ g6).st E rfl rfl λw7 B7 m7=>?_;rw[Dj I] at B7;rw[AE,AH];refine B7.st B_ rfl rfl λw8 B8 m8=>?_;rw[AE,AH];refine B8.st B_ rfl rfl λw9 B9 m9=>?_;have eB:((cs++(Bu n).set 2 (zIq ((1+max l.ht r.ht:Nat):Int))).set (g.E+3) (zIq ((Tr.sz g.k.μ l.toL+Tr.sz g.k.μ r.toL+(g.k.μ n.x).1:Nat):Int))).set (g.E+4) (zIq ((Tr.mk g.k.μ l.toL+Tr.mk g.k.μ r.toL+(g.k.μ n.x).2:Nat):Int))=cs++Bu (Tr.Ey g.k.μ (.node l i n.x r) n.x l.root r.root):=by
  rw[aAd _ _ E,aAd _ _ E,I,aCT,aCT];simp only[Bu,Tr.Ey,Tr.ht,Tr.toL,List.set_cons_succ,aBx,el,er,Tr.Dh,Tr.CP,Tr.JQ,Tr.FK];grind
 rw[eB] at B9;have X:=gdr w9;have Q:AG W w9.drew:=((((O.trans g6).next m7 E).next m8 E).next m9 E).trans X;have N:=hT.T_ Q C_;have a6:=B9.S_ X;apply Ac (λ_ y=>F y/\y≠b);apply AJ;rw[AE,AH];refine AP ⟨N.box.cells 3 _ rfl,B_⟩ ?_;have a7:¬F b5:=λe=>by
  have:=Ea.lt (g:=g) ⟨c,pl,fr,hT⟩ b5 (.inl e);omega
 apply DH (BZ (Tr.Ey g.k.μ (.node l i n.x r) n.x l.root r.root) hr) (λj v hv=>⟨by rw[AH];exact a6.cells j v hv,λ_ _ e=>by rw[AH] at e;exact a7 e.1⟩);refine AA (az N.ar hi (n:=Tr.Ey g.k.μ (.node l i n.x r) n.x l.root r.root) (g.Bw hr Q E')) ?_;rintro _ a8 ⟨hA,ay⟩;have J:AF (λy=>F y/\y≠b) w9.drew a8:=by grind[AF.mono,FG.pF]
 refine⟨J,?_⟩;exact⟨⟨c,pl,fr,N.box.T_ J λe=>e.2 rfl,hA,N.fb⟩,(Q.mono G_).trans J⟩
def SK{b i:Nat}{A:ArS α}{n:Nd α}{l r:Tr α}(h:Ea g F C W b most A)(hi:A.f i=some n)(Q:n.l=l.root)(U:n.r=r.root)(hl:Tr.AW g.k.μ A.f l)(hr:Tr.AW g.k.μ A.f r)(V:Tr.Ic l)(X:Tr.Ic r) : l_ g.flean [e_ b,zIq i] (λv' w'=>v'=zIq ((l.ht:Int)-(r.ht:Int))/\AG W w') W:=by
 apply g.ok.kh;unfold sy;have hs:=h.ok.2.2;have Y:=(H8 rfl hl V).1;have Z:=(H8 rfl hr X).1;refine FD h hi λrc bx w1 J a1 B I=>?_;have j:=g.rlen I;apply fl_i (B.cells (g.E+0) _ (by rw[Ap j];rfl));rw[Q];apply AA (Ct (h.S_ J) hl);rintro _ w3 ⟨rfl,N⟩;apply Hz;apply fl_i ((B.S_ N).cells (g.E+1) _ (by rw[Ap j];rfl));rw[U];apply AA (Ct ((h.S_ J).S_ N) hr);rintro _ w5 ⟨rfl,g5⟩;apply Hz;rw[A6,wrap64 E E];exact(by grind[AF.trans])
end
section
variable {α:Type}{g:AvT α}
structure OT (g:AvT α) (F C:d_) (W w':c_) (b:Nat) (rt:Int) (A:ArS α) (L:List α) (I:X_) (t':Tr α) (A':ArS α):Prop where
 FR:Ea g F C w' b rt A'
 T_:AF (Fb F b) W w'
 toL:t'.toL=L
 idx:t'.idx.Perm I
 holds:Tr.AW g.k.μ A'.f t'
 Ak:∀j,j∉I->A'.f j=A.f j
 len:A'.lv=A.lv
theorem OT.Cz{b:Nat}{j:Int}{A:ArS α}{L:List α}{I:X_}{t':Tr α}{J:ArS α}(h:OT g F C W w' b j A L I t' J):t'.Cz=L.length:=by
 rw[<-h.toL];exact(Tr.Dk _).2.symm
def H6(A:ArS α)(i:Nat)(n:Nd α):(A.put i n).lv=A.lv:=A.uR i n
def FU.Kb{l m:List α}(h:FU g l)(e:m=l):FU g m:=e▸h
theorem LO{A:ArS α}{i:Nat}{n m:Nd α}(hi:A.f i=some m){j:Nat}(h:j≠i):(A.put i n).f j=A.f j:=by rw[ArS.OE hi,Tr.IC _ h]
theorem MB{A:ArS α}{i:Nat}{m:Nd α}{l r:Tr α}{x:α}{μ:α->Nat×Nat}(hi:A.f i=some m)(hl:Tr.AW μ A.f l)(hr:Tr.AW μ A.f r)(j:i∉l.idx)(I:i∉r.idx):Tr.AW μ (A.put i (Tr.Ey μ (.node l i x r) x l.root r.root)).f (.node l i x r):=by
 grind[ArS.OE,Tr.AW.top]
def YP{b i j:Nat}{A:ArS α}{x y:α}{a c r:Tr α}(h:Ea g F C W b most A)(hh:Tr.AW g.k.μ A.f (.node (.node a j y c) i x r))(hu:Tr.Ic (.node (.node a j y c) i x r))(hb:FU g (Tr.node (.node a j y c) i x r).toL) : l_ g.flift [e_ b,zIq i,.bool true] (λv' w'=>v'=zIq j/\∃A',OT g F C W w' b most A (Tr.node (.node a j y c) i x r).toL (Tr.node (.node a j y c) i x r).idx (.node a j y (.node c i x r)) A') W:=by
 apply g.ok.QD;unfold lK;obtain⟨⟨ha,hc,hj⟩,hr,hi⟩:=hh;obtain⟨u1,u2,u3,u4,u5⟩:=Tr.BQ.1 hu;obtain⟨v1,v2,v3,v4,v5⟩:=Tr.BQ.1 u1;have hL:(Tr.node (.node a j y c) i x r).toL=a.toL++y::(c.toL++x::r.toL):=by simp[Tr.toL]
 rw[hL] at hb;have a1:=hb.K4.2.cons.1;have a6:i≠j:=by grind[Tr.idx]
 have ak:i∉c.idx:=by grind[Tr.idx]
 have al:i∉a.idx:=by grind[Tr.idx]
 have an:j∉r.idx:=by grind[Tr.idx]
 refine FD h hi λrc bx w1 g1 a7 B O=>?_;have I:=g.rlen O;apply Ab;apply fl_i (B.cells (g.E+0) _ (by rw[Ap I];rfl));refine FD (h.S_ g1) hj λrd bd w2 g2 av D Q=>?_;have J:=g.rlen Q;have B2:=B.S_ g2;apply fl_i (D.cells (g.E+1) _ (by rw[Ap J];rfl));rw[AE,AH];have nF:∀{z:Nat},W.heap.size<=z->∀x,F x\/C x->x≠z:=λhz x hx e=>by have:=h.lt x hx;omega
 refine B2.st (q:=g.E+0) (by grind[BZ]) rfl rfl λw3 B3 Z=>?_;have ax:=B.lt (by grind[BZ]);have D3:=D.T_ Z E;rw[Dj I] at B3;apply B3.GJ (by rw[Bp,aAC,I];rfl);have g3:AG W w3:=(g1.trans g2).next Z E
 have h3:=h.S_ g3;have U:=g.Bw (g.Bw O g2 E') Z B_;apply AA (JA (l:=c) (r:=r) (n:={ Tr.Ey g.k.μ (.node (.node a j y c) i x r) x (Tr.node a j y c).root r.root with l:=c.root }) h3 hi U rfl rfl hc hr v2 u2 a1);rintro _ w4 ⟨h4,m4⟩;have D4:=D3.T_ m4 λe=>nF E bd (.inl e.1) rfl;have a8:(A.put i (Tr.Ey g.k.μ (.node c i x r) x c.root r.root)).f=Tr.JU A.f i (some (Tr.Ey g.k.μ (.node c i x r) x c.root r.root)):=ArS.OE hi;rw[AE,AH];refine D4.st (q:=g.E+1) (by grind[BZ]) rfl rfl λw5 D5 m5=>?_;rw[Dj J] at D5;apply D5.GJ (by rw[Bp,aAC,J];rfl);have h5:=h4.T_ m5 λx hx e=>nF E x hx e;have V:=g.Bw (g.Bw (g.Bw Q Z λy _ hy e=>nF a7 y (.inr hy) e) m4 λy _ hy e=>h.NO y e.1 hy) m5 B_;have N:(A.put i (Tr.Ey g.k.μ (.node c i x r) x c.root r.root)).f j=some (Tr.Ey g.k.μ (.node a j y c) y a.root c.root):=by rw[a8,Tr.IC _ (aC4 a6)];exact hj
 have X:Tr.AW g.k.μ (A.put i (Tr.Ey g.k.μ (.node c i x r) x c.root r.root)).f (.node c i x r):=by grind[Tr.AW.top]
 have Y:Tr.AW g.k.μ (A.put i (Tr.Ey g.k.μ (.node c i x r) x c.root r.root)).f a:=by grind[Tr.AW.out]
 have aa:Tr.Ic (.node c i x r):=by grind[Tr.BQ,Tr.idx]
 apply AA (JA (l:=a) (r:=.node c i x r) (n:={ Tr.Ey g.k.μ (.node a j y c) y a.root c.root with r:=(i:Int) }) h5 N V rfl rfl Y X v1 aa hb);rintro _ w6 ⟨h6,m6⟩;have ay:=ArS.OE (n:=Tr.Ey g.k.μ (.node a j y (.node c i x r)) y a.root (Tr.node c i x r).root) N;refine⟨rfl,_,h6,?_,by simp[Tr.toL],(Tr.dx a c r i j x y).2,?_,λq hq=>?_,by rw[H6,H6]⟩;exact(((g3.mono G_).trans m4).next m5 E).trans m6;refine MB (x:=y) N Y X v3 λe=>?_;grind[Tr.idx];simp only[Tr.idx,K8,S6,aDD] at hq;grind[ArS.put,ArS.f]
def Yx{b i j:Nat}{A:ArS α}{x y:α}{a c l:Tr α}(h:Ea g F C W b most A)(hh:Tr.AW g.k.μ A.f (.node l i x (.node a j y c)))(hu:Tr.Ic (.node l i x (.node a j y c)))(hb:FU g (Tr.node l i x (.node a j y c)).toL) : l_ g.flift [e_ b,zIq i,.bool false] (λv' w'=>v'=zIq j/\∃A',OT g F C W w' b most A (Tr.node l i x (.node a j y c)).toL (Tr.node l i x (.node a j y c)).idx (.node (.node l i x a) j y c) A') W:=by
 apply g.ok.QD;unfold lK;obtain⟨hl,⟨ha,hc,hj⟩,hi⟩:=hh;obtain⟨u1,u2,u3,u4,u5⟩:=Tr.BQ.1 hu;obtain⟨v1,v2,v3,v4,v5⟩:=Tr.BQ.1 u2;have hL:(Tr.node l i x (.node a j y c)).toL=(l.toL++x::a.toL)++y::c.toL:=by simp[Tr.toL]
 rw[hL] at hb;have a1:=hb.K4.1;have a6:i≠j:=by grind[Tr.idx]
 have ak:i∉c.idx:=by grind[Tr.idx]
 have al:i∉a.idx:=by grind[Tr.idx]
 have an:j∉l.idx:=by grind[Tr.idx]
 refine FD h hi λrc bx w1 g1 a7 B O=>?_;have I:=g.rlen O;apply AM;apply fl_i (B.cells (g.E+1) _ (by rw[Ap I];rfl));refine FD (h.S_ g1) hj λrd bd w2 g2 av D Q=>?_;have J:=g.rlen Q;have B2:=B.S_ g2;apply fl_i (D.cells (g.E+0) _ (by rw[Ap J];rfl));rw[AE,AH];have nF:∀{z:Nat},W.heap.size<=z->∀x,F x\/C x->x≠z:=λhz x hx e=>by have:=h.lt x hx;omega
 refine B2.st (q:=g.E+1) (by grind[BZ]) rfl rfl λw3 B3 Z=>?_;have ax:=B.lt (by grind[BZ]);have D3:=D.T_ Z E;rw[Dj I] at B3;apply B3.GJ (by rw[Bp,aAC,I];rfl);have g3:AG W w3:=(g1.trans g2).next Z E
 have h3:=h.S_ g3;have U:=g.Bw (g.Bw O g2 E') Z B_;apply AA (JA (l:=l) (r:=a) (n:={ Tr.Ey g.k.μ (.node l i x (.node a j y c)) x l.root (Tr.node a j y c).root with r:=a.root }) h3 hi U rfl rfl hl ha u1 v1 a1);rintro _ w4 ⟨h4,m4⟩;have D4:=D3.T_ m4 λe=>nF E bd (.inl e.1) rfl;have a8:(A.put i (Tr.Ey g.k.μ (.node l i x a) x l.root a.root)).f=Tr.JU A.f i (some (Tr.Ey g.k.μ (.node l i x a) x l.root a.root)):=ArS.OE hi;rw[AE,AH];refine D4.st (q:=g.E+0) (by grind[BZ]) rfl rfl λw5 D5 m5=>?_;rw[Dj J] at D5;apply D5.GJ (by rw[Bp,aAC,J];rfl);have h5:=h4.T_ m5 λx hx e=>nF E x hx e;have V:=g.Bw (g.Bw (g.Bw Q Z λy _ hy e=>nF a7 y (.inr hy) e) m4 λy _ hy e=>h.NO y e.1 hy) m5 B_;have N:(A.put i (Tr.Ey g.k.μ (.node l i x a) x l.root a.root)).f j=some (Tr.Ey g.k.μ (.node a j y c) y a.root c.root):=by rw[a8,Tr.IC _ (aC4 a6)];exact hj
 have X:Tr.AW g.k.μ (A.put i (Tr.Ey g.k.μ (.node l i x a) x l.root a.root)).f (.node l i x a):=by grind[Tr.AW.top]
 have Y:Tr.AW g.k.μ (A.put i (Tr.Ey g.k.μ (.node l i x a) x l.root a.root)).f c:=by grind[Tr.AW.out]
 have aa:Tr.Ic (.node l i x a):=by grind[Tr.BQ,Tr.idx]
 apply AA (JA (l:=.node l i x a) (r:=c) (n:={ Tr.Ey g.k.μ (.node a j y c) y a.root c.root with l:=(i:Int) }) h5 N V rfl rfl X Y aa v2 hb);rintro _ w6 ⟨h6,m6⟩;have ay:=ArS.OE (n:=Tr.Ey g.k.μ (.node (.node l i x a) j y c) y (Tr.node l i x a).root c.root) N;refine⟨rfl,_,h6,?_,by simp[Tr.toL],(Tr.kY l a c j i y x).2,?_,λq hq=>?_,by rw[H6,H6]⟩;exact(((g3.mono G_).trans m4).next m5 E).trans m6;refine MB (x:=y) N X Y (λe=>?_) v4;grind[Tr.idx];simp only[Tr.idx,K8,S6,aDD] at hq;grind[ArS.put,ArS.f]
def ES{f J:Nat->Option (Nd α)}{μ:α->Nat×Nat}{t:Tr α}{I:X_}(h:Tr.AW μ f t)(N:∀j,j∉I->J j=f j)(O:∀j∈t.idx,j∉I):Tr.AW μ J t:=by grind[Tr.AW.frame]
def JN{b i:Nat}{A:ArS α}{n m:Nd α}{l r:Tr α}(h:Ea g F C W b most A)(hi:A.f i=some m)(aa:g.R C W cs n.x)(el:n.l=l.root)(er:n.r=r.root) (hl:Tr.AW g.k.μ A.f l)(hr:Tr.AW g.k.μ A.f r)(hu:Tr.Ic (.node l i n.x r))(hb:FU g (Tr.node l i n.x r).toL) : l_ g.fbalance [e_ b,zIq i,.agg (cs++Bu n).toArray] (λv' w'=>∃t' A',v'=zIq t'.root/\OT g F C W w' b most A (Tr.node l i n.x r).toL (Tr.node l i n.x r).idx t' A') W:=by
 apply g.ok.L6;unfold Vd;obtain⟨u1,u2,u3,u4,u5⟩:=Tr.BQ.1 hu;have N:=g.rlen aa;have nF:∀{z:Nat},W.heap.size<=z->∀x,F x\/C x->x≠z:=λhz x hx e=>by have:=h.lt x hx;omega
 refine Bx.box λbx w1 b8 g1 B=>?_;apply B.GJ (BZ _ aa);refine AA (JA (l:=l) (r:=r) (h.S_ g1) hi (by grind[AvT.Bw]) el er hl hr u1 u2 hb) ?_;rintro _ w3 ⟨h3,m3⟩;have b0:=g.Bw (g.Bw aa g1 E') m3 λy _ hy e=>h.NO y e.1 hy;have B3:=B.T_ m3 λe=>nF b8 bx (.inl e.1) rfl;have hT:=MB (x:=n.x) hi hl hr u3 u4;obtain⟨Q,U,a6⟩:=id hT;have a7:∀j,j∉(Tr.node l i n.x r).idx->(A.put i (Tr.Ey g.k.μ (.node l i n.x r) n.x l.root r.root)).f j=A.f j:=by grind[LO,Tr.idx]
 have J:=H6 A i (Tr.Ey g.k.μ (.node l i n.x r) n.x l.root r.root);have b9:AF (Fb F b) W w3:=(g1.mono G_).trans m3;generalize A.put i (Tr.Ey g.k.μ (.node l i n.x r) n.x l.root r.root)=A3 at h3 hT Q U a6 a7 J;apply AA (SK h3 a6 rfl rfl Q U u1 u2);rintro _ w4 ⟨rfl,g4⟩;have h4:=h3.S_ g4;have B4:=B3.S_ g4;have a8:=g.Bw b0 g4 E';have ak:AF (Fb F b) W w4:=b9.trans (g4.mono G_);refine gtP (λba=>?_) λbs=>?_;obtain⟨a,j,y,c,rfl⟩:=Tr.PH (t:=l) E;apply fl_i (B4.cells (g.E+0) _ (by rw[Ap N];rfl));rw[el];obtain⟨ha,hc,hj⟩:=id Q;obtain⟨v1,v2,v3,v4,v5⟩:=Tr.BQ.1 u1;apply AA (SK h4 hj rfl rfl ha hc v1 v2);rintro _ w6 ⟨rfl,g6⟩;have h6:=h4.S_ g6;have B6:=B4.S_ g6;have V:AF (Fb F b) W w6:=ak.trans (g6.mono G_);refine Cn (λbb=>?_) λbk=>?_;obtain⟨p,q,z,s,rfl⟩:=Tr.PH (t:=c) E;apply fl_i (B6.cells (g.E+0) _ (by rw[Ap N];rfl));rw[el];apply AA (Yx h6 Q u1 hb.K4.1);rintro _ w8 ⟨rfl,A8,S8⟩;have B8:=B6.T_ S8.T_ B_;rw[AE,AH];refine B8.st (q:=g.E+0) (by grind[BZ]) rfl rfl λw9 B9 m9=>?_;rw[Dj N] at B9;apply B9.GJ (by rw[Bp,aAC,N];rfl);have h9:=S8.FR.T_ m9 B_;have X:=g.Bw (g.Bw (g.Bw a8 g6 E') S8.T_ λy _ hy e=>h.NO y e.1 hy) m9 B_;have Y:A8.f i=some _:=(S8.Ak i u3).trans a6;have b6:Tr.AW g.k.μ A8.f r:=ES U S8.Ak B_;have Z:Tr.Ic (Tr.node (.node (.node a j y p) q z s) i n.x r):=by
  have:(Tr.node (.node (.node a j y p) q z s) i n.x r).idx.Perm (Tr.node (.node a j y (.node p q z s)) i n.x r).idx:=S8.idx.append (aA1 _);exact this.nodup_iff.2 hu
 obtain⟨x1,x2,x3,x4,x5⟩:=Tr.BQ.1 Z;have a1:FU g (Tr.node (.node (.node a j y p) q z s) i n.x r).toL:=by grind[Tr.toL]
 apply AA (JA (l:=.node (.node a j y p) q z s) (r:=r) (n:={ n with l:=(q:Int) }) h9 Y X rfl er S8.holds b6 x1 x2 a1);rintro _ bl ⟨al,an⟩;apply AA (YP al (MB Y S8.holds b6 x3 x4) Z a1);rintro _ av ⟨rfl,O,S12⟩;have I:(Tr.node (.node (.node a j y p) q z s) i n.x r).idx.Perm (Tr.node (.node a j y (.node p q z s)) i n.x r).idx:=S8.idx.append (aA1 _);refine⟨_,O,rfl,S12.FR,?_,(by grind[Tr.toL]),S12.idx.trans I,S12.holds,λt ht=>?_,by rw[S12.len,H6,S8.len,J]⟩;exact(((V.trans S8.T_).next m9 E).trans an).trans S12.T_;have ax:t∉(Tr.node (.node (.node a j y p) q z s) i n.x r).idx:=λe=>ht (I.mem_iff.1 e);have ay:t∉(Tr.node a j y (.node p q z s)).idx:=by grind[Tr.idx]
 exact(((S12.Ak t ax).trans (by grind[LO,Tr.idx])).trans (S8.Ak t ay)).trans (a7 t ht);apply AA (YP h6 hT hu hb);rintro _ av ⟨rfl,O,S12⟩;exact⟨_,O,rfl,S12.FR,V.trans S12.T_,S12.toL,S12.idx,S12.holds,(by grind[OT.Ak]),by rw[S12.len,J]⟩;refine Cn (λbb=>?_) λbk=>?_;obtain⟨a,j,y,c,rfl⟩:=Tr.PH (t:=r) E;apply fl_i (B4.cells (g.E+1) _ (by rw[Ap N];rfl));rw[er];obtain⟨ha,hc,hj⟩:=id U;obtain⟨v1,v2,v3,v4,v5⟩:=Tr.BQ.1 u2;apply AA (SK h4 hj rfl rfl ha hc v1 v2);rintro _ w6 ⟨rfl,g6⟩;have h6:=h4.S_ g6;have B6:=B4.S_ g6;have V:AF (Fb F b) W w6:=ak.trans (g6.mono G_);refine gtP (λba=>?_) λbp=>?_;obtain⟨p,q,z,s,rfl⟩:=Tr.PH (t:=a) E;apply fl_i (B6.cells (g.E+1) _ (by rw[Ap N];rfl));rw[er];apply AA (YP h6 U u2 hb.K4.2.cons.1);rintro _ w8 ⟨rfl,A8,S8⟩;have B8:=B6.T_ S8.T_ B_;rw[AE,AH];refine B8.st (q:=g.E+1) (by grind[BZ]) rfl rfl λw9 B9 m9=>?_;rw[Dj N] at B9;apply B9.GJ (by rw[Bp,aAC,N];rfl);have h9:=S8.FR.T_ m9 B_;have X:=g.Bw (g.Bw (g.Bw a8 g6 E') S8.T_ λy _ hy e=>h.NO y e.1 hy) m9 B_;have Y:A8.f i=some _:=(S8.Ak i u4).trans a6;have b7:Tr.AW g.k.μ A8.f l:=ES Q S8.Ak E;have I:(Tr.node l i n.x (.node p q z (.node s j y c))).idx.Perm (Tr.node l i n.x (.node (.node p q z s) j y c)).idx:=(aA1 _).append (S8.idx.cons i);have Z:Tr.Ic (Tr.node l i n.x (.node p q z (.node s j y c))):=I.nodup_iff.2 hu;obtain⟨x1,x2,x3,x4,x5⟩:=Tr.BQ.1 Z;have a1:FU g (Tr.node l i n.x (.node p q z (.node s j y c))).toL:=by grind[Tr.toL]
 apply AA (JA (l:=l) (r:=.node p q z (.node s j y c)) (n:={ n with r:=(q:Int) }) h9 Y X el rfl b7 S8.holds x1 x2 a1);rintro _ bl ⟨al,an⟩;apply AA (Yx al (MB Y b7 S8.holds x3 x4) Z a1);rintro _ av ⟨rfl,O,S12⟩;refine⟨_,O,rfl,S12.FR,?_,(by grind[Tr.toL]),S12.idx.trans I,S12.holds,λt ht=>?_,by rw[S12.len,H6,S8.len,J]⟩;exact(((V.trans S8.T_).next m9 E).trans an).trans S12.T_;have ax:t∉(Tr.node l i n.x (.node p q z (.node s j y c))).idx:=λe=>ht (I.mem_iff.1 e);have ay:t∉(Tr.node (.node p q z s) j y c).idx:=by grind[Tr.idx]
 exact(((S12.Ak t ax).trans (by grind[LO,Tr.idx])).trans (S8.Ak t ay)).trans (a7 t ht);apply AA (Yx h6 hT hu hb);rintro _ av ⟨rfl,O,S12⟩;exact⟨_,O,rfl,S12.FR,V.trans S12.T_,S12.toL,S12.idx,S12.holds,(by grind[OT.Ak]),by rw[S12.len,J]⟩;exact⟨.node l i n.x r,A3,rfl,h4,ak,rfl,aA1 _,hT,a7,J⟩
end
section
variable {α:Type}{g:AvT α}
def WW{b i:Nat}{A:ArS α}{n:Nd α}{l r:Tr α} (IL:∀ Z Y xl O,l=Tr.node Z Y xl O->O.Cz < l.Cz->∀ {W1:c_} {Q:ArS α},Ea g F C W1 b most Q->Q.f i=some n->Tr.AW g.k.μ Q.f O->Tr.AW g.k.μ Q.f r->Tr.Ic (.node O i n.x r)->FU g (Tr.node O i n.x r).toL->l_ g.fjoin [e_ b,zIq O.root,zIq i,zIq r.root] (λv' w'=>∃ t' A',v'=zIq t'.root/\OT g F C W1 w' b most Q (Tr.node O i n.x r).toL (Tr.node O i n.x r).idx t' A') W1) (IR:∀ J U xr V,r=Tr.node J U xr V->J.Cz < r.Cz->∀ {W1:c_} {Q:ArS α},Ea g F C W1 b most Q->Q.f i=some n->Tr.AW g.k.μ Q.f l->Tr.AW g.k.μ Q.f J->Tr.Ic (.node l i n.x J)->FU g (Tr.node l i n.x J).toL->l_ g.fjoin [e_ b,zIq l.root,zIq i,zIq J.root] (λv' w'=>∃ t' A',v'=zIq t'.root/\OT g F C W1 w' b most Q (Tr.node l i n.x J).toL (Tr.node l i n.x J).idx t' A') W1) (h:Ea g F C W b most A)(hi:A.f i=some n)(hl:Tr.AW g.k.μ A.f l)(hr:Tr.AW g.k.μ A.f r)(hu:Tr.Ic (.node l i n.x r))(hb:FU g (Tr.node l i n.x r).toL) : l_ g.fjoin [e_ b,zIq l.root,zIq i,zIq r.root] (λv' w'=>∃t' A',v'=zIq t'.root/\OT g F C W w' b most A (Tr.node l i n.x r).toL (Tr.node l i n.x r).idx t' A') W:=by
 have hs:=h.ok.2.2;apply g.ok.join;unfold sV;obtain⟨u1,u2,u3,u4,u5⟩:=Tr.BQ.1 hu;have c4:=(H8 rfl hl u1).1;have c6:=(H8 rfl hr u2).1;have nF:∀{z:Nat},W.heap.size<=z->∀x,F x\/C x->x≠z:=λhz x hx e=>by have:=h.lt x hx;omega
 apply AA (Ct h hl);rintro _ w1 ⟨rfl,g1⟩;apply Hz;apply AA (Ct (h.S_ g1) hr);rintro _ w2 ⟨rfl,g2⟩;apply Hz;have a1:=g1.trans g2;have h2:=h.S_ a1;have s12:=a1.size;refine DI (b:=1) E ?_;refine gtP (λba=>?_) λc7=>?_;obtain⟨Z,Y,xl,O,rfl⟩:=Tr.PH (t:=l) E;obtain⟨bb,bk,ak⟩:=id hl;obtain⟨v1,v2,v3,v4,v5⟩:=Tr.BQ.1 u1;refine FD h2 ak λrc bx w3 g3 al B N=>?_;have I:=g.rlen N;have h3:=h2.S_ g3;apply fl_i (B.cells (g.E+1) _ (by rw[Ap I];rfl));have an:Tr.Ic (.node O i n.x r):=by grind[Tr.BQ,Tr.idx]
 have hL:(Tr.node (.node Z Y xl O) i n.x r).toL=Z.toL++xl::(O.toL++n.x::r.toL):=by simp[Tr.toL]
 have a6:=hb;rw[hL] at a6;apply AA (IL Z Y xl O rfl (by grind[Tr.Cz]) h3 hi bk hr an a6.K4.2.cons.1);rintro _ w7 ⟨t1,Q,rfl,j⟩;have a7:W.heap.size<=bx:=E;have B7:=B.T_ j.T_ B_;rw[AE,AH];refine B7.st (q:=g.E+1) (by grind[BZ]) rfl rfl λw8 B8 m8=>?_;rw[Dj I] at B8;apply B8.GJ (by rw[Bp,aAC,I];rfl);have h8:=j.FR.T_ m8 B_;have a8:=g.Bw (g.Bw N j.T_ λy _ hy e=>h.NO y e.1 hy) m8 B_;have nI:∀q∈Y::Z.idx,q∉(Tr.node O i n.x r).idx:=λq X e=>by
  simp only[Tr.idx,K8,S6] at e X;rcases X with rfl|X;grind[Tr.idx];grind[Tr.idx]
 have av:Q.f Y=some _:=(j.Ak Y (nI Y E_)).trans ak;have ax:Tr.AW g.k.μ Q.f Z:=ES bb j.Ak B_;have aa:Tr.Ic (.node Z Y xl t1):=by
  refine Tr.BQ.2 ⟨v1,j.idx.nodup_iff.2 an,v3,λe=>nI Y E_ (j.idx.mem_iff.1 e),λq X e=>nI q (by simp[X]) (j.idx.mem_iff.1 e)⟩
 have Kb:(Tr.node Z Y xl t1).idx.Perm (Tr.node (.node Z Y xl O) i n.x r).idx:=by
  simp only[Tr.idx,Q0,aAN];exact(aA1 _).append (j.idx.cons Y)
 have eL:(Tr.node Z Y xl t1).toL=(Tr.node (.node Z Y xl O) i n.x r).toL:=by simp only[Tr.toL,j.toL,Q0,aAN]
 apply AA (JN (l:=Z) (r:=t1) (n:={ Tr.Ey g.k.μ (.node Z Y xl O) xl Z.root O.root with r:=t1.root }) h8 av a8 rfl rfl ax j.holds aa (hb.Kb eL));rintro _ bl ⟨t2,A2,rfl,S2⟩;refine⟨t2,A2,rfl,S2.FR,?_,S2.toL.trans eL,S2.idx.trans Kb,S2.holds,λq X=>?_,by rw[S2.len,j.len]⟩;exact((((a1.trans g3).mono G_).trans j.T_).next m8 E).trans S2.T_;refine(S2.Ak q λe=>X (Kb.mem_iff.1 e)).trans (j.Ak q λe=>X ?_);simp only[Tr.idx,K8,S6] at e ⊢;grind;refine DI (b:=1) E ?_;refine gtP (λba=>?_) λbs=>?_;obtain⟨J,U,xr,V,rfl⟩:=Tr.PH (t:=r) E;obtain⟨ay,bp,b0⟩:=id hr;obtain⟨v1,v2,v3,v4,v5⟩:=Tr.BQ.1 u2;refine FD h2 b0 λrc bx w3 g3 al B N=>?_;have I:=g.rlen N;have h3:=h2.S_ g3;apply fl_i (B.cells (g.E+0) _ (by rw[Ap I];rfl));have b6:Tr.Ic (.node l i n.x J):=by grind[Tr.BQ,Tr.idx]
 have hL:(Tr.node l i n.x (.node J U xr V)).toL=(l.toL++n.x::J.toL)++xr::V.toL:=by simp[Tr.toL]
 have a6:=hb;rw[hL] at a6;apply AA (IR J U xr V rfl (by grind[Tr.Cz]) h3 hi hl ay b6 a6.K4.1);rintro _ w7 ⟨t1,Q,rfl,j⟩;have a7:W.heap.size<=bx:=E;have B7:=B.T_ j.T_ B_;rw[AE,AH];refine B7.st (q:=g.E+0) (by grind[BZ]) rfl rfl λw8 B8 m8=>?_;rw[Dj I] at B8;apply B8.GJ (by rw[Bp,aAC,I];rfl);have h8:=j.FR.T_ m8 B_;have a8:=g.Bw (g.Bw N j.T_ λy _ hy e=>h.NO y e.1 hy) m8 B_;have nI:∀q∈U::V.idx,q∉(Tr.node l i n.x J).idx:=λq X e=>by
  simp only[Tr.idx,K8,S6] at e X;rcases X with rfl|X;grind[Tr.idx];grind[Tr.idx]
 have b7:Q.f U=some _:=(j.Ak U (nI U E_)).trans b0;have b8:Tr.AW g.k.μ Q.f V:=ES bp j.Ak B_;have aa:Tr.Ic (.node t1 U xr V):=by
  refine Tr.BQ.2 ⟨j.idx.nodup_iff.2 b6,v2,λe=>nI U E_ (j.idx.mem_iff.1 e),v4,λq X e=>nI q (by simp[e]) (j.idx.mem_iff.1 X)⟩
 have Kb:(Tr.node t1 U xr V).idx.Perm (Tr.node l i n.x (.node J U xr V)).idx:=by
  have:(Tr.node l i n.x (.node J U xr V)).idx=(Tr.node l i n.x J).idx++U::V.idx:=by simp[Tr.idx]
  rw[this];exact j.idx.append (aA1 _)
 have eL:(Tr.node t1 U xr V).toL=(Tr.node l i n.x (.node J U xr V)).toL:=by rw[hL];simp only[Tr.toL,j.toL]
 apply AA (JN (l:=t1) (r:=V) (n:={ Tr.Ey g.k.μ (.node J U xr V) xr J.root V.root with l:=t1.root }) h8 b7 a8 rfl rfl j.holds b8 aa (hb.Kb eL));rintro _ bl ⟨t2,A2,rfl,S2⟩;refine⟨t2,A2,rfl,S2.FR,?_,S2.toL.trans eL,S2.idx.trans Kb,S2.holds,λq X=>?_,by rw[S2.len,j.len]⟩;exact((((a1.trans g3).mono G_).trans j.T_).next m8 E).trans S2.T_;refine(S2.Ak q λe=>X (Kb.mem_iff.1 e)).trans (j.Ak q λe=>X ?_);simp only[Tr.idx,K8,S6] at e ⊢;grind;refine FD h2 hi λrc bx w3 g3 al B N=>?_;have I:=g.rlen N;have a7:W.heap.size<=bx:=E;rw[AE,AH];refine B.st (q:=g.E+0) (by grind[BZ]) rfl rfl λw4 B4 m4=>?_;rw[Dj I] at B4;rw[AE,AH];refine B4.st (q:=g.E+1) (by rw[Bp,aAC,I];exact Nat.add_lt_add_left (show 1<5 by decide) _) rfl rfl λw5 B5 m5=>?_;have eN:(rc++(Bu n).set 0 (zIq l.root)).set (g.E+1) (zIq r.root)=rc++Bu { n with l:=l.root,r:=r.root }:=by
  rw[aAd _ _ E,I,aCT];rfl
 rw[eN] at B5;apply B5.GJ (by rw[BZ _ N]);have g5:AG W w5:=(((a1.trans g3).next m4 E)).next m5 E
 have b9:=g.Bw (g.Bw N m4 λy _ hy e=>nF a7 y (.inr hy) e) m5 B_;apply AA (JA (l:=l) (r:=r) (n:={ n with l:=l.root,r:=r.root }) (h.S_ g5) hi b9 rfl rfl hl hr u1 u2 hb);rintro _ w6 ⟨h6,m6⟩;exact⟨.node l i n.x r,_,rfl,h6,(g5.mono G_).trans m6,rfl,aA1 _,(by grind[MB]),(by grind[LO,Tr.idx]),H6 _ _ _⟩
structure Xl (g:AvT α) (F C:d_) (W w':c_) (b:Nat) (rt:Int) (A:ArS α) (t:Tr α) (t':Tr α) (j:Nat) (m:Nd α) (A':ArS α):Prop where
 FR:Ea g F C w' b rt A'
 T_:AF (Fb F b) W w'
 idx:(j::t'.idx).Perm t.idx
 holds:Tr.AW g.k.μ A'.f t'
 Vi:A'.f j=some m
 Ak:∀q,q∉t.idx->A'.f q=A.f q
 len:A'.lv=A.lv
def Xl.K2{b:Nat}{A J:ArS α}{t t':Tr α}{j:Nat}{m:Nd α}(h:Xl g F C W w' b most A t t' j m J)(hu:Tr.Ic t):Tr.Ic t'/\j∉t'.idx:=by
 have:=h.idx.nodup_iff.2 hu;rw[List.nodup_cons] at this;exact⟨this.2,this.1⟩
theorem Xl.Cz{b:Nat}{A J:ArS α}{t t':Tr α}{j:Nat}{m:Nd α}(h:Xl g F C W w' b most A t t' j m J):t.Cz=t'.Cz+1:=by
 have:=h.idx.length_eq;grind[Tr.Dk]
def fP{b:Nat}:∀(t:Tr α) {W:c_} {A:ArS α},t≠.nil->Ea g F C W b most A->Tr.AW g.k.μ A.f t->Tr.Ic t->FU g t.toL->l_ g.ffirst [e_ b,zIq t.root] (λv' w'=>∃(t':Tr α) (j:Nat) (m:Nd α) (A':ArS α),v'=.tuple #[zIq t'.root,zIq j]/\Xl g F C W w' b most A t t' j m A'/\t.toL=m.x::t'.toL) W:=by
 intro t;induction t with
 |nil=>intro W A hn;exact(hn rfl).elim
 |node l i x r V _=>
  intro W A _ h hh hu hb;obtain⟨hl,hr,hi⟩:=id hh;obtain⟨X,u2,u3,u4,u5⟩:=Tr.BQ.1 hu;apply g.ok.first;unfold jZ;have nF:∀{z:Nat},W.heap.size<=z->∀x,F x\/C x->x≠z:=λhz x hx e=>by have:=h.lt x hx;omega
  refine FD h hi λrc bx w1 Y aa B Q=>?_;have J:=g.rlen Q;have h1:=h.S_ Y;apply fl_i (B.cells (g.E+0) _ (by rw[Ap J];rfl));refine eqP (λe=>?_) λe=>?_;apply fl_i (B.cells (g.E+1) _ (by rw[Ap J];rfl));have el:l=.nil:=by
   cases l<;>grind[Tr.Ey,Tr.root]
  subst el;exact⟨r,i,_,A,rfl,⟨h1,Y.mono G_,aA1 _,hr,hi,I',rfl⟩,rfl⟩;apply fl_i (B.cells (g.E+0) _ (by rw[Ap J];rfl));have Z:l≠.nil:=λe'=>by subst e';exact e rfl
  apply AA (V Z h1 hl X hb.K4.1);rintro _ w7 ⟨N,j,m,A1,rfl,I,e1⟩;apply BD;have B7:=B.T_ I.T_ B_;rw[AE,AH];refine B7.st (q:=g.E+0) (by grind[BZ]) rfl rfl λw8 B8 m8=>?_;rw[Dj J] at B8;apply B8.GJ (by rw[Bp,aAC,J];rfl);have h8:=I.FR.T_ m8 B_;have U:=g.Bw (g.Bw Q I.T_ λy _ hy e=>h.NO y e.1 hy) m8 B_;have sub:∀q,q∈N.idx\/q=j->q∈l.idx:=λq hq=>I.idx.mem_iff.1 B_;have a1:A1.f i=some _:=(I.Ak i u3).trans hi;have a6:Tr.AW g.k.μ A1.f r:=ES hr I.Ak B_;have a7:Tr.Ic (.node N i x r):=Tr.BQ.2 ⟨(I.K2 X).1,u2,B_,u4,B_⟩;have a8:FU g (Tr.node N i x r).toL:=by
   have:(Tr.node l i x r).toL=m.x::(Tr.node N i x r).toL:=by grind[Tr.toL]
   rw[this] at hb;exact hb.cons.1
  apply AA (JN (l:=N) (r:=r) (n:={ Tr.Ey g.k.μ (.node l i x r) x l.root r.root with l:=N.root }) h8 a1 U rfl rfl I.holds a6 a7 a8);rintro _ ak ⟨t2,A2,rfl,O⟩;have hj:j∉(Tr.node N i x r).idx:=λe=>by
   simp only[Tr.idx,K8,S6] at e;rcases e with e|e|e;exact(I.K2 X).2 e;grind;grind
  refine⟨t2,j,m,A2,rfl,⟨O.FR,?_,?_,O.holds,(O.Ak j hj).trans I.Vi,λq hq=>?_,by rw[O.len,I.len]⟩,?_⟩;exact(((Y.mono G_).trans I.T_).next m8 E).trans O.T_;apply(O.idx.cons j).trans;grind[Tr.idx,Xl.idx,List.Perm.append];simp only[Tr.idx,K8,S6,aDD] at hq;refine(O.Ak q λe=>?_).trans (I.Ak q hq.1);grind[Tr.idx];grind[OT.toL,Tr.toL,Tr.Ey]
def Xb{b:Nat}:∀(t:Tr α) {W:c_} {A:ArS α},t≠.nil->Ea g F C W b most A->Tr.AW g.k.μ A.f t->Tr.Ic t->FU g t.toL->l_ g.flast [e_ b,zIq t.root] (λv' w'=>∃(t':Tr α) (j:Nat) (m:Nd α) (A':ArS α),v'=.tuple #[zIq t'.root,zIq j]/\Xl g F C W w' b most A t t' j m A'/\t.toL=t'.toL++[m.x]) W:=by
 intro t;induction t with
 |nil=>intro W A hn;exact(hn rfl).elim
 |node l i x r _ V=>
  intro W A _ h hh hu hb;obtain⟨hl,hr,hi⟩:=id hh;obtain⟨u1,X,u3,u4,u5⟩:=Tr.BQ.1 hu;apply g.ok.LW;unfold tC;have nF:∀{z:Nat},W.heap.size<=z->∀x,F x\/C x->x≠z:=λhz x hx e=>by have:=h.lt x hx;omega
  refine FD h hi λrc bx w1 Y aa B Q=>?_;have J:=g.rlen Q;have h1:=h.S_ Y;apply fl_i (B.cells (g.E+1) _ (by rw[Ap J];rfl));refine eqP (λe=>?_) λe=>?_;apply fl_i (B.cells (g.E+0) _ (by rw[Ap J];rfl));have el:r=.nil:=by
   cases r<;>grind[Tr.Ey,Tr.root]
  subst el;exact⟨l,i,_,A,rfl,⟨h1,Y.mono G_,by grind[Tr.idx],hl,hi,I',rfl⟩,rfl⟩;apply fl_i (B.cells (g.E+1) _ (by rw[Ap J];rfl));have Z:r≠.nil:=λe'=>by subst e';exact e rfl
  apply AA (V Z h1 hr X hb.K4.2.cons.1);rintro _ w7 ⟨N,j,m,A1,rfl,I,e1⟩;apply BD;have B7:=B.T_ I.T_ B_;rw[AE,AH];refine B7.st (q:=g.E+1) (by grind[BZ]) rfl rfl λw8 B8 m8=>?_;rw[Dj J] at B8;apply B8.GJ (by rw[Bp,aAC,J];rfl);have h8:=I.FR.T_ m8 B_;have U:=g.Bw (g.Bw Q I.T_ λy _ hy e=>h.NO y e.1 hy) m8 B_;have sub:∀q,q∈N.idx\/q=j->q∈r.idx:=λq hq=>I.idx.mem_iff.1 B_;have a1:A1.f i=some _:=(I.Ak i u4).trans hi;have a6:Tr.AW g.k.μ A1.f l:=ES hl I.Ak E;have a7:Tr.Ic (.node l i x N):=Tr.BQ.2 ⟨u1,(I.K2 X).1,u3,B_,B_⟩;have a8:FU g (Tr.node l i x N).toL:=by
   have:(Tr.node l i x r).toL=(Tr.node l i x N).toL++[m.x]:=by grind[Tr.toL]
   rw[this] at hb;exact hb.K4.1
  apply AA (JN (l:=l) (r:=N) (n:={ Tr.Ey g.k.μ (.node l i x r) x l.root r.root with r:=N.root }) h8 a1 U rfl rfl a6 I.holds a7 a8);rintro _ ak ⟨t2,A2,rfl,O⟩;have hj:j∉(Tr.node l i x N).idx:=λe=>by
   simp only[Tr.idx,K8,S6] at e;rcases e with e|e|e;grind;grind;exact(I.K2 X).2 e
  refine⟨t2,j,m,A2,rfl,⟨O.FR,?_,?_,O.holds,(O.Ak j hj).trans I.Vi,λq hq=>?_,by rw[O.len,I.len]⟩,?_⟩;exact(((Y.mono G_).trans I.T_).next m8 E).trans O.T_;apply(O.idx.cons j).trans;simp only[Tr.idx];have p1:(j::(l.idx++i::N.idx)).Perm (l.idx++i::(j::N.idx)):=by
   grind
  exact p1.trans ((aA1 _).append (I.idx.cons i));simp only[Tr.idx,K8,S6,aDD] at hq;refine(O.Ak q λe=>?_).trans (I.Ak q hq.2.2);grind[Tr.idx];grind[OT.toL,Tr.toL,Tr.Ey]
def IH{b i:Nat}:∀(k:Nat) {W:c_} {A:ArS α} {n:Nd α} {l r:Tr α},l.Cz+r.Cz<=k->Ea g F C W b most A->A.f i=some n->Tr.AW g.k.μ A.f l->Tr.AW g.k.μ A.f r->Tr.Ic (.node l i n.x r)->FU g (Tr.node l i n.x r).toL->l_ g.fjoin [e_ b,zIq l.root,zIq i,zIq r.root] (λv' w'=>∃t' X,v'=zIq t'.root/\OT g F C W w' b most A (Tr.node l i n.x r).toL (Tr.node l i n.x r).idx t' X) W:=by
 intro k;induction k with
 |zero=>
  intro W A n l r hk h hi hl hr hu hb;exact WW E E h hi hl hr hu hb
 |succ k V=>
  intro W A n l r hk h hi hl hr hu hb;refine WW (λll il xl lr e Q=>?_) (λrl ir xr rr e Q=>?_) h hi hl hr hu hb
  .subst e;intro Y Z h1 j I J N O;exact V E h1 j I J N O
  .subst e;intro Y Z h1 j I J N O;exact V E h1 j I J N O
def ZT{b:Nat}{X:Int}{A:ArS α}{l r:Tr α}(h:Ea g F C W b X A)(hl:Tr.AW g.k.μ A.f l)(hr:Tr.AW g.k.μ A.f r)(hu:(l.idx++r.idx).Nodup)(hb:FU g (l.toL++r.toL)) : l_ g.fconcat [e_ b,zIq l.root,zIq r.root] (λv' w'=>∃t' A',v'=zIq t'.root/\OT g F C W w' b X A (l.toL++r.toL) (l.idx++r.idx) t' A') W:=by
 apply g.ok.concat;unfold aM;rw[CI];obtain⟨O,u2,u3⟩:=ku.1 hu;refine Ae (λe=>?_) λe=>?_;have el:l=.nil:=by
  cases l<;>grind[Tr.root]
 subst el;exact⟨r,A,rfl,h,AF.refl _ _,rfl,aA1 _,hr,I',rfl⟩
 .have Q:l≠.nil:=λe'=>by subst e';exact e rfl
  apply AA (Xb l Q h hl O hb.K4.1);rintro _ w1 ⟨N,j,m,A1,rfl,I,e1⟩;apply BD;have sub:∀q,q∈N.idx\/q=j->q∈l.idx:=λq Y=>I.idx.mem_iff.1 B_;have U:Tr.AW g.k.μ A1.f r:=ES hr I.Ak B_;have V:Tr.Ic (.node N j m.x r):=Tr.BQ.2 ⟨(I.K2 O).1,u2,(I.K2 O).2,B_,B_⟩;have Z:(Tr.node N j m.x r).toL=l.toL++r.toL:=by grind[Tr.toL]
  apply AA (IH (N.Cz+r.Cz) (DN _) I.FR I.Vi I.holds U V (hb.Kb Z));rintro _ w2 ⟨t2,A2,rfl,J⟩;have Kb:(Tr.node N j m.x r).idx.Perm (l.idx++r.idx):=by
   simp only[Tr.idx];exact List.perm_middle.trans (I.idx.append (aA1 r.idx))
  exact⟨t2,A2,rfl,J.FR,I.T_.trans J.T_,J.toL.trans Z,J.idx.trans Kb,J.holds,λq Y=>(J.Ak q λe=>Y (Kb.mem_iff.1 e)).trans (by grind[Xl.Ak]),by rw[J.len,I.len]⟩
def LS(g:AvT α)(F C:d_)(W w':c_)(b:Nat)(j:Int)(A:ArS α):Prop:=∃F',(∀x,F x->F' x)/\(∀x,F' x->F x\/W.heap.size<=x)/\Ea g F' C w' b j A/\AF (Fb F b) W w'
theorem WK{b c:Nat}{N:Int}{A O:ArS α}{pl fr:b_}(h:jH g F C W b c N A pl fr)(ha:Ro g (λx=>F x/\x≠b) C W w' c O):LS g F C W w' b N O:=by
 obtain⟨J,j,I,k1,k2,X,Q⟩:=ha;have U:=h.box.lt (P9 _);refine⟨λx=>J x\/x=b,λx V=>?_,λx V=>?_,⟨c,j,I,h.box.T_ Q λe=>e.2 rfl,?_,.inr rfl,h.fb.2⟩,Q⟩;by_cases e:x=b;exact .inr e;exact B_;grind[jH.fb];have e:(λx=>(J x\/x=b)/\x≠b)=J:=by
  grind
 grind
def RJ{b c i:Nat}{j:Int}{A:ArS α}{pl fr:b_}{n:Nd α}(h:jH g F C W b c j A pl fr)(hi:A.f i=some n) :
  l_ g.aFree [e_ c,zIq i] (λv' w'=>LS g F C W w' b j (A.free i)) W:=
 AA (lX h.ar hi) (by grind[WK])
def Qr{b c:Nat}{j:Int}{A:ArS α}{pl fr:b_}{n:Nd α}{r:U_}(h:jH g F C W b c j A pl fr)(hr:g.R C W r n.x)(hl:A.lv<109951162777) :
  l_ g.aTake [e_ c,.agg (r++Bu n).toArray] (λv' w'=>v'=zIq A.num/\LS g F C W w' b j (A.take n)) W:=
 AA (nB h.ar hr hl) (by grind[WK])
def fh{b:Nat}:∀(t:Tr α) {F:d_} {W:c_} {A:ArS α},Ea g F C W b most A->Tr.AW g.k.μ A.f t->Tr.Ic t->l_ g.fdrop [e_ b,zIq t.root] (λ_ w'=>∃N,LS g F C W w' b most N/\(∀q,q∉t.idx->N.f q=A.f q)/\N.lv+t.Cz=A.lv) W:=by
 intro t;induction t with
 |nil=>
  intro F W A h hh hu;apply g.ok.drop;unfold mz;simp only[Tr.root];refine eqP (λ_=>?_) λe=>(e rfl).elim;exact⟨A,⟨F,M_,K_,h,AF.refl _ _⟩,I',rfl⟩
 |node l i x r O Q=>
  intro F W A h hh hu;obtain⟨hl,hr,hi⟩:=id hh;obtain⟨u1,u2,u3,u4,u5⟩:=Tr.BQ.1 hu;apply g.ok.drop;unfold mz;simp only[Tr.root];refine eqP E λ_=>?_;refine FD h hi λrc bx w1 U aa B V=>?_;have I:=g.rlen V;have h1:=h.S_ U;apply fl_i (B.cells (g.E+0) _ (by rw[Ap I];rfl));apply AA (O h1 hl u1);rintro _ w5 ⟨A1,T1,J,a7⟩;obtain⟨F1,a1,a2,h5,X⟩:=T1;have nb:¬F bx:=λe=>by have:=h.lt bx (.inl e);omega
  have B5:=B.T_ X λe=>nb e.1;apply fl_i (B5.cells (g.E+1) _ (by rw[Ap I];rfl));have Y:Tr.AW g.k.μ A1.f r:=ES hr J B_;have Z:A1.f i=some _:=(J i u3).trans hi;apply AA (Q h5 Y u2);rintro _ w7 ⟨A2,T2,a6,a8⟩;obtain⟨F2,b1,b2,h7,m7⟩:=T2;have j:A2.f i=some _:=(a6 i u4).trans Z;obtain⟨c,pl,fr,hT⟩:=h7;apply nfl_i (hT.box.cells 3 _ rfl);apply AA (RJ hT j);rintro _ w9 ⟨F3,c1,c2,h9,m9⟩;have s1:=U.size;have s5:=X.size;have s7:=m7.size;refine⟨A2.free i,⟨F3,B_,λx hx=>?_,h9,?_⟩,λq hq=>?_,by have:=ArS.VJ j hT.ar.ok;grind[Tr.Cz]⟩;grind;have k1:AF (Fb F b) W w5:=(U.mono G_).trans X;have k2:AF (Fb F b) W w7:=by grind[AF.next]
  grind[AF.next];simp only[Tr.idx,K8,S6,aDD] at hq;rw[ArS.Yo j,Tr.IC _ hq.2.1];grind
def Ww{b:Nat}{A:ArS α}{t:Tr α}(h:Ea g F C W b t.root A)(ht:Tr.AW g.k.μ A.f t) : l_ g.fSize [e_ b] (λv' w'=>v'=zIq (Tr.sz g.k.μ t.toL)/\AG W w') W:=by
 apply g.ok.size;unfold sP;obtain⟨c,pl,fr,j⟩:=id h;apply nfl_i (j.box.cells 4 _ rfl);apply AA (Ct h ht);rintro _ J ⟨rfl,I⟩;exact Bt (vs:=[_,_,_]) (by rfl) (Bt (vs:=[_,_,_]) (by rfl) (Bt (vs:=[_,_,_]) (by rfl) ⟨rfl,I⟩))
end
def Bx.AAe{b q:Nat}(h:Bx W b vs)(I:q<vs.length)(u:b_):Bx (W.setCell ⟨b,q,none⟩ u) b (vs.set q u):=by
 refine⟨λj v J=>?_,(by grind[Bx.Cq,Bg.set])⟩;grind[World.cell?_setCell_same,World.cell?_setCell_other,Bx.cells]
theorem Bx.Fj{b:Nat}:∀(us:U_) (p:Nat) (W:c_) (vs:U_),Bx W b vs->p+us.length<=vs.length->Bx (Fj W ⟨b,0,none⟩ p us) b (My vs p us)/\AF (λx=>x=b) W (Fj W ⟨b,0,none⟩ p us):=by
 intro us;induction us with
 |nil=>intro p W vs h _;exact⟨h,AF.refl _ _⟩
 |cons u us j=>
  intro p W vs h hl;rw[cO] at hl;simp only[YtjdgbcdfgnajlaaGreatDoor.Fj,My,AH];obtain⟨h1,I⟩:=j (p+1) _ _ (h.AAe (q:=p) E u) (by rw[aAC];omega);exact⟨h1,(AF.setCell (M:=λx=>x=b) W ⟨b,p,none⟩ u rfl).trans I⟩
def Bx.part{b n:Nat}{vs us:U_}{K:c_->Prop}(h:Bx W b vs)(I:us.length=n)(hl:n<=vs.length)(h1:∀v∈us,v.oneCell'=true)(J:∀W',Bx W' b (My vs 0 us)->AF (λx=>x=b) W W'->K W'):Bv n (e_ b) (.agg us.toArray) K W:=by
 obtain⟨N,O⟩:=Bx.Fj us 0 W vs h E;exact⟨_,us,rfl,rfl,I,h1,λj Q=>by rw[AH];exact h.Cq j E,J _ N O⟩
def IE{W0 W:c_}{p q n:Nat}{N us vs:U_}{J:c_->Prop}(g:AG W0 W)(hp:W0.heap.size<=p)(hq:W0.heap.size<=q)(j:p≠q)(V:Bx W p N)(X:Bx W q N)(O:N.length=n)(hu:us.length=n)(Y:vs.length=n)(Z:∀v∈us,v.oneCell'=true)(ov:∀v∈vs,v.oneCell'=true)(hJ:∀W',AG W0 W'->Bx W' p us->Bx W' q vs->J W') : Bv n (e_ p) (.agg us.toArray) (λI=>AF (λy=>W0.heap.size<=y) W I/\Bv n (e_ q) (.agg vs.toArray) (λw2=>AF (λy=>W0.heap.size<=y) I w2/\J w2) I) W:=by
 refine V.Ax hu O Z λI B1 Q=>⟨(by grind[AF.mono]),?_⟩;refine(X.T_ Q λe=>j e.symm).Ax Y O ov λw2 B2 U=>⟨(by grind[AF.mono]),?_⟩;exact hJ w2 ((g.next Q E).next U E) (B1.T_ U j) B2
section
structure kj (g:AvK):Prop where
 split:∀{v0 v1 v2 K w},Yc g v0 v1 v2 K w->l_ g.fsplit [v0,v1,v2] K w
 pick:∀{v0 v1 K w},tK g v0 v1 K w->l_ g.fpick [v0,v1] K w
 melded:∀{v0 v1 K w},bC g v0 v1 K w->l_ g.fmelded [v0,v1] K w
 replace:∀{v0 v1 v2 v3 K w},Xa g v0 v1 v2 v3 K w->l_ g.fReplace [v0,v1,v2,v3] K w
 Ax:∀{v0 v1 v2 v3 v4 K w},gi g v0 v1 v2 v3 v4 K w->l_ g.fover [v0,v1,v2,v3,v4] K w
structure AvN (α:Type) extends AvT α where
 one0:one=false
 okN:kj toAvK
 cells:α->U_
 Rc:∀{C w r x},R C w r x↔r=cells x
 cutc:∀{w x p},0<p->p<(k.μ x).1->(k.μ x).1<=1099511627776->Bb prog EP vc [.agg (cells x).toArray,zIq (p:Int)] (λv w'=>v=.tuple #[.agg (cells (k.cut x p).1).toArray,.agg (cells (k.cut x p).2).toArray]/\AG w w') w
 meldc:∀{w x y},0<(k.μ x).1->(k.μ x).1<=1099511627776->(k.μ y).1<=1099511627776->Bb prog EP vd [.agg (cells x).toArray,.agg (cells y).toArray] (λv w'=>AG w w'/\∃r,r.length=E/\(∀u∈r,u.oneCell'=true)/\v=.tuple #[.agg r.toArray,.bool (k.meld x y).isSome]/\∀z,k.meld x y=some z->r=cells z) w
section
variable {α:Type}
def Yv(g:AvT α):Prop:=∀{F C:d_} {W:c_} {b i:Nat} {j:Int} {A:ArS α} {n:Nd α},Ea g F C W b j A->A.f i=some n->l_ g.fpick [e_ b,zIq i] (λv' w'=>∃r,v'=g.toAvK.enc r/\g.R C w' r n.x/\LS g F C W w' b j (A.free i)) W
def RZ(g:AvT α):Prop:=∀{F C S:d_} {W:c_} {b:Nat} {j:Int} {A:ArS α} {v:b_} {l:List α},Ea g F C W b j A->Al S g.E (g.R C) W v l->l.length<=109951162777->FU g l->l_ g.fmelded [e_ b,v] (λv' w'=>AB W.heap.size g.te g.E (g.R C) w' v' (g.k.melded l)/\AG W w') W
structure Dt (g:AvT α) (F C:d_) (W w':c_) (b:Nat) (rt:Int) (A:ArS α) (t:Tr α) (p:Nat) (l r:Tr α) (A':ArS α):Prop where
 wC:LS g F C W w' b rt A'
 l1:l.toL=(g.k.split t.toL p).1
 r1:r.toL=(g.k.split t.toL p).2
 hl:Tr.AW g.k.μ A'.f l
 hr:Tr.AW g.k.μ A'.f r
 K2:(l.idx++r.idx).Nodup
 idx:∀q,q∈l.idx++r.idx->q∈t.idx\/A.f q=none
 Ak:∀q,q∉t.idx->q∉l.idx++r.idx->A'.f q=A.f q
 len:A'.lv+t.Cz=A.lv+l.Cz+r.Cz
 le:l.Cz+r.Cz<=t.Cz+1
def Ux(g:AvT α):Prop:=∀{C:d_} {b:Nat} {j:Int} (t:Tr α) {F:d_} {W:c_} {A:ArS α} {p:Nat},Ea g F C W b j A->A.lv<109951162777->Tr.AW g.k.μ A.f t->Tr.Ic t->FU g t.toL->p<=1099511627776->l_ g.fsplit [e_ b,zIq t.root,zIq (p:Int)] (λv' w'=>∃l r I,v'=.tuple #[zIq l.root,zIq r.root]/\Dt g F C W w' b j A t p l r I) W
end
section
variable {α:Type}{g:AvT α}
def Ly{b i p:Nat}{Q:Int}{A j:ArS α}{l r a c:Tr α}{x:α}{n:Nd α}(S:Dt g F C W w' b Q A l p a c j)(hi:A.f i=some n)(hr:Tr.AW g.k.μ A.f r)(hu:Tr.Ic (.node l i x r)) : j.f i=some n/\Tr.AW g.k.μ j.f r/\Tr.Ic (.node c i x r)/\∀q∈a.idx,q∉(Tr.node c i x r).idx:=by
 obtain⟨u1,U,V,X,u5⟩:=Tr.BQ.1 hu;have I:∀q,(∃m,A.f q=some m)->q∉l.idx->q∉a.idx++c.idx:=by grind[Dt.idx]
 have J:=I i ⟨n,hi⟩ V;have N:∀q∈r.idx,q∉a.idx++c.idx:=by grind[Tr.AW.LA]
 obtain⟨n1,Y,Z⟩:=ku.1 S.K2;refine⟨(by grind[Dt.Ak]),(by grind[Tr.AW.frame,Dt.Ak]),Tr.BQ.2 ⟨Y,U,B_,X,B_⟩,λq O e=>?_⟩;simp only[Tr.idx,K8,S6] at e;rcases e with e|e|e;exact Z q O q e rfl;exact J (e▸aAT _ O);exact N q e (aAT _ O)
def Kp{b i p:Nat}{J:Int}{A j:ArS α}{l r a c:Tr α}{x:α}{n:Nd α}(S:Dt g F C W w' b J A r p a c j)(hi:A.f i=some n)(hl:Tr.AW g.k.μ A.f l)(hu:Tr.Ic (.node l i x r)) : j.f i=some n/\Tr.AW g.k.μ j.f l/\Tr.Ic (.node l i x a)/\∀q∈c.idx,q∉(Tr.node l i x a).idx:=by
 obtain⟨N,Y,O,Q,Z⟩:=Tr.BQ.1 hu;have I:∀q,(∃m,A.f q=some m)->q∉r.idx->q∉a.idx++c.idx:=by grind[Dt.idx]
 have U:=I i ⟨n,hi⟩ Q;have V:∀q∈l.idx,q∉a.idx++c.idx:=by grind[Tr.AW.LA]
 obtain⟨X,n2,n3⟩:=ku.1 S.K2;refine⟨(by grind[Dt.Ak]),(by grind[Tr.AW.frame,Dt.Ak]),Tr.BQ.2 ⟨N,X,O,B_,B_⟩,λq hq e=>?_⟩;grind[Tr.idx]
def G8(l:List α):∀p,Tr.sz g.k.μ (g.k.split l p).1+Tr.sz g.k.μ (g.k.split l p).2=Tr.sz g.k.μ l/\Tr.mk g.k.μ (g.k.split l p).1+Tr.mk g.k.μ (g.k.split l p).2=Tr.mk g.k.μ l:=by
 induction l with
 |nil=>grind[Kd.split,Tr.sz,Tr.mk]
 |cons x l j=>
  intro p;simp only[Kd.split];by_cases h0:p=0;grind[Tr.sz,Tr.mk];rw[By h0];grind[AvT.cutμ,Tr.sz,Tr.mk]
theorem FU.split{l:List α}(h:FU g l)(p:Nat):FU g (g.k.split l p).1/\FU g (g.k.split l p).2:=by
 obtain⟨h1,j⟩:=G8 (g:=g) l p;obtain⟨b1,b2⟩:=h;exact⟨⟨E,E⟩,E,E⟩
end
section
variable {α:Type}{g:AvN α}
def bM(r:U_):g.toAvK.enc r=.agg r.toArray:=by grind[AvK.enc,AvN.one0]
theorem DO(x:α):(g.cells x).length=g.E:=g.rlen (C:=λ_=>False) (w:=default) (g.Rc.2 rfl)
theorem FN(x:α):∀u∈g.cells x,u.oneCell'=true:=g.rone (C:=λ_=>False) (w:=default) (g.Rc.2 rfl)
def wo:Yv g.toAvT:=by
 intro F C W b i rt A n h hi;apply g.okN.pick;unfold tK;refine Bx.zero λb4 w1 a6 N V=>?_;have h1:=h.S_ N;have key:=Yj h1 hi;apply AA key;rintro _ w2 ⟨r,rfl,hr,I⟩;have j:=g.rlen hr;apply AY (g.field0 r (Bu n) w2 j (g.rone hr) rfl);rw[bM];refine Bx.new j g.zlen (g.rone hr) λb5 w5 a7 J B5=>?_;obtain⟨c,pl,fr,X⟩:=((h1.S_ I).S_ J);apply nfl_i (X.box.cells 3 _ rfl);apply AA (RJ X hi);rintro _ w7 ⟨F',a1,a2,h7,O⟩;have a8:g.R C w7 r n.x:=g.Rc.2 (g.Rc.1 hr);have s4:=N.size;have s2:=I.size;have s5:=J.size;have nF:∀{z:Nat},W.heap.size<=z->∀x,F x\/C x->x≠z:=λhz x Y e=>by have:=h.lt x Y;omega
 have Q:=B5.T_ O λe=>nF E b5 (.inl e.1) rfl;have U:=((V.S_ I).S_ J).T_ O B_;have Z:b4<w1.heap.size:=V.lt (by rw[g.zlen];exact g.Epos);apply Q.GJ j;refine U.Ax j g.zlen (g.rone hr) λw9 B9 m9=>?_;apply B9.GJ j;have h9:Ea g.toAvT F' C w9 b rt (A.free i):=by grind[Ea.T_]
 refine⟨r,(bM r).symm,g.Rc.2 (g.Rc.1 hr),F',a1,λx Y=>?_,h9,?_⟩;grind;exact((((N.trans I).trans J).mono G_).trans O).next m9 E
end
variable {α:Type}{g:AvN α}
def JV{a c:Nat}{k:b_->Prop}(h:c<=a)(ha:a<=9223372036854775807)(hk:k (zIq (a-c:Nat))):EO .i64 (zIq a) (zIq c) k:=by
 rw[A6,wrap64 E E];grind
def tG{r:U_}(hr:r.length=g.E)(x:α):Instr.fill (λi=>[(0,g.E),(g.E,1),(g.E+1,1),(g.E+2,1),(g.E+3,1),(g.E+4,1)][i]?) g.toAvK.zN.toArray [(0,.agg r.toArray)]=some (r++Bu (⟨x,0,0,0,0,0⟩:Nd α)).toArray:=by
 have j:=g.zlen;rw[EH (l:=g.toAvK.zN) (vs:=r) (off:=0) (len:=g.E) rfl rfl hr (by rw[Li];omega),HX,AvK.zN,LC E];rfl
def V4{b i:Nat}{j:Int}{A:ArS α}{n:Nd α}{l r:Tr α}(h:Ea g.toAvT F C W b j A)(hi:A.f i=some n)(hl:Tr.AW g.k.μ A.f l)(hr:Tr.AW g.k.μ A.f r)(hu:Tr.Ic (.node l i n.x r))(hb:FU g.toAvT (Tr.node l i n.x r).toL) : l_ g.fjoin [e_ b,zIq l.root,zIq i,zIq r.root] (λv' w'=>∃t' I,v'=zIq t'.root/\OT g.toAvT F C W w' b j A (Tr.node l i n.x r).toL (Tr.node l i n.x r).idx t' I) W:=IH (l.Cz+r.Cz) (DN _) h hi hl hr hu hb
def uD:Ux g.toAvT:=by
 intro C b rt t;induction t with
 |nil=>
  intro F W A p h hs _ _ _ _;apply g.okN.split;unfold Yc;simp only[Tr.root];refine eqP (λ_=>?_) λe=>(e rfl).elim;exact⟨.nil,.nil,A,rfl,⟨⟨F,M_,K_,h,AF.refl _ _⟩,rfl,rfl,trivial,trivial,aBq,(λq hq=>nomatch hq),I',rfl,Lc _⟩⟩
 |node l i x r ez eA=>
  intro F W A p h hs hh hu hb hp;obtain⟨hl,hr,hi⟩:=id hh;obtain⟨u1,u2,u3,u4,u5⟩:=Tr.BQ.1 hu;have al:=g.k.SR l.toL r.toL x p;have cx:=hb.1;have da:=hb.2;simp only[Tr.toL,Tr.Dh,Tr.CP] at cx;simp only[Tr.toL,Tr.JQ,Tr.FK] at da;have nF:∀{z:Nat},W.heap.size<=z->∀x,F x\/C x->x≠z:=λhz x hx e=>by have:=h.lt x hx;omega
  apply g.okN.split;unfold Yc;simp only[Tr.root];refine eqP E λ_=>?_;refine FD h hi λrc bx w3 V bk B bl=>?_;have Y:=g.rlen bl;have dk:=g.Rc.1 bl;have h3:=h.S_ V;apply fl_i (B.cells (g.E+0) _ (by rw[Ap Y];rfl));apply AA (Ct h3 hl);rintro _ w5 ⟨rfl,g5⟩;apply Hz;have dr:=gdr w5;have dz:=(V.trans g5).trans dr;obtain⟨c,pl,fr,hT⟩:=id h;have b6:=hT.T_ dz C_;have B5:=(B.S_ g5).S_ dr;apply Ac (λ_ _=>False);apply AJ;rw[AE,AH,AE,AH];refine AP ⟨b6.box.cells 0 _ rfl,C_⟩ ?_;rw[AE,AH];refine NK (g:=g.toAvT) (r:=rc) Y (λj v hv=>⟨B5.cells j v B_,C_⟩) ?_;apply BL (g.meas (C:=C) (x:=x) (g.Rc.2 (g.Rc.1 bl)));rintro _ w6 ⟨rfl,g6⟩;refine⟨E,?_⟩;apply BD;have an:=dz.trans g6;have gD:=an.size;have h6:=h.S_ an;have B6:=B5.S_ g6;refine leP (λdT=>?_) λgx=>?_;have e5:p<=Tr.sz g.k.μ l.toL:=E;rw[Ix e5] at al;apply fl_i (B6.cells (g.E+0) _ (by rw[Ap Y];rfl));apply AA (ez h6 hs hl u1 hb.K4.1 hp);rintro _ w8 ⟨a,c1,A1,rfl,J⟩;apply BD;obtain⟨F1,k1,k2,h8,m8⟩:=J.wC;have B8:=B6.T_ m8 λe=>nF bk bx (.inl e.1) rfl;apply fl_i (B8.cells (g.E+1) _ (by rw[Ap Y];rfl));obtain⟨e1,e2,e3,e4⟩:=Ly J hi hr hu;have bp:FU g.toAvT (Tr.node c1 i x r).toL:=by
   obtain⟨q1,q2⟩:=G8 (g:=g.toAvT) l.toL p;constructor;grind[Tr.toL,Tr.Dh,Tr.CP,Dt.r1];grind[Tr.toL,Tr.JQ,Tr.FK,Dt.r1]
  have eB:=J.len;apply AA (IH (c1.Cz+r.Cz) (DN _) h8 e1 J.hr e2 e3 bp);rintro _ eC ⟨t2,A2,rfl,N⟩;have Kb:=N.idx;have ay:=N.Cz;have e6:=N.len;have dT:=J.le;rw[(Tr.Dk _).2] at ay;have sm:∀q,q∈t2.idx↔q∈(Tr.node c1 i x r).idx:=λq=>N.idx.mem_iff;refine⟨a,t2,A2,rfl,⟨⟨F1,k1,B_,N.FR,((an.mono G_).trans m8).next N.T_ λx hx e=>?_⟩,?_,?_,J.hl.frame g.k.μ (by grind[OT.Ak]),N.holds,?_,λq hq=>?_,λq a7 b7=>?_,by grind[Tr.Cz],by grind[Tr.Cz]⟩⟩;grind;grind[Dt.l1,Tr.toL];grind[OT.toL,Tr.toL,Tr.Ey,Dt.r1];exact ku.2 ⟨(ku.1 J.K2).1,N.idx.nodup_iff.2 e3,B_⟩;grind[Dt.idx,Tr.idx];simp only[Tr.idx,K8,S6,aDD] at a7;have bs:q∉(Tr.node c1 i x r).idx:=B_;refine(N.Ak q bs).trans (J.Ak q a7.1 λe=>?_);grind[Tr.idx];have c4:¬p<=Tr.sz g.k.μ l.toL:=E;rw[By c4] at al;refine DI E ?_;refine geP (λgO=>?_) λgy=>?_;have e7:Tr.sz g.k.μ l.toL+(g.k.μ x).1<=p:=E;rw[Ix e7] at al;apply fl_i (B6.cells (g.E+1) _ (by rw[Ap Y];rfl));refine JV E E (JV E E ?_);refine AA (eA h6 hs hr u2 hb.K4.2.cons.1 (p:=p-Tr.sz g.k.μ l.toL-(g.k.μ x).1) E) ?_;rintro _ w8 ⟨a,c1,A1,rfl,J⟩;apply BD;obtain⟨F1,k1,k2,h8,m8⟩:=J.wC;have B8:=B6.T_ m8 λe=>nF bk bx (.inl e.1) rfl;apply fl_i (B8.cells (g.E+0) _ (by rw[Ap Y];rfl));obtain⟨e1,e2,e3,e4⟩:=Kp J hi hl hu;have bp:FU g.toAvT (Tr.node l i x a).toL:=by
   obtain⟨q1,q2⟩:=G8 (g:=g.toAvT) r.toL (p-Tr.sz g.k.μ l.toL-(g.k.μ x).1);constructor;grind[Tr.toL,Tr.Dh,Tr.CP,Dt.l1];grind[Tr.toL,Tr.JQ,Tr.FK,Dt.l1]
  have eB:=J.len;apply AA (IH (l.Cz+a.Cz) (DN _) h8 e1 e2 J.hl e3 bp);rintro _ eC ⟨t2,A2,rfl,N⟩;have ay:=N.Cz;have e6:=N.len;have dT:=J.le;rw[(Tr.Dk _).2] at ay;have sm:∀q,q∈t2.idx↔q∈(Tr.node l i x a).idx:=λq=>N.idx.mem_iff;refine⟨t2,c1,A2,rfl,⟨⟨F1,k1,B_,N.FR,((an.mono G_).trans m8).next N.T_ λx hx e=>?_⟩,?_,?_,N.holds,J.hr.frame g.k.μ λq hq=>N.Ak q (e4 q hq),?_,λq hq=>?_,λq a7 b7=>?_,by grind[Tr.Cz],by grind[Tr.Cz]⟩⟩;grind;grind[OT.toL,Tr.toL,Tr.Ey,Dt.l1];grind[Dt.r1,Tr.toL];exact ku.2 ⟨N.idx.nodup_iff.2 e3,(ku.1 J.K2).2.1,B_⟩;grind[Tr.idx,Dt.idx];simp only[Tr.idx,K8,S6,aDD] at a7;have bs:q∉(Tr.node l i x a).idx:=B_;refine(N.Ak q bs).trans (J.Ak q a7.2.2 λe=>?_);grind[Tr.idx];have c6:¬Tr.sz g.k.μ l.toL+(g.k.μ x).1<=p:=E;rw[By c6] at al;have c7:0<p-Tr.sz g.k.μ l.toL:=E;have c8:p-Tr.sz g.k.μ l.toL<(g.k.μ x).1:=E;generalize eH:p-Tr.sz g.k.μ l.toL=I at al c7 c8;have b0:=gdr w6;refine AT (λvs W'=>∃a1 Z,vs=[e_ a1,e_ Z]/\w6.drew.heap.size<=a1/\w6.drew.heap.size<=Z/\AG w6.drew W'/\Bx W' a1 (g.cells (g.k.cut x I).1)/\Bx W' Z (g.cells (g.k.cut x I).2)) ?_ ?_;rotate_left
  .have a8:∀{W':c_},Bb prog EP g.vc [.agg (g.cells x).toArray,zIq (I:Int)] (λv w'=>v=.tuple #[.agg (g.cells (g.k.cut x I).1).toArray,.agg (g.cells (g.k.cut x I).2).toArray]/\AG W' w') W':=g.cutc c7 c8 E;have eI:=B6.S_ b0;have e8:=hT.T_ (an.trans b0) C_;have gA:=e8.box.lt (P9 _);have eL:=eI.lt (by grind[BZ]);apply Ac (λ_ y=>w6.drew.heap.size<=y);apply AJ;rw[AE,AH,AE,AH];refine AP ⟨e8.box.cells 1 _ rfl,B_⟩ ?_;rw[AE,AH];apply DH Y (λj v hv=>⟨by grind[AH,Bx.cells],(by grind[AH])⟩);refine JV E E ?_;rw[eH,dk];have X:=DO (g:=g) (g.k.cut x I).1;have a6:=DO (g:=g) (g.k.cut x I).2;have av:=FN (g:=g) (g.k.cut x I).1;have ax:=FN (g:=g) (g.k.cut x I).2;have gm:∀{W1 W2:c_},AG W1 W2->AF (λy=>w6.drew.heap.size<=y) W1 W2:=by grind[AF.mono]
   have nb:∀{z:Nat} {W':c_} {vs:U_},Bx W' z vs->vs.length=g.E->z<W'.heap.size:=λB' e=>B'.lt (by grind[AvT.Epos]);refine⟨?_,?_,?_⟩
   .apply BL a8;rintro _ w2 ⟨rfl,U⟩;refine⟨gm U,Bt (vs:=[_,_]) (by rfl) (Bt (vs:=[_,_]) (by rfl) ⟨?_,?_⟩)⟩
    .refine Bx.zero λa1 w3 aa V O=>⟨gm V,Bx.zero λZ w4 ak g4 Q=>⟨gm g4,?_⟩⟩;have k1:=nb O g.zlen;have k2:=U.size;exact IE ((U.trans V).trans g4) E E E (O.S_ g4) Q g.zlen X a6 av ax B_
    .refine Bx.zero λZ w3 ak V Q=>⟨gm V,Bx.zero λa1 w4 aa g4 O=>⟨gm g4,?_⟩⟩;have k1:=nb Q g.zlen;have k2:=U.size;exact IE ((U.trans V).trans g4) E E E O (Q.S_ g4) g.zlen X a6 av ax B_
   refine Bx.zero λa1 w1 aa g1 O=>⟨gm g1,?_,?_⟩;apply BL a8;rintro _ w2 ⟨rfl,U⟩;refine⟨gm U,BD ?_⟩;refine Bx.zero λZ w3 ak V Q=>⟨gm V,?_⟩;have k1:=nb O g.zlen;have k2:=U.size;exact IE ((g1.trans U).trans V) E E E ((O.S_ U).S_ V) Q g.zlen X a6 av ax B_;refine Bx.zero λZ w3 ak V Q=>⟨gm V,?_⟩;apply BL a8;rintro _ w2 ⟨rfl,U⟩;refine⟨gm U,BD ?_⟩;have k1:=nb O g.zlen;exact IE ((g1.trans V).trans U) E E E ((O.S_ V).S_ U) (Q.S_ U) g.zlen X a6 av ax B_;refine Bx.zero λZ w1 ak g1 Q=>⟨gm g1,?_,?_⟩;apply BL a8;rintro _ w2 ⟨rfl,U⟩;refine⟨gm U,BD ?_⟩;refine Bx.zero λa1 w3 aa V O=>⟨gm V,?_⟩;have k1:=nb Q g.zlen;have k2:=U.size;exact IE ((g1.trans U).trans V) E E E O ((Q.S_ U).S_ V) g.zlen X a6 av ax B_;refine Bx.zero λa1 w3 aa V O=>⟨gm V,?_⟩;apply BL a8;rintro _ w2 ⟨rfl,U⟩;refine⟨gm U,BD ?_⟩;have k1:=nb Q g.zlen;exact IE ((g1.trans V).trans U) E E E (O.S_ U) ((Q.S_ V).S_ U) g.zlen X a6 av ax B_
  rintro _ W1 ⟨a1,Z,rfl,aa,ak,e9,O,Q⟩ _;have s6:=b0.size;have eN:AG W W1:=(an.trans b0).trans e9;have B1:=(B6.S_ b0).S_ e9;refine DL (AG W1) (AF.drew _ _) ?_;rw[AE,AH];refine BC (λw' g'=>g'.cell (B1.cells (g.E+0) _ (by rw[Ap Y];rfl)) F_) ?_;rw[AE,AH];refine BC (λw' g'=>g'.cell (B1.cells (g.E+1) _ (by rw[Ap Y];rfl)) F_) ?_;intro W2 b8;have gR:=eN.trans b8;have B2:=B1.S_ b8;have ea:=O.S_ b8;have ed:=Q.S_ b8;simp only[Ha];have X:=DO (g:=g) (g.k.cut x I).1;have a6:=DO (g:=g) (g.k.cut x I).2;apply ea.GJ X;rw[AE,AH];refine B2.part X B_ (by grind[FN]) λW3 B3 m3=>?_;rw[LC (by rw[X,Y])] at B3;have eR:AG W W3:=by grind[AF.next]
  have gB:=B6.lt (by grind[BZ]);have c9:=gdr W3;have bb:=eR.trans c9;have b9:=hT.T_ bb C_;have eX:=B3.S_ c9;have ee:=(ed.T_ m3 E).S_ c9;apply Ac (λ_ y=>Fb F b y);apply AJ;rw[AE,AH];refine AP ⟨b9.box.cells 3 _ rfl,B_⟩ ?_;apply DH (vs:=g.cells (g.k.cut x I).1++Bu (Tr.Ey g.k.μ (.node l i x r) x l.root r.root)) (by rw[Bp,X];rfl) (λj v hv=>⟨by rw[AH];exact eX.cells j v hv,λ_ _ e=>by rw[AH] at e;exact nF bk bx (.inl e.1) rfl⟩);apply AA (az b9.ar hi (n:={ Tr.Ey g.k.μ (.node l i x r) x l.root r.root with x:=(g.k.cut x I).1 }) (g.Rc.2 rfl));rintro _ W4 ⟨fa,m4⟩;have ba:AF (Fb F b) W3.drew W4:=by grind[AF.mono,FG.pF]
  refine⟨ba,?_⟩;have h4:Ea g.toAvT F C W4 b rt (A.put i { Tr.Ey g.k.μ (.node l i x r) x l.root r.root with x:=(g.k.cut x I).1 }):=⟨c,pl,fr,b9.box.T_ ba λe=>e.2 rfl,fa,b9.fb⟩;have ef:(A.put i { Tr.Ey g.k.μ (.node l i x r) x l.root r.root with x:=(g.k.cut x I).1 }).f i=some { Tr.Ey g.k.μ (.node l i x r) x l.root r.root with x:=(g.k.cut x I).1 }:=by rw[ArS.OE hi,Tr.OQ]
  have eh:Tr.AW g.k.μ (A.put i { Tr.Ey g.k.μ (.node l i x r) x l.root r.root with x:=(g.k.cut x I).1 }).f l:=by grind[ArS.OE,Tr.AW.out]
  have ej:Tr.AW g.k.μ (A.put i { Tr.Ey g.k.μ (.node l i x r) x l.root r.root with x:=(g.k.cut x I).1 }).f r:=by grind[ArS.OE,Tr.AW.out]
  have ca:∀q,q≠i->(A.put i { Tr.Ey g.k.μ (.node l i x r) x l.root r.root with x:=(g.k.cut x I).1 }).f q=A.f q:=by grind[LO]
  have AAC:=H6 A i { Tr.Ey g.k.μ (.node l i x r) x l.root r.root with x:=(g.k.cut x I).1 };generalize A.put i { Tr.Ey g.k.μ (.node l i x r) x l.root r.root with x:=(g.k.cut x I).1 }=A4 at h4 ef eh ej ca AAC;have ek:=ee.T_ ba λe=>by have:=h.lt Z (.inl e.1);omega
  have cc:=gdr W4;have en:=h4.S_ cc;have ew:=ek.lt (by grind[AvT.Epos]);apply Ac (λ_ y=>Fb F b y\/W4.drew.heap.size<=y);obtain⟨q1,q2,q3⟩:=g.cutμ x I c7 c8;have eo:Tr.Ic (.node l i (g.k.cut x I).1 .nil):=Tr.BQ.2 ⟨u1,aBq,u3,(λe=>nomatch e),λq _ e=>nomatch e⟩;have fo:FU g.toAvT (Tr.node l i (g.k.cut x I).1 .nil).toL:=by
   constructor;grind[Tr.toL,Tr.sz];grind[Tr.toL,Tr.mk]
  apply AA (V4 (l:=l) (r:=.nil) en ef eh trivial eo fo);rintro _ W5 ⟨t1,A5,rfl,J⟩;refine⟨J.T_.mono λx _ e=>.inl e,?_⟩;have z4:=cc.size;obtain⟨c',gW,h0,b6⟩:=id J.FR;apply AJ;rw[AE,AH];obtain⟨cd,h2,h5,cq⟩:=id en;have fs:=b6.box.cells 3 _ rfl;have fv:¬(Fb F b b\/W4.drew.heap.size<=b):=λe=>by
   rcases e with e|e;omega;have:=cq.box.lt (P9 _);omega
  have ec:cd=c':=by
   have e1:=J.T_.cell (cq.box.cells 3 _ rfl) λe=>e.2 rfl;grind
  subst ec;refine AP ⟨cq.box.cells 3 _ rfl,λ_ _ e=>fv e⟩ ?_;apply DH a6 (λj v hv=>⟨by grind[AH,AF.cell,Bx.cells],(by grind[AH])⟩);refine⟨_,tG a6 (g.k.cut x I).2,?_⟩;have rk:=J.len;refine AA (Qr b6 (n:=⟨(g.k.cut x I).2,0,0,0,0,0⟩) (g.Rc.2 rfl) E) ?_;rintro _ W6 ⟨rfl,F6,k1,k2,h6,m6⟩;have z5:=J.T_.size;refine⟨m6.mono λx _ e=>.inl e,?_⟩;obtain⟨cu,h7,tok⟩:=ArS.Y4 (⟨(g.k.cut x I).2,0,0,0,0,0⟩:Nd α) J.FR.ok E;have ep:A5.num∉(Tr.node l i (g.k.cut x I).1 .nil).idx->A4.f A5.num=none:=by grind[OT.Ak]
  have er:A5.num∉t1.idx:=λe=>by
   obtain⟨m,hm⟩:=J.holds.LA g.k.μ e;grind
  have fx:A5.num∉(Tr.node l i (g.k.cut x I).1 .nil).idx:=λe=>er (J.idx.mem_iff.2 e);have fy:=ep fx;have ga:A5.num≠i:=B_;have h9:A.f A5.num=none:=(ca _ ga).symm.trans fy;have gb:A5.num∉r.idx:=λe=>by
   obtain⟨m,hm⟩:=hr.LA g.k.μ e;grind
  have hd:Tr.AW g.k.μ A5.f r:=ej.frame g.k.μ λq hq=>J.Ak q λe=>by
   simp only[Tr.idx,K8,S6,aAU,aBn] at e;grind
  have gd:Tr.AW g.k.μ (A5.take ⟨(g.k.cut x I).2,0,0,0,0,0⟩).f r:=by grind[Tr.AW.out]
  have gf:(A5.take ⟨(g.k.cut x I).2,0,0,0,0,0⟩).f A5.num=some ⟨(g.k.cut x I).2,0,0,0,0,0⟩:=by rw[cu,Tr.OQ]
  have uI:=ArS.Z8 (⟨(g.k.cut x I).2,0,0,0,0,0⟩:Nd α) J.FR.ok;have et:Tr.Ic (.node .nil A5.num (g.k.cut x I).2 r):=Tr.BQ.2 ⟨aBq,u2,(λe=>nomatch e),gb,λq e=>nomatch e⟩;have gg:FU g.toAvT (Tr.node .nil A5.num (g.k.cut x I).2 r).toL:=by
   constructor;simp only[Tr.toL,Tr.Dh,Tr.CP];simp only[Tr.sz,aCI,aDg] at cx ⊢;omega;simp only[Tr.toL,Tr.JQ,Tr.FK];simp only[Tr.mk,aCI,aDg] at da ⊢;omega
  apply AA (V4 (l:=.nil) (r:=r) h6 gf trivial gd et gg);rintro _ W7 ⟨t2,A7,rfl,N⟩;refine⟨N.T_.mono λx _ e=>?_,?_⟩;rcases k2 x e.1 with e'|e';grind;omega;have gl:∀q,q∈t1.idx↔q∈l.idx\/q=i:=λq=>by rw[J.idx.mem_iff];simp[Tr.idx]
  have gq:∀q,q∈t2.idx↔q=A5.num\/q∈r.idx:=λq=>by rw[N.idx.mem_iff];simp[Tr.idx]
  have eu:∀q∈t1.idx,q∉(Tr.node .nil A5.num (g.k.cut x I).2 r).idx:=λq hq e=>by
   simp only[Tr.idx,aAP,S6] at e;rcases e with e|e;grind;grind
  have gu:Tr.AW g.k.μ (A5.take ⟨(g.k.cut x I).2,0,0,0,0,0⟩).f t1:=by rw[cu];exact J.holds.out g.k.μ _ er
  have gv:=J.Cz;have ay:=N.Cz;have e6:=N.len;rw[(Tr.Dk _).2] at gv ay;refine⟨t1,t2,A7,rfl,⟨⟨F6,k1,B_,N.FR,?_⟩,?_,?_,gu.frame g.k.μ (by grind[OT.Ak]),N.holds,?_,λq hq=>?_,λq a7 b7=>?_,by grind[Tr.Cz],by grind[Tr.Cz]⟩⟩;have n1:AF (Fb F b) W W4:=(bb.mono G_).trans ba;have n2:=((n1.trans (cc.mono G_)).trans J.T_).trans m6;refine n2.next N.T_ λx hx e=>?_;grind;rw[J.toL];simp only[Tr.toL,al];rw[N.toL];simp only[Tr.toL,al,aAP];refine ku.2 ⟨J.idx.nodup_iff.2 eo,N.idx.nodup_iff.2 et,λq hq q' gw e=>?_⟩;subst e;exact eu q hq (N.idx.mem_iff.1 gw);rcases K8.1 hq with hq|hq;rcases(gl q).1 hq with e|e;exact .inl k_;exact .inl k_;rcases(gq q).1 hq with e|e;grind;exact .inl k_;simp only[Tr.idx,K8,S6,aDD] at a7;have w1:q∉(Tr.node .nil A5.num (g.k.cut x I).2 r).idx:=λe=>b7 (aAJ _ (N.idx.mem_iff.2 e));have w2:q∉(Tr.node l i (g.k.cut x I).1 .nil).idx:=λe=>b7 (aAT _ (J.idx.mem_iff.2 e));have w3:q≠A5.num:=B_;have e2:(A5.take ⟨(g.k.cut x I).2,0,0,0,0,0⟩).f q=A5.f q:=by rw[cu,Tr.IC _ w3]
  exact((N.Ak q w1).trans (e2.trans (J.Ak q w2))).trans (ca q a7.2.1)
end
section
section
variable {α:Type}{g:AvT α}
def dq{out:List α}{x:α}(h:Tr.sz g.k.μ out+(g.k.μ x).1<=1099511627776):Tr.sz g.k.μ (g.k.DE out x)<=Tr.sz g.k.μ out+(g.k.μ x).1:=by
 unfold Kd.DE;by_cases h0:(g.k.μ x).1=0;grind;rw[By h0];rcases l9 out with rfl|⟨o,y,rfl⟩;simp[Tr.sz];rw[aAV] at h ⊢;simp only[lp,aN,aAK,aAS];grind[Tr.Dh,Tr.CP,AvT.meldμ]
def ZJ(l:List α)(h:Tr.sz g.k.μ l<=1099511627776):Tr.sz g.k.μ (g.k.melded l)<=Tr.sz g.k.μ l:=by
 have gen:∀(l out:List α),Tr.sz g.k.μ out+Tr.sz g.k.μ l<=1099511627776->Tr.sz g.k.μ (l.foldl g.k.DE out)<=Tr.sz g.k.μ out+Tr.sz g.k.μ l:=by
  intro l;induction l with
  |nil=>grind
  |cons x l j=>
   intro out h;rw[Tr.CP] at h ⊢;rw[aAg];have h1:=dq (g:=g) (out:=out) (x:=x) E;have I:=j (g.k.DE out x) E;omega
 grind[Tr.sz,Kd.melded]
def uA{l:List α}{x:α}(h:x∈l):(g.k.μ x).1<=Tr.sz g.k.μ l:=by
 induction l<;>grind[Tr.CP]
end
variable {α:Type}{g:AvN α}
def KO(k:Kd α)(l:List α):(k.melded l).length<=l.length:=by
 have gen:∀(l out:List α),(l.foldl k.DE out).length<=out.length+l.length:=by
  intro l;induction l with
  |nil=>grind
  |cons x l j=>
   intro out;rw[aAg,cO];have h1:=j (k.DE out x);have I:(k.DE out x).length<=out.length+1:=by
    unfold Kd.DE;split;omega;split;split;simp;simp;simp
   omega
 grind[Kd.melded]
def Pd(k:Kd α)(l:List α)(x:α):k.melded (l++[x])=k.DE (k.melded l) x:=by
 grind[Kd.melded]
def Yq(k:Kd α)(j:∀x y z,k.meld x y=some z->0<(k.μ x).1->0<(k.μ z).1)(l:List α):∀x∈k.melded l,0<(k.μ x).1:=by
 have gen:∀(l out:List α),(∀x∈out,0<(k.μ x).1)->∀x∈l.foldl k.DE out,0<(k.μ x).1:=by
  intro l;induction l with
  |nil=>grind
  |cons y l I=>
   intro out h;rw[aAg];apply I _;unfold Kd.DE;split;exact h;split;rename_i z J;have N:=aBf J;grind[List.dropLast_subset];grind
 exact gen l [] E_
def sD:RZ g.toAvT:=by
 intro F C S W b rt A v l h hv hl hb;apply g.okN.melded;unfold bC;obtain⟨va,vc,rfl,hm⟩:=hv.AK;have e9:=hb.1;have c9:=hv.JW g.Epos;rw[AO];refine Aa (λvs W'=>∃(i:Nat) (out:b_),i<=l.length/\vs=[out,zIq i]/\AB W.heap.size g.te g.E (g.R C) W' out (g.k.melded (l.take i))/\AG W W') (λvs _=>l.length-Da vs 1)
  ⟨0,_,Lc _,rfl,AB.nil,AF.refl _ _⟩ ?_
 rintro vs W1 ⟨i,out,hi,rfl,ho,g1⟩ _;simp only[Ha];refine Cn (λea=>?_) λca=>?_;rotate_left;grind;have J:i<l.length:=E;obtain⟨p,r,rfl,hS,hr,hc,ba⟩:=c9.get J;have cc:=g.Rc.1 ba;subst cc;have ak:l.take (i+1)=l.take i++[l[i]]:=by grind[List.take_add_one]
 have bb:Tr.sz g.k.μ (l.take i)+(g.k.μ l[i]).1<=Tr.sz g.k.μ l:=by
  have e:Tr.sz g.k.μ l=Tr.sz g.k.μ (l.take (i+1))+Tr.sz g.k.μ (l.drop (i+1)):=by rw[<-Tr.Dh,Nr]
  grind[Tr.Dh,Tr.CP]
 have N:g.k.melded (l.take (i+1))=g.k.DE (g.k.melded (l.take i)) l[i]:=by rw[ak,Pd]
 have cq:=ZJ (g:=g.toAvT) (l.take i) E;have a6:=Yq g.k (λx y z hz h0=>by have:=(g.meldμ x y z hz).1;omega) (l.take i);have bk:=KO g.k (l.take i);rw[S5,aAD hi] at bk;generalize hx:l[i]=x at hr hc ba bb N;generalize g.k.melded (l.take i)=L at ho N cq a6 bk;have O:=DO (g:=g) x;refine AV J (AX O (by grind[Addr.add_add,AF.cell]) ?_);refine Bx.new O g.zlen (FN (g:=g) x) λb6 w4 ec g4 B6=>?_;have Y:=gdr w4;have bl:=(g1.trans g4).trans Y;obtain⟨c,pl,fr,hT⟩:=id h;have cu:=hT.T_ bl C_;have bp:=B6.S_ Y;have cx:=B6.lt (by grind[AvT.Epos]);apply Ac (λ_ _=>False);apply AJ;rw[AE,AH,AE,AH];refine AP ⟨cu.box.cells 0 _ rfl,C_⟩ ?_;refine DH O (λj v hv=>⟨by rw[AH];exact bp.cells j v hv,C_⟩) ?_;have da:∀{w},Bb prog EP g.vm [.agg (g.cells x).toArray] (λv w'=>v=.tuple #[zIq (g.k.μ x).1,zIq (g.k.μ x).2]/\AG w w') w:=λ{w}=>by
  have:=g.meas (C:=C) (w:=w) (x:=x) (g.Rc.2 rfl);rwa [bM] at this
 apply BL da;rintro _ w5 ⟨rfl,g5⟩;refine⟨E,?_⟩;apply BD;have al:=bl.trans g5;have dk:=bp.S_ g5;have an:AB W.heap.size g.te g.E (g.R C) w5 out L:=AB.T_ ho ((g4.trans Y).trans g5) C_ (by grind[AvN.Rc]);refine eqP (λh0=>?_) λh0=>?_;have bs:(g.k.μ x).1=0:=E;rw[AQ,AL E];refine⟨⟨i+1,out,J,rfl,?_,al⟩,by grind[BV]⟩;grind[Kd.DE];have bs:(g.k.μ x).1≠0:=E;refine AT (λ_ W'=>AG W W'/\AB W.heap.size g.te g.E (g.R C) W' out L/\Bx W' b6 (g.cells x)/\g.k.DE L x=L++[x]) ?_ ?_
 .rintro _ W6 ⟨U,Z,dr,em⟩ _;apply dr.GJ O;have dz:=g.eb_le;refine Dv g.elE Z U.size (cs:=g.cells x) (x:=x) (CY (v:=.agg (g.cells x).toArray) (vs:=g.cells x) g.zlen g.Epos rfl O) O (g.Rc.2 rfl) (by grind[AvT.rone]) (by grind[AvN.Rc]) ?_ E λv' w7 ed m7 ee=>?_;have:(L.length+1)*g.eb<=(L.length+1)*512:=aA6 _ dz;omega;rw[AQ,AL E];refine⟨⟨i+1,v',J,rfl,B_,U.next m7 λy hy e=>by have:=(AB.Am Z y e).1;omega⟩,by grind[BV]⟩
 obtain⟨oa,oc,rfl,ef,eh,dT,ej⟩:=an.AK;rw[AO,A6,wrap64 E E,JP];refine Ae (λca=>?_) λek=>?_;rotate_left;have eo:L=[]:=Of E;grind[Kd.DE];have e1:0<L.length:=E;obtain⟨o,y,av⟩:∃o y,L=o++[y]:=⟨L.dropLast,L.getLast (aAH.1 e1),(aCk _).symm⟩;have X:L.length=o.length+1:=B_;have a1:L.length-1<L.length:=E;have e2:L[L.length-1]=y:=by
  have:L[L.length-1]?=some y:=by rw[X,av];simp
  grind
 have bx:y∈L:=B_;have I:g.k.DE L x=match g.k.meld y x with|some z=>o++[z]|none=>L++[x]:=by
  unfold Kd.DE;rw[By bs,av];simp only[lp,aN,aAK,aAS]<;>cases g.k.meld y x<;>rfl
 cases oa with
 |none=>grind
 |some q=>
  obtain⟨gb,rfl,ep,er,et⟩:=dT q rfl;have en:((L.length:Int)-1)=((L.length-1:Nat):Int):=E;rw[en];refine AT (λvs W'=>∃Q,vs=[e_ Q,.bool (g.k.meld y x).isSome]/\AG w5 W'/\∀z,g.k.meld y x=some z->Bx W' Q (g.cells z)) ?_ ?_;rintro _ W6 ⟨Q,rfl,U,hz⟩ _;simp only[HK,aAc];have Z:AB W.heap.size g.te g.E (g.R C) W6 (.slice (f_ gb) L.length oc) L:=AB.T_ an U C_ (by grind[AvN.Rc]);have e3:=al.trans U;cases ax:g.k.meld y x with
  |none=>
   rw[ax] at I;exact AM (by grind[Bx.S_])
  |some z=>
   rw[ax] at I;apply Ab;apply(hz z ax).GJ (DO z);apply AV a1;have key:=AB.Ue (R':=g.R C) (x':=z) (p:=0) (vs:=g.cells z) (K:=λay=>Cl .i64 (zIq (i:Int)) (zIq 1) λc4=>(∃(i':Nat) (a7:b_),i'<=l.length/\[Value.slice (f_ gb) L.length oc,c4]=[a7,zIq (i':Int)]/\AB W.heap.size g.te g.E (g.R C) ay a7 (g.k.melded (l.take i'))/\AG W ay)/\l.length-Da [Value.slice (f_ gb) L.length oc,c4] 1<l.length-Da [Value.slice (f_ gb) L.length oc,zIq (i:Int)] 1) Z a1 (DO z) E (FN z) (by grind[AvN.Rc]) (λw' r _ _ c6 _=>by grind[QS,DO,AvN.Rc]) λay e7 e4=>?_;omega;rw[AQ,AL E];refine⟨⟨i+1,_,J,rfl,?_,e3.next e4 B_⟩,by rw[BV,BV];omega⟩;rw[N,I];have:L.set (L.length-1) z=o++[z]:=by rw[X,av];simp
   grind
  have V:=gdr w5;have e5:=hT.T_ (al.trans V) C_;have hd:=(AB.T_ (R':=g.R C) an V C_ (by grind[AvN.Rc])).sl;obtain⟨q',r',e',eu,c6,e6,c7⟩:=hd.get a1;cases e';have a8:=g.Rc.1 c7;rw[e2] at a8;subst a8;have s5:=V.size;have ew:=g5.size;have ez:=Y.size;have e8:=hT.box.lt (P9 _);have gm:∀{W1 W2:c_},AG W1 W2->AF (λy=>w5.drew.heap.size<=y) W1 W2:=λg=>g.mono G_;have eA:=uA (g:=g.toAvT) bx;have c8:∀{w},Bb prog EP g.vd [.agg (g.cells y).toArray,.agg (g.cells x).toArray] (λv w'=>AG w w'/\∃r,r.length=g.E/\(∀u∈r,u.oneCell'=true)/\v=.tuple #[.agg r.toArray,.bool (g.k.meld y x).isSome]/\∀z,g.k.meld y x=some z->r=g.cells z) w:=g.meldc (a6 y bx) E E;apply Ac (λ_ y=>w5.drew.heap.size<=y);apply AJ;rw[AE,AH,AE,AH];refine AP ⟨e5.box.cells 2 _ rfl,B_⟩ ?_;apply AV a1;apply DH c6 (λj v hv=>⟨by rw[Addr.add_add];exact e6 j v hv,λ_ _ e=>by rw[Addr.add_add,AH] at e;grind⟩);apply DH O (λj v hv=>⟨by rw[AH];exact(dk.S_ V).cells j v hv,λ_ _ e=>by rw[AH] at e;grind⟩);refine⟨?_,?_⟩;apply BL c8;rintro _ w6 ⟨U,r,b0,b7,rfl,b8⟩;refine⟨gm U,BD ?_⟩;refine Bx.zero λQ w7 aa g7 b9=>⟨gm g7,?_⟩;refine b9.Ax b0 g.zlen b7 λw8 B8 m8=>⟨m8.mono λx _ e=>by rw[e];have:=U.size;omega,?_⟩;have s6:=U.size;exact⟨Q,rfl,((V.trans U).trans g7).next m8 E,λz hz=>by rw[<-b8 z hz];exact B8⟩;refine Bx.zero λQ w7 aa g7 b9=>⟨gm g7,?_⟩;apply BL c8;rintro _ w6 ⟨U,r,b0,b7,rfl,b8⟩;refine⟨gm U,BD ?_⟩;refine(b9.S_ U).Ax b0 g.zlen b7 λw8 B8 m8=>⟨m8.mono λx _ e=>by rw[e];exact aa,?_⟩;exact⟨Q,rfl,((V.trans g7).trans U).next m8 E,λz hz=>by rw[<-b8 z hz];exact B8⟩
end
section
variable {α:Type}{g:AvT α}
def LS.shp{W j w2:c_}{b:Nat}{J:Int}{N O:ArS α}{L:List α}{I:X_}{t:Tr α}(U:∀x,F x->M x)(V:∀x,M x->F x\/W.heap.size<=x)(Q:AF (Fb F b) W j)(S:OT g M C j w2 b J N L I t O):AF (Fb F b) W w2:=Q.next S.T_ B_
structure Pre (g:AvT α) (F C:d_) (W:c_) (b:Nat) (rt:Int) (A:ArS α) (al bl L:List α) (a' b':Tr α) (mv:b_) (W':c_) (A':ArS α) (F':d_):Prop where
 k1:∀x,F x->F' x
 k2:∀x,F' x->F x\/W.heap.size<=x
 FR:Ea g F' C W' b rt A'
 T_:AF (Fb F b) W W'
 ha:Tr.AW g.k.μ A'.f a'
 hb:Tr.AW g.k.μ A'.f b'
 K2:(a'.idx++b'.idx).Nodup
 row:AB W.heap.size g.te g.E (g.R C) W' mv L
 nF:∀x,mv.ownBlock=some x->¬F' x
 ta:a'.toL=al
 tb:b'.toL=bl
 len:A'.lv=a'.Cz+b'.Cz
 le:A'.lv<=A.lv+2
def mr(g:AvT α)(F C:d_)(W w':c_)(b:Nat)(j:Int)(A:ArS α):Prop:=∃F',(∀x,F x->F' x)/\(∀x,F' x->F x\/W.heap.size<=x)/\Ea g F' C w' b j A/\AF F W w'
def Y9(g:AvT α):Prop:=∀{F C S:d_} {W:c_} {b i j:Nat} {A:ArS α} {T:Tr α} {v:b_} {L:List α},Ea g F C W b T.root A->A.lv=T.Cz->T.Cz+L.length<=109951162000->Tr.AW g.k.μ A.f T->Tr.Ic T->Al S g.E (g.R C) W v L->(∀x,S x->¬F x)->i<=j->j<=1099511627776->FU g T.toL->FU g (g.k.CV T.toL i j L)->FU g ((g.k.split T.toL i).1.getLast?.toList++L++(g.k.split (g.k.split T.toL i).2 (j-i)).2.head?.toList)->l_ g.fReplace [e_ b,zIq (i:Int),zIq (j:Int),v] (λ_ w'=>∃T' I,T'.toL=g.k.CV T.toL i j L/\mr g F C W w' b T'.root I/\Tr.AW g.k.μ I.f T'/\Tr.Ic T'/\I.lv=T'.Cz) W
def AB.Gf{B e k:Nat}{b:Nat}{j:Int}{A:ArS α}{l:List α}(h:AB B e k (g.R C) W v l)(ht:Ea g F C W b j A)(hm:AF (Fb F b) W W')(N:∀x,v.ownBlock=some x->¬F x):AB B e k (g.R C) W' v l:=AB.T_ h hm B_ λr y _ I=>g.Bw I hm λz _ J e=>ht.NO z e.1 J
def yV(g:AvK)(KK:b_->b_->b_->c_->Prop)(v0 v1 v2 v3:b_)(w:c_):Prop:=Aw v0 λt22=>BX 4 t22 λY=>BR Y (λZ w1=>l_ g.fsplit [v0,Z,v1] (λO w2=>Az 0 O λI=>Az 1 O λa1=>EO .i64 v2 v1 λa6=>l_ g.fsplit [v0,a1,a6] (λQ w3=>Az 0 Q λa7=>Az 1 Q λN=>l_ g.fdrop [v0,a7] (λ_t40 w4=>Dm (λvs w5=>∀_:Env,runK prog (Builtin.append_ #[g.ts,g.ts] g.ts [(Bf vs 1),v3].toArray) (λU w6=>Dm (λj w7=>∀_:Env,l_ g.fmelded [v0,(Bf j 1)] (λt76 w8=>KK (Bf vs 0) (Bf j 0) t76 w8) w7) (λV=>TB .i64 N (zIq (-1)) λa8=>Af a8 (l_ g.ffirst [v0,N] (λX aa=>Az 0 X λak=>Az 1 X λt66=>l_ g.fpick [v0,t66] (λal an=>EE g.te g.E 1 g.zE [(0,al)] (λav ax=>runK prog (Builtin.append_ #[g.ts,g.ts] g.ts [U,av].toArray) (λay b0=>V [ak,ay] b0) ax) an) aa) w6) (V [N,U] w6))) w5) (λJ=>TB .i64 I (zIq (-1)) λb6=>Af b6 (l_ g.flast [v0,I] (λt46 b7=>Az 0 t46 λb8=>Az 1 t46 λb9=>l_ g.fpick [v0,b9] (λt53 ba=>EE g.te g.E 1 g.zE [(0,t53)] (λbb bk=>runK prog (Builtin.append_ #[g.ts,g.ts] g.ts [g_,bb].toArray) (λt55 bl=>J [b8,t55] bl) bk) ba) b7) w4) (J [I,g_] w4))) w3) w2) w1) w
def Xh{b i j:Nat}{A:ArS α}{T:Tr α}{L:List α}{KK:b_->b_->b_->c_->Prop}(c6:Ux g)(c7:Yv g)(en:RZ g)(c8:∀l p,FU g l->FU g (g.k.split l p).1/\FU g (g.k.split l p).2) (h:Ea g F C W b T.root A)(fs:A.lv=T.Cz)(hs:T.Cz+L.length<=109951162000)(hh:Tr.AW g.k.μ A.f T)(hu:Tr.Ic T)(hv:Al S g.E (g.R C) W v L)(hS:∀x,S x->¬F x)(fv:i<=j)(hj:j<=1099511627776) (c9:FU g T.toL)(ca:FU g ((g.k.split T.toL i).1.getLast?.toList++L++(g.k.split (g.k.split T.toL i).2 (j-i)).2.head?.toList)) (hK:∀J U mv W' A' F',Pre g F C W b T.root A (g.k.split T.toL i).1.dropLast (g.k.split (g.k.split T.toL i).2 (j-i)).2.tail (g.k.melded ((g.k.split T.toL i).1.getLast?.toList++L++(g.k.split (g.k.split T.toL i).2 (j-i)).2.head?.toList)) J U mv W' A' F'->KK (zIq J.root) (zIq U.root) mv W') : yV g.toAvK KK (e_ b) (zIq (i:Int)) (zIq (j:Int)) v W:=by
 unfold yV;have fx:=h.lt;have b7:∀y,C y->y<W.heap.size:=B_;obtain⟨c,pl,fr,hT⟩:=id h;apply nfl_i (hT.box.cells 4 _ rfl);refine AA (c6 T h E hh hu c9 (p:=i) E) ?_;rintro _ w2 ⟨a,a6,A1,rfl,S1⟩;apply BD;rw[A6,wrap64 E E,show((j:Int)-(i:Int))=((j-i:Nat):Int) by omega];obtain⟨F1,x1,x2,h1,m1⟩:=S1.wC;obtain⟨n1,n2,n3⟩:=ku.1 S1.K2;have l1:=S1.len;have k1:=S1.le;have eo:=c8 T.toL i c9;refine AA (c6 a6 h1 E S1.hr n2 (by grind[Dt.r1]) (p:=j-i) E) ?_;rintro _ w3 ⟨Ar,N,A2,rfl,S2⟩;apply BD;obtain⟨F2,y1,y2,h2,m2⟩:=S2.wC;obtain⟨o1,o2,o3⟩:=ku.1 S2.K2;have l2:=S2.len;have k2:=S2.le;have fy:=c8 (g.k.split T.toL i).2 (j-i) eo.2;have ga:∀q∈a.idx,q∉a6.idx/\q∉Ar.idx++N.idx:=λq Q=>by
  have hr:q∉a6.idx:=B_;refine⟨hr,λe=>?_⟩;rcases S2.idx q e with e|e;grind;obtain⟨m,hm⟩:=S1.hl.LA g.k.μ Q;grind
 have ep:Tr.AW g.k.μ A2.f a:=S1.hl.frame g.k.μ (by grind[Dt.Ak]);apply AA (fh Ar h2 S2.hl o1);rintro _ w4 ⟨A3,T3,gb,l3⟩;obtain⟨F3,z1,z2,h3,m3⟩:=T3;have er:Tr.AW g.k.μ A3.f a:=ep.frame g.k.μ B_;have cc:Tr.AW g.k.μ A3.f N:=S2.hr.frame g.k.μ B_;have ak:(a.idx++N.idx).Nodup:=ku.2 B_;have s1:=m1.size;have s2:=m2.size;have s3:=m3.size;have cq:∀x,F x->F3 x:=B_;have b8:∀x,F3 x->F x\/W.heap.size<=x:=B_;have cu:AF (Fb F b) W w4:=by
  refine(m1.next m2 λx I e=>?_).next m3 λx I e=>?_
  grind;grind
 have ea:a.toL=(g.k.split T.toL i).1:=S1.l1;have eb:N.toL=(g.k.split (g.k.split T.toL i).2 (j-i)).2:=by rw[S2.r1,S1.r1]
 have cx:FU g a.toL:=B_;have da:FU g N.toL:=B_;rw[<-ea,<-eb] at ca hK;have dk:=g.eb_le;have an:∀(w:c_) (r:U_) (y:α),g.R C w r y->∀u∈r,u.oneCell'=true:=by grind[AvT.rone]
 have dr:∀ r:U_,r.length=g.E->(g.toAvK.enc r).cells=r.toArray->Instr.fill (λi=>some (i * g.E,g.E)) ((Array.range (1 * g.E)).map (g.zE.toArray[· % g.zE.toArray.size]!)) [(0,g.toAvK.enc r)]=some r.toArray:=λr hr hc=>CY g.zlen g.Epos hc hr;refine AT (λvs W'=>∃ (J:Tr α) (av:b_) (Z:ArS α) (F4:d_),vs=[zIq J.root,av]/\(∀ x,F x->F4 x)/\(∀ x,F4 x->F x\/W.heap.size<=x)/\Ea g F4 C W' b T.root Z/\AF (Fb F b) W W'/\Tr.AW g.k.μ Z.f J/\Tr.AW g.k.μ Z.f N/\(J.idx++N.idx).Nodup/\
  AB W.heap.size g.te g.E (g.R C) W' av a.toL.getLast?.toList/\(∀ x,av.ownBlock=some x->¬ F4 x)/\J.toL=a.toL.dropLast/\Z.lv=J.Cz+N.Cz/\Z.lv<=A.lv+2) ?_ ?_
 rotate_left
 .refine neP (λe=>?_) λe=>?_;have el:a=.nil:=by
   cases a with
   |nil=>rfl
   |node x q z y=>grind[Tr.root]
  subst el;exact⟨.nil,_,A3,F3,rfl,cq,b8,h3,cu,trivial,cc,ak,AB.nil,(λ_ I=>nomatch I),rfl,E,E⟩
  .have dz:a≠.nil:=λe'=>by subst e';exact e rfl
   apply AA (Xb a dz h3 er n1 cx);rintro _ gd ⟨J,k,m,Z,rfl,V,e4⟩;apply BD;have l4:=V.len;have c4:=V.Cz;have v4:=ArS.VJ V.Vi V.FR.ok;have ax:∀q,q∈J.idx\/q=k->q∈a.idx:=λq Q=>V.idx.mem_iff.1 (by rcases Q with Q|rfl<;>simp[*]);apply AA (c7 V.FR V.Vi);rintro _ et ⟨r,rfl,hr,F5,u1,u2,h5,m5⟩;have a7:=g.rlen hr;have s4:=V.T_.size;have s5:=m5.size;have a8:=ArS.Yo V.Vi;have b9:Tr.AW g.k.μ (Z.free k).f J:=by rw[a8];exact V.holds.out g.k.μ _ (V.K2 n1).2
   have ba:Tr.AW g.k.μ (Z.free k).f N:=by
    rw[a8];exact(cc.frame g.k.μ λq Q=>V.Ak q λe=>(ku.1 ak).2.2 q e q Q rfl).out g.k.μ _ λe=>(ku.1 ak).2.2 k (ax k (.inr rfl)) k e rfl
   have dT:AF (Fb F b) W et:=by
    have e3:∀x,x<W.heap.size->Fb F3 b x->Fb F b x:=λx I e=>by
     rcases b8 x e.1 with e'|e';grind;omega
    exact(cu.next V.T_ e3).next m5 e3
   refine Dv (R:=g.R C) g.elE (AB.nil (B:=W.heap.size)) dT.size (cs:=r) (x:=m.x) (dr r a7 (g.rcell hr)) a7 hr an (λw1 w2 r y hw hm hy=>g.Bw hy hm λz hz hC e=>?_) (by simp only[aAu];omega) (by simp[maxLen]) λav eu ho e6 hn=>?_;rcases e with e|e;cases e;grind;have ew:Ea g F5 C eu b T.root (Z.free k):=h5.T_ e6 λx I e=>nomatch e
   refine⟨J,av,Z.free k,F5,rfl,λx I=>u1 x (cq x I),λx I=>?_,ew,dT.next e6 (λx I e=>nomatch e),b9,ba,?_,?_,λx I hF=>?_,?_,?_⟩;rcases u2 x I with e|e;exact b8 x e;omega
   .exact ku.2 ⟨(V.K2 n1).1,o2,λq Q q' bb e=>(ku.1 ak).2.2 q (ax q (.inl Q)) q' bb e⟩
   rw[e4];simpa using ho;rcases hn x I with e|e;cases e;have:=h5.lt x (.inl hF);omega;rw[e4];simp;omega
 rintro _ W5 ⟨J,av,Z,F4,rfl,f1,f2,h4,m4,e7,ez,aa,al,ay,ta,l4⟩ _;simp only[Ha];have eA:Al (λx=>S x/\x<W.heap.size) g.E (g.R C) W v L:=hv.JW g.Epos;have eB:Al (λx=>S x/\x<W.heap.size) g.E (g.R C) W5 v L:=Al.T_ eA m4 B_ g.Epos λr y hy=>g.Bw hy m4 λz _ hz e=>h.NO z e.1 hz;have gf:a.toL.getLast?.toList.length<=1:=by cases a.toL.getLast?<;>simp
 have e1:(a.toL.getLast?.toList.length+L.length) * g.eb<=(a.toL.getLast?.toList.length+L.length) * 512:=aA6 _ dk;obtain ⟨e8,w6,r6,bk,eC,eH⟩:=AB.append (P:=prog) (ty:=g.ts) g.elE al eB (λr y hy=>g.rone hy) E m4.size M' (λw' eI r y hy=>g.Bw hy (AF.BO eI) λz hz hC e=>by
  have:=(AB.Am al z e).1;grind)
 apply AY r6;have m6:=AF.BO eC;have h6:Ea g F4 C w6 b T.root Z:=h4.T_ m6 λx I e=>by
  rcases I with I|I;exact ay x e I;have:=(AB.Am al x e).1;grind
 have bl:AF (Fb F b) W w6:=m4.next m6 λx I e=>by have:=(AB.Am al x e).1;omega
 have X:∀x,e8.ownBlock=some x->¬F4 x:=λx I hF=>by
  rcases eH x I with e|e;exact ay x e hF;have:=h4.lt x (.inl hF);omega
 have fo:(a.toL.getLast?.toList++L).length<=L.length+1:=by rw[Bp];omega
 refine AT (λvs W'=>∃ (U:Tr α) (a1:b_) (A5:ArS α) (F5:d_),vs=[zIq U.root,a1]/\(∀ x,F x->F5 x)/\(∀ x,F5 x->F x\/W.heap.size<=x)/\Ea g F5 C W' b T.root A5/\AF (Fb F b) W W'/\Tr.AW g.k.μ A5.f J/\Tr.AW g.k.μ A5.f U/\(J.idx++U.idx).Nodup/\
  AB W.heap.size g.te g.E (g.R C) W' a1 (a.toL.getLast?.toList++L++N.toL.head?.toList)/\(∀ x,a1.ownBlock=some x->¬ F5 x)/\U.toL=N.toL.tail/\A5.lv=J.Cz+U.Cz/\A5.lv<=A.lv+2) ?_ ?_
 rotate_left
 .rw[FQ];obtain⟨_,gg,bp⟩:=ku.1 aa;refine BM (λe=>?_) λe=>?_;have el:N=.nil:=by
   cases N with
   |nil=>rfl
   |node x q z y=>simp only[Tr.root] at e;omega
  subst el;exact⟨.nil,_,Z,F4,rfl,f1,f2,h6,bl,e7,trivial,aa,by simpa[Tr.toL] using bk,X,rfl,l4⟩
  .have e9:N≠.nil:=λe'=>by subst e';exact e rfl
   apply AA (fP N e9 h6 ez o2 da);rintro _ gl ⟨U,k,m,A5,rfl,O,e5⟩;apply BD;have l5:=O.len;have c5:=O.Cz;have v5:=ArS.VJ O.Vi O.FR.ok;have b0:∀q,q∈U.idx\/q=k->q∈N.idx:=λq Q=>O.idx.mem_iff.1 (by rcases Q with Q|rfl<;>simp[*]);have ec:=AB.Gf (g:=g) bk h6 O.T_ X;apply AA (c7 O.FR O.Vi);rintro _ eL ⟨r,rfl,hr,F5,u1,u2,ed,bs⟩;have a7:=g.rlen hr;have s6:=O.T_.size;have s7:=bs.size;have gm:=bl.size;have a8:=ArS.Yo O.Vi;have Y:=AB.Gf (g:=g) ec O.FR bs X;have b9:Tr.AW g.k.μ (A5.free k).f J:=by
    rw[a8];exact(e7.frame g.k.μ λq Q=>O.Ak q λe=>bp q Q q e rfl).out g.k.μ _ λe=>bp k e k (b0 k (.inr rfl)) rfl
   have ba:Tr.AW g.k.μ (A5.free k).f U:=by rw[a8];exact O.holds.out g.k.μ _ (O.K2 o2).2
   have ee:AF (Fb F b) W eL:=by
    have ef:∀x,x<W.heap.size->Fb F4 b x->Fb F b x:=λx I e=>by
     rcases f2 x e.1 with e'|e';grind;omega
    exact(bl.next O.T_ ef).next bs ef
   have b6:∀x,e8.ownBlock=some x->¬F5 x:=λx I hF=>by
    rcases u2 x hF with e|e;exact X x I e;have:=(AB.Am bk x I).2;omega
   have e2:((a.toL.getLast?.toList++L).length+1)*g.eb<=((a.toL.getLast?.toList++L).length+1)*512:=aA6 _ dk;refine Dv (R:=g.R C) g.elE Y ee.size (cs:=r) (x:=m.x) (dr r a7 (g.rcell hr)) a7 hr an (λw1 w2 r y hw hm hy=>g.Bw hy hm λz hz hC e=>?_) E M' λa1 eN ho eh hn=>?_;rcases e with e|e;have:=(AB.Am Y z e).1;have:=b7 z hC;omega;have:=b7 z hC;omega;have eR:Ea g F5 C eN b T.root (A5.free k):=ed.T_ eh λx I e=>by
    rcases I with I|I;exact b6 x e I;have:=(AB.Am Y x e).1;have:=b7 x I;omega
   refine⟨U,a1,A5.free k,F5,rfl,λx I=>u1 x (f1 x I),λx I=>?_,eR,ee.next eh (λx I e=>by have:=(AB.Am Y x e).1;omega),b9,ba,?_,?_,λx I hF=>?_,?_,?_⟩;rcases u2 x I with e|e;exact f2 x e;omega
   .exact ku.2 ⟨(ku.1 aa).1,(O.K2 o2).1,λq Q q' bb e=>bp q Q q' (b0 q' (.inl bb)) e⟩
   rw[e5];simpa using ho;rcases hn x I with e|e;exact b6 x e hF;have:=ed.lt x (.inl hF);omega;rw[e5];rfl;omega
 rintro _ W7 ⟨U,a1,A5,F5,rfl,p1,p2,h7,m7,eX,fa,ej,ek,gq,tb,l7⟩ _;simp only[HK,aAc];have gu:N.toL.head?.toList.length<=1:=by cases N.toL.head?<;>simp
 apply AA (en h7 ek.sl (by rw[Bp];omega) ca);rintro mv w8 ⟨bx,g8⟩;have s7:=m7.size;refine hK J U mv w8 A5 F5 ⟨p1,p2,h7.S_ g8,m7.trans (g8.mono G_),eX,fa,ej,AB.BY bx λx I=>by have:=(AB.Am bx x I).1;omega,λx I hF=>?_,ta,tb,l7.1,l7.2⟩;have:=(AB.Am bx x I).1;have:=h7.lt x (.inl hF);omega
end
section
variable {α:Type}
structure UW (g:AvT α) (F C:d_) (W:c_) (b:Nat) (rt:Int) (A:ArS α) (al bl M:List α) (b':Tr α) (mv:b_) (k:Nat) (t:Tr α) (W':c_) (A':ArS α) (F':d_):Prop where
 k1:∀x,F x->F' x
 k2:∀x,F' x->F x\/W.heap.size<=x
 FR:Ea g F' C W' b rt A'
 T_:AF (Fb F b) W W'
 ht:Tr.AW g.k.μ A'.f t
 hb:Tr.AW g.k.μ A'.f b'
 K2:(t.idx++b'.idx).Nodup
 row:AB W.heap.size g.te g.E (g.R C) W' mv M
 nF:∀x,mv.ownBlock=some x->¬F' x
 tt:t.toL=al++M.take k
 tb:b'.toL=bl
 len:A'.lv=t.Cz+b'.Cz
def Pre.put{g:AvT α}{b:Nat}{j:Int}{A:ArS α}{I J M:List α}{N O:Tr α}{Q:b_}{U:ArS α}{F':d_}(h:Pre g F C W b j A I J M N O Q W' U F'):UW g F C W b j A I J M O Q 0 N W' U F':=
 ⟨h.k1,h.k2,h.FR,h.T_,h.ha,h.hb,h.K2,h.row,h.nF,by rw[h.ta];simp,h.tb,h.len⟩
theorem UW.done{g:AvT α}{b:Nat}{A:ArS α}{Y Z M:List α}{J t:Tr α}{j:ArS α}{F':d_}{L:List α}(h:UW g F C W b most A Y Z M J v M.length t W' j F')(hL:Y++M++Z=L)(a1:FU g L)(hF:F b) : l_ g.fconcat [e_ b,zIq t.root,zIq J.root] (λN O=>Aw (e_ b) λQ=>BX 4 Q λU=>Cc U N (λV=>(λ(_:b_) w'=>∃T' j,T'.toL=L/\mr g F C W w' b T'.root j/\Tr.AW g.k.μ j.f T'/\Tr.Ic T'/\j.lv=T'.Cz) (.tuple #[]) V) O) W':=by
 have hl:=h.len;have hT:=h.tt;rw[WL] at hT;have eL:t.toL++J.toL=L:=by rw[hT,h.tb,hL]
 refine AA (ZT h.FR h.ht h.hb h.K2 B_) ?_;rintro _ w2 ⟨t2,A2,rfl,I⟩;obtain⟨c,pl,fr,X⟩:=I.FR;apply AJ;rw[AE,AH];refine X.box.st (q:=4) (show 4<5 by decide) rfl rfl λw3 B3 m3=>?_;refine⟨t2,A2,by grind[OT.toL],⟨F',h.k1,h.k2,⟨c,pl,fr,B3,?_,X.fb⟩,?_⟩,I.holds,I.idx.nodup_iff.2 h.K2,by grind[OT.len,OT.Cz,List.length_append,Tr.Dk]⟩
 .exact X.ar.T_ m3 (by grind[jH.fb])
 .exact((LS.shp h.k1 h.k2 h.T_ I).mono λx _ e=>e.1).trans (by grind[AF.mono])
def UW.lt{g:AvT α}{b:Nat}{N:Int}{A:ArS α}{j I M:List α}{O t:Tr α}{Q:b_}{k:Nat}{J:ArS α}{F':d_}(h:UW g F C W b N A j I M O Q k t W' J F')(hk:k<M.length)(U:j.length+M.length+I.length<=109951162777):J.lv<109951162777:=by
 have h1:=h.len;rw[<-(Tr.Dk _).2,<-(Tr.Dk _).2,h.tt,h.tb,Bp,S5] at h1;omega
def UW.step{g:AvT α}{b:Nat}{A:ArS α}{I bl M:List α}{O t:Tr α}{k:Nat}{W' Q:c_}{j:ArS α}{F' F1:d_}(h:UW g F C W b most A I bl M O v k t W' j F')(hk:k<M.length)(hN:I.length+M.length+bl.length<=109951162777) (q1:∀x,F' x->F1 x)(q2:∀x,F1 x->F' x\/W'.heap.size<=x)(h1:Ea g F1 C Q b most (j.take ⟨M[k],0,0,0,0,0⟩))(m1:AF (Fb F' b) W' Q)(U:FU g (I++M)) : l_ g.fjoin [e_ b,zIq t.root,zIq j.num,zIq (-1)] (λv2 W2=>∃Y A2,v2=zIq Y.root/\AF (Fb F1 b) Q W2/\UW g F C W b most A I bl M O v (k+1) Y W2 A2 F1) Q:=by
 have hl:=h.len;obtain⟨a1,ak,tok⟩:=ArS.Y4 (⟨M[k],0,0,0,0,0⟩:Nd α) h.FR.ok (h.lt hk hN);obtain⟨u1,u2,u3⟩:=ku.1 h.K2;have nt:j.num∉t.idx:=λe=>by
  obtain⟨m,hm⟩:=h.ht.LA g.k.μ e;grind
 have nb:j.num∉O.idx:=λe=>by
  obtain⟨m,hm⟩:=h.hb.LA g.k.μ e;grind
 have a6:Tr.AW g.k.μ (j.take ⟨M[k],0,0,0,0,0⟩).f t:=by grind[UW.ht,Tr.AW.out]
 have an:Tr.AW g.k.μ (j.take ⟨M[k],0,0,0,0,0⟩).f O:=by grind[UW.hb,Tr.AW.out]
 have a7:(j.take ⟨M[k],0,0,0,0,0⟩).f j.num=some ⟨M[k],0,0,0,0,0⟩:=by rw[a1,Tr.OQ]
 have V:Tr.Ic (.node t j.num M[k] .nil):=Tr.BQ.2 ⟨u1,aBq,nt,(λe=>nomatch e),λq _ e=>nomatch e⟩;have aa:=ArS.Z8 (⟨M[k],0,0,0,0,0⟩:Nd α) h.FR.ok;have av:M.take (k+1)=M.take k++[M[k]]:=by grind[List.take_add_one]
 have eL:(Tr.node t j.num M[k] .nil).toL=I++M.take (k+1):=by grind[Tr.toL,UW.tt]
 have a8:FU g (Tr.node t j.num M[k] .nil).toL:=by
  rw[eL];have e:I++M=(I++M.take (k+1))++M.drop (k+1):=by rw[Q0,Nr]
  rw[e] at U;exact U.K4.1
 apply AA (IH (l:=t) (r:=.nil) (t.Cz+(Tr.nil:Tr α).Cz) (DN _) h1 a7 a6 trivial V a8);rintro _ W2 ⟨Y,A2,rfl,J⟩;have s1:=h.T_.size;have w1:AF (Fb F b) W Q:=h.T_.next m1 λx N e=>by
  rcases h.k2 x e.1 with e'|e'<;>grind
 have ax:∀q∈O.idx,q∉(Tr.node t j.num M[k] .nil).idx:=by grind[Tr.idx]
 have ay:∀x,x<W.heap.size->F1 x->F x:=λx N e=>by
  rcases q2 x e with e|e;rcases h.k2 x e with e|e<;>grind;omega
 have X:∀x,v.ownBlock=some x->¬F1 x:=λx N e=>by
  rcases q2 x e with e|e;grind[UW.nF];have:=(AB.Am h.row x N).2;omega
 refine⟨Y,A2,rfl,J.T_,λx N=>q1 x (h.k1 x N),λx N=>?_,J.FR,w1.next J.T_ B_,J.holds,(by grind[Tr.AW.frame,OT.Ak]),?_,AB.Gf (AB.Gf h.row h.FR m1 h.nF) h1 J.T_ X,X,J.toL.trans eL,h.tb,by grind[OT.Cz,Tr.Dk,Tr.Cz,OT.len]⟩;grind;exact ku.2 ⟨J.idx.nodup_iff.2 V,u2,(by grind[OT.idx,List.Perm.mem_iff])⟩
variable {g:AvN α}
def jL(l:List α)(p:Nat)(h:FU g.toAvT l):FU g.toAvT (g.k.split l p).1/\FU g.toAvT (g.k.split l p).2:=h.split p
def GRl(g:AvK)(v0:b_)(K:Cont):b_->b_->b_->c_->Prop:=λa0 b0 t76 w8=>Dz t76 λt77=>GM [a0,(zIq 0)] (λj I w9=>∀_:Env,HZ .i64 (Bf j 1) t77 λU=>Af U (KY g.E t76 (Bf j 1) λV=>DJ g.E V (λX Y=>Cv g.te g.zE (λO Z=>Bv g.E O X (λJ=>DP [8,9] (i_ [0,0,0,4,12,28,0,64,252,511,1023]) J.drew (λM St=>Aw v0 λa1=>BX 3 a1 λa6=>EV (St 5) a6 λa7=>Ij (St 6) g.E O λa8=>DQ [(0,g.E),(g.E,1),(g.E+1,1),(g.E+2,1),(g.E+3,1),(g.E+4,1)] g.zN [(0,a8)] λaa=>l_ g.aTake [a7,aa] (λak N=>AF (M 8) J.drew N/\ l_ g.fjoin [v0,(Bf j 0),ak,(zIq (-1))] (λal Q=>AF (M 9) N Q/\ Cl .i64 (Bf j 1) (zIq 1) λan=>I [al,an] Q) N) J.drew)) Z) Y) w9) (l_ g.fconcat [v0,(Bf j 0),b0] (λav ax=>Aw v0 λay=>BX 4 ay λb6=>Cc b6 av (λb7=>K (.tuple #[]) b7) ax) w9)) w8
def Vw(g:AvK)(v0 v1 v2 v3:b_)(K:Cont)(w:c_):Xa g v0 v1 v2 v3 K w=yV g (GRl g v0 K) v0 v1 v2 v3 w:=rfl
def mn:Y9 g.toAvT:=by
 intro F C S W b i j A T v L h a1 hs hh hu hv hS a6 hj a7 N a8;apply g.okN.replace;rw[Vw];apply Xh uD wo sD jL h a1 hs hh hu hv hS a6 hj a7 a8;intro a' b' mv W8 A8 F8 P;unfold GRl;have O:=KO g.k ((g.k.split T.toL i).1.getLast?.toList++L++(g.k.split (g.k.split T.toL i).2 (j-i)).2.head?.toList);have bb:(g.k.split T.toL i).1.getLast?.toList.length<=1:=B_;have bk:(g.k.split (g.k.split T.toL i).2 (j-i)).2.head?.toList.length<=1:=B_;rw[Bp,Bp] at O;have Q:=P.put;have p1:=P.len;have p2:=P.le;rw[<-(Tr.Dk _).2,<-(Tr.Dk _).2,P.ta,P.tb] at p1;have Y:(g.k.split T.toL i).1.dropLast++g.k.melded ((g.k.split T.toL i).1.getLast?.toList++L++(g.k.split (g.k.split T.toL i).2 (j-i)).2.head?.toList)++(g.k.split (g.k.split T.toL i).2 (j-i)).2.tail=g.k.CV T.toL i j L:=rfl;generalize (g.k.split T.toL i).1.dropLast=al at Q Y p1;generalize (g.k.split (g.k.split T.toL i).2 (j-i)).2.tail=bl at Q Y p1;generalize g.k.melded ((g.k.split T.toL i).1.getLast?.toList++L++(g.k.split (g.k.split T.toL i).2 (j-i)).2.head?.toList)=M at Q Y O;have aa:FU g.toAvT (al++M):=by rw[<-Y] at N;exact N.K4.1
 obtain⟨ma,mc,ak,_⟩:=Q.row.AK;subst ak;rw[AO];apply Aa (λvs W'=>∃(k:Nat) (t:Tr α) (A':ArS α) (F':d_),k<=M.length/\vs=[zIq t.root,zIq k]/\UW g.toAvT F C W b T.root A al bl M b' (.slice ma M.length mc) k t W' A' F') (λvs _=>M.length-Da vs 1) ⟨0,a',A8,F8,Lc _,rfl,Q⟩;rintro vs W9 ⟨k,t,A9,F9,hk,rfl,U⟩ _;simp only[Ha];refine Cn (λbp=>?_) λbs=>?_
 .have I:k < M.length:=E;obtain ⟨q,r,rfl,hq,hr,hc,an⟩:=U.row.sl.get I;have av:=g.Rc.1 an;subst av;have J:=DO (g:=g) M[k];refine AV I (AX J (by grind[Addr.add_add]) ?_);refine Bx.new J g.zlen (FN (g:=g) M[k]) λax V ba ay X=>?_;have gd:=gdr V;have g9:=ay.trans gd;obtain ⟨c,pl,fr,hR⟩:=id (U.FR.S_ g9);have b0:=U.lt I E;have Z:=X.lt (by grind[AvT.Epos]);have sd:=gd.size;apply Ac (λ_ y=>Fb F9 b y\/V.drew.heap.size<=y);apply AJ;rw [AE,AH];refine AP ⟨hR.box.cells 3 _ rfl,λ_ _ e=>by
   rcases e with e | e;grind;have:=hR.box.lt (P9 _);grind⟩ ?_
  refine DH J (λj v hv=>⟨by rw [AH];exact (X.S_ gd).cells j v hv,λ_ _ e=>by
   rw [AH] at e;rcases e with e | e;have:=U.FR.lt ax (.inl e.1);omega;grind⟩) ?_
  refine⟨_,tG J M[k],?_⟩;apply AA (Qr hR (n:=⟨M[k],0,0,0,0,0⟩) (g.Rc.2 rfl) b0);rintro _ bx ⟨rfl,F1,q1,q2,b6,b7⟩;have s9:=g9.size;refine⟨(by grind[AF.mono]),?_⟩;refine AA (UW.step U I E q1 B_ b6 ((g9.mono G_).trans b7) aa) ?_;rintro _ c4 ⟨t2,A2,rfl,b8,b9⟩;refine⟨b8.mono λx _ e=>?_,?_⟩;rcases q2 x e.1 with e'|e';grind;omega;rw[AQ,AL E];exact⟨⟨k+1,t2,A2,F1,I,rfl,b9⟩,by rw[BV,BV];omega⟩
 have:k=M.length:=E;subst this;grind[UW.done,Ea.fb]
end
section
structure sZ (g:AvK):Prop where
 split:∀{v0 v1 v2 K w},VW g v0 v1 v2 K w->l_ g.fsplit [v0,v1,v2] K w
 pick:∀{v0 v1 K w},mH g v0 v1 K w->l_ g.fpick [v0,v1] K w
 melded:∀{v0 v1 K w},Wj g v0 v1 K w->l_ g.fmelded [v0,v1] K w
 replace:∀{v0 v1 v2 v3 K w},UK g v0 v1 v2 v3 K w->l_ g.fReplace [v0,v1,v2,v3] K w
 Ax:∀{v0 v1 v2 v3 v4 K w},ZS g v0 v1 v2 v3 v4 K w->l_ g.fover [v0,v1,v2,v3,v4] K w
structure Av1 (α:Type) extends AvT α where
 one1:one=true
 ok1:sZ toAvK
 μ1:∀x,k.μ x=(1,0)
 meld0:∀x y,k.meld x y=none
 meldc:∀{C w r s x y},R C w r x->R C w s y->Bb prog EP vd [toAvK.enc r,toAvK.enc s] (λv w'=>AG w w'/\∃u,v=.tuple #[u,.bool false]) w
variable {α:Type}{g:Av1 α}
def E1:g.E=1:=g.E1 g.one1
def kL{r:U_}{x:α}(h:g.R C w r x):r=[g.toAvK.enc r]:=by
 have hl:=g.rlen h;rw[E1] at hl;unfold AvK.enc;rw[g.one1];match r,hl with
 |[a],_=>rfl
def xI:Yv g.toAvT:=by
 intro F C W b i X A n h hi;apply g.ok1.pick;unfold mH;apply AA (Yj h hi);rintro _ U ⟨r,rfl,hr,j⟩;apply AY (g.field0 r (Bu n) U (g.rlen hr) (g.rone hr) rfl);obtain⟨c,pl,fr,I⟩:=h.S_ j;apply nfl_i (I.box.cells 3 _ rfl);apply AA (RJ I hi);rintro _ Y ⟨V,N,Z,O,J⟩;have s2:=j.size;exact⟨r,rfl,g.Bw hr J λz _ Q e=>h.NO z e.1 Q,V,N,B_,O,(j.mono G_).trans J⟩
def wI{a:b_}(ha:a.cells=#[a])(x:α):Instr.fill (λi=>[(0,g.E),(g.E,1),(g.E+1,1),(g.E+2,1),(g.E+3,1),(g.E+4,1)][i]?) g.toAvK.zN.toArray [(0,a)]=some ([a]++Bu (⟨x,0,0,0,0,0⟩:Nd α)).toArray:=by
 rw[EH (l:=g.toAvK.zN) (vs:=[a]) (off:=0) (len:=g.E) rfl ha E1.symm (by rw[Li];omega),HX,AvK.zN,LC (by rw[g.zlen,E1];rfl)];rfl
def nj:RZ g.toAvT:=by
 intro F C S W b rt A v l h hv hl hb;apply g.ok1.melded;unfold Wj;obtain⟨va,vc,rfl,hm⟩:=hv.AK;have ak:=hv.JW g.Epos;have al:∀y,C y->y<W.heap.size:=λy hy=>h.lt y (.inr hy);rw[AO];refine Aa (λvs W'=>∃(i:Nat) (out:b_),i<=l.length/\vs=[out,zIq i]/\AB W.heap.size g.te g.E (g.R C) W' out (g.k.melded (l.take i))/\AG W W') (λvs _=>l.length-Da vs 1)
  ⟨0,_,Lc _,rfl,AB.nil,AF.refl _ _⟩ ?_
 rintro vs W1 ⟨i,out,hi,rfl,ho,g1⟩ _;simp only[Ha];refine Cn (λb9=>?_) λan=>?_;rotate_left;grind;have j:i<l.length:=E;obtain⟨p,r,rfl,hS,hr,hc,O⟩:=ak.get j;have U:l.take (i+1)=l.take i++[l[i]]:=by grind[List.take_add_one]
 have I:g.k.melded (l.take (i+1))=g.k.DE (g.k.melded (l.take i)) l[i]:=by rw[U,Pd]
 have a6:=KO g.k (l.take i);rw[S5,aAD hi] at a6;generalize hx:l[i]=x at O I;generalize g.k.melded (l.take i)=L at ho I a6;have ba:g.k.DE L x=L++[x]:=by
  grind[Kd.DE,Av1.μ1,Av1.meld0]
 have er:=kL O;have J:=g.Bw O g1 E';have N:=g.rcell O;generalize g.toAvK.enc r=a at er N;subst er;have av:W1.cell? (p.add (i*g.E))=some a:=g1.cell (by have:=hc 0 a rfl;omega) F_;refine AV j (AI av ?_);obtain⟨c,pl,fr,hT⟩:=id h;have ax:=hT.T_ g1 C_;apply AJ;rw[AE,AH,AE,AH];apply AI (ax.box.cells 0 _ rfl);have ay:∀{w},AG W1 w->Bb prog EP g.vm [a] (λv w'=>v=.tuple #[zIq 1,zIq 0]/\AG w w') w:=λ{w} gw=>by
  have:=g.meas (C:=C) (w:=w) (x:=x) (g.Bw J gw E');grind[Av1.μ1,AvK.enc,Av1.one1]
 refine .inl (BL (ay (AF.refl _ _)) ?_);rintro _ w4 ⟨rfl,g4⟩;apply BD;refine eqP (λe=>by cases e) λ_=>?_;have V:=g1.trans g4;have kR:∀{w w':c_} {r:U_} {y:α},AG W w->AG w w'->g.R C w r y->g.R C w' r y:=by grind[AvT.Bw]
 have X:AB W.heap.size g.te g.E (g.R C) w4 out L:=AB.T_ ho g4 C_ B_;refine AT (λ_ W'=>AG w4 W') ?_ ?_;rintro _ W6 g6 _;have Y:AB W.heap.size g.te g.E (g.R C) W6 out L:=AB.T_ X g6 C_ B_;have Z:=V.trans g6;have b0:=g.eb_le;have a7:=CY (v:=a) (vs:=[a]) g.zlen g.Epos N (by rw[E1];rfl);refine Dv g.elE Y Z.size (cs:=[a]) (x:=x) a7 E (kR g1 (g4.trans g6) J) (by grind[AvT.rone]) (λw1 w2 r y hw hm hy=>g.Bw hy hm λz hz hC e=>?_) ?_ E λv' w7 bb m7 bk=>?_;have:=al z hC;rcases e with e|e;have:=(AB.Am Y z e).1;omega;have:=Z.size;omega;have:(L.length+1)*g.eb<=(L.length+1)*512:=aA6 _ b0;omega;rw[AQ,AL E];refine⟨⟨i+1,v',j,rfl,B_,Z.next m7 λy hy e=>by have:=(AB.Am Y y e).1;omega⟩,by rw[BV,BV];omega⟩;obtain⟨oa,oc,rfl,bl,bp,b6,bs⟩:=X.AK;rw[AO,A6,wrap64 E E,JP];refine Ae (λan=>?_) λbx=>AF.refl _ _;have c4:0<L.length:=E;have a8:L.length-1<L.length:=E;cases oa with
 |none=>grind
 |some q=>
  obtain⟨gb,rfl,c6,c7,c8⟩:=b6 q rfl;have en:((L.length:Int)-1)=((L.length-1:Nat):Int):=E;rw[en];have gd:=gdr w4;have b7:=hT.T_ (V.trans gd) C_;have hd:=(AB.T_ (R':=g.R C) X gd C_ B_).sl;obtain⟨q',r',e',c9,ca,b8,Q⟩:=hd.get a8;cases e';have aa:=kL Q;have a1:=λ{w:c_} (gw:AG w4.drew w)=>g.meldc (C:=C) (w:=w) (kR (V.trans gd) gw Q) (kR g1 ((g4.trans gd).trans gw) J);rw[show g.toAvK.enc [a]=a by unfold AvK.enc;rw[g.one1];rfl] at a1;generalize g.toAvK.enc r'=a' at aa a1;subst aa;apply Ac (λ_ _=>False);apply AJ;rw[AE,AH,AE,AH];refine AP ⟨b7.box.cells 2 _ rfl,C_⟩ ?_;apply AV a8;refine AP ⟨by have:=b8 0 a' rfl;rwa [aA3] at this,C_⟩ ?_;apply BL (a1 (AF.refl _ _));rintro _ w8 ⟨g8,u,rfl⟩;refine⟨E,BD ?_⟩;exact AM (gd.trans g8)
end
section
variable {α:Type}{g:Av1 α}
def tg:Ux g.toAvT:=by
 intro C b rt t;induction t with
 |nil=>
  intro F W A p h hs _ _ _ _;apply g.ok1.split;unfold VW;simp only[Tr.root];refine eqP (λ_=>?_) λe=>(e rfl).elim;exact⟨.nil,.nil,A,rfl,⟨⟨F,M_,K_,h,AF.refl _ _⟩,rfl,rfl,trivial,trivial,aBq,(λq N=>nomatch N),I',rfl,Lc _⟩⟩
 |node l i x r ay b0=>
  intro F W A p h hs hh hu hb hp;obtain⟨hl,hr,hi⟩:=id hh;obtain⟨u1,u2,u3,u4,u5⟩:=Tr.BQ.1 hu;have O:=g.k.SR l.toL r.toL x p;have b6:=hb.1;have b7:=hb.2;simp only[Tr.toL,Tr.Dh,Tr.CP] at b6;simp only[Tr.toL,Tr.JQ,Tr.FK] at b7;have nF:∀{z:Nat},W.heap.size<=z->∀x,F x\/C x->x≠z:=λhz x hx e=>by have:=h.lt x hx;omega
  apply g.ok1.split;unfold VW;simp only[Tr.root];refine eqP E λ_=>?_;refine FD h hi λrc bx w3 g3 aa B ak=>?_;have Q:=g.rlen ak;have h3:=h.S_ g3;apply fl_i (B.cells (g.E+0) _ (by rw[Ap Q];rfl));apply AA (Ct h3 hl);rintro _ w5 ⟨rfl,g5⟩;apply Hz;have a1:=gdr w5;have al:=(g3.trans g5).trans a1;obtain⟨c,pl,fr,hT⟩:=id h;have b8:=hT.T_ al C_;have B5:=(B.S_ g5).S_ a1;apply Ac (λ_ _=>False);apply AJ;rw[AE,AH,AE,AH];refine AP ⟨b8.box.cells 0 _ rfl,C_⟩ ?_;rw[AE,AH];refine NK (g:=g.toAvT) (r:=rc) Q (λj v hv=>⟨B5.cells j v (by rw[u6 (Ad.1 hv).1];exact hv),C_⟩) ?_;refine BL (g.meas (C:=C) (x:=x) (g.Bw ak ((g5.trans a1)) E')) ?_;rintro _ w6 ⟨rfl,g6⟩;refine⟨E,?_⟩;apply BD;have Z:=al.trans g6;have bp:=Z.size;have h6:=h.S_ Z;have B6:=B5.S_ g6;refine leP (λan=>?_) λbk=>?_;have av:p<=Tr.sz g.k.μ l.toL:=E;rw[Ix av] at O;apply fl_i (B6.cells (g.E+0) _ (by rw[Ap Q];rfl));apply AA (ay h6 hs hl u1 hb.K4.1 hp);rintro _ w8 ⟨a,c1,A1,rfl,I⟩;apply BD;obtain⟨F1,k1,k2,h8,m8⟩:=I.wC;have B8:=B6.T_ m8 λe=>nF aa bx (.inl e.1) rfl;apply fl_i (B8.cells (g.E+1) _ (by rw[Ap Q];rfl));obtain⟨e1,e2,e3,e4⟩:=Ly I hi hr hu;have a6:FU g.toAvT (Tr.node c1 i x r).toL:=by
   obtain⟨q1,q2⟩:=G8 (g:=g.toAvT) l.toL p;constructor;simp only[Tr.toL,Tr.Dh,Tr.CP,I.r1];omega;simp only[Tr.toL,Tr.JQ,Tr.FK,I.r1];omega
  have b9:=I.len;apply AA (IH (c1.Cz+r.Cz) (DN _) h8 e1 I.hr e2 e3 a6);rintro _ ba ⟨t2,A2,rfl,J⟩;have Kb:=J.idx;have U:=J.Cz;have bb:=J.len;have an:=I.le;rw[(Tr.Dk _).2] at U;simp only[Tr.Cz] at U;have sm:∀q,q∈t2.idx↔q∈(Tr.node c1 i x r).idx:=λq=>J.idx.mem_iff;refine⟨a,t2,A2,rfl,⟨⟨F1,k1,λx hx=>(k2 x hx).imp F_ E,J.FR,((Z.mono G_).trans m8).next J.T_ λx hx e=>?_⟩,?_,?_,I.hl.frame g.k.μ λq N=>J.Ak q (e4 q N),J.holds,?_,λq N=>?_,λq V X=>?_,by simp only[Tr.Cz];omega,by simp only[Tr.Cz];omega⟩⟩;rcases k2 x e.1 with e'|e';grind;omega;rw[I.l1];simp only[Tr.toL,O];rw[J.toL];simp only[Tr.toL,Tr.Ey,I.r1,O];exact ku.2 ⟨(ku.1 I.K2).1,J.idx.nodup_iff.2 e3,λq N q' a7 e=>e4 q N (e▸(sm q').1 a7)⟩;rcases K8.1 N with N|N;rcases I.idx q (aAT _ N) with e|e;exact .inl k_;grind;have:=(sm q).1 N;simp only[Tr.idx,K8,S6] at this ⊢;rcases this with e|e|e;rcases I.idx q (aAJ _ e) with e|e;grind;grind;omega;grind;simp only[Tr.idx,K8,S6,aDD] at V;have Y:q∉(Tr.node c1 i x r).idx:=λe=>X (aAJ _ ((sm q).2 e));refine(J.Ak q Y).trans (I.Ak q V.1 λe=>?_);rcases K8.1 e with e|e;exact X (aAT _ e);exact Y k_;have a8:¬p<=Tr.sz g.k.μ l.toL:=E;rw[By a8] at O;refine DI E ?_;refine geP (λbs=>?_) λbl=>?_;have ax:Tr.sz g.k.μ l.toL+(g.k.μ x).1<=p:=E;rw[Ix ax] at O;apply fl_i (B6.cells (g.E+1) _ (by rw[Ap Q];rfl));refine JV E E (JV E E ?_);refine AA (b0 h6 hs hr u2 hb.K4.2.cons.1 (p:=p-Tr.sz g.k.μ l.toL-(g.k.μ x).1) E) ?_;rintro _ w8 ⟨a,c1,A1,rfl,I⟩;apply BD;obtain⟨F1,k1,k2,h8,m8⟩:=I.wC;have B8:=B6.T_ m8 λe=>nF aa bx (.inl e.1) rfl;apply fl_i (B8.cells (g.E+0) _ (by rw[Ap Q];rfl));obtain⟨e1,e2,e3,e4⟩:=Kp I hi hl hu;have a6:FU g.toAvT (Tr.node l i x a).toL:=by
   obtain⟨q1,q2⟩:=G8 (g:=g.toAvT) r.toL (p-Tr.sz g.k.μ l.toL-(g.k.μ x).1);constructor;simp only[Tr.toL,Tr.Dh,Tr.CP,I.l1];omega;simp only[Tr.toL,Tr.JQ,Tr.FK,I.l1];omega
  have b9:=I.len;apply AA (IH (l.Cz+a.Cz) (DN _) h8 e1 e2 I.hl e3 a6);rintro _ ba ⟨t2,A2,rfl,J⟩;have U:=J.Cz;have bb:=J.len;have an:=I.le;rw[(Tr.Dk _).2] at U;simp only[Tr.Cz] at U;have sm:∀q,q∈t2.idx↔q∈(Tr.node l i x a).idx:=λq=>J.idx.mem_iff;refine⟨t2,c1,A2,rfl,⟨⟨F1,k1,λx hx=>(k2 x hx).imp F_ E,J.FR,((Z.mono G_).trans m8).next J.T_ λx hx e=>?_⟩,?_,?_,J.holds,I.hr.frame g.k.μ λq N=>J.Ak q (e4 q N),?_,λq N=>?_,λq V X=>?_,by simp only[Tr.Cz];omega,by simp only[Tr.Cz];omega⟩⟩;rcases k2 x e.1 with e'|e';grind;omega;rw[J.toL];simp only[Tr.toL,Tr.Ey,I.l1,O];rw[I.r1];simp only[Tr.toL,O];exact ku.2 ⟨J.idx.nodup_iff.2 e3,(ku.1 I.K2).2.1,λq N q' a7 e=>e4 q' a7 (e▸(sm q).1 N)⟩;rcases K8.1 N with N|N;have:=(sm q).1 N;simp only[Tr.idx,K8,S6] at this ⊢;rcases this with e|e|e;grind;omega;rcases I.idx q (aAT _ e) with e|e;grind;grind;rcases I.idx q (aAJ _ N) with e|e;exact .inl k_;grind;simp only[Tr.idx,K8,S6,aDD] at V;have Y:q∉(Tr.node l i x a).idx:=λe=>X (aAT _ ((sm q).2 e));refine(J.Ak q Y).trans (I.Ak q V.2.2 λe=>?_);rcases K8.1 e with e|e;exact Y k_;exact X (aAJ _ e);exfalso;have:=g.μ1 x;grind
def wH(g:AvK)(v0:b_)(K:Cont):b_->b_->b_->c_->Prop:=λa0 b0 t76 w8=>Dz t76 λt77=>GM [a0,(zIq 0)] (λj I w9=>∀_:Env,HZ .i64 (Bf j 1) t77 λJ=>Af J (KY g.E t76 (Bf j 1) λN=>BR N (λO Q=>Aw v0 λU=>BX 3 U λV=>BR V (λX Y=>DQ [(0,g.E),(g.E,1),(g.E+1,1),(g.E+2,1),(g.E+3,1),(g.E+4,1)] g.zN [(0,O)] λZ=>l_ g.aTake [X,Z] (λa1 a6=>l_ g.fjoin [v0,(Bf j 0),a1,(zIq (-1))] (λa7 a8=>Cl .i64 (Bf j 1) (zIq 1) λaa=>I [a7,aa] a8) a6) Y) Q) w9) (l_ g.fconcat [v0,(Bf j 0),b0] (λak al=>Aw v0 λan=>BX 4 an λav=>Cc av ak (λax=>K (.tuple #[]) ax) al) w9)) w8
def VO(g:AvK)(v0 v1 v2 v3:b_)(K:Cont)(w:c_):UK g v0 v1 v2 v3 K w=yV g (wH g v0 K) v0 v1 v2 v3 w:=rfl
def aA:Y9 g.toAvT:=by
 intro F C S W b i j A T v L h Y hs hh hu hv hS Z hj a1 O a6;apply g.ok1.replace;rw[VO];apply Xh tg xI nj (λl p h=>h.split p) h Y hs hh hu hv hS Z hj a1 a6;intro a' b' mv W8 A8 F8 P;unfold wH;have Q:=KO g.k ((g.k.split T.toL i).1.getLast?.toList++L++(g.k.split (g.k.split T.toL i).2 (j-i)).2.head?.toList);have ax:(g.k.split T.toL i).1.getLast?.toList.length<=1:=B_;have ay:(g.k.split (g.k.split T.toL i).2 (j-i)).2.head?.toList.length<=1:=B_;rw[Bp,Bp] at Q;have U:=P.put;have p1:=P.len;have p2:=P.le;rw[<-(Tr.Dk _).2,<-(Tr.Dk _).2,P.ta,P.tb] at p1;have V:(g.k.split T.toL i).1.dropLast++g.k.melded ((g.k.split T.toL i).1.getLast?.toList++L++(g.k.split (g.k.split T.toL i).2 (j-i)).2.head?.toList)++(g.k.split (g.k.split T.toL i).2 (j-i)).2.tail=g.k.CV T.toL i j L:=rfl;generalize (g.k.split T.toL i).1.dropLast=al at U V p1;generalize (g.k.split (g.k.split T.toL i).2 (j-i)).2.tail=bl at U V p1;generalize g.k.melded ((g.k.split T.toL i).1.getLast?.toList++L++(g.k.split (g.k.split T.toL i).2 (j-i)).2.head?.toList)=M at U V Q;have a7:FU g.toAvT (al++M):=by rw[<-V] at O;exact O.K4.1
 obtain⟨ma,mc,a8,_⟩:=U.row.AK;subst a8;rw[AO];apply Aa (λvs W'=>∃(k:Nat) (t:Tr α) (A':ArS α) (F':d_),k<=M.length/\vs=[zIq t.root,zIq k]/\UW g.toAvT F C W b T.root A al bl M b' (.slice ma M.length mc) k t W' A' F') (λvs _=>M.length-Da vs 1) ⟨0,a',A8,F8,Lc _,rfl,U⟩;rintro vs W9 ⟨k,t,A9,F9,hk,rfl,X⟩ _;simp only[Ha];refine Cn (λb0=>?_) λb6=>?_;have I:k<M.length:=E;obtain⟨q,r,rfl,hq,hr,hc,N⟩:=X.row.sl.get I;have er:=kL N;have J:=g.rcell N;generalize g.toAvK.enc r=a at er J;subst er;have aa:=X.lt I E;refine AV I (AI (by have:=hc 0 a rfl;rwa [aA3] at this) ?_);obtain⟨c,pl,fr,hR⟩:=id X.FR;apply nfl_i (hR.box.cells 3 _ rfl);refine⟨_,wI J M[k],?_⟩;apply AA (Qr hR (n:=⟨M[k],0,0,0,0,0⟩) N aa);rintro _ b7 ⟨rfl,F1,q1,q2,ak,an⟩;refine AA (UW.step X I E q1 q2 ak an a7) ?_;rintro _ b8 ⟨t2,A2,rfl,b9,av⟩;rw[AQ,AL E];exact⟨⟨k+1,t2,A2,F1,I,rfl,av⟩,by rw[BV,BV];omega⟩;have:k=M.length:=E;subst this;grind[UW.done,Ea.fb]
end
def AB.heap{B e k:Nat}{R R':c_->U_->α->Prop}{l:List α}(h:AB B e k R w v l)(N:∀g,v.ownBlock=some g->w'.heap[g]?=w.heap[g]?)(U:∀r x,x∈l->R w r x->R' w' r x):AB B e k R' w' v l:=by
 obtain⟨Ao,h1,O,Q,V⟩:=h;refine⟨Ao,⟨h1.1,?_⟩,O,Q,B_⟩;rcases h1.2 with X|⟨g,cap,I,rfl,hb,J,j⟩;grind;refine .inr ⟨g,cap,I,rfl,hb,?_,j⟩;rw[N g rfl];exact J
def Bx.heap{b:Nat}(h:Bx W b vs)(I:W'.heap[b]?=W.heap[b]?):Bx W' b vs:=by
 refine⟨λj v J=>(aB6 (w:=W) I).trans (h.cells j v J),λj N=>?_⟩;obtain⟨h1,O⟩:=h.Cq j N;exact⟨by grind[World.cell?_of_block],(aDC I).trans O⟩
section
variable {α:Type}{g:AvT α}
theorem OS.heap{r:U_}{o:Option (Nd α)}(h:OS g C w r o)(j:∀y,y<w.heap.size->C y->w'.heap[y]?=w.heap[y]?):OS g C w' r o:=by
 cases o with
 |none=>exact h
 |some n=>obtain⟨x,rfl,I⟩:=h;exact⟨x,rfl,g.rheap I j⟩
def FG.heap{A:ArS α}{pl fr:b_}(h:FG g F C W c A pl fr)(I:∀x,F x\/C x->W'.heap[x]?=W.heap[x]?)(O:W.heap.size<=W'.heap.size):FG g F C W' c A pl fr:=by
 have J:Bx W c [pl,fr]:=⟨h.cells,h.Cq⟩;have j:=J.heap (I c (.inl h.fc));exact⟨j.cells,j.Cq,AB.heap h.Iy (by grind[FG.pF]) (by grind[OS.heap]),AB.heap h.Oh (λx N=>I x (.inl (h.fF x N).1)) E',h.ok,h.fc,h.pF,h.fF,h.NO,(by grind[FG.lt])⟩
def Ea.heap{b:Nat}{j:Int}{A:ArS α}(h:Ea g F C W b j A)(I:∀x,F x\/C x->W'.heap[x]?=W.heap[x]?)(J:W.heap.size<=W'.heap.size):Ea g F C W' b j A:=by
 obtain⟨c,pl,fr,h⟩:=h;exact⟨c,pl,fr,h.box.heap (I b (.inl h.fb.1)),h.ar.heap B_ J,h.fb⟩
structure Vg (P:Program) (l:Nat) (J:Nat->(d_)->c_->Prop) (Jx:(d_)->c_->Prop) (w:c_) (Rd:d_) (encs:Nat->U_) (N:Nat):Prop where
 hJ:∀k It It' W W',J k It W->AG W W'->(∀b,It' b->(It b\/W.heap.size<=b)/\b<W'.heap.size)->J k It' W'
 VZ:∀It It' W W',Jx It W->AG W W'->(∀b,It' b->(It b\/W.heap.size<=b)/\b<W'.heap.size)->Jx It' W'
 QI:∀k It W,J k It W->∀b,b<w.heap.size->Rd b->W.heap[b]?=w.heap[b]?
 qU:∀k It W,k<N->J k It W->Ob P l (encs k) (λv W'=>W.heap.size<=W'.heap.size/\(∀b,It b->W'.heap[b]?=W.heap[b]?)/\Quiet W W'/\((v=.bool true/\J (k+1) It W')\/(v=.bool false/\Jx It W'))) W
def Wf(J:Nat->(d_)->c_->Prop)(N:(d_)->c_->Prop)(k:Nat)(I:d_)(W:c_)(v:b_)(W':c_):Prop:=W.heap.size<=W'.heap.size/\(∀b,I b->W'.heap[b]?=W.heap[b]?)/\Quiet W W'/\∃j,(∀b,I b->j b)/\(∀b,j b->b<W'.heap.size)/\((v=.bool true/\J k j W')\/(v=.bool false/\N j W'))
def Vg.xT{Q:Nat}{j:Nat->U_}{N:Nat}{Rd:d_} (h:∀l J O I,AG w I->Vg P l J O w Rd j N->J 0 (λ_=>False) I->w.heap.size<=I.heap.size->AD P Q (.func (.yield l) #[] #[]::cs) (λ_ W'=>∃U,J N U W'\/O U W') I):QG True P Q cs j N Rd w:=by
 refine λl J O I V h0 hJ VZ QI hr=>h l J O I V ⟨B_,B_,QI,hr⟩ h0 V.size
end
section
variable {α:Type}{g:AvN α}
def Ta(k:Kd α)(l:List α){i:Nat}(j:Nat)(h:Tr.sz k.μ l<=i):k.Ax l i j=[]:=by
 rw[<-k.R7,k.GD _ E]
def wY{b l N:Nat}{A:ArS α}{J:Nat->(d_)->c_->Prop}{Jx:(d_)->c_->Prop}{a6:Nat->U_}(hw:Ea g.toAvT F C w b most A)(H:Vg prog l J Jx w (λx=>F x\/C x) a6 N) : ∀(t:Tr α) (i j k0:Nat) (U:d_) (W:c_),Tr.AW g.k.μ A.f t->FU g.toAvT t.toL->i<=1099511627776->j<=1099511627776->J k0 U W->w.heap.size<=W.heap.size->(∀x,U x->x<W.heap.size)->k0+(g.k.Ax t.toL i j).length<=N->(∀m (hm:m<(g.k.Ax t.toL i j).length),a6 (k0+m)=[.agg (g.cells (g.k.Ax t.toL i j)[m]).toArray])->l_ g.fover [e_ b,zIq t.root,zIq (i:Int),zIq (j:Int),.func (.yield l) #[] #[]] (Wf J Jx (k0+(g.k.Ax t.toL i j).length) U W) W:=by
 intro t;induction t with
 |nil=>
  intro i j k0 U W _ _ _ _ hJ hz bl _ _;apply g.okN.Ax;unfold gi;simp only[Tr.root];refine AT (λ_ _=>False) G_ ?_;refine eqP (λ_=>?_) λe=>(e rfl).elim;exact⟨DN _,I',⟨rfl,rfl,rfl⟩,U,M_,bl,.inl ⟨rfl,hJ⟩⟩
 |node lt q x b6 eo ep=>
  intro i j k0 U W hh hb hi hj hJ hz bl hN V;obtain⟨hl,hr,hq⟩:=id hh;have eL:(Tr.node lt q x b6).toL=lt.toL++x::b6.toL:=rfl;rw[eL] at hb hN V ⊢;have er:=hb.1;simp only[Tr.Dh,Tr.CP] at er;rw[g.k.Xv] at hN V ⊢;apply g.okN.Ax;unfold gi;simp only[Tr.root];refine AT (λ_ O=>O=W/\i<j) ?_ ?_;rotate_left;refine eqP E λ_=>?_;refine geP (λe=>?_) B_;rw[g.k.GD _ (by omega:j<=i),g.k.GD _ (by omega:j-Tr.sz g.k.μ lt.toL<=i-Tr.sz g.k.μ lt.toL)];exact⟨DN _,I',⟨rfl,rfl,rfl⟩,U,M_,bl,.inl ⟨rfl,hJ⟩⟩;rintro _ O ⟨rfl,gu⟩ _;rename c_=>W;have FR:∀{k U O},J k U O->w.heap.size<=O.heap.size->Ea g.toAvT F C O b most A:=λ{k U O} h1 h2=>hw.heap (λy I=>H.QI k U O h1 y (hw.lt y I) I) h2;refine FD (FR hJ hz) hq λrc Y w4 g4 gb B da=>?_;have b7:=g.rlen da;have b9:=g.Rc.1 da;have et:=(FR hJ hz).S_ g4;apply fl_i (B.cells (g.E+0) _ (by rw[Ap b7];rfl));apply AA (Ct et hl);rintro _ w6 ⟨rfl,g6⟩;apply Hz;have dk:=gdr w6;have dr:=(g4.trans g6).trans dk;obtain⟨c,pl,fr,hT⟩:=(FR hJ hz).S_ dr;have B6:=(B.S_ g6).S_ dk;apply Ac (λ_ _=>False);apply AJ;rw[AE,AH,AE,AH];refine AP ⟨hT.box.cells 0 _ rfl,C_⟩ ?_;rw[AE,AH];refine NK (g:=g.toAvT) (r:=rc) b7 (λj v hv=>⟨B6.cells j v B_,C_⟩) ?_;apply BL (g.meas (C:=C) (x:=x) (g.Rc.2 b9));rintro _ w7 ⟨rfl,g7⟩;refine⟨E,?_⟩;apply BD;have al:=dr.trans g7;have B7:=B6.S_ g7;have ek:=B7.lt (by grind[BZ]);have gv:=al.size;have an:∀y,(U y\/y=Y)->(U y\/W.heap.size<=y)/\y<w7.heap.size:=B_;have dz:=H.hJ k0 U (λy=>U y\/y=Y) W w7 hJ al an;have eu:∀y,U y->w7.heap[y]?=W.heap[y]?:=by grind[AF.Ak]
  obtain⟨X1,bp⟩:∃X,X=g.k.Ax lt.toL i j:=⟨_,rfl⟩;obtain⟨i',dT⟩:∃i',i'=i-Tr.sz g.k.μ lt.toL:=⟨_,rfl⟩;obtain⟨j',e4⟩:∃j',j'=j-Tr.sz g.k.μ lt.toL:=⟨_,rfl⟩;obtain⟨X2,ew⟩:∃X,X=(if i'<min j' (g.k.μ x).1 then[g.k.part x i' (min j' (g.k.μ x).1)] else[]):=⟨_,rfl⟩;obtain⟨X3,bs⟩:∃X,X=g.k.Ax b6.toL (i'-(g.k.μ x).1) (j'-(g.k.μ x).1):=⟨_,rfl⟩;have eX:g.k.Ax lt.toL i j++g.k.Ax (x::b6.toL) (i-Tr.sz g.k.μ lt.toL) (j-Tr.sz g.k.μ lt.toL)=X1++(X2++X3):=by rw[bp,ew,bs,dT,e4];rfl
  rw[eX] at hN V ⊢;simp only[Bp] at hN;have bx:∀m (hm:m<X1.length),a6 (k0+m)=[.agg (g.cells X1[m]).toArray]:=λm hm=>by
   rw[V m B_];grind
  have c4:∀m (hm:m<X2.length),a6 (k0+X1.length+m)=[.agg (g.cells X2[m]).toArray]:=λm hm=>by
   have:=V (X1.length+m) (by simp;omega);rw[aBh,this];simp[aAp,aBQ hm]
  have c6:∀m (hm:m<X3.length),a6 (k0+X1.length+X2.length+m)=[.agg (g.cells X3[m]).toArray]:=λm hm=>by
   have:=V (X1.length+(X2.length+m)) (by simp;omega);rw[show k0+X1.length+X2.length+m=k0+(X1.length+(X2.length+m)) by omega,this];simp[aAp]
  let St:Nat->c_->Prop:=λk O=>∃Q,(∀y,U y->Q y)/\Q Y/\(∀y,Q y->y<O.heap.size)/\J k Q O/\(w7.heap.size<=O.heap.size/\Quiet w7 O)/\(∀y,U y\/y=Y->O.heap[y]?=w7.heap[y]?)
  have done:∀{k O} (v:b_) (Q:d_),(∀y,U y->Q y)->(∀y,Q y->y<O.heap.size)->w7.heap.size<=O.heap.size/\Quiet w7 O->(∀y,U y->O.heap[y]?=w7.heap[y]?)->((v=.bool true/\J k Q O)\/(v=.bool false/\Jx Q O))->Wf J Jx k U W v O:=λv Q h1 h2 h3 h4 h5=>
   ⟨E,λy I=>(h4 y I).trans (eu y I),Quiet.trans ⟨al.os,al.tape,al.output⟩ h3.2,Q,h1,h2,h5⟩
  refine AT (λ_ O=>St (k0+X1.length) O) ?_ ?_;rotate_left;refine Cn (λe5=>?_) λez=>?_;apply fl_i (B7.cells (g.E+0) _ (by rw[Ap b7];rfl));rw[Hh];have em:(if((Tr.sz g.k.μ lt.toL:Nat):Int)<(j:Int) then((Tr.sz g.k.μ lt.toL:Nat):Int) else(j:Int))=((min j (Tr.sz g.k.μ lt.toL):Nat):Int):=E;rw[em];have e6:g.k.Ax lt.toL i (min j (Tr.sz g.k.μ lt.toL))=X1:=by rw[bp,g.k.R7]
  refine AA (eo i (min j (Tr.sz g.k.μ lt.toL)) k0 (λy=>U y\/y=Y) w7 hl hb.K4.1 hi E dz E (λy I=>(an y I).2) B_ (λm hm=>?_)) ?_;have c7:m<X1.length:=B_;rw[bx m c7];grind;rw[e6];rintro v W2 ⟨z1,z2,zq,Q,q1,q2,q3⟩;rcases q3 with⟨rfl,c8⟩|⟨rfl,c8⟩;rw[Aj];exact AM ⟨Q,λy I=>q1 y (.inl I),q1 Y (.inr rfl),q2,c8,⟨z1,zq⟩,z2⟩;rw[Aj];exact Ab (done (.bool false) Q (λy I=>q1 y (.inl I)) q2 ⟨z1,zq⟩ (λy I=>z2 y (.inl I)) (.inr ⟨rfl,c8⟩));have e0:X1=[]:=by rw[bp];exact Ta g.k lt.toL j E
  rw[e0];exact⟨λy=>U y\/y=Y,λy I=>.inl I,.inr rfl,λy I=>(an y I).2,dz,⟨DN _,rfl,rfl,rfl⟩,I'⟩;rintro _ W8 ⟨a7,a1,a2,a3,c9,z8,Z⟩ _;have B8:=B7.heap (Z Y (.inr rfl));rw[A6,wrap64 E E,Hi];have eA:(if(0:Int)>(i:Int)-((Tr.sz g.k.μ lt.toL:Nat):Int) then(0:Int) else(i:Int)-((Tr.sz g.k.μ lt.toL:Nat):Int))=(i':Int):=E;rw[eA,A6,wrap64 E E,Hh];obtain⟨to,eB⟩:∃to:Int,to=(if(((g.k.μ x).1:Nat):Int)<(j:Int)-((Tr.sz g.k.μ lt.toL:Nat):Int) then(((g.k.μ x).1:Nat):Int) else(j:Int)-((Tr.sz g.k.μ lt.toL:Nat):Int)):=⟨_,rfl⟩;rw[<-eB];have e7:(i':Int)<to↔i'<min j' (g.k.μ x).1:=E;have e8:i'<min j' (g.k.μ x).1->to=((min j' (g.k.μ x).1:Nat):Int):=E;refine AT (λ_ O=>St (k0+X1.length+X2.length) O) ?_ ?_;rintro _ W9 ⟨e9,c1,c2,c3,eC,z9,a8⟩ _;refine DI E ?_;refine leP (λgw=>?_) λgx=>?_;have e3:X3=[]:=by rw[bs];exact g.k.GD _ E
  rw[e3];simp only[aO,Bp];exact done (.bool true) e9 c1 c3 z9 (λy I=>a8 y (.inl I)) B_;have B9:=B7.heap (a8 Y (.inr rfl));apply fl_i (B9.cells (g.E+1) _ (by rw[Ap b7];rfl));rw[A6,wrap64 E E,A6,wrap64 E E,Hi];have e1:(if(0:Int)>(i:Int)-((Tr.sz g.k.μ lt.toL:Nat):Int)-(((g.k.μ x).1:Nat):Int) then(0:Int) else(i:Int)-((Tr.sz g.k.μ lt.toL:Nat):Int)-(((g.k.μ x).1:Nat):Int))=((i'-(g.k.μ x).1:Nat):Int):=by rw[dT];omega
  rw[e1,A6,wrap64 E E,A6,wrap64 E E];have e2:(j:Int)-((Tr.sz g.k.μ lt.toL:Nat):Int)-(((g.k.μ x).1:Nat):Int)=((j'-(g.k.μ x).1:Nat):Int):=by rw[e4];omega
  rw[e2];refine AA (ep (i'-(g.k.μ x).1) (j'-(g.k.μ x).1) (k0+X1.length+X2.length) e9 W9 hr hb.K4.2.cons.1 E E eC E c3 B_ (λm hm=>?_)) ?_;have c7:m<X3.length:=B_;rw[c6 m c7];grind;rw[<-bs];rintro v W2 ⟨u1,u2,uq,Q,q1,q2,q3⟩;refine done v Q (λy I=>q1 y (c1 y I)) q2 ⟨E,z9.2.trans uq⟩ (λy I=>(u2 y (c1 y I)).trans (a8 y (.inl I))) ?_;simp only[Bp];rwa [<-aBh,<-aBh]
  .refine Cn (λe5=>?_) λez=>?_;rotate_left;have e2:X2=[]:=B_;rw[e2];exact⟨a7,a1,a2,a3,c9,z8,Z⟩;have ba:=e7.1 e5;have ea:=e8 ba;have e2:X2=[g.k.part x i' (min j' (g.k.μ x).1)]:=B_;generalize hP:min j' (g.k.μ x).1=P at ba ea e2;have gf:P<=(g.k.μ x).1:=E;have av:=DO (g:=g) x;rw[AE,AH];refine AX (vs:=g.cells x) av (λj v hv=>?_) ?_;rw[AH];apply B8.cells j v;rw[show rc=g.cells x from b9,u6 (Ad.1 hv).1];exact hv;refine Bx.new av g.zlen (FN (g:=g) x) λb8 eH gl ca cc=>?_;have en:=cc.lt (by rw[av];exact g.Epos);have cq:∀{p:Nat} {w},0<p->p<(g.k.μ x).1->Bb prog EP g.vc [.agg (g.cells x).toArray,.int .i64 (p:Int)] (λv w'=>v=.tuple #[.agg (g.cells (g.k.cut x p).1).toArray,.agg (g.cells (g.k.cut x p).2).toArray]/\AG w w') w:=λh1 h2=>g.cutc h1 h2 E;have bb:∀{O},AG W8 O->∃c pl fr,jH g.toAvT F C O b c most A pl fr:=λgg=>(FR c9 E).S_ gg;refine AT (λ_ O=>AG W8 O/\Bx O b8 (g.cells (if P<(g.k.μ x).1 then(g.k.cut x P).1 else x))) ?_ ?_;rotate_left;refine Cn (λh1=>?_) B_;have eI:P<(g.k.μ x).1:=E;have gd:=gdr eH;obtain⟨c',eN,eR,cu⟩:=bb (ca.trans gd);apply Ac (λ_ y=>y=b8);apply AJ;rw[AE,AH,AE,AH];apply AP ⟨cu.box.cells 1 _ rfl,λk hk _=>nomatch (show k∈([]:X_) from hk)⟩;apply DH av (λj v hv=>⟨by rw[AH];exact(cc.S_ gd).cells j v hv,λk hk _=>nomatch (show k∈([]:X_) from hk)⟩);rw[ea];refine BL (cq E eI) ?_;rintro _ fa ⟨rfl,aa⟩;refine⟨aa.mono G_,BD ?_⟩;refine((cc.S_ gd).S_ aa).Ax (DO _) av (FN _) λfo fs ax=>⟨ax,?_⟩;have gy:=ca.size;exact⟨((ca.trans gd).trans aa).next ax E,B_⟩;rintro _ fv ⟨ec,cx⟩ _;have ed:∀x',x'=(if P<(g.k.μ x).1 then(g.k.cut x P).1 else x)->(g.k.μ x').1=P:=λx' e=>by
    rw[e];split;exact(g.cutμ x P E (by assumption)).1;omega
   generalize fx:(if P<(g.k.μ x).1 then(g.k.cut x P).1 else x)=x' at cx ed;have gm:=ed x' rfl;have fy:g.k.part x i' P=if 0<i' then(g.k.cut x' i').2 else x':=by unfold Kd.part;rw[fx]
   refine AT (λ_ O=>AG W8 O/\Bx O b8 (g.cells (g.k.part x i' P))) ?_ ?_;rotate_left;refine gtP (λh1=>?_) B_;have gd:=gdr fv;obtain⟨c',eN,eR,cu⟩:=bb (ec.trans gd);have bk:=DO (g:=g) x';apply Ac (λ_ y=>y=b8);apply AJ;rw[AE,AH,AE,AH];apply AP ⟨cu.box.cells 1 _ rfl,λk hk _=>nomatch (show k∈([]:X_) from hk)⟩;apply DH bk (λj v hv=>⟨by rw[AH];exact(cx.S_ gd).cells j v hv,λk hk _=>nomatch (show k∈([]:X_) from hk)⟩);refine BL (g.cutc (x:=x') (p:=i') E E E) ?_;rintro _ fa ⟨rfl,aa⟩;refine⟨aa.mono G_,BD ?_⟩;refine((cx.S_ gd).S_ aa).Ax (DO _) bk (FN _) λfo fs ax=>⟨ax,?_⟩;exact⟨((ec.trans gd).trans aa).next ax E,B_⟩;rintro _ ee ⟨ak,ga⟩ _;apply ga.GJ (DO _);have gA:=ak.size;have ef:=H.hJ _ a7 a7 W8 ee c9 ak λy I=>⟨.inl I,by have:=a3 y I;omega⟩;refine .inr ⟨l,rfl,?_⟩;have gq:X2.length=1:=by rw[e2];rfl
   have ay:=c4 0 E;simp only[aA3,e2,aDE] at ay;rw[<-ay];refine HO (H.qU _ a7 ee E ef) ?_;rintro v eh ⟨y1,y2,yq,y3⟩;have b0:∀y,a7 y->eh.heap[y]?=W8.heap[y]?:=λy I=>(y2 y I).trans (ak.Ak y (a3 y I) F_);have gB:Quiet w7 eh:=(z8.2.trans ⟨ak.os,ak.tape,ak.output⟩).trans yq;rcases y3 with⟨rfl,ej⟩|⟨rfl,ej⟩;rw[Aj];refine AM ⟨a7,a1,a2,λy I=>by have:=a3 y I;omega,B_,B_,λy I=>?_⟩;exact(b0 y (by rcases I with I|rfl;exact a1 y I;exact a2)).trans (Z y I);rw[Aj];exact Ab (done (.bool false) a7 a1 (λy I=>by have:=a3 y I;omega) B_ (λy I=>(b0 y (a1 y I)).trans (Z y (.inl I))) (.inr ⟨rfl,ej⟩))
end
section
variable {α:Type}
def gj(g:AvT α):Prop:=∀{F C:d_} {W:c_} {b i j:Nat} {A:ArS α} {T:Tr α},Ea g F C W b T.root A->Tr.AW g.k.μ A.f T->Tr.Ic T->FU g T.toL->i<=1099511627776->j<=1099511627776->l_ g.fOver [e_ b,zIq (i:Int),zIq (j:Int)] (λv' w'=>∃ (cap vals:U_) (Rd:d_),v'=.func (.func g.fOverf) #[] cap.toArray/\AG W w'/\vals.length=(g.k.Ax T.toL i j).length/\(∀ m (h1:m < vals.length) (I:m < (g.k.Ax T.toL i j).length),∃ r,vals[m]=g.toAvK.enc r/\g.R C w' r (g.k.Ax T.toL i j)[m])/\ (∀ x,Rd x->(F x\/C x\/W.heap.size<=x)/\x < w'.heap.size)/\QG True prog g.fOverf cap (λk=>[vals.getD k undef]) vals.length Rd w') W
def DV{t:TypeId}{x:b_}(I:x.cells=#[x])(h:∀b j,w.heap.size<=b->AG w j->Bx j b [x]->K (e_ b) j):OD t x K w:=⟨I,Bx.zero h⟩
def UB{g:AvT α}{b i j b3 b4 b5:Nat}{A:ArS α}{T:Tr α}{Q:Nat->U_}{N:Nat}(h:Ea g F C w b T.root A)(B3:Bx w b3 [e_ b])(B4:Bx w b4 [zIq (i:Int)])(B5:Bx w b5 [zIq (j:Int)]) (X:∀ l J V O,AG w O->Vg prog l J V w (λx=>F x\/C x\/x=b3\/x=b4\/x=b5) Q N->J 0 (λ_=>False) O->w.heap.size<=O.heap.size->l_ g.fover [e_ b,zIq T.root,zIq (i:Int),zIq (j:Int),.func (.yield l) #[] #[]] (Wf J V N (λ_=>False) O) O) : QG True prog g.fOverf [e_ b3,e_ b4,e_ b5] Q N (λx=>F x\/C x\/x=b3\/x=b4\/x=b5) w:=by
 refine Vg.xT λl J V O g1 H hJ hz=>?_;apply g.ok.overf;unfold iA;have Y:=gdr O;have I:=g1.trans Y;obtain⟨c,pl,fr,hT⟩:=h.S_ I;have z:=Y.size;apply Ac (λ_ _=>True);have U:=B3.S_ I;have Z:=B4.S_ I;have a1:=B5.S_ I;apply AP ⟨U.cells 0 _ rfl,λk hk _=>nomatch (show k∈([]:X_) from hk)⟩;apply AP ⟨U.cells 0 _ rfl,λk hk _=>nomatch (show k∈([]:X_) from hk)⟩;apply AJ;rw[AE,AH];apply AP ⟨hT.box.cells 4 _ rfl,λk hk _=>nomatch (show k∈([]:X_) from hk)⟩;apply AP ⟨Z.cells 0 _ rfl,λk hk _=>nomatch (show k∈([]:X_) from hk)⟩;apply AP ⟨a1.cells 0 _ rfl,λk hk _=>nomatch (show k∈([]:X_) from hk)⟩;have a6:=H.hJ 0 (λ_=>False) (λ_=>False) O O.drew hJ Y L_;refine AA (X l J V O.drew I H a6 E) ?_;rintro v w2 ⟨a7,_,hq,a8,_,_,h3⟩;refine⟨⟨hq.1,hq.2.1,hq.2.2,a7,B_⟩,?_⟩;rcases h3 with⟨_,h3⟩|⟨_,h3⟩;grind;grind
def Zu{g:AvN α}:gj g.toAvT:=by
 intro F C W b i j A T h Y hu hb hi Z;apply g.ok.Ax;unfold kX;refine DV rfl λb3 w1 a1 g1 O=>DV rfl λb4 w2 a6 Q U=>?_;refine DV rfl λb5 w3 a7 N V=>?_;have I:=(g1.trans Q).trans N;have X:=h.S_ I;refine⟨[e_ b3,e_ b4,e_ b5],(g.k.Ax T.toL i j).map λx=>.agg (g.cells x).toArray,_,rfl,I,by rw[Nn],λm h1 h2=>⟨g.cells (g.k.Ax T.toL i j)[m],by rw[bM,aBZ],g.Rc.2 rfl⟩,λx hx=>?_,UB X ((O.S_ Q).S_ N) (U.S_ N) V λl J Jx w4 g4 H hJ hz=>?_⟩;have q3:=O.lt (P9 _);have q4:=U.lt (P9 _);have q5:=V.lt (P9 _);grind[Ea.lt];have H':Vg prog l J Jx w3 (λx=>F x\/C x) _ _:=⟨H.hJ,H.VZ,λk It W hJ b hb hr=>H.QI k It W hJ b hb B_,H.qU⟩;have key:=wY X H' T i j 0 (λ_=>False) w4 Y hb hi Z hJ hz L_ B_ (λm hm=>?_);grind;grind
end
end Go.Proofs.YtjdgbcdfgnajlaaGreatDoor
