/- parts of the proof, written short by a program of ours -/
import Derived.Test.YtmdhibffnkhcnaaGreatDoorZTextProperUpto2
set_option linter.unusedSimpArgs false
set_option linter.unusedVariables false
namespace Go.K
open Go
structure Bx (W:World) (b:Nat) (vs:List Value):Prop where
 cells:∀j v,vs[j]?=some v->W.cell? ⟨b,j,none⟩=some v
 live:∀j,j<vs.length->Live W ⟨b,j,none⟩
theorem Bx.mod{M:Nat->Prop}{W W':World}{b:Nat}{vs:List Value}(h:Bx W b vs)(hm:Mod M W W')(i:¬M b):Bx W' b vs:=
 ⟨fun j v o=>hm.cell (h.cells j v o) i,fun j x=>(h.live j x).mod hm i⟩
theorem Bx.grow{W W':World}{b:Nat}{vs:List Value}(h:Bx W b vs)(hm:Grow W W'):Bx W' b vs:=h.mod hm fun h=>h
theorem Bx.Ey{W:World}{b n:Nat}{vs:List Value}{K:Cont}(h:Bx W b vs)(i:vs.length=n)(o:K (.agg vs.toArray) W):Ac n (.pointer (some ⟨b,0,none⟩)) K W:=
 Ah i (fun j u hu=>by rw[AI];exact h.cells j u hu) o
theorem Bx.st{W:World}{b q:Nat}{vs:List Value}{u:Value}{K:World->Prop}(h:Bx W b vs)(i:q<vs.length)(h1:u.oneCell'=true)(j:u.cells=#[u])(o:∀W',Bx W' b (vs.set q u)->Mod (fun x=>x=b) W W'->K W'):BB (.pointer (some ⟨b,q,none⟩)) u K W:=
 E9 h.cells h.live i h1 j fun W' hm hc hl=>o W' ⟨hc,hl⟩ hm
theorem Bx.over{W:World}{b n:Nat}{vs us:List Value}{K:World->Prop}(h:Bx W b vs)(o:us.length=n)(hl:vs.length=n)(h1:∀v∈us,v.oneCell'=true)(y:∀W',Bx W' b us->Mod (fun x=>x=b) W W'->K W'):Ab n (.pointer (some ⟨b,0,none⟩)) (.agg us.toArray) K W:=
 CT o h1 (fun j B=>by rw[AI];exact h.live j (by omega)) fun W' hm hc i=>y W' ⟨fun j v E=>by have:=hc j v E;rwa [AI] at this,fun j B=>i _ (h.live j (by omega))⟩ hm
theorem Bx.new{t:TypeId}{n:Nat}{x vs:List Value}{K:Value->World->Prop}{w:World}(y:vs.length=n)(hl:x.length=n)(h1:∀v∈vs,v.oneCell'=true)(h:∀b i,w.heap.size<=b->Grow w i->Bx i b vs->K (.pointer (some ⟨b,0,none⟩)) i) :
  Al t x (fun t5 B=>Ab n t5 (.agg vs.toArray) (fun w4=>K t5 w4) B) w:=
 BN y hl h1 fun b i hb _ E hc o=>h b i (by omega) E ⟨fun j v I=>by have:=hc j v I;rwa [AI] at this,fun j J=>by have:=o j J;rwa [AI] at this⟩
theorem Bx.zero{t:TypeId}{x:List Value}{K:Cont}{w:World}(h:∀b i,w.heap.size<=b->Grow w i->Bx i b x->K (.pointer (some ⟨b,0,none⟩)) i):Al t x K w:=
 EJ fun b i hb _ y hc o=>h b i (by omega) y ⟨fun j v B=>by have:=hc j v B;rwa [AI] at this,fun j E=>by have:=o j E;rwa [AI] at this⟩
theorem Bx.box{t:TypeId}{vs:List Value}{K:Cont}{w:World}(h:∀b i,w.heap.size<=b->Grow w i->Bx i b vs->K (.pointer (some ⟨b,0,none⟩)) i):Ba t (.agg vs.toArray) K w:=
 Df fun b i hb _ x hc o=>h b i (by omega) x ⟨fun j v y=>by have:=hc j v y;rwa [AI] at this,fun j B=>by have:=o j B;rwa [AI] at this⟩
theorem Ar{P:Program}{ok:Nat->Bool}{f:Value}{args:List Value}{K i:Cont}{w:World}(h:BF P ok f args K w)(hk:∀v w',K v w'->i v w'):BF P ok f args i w:=by
 obtain⟨a,b,c,j,o,h⟩:=h;exact⟨a,b,c,j,o,AA h hk⟩
theorem Bx.lt{W:World}{b:Nat}{vs:List Value}(h:Bx W b vs)(i:0<vs.length):b<W.heap.size:=World.block_lt_of_cell? W _ (h.cells 0 vs[0] (by simp[i]))
end Go.K
namespace Go.Proofs.YtmdhibffnkhcnaaGreatDoor
open Go Go.K Proofs.Tryz
variable {α:Type}{g:AvT α}
theorem AV{r:List Value}{n:Nd α}{E:Nat}(hr:r.length=E)(j:Nat):(r++BP n)[E+j]?=(BP n)[j]?:=by
 rw[List.getElem?_append_right (by omega),hr,Nat.add_sub_cancel_left]
theorem CP{r:List Value}{n:Nd α}{E:Nat}(hr:r.length=E)(j:Nat)(u:Value):(r++BP n).set (E+j) u=r++(BP n).set j u:=by
 rw[List.set_append_right _ _ (by omega),hr,Nat.add_sub_cancel_left]
theorem BC{C:Nat->Prop}{w:World}{r:List Value}{x:α}(n:Nd α)(hr:g.R C w r x):(r++BP n).length=g.E+5:=by rw[List.length_append,g.rlen hr];rfl
theorem Gq{C:Nat->Prop}{w:World}{r:List Value}{x:α}(n:Nd α)(hr:g.R C w r x):∀u∈r++BP n,u.oneCell'=true:=fun u hu=>by
 rcases List.mem_append.1 hu with hu|hu
 .exact g.rone hr u hu
 .exact GO n u hu
theorem HP:g.toAvK.zN.length=g.E+5:=by rw[AvK.zN,List.length_append,g.zlen];rfl
abbrev Yq(g:AvT α)(c:Nat)(i:Int):List Value:=[g.vm,g.vc,g.vd,.pointer (some ⟨c,0,none⟩),.int .i64 i]
structure Y1 (g:AvT α) (F C:Nat->Prop) (W:World) (b c:Nat) (rt:Int) (A:ArS α) (pl fr:Value):Prop where
 box:Bx W b (Yq g c rt)
 ar:Hn g (fun x=>F x/\x≠b) C W c A pl fr
 fb:F b/\¬C b
abbrev Fb(F:Nat->Prop)(b:Nat):Nat->Prop:=fun y=>F y/\y≠b
def DL(g:AvT α)(F C:Nat->Prop)(W:World)(b:Nat)(i:Int)(A:ArS α):Prop:=∃c pl fr,Y1 g F C W b c i A pl fr
theorem Y1.mod{F C M:Nat->Prop}{W W':World}{b c:Nat}{i:Int}{A:ArS α}{pl fr:Value}(h:Y1 g F C W b c i A pl fr)(hm:Mod M W W')(j:∀x,F x\/C x->¬M x):Y1 g F C W' b c i A pl fr:=
 ⟨h.box.mod hm (j b (.inl h.fb.1)),h.ar.mod hm fun x o=>j x (o.imp (fun h=>h.1) fun h=>h),h.fb⟩
theorem DL.mod{F C M:Nat->Prop}{W W':World}{b:Nat}{i:Int}{A:ArS α}(h:DL g F C W b i A)(hm:Mod M W W')(j:∀x,F x\/C x->¬M x):DL g F C W' b i A:=by
 obtain⟨c,pl,fr,h⟩:=h;exact⟨c,pl,fr,h.mod hm j⟩
theorem DL.grow{F C:Nat->Prop}{W W':World}{b:Nat}{i:Int}{A:ArS α}(h:DL g F C W b i A)(hm:Grow W W'):DL g F C W' b i A:=h.mod hm fun _ _ h=>h
theorem DL.lt{F C:Nat->Prop}{W:World}{b:Nat}{i:Int}{A:ArS α}(h:DL g F C W b i A):∀x,F x\/C x->x<W.heap.size:=by
 obtain⟨c,pl,fr,h⟩:=h;intro x j;by_cases e:x=b
 .subst e;exact h.box.lt (Nat.succ_pos _)
 .exact h.ar.lt x (j.imp (fun h=>⟨h,e⟩) fun h=>h)
theorem DL.Hy{F C:Nat->Prop}{W:World}{b:Nat}{i:Int}{A:ArS α}(h:DL g F C W b i A):∀x,F x->¬C x:=by
 obtain⟨c,pl,fr,h⟩:=h;intro x j;by_cases e:x=b
 .subst e;exact h.fb.2
 .exact h.ar.Hy x ⟨j,e⟩
theorem DL.fb{F C:Nat->Prop}{W:World}{b:Nat}{i:Int}{A:ArS α}(h:DL g F C W b i A):F b:=by obtain⟨c,pl,fr,h⟩:=h;exact h.fb.1
theorem DL.ok{F C:Nat->Prop}{W:World}{b:Nat}{i:Int}{A:ArS α}(h:DL g F C W b i A):A.Ok:=by obtain⟨c,pl,fr,h⟩:=h;exact h.ar.ok
theorem P6{F C:Nat->Prop}{W:World}{b i:Nat}{V:Int}{A:ArS α}{n:Nd α}(h:DL g F C W b V A)(X:A.f i=some n) :
  AB prog g.fat [.pointer (some ⟨b,0,none⟩),.int .i64 i] (fun v' w'=>∃r,v'=.agg (r++BP n).toArray/\g.R C w' r n.x/\Grow W w') W:=by
 apply g.ok.at_;unfold dz;refine Bx.zero fun b4 w1 Y J Z=>?_;obtain⟨c,pl,fr,O⟩:=h;have j:=O.mod J fun _ _ h=>h;refine AH ?_;refine Bm (j.box.cells 3 _ rfl) ?_;refine AA (bn j.ar X) ?_;rintro _ w2 ⟨r,rfl,hr,Q⟩;refine BQ ?_;have hl:=BC n hr;have S:=Gq n hr;refine Bx.new hl HP S fun b5 w3 a1 B B5=>?_;refine B5.Ey hl ?_;have E:=(Z.grow Q).grow B;refine E.over hl (HP) S fun w4 o T=>?_;refine o.Ey hl ?_;have I:Grow W w4:=((J.trans Q).trans B).next T fun y U e=>by omega
 exact⟨r,rfl,g.BR (g.BR hr B fun _ _ _ h=>h) T fun y _ U e=>by have:=O.ar.lt y (.inr U);omega,I⟩
theorem DS{F C:Nat->Prop}{W:World}{b i:Nat}{J:Int}{A:ArS α}{n:Nd α}{K:Value->World->Prop}(h:DL g F C W b J A)(O:A.f i=some n)
 (Q:∀r j w',Grow W w'->W.heap.size<=j->Bx w' j (r++BP n)->g.R C w' r n.x->K (.pointer (some ⟨j,0,none⟩)) w') :
  AB prog g.fat [.pointer (some ⟨b,0,none⟩),.int .i64 i] (fun o S=>Al g.tn g.toAvK.zN (fun y w2=>Ab (g.E+5) y o (fun T=>K y T) w2) S) W:=by
 refine AA (P6 h O) ?_;rintro _ w4 ⟨r,rfl,hr,B⟩;refine Bx.new (BC n hr) HP (Gq n hr) fun U V X I Y=>?_;exact Q r U V (B.trans I) (by have:=B.size;omega) Y (g.BR hr I fun _ _ _ h=>h)
theorem EX{f:Nat->Option (Nd α)}{μ:α->Nat×Nat}{t:Tr α}{A:ArS α}(o:A.f=f)(h:Tr.Holds μ f t)(hu:Tr.FQ t):t.ht<=A.ps.length/\t.DD<=A.ps.length:=by
 have i:t.idx ⊆ List.range A.ps.length:=fun x y=>by
  obtain⟨n,j⟩:=h.has μ y;rw[<-o] at j;exact List.mem_range.2 (ArS.Hw j).1
 have h1:=Hl hu i;have B:=(Tr.Qu t).1;have E:=Tr.ZN t;simp only[List.length_range] at h1;omega
def Dg(g:AvT α)(l:List α):Prop:=Tr.sz g.k.μ l<=1099511627776/\Tr.mk g.k.μ l<=1099511627776
theorem Dg.app{l m:List α}(h:Dg g (l++m)):Dg g l/\Dg g m:=by
 obtain⟨h1,i⟩:=h;rw[Tr.CG] at h1;rw[Tr.FD] at i;exact⟨⟨by omega,by omega⟩,by omega,by omega⟩
theorem Dg.cons{x:α}{m:List α}(h:Dg g (x::m)):Dg g m/\(g.k.μ x).1+Tr.sz g.k.μ m<=1099511627776/\(g.k.μ x).2+Tr.mk g.k.μ m<=1099511627776:=by
 obtain⟨h1,i⟩:=h;rw[Tr.BS] at h1;rw[Tr.Ca] at i;exact⟨⟨by omega,by omega⟩,h1,i⟩
theorem Br{F C:Nat->Prop}{W:World}{b:Nat}{I:Int}{A:ArS α}{t:Tr α}(h:DL g F C W b I A)(ht:Tr.Holds g.k.μ A.f t) :
  AB prog g.ftotals [.pointer (some ⟨b,0,none⟩),.int .i64 t.root] (fun v' w'=>v'=.tuple #[.int .i64 t.ht,.int .i64 (Tr.sz g.k.μ t.toL),.int .i64 (Tr.mk g.k.μ t.toL)]/\Grow W w') W:=by
 apply g.ok.totals;unfold Qx;cases t with
 |nil=>
  simp only[Tr.root];rw[Am];refine AE (fun _=>?_) fun e=>(e rfl).elim;exact⟨rfl,Mod.refl _ _⟩
 |node l i x r=>
  simp only[Tr.root];rw[Am];refine AE (fun e=>by omega) fun _=>?_;obtain⟨_,_,J⟩:=ht;refine DS h J fun U O y Q S B hr=>?_;have o:=g.rlen hr;refine CZ (fun w'=>Grow y w') (Mod.drew _ _) ?_;have hc:∀j v w',Grow y w'->(BP (Tr.Dh g.k.μ (.node l i x r) x l.root r.root))[j]?=some v->w'.cell? ⟨O,g.E+j,none⟩=some v:=fun j v w' g' T=>g'.cell (B.cells (g.E+j) v (by rw[AV o];exact T)) fun h=>h;rw[AG,AI];refine As (fun w' g'=>hc 2 _ w' g' rfl) ?_;rw[AG,AI];refine As (fun w' g'=>hc 3 _ w' g' rfl) ?_;rw[AG,AI];refine As (fun w' g'=>hc 4 _ w' g' rfl) ?_;intro w' g';exact⟨rfl,Q.trans g'⟩
theorem IN{o:Addr->Value->Prop}{b:Nat}{r:List Value}{k:Value->Prop}(hl:r.length=g.E)(x:∀j v,r[j]?=some v->o ⟨b,j,none⟩ v)(hk:k (g.toAvK.enc r)):Mi g.toAvK o (.pointer (some ⟨b,0,none⟩)) k:=by
 unfold Mi AvK.enc at *;cases i:g.one with
 |true=>
  have B:=g.E1 i;rw[i] at hk;simp only[cond_true] at hk ⊢;cases r with
  |nil=>simp at hl;omega
  |cons a r=>exact Aa (x 0 a rfl) hk
 |false=>
  rw[i] at hk;simp only[cond_false] at hk ⊢;exact CO hl (fun j v y=>by rw[AI];exact x j v y) hk
theorem ZZ{a b:Nat}{k:Value->Prop}(h:k (.int .i64 (max a b:Nat))):J3 .i64 (.int .i64 a) (.int .i64 b) k:=by
 rw[Gu];have e:(if(b:Int)>(a:Int) then(b:Int) else(a:Int))=((max a b:Nat):Int):=by split<;>omega
 rw[e];exact h
theorem Bz{a b:Nat}{k:Value->Prop}(hb:a+b<=9223372036854775807)(h:k (.int .i64 (a+b:Nat))):AX .i64 (.int .i64 a) (.int .i64 b) k:=by
 rw[AR,wrap64 (by omega) (by omega)];have e:((a:Int)+(b:Int))=((a+b:Nat):Int):=by omega
 rw[e];exact h
theorem Fc{F C:Nat->Prop}{W:World}{b i:Nat}{rt:Int}{A:ArS α}{n m:Nd α}{l r:Tr α}{S:List Value}(h:DL g F C W b rt A)(hs:A.ps.length<=109951162777)(hi:A.f i=some m)(hr:g.R C W S n.x)(el:n.l=l.root)(er:n.r=r.root)
 (hl:Tr.Holds g.k.μ A.f l)(T:Tr.Holds g.k.μ A.f r)(ul:Tr.FQ l)(ur:Tr.FQ r)(hb:Dg g (l.toL++n.x::r.toL)) :
  AB prog g.fset [.pointer (some ⟨b,0,none⟩),.int .i64 i,.agg (S++BP n).toArray] (fun _ w'=>DL g F C w' b rt (A.put i (Tr.Dh g.k.μ (.node l i n.x r) n.x l.root r.root))/\Mod (Fb F b) W w') W:=by
 apply g.ok.set;unfold cQ;have o:=g.rlen hr;have av:=BC n hr;obtain⟨b0,Y⟩:=hb.app;obtain⟨ax,b1,b2⟩:=Y.cons;have b3:=(EX rfl hl ul).1;have b4:=(EX rfl T ur).1;have Z:=hb.1;have a1:=hb.2;rw[Tr.CG,Tr.BS] at Z;rw[Tr.FD,Tr.Ca] at a1;refine Bx.box fun b5 w1 a6 g1 B=>?_;have h1:=h.grow g1;refine Bm (B.cells (g.E+0) _ (by rw[AV o];rfl)) ?_;rw[el];refine AA (Br h1 hl) ?_;rintro _ w3 ⟨rfl,g3⟩;refine Jg ?_;rw[AG,AI];have B3:=B.grow g3;refine AL (B3.cells (g.E+1) _ (by rw[AV o];rfl)) ?_;rw[er];refine AA (Br (h1.grow g3) T) ?_;rintro _ w5 ⟨rfl,g5⟩;refine Jg ?_;have gd:Grow w5 w5.drew:=Mod.drew _ _;have O:=((g1.trans g3).trans g5).trans gd;obtain⟨c,pl,fr,hT⟩:=h;have a7:=hT.mod O fun _ _ h=>h;have B5:=(B3.grow g5).grow gd;refine Ag (fun _ _=>False) ?_;refine AH ?_;rw[AG,AI,AG,AI];refine Aa ⟨a7.box.cells 0 _ rfl,fun _ _ e=>e⟩ ?_;rw[AG,AI];refine IN (r:=S) o (fun j v V=>⟨B5.cells j v (by rw[List.getElem?_append_left (List.getElem?_eq_some_iff.1 V).1];exact V),fun _ _ e=>e⟩) ?_;refine Ar (g.meas (g.BR hr O fun _ _ _ h=>h)) ?_;rintro _ w6 ⟨rfl,g6⟩;refine⟨g6.mono fun _ _ h=>h.elim,?_⟩;refine BQ ?_;refine ZZ ?_;refine Bz (a:=1) (by omega) ?_;refine Bz (by omega) ?_;refine Bz (by omega) ?_;refine Bz (by omega) ?_;refine Bz (by omega) ?_;rw[AG,AI];have B6:=B5.grow g6;refine B6.st (by omega) rfl rfl fun w7 B7 m7=>?_;rw[CP o] at B7;rw[AG,AI];refine B7.st (by rw[List.length_append,o,List.length_set];exact Nat.add_lt_add_left (show 3<5 by decide) _) rfl rfl fun w8 B8 m8=>?_;rw[AG,AI];refine B8.st (by rw[List.length_set,List.length_append,o,List.length_set];exact Nat.add_lt_add_left (show 4<5 by decide) _) rfl rfl fun X B9 m9=>?_;have eB:((S++(BP n).set 2 (.int .i64 ((1+max l.ht r.ht:Nat):Int))).set (g.E+3) (.int .i64 ((Tr.sz g.k.μ l.toL+Tr.sz g.k.μ r.toL+(g.k.μ n.x).1:Nat):Int))).set (g.E+4) (.int .i64 ((Tr.mk g.k.μ l.toL+Tr.mk g.k.μ r.toL+(g.k.μ n.x).2:Nat):Int))=S++BP (Tr.Dh g.k.μ (.node l i n.x r) n.x l.root r.root):=by
  rw[List.set_append_right _ _ (by omega),List.set_append_right _ _ (by omega),o,Nat.add_sub_cancel_left,Nat.add_sub_cancel_left];simp only[BP,Tr.Dh,Tr.ht,Tr.toL,List.set_cons_succ,List.set_cons_zero,el,er,Tr.CG,Tr.BS,Tr.FD,Tr.Ca];rw[show Tr.sz g.k.μ l.toL+Tr.sz g.k.μ r.toL+(g.k.μ n.x).1=Tr.sz g.k.μ l.toL+((g.k.μ n.x).1+Tr.sz g.k.μ r.toL) by omega,show Tr.mk g.k.μ l.toL+Tr.mk g.k.μ r.toL+(g.k.μ n.x).2=Tr.mk g.k.μ l.toL+((g.k.μ n.x).2+Tr.mk g.k.μ r.toL) by omega]
 rw[eB] at B9;have U:Grow X X.drew:=Mod.drew _ _;have ay:W.heap.size<=b5:=a6;have Q:Grow W X.drew:=((((O.trans g6).next m7 fun y hy e=>by omega).next m8 fun y hy e=>by omega).next m9 fun y hy e=>by omega).trans U;have I:=hT.mod Q fun _ _ h=>h;have a8:=B9.grow U;refine Ag (fun _ y=>F y/\y≠b) ?_;refine AH ?_;rw[AG,AI];refine Aa ⟨I.box.cells 3 _ rfl,fun _ _ e=>e.2 rfl⟩ ?_;have ak:¬F b5:=fun e=>by
  have:=DL.lt (g:=g) ⟨c,pl,fr,hT⟩ b5 (.inl e);omega
 refine CO (BC (Tr.Dh g.k.μ (.node l i n.x r) n.x l.root r.root) hr) (fun j v V=>⟨by rw[AI];exact a8.cells j v V,fun _ _ e=>by rw[AI] at e;exact ak e.1⟩) ?_;refine AA (RV I.ar hi (n:=Tr.Dh g.k.μ (.node l i n.x r) n.x l.root r.root) (g.BR hr Q fun _ _ _ h=>h)) ?_;rintro _ al ⟨hA,an⟩;have J:Mod (fun y=>F y/\y≠b) X.drew al:=an.mono fun x _ e=>(I.ar.pF x e).1;refine⟨J,?_⟩;exact⟨⟨c,pl,fr,I.box.mod J fun e=>e.2 rfl,hA,I.fb⟩,(Q.mono fun _ _ h=>h.elim).trans J⟩
theorem LU{F C:Nat->Prop}{W:World}{b i:Nat}{I:Int}{A:ArS α}{n:Nd α}{l r:Tr α}(h:DL g F C W b I A)(Z:A.ps.length<=109951162777)(J:A.f i=some n)(O:n.l=l.root)(Q:n.r=r.root)(hl:Tr.Holds g.k.μ A.f l)(hr:Tr.Holds g.k.μ A.f r)(S:Tr.FQ l)(T:Tr.FQ r) :
  AB prog g.flean [.pointer (some ⟨b,0,none⟩),.int .i64 i] (fun v' w'=>v'=.int .i64 ((l.ht:Int)-(r.ht:Int))/\Grow W w') W:=by
 apply g.ok.lean;unfold ZC;have U:=(EX rfl hl S).1;have V:=(EX rfl hr T).1;refine DS h J fun rc bx w1 o X B x=>?_;have j:=g.rlen x;refine Bm (B.cells (g.E+0) _ (by rw[AV j];rfl)) ?_;rw[O];refine AA (Br (h.grow o) hl) ?_;rintro _ w3 ⟨rfl,y⟩;refine Jg ?_;refine Bm ((B.grow y).cells (g.E+1) _ (by rw[AV j];rfl)) ?_;rw[Q];refine AA (Br ((h.grow o).grow y) hr) ?_;rintro _ w5 ⟨rfl,Y⟩;refine Jg ?_;rw[Av,wrap64 (by omega) (by omega)];exact⟨rfl,(o.trans y).trans Y⟩
end Go.Proofs.YtmdhibffnkhcnaaGreatDoor
namespace Go.Proofs.YtmdhibffnkhcnaaGreatDoor
open Go Go.K Proofs.Tryz
variable {α:Type}{g:AvT α}
structure V1 (g:AvT α) (F C:Nat->Prop) (W w':World) (b:Nat) (rt:Int) (A:ArS α) (L:List α) (I:List Nat) (t':Tr α) (A':ArS α):Prop where
 Dl:DL g F C w' b rt A'
 mod:Mod (Fb F b) W w'
 toL:t'.toL=L
 idx:t'.idx.Perm I
 holds:Tr.Holds g.k.μ A'.f t'
 same:∀j,j∉I->A'.f j=A.f j
 len:A'.ps.length=A.ps.length
theorem DG(A:ArS α)(i:Nat)(n:Nd α):(A.put i n).ps.length=A.ps.length:=by simp[ArS.put]
theorem Dg.perm{l m:List α}(h:Dg g l)(e:m=l):Dg g m:=e▸h
theorem HF{A:ArS α}{i:Nat}{n m:Nd α}(o:A.f i=some m){j:Nat}(h:j≠i):(A.put i n).f j=A.f j:=by rw[ArS.JB o,Tr.DA _ h]
theorem Hf{A:ArS α}{i:Nat}{m:Nd α}{l r:Tr α}{x:α}{μ:α->Nat×Nat}(j:A.f i=some m)(hl:Tr.Holds μ A.f l)(hr:Tr.Holds μ A.f r)(o:i∉l.idx)(y:i∉r.idx):Tr.Holds μ (A.put i (Tr.Dh μ (.node l i x r) x l.root r.root)).f (.node l i x r):=by
 rw[ArS.JB j];exact Tr.Holds.top μ hl hr o y
theorem Pp{F C:Nat->Prop}{W:World}{b i j:Nat}{rt:Int}{A:ArS α}{x y:α}{a c r:Tr α}(h:DL g F C W b rt A)(hs:A.ps.length<=109951162777)(hh:Tr.Holds g.k.μ A.f (.node (.node a j y c) i x r))(hu:Tr.FQ (.node (.node a j y c) i x r))(hb:Dg g (Tr.node (.node a j y c) i x r).toL) :
  AB prog g.flift [.pointer (some ⟨b,0,none⟩),.int .i64 i,.bool true] (fun v' w'=>v'=.int .i64 j/\∃A',V1 g F C W w' b rt A (Tr.node (.node a j y c) i x r).toL (Tr.node (.node a j y c) i x r).idx (.node a j y (.node c i x r)) A') W:=by
 apply g.ok.lift;unfold VJ;obtain⟨⟨ha,hc,hj⟩,hr,hi⟩:=hh;obtain⟨u1,u2,u3,u4,u5⟩:=Tr.Az.1 hu;obtain⟨v1,v2,v3,v4,v5⟩:=Tr.Az.1 u1;have hL:(Tr.node (.node a j y c) i x r).toL=a.toL++y::(c.toL++x::r.toL):=by simp[Tr.toL]
 rw[hL] at hb;have a7:=hb.app.2.cons.1;have U:i≠j:=fun e=>u3 (by simp[Tr.idx,e]);have V:i∉c.idx:=fun e=>u3 (by simp[Tr.idx,e]);have a8:i∉a.idx:=fun e=>u3 (by simp[Tr.idx,e]);have ak:j∉r.idx:=u5 j (by simp[Tr.idx]);refine DS h hi fun rc bx w1 g1 X B o=>?_;have O:=g.rlen o;refine Ao ?_;refine Bm (B.cells (g.E+0) _ (by rw[AV O];rfl)) ?_;have h1:=h.grow g1;refine DS h1 hj fun rd bd w2 g2 ay D Q=>?_;have S:=g.rlen Q;have B2:=B.grow g2;refine Bm (D.cells (g.E+1) _ (by rw[AV S];rfl)) ?_;rw[AG,AI];have nF:∀{z:Nat},W.heap.size<=z->∀x,F x\/C x->x≠z:=fun hz x hx e=>by have:=h.lt x hx;omega
 have s1:=g1.size;refine B2.st (q:=g.E+0) (by rw[BC _ o];omega) rfl rfl fun w3 B3 m3=>?_;have b0:=B.lt (by rw[BC _ o];omega);have D3:=D.mod m3 fun e=>by omega
 rw[CP O] at B3;refine B3.Ey (by rw[List.length_append,List.length_set,O];rfl) ?_;have g3:Grow W w3:=(g1.trans g2).next m3 fun y I e=>by omega
 have h3:=h.grow g3;have Y:=g.BR (g.BR o g2 fun _ _ _ h=>h) m3 fun y _ I e=>nF X y (.inr I) e;refine AA (Fc (l:=c) (r:=r) (n:={ Tr.Dh g.k.μ (.node (.node a j y c) i x r) x (Tr.node a j y c).root r.root with l:=c.root }) h3 hs hi Y rfl rfl hc hr v2 u2 a7) ?_;rintro _ w4 ⟨h4,m4⟩;have D4:=D3.mod m4 fun e=>nF (by omega) bd (.inl e.1) rfl;have J:(A.put i (Tr.Dh g.k.μ (.node c i x r) x c.root r.root)).f=Tr.EI A.f i (some (Tr.Dh g.k.μ (.node c i x r) x c.root r.root)):=ArS.JB hi;rw[AG,AI];refine D4.st (q:=g.E+1) (by rw[BC _ Q];omega) rfl rfl fun w5 D5 m5=>?_;rw[CP S] at D5;refine D5.Ey (by rw[List.length_append,List.length_set,S];rfl) ?_;have h5:=h4.mod m5 fun x hx e=>nF (by omega) x hx e;have Z:=g.BR (g.BR (g.BR Q m3 fun y _ I e=>nF X y (.inr I) e) m4 fun y _ I e=>h.Hy y e.1 I) m5 fun y _ I e=>nF (by omega) y (.inr I) e;have T:(A.put i (Tr.Dh g.k.μ (.node c i x r) x c.root r.root)).f j=some (Tr.Dh g.k.μ (.node a j y c) y a.root c.root):=by rw[J,Tr.DA _ (Ne.symm U)];exact hj
 have a1:Tr.Holds g.k.μ (A.put i (Tr.Dh g.k.μ (.node c i x r) x c.root r.root)).f (.node c i x r):=by rw[J];exact Tr.Holds.top g.k.μ hc hr V u4
 have a6:Tr.Holds g.k.μ (A.put i (Tr.Dh g.k.μ (.node c i x r) x c.root r.root)).f a:=by rw[J];exact ha.out g.k.μ _ a8
 have al:Tr.FQ (.node c i x r):=Tr.Az.2 ⟨v2,u2,V,u4,fun q hq=>u5 q (by simp[Tr.idx,hq])⟩;have an:(A.put i (Tr.Dh g.k.μ (.node c i x r) x c.root r.root)).ps.length<=109951162777:=by rw[DG];exact hs
 refine AA (Fc (l:=a) (r:=.node c i x r) (n:={ Tr.Dh g.k.μ (.node a j y c) y a.root c.root with r:=(i:Int) }) h5 an T Z rfl rfl a6 a1 v1 al hb) ?_;rintro _ w6 ⟨h6,m6⟩;have av:=ArS.JB (n:=Tr.Dh g.k.μ (.node a j y (.node c i x r)) y a.root (Tr.node c i x r).root) T;refine⟨rfl,_,h6,?_,by simp[Tr.toL],(Tr.Sj a c r i j x y).2,?_,fun q hq=>?_,by rw[DG,DG]⟩
 .exact(((g3.mono fun _ _ h=>h.elim).trans m4).next m5 fun y I e=>by omega).trans m6
 .refine Hf (x:=y) T a6 a1 v3 fun e=>?_;simp only[Tr.idx,List.mem_append,List.mem_cons] at e;rcases e with e|e|e
  .exact v4 e
  .exact U e.symm
  .exact ak e
 .simp only[Tr.idx,List.mem_append,List.mem_cons,not_or] at hq;have ax:Tr.EI (A.put i (Tr.Dh g.k.μ (.node c i x r) x c.root r.root)).f j (some (Tr.Dh g.k.μ (.node a j y (.node c i x r)) y a.root (Tr.node c i x r).root)) q=A.f q:=by rw[Tr.DA _ hq.1.2.1,J,Tr.DA _ hq.2.1]
  rw[<-ax];exact congrFun av q
theorem QL{F C:Nat->Prop}{W:World}{b i j:Nat}{rt:Int}{A:ArS α}{x y:α}{a c l:Tr α}(h:DL g F C W b rt A)(hs:A.ps.length<=109951162777)(hh:Tr.Holds g.k.μ A.f (.node l i x (.node a j y c)))(hu:Tr.FQ (.node l i x (.node a j y c)))(hb:Dg g (Tr.node l i x (.node a j y c)).toL) :
  AB prog g.flift [.pointer (some ⟨b,0,none⟩),.int .i64 i,.bool false] (fun v' w'=>v'=.int .i64 j/\∃A',V1 g F C W w' b rt A (Tr.node l i x (.node a j y c)).toL (Tr.node l i x (.node a j y c)).idx (.node (.node l i x a) j y c) A') W:=by
 apply g.ok.lift;unfold VJ;obtain⟨hl,⟨ha,hc,hj⟩,hi⟩:=hh;obtain⟨u1,u2,u3,u4,u5⟩:=Tr.Az.1 hu;obtain⟨v1,v2,v3,v4,v5⟩:=Tr.Az.1 u2;have hL:(Tr.node l i x (.node a j y c)).toL=(l.toL++x::a.toL)++y::c.toL:=by simp[Tr.toL]
 rw[hL] at hb;have a7:=hb.app.1;have U:i≠j:=fun e=>u4 (by simp[Tr.idx,e]);have a8:i∉c.idx:=fun e=>u4 (by simp[Tr.idx,e]);have V:i∉a.idx:=fun e=>u4 (by simp[Tr.idx,e]);have ak:j∉l.idx:=fun e=>u5 j e (by simp[Tr.idx]);refine DS h hi fun rc bx w1 g1 X B o=>?_;have O:=g.rlen o;refine AT ?_;refine Bm (B.cells (g.E+1) _ (by rw[AV O];rfl)) ?_;have h1:=h.grow g1;refine DS h1 hj fun rd bd w2 g2 ay D Q=>?_;have S:=g.rlen Q;have B2:=B.grow g2;refine Bm (D.cells (g.E+0) _ (by rw[AV S];rfl)) ?_;rw[AG,AI];have nF:∀{z:Nat},W.heap.size<=z->∀x,F x\/C x->x≠z:=fun hz x hx e=>by have:=h.lt x hx;omega
 have s1:=g1.size;refine B2.st (q:=g.E+1) (by rw[BC _ o];omega) rfl rfl fun w3 B3 m3=>?_;have b0:=B.lt (by rw[BC _ o];omega);have D3:=D.mod m3 fun e=>by omega
 rw[CP O] at B3;refine B3.Ey (by rw[List.length_append,List.length_set,O];rfl) ?_;have g3:Grow W w3:=(g1.trans g2).next m3 fun y I e=>by omega
 have h3:=h.grow g3;have Y:=g.BR (g.BR o g2 fun _ _ _ h=>h) m3 fun y _ I e=>nF X y (.inr I) e;refine AA (Fc (l:=l) (r:=a) (n:={ Tr.Dh g.k.μ (.node l i x (.node a j y c)) x l.root (Tr.node a j y c).root with r:=a.root }) h3 hs hi Y rfl rfl hl ha u1 v1 a7) ?_;rintro _ w4 ⟨h4,m4⟩;have D4:=D3.mod m4 fun e=>nF (by omega) bd (.inl e.1) rfl;have J:(A.put i (Tr.Dh g.k.μ (.node l i x a) x l.root a.root)).f=Tr.EI A.f i (some (Tr.Dh g.k.μ (.node l i x a) x l.root a.root)):=ArS.JB hi;rw[AG,AI];refine D4.st (q:=g.E+0) (by rw[BC _ Q];omega) rfl rfl fun w5 D5 m5=>?_;rw[CP S] at D5;refine D5.Ey (by rw[List.length_append,List.length_set,S];rfl) ?_;have h5:=h4.mod m5 fun x hx e=>nF (by omega) x hx e;have Z:=g.BR (g.BR (g.BR Q m3 fun y _ I e=>nF X y (.inr I) e) m4 fun y _ I e=>h.Hy y e.1 I) m5 fun y _ I e=>nF (by omega) y (.inr I) e;have T:(A.put i (Tr.Dh g.k.μ (.node l i x a) x l.root a.root)).f j=some (Tr.Dh g.k.μ (.node a j y c) y a.root c.root):=by rw[J,Tr.DA _ (Ne.symm U)];exact hj
 have a1:Tr.Holds g.k.μ (A.put i (Tr.Dh g.k.μ (.node l i x a) x l.root a.root)).f (.node l i x a):=by rw[J];exact Tr.Holds.top g.k.μ hl ha u3 V
 have a6:Tr.Holds g.k.μ (A.put i (Tr.Dh g.k.μ (.node l i x a) x l.root a.root)).f c:=by rw[J];exact hc.out g.k.μ _ a8
 have al:Tr.FQ (.node l i x a):=Tr.Az.2 ⟨u1,v1,u3,V,fun q hq e=>u5 q hq (by simp[Tr.idx,e])⟩;have an:(A.put i (Tr.Dh g.k.μ (.node l i x a) x l.root a.root)).ps.length<=109951162777:=by rw[DG];exact hs
 refine AA (Fc (l:=.node l i x a) (r:=c) (n:={ Tr.Dh g.k.μ (.node a j y c) y a.root c.root with l:=(i:Int) }) h5 an T Z rfl rfl a1 a6 al v2 hb) ?_;rintro _ w6 ⟨h6,m6⟩;have av:=ArS.JB (n:=Tr.Dh g.k.μ (.node (.node l i x a) j y c) y (Tr.node l i x a).root c.root) T;refine⟨rfl,_,h6,?_,by simp[Tr.toL],(Tr.U1 l a c j i y x).2,?_,fun q hq=>?_,by rw[DG,DG]⟩
 .exact(((g3.mono fun _ _ h=>h.elim).trans m4).next m5 fun y I e=>by omega).trans m6
 .refine Hf (x:=y) T a1 a6 (fun e=>?_) v4;simp only[Tr.idx,List.mem_append,List.mem_cons] at e;rcases e with e|e|e
  .exact ak e
  .exact U e.symm
  .exact v3 e
 .simp only[Tr.idx,List.mem_append,List.mem_cons,not_or] at hq;have ax:Tr.EI (A.put i (Tr.Dh g.k.μ (.node l i x a) x l.root a.root)).f j (some (Tr.Dh g.k.μ (.node (.node l i x a) j y c) y (Tr.node l i x a).root c.root)) q=A.f q:=by rw[Tr.DA _ hq.2.2.2.1,J,Tr.DA _ hq.2.1]
  rw[<-ax];exact congrFun av q
theorem Cj{f i:Nat->Option (Nd α)}{μ:α->Nat×Nat}{t:Tr α}{I:List Nat}(h:Tr.Holds μ f t)(o:∀j,j∉I->i j=f j)(x:∀j∈t.idx,j∉I):Tr.Holds μ i t:=h.frame μ fun j y=>o j (x j y)
theorem Fq{F C:Nat->Prop}{W:World}{b i:Nat}{rt:Int}{A:ArS α}{n m:Nd α}{l r:Tr α}{rc:List Value}(h:DL g F C W b rt A)(hs:A.ps.length<=109951162777)(hi:A.f i=some m)(U:g.R C W rc n.x)(el:n.l=l.root)(er:n.r=r.root)
 (hl:Tr.Holds g.k.μ A.f l)(hr:Tr.Holds g.k.μ A.f r)(hu:Tr.FQ (.node l i n.x r))(hb:Dg g (Tr.node l i n.x r).toL) :
  AB prog g.fbalance [.pointer (some ⟨b,0,none⟩),.int .i64 i,.agg (rc++BP n).toArray] (fun v' w'=>∃t' A',v'=.int .i64 t'.root/\V1 g F C W w' b rt A (Tr.node l i n.x r).toL (Tr.node l i n.x r).idx t' A') W:=by
 apply g.ok.balance;unfold Nt;obtain⟨u1,u2,u3,u4,u5⟩:=Tr.Az.1 hu;have O:=g.rlen U;have nF:∀{z:Nat},W.heap.size<=z->∀x,F x\/C x->x≠z:=fun hz x hx e=>by have:=h.lt x hx;omega
 refine Bx.box fun bx w1 Q g1 B=>?_;refine B.Ey (BC _ U) ?_;have h1:=h.grow g1;refine AA (Fc (l:=l) (r:=r) h1 hs hi (g.BR U g1 fun _ _ _ h=>h) el er hl hr u1 u2 hb) ?_;rintro _ w3 ⟨h3,m3⟩;have b5:=g.BR (g.BR U g1 fun _ _ _ h=>h) m3 fun y _ X e=>h.Hy y e.1 X;have B3:=B.mod m3 fun e=>nF Q bx (.inl e.1) rfl;have I:(A.put i (Tr.Dh g.k.μ (.node l i n.x r) n.x l.root r.root)).ps.length<=109951162777:=by rw[DG];exact hs
 have hT:=Hf (x:=n.x) hi hl hr u3 u4;obtain⟨Y,Z,an⟩:=id hT;have V:∀j,j∉(Tr.node l i n.x r).idx->(A.put i (Tr.Dh g.k.μ (.node l i n.x r) n.x l.root r.root)).f j=A.f j:=fun j hj=>HF hi fun e=>hj (by simp[Tr.idx,e]);have J:=DG A i (Tr.Dh g.k.μ (.node l i n.x r) n.x l.root r.root);have b8:Mod (Fb F b) W w3:=(g1.mono fun _ _ h=>h.elim).trans m3;generalize A.put i (Tr.Dh g.k.μ (.node l i n.x r) n.x l.root r.root)=A3 at h3 I hT Y Z an V J;refine AA (LU h3 I an rfl rfl Y Z u1 u2) ?_;rintro _ w4 ⟨rfl,g4⟩;have h4:=h3.grow g4;have B4:=B3.grow g4;have av:=g.BR b5 g4 fun _ _ _ h=>h;have ax:Mod (Fb F b) W w4:=b8.trans (g4.mono fun _ _ h=>h.elim);rw[BJ];refine AE (fun b9=>?_) fun bl=>?_
 .obtain⟨a,j,y,c,rfl⟩:=Tr.Jj (t:=l) (by omega);refine Bm (B4.cells (g.E+0) _ (by rw[AV O];rfl)) ?_;rw[el];obtain⟨ha,hc,hj⟩:=id Y;obtain⟨v1,v2,v3,v4,v5⟩:=Tr.Az.1 u1;refine AA (LU h4 I hj rfl rfl ha hc v1 v2) ?_;rintro _ w6 ⟨rfl,g6⟩;have h6:=h4.grow g6;have B6:=B4.grow g6;have a1:Mod (Fb F b) W w6:=ax.trans (g6.mono fun _ _ h=>h.elim);refine Hq (fun ba=>?_) fun bc=>?_
  .obtain⟨p,q,z,s,rfl⟩:=Tr.Jj (t:=c) (by omega);refine Bm (B6.cells (g.E+0) _ (by rw[AV O];rfl)) ?_;rw[el];refine AA (QL h6 I Y u1 hb.app.1) ?_;rintro _ w8 ⟨rfl,A8,S8⟩;have B8:=B6.mod S8.mod fun e=>nF Q bx (.inl e.1) rfl;rw[AG,AI];refine B8.st (q:=g.E+0) (by rw[BC _ U];omega) rfl rfl fun w9 B9 m9=>?_;rw[CP O] at B9;refine B9.Ey (by rw[List.length_append,List.length_set,O];rfl) ?_;have h9:=S8.Dl.mod m9 fun x hx e=>nF Q x hx e;have a6:=g.BR (g.BR (g.BR av g6 fun _ _ _ h=>h) S8.mod fun y _ X e=>h.Hy y e.1 X) m9 fun y _ X e=>nF Q y (.inr X) e;have S:A8.f i=some _:=(S8.same i u3).trans an;have b6:Tr.Holds g.k.μ A8.f r:=Cj Z S8.same fun j' ay e=>u5 j' e ay;have a7:A8.ps.length<=109951162777:=by rw[S8.len];exact I
   have a8:Tr.FQ (Tr.node (.node (.node a j y p) q z s) i n.x r):=by
    have:(Tr.node (.node (.node a j y p) q z s) i n.x r).idx.Perm (Tr.node (.node a j y (.node p q z s)) i n.x r).idx:=S8.idx.append (List.Perm.refl _);exact this.nodup_iff.2 hu
   obtain⟨x1,x2,x3,x4,x5⟩:=Tr.Az.1 a8;have ak:Dg g (Tr.node (.node (.node a j y p) q z s) i n.x r).toL:=hb.perm (by rw[Tr.toL,S8.toL];rfl);refine AA (Fc (l:=.node (.node a j y p) q z s) (r:=r) (n:={ n with l:=(q:Int) }) h9 a7 S a6 rfl er S8.holds b6 x1 x2 ak) ?_;rintro _ bd ⟨b0,b1⟩;have al:(A8.put i (Tr.Dh g.k.μ (.node (.node (.node a j y p) q z s) i n.x r) n.x (Tr.node (.node a j y p) q z s).root r.root)).ps.length<=109951162777:=by rw[DG];exact a7
   refine AA (Pp b0 al (Hf S S8.holds b6 x3 x4) a8 ak) ?_;rintro _ b2 ⟨rfl,T,S12⟩;have o:(Tr.node (.node (.node a j y p) q z s) i n.x r).idx.Perm (Tr.node (.node a j y (.node p q z s)) i n.x r).idx:=S8.idx.append (List.Perm.refl _);refine⟨_,T,rfl,S12.Dl,?_,S12.toL.trans (by rw[Tr.toL,S8.toL];rfl),S12.idx.trans o,S12.holds,fun t ht=>?_,by rw[S12.len,DG,S8.len,J]⟩
   .exact(((a1.trans S8.mod).next m9 fun y X e=>by omega).trans b1).trans S12.mod
   .have b3:t∉(Tr.node (.node (.node a j y p) q z s) i n.x r).idx:=fun e=>ht (o.mem_iff.1 e);have b4:t∉(Tr.node a j y (.node p q z s)).idx:=fun e=>ht (by rw[Tr.idx];exact List.mem_append_left _ e);exact(((S12.same t b3).trans (HF S fun e=>ht (by simp[Tr.idx,e]))).trans (S8.same t b4)).trans (V t ht)
  .refine AA (Pp h6 I hT hu hb) ?_;rintro _ b2 ⟨rfl,T,S12⟩;exact⟨_,T,rfl,S12.Dl,a1.trans S12.mod,S12.toL,S12.idx,S12.holds,fun t ht=>(S12.same t ht).trans (V t ht),by rw[S12.len,J]⟩
 refine Hq (fun ba=>?_) fun bc=>?_
 .obtain⟨a,j,y,c,rfl⟩:=Tr.Jj (t:=r) (by omega);refine Bm (B4.cells (g.E+1) _ (by rw[AV O];rfl)) ?_;rw[er];obtain⟨ha,hc,hj⟩:=id Z;obtain⟨v1,v2,v3,v4,v5⟩:=Tr.Az.1 u2;refine AA (LU h4 I hj rfl rfl ha hc v1 v2) ?_;rintro _ w6 ⟨rfl,g6⟩;have h6:=h4.grow g6;have B6:=B4.grow g6;have a1:Mod (Fb F b) W w6:=ax.trans (g6.mono fun _ _ h=>h.elim);rw[BJ];refine AE (fun b9=>?_) fun bk=>?_
  .obtain⟨p,q,z,s,rfl⟩:=Tr.Jj (t:=a) (by omega);refine Bm (B6.cells (g.E+1) _ (by rw[AV O];rfl)) ?_;rw[er];refine AA (Pp h6 I Z u2 hb.app.2.cons.1) ?_;rintro _ w8 ⟨rfl,A8,S8⟩;have B8:=B6.mod S8.mod fun e=>nF Q bx (.inl e.1) rfl;rw[AG,AI];refine B8.st (q:=g.E+1) (by rw[BC _ U];omega) rfl rfl fun w9 B9 m9=>?_;rw[CP O] at B9;refine B9.Ey (by rw[List.length_append,List.length_set,O];rfl) ?_;have h9:=S8.Dl.mod m9 fun x hx e=>nF Q x hx e;have a6:=g.BR (g.BR (g.BR av g6 fun _ _ _ h=>h) S8.mod fun y _ X e=>h.Hy y e.1 X) m9 fun y _ X e=>nF Q y (.inr X) e;have S:A8.f i=some _:=(S8.same i u4).trans an;have b7:Tr.Holds g.k.μ A8.f l:=Cj Y S8.same fun j' ay e=>u5 j' ay e;have a7:A8.ps.length<=109951162777:=by rw[S8.len];exact I
   have o:(Tr.node l i n.x (.node p q z (.node s j y c))).idx.Perm (Tr.node l i n.x (.node (.node p q z s) j y c)).idx:=(List.Perm.refl _).append (S8.idx.cons i);have a8:Tr.FQ (Tr.node l i n.x (.node p q z (.node s j y c))):=o.nodup_iff.2 hu;obtain⟨x1,x2,x3,x4,x5⟩:=Tr.Az.1 a8;have ak:Dg g (Tr.node l i n.x (.node p q z (.node s j y c))).toL:=hb.perm (by rw[Tr.toL,S8.toL];rfl);refine AA (Fc (l:=l) (r:=.node p q z (.node s j y c)) (n:={ n with r:=(q:Int) }) h9 a7 S a6 el rfl b7 S8.holds x1 x2 ak) ?_;rintro _ bd ⟨b0,b1⟩;have al:(A8.put i (Tr.Dh g.k.μ (.node l i n.x (.node p q z (.node s j y c))) n.x l.root (Tr.node p q z (.node s j y c)).root)).ps.length<=109951162777:=by rw[DG];exact a7
   refine AA (QL b0 al (Hf S b7 S8.holds x3 x4) a8 ak) ?_;rintro _ b2 ⟨rfl,T,S12⟩;refine⟨_,T,rfl,S12.Dl,?_,S12.toL.trans (by rw[Tr.toL,S8.toL];rfl),S12.idx.trans o,S12.holds,fun t ht=>?_,by rw[S12.len,DG,S8.len,J]⟩
   .exact(((a1.trans S8.mod).next m9 fun y X e=>by omega).trans b1).trans S12.mod
   .have b3:t∉(Tr.node l i n.x (.node p q z (.node s j y c))).idx:=fun e=>ht (o.mem_iff.1 e);have b4:t∉(Tr.node (.node p q z s) j y c).idx:=fun e=>ht (by rw[Tr.idx];exact List.mem_append_right _ (List.mem_cons_of_mem _ e));exact(((S12.same t b3).trans (HF S fun e=>ht (by simp[Tr.idx,e]))).trans (S8.same t b4)).trans (V t ht)
  .refine AA (QL h6 I hT hu hb) ?_;rintro _ b2 ⟨rfl,T,S12⟩;exact⟨_,T,rfl,S12.Dl,a1.trans S12.mod,S12.toL,S12.idx,S12.holds,fun t ht=>(S12.same t ht).trans (V t ht),by rw[S12.len,J]⟩
 .exact⟨.node l i n.x r,A3,rfl,h4,ax,rfl,List.Perm.refl _,hT,V,J⟩
end Go.Proofs.YtmdhibffnkhcnaaGreatDoor
namespace Go.Proofs.YtmdhibffnkhcnaaGreatDoor
open Go Go.K Proofs.Tryz
variable {α:Type}{g:AvT α}
theorem Oe{F C:Nat->Prop}{b i:Nat}{rt:Int}{W:World}{A:ArS α}{n:Nd α}{l r:Tr α}
 (IL:∀ Y X xl T,l=Tr.node Y X xl T->T.DD < l.DD->∀ {W1:World} {S:ArS α},DL g F C W1 b rt S->S.ps.length<=109951162777->S.f i=some n->Tr.Holds g.k.μ S.f T->Tr.Holds g.k.μ S.f r->Tr.FQ (.node T i n.x r)->Dg g (Tr.node T i n.x r).toL->
   AB prog g.fjoin [.pointer (some ⟨b,0,none⟩),.int .i64 T.root,.int .i64 i,.int .i64 r.root] (fun v' w'=>∃ t' A',v'=.int .i64 t'.root/\V1 g F C W1 w' b rt S (Tr.node T i n.x r).toL (Tr.node T i n.x r).idx t' A') W1)
 (IR:∀ Q U xr V,r=Tr.node Q U xr V->Q.DD < r.DD->∀ {W1:World} {S:ArS α},DL g F C W1 b rt S->S.ps.length<=109951162777->S.f i=some n->Tr.Holds g.k.μ S.f l->Tr.Holds g.k.μ S.f Q->Tr.FQ (.node l i n.x Q)->Dg g (Tr.node l i n.x Q).toL->
   AB prog g.fjoin [.pointer (some ⟨b,0,none⟩),.int .i64 l.root,.int .i64 i,.int .i64 Q.root] (fun v' w'=>∃ t' A',v'=.int .i64 t'.root/\V1 g F C W1 w' b rt S (Tr.node l i n.x Q).toL (Tr.node l i n.x Q).idx t' A') W1)
 (h:DL g F C W b rt A)(hs:A.ps.length<=109951162777)(hi:A.f i=some n)(hl:Tr.Holds g.k.μ A.f l)(hr:Tr.Holds g.k.μ A.f r)(hu:Tr.FQ (.node l i n.x r))(hb:Dg g (Tr.node l i n.x r).toL) :
  AB prog g.fjoin [.pointer (some ⟨b,0,none⟩),.int .i64 l.root,.int .i64 i,.int .i64 r.root] (fun v' w'=>∃t' A',v'=.int .i64 t'.root/\V1 g F C W w' b rt A (Tr.node l i n.x r).toL (Tr.node l i n.x r).idx t' A') W:=by
 apply g.ok.join;unfold Yx;obtain⟨u1,u2,u3,u4,u5⟩:=Tr.Az.1 hu;have bc:=(EX rfl hl u1).1;have bd:=(EX rfl hr u2).1;have nF:∀{z:Nat},W.heap.size<=z->∀x,F x\/C x->x≠z:=fun hz x hx e=>by have:=h.lt x hx;omega
 refine AA (Br h hl) ?_;rintro _ w1 ⟨rfl,g1⟩;refine Jg ?_;refine AA (Br (h.grow g1) hr) ?_;rintro _ w2 ⟨rfl,g2⟩;refine Jg ?_;have a1:=g1.trans g2;have h2:=h.grow a1;have bk:=a1.size;refine Bz (b:=1) (by omega) ?_;rw[BJ];refine AE (fun b5=>?_) fun bl=>?_
 .obtain⟨Y,X,xl,T,rfl⟩:=Tr.Jj (t:=l) (by omega);obtain⟨b6,b7,ak⟩:=id hl;obtain⟨v1,v2,v3,v4,v5⟩:=Tr.Az.1 u1;refine DS h2 ak fun rc bx w3 g3 al B J=>?_;have O:=g.rlen J;have h3:=h2.grow g3;refine Bm (B.cells (g.E+1) _ (by rw[AV O];rfl)) ?_;have an:Tr.FQ (.node T i n.x r):=Tr.Az.2 ⟨v2,u2,fun e=>u3 (by simp[Tr.idx,e]),u4,fun q j=>u5 q (by simp[Tr.idx,j])⟩;have hL:(Tr.node (.node Y X xl T) i n.x r).toL=Y.toL++xl::(T.toL++n.x::r.toL):=by simp[Tr.toL]
  have a6:=hb;rw[hL] at a6;refine AA (IL Y X xl T rfl (by simp only[Tr.DD];omega) h3 hs hi b7 hr an a6.app.2.cons.1) ?_;rintro _ w7 ⟨t1,S,rfl,I⟩;have o:W.heap.size<=bx:=by omega
  have B7:=B.mod I.mod fun e=>nF o bx (.inl e.1) rfl;rw[AG,AI];refine B7.st (q:=g.E+1) (by rw[BC _ J];omega) rfl rfl fun w8 B8 m8=>?_;rw[CP O] at B8;refine B8.Ey (by rw[List.length_append,List.length_set,O];rfl) ?_;have h8:=I.Dl.mod m8 fun x hx e=>nF o x hx e;have a7:=g.BR (g.BR J I.mod fun y _ Z e=>h.Hy y e.1 Z) m8 fun y _ Z e=>nF o y (.inr Z) e;have nI:∀q∈X::Y.idx,q∉(Tr.node T i n.x r).idx:=fun q j e=>by
   simp only[Tr.idx,List.mem_append,List.mem_cons] at e j;rcases j with rfl|j
   .rcases e with e|e|e
    .exact v4 e
    .exact u3 (by simp[Tr.idx,e])
    .exact u5 q (by simp[Tr.idx]) e
   .rcases e with e|e|e
    .exact v5 q j e
    .exact u3 (by simp[Tr.idx,<-e,j])
    .exact u5 q (by simp[Tr.idx,j]) e
  have av:S.f X=some _:=(I.same X (nI X (by simp))).trans ak;have ax:Tr.Holds g.k.μ S.f Y:=Cj b6 I.same fun q j=>nI q (by simp[j]);have a8:Tr.FQ (.node Y X xl t1):=by
   refine Tr.Az.2 ⟨v1,I.idx.nodup_iff.2 an,v3,fun e=>nI X (by simp) (I.idx.mem_iff.1 e),fun q j e=>nI q (by simp[j]) (I.idx.mem_iff.1 e)⟩
  have perm:(Tr.node Y X xl t1).idx.Perm (Tr.node (.node Y X xl T) i n.x r).idx:=by
   simp only[Tr.idx,List.append_assoc,List.cons_append];exact(List.Perm.refl _).append (I.idx.cons X)
  have eL:(Tr.node Y X xl t1).toL=(Tr.node (.node Y X xl T) i n.x r).toL:=by simp only[Tr.toL,I.toL,List.append_assoc,List.cons_append]
  refine AA (Fq (l:=Y) (r:=t1) (n:={ Tr.Dh g.k.μ (.node Y X xl T) xl Y.root T.root with r:=t1.root }) h8 (by rw[I.len];exact hs) av a7 rfl rfl ax I.holds a8 (hb.perm eL)) ?_;rintro _ b8 ⟨t2,A2,rfl,S2⟩;refine⟨t2,A2,rfl,S2.Dl,?_,S2.toL.trans eL,S2.idx.trans perm,S2.holds,fun q j=>?_,by rw[S2.len,I.len]⟩
  .exact((((a1.trans g3).mono fun _ _ h=>h.elim).trans I.mod).next m8 fun y Z e=>by omega).trans S2.mod
  .refine(S2.same q fun e=>j (perm.mem_iff.1 e)).trans (I.same q fun e=>j ?_);simp only[Tr.idx,List.mem_append,List.mem_cons] at e ⊢;rcases e with e|e|e
   .exact .inl (.inr (.inr e))
   .exact .inr (.inl e)
   .exact .inr (.inr e)
 refine Bz (b:=1) (by omega) ?_;rw[BJ];refine AE (fun b5=>?_) fun ba=>?_
 .obtain⟨Q,U,xr,V,rfl⟩:=Tr.Jj (t:=r) (by omega);obtain⟨ay,b9,b0⟩:=id hr;obtain⟨v1,v2,v3,v4,v5⟩:=Tr.Az.1 u2;refine DS h2 b0 fun rc bx w3 g3 al B J=>?_;have O:=g.rlen J;have h3:=h2.grow g3;refine Bm (B.cells (g.E+0) _ (by rw[AV O];rfl)) ?_;have b1:Tr.FQ (.node l i n.x Q):=Tr.Az.2 ⟨u1,v1,u3,fun e=>u4 (by simp[Tr.idx,e]),fun q j e=>u5 q j (by simp[Tr.idx,e])⟩;have hL:(Tr.node l i n.x (.node Q U xr V)).toL=(l.toL++n.x::Q.toL)++xr::V.toL:=by simp[Tr.toL]
  have a6:=hb;rw[hL] at a6;refine AA (IR Q U xr V rfl (by simp only[Tr.DD];omega) h3 hs hi hl ay b1 a6.app.1) ?_;rintro _ w7 ⟨t1,S,rfl,I⟩;have o:W.heap.size<=bx:=by omega
  have B7:=B.mod I.mod fun e=>nF o bx (.inl e.1) rfl;rw[AG,AI];refine B7.st (q:=g.E+0) (by rw[BC _ J];omega) rfl rfl fun w8 B8 m8=>?_;rw[CP O] at B8;refine B8.Ey (by rw[List.length_append,List.length_set,O];rfl) ?_;have h8:=I.Dl.mod m8 fun x hx e=>nF o x hx e;have a7:=g.BR (g.BR J I.mod fun y _ Z e=>h.Hy y e.1 Z) m8 fun y _ Z e=>nF o y (.inr Z) e;have nI:∀q∈U::V.idx,q∉(Tr.node l i n.x Q).idx:=fun q j e=>by
   simp only[Tr.idx,List.mem_append,List.mem_cons] at e j;rcases j with rfl|j
   .rcases e with e|e|e
    .exact u5 q e (by simp[Tr.idx])
    .exact u4 (by simp[Tr.idx,<-e])
    .exact v3 e
   .rcases e with e|e|e
    .exact u5 q e (by simp[Tr.idx,j])
    .exact u4 (by simp[Tr.idx,<-e,j])
    .exact v5 q e j
  have b2:S.f U=some _:=(I.same U (nI U (by simp))).trans b0;have b3:Tr.Holds g.k.μ S.f V:=Cj b9 I.same fun q j=>nI q (by simp[j]);have a8:Tr.FQ (.node t1 U xr V):=by
   refine Tr.Az.2 ⟨I.idx.nodup_iff.2 b1,v2,fun e=>nI U (by simp) (I.idx.mem_iff.1 e),v4,fun q j e=>nI q (by simp[e]) (I.idx.mem_iff.1 j)⟩
  have perm:(Tr.node t1 U xr V).idx.Perm (Tr.node l i n.x (.node Q U xr V)).idx:=by
   have:(Tr.node l i n.x (.node Q U xr V)).idx=(Tr.node l i n.x Q).idx++U::V.idx:=by simp[Tr.idx]
   rw[this];exact I.idx.append (List.Perm.refl _)
  have eL:(Tr.node t1 U xr V).toL=(Tr.node l i n.x (.node Q U xr V)).toL:=by rw[hL];simp only[Tr.toL,I.toL]
  refine AA (Fq (l:=t1) (r:=V) (n:={ Tr.Dh g.k.μ (.node Q U xr V) xr Q.root V.root with l:=t1.root }) h8 (by rw[I.len];exact hs) b2 a7 rfl rfl I.holds b3 a8 (hb.perm eL)) ?_;rintro _ b8 ⟨t2,A2,rfl,S2⟩;refine⟨t2,A2,rfl,S2.Dl,?_,S2.toL.trans eL,S2.idx.trans perm,S2.holds,fun q j=>?_,by rw[S2.len,I.len]⟩
  .exact((((a1.trans g3).mono fun _ _ h=>h.elim).trans I.mod).next m8 fun y Z e=>by omega).trans S2.mod
  .refine(S2.same q fun e=>j (perm.mem_iff.1 e)).trans (I.same q fun e=>j ?_);simp only[Tr.idx,List.mem_append,List.mem_cons] at e ⊢;rcases e with e|e|e
   .exact .inl e
   .exact .inr (.inl e)
   .exact .inr (.inr (.inl e))
 .refine DS h2 hi fun rc bx w3 g3 al B J=>?_;have O:=g.rlen J;have o:W.heap.size<=bx:=by omega
  rw[AG,AI];refine B.st (q:=g.E+0) (by rw[BC _ J];omega) rfl rfl fun w4 B4 m4=>?_;rw[CP O] at B4;rw[AG,AI];refine B4.st (q:=g.E+1) (by rw[List.length_append,List.length_set,O];exact Nat.add_lt_add_left (show 1<5 by decide) _) rfl rfl fun w5 B5 m5=>?_;have eN:(rc++(BP n).set 0 (.int .i64 l.root)).set (g.E+1) (.int .i64 r.root)=rc++BP { n with l:=l.root,r:=r.root }:=by
   rw[List.set_append_right _ _ (by omega),O,Nat.add_sub_cancel_left];rfl
  rw[eN] at B5;refine B5.Ey (by rw[BC _ J]) ?_;have g5:Grow W w5:=(((a1.trans g3).next m4 fun y Z e=>by omega)).next m5 fun y Z e=>by omega
  have b4:=g.BR (g.BR J m4 fun y _ Z e=>nF o y (.inr Z) e) m5 fun y _ Z e=>nF o y (.inr Z) e;refine AA (Fc (l:=l) (r:=r) (n:={ n with l:=l.root,r:=r.root }) (h.grow g5) hs hi b4 rfl rfl hl hr u1 u2 hb) ?_;rintro _ w6 ⟨h6,m6⟩;exact⟨.node l i n.x r,_,rfl,h6,(g5.mono fun _ _ h=>h.elim).trans m6,rfl,List.Perm.refl _,Hf (x:=n.x) hi hl hr u3 u4,fun q j=>HF hi fun e=>j (by simp[Tr.idx,e]),DG _ _ _⟩
structure Ends (g:AvT α) (F C:Nat->Prop) (W w':World) (b:Nat) (rt:Int) (A:ArS α) (t:Tr α) (t':Tr α) (j:Nat) (m:Nd α) (A':ArS α):Prop where
 Dl:DL g F C w' b rt A'
 mod:Mod (Fb F b) W w'
 idx:(j::t'.idx).Perm t.idx
 holds:Tr.Holds g.k.μ A'.f t'
 PZ:A'.f j=some m
 same:∀q,q∉t.idx->A'.f q=A.f q
 len:A'.ps.length=A.ps.length
theorem Ends.G7{F C:Nat->Prop}{W w':World}{b:Nat}{i:Int}{A o:ArS α}{t t':Tr α}{j:Nat}{m:Nd α}(h:Ends g F C W w' b i A t t' j m o)(hu:Tr.FQ t):Tr.FQ t'/\j∉t'.idx:=by
 have:=h.idx.nodup_iff.2 hu;rw[List.nodup_cons] at this;exact⟨this.2,this.1⟩
theorem TE{F C:Nat->Prop}{b:Nat}{rt:Int}:∀(t:Tr α) {W:World} {A:ArS α},t≠.nil->DL g F C W b rt A->A.ps.length<=109951162777->Tr.Holds g.k.μ A.f t->Tr.FQ t->Dg g t.toL->
  AB prog g.ffirst [.pointer (some ⟨b,0,none⟩),.int .i64 t.root] (fun v' w'=>∃(t':Tr α) (j:Nat) (m:Nd α) (A':ArS α),v'=.tuple #[.int .i64 t'.root,.int .i64 j]/\Ends g F C W w' b rt A t t' j m A'/\t.toL=m.x::t'.toL) W:=by
 intro t;induction t with
 |nil=>intro W A hn;exact(hn rfl).elim
 |node l i x r X _=>
  intro W A _ h hs hh hu hb;obtain⟨hl,hr,Y⟩:=id hh;obtain⟨Z,u2,u3,u4,u5⟩:=Tr.Az.1 hu;apply g.ok.first;unfold US;have nF:∀{z:Nat},W.heap.size<=z->∀x,F x\/C x->x≠z:=fun hz x hx e=>by have:=h.lt x hx;omega
  refine DS h Y fun rc bx w1 g1 Q B S=>?_;have J:=g.rlen S;have h1:=h.grow g1;refine Bm (B.cells (g.E+0) _ (by rw[AV J];rfl)) ?_;rw[Am];refine AE (fun e=>?_) fun e=>?_
  .refine Bm (B.cells (g.E+1) _ (by rw[AV J];rfl)) ?_;have el:l=.nil:=by
    cases l with
    |nil=>rfl
    |node a q z c=>simp only[Tr.Dh,Tr.root] at e;omega
   subst el;exact⟨r,i,_,A,rfl,⟨h1,g1.mono fun _ _ h=>h.elim,List.Perm.refl _,hr,Y,fun _ _=>rfl,rfl⟩,rfl⟩
  .refine Bm (B.cells (g.E+0) _ (by rw[AV J];rfl)) ?_;have a1:l≠.nil:=fun e'=>by subst e';exact e rfl
   refine AA (X a1 h1 hs hl Z hb.app.1) ?_;rintro _ w7 ⟨T,j,m,A1,rfl,o,e1⟩;refine BQ ?_;have B7:=B.mod o.mod fun e=>nF Q bx (.inl e.1) rfl;rw[AG,AI];refine B7.st (q:=g.E+0) (by rw[BC _ S];omega) rfl rfl fun w8 B8 m8=>?_;rw[CP J] at B8;refine B8.Ey (by rw[List.length_append,List.length_set,J];rfl) ?_;have h8:=o.Dl.mod m8 fun x hx e=>nF Q x hx e;have U:=g.BR (g.BR S o.mod fun y _ V e=>h.Hy y e.1 V) m8 fun y _ V e=>nF Q y (.inr V) e;have sub:∀q,q∈T.idx\/q=j->q∈l.idx:=fun q I=>o.idx.mem_iff.1 (by rcases I with I|rfl<;>simp[*]);have a6:A1.f i=some _:=(o.same i u3).trans Y;have a7:Tr.Holds g.k.μ A1.f r:=Cj hr o.same fun q I e=>u5 q e I;have a8:Tr.FQ (.node T i x r):=Tr.Az.2 ⟨(o.G7 Z).1,u2,fun e=>u3 (sub i (.inl e)),u4,fun q I=>u5 q (sub q (.inl I))⟩;have ak:Dg g (Tr.node T i x r).toL:=by
    have:(Tr.node l i x r).toL=m.x::(Tr.node T i x r).toL:=by simp only[Tr.toL,e1,List.cons_append]
    rw[this] at hb;exact hb.cons.1
   refine AA (Fq (l:=T) (r:=r) (n:={ Tr.Dh g.k.μ (.node l i x r) x l.root r.root with l:=T.root }) h8 (by rw[o.len];exact hs) a6 U rfl rfl o.holds a7 a8 ak) ?_;rintro _ al ⟨t2,A2,rfl,O⟩;have hj:j∉(Tr.node T i x r).idx:=fun e=>by
    simp only[Tr.idx,List.mem_append,List.mem_cons] at e;rcases e with e|e|e
    .exact(o.G7 Z).2 e
    .exact u3 (e▸sub j (.inr rfl))
    .exact u5 j (sub j (.inr rfl)) e
   refine⟨t2,j,m,A2,rfl,⟨O.Dl,?_,?_,O.holds,(O.same j hj).trans o.PZ,fun q I=>?_,by rw[O.len,o.len]⟩,?_⟩
   .exact(((g1.mono fun _ _ h=>h.elim).trans o.mod).next m8 fun y V e=>by omega).trans O.mod
   .refine(O.idx.cons j).trans ?_;simp only[Tr.idx];exact(o.idx.append (List.Perm.refl (i::r.idx)))
   .simp only[Tr.idx,List.mem_append,List.mem_cons,not_or] at I;refine(O.same q fun e=>?_).trans (o.same q I.1);simp only[Tr.idx,List.mem_append,List.mem_cons] at e;rcases e with e|e|e
    .exact I.1 (sub q (.inl e))
    .exact I.2.1 e
    .exact I.2.2 e
   .rw[O.toL];simp only[Tr.toL,Tr.Dh,e1,List.cons_append]
theorem PC{F C:Nat->Prop}{b:Nat}{rt:Int}:∀(t:Tr α) {W:World} {A:ArS α},t≠.nil->DL g F C W b rt A->A.ps.length<=109951162777->Tr.Holds g.k.μ A.f t->Tr.FQ t->Dg g t.toL->
  AB prog g.flast [.pointer (some ⟨b,0,none⟩),.int .i64 t.root] (fun v' w'=>∃(t':Tr α) (j:Nat) (m:Nd α) (A':ArS α),v'=.tuple #[.int .i64 t'.root,.int .i64 j]/\Ends g F C W w' b rt A t t' j m A'/\t.toL=t'.toL++[m.x]) W:=by
 intro t;induction t with
 |nil=>intro W A hn;exact(hn rfl).elim
 |node l i x r _ X=>
  intro W A _ h hs hh hu hb;obtain⟨hl,hr,Y⟩:=id hh;obtain⟨u1,Z,u3,u4,u5⟩:=Tr.Az.1 hu;apply g.ok.last;unfold ZD;have nF:∀{z:Nat},W.heap.size<=z->∀x,F x\/C x->x≠z:=fun hz x hx e=>by have:=h.lt x hx;omega
  refine DS h Y fun rc bx w1 g1 S B T=>?_;have J:=g.rlen T;have h1:=h.grow g1;refine Bm (B.cells (g.E+1) _ (by rw[AV J];rfl)) ?_;rw[Am];refine AE (fun e=>?_) fun e=>?_
  .refine Bm (B.cells (g.E+0) _ (by rw[AV J];rfl)) ?_;have el:r=.nil:=by
    cases r with
    |nil=>rfl
    |node a q z c=>simp only[Tr.Dh,Tr.root] at e;omega
   subst el;exact⟨l,i,_,A,rfl,⟨h1,g1.mono fun _ _ h=>h.elim,by simp only[Tr.idx];exact(List.perm_append_singleton i l.idx).symm,hl,Y,fun _ _=>rfl,rfl⟩,rfl⟩
  .refine Bm (B.cells (g.E+1) _ (by rw[AV J];rfl)) ?_;have a1:r≠.nil:=fun e'=>by subst e';exact e rfl
   refine AA (X a1 h1 hs hr Z hb.app.2.cons.1) ?_;rintro _ w7 ⟨O,j,m,A1,rfl,o,e1⟩;refine BQ ?_;have B7:=B.mod o.mod fun e=>nF S bx (.inl e.1) rfl;rw[AG,AI];refine B7.st (q:=g.E+1) (by rw[BC _ T];omega) rfl rfl fun w8 B8 m8=>?_;rw[CP J] at B8;refine B8.Ey (by rw[List.length_append,List.length_set,J];rfl) ?_;have h8:=o.Dl.mod m8 fun x hx e=>nF S x hx e;have U:=g.BR (g.BR T o.mod fun y _ V e=>h.Hy y e.1 V) m8 fun y _ V e=>nF S y (.inr V) e;have sub:∀q,q∈O.idx\/q=j->q∈r.idx:=fun q I=>o.idx.mem_iff.1 (by rcases I with I|rfl<;>simp[*]);have a6:A1.f i=some _:=(o.same i u4).trans Y;have a7:Tr.Holds g.k.μ A1.f l:=Cj hl o.same fun q I=>u5 q I;have a8:Tr.FQ (.node l i x O):=Tr.Az.2 ⟨u1,(o.G7 Z).1,u3,fun e=>u4 (sub i (.inl e)),fun q I e=>u5 q I (sub q (.inl e))⟩;have ak:Dg g (Tr.node l i x O).toL:=by
    have:(Tr.node l i x r).toL=(Tr.node l i x O).toL++[m.x]:=by simp only[Tr.toL,e1,List.append_assoc,List.cons_append]
    rw[this] at hb;exact hb.app.1
   refine AA (Fq (l:=l) (r:=O) (n:={ Tr.Dh g.k.μ (.node l i x r) x l.root r.root with r:=O.root }) h8 (by rw[o.len];exact hs) a6 U rfl rfl a7 o.holds a8 ak) ?_;rintro _ al ⟨t2,A2,rfl,Q⟩;have hj:j∉(Tr.node l i x O).idx:=fun e=>by
    simp only[Tr.idx,List.mem_append,List.mem_cons] at e;rcases e with e|e|e
    .exact u5 j e (sub j (.inr rfl))
    .exact u4 (e▸sub j (.inr rfl))
    .exact(o.G7 Z).2 e
   refine⟨t2,j,m,A2,rfl,⟨Q.Dl,?_,?_,Q.holds,(Q.same j hj).trans o.PZ,fun q I=>?_,by rw[Q.len,o.len]⟩,?_⟩
   .exact(((g1.mono fun _ _ h=>h.elim).trans o.mod).next m8 fun y V e=>by omega).trans Q.mod
   .refine(Q.idx.cons j).trans ?_;simp only[Tr.idx];have p1:(j::(l.idx++i::O.idx)).Perm (l.idx++i::(j::O.idx)):=by
     have q:=(List.perm_middle (a:=j) (l₁:=l.idx++[i]) (l₂:=O.idx)).symm;simpa using q
    exact p1.trans ((List.Perm.refl _).append (o.idx.cons i))
   .simp only[Tr.idx,List.mem_append,List.mem_cons,not_or] at I;refine(Q.same q fun e=>?_).trans (o.same q I.2.2);simp only[Tr.idx,List.mem_append,List.mem_cons] at e;rcases e with e|e|e
    .exact I.1 e
    .exact I.2.1 e
    .exact I.2.2 (sub q (.inl e))
   .rw[Q.toL];simp only[Tr.toL,Tr.Dh,e1,List.append_assoc,List.cons_append]
theorem FE{F C:Nat->Prop}{b i:Nat}{S:Int}:∀(k:Nat) {W:World} {A:ArS α} {n:Nd α} {l r:Tr α},l.DD+r.DD<=k->DL g F C W b S A->A.ps.length<=109951162777->A.f i=some n->Tr.Holds g.k.μ A.f l->Tr.Holds g.k.μ A.f r->Tr.FQ (.node l i n.x r)->Dg g (Tr.node l i n.x r).toL->
  AB prog g.fjoin [.pointer (some ⟨b,0,none⟩),.int .i64 l.root,.int .i64 i,.int .i64 r.root] (fun v' w'=>∃t' U,v'=.int .i64 t'.root/\V1 g F C W w' b S A (Tr.node l i n.x r).toL (Tr.node l i n.x r).idx t' U) W:=by
 intro k;induction k with
 |zero=>
  intro W A n l r hk h J O hl hr hu hb;exact Oe (fun _ _ _ _ _ h=>by omega) (fun _ _ _ _ _ h=>by omega) h J O hl hr hu hb
 |succ k T=>
  intro W A n l r hk h J O hl hr hu hb;refine Oe (fun Y Z xl lr e Q=>?_) (fun rl ir xr rr e Q=>?_) h J O hl hr hu hb
  .subst e;intro V X h1 j o y B E I;exact T (by simp only[Tr.DD] at hk;omega) h1 j o y B E I
  .subst e;intro V X h1 j o y B E I;exact T (by simp only[Tr.DD] at hk;omega) h1 j o y B E I
theorem Qb{F C:Nat->Prop}{b:Nat}{S:Int}{W:World}{A:ArS α}{l r:Tr α}(h:DL g F C W b S A)(T:A.ps.length<=109951162777)(hl:Tr.Holds g.k.μ A.f l)(hr:Tr.Holds g.k.μ A.f r)(hu:(l.idx++r.idx).Nodup)(hb:Dg g (l.toL++r.toL)) :
  AB prog g.fconcat [.pointer (some ⟨b,0,none⟩),.int .i64 l.root,.int .i64 r.root] (fun v' w'=>∃t' V,v'=.int .i64 t'.root/\V1 g F C W w' b S A (l.toL++r.toL) (l.idx++r.idx) t' V) W:=by
 apply g.ok.concat;unfold RG;rw[Am];obtain⟨E,X,I⟩:=List.nodup_append.1 hu;refine AE (fun e=>?_) fun e=>?_
 .have Y:l=.nil:=by
   cases l with
   |nil=>rfl
   |node a q z c=>simp only[Tr.root] at e;omega
  subst Y;exact⟨r,A,rfl,h,Mod.refl _ _,rfl,List.Perm.refl _,hr,fun _ _=>rfl,rfl⟩
 .have J:l≠.nil:=fun e'=>by subst e';exact e rfl
  refine AA (PC l J h T hl E hb.app.1) ?_;rintro _ w1 ⟨B,j,m,Z,rfl,i,e1⟩;refine BQ ?_;have sub:∀q,q∈B.idx\/q=j->q∈l.idx:=fun q o=>i.idx.mem_iff.1 (by rcases o with o|rfl<;>simp[*]);have O:Tr.Holds g.k.μ Z.f r:=Cj hr i.same fun q o e=>I q e q o rfl;have Q:Tr.FQ (.node B j m.x r):=Tr.Az.2 ⟨(i.G7 E).1,X,(i.G7 E).2,fun e=>I j (sub j (.inr rfl)) j e rfl,fun q o e=>I q (sub q (.inl o)) q e rfl⟩;have U:(Tr.node B j m.x r).toL=l.toL++r.toL:=by simp only[Tr.toL,e1,List.append_assoc,List.cons_append,List.nil_append]
  refine AA (FE (B.DD+r.DD) (Nat.le_refl _) i.Dl (by rw[i.len];exact T) i.PZ i.holds O Q (hb.perm U)) ?_;rintro _ w2 ⟨t2,A2,rfl,y⟩;have perm:(Tr.node B j m.x r).idx.Perm (l.idx++r.idx):=by
   simp only[Tr.idx];exact List.perm_middle.trans (i.idx.append (List.Perm.refl r.idx))
  refine⟨t2,A2,rfl,y.Dl,i.mod.trans y.mod,y.toL.trans U,y.idx.trans perm,y.holds,fun q o=>?_,by rw[y.len,i.len]⟩;exact(y.same q fun e=>o (perm.mem_iff.1 e)).trans (i.same q fun e=>o (List.mem_append_left _ e))
def HH(g:AvT α)(F C:Nat->Prop)(W w':World)(b:Nat)(i:Int)(A:ArS α):Prop:=∃F',(∀x,F x->F' x)/\(∀x,F' x->F x\/W.heap.size<=x)/\DL g F' C w' b i A/\Mod (Fb F b) W w'
theorem OQ{F C:Nat->Prop}{W w':World}{b c:Nat}{y:Int}{A B:ArS α}{pl fr:Value}(h:Y1 g F C W b c y A pl fr)(ha:K9 g (fun x=>F x/\x≠b) C W w' c B):HH g F C W w' b y B:=by
 obtain⟨F',j,o,k1,k2,J,E⟩:=ha;have O:=h.box.lt (Nat.succ_pos _);refine⟨fun x=>F' x\/x=b,fun x i=>?_,fun x i=>?_,⟨c,j,o,h.box.mod E fun e=>e.2 rfl,?_,.inr rfl,h.fb.2⟩,E⟩
 .by_cases e:x=b
  .exact .inr e
  .exact .inl (k1 x ⟨i,e⟩)
 .rcases i with i|rfl
  .exact(k2 x i).imp (fun h=>h.1) fun h=>h
  .exact .inl h.fb.1
 .have e:(fun x=>(F' x\/x=b)/\x≠b)=F':=by
   funext x
   refine propext ⟨fun i=>i.1.elim (fun h=>h) fun e=>(i.2 e).elim,fun i=>⟨.inl i,fun e=>?_⟩⟩;subst e;rcases k2 x i with I|I
   .exact I.2 rfl
   .omega
  rw[e];exact J
theorem Ks{F C:Nat->Prop}{W:World}{b c i:Nat}{j:Int}{A:ArS α}{pl fr:Value}{n:Nd α}(h:Y1 g F C W b c j A pl fr)(o:A.f i=some n)(x:A.ps.length<=109951162777) :
  AB prog g.aFree [.pointer (some ⟨c,0,none⟩),.int .i64 i] (fun v' w'=>HH g F C W w' b j (A.free i)) W:=
 AA (VQ h.ar o x) fun _ _ ha=>OQ h ha
theorem Kc{F C:Nat->Prop}{W:World}{b c:Nat}{i:Int}{A:ArS α}{pl fr:Value}{n:Nd α}{r:List Value}(h:Y1 g F C W b c i A pl fr)(hr:g.R C W r n.x)(j:A.ps.length<=109951162777) :
  AB prog g.aTake [.pointer (some ⟨c,0,none⟩),.agg (r++BP n).toArray] (fun v' w'=>v'=.int .i64 A.num/\HH g F C W w' b i (A.take n)) W:=
 AA (Vw h.ar hr j) fun _ _ ha=>⟨ha.1,OQ h ha.2⟩
theorem TJ{C:Nat->Prop}{b:Nat}{rt:Int}:∀(t:Tr α) {F:Nat->Prop} {W:World} {A:ArS α},DL g F C W b rt A->A.ps.length<=109951162777->Tr.Holds g.k.μ A.f t->Tr.FQ t->
  AB prog g.fdrop [.pointer (some ⟨b,0,none⟩),.int .i64 t.root] (fun _ w'=>∃U,HH g F C W w' b rt U/\(∀q,q∉t.idx->U.f q=A.f q)/\U.ps.length=A.ps.length) W:=by
 intro t;induction t with
 |nil=>
  intro F W A h T hh hu;apply g.ok.drop;unfold Vv;simp only[Tr.root];rw[Am];refine AE (fun _=>?_) fun e=>(e rfl).elim;exact⟨A,⟨F,fun _ h=>h,fun _ h=>.inl h,h,Mod.refl _ _⟩,fun _ _=>rfl,rfl⟩
 |node l i x r V X=>
  intro F W A h T hh hu;obtain⟨hl,hr,hi⟩:=id hh;obtain⟨u1,u2,u3,u4,u5⟩:=Tr.Az.1 hu;apply g.ok.drop;unfold Vv;simp only[Tr.root];rw[Am];refine AE (fun e=>by omega) fun _=>?_;refine DS h hi fun rc bx w1 Y a8 B Z=>?_;have J:=g.rlen Z;have h1:=h.grow Y;refine Bm (B.cells (g.E+0) _ (by rw[AV J];rfl)) ?_;refine AA (V h1 T hl u1) ?_;rintro _ w5 ⟨A1,T1,y,j⟩;obtain⟨F1,a1,a2,h5,m5⟩:=T1;have nb:¬F bx:=fun e=>by have:=h.lt bx (.inl e);omega
  have B5:=B.mod m5 fun e=>nb e.1;refine Bm (B5.cells (g.E+1) _ (by rw[AV J];rfl)) ?_;have a6:Tr.Holds g.k.μ A1.f r:=Cj hr y fun q I e=>u5 q e I;have a7:A1.f i=some _:=(y i u3).trans hi;refine AA (X h5 (by rw[j];exact T) a6 u2) ?_;rintro _ w7 ⟨A2,T2,O,o⟩;obtain⟨F2,b1,b2,h7,m7⟩:=T2;have Q:A2.f i=some _:=(O i u4).trans a7;obtain⟨c,pl,fr,hT⟩:=h7;refine AH ?_;refine Bm (hT.box.cells 3 _ rfl) ?_;refine AA (Ks hT Q (by rw[o,j];exact T)) ?_;rintro _ w9 ⟨F3,c1,c2,h9,m9⟩;have s1:=Y.size;have s5:=m5.size;have s7:=m7.size;refine⟨A2.free i,⟨F3,fun x S=>c1 x (b1 x (a1 x S)),fun x S=>?_,h9,?_⟩,fun q I=>?_,by simp[ArS.free,o,j]⟩
  .rcases c2 x S with e|e
   .rcases b2 x e with e|e
    .rcases a2 x e with e|e
     .exact .inl e
     .exact .inr (by omega)
    .exact .inr (by omega)
   .exact .inr (by omega)
  .have k1:Mod (Fb F b) W w5:=(Y.mono fun _ _ h=>h.elim).trans m5;have k2:Mod (Fb F b) W w7:=k1.next m7 fun x S e=>by
    rcases a2 x e.1 with e'|e'
    .exact⟨e',e.2⟩
    .omega
   refine k2.next m9 fun x S e=>?_;rcases b2 x e.1 with e'|e'
   .rcases a2 x e' with e'|e'
    .exact⟨e',e.2⟩
    .omega
   .omega
  .simp only[Tr.idx,List.mem_append,List.mem_cons,not_or] at I;rw[ArS.QD Q,Tr.DA _ I.2.1];exact(O q I.2.2).trans (y q I.1)
theorem Oq{F C:Nat->Prop}{W:World}{b:Nat}{A:ArS α}{t:Tr α}(h:DL g F C W b t.root A)(ht:Tr.Holds g.k.μ A.f t) :
  AB prog g.fSize [.pointer (some ⟨b,0,none⟩)] (fun v' w'=>v'=.int .i64 (Tr.sz g.k.μ t.toL)/\Grow W w') W:=by
 apply g.ok.size;unfold Yr;obtain⟨c,pl,fr,i⟩:=id h;refine AH ?_;refine Bm (i.box.cells 4 _ rfl) ?_;refine AA (Br h ht) ?_;rintro _ w2 ⟨rfl,j⟩;exact CJ (vs:=[_,_,_]) (by rfl) (CJ (vs:=[_,_,_]) (by rfl) (CJ (vs:=[_,_,_]) (by rfl) ⟨rfl,j⟩))
end Go.Proofs.YtmdhibffnkhcnaaGreatDoor
namespace Go.K
open Go
theorem Bx.eF{W:World}{b q:Nat}{vs:List Value}(h:Bx W b vs)(x:q<vs.length)(u:Value):Bx (W.setCell ⟨b,q,none⟩ u) b (vs.set q u):=by
 refine⟨fun j v i=>?_,fun j y=>(h.live j (by simpa using y)).set _ _⟩;by_cases e:j=q
 .subst e;rw[List.getElem?_set_self x] at i;cases i;obtain⟨B,o⟩:=Option.isSome_iff_exists.1 (h.live j x).1;exact World.cell?_setCell_same _ _ _ o
 .rw[List.getElem?_set_ne (Ne.symm e)] at i;rw[World.cell?_setCell_other _ _ _ _ (fun e'=>by simp only[Addr.mk.injEq] at e';exact e e'.2.1.symm)];exact h.cells j v i
theorem Bx.Dz{b:Nat}:∀(us:List Value) (p:Nat) (W:World) (vs:List Value),Bx W b vs->p+us.length<=vs.length->Bx (Dz W ⟨b,0,none⟩ p us) b (H7 vs p us)/\Mod (fun x=>x=b) W (Dz W ⟨b,0,none⟩ p us):=by
 intro us;induction us with
 |nil=>intro p W vs h _;exact⟨h,Mod.refl _ _⟩
 |cons u us i=>
  intro p W vs h hl;rw[List.length_cons] at hl;simp only[Go.K.Dz,H7,AI];obtain⟨h1,j⟩:=i (p+1) _ _ (h.eF (q:=p) (by omega) u) (by rw[List.length_set];omega);exact⟨h1,(Mod.setCell (M:=fun x=>x=b) W ⟨b,p,none⟩ u rfl).trans j⟩
theorem Bx.part{W:World}{b n:Nat}{vs us:List Value}{K:World->Prop}(h:Bx W b vs)(i:us.length=n)(hl:n<=vs.length)(h1:∀v∈us,v.oneCell'=true)(o:∀W',Bx W' b (H7 vs 0 us)->Mod (fun x=>x=b) W W'->K W'):Ab n (.pointer (some ⟨b,0,none⟩)) (.agg us.toArray) K W:=by
 obtain⟨y,B⟩:=Bx.Dz us 0 W vs h (by omega);exact⟨_,us,rfl,rfl,i,h1,fun j E=>by rw[AI];exact h.live j (by omega),o _ y B⟩
theorem FB{W0 W:World}{p q n:Nat}{o us vs:List Value}{J:World->Prop}(g:Grow W0 W)(hp:W0.heap.size<=p)(O:W0.heap.size<=q)(i:p≠q)(Q:Bx W p o)(S:Bx W q o)(I:o.length=n)(hu:us.length=n)(T:vs.length=n)(U:∀v∈us,v.oneCell'=true)(ov:∀v∈vs,v.oneCell'=true)(hJ:∀W',Grow W0 W'->Bx W' p us->Bx W' q vs->J W') :
  Ab n (.pointer (some ⟨p,0,none⟩)) (.agg us.toArray) (fun j=>Mod (fun y=>W0.heap.size<=y) W j/\Ab n (.pointer (some ⟨q,0,none⟩)) (.agg vs.toArray) (fun w2=>Mod (fun y=>W0.heap.size<=y) j w2/\J w2) j) W:=by
 refine Q.over hu I U fun j V B=>⟨B.mono fun x _ e=>by rw[e];exact hp,?_⟩;refine(S.mod B fun e=>i e.symm).over T I ov fun w2 X E=>⟨E.mono fun x _ e=>by rw[e];exact O,?_⟩;exact hJ w2 ((g.next B fun x Y e=>by omega).next E fun x Y e=>by omega) (V.mod E i) X
end Go.K
namespace Go.Proofs.YtmdhibffnkhcnaaGreatDoor
open Go Go.K Proofs.Tryz
structure U7 (g:AvK):Prop where
 split:∀{v0 v1 v2 K w},P0 g v0 v1 v2 K w->AB prog g.fsplit [v0,v1,v2] K w
 pick:∀{v0 v1 K w},ZG g v0 v1 K w->AB prog g.fpick [v0,v1] K w
 melded:∀{v0 v1 K w},RY g v0 v1 K w->AB prog g.fmelded [v0,v1] K w
 replace:∀{v0 v1 v2 v3 K w},PB g v0 v1 v2 v3 K w->AB prog g.fReplace [v0,v1,v2,v3] K w
 over:∀{v0 v1 v2 v3 v4 K w},Tl g v0 v1 v2 v3 v4 K w->AB prog g.fover [v0,v1,v2,v3,v4] K w
structure AvN (α:Type) extends AvT α where
 one0:one=false
 okN:U7 toAvK
 cells:α->List Value
 Rc:∀{C w r x},R C w r x↔r=cells x
 cutc:∀{w x p},0<p->p<(k.μ x).1->(k.μ x).1<=1099511627776->BF prog DH vc [.agg (cells x).toArray,.int .i64 (p:Int)] (fun v w'=>v=.tuple #[.agg (cells (k.cut x p).1).toArray,.agg (cells (k.cut x p).2).toArray]/\Grow w w') w
 meldc:∀{w x y},0<(k.μ x).1->(k.μ x).1<=1099511627776->(k.μ y).1<=1099511627776->BF prog DH vd [.agg (cells x).toArray,.agg (cells y).toArray] (fun v w'=>Grow w w'/\∃r,r.length=E/\(∀u∈r,u.oneCell'=true)/\v=.tuple #[.agg r.toArray,.bool (k.meld x y).isSome]/\∀z,k.meld x y=some z->r=cells z) w
section
variable {α:Type}
def QK(g:AvT α):Prop:=∀{F C:Nat->Prop} {W:World} {b i:Nat} {j:Int} {A:ArS α} {n:Nd α},DL g F C W b j A->A.ps.length<=109951162777->A.f i=some n->
 AB prog g.fpick [.pointer (some ⟨b,0,none⟩),.int .i64 i] (fun v' w'=>∃r,v'=g.toAvK.enc r/\g.R C w' r n.x/\HH g F C W w' b j (A.free i)) W
def K4(g:AvT α):Prop:=∀{F C S:Nat->Prop} {W:World} {b:Nat} {i:Int} {A:ArS α} {v:Value} {l:List α},DL g F C W b i A->BH S g.E (g.R C) W v l->l.length<=109951162777->Dg g l->
 AB prog g.fmelded [.pointer (some ⟨b,0,none⟩),v] (fun v' w'=>AF W.heap.size g.te g.E (g.R C) w' v' (g.k.melded l)/\Grow W w') W
structure Pq (g:AvT α) (F C:Nat->Prop) (W w':World) (b:Nat) (rt:Int) (A:ArS α) (t:Tr α) (p:Nat) (l r:Tr α) (A':ArS α):Prop where
 cD:HH g F C W w' b rt A'
 l1:l.toL=(g.k.split t.toL p).1
 r1:r.toL=(g.k.split t.toL p).2
 hl:Tr.Holds g.k.μ A'.f l
 hr:Tr.Holds g.k.μ A'.f r
 G7:(l.idx++r.idx).Nodup
 idx:∀q,q∈l.idx++r.idx->q∈t.idx\/A.f q=none
 same:∀q,q∉t.idx->q∉l.idx++r.idx->A'.f q=A.f q
 len:A'.ps.length<=A.ps.length+1
def NF(g:AvT α):Prop:=∀{C:Nat->Prop} {b:Nat} {i:Int} (t:Tr α) {F:Nat->Prop} {W:World} {A:ArS α} {p:Nat},DL g F C W b i A->A.ps.length<=109951162776->Tr.Holds g.k.μ A.f t->Tr.FQ t->Dg g t.toL->p<=1099511627776->
 AB prog g.fsplit [.pointer (some ⟨b,0,none⟩),.int .i64 t.root,.int .i64 (p:Int)] (fun v' w'=>∃l r j,v'=.tuple #[.int .i64 l.root,.int .i64 r.root]/\Pq g F C W w' b i A t p l r j) W
end
section
variable {α:Type}{g:AvT α}
theorem Hd{F C:Nat->Prop}{W w':World}{b i p:Nat}{Q:Int}{A E:ArS α}{l r a c:Tr α}{x:α}{n:Nd α}(S:Pq g F C W w' b Q A l p a c E)(I:A.f i=some n)(hr:Tr.Holds g.k.μ A.f r)(hu:Tr.FQ (.node l i x r)) :
  E.f i=some n/\Tr.Holds g.k.μ E.f r/\Tr.FQ (.node c i x r)/\∀q∈a.idx,q∉(Tr.node c i x r).idx:=by
 obtain⟨Y,T,J,U,O⟩:=Tr.Az.1 hu;have B:∀q,(∃m,A.f q=some m)->q∉l.idx->q∉a.idx++c.idx:=fun q ⟨m,hm⟩ j e=>by
  rcases S.idx q e with e|e
  .exact j e
  .rw[hm] at e;cases e
 have o:=B i ⟨n,I⟩ J;have y:∀q∈r.idx,q∉a.idx++c.idx:=fun q j=>B q (hr.has g.k.μ j) fun e=>O q e j;obtain⟨Z,V,X⟩:=List.nodup_append.1 S.G7;refine⟨(S.same i J o).trans I,hr.frame g.k.μ fun q j=>S.same q (fun e=>O q e j) (y q j),Tr.Az.2 ⟨V,T,fun e=>o (List.mem_append_right _ e),U,fun q j e=>y q e (List.mem_append_right _ j)⟩,fun q j e=>?_⟩;simp only[Tr.idx,List.mem_append,List.mem_cons] at e;rcases e with e|e|e
 .exact X q j q e rfl
 .exact o (e▸List.mem_append_left _ j)
 .exact y q e (List.mem_append_left _ j)
theorem G2{F C:Nat->Prop}{W w':World}{b i p:Nat}{Q:Int}{A E:ArS α}{l r a c:Tr α}{x:α}{n:Nd α}(S:Pq g F C W w' b Q A r p a c E)(I:A.f i=some n)(hl:Tr.Holds g.k.μ A.f l)(hu:Tr.FQ (.node l i x r)) :
  E.f i=some n/\Tr.Holds g.k.μ E.f l/\Tr.FQ (.node l i x a)/\∀q∈c.idx,q∉(Tr.node l i x a).idx:=by
 obtain⟨T,Y,U,J,O⟩:=Tr.Az.1 hu;have B:∀q,(∃m,A.f q=some m)->q∉r.idx->q∉a.idx++c.idx:=fun q ⟨m,hm⟩ j e=>by
  rcases S.idx q e with e|e
  .exact j e
  .rw[hm] at e;cases e
 have o:=B i ⟨n,I⟩ J;have y:∀q∈l.idx,q∉a.idx++c.idx:=fun q j=>B q (hl.has g.k.μ j) fun e=>O q j e;obtain⟨V,Z,X⟩:=List.nodup_append.1 S.G7;refine⟨(S.same i J o).trans I,hl.frame g.k.μ fun q j=>S.same q (fun e=>O q j e) (y q j),Tr.Az.2 ⟨T,V,U,fun e=>o (List.mem_append_left _ e),fun q j e=>y q j (List.mem_append_left _ e)⟩,fun q j e=>?_⟩;simp only[Tr.idx,List.mem_append,List.mem_cons] at e;rcases e with e|e|e
 .exact y q e (List.mem_append_right _ j)
 .exact o (e▸List.mem_append_right _ j)
 .exact X q e q j rfl
theorem Ed(l:List α):∀p,Tr.sz g.k.μ (g.k.split l p).1+Tr.sz g.k.μ (g.k.split l p).2=Tr.sz g.k.μ l/\Tr.mk g.k.μ (g.k.split l p).1+Tr.mk g.k.μ (g.k.split l p).2=Tr.mk g.k.μ l:=by
 induction l with
 |nil=>intro p;simp[Kd.split,Tr.sz,Tr.mk]
 |cons x l i=>
  intro p;simp only[Kd.split];by_cases h0:p=0
  .rw[if_pos h0];simp[Tr.sz,Tr.mk]
  .rw[if_neg h0];by_cases h1:(g.k.μ x).1<=p
   .rw[if_pos h1];obtain⟨j,o⟩:=i (p-(g.k.μ x).1);simp only[Tr.BS,Tr.Ca];omega
   .rw[if_neg h1];obtain⟨c1,y,B⟩:=g.cutμ x p (by omega) (by omega);simp only[Tr.BS,Tr.Ca];simp only[Tr.sz,Tr.mk,List.map_nil,List.sum_nil];omega
theorem Dg.split{l:List α}(h:Dg g l)(p:Nat):Dg g (g.k.split l p).1/\Dg g (g.k.split l p).2:=by
 obtain⟨h1,i⟩:=Ed (g:=g) l p;obtain⟨j,o⟩:=h;exact⟨⟨by omega,by omega⟩,by omega,by omega⟩
end
section
variable {α:Type}{g:AvN α}
theorem Re(r:List Value):g.toAvK.enc r=.agg r.toArray:=by unfold AvK.enc;rw[g.one0];rfl
theorem CD(x:α):(g.cells x).length=g.E:=g.rlen (C:=fun _=>False) (w:=default) (g.Rc.2 rfl)
theorem cells_one(x:α):∀u∈g.cells x,u.oneCell'=true:=g.rone (C:=fun _=>False) (w:=default) (g.Rc.2 rfl)
theorem cm:QK g.toAvT:=by
 intro F C W b i rt A n h hs T;apply g.okN.pick;unfold ZG;refine Bx.zero fun U w1 B O V=>?_;have h1:=h.grow O;have key:=P6 h1 T;refine AA key ?_;rintro _ w2 ⟨r,rfl,hr,E⟩;have j:=g.rlen hr;refine Ai (g.field0 r (BP n) w2 j (g.rone hr) rfl) ?_;rw[Re];refine Bx.new j g.zlen (g.rone hr) fun b5 w5 a6 I B5=>?_;have h5:=(h1.grow E).grow I;obtain⟨c,pl,fr,X⟩:=h5;refine AH ?_;refine Bm (X.box.cells 3 _ rfl) ?_;refine AA (Ks X T hs) ?_;rintro _ w7 ⟨F',a1,Y,h7,J⟩;have a7:g.R C w7 r n.x:=g.Rc.2 (g.Rc.1 hr);have s4:=O.size;have s2:=E.size;have s5:=I.size;have s7:=J.size;have nF:∀{z:Nat},W.heap.size<=z->∀x,F x\/C x->x≠z:=fun hz x o e=>by have:=h.lt x o;omega
 have Q:=B5.mod J fun e=>nF (by omega) b5 (.inl e.1) rfl;have S:=((V.grow E).grow I).mod J fun e=>nF (by omega) U (.inl e.1) rfl;have Z:U<w1.heap.size:=V.lt (by rw[g.zlen];exact g.Epos);refine Q.Ey j ?_;refine S.over j g.zlen (g.rone hr) fun w9 B9 m9=>?_;refine B9.Ey j ?_;have h9:DL g.toAvT F' C w9 b rt (A.free i):=h7.mod m9 fun x o e=>by
  rcases o with o|o
  .rcases Y x o with e'|e'
   .exact nF B x (.inl e') e
   .omega
  .exact nF B x (.inr o) e
 refine⟨r,(Re r).symm,g.Rc.2 (g.Rc.1 hr),F',a1,fun x o=>?_,h9,?_⟩
 .rcases Y x o with e|e
  .exact .inl e
  .exact .inr (by omega)
 .exact((((O.trans E).trans I).mono fun _ _ h=>h.elim).trans J).next m9 fun y hy e=>by omega
end
variable {α:Type}{g:AvN α}
theorem Fz{a c:Nat}{k:Value->Prop}(h:c<=a)(ha:a<=9223372036854775807)(hk:k (.int .i64 (a-c:Nat))):BW .i64 (.int .i64 a) (.int .i64 c) k:=by
 rw[Av,wrap64 (by omega) (by omega)];have e:((a:Int)-(c:Int))=((a-c:Nat):Int):=by omega
 rw[e];exact hk
theorem ZF{r:List Value}(hr:r.length=g.E)(x:α):Instr.fill (fun i=>[(0,g.E),(g.E,1),(g.E+1,1),(g.E+2,1),(g.E+3,1),(g.E+4,1)][i]?) g.toAvK.zN.toArray [(0,.agg r.toArray)]=some (r++BP (⟨x,0,0,0,0,0⟩:Nd α)).toArray:=by
 have j:=g.zlen;rw[Cf (l:=g.toAvK.zN) (vs:=r) (off:=0) (len:=g.E) rfl rfl hr (by rw[HP];omega),Er,AvK.zN,G8 (by omega)];rfl
theorem OE{F C:Nat->Prop}{b i:Nat}{j:Int}{W:World}{A:ArS α}{n:Nd α}{l r:Tr α}(h:DL g.toAvT F C W b j A)(o:A.ps.length<=109951162777)(y:A.f i=some n)(hl:Tr.Holds g.k.μ A.f l)(hr:Tr.Holds g.k.μ A.f r)(hu:Tr.FQ (.node l i n.x r))(hb:Dg g.toAvT (Tr.node l i n.x r).toL) :
  AB prog g.fjoin [.pointer (some ⟨b,0,none⟩),.int .i64 l.root,.int .i64 i,.int .i64 r.root] (fun v' w'=>∃t' B,v'=.int .i64 t'.root/\V1 g.toAvT F C W w' b j A (Tr.node l i n.x r).toL (Tr.node l i n.x r).idx t' B) W:=
 FE (l.DD+r.DD) (Nat.le_refl _) h o y hl hr hu hb
theorem Ow(A:ArS α)(n:Nd α):(A.take n).ps.length<=A.ps.length+1:=by
 unfold ArS.take;split<;>simp
set_option maxRecDepth 4000 in
theorem Zo:NF g.toAvT:=by
 intro C b rt t;induction t with
 |nil=>
  intro F W A p h hs _ _ _ _;apply g.okN.split;unfold P0;simp only[Tr.root];rw[Am];refine AE (fun _=>?_) fun e=>(e rfl).elim;exact⟨.nil,.nil,A,rfl,⟨⟨F,fun _ h=>h,fun _ h=>.inl h,h,Mod.refl _ _⟩,rfl,rfl,trivial,trivial,List.nodup_nil,(fun q I=>nomatch I),fun _ _ _=>rfl,Nat.le_succ _⟩⟩
 |node l i x r eI eL=>
  intro F W A p h hs hh hu hb hp;obtain⟨hl,hr,hi⟩:=id hh;obtain⟨u1,u2,u3,u4,u5⟩:=Tr.Az.1 hu;have V:=g.k.La l.toL r.toL x p;have bl:=hb.1;have bp:=hb.2;simp only[Tr.toL,Tr.CG,Tr.BS] at bl;simp only[Tr.toL,Tr.FD,Tr.Ca] at bp;have nF:∀{z:Nat},W.heap.size<=z->∀x,F x\/C x->x≠z:=fun hz x hx e=>by have:=h.lt x hx;omega
  apply g.okN.split;unfold P0;simp only[Tr.root];rw[Am];refine AE (fun e=>by omega) fun _=>?_;refine DS h hi fun rc bx w3 T bs B ax=>?_;have a1:=g.rlen ax;have cx:=g.Rc.1 ax;have h3:=h.grow T;refine Bm (B.cells (g.E+0) _ (by rw[AV a1];rfl)) ?_;refine AA (Br h3 hl) ?_;rintro _ w5 ⟨rfl,g5⟩;refine Jg ?_;have dk:Grow w5 w5.drew:=Mod.drew _ _;have dT:=(T.trans g5).trans dk;obtain⟨c,pl,fr,hT⟩:=id h;have b8:=hT.mod dT fun _ _ h=>h;have B5:=(B.grow g5).grow dk;refine Ag (fun _ _=>False) ?_;refine AH ?_;rw[AG,AI,AG,AI];refine Aa ⟨b8.box.cells 0 _ rfl,fun _ _ e=>e⟩ ?_;rw[AG,AI];refine IN (g:=g.toAvT) (r:=rc) a1 (fun j v hv=>⟨B5.cells j v (by rw[List.getElem?_append_left (List.getElem?_eq_some_iff.1 hv).1];exact hv),fun _ _ e=>e⟩) ?_;refine Ar (g.meas (C:=C) (x:=x) (g.Rc.2 (g.Rc.1 ax))) ?_;rintro _ w6 ⟨rfl,g6⟩;refine⟨g6.mono fun _ _ h=>h.elim,?_⟩;refine BQ ?_;have ay:=dT.trans g6;have fE:=ay.size;have h6:=h.grow ay;have B6:=B5.grow g6;rw[Ha];refine AE (fun fG=>?_) fun fy=>?_
  .have e5:p<=Tr.sz g.k.μ l.toL:=by omega
   rw[if_pos e5] at V;refine Bm (B6.cells (g.E+0) _ (by rw[AV a1];rfl)) ?_;refine AA (eI h6 hs hl u1 hb.app.1 hp) ?_;rintro _ w8 ⟨a,c1,A1,rfl,o⟩;refine BQ ?_;obtain⟨F1,k1,k2,h8,m8⟩:=o.cD;have B8:=B6.mod m8 fun e=>nF bs bx (.inl e.1) rfl;refine Bm (B8.cells (g.E+1) _ (by rw[AV a1];rfl)) ?_;obtain⟨e1,e2,e3,e4⟩:=Hd o hi hr hu;have c4:Dg g.toAvT (Tr.node c1 i x r).toL:=by
    obtain⟨q1,q2⟩:=Ed (g:=g.toAvT) l.toL p;constructor
    .simp only[Tr.toL,Tr.CG,Tr.BS,o.r1];omega
    .simp only[Tr.toL,Tr.FD,Tr.Ca,o.r1];omega
   have eN:=o.len;refine AA (FE (c1.DD+r.DD) (Nat.le_refl _) h8 (by omega) e1 o.hr e2 e3 c4) ?_;rintro _ eR ⟨t2,A2,rfl,O⟩;have perm:=O.idx;have sm:∀q,q∈t2.idx↔q∈(Tr.node c1 i x r).idx:=fun q=>O.idx.mem_iff;have s8:=m8.size;refine⟨a,t2,A2,rfl,⟨⟨F1,k1,fun x hx=>(k2 x hx).imp (fun h=>h) fun h=>by omega,O.Dl,((ay.mono fun _ _ h=>h.elim).trans m8).next O.mod fun x hx e=>?_⟩,?_,?_,o.hl.frame g.k.μ fun q I=>O.same q (e4 q I),O.holds,?_,fun q I=>?_,fun q a8 ak=>?_,by rw[O.len];omega⟩⟩
   .rcases k2 x e.1 with e'|e'
    .exact⟨e',e.2⟩
    .omega
   .rw[o.l1];simp only[Tr.toL,V]
   .rw[O.toL];simp only[Tr.toL,Tr.Dh,o.r1,V]
   .exact List.nodup_append.2 ⟨(List.nodup_append.1 o.G7).1,O.idx.nodup_iff.2 e3,fun q I q' b3 e=>e4 q I (e▸(sm q').1 b3)⟩
   .rcases List.mem_append.1 I with I|I
    .rcases o.idx q (List.mem_append_left _ I) with e|e
     .exact .inl (by simp[Tr.idx,e])
     .exact .inr e
    .have:=(sm q).1 I;simp only[Tr.idx,List.mem_append,List.mem_cons] at this ⊢;rcases this with e|e|e
     .rcases o.idx q (List.mem_append_right _ e) with e|e
      .exact .inl (.inl e)
      .exact .inr e
     .exact .inl (.inr (.inl e))
     .exact .inl (.inr (.inr e))
   .simp only[Tr.idx,List.mem_append,List.mem_cons,not_or] at a8;have b4:q∉(Tr.node c1 i x r).idx:=fun e=>ak (List.mem_append_right _ ((sm q).2 e));refine(O.same q b4).trans (o.same q a8.1 fun e=>?_);rcases List.mem_append.1 e with e|e
    .exact ak (List.mem_append_left _ e)
    .exact b4 (by simp[Tr.idx,e])
  have c6:¬p<=Tr.sz g.k.μ l.toL:=by omega
  rw[if_neg c6] at V;refine Bz (by omega) ?_;rw[Dq];refine AE (fun fH=>?_) fun fz=>?_
  .have e6:Tr.sz g.k.μ l.toL+(g.k.μ x).1<=p:=by omega
   rw[if_pos e6] at V;refine Bm (B6.cells (g.E+1) _ (by rw[AV a1];rfl)) ?_;refine Fz (by omega) (by omega) (Fz (by omega) (by omega) ?_);refine AA (eL h6 hs hr u2 hb.app.2.cons.1 (p:=p-Tr.sz g.k.μ l.toL-(g.k.μ x).1) (by omega)) ?_;rintro _ w8 ⟨a,c1,A1,rfl,o⟩;refine BQ ?_;obtain⟨F1,k1,k2,h8,m8⟩:=o.cD;have B8:=B6.mod m8 fun e=>nF bs bx (.inl e.1) rfl;refine Bm (B8.cells (g.E+0) _ (by rw[AV a1];rfl)) ?_;obtain⟨e1,e2,e3,e4⟩:=G2 o hi hl hu;have c4:Dg g.toAvT (Tr.node l i x a).toL:=by
    obtain⟨q1,q2⟩:=Ed (g:=g.toAvT) r.toL (p-Tr.sz g.k.μ l.toL-(g.k.μ x).1);constructor
    .simp only[Tr.toL,Tr.CG,Tr.BS,o.l1];omega
    .simp only[Tr.toL,Tr.FD,Tr.Ca,o.l1];omega
   have eN:=o.len;refine AA (FE (l.DD+a.DD) (Nat.le_refl _) h8 (by omega) e1 e2 o.hl e3 c4) ?_;rintro _ eR ⟨t2,A2,rfl,O⟩;have sm:∀q,q∈t2.idx↔q∈(Tr.node l i x a).idx:=fun q=>O.idx.mem_iff;have s8:=m8.size;refine⟨t2,c1,A2,rfl,⟨⟨F1,k1,fun x hx=>(k2 x hx).imp (fun h=>h) fun h=>by omega,O.Dl,((ay.mono fun _ _ h=>h.elim).trans m8).next O.mod fun x hx e=>?_⟩,?_,?_,O.holds,o.hr.frame g.k.μ fun q I=>O.same q (e4 q I),?_,fun q I=>?_,fun q a8 ak=>?_,by rw[O.len];omega⟩⟩
   .rcases k2 x e.1 with e'|e'
    .exact⟨e',e.2⟩
    .omega
   .rw[O.toL];simp only[Tr.toL,Tr.Dh,o.l1,V]
   .rw[o.r1];simp only[Tr.toL,V]
   .exact List.nodup_append.2 ⟨O.idx.nodup_iff.2 e3,(List.nodup_append.1 o.G7).2.1,fun q I q' b3 e=>e4 q' b3 (e▸(sm q).1 I)⟩
   .rcases List.mem_append.1 I with I|I
    .have:=(sm q).1 I;simp only[Tr.idx,List.mem_append,List.mem_cons] at this ⊢;rcases this with e|e|e
     .exact .inl (.inl e)
     .exact .inl (.inr (.inl e))
     .rcases o.idx q (List.mem_append_left _ e) with e|e
      .exact .inl (.inr (.inr e))
      .exact .inr e
    .rcases o.idx q (List.mem_append_right _ I) with e|e
     .exact .inl (by simp[Tr.idx,e])
     .exact .inr e
   .simp only[Tr.idx,List.mem_append,List.mem_cons,not_or] at a8;have b4:q∉(Tr.node l i x a).idx:=fun e=>ak (List.mem_append_left _ ((sm q).2 e));refine(O.same q b4).trans (o.same q a8.2.2 fun e=>?_);rcases List.mem_append.1 e with e|e
    .exact b4 (by simp[Tr.idx,e])
    .exact ak (List.mem_append_right _ e)
  have c7:¬Tr.sz g.k.μ l.toL+(g.k.μ x).1<=p:=by omega
  rw[if_neg c7] at V;have c8:0<p-Tr.sz g.k.μ l.toL:=by omega
  have c9:p-Tr.sz g.k.μ l.toL<(g.k.μ x).1:=by omega
  generalize eX:p-Tr.sz g.k.μ l.toL=J at V c8 c9;have b0:Grow w6 w6.drew:=Mod.drew _ _;refine AU (fun vs W'=>∃a7 X,vs=[.pointer (some ⟨a7,0,none⟩),.pointer (some ⟨X,0,none⟩)]/\w6.drew.heap.size<=a7/\w6.drew.heap.size<=X/\Grow w6.drew W'/\Bx W' a7 (g.cells (g.k.cut x J).1)/\Bx W' X (g.cells (g.k.cut x J).2)) ?_ ?_;rotate_left
  .have al:∀{W':World},BF prog DH g.vc [.agg (g.cells x).toArray,.int .i64 (J:Int)] (fun v w'=>v=.tuple #[.agg (g.cells (g.k.cut x J).1).toArray,.agg (g.cells (g.k.cut x J).2).toArray]/\Grow W' w') W':=g.cutc c8 c9 (by omega);have e7:=B6.grow b0;have e8:=hT.mod (ay.trans b0) fun _ _ h=>h;have fC:=e8.box.lt (Nat.succ_pos _);have fa:=e7.lt (by rw[BC _ ax];omega);have s6:=b0.size;refine Ag (fun _ y=>w6.drew.heap.size<=y) ?_;refine AH ?_;rw[AG,AI,AG,AI];refine Aa ⟨e8.box.cells 1 _ rfl,fun _ _ e=>by simp only at e;omega⟩ ?_;rw[AG,AI];refine CO a1 (fun j v hv=>⟨by rw[AI];exact e7.cells j v (by rw[List.getElem?_append_left (List.getElem?_eq_some_iff.1 hv).1];exact hv),fun _ _ e=>by rw[AI] at e;simp only at e;omega⟩) ?_;refine Fz (by omega) (by omega) ?_;rw[eX,cx];have Y:=CD (g:=g) (g.k.cut x J).1;have a6:=CD (g:=g) (g.k.cut x J).2;have b1:=cells_one (g:=g) (g.k.cut x J).1;have b2:=cells_one (g:=g) (g.k.cut x J).2;have gm:∀{W1 W2:World},Grow W1 W2->Mod (fun y=>w6.drew.heap.size<=y) W1 W2:=fun g=>g.mono fun _ _ h=>h.elim;have nb:∀{z:Nat} {W':World} {vs:List Value},Bx W' z vs->vs.length=g.E->z<W'.heap.size:=fun B' e=>B'.lt (by rw[e];exact g.Epos);have ng:∀{W1:World},Grow w6.drew W1->w6.drew.heap.size<=W1.heap.size:=fun g=>g.size;refine⟨?_,?_,?_⟩
   .refine Ar al ?_;rintro _ w2 ⟨rfl,U⟩;refine⟨gm U,CJ (vs:=[_,_]) (by rfl) (CJ (vs:=[_,_]) (by rfl) ⟨?_,?_⟩)⟩
    .refine Bx.zero fun a7 w3 an T Q=>⟨gm T,?_⟩;refine Bx.zero fun X w4 av g4 S=>⟨gm g4,?_⟩;have k1:=nb Q g.zlen;have k2:=U.size;have k3:=T.size;exact FB ((U.trans T).trans g4) (by omega) (by omega) (by omega) (Q.grow g4) S g.zlen Y a6 b1 b2 fun W' g' B1 B2=>⟨_,_,rfl,by omega,by omega,g',B1,B2⟩
    .refine Bx.zero fun X w3 av T S=>⟨gm T,?_⟩;refine Bx.zero fun a7 w4 an g4 Q=>⟨gm g4,?_⟩;have k1:=nb S g.zlen;have k2:=U.size;have k3:=T.size;exact FB ((U.trans T).trans g4) (by omega) (by omega) (by omega) Q (S.grow g4) g.zlen Y a6 b1 b2 fun W' g' B1 B2=>⟨_,_,rfl,by omega,by omega,g',B1,B2⟩
   .refine Bx.zero fun a7 w1 an g1 Q=>⟨gm g1,?_,?_⟩
    .refine Ar al ?_;rintro _ w2 ⟨rfl,U⟩;refine⟨gm U,BQ ?_⟩;refine Bx.zero fun X w3 av T S=>⟨gm T,?_⟩;have k1:=nb Q g.zlen;have k2:=U.size;have k3:=g1.size;exact FB ((g1.trans U).trans T) (by omega) (by omega) (by omega) ((Q.grow U).grow T) S g.zlen Y a6 b1 b2 fun W' g' B1 B2=>⟨_,_,rfl,by omega,by omega,g',B1,B2⟩
    .refine Bx.zero fun X w3 av T S=>⟨gm T,?_⟩;refine Ar al ?_;rintro _ w2 ⟨rfl,U⟩;refine⟨gm U,BQ ?_⟩;have k1:=nb Q g.zlen;have k2:=T.size;have k3:=g1.size;exact FB ((g1.trans T).trans U) (by omega) (by omega) (by omega) ((Q.grow T).grow U) (S.grow U) g.zlen Y a6 b1 b2 fun W' g' B1 B2=>⟨_,_,rfl,by omega,by omega,g',B1,B2⟩
   .refine Bx.zero fun X w1 av g1 S=>⟨gm g1,?_,?_⟩
    .refine Ar al ?_;rintro _ w2 ⟨rfl,U⟩;refine⟨gm U,BQ ?_⟩;refine Bx.zero fun a7 w3 an T Q=>⟨gm T,?_⟩;have k1:=nb S g.zlen;have k2:=U.size;have k3:=g1.size;exact FB ((g1.trans U).trans T) (by omega) (by omega) (by omega) Q ((S.grow U).grow T) g.zlen Y a6 b1 b2 fun W' g' B1 B2=>⟨_,_,rfl,by omega,by omega,g',B1,B2⟩
    .refine Bx.zero fun a7 w3 an T Q=>⟨gm T,?_⟩;refine Ar al ?_;rintro _ w2 ⟨rfl,U⟩;refine⟨gm U,BQ ?_⟩;have k1:=nb S g.zlen;have k2:=T.size;have k3:=g1.size;exact FB ((g1.trans T).trans U) (by omega) (by omega) (by omega) (Q.grow U) ((S.grow T).grow U) g.zlen Y a6 b1 b2 fun W' g' B1 B2=>⟨_,_,rfl,by omega,by omega,g',B1,B2⟩
  rintro _ W1 ⟨a7,X,rfl,an,av,e9,Q,S⟩ _;have s6:=b0.size;have fe:Grow W W1:=(ay.trans b0).trans e9;have B1:=(B6.grow b0).grow e9;refine CZ (fun w'=>Grow W1 w') (Mod.drew _ _) ?_;rw[AG,AI];refine As (fun w' g'=>g'.cell (B1.cells (g.E+0) _ (by rw[AV a1];rfl)) fun h=>h) ?_;rw[AG,AI];refine As (fun w' g'=>g'.cell (B1.cells (g.E+1) _ (by rw[AV a1];rfl)) fun h=>h) ?_;intro W2 b9;have ff:=fe.trans b9;have B2:=B1.grow b9;have ea:=Q.grow b9;have ed:=S.grow b9;simp only[GA];have Y:=CD (g:=g) (g.k.cut x J).1;have a6:=CD (g:=g) (g.k.cut x J).2;refine ea.Ey Y ?_;rw[AG,AI];refine B2.part Y (by rw[BC _ ax];omega) (cells_one (g:=g) (g.k.cut x J).1) fun W3 B3 m3=>?_;rw[G8 (by rw[Y,a1])] at B3;have fg:Grow W W3:=ff.next m3 fun y hy e=>by omega
  have fD:=B6.lt (by rw[BC _ ax];omega);have ca:Grow W3 W3.drew:=Mod.drew _ _;have b5:=fg.trans ca;have b6:=hT.mod b5 fun _ _ h=>h;have fh:=B3.grow ca;have ee:=(ed.mod m3 fun e=>by omega).grow ca;refine Ag (fun _ y=>Fb F b y) ?_;refine AH ?_;rw[AG,AI];refine Aa ⟨b6.box.cells 3 _ rfl,fun _ _ e=>e.2 rfl⟩ ?_;refine CO (vs:=g.cells (g.k.cut x J).1++BP (Tr.Dh g.k.μ (.node l i x r) x l.root r.root)) (by rw[List.length_append,Y];rfl) (fun j v hv=>⟨by rw[AI];exact fh.cells j v hv,fun _ _ e=>by rw[AI] at e;exact nF bs bx (.inl e.1) rfl⟩) ?_;refine AA (RV b6.ar hi (n:={ Tr.Dh g.k.μ (.node l i x r) x l.root r.root with x:=(g.k.cut x J).1 }) (g.Rc.2 rfl)) ?_;rintro _ W4 ⟨fi,m4⟩;have b7:Mod (Fb F b) W3.drew W4:=m4.mono fun x _ e=>(b6.ar.pF x e).1;refine⟨b7,?_⟩;have h4:DL g.toAvT F C W4 b rt (A.put i { Tr.Dh g.k.μ (.node l i x r) x l.root r.root with x:=(g.k.cut x J).1 }):=⟨c,pl,fr,b6.box.mod b7 fun e=>e.2 rfl,fi,b6.fb⟩;have ef:(A.put i { Tr.Dh g.k.μ (.node l i x r) x l.root r.root with x:=(g.k.cut x J).1 }).f i=some { Tr.Dh g.k.μ (.node l i x r) x l.root r.root with x:=(g.k.cut x J).1 }:=by rw[ArS.JB hi,Tr.JJ]
  have eh:Tr.Holds g.k.μ (A.put i { Tr.Dh g.k.μ (.node l i x r) x l.root r.root with x:=(g.k.cut x J).1 }).f l:=by rw[ArS.JB hi];exact hl.out g.k.μ _ u3
  have ej:Tr.Holds g.k.μ (A.put i { Tr.Dh g.k.μ (.node l i x r) x l.root r.root with x:=(g.k.cut x J).1 }).f r:=by rw[ArS.JB hi];exact hr.out g.k.μ _ u4
  have cc:∀q,q≠i->(A.put i { Tr.Dh g.k.μ (.node l i x r) x l.root r.root with x:=(g.k.cut x J).1 }).f q=A.f q:=fun q I=>HF hi I;have cL:=DG A i { Tr.Dh g.k.μ (.node l i x r) x l.root r.root with x:=(g.k.cut x J).1 };generalize A.put i { Tr.Dh g.k.μ (.node l i x r) x l.root r.root with x:=(g.k.cut x J).1 }=A4 at h4 ef eh ej cc cL;have bd:=ee.mod b7 fun e=>by have:=h.lt X (.inl e.1);omega
  have ba:Grow W4 W4.drew:=Mod.drew _ _;have ek:=h4.grow ba;have eC:=bd.lt (by rw[a6];exact g.Epos);refine Ag (fun _ y=>Fb F b y\/W4.drew.heap.size<=y) ?_;obtain⟨q1,q2,q3⟩:=g.cutμ x J c8 c9;have en:Tr.FQ (.node l i (g.k.cut x J).1 .nil):=Tr.Az.2 ⟨u1,List.nodup_nil,u3,(fun e=>nomatch e),fun q _ e=>nomatch e⟩;have fj:Dg g.toAvT (Tr.node l i (g.k.cut x J).1 .nil).toL:=by
   constructor
   .simp only[Tr.toL,Tr.CG,Tr.BS];simp only[Tr.sz,List.map_nil,List.sum_nil] at bl ⊢;omega
   .simp only[Tr.toL,Tr.FD,Tr.Ca];simp only[Tr.mk,List.map_nil,List.sum_nil] at bp ⊢;omega
  refine AA (OE (l:=l) (r:=.nil) ek (by omega) ef eh trivial en fj) ?_;rintro _ W5 ⟨t1,Z,rfl,o⟩;refine⟨o.mod.mono fun x _ e=>.inl e,?_⟩;have z4:=ba.size;obtain⟨c',fI,fJ,b8⟩:=id o.Dl;refine AH ?_;rw[AG,AI];obtain⟨cd,fK,fL,ch⟩:=id ek;have cn:=b8.box.cells 3 _ rfl;have fk:¬(Fb F b b\/W4.drew.heap.size<=b):=fun e=>by
   rcases e with e|e
   .exact e.2 rfl
   .have:=ch.box.lt (Nat.succ_pos _);omega
  have ec:cd=c':=by
   have e1:=o.mod.cell (ch.box.cells 3 _ rfl) fun e=>e.2 rfl;rw[cn] at e1;cases e1;rfl
  subst ec;refine Aa ⟨ch.box.cells 3 _ rfl,fun _ _ e=>fk e⟩ ?_;refine CO a6 (fun j v hv=>⟨by rw [AI];exact ba.cell (bd.cells j v hv) fun h=>h,fun k _ e=>by
   rw[AI] at e;rcases e with e|e
   .have:=h.lt X (.inl e.1);omega
   .simp only at e;omega⟩) ?_
  refine⟨_,ZF a6 (g.k.cut x J).2,?_⟩;have Ya:=o.len;refine AA (Kc b8 (n:=⟨(g.k.cut x J).2,0,0,0,0,0⟩) (g.Rc.2 rfl) (by omega)) ?_;rintro _ W6 ⟨rfl,F6,k1,k2,h6,m6⟩;have z5:=o.mod.size;have z6:=m6.size;refine⟨m6.mono fun x _ e=>.inl e,?_⟩;obtain⟨bc,ep,tok⟩:=ArS.QO (⟨(g.k.cut x J).2,0,0,0,0,0⟩:Nd α) o.Dl.ok;have er:Z.num∉(Tr.node l i (g.k.cut x J).1 .nil).idx->A4.f Z.num=none:=fun I=>(o.same _ I).symm.trans ep;have cv:Z.num∉t1.idx:=fun e=>by
   obtain⟨m,hm⟩:=o.holds.has g.k.μ e;rw[ep] at hm;cases hm
  have et:Z.num∉(Tr.node l i (g.k.cut x J).1 .nil).idx:=fun e=>cv (o.idx.mem_iff.2 e);have fo:=er et;have fp:Z.num≠i:=fun e=>et (by simp[Tr.idx,e]);have eu:A.f Z.num=none:=(cc _ fp).symm.trans fo;have ew:Z.num∉r.idx:=fun e=>by
   obtain⟨m,hm⟩:=hr.has g.k.μ e;rw[eu] at hm;cases hm
  have fq:Tr.Holds g.k.μ Z.f r:=ej.frame g.k.μ fun q I=>o.same q fun e=>by
   simp only[Tr.idx,List.mem_append,List.mem_cons,List.not_mem_nil,or_false] at e;rcases e with e|e
   .exact u5 q e I
   .exact u4 (e▸I)
  have fs:Tr.Holds g.k.μ (Z.take ⟨(g.k.cut x J).2,0,0,0,0,0⟩).f r:=by rw[bc];exact fq.out g.k.μ _ ew
  have fu:(Z.take ⟨(g.k.cut x J).2,0,0,0,0,0⟩).f Z.num=some ⟨(g.k.cut x J).2,0,0,0,0,0⟩:=by rw[bc,Tr.JJ]
  have Zu:(Z.take ⟨(g.k.cut x J).2,0,0,0,0,0⟩).ps.length<=Z.ps.length+1:=Ow _ _;have eA:Tr.FQ (.node .nil Z.num (g.k.cut x J).2 r):=Tr.Az.2 ⟨List.nodup_nil,u2,(fun e=>nomatch e),ew,fun q e=>nomatch e⟩;have fv:Dg g.toAvT (Tr.node .nil Z.num (g.k.cut x J).2 r).toL:=by
   constructor
   .simp only[Tr.toL,Tr.CG,Tr.BS];simp only[Tr.sz,List.map_nil,List.sum_nil] at bl ⊢;omega
   .simp only[Tr.toL,Tr.FD,Tr.Ca];simp only[Tr.mk,List.map_nil,List.sum_nil] at bp ⊢;omega
  refine AA (OE (l:=.nil) (r:=r) h6 (by omega) fu trivial fs eA fv) ?_;rintro _ W7 ⟨t2,A7,rfl,O⟩;refine⟨O.mod.mono fun x _ e=>?_,?_⟩
  .rcases k2 x e.1 with e'|e'
   .exact .inl ⟨e',e.2⟩
   .exact .inr (by omega)
  have eB:∀q,q∈t1.idx↔q∈l.idx\/q=i:=fun q=>by rw[o.idx.mem_iff];simp[Tr.idx]
  have fw:∀q,q∈t2.idx↔q=Z.num\/q∈r.idx:=fun q=>by rw[O.idx.mem_iff];simp[Tr.idx]
  have bk:∀q∈t1.idx,q∉(Tr.node .nil Z.num (g.k.cut x J).2 r).idx:=fun q I e=>by
   simp only[Tr.idx,List.nil_append,List.mem_cons] at e;rcases e with e|e
   .exact cv (e▸I)
   .rcases(eB q).1 I with e'|e'
    .exact u5 q e' e
    .exact u4 (e'▸e)
  have fx:Tr.Holds g.k.μ (Z.take ⟨(g.k.cut x J).2,0,0,0,0,0⟩).f t1:=by rw[bc];exact o.holds.out g.k.μ _ cv
  have z7:=b5.size;have z8:=b7.size;refine⟨t1,t2,A7,rfl,⟨⟨F6,k1,fun x hx=>(k2 x hx).imp (fun h=>h) fun h=>by omega,O.Dl,?_⟩,?_,?_,fx.frame g.k.μ fun q I=>O.same q (bk q I),O.holds,?_,fun q I=>?_,fun q a8 ak=>?_,by rw[O.len];omega⟩⟩
  .have n1:Mod (Fb F b) W W4:=(b5.mono fun _ _ h=>h.elim).trans b7;have n2:=((n1.trans (ba.mono fun _ _ h=>h.elim)).trans o.mod).trans m6;refine n2.next O.mod fun x hx e=>?_;rcases k2 x e.1 with e'|e'
   .exact⟨e',e.2⟩
   .omega
  .rw[o.toL];simp only[Tr.toL,V]
  .rw[O.toL];simp only[Tr.toL,V,List.nil_append]
  .refine List.nodup_append.2 ⟨o.idx.nodup_iff.2 en,O.idx.nodup_iff.2 eA,fun q I q' b3 e=>?_⟩;subst e;exact bk q I (O.idx.mem_iff.1 b3)
  .rcases List.mem_append.1 I with I|I
   .rcases(eB q).1 I with e|e
    .exact .inl (by simp[Tr.idx,e])
    .exact .inl (by simp[Tr.idx,e])
   .rcases(fw q).1 I with e|e
    .exact .inr (e▸eu)
    .exact .inl (by simp[Tr.idx,e])
  .simp only[Tr.idx,List.mem_append,List.mem_cons,not_or] at a8;have w1:q∉(Tr.node .nil Z.num (g.k.cut x J).2 r).idx:=fun e=>ak (List.mem_append_right _ (O.idx.mem_iff.2 e));have w2:q∉(Tr.node l i (g.k.cut x J).1 .nil).idx:=fun e=>ak (List.mem_append_left _ (o.idx.mem_iff.2 e));have w3:q≠Z.num:=fun e=>w1 (by simp[Tr.idx,e]);have e2:(Z.take ⟨(g.k.cut x J).2,0,0,0,0,0⟩).f q=Z.f q:=by rw[bc,Tr.DA _ w3]
   exact((O.same q w1).trans (e2.trans (o.same q w2))).trans (cc q a8.2.1)
end Go.Proofs.YtmdhibffnkhcnaaGreatDoor
namespace Go.Proofs.YtmdhibffnkhcnaaGreatDoor
open Go Go.K Proofs.Tryz
section
variable {α:Type}{g:AvT α}
theorem Sh{out:List α}{x:α}(h:Tr.sz g.k.μ out+(g.k.μ x).1<=1099511627776):Tr.sz g.k.μ (g.k.CB out x)<=Tr.sz g.k.μ out+(g.k.μ x).1:=by
 unfold Kd.CB;by_cases h0:(g.k.μ x).1=0
 .rw[if_pos h0];omega
 .rw[if_neg h0];rcases List.eq_nil_or_concat out with rfl|⟨o,y,rfl⟩
  .simp[Tr.sz]
  .rw[List.concat_eq_append] at h ⊢;simp only[List.getLast?_append,List.getLast?_singleton,Option.some_or,List.dropLast_concat];cases hm:g.k.meld y x with
   |none=>rw[Tr.CG,Tr.BS];simp[Tr.sz]
   |some z=>
    have:=(g.meldμ _ _ _ hm).1;simp only[Tr.CG,Tr.BS];omega
theorem QV(l:List α)(h:Tr.sz g.k.μ l<=1099511627776):Tr.sz g.k.μ (g.k.melded l)<=Tr.sz g.k.μ l:=by
 have gen:∀(l out:List α),Tr.sz g.k.μ out+Tr.sz g.k.μ l<=1099511627776->Tr.sz g.k.μ (l.foldl g.k.CB out)<=Tr.sz g.k.μ out+Tr.sz g.k.μ l:=by
  intro l;induction l with
  |nil=>intro out _;simp[Tr.sz]
  |cons x l i=>
   intro out h;rw[Tr.BS] at h ⊢;rw[List.foldl_cons];have h1:=Sh (g:=g) (out:=out) (x:=x) (by omega);have j:=i (g.k.CB out x) (by omega);omega
 have:=gen l [] (by simpa[Tr.sz] using h);unfold Kd.melded;simpa[Tr.sz] using this
theorem Zc{l:List α}{x:α}(h:x∈l):(g.k.μ x).1<=Tr.sz g.k.μ l:=by
 induction l with
 |nil=>simp at h
 |cons y l i=>
  rw[Tr.BS];rcases List.mem_cons.1 h with rfl|h
  .omega
  .have:=i h;omega
end
variable {α:Type}{g:AvN α}
theorem Gc(k:Kd α)(l:List α):(k.melded l).length<=l.length:=by
 have gen:∀(l out:List α),(l.foldl k.CB out).length<=out.length+l.length:=by
  intro l;induction l with
  |nil=>intro out;simp
  |cons x l i=>
   intro out;rw[List.foldl_cons,List.length_cons];have h1:=i (k.CB out x);have j:(k.CB out x).length<=out.length+1:=by
    unfold Kd.CB;split
    .omega
    .split
     .split
      .simp
      .simp
     .simp
   omega
 have:=gen l [];unfold Kd.melded;simpa using this
theorem Js(k:Kd α)(l:List α)(x:α):k.melded (l++[x])=k.CB (k.melded l) x:=by
 unfold Kd.melded;rw[List.foldl_append];rfl
theorem QE(k:Kd α)(j:∀x y z,k.meld x y=some z->0<(k.μ x).1->0<(k.μ z).1)(l:List α):∀x∈k.melded l,0<(k.μ x).1:=by
 have gen:∀(l out:List α),(∀x∈out,0<(k.μ x).1)->∀x∈l.foldl k.CB out,0<(k.μ x).1:=by
  intro l;induction l with
  |nil=>intro out h;exact h
  |cons y l B=>
   intro out h;rw[List.foldl_cons];refine B _ ?_;unfold Kd.CB;split
   .exact h
   .split
    .rename_i z E;have o:=List.mem_of_getLast? E;split
     .rename_i q I;intro x i;rcases List.mem_append.1 i with i|i
      .exact h x (List.dropLast_subset _ i)
      .simp at i;subst i;exact j _ _ _ I (h _ o)
     .intro x i;rcases List.mem_append.1 i with i|i
      .exact h x i
      .simp at i;subst i;omega
    .intro x i;rcases List.mem_append.1 i with i|i
     .exact h x i
     .simp at i;subst i;omega
 exact gen l [] (by simp)
set_option maxRecDepth 4000 in
theorem Yh:K4 g.toAvT:=by
 intro F C S W b rt A v l h hv hl hb;apply g.okN.melded;unfold RY;obtain⟨va,vc,rfl,hm⟩:=hv.shape;have ed:=hb.1;have c9:=hv.G6 g.Epos;rw[AS];refine Ae (fun vs W'=>∃(i:Nat) (out:Value),i<=l.length/\vs=[out,.int .i64 i]/\AF W.heap.size g.te g.E (g.R C) W' out (g.k.melded (l.take i))/\Grow W W') (fun vs _=>l.length-Dr vs 1)
  ⟨0,_,Nat.zero_le _,rfl,AF.nil,Mod.refl _ _⟩ ?_
 rintro vs W1 ⟨i,out,hi,rfl,ho,g1⟩ _;simp only[GA];refine Hq (fun ee=>?_) fun ca=>?_;rotate_left
 .have:i=l.length:=by omega
  subst this;rw[List.take_length] at ho;exact⟨ho,g1⟩
 have J:i<l.length:=by omega
 obtain⟨p,r,rfl,hS,hr,hc,bc⟩:=c9.get J;have cc:=g.Rc.1 bc;subst cc;have Y:l.take (i+1)=l.take i++[l[i]]:=by rw[List.take_add_one];simp[J]
 have bd:Tr.sz g.k.μ (l.take i)+(g.k.μ l[i]).1<=Tr.sz g.k.μ l:=by
  have e:Tr.sz g.k.μ l=Tr.sz g.k.μ (l.take (i+1))+Tr.sz g.k.μ (l.drop (i+1)):=by rw[<-Tr.CG,List.take_append_drop]
  rw[Y,Tr.CG,Tr.BS] at e;simp only[Tr.sz,List.map_nil,List.sum_nil] at e ⊢;omega
 have I:g.k.melded (l.take (i+1))=g.k.CB (g.k.melded (l.take i)) l[i]:=by rw[Y,Js]
 have cd:=QV (g:=g.toAvT) (l.take i) (by omega);have an:=QE g.k (fun x y z hz h0=>by have:=(g.meldμ x y z hz).1;omega) (l.take i);have bk:=Gc g.k (l.take i);rw[List.length_take,Nat.min_eq_left hi] at bk;generalize hx:l[i]=x at hr hc bc bd I;generalize g.k.melded (l.take i)=L at ho I cd an bk;have O:=CD (g:=g) x;have ch:=cells_one (g:=g) x;refine AY J (Ah O (fun j u hu=>by rw[Addr.add_add];exact g1.cell (hc j u hu) fun h=>h) ?_);refine Bx.new O g.zlen ch fun b6 w4 ef g4 B6=>?_;have a8:Grow w4 w4.drew:=Mod.drew _ _;have bl:=(g1.trans g4).trans a8;obtain⟨c,pl,fr,hT⟩:=id h;have cn:=hT.mod bl fun _ _ h=>h;have bp:=B6.grow a8;have s1:=g1.size;have s4:=g4.size;have cv:=B6.lt (by rw[O];exact g.Epos);have eh:∀y,C y->y<W.heap.size:=fun y V=>h.lt y (.inr V);refine Ag (fun _ _=>False) ?_;refine AH ?_;rw[AG,AI,AG,AI];refine Aa ⟨cn.box.cells 0 _ rfl,fun _ _ e=>e⟩ ?_;refine CO O (fun j v hv=>⟨by rw[AI];exact bp.cells j v hv,fun _ _ e=>e⟩) ?_;have cx:∀{w},BF prog DH g.vm [.agg (g.cells x).toArray] (fun v w'=>v=.tuple #[.int .i64 (g.k.μ x).1,.int .i64 (g.k.μ x).2]/\Grow w w') w:=fun{w}=>by
  have:=g.meas (C:=C) (w:=w) (x:=x) (g.Rc.2 rfl);rwa [Re] at this
 refine Ar cx ?_;rintro _ w5 ⟨rfl,g5⟩;refine⟨g5.mono fun _ _ h=>h.elim,?_⟩;refine BQ ?_;have ak:=bl.trans g5;have b1:=bp.grow g5;have Z:AF W.heap.size g.te g.E (g.R C) w5 out L:=AF.mod ho ((g4.trans a8).trans g5) (fun _ _ h=>h) fun r y _ V=>g.Rc.2 (g.Rc.1 V);have ej:l.length<=109951162777:=hl;rw[Am];refine AE (fun h0=>?_) fun h0=>?_
 .have al:(g.k.μ x).1=0:=by omega
  rw[AR,AQ (by omega)];refine⟨⟨i+1,out,J,rfl,?_,ak⟩,by rw[BL,BL];omega⟩;rw[I];unfold Kd.CB;rw[if_pos al];exact Z
 have al:(g.k.μ x).1≠0:=by omega
 refine AU (fun _ W'=>Grow W W'/\AF W.heap.size g.te g.E (g.R C) W' out L/\Bx W' b6 (g.cells x)/\g.k.CB L x=L++[x]) ?_ ?_
 .rintro _ W6 ⟨Q,a1,dk,em⟩ _;refine dk.Ey O ?_;have bs:=DR (v:=.agg (g.cells x).toArray) (vs:=g.cells x) g.zlen g.Epos rfl O;have dT:=g.eb_le;refine DQ g.elE a1 Q.size (cs:=g.cells x) (x:=x) bs O (g.Rc.2 rfl) (fun _ _ _ V=>g.rone V) (fun _ _ r y _ _ V=>g.Rc.2 (g.Rc.1 V)) ?_ (by simp only[maxLen];omega) fun v' w7 e1 m7 ek=>?_
  .have:(L.length+1)*g.eb<=(L.length+1)*512:=Nat.mul_le_mul_left _ dT;omega
  rw[AR,AQ (by omega)];refine⟨⟨i+1,v',J,rfl,by rw[I,em];exact e1,Q.next m7 fun y V e=>by have:=(AF.BI a1 y e).1;omega⟩,by rw[BL,BL];omega⟩
 obtain⟨oa,oc,rfl,ep,er,e2,e3⟩:=Z.shape;rw[AS,Av,wrap64 (by omega) (by omega),Dq];refine AE (fun ca=>?_) fun e4=>?_;rotate_left
 .have e5:L=[]:=List.eq_nil_of_length_eq_zero (by omega);refine⟨ak,Z,b1,?_⟩;unfold Kd.CB;rw[if_neg al,e5];rfl
 have b2:0<L.length:=by omega
 obtain⟨o,y,a6⟩:∃o y,L=o++[y]:=⟨L.dropLast,L.getLast (List.length_pos_iff.1 b2),(List.dropLast_concat_getLast _).symm⟩;have T:L.length=o.length+1:=by rw[a6];simp
 have a7:L.length-1<L.length:=by omega
 have e6:L[L.length-1]=y:=by
  have:L[L.length-1]?=some y:=by rw[T,a6];simp
  exact Option.some.inj ((List.getElem?_eq_getElem a7).symm.trans this)
 have bx:y∈L:=by rw[a6];simp
 have B:g.k.CB L x=match g.k.meld y x with|some z=>o++[z]|none=>L++[x]:=by
  unfold Kd.CB;rw[if_neg al,a6];simp only[List.getLast?_append,List.getLast?_singleton,Option.some_or,List.dropLast_concat];cases g.k.meld y x<;>rfl
 cases oa with
 |none=>have:=e3 rfl;rw[this] at b2;simp at b2
 |some q=>
  obtain⟨gb,rfl,et,eu,ew⟩:=e2 q rfl;have en:((L.length:Int)-1)=((L.length-1:Nat):Int):=by omega
  rw[en];have e4:gb≠b6:=fun e=>by
   have:=(AF.BI ho gb rfl).2;omega
  refine AU (fun vs W'=>∃U,vs=[.pointer (some ⟨U,0,none⟩),.bool (g.k.meld y x).isSome]/\Grow w5 W'/\∀z,g.k.meld y x=some z->Bx W' U (g.cells z)) ?_ ?_
  .rintro _ W6 ⟨U,rfl,Q,hz⟩ _;simp only[GA];have a1:AF W.heap.size g.te g.E (g.R C) W6 (.slice (some ⟨gb,0,none⟩) L.length oc) L:=AF.mod Z Q (fun _ _ h=>h) fun r y _ V=>g.Rc.2 (g.Rc.1 V);have c4:=ak.trans Q;cases b3:g.k.meld y x with
   |none=>
    rw[b3] at B;exact AT ⟨c4,a1,b1.grow Q,B⟩
   |some z=>
    rw[b3] at B;refine Ao ?_;refine(hz z b3).Ey (CD z) ?_;refine AY a7 ?_;have key:=AF.Mm (R':=g.R C) (x':=z) (p:=0) (vs:=g.cells z) (K:=fun b4=>AX .i64 (.int .i64 (i:Int)) (.int .i64 1) fun c6=>(∃(i':Nat) (av:Value),i'<=l.length/\[Value.slice (some ⟨gb,0,none⟩) L.length oc,c6]=[av,.int .i64 (i':Int)]/\AF W.heap.size g.te g.E (g.R C) b4 av (g.k.melded (l.take i'))/\Grow W b4)/\l.length-Dr [Value.slice (some ⟨gb,0,none⟩) L.length oc,c6] 1<l.length-Dr [Value.slice (some ⟨gb,0,none⟩) L.length oc,.int .i64 (i:Int)] 1) a1 a7 (CD z) (by omega) (cells_one z) (fun w' r y' _ _ e7=>g.Rc.2 (g.Rc.1 e7)) (fun w' r _ _ b5 _=>by rw[KI (by rw[CD,b5])];exact g.Rc.2 rfl) fun b4 ax e8=>?_
    .rw[Nat.add_zero] at key;exact key
    .rw[AR,AQ (by omega)];refine⟨⟨i+1,_,J,rfl,?_,c4.next e8 fun b' eA e=>by simp only at e;omega⟩,by rw[BL,BL];omega⟩;rw[I,B];have:L.set (L.length-1) z=o++[z]:=by rw[T,a6];simp
     rw[this] at ax;have el:(o++[z]).length=L.length:=by simp[T]
     exact ax
  .have X:Grow w5 w5.drew:=Mod.drew _ _;have e9:=hT.mod (ak.trans X) fun _ _ h=>h;have hd:=(AF.mod (R':=g.R C) Z X (fun _ _ h=>h) fun r y _ V=>g.Rc.2 (g.Rc.1 V)).sl;obtain⟨q',r',e',eB,b5,ea,c7⟩:=hd.get a7;cases e';have ay:=g.Rc.1 c7;rw[e6] at ay;subst ay;have s5:=X.size;have eC:=g5.size;have eI:=a8.size;have ec:=hT.box.lt (Nat.succ_pos _);have gm:∀{W1 W2:World},Grow W1 W2->Mod (fun y=>w5.drew.heap.size<=y) W1 W2:=fun g=>g.mono fun _ _ h=>h.elim;have eL:=Zc (g:=g.toAvT) bx;have c8:∀{w},BF prog DH g.vd [.agg (g.cells y).toArray,.agg (g.cells x).toArray] (fun v w'=>Grow w w'/\∃r,r.length=g.E/\(∀u∈r,u.oneCell'=true)/\v=.tuple #[.agg r.toArray,.bool (g.k.meld y x).isSome]/\∀z,g.k.meld y x=some z->r=g.cells z) w:=g.meldc (an y bx) (by omega) (by omega);refine Ag (fun _ y=>w5.drew.heap.size<=y) ?_;refine AH ?_;rw[AG,AI,AG,AI];refine Aa ⟨e9.box.cells 2 _ rfl,fun _ _ e=>by simp only at e;omega⟩ ?_;refine AY a7 ?_;refine CO b5 (fun j v hv=>⟨by rw[Addr.add_add];exact ea j v hv,fun _ _ e=>by rw[Addr.add_add,AI] at e;simp only at e;omega⟩) ?_;refine CO O (fun j v hv=>⟨by rw[AI];exact(b1.grow X).cells j v hv,fun _ _ e=>by rw[AI] at e;simp only at e;omega⟩) ?_;refine⟨?_,?_⟩
   .refine Ar c8 ?_;rintro _ w6 ⟨Q,r,b7,b8,rfl,b9⟩;refine⟨gm Q,BQ ?_⟩;refine Bx.zero fun U w7 b0 g7 ba=>⟨gm g7,?_⟩;refine ba.over b7 g.zlen b8 fun w8 B8 m8=>⟨m8.mono fun x _ e=>by rw[e];have:=Q.size;omega,?_⟩;have s6:=Q.size;exact⟨U,rfl,((X.trans Q).trans g7).next m8 fun y V e=>by omega,fun z hz=>by rw[<-b9 z hz];exact B8⟩
   .refine Bx.zero fun U w7 b0 g7 ba=>⟨gm g7,?_⟩;refine Ar c8 ?_;rintro _ w6 ⟨Q,r,b7,b8,rfl,b9⟩;refine⟨gm Q,BQ ?_⟩;refine(ba.grow Q).over b7 g.zlen b8 fun w8 B8 m8=>⟨m8.mono fun x _ e=>by rw[e];exact b0,?_⟩;exact⟨U,rfl,((X.trans g7).trans Q).next m8 fun y V e=>by omega,fun z hz=>by rw[<-b9 z hz];exact B8⟩
end Go.Proofs.YtmdhibffnkhcnaaGreatDoor
namespace Go.Proofs.YtmdhibffnkhcnaaGreatDoor
open Go Go.K Proofs.Tryz
variable {α:Type}{g:AvT α}
theorem HH.eY{F i C:Nat->Prop}{W j w2:World}{b:Nat}{o:Int}{y B:ArS α}{L:List α}{I:List Nat}{t:Tr α}(O:∀x,F x->i x)(E:∀x,i x->F x\/W.heap.size<=x)(J:Mod (Fb F b) W j)(S:V1 g i C j w2 b o y L I t B):Mod (Fb F b) W w2:=
 J.next S.mod fun x Q e=>by
  rcases E x e.1 with e'|e'
  .exact⟨e',e.2⟩
  .omega
structure dy (g:AvT α) (F C:Nat->Prop) (W:World) (b:Nat) (rt:Int) (A:ArS α) (al bl L:List α) (a' b':Tr α) (mv:Value) (W':World) (A':ArS α) (F':Nat->Prop):Prop where
 k1:∀x,F x->F' x
 k2:∀x,F' x->F x\/W.heap.size<=x
 Dl:DL g F' C W' b rt A'
 mod:Mod (Fb F b) W W'
 ha:Tr.Holds g.k.μ A'.f a'
 hb:Tr.Holds g.k.μ A'.f b'
 G7:(a'.idx++b'.idx).Nodup
 row:AF W.heap.size g.te g.E (g.R C) W' mv L
 nF:∀x,mv.ownBlock=some x->¬F' x
 ta:a'.toL=al
 tb:b'.toL=bl
 len:A'.ps.length<=A.ps.length+2
def Vu(g:AvT α)(F C:Nat->Prop)(W w':World)(b:Nat)(i:Int)(A:ArS α):Prop:=∃F',(∀x,F x->F' x)/\(∀x,F' x->F x\/W.heap.size<=x)/\DL g F' C w' b i A/\Mod F W w'
def QQ(g:AvT α):Prop:=∀{F C S:Nat->Prop} {W:World} {b i j:Nat} {A:ArS α} {T:Tr α} {v:Value} {L:List α},DL g F C W b T.root A->A.ps.length+L.length<=109951162000->Tr.Holds g.k.μ A.f T->Tr.FQ T->BH S g.E (g.R C) W v L->(∀x,S x->¬F x)->i<=j->j<=1099511627776->
 Dg g T.toL->Dg g (g.k.Bn T.toL i j L)->Dg g ((g.k.split T.toL i).1.getLast?.toList++L++(g.k.split (g.k.split T.toL i).2 (j-i)).2.head?.toList)->
 AB prog g.fReplace [.pointer (some ⟨b,0,none⟩),.int .i64 (i:Int),.int .i64 (j:Int),v] (fun _ w'=>∃o y,o.toL=g.k.Bn T.toL i j L/\Vu g F C W w' b o.root y/\Tr.Holds g.k.μ y.f o/\Tr.FQ o/\y.ps.length<=A.ps.length+L.length+4) W
theorem AF.GC{B e k:Nat}{F C:Nat->Prop}{W W':World}{b:Nat}{i:Int}{A:ArS α}{v:Value}{l:List α}(h:AF B e k (g.R C) W v l)(ht:DL g F C W b i A)(hm:Mod (Fb F b) W W')(j:∀x,v.ownBlock=some x->¬F x):AF B e k (g.R C) W' v l:=
 AF.mod h hm (fun x o e=>j x o e.1) fun r y _ E=>g.BR E hm fun z _ I e=>ht.Hy z e.1 I
def da(g:AvK)(KK:Value->Value->Value->World->Prop)(v0 v1 v2 v3:Value)(w:World):Prop:=
 AJ v0 fun t22=>
 AM 4 t22 fun Q=>
 AK Q (fun S w1=>
 AB prog g.fsplit [v0,S,v1] (fun x w2=>
 AO 0 x fun j=>
 AO 1 x fun T=>
 BW .i64 v2 v1 fun U=>
 AB prog g.fsplit [v0,T,U] (fun y w3=>
 AO 0 y fun V=>
 AO 1 y fun o=>
 AB prog g.fdrop [v0,V] (fun _t40 w4=>
 Aq (fun vs w5=>∀_:Env,
 runK prog (Builtin.append_ #[g.ts,g.ts] g.ts [(nth vs 1),v3].toArray) (fun B w6=>
 Aq (fun i w7=>∀_:Env,
 AB prog g.fmelded [v0,(nth i 1)] (fun t76 w8=>KK (nth vs 0) (nth i 0) t76 w8) w7) (fun I=>
 Dx .i64 o (.int .i64 (-1)) fun X=>
 AD X
 (AB prog g.ffirst [v0,o] (fun O Y=>
 AO 0 O fun Z=>
 AO 1 O fun t66=>
 AB prog g.fpick [v0,t66] (fun a1 a6=>
 Bc g.te g.E 1 g.zE [(0,a1)] (fun a7 a8=>
 runK prog (Builtin.append_ #[g.ts,g.ts] g.ts [B,a7].toArray) (fun ak al=>
 I [Z,ak] al) a8) a6) Y) w6)
 (I [o,B] w6))) w5) (fun J=>
 Dx .i64 j (.int .i64 (-1)) fun an=>
 AD an
 (AB prog g.flast [v0,j] (fun t46 av=>
 AO 0 t46 fun ax=>
 AO 1 t46 fun ay=>
 AB prog g.fpick [v0,ay] (fun t53 b0=>
 Bc g.te g.E 1 g.zE [(0,t53)] (fun b1 b2=>
 runK prog (Builtin.append_ #[g.ts,g.ts] g.ts [(.slice none 0 0),b1].toArray) (fun t55 b3=>
 J [ax,t55] b3) b2) b0) av) w4)
 (J [j,(.slice none 0 0)] w4))) w3) w2) w1) w
set_option maxRecDepth 4000 in
theorem PH{F C S:Nat->Prop}{W:World}{b i j:Nat}{A:ArS α}{T:Tr α}{v:Value}{L:List α}{KK:Value->Value->Value->World->Prop}(bp:NF g)(bs:QK g)(ef:K4 g)(bx:∀l p,Dg g l->Dg g (g.k.split l p).1/\Dg g (g.k.split l p).2)
 (h:DL g F C W b T.root A)(hs:A.ps.length+L.length<=109951162000)(hh:Tr.Holds g.k.μ A.f T)(hu:Tr.FQ T)(hv:BH S g.E (g.R C) W v L)(hS:∀x,S x->¬F x)(ff:i<=j)(hj:j<=1099511627776)
 (c4:Dg g T.toL)(c6:Dg g ((g.k.split T.toL i).1.getLast?.toList++L++(g.k.split (g.k.split T.toL i).2 (j-i)).2.head?.toList))
 (hK:∀J U mv W' A' F',dy g F C W b T.root A (g.k.split T.toL i).1.dropLast (g.k.split (g.k.split T.toL i).2 (j-i)).2.tail (g.k.melded ((g.k.split T.toL i).1.getLast?.toList++L++(g.k.split (g.k.split T.toL i).2 (j-i)).2.head?.toList)) J U mv W' A' F'->KK (.int .i64 J.root) (.int .i64 U.root) mv W') :
  da g.toAvK KK (.pointer (some ⟨b,0,none⟩)) (.int .i64 (i:Int)) (.int .i64 (j:Int)) v W:=by
 unfold da;have eh:=h.lt;have V:∀y,C y->y<W.heap.size:=fun y X=>eh y (.inr X);obtain⟨c,pl,fr,hT⟩:=id h;refine AH ?_;refine Bm (hT.box.cells 4 _ rfl) ?_;refine AA (bp T h (by omega) hh hu c4 (p:=i) (by omega)) ?_;rintro _ w2 ⟨a,a1,A1,rfl,S1⟩;refine BQ ?_;rw[Av,wrap64 (by omega) (by omega),show((j:Int)-(i:Int))=((j-i:Nat):Int) by omega];obtain⟨F1,x1,x2,h1,m1⟩:=S1.cD;obtain⟨n1,n2,n3⟩:=List.nodup_append.1 S1.G7;have l1:=S1.len;have b4:=bx T.toL i c4;refine AA (bp a1 h1 (by omega) S1.hr n2 (by rw[S1.r1];exact b4.2) (p:=j-i) (by omega)) ?_;rintro _ w3 ⟨gone,bt,A2,rfl,S2⟩;refine BQ ?_;obtain⟨F2,y1,y2,h2,m2⟩:=S2.cD;obtain⟨o1,o2,o3⟩:=List.nodup_append.1 S2.G7;have l2:=S2.len;have ej:=bx (g.k.split T.toL i).2 (j-i) b4.2;have al:∀q∈a.idx,q∉a1.idx/\q∉gone.idx++bt.idx:=fun q I=>by
  have hr:q∉a1.idx:=fun e=>n3 q I q e rfl;refine⟨hr,fun e=>?_⟩;rcases S2.idx q e with e|e
  .exact hr e
  .obtain⟨m,hm⟩:=S1.hl.has g.k.μ I;rw[hm] at e;cases e
 have ek:Tr.Holds g.k.μ A2.f a:=S1.hl.frame g.k.μ fun q I=>S2.same q (al q I).1 (al q I).2;refine AA (TJ gone h2 (by omega) S2.hl o1) ?_;rintro _ w4 ⟨A3,T3,c7,l3⟩;obtain⟨F3,z1,z2,h3,m3⟩:=T3;have en:Tr.Holds g.k.μ A3.f a:=ek.frame g.k.μ fun q I=>c7 q fun e=>(al q I).2 (List.mem_append_left _ e);have c8:Tr.Holds g.k.μ A3.f bt:=S2.hr.frame g.k.μ fun q I=>c7 q fun e=>o3 q e q I rfl;have an:(a.idx++bt.idx).Nodup:=List.nodup_append.2 ⟨n1,o2,fun q I q' a6 e=>(al q I).2 (List.mem_append_right _ (e▸a6))⟩;have s1:=m1.size;have s2:=m2.size;have s3:=m3.size;have c9:∀x,F x->F3 x:=fun x o=>z1 x (y1 x (x1 x o));have b5:∀x,F3 x->F x\/W.heap.size<=x:=fun x o=>by
  rcases z2 x o with e|e
  .rcases y2 x e with e|e
   .exact x2 x e
   .exact .inr (by omega)
  .exact .inr (by omega)
 have ca:Mod (Fb F b) W w4:=by
  refine(m1.next m2 fun x o e=>?_).next m3 fun x o e=>?_
  .rcases x2 x e.1 with e'|e'
   .exact⟨e',e.2⟩
   .omega
  .rcases y2 x e.1 with e'|e'
   .rcases x2 x e' with e'|e'
    .exact⟨e',e.2⟩
    .omega
   .omega
 have ea:a.toL=(g.k.split T.toL i).1:=S1.l1;have eb:bt.toL=(g.k.split (g.k.split T.toL i).2 (j-i)).2:=by rw[S2.r1,S1.r1]
 have cc:Dg g a.toL:=by rw[ea];exact b4.1
 have cd:Dg g bt.toL:=by rw[eb];exact ej.2
 rw [<-ea,<-eb] at c6 hK;have ch:=g.eb_le;have ay:∀ (w:World) (r:List Value) (y:α),g.R C w r y->∀ u ∈ r,u.oneCell'=true:=fun _ _ _ X=>g.rone X;have cn:∀ r:List Value,r.length=g.E->(g.toAvK.enc r).cells=r.toArray->Instr.fill (fun i=>some (i * g.E,g.E)) ((Array.range (1 * g.E)).map (g.zE.toArray[· % g.zE.toArray.size]!)) [(0,g.toAvK.enc r)]=some r.toArray:=fun r hr hc=>DR g.zlen g.Epos hc hr;refine AU (fun vs W'=>∃ (J:Tr α) (av:Value) (A4:ArS α) (F4:Nat->Prop),vs=[.int .i64 J.root,av]/\(∀ x,F x->F4 x)/\(∀ x,F4 x->F x\/W.heap.size<=x)/\DL g F4 C W' b T.root A4/\Mod (Fb F b) W W'/\Tr.Holds g.k.μ A4.f J/\Tr.Holds g.k.μ A4.f bt/\(J.idx++bt.idx).Nodup/\
  AF W.heap.size g.te g.E (g.R C) W' av a.toL.getLast?.toList/\(∀ x,av.ownBlock=some x->¬ F4 x)/\J.toL=a.toL.dropLast/\A4.ps.length<=A.ps.length+2) ?_ ?_
 rotate_left
 .rw[Bh];refine AZ (fun e=>?_) fun e=>?_
  .have el:a=.nil:=by
    cases a with
    |nil=>rfl
    |node x q z y=>simp only[Tr.root] at e;omega
   subst el;exact⟨.nil,_,A3,F3,rfl,c9,b5,h3,ca,trivial,c8,an,AF.nil,(fun _ o=>nomatch o),rfl,by omega⟩
  .have cv:a≠.nil:=fun e'=>by subst e';exact e rfl
   refine AA (PC a cv h3 (by omega) en n1 cc) ?_;rintro _ fg ⟨J,k,m,A4,rfl,E4,e4⟩;refine BQ ?_;have l4:=E4.len;have b0:∀q,q∈J.idx\/q=k->q∈a.idx:=fun q I=>E4.idx.mem_iff.1 (by rcases I with I|rfl<;>simp[*]);refine AA (bs E4.Dl (by omega) E4.PZ) ?_;rintro _ ep ⟨r,rfl,hr,Y,u1,u2,h5,m5⟩;have a7:=g.rlen hr;have s4:=E4.mod.size;have s5:=m5.size;have a8:=ArS.QD E4.PZ;have b6:Tr.Holds g.k.μ (A4.free k).f J:=by rw[a8];exact E4.holds.out g.k.μ _ (E4.G7 n1).2
   have b7:Tr.Holds g.k.μ (A4.free k).f bt:=by
    rw[a8];refine(c8.frame g.k.μ fun q I=>E4.same q fun e=>(List.nodup_append.1 an).2.2 q e q I rfl).out g.k.μ _ fun e=>?_;exact(List.nodup_append.1 an).2.2 k (b0 k (.inr rfl)) k e rfl
   have b8:Mod (Fb F b) W ep:=by
    have cx:∀x,x<W.heap.size->Fb F3 b x->Fb F b x:=fun x o e=>by
     rcases b5 x e.1 with e'|e'
     .exact⟨e',e.2⟩
     .omega
    exact(ca.next E4.mod cx).next m5 cx
   refine DQ (R:=g.R C) g.elE (AF.nil (B:=W.heap.size)) b8.size (cs:=r) (x:=m.x) (cn r a7 (g.rcell hr)) a7 hr ay (fun w1 w2 r y hw hm X=>g.BR X hm fun z hz hC e=>?_) (by simp only[List.length_nil];omega) (by simp[maxLen]) fun av er ho dk hn=>?_
   .rcases e with e|e
    .cases e
    .have:=V z hC;have:=b8.size;omega
   have et:DL g Y C er b T.root (A4.free k):=h5.mod dk fun x o e=>nomatch e
   refine⟨J,av,A4.free k,Y,rfl,fun x o=>u1 x (c9 x o),fun x o=>?_,et,b8.next dk (fun x o e=>nomatch e),b6,b7,?_,?_,fun x o hF=>?_,?_,?_⟩
   .rcases u2 x o with e|e
    .exact b5 x e
    .exact .inr (by omega)
   .refine List.nodup_append.2 ⟨(E4.G7 n1).1,o2,fun q I q' a6 e=>?_⟩;exact(List.nodup_append.1 an).2.2 q (b0 q (.inl I)) q' a6 e
   .rw[e4];simpa using ho
   .rcases hn x o with e|e
    .cases e
    .have:=h5.lt x (.inl hF);omega
   .rw[e4];simp
   .simp only[ArS.free,List.length_set];omega
 rintro _ W5 ⟨J,av,A4,F4,rfl,f1,f2,h4,m4,dT,eu,ak,ax,b1,ta,l4⟩ _;simp only[GA];have ew:BH (fun x=>S x/\x<W.heap.size) g.E (g.R C) W v L:=hv.G6 g.Epos;have eA:BH (fun x=>S x/\x<W.heap.size) g.E (g.R C) W5 v L:=BH.mod ew m4 (fun x _ o e=>hS x o.1 e.1) g.Epos fun r y X=>g.BR X m4 fun z _ hz e=>h.Hy z e.1 hz;have fh:a.toL.getLast?.toList.length<=1:=by cases a.toL.getLast?<;>simp
 have e1:(a.toL.getLast?.toList.length+L.length) * g.eb<=(a.toL.getLast?.toList.length+L.length) * 512:=Nat.mul_le_mul_left _ ch;obtain ⟨e3,w6,r6,b9,eB,eC⟩:=AF.append (P:=prog) (ty:=g.ts) g.elE ax eA (fun r y X=>g.rone X) (by omega) m4.size (by simp only [maxLen];omega) (fun w' eI r y X=>g.BR X (Mod.of_grownBy eI) fun z hz hC e=>by
  have:=(AF.BI ax z e).1;have:=V z hC;omega)
 refine Ai r6 ?_;have m6:=Mod.of_grownBy eB;have h6:DL g F4 C w6 b T.root A4:=h4.mod m6 fun x o e=>by
  rcases o with o|o
  .exact b1 x e o
  .have:=(AF.BI ax x e).1;have:=V x o;omega
 have ba:Mod (Fb F b) W w6:=m4.next m6 fun x o e=>by have:=(AF.BI ax x e).1;omega
 have O:∀x,e3.ownBlock=some x->¬F4 x:=fun x o hF=>by
  rcases eC x o with e|e
  .exact b1 x e hF
  .have:=h4.lt x (.inl hF);omega
 have fe:(a.toL.getLast?.toList++L).length<=L.length+1:=by rw[List.length_append];omega
 refine AU (fun vs W'=>∃ (U:Tr α) (Z:Value) (A5:ArS α) (Y:Nat->Prop),vs=[.int .i64 U.root,Z]/\(∀ x,F x->Y x)/\(∀ x,Y x->F x\/W.heap.size<=x)/\DL g Y C W' b T.root A5/\Mod (Fb F b) W W'/\Tr.Holds g.k.μ A5.f J/\Tr.Holds g.k.μ A5.f U/\(J.idx++U.idx).Nodup/\
  AF W.heap.size g.te g.E (g.R C) W' Z (a.toL.getLast?.toList++L++bt.toL.head?.toList)/\(∀ x,Z.ownBlock=some x->¬ Y x)/\U.toL=bt.toL.tail/\A5.ps.length<=A.ps.length+2) ?_ ?_
 rotate_left
 .rw[Bh];obtain⟨_,fi,bc⟩:=List.nodup_append.1 ak;refine AZ (fun e=>?_) fun e=>?_
  .have el:bt=.nil:=by
    cases bt with
    |nil=>rfl
    |node x q z y=>simp only[Tr.root] at e;omega
   subst el;exact⟨.nil,_,A4,F4,rfl,f1,f2,h6,ba,dT,trivial,ak,by simpa[Tr.toL] using b9,O,rfl,l4⟩
  .have e6:bt≠.nil:=fun e'=>by subst e';exact e rfl
   refine AA (TE bt e6 h6 (by omega) eu o2 cd) ?_;rintro _ fj ⟨U,k,m,A5,rfl,E5,e5⟩;refine BQ ?_;have l5:=E5.len;have b2:∀q,q∈U.idx\/q=k->q∈bt.idx:=fun q I=>E5.idx.mem_iff.1 (by rcases I with I|rfl<;>simp[*]);have e7:=AF.GC (g:=g) b9 h6 E5.mod O;refine AA (bs E5.Dl (by omega) E5.PZ) ?_;rintro _ eL ⟨r,rfl,hr,Y,u1,u2,e8,bd⟩;have a7:=g.rlen hr;have s6:=E5.mod.size;have s7:=bd.size;have fk:=ba.size;have a8:=ArS.QD E5.PZ;have Q:=AF.GC (g:=g) e7 E5.Dl bd O;have b6:Tr.Holds g.k.μ (A5.free k).f J:=by
    rw[a8];refine(dT.frame g.k.μ fun q I=>E5.same q fun e=>bc q I q e rfl).out g.k.μ _ fun e=>?_;exact bc k e k (b2 k (.inr rfl)) rfl
   have b7:Tr.Holds g.k.μ (A5.free k).f U:=by rw[a8];exact E5.holds.out g.k.μ _ (E5.G7 o2).2
   have bk:Mod (Fb F b) W eL:=by
    have e9:∀x,x<W.heap.size->Fb F4 b x->Fb F b x:=fun x o e=>by
     rcases f2 x e.1 with e'|e'
     .exact⟨e',e.2⟩
     .omega
    exact(ba.next E5.mod e9).next bd e9
   have b3:∀x,e3.ownBlock=some x->¬Y x:=fun x o hF=>by
    rcases u2 x hF with e|e
    .exact O x o e
    .have:=(AF.BI b9 x o).2;omega
   have e2:((a.toL.getLast?.toList++L).length+1)*g.eb<=((a.toL.getLast?.toList++L).length+1)*512:=Nat.mul_le_mul_left _ ch;refine DQ (R:=g.R C) g.elE Q bk.size (cs:=r) (x:=m.x) (cn r a7 (g.rcell hr)) a7 hr ay (fun w1 w2 r y hw hm X=>g.BR X hm fun z hz hC e=>?_) (by omega) (by simp only[maxLen];omega) fun Z eN ho ec hn=>?_
   .rcases e with e|e
    .have:=(AF.BI Q z e).1;have:=V z hC;omega
    .have:=V z hC;have:=bk.size;omega
   have eR:DL g Y C eN b T.root (A5.free k):=e8.mod ec fun x o e=>by
    rcases o with o|o
    .exact b3 x e o
    .have:=(AF.BI Q x e).1;have:=V x o;omega
   refine⟨U,Z,A5.free k,Y,rfl,fun x o=>u1 x (f1 x o),fun x o=>?_,eR,bk.next ec (fun x o e=>by have:=(AF.BI Q x e).1;omega),b6,b7,?_,?_,fun x o hF=>?_,?_,?_⟩
   .rcases u2 x o with e|e
    .exact f2 x e
    .exact .inr (by omega)
   .refine List.nodup_append.2 ⟨(List.nodup_append.1 ak).1,(E5.G7 o2).1,fun q I q' a6 e=>?_⟩;exact bc q I q' (b2 q' (.inl a6)) e
   .rw[e5];simpa using ho
   .rcases hn x o with e|e
    .exact b3 x e hF
    .have:=e8.lt x (.inl hF);omega
   .rw[e5];rfl
   .simp only[ArS.free,List.length_set];omega
 rintro _ W7 ⟨U,Z,A5,Y,rfl,p1,p2,h7,m7,eX,fa,ed,ee,fo,tb,l7⟩ _;simp only[GA];have fp:bt.toL.head?.toList.length<=1:=by cases bt.toL.head?<;>simp
 refine AA (ef h7 ee.sl (by rw[List.length_append];omega) c6) ?_;rintro mv w8 ⟨bl,g8⟩;have s7:=m7.size;refine hK J U mv w8 A5 Y ⟨p1,p2,h7.grow g8,m7.trans (g8.mono fun _ _ h=>h.elim),eX,fa,ed,AF.base bl fun x o=>by have:=(AF.BI bl x o).1;omega,fun x o hF=>?_,ta,tb,l7⟩;have:=(AF.BI bl x o).1;have:=h7.lt x (.inl hF);omega
end Go.Proofs.YtmdhibffnkhcnaaGreatDoor
namespace Go.Proofs.YtmdhibffnkhcnaaGreatDoor
open Go Go.K Proofs.Tryz
variable {α:Type}
structure Rl (g:AvT α) (F C:Nat->Prop) (W:World) (b:Nat) (rt:Int) (A:ArS α) (al bl M:List α) (b':Tr α) (mv:Value) (k:Nat) (t:Tr α) (W':World) (A':ArS α) (F':Nat->Prop):Prop where
 k1:∀x,F x->F' x
 k2:∀x,F' x->F x\/W.heap.size<=x
 Dl:DL g F' C W' b rt A'
 mod:Mod (Fb F b) W W'
 ht:Tr.Holds g.k.μ A'.f t
 hb:Tr.Holds g.k.μ A'.f b'
 G7:(t.idx++b'.idx).Nodup
 row:AF W.heap.size g.te g.E (g.R C) W' mv M
 nF:∀x,mv.ownBlock=some x->¬F' x
 tt:t.toL=al++M.take k
 tb:b'.toL=bl
 len:A'.ps.length<=A.ps.length+2+k
theorem dy.put{g:AvT α}{F C:Nat->Prop}{W:World}{b:Nat}{i:Int}{A:ArS α}{j o M:List α}{x y:Tr α}{B:Value}{W':World}{E:ArS α}{F':Nat->Prop}(h:dy g F C W b i A j o M x y B W' E F'):Rl g F C W b i A j o M y B 0 x W' E F':=
 ⟨h.k1,h.k2,h.Dl,h.mod,h.ha,h.hb,h.G7,h.row,h.nF,by rw[h.ta];simp,h.tb,by have:=h.len;omega⟩
theorem Rl.done{g:AvT α}{F C:Nat->Prop}{W:World}{b:Nat}{rt:Int}{A:ArS α}{U V M:List α}{E t:Tr α}{mv:Value}{W':World}{j:ArS α}{F':Nat->Prop}{N:Nat}{L:List α}(h:Rl g F C W b rt A U V M E mv M.length t W' j F')(hN:A.ps.length+M.length<=109951162500)(hL:U++M++V=L)(I:Dg g L)(hM:M.length+2<=N)(hF:F b) :
  AB prog g.fconcat [.pointer (some ⟨b,0,none⟩),.int .i64 t.root,.int .i64 E.root] (fun J O=>AJ (.pointer (some ⟨b,0,none⟩)) fun Q=>AM 4 Q fun S=>BB S J (fun T=>(fun(_:Value) w'=>∃y j,y.toL=L/\Vu g F C W w' b y.root j/\Tr.Holds g.k.μ j.f y/\Tr.FQ y/\j.ps.length<=A.ps.length+N) (.tuple #[]) T) O) W':=by
 have hl:=h.len;have X:=h.tt;rw[List.take_length] at X;have Y:t.toL++E.toL=L:=by rw[X,h.tb,hL]
 refine AA (Qb h.Dl (by omega) h.ht h.hb h.G7 (by rw[Y];exact I)) ?_;rintro _ w2 ⟨t2,A2,rfl,i⟩;obtain⟨c,pl,fr,B⟩:=i.Dl;refine AH ?_;rw[AG,AI];refine B.box.st (q:=4) (show 4<5 by decide) rfl rfl fun w3 B3 Z=>?_;have m2:=HH.eY h.k1 h.k2 h.mod i;refine⟨t2,A2,by rw[i.toL];exact Y,⟨F',h.k1,h.k2,⟨c,pl,fr,B3,?_,B.fb⟩,?_⟩,i.holds,i.idx.nodup_iff.2 h.G7,by rw[i.len];omega⟩
 .exact B.ar.mod Z fun x o e=>by
   rcases o with o|o
   .exact o.2 e
   .exact B.fb.2 (e▸o)
 .exact(m2.mono fun x _ e=>e.1).trans (Z.mono fun x _ e=>by rw[e];exact hF)
theorem Rl.step{g:AvT α}{F C:Nat->Prop}{W:World}{b:Nat}{Y:Int}{A:ArS α}{E bl M:List α}{J t:Tr α}{Z:Value}{k:Nat}{W' O:World}{i:ArS α}{F' y:Nat->Prop}(h:Rl g F C W b Y A E bl M J Z k t W' i F')(hk:k<M.length)(hN:A.ps.length+M.length<=109951162500)
 (q1:∀x,F' x->y x)(q2:∀x,y x->F' x\/W'.heap.size<=x)(h1:DL g y C O b Y (i.take ⟨M[k],0,0,0,0,0⟩))(m1:Mod (Fb F' b) W' O)(Q:Dg g (E++M)) :
  AB prog g.fjoin [.pointer (some ⟨b,0,none⟩),.int .i64 t.root,.int .i64 i.num,.int .i64 (-1)] (fun v2 W2=>∃X A2,v2=.int .i64 X.root/\Mod (Fb y b) O W2/\Rl g F C W b Y A E bl M J Z (k+1) X W2 A2 y) O:=by
 have hl:=h.len;obtain⟨B,S,tok⟩:=ArS.QO (⟨M[k],0,0,0,0,0⟩:Nd α) h.Dl.ok;obtain⟨u1,u2,u3⟩:=List.nodup_append.1 h.G7;have nt:i.num∉t.idx:=fun e=>by
  obtain⟨m,hm⟩:=h.ht.has g.k.μ e;rw[S] at hm;cases hm
 have nb:i.num∉J.idx:=fun e=>by
  obtain⟨m,hm⟩:=h.hb.has g.k.μ e;rw[S] at hm;cases hm
 have a1:Tr.Holds g.k.μ (i.take ⟨M[k],0,0,0,0,0⟩).f t:=by rw[B];exact h.ht.out g.k.μ _ nt
 have a6:Tr.Holds g.k.μ (i.take ⟨M[k],0,0,0,0,0⟩).f J:=by rw[B];exact h.hb.out g.k.μ _ nb
 have a7:(i.take ⟨M[k],0,0,0,0,0⟩).f i.num=some ⟨M[k],0,0,0,0,0⟩:=by rw[B,Tr.JJ]
 have T:Tr.FQ (.node t i.num M[k] .nil):=Tr.Az.2 ⟨u1,List.nodup_nil,nt,(fun e=>nomatch e),fun q _ e=>nomatch e⟩;have ax:=Ow i (⟨M[k],0,0,0,0,0⟩:Nd α);have a8:M.take (k+1)=M.take k++[M[k]]:=by rw[List.take_add_one];simp[hk]
 have eL:(Tr.node t i.num M[k] .nil).toL=E++M.take (k+1):=by rw[a8];simp only[Tr.toL,h.tt,List.append_assoc]
 have ak:Dg g (Tr.node t i.num M[k] .nil).toL:=by
  rw[eL];have e:E++M=(E++M.take (k+1))++M.drop (k+1):=by rw[List.append_assoc,List.take_append_drop]
  rw[e] at Q;exact Q.app.1
 refine AA (FE (l:=t) (r:=.nil) (t.DD+(Tr.nil:Tr α).DD) (Nat.le_refl _) h1 (by omega) a7 a1 trivial T ak) ?_;rintro _ W2 ⟨X,A2,rfl,j⟩;have s1:=h.mod.size;have s2:=m1.size;have w1:Mod (Fb F b) W O:=h.mod.next m1 fun x o e=>by
  rcases h.k2 x e.1 with e'|e'
  .exact⟨e',e.2⟩
  .omega
 have U:∀q∈J.idx,q∉(Tr.node t i.num M[k] .nil).idx:=fun q I e=>by
  simp only[Tr.idx,List.mem_append,List.mem_cons,List.not_mem_nil,or_false] at e;rcases e with e|e
  .exact u3 q e q I rfl
  .exact nb (e▸I)
 have an:∀x,x<W.heap.size->y x->F x:=fun x o e=>by
  rcases q2 x e with e|e
  .rcases h.k2 x e with e|e
   .exact e
   .omega
  .omega
 have V:∀x,Z.ownBlock=some x->¬y x:=fun x o e=>by
  rcases q2 x e with e|e
  .exact h.nF x o e
  .have:=(AF.BI h.row x o).2;omega
 refine⟨X,A2,rfl,j.mod,fun x o=>q1 x (h.k1 x o),fun x o=>?_,j.Dl,w1.next j.mod fun x o e=>⟨an x o e.1,e.2⟩,j.holds,a6.frame g.k.μ fun q I=>j.same q (U q I),?_,AF.GC (AF.GC h.row h.Dl m1 h.nF) h1 j.mod V,V,j.toL.trans eL,h.tb,by rw[j.len];omega⟩
 .rcases q2 x o with e|e
  .exact h.k2 x e
  .exact .inr (by omega)
 .exact List.nodup_append.2 ⟨j.idx.nodup_iff.2 T,u2,fun q I q' av e=>U q' av (e▸j.idx.mem_iff.1 I)⟩
variable {g:AvN α}
theorem UG(l:List α)(p:Nat)(h:Dg g.toAvT l):Dg g.toAvT (g.k.split l p).1/\Dg g.toAvT (g.k.split l p).2:=h.split p
def eQ(g:AvK)(v0:Value)(K:Cont):Value->Value->Value->World->Prop:=fun a0 b0 t76 w8=>Aj t76 fun t77=>
  Ay [a0,(.int .i64 0)] (fun i j w9=>∀_:Env,
  Bf .i64 (nth i 1) t77 fun I=>
  AD I
  (Be g.E t76 (nth i 1) fun J=>
  Ac g.E J (fun O Q=>
  Al g.te g.zE (fun y S=>
  Ab g.E y O (fun o=>
  Ax [8,9] [[],[],[],[2],[2,3],[2,3,4],[],[6],[2,3,4,5,6,7],[0,1,2,3,4,5,6,7,8],[0,1,2,3,4,5,6,7,8,9]] o.drew (fun M St=>
  AJ v0 fun T=>
  AM 3 T fun U=>
  BD (St 5) U fun V=>
  EG (St 6) g.E y fun X=>
  Af [(0,g.E),(g.E,1),(g.E+1,1),(g.E+2,1),(g.E+3,1),(g.E+4,1)] g.zN [(0,X)] fun Y=>
  AB prog g.aTake [V,Y] (fun Z x=>
  Mod (M 8) o.drew x/\
  AB prog g.fjoin [v0,(nth i 0),Z,(.int .i64 (-1))] (fun a1 B=>
  Mod (M 9) x B/\
  AX .i64 (nth i 1) (.int .i64 1) fun a6=>
  j [a1,a6] B) x) o.drew)) S) Q) w9)
  (AB prog g.fconcat [v0,(nth i 0),b0] (fun a7 a8=>
  AJ v0 fun ak=>
  AM 4 ak fun al=>
  BB al a7 (fun an=>K (.tuple #[]) an) a8) w9)) w8
theorem N8(g:AvK)(v0 v1 v2 v3:Value)(K:Cont)(w:World):PB g v0 v1 v2 v3 K w=da g (eQ g v0 K) v0 v1 v2 v3 w:=rfl
set_option maxRecDepth 4000 in
theorem Vr:QQ g.toAvT:=by
 intro F C S W b i j A T v L h hs Z hu hv hS a1 hj a6 E a7;apply g.okN.replace;rw[N8];refine PH Zo cm Yh UG h hs Z hu hv hS a1 hj a6 a7 ?_;intro a' b' mv W8 A8 F8 P;unfold eQ;have Q:=Gc g.k ((g.k.split T.toL i).1.getLast?.toList++L++(g.k.split (g.k.split T.toL i).2 (j-i)).2.head?.toList);have b5:(g.k.split T.toL i).1.getLast?.toList.length<=1:=by cases(g.k.split T.toL i).1.getLast?<;>simp
 have b6:(g.k.split (g.k.split T.toL i).2 (j-i)).2.head?.toList.length<=1:=by cases(g.k.split (g.k.split T.toL i).2 (j-i)).2.head?<;>simp
 rw[List.length_append,List.length_append] at Q;have U:=P.put;have V:(g.k.split T.toL i).1.dropLast++g.k.melded ((g.k.split T.toL i).1.getLast?.toList++L++(g.k.split (g.k.split T.toL i).2 (j-i)).2.head?.toList)++(g.k.split (g.k.split T.toL i).2 (j-i)).2.tail=g.k.Bn T.toL i j L:=rfl;generalize (g.k.split T.toL i).1.dropLast=al at U V;generalize (g.k.split (g.k.split T.toL i).2 (j-i)).2.tail=bl at U V;generalize g.k.melded ((g.k.split T.toL i).1.getLast?.toList++L++(g.k.split (g.k.split T.toL i).2 (j-i)).2.head?.toList)=M at U V Q;have a8:Dg g.toAvT (al++M):=by rw[<-V] at E;exact E.app.1
 obtain⟨ma,mc,ak,_⟩:=U.row.shape;subst ak;rw[AS];refine Ae (fun vs W'=>∃(k:Nat) (t:Tr α) (A':ArS α) (F':Nat->Prop),k<=M.length/\vs=[.int .i64 t.root,.int .i64 k]/\Rl g.toAvT F C W b T.root A al bl M b' (.slice ma M.length mc) k t W' A' F') (fun vs _=>M.length-Dr vs 1) ⟨0,a',A8,F8,Nat.zero_le _,rfl,U⟩ ?_;rintro vs W9 ⟨k,t,A9,F9,hk,rfl,O⟩ _;simp only[GA];refine Hq (fun b7=>?_) fun b8=>?_
 .have o:k<M.length:=by omega
  obtain ⟨q,r,rfl,hq,hr,hc,an⟩:=O.row.sl.get o;have av:=g.Rc.1 an;subst av;have B:=CD (g:=g) M[k];refine AY o (Ah B (fun j u hu=>by rw [Addr.add_add];exact hc j u hu) ?_);refine Bx.new B g.zlen (cells_one (g:=g) M[k]) fun ax I b4 ay X=>?_;have gd:Grow I I.drew:=Mod.drew _ _;have g9:=ay.trans gd;have b0:=O.Dl.grow g9;obtain ⟨c,pl,fr,hR⟩:=id b0;have b9:=O.len;have Y:=X.lt (by rw [B];exact g.Epos);have sd:=gd.size;refine Ag (fun _ y=>Fb F9 b y\/I.drew.heap.size<=y) ?_;refine AH ?_;rw [AG,AI];refine Aa ⟨hR.box.cells 3 _ rfl,fun _ _ e=>by
   rcases e with e|e
   .exact e.2 rfl
   .have:=hR.box.lt (Nat.succ_pos _);simp only at e;omega⟩ ?_
  refine CO B (fun j v hv=>⟨by rw [AI];exact (X.grow gd).cells j v hv,fun _ _ e=>by
   rw[AI] at e;rcases e with e|e
   .have:=O.Dl.lt ax (.inl e.1);omega
   .simp only at e;omega⟩) ?_
  refine⟨_,ZF B M[k],?_⟩;refine AA (Kc hR (n:=⟨M[k],0,0,0,0,0⟩) (g.Rc.2 rfl) (by omega)) ?_;rintro _ ba ⟨rfl,F1,q1,q2,b1,J⟩;have s9:=g9.size;have bc:=J.size;refine⟨J.mono fun x _ e=>.inl e,?_⟩;refine AA (Rl.step O o (by omega) q1 (fun x hx=>(q2 x hx).imp (fun h=>h) fun h=>by omega) b1 ((g9.mono fun _ _ h=>h.elim).trans J) a8) ?_;rintro _ bd ⟨t2,A2,rfl,b2,b3⟩;refine⟨b2.mono fun x _ e=>?_,?_⟩
  .rcases q2 x e.1 with e'|e'
   .exact .inl ⟨e',e.2⟩
   .exact .inr e'
  rw[AR,AQ (by omega)];exact⟨⟨k+1,t2,A2,F1,o,rfl,b3⟩,by rw[BL,BL];omega⟩
 .have:k=M.length:=by omega
  subst this;refine AA (Rl.done O (N:=L.length+4) (by omega) V E (by omega) h.fb) ?_;intro bk bp Z;exact Z
end Go.Proofs.YtmdhibffnkhcnaaGreatDoor
namespace Go.Proofs.YtmdhibffnkhcnaaGreatDoor
open Go Go.K Proofs.Tryz
structure Y3 (g:AvK):Prop where
 split:∀{v0 v1 v2 K w},Ni g v0 v1 v2 K w->AB prog g.fsplit [v0,v1,v2] K w
 pick:∀{v0 v1 K w},Va g v0 v1 K w->AB prog g.fpick [v0,v1] K w
 melded:∀{v0 v1 K w},Ol g v0 v1 K w->AB prog g.fmelded [v0,v1] K w
 replace:∀{v0 v1 v2 v3 K w},Mc g v0 v1 v2 v3 K w->AB prog g.fReplace [v0,v1,v2,v3] K w
 over:∀{v0 v1 v2 v3 v4 K w},QZ g v0 v1 v2 v3 v4 K w->AB prog g.fover [v0,v1,v2,v3,v4] K w
structure Av1 (α:Type) extends AvT α where
 one1:one=true
 ok1:Y3 toAvK
 μ1:∀x,k.μ x=(1,0)
 meld0:∀x y,k.meld x y=none
 meldc:∀{C w r s x y},R C w r x->R C w s y->BF prog DH vd [toAvK.enc r,toAvK.enc s] (fun v w'=>Grow w w'/\∃u,v=.tuple #[u,.bool false]) w
variable {α:Type}{g:Av1 α}
theorem E1:g.E=1:=g.E1 g.one1
theorem Uq{C:Nat->Prop}{w:World}{r:List Value}{x:α}(h:g.R C w r x):r=[g.toAvK.enc r]:=by
 have hl:=g.rlen h;rw[E1] at hl;unfold AvK.enc;rw[g.one1];match r,hl with
 |[a],_=>rfl
theorem dH:QK g.toAvT:=by
 intro F C W b i T A n h E o;apply g.ok1.pick;unfold Va;refine AA (P6 h o) ?_;rintro _ w2 ⟨r,rfl,hr,j⟩;refine Ai (g.field0 r (BP n) w2 (g.rlen hr) (g.rone hr) rfl) ?_;obtain⟨c,pl,fr,y⟩:=h.grow j;refine AH ?_;refine Bm (y.box.cells 3 _ rfl) ?_;refine AA (Ks y o E) ?_;rintro _ U ⟨F',I,J,O,B⟩;have V:=j.size;exact⟨r,rfl,g.BR hr B fun z _ Q e=>h.Hy z e.1 Q,F',I,fun x S=>(J x S).imp (fun h=>h) fun h=>by omega,O,(j.mono fun _ _ h=>h.elim).trans B⟩
theorem cH{a:Value}(ha:a.cells=#[a])(x:α):Instr.fill (fun i=>[(0,g.E),(g.E,1),(g.E+1,1),(g.E+2,1),(g.E+3,1),(g.E+4,1)][i]?) g.toAvK.zN.toArray [(0,a)]=some ([a]++BP (⟨x,0,0,0,0,0⟩:Nd α)).toArray:=by
 have j:=g.zlen;rw[Cf (l:=g.toAvK.zN) (vs:=[a]) (off:=0) (len:=g.E) rfl ha E1.symm (by rw[HP];omega),Er,AvK.zN,G8 (by rw[j,E1];rfl)];rfl
set_option maxRecDepth 4000 in
theorem WD:K4 g.toAvT:=by
 intro F C S W b rt A v l h hv hl hb;apply g.ok1.melded;unfold Ol;obtain⟨va,vc,rfl,hm⟩:=hv.shape;have an:=hv.G6 g.Epos;have av:∀y,C y->y<W.heap.size:=fun y o=>h.lt y (.inr o);rw[AS];refine Ae (fun vs W'=>∃(i:Nat) (out:Value),i<=l.length/\vs=[out,.int .i64 i]/\AF W.heap.size g.te g.E (g.R C) W' out (g.k.melded (l.take i))/\Grow W W') (fun vs _=>l.length-Dr vs 1)
  ⟨0,_,Nat.zero_le _,rfl,AF.nil,Mod.refl _ _⟩ ?_
 rintro vs W1 ⟨i,out,hi,rfl,ho,T⟩ _;simp only[GA];refine Hq (fun b9=>?_) fun ax=>?_;rotate_left
 .have:i=l.length:=by omega
  subst this;rw[List.take_length] at ho;exact⟨ho,T⟩
 have B:i<l.length:=by omega
 obtain⟨p,r,rfl,hS,hr,hc,Q⟩:=an.get B;have V:l.take (i+1)=l.take i++[l[i]]:=by rw[List.take_add_one];simp[B]
 have j:g.k.melded (l.take (i+1))=g.k.CB (g.k.melded (l.take i)) l[i]:=by rw[V,Js]
 have a6:=Gc g.k (l.take i);rw[List.length_take,Nat.min_eq_left hi] at a6;generalize hx:l[i]=x at Q j;generalize g.k.melded (l.take i)=L at ho j a6;have ay:g.k.CB L x=L++[x]:=by
  unfold Kd.CB;rw[g.μ1,if_neg (by decide)];cases L.getLast? with
  |none=>rfl
  |some y=>simp only[g.meld0]
 have er:=Uq Q;have I:=g.BR Q T fun _ _ _ h=>h;have J:=g.rcell Q;generalize g.toAvK.enc r=a at er J;subst er;have b0:W1.cell? (p.add (i*g.E))=some a:=T.cell (by have:=hc 0 a rfl;rwa [Nat.add_zero] at this) fun h=>h;refine AY B (AL b0 ?_);obtain⟨c,pl,fr,hT⟩:=id h;have b1:=hT.mod T fun _ _ h=>h;refine AH ?_;rw[AG,AI,AG,AI];refine AL (b1.box.cells 0 _ rfl) ?_;have b2:∀{w},Grow W1 w->BF prog DH g.vm [a] (fun v w'=>v=.tuple #[.int .i64 1,.int .i64 0]/\Grow w w') w:=fun{w} gw=>by
  have:=g.meas (C:=C) (w:=w) (x:=x) (g.BR I gw fun _ _ _ h=>h);rw[g.μ1,show g.toAvK.enc [a]=a by unfold AvK.enc;rw[g.one1];rfl] at this;exact this
 refine .inl (Ar (b2 (Mod.refl _ _)) ?_);rintro _ w4 ⟨rfl,g4⟩;refine BQ ?_;rw[Am];refine AE (fun e=>by cases e) fun _=>?_;have O:=T.trans g4;have kR:∀{w w':World} {r:List Value} {y:α},Grow W w->Grow w w'->g.R C w r y->g.R C w' r y:=fun _ gw o=>g.BR o gw fun _ _ _ h=>h;have X:AF W.heap.size g.te g.E (g.R C) w4 out L:=AF.mod ho g4 (fun _ _ h=>h) fun r y _ o=>kR T g4 o;have ba:l.length<=109951162777:=hl;refine AU (fun _ W'=>Grow w4 W') ?_ ?_
 .rintro _ W6 g6 _;have Y:AF W.heap.size g.te g.E (g.R C) W6 out L:=AF.mod X g6 (fun _ _ h=>h) fun r y _ o=>kR O g6 o;have Z:=O.trans g6;have b3:=g.eb_le;have a7:=DR (v:=a) (vs:=[a]) g.zlen g.Epos J (by rw[E1];rfl);refine DQ g.elE Y Z.size (cs:=[a]) (x:=x) a7 (by rw[E1];rfl) (kR T (g4.trans g6) I) (fun _ _ _ o=>g.rone o) (fun w1 w2 r y hw hm o=>g.BR o hm fun z hz hC e=>?_) ?_ (by simp only[maxLen];omega) fun v' w7 b4 m7 bc=>?_
  .have:=av z hC;rcases e with e|e
   .have:=(AF.BI Y z e).1;omega
   .have:=Z.size;omega
  .have:(L.length+1)*g.eb<=(L.length+1)*512:=Nat.mul_le_mul_left _ b3;omega
  rw[AR,AQ (by omega)];refine⟨⟨i+1,v',B,rfl,by rw[j,ay];exact b4,Z.next m7 fun y o e=>by have:=(AF.BI Y y e).1;omega⟩,by rw[BL,BL];omega⟩
 obtain⟨oa,oc,rfl,bd,bk,b5,b6⟩:=X.shape;rw[AS,Av,wrap64 (by omega) (by omega),Dq];refine AE (fun ax=>?_) fun bl=>Mod.refl _ _;have a8:0<L.length:=by omega
 have ak:L.length-1<L.length:=by omega
 cases oa with
 |none=>have:=b6 rfl;rw[this] at a8;simp at a8
 |some q=>
  obtain⟨gb,rfl,bp,bs,bx⟩:=b5 q rfl;have en:((L.length:Int)-1)=((L.length-1:Nat):Int):=by omega
  rw[en];have gd:Grow w4 w4.drew:=Mod.drew _ _;have b7:=hT.mod (O.trans gd) fun _ _ h=>h;have hd:=(AF.mod (R':=g.R C) X gd (fun _ _ h=>h) fun r y _ o=>kR O gd o).sl;obtain⟨q',r',e',c4,c6,b8,U⟩:=hd.get ak;cases e';have al:=Uq U;have a1:=fun{w:World} (gw:Grow w4.drew w)=>g.meldc (C:=C) (w:=w) (kR (O.trans gd) gw U) (kR T ((g4.trans gd).trans gw) I);rw[show g.toAvK.enc [a]=a by unfold AvK.enc;rw[g.one1];rfl] at a1;generalize g.toAvK.enc r'=a' at al a1;subst al;refine Ag (fun _ _=>False) ?_;refine AH ?_;rw[AG,AI,AG,AI];refine Aa ⟨b7.box.cells 2 _ rfl,fun _ _ e=>e⟩ ?_;refine AY ak ?_;refine Aa ⟨by have:=b8 0 a' rfl;rwa [Nat.add_zero] at this,fun _ _ e=>e⟩ ?_;refine Ar (a1 (Mod.refl _ _)) ?_;rintro _ w8 ⟨g8,u,rfl⟩;refine⟨g8.mono fun _ _ h=>h.elim,BQ ?_⟩;exact AT (gd.trans g8)
end Go.Proofs.YtmdhibffnkhcnaaGreatDoor
namespace Go.Proofs.YtmdhibffnkhcnaaGreatDoor
open Go Go.K Proofs.Tryz
variable {α:Type}{g:Av1 α}
set_option maxRecDepth 4000 in
theorem ZV:NF g.toAvT:=by
 intro C b rt t;induction t with
 |nil=>
  intro F W A p h hs _ _ _ _;apply g.ok1.split;unfold Ni;simp only[Tr.root];rw[Am];refine AE (fun _=>?_) fun e=>(e rfl).elim;exact⟨.nil,.nil,A,rfl,⟨⟨F,fun _ h=>h,fun _ h=>.inl h,h,Mod.refl _ _⟩,rfl,rfl,trivial,trivial,List.nodup_nil,(fun q y=>nomatch y),fun _ _ _=>rfl,Nat.le_succ _⟩⟩
 |node l i x r ax ay=>
  intro F W A p h hs hh hu hb hp;obtain⟨hl,hr,hi⟩:=id hh;obtain⟨u1,u2,u3,u4,u5⟩:=Tr.Az.1 hu;have J:=g.k.La l.toL r.toL x p;have b0:=hb.1;have b1:=hb.2;simp only[Tr.toL,Tr.CG,Tr.BS] at b0;simp only[Tr.toL,Tr.FD,Tr.Ca] at b1;have nF:∀{z:Nat},W.heap.size<=z->∀x,F x\/C x->x≠z:=fun hz x V e=>by have:=h.lt x V;omega
  apply g.ok1.split;unfold Ni;simp only[Tr.root];rw[Am];refine AE (fun e=>by omega) fun _=>?_;refine DS h hi fun rc bx w3 g3 a7 B a8=>?_;have O:=g.rlen a8;have h3:=h.grow g3;refine Bm (B.cells (g.E+0) _ (by rw[AV O];rfl)) ?_;refine AA (Br h3 hl) ?_;rintro _ w5 ⟨rfl,g5⟩;refine Jg ?_;have X:Grow w5 w5.drew:=Mod.drew _ _;have ak:=(g3.trans g5).trans X;obtain⟨c,pl,fr,hT⟩:=id h;have b2:=hT.mod ak fun _ _ h=>h;have B5:=(B.grow g5).grow X;refine Ag (fun _ _=>False) ?_;refine AH ?_;rw[AG,AI,AG,AI];refine Aa ⟨b2.box.cells 0 _ rfl,fun _ _ e=>e⟩ ?_;rw[AG,AI];refine IN (g:=g.toAvT) (r:=rc) O (fun j v hv=>⟨B5.cells j v (by rw[List.getElem?_append_left (List.getElem?_eq_some_iff.1 hv).1];exact hv),fun _ _ e=>e⟩) ?_;refine Ar (g.meas (C:=C) (x:=x) (g.BR a8 ((g5.trans X)) fun _ _ _ h=>h)) ?_;rintro _ w6 ⟨rfl,g6⟩;refine⟨g6.mono fun _ _ h=>h.elim,?_⟩;refine BQ ?_;have U:=ak.trans g6;have b6:=U.size;have h6:=h.grow U;have B6:=B5.grow g6;rw[Ha];refine AE (fun b7=>?_) fun b5=>?_
  .have al:p<=Tr.sz g.k.μ l.toL:=by omega
   rw[if_pos al] at J;refine Bm (B6.cells (g.E+0) _ (by rw[AV O];rfl)) ?_;refine AA (ax h6 hs hl u1 hb.app.1 hp) ?_;rintro _ w8 ⟨a,c1,A1,rfl,o⟩;refine BQ ?_;obtain⟨F1,k1,k2,h8,Y⟩:=o.cD;have B8:=B6.mod Y fun e=>nF a7 bx (.inl e.1) rfl;refine Bm (B8.cells (g.E+1) _ (by rw[AV O];rfl)) ?_;obtain⟨e1,e2,e3,e4⟩:=Hd o hi hr hu;have Z:Dg g.toAvT (Tr.node c1 i x r).toL:=by
    obtain⟨q1,q2⟩:=Ed (g:=g.toAvT) l.toL p;constructor
    .simp only[Tr.toL,Tr.CG,Tr.BS,o.r1];omega
    .simp only[Tr.toL,Tr.FD,Tr.Ca,o.r1];omega
   have b3:=o.len;refine AA (FE (c1.DD+r.DD) (Nat.le_refl _) h8 (by omega) e1 o.hr e2 e3 Z) ?_;rintro _ b4 ⟨t2,A2,rfl,I⟩;have perm:=I.idx;have sm:∀q,q∈t2.idx↔q∈(Tr.node c1 i x r).idx:=fun q=>I.idx.mem_iff;have s8:=Y.size;refine⟨a,t2,A2,rfl,⟨⟨F1,k1,fun x V=>(k2 x V).imp (fun h=>h) fun h=>by omega,I.Dl,((U.mono fun _ _ h=>h.elim).trans Y).next I.mod fun x V e=>?_⟩,?_,?_,o.hl.frame g.k.μ fun q y=>I.same q (e4 q y),I.holds,?_,fun q y=>?_,fun q Q S=>?_,by rw[I.len];omega⟩⟩
   .rcases k2 x e.1 with e'|e'
    .exact⟨e',e.2⟩
    .omega
   .rw[o.l1];simp only[Tr.toL,J]
   .rw[I.toL];simp only[Tr.toL,Tr.Dh,o.r1,J]
   .exact List.nodup_append.2 ⟨(List.nodup_append.1 o.G7).1,I.idx.nodup_iff.2 e3,fun q y q' a1 e=>e4 q y (e▸(sm q').1 a1)⟩
   .rcases List.mem_append.1 y with y|y
    .rcases o.idx q (List.mem_append_left _ y) with e|e
     .exact .inl (by simp[Tr.idx,e])
     .exact .inr e
    .have:=(sm q).1 y;simp only[Tr.idx,List.mem_append,List.mem_cons] at this ⊢;rcases this with e|e|e
     .rcases o.idx q (List.mem_append_right _ e) with e|e
      .exact .inl (.inl e)
      .exact .inr e
     .exact .inl (.inr (.inl e))
     .exact .inl (.inr (.inr e))
   .simp only[Tr.idx,List.mem_append,List.mem_cons,not_or] at Q;have T:q∉(Tr.node c1 i x r).idx:=fun e=>S (List.mem_append_right _ ((sm q).2 e));refine(I.same q T).trans (o.same q Q.1 fun e=>?_);rcases List.mem_append.1 e with e|e
    .exact S (List.mem_append_left _ e)
    .exact T (by simp[Tr.idx,e])
  have a6:¬p<=Tr.sz g.k.μ l.toL:=by omega
  rw[if_neg a6] at J;refine Bz (by omega) ?_;rw[Dq];refine AE (fun b8=>?_) fun an=>?_
  .have av:Tr.sz g.k.μ l.toL+(g.k.μ x).1<=p:=by omega
   rw[if_pos av] at J;refine Bm (B6.cells (g.E+1) _ (by rw[AV O];rfl)) ?_;refine Fz (by omega) (by omega) (Fz (by omega) (by omega) ?_);refine AA (ay h6 hs hr u2 hb.app.2.cons.1 (p:=p-Tr.sz g.k.μ l.toL-(g.k.μ x).1) (by omega)) ?_;rintro _ w8 ⟨a,c1,A1,rfl,o⟩;refine BQ ?_;obtain⟨F1,k1,k2,h8,Y⟩:=o.cD;have B8:=B6.mod Y fun e=>nF a7 bx (.inl e.1) rfl;refine Bm (B8.cells (g.E+0) _ (by rw[AV O];rfl)) ?_;obtain⟨e1,e2,e3,e4⟩:=G2 o hi hl hu;have Z:Dg g.toAvT (Tr.node l i x a).toL:=by
    obtain⟨q1,q2⟩:=Ed (g:=g.toAvT) r.toL (p-Tr.sz g.k.μ l.toL-(g.k.μ x).1);constructor
    .simp only[Tr.toL,Tr.CG,Tr.BS,o.l1];omega
    .simp only[Tr.toL,Tr.FD,Tr.Ca,o.l1];omega
   have b3:=o.len;refine AA (FE (l.DD+a.DD) (Nat.le_refl _) h8 (by omega) e1 e2 o.hl e3 Z) ?_;rintro _ b4 ⟨t2,A2,rfl,I⟩;have sm:∀q,q∈t2.idx↔q∈(Tr.node l i x a).idx:=fun q=>I.idx.mem_iff;have s8:=Y.size;refine⟨t2,c1,A2,rfl,⟨⟨F1,k1,fun x V=>(k2 x V).imp (fun h=>h) fun h=>by omega,I.Dl,((U.mono fun _ _ h=>h.elim).trans Y).next I.mod fun x V e=>?_⟩,?_,?_,I.holds,o.hr.frame g.k.μ fun q y=>I.same q (e4 q y),?_,fun q y=>?_,fun q Q S=>?_,by rw[I.len];omega⟩⟩
   .rcases k2 x e.1 with e'|e'
    .exact⟨e',e.2⟩
    .omega
   .rw[I.toL];simp only[Tr.toL,Tr.Dh,o.l1,J]
   .rw[o.r1];simp only[Tr.toL,J]
   .exact List.nodup_append.2 ⟨I.idx.nodup_iff.2 e3,(List.nodup_append.1 o.G7).2.1,fun q y q' a1 e=>e4 q' a1 (e▸(sm q).1 y)⟩
   .rcases List.mem_append.1 y with y|y
    .have:=(sm q).1 y;simp only[Tr.idx,List.mem_append,List.mem_cons] at this ⊢;rcases this with e|e|e
     .exact .inl (.inl e)
     .exact .inl (.inr (.inl e))
     .rcases o.idx q (List.mem_append_left _ e) with e|e
      .exact .inl (.inr (.inr e))
      .exact .inr e
    .rcases o.idx q (List.mem_append_right _ y) with e|e
     .exact .inl (by simp[Tr.idx,e])
     .exact .inr e
   .simp only[Tr.idx,List.mem_append,List.mem_cons,not_or] at Q;have T:q∉(Tr.node l i x a).idx:=fun e=>S (List.mem_append_left _ ((sm q).2 e));refine(I.same q T).trans (o.same q Q.2.2 fun e=>?_);rcases List.mem_append.1 e with e|e
    .exact T (by simp[Tr.idx,e])
    .exact S (List.mem_append_right _ e)
  exfalso;have:=g.μ1 x;rw[this] at an;omega
def cG(g:AvK)(v0:Value)(K:Cont):Value->Value->Value->World->Prop:=fun a0 b0 t76 w8=>Aj t76 fun t77=>
  Ay [a0,(.int .i64 0)] (fun i j w9=>∀_:Env,
  Bf .i64 (nth i 1) t77 fun o=>
  AD o
  (Be g.E t76 (nth i 1) fun x=>
  AK x (fun y B=>
  AJ v0 fun I=>
  AM 3 I fun J=>
  AK J (fun O Q=>
  Af [(0,g.E),(g.E,1),(g.E+1,1),(g.E+2,1),(g.E+3,1),(g.E+4,1)] g.zN [(0,y)] fun S=>
  AB prog g.aTake [O,S] (fun T U=>
  AB prog g.fjoin [v0,(nth i 0),T,(.int .i64 (-1))] (fun V X=>
  AX .i64 (nth i 1) (.int .i64 1) fun Y=>
  j [V,Y] X) U) Q) B) w9)
  (AB prog g.fconcat [v0,(nth i 0),b0] (fun Z a1=>
  AJ v0 fun a6=>
  AM 4 a6 fun a7=>
  BB a7 Z (fun a8=>K (.tuple #[]) a8) a1) w9)) w8
theorem Nb(g:AvK)(v0 v1 v2 v3:Value)(K:Cont)(w:World):Mc g v0 v1 v2 v3 K w=da g (cG g v0 K) v0 v1 v2 v3 w:=rfl
set_option maxRecDepth 4000 in
theorem Q6:QQ g.toAvT:=by
 intro F C S W b i j A T v L h hs Q hu hv hS U hj V y X;apply g.ok1.replace;rw[Nb];refine PH ZV dH WD (fun l p h=>h.split p) h hs Q hu hv hS U hj V X ?_;intro a' b' mv W8 A8 F8 P;unfold cG;have E:=Gc g.k ((g.k.split T.toL i).1.getLast?.toList++L++(g.k.split (g.k.split T.toL i).2 (j-i)).2.head?.toList);have a8:(g.k.split T.toL i).1.getLast?.toList.length<=1:=by cases(g.k.split T.toL i).1.getLast?<;>simp
 have ak:(g.k.split (g.k.split T.toL i).2 (j-i)).2.head?.toList.length<=1:=by cases(g.k.split (g.k.split T.toL i).2 (j-i)).2.head?<;>simp
 rw[List.length_append,List.length_append] at E;have I:=P.put;have J:(g.k.split T.toL i).1.dropLast++g.k.melded ((g.k.split T.toL i).1.getLast?.toList++L++(g.k.split (g.k.split T.toL i).2 (j-i)).2.head?.toList)++(g.k.split (g.k.split T.toL i).2 (j-i)).2.tail=g.k.Bn T.toL i j L:=rfl;generalize (g.k.split T.toL i).1.dropLast=al at I J;generalize (g.k.split (g.k.split T.toL i).2 (j-i)).2.tail=bl at I J;generalize g.k.melded ((g.k.split T.toL i).1.getLast?.toList++L++(g.k.split (g.k.split T.toL i).2 (j-i)).2.head?.toList)=M at I J E;have Y:Dg g.toAvT (al++M):=by rw[<-J] at y;exact y.app.1
 obtain⟨ma,mc,Z,_⟩:=I.row.shape;subst Z;rw[AS];refine Ae (fun vs W'=>∃(k:Nat) (t:Tr α) (A':ArS α) (F':Nat->Prop),k<=M.length/\vs=[.int .i64 t.root,.int .i64 k]/\Rl g.toAvT F C W b T.root A al bl M b' (.slice ma M.length mc) k t W' A' F') (fun vs _=>M.length-Dr vs 1) ⟨0,a',A8,F8,Nat.zero_le _,rfl,I⟩ ?_;rintro vs W9 ⟨k,t,A9,F9,hk,rfl,O⟩ _;simp only[GA];refine Hq (fun an=>?_) fun av=>?_
 .have o:k<M.length:=by omega
  obtain⟨q,r,rfl,hq,hr,hc,B⟩:=O.row.sl.get o;have er:=Uq B;have x:=g.rcell B;generalize g.toAvK.enc r=a at er x;subst er;have ax:=O.len;refine AY o (AL (by have:=hc 0 a rfl;rwa [Nat.add_zero] at this) ?_);obtain⟨c,pl,fr,hR⟩:=id O.Dl;refine AH ?_;refine Bm (hR.box.cells 3 _ rfl) ?_;refine⟨_,cH x M[k],?_⟩;refine AA (Kc hR (n:=⟨M[k],0,0,0,0,0⟩) B (by omega)) ?_;rintro _ ay ⟨rfl,F1,q1,q2,a1,a6⟩;refine AA (Rl.step O o (by omega) q1 q2 a1 a6 Y) ?_;rintro _ b0 ⟨t2,A2,rfl,b1,a7⟩;rw[AR,AQ (by omega)];exact⟨⟨k+1,t2,A2,F1,o,rfl,a7⟩,by rw[BL,BL];omega⟩
 .have:k=M.length:=by omega
  subst this;refine AA (Rl.done O (N:=L.length+4) (by omega) J y (by omega) h.fb) ?_;intro b2 b3 Q;exact Q
end Go.Proofs.YtmdhibffnkhcnaaGreatDoor
namespace Go.K
open Go
theorem AF.heap{α:Type}{B e k:Nat}{R R':World->List Value->α->Prop}{w w':World}{v:Value}{l:List α}(h:AF B e k R w v l)(J:∀g,v.ownBlock=some g->w'.heap[g]?=w.heap[g]?)(O:∀r x,x∈l->R w r x->R' w' r x):AF B e k R' w' v l:=by
 obtain⟨rows,h1,Q,S,T⟩:=h;refine⟨rows,⟨h1.1,?_⟩,Q,S,fun i r x hr I=>O r x (List.mem_of_getElem? I) (T i r x hr I)⟩;rcases h1.2 with U|⟨g,o,y,rfl,hb,E,j⟩
 .exact .inl U
 .refine .inr ⟨g,o,y,rfl,hb,?_,j⟩;rw[J g rfl];exact E
theorem Bx.heap{W W':World}{b:Nat}{vs:List Value}(h:Bx W b vs)(i:W'.heap[b]?=W.heap[b]?):Bx W' b vs:=by
 refine⟨fun j v o=>(World.cell?_of_block (w:=W) i).trans (h.cells j v o),fun j x=>?_⟩;obtain⟨h1,y⟩:=h.live j x;exact⟨by rw[World.cell?_of_block (w:=W) i];exact h1,(World.frozen?_of_block i).trans y⟩
end Go.K
namespace Go.Proofs.YtmdhibffnkhcnaaGreatDoor
open Go Go.K Proofs.Tryz
section
variable {α:Type}{g:AvT α}
theorem NW.heap{C:Nat->Prop}{w w':World}{r:List Value}{o:Option (Nd α)}(h:NW g C w r o)(i:∀y,y<w.heap.size->C y->w'.heap[y]?=w.heap[y]?):NW g C w' r o:=by
 cases o with
 |none=>exact h
 |some n=>obtain⟨x,rfl,j⟩:=h;exact⟨x,rfl,g.rheap j i⟩
theorem Hn.heap{F C:Nat->Prop}{W W':World}{c:Nat}{A:ArS α}{pl fr:Value}(h:Hn g F C W c A pl fr)(B:∀x,F x\/C x->W'.heap[x]?=W.heap[x]?)(E:W.heap.size<=W'.heap.size):Hn g F C W' c A pl fr:=by
 have I:Bx W c [pl,fr]:=⟨h.cells,h.live⟩;have i:=I.heap (B c (.inl h.fc));exact⟨i.cells,i.live,AF.heap h.FT (fun x j=>B x (.inl (h.pF x j).1)) fun r o _ J=>J.heap fun y _ O=>B y (.inr O),AF.heap h.JK (fun x j=>B x (.inl (h.fF x j).1)) fun _ _ _ h=>h,h.ok,h.fc,h.pF,h.fF,h.Hy,fun x j=>Nat.lt_of_lt_of_le (h.lt x j) E⟩
theorem DL.heap{F C:Nat->Prop}{W W':World}{b:Nat}{i:Int}{A:ArS α}(h:DL g F C W b i A)(j:∀x,F x\/C x->W'.heap[x]?=W.heap[x]?)(o:W.heap.size<=W'.heap.size):DL g F C W' b i A:=by
 obtain⟨c,pl,fr,h⟩:=h;exact⟨c,pl,fr,h.box.heap (j b (.inl h.fb.1)),h.ar.heap (fun x y=>j x (y.imp (fun h=>h.1) fun h=>h)) o,h.fb⟩
structure Nw (P:Program) (l:Nat) (J:Nat->(Nat->Prop)->World->Prop) (Jx:(Nat->Prop)->World->Prop) (w:World) (Rd:Nat->Prop) (encs:Nat->List Value) (N:Nat):Prop where
 hJ:∀k It It' W W',J k It W->Grow W W'->(∀b,It' b->(It b\/W.heap.size<=b)/\b<W'.heap.size)->J k It' W'
 Qa:∀It It' W W',Jx It W->Grow W W'->(∀b,It' b->(It b\/W.heap.size<=b)/\b<W'.heap.size)->Jx It' W'
 JE:∀k It W,J k It W->∀b,b<w.heap.size->Rd b->W.heap[b]?=w.heap[b]?
 cE:∀k It W,k<N->J k It W->Kj P l (encs k) (fun v W'=>W.heap.size<=W'.heap.size/\(∀b,It b->W'.heap[b]?=W.heap[b]?)/\Quiet W W'/\((v=.bool true/\J (k+1) It W')\/(v=.bool false/\Jx It W'))) W
def Oi(J:Nat->(Nat->Prop)->World->Prop)(o:(Nat->Prop)->World->Prop)(k:Nat)(j:Nat->Prop)(W:World)(v:Value)(W':World):Prop:=
 W.heap.size<=W'.heap.size/\(∀b,j b->W'.heap[b]?=W.heap[b]?)/\Quiet W W'/\∃i,(∀b,j b->i b)/\(∀b,i b->b<W'.heap.size)/\((v=.bool true/\J k i W')\/(v=.bool false/\o i W'))
theorem Nw.ofSeq{P:Program}{O:Nat}{y:List Value}{i:Nat->List Value}{N:Nat}{Q:Nat->Prop}{w:World}
 (h:∀l J B o,Grow w o->Nw P l J B w Q i N->J 0 (fun _=>False) o->w.heap.size<=o.heap.size->AB P O (.func (.yield l) #[] #[]::y) (fun _ W'=>∃x,J N x W'\/B x W') o):KC True P O y i N Q w:=by
 intro l J B o S h0 hJ Qa JE hr;refine h l J B o S ⟨fun k x j W W' h1 E I=>hJ k x j W W' h1 (E.mono fun _ _ e=>e.elim) I,fun x j W W' h1 E I=>Qa x j W W' h1 (E.mono fun _ _ e=>e.elim) I,JE,hr⟩ h0 S.size
end
section
variable {α:Type}{g:AvN α}
theorem MF(k:Kd α)(l:List α){i:Nat}(j:Nat)(h:Tr.sz k.μ l<=i):k.over l i j=[]:=by
 rw[<-k.LH,k.ED _ (by omega)]
set_option maxRecDepth 4000 in
theorem cY{F C:Nat->Prop}{w:World}{b l N:Nat}{rt:Int}{A:ArS α}{J:Nat->(Nat->Prop)->World->Prop}{Jx:(Nat->Prop)->World->Prop}{U:Nat->List Value}(hw:DL g.toAvT F C w b rt A)(hs:A.ps.length<=109951162777)(H:Nw prog l J Jx w (fun x=>F x\/C x) U N) :
  ∀(t:Tr α) (i j Y:Nat) (O:Nat->Prop) (W:World),Tr.Holds g.k.μ A.f t->Dg g.toAvT t.toL->i<=1099511627776->j<=1099511627776->J Y O W->w.heap.size<=W.heap.size->(∀x,O x->x<W.heap.size)->Y+(g.k.over t.toL i j).length<=N->(∀m (hm:m<(g.k.over t.toL i j).length),U (Y+m)=[.agg (g.cells (g.k.over t.toL i j)[m]).toArray])->
   AB prog g.fover [.pointer (some ⟨b,0,none⟩),.int .i64 t.root,.int .i64 (i:Int),.int .i64 (j:Int),.func (.yield l) #[] #[]] (Oi J Jx (Y+(g.k.over t.toL i j).length) O W) W:=by
 intro t;induction t with
 |nil=>
  intro i j Y O W _ _ _ _ hJ hz ax _ _;apply g.okN.over;unfold Tl;simp only[Tr.root];refine AU (fun _ _=>False) (fun _ _ h=>h.elim) ?_;rw[Am];refine AE (fun _=>?_) fun e=>(e rfl).elim;exact⟨Nat.le_refl _,fun _ _=>rfl,⟨rfl,rfl,rfl⟩,O,fun _ h=>h,ax,.inl ⟨rfl,hJ⟩⟩
 |node lt q x b6 eB eC=>
  intro i j Y O W hh hb hi hj hJ hz ax hN Q;obtain⟨hl,hr,hq⟩:=id hh;have eL:(Tr.node lt q x b6).toL=lt.toL++x::b6.toL:=rfl;rw[eL] at hb hN Q ⊢;have eI:=hb.1;simp only[Tr.CG,Tr.BS] at eI;rw[g.k.PQ] at hN Q ⊢;apply g.okN.over;unfold Tl;simp only[Tr.root];refine AU (fun _ W'=>W'=W/\i<j) ?_ ?_;rotate_left
  .rw[Am];refine AE (fun e=>by omega) fun _=>?_;rw[Dq];refine AE (fun e=>?_) fun e=>⟨rfl,by omega⟩;rw[g.k.ED _ (by omega:j<=i),g.k.ED _ (by omega:j-Tr.sz g.k.μ lt.toL<=i-Tr.sz g.k.μ lt.toL)];exact⟨Nat.le_refl _,fun _ _=>rfl,⟨rfl,rfl,rfl⟩,O,fun _ h=>h,ax,.inl ⟨rfl,hJ⟩⟩
  rintro _ W' ⟨rfl,fs⟩ _;rename World=>W
  have Dl:∀{k O W'},J k O W'->w.heap.size<=W'.heap.size->DL g.toAvT F C W' b rt A:=fun{k O W'} h1 h2=>hw.heap (fun y o=>H.JE k O W' h1 y (hw.lt y o) o) h2;refine DS (Dl hJ hz) hq fun rc S w4 g4 fk B c4=>?_;have b7:=g.rlen c4;have bl:=g.Rc.1 c4;have eN:=(Dl hJ hz).grow g4;refine Bm (B.cells (g.E+0) _ (by rw[AV b7];rfl)) ?_;refine AA (Br eN hl) ?_;rintro _ w6 ⟨rfl,g6⟩;refine Jg ?_;have e5:Grow w6 w6.drew:=Mod.drew _ _;have e6:=(g4.trans g6).trans e5;obtain⟨c,pl,fr,hT⟩:=(Dl hJ hz).grow e6;have B6:=(B.grow g6).grow e5;refine Ag (fun _ _=>False) ?_;refine AH ?_;rw[AG,AI,AG,AI];refine Aa ⟨hT.box.cells 0 _ rfl,fun _ _ e=>e⟩ ?_;rw[AG,AI];refine IN (g:=g.toAvT) (r:=rc) b7 (fun j v hv=>⟨B6.cells j v (by rw[List.getElem?_append_left (List.getElem?_eq_some_iff.1 hv).1];exact hv),fun _ _ e=>e⟩) ?_;refine Ar (g.meas (C:=C) (x:=x) (g.Rc.2 bl)) ?_;rintro _ w7 ⟨rfl,g7⟩;refine⟨g7.mono fun _ _ h=>h.elim,?_⟩;refine BQ ?_;have al:=e6.trans g7;have B7:=B6.grow g7;have ew:=B7.lt (by rw[BC _ c4];omega);have fu:=al.size;have ay:∀y,(O y\/y=S)->(O y\/W.heap.size<=y)/\y<w7.heap.size:=fun y o=>by
   rcases o with o|o
   .have:=ax y o;exact⟨.inl o,by omega⟩
   .exact⟨.inr (by omega),by omega⟩
  have e7:=H.hJ Y O (fun y=>O y\/y=S) W w7 hJ al ay;have eR:∀y,O y->w7.heap[y]?=W.heap[y]?:=fun y o=>al.same y (ax y o) fun h=>h;obtain⟨Z,c6⟩:∃X,X=g.k.over lt.toL i j:=⟨_,rfl⟩;obtain⟨V,c7⟩:∃V,V=i-Tr.sz g.k.μ lt.toL:=⟨_,rfl⟩;obtain⟨j',b8⟩:∃j',j'=j-Tr.sz g.k.μ lt.toL:=⟨_,rfl⟩;obtain⟨X2,c8⟩:∃X,X=(if V<min j' (g.k.μ x).1 then[g.k.part x V (min j' (g.k.μ x).1)] else[]):=⟨_,rfl⟩;obtain⟨X3,an⟩:∃X,X=g.k.over b6.toL (V-(g.k.μ x).1) (j'-(g.k.μ x).1):=⟨_,rfl⟩;have eX:g.k.over lt.toL i j++g.k.over (x::b6.toL) (i-Tr.sz g.k.μ lt.toL) (j-Tr.sz g.k.μ lt.toL)=Z++(X2++X3):=by rw[c6,c8,an,c7,b8];rfl
  rw[eX] at hN Q ⊢;simp only[List.length_append] at hN;have c9:∀m (hm:m<Z.length),U (Y+m)=[.agg (g.cells Z[m]).toArray]:=fun m hm=>by
   rw[Q m (by simp;omega)];simp[List.getElem_append_left hm]
  have ca:∀m (hm:m<X2.length),U (Y+Z.length+m)=[.agg (g.cells X2[m]).toArray]:=fun m hm=>by
   have:=Q (Z.length+m) (by simp;omega);rw[Nat.add_assoc,this];simp[List.getElem_append_right,List.getElem_append_left hm]
  have cc:∀m (hm:m<X3.length),U (Y+Z.length+X2.length+m)=[.agg (g.cells X3[m]).toArray]:=fun m hm=>by
   have:=Q (Z.length+(X2.length+m)) (by simp;omega);rw[show Y+Z.length+X2.length+m=Y+(Z.length+(X2.length+m)) by omega,this];simp[List.getElem_append_right]
  let St:Nat->World->Prop:=fun k W'=>∃I,(∀y,O y->I y)/\I S/\(∀y,I y->y<W'.heap.size)/\J k I W'/\(w7.heap.size<=W'.heap.size/\Quiet w7 W')/\(∀y,O y\/y=S->W'.heap[y]?=w7.heap[y]?)
  have done:∀{k W'} (v:Value) (I:Nat->Prop),(∀y,O y->I y)->(∀y,I y->y<W'.heap.size)->w7.heap.size<=W'.heap.size/\Quiet w7 W'->(∀y,O y->W'.heap[y]?=w7.heap[y]?)->((v=.bool true/\J k I W')\/(v=.bool false/\Jx I W'))->Oi J Jx k O W v W':=fun v I h1 h2 h3 h4 h5=>
   ⟨by omega,fun y o=>(h4 y o).trans (eR y o),Quiet.trans ⟨al.os,al.tape,al.output⟩ h3.2,I,h1,h2,h5⟩
  refine AU (fun _ W'=>St (Y+Z.length) W') ?_ ?_;rotate_left
  .refine Hq (fun e8=>?_) fun e9=>?_
   .refine Bm (B7.cells (g.E+0) _ (by rw[AV b7];rfl)) ?_;rw[Gl];have em:(if((Tr.sz g.k.μ lt.toL:Nat):Int)<(j:Int) then((Tr.sz g.k.μ lt.toL:Nat):Int) else(j:Int))=((min j (Tr.sz g.k.μ lt.toL):Nat):Int):=by split<;>omega
    rw[em];have ak:g.k.over lt.toL i (min j (Tr.sz g.k.μ lt.toL))=Z:=by rw[c6,g.k.LH]
    refine AA (eB i (min j (Tr.sz g.k.μ lt.toL)) Y (fun y=>O y\/y=S) w7 hl hb.app.1 hi (by omega) e7 (by omega) (fun y o=>(ay y o).2) (by rw[ak];omega) (fun m hm=>?_)) ?_
    .have cd:m<Z.length:=by rw[<-ak];exact hm
     rw[c9 m cd];simp only[ak]
    rw[ak];rintro v W2 ⟨z1,z2,zq,I,q1,q2,q3⟩;rcases q3 with⟨rfl,ch⟩|⟨rfl,ch⟩
    .rw[Ap];exact AT ⟨I,fun y o=>q1 y (.inl o),q1 S (.inr rfl),q2,ch,⟨z1,zq⟩,z2⟩
    .rw[Ap];exact Ao (done (.bool false) I (fun y o=>q1 y (.inl o)) q2 ⟨z1,zq⟩ (fun y o=>z2 y (.inl o)) (.inr ⟨rfl,ch⟩))
   .have e0:Z=[]:=by rw[c6];exact MF g.k lt.toL j (by omega)
    rw[e0];exact⟨fun y=>O y\/y=S,fun y o=>.inl o,.inr rfl,fun y o=>(ay y o).2,e7,⟨Nat.le_refl _,rfl,rfl,rfl⟩,fun _ _=>rfl⟩
  rintro _ W8 ⟨a6,a1,a2,a3,cn,z8,T⟩ _;have B8:=B7.heap (T S (.inr rfl));rw[Av,wrap64 (by omega) (by omega),Gu];have fa:(if(0:Int)>(i:Int)-((Tr.sz g.k.μ lt.toL:Nat):Int) then(0:Int) else(i:Int)-((Tr.sz g.k.μ lt.toL:Nat):Int))=(V:Int):=by rw[c7];split<;>omega
  rw[fa,Av,wrap64 (by omega) (by omega),Gl];obtain⟨to,cv⟩:∃to:Int,to=(if(((g.k.μ x).1:Nat):Int)<(j:Int)-((Tr.sz g.k.μ lt.toL:Nat):Int) then(((g.k.μ x).1:Nat):Int) else(j:Int)-((Tr.sz g.k.μ lt.toL:Nat):Int)):=⟨_,rfl⟩;rw[<-cv];have bp:(V:Int)<to↔V<min j' (g.k.μ x).1:=by rw[cv,b8];split<;>omega
  have ea:V<min j' (g.k.μ x).1->to=((min j' (g.k.μ x).1:Nat):Int):=fun h=>by rw[cv,b8];split<;>omega
  refine AU (fun _ W'=>St (Y+Z.length+X2.length) W') ?_ ?_
  .rintro _ W9 ⟨ec,c1,c2,c3,ed,z9,a7⟩ _;refine Bz (by omega) ?_;rw[Ha];refine AE (fun fv=>?_) fun fw=>?_
   .have e3:X3=[]:=by rw[an];exact g.k.ED _ (by omega)
    rw[e3];simp only[List.append_nil,List.length_append];exact done (.bool true) ec c1 c3 z9 (fun y o=>a7 y (.inl o)) (.inl ⟨rfl,by rw[<-Nat.add_assoc];exact ed⟩)
   .have B9:=B7.heap (a7 S (.inr rfl));refine Bm (B9.cells (g.E+1) _ (by rw[AV b7];rfl)) ?_;rw[Av,wrap64 (by omega) (by omega),Av,wrap64 (by omega) (by omega),Gu];have e1:(if(0:Int)>(i:Int)-((Tr.sz g.k.μ lt.toL:Nat):Int)-(((g.k.μ x).1:Nat):Int) then(0:Int) else(i:Int)-((Tr.sz g.k.μ lt.toL:Nat):Int)-(((g.k.μ x).1:Nat):Int))=((V-(g.k.μ x).1:Nat):Int):=by rw[c7];split<;>omega
    rw[e1,Av,wrap64 (by omega) (by omega),Av,wrap64 (by omega) (by omega)];have e2:(j:Int)-((Tr.sz g.k.μ lt.toL:Nat):Int)-(((g.k.μ x).1:Nat):Int)=((j'-(g.k.μ x).1:Nat):Int):=by rw[b8];omega
    rw[e2];refine AA (eC (V-(g.k.μ x).1) (j'-(g.k.μ x).1) (Y+Z.length+X2.length) ec W9 hr hb.app.2.cons.1 (by omega) (by omega) ed (by omega) c3 (by rw[<-an];omega) (fun m hm=>?_)) ?_
    .have cd:m<X3.length:=by rw[an];exact hm
     rw[cc m cd];simp only[an]
    rw[<-an];rintro v W2 ⟨u1,u2,uq,I,q1,q2,q3⟩;refine done v I (fun y o=>q1 y (c1 y o)) q2 ⟨by omega,z9.2.trans uq⟩ (fun y o=>(u2 y (c1 y o)).trans (a7 y (.inl o))) ?_;simp only[List.length_append];rwa [<-Nat.add_assoc,<-Nat.add_assoc]
  .refine Hq (fun e8=>?_) fun e9=>?_;rotate_left
   .have e2:X2=[]:=by rw[c8,if_neg fun e=>e9 (bp.2 e)]
    rw[e2];exact⟨a6,a1,a2,a3,cn,z8,T⟩
   have b0:=bp.1 e8;have ee:=ea b0;have e2:X2=[g.k.part x V (min j' (g.k.μ x).1)]:=by rw[c8,if_pos b0]
   generalize hP:min j' (g.k.μ x).1=P at b0 ee e2;have fo:P<=(g.k.μ x).1:=by omega
   have b1:=CD (g:=g) x;rw[AG,AI];refine Ah (vs:=g.cells x) b1 (fun j v hv=>?_) ?_
   .rw[AI];refine B8.cells j v ?_;rw[show rc=g.cells x from bl,List.getElem?_append_left (List.getElem?_eq_some_iff.1 hv).1];exact hv
   refine Bx.new b1 g.zlen (cells_one (g:=g) x) fun b9 ef fp ba bc=>?_;have eA:=bc.lt (by rw[b1];exact g.Epos);have cx:∀{p:Nat} {w},0<p->p<(g.k.μ x).1->BF prog DH g.vc [.agg (g.cells x).toArray,.int .i64 (p:Int)] (fun v w'=>v=.tuple #[.agg (g.cells (g.k.cut x p).1).toArray,.agg (g.cells (g.k.cut x p).2).toArray]/\Grow w w') w:=fun h1 h2=>g.cutc h1 h2 (by omega);have bs:∀{W'},Grow W8 W'->∃c pl fr,Y1 g.toAvT F C W' b c rt A pl fr:=fun gg=>(Dl cn (by omega)).grow gg;refine AU (fun _ W'=>Grow W8 W'/\Bx W' b9 (g.cells (if P<(g.k.μ x).1 then(g.k.cut x P).1 else x))) ?_ ?_;rotate_left
   .rw[A6];refine AE (fun h1=>?_) fun h1=>⟨ba,by rw[if_neg (by omega)];exact bc⟩;have eh:P<(g.k.μ x).1:=by omega
    have gd:Grow ef ef.drew:=Mod.drew _ _;obtain⟨c',fe,ff,dk⟩:=bs (ba.trans gd);have zd:=gd.size;refine Ag (fun _ y=>y=b9) ?_;refine AH ?_;rw[AG,AI,AG,AI];refine Aa ⟨dk.box.cells 1 _ rfl,fun k hk _=>nomatch (show k∈([]:List Nat) from hk)⟩ ?_;refine CO b1 (fun j v hv=>⟨by rw[AI];exact(bc.grow gd).cells j v hv,fun k hk _=>nomatch (show k∈([]:List Nat) from hk)⟩) ?_;rw[ee];refine Ar (cx (by omega) eh) ?_;rintro _ fg ⟨rfl,a8⟩;refine⟨a8.mono fun _ _ h=>h.elim,BQ ?_⟩;refine((bc.grow gd).grow a8).over (CD _) b1 (cells_one _) fun fh dT b2=>⟨b2,?_⟩;have fx:=ba.size;exact⟨((ba.trans gd).trans a8).next b2 fun y o e=>by omega,by rw[if_pos eh];exact dT⟩
   rintro _ ej ⟨bd,bk⟩ _;have ek:∀x',x'=(if P<(g.k.μ x).1 then(g.k.cut x P).1 else x)->(g.k.μ x').1=P:=fun x' e=>by
    rw[e];split
    .exact(g.cutμ x P (by omega) (by assumption)).1
    .omega
   generalize fi:(if P<(g.k.μ x).1 then(g.k.cut x P).1 else x)=x' at bk ek;have fq:=ek x' rfl;have b3:g.k.part x V P=if 0<V then(g.k.cut x' V).2 else x':=by unfold Kd.part;rw[fi]
   refine AU (fun _ W'=>Grow W8 W'/\Bx W' b9 (g.cells (g.k.part x V P))) ?_ ?_;rotate_left
   .rw[BJ];refine AE (fun h1=>?_) fun h1=>⟨bd,by rw[b3,if_neg (by omega)];exact bk⟩;have gd:Grow ej ej.drew:=Mod.drew _ _;obtain⟨c',fe,ff,dk⟩:=bs (bd.trans gd);have zd:=gd.size;have fy:=bd.size;have bx:=CD (g:=g) x';refine Ag (fun _ y=>y=b9) ?_;refine AH ?_;rw[AG,AI,AG,AI];refine Aa ⟨dk.box.cells 1 _ rfl,fun k hk _=>nomatch (show k∈([]:List Nat) from hk)⟩ ?_;refine CO bx (fun j v hv=>⟨by rw[AI];exact(bk.grow gd).cells j v hv,fun k hk _=>nomatch (show k∈([]:List Nat) from hk)⟩) ?_;refine Ar (g.cutc (x:=x') (p:=V) (by omega) (by omega) (by omega)) ?_;rintro _ fg ⟨rfl,a8⟩;refine⟨a8.mono fun _ _ h=>h.elim,BQ ?_⟩;refine((bk.grow gd).grow a8).over (CD _) bx (cells_one _) fun fh dT b2=>⟨b2,?_⟩;exact⟨((bd.trans gd).trans a8).next b2 fun y o e=>by omega,by rw[b3,if_pos (by omega)];exact dT⟩
   rintro _ en ⟨av,fj⟩ _;refine fj.Ey (CD _) ?_;have fz:=av.size;have fC:=z8.1;have ep:=H.hJ _ a6 a6 W8 en cn av fun y o=>⟨.inl o,by have:=a3 y o;omega⟩;refine .inr ⟨l,rfl,?_⟩;have er:X2.length=1:=by rw[e2];rfl
   have b4:=ca 0 (by omega);simp only[Nat.add_zero,e2,List.getElem_cons_zero] at b4;rw[<-b4];refine Fk (H.cE _ a6 en (by omega) ep) ?_;rintro v et ⟨y1,y2,yq,y3⟩;have b5:∀y,a6 y->et.heap[y]?=W8.heap[y]?:=fun y o=>(y2 y o).trans (av.same y (a3 y o) fun h=>h);have eu:Quiet w7 et:=(z8.2.trans ⟨av.os,av.tape,av.output⟩).trans yq;rcases y3 with⟨rfl,e4⟩|⟨rfl,e4⟩
   .rw[Ap];refine AT ⟨a6,a1,a2,fun y o=>by have:=a3 y o;omega,by rw[er];exact e4,⟨by omega,eu⟩,fun y o=>?_⟩;exact(b5 y (by rcases o with o|rfl;exact a1 y o;exact a2)).trans (T y o)
   .rw[Ap];exact Ao (done (.bool false) a6 a1 (fun y o=>by have:=a3 y o;omega) ⟨by omega,eu⟩ (fun y o=>(b5 y (a1 y o)).trans (T y (.inl o))) (.inr ⟨rfl,e4⟩))
end
section
variable {α:Type}
def Tm(g:AvT α):Prop:=∀{F C:Nat->Prop} {W:World} {b i j:Nat} {A:ArS α} {T:Tr α},DL g F C W b T.root A->A.ps.length<=109951162777->Tr.Holds g.k.μ A.f T->Tr.FQ T->Dg g T.toL->i<=1099511627776->j<=1099511627776->
 AB prog g.fOver [.pointer (some ⟨b,0,none⟩),.int .i64 (i:Int),.int .i64 (j:Int)] (fun v' w'=>∃ (o vals:List Value) (y:Nat->Prop),v'=.func (.func g.fOverf) #[] o.toArray/\Grow W w'/\vals.length=(g.k.over T.toL i j).length/\(∀ m (h1:m < vals.length) (B:m < (g.k.over T.toL i j).length),∃ r,vals[m]=g.toAvK.enc r/\g.R C w' r (g.k.over T.toL i j)[m])/\
  (∀ x,y x->(F x\/C x\/W.heap.size<=x)/\x < w'.heap.size)/\KC True prog g.fOverf o (fun k=>[vals.getD k undef]) vals.length y w') W
theorem FP{t:TypeId}{x:Value}{K:Cont}{w:World}(j:x.cells=#[x])(h:∀b i,w.heap.size<=b->Grow w i->Bx i b [x]->K (.pointer (some ⟨b,0,none⟩)) i):FO t x K w:=
 ⟨j,Bx.zero h⟩
theorem MU{g:AvT α}{F C:Nat->Prop}{w:World}{b i j Q S U:Nat}{A:ArS α}{T:Tr α}{B:Nat->List Value}{N:Nat}(h:DL g F C w b T.root A)(B3:Bx w Q [.pointer (some ⟨b,0,none⟩)])(B4:Bx w S [.int .i64 (i:Int)])(B5:Bx w U [.int .i64 (j:Int)])
 (X:∀ l J V o,Grow w o->Nw prog l J V w (fun x=>F x\/C x\/x=Q\/x=S\/x=U) B N->J 0 (fun _=>False) o->w.heap.size<=o.heap.size->
   AB prog g.fover [.pointer (some ⟨b,0,none⟩),.int .i64 T.root,.int .i64 (i:Int),.int .i64 (j:Int),.func (.yield l) #[] #[]] (Oi J V N (fun _=>False) o) o) :
  KC True prog g.fOverf [.pointer (some ⟨Q,0,none⟩),.pointer (some ⟨S,0,none⟩),.pointer (some ⟨U,0,none⟩)] B N (fun x=>F x\/C x\/x=Q\/x=S\/x=U) w:=by
 refine Nw.ofSeq fun l J V o g1 H hJ hz=>?_;apply g.ok.overf;unfold Tq;have Y:Grow o o.drew:=Mod.drew _ _;have y:=g1.trans Y;obtain⟨c,pl,fr,hT⟩:=h.grow y;have z:=Y.size;refine Ag (fun _ _=>True) ?_;have E:=B3.grow y;have Z:=B4.grow y;have a1:=B5.grow y;refine Aa ⟨E.cells 0 _ rfl,fun k hk _=>nomatch (show k∈([]:List Nat) from hk)⟩ ?_;refine Aa ⟨E.cells 0 _ rfl,fun k hk _=>nomatch (show k∈([]:List Nat) from hk)⟩ ?_;refine AH ?_;rw[AG,AI];refine Aa ⟨hT.box.cells 4 _ rfl,fun k hk _=>nomatch (show k∈([]:List Nat) from hk)⟩ ?_;refine Aa ⟨Z.cells 0 _ rfl,fun k hk _=>nomatch (show k∈([]:List Nat) from hk)⟩ ?_;refine Aa ⟨a1.cells 0 _ rfl,fun k hk _=>nomatch (show k∈([]:List Nat) from hk)⟩ ?_;have a6:=H.hJ 0 (fun _=>False) (fun _=>False) o o.drew hJ Y fun _ h=>h.elim;refine AA (X l J V o.drew y H a6 (by omega)) ?_;rintro v w2 ⟨a7,_,hq,I,_,_,O⟩;refine⟨⟨hq.1,hq.2.1,hq.2.2,a7,fun x _ hx=>(hx trivial).elim⟩,?_⟩;rcases O with⟨_,O⟩|⟨_,O⟩
 .exact⟨I,.inl O⟩
 .exact⟨I,.inr O⟩
theorem Qs{g:AvN α}:Tm g.toAvT:=by
 intro F C W b i j A T h U V hu hb X Y;apply g.ok.over;unfold U0;refine FP rfl fun Z w1 a1 I O=>?_;refine FP rfl fun b4 w2 a6 E Q=>?_;refine FP rfl fun b5 w3 a7 y S=>?_;have o:=(I.trans E).trans y;have B:=h.grow o;have s1:=I.size;have s2:=E.size;refine⟨[.pointer (some ⟨Z,0,none⟩),.pointer (some ⟨b4,0,none⟩),.pointer (some ⟨b5,0,none⟩)],(g.k.over T.toL i j).map fun x=>.agg (g.cells x).toArray,_,rfl,o,by rw[List.length_map],fun m h1 h2=>⟨g.cells (g.k.over T.toL i j)[m],by rw[Re,List.getElem_map],g.Rc.2 rfl⟩,fun x hx=>?_,MU B ((O.grow E).grow y) (Q.grow y) S fun l J Jx w4 g4 H hJ hz=>?_⟩
 .have q3:=O.lt (Nat.succ_pos _);have q4:=Q.lt (Nat.succ_pos _);have q5:=S.lt (Nat.succ_pos _);have s3:=y.size;rcases hx with e|e|e|e|e
  .exact⟨.inl e,B.lt x (.inl e)⟩
  .exact⟨.inr (.inl e),B.lt x (.inr e)⟩
  .exact⟨.inr (.inr (by omega)),by omega⟩
  .exact⟨.inr (.inr (by omega)),by omega⟩
  .exact⟨.inr (.inr (by omega)),by omega⟩
 .have H':Nw prog l J Jx w3 (fun x=>F x\/C x) _ _:=⟨H.hJ,H.Qa,fun k It W hJ b hb hr=>H.JE k It W hJ b hb (hr.elim .inl fun h=>.inr (.inl h)),H.cE⟩;have key:=cY B U H' T i j 0 (fun _=>False) w4 V hb X Y hJ hz (fun _ h=>h.elim) (by rw[List.length_map];omega) (fun m hm=>?_)
  .rw[List.length_map];rw[Nat.zero_add] at key;exact key
  .simp[List.getD,hm]
end
end Go.Proofs.YtmdhibffnkhcnaaGreatDoor
