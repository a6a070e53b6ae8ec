/- parts of the proof, written short by a program of ours -/
import Derived.Test.YtmdhibffnkhcnaaGreatDoorZTextInvertsUpto9
import Derived.Laws.Cover3
set_option linter.unusedSimpArgs false
set_option linter.unusedVariables false
set_option linter.defProp false
namespace Go.Proofs.YtmdhibffnkhcnaaGreatDoor
open Go Proofs.Tryz
variable {c:Nat}{w W w' W' w0:World}{F S C M:Nat->Prop}{v sv:Value}{most:Int}{cs:List Value}{α:Type}{s:List Attr}{ks:List DKey}{rs:List Int}{yo xo:Operand}
def Vd{a:Attr}:(Kh a).length<=50+a.val.s.size:=by
 have h1:=(GQ 9 (Hm a.key)).2;have i:=(GQ 9 a.val.kind.toNat).2;have j:=(GQ 9 (Hm a.val.n)).2;have m:=(GQ 9 a.val.f.toNat).2;have o:=(GQ 9 a.val.s.size).2;simp only[Kh,Bp,uv,DO];omega
def Ww:∀{l:List Attr},(∀a∈l,a.val.s.size<=64)->(Fy l).length<=114*l.length:=by
 intro l;induction l with
 |nil=>intro _;simp[Fy]
 |cons a l i=>
  intro h;have h1:=@Vd a;have m:=h a lC;have o:=i fun x j=>h x (gi _ j);simp only[Fy,lQ,Bp,S5] at *;omega
def FT.low{B i:Nat}{l:List Int}(h:FT B w v l)(hb:i<=B):FT i w v l:=h.base fun g j=>by have:=(AE.Ax h g j).1;omega
def Pq{l:List Attr}(h:CR S w v l)(hI:∀a∈l,Mv a)(hs:∀a∈l,a.val.s.size<=64)(hl:l.length<=64) :
  AB prog 143 [v] (fun v' w'=>v'=.string (El l)/\Grow w w') w:=by
 apply bK;obtain⟨a,c,rfl,_⟩:=h.shape;rw[AP];refine AX (fun vs W=>∃(i:Nat) (lv:Value),i<=l.length/\vs=[lv,zI i]/\FT w.heap.size W lv (Fy (l.take i))/\Grow w W) (fun vs _=>l.length-De vs 1)
  ⟨0,_,Nn _,rfl,AE.nil,Mod.refl _ _⟩ ?_
 rintro vs W ⟨i,lv,hi,rfl,T,g⟩ _;simp only[GC];refine Hj (fun a6=>?_) fun a7=>?_
 .have m:i<l.length:=by omega
  have U:=hI l[i] (WJ m);have a8:=hs l[i] (WJ m);have a1:(Fy (l.take i)).length<=114*i:=by
   have:=@Ww (l.take i) fun a ha=>hs a (i7 ha);rw[Lc] at this;omega
  have V:Fy (l.take (i+1))=Fy (l.take i)++Kh l[i]:=by
   have e:l.take (i+1)=l.take i++[l[i]]:=by rw[No,By m];rfl
   rw[e];unfold Fy;rw[mH];simp only[lQ,oI,kK]
  obtain⟨p,r,rfl,_,hr,hc,rfl⟩:=(h.grow g (by decide) fun _ _ h=>h).get m;generalize l[i]=x at *;obtain⟨i1,i2,i3,i4,i5⟩:=U;refine AT m (Ah hr (fun j u hu=>by rw[Addr.add_add];exact hc j u hu) ?_);refine BQ (vs:=x.cells) rfl rfl (DV.one (w:=w) (x:=x) rfl) fun b5 W1 ak al g5 o _=>?_;have q0:=o 0 _ rfl;have q1:=o 1 _ rfl;have q2:=o 2 _ rfl;have q3:=o 3 _ rfl;have q4:=o 4 _ rfl;have B:=g.trans g5;have o1:FT w.heap.size W1 lv (Fy (l.take i)):=AE.mod T g5 (fun _ _ h=>h) fun _ _ _ h=>h;rw[AG];refine AL q0 ?_;refine AA (SE o1.sl (by omega) i1.1 i1.2) ?_;rintro v2 W2 ⟨o2,g2⟩;have q:∀n,(uv n).length<=10:=fun n=>(GQ 9 n).2;have u1:=q (Hm x.key);have u2:=q x.val.kind.toNat;have u3:=q (Hm x.val.n);have u4:=q x.val.f.toNat;rw[AG,AG,Addr.add_add];refine AL (g2.cell q1 fun h=>h) ?_;refine Ae (EF (k:=.u64) W2 (by kernel_rfl) (by kernel_rfl)) ?_;rw[Ff ⟨i2.1,by omega⟩];have ek:(Value.int .u64 x.val.kind)=.int .u64 ((x.val.kind.toNat:Nat):Int):=by rw[Int.toNat_of_nonneg i2.1]
  rw[ek];refine AA (Ju o2.sl (by simp only[Bp];omega) (by omega)) ?_;rintro v3 W3 ⟨o3,g3⟩;have I:=g2.trans g3;rw[AG,AG,Addr.add_add];refine AL (I.cell q2 fun h=>h) ?_;refine AA (SE o3.sl (by simp only[Bp];omega) i3.1 i3.2) ?_;rintro v4 W4 ⟨o4,g4⟩;have J:=I.trans g4;rw[AG,AG,Addr.add_add];refine AL (J.cell q3 fun h=>h) ?_;have ef:(Value.int .u64 x.val.f)=.int .u64 ((x.val.f.toNat:Nat):Int):=by rw[Int.toNat_of_nonneg i4.1]
  rw[ef];refine AA (Ju o4.sl (by simp only[Bp];omega) (by omega)) ?_;rintro v5 W5 ⟨o5,X⟩;have O:=J.trans X;rw[AG,AG,Addr.add_add];refine AL (O.cell q4 fun h=>h) ?_;refine PC (by omega) fun v6 W6 g6 Y=>?_;have Q:=O.trans g6;have o6:FT W4.heap.size W6 v5 _:=AE.mod (R':=JW) o5 g6 (fun _ _ h=>h) fun _ _ _ h=>h;refine AA (UZ o6.sl Y (by simp only[Bp,DO];omega)) ?_;rintro v7 W7 ⟨o7,g7⟩;have Z:=Q.trans g7;rw[AQ,AO (by omega)];refine⟨⟨i+1,v7,m,rfl,?_,B.trans Z⟩,by rw[BD,BD];omega⟩;rw[V];have e7:Fy (l.take i)++Kh x=Fy (l.take i)++uv (Hm x.key)++uv x.val.kind.toNat++uv (Hm x.val.n)++uv x.val.f.toNat++(uv (CC x.val.s).length++CC x.val.s):=by
   rw[DO];simp only[Kh,Of]
  rw[e7];exact o7.low (lV B.size Q.size)
 .have:i=l.length:=by omega
  subst this;rw[PF] at T;exact Ae (SV T.sl (KT hI)) ⟨rfl,g⟩
def LV{D S:Nat->Prop}{l:List Attr}(hS:Ci D w sv ks)(h:CR S w v l)(hT:Ee w)(hI:∀a∈l,0<=a.val.f) :
  AB prog 142 [sv,v] (fun v' w'=>v'=zI (Bm ks l)/\Grow w w') w:=by
 classical
 apply ZD;obtain⟨a,c,rfl,hm⟩:=h.shape;simp only[maxLen] at hm;have Y:∀w',Grow w w'->KH l->zI 3=zI (Bm ks l)/\Grow w w':=fun w' g hb=>⟨by rw[Bm,DN hb],g⟩;rw[AP,BL];refine AF (fun h6=>Y _ (Mod.refl _ _) (.inr (.inl (by omega)))) fun h6=>?_;rw[AP];refine AX (fun vs W=>∃i:Nat,i<=l.length/\vs=[zI (if Gw ks (l.take i) then 4 else 0),zI i]/\Grow w W/\(∀a∈l.take i,DH a.val)/\NC Attr.key l i) (fun vs _=>l.length-De vs 1)
  ⟨0,Nn _,by rw[Bq (by rintro⟨a,ha,_⟩;simp at ha)];rfl,Mod.refl _ _,by simp,fun j hj=>by omega⟩ ?_
 rintro vs W ⟨i,hi,rfl,g,hv,Q⟩ _;simp only[GC];refine Hj (fun b6=>?_) fun a7=>?_
 .have m:i<l.length:=by omega
  obtain⟨p,r,rfl,_,hr,hc,rfl⟩:=(h.grow g (by decide) fun _ _ h=>h).get m;refine AT m (Ah hr (fun j u hu=>by rw[Addr.add_add];exact hc j u hu) ?_);refine BQ (vs:=l[i].cells) rfl rfl (DV.one (w:=w) (x:=l[i]) rfl) fun b7 U b8 b9 g7 I _=>?_;have B:=g.trans g7;have Z:=hI l[i] (WJ m);have e1:l.take (i+1)=l.take i++[l[i]]:=by rw[No,By m];rfl
  refine AV (fun vs W2=>Grow U W2/\((vs=[.bool true]/\KH l)\/(vs=[.bool false]/\DH l[i].val/\NC Attr.key l (i+1)))) ?_ ?_
  .rintro vs W2 ⟨V,a8⟩ _;rcases a8 with⟨rfl,hb⟩|⟨rfl,q,J⟩
   .exact Ak (Y _ (B.trans V) hb)
   .refine AS ?_;rw[AG];refine AL (V.cell (I 0 _ rfl) fun h=>h) ?_;rw[AG];refine Ah (vs:=l[i].val.cells) rfl (fun j u hu=>V.cell (by rw[Addr.add_add];exact I (1+j) u (by rw[pQ];exact hu)) fun h=>h) ?_;refine AA (PZ (hS.grow (B.trans V)) (hT.grow (B.trans V)) Z) ?_;rintro _ W3 ⟨rfl,g3⟩;have a1:=(B.trans V).trans g3;rw[An];have a6:∀a∈l.take (i+1),DH a.val:=fun a ha=>by
     rw[e1] at ha;rcases C3.1 ha with ha|ha
     .exact hv a ha
     .simp at ha;subst ha;exact q
    by_cases o:Gm ks l[i].key l[i].val
    .rw[lH o];refine AS ?_;rw[AQ,AO (by omega)];refine⟨⟨i+1,m,?_,a1,a6,J⟩,by rw[BD,BD];omega⟩;have e:Gw ks (l.take (i+1))↔Gw ks (l.take i):=by
      unfold Gw;rw[e1];constructor
      .rintro⟨a,ha,hn⟩;rcases C3.1 ha with ha|ha
       .exact⟨a,ha,hn⟩
       .simp at ha;subst ha;exact absurd o hn
      .rintro⟨a,ha,hn⟩;exact⟨a,jS _ ha,hn⟩
     simp only[e]
    .rw[kX o];refine Ak ?_;rw[AQ,AO (by omega)];refine⟨⟨i+1,m,?_,a1,a6,J⟩,by rw[BD,BD];omega⟩;rw[DN (show Gw ks (l.take (i+1)) from⟨l[i],by rw[e1];exact kI _ (P9.2 rfl),o⟩)]
  .refine Af (fun _ _=>False) ?_;have X:Grow U U.drew:=Mod.drew _ _;have T:NC Attr.key l (i+1)->AM 1 (.pointer (some (⟨b7,0,none⟩:Addr))) fun ak=>Eg (Ta [16] [[],[0],[0,1],[0,1,2],[0,1,2],[0,1,2,4],[0,1,2,3,4,5],[0,1,2,3,4,5,6],[0,1,2,3,4,5,6,7],[0,1,2],[0,1,2,9],[0,1,2,3,4,5,6,7,8,9,10],[0,1,2,3,4,5,6,7,8,9,10,11],[0,1,2,3,4,5,6,7,8,9,10,11,12],[0,1,2,3,4,5,6,7,8,9,10,11,12,13],[0,1,2,3,4,5,6,7,8,9,10,11,12,13,14],[0,1,2,3,4,5,6,7,8,9,10,11,12,13,14,15],[0,1,2,3,4,5,6,7,8,9,10,11,12,13,14,15,16],[0,1,2,3,4,5,6,7,8,9,10,11,12,13,14,15,16,17],[0,1,2,3,4,5,6,7,8,9,10,11,12,13,14,15,16,17,18]] (fun _ _=>False) U.drew 15) 4 ak fun al=>
     AB prog 208 [al] (fun an w9=>Mod (fun _=>False) U.drew w9/\CA an fun av=>(fun vs W2=>Grow U W2/\((vs=[.bool true]/\KH l)\/(vs=[.bool false]/\DH l[i].val/\NC Attr.key l (i+1)))) [av] w9) U.drew:=by
    intro J;rw[AG];refine Ch (vs:=l[i].val.cells) rfl (fun j u hu=>⟨X.cell (by rw[Addr.add_add];exact I (1+j) u (by rw[pQ];exact hu)) fun h=>h,fun _ _ h=>h⟩) ?_;refine AA (OO (hT.grow (B.trans X)) Z) ?_;rintro _ W3 ⟨rfl,g3⟩;refine⟨g3,?_⟩;rw[An];refine⟨X.trans g3,?_⟩;by_cases q:DH l[i].val
    .exact .inr ⟨by rw[lH q];rfl,q,J⟩
    .exact .inl ⟨by rw[kX q];rfl,.inr (.inr ⟨l[i],WJ m,q⟩)⟩
   rw[BL];refine AF (fun ax=>?_) fun ax=>T (fun j hj=>by omega);rw[Aq,wrap64 (by omega) (by omega),show((i:Int)-1)=((i-1:Nat):Int) by omega];have O:i-1<l.length:=by omega
   obtain⟨_,r2,e2,_,ba,ay,rfl⟩:=(h.grow g (by decide) fun _ _ h=>h).get O;cases e2;refine AT O ?_;rw[AG,Addr.add_add];refine AU ⟨(g7.trans X).cell (ay 0 _ rfl) fun h=>h,fun _ _ h=>h⟩ ?_;rw[AG];refine AU ⟨X.cell (I 0 _ rfl) fun h=>h,fun _ _ h=>h⟩ ?_;rw[DW];refine AF (fun a7=>⟨X,.inl ⟨rfl,.inl fun hr=>?_⟩⟩) fun b2=>T ?_
   .have:=hr i (by omega) m _ _ (By O) (By m);omega
   .intro j b0 bb x y hx hy;by_cases b1:j<i
    .exact Q j b0 b1 x y hx hy
    .have:j=i:=by omega
     subst this;rw[By O] at hx;rw[By m] at hy;cases hx;cases hy;omega
 .have:i=l.length:=by omega
  subst this;rw[PF] at hv;refine⟨?_,g⟩;have ok:¬KH l:=by
   rintro(h|h|⟨a,ha,h⟩)
   .exact h Q
   .omega
   .exact h (hv a ha)
  rw[PF,Bm,Bq ok]
def Rk(s:ByteArray):MapKept.IsKey .string (.string s):=trivial
def Tab.ask{α:Type}(t:Tab α)(z:α)(id:Int):Option (Ent α):=if id=0 then some ⟨z,t.empty⟩ else if id<0 then none else match t.places[(id-1).toNat]? with
 |some p=>if p.held=0 then none else some p
 |none=>none
structure Tab.Small {α:Type} (t:Tab α) (n:Nat):Prop where
 pl:t.places.length<=n
 em:t.empty<=n
 he:∀p∈t.places,p.held<=n
def Tab.Jq{t:Tab α}{z:α}{id:Int}{p:Ent α}(h:t.ask z id=some p)(h0:id≠0):∃i:Nat,id=(i:Int)+1/\t.places[i]?=some p/\0<p.held:=by
 unfold Tab.ask at h;rw[Bq h0] at h;split at h
 .cases h
 .cases hp:t.places[(id-1).toNat]? with
  |none=>rw[hp] at h;cases h
  |some q=>
   rw[hp] at h;simp only at h;split at h
   .cases h
   .cases h;exact⟨(id-1).toNat,by omega,hp,by omega⟩
def Tab.VT{t:Tab α}{z:α}{i:Nat}{p:Ent α}(h:t.places[i]?=some p)(h0:0<p.held):t.ask z ((i:Int)+1)=some p:=by
 unfold Tab.ask;rw[Bq (by omega),Bq (by omega),show((i:Int)+1-1).toNat=i by omega,h];simp only;rw[Bq (by omega)]
abbrev Re:Nat:=181
def Ge(C:Nat->Prop):World->List Value->Ent (List Attr)->Prop:=fun w r x=>∃sv,r=[sv,zI x.held]/\CR C w sv x.set
def Ge.one{r:List Value}{x:Ent (List Attr)}(h:Ge C w r x):∀u∈r,u.oneCell'=true:=by
 obtain⟨sv,rfl,i⟩:=h;obtain⟨a,c,rfl,_⟩:=i.shape;intro u hu;simp at hu;rcases hu with rfl|rfl<;>rfl
def Ge.mod{r:List Value}{x:Ent (List Attr)}(h:Ge C w r x)(hm:Mod M w w')(hC:∀b,b<w.heap.size->C b->¬M b):Ge C w' r x:=by
 obtain⟨sv,e,i⟩:=h;exact⟨sv,e,i.mod hm hC (by decide) fun _ _ h=>h⟩
def Ge.sub{C i:Nat->Prop}{r:List Value}{x:Ent (List Attr)}(h:Ge C w r x)(hC:∀b,b<w.heap.size->C b->i b):Ge i w r x:=by
 obtain⟨sv,e,j⟩:=h;exact⟨sv,e,j.sub hC (by decide) fun _ _ h=>h⟩
abbrev GL(ks:List DKey):List Attr->Prop:=Qd fun s=>Bm ks s=0
structure SKs where
 sv:Value
 ks:List DKey
 S:Nat->Prop
structure Vt (F C:Nat->Prop) (W:World) (b:Nat) (ks:SKs) (t:Tab (List Attr)) (pl fr:Value) (bm:Nat):Prop where
 JO:Ci ks.S W ks.sv ks.ks
 GH:AE 0 Re 2 (Ge C) W pl t.places
 KE:AE 0 3 1 MR W fr (t.free.map fun i:Nat=>(i:Int))
 map:∃f,IE .string W bm f/\EZ t f
 inv:t.Inv (GL ks.ks)
 fb:F b/\¬C b
 fm:F bm/\¬C bm/\bm≠b
 pF:∀g,pl.ownBlock=some g->F g/\¬C g/\g≠b/\g≠bm
 fF:∀g,fr.ownBlock=some g->F g/\¬C g/\g≠b/\g≠bm/\pl.ownBlock≠some g
 cf:∀x,C x->F x/\x<W.heap.size
 sf:∀x,ks.S x->¬F x/\x<W.heap.size
def Vt.mod{b:Nat}{ks:SKs}{t:Tab (List Attr)}{pl fr:Value}(h:Vt F C W b ks t pl fr c)(hm:Mod M W W')(j:∀x,F x\/ks.S x->x≠b->¬M x):Vt F C W' b ks t pl fr c:=by
 have hC:∀ x,x < W.heap.size->C x->¬ M x:=fun x _ i=>j x (.inl (h.cf x i).1) fun e=>h.fb.2 (e ▸ i);obtain ⟨f,o,hi⟩:=h.map;exact ⟨h.JO.mod hm fun x _ i=>j x (.inr i) fun e=>(h.sf x i).1 (e ▸ h.fb.1),AE.mod h.GH hm (fun g m=>j g (.inl (h.pF g m).1) (h.pF g m).2.2.1) fun r x _ i=>i.mod hm hC,AE.mod h.KE hm (fun g m=>j g (.inl (h.fF g m).1) (h.fF g m).2.2.1) fun _ _ _ h=>h,⟨f,o.mod hm (j c (.inl h.fm.1) h.fm.2.2),hi⟩,h.inv,h.fb,h.fm,h.pF,h.fF,
  fun x i=>⟨(h.cf x i).1,X8 (h.cf x i).2 hm.size⟩,fun x i=>⟨(h.sf x i).1,X8 (h.sf x i).2 hm.size⟩⟩
abbrev UM(sv pl fr:Value)(bm:Nat)(em:Nat):List Value:=[sv,pl,fr,.map (some bm),zI em]
structure L7 (F C:Nat->Prop) (W:World) (b:Nat) (ks:SKs) (t:Tab (List Attr)) (pl fr:Value) (bm:Nat):Prop where
 cells:∀j v,(UM ks.sv pl fr bm t.empty)[j]?=some v->W.cell? ⟨b,j,none⟩=some v
 live:∀j,j<5->Live W ⟨b,j,none⟩
 core:Vt F C W b ks t pl fr bm
def E8(F:Nat->Prop)(W:World)(b:Nat)(ks:SKs)(t:Tab (List Attr)):Prop:=∃C pl fr bm,L7 F C W b ks t pl fr bm
def L7.mod{b:Nat}{ks:SKs}{t:Tab (List Attr)}{pl fr:Value}(h:L7 F C W b ks t pl fr c)(hm:Mod M W W')(i:∀x,F x\/ks.S x->¬M x):L7 F C W' b ks t pl fr c:=
 ⟨fun j v m=>hm.cell (h.cells j v m) (i b (.inl h.core.fb.1)),fun j o=>(h.live j o).mod hm (i b (.inl h.core.fb.1)),h.core.mod hm fun x q _=>i x q⟩
def E8.mod{b:Nat}{ks:SKs}{t:Tab (List Attr)}(h:E8 F W b ks t)(hm:Mod M W W')(i:∀x,F x\/ks.S x->¬M x):E8 F W' b ks t:=by
 obtain⟨C,pl,fr,bm,h⟩:=h;exact⟨C,pl,fr,bm,h.mod hm i⟩
def E8.grow{b:Nat}{ks:SKs}{t:Tab (List Attr)}(h:E8 F W b ks t)(g:Grow W W'):E8 F W' b ks t:=h.mod g fun _ _ h=>h
def Ja(F:Nat->Prop)(w w':World)(b:Nat)(ks:SKs)(t:Tab (List Attr)):Prop:=∃F',(∀x,F' x->F x\/w.heap.size<=x/\x<w'.heap.size)/\E8 F' w' b ks t/\Mod F w w'
def Ja.same{b:Nat}{ks:SKs}{t:Tab (List Attr)}(h:E8 F w' b ks t)(hm:Mod F w w'):Ja F w w' b ks t:=⟨F,fun _ h=>.inl h,h,hm⟩
def E8.lt{b:Nat}{ks:SKs}{t:Tab (List Attr)}(h:E8 F W b ks t):b<W.heap.size/\F b:=by
 obtain⟨C,pl,fr,bm,h⟩:=h;exact⟨lF W _ (h.cells 4 _ rfl),h.core.fb.1⟩
def My{m:Option Nat}(w:World):(BS .neq 143 xo yo (.map m) (.map none)).run prog w=.ok (.bool (!m.isNone)) w:=by
 have hu:=underlying143;have e:(binOp .neq 143 (.map m) (.map none)).run prog w=.ok (.bool (!m.isNone)) w:=run_neq_map_nil w _ _ _ _ hu;simp[BS,eqGuard,e]
def Mi{b:Nat}{ks:SKs}{t:Tab (List Attr)}(h:E8 F W b ks t):AB prog 124 [.pointer (some ⟨b,0,none⟩)] (fun v' w'=>v'=.bool true/\w'=W) W:=by
 obtain⟨C,pl,fr,bm,h⟩:=h;apply ZJ;refine DS (Ak (AI ?_));rw[AG,AH];exact AL (h.cells 3 _ rfl) (Ae (My W) ⟨rfl,rfl⟩)
def aY{ks:SKs}(h:Ci ks.S w ks.sv ks.ks)(Q:∀x,ks.S x->x<w.heap.size) :
  AB prog 39 [ks.sv] (fun v' w'=>Grow w w'/\∃b,w.heap.size<=b/\v'=.pointer (some ⟨b,0,none⟩)/\E8 (fun x=>w.heap.size<=x/\x<w'.heap.size) w' b ks (Tab.z _)) w:=by
 apply fJ;refine Ae (v:=.map (some w.heap.size)) (w':=w.alloc (.map #[] 0)) rfl ?_;have T:Grow w (w.alloc (.map #[] 0)):=Mod.alloc _ _ _;have m:IE .string (w.alloc (.map #[] 0)) w.heap.size (fun _=>none):=IE.make .string w;have B:(w.alloc (.map #[] 0)).heap.size=w.heap.size+1:=by simp
 generalize w.alloc (.map #[] 0)=w1 at T m B ⊢;obtain⟨sv,ks,S⟩:=ks;obtain⟨U,_,_,_,rfl,_⟩:=id h;refine⟨(UM (.pointer (some ⟨U,0,none⟩)) (.slice none 0 0) (.slice none 0 0) w.heap.size 0).toArray,by kernel_rfl,?_⟩;refine DZ (vs:=UM (.pointer (some ⟨U,0,none⟩)) (.slice none 0 0) (.slice none 0 0) w.heap.size 0) fun b w2 hb X V I J=>?_;have i:=T.trans V;have o:=h.grow i;have Y:=i.size;refine⟨i,b,by omega,rfl,fun _=>False,.slice none 0 0,.slice none 0 0,w.heap.size,?_⟩;refine⟨fun j v Z=>by have:=I j v Z;rwa [AH] at this,fun j hj=>by have:=J j hj;rwa [AH] at this,?_⟩;refine⟨o,AE.nil,AE.nil,⟨_,m.mod V fun h=>h,EZ.z⟩,Tab.Inv.z _,⟨⟨by omega,by omega⟩,fun h=>h⟩,⟨⟨by omega,by omega⟩,fun h=>h,by omega⟩,(fun g O=>nomatch O),(fun g O=>nomatch O),(fun x q=>q.elim),fun x q=>⟨fun e=>by have:=Q x q;omega,by have:=Q x q;omega⟩⟩
def ZW{b:Nat}{ks:SKs}{t:Tab (List Attr)}(h:E8 F W b ks t)(m:t.places.length<=1099511627776) :
  AB prog 67 [.pointer (some ⟨b,0,none⟩)] (fun v' w'=>v'=zI (1+t.places.length-t.free.length)/\Grow W w') W:=by
 apply dS;refine AA (Mi h) ?_;rintro _ _ ⟨rfl,rfl⟩;rename World=>W
 obtain⟨C,pl,fr,bm,h⟩:=h;have o:=Tab.O5 h.core.inv;rw[An];refine AS (Cx (fun W'=>Grow W W') (Mod.drew _ _) ?_);refine AI ?_;rw[AG,AH];refine Ay (fun w2 g=>g.cell (h.cells 1 _ rfl) fun h=>h) ?_;obtain⟨a,c,i,_⟩:=h.core.GH.sl.shape;obtain⟨q,B,j,_⟩:=h.core.KE.sl.shape;rw[i,AP,AQ];refine AI ?_;rw[AG,AH];refine Ay (fun w2 g=>g.cell (h.cells 2 _ rfl) fun h=>h) ?_;rw[j,AP,Aq,Iq];intro W' g';refine⟨?_,g'⟩;rw[wrap64 (x:=1+(t.places.length:Int)) (by omega) (by omega),wrap64 (by omega) (by omega)]
def Md{b:Nat}{ks:SKs}{t:Tab (List Attr)}{id:Int}(h:E8 F W b ks t)(hs:t.places.length<=1099511627776)(h0:-9223372036854775808<=id)(h1:id<=9223372036854775807) :
  AB prog 106 [.pointer (some ⟨b,0,none⟩),.int .i64 id] (fun v' w'=>Grow W w'/\match t.ask [] id with
   |some p=>∃sv,v'=.tuple #[.agg #[sv,.int .i64 p.held],.int .i64 0]/\sv.oneCell'=true/\CR F w' sv p.set
   | none=>v'=.tuple #[.agg #[.slice none 0 0,.int .i64 0],.int .i64 5]) W:=by
 apply bV;refine EU fun b4 w1 ay b0 Y _ a1=>?_;have a6:=h.grow Y;obtain⟨C,pl,fr,bm,Z⟩:=h;have I:=Z.mod Y fun _ _ h=>h;obtain⟨pa,pc,J,_⟩:=Z.core.GH.sl.shape;have O:=I.core.GH.sl;rw[J] at O;have box:∀(vs:List Value) {W':World} {K:Cont},vs.length=2->(∀v∈vs,v.oneCell'=true)->Grow w1 W'->(∀o,Grow W o->K (.agg vs.toArray) o)->Ab 2 (.pointer (some ⟨b4,0,none⟩)) (.agg vs.toArray) (fun w=>Aa 2 (.pointer (some ⟨b4,0,none⟩)) K w) W':=by
  intro vs W' K hn ho g' hK;refine Ca hn ho (fun j hj=>(a1 j hj).mod g' fun h=>h) fun o m hc _=>?_;exact Ah hn hc (hK _ ((Y.trans g').next m fun x hx e=>by omega))
 have no:t.ask [] id=none->∀{o:World},Grow W o->Grow W o/\match t.ask [] id with
   |some p=>∃sv,Value.tuple #[.agg #[.slice none 0 0,.int .i64 0],.int .i64 5]=.tuple #[.agg #[sv,.int .i64 p.held],.int .i64 0]/\sv.oneCell'=true/\CR F o sv p.set
   |none=>Value.tuple #[.agg #[.slice none 0 0,.int .i64 0],.int .i64 5]=.tuple #[.agg #[.slice none 0 0,.int .i64 0],.int .i64 5]:=fun e o g=>⟨g,by rw[e]⟩
 refine AV (fun _ W'=>Grow w1 W'/\∃(i:Nat) (p:Ent (List Attr)),id=(i:Int)+1/\t.places[i]?=some p/\0<p.held) ?_ ?_
 .rintro _ W2 ⟨g2,i,p,rfl,hp,a7⟩ _;have hi:=(Ad.1 hp).1;have T:=(Ad.1 hp).2;refine AI ?_;refine Bh (g2.cell (I.cells 1 _ rfl) fun h=>h) ?_;rw[Aq,wrap64 (by omega) (by omega),show((i:Int)+1-1)=(i:Int) by omega,J];obtain⟨q,r,rfl,_,hr,hc,Q⟩:=O.get hi;obtain⟨si,rfl,U⟩:=Q;refine AT hi (Ah hr (fun j u hu=>by rw[Addr.add_add];exact g2.cell (hc j u hu) fun h=>h) ?_);obtain⟨sa,sc,rfl,_⟩:=U.shape;refine box [_,_] rfl (fun u hu=>by simp at hu;rcases hu with rfl|rfl<;>rfl) g2 fun o B=>?_;rw[Tab.VT hp a7];refine⟨B,_,by rw[T],rfl,?_⟩;have a8:CR C W (.slice sa t.places[i].set.length sc) t.places[i].set:=by
   obtain⟨q',r',e',_,b1,ak,s',e2,al⟩:=(J▸Z.core.GH.sl).get hi;cases e';have c0:=Y.cell (ak 0 s' (by rw[e2];rfl)) fun h=>h;have c1:=hc 0 _ rfl;rw[c0] at c1;cases c1;exact al
  rw[<-T];exact(a8.sub (fun x _ hx=>(Z.core.cf x hx).1) (by decide) fun _ _ h=>h).grow B (by decide) fun _ _ h=>h
 .refine AA (Mi a6) ?_;rintro _ _ ⟨rfl,rfl⟩;rename World=>w1
  rw[An];refine AS ?_;rw[Aj];refine AF (fun V=>?_) fun V=>?_
  .refine AI ?_;refine Bh (I.cells 4 _ rfl) ?_;refine⟨#[.slice none 0 0,zI t.empty],by kernel_rfl,?_⟩;refine box [.slice none 0 0,zI t.empty] rfl (fun u hu=>by simp at hu;rcases hu with rfl|rfl<;>rfl) (Mod.refl _ _) fun o B=>?_;have ea:t.ask [] id=some ⟨[],t.empty⟩:=by unfold Tab.ask;rw[DN V]
   rw[ea];exact⟨B,_,rfl,rfl,BB.nil⟩
  refine Hj (fun an=>?_) fun X=>?_
  .refine⟨#[.slice none 0 0,zI 0],by kernel_rfl,?_⟩;exact box [.slice none 0 0,zI 0] rfl (fun u hu=>by simp at hu;rcases hu with rfl|rfl<;>rfl) (Mod.refl _ _) fun o B=>no (by unfold Tab.ask;rw[Bq V,DN an]) B
  have av:0<=id:=by omega
  refine AI ?_;refine Bh (I.cells 1 _ rfl) ?_;rw[J,AP,BL];refine AF (fun ax=>?_) fun b2=>?_
  .refine⟨#[.slice none 0 0,zI 0],by kernel_rfl,?_⟩;refine box [.slice none 0 0,zI 0] rfl (fun u hu=>by simp at hu;rcases hu with rfl|rfl<;>rfl) (Mod.refl _ _) fun o B=>no ?_ B;unfold Tab.ask;rw[Bq V,Bq X,kY (by omega)]
  obtain⟨i,rfl⟩:∃i:Nat,id=(i:Int)+1:=⟨(id-1).toNat,by omega⟩;have hi:i<t.places.length:=by omega
  refine AI ?_;refine Bh (I.cells 1 _ rfl) ?_;rw[Aq,wrap64 (by omega) (by omega),show((i:Int)+1-1)=(i:Int) by omega,J];obtain⟨q,r,rfl,_,hr,hc,Q⟩:=O.get hi;obtain⟨si,rfl,U⟩:=Q;refine AT hi ?_;rw[AG,Addr.add_add];refine AL (hc 1 _ rfl) ?_;rw[Aj];refine AF (fun h0=>?_) fun h0=>⟨Mod.refl _ _,i,t.places[i],rfl,By hi,by omega⟩;refine⟨#[.slice none 0 0,zI 0],by kernel_rfl,?_⟩;refine box [.slice none 0 0,zI 0] rfl (fun u hu=>by simp at hu;rcases hu with rfl|rfl<;>rfl) (Mod.refl _ _) fun o B=>no ?_ B;unfold Tab.ask;rw[Bq V,Bq X,show((i:Int)+1-1).toNat=i by omega,By hi];simp only;rw[DN (by omega)]
def Tab.hold{α:Type}(t:Tab α)(z:α)(id:Int):Tab α:=match t.ask z id with
 |none=>t
 |some p=>if id=0 then { t with empty:=t.empty+1 } else t.IB (id-1).toNat ⟨p.set,p.held+1⟩
def Tab.release{α:Type}(t:Tab α)(z:α)(id:Int):Tab α:=match t.ask z id with
 |none=>t
 |some p=>if id=0 then { t with empty:=t.empty-1 } else if p.held=1 then t.drop z (id-1).toNat else t.IB (id-1).toNat ⟨p.set,p.held-1⟩
def Le(h:GL ks s):s.length<=64/\∀a∈s,a.val.s.size<=64:=by
 classical
 have hb:¬KH s:=fun hb=>by
  have m:Bm ks s=0:=h.2.2;unfold Bm at m;rw[DN hb] at m;cases m
 refine⟨pf fun j=>hb (.inr (.inl j)),fun a ha=>pf fun j=>hb (.inr (.inr ⟨a,ha,fun i=>?_⟩))⟩;rcases i with i|i|i|i
 .rw[i.2.1] at j;exact absurd j (by simp[FH,ByteArray.size])
 .rw[i.2] at j;exact absurd j (by simp[FH,ByteArray.size])
 .rw[i.2.1] at j;exact absurd j (by simp[FH,ByteArray.size])
 .have:=i.2.2.1;omega
def Ov{b:Nat}{ks:SKs}{t:Tab (List Attr)}{pl fr:Value}(h:Vt F C W b ks t pl fr c){id:Int}{p:Ent (List Attr)}(hp:t.ask [] id=some p):p.set.length<=64:=by
 by_cases h0:id=0
 .unfold Tab.ask at hp;rw[DN h0] at hp;cases hp;simp
 .obtain⟨i,_,h1,j⟩:=Tab.Jq hp h0;exact(Le (h.inv.ok i p h1 j)).1
def Ob{b:Nat}{ks:SKs}{t:Tab (List Attr)}{id:Int}(h:E8 F W b ks t)(I:t.places.length<=1099511627776)(h0:-9223372036854775808<=id)(h1:id<=9223372036854775807) :
  AB prog 51 [.pointer (some ⟨b,0,none⟩),.int .i64 id] (fun v' w'=>Grow W w'/\match t.ask [] id with
   |some p=>∃sv,v'=.tuple #[sv,.int .i64 0]/\HY W.heap.size w' sv p.set
   | none=>v'=.tuple #[.slice none 0 0,.int .i64 5]) W:=by
 apply ff;refine AA (Md h I h0 h1) ?_;rintro v1 U ⟨q,hm⟩;cases ha:t.ask [] id with
 |none=>
  rw[ha] at hm;subst hm;refine BO ?_;refine BQ (vs:=[.slice none 0 0,zI 0]) rfl rfl (fun u hu=>by simp at hu;rcases hu with rfl|rfl<;>rfl) fun b5 w2 _ _ o i _=>?_;rw[Bk];exact AY (fun e=>by cases e) fun _=>⟨q.trans o,rfl⟩
 |some p=>
  rw[ha] at hm;obtain⟨sv,rfl,J,j⟩:=hm;refine BO ?_;refine BQ (vs:=[sv,zI p.held]) rfl rfl (fun u hu=>by simp at hu;rcases hu with rfl|rfl;exact J;rfl) fun b5 w2 _ _ o i _=>?_;refine Nh ?_;rw[AG];refine AL (i 0 _ rfl) ?_;obtain⟨C,pl,fr,bm,O⟩:=h;have hl:=Ov O.core ha;refine AA (Ej (j.grow o (by decide) fun _ _ h=>h) (by omega)) ?_;rintro v3 V ⟨B,Q⟩;have m:=q.trans o;exact⟨m.trans Q,v3,rfl,B.base fun g T=>by have:=(AE.Ax B g T).1;have:=m.size;omega⟩
def LZ{b:Nat}{ks:SKs}{t:Tab (List Attr)}{pl fr:Value}{bm i n:Nat}{p:Ent (List Attr)}{K:World->Prop}{a:Addr}(h:L7 F C W b ks t pl fr bm)(hp:t.places[i]?=some p)(h0:0<p.held)(T:0<n)(o:pl=.slice (some a) t.places.length c)
 (Y:∀W',L7 F C W' b ks (t.IB i ⟨p.set,n⟩) pl fr bm->Mod F W W'->K W'):Av (.pointer (some (a.add (i*2+1)))) (zI n) K W:=by
 have hi:=(Ad.1 hp).1;have J:=(Ad.1 hp).2;have q:=h.core.GH;rw[o] at q;have B:pl.ownBlock=some a.block:=by rw[o];rfl
 obtain ⟨U,Z,V,f4⟩:=h.core.pF _ B;have I:Mod (fun x=>x=a.block) W (W.setCell (a.add (i * 2+1)) (zI n)):=Mod.setCell _ _ _ (by rw [BJ]);have hC:∀ x,x < W.heap.size->C x->¬ x=a.block:=fun x _ m e=>Z (e ▸ m);obtain ⟨⟨u,hu⟩,hf,ho,hm⟩:=AE.store (R':=Ge C) (u:=zI n) (x':=⟨p.set,n⟩) (j:=1) q hi (by decide) rfl (fun r y _ hr=>hr.mod I hC) (fun r hr=>by
  obtain ⟨s,rfl,X⟩:=hr;refine ⟨s,rfl,?_⟩;rw [J] at X;exact X.mod I hC (by decide) fun _ _ h=>h)
 refine Kg rfl rfl hu hf (Y _ ?_ (hm.mono fun x _ e=>by rw[e];exact U));obtain⟨f,O,Q⟩:=h.core.map;refine⟨fun j v hv=>hm.cell (h.cells j v hv) (fun e=>V e.symm),fun j hj=>(h.live j hj).mod hm (fun e=>V e.symm),?_⟩;exact⟨h.core.JO.mod hm fun x _ m e=>(h.core.sf x m).1 (e▸U),by rw[o];exact ho,AE.mod h.core.KE hm (fun g hg e=>(h.core.fF g hg).2.2.2.2 (by rw[B,e])) fun _ _ _ h=>h,⟨f,O.mod hm (fun e=>f4 e.symm),Q.IB hp h0 T⟩,h.core.inv.IB hp h0 T,h.core.fb,h.core.fm,h.core.pF,h.core.fF,fun x m=>⟨(h.core.cf x m).1,X8 (h.core.cf x m).2 hm.size⟩,fun x m=>⟨(h.core.sf x m).1,X8 (h.core.sf x m).2 hm.size⟩⟩
def IC{b:Nat}{ks:SKs}{t:Tab (List Attr)}{pl fr:Value}{bm n:Nat}{K:World->Prop}(h:L7 F C W b ks t pl fr bm)
 (m:∀W',L7 F C W' b ks { t with empty:=n } pl fr bm->Mod F W W'->K W'):Av (.pointer (some ⟨b,4,none⟩)) (zI n) K W:=by
 refine Fg h.cells (fun j i=>h.live j i) (q:=4) (show 4<5 by decide) rfl rfl fun W' hm hc hl=>?_;refine m W' ⟨hc,fun j i=>hl j i,?_⟩ (hm.mono fun x _ e=>by rw[e];exact h.core.fb.1);have:=h.core.mod hm fun x _ o=>o;exact⟨this.JO,this.GH,this.KE,this.map,⟨this.inv.Qr,this.inv.Ua,this.inv.Hn,this.inv.ok⟩,this.fb,this.fm,this.pF,this.fF,this.cf,this.sf⟩
def U7{b:Nat}{ks:SKs}{t:Tab (List Attr)}{id:Int}(h:E8 F W b ks t)(Q:t.Small 1099511627776)(h0:-9223372036854775808<=id)(h1:id<=9223372036854775807) :
  AB prog 152 [.pointer (some ⟨b,0,none⟩),zI id] (fun v' w'=>v'=zI (if(t.ask [] id).isSome then 0 else 5)/\Ja F W w' b ks (t.hold [] id)) W:=by
 apply aV;refine AA (Md h Q.pl h0 h1) ?_;rintro v1 w1 ⟨g1,hm⟩;unfold Tab.hold;cases ha:t.ask [] id with
 |none=>
  rw[ha] at hm;subst hm;refine BO ?_;refine BQ (vs:=[.slice none 0 0,zI 0]) rfl rfl (fun u hu=>by simp at hu;rcases hu with rfl|rfl<;>rfl) fun b5 w2 _ _ T U _=>?_;rw[Bk];have j:=g1.trans T;exact AY (fun e=>by cases e) fun _=>⟨rfl,.same (h.grow j) (j.mono fun _ _ h=>h.elim)⟩
 |some p=>
  rw[ha] at hm;obtain⟨sv,rfl,ho,a1⟩:=hm;refine BO ?_;refine BQ (vs:=[sv,zI p.held]) rfl rfl (fun u hu=>by simp at hu;rcases hu with rfl|rfl;exact ho;rfl) fun b5 w2 _ _ T U _=>?_;have j:=g1.trans T;obtain⟨C,pl,fr,bm,hR⟩:=h;have m:=hR.mod j fun _ _ h=>h;refine Nh ?_;rw[Aj];refine AF (fun O=>?_) fun O=>?_
  .refine AI ?_;refine Bh (m.cells 4 _ rfl) ?_;have:=Q.em;rw[AQ,wrap64 (by omega) (by omega)];refine AI ?_;rw[AG,AH];have V:((t.empty:Int)+1)=((t.empty+1:Nat):Int):=by omega
   rw[V];refine IC m fun W' o B=>⟨rfl,?_⟩;dsimp only;rw[DN O];exact .same ⟨C,pl,fr,bm,o⟩ ((j.mono fun _ _ h=>h.elim).trans B)
  .obtain⟨i,rfl,hp,X⟩:=Tab.Jq ha O;have hi:=(Ad.1 hp).1;have Y:=(Ad.1 hp).2;refine AI ?_;refine Bh (m.cells 1 _ rfl) ?_;obtain⟨pa,pc,I,_⟩:=m.core.GH.sl.shape;have J:=m.core.GH.sl;rw[I] at J;rw[Aq,wrap64 (by omega) (by omega),show((i:Int)+1-1)=(i:Int) by omega,I];obtain⟨q,r,rfl,_,hr,hc,Z⟩:=J.get hi;obtain⟨si,rfl,a6⟩:=Z;refine AT hi ?_;rw[AG,Addr.add_add];refine AL (hc 1 _ rfl) ?_;have a7:=Q.he t.places[i] (WJ hi);rw[AQ,wrap64 (by omega) (by omega)];refine AT hi ?_;rw[AG,Addr.add_add];have V:((t.places[i].held:Int)+1)=((p.held+1:Nat):Int):=by rw[Y];omega
   rw[V];refine LZ m hp X (n:=p.held+1) (by omega) I fun W' o B=>⟨rfl,?_⟩;dsimp only;rw[Bq O,lf];exact .same ⟨C,pl,fr,bm,o⟩ ((j.mono fun _ _ h=>h.elim).trans B)
structure EC (F C:Nat->Prop) (W:World) (b:Nat) (ks:SKs) (places:List (Ent (List Attr))) (free:List Nat) (em:Nat) (f:Value->Option Value) (pl fr:Value) (bm:Nat):Prop where
 cells:∀j v,(UM ks.sv pl fr bm em)[j]?=some v->W.cell? ⟨b,j,none⟩=some v
 live:∀j,j<5->Live W ⟨b,j,none⟩
 JO:Ci ks.S W ks.sv ks.ks
 GH:AE 0 Re 2 (Ge C) W pl places
 KE:AE 0 3 1 MR W fr (free.map fun i:Nat=>(i:Int))
 map:IE .string W bm f
 fb:F b/\¬C b
 fm:F bm/\¬C bm/\bm≠b
 pF:∀g,pl.ownBlock=some g->F g/\¬C g/\g≠b/\g≠bm
 fF:∀g,fr.ownBlock=some g->F g/\¬C g/\g≠b/\g≠bm/\pl.ownBlock≠some g
 cf:∀x,C x->F x/\x<W.heap.size
 sf:∀x,ks.S x->¬F x/\x<W.heap.size
section
variable {F C M:Nat->Prop}{W W':World}{b:Nat}{ks:SKs}{t:Tab (List Attr)}{places:List (Ent (List Attr))}{free:List Nat}{em:Nat}{f:Value->Option Value}{pl fr:Value}{bm:Nat}
def L7.m(h:L7 F C W b ks t pl fr bm):∃f,EC F C W b ks t.places t.free t.empty f pl fr bm/\EZ t f:=by
 obtain⟨f,i,hi⟩:=h.core.map;exact⟨f,⟨h.cells,h.live,h.core.JO,h.core.GH,h.core.KE,i,h.core.fb,h.core.fm,h.core.pF,h.core.fF,h.core.cf,h.core.sf⟩,hi⟩
def EC.r(h:EC F C W b ks t.places t.free t.empty f pl fr bm)(hi:EZ t f)(i:t.Inv (GL ks.ks)):L7 F C W b ks t pl fr bm:=
 ⟨h.cells,h.live,h.JO,h.GH,h.KE,⟨f,h.map,hi⟩,i,h.fb,h.fm,h.pF,h.fF,h.cf,h.sf⟩
def EC.mod(h:EC F C W b ks places free em f pl fr bm)(hm:Mod M W W')(m:∀x,F x\/ks.S x->¬M x):EC F C W' b ks places free em f pl fr bm:=by
 have hC:∀ x,x < W.heap.size->C x->¬ M x:=fun x _ i=>m x (.inl (h.cf x i).1);exact ⟨fun j v q=>hm.cell (h.cells j v q) (m b (.inl h.fb.1)),fun j B=>(h.live j B).mod hm (m b (.inl h.fb.1)),h.JO.mod hm fun x _ i=>m x (.inr i),AE.mod h.GH hm (fun g o=>m g (.inl (h.pF g o).1)) fun r x _ i=>i.mod hm hC,AE.mod h.KE hm (fun g o=>m g (.inl (h.fF g o).1)) fun _ _ _ h=>h,
  h.map.mod hm (m bm (.inl h.fm.1)),h.fb,h.fm,h.pF,h.fF,fun x i=>⟨(h.cf x i).1,X8 (h.cf x i).2 hm.size⟩,fun x i=>⟨(h.sf x i).1,X8 (h.sf x i).2 hm.size⟩⟩
def EC.Vu{o:Value->Option Value}(h:EC F C W b ks places free em f pl fr bm)(hm:Mod (fun x=>x=bm) W W')(q:IE .string W' bm o):EC F C W' b ks places free em o pl fr bm:=by
 have hC:∀ x,x < W.heap.size->C x->¬ x=bm:=fun x _ i e=>h.fm.2.1 (e ▸ i);have hb:¬ b=bm:=fun e=>h.fm.2.2 e.symm;exact ⟨fun j v B=>hm.cell (h.cells j v B) hb,fun j I=>(h.live j I).mod hm hb,h.JO.mod hm fun x _ i e=>(h.sf x i).1 (e ▸ h.fm.1),AE.mod h.GH hm (fun g m=>(h.pF g m).2.2.2) fun r x _ i=>i.mod hm hC,AE.mod h.KE hm (fun g m=>(h.fF g m).2.2.2.1) fun _ _ _ h=>h,
  q,h.fb,h.fm,h.pF,h.fF,fun x i=>⟨(h.cf x i).1,X8 (h.cf x i).2 hm.size⟩,fun x i=>⟨(h.sf x i).1,X8 (h.sf x i).2 hm.size⟩⟩
def EC.JG{i:List (Ent (List Attr))}{g:Nat}(h:EC F C W b ks places free em f pl fr bm)(q:pl.ownBlock=some g)(hm:Mod (fun x=>x=g) W W')(hp:AE 0 Re 2 (Ge C) W' pl i):EC F C W' b ks i free em f pl fr bm:=by
 obtain ⟨I,J,B,O⟩:=h.pF g q;have hC:∀ x,x < W.heap.size->C x->¬ x=g:=fun x _ m e=>J (e ▸ m);exact ⟨fun j v Q=>hm.cell (h.cells j v Q) (fun e=>B e.symm),fun j T=>(h.live j T).mod hm (fun e=>B e.symm),h.JO.mod hm (fun x _ m e=>(h.sf x m).1 (e ▸ I)),hp,AE.mod h.KE hm (fun g' o e=>(h.fF g' o).2.2.2.2 (by rw [q,e])) fun _ _ _ h=>h,
  h.map.mod hm (fun e=>O e.symm),h.fb,h.fm,h.pF,h.fF,fun x m=>⟨(h.cf x m).1,X8 (h.cf x m).2 hm.size⟩,fun x m=>⟨(h.sf x m).1,X8 (h.sf x m).2 hm.size⟩⟩
def EC.cJ{F':Nat->Prop}{B:Value}{free':List Nat}{K:World->Prop}{Mf:Nat->Prop}(h:EC F C W b ks places free em f pl fr bm)(hm:Mod Mf W W')(U:∀x,Mf x->fr.ownBlock=some x)(O:∀x,F x->F' x)(V:∀x,F' x->F x\/W.heap.size<=x)
 (ho:AE 0 3 1 MR W' B (free'.map fun i:Nat=>(i:Int)))(hn:∀g,B.ownBlock=some g->fr.ownBlock=some g\/W.heap.size<=g/\F' g)(Q:B.oneCell'=true)(X:B.cells=#[B])
 (hK:∀I,EC F' C I b ks places free' em f pl B bm->Mod (fun x=>x=b) W' I->K I):Av (.pointer (some ⟨b,2,none⟩)) B K W':=by
 have hb:∀ x,Mf x->F x/\¬ C x/\x≠b/\x≠bm/\pl.ownBlock≠some x:=fun x m=>h.fF x (U x m);have hC:∀ x,x < W.heap.size->C x->¬ Mf x:=fun x _ m e=>(hb x e).2.1 m;refine Fg (vs:=UM ks.sv pl fr bm em) (fun j v hv=>hm.cell (h.cells j v hv) fun e=>(hb b e).2.2.1 rfl) (fun j Y=>(h.live j Y).mod hm fun e=>(hb b e).2.2.1 rfl) (q:=2) (show 2 < 5 by decide) Q X fun I o hc hl=>?_;have T:=lF W _ (h.cells 4 _ rfl);have Z:∀ x,x < W'.heap.size->C x->¬ x=b:=fun x _ m e=>h.fb.2 (e ▸ m);have a1:=AE.Ax h.GH;have a6:=h.map.lt;refine hK I ⟨hc,fun j Y=>hl j Y,(h.JO.mod hm fun x _ m e=>(h.sf x m).1 (hb x e).1).mod o (fun x _ m e=>(h.sf x m).1 (e ▸ h.fb.1)),AE.mod (AE.mod (R':=Ge C) h.GH hm (fun g J e=>(hb g e).2.2.2.2 J) fun r x _ m=>m.mod hm hC) o (fun g J=>(h.pF g J).2.2.1) fun r x _ m=>m.mod o Z,AE.mod ho o (fun g J e=>?_) fun _ _ _ h=>h,
  (h.map.mod hm fun e=>(hb bm e).2.2.2.1 rfl).mod o h.fm.2.2,⟨O _ h.fb.1,h.fb.2⟩,⟨O _ h.fm.1,h.fm.2⟩,fun g J=>⟨O _ (h.pF g J).1,(h.pF g J).2⟩,fun g J=>?_,fun x m=>⟨O _ (h.cf x m).1,X8 (h.cf x m).2 (lV hm.size o.size)⟩,fun x m=>⟨fun e=>(V x e).elim (h.sf x m).1 fun e=>by have:=(h.sf x m).2;omega,X8 (h.sf x m).2 (lV hm.size o.size)⟩⟩ o
 .subst e;rcases hn g J with e|⟨e,_⟩
  .exact(h.fF g e).2.2.1 rfl
  .have:g<W.heap.size:=T;omega
 .rcases hn g J with e|⟨e,e'⟩
  .have:=h.fF g e;exact⟨O _ this.1,this.2⟩
  .refine⟨e',fun hc=>by have:=(h.cf g hc).2;omega,fun e2=>?_,fun e2=>by omega,fun e2=>by have:=(a1 g e2).2;omega⟩;have:b<W.heap.size:=T;omega
end
def Xk{a:Addr}{n c i:Nat}{l:List (Ent (List Attr))}{K:World->Prop}(h:AE 0 Re 2 (Ge C) W (.slice (some a) n c) l)(hi:i<l.length)(hC:∀x,x<W.heap.size->C x->¬x=a.block)
 (X:∀W',AE 0 Re 2 (Ge C) W' (.slice (some a) n c) (l.set i ⟨[],0⟩)->Mod (fun x=>x=a.block) W W'->K W'):Ab 2 (.pointer (some (a.add (i*2)))) (.agg #[.slice none 0 0,zI 0]) K W:=by
 have o:Mod (fun x=>x=a.block) W (W.setCell (a.add (i * 2+0)) (.slice none 0 0)):=Mod.setCell _ _ _ (by rw [BJ]);obtain ⟨⟨Z,I⟩,J,O,_⟩:=AE.store (R':=Ge C) (u:=.slice none 0 0) (x':=⟨[],l[i].held⟩) (j:=0) h hi (by decide) rfl (fun r y _ hr=>hr.mod o hC) (fun r hr=>by
  obtain ⟨s,rfl,Q⟩:=hr;exact ⟨_,rfl,BB.nil⟩)
 have T:i<(l.set i ⟨[],l[i].held⟩).length:=by rw[kJ];exact hi
 have m:Mod (fun x=>x=a.block) (W.setCell (a.add (i * 2+0)) (.slice none 0 0)) ((W.setCell (a.add (i * 2+0)) (.slice none 0 0)).setCell (a.add (i * 2+1)) (zI 0)):=Mod.setCell _ _ _ (by rw [BJ]);have q:∀ x,x < (W.setCell (a.add (i * 2+0)) (.slice none 0 0)).heap.size->C x->¬ x=a.block:=fun x Y hc=>hC x (by simpa using Y) hc;obtain ⟨_,_,B,_⟩:=AE.store (R':=Ge C) (u:=zI 0) (x':=⟨[],0⟩) (j:=1) O T (by decide) rfl (fun r y _ hr=>hr.mod m q) (fun r hr=>by
  obtain⟨s,rfl,Q⟩:=hr;refine⟨s,rfl,?_⟩;have e:(l.set i ⟨[],l[i].held⟩)[i].set=[]:=by rw[nj]
  rw [e] at Q;exact Q.mod m q (by decide) fun _ _ h=>h)
 rw[rT] at B;obtain⟨⟨u2,U⟩,V,_,_⟩:=AE.store (R':=fun _ _ (_:Ent (List Attr))=>True) (u:=zI 0) (x':=⟨[],0⟩) (j:=1) h hi (by decide) rfl (fun _ _ _ _=>trivial) (fun _ _=>trivial);refine⟨_,[.slice none 0 0,zI 0],rfl,rfl,rfl,fun u hu=>by simp at hu;rcases hu with rfl|rfl<;>rfl,fun j hj=>?_,X _ ?_ ?_⟩
 .rcases(show j=0\/j=1 by omega) with rfl|rfl
  .rw[Addr.add_add];exact⟨by rw[I];rfl,J⟩
  .rw[Addr.add_add];exact⟨by rw[U];rfl,V⟩
 .simp only[EW,Addr.add_add];exact B
 .simp only[EW,Addr.add_add];exact o.trans m
def Vc{b:Nat}{ks:SKs}{t:Tab (List Attr)}{id:Int}(h:E8 F W b ks t)(hs:t.Small 1099511627)(h0:-9223372036854775808<=id)(h1:id<=9223372036854775807) :
  AB prog 79 [.pointer (some ⟨b,0,none⟩),zI id] (fun v' w'=>v'=zI (if(t.ask [] id).isSome then 0 else 5)/\Ja F W w' b ks (t.release [] id)) W:=by
 apply eQ;have c8:=hs.pl;refine AA (Md h (by omega) h0 h1) ?_;rintro v1 w1 ⟨g1,hm⟩;unfold Tab.release;cases ha:t.ask [] id with
 |none=>
  rw[ha] at hm;subst hm;refine BO ?_;refine BQ (vs:=[.slice none 0 0,zI 0]) rfl rfl (fun u hu=>by simp at hu;rcases hu with rfl|rfl<;>rfl) fun b5 w2 _ _ g2 a1 _=>?_;rw[Bk];have B:=g1.trans g2;exact AY (fun e=>by cases e) fun _=>⟨rfl,.same (h.grow B) (B.mono fun _ _ h=>h.elim)⟩
 |some p=>
  rw[ha] at hm;obtain⟨si,rfl,ho,b1⟩:=hm;refine BO ?_;refine BQ (vs:=[si,zI p.held]) rfl rfl (fun u hu=>by simp at hu;rcases hu with rfl|rfl;exact ho;rfl) fun b5 w2 _ _ g2 a1 _=>?_;have B:=g1.trans g2;obtain⟨C,pl,fr,bm,hR⟩:=h;have o:=hR.mod B fun _ _ h=>h;have a6:=b1.grow g2 (by decide) fun _ _ h=>h;refine Nh ?_;rw[Aj];refine AF (fun hz=>?_) fun hz=>?_
  .refine AI ?_;refine Bh (o.cells 4 _ rfl) ?_;have:=hs.em;rw[Aq,Gj,wrap64 (by omega) (by omega)];refine AI ?_;rw[AG,AH];have en:(if(0:Int)>(t.empty:Int)-1 then(0:Int) else(t.empty:Int)-1)=((t.empty-1:Nat):Int):=by split<;>omega
   rw[en];refine IC o fun W' a7 a8=>⟨rfl,?_⟩;dsimp only;rw[DN hz];exact .same ⟨C,pl,fr,bm,a7⟩ ((B.mono fun _ _ h=>h.elim).trans a8)
  .obtain⟨i,rfl,hp,X⟩:=Tab.Jq ha hz;have hi:=(Ad.1 hp).1;have bd:=(Ad.1 hp).2;have c9:=hs.he t.places[i] (WJ hi);obtain⟨pa,pc,I,_⟩:=o.core.GH.sl.shape;rw[AG];refine AL (a1 1 _ rfl) ?_;rw[Aj];refine AF (fun Z=>?_) fun Z=>?_
   .have ak:p.held=1:=by omega
    have J:=hR.core.inv.ok i p hp X;obtain⟨bk,bl⟩:=Le J;refine Af (fun k y=>k=7/\y=bm) ?_;have gd:Grow w2 w2.drew:=Mod.drew _ _;refine AI ?_;rw[AG,AH];refine AU ⟨gd.cell (o.cells 3 _ rfl) fun h=>h,fun j hj e=>by obtain⟨rfl,_⟩:=e;exact absurd hj (by decide)⟩ ?_;rw[AG];refine AU ⟨gd.cell (a1 0 _ rfl) fun h=>h,fun j hj e=>by obtain⟨rfl,_⟩:=e;exact absurd hj (by decide)⟩ ?_;refine AA (Pq (a6.grow gd (by decide) fun _ _ h=>h) J.2.1 bl bk) ?_;rintro _ w4 ⟨rfl,g4⟩;refine⟨g4.mono fun _ _ h=>h.elim,?_⟩;have b2:=gd.trans g4;have b6:=B.trans b2;have b7:=o.mod b2 fun _ _ h=>h;have O:=b7.core.inv;obtain⟨f,al,b8⟩:=b7.m;obtain⟨w5,b9,an,Y⟩:=Qo (P:=prog) (ty:=0) (t:=143) (kt:=9) underlying143 underlying9 (Rk (El p.set)) al.map;refine Ae b9 ⟨Y.mono fun x _ e=>⟨rfl,e⟩,?_⟩;have Q:=al.Vu Y an;refine AI ?_;refine Bh (Q.cells 1 _ rfl) ?_;rw[Aq,wrap64 (by omega) (by omega),show((i:Int)+1-1)=(i:Int) by omega];refine⟨#[.slice none 0 0,zI 0],by kernel_rfl,?_⟩;have T:=Q.GH;rw[I] at T ⊢;obtain⟨q,r,rfl,hq,_,_,_⟩:=T.sl.get hi;refine AT hi ?_;have av:pl.ownBlock=some q.block:=by rw[I];exact hq.2
    have bn:∀x,x<w5.heap.size->C x->¬x=q.block:=fun x _ hx e=>(Q.pF _ av).2.1 (e▸hx);refine Xk T hi bn fun w6 bp ax=>?_;have U:=Q.JG av ax (by rw[I];exact bp);refine AI ?_;refine Bh (U.cells 2 _ rfl) ?_;have ca:=Tab.O5 O;rw[Aq,wrap64 (by omega) (by omega),show((i:Int)+1-1)=(i:Int) by omega];refine Da PU U.KE (Nn _) (cs:=[zI i]) (x:=(i:Int)) (by kernel_rfl) rfl rfl (fun _ _ _=>MR.one) (fun _ _ _ _ _ _ h=>h) (by rw[Iq];omega) (by rw[Iq];simp only[maxLen];omega) fun bs w7 V ay bx=>?_;refine AI ?_;rw[AG,AH];have b0:(t.free.map fun i:Nat=>(i:Int))++[(i:Int)]=(t.free++[i]).map fun i:Nat=>(i:Int):=by simp
    rw [b0] at V;have s7:=ay.size;have ba:=AE.Ax V;refine EC.cJ (F':=fun x=>F x\/w6.heap.size<=x/\x < w7.heap.size) U ay (fun _ h=>h) (fun _ h=>.inl h) (fun _ h=>h.imp id qj) V (fun g hg=>by
     rcases bx g hg with e|e
     .exact .inl e
     .exact .inr ⟨e,.inr ⟨e,(ba g hg).2⟩⟩) V.one.1 V.one.2 fun w8 c4 bb=>⟨rfl,?_⟩
    dsimp only;rw[Bq hz,DN ak,lf];have z4:=b6.size;have z5:=Y.size;have z6:=ax.size;have z8:=bb.size;refine⟨_,fun x hx=>?_,⟨C,pl,bs,bm,EC.r (t:=t.drop [] i) c4 (b8.drop O hp X) (Tab.Va O hp X [])⟩,?_⟩
    .rcases hx with hx|hx
     .exact .inl hx
     .exact .inr ⟨by omega,by omega⟩
    .refine(((((b6.mono fun _ _ h=>h.elim).trans (Y.mono fun x _ e=>by rw[e];exact al.fm.1)).trans (ax.mono fun x _ e=>by rw[e];exact(Q.pF _ av).1)).trans (ay.mono fun x _ e=>(U.fF x e).1)).trans (bb.mono fun x _ e=>by rw[e];exact U.fb.1))
   .refine AI ?_;refine Bh (o.cells 1 _ rfl) ?_;have bc:=o.core.GH.sl;rw[I] at bc;rw[Aq,wrap64 (by omega) (by omega),show((i:Int)+1-1)=(i:Int) by omega,I];obtain⟨q,r,rfl,_,hr,hc,c6⟩:=bc.get hi;obtain⟨s2,rfl,cc⟩:=c6;refine AT hi ?_;rw[AG,Addr.add_add];refine AL (hc 1 _ rfl) ?_;rw[Aq,wrap64 (by omega) (by omega)];refine AT hi ?_;rw[AG,Addr.add_add];have c7:p.held≠1:=fun e=>Z (by rw[e];rfl);have en:((t.places[i].held:Int)-1)=((p.held-1:Nat):Int):=by rw[bd];omega
    rw[en];refine LZ o hp X (n:=p.held-1) (by omega) I fun W' a7 a8=>⟨rfl,?_⟩;dsimp only;rw[Bq hz,Bq c7,lf];exact .same ⟨C,pl,fr,bm,a7⟩ ((B.mono fun _ _ h=>h.elim).trans a8)
def VD:DU prog 144 Re 2 32:=⟨Tryz.t181,.agg #[.slice none 0 0,zI 0],by kernel_rfl,by kernel_rfl,by kernel_rfl,by kernel_rfl,by kernel_rfl,by rfl,by decide⟩
section
variable {F C M:Nat->Prop}{W W':World}{b:Nat}{ks:SKs}{t:Tab (List Attr)}{places:List (Ent (List Attr))}{free:List Nat}{em:Nat}{f:Value->Option Value}{pl fr:Value}{bm:Nat}
def EC.iR{F':Nat->Prop}{B:Value}{m:List (Ent (List Attr))}{K:World->Prop}(h:EC F C W b ks places free em f pl fr bm)(hm:Mod (fun x=>pl.ownBlock=some x) W W')(O:∀x,F x->F' x)(T:∀x,F' x->F x\/W.heap.size<=x)
 (ho:AE 0 Re 2 (Ge C) W' B m)(U:∀g,B.ownBlock=some g->pl.ownBlock=some g\/W.heap.size<=g/\F' g)(Q:B.oneCell'=true)(V:B.cells=#[B])
 (hK:∀J,EC F' C J b ks m free em f B fr bm->Mod (fun x=>x=b) W' J->K J):Av (.pointer (some ⟨b,1,none⟩)) B K W':=by
 have hb:∀ x,pl.ownBlock=some x->F x/\¬ C x/\x≠b/\x≠bm:=fun x i=>h.pF x i;have hC:∀ x,x < W.heap.size->C x->¬ pl.ownBlock=some x:=fun x _ i e=>(hb x e).2.1 i;refine Fg (vs:=UM ks.sv pl fr bm em) (fun j v hv=>hm.cell (h.cells j v hv) fun e=>(hb b e).2.2.1 rfl) (fun j X=>(h.live j X).mod hm fun e=>(hb b e).2.2.1 rfl) (q:=1) (show 1 < 5 by decide) Q V fun J o hc hl=>?_;have a1:b < W.heap.size:=lF W _ (h.cells 4 _ rfl);have Y:∀ x,x < W'.heap.size->C x->¬ x=b:=fun x _ i e=>h.fb.2 (e ▸ i);have Z:=AE.Ax h.KE;have a6:=h.map.lt;refine hK J ⟨hc,fun j X=>hl j X,(h.JO.mod hm fun x _ i e=>(h.sf x i).1 (hb x e).1).mod o (fun x _ i e=>(h.sf x i).1 (e ▸ h.fb.1)),AE.mod ho o (fun g I e=>?_) fun r x _ i=>i.mod o Y,AE.mod (AE.mod (R':=MR) h.KE hm (fun g I e=>(h.fF g I).2.2.2.2 e) fun _ _ _ h=>h) o (fun g I=>(h.fF g I).2.2.1) fun _ _ _ h=>h,
  (h.map.mod hm fun e=>(hb bm e).2.2.2 rfl).mod o h.fm.2.2,⟨O _ h.fb.1,h.fb.2⟩,⟨O _ h.fm.1,h.fm.2⟩,fun g I=>?_,fun g I=>⟨O _ (h.fF g I).1,(h.fF g I).2.1,(h.fF g I).2.2.1,(h.fF g I).2.2.2.1,fun e=>?_⟩,fun x i=>⟨O _ (h.cf x i).1,X8 (h.cf x i).2 (lV hm.size o.size)⟩,fun x i=>⟨fun e=>(T x e).elim (h.sf x i).1 fun e=>by have:=(h.sf x i).2;omega,X8 (h.sf x i).2 (lV hm.size o.size)⟩⟩ o
 .subst e;rcases U g I with e|⟨e,_⟩
  .exact(h.pF g e).2.2.1 rfl
  .omega
 .rcases U g I with e|⟨e,e'⟩
  .have:=h.pF g e;exact⟨O _ this.1,this.2⟩
  .exact⟨e',fun hc=>by have:=(h.cf g hc).2;omega,fun e2=>by omega,fun e2=>by omega⟩
 .rcases U g e with e|⟨e,_⟩
  .exact(h.fF g I).2.2.2.2 e
  .have:=(Z g I).2;omega
def EC.Yk{K:World->Prop}{a:Addr}{c i n:Nat}{p:Ent (List Attr)}(h:EC F C W b ks places free em f pl fr bm)(hp:places[i]?=some p)(m:pl=.slice (some a) places.length c)
 (O:∀W',EC F C W' b ks (places.set i ⟨p.set,n⟩) free em f pl fr bm->Mod F W W'->K W'):Av (.pointer (some (a.add (i*2+1)))) (zI n) K W:=by
 have hi:=(Ad.1 hp).1;have I:=(Ad.1 hp).2;have o:=h.GH;rw[m] at o;have q:pl.ownBlock=some a.block:=by rw[m];rfl
 obtain ⟨Q,T,Y,Z⟩:=h.pF _ q;have B:Mod (fun x=>x=a.block) W (W.setCell (a.add (i * 2+1)) (zI n)):=Mod.setCell _ _ _ (by rw [BJ]);have hC:∀ x,x < W.heap.size->C x->¬ x=a.block:=fun x _ U e=>T (e ▸ U);obtain ⟨⟨u,hu⟩,V,X,hm⟩:=AE.store (R':=Ge C) (u:=zI n) (x':=⟨p.set,n⟩) (j:=1) o hi (by decide) rfl (fun r y _ hr=>hr.mod B hC) (fun r hr=>by
  obtain ⟨s,rfl,J⟩:=hr;refine ⟨s,rfl,?_⟩;rw [I] at J;exact J.mod B hC (by decide) fun _ _ h=>h)
 exact Kg rfl rfl hu V (O _ (h.JG q hm (by rw[m];exact X)) (hm.mono fun x _ e=>by rw[e];exact Q))
def EC.fe{K:World->Prop}{a:Addr}{c i B:Nat}{p:Ent (List Attr)}{o:Value}(h:EC F C W b ks places free em f pl fr bm)(hp:places[i]?=some p)(J:pl=.slice (some a) places.length c)(Y:∀x,F x\/ks.S x->x<B)(T:HY B W o s)
 (Z:∀W',EC (fun x=>F x\/o.ownBlock=some x) (fun x=>C x\/o.ownBlock=some x) W' b ks (places.set i ⟨s,p.held⟩) free em f pl fr bm->Mod (fun x=>x=a.block) W W'->K W'):Av (.pointer (some (a.add (i*2+0)))) o K W:=by
 have hi:=(Ad.1 hp).1;have X:=(Ad.1 hp).2;have O:pl.ownBlock=some a.block:=by rw[J];rfl
 obtain⟨f1,f2,f3,f4⟩:=h.pF _ O;have q:=AE.Ax T;have nF:∀x,o.ownBlock=some x->¬F x:=fun x m hF=>by have:=(q x m).1;have:=Y x (.inl hF);omega
 have Q:EC (fun x=>F x\/o.ownBlock=some x) (fun x=>C x\/o.ownBlock=some x) W b ks places free em f pl fr bm:=
  ⟨h.cells,h.live,h.JO,AE.mod h.GH (Mod.refl (fun _=>False) _) (fun _ _ h=>h) fun r x _ m=>m.sub fun _ _ h=>.inl h,h.KE,h.map,⟨.inl h.fb.1,fun e=>e.elim h.fb.2 fun e=>nF _ e h.fb.1⟩,⟨.inl h.fm.1,fun e=>e.elim h.fm.2.1 fun e=>nF _ e h.fm.1,h.fm.2.2⟩,
   fun g I=>⟨.inl (h.pF g I).1,fun e=>e.elim (h.pF g I).2.1 fun e=>nF _ e (h.pF g I).1,(h.pF g I).2.2⟩,fun g I=>⟨.inl (h.fF g I).1,fun e=>e.elim (h.fF g I).2.1 fun e=>nF _ e (h.fF g I).1,(h.fF g I).2.2⟩,fun x m=>m.elim (fun m=>⟨.inl (h.cf x m).1,(h.cf x m).2⟩) fun m=>⟨.inr m,(q x m).2⟩,fun x m=>⟨fun e=>e.elim (h.sf x m).1 fun e=>by have:=(q x e).1;have:=Y x (.inr m);omega,(h.sf x m).2⟩⟩
 have U:=Q.GH;rw [J] at U;have V:Mod (fun x=>x=a.block) W (W.setCell (a.add (i * 2+0)) o):=Mod.setCell _ _ _ (by rw [BJ]);have hC:∀ x,x < W.heap.size->(C x\/o.ownBlock=some x)->¬ x=a.block:=fun x _ m e=>(Q.pF _ O).2.1 (e ▸ m);obtain ⟨⟨u,hu⟩,hf,ho,hm⟩:=AE.store (R':=Ge (fun x=>C x\/o.ownBlock=some x)) (u:=o) (x':=⟨s,p.held⟩) (j:=0) U hi (by decide) T.one.1 (fun r y _ hr=>hr.mod V hC) (fun r hr=>by
  obtain ⟨s',rfl,_⟩:=hr;refine ⟨o,by rw [X];rfl,?_⟩;exact (AE.sl T).mod V (fun x _ m e=>hC x (q x m.2).2 (.inr m.2) e) (by decide) (fun _ _ h=>h) |>.sub (fun x _ m=>.inr m.2) (by decide) fun _ _ h=>h)
 exact Kg T.one.1 T.one.2 hu hf (Z _ (Q.JG O hm (by rw[J];exact ho)) hm)
end
def To{b:Nat}{ks:SKs}{t:Tab (List Attr)}{f:Value->Option Value}{pl fr:Value}(h:EC F C W b ks t.places t.free t.empty f pl fr c)(hi:t.Inv (GL ks.ks))(hs:t.Small 1099511627) :
  AB prog 144 [.pointer (some ⟨b,0,none⟩)] (fun v' w'=>∃ (i:Nat) (F':Nat->Prop) (m:List (Ent (List Attr))) (free':List Nat) (J a6:Value),v'=zI ((i:Int)+1)/\EC F' C w' b ks m free' t.empty f J a6 c/\Mod F W w'/\
   (∀ x,F' x->F x\/W.heap.size<=x/\x < w'.heap.size)/\((t.free.getLast?=some i/\m=t.places/\free'=t.free.dropLast)\/(t.free=[]/\i=t.places.length/\m=t.places++[⟨[],0⟩]/\free'=[]))) W:=by
 apply Ze;have ax:=Tab.O5 hi;have av:=hs.pl;refine AI ?_;refine Bh (h.cells 2 _ rfl) ?_;obtain⟨fa,fc,o,O,_,a7,a8⟩:=h.KE.shape;rw[Iq] at O;rw[o,AP,Aq,Iq,wrap64 (by omega) (by omega),DW];refine AF (fun ay=>?_) fun b0=>?_
 .have T:0<t.free.length:=by omega
  have Q:t.free≠[]:=lh.1 T;obtain⟨i,hl⟩:∃i,t.free.getLast?=some i:=⟨_,mT Q⟩;cases fa with
  |none=>have:=a8 rfl;rw[oD] at this;exact absurd this Q
  |some q=>
   obtain⟨g,rfl,_,_,b1⟩:=a7 q rfl;have U:=h.KE.sl;have B:=h.KE;rw[o,Iq] at U B;refine AI ?_;refine Bh (h.cells 2 _ rfl) ?_;rw[o,Iq];have hj:t.free.length-1<(t.free.map fun i:Nat=>(i:Int)).length:=by rw[Iq];omega
   obtain⟨_,r,e1,_,hr,hc,rfl⟩:=U.get hj;cases e1;have ev:(t.free.map fun i:Nat=>(i:Int))[t.free.length-1]=(i:Int):=by
    rw[mS];rw[mT Q,qh] at hl;rw[kW hl]
   rw[ev] at hc;have en:((t.free.length:Int)-1)=((t.free.length-1:Nat):Int):=by omega
   rw[en];refine AT (show t.free.length-1<t.free.length by omega) (AL (hc 0 _ rfl) ?_);refine AI ?_;refine Bh (h.cells 2 _ rfl) ?_;rw[o,Iq];refine Ae (Fa (e:=3) (k:=1) (i:=Tryz.t3) (by kernel_rfl) (by kernel_rfl) (by kernel_rfl) (by omega) W) ?_;refine AI ?_;rw[AG,AH];have ht:=AE.take B (j:=t.free.length-1) (by rw[Iq];omega);have ed:(t.free.map fun i:Nat=>(i:Int)).take (t.free.length-1)=t.free.dropLast.map fun i:Nat=>(i:Int):=by rw[od,lu]
   rw[ed] at ht;refine EC.cJ (F':=F) (free':=t.free.dropLast) (Mf:=fun _=>False) h (Mod.refl _ _) (fun _ h=>h.elim) (fun _ h=>h) (fun _ h=>.inl h) ht (fun g' ak=>.inl ?_) rfl rfl fun w' al an=>?_
   .rw[o];exact ak
   rw[AQ];obtain⟨p,hp,_⟩:=(hi.Ua i).1 (mj hl);have:=(Ad.1 hp).1;rw[wrap64 (by omega) (by omega)];exact⟨i,F,t.places,t.free.dropLast,pl,_,rfl,al,an.mono fun x _ e=>by rw[e];exact h.fb.1,fun x I=>.inl I,.inl ⟨hl,rfl,rfl⟩⟩
 .have V:t.free=[]:=QC (by omega);refine AI ?_;refine Bh (h.cells 1 _ rfl) ?_;refine⟨#[.slice none 0 0,zI 0],by kernel_rfl,?_⟩;refine Da VD h.GH (Nn _) (cs:=[.slice none 0 0,zI 0]) (x:=⟨[],0⟩) (by kernel_rfl) rfl ⟨_,rfl,BB.nil⟩ (fun _ _ _=>Ge.one) (fun w1 w2 r y b2 hm hr=>hr.mod hm fun x I hC e=>?_) (by omega) (by simp only[maxLen];omega) fun J w1 X hm hn=>?_
  .rcases e with e|e
   .exact(h.pF x e).2.1 hC
   .have:=(h.cf x hC).2;omega
  refine AI ?_;rw [AG,AH];have Y:=AE.Ax X;refine EC.iR (F':=fun x=>F x\/W.heap.size<=x/\x < w1.heap.size) h hm (fun _ h=>.inl h) (fun _ h=>h.imp id qj) X (fun g hg=>by
   rcases hn g hg with e|e
   .exact .inl e
   .exact .inr ⟨e,.inr ⟨e,(Y g hg).2⟩⟩) X.one.1 X.one.2 fun w2 Z a1=>?_
  refine AI ?_;refine Bh (Z.cells 1 _ rfl) ?_;obtain⟨a2,c2,e2,_⟩:=X.sl.shape;have z2:=a1.size;rw[e2,AP];refine⟨t.places.length,_,_,t.free,J,fr,by simp,Z,(hm.mono fun x _ e=>(h.pF x e).1).trans (a1.mono fun x _ e=>by rw[e];exact h.fb.1),fun x I=>?_,.inr ⟨V,rfl,rfl,V⟩⟩;rcases I with I|I
  .exact .inl I
  .exact .inr ⟨I.1,by omega⟩
def Tab.K5{α:Type}(t:Tab α)(z s:α)(id:Int)(t':Tab α):Prop:=
 (s=z/\id=0/\t'={ t with empty:=t.empty+1 })\/(s≠z/\∃i n:Nat,t.places[i]?=some ⟨s,n⟩/\0<n/\id=(i:Int)+1/\t'=t.IB i ⟨s,n+1⟩)\/
  (s≠z/\(∀(i:Nat) (p:Ent α),t.places[i]?=some p->0<p.held->p.set≠s)/\id=((t.put s).1:Int)+1/\t'=(t.put s).2)
def SF{b:Nat}{ks:SKs}{t:Tab (List Attr)}{l:List Attr}(h:E8 F W b ks t)(hs:t.Small 1099511627)(hv:CR S W v l)(hT:Ee W)(hI:∀a∈l,Mv a)(hF:∀x,F x->2+1<=x/\x<W.heap.size)(e5:∀x,S x->¬F x) :
  AB prog 74 [.pointer (some ⟨b,0,none⟩),v] (fun v' w'=>(Bm ks.ks l≠0/\v'=.tuple #[zI 0,zI (Bm ks.ks l)]/\Grow W w')\/
   (Bm ks.ks l=0/\∃ id t',v'=.tuple #[zI id,zI 0]/\t.K5 [] l id t'/\Ja F W w' b ks t')) W:=by
 apply eT;have ca:=hs.pl;have e6:∀a∈l,0<=a.val.f:=fun a ha=>(hI a ha).2.2.2.1.1;refine AA (Mi h) ?_;rintro _ _ ⟨rfl,rfl⟩;rename World=>W
 obtain⟨C,pl,fr,bm,hR⟩:=h;rw[An];refine AS (AI ?_);refine Bh (hR.cells 0 _ rfl) ?_;refine AA (LV hR.core.JO hv hT e6) ?_;rintro _ w3 ⟨rfl,g3⟩;rw[Bk];refine AY (fun a7=>?_) fun a7=>?_;rotate_left
 .exact .inl ⟨a7,rfl,g3⟩
 have ba:=hR.mod g3 fun _ _ h=>h;have e7:=hv.grow g3 (by decide) fun _ _ h=>h;obtain⟨va,vc,rfl,_⟩:=hv.shape;rw[AP,Aj];refine AF (fun hz=>?_) fun hz=>?_
 .have hl:l=[]:=QC (by omega);refine AI ?_;refine Bh (ba.cells 4 _ rfl) ?_;have:=hs.em;rw[AQ,wrap64 (by omega) (by omega)];refine AI ?_;rw[AG,AH];have en:((t.empty:Int)+1)=((t.empty+1:Nat):Int):=by omega
  rw[en];refine IC ba fun W' e8 b1=>.inr ⟨a7,0,_,rfl,.inl ⟨hl,rfl,rfl⟩,?_⟩;exact .same ⟨C,pl,fr,bm,e8⟩ ((g3.mono fun _ _ h=>h.elim).trans b1)
 have hl:l≠[]:=fun e=>hz (by rw [e];rfl);have U:GL ks.ks l:=⟨hl,hI,a7⟩;obtain ⟨e9,ea⟩:=Le U;refine AA (Pq e7 hI ea e9) ?_;rintro _ w6 ⟨rfl,g6⟩;have b2:=g3.trans g6;have cc:=ba.mod g6 fun _ _ h=>h;have O:=cc.core.inv;obtain ⟨f,a1,Y⟩:=cc.m;refine AI ?_;refine Bh (a1.cells 3 _ rfl) ?_;refine Ae (QV (P:=prog) (t:=143) (kt:=9) (et:=3) (z:=zI 0) underlying143 underlying9 (Rk (El l)) (EO (by kernel_rfl) w6) a1.map) ?_;refine BO ?_;refine AV (fun vs w9=>∃ (i n:Nat) (F9 C9:Nat->Prop) (o:List (Ent (List Attr))) (J:List Nat) (f9:Value->Option Value) (bb bc:Value),vs=[zI ((i:Int)+1)]/\EC F9 C9 w9 b ks o J t.empty f9 bb bc bm/\o[i]?=some ⟨l,n⟩/\n<=1099511627776/\i<=1099511627776/\
   Mod F W w9/\(∀ x,F9 x->F x\/W.heap.size<=x/\x < w9.heap.size)/\t.K5 [] l ((i:Int)+1) ⟨o.set i ⟨l,n+1⟩,J,t.empty⟩/\EZ ⟨o.set i ⟨l,n+1⟩,J,t.empty⟩ f9/\(⟨o.set i ⟨l,n+1⟩,J,t.empty⟩:Tab (List Attr)).Inv (GL ks.ks)) ?_ ?_
 .rintro vs w9 ⟨i,n,F9,C9,o,J,f9,bb,bc,rfl,b6,bd,ep,er,bk,cd,ch,bl,bn⟩ _;rw[Bl,Nr];have hi:=(Ad.1 bd).1;have bp:=(Ad.1 bd).2;refine AI ?_;refine Bh (b6.cells 1 _ rfl) ?_;obtain⟨pa,pc,V,_⟩:=b6.GH.sl.shape;have cn:=b6.GH.sl;rw[V] at cn;rw[Aq,wrap64 (by omega) (by omega),show((i:Int)+1-1)=(i:Int) by omega,V];obtain⟨q,r,rfl,_,hr,hc,ec⟩:=cn.get hi;obtain⟨si,rfl,eu⟩:=ec;refine AT hi ?_;rw[AG,Addr.add_add];refine AL (hc 1 _ rfl) ?_;have eh:o[i].held=n:=by rw[bp]
  rw[AQ,wrap64 (by omega) (by omega)];refine AT hi ?_;rw[AG,Addr.add_add];have en:((o[i].held:Int)+1)=((n+1:Nat):Int):=by omega
  rw[en];refine b6.Yk bd V fun W' ed b1=>.inr ⟨a7,_,_,rfl,ch,?_⟩;have s':=b1.size;refine⟨F9,fun x Q=>?_,⟨C9,bb,bc,bm,ed.r bl bn⟩,bk.next b1 fun x Q e=>?_⟩
  .rcases cd x Q with h|h
   .exact .inl h
   .exact .inr ⟨h.1,by omega⟩
  .rcases cd x e with h|h
   .exact h
   .omega
 .rw[An];cases hf:f (.string (El l)) with
  |some v=>
   obtain⟨i,n,hp,hn,rfl⟩:=Y.some O hI hf;have hi:=(Ad.1 hp).1;have cx:=hs.he t.places[i] (WJ hi);have bp:=(Ad.1 hp).2;rw[bp] at cx;refine AS ?_;exact⟨i,n,F,C,t.places,t.free,f,pl,fr,rfl,a1,hp,lV cx (by decide),by omega,b2.mono fun _ _ h=>h.elim,fun x Q=>.inl Q,.inr (.inl ⟨hl,i,n,hp,hn,rfl,rfl⟩),Y.IB hp hn (by omega),O.IB hp hn (by omega)⟩
  |none=>
   refine Ak ?_;have a8:=Y.none hf;refine AA (To a1 O hs) ?_;rintro _ ak ⟨i,F7,I,al,bs,ee,rfl,a6,bx,c4,an⟩;have ew:=a1.cf;have ey:=b2.size;have z7:=bx.size;have c6:∀x,F7 x->x<ak.heap.size:=fun x Q=>by
    rcases c4 x Q with h|h
    .have:=(hF x h).2;omega
    .exact h.2
   obtain⟨p,da,c7,T⟩:∃p,I[i]?=some p/\p.held=0/\((t.put l).1=i/\(t.put l).2=⟨I.set i ⟨l,1⟩,al,t.empty⟩):=by
    unfold Tab.put;rcases an with⟨h1,rfl,rfl⟩|⟨h1,rfl,rfl,rfl⟩
    .rw[h1];obtain⟨p,hp,ef⟩:=(O.Ua i).1 (mj h1);exact⟨p,hp,ef,rfl,rfl⟩
    .rw[h1];refine⟨⟨[],0⟩,by simp,rfl,rfl,?_⟩;simp
   have c8:=(Ad.1 da).1;have eA:i<=1099511627:=by
    rcases an with⟨h1,rfl,_⟩|⟨_,rfl,_⟩
    .omega
    .exact ca
   refine Af (fun k y=>k=10/\bs.ownBlock=some y) ?_;have gd:Grow ak ak.drew:=Mod.drew _ _;refine AI ?_;rw [AG,AH];refine AU ⟨gd.cell (a6.cells 1 _ rfl) fun h=>h,fun j hj e=>by obtain ⟨rfl,_⟩:=e;exact absurd hj (by decide)⟩ ?_;obtain ⟨pa,pc,V,_⟩:=a6.GH.sl.shape;have b8:=a6.GH.sl;rw [Aq,wrap64 (by omega) (by omega),show ((i:Int)+1 - 1)=(i:Int) by omega];have dk:CR S ak (.slice va l.length vc) l:=(hv.grow b2 (by decide) fun _ _ h=>h).mod bx (fun x _ Q hf=>e5 x Q hf) (by decide) fun _ _ h=>h;refine AA (Ej (dk.grow gd (by decide) fun _ _ h=>h) (by omega)) ?_;rintro cv eB ⟨dT,c9⟩;refine ⟨c9.mono fun _ _ h=>h.elim,?_⟩;have b9:=gd.trans c9;have e1:=a6.mod b9 fun _ _ h=>h;rw [V] at b8 ⊢;obtain ⟨q,r,rfl,hq,_,_,_⟩:=b8.get c8;refine AT c8 ?_;rw [AG,Addr.add_add];have zd:=gd.size;have eC:=c9.size;have ej:=AE.Ax dT;refine e1.fe (B:=ak.drew.heap.size) da V (fun x Q=>by
    rcases Q with Q|Q
    .have:=c6 x Q;omega
    .have:=(a6.sf x Q).2;omega) dT fun eI av ax=>?_
   have ek:bs.ownBlock=some q.block:=by rw[V];exact hq.2
   refine⟨ax.mono fun x _ e=>⟨rfl,by rw[e];exact hq.2⟩,?_⟩;refine AI ?_;refine Bh (av.cells 3 _ rfl) ?_;obtain⟨eo,e2,b7,ay⟩:=Pz (P:=prog) (t:=143) (kt:=9) (v:=zI ((i:Int)+1)) underlying143 underlying9 (Rk (El l)) av.map hf;refine Ae (v:=undef) (w':=eo) (by simp only[kL,e2,Result.andThen];rfl) ?_;have e3:=av.Vu ay b7;obtain⟨Z,e4,_,_,_⟩:=Tab.GD O U a8;have X:=Y.put O U hf;rw[T.2] at Z X;rw[T.1] at X;have b0:(I.set i ⟨l,p.held⟩).set i ⟨l,p.held+1⟩=I.set i ⟨l,1⟩:=by rw[rT,c7]
   refine⟨i,p.held,_,_,_,al,_,bs,ee,rfl,e3,by rw[kP c8],by omega,by omega,?_,?_,?_,?_,?_⟩
   .refine((((b2.mono fun _ _ h=>h.elim).trans bx).trans (b9.mono fun _ _ h=>h.elim)).next ax fun x Q e=>?_).next ay fun x Q e=>?_
    .have:=(a6.pF _ ek).1;rw[<-e] at this;rcases c4 x this with h|h
     .exact h
     .omega
    .have:=a1.fm.1;rw[<-e] at this;exact this
   .have eL:=ax.size;have eN:=ay.size;rintro x (Q|Q)
    .rcases c4 x Q with h|h
     .exact .inl h
     .exact .inr ⟨by omega,by omega⟩
    .have:=ej x Q;exact .inr ⟨by omega,by omega⟩
   .rw[b0];exact .inr (.inr ⟨hl,a8,by rw[T.1],T.2.symm⟩)
   .rw[b0];exact X
   .rw[b0];exact Z
def Tab.Small.le{t:Tab α}{N N':Nat}(h:t.Small N)(i:N<=N'):t.Small N':=⟨lV h.pl i,lV h.em i,fun p hp=>lV (h.he p hp) i⟩
def Tab.Has{α:Type}(t:Tab α)(z s:α)(id:Int)(n:Nat):Prop:=t.ask z id=some ⟨s,n⟩/\0<n/\(id=0↔s=z)
def Tab.Has.zero{t:Tab α}{z s:α}{n:Nat}(h:t.Has z s 0 n):s=z/\t.empty=n:=by
 have h1:=h.1;unfold Tab.ask at h1;rw[DN rfl] at h1;cases h1;exact⟨rfl,rfl⟩
def Tab.Has.pos{t:Tab α}{z s:α}{id:Int}{n:Nat}(h:t.Has z s id n)(h0:id≠0):∃i:Nat,id=(i:Int)+1/\t.places[i]?=some ⟨s,n⟩:=by
 obtain⟨i,e,hp,_⟩:=Tab.Jq h.1 h0;exact⟨i,e,hp⟩
def Tab.Has.Uu{t:Tab α}{z:α}(h:0<t.empty):t.Has z z 0 t.empty:=⟨by unfold Tab.ask;rw[DN rfl],h,by simp⟩
def Tab.Has.Ui{t:Tab α}{z s:α}{i n:Nat}(m:s≠z)(hp:t.places[i]?=some ⟨s,n⟩)(j:0<n):t.Has z s ((i:Int)+1) n:=⟨Tab.VT hp j,j,⟨fun h=>by omega,fun h=>absurd h m⟩⟩
def Tab.K5.keeps[DecidableEq α]{t t':Tab α}{z x s:α}{k id:Int}{n:Nat}{G:α->Prop}(h:t.K5 z x k t')(hi:t.Inv G)(T:x≠z->G x)(B:t.Has z s id n):t'.Has z s id (if x=s then n+1 else n)/\(x=s↔k=id):=by
 by_cases h0:id=0
 .subst h0;obtain⟨rfl,rfl⟩:=B.zero;rcases h with⟨rfl,rfl,rfl⟩|⟨J,i,n,hp,Y,rfl,rfl⟩|⟨J,O,rfl,rfl⟩
  .rw[DN rfl];exact⟨Tab.Has.Uu (t:={ t with empty:=t.empty+1 }) (S3 _),by simp⟩
  .rw[Bq J];exact⟨Tab.Has.Uu (t:=t.IB i _) B.2.1,⟨fun e=>absurd e J,fun e=>by omega⟩⟩
  .rw[Bq J];obtain⟨_,_,_,_,U⟩:=Tab.GD hi (T J) O;refine⟨?_,⟨fun e=>absurd e J,fun e=>by omega⟩⟩;have:=Tab.Has.Uu (t:=(t.put x).2) (z:=s) (by rw[U];exact B.2.1);rwa [U] at this
 .obtain⟨j,rfl,hp⟩:=B.pos h0;have q:s≠z:=fun e=>h0 (B.2.2.2 e);have Q:=(Ad.1 hp).1;rcases h with⟨rfl,rfl,rfl⟩|⟨J,i,m,I,hm,rfl,rfl⟩|⟨J,O,rfl,rfl⟩
  .rw[Bq (nY q)];exact⟨Tab.Has.Ui (t:={ t with empty:=t.empty+1 }) q hp B.2.1,⟨fun e=>absurd e.symm q,fun e=>by omega⟩⟩
  .by_cases e:x=s
   .subst e;have o:=hi.Hn i j _ _ I hp hm B.2.1 rfl;subst o;rw[hp] at I;cases I;rw[DN rfl];exact⟨Tab.Has.Ui q (by show(t.places.set i _)[i]?=_;rw[kP Q]) (S3 _),by simp⟩
   .rw[Bq e];have o:i≠j:=fun o=>by subst o;rw[hp] at I;cases I;exact e rfl
    exact⟨Tab.Has.Ui q (by show(t.places.set i _)[j]?=_;rw[lI o];exact hp) B.2.1,⟨fun h=>absurd h e,fun h=>absurd (by omega) o⟩⟩
  .have e:x≠s:=fun e=>O j _ hp B.2.1 e.symm;rw[Bq e];obtain⟨_,_,V,X,_⟩:=Tab.GD hi (T J) O;have o:j≠(t.put x).1:=fun o=>by
    have:=V ⟨s,n⟩ (o▸hp);have:=B.2.1;simp only at *;omega
   exact⟨Tab.Has.Ui q ((X j o).trans hp) B.2.1,⟨fun h=>absurd h e,fun h=>absurd (by omega) o⟩⟩
def Tab.Has.release{t:Tab α}{z s:α}{k id:Int}{n:Nat}(m:t.Has z s id n)(hk:k≠id\/1<n):(t.release z k).Has z s id (if k=id then n-1 else n):=by
 by_cases e:k=id
 .subst e;have O:1<n:=hk.resolve_left fun h=>h rfl;rw[DN rfl];unfold Tab.release;rw[m.1];dsimp only;by_cases h0:k=0
  .subst h0;obtain⟨rfl,rfl⟩:=m.zero;rw[DN rfl];exact Tab.Has.Uu (t:={ t with empty:=t.empty-1 }) (by show 0<t.empty-1;omega)
  .obtain⟨j,rfl,hp⟩:=m.pos h0;have I:=(Ad.1 hp).1;rw[Bq h0,Bq (by omega),show((j:Int)+1-1).toNat=j by omega];exact Tab.Has.Ui (fun e=>h0 (m.2.2.2 e)) (by show(t.places.set j _)[j]?=_;rw[kP I]) (by omega)
 .rw[Bq e];unfold Tab.release;cases ha:t.ask z k with
  |none=>exact m
  |some p=>
   dsimp only;by_cases o:k=0
   .rw[DN o];have h0:id≠0:=fun h=>e (by rw[o,h]);obtain⟨j,rfl,hp⟩:=m.pos h0;exact Tab.Has.Ui (t:={ t with empty:=t.empty-1 }) (fun e=>h0 (m.2.2.2 e)) hp m.2.1
   .rw[Bq o];obtain⟨i,rfl,hp,J⟩:=Tab.Jq ha o;rw[show((i:Int)+1-1).toNat=i by omega];by_cases h0:id=0
    .subst h0;obtain⟨rfl,rfl⟩:=m.zero;split
     .exact Tab.Has.Uu (t:=t.drop s i) m.2.1
     .exact Tab.Has.Uu (t:=t.IB i _) m.2.1
    .obtain⟨j,rfl,q⟩:=m.pos h0;have B:i≠j:=fun h=>e (by rw[h]);split
     .exact Tab.Has.Ui (fun e=>h0 (m.2.2.2 e)) (by show(t.places.set i _)[j]?=_;rw[lI B];exact q) m.2.1
     .exact Tab.Has.Ui (fun e=>h0 (m.2.2.2 e)) (by show(t.places.set i _)[j]?=_;rw[lI B];exact q) m.2.1
def HB{α:Type}[DecidableEq α](r:List (α×Int))(x:α):Nat:=(r.filter fun p=>decide (p.1=x)).length
def QZ[DecidableEq α](r:List (α×Int))(x y:α)(k:Int):HB (r++[(x,k)]) y=HB r y+if x=y then 1 else 0:=by
 unfold HB;rw[oU,Bp];by_cases h:x=y<;>simp[h]
def E3[DecidableEq α](r:List (α×Int))(x y:α)(k:Int):HB ((x,k)::r) y=HB r y+if x=y then 1 else 0:=by
 unfold HB;by_cases h:x=y<;>simp[h]
def Pt[DecidableEq α]{r:List (α×Int)}{p:α×Int}(h:p∈r):0<HB r p.1:=by
 unfold HB;exact pO (lx.2 ⟨h,by simp⟩)
def Lr[DecidableEq α]{r:List (α×Int)}{x:α}(h:0<HB r x):∃p∈r,p.1=x:=by
 unfold HB at h;obtain⟨p,hp⟩:=List.exists_mem_of_length_pos h;obtain⟨h1,i⟩:=lx.1 hp;exact⟨p,h1,by simpa using i⟩
structure Tab.GM {α:Type} [DecidableEq α] (t:Tab α) (z:α) (r:List (α×Int)):Prop where
 has:∀p∈r,t.Has z p.1 p.2 (HB r p.1)
 pl:∀(i:Nat) (q:Ent α),t.places[i]?=some q->0<q.held->∃p∈r,p.1=q.set
 em:t.empty=HB r z
def Tab.GM.z[DecidableEq α](z:α):(Tab.z α).GM z []:=⟨fun p hp=>(by cases hp),fun i q j=>(by simp[Tab.z] at j),rfl⟩
def Tab.Has.uniq{t:Tab α}{z x y:α}{k l:Int}{n m:Nat}{G:α->Prop}(hi:t.Inv G)(h1:t.Has z x k n)(o:t.Has z y l m):k=l↔x=y:=by
 constructor
 .rintro rfl;have:=h1.1.symm.trans o.1;cases this;rfl
 .rintro rfl;by_cases h0:k=0
  .have:=h1.2.2.1 h0;rw[h0,o.2.2.2 this]
  .obtain⟨i,rfl,hp⟩:=h1.pos h0;have q:l≠0:=fun e=>h0 (h1.2.2.2 (o.2.2.1 e));obtain⟨j,rfl,B⟩:=o.pos q;rw[hi.Hn i j _ _ hp B h1.2.1 o.2.1 rfl]
def Tab.GM.added[DecidableEq α]{t t':Tab α}{z x:α}{k:Int}{r:List (α×Int)}{G:α->Prop}(h:t.GM z r)(ha:t.K5 z x k t')(hi:t.Inv G)(J:x≠z->G x):t'.GM z (r++[(x,k)]):=by
 have O:t'.Has z x k (HB r x+1):=by
  by_cases T:∃p∈r,p.1=x
  .obtain⟨p,hp,rfl⟩:=T;obtain⟨h1,V⟩:=ha.keeps hi J (h.has p hp);rw[DN rfl] at h1;rw[V.1 rfl];exact h1
  .have h0:HB r x=0:=by
    refine Nat.eq_zero_of_not_pos fun Q=>T (Lr Q)
   rcases ha with⟨rfl,rfl,rfl⟩|⟨m,i,n,hp,U,rfl,rfl⟩|⟨m,o,rfl,rfl⟩
   .rw[<-h.em];exact Tab.Has.Uu (t:={ t with empty:=t.empty+1 }) (S3 _)
   .exact absurd (h.pl i _ hp U) T
   .rw[h0];obtain⟨_,h1,_⟩:=Tab.GD hi (J m) o;exact Tab.Has.Ui m h1 Nat.one_pos
 refine⟨fun p hp=>?_,fun i q I h0=>?_,?_⟩
 .rw[QZ];rcases C3.1 hp with hp|hp
  .have:=(ha.keeps hi J (h.has p hp)).1;by_cases e:x=p.1
   .rw[DN e] at this ⊢;exact this
   .rw[Bq e] at this ⊢;exact this
  .rw[P9] at hp;subst hp;rw[DN rfl];exact O
 .rcases ha with⟨rfl,rfl,rfl⟩|⟨m,j,n,hp,U,rfl,rfl⟩|⟨m,o,rfl,rfl⟩
  .obtain⟨p,hp,e⟩:=h.pl i q I h0;exact⟨p,jS _ hp,e⟩
  .have B:(t.places.set j ⟨x,n+1⟩)[i]?=some q:=I;by_cases e:i=j
   .subst e;rw[kP (Ad.1 hp).1] at B;cases B;exact⟨(x,(i:Int)+1),by simp,rfl⟩
   .rw[lI (nY e)] at B;obtain⟨p,hp,e⟩:=h.pl i q B h0;exact⟨p,jS _ hp,e⟩
  .obtain⟨_,h1,_,X,_⟩:=Tab.GD hi (J m) o;by_cases e:i=(t.put x).1
   .subst e;rw[h1] at I;cases I;exact⟨_,kI _ (P9.2 rfl),rfl⟩
   .rw[X i e] at I;obtain⟨p,hp,e⟩:=h.pl i q I h0;exact⟨p,jS _ hp,e⟩
 .rw[QZ];rcases ha with⟨rfl,rfl,rfl⟩|⟨m,j,n,hp,U,rfl,rfl⟩|⟨m,o,rfl,rfl⟩
  .rw[DN rfl,<-h.em]
  .rw[Bq m];exact h.em
  .rw[Bq m];obtain⟨_,_,_,_,Y⟩:=Tab.GD hi (J m) o;rw[Y];exact h.em
def Tab.GM.ij[DecidableEq α]{t:Tab α}{z x:α}{k:Int}{r:List (α×Int)}{G:α->Prop}(h:t.GM z ((x,k)::r))(hi:t.Inv G)(Y:∀s,G s->s≠z):(t.release z k).GM z r:=by
 have J:=h.has (x,k) lC;rw[E3,DN rfl] at J;refine⟨fun p hp=>?_,fun i q I h0=>?_,?_⟩
 .have B:=h.has p (gi _ hp);rw[E3] at B;have hu:=Tab.Has.uniq hi J B;by_cases e:k=p.2
  .have ex:=hu.1 e;simp only at ex;rw[DN ex] at B;have:=B.release (k:=k) (.inr (by have:=Pt hp;omega));rw[DN e,pH] at this;exact this
  .have ex:¬x=p.1:=fun h'=>e (hu.2 h');rw[Bq ex,lD] at B;have:=B.release (k:=k) (.inl e);rw[Bq e] at this;exact this
 .have T:∃V,t.places[i]?=some V/\0<V.held/\V.set=q.set/\(q.set=x->0<HB r x):=by
   unfold Tab.release at I;rw[J.1] at I;dsimp only at I;by_cases o:k=0
   .rw[DN o] at I;refine⟨q,I,h0,rfl,fun e=>?_⟩;exact absurd (e.trans (J.2.2.1 o)) (Y _ (hi.ok i q I h0))
   .rw[Bq o] at I;obtain⟨j,rfl,U⟩:=J.pos o;have X:=(Ad.1 U).1;rw[show((j:Int)+1-1).toNat=j by omega] at I;by_cases O:i=j
    .subst O;split at I
     .have m:(t.places.set i ⟨z,0⟩)[i]?=some q:=I;rw[kP X] at m;cases m;exact absurd h0 (ph _)
     .have m:(t.places.set i _)[i]?=some q:=I;rw[kP X] at m;cases m;exact⟨_,U,S3 _,rfl,fun _=>by simp only at h0;omega⟩
    .have m:t.places[i]?=some q:=by
      split at I
      .have m:(t.places.set j ⟨z,0⟩)[i]?=some q:=I;rwa [lI (nY O)] at m
      .have m:(t.places.set j _)[i]?=some q:=I;rwa [lI (nY O)] at m
     exact⟨q,m,h0,rfl,fun e=>absurd (hi.Hn i j _ _ m U h0 J.2.1 e) O⟩
  obtain⟨V,m,Z,es,a1⟩:=T;obtain⟨p,hp,ep⟩:=h.pl i V m Z;rcases K8.1 hp with rfl|hp
  .obtain⟨p',B,e'⟩:=Lr (a1 (by rw[<-es,<-ep]));exact⟨p',B,by rw[e',<-es,<-ep]⟩
  .exact⟨p,hp,by rw[ep,es]⟩
 .have Q:=h.em;rw[E3] at Q;unfold Tab.release;rw[J.1];dsimp only;by_cases o:k=0
  .rw[DN o];rw[DN (J.2.2.1 o)] at Q;show t.empty-1=_;omega
  .rw[Bq o];rw[Bq (fun e=>o (J.2.2.2 e))] at Q;split<;>exact Q
section
variable {α:Type}[DecidableEq α]{t t':Tab α}{z s:α}{f:Int->α}{h:Int->Nat}{id:Int}{G:α->Prop}
def Ns{r q:List (α×Int)}(hp:r.Perm q)(x:α):HB r x=HB q x:=(hp.filter _).length_eq
def Tab.GM.perm{r q:List (α×Int)}(j:t.GM z r)(hp:r.Perm q):t.GM z q:=
 ⟨fun p m=>by rw[<-Ns hp];exact j.has p (hp.mem_iff.2 m),fun i e h1 o=>by obtain⟨p,B,I⟩:=j.pl i e h1 o;exact⟨p,hp.mem_iff.1 B,I⟩,by rw[<-Ns hp];exact j.em⟩
omit [DecidableEq α] in
def Tab.Wb{n:Nat}{x:α}{k:Int}(h:t.Has z x k n):(t.hold z k).Has z x k (n+1)/\(∀(i:Nat) (q:Ent α),(t.hold z k).places[i]?=some q->0<q.held->∃Q:Ent α,t.places[i]?=some Q/\0<Q.held/\Q.set=q.set)/\((t.hold z k).empty=if k=0 then t.empty+1 else t.empty)/\
  (∀{y l m},l≠k->t.Has z y l m->(t.hold z k).Has z y l m):=by
 unfold Tab.hold;rw[h.1];dsimp only;by_cases h0:k=0
 .subst h0;obtain⟨rfl,rfl⟩:=h.zero;rw[DN rfl,DN rfl];refine⟨Tab.Has.Uu (t:={ t with empty:=t.empty+1 }) (S3 _),fun i q T I=>⟨q,T,I,rfl⟩,rfl,fun hl o=>?_⟩;obtain⟨j,rfl,hp⟩:=o.pos hl;exact Tab.Has.Ui (t:={ t with empty:=t.empty+1 }) (fun e=>hl (o.2.2.2 e)) hp o.2.1
 .obtain⟨i,rfl,hp⟩:=h.pos h0;have O:=(Ad.1 hp).1;rw[Bq h0,Bq h0,show((i:Int)+1-1).toNat=i by omega];refine⟨Tab.Has.Ui (t:=t.IB i ⟨x,n+1⟩) (fun e=>h0 (h.2.2.2 e)) (by show(t.places.set i _)[i]?=_;rw[kP O]) (S3 _),fun j q T I=>?_,rfl,fun{y l m} hl o=>?_⟩
  .have B:(t.places.set i ⟨x,n+1⟩)[j]?=some q:=T;by_cases e:i=j
   .subst e;rw[kP O] at B;cases B;exact⟨_,hp,h.2.1,rfl⟩
   .rw[lI e] at B;exact⟨q,B,I,rfl⟩
  .by_cases J:l=0
   .subst J;obtain⟨rfl,rfl⟩:=o.zero;exact Tab.Has.Uu (t:=t.IB i ⟨x,n+1⟩) o.2.1
   .obtain⟨j,rfl,U⟩:=o.pos J;have V:i≠j:=fun e=>hl (by rw[e]);exact Tab.Has.Ui (t:=t.IB i ⟨x,n+1⟩) (fun e=>J (o.2.2.2 e)) (by show(t.places.set i _)[j]?=_;rw[lI V];exact U) o.2.1
def Tab.GM.hold{r:List (α×Int)}(o:t.GM z r)(hi:t.Inv G){p:α×Int}(hp:p∈r):(t.hold z p.2).GM z (p::r):=by
 obtain⟨x,k⟩:=p;have j:=o.has _ hp;obtain⟨J,O,a3,a4⟩:=Tab.Wb j;simp only at J O a3 a4 j ⊢;have Q:=Pt hp;refine⟨fun q m=>?_,fun i q m B=>?_,?_⟩
 .rw[E3];have I:q∈r:=by
   rcases K8.1 m with rfl|m
   .exact hp
   .exact m
  have T:=o.has q I;have hu:=Tab.Has.uniq hi j T;by_cases e:k=q.2
  .have ex:=hu.1 e;rw[DN ex,<-ex,<-e];exact J
  .rw[Bq fun U=>e (hu.2 U),lD];exact a4 (fun e'=>e e'.symm) T
 .obtain⟨V,h1,X,Y⟩:=O i q m B;obtain⟨Z,h4,h5⟩:=o.pl i V h1 X;exact⟨Z,gi _ h4,by rw[h5,Y]⟩
 .rw[E3,a3,o.em];by_cases h0:k=0
  .rw[DN h0,DN (j.2.2.1 h0)]
  .rw[Bq h0,Bq fun e=>h0 (j.2.2.2 e),lD]
def Tab.GM.jI{r:List (α×Int)}(j:t.GM z r):(t.hold z 0).GM z ((z,0)::r):=by
 have e:t.hold z 0={ t with empty:=t.empty+1 }:=by unfold Tab.hold Tab.ask;simp
 rw[e];refine⟨fun q m=>?_,fun i q m B=>?_,?_⟩
 .rw[E3];rcases K8.1 m with rfl|m
  .rw[DN rfl,<-j.em];exact Tab.Has.Uu (t:={ t with empty:=t.empty+1 }) (S3 _)
  .have o:=j.has q m;by_cases h0:q.2=0
   .have J:=o.2.2.1 h0;rw[h0,J,DN rfl,<-j.em];exact Tab.Has.Uu (t:={ t with empty:=t.empty+1 }) (S3 _)
   .obtain⟨i,O,hp⟩:=o.pos h0;have I:q.1≠z:=fun e=>h0 (o.2.2.2 e);rw[Bq (nY I),O];exact Tab.Has.Ui (t:={ t with empty:=t.empty+1 }) I hp o.2.1
 .obtain⟨Q,T,U⟩:=j.pl i q m B;exact⟨Q,gi _ T,U⟩
 .show t.empty+1=_;rw[E3,DN rfl,j.em]
def Tab.Holds(t:Tab α)(z:α)(f:Int->α)(h:Int->Nat):Prop:=f 0=z/\∃r:List (α×Int),t.GM z r/\(∀p∈r,p.1=f p.2)/\∀id,r.countP (fun p=>decide (p.2=id))=h id
def Tab.Holds.mem(m:t.Holds z f h)(h0:0<h id):∃r:List (α×Int),t.GM z r/\(∀p∈r,p.1=f p.2)/\(∀id,r.countP (fun p=>decide (p.2=id))=h id)/\(f id,id)∈r:=by
 obtain⟨_,r,h1,i,j⟩:=m;refine⟨r,h1,i,j,?_⟩;rw[<-j] at h0;obtain⟨p,hp,e⟩:=o0.1 h0;simp only[TC] at e;have:=i p hp;rw[<-e,<-this];exact hp
def Tab.Holds.has(i:t.Holds z f h)(h0:0<h id):∃n,t.Has z (f id) id n:=by
 obtain⟨r,h1,_,_,j⟩:=i.mem h0;exact⟨_,h1.has _ j⟩
def Tab.Holds.ask(i:t.Holds z f h)(h0:0<h id):∃n,t.ask z id=some ⟨f id,n⟩:=by
 obtain⟨n,h1⟩:=i.has h0;exact⟨n,h1.1⟩
def Tab.Holds.inj(i:t.Holds z f h)(hi:t.Inv G){x y:Int}(j:0<h x)(o:0<h y):x=y↔f x=f y:=by
 obtain⟨n,h1⟩:=i.has j;obtain⟨m,q⟩:=i.has o;exact Tab.Has.uniq hi h1 q
def Tab.Holds.new(z:α):(Tab.z α).Holds z (fun _=>z) fun _=>0:=⟨rfl,[],Tab.GM.z z,fun p hp=>(nomatch hp),fun _=>rfl⟩
def Tab.Holds.congr{i:Int->Nat}(j:t.Holds z f h)(e:∀x,h x=i x):t.Holds z f i:=by
 obtain⟨h0,r,h1,m,o⟩:=j;exact⟨h0,r,h1,m,fun x=>(o x).trans (e x)⟩
def Tab.Holds.hold(m:t.Holds z f h)(hi:t.Inv G)(h0:0<h id\/id=0):(t.hold z id).Holds z f fun x=>h x+if x=id then 1 else 0:=by
 have q:=m.1;obtain⟨r,i,j,o⟩:∃r:List (α×Int),(∀p∈r,p.1=f p.2)/\(∀id,r.countP (fun p=>decide (p.2=id))=h id)/\(t.hold z id).GM z ((f id,id)::r):=by
  rcases h0 with h0|rfl
  .obtain⟨r,h1,i,j,o⟩:=m.mem h0;exact⟨r,i,j,h1.hold hi o⟩
  .obtain⟨_,r,h1,i,j⟩:=m;exact⟨r,i,j,by rw[q];exact h1.jI⟩
 refine⟨q,(f id,id)::r,o,fun p hp=>?_,fun x=>?_⟩
 .rcases K8.1 hp with rfl|hp
  .rfl
  .exact i p hp
 .rw[ou,j];by_cases e:x=id
  .subst e;simp
  .simp[e,nY e]
def Tab.Holds.free(j:t.Holds z f h)(hi:t.Inv G)(o:∀s,G s->s≠z)(h0:0<h id):(t.release z id).Holds z f fun x=>h x-if x=id then 1 else 0:=by
 obtain⟨r,h1,q,B,I⟩:=j.mem h0;have hp:r.Perm ((f id,id)::r.erase (f id,id)):=List.perm_cons_erase I;have J:=h1.perm hp;refine⟨j.1,r.erase (f id,id),J.ij hi o,fun p i=>q p (List.mem_of_mem_erase i),fun x=>?_⟩;have m:=B x;rw[hp.countP_eq,ou] at m;show _=h x-_;rw[<-m];by_cases e:x=id
 .subst e;simp
 .simp[e,nY e]
def Tab.Holds.added(I:t.Holds z f h)(hi:t.Inv G)(ha:t.K5 z s id t')(J:s≠z->G s):∃j:Int->α,t'.Holds z j (fun x=>h x+if x=id then 1 else 0)/\j id=s/\(∀x,0<h x->j x=f x):=by
 obtain⟨m,r,h1,o,q⟩:=I;have i:=h1.added ha hi J;have key:∀p∈r,p.2=id->p.1=s:=by
  intro p hp e;have a:=i.has p (jS _ hp);have b:=i.has (s,id) (kI _ (P9.2 rfl));rw[e] at a;have:=a.1.symm.trans b.1;cases this;rfl
 refine⟨fun x=>if x=id then s else f x,⟨?_,r++[(s,id)],i,fun p hp=>?_,fun x=>?_⟩,by simp,fun x B=>?_⟩
 .show(if(0:Int)=id then s else f 0)=z;split
  .rename_i e;have b:=i.has (s,id) (kI _ (P9.2 rfl));exact b.2.2.1 e.symm
  .exact m
 .rcases C3.1 hp with hp|hp
  .by_cases e:p.2=id
   .rw[key p hp e];simp[e]
   .simp[e,o p hp]
  .rw[P9] at hp;subst hp;simp
 .rw[pI,q];by_cases e:x=id
  .subst e;simp
  .simp[e,nY e]
 .by_cases e:x=id
  .subst e;rw[<-q] at B;obtain⟨p,hp,e⟩:=o0.1 B;simp only[TC] at e;simp only[lT];rw[<-key p hp e,o p hp,e]
  .simp[e]
def Tab.Holds.len(hh:t.Holds z f h)(hi:t.Inv G)(hG:∀s,G s->s≠z){L:List α}(hL:L.Nodup)(hm:∀s,s∈L↔s≠z/\∃id,0<h id/\f id=s):t.places.length=t.free.length+L.length:=by
 let I:=(List.range t.places.length).filter fun i=>decide (i∉t.free)
 have T:∀i,i∈I↔∃p:Ent α,t.places[i]?=some p/\0<p.held:=by
  intro i;simp only[I,lx,mZ,TC];constructor
  .rintro⟨a,b⟩;refine⟨t.places[i],By a,Nat.pos_of_ne_zero fun e=>b ((hi.Ua i).2 ⟨_,By a,e⟩)⟩
  .rintro⟨p,hp,h0⟩;refine⟨(Ad.1 hp).1,fun hf=>?_⟩;obtain⟨q,o,O⟩:=(hi.Ua i).1 hf;rw[hp] at o;cases o;omega
 have a1:t.places.length=t.free.length+I.length:=by
  have hp:((List.range t.places.length).filter fun i=>decide (i∈t.free)).Perm t.free:=by
   refine(qO (List.nodup_range.filter _) hi.Qr).2 fun i=>?_;simp only[lx,mZ,TC];refine⟨fun h=>h.2,fun h=>⟨?_,h⟩⟩;obtain⟨p,hp,_⟩:=(hi.Ua i).1 h;exact(Ad.1 hp).1
  have h1:=hp.length_eq;have U:∀l:List Nat,l.length=(l.filter fun i=>decide (i∈t.free)).length+(l.filter fun i=>decide (i∉t.free)).length:=by
   intro l;induction l with
   |nil=>rfl
   |cons i l ih=>
    rw[List.filter_cons,List.filter_cons,S5,ih];by_cases e:i∈t.free
    .simp[e];omega
    .simp[e];omega
  have Q:=U (List.range t.places.length);rw[List.length_range,h1] at Q;exact Q
 let S:Nat->α:=fun i=>match t.places[i]? with|some p=>p.set|none=>z
 have B:(I.map S).Perm L:=by
  refine(qO ?_ hL).2 fun s=>?_
  .refine List.pairwise_map.2 (List.Pairwise.imp_of_mem ?_ (List.nodup_range.filter _:I.Nodup));intro i j J hj V e;refine V ?_;obtain⟨p,hp,m⟩:=(T i).1 J;obtain⟨q,o,O⟩:=(T j).1 hj;simp only[S,hp,o] at e;exact hi.Hn i j p q hp o m O e
  .rw[hm,kT];obtain⟨X,r,h1,U,Q⟩:=hh;constructor
   .rintro⟨i,J,rfl⟩;obtain⟨p,hp,m⟩:=(T i).1 J;simp only[S,hp];obtain⟨q,o,e⟩:=h1.pl i p hp m;refine⟨hG _ (hi.ok i p hp m),q.2,?_,by rw[<-U q o,e]⟩;rw[<-Q];exact o0.2 ⟨q,o,by simp⟩
   .rintro⟨hz,id,h0,rfl⟩;obtain⟨n,Y⟩:=Tab.Holds.has ⟨X,r,h1,U,Q⟩ h0;have Z:id≠0:=fun e=>hz (Y.2.2.1 e);obtain⟨i,rfl,hp⟩:=Y.pos Z;exact⟨i,(T i).2 ⟨_,hp,Y.2.1⟩,by simp[S,hp]⟩
 have:=B.length_eq;rw[Iq] at this;omega
end
def Di.up{g:AvT α}{b bt N N':Nat}{l:List α}(h:Di g F C W b bt l N)(i:N<=N'):Di g F C W b bt l N':=by
 obtain⟨A,T,h1,j,m,o,q⟩:=h.EH;exact⟨h.box,⟨A,T,h1,j,m,o,lV q i⟩,h.fb⟩
def JN{α:Type}(e:Bool)(g:AvT α)(F C:Nat->Prop)(W:World)(b:Nat)(l:List α)(N:Nat):Prop:=
 (∃bt,Di g F C W b bt l N)\/(e=true/\Bx W b [.pointer none]/\l=[]/\(∀x,F x↔x=b)/\∀x,¬C x)
section
variable {α:Type}{e:Bool}{g:AvT α}{F C M:Nat->Prop}{W W':World}{b N N':Nat}{l:List α}
def JN.mod(h:JN e g F C W b l N)(hm:Mod M W W')(i:∀x,F x\/C x->¬M x):JN e g F C W' b l N:=by
 rcases h with⟨bt,h⟩|⟨h1,m,o,j,q⟩
 .exact .inl ⟨bt,h.mod hm i⟩
 .exact .inr ⟨h1,m.mod hm (i b (.inl ((j b).2 rfl))),o,j,q⟩
def JN.up(h:JN e g F C W b l N)(i:N<=N'):JN e g F C W b l N':=by
 rcases h with⟨bt,h⟩|h
 .exact .inl ⟨bt,h.up i⟩
 .exact .inr h
def JN.lt(h:JN e g F C W b l N):∀x,F x\/C x->x<W.heap.size:=by
 rcases h with⟨bt,h⟩|⟨h1,j,q,m,o⟩
 .exact h.lt
 .rintro x (i|i)
  .rw[(m x).1 i];exact j.lt (S3 _)
  .exact(o x i).elim
def JN.t(h:JN false g F C W b l N):∃bt,Di g F C W b bt l N:=h.resolve_right fun h=>nomatch h.1
def JN.fb(h:JN e g F C W b l N):F b:=by
 rcases h with⟨bt,h⟩|⟨h1,j,m,i,o⟩
 .exact h.fb.1
 .exact(i b).2 rfl
end
structure TxA where
 b:Nat
 r:Nat
 s:Nat
 p:Nat
 t:Nat
structure TxK where
 r:Bool
 s:Bool
 p:Bool
structure TxG where
 r:Nat->Prop
 s:Nat->Prop
 p:Nat->Prop
 c:Nat->Prop
 t:Nat->Prop
abbrev TxK.f:TxK:=⟨false,false,false⟩
structure O6 (k:TxK) (w0:World) (own:Nat->Nat) (G:TxG) (F:Nat->Prop) (W:World) (a:TxA) (σ:SKs) (most:Int) (l1:List Ck) (l2:List Spn) (L:List (List Attr)) (t:Tab (List Attr)) (N:Nat):Prop where
 box:Bx W a.b (Uv σ.sv most a.r a.s a.p a.t)
 Hi:JN k.r Az.toAvT G.r GJ W a.r l1 N
 EX:JN k.s DJ.toAvT G.s GJ W a.s l2 N
 para:JN k.p BF.toAvT G.p G.c W a.p L N
 Qs:E8 G.t W a.t σ t
 JO:Ci σ.S W σ.sv σ.ks
 cb:own a.b=0
 cr:∀x,G.r x->own x=1
 cs:∀x,G.s x->own x=2
 cp:∀x,G.p x\/G.c x->own x=3
 ct:∀x,G.t x->own x=4
 cS:∀x,σ.S x->own x=5/\x<W.heap.size
 lo:∀x,(x=a.b\/G.r x\/G.s x)\/(G.p x\/G.c x)\/G.t x->F x
 hl:∀x,F x->w0.heap.size<=x/\x<W.heap.size/\¬σ.S x
 g:Grow w0 W
section
variable {k:TxK}{w0:World}{own:Nat->Nat}{G:TxG}{F M:Nat->Prop}{W W':World}{a:TxA}{σ:SKs}{most:Int}{l1 Xx:List Ck}{l2 Ul:List Spn}{L L':List (List Attr)}{t t':Tab (List Attr)}{N N' c:Nat}
def O6.frame(h:O6 k w0 own G F W a σ most l1 l2 L t N)(h1:1<=c)(I:c<=4)(hm:Mod M W W')(m:∀x,M x->own x=c/\F x)(o:N<=N') :
  Bx W' a.b (Uv σ.sv most a.r a.s a.p a.t)/\(c≠1->JN k.r Az.toAvT G.r GJ W' a.r l1 N')/\(c≠2->JN k.s DJ.toAvT G.s GJ W' a.s l2 N')/\(c≠3->JN k.p BF.toAvT G.p G.c W' a.p L N')/\(c≠4->E8 G.t W' a.t σ t)/\Ci σ.S W' σ.sv σ.ks/\Grow w0 W'/\
   (∀{j:Nat->Nat},(j=fun x=>if x<W.heap.size then own x else c)->j a.b=0/\(∀x,G.r x->j x=1)/\(∀x,G.s x->j x=2)/\(∀x,G.p x\/G.c x->j x=3)/\(∀x,G.t x->j x=4)/\(∀x,σ.S x->j x=5/\x<W'.heap.size)/\∀{X Y:Nat->Prop},(∀x,X x->own x=c)->(∀x,Y x->X x\/W.heap.size<=x)->∀x,Y x->j x=c):=by
 have z:=hm.size;have GN:∀x,F x->x<W.heap.size:=fun x i=>(h.hl x i).2.1;refine⟨h.box.mod hm fun e=>by have:=(m _ e).1;have:=h.cb;omega,fun hc=>(h.Hi.mod hm fun x i e=>?_).up o,fun hc=>(h.EX.mod hm fun x i e=>?_).up o,fun hc=>(h.para.mod hm fun x i e=>?_).up o,fun hc=>h.Qs.mod hm fun x i e=>?_,h.JO.mod hm fun x _ i e=>?_,h.g.next hm fun x i e=>?_,?_⟩
 .have:=(m _ e).1;rcases i with i|i
  .have:=h.cr x i;omega
  .exact i.elim
 .have:=(m _ e).1;rcases i with i|i
  .have:=h.cs x i;omega
  .exact i.elim
 .have:=(m _ e).1;have:=h.cp x i;omega
 .have:=(m _ e).1;rcases i with i|i
  .have:=h.ct x i;omega
  .have:=(h.cS x i).1;omega
 .have:=(m _ e).1;have:=(h.cS x i).1;omega
 .have:=(h.hl _ (m x e).2).1;omega
 .rintro j rfl;have key:∀x,F x->(if x<W.heap.size then own x else c)=own x:=fun x i=>DN (GN x i);refine⟨by show ite _ _ _=0;rw[key _ (h.lo _ (.inl (.inl rfl)))];exact h.cb,fun x i=>by show ite _ _ _=1;rw[key _ (h.lo _ (.inl (.inr (.inl i))))];exact h.cr x i,fun x i=>by show ite _ _ _=2;rw[key _ (h.lo _ (.inl (.inr (.inr i))))];exact h.cs x i,fun x i=>by show ite _ _ _=3;rw[key _ (h.lo _ (.inr (.inl i)))];exact h.cp x i,fun x i=>by show ite _ _ _=4;rw[key _ (h.lo _ (.inr (.inr i)))];exact h.ct x i,fun x i=>?_,fun q B x i=>?_⟩
  .have:=h.cS x i;exact⟨by show ite _ _ _=5;rw[DN this.2];exact this.1,by omega⟩
  .show ite _ _ _=c;split
   .rcases B x i with e|e
    .exact q x e
    .omega
   .rfl
def O6.YH{j:Nat->Prop}{e:Bool}(h:O6 k w0 own G F W a σ most l1 l2 L t N)(hm:Mod G.r W W')(o:∀x,j x->G.r x\/W.heap.size<=x)(q:JN e Az.toAvT j GJ W' a.r Xx N')(B:N<=N') :
  ∃m,O6 { k with r:=e } w0 m { G with r:=j } (fun x=>F x\/j x) W' a σ most Xx l2 L t N':=by
 obtain⟨I,f2,J,O,Q,f6,T,U⟩:=h.frame (c:=1) (by decide) (by decide) hm (fun x i=>⟨h.cr x i,h.lo x (.inl (.inr (.inl i)))⟩) B;obtain⟨V,g2,X,Y,Z,g6,g7⟩:=U rfl;have z:=hm.size;have z0:=h.g.size;have hS:∀x,σ.S x->x<W.heap.size:=fun x i=>(h.cS x i).2;refine⟨_,I,q,J (by decide),O (by decide),Q (by decide),f6,V,g7 h.cr o,X,Y,Z,g6,fun x i=>?_,fun x i=>?_,T⟩
 .rcases i with(i|i|i)|i
  .exact .inl (h.lo x (.inl (.inl i)))
  .exact .inr i
  .exact .inl (h.lo x (.inl (.inr (.inr i))))
  .exact .inl (h.lo x (.inr i))
 .have up:F x->w0.heap.size<=x/\x<W'.heap.size/\¬σ.S x:=fun i=>by have:=h.hl x i;exact⟨this.1,by omega,this.2.2⟩
  rcases i with i|i
  .exact up i
  .rcases o x i with e|e
   .exact up (h.lo x (.inl (.inr (.inl e))))
   .exact⟨by omega,q.lt x (.inl i),fun e=>by have:=hS x e;omega⟩
def O6.Ws{j:Nat->Prop}{e:Bool}(h:O6 k w0 own G F W a σ most l1 l2 L t N)(hm:Mod G.s W W')(o:∀x,j x->G.s x\/W.heap.size<=x)(q:JN e DJ.toAvT j GJ W' a.s Ul N')(B:N<=N') :
  ∃m,O6 { k with s:=e } w0 m { G with s:=j } (fun x=>F x\/j x) W' a σ most l1 Ul L t N':=by
 obtain⟨I,J,f3,O,Q,f6,T,U⟩:=h.frame (c:=2) (by decide) (by decide) hm (fun x i=>⟨h.cs x i,h.lo x (.inl (.inr (.inr i)))⟩) B;obtain⟨V,X,g3,Y,Z,g6,g7⟩:=U rfl;have z:=hm.size;have z0:=h.g.size;have hS:∀x,σ.S x->x<W.heap.size:=fun x i=>(h.cS x i).2;refine⟨_,I,J (by decide),q,O (by decide),Q (by decide),f6,V,X,g7 h.cs o,Y,Z,g6,fun x i=>?_,fun x i=>?_,T⟩
 .rcases i with(i|i|i)|i
  .exact .inl (h.lo x (.inl (.inl i)))
  .exact .inl (h.lo x (.inl (.inr (.inl i))))
  .exact .inr i
  .exact .inl (h.lo x (.inr i))
 .have up:F x->w0.heap.size<=x/\x<W'.heap.size/\¬σ.S x:=fun i=>by have:=h.hl x i;exact⟨this.1,by omega,this.2.2⟩
  rcases i with i|i
  .exact up i
  .rcases o x i with e|e
   .exact up (h.lo x (.inl (.inr (.inr e))))
   .exact⟨by omega,q.lt x (.inl i),fun e=>by have:=hS x e;omega⟩
def O6.Zp{j m:Nat->Prop}{e:Bool}(h:O6 k w0 own G F W a σ most l1 l2 L t N)(hm:Mod G.p W W')(q:∀x,j x\/m x->(G.p x\/G.c x)\/W.heap.size<=x)(B:JN e BF.toAvT j m W' a.p L' N')(I:N<=N') :
  ∃o,O6 { k with p:=e } w0 o { G with p:=j,c:=m } (fun x=>F x\/j x\/m x) W' a σ most l1 l2 L' t N':=by
 obtain⟨J,O,Q,f4,T,f6,U,V⟩:=h.frame (c:=3) (by decide) (by decide) hm (fun x i=>⟨h.cp x (.inl i),h.lo x (.inr (.inl (.inl i)))⟩) I;obtain⟨X,Y,Z,g4,g5,g6,g7⟩:=V rfl;have z:=hm.size;have z0:=h.g.size;have hS:∀x,σ.S x->x<W.heap.size:=fun x i=>(h.cS x i).2;refine⟨_,J,O (by decide),Q (by decide),B,T (by decide),f6,X,Y,Z,g7 h.cp q,g5,g6,fun x i=>?_,fun x i=>?_,U⟩
 .rcases i with i|i|i
  .exact .inl (h.lo x (.inl i))
  .exact .inr i
  .exact .inl (h.lo x (.inr (.inr i)))
 .have up:F x->w0.heap.size<=x/\x<W'.heap.size/\¬σ.S x:=fun i=>by have:=h.hl x i;exact⟨this.1,by omega,this.2.2⟩
  rcases i with i|i
  .exact up i
  .rcases q x i with e|e
   .exact up (h.lo x (.inr (.inl e)))
   .exact⟨by omega,B.lt x i,fun e=>by have:=hS x e;omega⟩
def O6.gK{j:Nat->Prop}(h:O6 k w0 own G F W a σ most l1 l2 L t N)(hm:Mod G.t W W')(o:∀x,j x->G.t x\/W.heap.size<=x/\x<W'.heap.size)(q:E8 j W' a.t σ t')(B:N<=N') :
  ∃m,O6 k w0 m { G with t:=j } (fun x=>F x\/j x) W' a σ most l1 l2 L t' N':=by
 obtain⟨I,J,O,Q,f5,f6,T,U⟩:=h.frame (c:=4) (by decide) (by decide) hm (fun x i=>⟨h.ct x i,h.lo x (.inr (.inr i))⟩) B;obtain⟨V,X,Y,Z,g5,g6,g7⟩:=U rfl;have z:=hm.size;have z0:=h.g.size;have hS:∀x,σ.S x->x<W.heap.size:=fun x i=>(h.cS x i).2;refine⟨_,I,J (by decide),O (by decide),Q (by decide),q,f6,V,X,Y,Z,g7 h.ct (fun x i=>(o x i).imp id qj),g6,fun x i=>?_,fun x i=>?_,T⟩
 .rcases i with i|i|i
  .exact .inl (h.lo x (.inl i))
  .exact .inl (h.lo x (.inr (.inl i)))
  .exact .inr i
 .have up:F x->w0.heap.size<=x/\x<W'.heap.size/\¬σ.S x:=fun i=>by have:=h.hl x i;exact⟨this.1,by omega,this.2.2⟩
  rcases i with i|i
  .exact up i
  .rcases o x i with e|e
   .exact up (h.lo x (.inr (.inr e)))
   .exact⟨by omega,e.2,fun e=>by have:=hS x e;omega⟩
def O6.mod(h:O6 k w0 own G F W a σ most l1 l2 L t N)(hm:Mod M W W')(j:∀x,M x->¬F x/\¬σ.S x/\w0.heap.size<=x):O6 k w0 own G F W' a σ most l1 l2 L t N:=by
 have z:=hm.size;exact ⟨h.box.mod hm fun e=>(j _ e).1 (h.lo _ (.inl (.inl rfl))),h.Hi.mod hm fun x i e=>(j x e).1 (i.elim (fun i=>h.lo x (.inl (.inr (.inl i)))) fun i=>i.elim),h.EX.mod hm fun x i e=>(j x e).1 (i.elim (fun i=>h.lo x (.inl (.inr (.inr i)))) fun i=>i.elim),h.para.mod hm fun x i e=>(j x e).1 (h.lo x (.inr (.inl i))),
  h.Qs.mod hm fun x i e=>i.elim (fun i=>(j x e).1 (h.lo x (.inr (.inr i)))) (j x e).2.1,h.JO.mod hm fun x _ i e=>(j x e).2.1 i,h.cb,h.cr,h.cs,h.cp,h.ct,fun x i=>⟨(h.cS x i).1,by have:=(h.cS x i).2;omega⟩,h.lo,fun x i=>⟨(h.hl x i).1,by have:=(h.hl x i).2.1;omega,(h.hl x i).2.2⟩,h.g.next hm fun x i e=>by have:=(j x e).2.2;omega⟩
end
def Hq(k:TxK)(w0:World)(F:Nat->Prop)(W:World)(a:TxA)(σ:SKs)(most:Int)(rs:List Int)(l2:List Spn)(L:List (List Attr))(t:Tab (List Attr))(N:Nat):Prop:=
 ∃own G l1,Bg l1=rs/\O6 k w0 own G F W a σ most l1 l2 L t N
def DK(k:TxK)(w0:World)(F:Nat->Prop)(W W':World)(a:TxA)(σ:SKs)(most:Int)(rs:List Int)(l2:List Spn)(L:List (List Attr))(t:Tab (List Attr))(N:Nat):Prop:=
 ∃F',(∀x,F' x->F x\/W.heap.size<=x)/\Hq k w0 F' W' a σ most rs l2 L t N/\Mod F W W'
section
variable {k:TxK}{w0:World}{F M:Nat->Prop}{W W':World}{a:TxA}{σ:SKs}{most:Int}{rs:List Int}{l2:List Spn}{L:List (List Attr)}{t:Tab (List Attr)}{N:Nat}
def Hq.Hi(h:Hq k w0 F W a σ most rs l2 L t N):∃l1 Fr,Bg l1=rs/\JN k.r Az.toAvT Fr GJ W a.r l1 N/\(∀x,Fr x->F x/\x≠a.b)/\∀{W' j Xx N' e},Mod Fr W W'->(∀x,j x->Fr x\/W.heap.size<=x)->JN e Az.toAvT j GJ W' a.r Xx N'->N<=N'->DK { k with r:=e } w0 F W W' a σ most (Bg Xx) l2 L t N':=by
 obtain⟨own,G,l1,h1,m⟩:=h;have up:∀x,G.r x->F x:=fun x i=>m.lo x (.inl (.inr (.inl i)));refine⟨l1,G.r,h1,m.Hi,fun x i=>⟨up x i,fun e=>by have B:=m.cr x i;have Q:=m.cb;rw[e] at B;omega⟩,fun{W' j Xx N' e} hm q I J=>?_⟩;obtain⟨o,O⟩:=m.YH hm q I J;exact⟨_,fun x i=>i.elim .inl fun i=>(q x i).imp (up x) id,⟨o,_,Xx,rfl,O⟩,hm.mono fun x _ i=>up x i⟩
def Hq.EX(h:Hq k w0 F W a σ most rs l2 L t N):∃o,JN k.s DJ.toAvT o GJ W a.s l2 N/\(∀x,o x->F x)/\∀{W' i Ul N' e},Mod o W W'->(∀x,i x->o x\/W.heap.size<=x)->JN e DJ.toAvT i GJ W' a.s Ul N'->N<=N'->DK { k with s:=e } w0 F W W' a σ most rs Ul L t N':=by
 obtain⟨own,G,l1,h1,q⟩:=h;have up:∀x,G.s x->F x:=fun x j=>q.lo x (.inl (.inr (.inr j)));refine⟨G.s,q.EX,up,fun{W' i Ul N' e} hm B I J=>?_⟩;obtain⟨m,O⟩:=q.Ws hm B I J;exact⟨_,fun x j=>j.elim .inl fun j=>(B x j).imp (up x) id,⟨m,_,l1,h1,O⟩,hm.mono fun x _ j=>up x j⟩
def Hq.para(h:Hq k w0 F W a σ most rs l2 L t N):∃q B,JN k.p BF.toAvT q B W a.p L N/\(∀x,q x\/B x->F x)/\∀{W' i j L' N' e},Mod q W W'->(∀x,i x\/j x->(q x\/B x)\/W.heap.size<=x)->JN e BF.toAvT i j W' a.p L' N'->N<=N'->DK { k with p:=e } w0 F W W' a σ most rs l2 L' t N':=by
 obtain⟨own,G,l1,h1,I⟩:=h;have up:∀x,G.p x\/G.c x->F x:=fun x m=>I.lo x (.inr (.inl m));refine⟨G.p,G.c,I.para,up,fun{W' i j L' N' e} hm J O Q=>?_⟩;obtain⟨o,T⟩:=I.Zp hm J O Q;exact⟨_,fun x m=>m.elim .inl fun m=>(J x m).imp (up x) id,⟨o,_,l1,h1,T⟩,hm.mono fun x _ m=>up x (.inl m)⟩
def Hq.Qs(h:Hq k w0 F W a σ most rs l2 L t N):∃m,E8 m W a.t σ t/\(∀x,m x->F x)/\∀{W' t'},Ja m W W' a.t σ t'->DK k w0 F W W' a σ most rs l2 L t' N:=by
 obtain⟨own,G,l1,h1,o⟩:=h;have up:∀x,G.t x->F x:=fun x i=>o.lo x (.inr (.inr i));refine⟨G.t,o.Qs,up,fun{W' t'} B=>?_⟩;obtain⟨I,q,J,hm⟩:=B;obtain⟨j,O⟩:=o.gK hm q J (Mp _);exact⟨_,fun x i=>i.elim .inl fun i=>(q x i).imp (up x) qj,⟨j,_,l1,h1,O⟩,hm.mono fun x _ i=>up x i⟩
def Hq.box(h:Hq k w0 F W a σ most rs l2 L t N):Bx W a.b (Uv σ.sv most a.r a.s a.p a.t)/\F a.b:=by
 obtain⟨own,G,l1,h1,i⟩:=h;exact⟨i.box,i.lo _ (.inl (.inl rfl))⟩
def Hq.JO(h:Hq k w0 F W a σ most rs l2 L t N):Ci σ.S W σ.sv σ.ks/\∀x,σ.S x->x<W.heap.size:=by
 obtain⟨own,G,l1,h1,i⟩:=h;exact⟨i.JO,fun x j=>(i.cS x j).2⟩
def Hq.hl(h:Hq k w0 F W a σ most rs l2 L t N):∀x,F x->w0.heap.size<=x/\x<W.heap.size/\¬σ.S x:=by
 obtain⟨own,G,l1,h1,i⟩:=h;exact i.hl
def Hq.g(h:Hq k w0 F W a σ most rs l2 L t N):Grow w0 W:=by
 obtain⟨own,G,l1,h1,i⟩:=h;exact i.g
def Hq.mod(h:Hq k w0 F W a σ most rs l2 L t N)(hm:Mod M W W')(i:∀x,M x->¬F x/\¬σ.S x/\w0.heap.size<=x):Hq k w0 F W' a σ most rs l2 L t N:=by
 obtain⟨own,G,l1,h1,j⟩:=h;exact⟨own,G,l1,h1,j.mod hm i⟩
def Hq.grow(h:Hq k w0 F W a σ most rs l2 L t N)(hm:Grow W W'):Hq k w0 F W' a σ most rs l2 L t N:=h.mod hm fun _ h=>h.elim
def Hq.same(h:Hq k w0 F W a σ most rs l2 L t N)(hm:Grow W W'):DK k w0 F W W' a σ most rs l2 L t N:=⟨F,fun _ h=>.inl h,h.grow hm,hm.mono fun _ _ h=>h.elim⟩
def Hq.Sb(h:Hq .f w0 F W a σ most rs l2 L t N):∃l1 Fr bt,Bg l1=rs/\Di Az.toAvT Fr GJ W a.r bt l1 N/\(∀x,Fr x->F x/\x≠a.b)/\∀{W' i Xx N'},Mod Fr W W'->(∀x,i x->Fr x\/W.heap.size<=x)->Di Az.toAvT i GJ W' a.r bt Xx N'->N<=N'->DK .f w0 F W W' a σ most (Bg Xx) l2 L t N':=by
 obtain⟨l1,Fr,h1,j,m,o⟩:=h.Hi;obtain⟨bt,j⟩:=j.t;exact⟨l1,Fr,bt,h1,j,m,fun hm q B I=>o (e:=false) hm q (.inl ⟨bt,B⟩) I⟩
def Hq.RE(h:Hq .f w0 F W a σ most rs l2 L t N):∃i bt,Di DJ.toAvT i GJ W a.s bt l2 N/\(∀x,i x->F x)/\∀{W' j Ul N'},Mod i W W'->(∀x,j x->i x\/W.heap.size<=x)->Di DJ.toAvT j GJ W' a.s bt Ul N'->N<=N'->DK .f w0 F W W' a σ most rs Ul L t N':=by
 obtain⟨i,m,o,q⟩:=h.EX;obtain⟨bt,m⟩:=m.t;exact⟨i,bt,m,o,fun hm B I J=>q (e:=false) hm B (.inl ⟨bt,I⟩) J⟩
def Hq.WO(h:Hq .f w0 F W a σ most rs l2 L t N):∃i j bt,Di BF.toAvT i j W a.p bt L N/\(∀x,i x\/j x->F x)/\∀{W' m o L' N'},Mod i W W'->(∀x,m x\/o x->(i x\/j x)\/W.heap.size<=x)->Di BF.toAvT m o W' a.p bt L' N'->N<=N'->DK .f w0 F W W' a σ most rs l2 L' t N':=by
 obtain⟨i,j,q,B,I⟩:=h.para;obtain⟨bt,q⟩:=q.t;exact⟨i,j,bt,q,B,fun hm J O Q=>I (e:=false) hm J (.inl ⟨bt,O⟩) Q⟩
def DK.next{j:TxK}{m:Nat->Prop}{o:World}{i:List Int}{Ul:List Spn}{L':List (List Attr)}{t':Tab (List Attr)}{N':Nat}(q:∀x,m x->F x\/W.heap.size<=x)(hm:Mod F W o)(h:DK j w0 m o W' a σ most i Ul L' t' N'):DK j w0 F W W' a σ most i Ul L' t' N':=by
 obtain⟨I,h1,J,O⟩:=h;have z:=hm.size;refine⟨I,fun x B=>?_,J,hm.next O fun x B e=>?_⟩
 .rcases h1 x B with e|e
  .exact q x e
  .exact .inr (by omega)
 .rcases q x e with e|e
  .exact e
  .omega
def DK.step{i:World}(g:Grow W i)(h:DK k w0 F i W' a σ most rs l2 L t N):DK k w0 F W W' a σ most rs l2 L t N:=DK.next (fun _ h=>.inl h) (g.mono fun _ _ h=>h.elim) h
def DK.up{N':Nat}(h:DK k w0 F W W' a σ most rs l2 L t N)(j:N<=N'):DK k w0 F W W' a σ most rs l2 L t N':=by
 obtain⟨F',h1,⟨own,G,l1,m,i⟩,o⟩:=h;exact⟨F',h1,⟨own,G,l1,m,i.box,i.Hi.up j,i.EX.up j,i.para.up j,i.Qs,i.JO,i.cb,i.cr,i.cs,i.cp,i.ct,i.cS,i.lo,i.hl,i.g⟩,o⟩
end
section
variable {α:Type}[DecidableEq α]{t t':Tab α}{z s:α}{f:Int->α}{h:Int->Nat}{id:Int}{G:α->Prop}
def Tab.Holds.idle(i:t.Holds z f h)(h0:0<h id\/id=0):0<=id/\id<=t.places.length:=by
 rcases h0 with h0|rfl;rotate_left
 .omega
 obtain⟨n,h1⟩:=i.has h0;by_cases m:id=0
 .omega
 .obtain⟨j,rfl,hp⟩:=h1.pos m;have:=(Ad.1 hp).1;omega
omit [DecidableEq α] in
def Tab.YJ:(t.hold z id).places.length=t.places.length:=by
 unfold Tab.hold;cases t.ask z id with
 |none=>rfl
 |some p=>
  dsimp only;split
  .rfl
  .show(t.places.set _ _).length=_;rw[kJ]
omit [DecidableEq α] in
def Tab.Lz:(t.release z id).places.length=t.places.length:=by
 unfold Tab.release;cases t.ask z id with
 |none=>rfl
 |some p=>
  dsimp only;split
  .rfl
  .split<;>(show(t.places.set _ _).length=_;rw[kJ])
omit [DecidableEq α] in
def Tab.K5.pl(ha:t.K5 z s id t'):t'.places.length<=t.places.length+1:=by
 rcases ha with⟨_,_,rfl⟩|⟨_,i,n,hp,j,_,rfl⟩|⟨_,_,_,rfl⟩
 .exact rH _
 .show(t.places.set _ _).length<=_;rw[kJ];omega
 .unfold Tab.put;cases t.free.getLast? with
  |some i=>show(t.places.set _ _).length<=_;rw[kJ];omega
  |none=>show(t.places++[_]).length<=_;rw[Bp,ni];omega
def Sy{r:List (α×Int)}(i:t.GM z r)(hi:t.Inv G)(o:∀p∈r,p.1=f p.2){p:α×Int}(hp:p∈r):HB r p.1=r.countP fun q=>decide (q.2=p.2):=by
 unfold HB;rw[List.countP_eq_length_filter];congr 1
 refine List.filter_congr fun q j=>?_;have hu:=Tab.Has.uniq hi (i.has q j) (i.has p hp);by_cases e:q.2=p.2
 .simp[e,hu.1 e]
 .have e':¬q.1=p.1:=fun m=>e (hu.2 m);simp[e,e']
def Tab.Holds.small(I:t.Holds z f h)(hi:t.Inv G)(Y:∀s,G s->s≠z){H:Nat}(U:∀x,h x<=H)(hp:t.places.length<=H):t.Small H:=by
 obtain⟨_,r,h1,V,X⟩:=I;refine⟨hp,?_,fun q Z=>?_⟩
 .rw[h1.em];refine pf fun J=>?_;obtain⟨p,m,e⟩:=Lr (r:=r) (x:=z) (by omega);rw[<-e,Sy h1 hi V m,X] at J;have:=U p.2;omega
 .refine pf fun J=>?_;obtain⟨i,O,e⟩:=nO.1 Z;have o:t.places[i]?=some q:=by rw[By O,e]
  obtain⟨p,m,e'⟩:=h1.pl i q o (by omega);have I:=h1.has p m;have Q:p.2≠0:=fun e0=>Y _ (hi.ok i q o (by omega)) (e'▸I.2.2.1 e0);obtain⟨j,hj,B⟩:=I.pos Q;have T:=hi.Hn i j q _ o B (by omega) I.2.1 e'.symm;subst T;rw[o] at B;have:q.held=HB r p.1:=by cases B;rfl
  rw[Sy h1 hi V m,X] at this;have:=U p.2;omega
end
namespace Spn
def Qc(x:Int)(p:Option Int)(l:List Int):rn x p l<=l.length:=by
 induction l generalizing p with
 |nil=>exact Mp _
 |cons y l i=>
  rw[rn,S5];have:=i (some y);split<;>omega
def JD{x:Int}{p:Option Int}{l:List Int}(i:x∈l)(hp:p≠some x):0<rn x p l:=by
 induction l generalizing p with
 |nil=>cases i
 |cons y l j=>
  rw[rn];by_cases e:y=x
  .rw[DN ⟨e,hp⟩];omega
  .have h1:x∈l:=(K8.1 i).resolve_left fun h=>e h.symm;have:=j (p:=some y) h1 (fun h=>e (kW h));omega
def Vj{x:Int}{p:Option Int}{l:List Int}(h:0<rn x p l):x∈l:=by
 induction l generalizing p with
 |nil=>simp[rn] at h
 |cons y l i=>
  rw[rn] at h;by_cases e:y=x
  .exact K8.2 (.inl e.symm)
  .rw[Bq fun h=>e h.1] at h;exact gi _ (i (p:=some y) (by omega))
def Zr(s:Spn){i j:Nat}(m:i<j)(q:j<=s.n):kd.part s i j=⟨j-i,s.id⟩:=by
 have o:(kd.μ s).1=s.n:=rfl;unfold Kd.part;rw[o];by_cases h:j<s.n
 .rw[DN h];by_cases h0:0<i
  .rw[DN h0];rfl
  .rw[Bq h0,show i=0 by omega];rfl
 .rw[Bq h,show j=s.n by omega];by_cases h0:0<i
  .rw[DN h0];rfl
  .rw[Bq h0,show i=0 by omega];rfl
def Tc{l:List Spn}:∀{p:Option Int} (_:Hd p l) (i j:Nat),Hd (if i=0 then p else none) (kd.over l i j):=by
 induction l with
 |nil=>intro p _ i j;exact trivial
 |cons s l o=>
  intro p h i j;obtain⟨h1,B,q⟩:=h;have I:(kd.μ s).1=s.n:=rfl;rw[Kd.over,I];by_cases m:i<min j s.n
  .rw[DN m,Zr s m (Nat.min_le_right _ _)];have:=o q (i-s.n) (j-s.n);rw[DN (by omega)] at this;refine⟨by show 0<min j s.n-i;omega,?_,this⟩;split
   .exact B
   .simp
  .rw[Bq m,ky];by_cases J:j<=i
   .rw[Kd.Eb _ _ (by omega)];exact trivial
   .have:=ME (o q (i-s.n) (j-s.n));rw[Bq (by omega)];exact this
def G8{p:Option Int}{l:List Spn}(h:Hd p l)(i j:Nat):Hd none (kd.over l i j):=ME (Tc h i j)
def FZ{p:Option Int}{l:List Spn}(h:Hd p l):l.length<=(l.flatMap u).length:=by
 induction l generalizing p with
 |nil=>exact Mp _
 |cons s l i=>
  have:=i h.2.2;have:=h.1;rw[lQ,Bp,u,lZ,S5];omega
def Tn{l:List Spn}{x:Int}(h:x∈l.flatMap u):∃s∈l,s.id=x:=by
 obtain⟨s,i,j⟩:=qi.1 h;exact⟨s,i,(List.mem_replicate.1 j).2.symm⟩
def KO{l:List Spn}{s:Spn}(i:s∈l)(j:0<s.n):s.id∈l.flatMap u:=qi.2 ⟨s,i,List.mem_replicate.2 ⟨by omega,rfl⟩⟩
abbrev Df(l:List Spn)(x:Int):Nat:=l.countP fun s=>decide (s.id=x)
structure kG (l2 row:List Spn) (i j:Nat):Prop where
 same:∀x,rn x none ((kd.CB l2 i j row).flatMap u)+Df (kd.over l2 (i-1) (min (j+1) (l2.flatMap u).length)) x=rn x none (l2.flatMap u)+Df (kd.over (kd.CB l2 i j row) (i-1) (min (j+1) (l2.flatMap u).length-(j-i)+(row.flatMap u).length)) x
 mem:∀x,0<Df (kd.over (kd.CB l2 i j row) (i-1) (min (j+1) (l2.flatMap u).length-(j-i)+(row.flatMap u).length)) x->x∈l2.flatMap u\/x∈row.flatMap u
 len:(kd.over l2 (i-1) (min (j+1) (l2.flatMap u).length)).length<=(l2.flatMap u).length/\(kd.over (kd.CB l2 i j row) (i-1) (min (j+1) (l2.flatMap u).length-(j-i)+(row.flatMap u).length)).length<=(l2.flatMap u).length+(row.flatMap u).length
def U8(P Q R:List α){a b:Nat}(ha:a=P.length)(hb:b=P.length+Q.length):((P++Q++R).take b).drop a=Q:=by
 subst ha hb;rw[oX (by rw[Bp]),oY rfl]
def jw{l2:List Spn}(row:List Spn){i j:Nat}(hp:Hd none l2)(Q:i<=j)(hj:j<=(l2.flatMap u).length):kG l2 row i j:=by
 have T:=IF i j row hp;have eu:(kd.CB l2 i j row).flatMap u=(l2.flatMap u).take i++row.flatMap u++(l2.flatMap u).drop j:=ED.CB l2 row Q;generalize m:l2.flatMap u=ids at *;generalize o:row.flatMap u=O at *
 let P:=ids.take (i-1)
 let q:=(ids.take i).drop (i-1)
 let B:=(ids.take j).drop i
 let I:=(ids.drop j).take 1
 let R:=(ids.drop j).drop 1
 have eA:ids.take i=P++q:=by
  have:=(S6 (i-1) (ids.take i)).symm;rwa [mf,lA (by omega)] at this
 have eC:ids.drop j=I++R:=(S6 1 _).symm;have eB:ids=ids.take i++B++ids.drop j:=by
  have h1:=(S6 i (ids.take j)).symm;rw[mf,lA Q] at h1;rw[<-h1,S6]
 have Y:ids=P++(q++B++I)++R:=by
  conv=>lhs;rw[eB,eA,eC]
  simp only[Of]
 have e2:(kd.CB l2 i j row).flatMap u=P++(q++O++I)++R:=by
  rw[eu,eA,eC];simp only[Of]
 have U:P.length=i-1:=by show(ids.take (i-1)).length=_;rw[Lc];omega
 have V:q.length=i-(i-1):=by show((ids.take i).drop (i-1)).length=_;rw[I3,Lc];omega
 have lB:B.length=j-i:=by show((ids.take j).drop i).length=_;rw[I3,Lc];omega
 have X:I.length=min 1 (ids.length-j):=by show((ids.drop j).take 1).length=_;rw[Lc,I3]
 have lR:R.length=ids.length-j-1:=by show((ids.drop j).drop 1).length=_;rw[I3,I3]
 have u1:(kd.over l2 (i-1) (min (j+1) ids.length)).flatMap u=q++B++I:=by
  rw[ED.over,m];have:=U8 P (q++B++I) R (b:=min (j+1) ids.length) U.symm (by rw[Bp,Bp,U,V,lB,X];omega);rw[<-Y] at this;exact this
 have Z:(kd.over (kd.CB l2 i j row) (i-1) (min (j+1) ids.length-(j-i)+O.length)).flatMap u=q++O++I:=by
  rw[ED.over,e2];exact U8 _ _ _ U.symm (by rw[Bp,Bp,U,V,X];omega)
 have c1:=fun x=>VB x none _ (G8 hp (i-1) (min (j+1) ids.length));have c2:=fun x=>VB x none _ (G8 T (i-1) (min (j+1) ids.length-(j-i)+O.length));have n1:=FZ (G8 hp (i-1) (min (j+1) ids.length));have n2:=FZ (G8 T (i-1) (min (j+1) ids.length-(j-i)+O.length));rw[u1] at n1;rw[Z] at n2;refine⟨fun x=>?_,fun x hx=>?_,?_,?_⟩
 .rw[o,m,Df,Df,c1,c2,u1,Z,e2];have:=T9 x P (q++B++I) (q++O++I) R (fun J=>?_) (fun J=>?_)
  .rw[<-Y] at this;omega
  .have:P.length≠0:=fun h=>J (QC h);cases hA:q with
   |nil=>rw[hA] at V;simp at V;omega
   |cons y A2=>simp
  .have:R.length≠0:=fun h=>J (QC h);have hC:I≠[]:=fun h=>by rw[h] at X;simp at X;omega
   exact⟨by simp[WL,mT hC],by simp[hC],by simp[hC]⟩
 .rw[o,m,Df,c2,Z] at hx;have hm:=Vj hx;rw[m,o];rcases C3.1 hm with hm|hm
  .rcases C3.1 hm with hm|hm
   .exact .inl (i7 (iV hm))
   .exact .inr hm
  .exact .inl (iV (i7 hm))
 .rw[m];have:=kZ List.length Y;simp only[Bp] at this n1;omega
 .rw[m,o];simp only[Bp] at n2;omega
end Spn
def E8.inv{b:Nat}{ks:SKs}{t:Tab (List Attr)}(h:E8 F W b ks t):t.Inv (GL ks.ks):=by
 obtain⟨C,pl,fr,bm,i⟩:=h;exact i.core.inv
def GL.ne:∀s,GL ks s->s≠[]:=fun _ h=>h.1
section
variable {k:TxK}{w0:World}{F:Nat->Prop}{W:World}{a:TxA}{σ:SKs}{most:Int}{rs:List Int}{l2:List Spn}{L:List (List Attr)}{t:Tab (List Attr)}{N:Nat}
def Kl{fn:Nat}{op:Tab (List Attr)->Int->Tab (List Attr)}{row:List Spn}{P:Nat->Tab (List Attr)->Prop}{Kend:World->Prop}
 (call:∀{Ft W t id},E8 Ft W a.t σ t->t.Small 1099511627->0<=id->id<=1099511627->AB prog fn [.pointer (some ⟨a.t,0,none⟩),zI id] (fun _ w'=>Ja Ft W w' a.t σ (op t id)) W)
 (rd:BB S 2 Dt W v row)(hS:∀x,S x->¬F x)(hl:row.length<=1099511627776)
 (o:∀(m:Nat) (hm:m<row.length) t,P m t->t.Inv (GL σ.ks)->t.Small 1099511627/\0<=row[m].id/\row[m].id<=1099511627/\P (m+1) (op t row[m].id))
 (h:Hq k w0 F W a σ most rs l2 L t N)(h0:P 0 t)
 (hK:∀W' t',DK k w0 F W W' a σ most rs l2 L t' N->P row.length t'->Kend W') :
  Ap [(zI 0)] (fun vs B J=>∀_:Env,
   BU .i64 (nth vs 0) (zI (row.length:Int)) fun a1=>
   AD a1
   (BM 2 v (nth vs 0) fun a6=>
   Aa 2 a6 (fun a7 a8=>
   Al 108 [(zI 0),(zI 0)] (fun O ak=>
   Ab 2 O a7 (fun I=>
   Au [6] [[],[0],[0,1],[0,1,2],[],[4],[0,1,2,3,4,5]] I.drew (fun M St=>
   AK (.pointer (some ⟨a.b,0,none⟩)) fun al=>
   AM 5 al fun an=>
   As (St 3) an fun av=>
   AM 1 O fun ax=>
   As (St 5) ax fun ay=>
   AB prog fn [av,ay] (fun _t87 Q=>
   Mod (M 6) I.drew Q/\
   AW .i64 (nth vs 0) (zI 1) fun b0=>
   B [b0] Q) I.drew)) ak) a8) J)
   (Kend J)) W:=by
 obtain⟨ra,rc,rfl,_⟩:=rd.shape;have T:=rd.GN (by decide);refine AX (fun vs W'=>∃(m:Nat) (t':Tab (List Attr)),m<=row.length/\vs=[zI m]/\DK k w0 F W W' a σ most rs l2 L t' N/\P m t') (fun vs _=>row.length-De vs 0) ⟨0,t,Nn _,rfl,h.same (Mod.refl _ _),h0⟩ ?_;rintro vs W1 ⟨m,t1,hm,rfl,⟨F1,f1,h1,Y⟩,hP⟩ _;simp only[Bl,Nr];rw[Am];have z1:=Y.size;refine AF (fun b8=>?_) fun b9=>?_;rotate_left
 .obtain rfl:m=row.length:=by omega
  exact hK W1 t1 ⟨F1,f1,h1,Y⟩ hP
 have i:m<row.length:=by omega
 obtain⟨p,r,rfl,_,hr,hc,b1⟩:=T.get i;have U:r=row[m].cells:=b1;subst U;obtain⟨p',r',e',b2,_⟩:=T.get i;cases e';refine AT i (Ah (vs:=row[m].cells) rfl (fun j u hu=>by rw[Addr.add_add];exact Y.cell (hc j u hu) fun e=>hS _ b2.1 (by rw[BJ] at e;exact e)) ?_);refine Bx.new (vs:=row[m].cells) rfl rfl (Spn.one _) fun b5 W2 ba g2 B5=>?_;have Z:Grow W2 W2.drew:=Mod.drew _ _;have h2:=h1.grow (g2.trans Z);obtain⟨hB,bb⟩:=h2.box;have b6:=B5.grow Z;obtain⟨Ft,hT,bc,put⟩:=h2.Qs;have zd:=(g2.trans Z).size;have V:∀x,F1 x->x≠b5:=fun x X e=>by have:=(h1.hl x X).2.1;omega
 refine Af (fun q y=>q=6/\F1 y) ?_;refine AI ?_;rw[AG,AH];refine AU ⟨hB.cells 5 _ rfl,fun j hj e=>by obtain⟨rfl,_⟩:=e;exact absurd hj (by decide)⟩ ?_;rw[AG,AH];refine AU ⟨b6.cells 1 _ rfl,fun j hj e=>V _ e.2 rfl⟩ ?_;obtain⟨q1,q2,q3,q4⟩:=o m i t1 hP hT.inv;refine AA (call hT q1 q2 q3) ?_;rintro _ W3 hA;obtain⟨F3,f3,h3,m3⟩:=put hA;refine⟨m3.mono fun x _ X=>⟨rfl,X⟩,?_⟩;rw[AQ,AO (by omega)];have b7:Mod F W W2.drew:=Y.next (g2.trans Z) fun _ _ e=>e.elim;refine⟨⟨m+1,_,i,rfl,DK.next (fun x X=>(f1 x X)) b7 ⟨F3,f3,h3,m3⟩,q4⟩,by rw[CH,CH];omega⟩
end
def Yw{e:Bool}{b N:Nat}{l:List Spn}(h:JN e DJ.toAvT F GJ W b l N) :
  AB prog 111 [.pointer (some ⟨b,0,none⟩)] (fun v' w'=>v'=zI (Ei l:Int)/\∃bt F',Di DJ.toAvT F' GJ w' b bt l N/\(∀x,F' x->F x\/W.heap.size<=x)/\Mod F W w') W:=by
 rcases h with⟨bt,h⟩|⟨_,j,rfl,i,q⟩
 .refine AA (Me Hs h) ?_;rintro _ w ⟨rfl,g⟩;exact⟨rfl,bt,F,h.grow g,fun _ h=>.inl h,g.mono fun _ _ h=>h.elim⟩
 .refine AA (VL (g:=DJ.toAvT) (C:=GJ) Hs j (fun h=>h) fun _ h=>h.elim) ?_;rintro _ w ⟨rfl,bt,F',k1,k2,m⟩;exact⟨rfl,bt,F',k1.up (Nn _),fun x o=>(k2 x o).imp (fun e=>(i x).2 e) id,m.mono fun x _ e=>(i x).2 e⟩
namespace Spn
def Lw(l:List Spn){m:Nat}(hm:m<l.length)(x:Int):Df (l.take (m+1)) x=Df (l.take m) x+if x=l[m].id then 1 else 0:=by
 have i:l.take (m+1)=l.take m++[l[m]]:=by rw[No];simp[hm]
 rw[Df,Df,i,pI,ou,List.countP_nil];by_cases e:x=l[m].id
 .rw[DN e,DN (by simp[e])]
 .rw[Bq e,Bq (by simp[nY e])]
def Kx(l:List Spn)(m:Nat)(x:Int):Df (l.take m) x<=Df l x:=by
 have:Df l x=Df (l.take m) x+Df (l.drop m) x:=by rw[Df,Df,Df,<-pI,S6]
 omega
def Og{l:List Spn}{s:Spn}(h:s∈l):0<Df l s.id:=o0.2 ⟨s,h,by simp⟩
def MT(l:List Spn)(x:Int):Df l x<=l.length:=List.countP_le_length
end Spn
section
variable {k:TxK}{w0:World}{F:Nat->Prop}{W:World}{a:TxA}{σ:SKs}{most:Int}{rs:List Int}{l2:List Spn}{L:List (List Attr)}{t:Tab (List Attr)}{N:Nat}
def T8{f:Int->List Attr}{h:Int->Nat}{i:List Spn}{M:Nat}(I:M<=1000000000)(o:∀s∈i,0<h s.id\/s.id=0)(hb:∀x,h x+i.length<=1000000000)(ks:List DKey) :
  ∀(m:Nat) (hm:m<i.length) (t:Tab (List Attr)),(t.Holds [] f (fun x=>h x+Spn.Df (i.take m) x)/\t.places.length=M)->t.Inv (GL ks)->
   t.Small 1099511627/\0<=i[m].id/\i[m].id<=1099511627/\((t.hold [] i[m].id).Holds [] f (fun x=>h x+Spn.Df (i.take (m+1)) x)/\(t.hold [] i[m].id).places.length=M):=by
 rintro m hm t ⟨q,hp⟩ hi;have J:=o i[m] (WJ hm);have j:0<h i[m].id+Spn.Df (i.take m) i[m].id\/i[m].id=0:=by omega
 obtain⟨B,O⟩:=q.idle j;refine⟨(q.small hi GL.ne (H:=1000000000) (fun x=>?_) (by omega)).le (by omega),B,by omega,(q.hold hi j).congr fun x=>?_,by rw[Tab.YJ];exact hp⟩
 .have:=Spn.Kx i m x;have:=Spn.MT i x;have:=hb x;omega
 .rw[Spn.Lw i hm];omega
def N0{f:Int->List Attr}{h:Int->Nat}{Ka:List Spn}{M:Nat}(B:M<=1000000000)(j:∀x,Spn.Df Ka x<=h x)(hb:∀x,h x<=1000000000)(ks:List DKey) :
  ∀(m:Nat) (hm:m<Ka.length) (t:Tab (List Attr)),(t.Holds [] f (fun x=>h x-Spn.Df (Ka.take m) x)/\t.places.length=M)->t.Inv (GL ks)->
   t.Small 1099511627/\0<=Ka[m].id/\Ka[m].id<=1099511627/\((t.release [] Ka[m].id).Holds [] f (fun x=>h x-Spn.Df (Ka.take (m+1)) x)/\(t.release [] Ka[m].id).places.length=M):=by
 rintro m hm t ⟨o,hp⟩ hi;have h1:=Spn.Lw Ka hm Ka[m].id;rw[DN rfl] at h1;have I:=Spn.Kx Ka (m+1) Ka[m].id;have J:=j Ka[m].id;have i:0<h Ka[m].id-Spn.Df (Ka.take m) Ka[m].id:=by omega
 obtain⟨q,O⟩:=o.idle (.inl i);refine⟨(o.small hi GL.ne (H:=1000000000) (fun x=>?_) (by omega)).le (by omega),q,by omega,(o.free hi GL.ne i).congr fun x=>?_,by rw[Tab.Lz];exact hp⟩
 .have:=hb x;omega
 .rw[Spn.Lw Ka hm];omega
def TQ{i:Nat->Prop}{id:Int}(j:E8 i W a.t σ t)(m:t.Small 1099511627)(h0:0<=id)(h1:id<=1099511627):AB prog 152 [.pointer (some ⟨a.t,0,none⟩),zI id] (fun _ w'=>Ja i W w' a.t σ (t.hold [] id)) W:=
 AA (U7 j (m.le (by omega)) (by omega) (by omega)) fun _ _ h=>h.2
def KQ{i:Nat->Prop}{id:Int}(j:E8 i W a.t σ t)(m:t.Small 1099511627)(h0:0<=id)(h1:id<=1099511627):AB prog 79 [.pointer (some ⟨a.t,0,none⟩),zI id] (fun _ w'=>Ja i W w' a.t σ (t.release [] id)) W:=
 AA (Vc j m (by omega) (by omega)) fun _ _ h=>h.2
def Kp{row:List Spn}{i j:Nat}{f:Int->List Attr}{ex:Int->Nat}
 (h:Hq k w0 F W a σ most rs l2 L t N)(hp:Spn.Hd none l2)(hh:t.Holds [] f fun x=>Spn.rn x none (l2.flatMap Spn.u)+ex x)
 (Y:i<=j)(hj:j<=(l2.flatMap Spn.u).length)(hv:BB S 2 Dt W v row)(hS:∀x,S x->¬F x)
 (J:∀s∈row,0<s.n/\(0<ex s.id\/s.id=0))(hz:(l2.flatMap Spn.u).length+(row.flatMap Spn.u).length<=100000000)(bk:∀x,ex x<=100000000)(hN:N<=1000000000)(a1:t.places.length<=1000000000) :
  AB prog 78 [.pointer (some ⟨a.b,0,none⟩),zI (i:Int),zI (j:Int),v] (fun v' w'=>v'=.tuple #[]/\∃t',DK { k with s:=false } w0 F W w' a σ most rs (Spn.kd.CB l2 i j row) L t' (N+row.length+4)/\t'.Holds [] f (fun x=>Spn.rn x none ((Spn.kd.CB l2 i j row).flatMap Spn.u)+ex x)/\t'.places.length=t.places.length) W:=by
 apply fC;obtain⟨w1,w2,w3,w4⟩:=Spn.jw row hp Y hj;have ch:row.length<=(row.flatMap Spn.u).length:=by
  clear hv hz w1 w2 w3 w4;induction row with
  |nil=>exact Mp _
  |cons s row ih=>
   have:=(J s (by simp)).1;have:=ih fun s U=>J s (by simp[U]);rw[lQ,Bp,Spn.u,lZ,S5];omega
 have cn:=Spn.FZ hp;have e0:(if(0:Int)>(i:Int)-1 then(0:Int) else(i:Int)-1)=((i-1:Nat):Int):=by split<;>omega
 have bl:∀x,Spn.rn x none (l2.flatMap Spn.u)<=(l2.flatMap Spn.u).length:=fun x=>Spn.Qc x none _;have a6:Ei l2=(l2.flatMap Spn.u).length:=Du l2;have a7:Ei row=(row.flatMap Spn.u).length:=Du row;have a8:∀s∈row,0<=s.id:=fun s U=>(hh.idle (id:=s.id) (by have:=(J s U).2;omega)).1;have ca:Ei (Spn.kd.CB l2 i j row)+(j-i)=Ei l2+Ei row:=(Sj (l:=l2) (L:=row) (by omega) Y (by omega)).1;generalize hn:(l2.flatMap Spn.u).length=n at *;generalize cv:(row.flatMap Spn.u).length=nr at *;rw[Aq,Gj,wrap64 (by omega) (by omega),e0,AQ,wrap64 (by omega) (by omega)];refine AI ?_;refine Bh (h.box.1.cells 3 _ rfl) ?_;obtain⟨Fs,q,I,put⟩:=h.EX;refine AA (Yw q) ?_;rintro _ W1 ⟨rfl,bt,cx,ak,X,m1⟩;obtain⟨F1,f1,h1,M1⟩:=put (e:=false) m1 X (.inl ⟨bt,ak⟩) (Mp _);clear q put I X ak;have bn:BB (fun x=>S x/\x<W.heap.size) 2 Dt W1 v row:=(hv.GN (by decide)).mod M1 (fun x _ o e=>hS x o.1 e) (by decide) fun _ _ h=>h;have al:∀x,S x/\x<W.heap.size->¬F1 x:=fun x o e=>by
  rcases f1 x e with e|e
  .exact hS x o.1 e
  .omega
 have an:(if(Ei l2:Int)<(j:Int)+1 then(Ei l2:Int) else(j:Int)+1)=((min (j+1) n:Nat):Int):=by rw[a6];split<;>omega
 rw[HU,an];refine AI ?_;refine Bh (h1.box.1.cells 3 _ rfl) ?_;obtain⟨Fs,q,I,put⟩:=h1.EX;obtain⟨bt,q⟩:=q.t;refine AA (J7 (i:=i-1) (j:=min (j+1) n) q (by omega) (by omega) (by omega) (by omega) (by omega)) ?_;rintro _ W2 ⟨wv,rfl,oW,g2⟩;refine BO ?_;generalize cc:Spn.kd.over l2 (i-1) (min (j+1) n)=Ka at *;have h2:=h1.grow g2;refine AI ?_;refine Bh (h2.box.1.cells 3 _ rfl) ?_;clear q put I;obtain⟨Fs,q,I,put⟩:=h2.EX;obtain⟨bt,q⟩:=q.t;have av:=bn.grow g2 (by decide) fun _ _ h=>h;refine AA (TM q (L:=row) (by omega) Y (by omega) (by omega) av (fun x o e=>al x o (I x e)) a8) ?_;rintro _ W3 ⟨_,da,k1,k2,k3,k4⟩;obtain⟨F3,f3,h3,M3⟩:=put (e:=false) k4 k2 (.inl ⟨bt,k3⟩) (N':=N+row.length+4) (by omega);clear q put I k1 k2 k3;generalize bp:Spn.kd.CB l2 i j row=l3 at *;have z1:=M1.size;have z2:=g2.size;have z3:=M3.size;have Q:=AE.Ax oW;have T:∀x,F1 x->x<W1.heap.size:=fun x o=>(h1.hl x o).2.1;have ax:∀x,wv.ownBlock=some x->¬F3 x:=fun x o e=>by
  have:=Q x o;rcases f3 x e with e|e
  .have:=T x e;omega
  .omega
 have ay:AE W1.heap.size 108 2 Dt W3 wv Ka:=AE.mod (R':=Dt) oW M3 (fun x o e=>by have:=Q x o;have:=T x e;omega) fun _ _ _ h=>h;have b0:BB (fun x=>S x/\x<W.heap.size) 2 Dt W3 v row:=av.mod M3 (fun x _ o e=>al x o e) (by decide) fun _ _ h=>h;have b1:=AE.sl ay;obtain⟨ra,rc,ev,_⟩:=b0.shape;obtain⟨wa,wc,ew,_⟩:=b1.shape;have bs:((min (j+1) n:Nat):Int)+((i:Int)-(j:Int))=((min (j+1) n-(j-i):Nat):Int):=by omega
 rw[Aq,wrap64 (by omega) (by omega),AQ,wrap64 (by omega) (by omega),bs];subst ev;rw[AP];refine AX (fun vs W'=>∃m:Nat,m<=row.length/\vs=[zI ((min (j+1) n-(j-i)+Ei (row.take m):Nat):Int),zI m]/\Grow W3 W') (fun vs _=>row.length-De vs 1) ⟨0,Nn _,by simp[Ei,Tr.sz],Mod.refl _ _⟩ ?_;rintro vs W4 ⟨m,hm,rfl,g4⟩ _;simp only[GC];refine Hj (fun dk=>?_) fun dT=>?_
 .have O:m<row.length:=by omega
  have bx:row.take (m+1)=row.take m++[row[m]]:=by rw[No];simp[O]
  have e1:Ei row=Ei (row.take (m+1))+Ei (row.drop (m+1)):=by unfold Ei;rw[<-Tr.CT,S6]
  have b2:Ei (row.take (m+1))=Ei (row.take m)+row[m].n:=by rw[bx];unfold Ei;rw[Tr.CT];simp[Tr.sz,Spn.kd]
  obtain⟨p,r,rfl,e2,hr,hc,rfl⟩:=b0.get O;refine AT O (Ah (vs:=row[m].cells) rfl (fun j u hu=>by rw[Addr.add_add];exact g4.cell (hc j u hu) fun h=>h) ?_);refine Bx.new (vs:=row[m].cells) rfl rfl (Spn.one _) fun e3 w7 hb g7 B=>?_;refine Bh (B.cells 0 _ rfl) ?_;rw[AQ,wrap64 (by omega) (by omega),AQ,AO (by omega)];refine⟨⟨m+1,O,?_,g4.trans g7⟩,by rw[BD,BD];omega⟩;rw[b2];congr 2
  omega
 obtain rfl:m=row.length:=by omega
 rw[PF,a7];have h4:=h3.grow g4;have z4:=g4.size;refine AI ?_;refine Bh (h4.box.1.cells 3 _ rfl) ?_;obtain⟨Fs,q,I,put⟩:=h4.EX;obtain⟨bt,q⟩:=q.t;have bd:l3.length<=Ei l3:=by rw[Du,<-bp];exact Spn.FZ (Spn.IF i j row hp)
 refine AA (J7 (i:=i-1) (j:=min (j+1) n-(j-i)+nr) q (by omega) (by omega) (by omega) (by omega) (by omega)) ?_;rintro _ W5 ⟨nv,rfl,oN,g5⟩;clear q put I;refine BO ?_;generalize cd:Spn.kd.over l3 (i-1) (min (j+1) n-(j-i)+nr)=V at *;have h5:=h4.grow g5;have z5:=g5.size;have b6:=AE.Ax oN;have Z:∀x,F3 x->x<W3.heap.size:=fun x o=>(h3.hl x o).2.1;have b7:=AE.sl oN;obtain⟨na,nc,en,_⟩:=b7.shape;subst en;rw[AP];have b8:∀x,Spn.rn x none (l2.flatMap Spn.u)+ex x+V.length<=1000000000:=fun x=>by have:=bl x;have:=bk x;omega
 refine Kl (P:=fun m t=>t.Holds [] f (fun x=>(Spn.rn x none (l2.flatMap Spn.u)+ex x)+Spn.Df (V.take m) x)/\t.places.length=_) (fun hT U h0 h1=>TQ hT U h0 h1) b7 (fun x o e=>by have:=b6 x o.2;have:=Z x e;omega) (by omega)
  (T8 a1 (fun s U=>?_) b8 σ.ks) h5 ⟨hh.congr fun x=>by simp[Spn.Df],rfl⟩ ?_
 .rcases w2 s.id (Spn.Og U) with e|e
  .have:=Spn.JD (p:=none) e (by simp);omega
  .obtain⟨s',c4,e'⟩:=Spn.Tn e;have:=(J s' c4).2;rw[e'] at this;omega
 rintro W6 t6 ⟨F6,f6,h6,M6⟩ ⟨b9,ba⟩;rw [PF] at b9;have z6:=M6.size;have c6:AE W1.heap.size 108 2 Dt W5 wv Ka:=AE.mod (R':=Dt) ay (g4.trans g5) (fun _ _ h=>h) fun _ _ _ h=>h;have c7:AE W1.heap.size 108 2 Dt W6 wv Ka:=AE.mod (R':=Dt) c6 M6 (fun x o e=>ax x o e) fun _ _ _ h=>h;have bb:=AE.sl c7;subst ew;rw [AP];refine Kl (P:=fun m t=>t.Holds [] f (fun x=>(Spn.rn x none (l2.flatMap Spn.u)+ex x+Spn.Df V x) - Spn.Df (Ka.take m) x)/\t.places.length=_) (fun hT U h0 h1=>KQ hT U h0 h1) bb (fun x o e=>by
   rcases f6 x e with e|e
   .exact ax x o.2 e
   .have:=Q x o.2;omega) (by omega)
  (N0 (ba▸a1) (fun x=>by have:=w1 x;omega) (fun x=>by have:=b8 x;have:=Spn.MT V x;omega) σ.ks) h6 ⟨b9.congr fun x=>by simp[Spn.Df],rfl⟩ ?_
 rintro W7 t7 c8 ⟨bc,c9⟩;rw[PF] at bc;refine⟨trivial,t7,?_,bc.congr fun x=>by have:=w1 x;omega,c9.trans ba⟩;refine DK.next f1 M1 (DK.step g2 (DK.next f3 M3 (DK.step (g4.trans g5) (DK.next f6 M6 ?_))));exact c8
end
def CK(d:List Cel):List (List Attr):=(d.filter fun c=>decide (c.r=10)).map (·.set)
abbrev Ar(d:List Cel):List Int:=d.map Cel.r
def cellOf(ks:List DKey)(set:List Attr)(r:Int):Cel:=⟨r,CP ks (decide (r=10)) set⟩
def Dk(x y:List Cel):CK (x++y)=CK x++CK y:=by simp[CK]
def EM(d:List Cel):(CK d).length=BX (Ar d):=by
 induction d with
 |nil=>rfl
 |cons c d i=>
  have e:CK (c::d)=(if c.r=10 then[c.set] else[])++CK d:=by by_cases h:c.r=10<;>simp[CK,h]
  have j:BX (Ar (c::d))=(if c.r=10 then 1 else 0)+BX (Ar d):=by
   have:Ar (c::d)=[c.r]++Ar d:=rfl;rw[this,FD];by_cases h:c.r=10<;>simp[BX,h]
  rw[e,j,Bp,i];split<;>rfl
def DX(d:List Cel)(i:Nat):CK (d.take i)=(CK d).take (BX ((Ar d).take i))/\CK (d.drop i)=(CK d).drop (BX ((Ar d).take i)):=by
 have h:=Dk (d.take i) (d.drop i);rw[S6] at h;have hl:(CK (d.take i)).length=BX ((Ar d).take i):=by rw[EM,Ar,lu]
 rw[h];exact⟨(oX hl).symm,(oY hl).symm⟩
def cB(ks:List DKey)(set:List Attr)(rs:List Int):CK (rs.map (cellOf ks set))=List.replicate (BX rs) (CP ks true set):=by
 induction rs with
 |nil=>rfl
 |cons r rs i=>
  have e:r::rs=[r]++rs:=rfl;rw[e,Ty,Dk,i,FD];by_cases h:r=10
  .subst h;rw[<-oB];simp[CK,cellOf,BX]
  .simp[CK,cellOf,BX,h]
def ia(ks:List DKey)(set:List Attr)(rs:List Int):Ar (rs.map (cellOf ks set))=rs:=by
 simp[Ar,cellOf,Function.comp_def]
def ib(f:Int->List Attr)(z:List (Cel×Int)):Prop:=∀p∈z,(p.1.r=10->p.2=0)/\(p.1.r≠10->f p.2=p.1.set)
def Gq(k:TxK)(w0:World)(F:Nat->Prop)(W:World)(a:TxA)(σ:SKs)(most:Int)(d:List Cel)(N:Nat):Prop:=
 ∃(z:List (Cel×Int)) (l2:List Spn) (t:Tab (List Attr)) (f:Int->List Attr),z.map Prod.fst=d/\Hq k w0 F W a σ most (Ar d) l2 (CK d) t N/\Spn.Hd none l2/\l2.flatMap Spn.u=z.map Prod.snd/\t.Holds [] f (fun x=>Spn.rn x none (z.map Prod.snd))/\ib f z/\t.places.length<=N
def KF(k:TxK)(w0:World)(F:Nat->Prop)(W W':World)(a:TxA)(σ:SKs)(most:Int)(d:List Cel)(N:Nat):Prop:=∃F',(∀x,F' x->F x\/W.heap.size<=x)/\Gq k w0 F' W' a σ most d N/\Mod F W W'
def RU{e:Bool}{b N i:Nat}{l:List Ck}(h:JN e Az.toAvT F GJ W b l N)(hi:i<=(Bg l).length)(m:(Bg l).length<=1099511627776) :
  AB prog 53 [.pointer (some ⟨b,0,none⟩),zI (i:Int)] (fun v' w'=>v'=.tuple #[zI (BX ((Bg l).take i):Int),zI 0]/\∃bt F',Di Az.toAvT F' GJ w' b bt l N/\(∀x,F' x->F x\/W.heap.size<=x)/\Mod F W w') W:=by
 rcases h with⟨bt,h⟩|⟨_,o,rfl,j,I⟩
 .refine AA (NU h hi m) ?_;rintro _ w ⟨rfl,g⟩;exact⟨rfl,bt,F,h.grow g,fun _ h=>.inl h,g.mono fun _ _ h=>h.elim⟩
 .obtain rfl:i=0:=by simpa using hi
  refine AA (Qh o) ?_;rintro _ w ⟨rfl,bt,F',k1,k2,q⟩;exact⟨rfl,bt,F',k1.up (Nn _),fun x B=>(k2 x B).imp (fun e=>(j x).2 e) id,q.mono fun x _ e=>(j x).2 e⟩
def RL{e:Bool}{F C S D:Nat->Prop}{b N k:Nat}{L R:List (List Attr)}(h:JN e BF.toAvT F C W b L N)(Q:N<=100000000000)(hk:k<=L.length)(hl:L.length+R.length<=536870912)(I:BB S 1 (Cw D) W v R)(T:∀x,S x\/D x->x≠b)(J:∀x∈R,x.length*48<=140737488355328) :
  AB prog 76 [.pointer (some ⟨b,0,none⟩),zI (k:Int),v] (fun v' w'=>∃bt F' j,(∀x,F' x\/j x->(F x\/C x)\/W.heap.size<=x)/\Di BF.toAvT F' j w' b bt (L.take k++R++L.drop k) (N+R.length+4)/\Mod F W w') W:=by
 rcases h with⟨bt,h⟩|⟨_,U,rfl,O,V⟩
 .refine AA (TX h Q hk hl I J) ?_;rintro _ w ⟨rfl,F',j,_,_,m,o,q,B⟩;exact ⟨bt,F',j,fun x i=>by
   rcases i with i|i
   .exact(m x i).imp .inl id
   .exact (o x i).imp .inr id,q,B⟩
 .obtain rfl:k=0:=by simpa using hk
  refine AA (QN U (by simpa using hl) I T J) ?_;rintro _ w ⟨rfl,bt,F',j,m,o,q,B⟩;refine⟨bt,F',j,fun x i=>?_,?_,B.mono fun x _ e=>(O x).2 e⟩
  .rcases i with i|i
   .exact(m x i).imp (fun e=>.inl ((O x).2 e)) id
   .exact .inr (o x i)
  .have e:([]:List (List Attr)).take 0++R++([]:List (List Attr)).drop 0=R:=by simp
   rw[e];exact q.up (by omega)
section
variable {k:TxK}{w0:World}{F:Nat->Prop}{W:World}{a:TxA}{σ:SKs}{most:Int}{rs:List Int}{l2:List Spn}{L:List (List Attr)}{t:Tab (List Attr)}{N:Nat}{d:List Cel}
def XP{e:Bool}{Fr:Nat->Prop}{i N:Nat}{l:List Ck}{b r s p t:Nat}(j:Bx W b (Uv sv most r s p t))(h:JN e Az.toAvT Fr GJ W r l N)(hi:i<=(Bg l).length)(m:(Bg l).length<=1099511627776) :
  AB prog 50 [.pointer (some ⟨b,0,none⟩),zI (i:Int)] (fun v' w'=>v'=zI (BX ((Bg l).take i):Int)/\∃bt F',Di Az.toAvT F' GJ w' r bt l N/\(∀x,F' x->Fr x\/W.heap.size<=x)/\Mod Fr W w') W:=by
 apply Ux;refine AI ?_;refine Bh (j.cells 2 _ rfl) ?_;refine AA (RU h hi m) ?_;rintro _ o ⟨rfl,h1⟩;exact CL (vs:=[_,_]) (by rfl) (CL (vs:=[_,_]) (by rfl) ⟨rfl,h1⟩)
def Ph{at':Nat}{set:List Attr}(h:Gq k w0 F W a σ most d N)(hT:Ee w0)(cc:at'<=d.length)(hr:LI S W v rs)(Z:CR S W sv set)(a8:∀x,S x->¬F x)
 (hm:∀r∈rs,Dz r)(a1:Bm σ.ks (CP σ.ks false set)=0)(hI:∀x∈set,Mv x)(eI:set.length<=64)(hz:d.length+rs.length<=10000000)(hN:N+4*rs.length+20<=1000000000) :
  AB prog 40 [.pointer (some ⟨a.b,0,none⟩),zI (at':Int),v,sv] (fun v' w'=>v'=.tuple #[]/\KF .f w0 F W w' a σ most (d.take at'++rs.map (cellOf σ.ks set)++d.drop at') (N+4*rs.length+20)) W:=by
 obtain⟨z,l2,t,f,b1,hM,hp,hu,hh,cd,eL⟩:=h;have ch:z.length=d.length:=by rw[<-b1,Iq]
 have b2:(Ar d).length=d.length:=Iq _;apply fG;have gd:Grow W W.drew:=Mod.drew _ _;have V:=hM.grow gd;refine Af (fun q y=>q=10/\F y) ?_;refine AI ?_;rw[AG,AH];refine AU ⟨V.box.1.cells 5 _ rfl,fun j hj e=>by obtain⟨rfl,_⟩:=e;exact absurd hj (by decide)⟩ ?_;refine AI ?_;rw[AG,AH];refine AU ⟨V.box.1.cells 0 _ rfl,fun j hj e=>by obtain⟨rfl,_⟩:=e;exact absurd hj (by decide)⟩ ?_;have cn:=Z.grow gd (by decide) fun _ _ h=>h;have cx:=Z.GN (by decide);refine AA (Ji (b:=false) V.JO.1 cn (by omega)) ?_;rintro eN W1 ⟨da,g1⟩;refine⟨g1.mono fun _ _ h=>h.elim,?_⟩;have ak:=gd.trans g1;have b6:=V.grow g1;have zd:=gd.size;have z1:=g1.size;obtain⟨Ft,al,b7,put⟩:=b6.Qs;have b8:=hM.hl;have dk:t.Small 1099511627:=(hh.small al.inv GL.ne (H:=1000000000) (fun x=>by have:=Spn.Qc x none (z.map Prod.snd);rw[Iq] at this;omega) (by omega)).le (by omega);refine AA (SF al dk da (hT.grow b6.g) (fun x m=>hI x ((lx.1 m).1)) (fun x m=>?_) (fun x m e=>?_)) ?_
 .have:=b8 x (b7 x m);have:=hT.size;exact⟨by omega,by omega⟩
 .have:=b8 x (b7 x e);omega
 rintro _ W2 (⟨h0,_⟩|⟨_,id,t2,rfl,a6,hA⟩)
 .exact absurd a1 h0
 obtain⟨F2,f2,O,M2⟩:=put hA;clear put;refine⟨M2.mono fun x _ m=>⟨rfl,m⟩,?_⟩;refine BO ?_;obtain⟨f',dT,b9,e4⟩:=hh.added al.inv a6 fun X=>⟨X,fun x m=>hI x ((lx.1 m).1),a1⟩;have ew:=a6.pl;refine AI ?_;refine Bh (O.box.1.cells 0 _ rfl) ?_;have z2:=M2.size;have e5:CR (fun x=>S x/\x<W.heap.size) W2 sv set:=(cx.grow ak (by decide) fun _ _ h=>h).mod M2 (fun x _ m e=>a8 x m.1 e) (by decide) fun _ _ h=>h;refine AA (Ji (b:=true) O.JO.1 e5 (by omega)) ?_;rintro eR W3 ⟨e6,g3⟩;have e7:=O.grow g3;have z3:=g3.size;have an:LI (fun x=>S x/\x<W.heap.size) W3 v rs:=(((hr.GN (by decide)).grow ak (by decide) fun _ _ h=>h).mod M2 (fun x _ m e=>a8 x m.1 e) (by decide) fun _ _ h=>h).grow g3 (by decide) fun _ _ h=>h;obtain⟨ra,rc,e8,_⟩:=an.shape;have ba:Ac v=Ac (.slice ra rs.length rc):=by rw[e8]
 rw[ba,AP];refine WH an e6 (by omega) fun row cv W5 oR oC X g5=>?_;simp only[GC];have e9:=e7.grow g5;have z5:=g5.size;have bb:=O.hl;have J:=AE.Ax oR;have bc:=AE.Ax oC;have ea:LI (fun x=>S x/\x<W.heap.size) W5 v rs:=an.grow g5 (by decide) fun _ _ h=>h;have I:Grow W5 W5.drew:=Mod.drew _ _;have eX:=I.size;have Q:=e9.grow I;obtain⟨l1,Fr,av,hO,ec,put⟩:=Q.Hi;have bd:at'<=(Bg l1).length:=by rw[av,Ar,Iq];exact cc
 have fa:(Bg l1).length=d.length:=by rw[av,Ar,Iq]
 refine Af (fun q y=>(q=6/\Fr y)\/(q=8/\(F2 y\/W5.heap.size<=y))) ?_;refine AI ?_;rw [AG,AH];refine AU ⟨Q.box.1.cells 4 _ rfl,fun j hj e=>by
  rcases e with⟨rfl,e⟩|⟨rfl,_⟩
  .exact(ec _ e).2 rfl
  .exact absurd hj (by decide)⟩ ?_
 refine AA (XP Q.box.1 hO bd (by omega)) ?_;rintro _ W6 ⟨rfl,ed,fo,ee,bk,m6⟩;refine⟨m6.mono fun x _ m=>.inl ⟨rfl,m⟩,?_⟩;obtain⟨F6,f6,bl,M6⟩:=put (e:=false) m6 bk (.inl ⟨ed,ee⟩) (Mp _);clear put;rw[av] at bl ⊢;have z6:=M6.size;obtain⟨Fp,Cp,hO,ef,put⟩:=bl.para;have o:∀x,F2 x->x<W2.heap.size:=fun x m=>(bb x m).2.1;have eh:AE W3.heap.size 43 1 (Cw fun x=>W2.heap.size<=x/\x<W3.heap.size) W6 cv (List.replicate (BX rs) (CP σ.ks true set)):=
  AE.mod (AE.mod (R':=Cw fun x=>W2.heap.size<=x/\x<W3.heap.size) oC I (fun _ _ h=>h) fun r y _ hy=>BF.BZ hy I fun _ _ _ h=>h) M6 (fun x m e=>by have:=bc x m;have:=o x e;omega) fun r y _ hy=>BF.BZ hy M6 fun x _ m e=>by have:=o x e;omega
 have fs:a.p<W2.heap.size:=by
  obtain⟨fv,ga,bn,ey,_⟩:=O.para;exact bn.lt _ (.inl bn.fb)
 refine AA (RL (k:=BX ((Ar d).take at')) hO (by omega) (by rw [EM];exact mr _ (nU _ _)) (by rw [EM,lZ];have h1:=Dl (Ar d);have h2:=Dl rs;rw [b2] at h1;omega) (AE.sl eh) (fun x m e=>by
   subst e;rcases m with m|m
   .have:=m.1;omega
   .omega) (fun x m=>by
   rw [List.eq_of_mem_replicate m];have:(CP σ.ks true set).length<=set.length:=nN _ _;omega)) ?_
 rintro _ W7 ⟨ej,gb,gf,ek,bp,m7⟩;rw[lZ] at bp;have Y:∀x,F6 x->F2 x\/W5.heap.size<=x:=fun x m=>(f6 x m).imp (fun h=>h) fun h=>by omega
 refine⟨m7.mono fun x _ m=>.inr ⟨rfl,Y x (ef x (.inl m))⟩,?_⟩;have gg:=Dl rs;obtain⟨F7,f7,bs,M7⟩:=put (e:=false) m7 ek (.inl ⟨ej,bp.up (N':=N+rs.length+4) (by omega)⟩) (by omega);clear put;have z7:=M7.size;have T:∀x,F7 x->F2 x\/W5.heap.size<=x:=fun x m=>by
  rcases f7 x m with e|e
  .exact Y x e
  .exact .inr (by omega)
 have U:∀x,S x/\x<W.heap.size->¬F2 x:=fun x m e=>by
  rcases f2 x e with e|e
  .exact a8 x m.1 e
  .omega
 have bx:∀x,S x/\x<W.heap.size->¬F6 x:=fun x m e=>by
  rcases Y x e with e|e
  .exact U x m e
  .omega
 have eA:∀x,S x/\x<W.heap.size->¬F7 x:=fun x m e=>by
  rcases T x e with e|e
  .exact U x m e
  .omega
 refine AI ?_;refine Bh (bs.box.1.cells 2 _ rfl) ?_;obtain⟨l7,gl,c4,hO,eB,put⟩:=bs.Hi;obtain⟨en,hO⟩:=hO.t;have eC:(Bg l7).length=d.length:=by rw[c4,Ar,Iq]
 have eo:LI (fun x=>S x/\x<W.heap.size) W7 v rs:=((ea.grow I (by decide) fun _ _ h=>h).mod M6 (fun x _ m e=>U x m e) (by decide) fun _ _ h=>h).mod M7 (fun x _ m e=>bx x m e) (by decide) fun _ _ h=>h;refine AA (UT hO (by omega) (by omega) (by omega) eo hm) ?_;rintro _ W8 ⟨rfl,gm,l8,_,k2,k3,k4,k5⟩;have gw:=Mo rs;obtain⟨F8,f8,c6,M8⟩:=put (e:=false) k5 k2 (.inl ⟨en,k3.up (N':=N+2*rs.length+8) (by omega)⟩) (by omega);clear put;rw[k4,c4] at c6;have z8:=M8.size;obtain⟨r1,r2,_,_,r5⟩:=MX id rs;have r6:=kZ List.length r1;rw[Iq] at r6;have ep:=kZ List.length hu;rw[Iq,ch] at ep;have er:AE W3.heap.size 108 2 Dt W8 row (rowOf id rs).1:=
  AE.mod (R':=Dt) (AE.mod (R':=Dt) (AE.mod (R':=Dt) (AE.mod (R':=Dt) oR I (fun _ _ h=>h) fun _ _ _ h=>h) M6 (fun x m e=>by have:=J x m;have:=o x e;omega) fun _ _ _ h=>h) M7 (fun x m e=>by
   have:=J x m;rcases Y x e with e|e
   .have:=o x e;omega
   .omega) fun _ _ _ h=>h) M8 (fun x m e=>by
   have:=J x m;rcases T x e with e|e
   .have:=o x e;omega
   .omega) fun _ _ _ h=>h
 have c7:∀s∈(rowOf id rs).1,s.id=id\/s.id=0:=fun s Z=>by
  have:=Spn.KO Z (r2 s Z);rw[r1] at this;obtain⟨r,_,e⟩:=kT.1 this;rw[<-e];unfold GI;split
  .exact .inr rfl
  .exact .inl rfl
 refine AA (Kp (f:=f') (ex:=fun x=>if x=id then 1 else 0) (i:=at') (j:=at') c6 hp (dT.congr fun x=>by rw[hu]) (Mp _) (by omega) (AE.sl er) (fun x m e=>?_) (fun s Z=>⟨r2 s Z,?_⟩) (by omega) (fun x=>by split<;>omega) (by omega) (by omega)) ?_
 .have:=J x m.2;rcases f8 x e with e|e
  .rcases T x e with e|e
   .have:=o x e;omega
   .omega
  .omega
 .rcases c7 s Z with e|e
  .exact .inl (by rw[DN e];omega)
  .exact .inr e
 rintro _ W9 ⟨rfl,t9,⟨F9,f9,c8,M9⟩,ax,gA⟩;refine AI ?_;refine Bh (c8.box.1.cells 5 _ rfl) ?_;obtain⟨gB,ay,_,put⟩:=c8.Qs;have b0:((Spn.kd.CB l2 at' at' (rowOf id rs).1).flatMap Spn.u)=(z.map Prod.snd).take at'++rs.map (GI id)++(z.map Prod.snd).drop at':=by rw[Spn.ED.CB l2 _ (Mp at'),hu,r1]
 have et:=kZ List.length b0;simp only[Bp,Lc,I3,Iq] at et;have a7:0<Spn.rn id none ((Spn.kd.CB l2 at' at' (rowOf id rs).1).flatMap Spn.u)+(if id=id then 1 else 0):=by rw[DN rfl];omega
 obtain⟨q1,q2⟩:=ax.idle (.inl a7);refine AA (KQ ay ((ax.small ay.inv GL.ne (H:=1000000000) (fun x=>by have:=Spn.Qc x none ((Spn.kd.CB l2 at' at' (rowOf id rs).1).flatMap Spn.u);split<;>omega) (by omega)).le (by omega)) q1 (by omega)) ?_;rintro _ gW c9;have eu:=DK.step ak (DK.next f2 M2 (DK.step (g3.trans (g5.trans I)) (DK.next f6 M6 (DK.next f7 M7 (DK.next f8 M8 (DK.next f9 M9 (put c9)))))));have ca:=ax.free ay.inv GL.ne a7;obtain⟨F',w1,w2,w3⟩:=eu.up (N':=N+4*rs.length+20) (by omega);refine⟨trivial,F',w1,⟨z.take at'++rs.map (fun r=>(cellOf σ.ks set r,GI id r))++z.drop at',Spn.kd.CB l2 at' at' (rowOf id rs).1,_,f',?_,?_,Spn.IF at' at' _ hp,?_,ca.congr fun x=>?_,?_,?_⟩,w3⟩
 .rw[Ty,Ty,lu,mB,b1,mz];rfl
 .have e1:Ar (d.take at'++rs.map (cellOf σ.ks set)++d.drop at')=(Ar d).take at'++rs++(Ar d).drop at':=by
   rw[Ar,Ty,Ty,lu,mB];show _++Ar _++_=_;rw[ia]
  have e2:CK (d.take at'++rs.map (cellOf σ.ks set)++d.drop at')=(CK d).take (BX ((Ar d).take at'))++List.replicate (BX rs) (CP σ.ks true set)++(CK d).drop (BX ((Ar d).take at')):=by
   rw[Dk,Dk,cB,(DX d at').1,(DX d at').2]
  rw[e1,e2];exact w2
 .rw[b0,Ty,Ty,lu,mB,mz];rfl
 .have e3:(z.take at'++rs.map (fun r=>(cellOf σ.ks set r,GI id r))++z.drop at').map Prod.snd=(Spn.kd.CB l2 at' at' (rowOf id rs).1).flatMap Spn.u:=by rw[b0,Ty,Ty,lu,mB,mz];rfl
  rw[e3];split<;>omega
 .intro p B;have GN:∀p∈z,(p.1.r=10->p.2=0)/\(p.1.r≠10->f' p.2=p.1.set):=fun p B=>by
   obtain⟨o1,o2⟩:=cd p B;refine⟨o1,fun X=>?_⟩;rw[e4,o2 X];exact Spn.JD (kT.2 ⟨p,B,rfl⟩) (by simp)
  rcases C3.1 B with B|B
  .rcases C3.1 B with B|B
   .exact GN p (i7 B)
   .obtain⟨r,_,rfl⟩:=kT.1 B;refine⟨fun e=>?_,fun e=>?_⟩
    .have e':r=10:=e;simp[GI,e']
    .have e':r≠10:=e;simp[GI,e',cellOf,b9]
  .exact GN p (iV B)
 .rw[Tab.Lz];omega
end
def AE.OY{B e k:Nat}{R:World->List Value->α->Prop}{x:α}(m:B<=w.heap.size)(j:cs.length=k)(h1:∀u∈cs,u.oneCell'=true)(o:R (w.alloc (.cells cs.toArray e)) cs x) :
  AE B e k R (w.alloc (.cells cs.toArray e)) (.slice (some ⟨w.heap.size,0,none⟩) 1 1) [x]:=by
 refine⟨[cs],⟨by simp[j],.inr ⟨w.heap.size,1,cs.toArray,rfl,m,qJ w _,by simp,by simp[maxLen],by simp[j],by simp[<-j]⟩⟩,rfl,fun r hr=>?_,fun i r y hr q=>?_⟩
 .simp only[P9] at hr;subst hr;exact⟨j,h1⟩
 .have hi:i=0:=by have:=(Ad.1 hr).1;simp at this;exact this
  subst hi;cases hr;cases q;exact o
section
variable {k:TxK}{w0:World}{F:Nat->Prop}{W:World}{a:TxA}{σ:SKs}{most:Int}{N:Nat}{d:List Cel}
def XU{i j:Nat}(h:Gq .f w0 F W a σ most d N)(o:i<=j)(hj:j<=d.length)(hz:d.length<=10000000)(hN:N+20<=1000000000) :
  AB prog 44 [.pointer (some ⟨a.b,0,none⟩),zI (i:Int),zI (j:Int)] (fun v' w'=>v'=.tuple #[]/\KF .f w0 F W w' a σ most (d.take i++d.drop j) (N+20)) W:=by
 obtain⟨z,l2,t,f,Q,hM,hp,hu,hh,T,b7⟩:=h;have a7:z.length=d.length:=by rw[<-Q,Iq]
 have I:(Ar d).length=d.length:=Iq _;apply dI;have gd:Grow W W.drew:=Mod.drew _ _;have B:=hM.grow gd;obtain⟨l1,Fr,bt,U,J,b8,_⟩:=B.Sb;have a8:(Bg l1).length=d.length:=by rw[U,I]
 refine Af (fun q y=>q=10/\F y) ?_;refine AI ?_;rw [AG,AH];refine AU ⟨B.box.1.cells 4 _ rfl,fun j hj e=>by obtain ⟨rfl,_⟩:=e;exact absurd hj (by decide)⟩ ?_;refine AA (HE B.box.1 J (i:=i) (by omega) (by omega)) ?_;rintro _ W1 ⟨rfl,g1⟩;refine ⟨g1.mono fun _ _ h=>h.elim,?_⟩;have V:=B.grow g1;refine AA (HE V.box.1 (J.grow g1) (i:=j) (by omega) (by omega)) ?_;rintro _ W2 ⟨rfl,g2⟩;refine ⟨g2.mono fun _ _ h=>h.elim,?_⟩;have ak:=V.grow g2;rw [U] at a8 ⊢;obtain ⟨Fp,Cp,bp,J,al,put⟩:=ak.WO;have an:BX ((Ar d).take i)<=BX ((Ar d).take j):=mr _ (by
  rw [<-lA o,<-mf];exact nU _ _)
 have av:BX ((Ar d).take j)<=BX (Ar d):=mr _ (nU _ _);have b9:=Dl (Ar d);refine AA (UY J (by omega) an (by rw [EM];exact av) (by rw [EM];omega)) ?_;rintro _ W3 ⟨rfl,ba,_,k2,X,m3⟩;obtain ⟨F3,f3,Y,M3⟩:=put m3 (fun x O=>by
  rcases O with O|O
  .exact(k2 x O).imp .inl fun h=>h
  .exact .inl (.inr O)) X (by omega)
 clear put J X;refine⟨m3.mono fun x _ O=>⟨rfl,al x (.inl O)⟩,?_⟩;refine AI ?_;refine Bh (Y.box.1.cells 2 _ rfl) ?_;obtain⟨l3,bb,br,Z,J,b2,put⟩:=Y.Sb;have b6:(Bg l3).length=d.length:=by rw[Z,I]
 refine AA (TY J (by omega) o (by omega) (by omega)) ?_;rintro _ W4 ⟨rfl,bc,l4,_,k2,X,k4,m4⟩;obtain⟨F4,f4,a1,M4⟩:=put m4 k2 X (by omega);clear put J X;rw[k4,Z] at a1;have ax:=kZ List.length hu;rw[Iq,a7] at ax;refine AA (Kp (f:=f) (ex:=fun _=>0) (row:=[]) (S:=fun _=>False) a1 hp (hh.congr fun x=>by rw[hu];rfl) o (by omega) BB.nil (fun _ h=>h.elim) (fun s hs=>nomatch hs) (by rw[oI,lG];omega) (fun x=>Nn _) (by omega) (by omega)) ?_;rintro _ W5 ⟨rfl,t5,ay,b0,bd⟩;have a6:=DK.step (gd.trans (g1.trans g2)) (DK.next f3 M3 (DK.next f4 M4 ay));obtain⟨F',w1,w2,w3⟩:=a6.up (N':=N+20) (by simp);have b1:((Spn.kd.CB l2 i j []).flatMap Spn.u)=(z.map Prod.snd).take i++(z.map Prod.snd).drop j:=by rw[Spn.ED.CB l2 _ o,hu];simp
 have e3:(z.take i++z.drop j).map Prod.snd=(Spn.kd.CB l2 i j []).flatMap Spn.u:=by rw[b1,Ty,lu,mB]
 refine⟨rfl,F',w1,⟨z.take i++z.drop j,_,_,f,?_,?_,Spn.IF i j [] hp,e3.symm,b0.congr fun x=>?_,fun p m=>?_,by omega⟩,w3⟩
 .rw[Ty,lu,mB,Q]
 .have e1:Ar (d.take i++d.drop j)=(Ar d).take i++(Ar d).drop j:=by rw[Ar,Ty,lu,mB]
  have e2:CK (d.take i++d.drop j)=(CK d).take (BX ((Ar d).take i))++(CK d).drop (BX ((Ar d).take j)):=by rw[Dk,(DX d i).1,(DX d j).2]
  rw[e1,e2];exact w2
 .rw[e3];rfl
 .rcases C3.1 m with m|m
  .exact T p (i7 m)
  .exact T p (iV m)
end
def ik:Dz 10:=.inl (by omega)
def WG:Bm ks []=0:=by
 classical
 unfold Bm;rw[Bq,Bq]
 .rintro⟨a,ha,_⟩;cases ha
 .rintro(h|h|⟨a,ha,_⟩)
  .exact h fun i h1 j=>by simp at j
  .simp at h
  .cases ha
def Pe{σ:SKs}(Z:Ci σ.S W σ.sv σ.ks)(q:∀x,σ.S x->x<W.heap.size)(hT:Ee w0)(g:Grow w0 W) :
  AB prog 11 [σ.sv,zI most] (fun v' w'=>Grow W w'/\((1<=most/\most<536870912/\∃a F,v'=.tuple #[.pointer (some ⟨a.b,0,none⟩),zI 0]/\(∀x,F x->W.heap.size<=x)/\Gq .f w0 F w' a σ most [⟨10,[]⟩] 24)\/((most<1\/536870912<=most)/\v'=.tuple #[.pointer none,zI 2]))) W:=by
 apply dC;refine AV (fun _ W'=>W'=W/\1<=most/\most<536870912) ?_ ?_;rotate_left
 .rw[Am];refine AF (fun h1=>⟨Mod.refl _ _,.inr ⟨.inl h1,rfl⟩⟩) fun h1=>?_;rw[DW];exact AF (fun O=>⟨Mod.refl _ _,.inr ⟨.inr O,rfl⟩⟩) fun O=>⟨rfl,by omega,by omega⟩
 rintro _ _ ⟨rfl,a1,a6⟩ _;rename World=>W
 refine AA gN ?_;rintro _ W1 ⟨r,rfl,hr,B1,g1⟩;refine AA de ?_;rintro _ W2 ⟨s,rfl,hs,B2,g2⟩;refine AA fA ?_;rintro _ W3 ⟨p,rfl,hp,B3,V⟩;have z1:=g1.size;have z2:=g2.size;have z3:=V.size;have av:=B1.lt (S3 _);have ax:=B2.lt (S3 _);have ay:=B3.lt (S3 _);have Q:=(g1.trans g2).trans V;have a7:=Z.grow Q;refine AA (aY a7 fun x j=>by have:=q x j;omega) ?_;rintro _ W4 ⟨T,tb,b0,rfl,U⟩;have z4:=T.size;have a8:∃X,σ.sv=.pointer (some ⟨X,0,none⟩):=by
  obtain⟨X,_,_,_,e,_⟩:=id Z;exact⟨X,e⟩
 have B:Instr.fill (fun i=>[(0,1),(1,1),(2,1),(3,1),(4,1),(5,1)][i]?) [Value.pointer none,zI 0,.pointer none,.pointer none,.pointer none,.pointer none].toArray [(0,σ.sv),(1,zI most),(2,.pointer (some ⟨r,0,none⟩)),(3,.pointer (some ⟨s,0,none⟩)),(4,.pointer (some ⟨p,0,none⟩)),(5,.pointer (some ⟨tb,0,none⟩))]=some (Uv σ.sv most r s p tb).toArray:=by
  obtain⟨X,e⟩:=a8;rw[e];kernel_rfl
 refine⟨_,B,?_⟩;refine Bx.box fun b m hb J B5=>?_;have z5:=J.size;have b1:=B5.lt (S3 _);have ak:=((g2.trans V).trans T).trans J;have I:=(Q.trans T).trans J;have b2:=U.lt;have hM:Gq ⟨true,true,true⟩ w0 (fun x=>W.heap.size<=x/\x<m.heap.size) m ⟨b,r,s,p,tb⟩ σ most [] 0:=by
  refine⟨[],[],Tab.z _,fun _=>[],rfl,⟨fun x=>if x=b then 0 else if x=r then 1 else if x=s then 2 else if x=p then 3 else if x<W.heap.size then 5 else 4,⟨fun x=>x=r,fun x=>x=s,fun x=>x=p,fun _=>False,fun x=>W3.heap.size<=x/\x<W4.heap.size⟩,[],rfl,?_⟩,trivial,rfl,Tab.Holds.new _,(fun p hp=>nomatch hp),Nn _⟩;refine⟨B5,.inr ⟨rfl,B1.grow ak,rfl,fun x=>oe,fun _ h=>h⟩,.inr ⟨rfl,(B2.grow (V.trans T)).grow J,rfl,fun x=>oe,fun _ h=>h⟩,.inr ⟨rfl,(B3.grow T).grow J,rfl,fun x=>oe,fun _ h=>h⟩,U.grow J,Z.grow I,DN rfl,?_,?_,?_,?_,?_,?_,?_,g.trans I⟩
  .rintro x rfl;rw[Bq (by omega),DN rfl]
  .rintro x rfl;rw[Bq (by omega),Bq (by omega),DN rfl]
  .rintro x (rfl|h)
   .rw[Bq (by omega),Bq (by omega),Bq (by omega),DN rfl]
   .exact h.elim
  .rintro x ⟨h1,O⟩;rw[Bq (by omega),Bq (by omega),Bq (by omega),Bq (by omega),Bq (by omega)]
  .intro x j;have:=q x j;rw[Bq (by omega),Bq (by omega),Bq (by omega),Bq (by omega),DN this];exact⟨rfl,by omega⟩
  .rintro x ((h|h|h)|(h|h)|h)
   .have h':x=b:=h;exact⟨by omega,by omega⟩
   .have h':x=r:=h;exact⟨by omega,by omega⟩
   .have h':x=s:=h;exact⟨by omega,by omega⟩
   .have h':x=p:=h;exact⟨by omega,by omega⟩
   .exact h.elim
   .exact⟨by have:=h.1;omega,by have:=h.2;omega⟩
  .rintro x ⟨h1,O⟩;have:=g.size;exact⟨by omega,O,fun h=>by have:=q x h;omega⟩
 refine GF (cs:=[.int .i32 10]) (by kernel_rfl) ?_;have o6:AE m.heap.size 21 1 Bz (m.alloc (.cells [Value.int .i32 10].toArray 21)) (.slice (some ⟨m.heap.size,0,none⟩) 1 1) [10]:=AE.OY (Mp _) rfl (fun u hu=>by simp at hu;subst hu;rfl) rfl;have o:=AE.sl o6;have Y:Grow m (m.alloc (.cells [Value.int .i32 10].toArray 21)):=Mod.alloc _ _ _;generalize m.alloc (.cells [Value.int .i32 10].toArray 21)=W6 at o o6 Y ⊢;obtain⟨z',l2,t,f,e1,e2,e3⟩:=hM;have al:Gq ⟨true,true,true⟩ w0 (fun x=>W.heap.size<=x/\x<m.heap.size) W6 ⟨b,r,s,p,tb⟩ σ most [] 0:=⟨z',l2,t,f,e1,e2.grow Y,e3⟩;have q1:([10]:List Int).length=1:=rfl;have q2:CP σ.ks false []=[]:=rfl;have key:=Ph (at':=0) (rs:=[10]) (set:=[]) al hT (Mp _) o BB.nil (fun x j e=>by have:=e.2;have:=j.1;omega) (fun r hr=>by rw[P9] at hr;rw[hr];exact ik) (by rw[q2];exact WG) (fun x j=>nomatch j) (Nn _) (by rw[q1,lG];omega) (by rw[q1];omega);refine AA key ?_;rintro _ W7 ⟨rfl,F7,f7,h7,m7⟩;have z6:=Y.size;have an:=I.trans Y;refine⟨an.next m7 fun x j e=>by have:=e.1;omega,.inl ⟨a1,a6,⟨b,r,s,p,tb⟩,F7,rfl,fun x j=>?_,?_⟩⟩
 .rcases f7 x j with e|e
  .exact e.1
  .omega
 .exact h7
end Go.Proofs.YtmdhibffnkhcnaaGreatDoor
