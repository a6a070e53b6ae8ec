/- parts of the proof, written short by a program of ours -/
import Derived.Test.YtmdhibffnkhcnaaGreatDoorZTextProperUpto8
set_option linter.unusedSimpArgs false
set_option linter.unusedVariables false
namespace Go.Proofs.YtmdhibffnkhcnaaGreatDoor
open Go Go.K Proofs.Tryz
structure Di (F C:Nat->Prop) (W:World) (b:Nat) (ks:SKs) (places:List (Ent (List Attr))) (free:List Nat) (em:Nat) (f:Value->Option Value) (pl fr:Value) (bm:Nat):Prop where
 cells:∀j v,(Sm ks.sv pl fr bm em)[j]?=some v->W.cell? ⟨b,j,none⟩=some v
 live:∀j,j<5->Live W ⟨b,j,none⟩
 IY:DI ks.S W ks.sv ks.ks
 FT:AF 0 QN 2 (Fw C) W pl places
 JK:AF 0 3 1 LB W fr (free.map fun i:Nat=>(i:Int))
 map:HY .string W bm f
 fb:F b/\¬C b
 fm:F bm/\¬C bm/\bm≠b
 pF:∀g,pl.ownBlock=some g->F g/\¬C g/\g≠b/\g≠bm
 fF:∀g,fr.ownBlock=some g->F g/\¬C g/\g≠b/\g≠bm/\pl.ownBlock≠some g
 cf:∀x,C x->F x/\x<W.heap.size
 sf:∀x,ks.S x->¬F x/\x<W.heap.size
section
variable {F C M:Nat->Prop}{W W':World}{b:Nat}{ks:SKs}{t:Tab (List Attr)}{places:List (Ent (List Attr))}{free:List Nat}{em:Nat}{f:Value->Option Value}{pl fr:Value}{bm:Nat}
theorem Kx.m(h:Kx F C W b ks t pl fr bm):∃f,Di F C W b ks t.places t.free t.empty f pl fr bm/\EA t f:=by
 obtain⟨f,i,j⟩:=h.core.map;exact⟨f,⟨h.cells,h.live,h.core.IY,h.core.FT,h.core.JK,i,h.core.fb,h.core.fm,h.core.pF,h.core.fF,h.core.cf,h.core.sf⟩,j⟩
theorem Di.r(h:Di F C W b ks t.places t.free t.empty f pl fr bm)(i:EA t f)(j:t.Inv (FY ks.ks)):Kx F C W b ks t pl fr bm:=
 ⟨h.cells,h.live,h.IY,h.FT,h.JK,⟨f,h.map,i⟩,j,h.fb,h.fm,h.pF,h.fF,h.cf,h.sf⟩
theorem Di.mod(h:Di F C W b ks places free em f pl fr bm)(hm:Mod M W W')(o:∀x,F x\/ks.S x->¬M x):Di F C W' b ks places free em f pl fr bm:=by
 have hC:∀ x,x < W.heap.size->C x->¬ M x:=fun x _ i=>o x (.inl (h.cf x i).1);exact ⟨fun j v B=>hm.cell (h.cells j v B) (o b (.inl h.fb.1)),fun j E=>(h.live j E).mod hm (o b (.inl h.fb.1)),h.IY.mod hm fun x _ i=>o x (.inr i),AF.mod h.FT hm (fun g y=>o g (.inl (h.pF g y).1)) fun r x _ i=>i.mod hm hC,AF.mod h.JK hm (fun g y=>o g (.inl (h.fF g y).1)) fun _ _ _ h=>h,
  h.map.mod hm (o bm (.inl h.fm.1)),h.fb,h.fm,h.pF,h.fF,fun x i=>⟨(h.cf x i).1,Nat.lt_of_lt_of_le (h.cf x i).2 hm.size⟩,fun x i=>⟨(h.sf x i).1,Nat.lt_of_lt_of_le (h.sf x i).2 hm.size⟩⟩
theorem Di.UN{y:Value->Option Value}(h:Di F C W b ks places free em f pl fr bm)(hm:Mod (fun x=>x=bm) W W')(B:HY .string W' bm y):Di F C W' b ks places free em y pl fr bm:=by
 have hC:∀ x,x < W.heap.size->C x->¬ x=bm:=fun x _ i e=>h.fm.2.1 (e ▸ i);have hb:¬ b=bm:=fun e=>h.fm.2.2 e.symm;exact ⟨fun j v E=>hm.cell (h.cells j v E) hb,fun j I=>(h.live j I).mod hm hb,h.IY.mod hm fun x _ i e=>(h.sf x i).1 (e ▸ h.fm.1),AF.mod h.FT hm (fun g o=>(h.pF g o).2.2.2) fun r x _ i=>i.mod hm hC,AF.mod h.JK hm (fun g o=>(h.fF g o).2.2.2.1) fun _ _ _ h=>h,
  B,h.fb,h.fm,h.pF,h.fF,fun x i=>⟨(h.cf x i).1,Nat.lt_of_lt_of_le (h.cf x i).2 hm.size⟩,fun x i=>⟨(h.sf x i).1,Nat.lt_of_lt_of_le (h.sf x i).2 hm.size⟩⟩
theorem Di.IE{i:List (Ent (List Attr))}{g:Nat}(h:Di F C W b ks places free em f pl fr bm)(B:pl.ownBlock=some g)(hm:Mod (fun x=>x=g) W W')(hp:AF 0 QN 2 (Fw C) W' pl i):Di F C W' b ks i free em f pl fr bm:=by
 obtain ⟨I,J,E,O⟩:=h.pF g B;have hC:∀ x,x < W.heap.size->C x->¬ x=g:=fun x _ o e=>J (e ▸ o);exact ⟨fun j v Q=>hm.cell (h.cells j v Q) (fun e=>E e.symm),fun j S=>(h.live j S).mod hm (fun e=>E e.symm),h.IY.mod hm (fun x _ o e=>(h.sf x o).1 (e ▸ I)),hp,AF.mod h.JK hm (fun g' y e=>(h.fF g' y).2.2.2.2 (by rw [B,e])) fun _ _ _ h=>h,
  h.map.mod hm (fun e=>O e.symm),h.fb,h.fm,h.pF,h.fF,fun x o=>⟨(h.cf x o).1,Nat.lt_of_lt_of_le (h.cf x o).2 hm.size⟩,fun x o=>⟨(h.sf x o).1,Nat.lt_of_lt_of_le (h.sf x o).2 hm.size⟩⟩
theorem Di.Y0{F':Nat->Prop}{B:Value}{free':List Nat}{K:World->Prop}{Mf:Nat->Prop}(h:Di F C W b ks places free em f pl fr bm)(hm:Mod Mf W W')(S:∀x,Mf x->fr.ownBlock=some x)(J:∀x,F x->F' x)(T:∀x,F' x->F x\/W.heap.size<=x)
 (ho:AF 0 3 1 LB W' B (free'.map fun i:Nat=>(i:Int)))(hn:∀g,B.ownBlock=some g->fr.ownBlock=some g\/W.heap.size<=g/\F' g)(O:B.oneCell'=true)(U:B.cells=#[B])
 (hK:∀E,Di F' C E b ks places free' em f pl B bm->Mod (fun x=>x=b) W' E->K E):BB (.pointer (some ⟨b,2,none⟩)) B K W':=by
 have hb:∀ x,Mf x->F x/\¬ C x/\x≠b/\x≠bm/\pl.ownBlock≠some x:=fun x o=>h.fF x (S x o);have hC:∀ x,x < W.heap.size->C x->¬ Mf x:=fun x _ o e=>(hb x e).2.1 o;refine E9 (vs:=Sm ks.sv pl fr bm em) (fun j v hv=>hm.cell (h.cells j v hv) fun e=>(hb b e).2.2.1 rfl) (fun j V=>(h.live j V).mod hm fun e=>(hb b e).2.2.1 rfl) (q:=2) (show 2 < 5 by decide) O U fun E y hc hl=>?_;have Q:=World.block_lt_of_cell? W _ (h.cells 4 _ rfl);have X:∀ x,x < W'.heap.size->C x->¬ x=b:=fun x _ o e=>h.fb.2 (e ▸ o);have Y:=AF.BI h.FT;have a1:=h.map.lt;refine hK E ⟨hc,fun j V=>hl j V,(h.IY.mod hm fun x _ o e=>(h.sf x o).1 (hb x e).1).mod y (fun x _ o e=>(h.sf x o).1 (e ▸ h.fb.1)),AF.mod (AF.mod (R':=Fw C) h.FT hm (fun g I e=>(hb g e).2.2.2.2 I) fun r x _ o=>o.mod hm hC) y (fun g I=>(h.pF g I).2.2.1) fun r x _ o=>o.mod y X,AF.mod ho y (fun g I e=>?_) fun _ _ _ h=>h,
  (h.map.mod hm fun e=>(hb bm e).2.2.2.1 rfl).mod y h.fm.2.2,⟨J _ h.fb.1,h.fb.2⟩,⟨J _ h.fm.1,h.fm.2⟩,fun g I=>⟨J _ (h.pF g I).1,(h.pF g I).2⟩,fun g I=>?_,fun x o=>⟨J _ (h.cf x o).1,Nat.lt_of_lt_of_le (h.cf x o).2 (Nat.le_trans hm.size y.size)⟩,fun x o=>⟨fun e=>(T x e).elim (h.sf x o).1 fun e=>by have:=(h.sf x o).2;omega,Nat.lt_of_lt_of_le (h.sf x o).2 (Nat.le_trans hm.size y.size)⟩⟩ y
 .subst e;rcases hn g I with e|⟨e,_⟩
  .exact(h.fF g e).2.2.1 rfl
  .have:g<W.heap.size:=Q;omega
 .rcases hn g I with e|⟨e,e'⟩
  .have:=h.fF g e;exact⟨J _ this.1,this.2⟩
  .refine⟨e',fun hc=>by have:=(h.cf g hc).2;omega,fun Z=>?_,fun Z=>by omega,fun Z=>by have:=(Y g Z).2;omega⟩;have:b<W.heap.size:=Q;omega
end
theorem Vn{C:Nat->Prop}{W:World}{a:Addr}{n c i:Nat}{l:List (Ent (List Attr))}{K:World->Prop}(h:AF 0 QN 2 (Fw C) W (.slice (some a) n c) l)(J:i<l.length)(hC:∀x,x<W.heap.size->C x->¬x=a.block)
 (Y:∀W',AF 0 QN 2 (Fw C) W' (.slice (some a) n c) (l.set i ⟨[],0⟩)->Mod (fun x=>x=a.block) W W'->K W'):Ab 2 (.pointer (some (a.add (i*2)))) (.agg #[.slice none 0 0,.int .i64 0]) K W:=by
 have B:Mod (fun x=>x=a.block) W (W.setCell (a.add (i * 2+0)) (.slice none 0 0)):=Mod.setCell _ _ _ (by rw [BO]);obtain ⟨⟨u1,O⟩,Q,S,_⟩:=AF.store (R':=Fw C) (u:=.slice none 0 0) (x':=⟨[],l[i].held⟩) (j:=0) h J (by decide) rfl (fun r y _ hr=>hr.mod B hC) (fun r hr=>by
  obtain ⟨s,rfl,T⟩:=hr;exact ⟨_,rfl,BH.nil⟩)
 have U:i<(l.set i ⟨[],l[i].held⟩).length:=by rw[List.length_set];exact J
 have o:Mod (fun x=>x=a.block) (W.setCell (a.add (i * 2+0)) (.slice none 0 0)) ((W.setCell (a.add (i * 2+0)) (.slice none 0 0)).setCell (a.add (i * 2+1)) (.int .i64 0)):=Mod.setCell _ _ _ (by rw [BO]);have E:∀ x,x < (W.setCell (a.add (i * 2+0)) (.slice none 0 0)).heap.size->C x->¬ x=a.block:=fun x Z hc=>hC x (by simpa using Z) hc;obtain ⟨_,_,I,_⟩:=AF.store (R':=Fw C) (u:=.int .i64 0) (x':=⟨[],0⟩) (j:=1) S U (by decide) rfl (fun r y _ hr=>hr.mod o E) (fun r hr=>by
  obtain⟨s,rfl,T⟩:=hr;refine⟨s,rfl,?_⟩;have e:(l.set i ⟨[],l[i].held⟩)[i].set=[]:=by rw[List.getElem_set_self]
  rw [e] at T;exact T.mod o E (by decide) fun _ _ h=>h)
 rw[List.set_set] at I;obtain⟨⟨u2,V⟩,X,_,_⟩:=AF.store (R':=fun _ _ (_:Ent (List Attr))=>True) (u:=.int .i64 0) (x':=⟨[],0⟩) (j:=1) h J (by decide) rfl (fun _ _ _ _=>trivial) (fun _ _=>trivial);refine⟨_,[.slice none 0 0,.int .i64 0],rfl,rfl,rfl,fun u hu=>by simp at hu;rcases hu with rfl|rfl<;>rfl,fun j hj=>?_,Y _ ?_ ?_⟩
 .rcases(show j=0\/j=1 by omega) with rfl|rfl
  .rw[Addr.add_add];exact⟨by rw[O];rfl,Q⟩
  .rw[Addr.add_add];exact⟨by rw[V];rfl,X⟩
 .simp only[Dz,Addr.add_add];exact I
 .simp only[Dz,Addr.add_add];exact B.trans o
theorem T5{F:Nat->Prop}{W:World}{b:Nat}{ks:SKs}{t:Tab (List Attr)}{id:Int}(h:Ec F W b ks t)(hs:t.Small 1099511627)(h0:-9223372036854775808<=id)(h1:id<=9223372036854775807) :
  AB prog 79 [.pointer (some ⟨b,0,none⟩),.int .i64 id] (fun v' w'=>v'=.int .i64 (if(t.ask [] id).isSome then 0 else 5)/\Ig F W w' b ks (t.release [] id)) W:=by
 apply Z4;have c6:=hs.pl;refine AA (LP h (by omega) h0 h1) ?_;rintro v1 w1 ⟨g1,hm⟩;unfold Tab.release;cases ha:t.ask [] id with
 |none=>
  rw[ha] at hm;subst hm;refine BQ ?_;refine BN (vs:=[.slice none 0 0,.int .i64 0]) rfl rfl (fun u hu=>by simp at hu;rcases hu with rfl|rfl<;>rfl) fun b5 w2 _ _ g2 Y _=>?_;rw[Bh];have B:=g1.trans g2;exact AZ (fun e=>by cases e) fun _=>⟨rfl,.same (h.grow B) (B.mono fun _ _ h=>h.elim)⟩
 |some p=>
  rw[ha] at hm;obtain⟨si,rfl,ho,ay⟩:=hm;refine BQ ?_;refine BN (vs:=[si,.int .i64 p.held]) rfl rfl (fun u hu=>by simp at hu;rcases hu with rfl|rfl;exact ho;rfl) fun b5 w2 _ _ g2 Y _=>?_;have B:=g1.trans g2;obtain⟨C,pl,fr,bm,hR⟩:=h;have o:=hR.mod B fun _ _ h=>h;have Z:=ay.grow g2 (by decide) fun _ _ h=>h;refine OY ?_;rw[Am];refine AE (fun hz=>?_) fun hz=>?_
  .refine AH ?_;refine Bm (o.cells 4 _ rfl) ?_;have:=hs.em;rw[Av,Gu,wrap64 (by omega) (by omega)];refine AH ?_;rw[AG,AI];have en:(if(0:Int)>(t.empty:Int)-1 then(0:Int) else(t.empty:Int)-1)=((t.empty-1:Nat):Int):=by split<;>omega
   rw[en];refine HT o fun W' a1 a6=>⟨rfl,?_⟩;dsimp only;rw[if_pos hz];exact .same ⟨C,pl,fr,bm,a1⟩ ((B.mono fun _ _ h=>h.elim).trans a6)
  .obtain⟨i,rfl,hp,U⟩:=Tab.Iy ha hz;have hi:=(List.getElem?_eq_some_iff.1 hp).1;have b9:=(List.getElem?_eq_some_iff.1 hp).2;have c7:=hs.he t.places[i] (List.getElem_mem hi);obtain⟨pa,pc,E,_⟩:=o.core.FT.sl.shape;rw[AG];refine AL (Y 1 _ rfl) ?_;rw[Am];refine AE (fun X=>?_) fun X=>?_
   .have a7:p.held=1:=by omega
    have I:=hR.core.inv.ok i p hp U;obtain⟨ba,bc⟩:=KV I;refine Ag (fun k y=>k=7/\y=bm) ?_;have gd:Grow w2 w2.drew:=Mod.drew _ _;refine AH ?_;rw[AG,AI];refine Aa ⟨gd.cell (o.cells 3 _ rfl) fun h=>h,fun j hj e=>by obtain⟨rfl,_⟩:=e;exact absurd hj (by decide)⟩ ?_;rw[AG];refine Aa ⟨gd.cell (Y 0 _ rfl) fun h=>h,fun j hj e=>by obtain⟨rfl,_⟩:=e;exact absurd hj (by decide)⟩ ?_;refine AA (OO (Z.grow gd (by decide) fun _ _ h=>h) I.2.1 bc ba) ?_;rintro _ w4 ⟨rfl,g4⟩;refine⟨g4.mono fun _ _ h=>h.elim,?_⟩;have b0:=gd.trans g4;have b1:=B.trans b0;have b2:=o.mod b0 fun _ _ h=>h;have J:=b2.core.inv;obtain⟨f,a8,b3⟩:=b2.m;obtain⟨w5,b4,ak,V⟩:=PV (P:=prog) (ty:=0) (t:=143) (kt:=9) underlying143 underlying9 (QS (EK p.set)) a8.map;refine Ai b4 ⟨V.mono fun x _ e=>⟨rfl,e⟩,?_⟩;have O:=a8.UN V ak;refine AH ?_;refine Bm (O.cells 1 _ rfl) ?_;rw[Av,wrap64 (by omega) (by omega),show((i:Int)+1-1)=(i:Int) by omega];refine⟨#[.slice none 0 0,.int .i64 0],by kernel_rfl,?_⟩;have Q:=O.FT;rw[E] at Q ⊢;obtain⟨q,r,rfl,hq,_,_,_⟩:=Q.sl.get hi;refine AY hi ?_;have al:pl.ownBlock=some q.block:=by rw[E];exact hq.2
    have bd:∀x,x<w5.heap.size->C x->¬x=q.block:=fun x _ hx e=>(O.pF _ al).2.1 (e▸hx);refine Vn Q hi bd fun w6 bk an=>?_;have S:=O.IE al an (by rw[E];exact bk);refine AH ?_;refine Bm (S.cells 2 _ rfl) ?_;have c8:=Tab.Nj J;rw[Av,wrap64 (by omega) (by omega),show((i:Int)+1-1)=(i:Int) by omega];refine DQ N7 S.JK (Nat.zero_le _) (cs:=[.int .i64 i]) (x:=(i:Int)) (by kernel_rfl) rfl rfl (fun _ _ _=>LB.one) (fun _ _ _ _ _ _ h=>h) (by rw[List.length_map];omega) (by rw[List.length_map];simp only[maxLen];omega) fun bl w7 T av bp=>?_;refine AH ?_;rw[AG,AI];have ax:(t.free.map fun i:Nat=>(i:Int))++[(i:Int)]=(t.free++[i]).map fun i:Nat=>(i:Int):=by simp
    rw [ax] at T;have s7:=av.size;have b6:=AF.BI T;refine Di.Y0 (F':=fun x=>F x\/w6.heap.size<=x/\x < w7.heap.size) S av (fun _ h=>h) (fun _ h=>.inl h) (fun _ h=>h.imp id And.left) T (fun g hg=>by
     rcases bp g hg with e|e
     .exact .inl e
     .exact .inr ⟨e,.inr ⟨e,(b6 g hg).2⟩⟩) T.one.1 T.one.2 fun w8 bs b7=>⟨rfl,?_⟩
    dsimp only;rw[if_neg hz,if_pos a7,Int.toNat_natCast];have z4:=b1.size;have z5:=V.size;have z6:=an.size;have z8:=b7.size;refine⟨_,fun x hx=>?_,⟨C,pl,bl,bm,Di.r (t:=t.drop [] i) bs (b3.drop J hp U) (Tab.T0 J hp U [])⟩,?_⟩
    .rcases hx with hx|hx
     .exact .inl hx
     .exact .inr ⟨by omega,by omega⟩
    .refine(((((b1.mono fun _ _ h=>h.elim).trans (V.mono fun x _ e=>by rw[e];exact a8.fm.1)).trans (an.mono fun x _ e=>by rw[e];exact(O.pF _ al).1)).trans (av.mono fun x _ e=>(S.fF x e).1)).trans (b7.mono fun x _ e=>by rw[e];exact S.fb.1))
   .refine AH ?_;refine Bm (o.cells 1 _ rfl) ?_;have b8:=o.core.FT.sl;rw[E] at b8;rw[Av,wrap64 (by omega) (by omega),show((i:Int)+1-1)=(i:Int) by omega,E];obtain⟨q,r,rfl,_,hr,hc,bx⟩:=b8.get hi;obtain⟨s2,rfl,c9⟩:=bx;refine AY hi ?_;rw[AG,Addr.add_add];refine AL (hc 1 _ rfl) ?_;rw[Av,wrap64 (by omega) (by omega)];refine AY hi ?_;rw[AG,Addr.add_add];have c4:p.held≠1:=fun e=>X (by rw[e];rfl);have en:((t.places[i].held:Int)-1)=((p.held-1:Nat):Int):=by rw[b9];omega
    rw[en];refine KQ o hp U (n:=p.held-1) (by omega) E fun W' a1 a6=>⟨rfl,?_⟩;dsimp only;rw[if_neg hz,if_neg c4,Int.toNat_natCast];exact .same ⟨C,pl,fr,bm,a1⟩ ((B.mono fun _ _ h=>h.elim).trans a6)
theorem Tg:DE prog 144 QN 2 32:=⟨Tryz.t181,.agg #[.slice none 0 0,.int .i64 0],by kernel_rfl,by kernel_rfl,by kernel_rfl,by kernel_rfl,by kernel_rfl,by rfl,by decide⟩
section
variable {F C M:Nat->Prop}{W W':World}{b:Nat}{ks:SKs}{t:Tab (List Attr)}{places:List (Ent (List Attr))}{free:List Nat}{em:Nat}{f:Value->Option Value}{pl fr:Value}{bm:Nat}
theorem Di.cR{F':Nat->Prop}{B:Value}{o:List (Ent (List Attr))}{K:World->Prop}(h:Di F C W b ks places free em f pl fr bm)(hm:Mod (fun x=>pl.ownBlock=some x) W W')(J:∀x,F x->F' x)(Q:∀x,F' x->F x\/W.heap.size<=x)
 (Y:AF 0 QN 2 (Fw C) W' B o)(S:∀g,B.ownBlock=some g->pl.ownBlock=some g\/W.heap.size<=g/\F' g)(O:B.oneCell'=true)(T:B.cells=#[B])
 (Z:∀I,Di F' C I b ks o free em f B fr bm->Mod (fun x=>x=b) W' I->K I):BB (.pointer (some ⟨b,1,none⟩)) B K W':=by
 have hb:∀ x,pl.ownBlock=some x->F x/\¬ C x/\x≠b/\x≠bm:=fun x i=>h.pF x i;have hC:∀ x,x < W.heap.size->C x->¬ pl.ownBlock=some x:=fun x _ i e=>(hb x e).2.1 i;refine E9 (vs:=Sm ks.sv pl fr bm em) (fun j v hv=>hm.cell (h.cells j v hv) fun e=>(hb b e).2.2.1 rfl) (fun j U=>(h.live j U).mod hm fun e=>(hb b e).2.2.1 rfl) (q:=1) (show 1 < 5 by decide) O T fun I y hc hl=>?_;have a1:b < W.heap.size:=World.block_lt_of_cell? W _ (h.cells 4 _ rfl);have V:∀ x,x < W'.heap.size->C x->¬ x=b:=fun x _ i e=>h.fb.2 (e ▸ i);have X:=AF.BI h.JK;have a6:=h.map.lt;refine Z I ⟨hc,fun j U=>hl j U,(h.IY.mod hm fun x _ i e=>(h.sf x i).1 (hb x e).1).mod y (fun x _ i e=>(h.sf x i).1 (e ▸ h.fb.1)),AF.mod Y y (fun g E e=>?_) fun r x _ i=>i.mod y V,AF.mod (AF.mod (R':=LB) h.JK hm (fun g E e=>(h.fF g E).2.2.2.2 e) fun _ _ _ h=>h) y (fun g E=>(h.fF g E).2.2.1) fun _ _ _ h=>h,
  (h.map.mod hm fun e=>(hb bm e).2.2.2 rfl).mod y h.fm.2.2,⟨J _ h.fb.1,h.fb.2⟩,⟨J _ h.fm.1,h.fm.2⟩,fun g E=>?_,fun g E=>⟨J _ (h.fF g E).1,(h.fF g E).2.1,(h.fF g E).2.2.1,(h.fF g E).2.2.2.1,fun e=>?_⟩,fun x i=>⟨J _ (h.cf x i).1,Nat.lt_of_lt_of_le (h.cf x i).2 (Nat.le_trans hm.size y.size)⟩,fun x i=>⟨fun e=>(Q x e).elim (h.sf x i).1 fun e=>by have:=(h.sf x i).2;omega,Nat.lt_of_lt_of_le (h.sf x i).2 (Nat.le_trans hm.size y.size)⟩⟩ y
 .subst e;rcases S g E with e|⟨e,_⟩
  .exact(h.pF g e).2.2.1 rfl
  .omega
 .rcases S g E with e|⟨e,e'⟩
  .have:=h.pF g e;exact⟨J _ this.1,this.2⟩
  .exact⟨e',fun hc=>by have:=(h.cf g hc).2;omega,fun e2=>by omega,fun e2=>by omega⟩
 .rcases S g e with e|⟨e,_⟩
  .exact(h.fF g E).2.2.2.2 e
  .have:=(X g E).2;omega
theorem Di.We{K:World->Prop}{a:Addr}{c i n:Nat}{p:Ent (List Attr)}(h:Di F C W b ks places free em f pl fr bm)(hp:places[i]?=some p)(o:pl=.slice (some a) places.length c)
 (Q:∀W',Di F C W' b ks (places.set i ⟨p.set,n⟩) free em f pl fr bm->Mod F W W'->K W'):BB (.pointer (some (a.add (i*2+1)))) (.int .i64 n) K W:=by
 have S:=(List.getElem?_eq_some_iff.1 hp).1;have J:=(List.getElem?_eq_some_iff.1 hp).2;have B:=h.FT;rw[o] at B;have E:pl.ownBlock=some a.block:=by rw[o];rfl
 obtain ⟨T,U,Z,f4⟩:=h.pF _ E;have I:Mod (fun x=>x=a.block) W (W.setCell (a.add (i * 2+1)) (.int .i64 n)):=Mod.setCell _ _ _ (by rw [BO]);have hC:∀ x,x < W.heap.size->C x->¬ x=a.block:=fun x _ V e=>U (e ▸ V);obtain ⟨⟨u,hu⟩,X,Y,hm⟩:=AF.store (R':=Fw C) (u:=.int .i64 n) (x':=⟨p.set,n⟩) (j:=1) B S (by decide) rfl (fun r y _ hr=>hr.mod I hC) (fun r hr=>by
  obtain ⟨s,rfl,O⟩:=hr;refine ⟨s,rfl,?_⟩;rw [J] at O;exact O.mod I hC (by decide) fun _ _ h=>h)
 exact Je rfl rfl hu X (Q _ (h.IE E hm (by rw[o];exact Y)) (hm.mono fun x _ e=>by rw[e];exact T))
theorem Di.ae{K:World->Prop}{a:Addr}{c i B:Nat}{p:Ent (List Attr)}{E:Value}{s:List Attr}(h:Di F C W b ks places free em f pl fr bm)(hp:places[i]?=some p)(O:pl=.slice (some a) places.length c)(Z:∀x,F x\/ks.S x->x<B)(U:GR B W E s)
 (hK:∀W',Di (fun x=>F x\/E.ownBlock=some x) (fun x=>C x\/E.ownBlock=some x) W' b ks (places.set i ⟨s,p.held⟩) free em f pl fr bm->Mod (fun x=>x=a.block) W W'->K W'):BB (.pointer (some (a.add (i*2+0)))) E K W:=by
 have hi:=(List.getElem?_eq_some_iff.1 hp).1;have Y:=(List.getElem?_eq_some_iff.1 hp).2;have Q:pl.ownBlock=some a.block:=by rw[O];rfl
 obtain⟨f1,f2,f3,f4⟩:=h.pF _ Q;have I:=AF.BI U;have nF:∀x,E.ownBlock=some x->¬F x:=fun x o hF=>by have:=(I x o).1;have:=Z x (.inl hF);omega
 have T:Di (fun x=>F x\/E.ownBlock=some x) (fun x=>C x\/E.ownBlock=some x) W b ks places free em f pl fr bm:=
  ⟨h.cells,h.live,h.IY,AF.mod h.FT (Mod.refl (fun _=>False) _) (fun _ _ h=>h) fun r x _ o=>o.sub fun _ _ h=>.inl h,h.JK,h.map,⟨.inl h.fb.1,fun e=>e.elim h.fb.2 fun e=>nF _ e h.fb.1⟩,⟨.inl h.fm.1,fun e=>e.elim h.fm.2.1 fun e=>nF _ e h.fm.1,h.fm.2.2⟩,
   fun g J=>⟨.inl (h.pF g J).1,fun e=>e.elim (h.pF g J).2.1 fun e=>nF _ e (h.pF g J).1,(h.pF g J).2.2⟩,fun g J=>⟨.inl (h.fF g J).1,fun e=>e.elim (h.fF g J).2.1 fun e=>nF _ e (h.fF g J).1,(h.fF g J).2.2⟩,fun x o=>o.elim (fun o=>⟨.inl (h.cf x o).1,(h.cf x o).2⟩) fun o=>⟨.inr o,(I x o).2⟩,fun x o=>⟨fun e=>e.elim (h.sf x o).1 fun e=>by have:=(I x e).1;have:=Z x (.inr o);omega,(h.sf x o).2⟩⟩
 have V:=T.FT;rw [O] at V;have X:Mod (fun x=>x=a.block) W (W.setCell (a.add (i * 2+0)) E):=Mod.setCell _ _ _ (by rw [BO]);have hC:∀ x,x < W.heap.size->(C x\/E.ownBlock=some x)->¬ x=a.block:=fun x _ o e=>(T.pF _ Q).2.1 (e ▸ o);obtain ⟨⟨u,hu⟩,hf,ho,hm⟩:=AF.store (R':=Fw (fun x=>C x\/E.ownBlock=some x)) (u:=E) (x':=⟨s,p.held⟩) (j:=0) V hi (by decide) U.one.1 (fun r y _ hr=>hr.mod X hC) (fun r hr=>by
  obtain ⟨s',rfl,_⟩:=hr;refine ⟨E,by rw [Y];rfl,?_⟩;exact (AF.sl U).mod X (fun x _ o e=>hC x (I x o.2).2 (.inr o.2) e) (by decide) (fun _ _ h=>h) |>.sub (fun x _ o=>.inr o.2) (by decide) fun _ _ h=>h)
 exact Je U.one.1 U.one.2 hu hf (hK _ (T.IE Q hm (by rw[O];exact ho)) hm)
end
theorem SK{F C:Nat->Prop}{W:World}{b:Nat}{ks:SKs}{t:Tab (List Attr)}{f:Value->Option Value}{pl fr:Value}{bm:Nat}(h:Di F C W b ks t.places t.free t.empty f pl fr bm)(hi:t.Inv (FY ks.ks))(hs:t.Small 1099511627) :
  AB prog 144 [.pointer (some ⟨b,0,none⟩)] (fun v' w'=>∃ (i:Nat) (F':Nat->Prop) (o:List (Ent (List Attr))) (free':List Nat) (J a1:Value),v'=.int .i64 ((i:Int)+1)/\Di F' C w' b ks o free' t.empty f J a1 bm/\Mod F W w'/\
   (∀ x,F' x->F x\/W.heap.size<=x/\x < w'.heap.size)/\((t.free.getLast?=some i/\o=t.places/\free'=t.free.dropLast)\/(t.free=[]/\i=t.places.length/\o=t.places++[⟨[],0⟩]/\free'=[]))) W:=by
 apply XT;have av:=Tab.Nj hi;have an:=hs.pl;refine AH ?_;refine Bm (h.cells 2 _ rfl) ?_;obtain⟨fa,fc,B,O,_,a6,a7⟩:=h.JK.shape;rw[List.length_map] at O;rw[B,AS,Av,List.length_map,wrap64 (by omega) (by omega),Dq];refine AE (fun ax=>?_) fun ay=>?_
 .have S:0<t.free.length:=by omega
  have Q:t.free≠[]:=List.length_pos_iff.1 S;obtain⟨i,hl⟩:∃i,t.free.getLast?=some i:=⟨_,List.getLast?_eq_some_getLast Q⟩;cases fa with
  |none=>have:=a7 rfl;rw[List.map_eq_nil_iff] at this;exact absurd this Q
  |some q=>
   obtain⟨g,rfl,_,_,b0⟩:=a6 q rfl;have T:=h.JK.sl;have E:=h.JK;rw[B,List.length_map] at T E;refine AH ?_;refine Bm (h.cells 2 _ rfl) ?_;rw[B,List.length_map];have hj:t.free.length-1<(t.free.map fun i:Nat=>(i:Int)).length:=by rw[List.length_map];omega
   obtain⟨_,r,e1,_,hr,hc,rfl⟩:=T.get hj;cases e1;have ev:(t.free.map fun i:Nat=>(i:Int))[t.free.length-1]=(i:Int):=by
    rw[List.getElem_map];rw[List.getLast?_eq_some_getLast Q,List.getLast_eq_getElem] at hl;rw[Option.some.inj hl]
   rw[ev] at hc;have en:((t.free.length:Int)-1)=((t.free.length-1:Nat):Int):=by omega
   rw[en];refine AY (show t.free.length-1<t.free.length by omega) (AL (hc 0 _ rfl) ?_);refine AH ?_;refine Bm (h.cells 2 _ rfl) ?_;rw[B,List.length_map];refine Ai (E2 (e:=3) (k:=1) (i:=Tryz.t3) (by kernel_rfl) (by kernel_rfl) (by kernel_rfl) (by omega) W) ?_;refine AH ?_;rw[AG,AI];have ht:=AF.take E (j:=t.free.length-1) (by rw[List.length_map];omega);have ed:(t.free.map fun i:Nat=>(i:Int)).take (t.free.length-1)=t.free.dropLast.map fun i:Nat=>(i:Int):=by rw[List.dropLast_eq_take,List.map_take]
   rw[ed] at ht;refine Di.Y0 (F':=F) (free':=t.free.dropLast) (Mf:=fun _=>False) h (Mod.refl _ _) (fun _ h=>h.elim) (fun _ h=>h) (fun _ h=>.inl h) ht (fun g' a8=>.inl ?_) rfl rfl fun w' ak al=>?_
   .rw[B];exact a8
   rw[AR];obtain⟨p,hp,_⟩:=(hi.Sy i).1 (List.mem_of_getLast? hl);have:=(List.getElem?_eq_some_iff.1 hp).1;rw[wrap64 (by omega) (by omega)];exact⟨i,F,t.places,t.free.dropLast,pl,_,rfl,ak,al.mono fun x _ e=>by rw[e];exact h.fb.1,fun x I=>.inl I,.inl ⟨hl,rfl,rfl⟩⟩
 .have U:t.free=[]:=List.eq_nil_of_length_eq_zero (by omega);refine AH ?_;refine Bm (h.cells 1 _ rfl) ?_;refine⟨#[.slice none 0 0,.int .i64 0],by kernel_rfl,?_⟩;refine DQ Tg h.FT (Nat.zero_le _) (cs:=[.slice none 0 0,.int .i64 0]) (x:=⟨[],0⟩) (by kernel_rfl) rfl ⟨_,rfl,BH.nil⟩ (fun _ _ _=>Fw.one) (fun w1 w2 r y b1 hm hr=>hr.mod hm fun x I hC e=>?_) (by omega) (by simp only[maxLen];omega) fun J w1 V hm hn=>?_
  .rcases e with e|e
   .exact(h.pF x e).2.1 hC
   .have:=(h.cf x hC).2;omega
  refine AH ?_;rw [AG,AI];have X:=AF.BI V;refine Di.cR (F':=fun x=>F x\/W.heap.size<=x/\x < w1.heap.size) h hm (fun _ h=>.inl h) (fun _ h=>h.imp id And.left) V (fun g hg=>by
   rcases hn g hg with e|e
   .exact .inl e
   .exact .inr ⟨e,.inr ⟨e,(X g hg).2⟩⟩) V.one.1 V.one.2 fun w2 Y Z=>?_
  refine AH ?_;refine Bm (Y.cells 1 _ rfl) ?_;obtain⟨a2,c2,e2,_⟩:=V.sl.shape;have z2:=Z.size;rw[e2,AS];refine⟨t.places.length,_,_,t.free,J,fr,by simp,Y,(hm.mono fun x _ e=>(h.pF x e).1).trans (Z.mono fun x _ e=>by rw[e];exact h.fb.1),fun x I=>?_,.inr ⟨U,rfl,rfl,U⟩⟩;rcases I with I|I
  .exact .inl I
  .exact .inr ⟨I.1,by omega⟩
end Go.Proofs.YtmdhibffnkhcnaaGreatDoor
namespace Go.K
open Go
def Tab.Jw{α:Type}(t:Tab α)(z s:α)(id:Int)(t':Tab α):Prop:=
 (s=z/\id=0/\t'={ t with empty:=t.empty+1 })\/(s≠z/\∃i n:Nat,t.places[i]?=some ⟨s,n⟩/\0<n/\id=(i:Int)+1/\t'=t.HR i ⟨s,n+1⟩)\/
  (s≠z/\(∀(i:Nat) (p:Ent α),t.places[i]?=some p->0<p.held->p.set≠s)/\id=((t.put s).1:Int)+1/\t'=(t.put s).2)
end Go.K
namespace Go.Proofs.YtmdhibffnkhcnaaGreatDoor
open Go Go.K Proofs.Tryz
theorem Qq{F S:Nat->Prop}{W:World}{b:Nat}{ks:SKs}{t:Tab (List Attr)}{v:Value}{l:List Attr}(h:Ec F W b ks t)(hs:t.Small 1099511627)(hv:Cc S W v l)(hT:El W)(hI:∀a∈l,Le a)(hF:∀x,F x->2+1<=x/\x<W.heap.size)(e4:∀x,S x->¬F x) :
  AB prog 74 [.pointer (some ⟨b,0,none⟩),v] (fun v' w'=>(Bb ks.ks l≠0/\v'=.tuple #[.int .i64 0,.int .i64 (Bb ks.ks l)]/\Grow W w')\/
   (Bb ks.ks l=0/\∃ id t',v'=.tuple #[.int .i64 id,.int .i64 0]/\t.Jw [] l id t'/\Ig F W w' b ks t')) W:=by
 apply Z6;have c8:=hs.pl;have e5:∀a∈l,0<=a.val.f:=fun a ha=>(hI a ha).2.2.2.1.1;refine AA (LR h) ?_;rintro _ _ ⟨rfl,rfl⟩;rename World=>W
 obtain⟨C,pl,fr,bm,hR⟩:=h;rw[Ap];refine AT (AH ?_);refine Bm (hR.cells 0 _ rfl) ?_;refine AA (RN hR.core.IY hv hT e5) ?_;rintro _ w3 ⟨rfl,g3⟩;rw[Bh];refine AZ (fun a6=>?_) fun a6=>?_;rotate_left
 .exact .inl ⟨a6,rfl,g3⟩
 have b6:=hR.mod g3 fun _ _ h=>h;have e6:=hv.grow g3 (by decide) fun _ _ h=>h;obtain⟨va,vc,rfl,_⟩:=hv.shape;rw[AS,Am];refine AE (fun hz=>?_) fun hz=>?_
 .have hl:l=[]:=List.eq_nil_of_length_eq_zero (by omega);refine AH ?_;refine Bm (b6.cells 4 _ rfl) ?_;have:=hs.em;rw[AR,wrap64 (by omega) (by omega)];refine AH ?_;rw[AG,AI];have en:((t.empty:Int)+1)=((t.empty+1:Nat):Int):=by omega
  rw[en];refine HT b6 fun W' e7 b0=>.inr ⟨a6,0,_,rfl,.inl ⟨hl,rfl,rfl⟩,?_⟩;exact .same ⟨C,pl,fr,bm,e7⟩ ((g3.mono fun _ _ h=>h.elim).trans b0)
 have hl:l≠[]:=fun e=>hz (by rw [e];rfl);have T:FY ks.ks l:=⟨hl,hI,a6⟩;obtain ⟨e8,e9⟩:=KV T;refine AA (OO e6 hI e9 e8) ?_;rintro _ w6 ⟨rfl,g6⟩;have b1:=g3.trans g6;have c9:=b6.mod g6 fun _ _ h=>h;have J:=c9.core.inv;obtain ⟨f,Z,X⟩:=c9.m;refine AH ?_;refine Bm (Z.cells 3 _ rfl) ?_;refine Ai (PA (P:=prog) (t:=143) (kt:=9) (et:=3) (z:=.int .i64 0) underlying143 underlying9 (QS (EK l)) (Dp (by kernel_rfl) w6) Z.map) ?_;refine BQ ?_;refine AU (fun vs w9=>∃ (i n:Nat) (F9 C9:Nat->Prop) (o:List (Ent (List Attr))) (I:List Nat) (f9:Value->Option Value) (b7 b8:Value),vs=[.int .i64 ((i:Int)+1)]/\Di F9 C9 w9 b ks o I t.empty f9 b7 b8 bm/\o[i]?=some ⟨l,n⟩/\n<=1099511627776/\i<=1099511627776/\
   Mod F W w9/\(∀ x,F9 x->F x\/W.heap.size<=x/\x < w9.heap.size)/\t.Jw [] l ((i:Int)+1) ⟨o.set i ⟨l,n+1⟩,I,t.empty⟩/\EA ⟨o.set i ⟨l,n+1⟩,I,t.empty⟩ f9/\(⟨o.set i ⟨l,n+1⟩,I,t.empty⟩:Tab (List Attr)).Inv (FY ks.ks)) ?_ ?_
 .rintro vs w9 ⟨i,n,F9,C9,o,I,f9,b7,b8,rfl,b2,b9,ep,er,ba,ca,cc,bc,bd⟩ _;rw[CR,List.headD_cons];have hi:=(List.getElem?_eq_some_iff.1 b9).1;have bk:=(List.getElem?_eq_some_iff.1 b9).2;refine AH ?_;refine Bm (b2.cells 1 _ rfl) ?_;obtain⟨pa,pc,U,_⟩:=b2.FT.sl.shape;have cd:=b2.FT.sl;rw[U] at cd;rw[Av,wrap64 (by omega) (by omega),show((i:Int)+1-1)=(i:Int) by omega,U];obtain⟨q,r,rfl,_,hr,hc,ea⟩:=cd.get hi;obtain⟨si,rfl,eu⟩:=ea;refine AY hi ?_;rw[AG,Addr.add_add];refine AL (hc 1 _ rfl) ?_;have eh:o[i].held=n:=by rw[bk]
  rw[AR,wrap64 (by omega) (by omega)];refine AY hi ?_;rw[AG,Addr.add_add];have en:((o[i].held:Int)+1)=((n+1:Nat):Int):=by omega
  rw[en];refine b2.We b9 U fun W' ec b0=>.inr ⟨a6,_,_,rfl,cc,?_⟩;have s':=b0.size;refine⟨F9,fun x O=>?_,⟨C9,b7,b8,bm,ec.r bc bd⟩,ba.next b0 fun x O e=>?_⟩
  .rcases ca x O with h|h
   .exact .inl h
   .exact .inr ⟨h.1,by omega⟩
  .rcases ca x e with h|h
   .exact h
   .omega
 .rw[Ap];cases hf:f (.string (EK l)) with
  |some v=>
   obtain⟨i,n,hp,hn,rfl⟩:=X.some J hI hf;have hi:=(List.getElem?_eq_some_iff.1 hp).1;have ch:=hs.he t.places[i] (List.getElem_mem hi);have bk:=(List.getElem?_eq_some_iff.1 hp).2;rw[bk] at ch;refine AT ?_;exact⟨i,n,F,C,t.places,t.free,f,pl,fr,rfl,Z,hp,Nat.le_trans ch (by decide),by omega,b1.mono fun _ _ h=>h.elim,fun x O=>.inl O,.inr (.inl ⟨hl,i,n,hp,hn,rfl,rfl⟩),X.HR hp hn (by omega),J.HR hp hn (by omega)⟩
  |none=>
   refine Ao ?_;have a7:=X.none hf;refine AA (SK Z J hs) ?_;rintro _ a8 ⟨i,F7,E,ak,bl,ed,rfl,a1,bp,bs,al⟩;have ew:=Z.cf;have eA:=b1.size;have z7:=bp.size;have bx:∀x,F7 x->x<a8.heap.size:=fun x O=>by
    rcases bs x O with h|h
    .have:=(hF x h).2;omega
    .exact h.2
   obtain⟨p,cn,c4,Q⟩:∃p,E[i]?=some p/\p.held=0/\((t.put l).1=i/\(t.put l).2=⟨E.set i ⟨l,1⟩,ak,t.empty⟩):=by
    unfold Tab.put;rcases al with⟨h1,rfl,rfl⟩|⟨h1,rfl,rfl,rfl⟩
    .rw[h1];obtain⟨p,hp,ee⟩:=(J.Sy i).1 (List.mem_of_getLast? h1);exact⟨p,hp,ee,rfl,rfl⟩
    .rw[h1];refine⟨⟨[],0⟩,by simp,rfl,rfl,?_⟩;simp
   have c6:=(List.getElem?_eq_some_iff.1 cn).1;have eB:i<=1099511627:=by
    rcases al with⟨h1,rfl,_⟩|⟨_,rfl,_⟩
    .omega
    .exact c8
   refine Ag (fun k y=>k=10/\bl.ownBlock=some y) ?_;have gd:Grow a8 a8.drew:=Mod.drew _ _;refine AH ?_;rw [AG,AI];refine Aa ⟨gd.cell (a1.cells 1 _ rfl) fun h=>h,fun j hj e=>by obtain ⟨rfl,_⟩:=e;exact absurd hj (by decide)⟩ ?_;obtain ⟨pa,pc,U,_⟩:=a1.FT.sl.shape;have b4:=a1.FT.sl;rw [Av,wrap64 (by omega) (by omega),show ((i:Int)+1 - 1)=(i:Int) by omega];have cx:Cc S a8 (.slice va l.length vc) l:=(hv.grow b1 (by decide) fun _ _ h=>h).mod bp (fun x _ O hf=>e4 x O hf) (by decide) fun _ _ h=>h;refine AA (G9 (cx.grow gd (by decide) fun _ _ h=>h) (by omega)) ?_;rintro cv eC ⟨dk,c7⟩;refine ⟨c7.mono fun _ _ h=>h.elim,?_⟩;have b5:=gd.trans c7;have dT:=a1.mod b5 fun _ _ h=>h;rw [U] at b4 ⊢;obtain ⟨q,r,rfl,hq,_,_,_⟩:=b4.get c6;refine AY c6 ?_;rw [AG,Addr.add_add];have zd:=gd.size;have eI:=c7.size;have ef:=AF.BI dk;refine dT.ae (B:=a8.drew.heap.size) cn U (fun x O=>by
    rcases O with O|O
    .have:=bx x O;omega
    .have:=(a1.sf x O).2;omega) dk fun eL an av=>?_
   have ej:bl.ownBlock=some q.block:=by rw[U];exact hq.2
   refine⟨av.mono fun x _ e=>⟨rfl,by rw[e];exact hq.2⟩,?_⟩;refine AH ?_;refine Bm (an.cells 3 _ rfl) ?_;obtain⟨ek,e1,b3,ax⟩:=OW (P:=prog) (t:=143) (kt:=9) (v:=.int .i64 ((i:Int)+1)) underlying143 underlying9 (QS (EK l)) an.map hf;refine Ai (v:=undef) (w':=ek) (by simp only[Sem.run_bind,e1,Result.andThen];rfl) ?_;have e2:=an.UN ax b3;obtain⟨Y,e3,_,_,_⟩:=Tab.FM J T a7;have V:=X.put J T hf;rw[Q.2] at Y V;rw[Q.1] at V;have ay:(E.set i ⟨l,p.held⟩).set i ⟨l,p.held+1⟩=E.set i ⟨l,1⟩:=by rw[List.set_set,c4]
   refine⟨i,p.held,_,_,_,ak,_,bl,ed,rfl,e2,by rw[List.getElem?_set_self c6],by omega,by omega,?_,?_,?_,?_,?_⟩
   .refine((((b1.mono fun _ _ h=>h.elim).trans bp).trans (b5.mono fun _ _ h=>h.elim)).next av fun x O e=>?_).next ax fun x O e=>?_
    .have:=(a1.pF _ ej).1;rw[<-e] at this;rcases bs x this with h|h
     .exact h
     .omega
    .have:=Z.fm.1;rw[<-e] at this;exact this
   .have eN:=av.size;have eR:=ax.size;rintro x (O|O)
    .rcases bs x O with h|h
     .exact .inl h
     .exact .inr ⟨by omega,by omega⟩
    .have:=ef x O;exact .inr ⟨by omega,by omega⟩
   .rw[ay];exact .inr (.inr ⟨hl,a7,by rw[Q.1],Q.2.symm⟩)
   .rw[ay];exact V
   .rw[ay];exact Y
end Go.Proofs.YtmdhibffnkhcnaaGreatDoor
namespace Go.K
open Go
theorem Tab.Small.le{α:Type}{t:Tab α}{N N':Nat}(h:t.Small N)(i:N<=N'):t.Small N':=⟨Nat.le_trans h.pl i,Nat.le_trans h.em i,fun p hp=>Nat.le_trans (h.he p hp) i⟩
def Tab.Has{α:Type}(t:Tab α)(z s:α)(id:Int)(n:Nat):Prop:=t.ask z id=some ⟨s,n⟩/\0<n/\(id=0↔s=z)
theorem Tab.Has.zero{α:Type}{t:Tab α}{z s:α}{n:Nat}(h:t.Has z s 0 n):s=z/\t.empty=n:=by
 have h1:=h.1;unfold Tab.ask at h1;rw[if_pos rfl] at h1;cases h1;exact⟨rfl,rfl⟩
theorem Tab.Has.pos{α:Type}{t:Tab α}{z s:α}{id:Int}{n:Nat}(h:t.Has z s id n)(h0:id≠0):∃i:Nat,id=(i:Int)+1/\t.places[i]?=some ⟨s,n⟩:=by
 obtain⟨i,e,hp,_⟩:=Tab.Iy h.1 h0;exact⟨i,e,hp⟩
theorem Tab.Has.TP{α:Type}{t:Tab α}{z:α}(h:0<t.empty):t.Has z z 0 t.empty:=⟨by unfold Tab.ask;rw[if_pos rfl],h,by simp⟩
theorem Tab.Has.TD{α:Type}{t:Tab α}{z s:α}{i n:Nat}(o:s≠z)(hp:t.places[i]?=some ⟨s,n⟩)(j:0<n):t.Has z s ((i:Int)+1) n:=⟨Tab.Tv hp j,j,⟨fun h=>by omega,fun h=>absurd h o⟩⟩
theorem Tab.Jw.keeps{α:Type}[DecidableEq α]{t t':Tab α}{z x s:α}{k id:Int}{n:Nat}{G:α->Prop}(h:t.Jw z x k t')(O:t.Inv G)(S:x≠z->G x)(B:t.Has z s id n):t'.Has z s id (if x=s then n+1 else n)/\(x=s↔k=id):=by
 by_cases h0:id=0
 .subst h0;obtain⟨rfl,rfl⟩:=B.zero;rcases h with⟨rfl,rfl,rfl⟩|⟨I,i,n,hp,X,rfl,rfl⟩|⟨I,J,rfl,rfl⟩
  .rw[if_pos rfl];exact⟨Tab.Has.TP (t:={ t with empty:=t.empty+1 }) (Nat.succ_pos _),by simp⟩
  .rw[if_neg I];exact⟨Tab.Has.TP (t:=t.HR i _) B.2.1,⟨fun e=>absurd e I,fun e=>by omega⟩⟩
  .rw[if_neg I];obtain⟨_,_,_,_,T⟩:=Tab.FM O (S I) J;refine⟨?_,⟨fun e=>absurd e I,fun e=>by omega⟩⟩;have:=Tab.Has.TP (t:=(t.put x).2) (z:=s) (by rw[T];exact B.2.1);rwa [T] at this
 .obtain⟨j,rfl,hp⟩:=B.pos h0;have y:s≠z:=fun e=>h0 (B.2.2.2 e);have Q:=(List.getElem?_eq_some_iff.1 hp).1;rcases h with⟨rfl,rfl,rfl⟩|⟨I,i,m,E,hm,rfl,rfl⟩|⟨I,J,rfl,rfl⟩
  .rw[if_neg (Ne.symm y)];exact⟨Tab.Has.TD (t:={ t with empty:=t.empty+1 }) y hp B.2.1,⟨fun e=>absurd e.symm y,fun e=>by omega⟩⟩
  .by_cases e:x=s
   .subst e;have o:=O.G7 i j _ _ E hp hm B.2.1 rfl;subst o;rw[hp] at E;cases E;rw[if_pos rfl];exact⟨Tab.Has.TD y (by show(t.places.set i _)[i]?=_;rw[List.getElem?_set_self Q]) (Nat.succ_pos _),by simp⟩
   .rw[if_neg e];have o:i≠j:=fun o=>by subst o;rw[hp] at E;cases E;exact e rfl
    exact⟨Tab.Has.TD y (by show(t.places.set i _)[j]?=_;rw[List.getElem?_set_ne o];exact hp) B.2.1,⟨fun h=>absurd h e,fun h=>absurd (by omega) o⟩⟩
  .have e:x≠s:=fun e=>J j _ hp B.2.1 e.symm;rw[if_neg e];obtain⟨_,_,U,V,_⟩:=Tab.FM O (S I) J;have o:j≠(t.put x).1:=fun o=>by
    have:=U ⟨s,n⟩ (o▸hp);have:=B.2.1;simp only at *;omega
   exact⟨Tab.Has.TD y ((V j o).trans hp) B.2.1,⟨fun h=>absurd h e,fun h=>absurd (by omega) o⟩⟩
theorem Tab.Has.release{α:Type}{t:Tab α}{z s:α}{k id:Int}{n:Nat}(o:t.Has z s id n)(hk:k≠id\/1<n):(t.release z k).Has z s id (if k=id then n-1 else n):=by
 by_cases e:k=id
 .subst e;have J:1<n:=hk.resolve_left fun h=>h rfl;rw[if_pos rfl];unfold Tab.release;rw[o.1];dsimp only;by_cases h0:k=0
  .subst h0;obtain⟨rfl,rfl⟩:=o.zero;rw[if_pos rfl];exact Tab.Has.TP (t:={ t with empty:=t.empty-1 }) (by show 0<t.empty-1;omega)
  .obtain⟨j,rfl,hp⟩:=o.pos h0;have E:=(List.getElem?_eq_some_iff.1 hp).1;rw[if_neg h0,if_neg (by omega),show((j:Int)+1-1).toNat=j by omega];exact Tab.Has.TD (fun e=>h0 (o.2.2.2 e)) (by show(t.places.set j _)[j]?=_;rw[List.getElem?_set_self E]) (by omega)
 .rw[if_neg e];unfold Tab.release;cases ha:t.ask z k with
  |none=>exact o
  |some p=>
   dsimp only;by_cases x:k=0
   .rw[if_pos x];have h0:id≠0:=fun h=>e (by rw[x,h]);obtain⟨j,rfl,hp⟩:=o.pos h0;exact Tab.Has.TD (t:={ t with empty:=t.empty-1 }) (fun e=>h0 (o.2.2.2 e)) hp o.2.1
   .rw[if_neg x];obtain⟨i,rfl,hp,I⟩:=Tab.Iy ha x;rw[show((i:Int)+1-1).toNat=i by omega];by_cases h0:id=0
    .subst h0;obtain⟨rfl,rfl⟩:=o.zero;split
     .exact Tab.Has.TP (t:=t.drop s i) o.2.1
     .exact Tab.Has.TP (t:=t.HR i _) o.2.1
    .obtain⟨j,rfl,y⟩:=o.pos h0;have B:i≠j:=fun h=>e (by rw[h]);split
     .exact Tab.Has.TD (fun e=>h0 (o.2.2.2 e)) (by show(t.places.set i _)[j]?=_;rw[List.getElem?_set_ne B];exact y) o.2.1
     .exact Tab.Has.TD (fun e=>h0 (o.2.2.2 e)) (by show(t.places.set i _)[j]?=_;rw[List.getElem?_set_ne B];exact y) o.2.1
def GW{α:Type}[DecidableEq α](r:List (α×Int))(x:α):Nat:=(r.filter fun p=>decide (p.1=x)).length
theorem PE{α:Type}[DecidableEq α](r:List (α×Int))(x y:α)(k:Int):GW (r++[(x,k)]) y=GW r y+if x=y then 1 else 0:=by
 unfold GW;rw[List.filter_append,List.length_append];by_cases h:x=y<;>simp[h]
theorem Eb{α:Type}[DecidableEq α](r:List (α×Int))(x y:α)(k:Int):GW ((x,k)::r) y=GW r y+if x=y then 1 else 0:=by
 unfold GW;by_cases h:x=y<;>simp[h]
theorem OR{α:Type}[DecidableEq α]{r:List (α×Int)}{p:α×Int}(h:p∈r):0<GW r p.1:=by
 unfold GW;exact List.length_pos_of_mem (List.mem_filter.2 ⟨h,by simp⟩)
theorem Kk{α:Type}[DecidableEq α]{r:List (α×Int)}{x:α}(h:0<GW r x):∃p∈r,p.1=x:=by
 unfold GW at h;obtain⟨p,hp⟩:=List.exists_mem_of_length_pos h;obtain⟨h1,i⟩:=List.mem_filter.1 hp;exact⟨p,h1,by simpa using i⟩
structure Tab.FZ {α:Type} [DecidableEq α] (t:Tab α) (z:α) (r:List (α×Int)):Prop where
 has:∀p∈r,t.Has z p.1 p.2 (GW r p.1)
 pl:∀(i:Nat) (q:Ent α),t.places[i]?=some q->0<q.held->∃p∈r,p.1=q.set
 em:t.empty=GW r z
theorem Tab.FZ.z{α:Type}[DecidableEq α](z:α):(Tab.z α).FZ z []:=⟨fun p hp=>(by cases hp),fun i q j=>(by simp[Tab.z] at j),rfl⟩
theorem Tab.Has.uniq{α:Type}{t:Tab α}{z x y:α}{k l:Int}{n m:Nat}{G:α->Prop}(E:t.Inv G)(h1:t.Has z x k n)(o:t.Has z y l m):k=l↔x=y:=by
 constructor
 .rintro rfl;have:=h1.1.symm.trans o.1;cases this;rfl
 .rintro rfl;by_cases h0:k=0
  .have:=h1.2.2.1 h0;rw[h0,o.2.2.2 this]
  .obtain⟨i,rfl,hp⟩:=h1.pos h0;have B:l≠0:=fun e=>h0 (h1.2.2.2 (o.2.2.1 e));obtain⟨j,rfl,I⟩:=o.pos B;rw[E.G7 i j _ _ hp I h1.2.1 o.2.1 rfl]
theorem Tab.FZ.added{α:Type}[DecidableEq α]{t t':Tab α}{z x:α}{k:Int}{r:List (α×Int)}{G:α->Prop}(h:t.FZ z r)(ha:t.Jw z x k t')(I:t.Inv G)(J:x≠z->G x):t'.FZ z (r++[(x,k)]):=by
 have O:t'.Has z x k (GW r x+1):=by
  by_cases S:∃p∈r,p.1=x
  .obtain⟨p,hp,rfl⟩:=S;obtain⟨h1,U⟩:=ha.keeps I J (h.has p hp);rw[if_pos rfl] at h1;rw[U.1 rfl];exact h1
  .have h0:GW r x=0:=by
    refine Nat.eq_zero_of_not_pos fun Q=>S (Kk Q)
   rcases ha with⟨rfl,rfl,rfl⟩|⟨o,i,n,hp,T,rfl,rfl⟩|⟨o,y,rfl,rfl⟩
   .rw[<-h.em];exact Tab.Has.TP (t:={ t with empty:=t.empty+1 }) (Nat.succ_pos _)
   .exact absurd (h.pl i _ hp T) S
   .rw[h0];obtain⟨_,h1,_⟩:=Tab.FM I (J o) y;exact Tab.Has.TD o h1 Nat.one_pos
 refine⟨fun p hp=>?_,fun i q E h0=>?_,?_⟩
 .rw[PE];rcases List.mem_append.1 hp with hp|hp
  .have:=(ha.keeps I J (h.has p hp)).1;by_cases e:x=p.1
   .rw[if_pos e] at this ⊢;exact this
   .rw[if_neg e] at this ⊢;exact this
  .rw[List.mem_singleton] at hp;subst hp;rw[if_pos rfl];exact O
 .rcases ha with⟨rfl,rfl,rfl⟩|⟨o,j,n,hp,T,rfl,rfl⟩|⟨o,y,rfl,rfl⟩
  .obtain⟨p,hp,e⟩:=h.pl i q E h0;exact⟨p,List.mem_append_left _ hp,e⟩
  .have B:(t.places.set j ⟨x,n+1⟩)[i]?=some q:=E;by_cases e:i=j
   .subst e;rw[List.getElem?_set_self (List.getElem?_eq_some_iff.1 hp).1] at B;cases B;exact⟨(x,(i:Int)+1),by simp,rfl⟩
   .rw[List.getElem?_set_ne (Ne.symm e)] at B;obtain⟨p,hp,e⟩:=h.pl i q B h0;exact⟨p,List.mem_append_left _ hp,e⟩
  .obtain⟨_,h1,_,V,_⟩:=Tab.FM I (J o) y;by_cases e:i=(t.put x).1
   .subst e;rw[h1] at E;cases E;exact⟨_,List.mem_append_right _ (List.mem_singleton.2 rfl),rfl⟩
   .rw[V i e] at E;obtain⟨p,hp,e⟩:=h.pl i q E h0;exact⟨p,List.mem_append_left _ hp,e⟩
 .rw[PE];rcases ha with⟨rfl,rfl,rfl⟩|⟨o,j,n,hp,T,rfl,rfl⟩|⟨o,y,rfl,rfl⟩
  .rw[if_pos rfl,<-h.em]
  .rw[if_neg o];exact h.em
  .rw[if_neg o];obtain⟨_,_,_,_,X⟩:=Tab.FM I (J o) y;rw[X];exact h.em
theorem Tab.FZ.cu{α:Type}[DecidableEq α]{t:Tab α}{z x:α}{k:Int}{r:List (α×Int)}{G:α->Prop}(h:t.FZ z ((x,k)::r))(V:t.Inv G)(X:∀s,G s->s≠z):(t.release z k).FZ z r:=by
 have I:=h.has (x,k) List.mem_cons_self;rw[Eb,if_pos rfl] at I;refine⟨fun p hp=>?_,fun i q E h0=>?_,?_⟩
 .have B:=h.has p (List.mem_cons_of_mem _ hp);rw[Eb] at B;have hu:=Tab.Has.uniq V I B;by_cases e:k=p.2
  .have ex:=hu.1 e;simp only at ex;rw[if_pos ex] at B;have:=B.release (k:=k) (.inr (by have:=OR hp;omega));rw[if_pos e,Nat.add_sub_cancel] at this;exact this
  .have ex:¬x=p.1:=fun h'=>e (hu.2 h');rw[if_neg ex,Nat.add_zero] at B;have:=B.release (k:=k) (.inl e);rw[if_neg e] at this;exact this
 .have Q:∃T,t.places[i]?=some T/\0<T.held/\T.set=q.set/\(q.set=x->0<GW r x):=by
   unfold Tab.release at E;rw[I.1] at E;dsimp only at E;by_cases y:k=0
   .rw[if_pos y] at E;refine⟨q,E,h0,rfl,fun e=>?_⟩;exact absurd (e.trans (I.2.2.1 y)) (X _ (V.ok i q E h0))
   .rw[if_neg y] at E;obtain⟨j,rfl,S⟩:=I.pos y;have U:=(List.getElem?_eq_some_iff.1 S).1;rw[show((j:Int)+1-1).toNat=j by omega] at E;by_cases J:i=j
    .subst J;split at E
     .have o:(t.places.set i ⟨z,0⟩)[i]?=some q:=E;rw[List.getElem?_set_self U] at o;cases o;exact absurd h0 (Nat.lt_irrefl _)
     .have o:(t.places.set i _)[i]?=some q:=E;rw[List.getElem?_set_self U] at o;cases o;exact⟨_,S,Nat.succ_pos _,rfl,fun _=>by simp only at h0;omega⟩
    .have o:t.places[i]?=some q:=by
      split at E
      .have o:(t.places.set j ⟨z,0⟩)[i]?=some q:=E;rwa [List.getElem?_set_ne (Ne.symm J)] at o
      .have o:(t.places.set j _)[i]?=some q:=E;rwa [List.getElem?_set_ne (Ne.symm J)] at o
     exact⟨q,o,h0,rfl,fun e=>absurd (V.G7 i j _ _ o S h0 I.2.1 e) J⟩
  obtain⟨T,o,Y,Z,a1⟩:=Q;obtain⟨p,hp,ep⟩:=h.pl i T o Y;rcases List.mem_cons.1 hp with rfl|hp
  .obtain⟨p',B,e'⟩:=Kk (a1 (by rw[<-Z,<-ep]));exact⟨p',B,by rw[e',<-Z,<-ep]⟩
  .exact⟨p,hp,by rw[ep,Z]⟩
 .have O:=h.em;rw[Eb] at O;unfold Tab.release;rw[I.1];dsimp only;by_cases y:k=0
  .rw[if_pos y];rw[if_pos (I.2.2.1 y)] at O;show t.empty-1=_;omega
  .rw[if_neg y];rw[if_neg (fun e=>y (I.2.2.2 e))] at O;split<;>exact O
end Go.K
namespace Go.K
open Go
section
variable {α:Type}[DecidableEq α]{t t':Tab α}{z s:α}{f:Int->α}{h:Int->Nat}{id:Int}{G:α->Prop}
theorem ML{r q:List (α×Int)}(hp:r.Perm q)(x:α):GW r x=GW q x:=(hp.filter _).length_eq
theorem Tab.FZ.perm{r q:List (α×Int)}(j:t.FZ z r)(hp:r.Perm q):t.FZ z q:=
 ⟨fun p o=>by rw[<-ML hp];exact j.has p (hp.mem_iff.2 o),fun i e h1 x=>by obtain⟨p,y,B⟩:=j.pl i e h1 x;exact⟨p,hp.mem_iff.1 y,B⟩,by rw[<-ML hp];exact j.em⟩
omit [DecidableEq α] in
theorem Tab.Ux{n:Nat}{x:α}{k:Int}(h:t.Has z x k n):(t.hold z k).Has z x k (n+1)/\(∀(i:Nat) (q:Ent α),(t.hold z k).places[i]?=some q->0<q.held->∃O:Ent α,t.places[i]?=some O/\0<O.held/\O.set=q.set)/\((t.hold z k).empty=if k=0 then t.empty+1 else t.empty)/\
  (∀{y l m},l≠k->t.Has z y l m->(t.hold z k).Has z y l m):=by
 unfold Tab.hold;rw[h.1];dsimp only;by_cases h0:k=0
 .subst h0;obtain⟨rfl,rfl⟩:=h.zero;rw[if_pos rfl,if_pos rfl];refine⟨Tab.Has.TP (t:={ t with empty:=t.empty+1 }) (Nat.succ_pos _),fun i q Q E=>⟨q,Q,E,rfl⟩,rfl,fun hl o=>?_⟩;obtain⟨j,rfl,hp⟩:=o.pos hl;exact Tab.Has.TD (t:={ t with empty:=t.empty+1 }) (fun e=>hl (o.2.2.2 e)) hp o.2.1
 .obtain⟨i,rfl,hp⟩:=h.pos h0;have J:=(List.getElem?_eq_some_iff.1 hp).1;rw[if_neg h0,if_neg h0,show((i:Int)+1-1).toNat=i by omega];refine⟨Tab.Has.TD (t:=t.HR i ⟨x,n+1⟩) (fun e=>h0 (h.2.2.2 e)) (by show(t.places.set i _)[i]?=_;rw[List.getElem?_set_self J]) (Nat.succ_pos _),fun j q Q E=>?_,rfl,fun{y l m} hl o=>?_⟩
  .have B:(t.places.set i ⟨x,n+1⟩)[j]?=some q:=Q;by_cases e:i=j
   .subst e;rw[List.getElem?_set_self J] at B;cases B;exact⟨_,hp,h.2.1,rfl⟩
   .rw[List.getElem?_set_ne e] at B;exact⟨q,B,E,rfl⟩
  .by_cases I:l=0
   .subst I;obtain⟨rfl,rfl⟩:=o.zero;exact Tab.Has.TP (t:=t.HR i ⟨x,n+1⟩) o.2.1
   .obtain⟨j,rfl,S⟩:=o.pos I;have T:i≠j:=fun e=>hl (by rw[e]);exact Tab.Has.TD (t:=t.HR i ⟨x,n+1⟩) (fun e=>I (o.2.2.2 e)) (by show(t.places.set i _)[j]?=_;rw[List.getElem?_set_ne T];exact S) o.2.1
theorem Tab.FZ.hold{r:List (α×Int)}(y:t.FZ z r)(S:t.Inv G){p:α×Int}(hp:p∈r):(t.hold z p.2).FZ z (p::r):=by
 obtain⟨x,k⟩:=p;have j:=y.has _ hp;obtain⟨I,J,a3,a4⟩:=Tab.Ux j;simp only at I J a3 a4 j ⊢;have O:=OR hp;refine⟨fun q o=>?_,fun i q o B=>?_,?_⟩
 .rw[Eb];have E:q∈r:=by
   rcases List.mem_cons.1 o with rfl|o
   .exact hp
   .exact o
  have Q:=y.has q E;have hu:=Tab.Has.uniq S j Q;by_cases e:k=q.2
  .have ex:=hu.1 e;rw[if_pos ex,<-ex,<-e];exact I
  .rw[if_neg fun T=>e (hu.2 T),Nat.add_zero];exact a4 (fun e'=>e e'.symm) Q
 .obtain⟨U,h1,V,X⟩:=J i q o B;obtain⟨Y,Z,h5⟩:=y.pl i U h1 V;exact⟨Y,List.mem_cons_of_mem _ Z,by rw[h5,X]⟩
 .rw[Eb,a3,y.em];by_cases h0:k=0
  .rw[if_pos h0,if_pos (j.2.2.1 h0)]
  .rw[if_neg h0,if_neg fun e=>h0 (j.2.2.2 e),Nat.add_zero]
theorem Tab.FZ.dO{r:List (α×Int)}(j:t.FZ z r):(t.hold z 0).FZ z ((z,0)::r):=by
 have e:t.hold z 0={ t with empty:=t.empty+1 }:=by unfold Tab.hold Tab.ask;simp
 rw[e];refine⟨fun q o=>?_,fun i q o y=>?_,?_⟩
 .rw[Eb];rcases List.mem_cons.1 o with rfl|o
  .rw[if_pos rfl,<-j.em];exact Tab.Has.TP (t:={ t with empty:=t.empty+1 }) (Nat.succ_pos _)
  .have x:=j.has q o;by_cases h0:q.2=0
   .have E:=x.2.2.1 h0;rw[h0,E,if_pos rfl,<-j.em];exact Tab.Has.TP (t:={ t with empty:=t.empty+1 }) (Nat.succ_pos _)
   .obtain⟨i,I,hp⟩:=x.pos h0;have B:q.1≠z:=fun e=>h0 (x.2.2.2 e);rw[if_neg (Ne.symm B),I];exact Tab.Has.TD (t:={ t with empty:=t.empty+1 }) B hp x.2.1
 .obtain⟨J,O,Q⟩:=j.pl i q o y;exact⟨J,List.mem_cons_of_mem _ O,Q⟩
 .show t.empty+1=_;rw[Eb,if_pos rfl,j.em]
def Tab.Holds(t:Tab α)(z:α)(f:Int->α)(h:Int->Nat):Prop:=f 0=z/\∃r:List (α×Int),t.FZ z r/\(∀p∈r,p.1=f p.2)/\∀id,r.countP (fun p=>decide (p.2=id))=h id
theorem Tab.Holds.mem(o:t.Holds z f h)(h0:0<h id):∃r:List (α×Int),t.FZ z r/\(∀p∈r,p.1=f p.2)/\(∀id,r.countP (fun p=>decide (p.2=id))=h id)/\(f id,id)∈r:=by
 obtain⟨_,r,h1,i,j⟩:=o;refine⟨r,h1,i,j,?_⟩;rw[<-j] at h0;obtain⟨p,hp,e⟩:=List.countP_pos_iff.1 h0;simp only[decide_eq_true_eq] at e;have:=i p hp;rw[<-e,<-this];exact hp
theorem Tab.Holds.has(i:t.Holds z f h)(h0:0<h id):∃n,t.Has z (f id) id n:=by
 obtain⟨r,h1,_,_,j⟩:=i.mem h0;exact⟨_,h1.has _ j⟩
theorem Tab.Holds.ask(i:t.Holds z f h)(h0:0<h id):∃n,t.ask z id=some ⟨f id,n⟩:=by
 obtain⟨n,h1⟩:=i.has h0;exact⟨n,h1.1⟩
theorem Tab.Holds.inj(i:t.Holds z f h)(j:t.Inv G){x y:Int}(o:0<h x)(B:0<h y):x=y↔f x=f y:=by
 obtain⟨n,h1⟩:=i.has o;obtain⟨m,E⟩:=i.has B;exact Tab.Has.uniq j h1 E
theorem Tab.Holds.new(z:α):(Tab.z α).Holds z (fun _=>z) fun _=>0:=⟨rfl,[],Tab.FZ.z z,fun p hp=>(nomatch hp),fun _=>rfl⟩
theorem Tab.Holds.congr{i:Int->Nat}(j:t.Holds z f h)(e:∀x,h x=i x):t.Holds z f i:=by
 obtain⟨h0,r,h1,o,y⟩:=j;exact⟨h0,r,h1,o,fun x=>(y x).trans (e x)⟩
theorem Tab.Holds.hold(o:t.Holds z f h)(E:t.Inv G)(h0:0<h id\/id=0):(t.hold z id).Holds z f fun x=>h x+if x=id then 1 else 0:=by
 have B:=o.1;obtain⟨r,i,j,y⟩:∃r:List (α×Int),(∀p∈r,p.1=f p.2)/\(∀id,r.countP (fun p=>decide (p.2=id))=h id)/\(t.hold z id).FZ z ((f id,id)::r):=by
  rcases h0 with h0|rfl
  .obtain⟨r,h1,i,j,y⟩:=o.mem h0;exact⟨r,i,j,h1.hold E y⟩
  .obtain⟨_,r,h1,i,j⟩:=o;exact⟨r,i,j,by rw[B];exact h1.dO⟩
 refine⟨B,(f id,id)::r,y,fun p hp=>?_,fun x=>?_⟩
 .rcases List.mem_cons.1 hp with rfl|hp
  .rfl
  .exact i p hp
 .rw[List.countP_cons,j];by_cases e:x=id
  .subst e;simp
  .simp[e,Ne.symm e]
theorem Tab.Holds.free(j:t.Holds z f h)(y:t.Inv G)(B:∀s,G s->s≠z)(h0:0<h id):(t.release z id).Holds z f fun x=>h x-if x=id then 1 else 0:=by
 obtain⟨r,h1,E,I,J⟩:=j.mem h0;have hp:r.Perm ((f id,id)::r.erase (f id,id)):=List.perm_cons_erase J;have O:=h1.perm hp;refine⟨j.1,r.erase (f id,id),O.cu y B,fun p i=>E p (List.mem_of_mem_erase i),fun x=>?_⟩;have o:=I x;rw[hp.countP_eq,List.countP_cons] at o;show _=h x-_;rw[<-o];by_cases e:x=id
 .subst e;simp
 .simp[e,Ne.symm e]
theorem Tab.Holds.added(I:t.Holds z f h)(J:t.Inv G)(ha:t.Jw z s id t')(O:s≠z->G s):∃j:Int->α,t'.Holds z j (fun x=>h x+if x=id then 1 else 0)/\j id=s/\(∀x,0<h x->j x=f x):=by
 obtain⟨o,r,h1,y,B⟩:=I;have i:=h1.added ha J O;have key:∀p∈r,p.2=id->p.1=s:=by
  intro p hp e;have a:=i.has p (List.mem_append_left _ hp);have b:=i.has (s,id) (List.mem_append_right _ (List.mem_singleton.2 rfl));rw[e] at a;have:=a.1.symm.trans b.1;cases this;rfl
 refine⟨fun x=>if x=id then s else f x,⟨?_,r++[(s,id)],i,fun p hp=>?_,fun x=>?_⟩,by simp,fun x E=>?_⟩
 .show(if(0:Int)=id then s else f 0)=z;split
  .rename_i e;have b:=i.has (s,id) (List.mem_append_right _ (List.mem_singleton.2 rfl));exact b.2.2.1 e.symm
  .exact o
 .rcases List.mem_append.1 hp with hp|hp
  .by_cases e:p.2=id
   .rw[key p hp e];simp[e]
   .simp[e,y p hp]
  .rw[List.mem_singleton] at hp;subst hp;simp
 .rw[List.countP_append,B];by_cases e:x=id
  .subst e;simp
  .simp[e,Ne.symm e]
 .by_cases e:x=id
  .subst e;rw[<-B] at E;obtain⟨p,hp,e⟩:=List.countP_pos_iff.1 E;simp only[decide_eq_true_eq] at e;simp only[if_true];rw[<-key p hp e,y p hp,e]
  .simp[e]
theorem Tab.Holds.len(hh:t.Holds z f h)(E:t.Inv G)(hG:∀s,G s->s≠z){L:List α}(hL:L.Nodup)(hm:∀s,s∈L↔s≠z/\∃id,0<h id/\f id=s):t.places.length=t.free.length+L.length:=by
 let I:=(List.range t.places.length).filter fun i=>decide (i∉t.free)
 have Q:∀i,i∈I↔∃p:Ent α,t.places[i]?=some p/\0<p.held:=by
  intro i;simp only[I,List.mem_filter,List.mem_range,decide_eq_true_eq];constructor
  .rintro⟨a,b⟩;refine⟨t.places[i],List.getElem?_eq_getElem a,Nat.pos_of_ne_zero fun e=>b ((E.Sy i).2 ⟨_,List.getElem?_eq_getElem a,e⟩)⟩
  .rintro⟨p,hp,h0⟩;refine⟨(List.getElem?_eq_some_iff.1 hp).1,fun hf=>?_⟩;obtain⟨q,x,J⟩:=(E.Sy i).1 hf;rw[hp] at x;cases x;omega
 have Z:t.places.length=t.free.length+I.length:=by
  have hp:((List.range t.places.length).filter fun i=>decide (i∈t.free)).Perm t.free:=by
   refine(List.perm_ext_iff_of_nodup (List.nodup_range.filter _) E.PZ).2 fun i=>?_;simp only[List.mem_filter,List.mem_range,decide_eq_true_eq];refine⟨fun h=>h.2,fun h=>⟨?_,h⟩⟩;obtain⟨p,hp,_⟩:=(E.Sy i).1 h;exact(List.getElem?_eq_some_iff.1 hp).1
  have h1:=hp.length_eq;have T:∀l:List Nat,l.length=(l.filter fun i=>decide (i∈t.free)).length+(l.filter fun i=>decide (i∉t.free)).length:=by
   intro l;induction l with
   |nil=>rfl
   |cons i l ih=>
    rw[List.filter_cons,List.filter_cons,List.length_cons,ih];by_cases e:i∈t.free
    .simp[e];omega
    .simp[e];omega
  have O:=T (List.range t.places.length);rw[List.length_range,h1] at O;exact O
 let S:Nat->α:=fun i=>match t.places[i]? with|some p=>p.set|none=>z
 have y:(I.map S).Perm L:=by
  refine(List.perm_ext_iff_of_nodup ?_ hL).2 fun s=>?_
  .refine List.pairwise_map.2 (List.Pairwise.imp_of_mem ?_ (List.nodup_range.filter _:I.Nodup));intro i j B hj U e;refine U ?_;obtain⟨p,hp,o⟩:=(Q i).1 B;obtain⟨q,x,J⟩:=(Q j).1 hj;simp only[S,hp,x] at e;exact E.G7 i j p q hp x o J e
  .rw[hm,List.mem_map];obtain⟨V,r,h1,T,O⟩:=hh;constructor
   .rintro⟨i,B,rfl⟩;obtain⟨p,hp,o⟩:=(Q i).1 B;simp only[S,hp];obtain⟨q,x,e⟩:=h1.pl i p hp o;refine⟨hG _ (E.ok i p hp o),q.2,?_,by rw[<-T q x,e]⟩;rw[<-O];exact List.countP_pos_iff.2 ⟨q,x,by simp⟩
   .rintro⟨hz,id,h0,rfl⟩;obtain⟨n,X⟩:=Tab.Holds.has ⟨V,r,h1,T,O⟩ h0;have Y:id≠0:=fun e=>hz (X.2.2.1 e);obtain⟨i,rfl,hp⟩:=X.pos Y;exact⟨i,(Q i).2 ⟨_,hp,X.2.1⟩,by simp[S,hp]⟩
 have:=y.length_eq;rw[List.length_map] at this;omega
end
end Go.K
namespace Go.Proofs.YtmdhibffnkhcnaaGreatDoor
open Go Go.K Proofs.Tryz
theorem DF.up{α:Type}{g:AvT α}{F C:Nat->Prop}{W:World}{b bt N N':Nat}{l:List α}(h:DF g F C W b bt l N)(i:N<=N'):DF g F C W b bt l N':=by
 obtain⟨A,T,h1,j,o,x,y⟩:=h.Dl;exact⟨h.box,⟨A,T,h1,j,o,x,Nat.le_trans y i⟩,h.fb⟩
def IS{α:Type}(e:Bool)(g:AvT α)(F C:Nat->Prop)(W:World)(b:Nat)(l:List α)(N:Nat):Prop:=
 (∃bt,DF g F C W b bt l N)\/(e=true/\Bx W b [.pointer none]/\l=[]/\(∀x,F x↔x=b)/\∀x,¬C x)
section
variable {α:Type}{e:Bool}{g:AvT α}{F C M:Nat->Prop}{W W':World}{b N N':Nat}{l:List α}
theorem IS.mod(h:IS e g F C W b l N)(hm:Mod M W W')(i:∀x,F x\/C x->¬M x):IS e g F C W' b l N:=by
 rcases h with⟨bt,h⟩|⟨h1,o,y,j,B⟩
 .exact .inl ⟨bt,h.mod hm i⟩
 .exact .inr ⟨h1,o.mod hm (i b (.inl ((j b).2 rfl))),y,j,B⟩
theorem IS.up(h:IS e g F C W b l N)(i:N<=N'):IS e g F C W b l N':=by
 rcases h with⟨bt,h⟩|h
 .exact .inl ⟨bt,h.up i⟩
 .exact .inr h
theorem IS.lt(h:IS e g F C W b l N):∀x,F x\/C x->x<W.heap.size:=by
 rcases h with⟨bt,h⟩|⟨h1,j,B,o,y⟩
 .exact h.lt
 .rintro x (i|i)
  .rw[(o x).1 i];exact j.lt (Nat.succ_pos _)
  .exact(y x i).elim
theorem IS.t(h:IS false g F C W b l N):∃bt,DF g F C W b bt l N:=h.resolve_right fun h=>nomatch h.1
theorem IS.fb(h:IS e g F C W b l N):F b:=by
 rcases h with⟨bt,h⟩|⟨h1,j,o,i,x⟩
 .exact h.fb.1
 .exact(i b).2 rfl
end
structure TxA where
 b:Nat
 r:Nat
 s:Nat
 p:Nat
 t:Nat
structure TxK where
 r:Bool
 s:Bool
 p:Bool
structure TxG where
 r:Nat->Prop
 s:Nat->Prop
 p:Nat->Prop
 c:Nat->Prop
 t:Nat->Prop
abbrev TxK.f:TxK:=⟨false,false,false⟩
structure Nl (k:TxK) (w0:World) (own:Nat->Nat) (G:TxG) (F:Nat->Prop) (W:World) (a:TxA) (σ:SKs) (most:Int) (l1:List Ck) (l2:List Spn) (L:List (List Attr)) (t:Tab (List Attr)) (N:Nat):Prop where
 box:Bx W a.b (TQ σ.sv most a.r a.s a.p a.t)
 G5:IS k.r Au.toAvT G.r FV W a.r l1 N
 D0:IS k.s Cn.toAvT G.s FV W a.s l2 N
 para:IS k.p Aw.toAvT G.p G.c W a.p L N
 Pa:Ec G.t W a.t σ t
 IY:DI σ.S W σ.sv σ.ks
 cb:own a.b=0
 cr:∀x,G.r x->own x=1
 cs:∀x,G.s x->own x=2
 cp:∀x,G.p x\/G.c x->own x=3
 ct:∀x,G.t x->own x=4
 cS:∀x,σ.S x->own x=5/\x<W.heap.size
 lo:∀x,(x=a.b\/G.r x\/G.s x)\/(G.p x\/G.c x)\/G.t x->F x
 hl:∀x,F x->w0.heap.size<=x/\x<W.heap.size/\¬σ.S x
 g:Grow w0 W
section
variable {k:TxK}{w0:World}{own:Nat->Nat}{G:TxG}{F M:Nat->Prop}{W W':World}{a:TxA}{σ:SKs}{most:Int}{l1 Vz:List Ck}{l2 TG:List Spn}{L L':List (List Attr)}{t t':Tab (List Attr)}{N N' c:Nat}
theorem Nl.frame(h:Nl k w0 own G F W a σ most l1 l2 L t N)(h1:1<=c)(I:c<=4)(hm:Mod M W W')(o:∀x,M x->own x=c/\F x)(y:N<=N') :
  Bx W' a.b (TQ σ.sv most a.r a.s a.p a.t)/\(c≠1->IS k.r Au.toAvT G.r FV W' a.r l1 N')/\(c≠2->IS k.s Cn.toAvT G.s FV W' a.s l2 N')/\(c≠3->IS k.p Aw.toAvT G.p G.c W' a.p L N')/\(c≠4->Ec G.t W' a.t σ t)/\DI σ.S W' σ.sv σ.ks/\Grow w0 W'/\
   (∀{j:Nat->Nat},(j=fun x=>if x<W.heap.size then own x else c)->j a.b=0/\(∀x,G.r x->j x=1)/\(∀x,G.s x->j x=2)/\(∀x,G.p x\/G.c x->j x=3)/\(∀x,G.t x->j x=4)/\(∀x,σ.S x->j x=5/\x<W'.heap.size)/\∀{X Y:Nat->Prop},(∀x,X x->own x=c)->(∀x,Y x->X x\/W.heap.size<=x)->∀x,Y x->j x=c):=by
 have z:=hm.size;have G6:∀x,F x->x<W.heap.size:=fun x i=>(h.hl x i).2.1;refine⟨h.box.mod hm fun e=>by have:=(o _ e).1;have:=h.cb;omega,fun hc=>(h.G5.mod hm fun x i e=>?_).up y,fun hc=>(h.D0.mod hm fun x i e=>?_).up y,fun hc=>(h.para.mod hm fun x i e=>?_).up y,fun hc=>h.Pa.mod hm fun x i e=>?_,h.IY.mod hm fun x _ i e=>?_,h.g.next hm fun x i e=>?_,?_⟩
 .have:=(o _ e).1;rcases i with i|i
  .have:=h.cr x i;omega
  .exact i.elim
 .have:=(o _ e).1;rcases i with i|i
  .have:=h.cs x i;omega
  .exact i.elim
 .have:=(o _ e).1;have:=h.cp x i;omega
 .have:=(o _ e).1;rcases i with i|i
  .have:=h.ct x i;omega
  .have:=(h.cS x i).1;omega
 .have:=(o _ e).1;have:=(h.cS x i).1;omega
 .have:=(h.hl _ (o x e).2).1;omega
 .rintro j rfl;have key:∀x,F x->(if x<W.heap.size then own x else c)=own x:=fun x i=>if_pos (G6 x i);refine⟨by show ite _ _ _=0;rw[key _ (h.lo _ (.inl (.inl rfl)))];exact h.cb,fun x i=>by show ite _ _ _=1;rw[key _ (h.lo _ (.inl (.inr (.inl i))))];exact h.cr x i,fun x i=>by show ite _ _ _=2;rw[key _ (h.lo _ (.inl (.inr (.inr i))))];exact h.cs x i,fun x i=>by show ite _ _ _=3;rw[key _ (h.lo _ (.inr (.inl i)))];exact h.cp x i,fun x i=>by show ite _ _ _=4;rw[key _ (h.lo _ (.inr (.inr i)))];exact h.ct x i,fun x i=>?_,fun B E x i=>?_⟩
  .have:=h.cS x i;exact⟨by show ite _ _ _=5;rw[if_pos this.2];exact this.1,by omega⟩
  .show ite _ _ _=c;split
   .rcases E x i with e|e
    .exact B x e
    .omega
   .rfl
theorem Nl.WC{j:Nat->Prop}{e:Bool}(h:Nl k w0 own G F W a σ most l1 l2 L t N)(hm:Mod G.r W W')(y:∀x,j x->G.r x\/W.heap.size<=x)(B:IS e Au.toAvT j FV W' a.r Vz N')(E:N<=N') :
  ∃o,Nl { k with r:=e } w0 o { G with r:=j } (fun x=>F x\/j x) W' a σ most Vz l2 L t N':=by
 obtain⟨I,f2,J,O,Q,f6,T,U⟩:=h.frame (c:=1) (by decide) (by decide) hm (fun x i=>⟨h.cr x i,h.lo x (.inl (.inr (.inl i)))⟩) E;obtain⟨V,g2,X,Y,Z,g6,g7⟩:=U rfl;have z:=hm.size;have z0:=h.g.size;have hS:∀x,σ.S x->x<W.heap.size:=fun x i=>(h.cS x i).2;refine⟨_,I,B,J (by decide),O (by decide),Q (by decide),f6,V,g7 h.cr y,X,Y,Z,g6,fun x i=>?_,fun x i=>?_,T⟩
 .rcases i with(i|i|i)|i
  .exact .inl (h.lo x (.inl (.inl i)))
  .exact .inr i
  .exact .inl (h.lo x (.inl (.inr (.inr i))))
  .exact .inl (h.lo x (.inr i))
 .have up:F x->w0.heap.size<=x/\x<W'.heap.size/\¬σ.S x:=fun i=>by have:=h.hl x i;exact⟨this.1,by omega,this.2.2⟩
  rcases i with i|i
  .exact up i
  .rcases y x i with e|e
   .exact up (h.lo x (.inl (.inr (.inl e))))
   .exact⟨by omega,B.lt x (.inl i),fun e=>by have:=hS x e;omega⟩
theorem Nl.VB{j:Nat->Prop}{e:Bool}(h:Nl k w0 own G F W a σ most l1 l2 L t N)(hm:Mod G.s W W')(y:∀x,j x->G.s x\/W.heap.size<=x)(B:IS e Cn.toAvT j FV W' a.s TG N')(E:N<=N') :
  ∃o,Nl { k with s:=e } w0 o { G with s:=j } (fun x=>F x\/j x) W' a σ most l1 TG L t N':=by
 obtain⟨I,J,f3,O,Q,f6,T,U⟩:=h.frame (c:=2) (by decide) (by decide) hm (fun x i=>⟨h.cs x i,h.lo x (.inl (.inr (.inr i)))⟩) E;obtain⟨V,X,g3,Y,Z,g6,g7⟩:=U rfl;have z:=hm.size;have z0:=h.g.size;have hS:∀x,σ.S x->x<W.heap.size:=fun x i=>(h.cS x i).2;refine⟨_,I,J (by decide),B,O (by decide),Q (by decide),f6,V,X,g7 h.cs y,Y,Z,g6,fun x i=>?_,fun x i=>?_,T⟩
 .rcases i with(i|i|i)|i
  .exact .inl (h.lo x (.inl (.inl i)))
  .exact .inl (h.lo x (.inl (.inr (.inl i))))
  .exact .inr i
  .exact .inl (h.lo x (.inr i))
 .have up:F x->w0.heap.size<=x/\x<W'.heap.size/\¬σ.S x:=fun i=>by have:=h.hl x i;exact⟨this.1,by omega,this.2.2⟩
  rcases i with i|i
  .exact up i
  .rcases y x i with e|e
   .exact up (h.lo x (.inl (.inr (.inr e))))
   .exact⟨by omega,B.lt x (.inl i),fun e=>by have:=hS x e;omega⟩
theorem Nl.Xc{j o:Nat->Prop}{e:Bool}(h:Nl k w0 own G F W a σ most l1 l2 L t N)(hm:Mod G.p W W')(B:∀x,j x\/o x->(G.p x\/G.c x)\/W.heap.size<=x)(E:IS e Aw.toAvT j o W' a.p L' N')(I:N<=N') :
  ∃y,Nl { k with p:=e } w0 y { G with p:=j,c:=o } (fun x=>F x\/j x\/o x) W' a σ most l1 l2 L' t N':=by
 obtain⟨J,O,Q,f4,T,f6,U,V⟩:=h.frame (c:=3) (by decide) (by decide) hm (fun x i=>⟨h.cp x (.inl i),h.lo x (.inr (.inl (.inl i)))⟩) I;obtain⟨X,Y,Z,g4,g5,g6,g7⟩:=V rfl;have z:=hm.size;have z0:=h.g.size;have hS:∀x,σ.S x->x<W.heap.size:=fun x i=>(h.cS x i).2;refine⟨_,J,O (by decide),Q (by decide),E,T (by decide),f6,X,Y,Z,g7 h.cp B,g5,g6,fun x i=>?_,fun x i=>?_,U⟩
 .rcases i with i|i|i
  .exact .inl (h.lo x (.inl i))
  .exact .inr i
  .exact .inl (h.lo x (.inr (.inr i)))
 .have up:F x->w0.heap.size<=x/\x<W'.heap.size/\¬σ.S x:=fun i=>by have:=h.hl x i;exact⟨this.1,by omega,this.2.2⟩
  rcases i with i|i
  .exact up i
  .rcases B x i with e|e
   .exact up (h.lo x (.inr (.inl e)))
   .exact⟨by omega,E.lt x i,fun e=>by have:=hS x e;omega⟩
theorem Nl.bK{j:Nat->Prop}(h:Nl k w0 own G F W a σ most l1 l2 L t N)(hm:Mod G.t W W')(y:∀x,j x->G.t x\/W.heap.size<=x/\x<W'.heap.size)(B:Ec j W' a.t σ t')(E:N<=N') :
  ∃o,Nl k w0 o { G with t:=j } (fun x=>F x\/j x) W' a σ most l1 l2 L t' N':=by
 obtain⟨I,J,O,Q,f5,f6,T,U⟩:=h.frame (c:=4) (by decide) (by decide) hm (fun x i=>⟨h.ct x i,h.lo x (.inr (.inr i))⟩) E;obtain⟨V,X,Y,Z,g5,g6,g7⟩:=U rfl;have z:=hm.size;have z0:=h.g.size;have hS:∀x,σ.S x->x<W.heap.size:=fun x i=>(h.cS x i).2;refine⟨_,I,J (by decide),O (by decide),Q (by decide),B,f6,V,X,Y,Z,g7 h.ct (fun x i=>(y x i).imp id And.left),g6,fun x i=>?_,fun x i=>?_,T⟩
 .rcases i with i|i|i
  .exact .inl (h.lo x (.inl i))
  .exact .inl (h.lo x (.inr (.inl i)))
  .exact .inr i
 .have up:F x->w0.heap.size<=x/\x<W'.heap.size/\¬σ.S x:=fun i=>by have:=h.hl x i;exact⟨this.1,by omega,this.2.2⟩
  rcases i with i|i
  .exact up i
  .rcases y x i with e|e
   .exact up (h.lo x (.inr (.inr e)))
   .exact⟨by omega,e.2,fun e=>by have:=hS x e;omega⟩
theorem Nl.mod(h:Nl k w0 own G F W a σ most l1 l2 L t N)(hm:Mod M W W')(j:∀x,M x->¬F x/\¬σ.S x/\w0.heap.size<=x):Nl k w0 own G F W' a σ most l1 l2 L t N:=by
 have z:=hm.size;exact ⟨h.box.mod hm fun e=>(j _ e).1 (h.lo _ (.inl (.inl rfl))),h.G5.mod hm fun x i e=>(j x e).1 (i.elim (fun i=>h.lo x (.inl (.inr (.inl i)))) fun i=>i.elim),h.D0.mod hm fun x i e=>(j x e).1 (i.elim (fun i=>h.lo x (.inl (.inr (.inr i)))) fun i=>i.elim),h.para.mod hm fun x i e=>(j x e).1 (h.lo x (.inr (.inl i))),
  h.Pa.mod hm fun x i e=>i.elim (fun i=>(j x e).1 (h.lo x (.inr (.inr i)))) (j x e).2.1,h.IY.mod hm fun x _ i e=>(j x e).2.1 i,h.cb,h.cr,h.cs,h.cp,h.ct,fun x i=>⟨(h.cS x i).1,by have:=(h.cS x i).2;omega⟩,h.lo,fun x i=>⟨(h.hl x i).1,by have:=(h.hl x i).2.1;omega,(h.hl x i).2.2⟩,h.g.next hm fun x i e=>by have:=(j x e).2.2;omega⟩
end
def HB(k:TxK)(w0:World)(F:Nat->Prop)(W:World)(a:TxA)(σ:SKs)(most:Int)(rs:List Int)(l2:List Spn)(L:List (List Attr))(t:Tab (List Attr))(N:Nat):Prop:=
 ∃own G l1,BV l1=rs/\Nl k w0 own G F W a σ most l1 l2 L t N
def Co(k:TxK)(w0:World)(F:Nat->Prop)(W W':World)(a:TxA)(σ:SKs)(most:Int)(rs:List Int)(l2:List Spn)(L:List (List Attr))(t:Tab (List Attr))(N:Nat):Prop:=
 ∃F',(∀x,F' x->F x\/W.heap.size<=x)/\HB k w0 F' W' a σ most rs l2 L t N/\Mod F W W'
section
variable {k:TxK}{w0:World}{F M:Nat->Prop}{W W':World}{a:TxA}{σ:SKs}{most:Int}{rs:List Int}{l2:List Spn}{L:List (List Attr)}{t:Tab (List Attr)}{N:Nat}
theorem HB.G5(h:HB k w0 F W a σ most rs l2 L t N):∃l1 Fr,BV l1=rs/\IS k.r Au.toAvT Fr FV W a.r l1 N/\(∀x,Fr x->F x/\x≠a.b)/\∀{W' j Vz N' e},Mod Fr W W'->(∀x,j x->Fr x\/W.heap.size<=x)->IS e Au.toAvT j FV W' a.r Vz N'->N<=N'->Co { k with r:=e } w0 F W W' a σ most (BV Vz) l2 L t N':=by
 obtain⟨own,G,l1,h1,o⟩:=h;have up:∀x,G.r x->F x:=fun x i=>o.lo x (.inl (.inr (.inl i)));refine⟨l1,G.r,h1,o.G5,fun x i=>⟨up x i,fun e=>by have E:=o.cr x i;have Q:=o.cb;rw[e] at E;omega⟩,fun{W' j Vz N' e} hm B I J=>?_⟩;obtain⟨y,O⟩:=o.WC hm B I J;exact⟨_,fun x i=>i.elim .inl fun i=>(B x i).imp (up x) id,⟨y,_,Vz,rfl,O⟩,hm.mono fun x _ i=>up x i⟩
theorem HB.D0(h:HB k w0 F W a σ most rs l2 L t N):∃y,IS k.s Cn.toAvT y FV W a.s l2 N/\(∀x,y x->F x)/\∀{W' i TG N' e},Mod y W W'->(∀x,i x->y x\/W.heap.size<=x)->IS e Cn.toAvT i FV W' a.s TG N'->N<=N'->Co { k with s:=e } w0 F W W' a σ most rs TG L t N':=by
 obtain⟨own,G,l1,h1,B⟩:=h;have up:∀x,G.s x->F x:=fun x j=>B.lo x (.inl (.inr (.inr j)));refine⟨G.s,B.D0,up,fun{W' i TG N' e} hm E I J=>?_⟩;obtain⟨o,O⟩:=B.VB hm E I J;exact⟨_,fun x j=>j.elim .inl fun j=>(E x j).imp (up x) id,⟨o,_,l1,h1,O⟩,hm.mono fun x _ j=>up x j⟩
theorem HB.para(h:HB k w0 F W a σ most rs l2 L t N):∃B E,IS k.p Aw.toAvT B E W a.p L N/\(∀x,B x\/E x->F x)/\∀{W' i j L' N' e},Mod B W W'->(∀x,i x\/j x->(B x\/E x)\/W.heap.size<=x)->IS e Aw.toAvT i j W' a.p L' N'->N<=N'->Co { k with p:=e } w0 F W W' a σ most rs l2 L' t N':=by
 obtain⟨own,G,l1,h1,I⟩:=h;have up:∀x,G.p x\/G.c x->F x:=fun x o=>I.lo x (.inr (.inl o));refine⟨G.p,G.c,I.para,up,fun{W' i j L' N' e} hm J O Q=>?_⟩;obtain⟨y,S⟩:=I.Xc hm J O Q;exact⟨_,fun x o=>o.elim .inl fun o=>(J x o).imp (up x) id,⟨y,_,l1,h1,S⟩,hm.mono fun x _ o=>up x (.inl o)⟩
theorem HB.Pa(h:HB k w0 F W a σ most rs l2 L t N):∃o,Ec o W a.t σ t/\(∀x,o x->F x)/\∀{W' t'},Ig o W W' a.t σ t'->Co k w0 F W W' a σ most rs l2 L t' N:=by
 obtain⟨own,G,l1,h1,y⟩:=h;have up:∀x,G.t x->F x:=fun x i=>y.lo x (.inr (.inr i));refine⟨G.t,y.Pa,up,fun{W' t'} E=>?_⟩;obtain⟨I,B,J,hm⟩:=E;obtain⟨j,O⟩:=y.bK hm B J (Nat.le_refl _);exact⟨_,fun x i=>i.elim .inl fun i=>(B x i).imp (up x) And.left,⟨j,_,l1,h1,O⟩,hm.mono fun x _ i=>up x i⟩
theorem HB.box(h:HB k w0 F W a σ most rs l2 L t N):Bx W a.b (TQ σ.sv most a.r a.s a.p a.t)/\F a.b:=by
 obtain⟨own,G,l1,h1,i⟩:=h;exact⟨i.box,i.lo _ (.inl (.inl rfl))⟩
theorem HB.IY(h:HB k w0 F W a σ most rs l2 L t N):DI σ.S W σ.sv σ.ks/\∀x,σ.S x->x<W.heap.size:=by
 obtain⟨own,G,l1,h1,i⟩:=h;exact⟨i.IY,fun x j=>(i.cS x j).2⟩
theorem HB.hl(h:HB k w0 F W a σ most rs l2 L t N):∀x,F x->w0.heap.size<=x/\x<W.heap.size/\¬σ.S x:=by
 obtain⟨own,G,l1,h1,i⟩:=h;exact i.hl
theorem HB.g(h:HB k w0 F W a σ most rs l2 L t N):Grow w0 W:=by
 obtain⟨own,G,l1,h1,i⟩:=h;exact i.g
theorem HB.mod(h:HB k w0 F W a σ most rs l2 L t N)(hm:Mod M W W')(i:∀x,M x->¬F x/\¬σ.S x/\w0.heap.size<=x):HB k w0 F W' a σ most rs l2 L t N:=by
 obtain⟨own,G,l1,h1,j⟩:=h;exact⟨own,G,l1,h1,j.mod hm i⟩
theorem HB.grow(h:HB k w0 F W a σ most rs l2 L t N)(hm:Grow W W'):HB k w0 F W' a σ most rs l2 L t N:=h.mod hm fun _ h=>h.elim
theorem HB.same(h:HB k w0 F W a σ most rs l2 L t N)(hm:Grow W W'):Co k w0 F W W' a σ most rs l2 L t N:=⟨F,fun _ h=>.inl h,h.grow hm,hm.mono fun _ _ h=>h.elim⟩
theorem HB.RC(h:HB .f w0 F W a σ most rs l2 L t N):∃l1 Fr bt,BV l1=rs/\DF Au.toAvT Fr FV W a.r bt l1 N/\(∀x,Fr x->F x/\x≠a.b)/\∀{W' i Vz N'},Mod Fr W W'->(∀x,i x->Fr x\/W.heap.size<=x)->DF Au.toAvT i FV W' a.r bt Vz N'->N<=N'->Co .f w0 F W W' a σ most (BV Vz) l2 L t N':=by
 obtain⟨l1,Fr,h1,j,o,y⟩:=h.G5;obtain⟨bt,j⟩:=j.t;exact⟨l1,Fr,bt,h1,j,o,fun hm B E I=>y (e:=false) hm B (.inl ⟨bt,E⟩) I⟩
theorem HB.Pu(h:HB .f w0 F W a σ most rs l2 L t N):∃i bt,DF Cn.toAvT i FV W a.s bt l2 N/\(∀x,i x->F x)/\∀{W' j TG N'},Mod i W W'->(∀x,j x->i x\/W.heap.size<=x)->DF Cn.toAvT j FV W' a.s bt TG N'->N<=N'->Co .f w0 F W W' a σ most rs TG L t N':=by
 obtain⟨i,o,y,B⟩:=h.D0;obtain⟨bt,o⟩:=o.t;exact⟨i,bt,o,y,fun hm E I J=>B (e:=false) hm E (.inl ⟨bt,I⟩) J⟩
theorem HB.RE(h:HB .f w0 F W a σ most rs l2 L t N):∃i j bt,DF Aw.toAvT i j W a.p bt L N/\(∀x,i x\/j x->F x)/\∀{W' o y L' N'},Mod i W W'->(∀x,o x\/y x->(i x\/j x)\/W.heap.size<=x)->DF Aw.toAvT o y W' a.p bt L' N'->N<=N'->Co .f w0 F W W' a σ most rs l2 L' t N':=by
 obtain⟨i,j,B,E,I⟩:=h.para;obtain⟨bt,B⟩:=B.t;exact⟨i,j,bt,B,E,fun hm J O Q=>I (e:=false) hm J (.inl ⟨bt,O⟩) Q⟩
theorem Co.next{j:TxK}{o:Nat->Prop}{y:World}{i:List Int}{TG:List Spn}{L':List (List Attr)}{t':Tab (List Attr)}{N':Nat}(B:∀x,o x->F x\/W.heap.size<=x)(hm:Mod F W y)(h:Co j w0 o y W' a σ most i TG L' t' N'):Co j w0 F W W' a σ most i TG L' t' N':=by
 obtain⟨I,h1,J,O⟩:=h;have z:=hm.size;refine⟨I,fun x E=>?_,J,hm.next O fun x E e=>?_⟩
 .rcases h1 x E with e|e
  .exact B x e
  .exact .inr (by omega)
 .rcases B x e with e|e
  .exact e
  .omega
theorem Co.step{i:World}(g:Grow W i)(h:Co k w0 F i W' a σ most rs l2 L t N):Co k w0 F W W' a σ most rs l2 L t N:=Co.next (fun _ h=>.inl h) (g.mono fun _ _ h=>h.elim) h
theorem Co.up{N':Nat}(h:Co k w0 F W W' a σ most rs l2 L t N)(j:N<=N'):Co k w0 F W W' a σ most rs l2 L t N':=by
 obtain⟨F',h1,⟨own,G,l1,o,i⟩,x⟩:=h;exact⟨F',h1,⟨own,G,l1,o,i.box,i.G5.up j,i.D0.up j,i.para.up j,i.Pa,i.IY,i.cb,i.cr,i.cs,i.cp,i.ct,i.cS,i.lo,i.hl,i.g⟩,x⟩
end
end Go.Proofs.YtmdhibffnkhcnaaGreatDoor
namespace Go.K
open Go
section
variable {α:Type}[DecidableEq α]{t t':Tab α}{z s:α}{f:Int->α}{h:Int->Nat}{id:Int}{G:α->Prop}
theorem Tab.Holds.idle(i:t.Holds z f h)(h0:0<h id\/id=0):0<=id/\id<=t.places.length:=by
 rcases h0 with h0|rfl;rotate_left
 .omega
 obtain⟨n,h1⟩:=i.has h0;by_cases o:id=0
 .omega
 .obtain⟨j,rfl,hp⟩:=h1.pos o;have:=(List.getElem?_eq_some_iff.1 hp).1;omega
omit [DecidableEq α] in
theorem Tab.WE:(t.hold z id).places.length=t.places.length:=by
 unfold Tab.hold;cases t.ask z id with
 |none=>rfl
 |some p=>
  dsimp only;split
  .rfl
  .show(t.places.set _ _).length=_;rw[List.length_set]
omit [DecidableEq α] in
theorem Tab.Kq:(t.release z id).places.length=t.places.length:=by
 unfold Tab.release;cases t.ask z id with
 |none=>rfl
 |some p=>
  dsimp only;split
  .rfl
  .split<;>(show(t.places.set _ _).length=_;rw[List.length_set])
omit [DecidableEq α] in
theorem Tab.Jw.pl(ha:t.Jw z s id t'):t'.places.length<=t.places.length+1:=by
 rcases ha with⟨_,_,rfl⟩|⟨_,i,n,hp,j,_,rfl⟩|⟨_,_,_,rfl⟩
 .exact Nat.le_succ _
 .show(t.places.set _ _).length<=_;rw[List.length_set];omega
 .unfold Tab.put;cases t.free.getLast? with
  |some i=>show(t.places.set _ _).length<=_;rw[List.length_set];omega
  |none=>show(t.places++[_]).length<=_;rw[List.length_append,List.length_singleton];omega
theorem RU{r:List (α×Int)}(i:t.FZ z r)(j:t.Inv G)(y:∀p∈r,p.1=f p.2){p:α×Int}(hp:p∈r):GW r p.1=r.countP fun q=>decide (q.2=p.2):=by
 unfold GW;rw[List.countP_eq_length_filter];congr 1
 refine List.filter_congr fun q o=>?_;have hu:=Tab.Has.uniq j (i.has q o) (i.has p hp);by_cases e:q.2=p.2
 .simp[e,hu.1 e]
 .have e':¬q.1=p.1:=fun x=>e (hu.2 x);simp[e,e']
theorem Tab.Holds.small(E:t.Holds z f h)(J:t.Inv G)(X:∀s,G s->s≠z){H:Nat}(T:∀x,h x<=H)(hp:t.places.length<=H):t.Small H:=by
 obtain⟨_,r,h1,U,V⟩:=E;refine⟨hp,?_,fun q Y=>?_⟩
 .rw[h1.em];refine Nat.le_of_not_lt fun I=>?_;obtain⟨p,o,e⟩:=Kk (r:=r) (x:=z) (by omega);rw[<-e,RU h1 J U o,V] at I;have:=T p.2;omega
 .refine Nat.le_of_not_lt fun I=>?_;obtain⟨i,O,e⟩:=List.mem_iff_getElem.1 Y;have y:t.places[i]?=some q:=by rw[List.getElem?_eq_getElem O,e]
  obtain⟨p,o,e'⟩:=h1.pl i q y (by omega);have E:=h1.has p o;have Q:p.2≠0:=fun e0=>X _ (J.ok i q y (by omega)) (e'▸E.2.2.1 e0);obtain⟨j,Z,B⟩:=E.pos Q;have S:=J.G7 i j q _ y B (by omega) E.2.1 e'.symm;subst S;rw[y] at B;have:q.held=GW r p.1:=by cases B;rfl
  rw[RU h1 J U o,V] at this;have:=T p.2;omega
end
end Go.K
namespace Go.Proofs.YtmdhibffnkhcnaaGreatDoor
open Go Go.K Proofs.Tryz
namespace Spn
theorem PI(x:Int)(p:Option Int)(l:List Int):rn x p l<=l.length:=by
 induction l generalizing p with
 |nil=>exact Nat.le_refl _
 |cons y l i=>
  rw[rn,List.length_cons];have:=i (some y);split<;>omega
theorem IB{x:Int}{p:Option Int}{l:List Int}(i:x∈l)(hp:p≠some x):0<rn x p l:=by
 induction l generalizing p with
 |nil=>cases i
 |cons y l j=>
  rw[rn];by_cases e:y=x
  .rw[if_pos ⟨e,hp⟩];omega
  .have h1:x∈l:=(List.mem_cons.1 i).resolve_left fun h=>e h.symm;have:=j (p:=some y) h1 (fun h=>e (Option.some.inj h));omega
theorem UD{x:Int}{p:Option Int}{l:List Int}(h:0<rn x p l):x∈l:=by
 induction l generalizing p with
 |nil=>simp[rn] at h
 |cons y l i=>
  rw[rn] at h;by_cases e:y=x
  .exact List.mem_cons.2 (.inl e.symm)
  .rw[if_neg fun h=>e h.1] at h;exact List.mem_cons_of_mem _ (i (p:=some y) (by omega))
theorem Xe(s:Spn){i j:Nat}(o:i<j)(y:j<=s.n):kd.part s i j=⟨j-i,s.id⟩:=by
 have x:(kd.μ s).1=s.n:=rfl;unfold Kd.part;rw[x];by_cases h:j<s.n
 .rw[if_pos h];by_cases h0:0<i
  .rw[if_pos h0];rfl
  .rw[if_neg h0,show i=0 by omega];rfl
 .rw[if_neg h,show j=s.n by omega];by_cases h0:0<i
  .rw[if_pos h0];rfl
  .rw[if_neg h0,show i=0 by omega];rfl
theorem R4{l:List Spn}:∀{p:Option Int} (_:G1 p l) (i j:Nat),G1 (if i=0 then p else none) (kd.over l i j):=by
 induction l with
 |nil=>intro p _ i j;exact trivial
 |cons s l x=>
  intro p h i j;obtain⟨h1,B,y⟩:=h;have E:(kd.μ s).1=s.n:=rfl;rw[Kd.over,E];by_cases o:i<min j s.n
  .rw[if_pos o,Xe s o (Nat.min_le_right _ _)];have:=x y (i-s.n) (j-s.n);rw[if_pos (by omega)] at this;refine⟨by show 0<min j s.n-i;omega,?_,this⟩;split
   .exact B
   .simp
  .rw[if_neg o,List.nil_append];by_cases I:j<=i
   .rw[Kd.ED _ _ (by omega)];exact trivial
   .have:=K5 (x y (i-s.n) (j-s.n));rw[if_neg (by omega)];exact this
theorem GQ{p:Option Int}{l:List Spn}(h:G1 p l)(i j:Nat):G1 none (kd.over l i j):=K5 (R4 h i j)
theorem E0{p:Option Int}{l:List Spn}(h:G1 p l):l.length<=(l.flatMap u).length:=by
 induction l generalizing p with
 |nil=>exact Nat.le_refl _
 |cons s l i=>
  have:=i h.2.2;have:=h.1;rw[List.flatMap_cons,List.length_append,u,List.length_replicate,List.length_cons];omega
theorem SJ{l:List Spn}{x:Int}(h:x∈l.flatMap u):∃s∈l,s.id=x:=by
 obtain⟨s,i,j⟩:=List.mem_flatMap.1 h;exact⟨s,i,(List.mem_replicate.1 j).2.symm⟩
theorem JP{l:List Spn}{s:Spn}(i:s∈l)(j:0<s.n):s.id∈l.flatMap u:=List.mem_flatMap.2 ⟨s,i,List.mem_replicate.2 ⟨by omega,rfl⟩⟩
abbrev DD(l:List Spn)(x:Int):Nat:=l.countP fun s=>decide (s.id=x)
structure fB (l2 row:List Spn) (i j:Nat):Prop where
 same:∀x,rn x none ((kd.Bn l2 i j row).flatMap u)+DD (kd.over l2 (i-1) (min (j+1) (l2.flatMap u).length)) x=rn x none (l2.flatMap u)+DD (kd.over (kd.Bn l2 i j row) (i-1) (min (j+1) (l2.flatMap u).length-(j-i)+(row.flatMap u).length)) x
 mem:∀x,0<DD (kd.over (kd.Bn l2 i j row) (i-1) (min (j+1) (l2.flatMap u).length-(j-i)+(row.flatMap u).length)) x->x∈l2.flatMap u\/x∈row.flatMap u
 len:(kd.over l2 (i-1) (min (j+1) (l2.flatMap u).length)).length<=(l2.flatMap u).length/\(kd.over (kd.Bn l2 i j row) (i-1) (min (j+1) (l2.flatMap u).length-(j-i)+(row.flatMap u).length)).length<=(l2.flatMap u).length+(row.flatMap u).length
theorem Ta{α:Type}(P Q R:List α){a b:Nat}(ha:a=P.length)(hb:b=P.length+Q.length):((P++Q++R).take b).drop a=Q:=by
 subst ha hb;rw[List.take_left' (by rw[List.length_append]),List.drop_left' rfl]
theorem eW{l2:List Spn}(row:List Spn){i j:Nat}(hp:G1 none l2)(S:i<=j)(hj:j<=(l2.flatMap u).length):fB l2 row i j:=by
 have T:=HZ i j row hp;have eu:(kd.Bn l2 i j row).flatMap u=(l2.flatMap u).take i++row.flatMap u++(l2.flatMap u).drop j:=Dj.Bn l2 row S;generalize o:l2.flatMap u=ids at *;generalize E:row.flatMap u=Q at *
 let P:=ids.take (i-1)
 let I:=(ids.take i).drop (i-1)
 let B:=(ids.take j).drop i
 let J:=(ids.drop j).take 1
 let R:=(ids.drop j).drop 1
 have eA:ids.take i=P++I:=by
  have:=(List.take_append_drop (i-1) (ids.take i)).symm;rwa [List.take_take,Nat.min_eq_left (by omega)] at this
 have eC:ids.drop j=J++R:=(List.take_append_drop 1 _).symm;have eB:ids=ids.take i++B++ids.drop j:=by
  have h1:=(List.take_append_drop i (ids.take j)).symm;rw[List.take_take,Nat.min_eq_left S] at h1;rw[<-h1,List.take_append_drop]
 have Y:ids=P++(I++B++J)++R:=by
  conv=>lhs;rw[eB,eA,eC]
  simp only[List.append_assoc]
 have e2:(kd.Bn l2 i j row).flatMap u=P++(I++Q++J)++R:=by
  rw[eu,eA,eC];simp only[List.append_assoc]
 have U:P.length=i-1:=by show(ids.take (i-1)).length=_;rw[List.length_take];omega
 have V:I.length=i-(i-1):=by show((ids.take i).drop (i-1)).length=_;rw[List.length_drop,List.length_take];omega
 have lB:B.length=j-i:=by show((ids.take j).drop i).length=_;rw[List.length_drop,List.length_take];omega
 have X:J.length=min 1 (ids.length-j):=by show((ids.drop j).take 1).length=_;rw[List.length_take,List.length_drop]
 have lR:R.length=ids.length-j-1:=by show((ids.drop j).drop 1).length=_;rw[List.length_drop,List.length_drop]
 have u1:(kd.over l2 (i-1) (min (j+1) ids.length)).flatMap u=I++B++J:=by
  rw[Dj.over,o];have:=Ta P (I++B++J) R (b:=min (j+1) ids.length) U.symm (by rw[List.length_append,List.length_append,U,V,lB,X];omega);rw[<-Y] at this;exact this
 have Z:(kd.over (kd.Bn l2 i j row) (i-1) (min (j+1) ids.length-(j-i)+Q.length)).flatMap u=I++Q++J:=by
  rw[Dj.over,e2];exact Ta _ _ _ U.symm (by rw[List.length_append,List.length_append,U,V,X];omega)
 have c1:=fun x=>Te x none _ (GQ hp (i-1) (min (j+1) ids.length));have c2:=fun x=>Te x none _ (GQ T (i-1) (min (j+1) ids.length-(j-i)+Q.length));have n1:=E0 (GQ hp (i-1) (min (j+1) ids.length));have n2:=E0 (GQ T (i-1) (min (j+1) ids.length-(j-i)+Q.length));rw[u1] at n1;rw[Z] at n2;refine⟨fun x=>?_,fun x hx=>?_,?_,?_⟩
 .rw[E,o,DD,DD,c1,c2,u1,Z,e2];have:=Sc x P (I++B++J) (I++Q++J) R (fun O=>?_) (fun O=>?_)
  .rw[<-Y] at this;omega
  .have:P.length≠0:=fun h=>O (List.eq_nil_of_length_eq_zero h);cases hA:I with
   |nil=>rw[hA] at V;simp at V;omega
   |cons y A2=>simp
  .have:R.length≠0:=fun h=>O (List.eq_nil_of_length_eq_zero h);have hC:J≠[]:=fun h=>by rw[h] at X;simp at X;omega
   exact⟨by simp[List.getLast?_append,List.getLast?_eq_some_getLast hC],by simp[hC],by simp[hC]⟩
 .rw[E,o,DD,c2,Z] at hx;have hm:=UD hx;rw[o,E];rcases List.mem_append.1 hm with hm|hm
  .rcases List.mem_append.1 hm with hm|hm
   .exact .inl (List.mem_of_mem_take (List.mem_of_mem_drop hm))
   .exact .inr hm
  .exact .inl (List.mem_of_mem_drop (List.mem_of_mem_take hm))
 .rw[o];have:=congrArg List.length Y;simp only[List.length_append] at this n1;omega
 .rw[o,E];simp only[List.length_append] at n2;omega
end Spn
theorem Ec.inv{F:Nat->Prop}{W:World}{b:Nat}{ks:SKs}{t:Tab (List Attr)}(h:Ec F W b ks t):t.Inv (FY ks.ks):=by
 obtain⟨C,pl,fr,bm,i⟩:=h;exact i.core.inv
theorem FY.ne{ks:List DKey}:∀s,FY ks s->s≠[]:=fun _ h=>h.1
section
variable {k:TxK}{w0:World}{F:Nat->Prop}{W:World}{a:TxA}{σ:SKs}{most:Int}{rs:List Int}{l2:List Spn}{L:List (List Attr)}{t:Tab (List Attr)}{N:Nat}
theorem Ji{fn:Nat}{op:Tab (List Attr)->Int->Tab (List Attr)}{S:Nat->Prop}{rv:Value}{row:List Spn}{P:Nat->Tab (List Attr)->Prop}{Kend:World->Prop}
 (call:∀{Z W t id},Ec Z W a.t σ t->t.Small 1099511627->0<=id->id<=1099511627->AB prog fn [.pointer (some ⟨a.t,0,none⟩),.int .i64 id] (fun _ w'=>Ig Z W w' a.t σ (op t id)) W)
 (rd:BH S 2 DV W rv row)(hS:∀x,S x->¬F x)(hl:row.length<=1099511627776)
 (o:∀(m:Nat) (hm:m<row.length) t,P m t->t.Inv (FY σ.ks)->t.Small 1099511627/\0<=row[m].id/\row[m].id<=1099511627/\P (m+1) (op t row[m].id))
 (h:HB k w0 F W a σ most rs l2 L t N)(h0:P 0 t)
 (hK:∀W' t',Co k w0 F W W' a σ most rs l2 L t' N->P row.length t'->Kend W') :
  Ay [(.int .i64 0)] (fun vs B I=>∀_:Env,
   Bf .i64 (nth vs 0) (.int .i64 (row.length:Int)) fun a1=>
   AD a1
   (Be 2 rv (nth vs 0) fun a6=>
   Ac 2 a6 (fun a7 a8=>
   Al 108 [(.int .i64 0),(.int .i64 0)] (fun J ak=>
   Ab 2 J a7 (fun E=>
   Ax [6] [[],[0],[0,1],[0,1,2],[],[4],[0,1,2,3,4,5]] E.drew (fun M St=>
   AJ (.pointer (some ⟨a.b,0,none⟩)) fun al=>
   AM 5 al fun an=>
   BD (St 3) an fun av=>
   AM 1 J fun ax=>
   BD (St 5) ax fun ay=>
   AB prog fn [av,ay] (fun _t87 O=>
   Mod (M 6) E.drew O/\
   AX .i64 (nth vs 0) (.int .i64 1) fun b0=>
   B [b0] O) E.drew)) ak) a8) I)
   (Kend I)) W:=by
 obtain⟨ra,rc,rfl,_⟩:=rd.shape;have Q:=rd.G6 (by decide);refine Ae (fun vs W'=>∃(m:Nat) (t':Tab (List Attr)),m<=row.length/\vs=[.int .i64 m]/\Co k w0 F W W' a σ most rs l2 L t' N/\P m t') (fun vs _=>row.length-Dr vs 0) ⟨0,t,Nat.zero_le _,rfl,h.same (Mod.refl _ _),h0⟩ ?_;rintro vs W1 ⟨m,t1,hm,rfl,⟨F1,f1,h1,X⟩,hP⟩ _;simp only[CR,List.headD_cons];rw[A6];have z1:=X.size;refine AE (fun b6=>?_) fun b7=>?_;rotate_left
 .obtain rfl:m=row.length:=by omega
  exact hK W1 t1 ⟨F1,f1,h1,X⟩ hP
 have i:m<row.length:=by omega
 obtain⟨p,r,rfl,_,hr,hc,b1⟩:=Q.get i;have T:r=row[m].cells:=b1;subst T;obtain⟨p',r',e',b2,_⟩:=Q.get i;cases e';refine AY i (Ah (vs:=row[m].cells) rfl (fun j u hu=>by rw[Addr.add_add];exact X.cell (hc j u hu) fun e=>hS _ b2.1 (by rw[BO] at e;exact e)) ?_);refine Bx.new (vs:=row[m].cells) rfl rfl (Spn.one _) fun b5 W2 b8 g2 B5=>?_;have Y:Grow W2 W2.drew:=Mod.drew _ _;have h2:=h1.grow (g2.trans Y);obtain⟨hB,b9⟩:=h2.box;have b3:=B5.grow Y;obtain⟨Z,hT,ba,put⟩:=h2.Pa;have zd:=(g2.trans Y).size;have U:∀x,F1 x->x≠b5:=fun x V e=>by have:=(h1.hl x V).2.1;omega
 refine Ag (fun q y=>q=6/\F1 y) ?_;refine AH ?_;rw[AG,AI];refine Aa ⟨hB.cells 5 _ rfl,fun j hj e=>by obtain⟨rfl,_⟩:=e;exact absurd hj (by decide)⟩ ?_;rw[AG,AI];refine Aa ⟨b3.cells 1 _ rfl,fun j hj e=>U _ e.2 rfl⟩ ?_;obtain⟨q1,q2,q3,q4⟩:=o m i t1 hP hT.inv;refine AA (call hT q1 q2 q3) ?_;rintro _ W3 hA;obtain⟨F3,f3,h3,m3⟩:=put hA;refine⟨m3.mono fun x _ V=>⟨rfl,V⟩,?_⟩;rw[AR,AQ (by omega)];have b4:Mod F W W2.drew:=X.next (g2.trans Y) fun _ _ e=>e.elim;refine⟨⟨m+1,_,i,rfl,Co.next (fun x V=>(f1 x V)) b4 ⟨F3,f3,h3,m3⟩,q4⟩,by rw[DZ,DZ];omega⟩
end
end Go.Proofs.YtmdhibffnkhcnaaGreatDoor
namespace Go.Proofs.YtmdhibffnkhcnaaGreatDoor
open Go Go.K Proofs.Tryz
theorem Wn{e:Bool}{F:Nat->Prop}{W:World}{b N:Nat}{l:List Spn}(h:IS e Cn.toAvT F FV W b l N) :
  AB prog 111 [.pointer (some ⟨b,0,none⟩)] (fun v' w'=>v'=.int .i64 (EH l:Int)/\∃bt F',DF Cn.toAvT F' FV w' b bt l N/\(∀x,F' x->F x\/W.heap.size<=x)/\Mod F W w') W:=by
 rcases h with⟨bt,h⟩|⟨_,j,rfl,i,B⟩
 .refine AA (J0 HD h) ?_;rintro _ w ⟨rfl,g⟩;exact⟨rfl,bt,F,h.grow g,fun _ h=>.inl h,g.mono fun _ _ h=>h.elim⟩
 .refine AA (Tn (g:=Cn.toAvT) (C:=FV) HD j (fun h=>h) fun _ h=>h.elim) ?_;rintro _ w ⟨rfl,bt,F',k1,k2,o⟩;exact⟨rfl,bt,F',k1.up (Nat.zero_le _),fun x y=>(k2 x y).imp (fun e=>(i x).2 e) id,o.mono fun x _ e=>(i x).2 e⟩
namespace Spn
theorem Km(l:List Spn){m:Nat}(hm:m<l.length)(x:Int):DD (l.take (m+1)) x=DD (l.take m) x+if x=l[m].id then 1 else 0:=by
 have i:l.take (m+1)=l.take m++[l[m]]:=by rw[List.take_add_one];simp[hm]
 rw[DD,DD,i,List.countP_append,List.countP_cons,List.countP_nil];by_cases e:x=l[m].id
 .rw[if_pos e,if_pos (by simp[e])]
 .rw[if_neg e,if_neg (by simp[Ne.symm e])]
theorem Jr(l:List Spn)(m:Nat)(x:Int):DD (l.take m) x<=DD l x:=by
 have:DD l x=DD (l.take m) x+DD (l.drop m) x:=by rw[DD,DD,DD,<-List.countP_append,List.take_append_drop]
 omega
theorem NL{l:List Spn}{s:Spn}(h:s∈l):0<DD l s.id:=List.countP_pos_iff.2 ⟨s,h,by simp⟩
theorem LD(l:List Spn)(x:Int):DD l x<=l.length:=List.countP_le_length
end Spn
section
variable {k:TxK}{w0:World}{F:Nat->Prop}{W:World}{a:TxA}{σ:SKs}{most:Int}{rs:List Int}{l2:List Spn}{L:List (List Attr)}{t:Tab (List Attr)}{N:Nat}
theorem Sb{f:Int->List Attr}{h:Int->Nat}{i:List Spn}{M:Nat}(I:M<=1000000000)(o:∀s∈i,0<h s.id\/s.id=0)(hb:∀x,h x+i.length<=1000000000)(ks:List DKey) :
  ∀(m:Nat) (hm:m<i.length) (t:Tab (List Attr)),(t.Holds [] f (fun x=>h x+Spn.DD (i.take m) x)/\t.places.length=M)->t.Inv (FY ks)->
   t.Small 1099511627/\0<=i[m].id/\i[m].id<=1099511627/\((t.hold [] i[m].id).Holds [] f (fun x=>h x+Spn.DD (i.take (m+1)) x)/\(t.hold [] i[m].id).places.length=M):=by
 rintro m hm t ⟨y,hp⟩ B;have J:=o i[m] (List.getElem_mem hm);have j:0<h i[m].id+Spn.DD (i.take m) i[m].id\/i[m].id=0:=by omega
 obtain⟨E,O⟩:=y.idle j;refine⟨(y.small B FY.ne (H:=1000000000) (fun x=>?_) (by omega)).le (by omega),E,by omega,(y.hold B j).congr fun x=>?_,by rw[Tab.WE];exact hp⟩
 .have:=Spn.Jr i m x;have:=Spn.LD i x;have:=hb x;omega
 .rw[Spn.Km i hm];omega
theorem MR{f:Int->List Attr}{h:Int->Nat}{IX:List Spn}{M:Nat}(E:M<=1000000000)(j:∀x,Spn.DD IX x<=h x)(hb:∀x,h x<=1000000000)(ks:List DKey) :
  ∀(m:Nat) (hm:m<IX.length) (t:Tab (List Attr)),(t.Holds [] f (fun x=>h x-Spn.DD (IX.take m) x)/\t.places.length=M)->t.Inv (FY ks)->
   t.Small 1099511627/\0<=IX[m].id/\IX[m].id<=1099511627/\((t.release [] IX[m].id).Holds [] f (fun x=>h x-Spn.DD (IX.take (m+1)) x)/\(t.release [] IX[m].id).places.length=M):=by
 rintro m hm t ⟨o,hp⟩ y;have h1:=Spn.Km IX hm IX[m].id;rw[if_pos rfl] at h1;have I:=Spn.Jr IX (m+1) IX[m].id;have J:=j IX[m].id;have i:0<h IX[m].id-Spn.DD (IX.take m) IX[m].id:=by omega
 obtain⟨B,O⟩:=o.idle (.inl i);refine⟨(o.small y FY.ne (H:=1000000000) (fun x=>?_) (by omega)).le (by omega),B,by omega,(o.free y FY.ne i).congr fun x=>?_,by rw[Tab.Kq];exact hp⟩
 .have:=hb x;omega
 .rw[Spn.Km IX hm];omega
theorem Rp{i:Nat->Prop}{id:Int}(j:Ec i W a.t σ t)(o:t.Small 1099511627)(h0:0<=id)(h1:id<=1099511627):AB prog 152 [.pointer (some ⟨a.t,0,none⟩),.int .i64 id] (fun _ w'=>Ig i W w' a.t σ (t.hold [] id)) W:=
 AA (TZ j (o.le (by omega)) (by omega) (by omega)) fun _ _ h=>h.2
theorem JS{i:Nat->Prop}{id:Int}(j:Ec i W a.t σ t)(o:t.Small 1099511627)(h0:0<=id)(h1:id<=1099511627):AB prog 79 [.pointer (some ⟨a.t,0,none⟩),.int .i64 id] (fun _ w'=>Ig i W w' a.t σ (t.release [] id)) W:=
 AA (T5 j o (by omega) (by omega)) fun _ _ h=>h.2
theorem Jk{S:Nat->Prop}{v:Value}{row:List Spn}{i j:Nat}{f:Int->List Attr}{ex:Int->Nat}
 (h:HB k w0 F W a σ most rs l2 L t N)(hp:Spn.G1 none l2)(hh:t.Holds [] f fun x=>Spn.rn x none (l2.flatMap Spn.u)+ex x)
 (X:i<=j)(hj:j<=(l2.flatMap Spn.u).length)(hv:BH S 2 DV W v row)(hS:∀x,S x->¬F x)
 (I:∀s∈row,0<s.n/\(0<ex s.id\/s.id=0))(hz:(l2.flatMap Spn.u).length+(row.flatMap Spn.u).length<=100000000)(bc:∀x,ex x<=100000000)(hN:N<=1000000000)(a1:t.places.length<=1000000000) :
  AB prog 78 [.pointer (some ⟨a.b,0,none⟩),.int .i64 (i:Int),.int .i64 (j:Int),v] (fun v' w'=>v'=.tuple #[]/\∃t',Co { k with s:=false } w0 F W w' a σ most rs (Spn.kd.Bn l2 i j row) L t' (N+row.length+4)/\t'.Holds [] f (fun x=>Spn.rn x none ((Spn.kd.Bn l2 i j row).flatMap Spn.u)+ex x)/\t'.places.length=t.places.length) W:=by
 apply aH;obtain⟨w1,w2,w3,w4⟩:=Spn.eW row hp X hj;have cd:row.length<=(row.flatMap Spn.u).length:=by
  clear hv hz w1 w2 w3 w4;induction row with
  |nil=>exact Nat.le_refl _
  |cons s row ih=>
   have:=(I s (by simp)).1;have:=ih fun s T=>I s (by simp[T]);rw[List.flatMap_cons,List.length_append,Spn.u,List.length_replicate,List.length_cons];omega
 have ch:=Spn.E0 hp;have e0:(if(0:Int)>(i:Int)-1 then(0:Int) else(i:Int)-1)=((i-1:Nat):Int):=by split<;>omega
 have bd:∀x,Spn.rn x none (l2.flatMap Spn.u)<=(l2.flatMap Spn.u).length:=fun x=>Spn.PI x none _;have a6:EH l2=(l2.flatMap Spn.u).length:=DY l2;have a7:EH row=(row.flatMap Spn.u).length:=DY row;have a8:∀s∈row,0<=s.id:=fun s T=>(hh.idle (id:=s.id) (by have:=(I s T).2;omega)).1;have c9:EH (Spn.kd.Bn l2 i j row)+(j-i)=EH l2+EH row:=(RI (l:=l2) (L:=row) (by omega) X (by omega)).1;generalize hn:(l2.flatMap Spn.u).length=n at *;generalize cn:(row.flatMap Spn.u).length=nr at *;rw[Av,Gu,wrap64 (by omega) (by omega),e0,AR,wrap64 (by omega) (by omega)];refine AH ?_;refine Bm (h.box.1.cells 3 _ rfl) ?_;obtain⟨Fs,y,E,put⟩:=h.D0;refine AA (Wn y) ?_;rintro _ W1 ⟨rfl,bt,cv,ak,V,m1⟩;obtain⟨F1,f1,h1,M1⟩:=put (e:=false) m1 V (.inl ⟨bt,ak⟩) (Nat.le_refl _);clear y put E V ak;have bk:BH (fun x=>S x/\x<W.heap.size) 2 DV W1 v row:=(hv.G6 (by decide)).mod M1 (fun x _ o e=>hS x o.1 e) (by decide) fun _ _ h=>h;have al:∀x,S x/\x<W.heap.size->¬F1 x:=fun x o e=>by
  rcases f1 x e with e|e
  .exact hS x o.1 e
  .omega
 have an:(if(EH l2:Int)<(j:Int)+1 then(EH l2:Int) else(j:Int)+1)=((min (j+1) n:Nat):Int):=by rw[a6];split<;>omega
 rw[Gl,an];refine AH ?_;refine Bm (h1.box.1.cells 3 _ rfl) ?_;obtain⟨Fs,y,E,put⟩:=h1.D0;obtain⟨bt,y⟩:=y.t;refine AA (JF (i:=i-1) (j:=min (j+1) n) y (by omega) (by omega) (by omega) (by omega) (by omega)) ?_;rintro _ W2 ⟨wv,rfl,oW,g2⟩;refine BQ ?_;generalize ca:Spn.kd.over l2 (i-1) (min (j+1) n)=IX at *;have h2:=h1.grow g2;refine AH ?_;refine Bm (h2.box.1.cells 3 _ rfl) ?_;clear y put E;obtain⟨Fs,y,E,put⟩:=h2.D0;obtain⟨bt,y⟩:=y.t;have av:=bk.grow g2 (by decide) fun _ _ h=>h;refine AA (Rk y (L:=row) (by omega) X (by omega) (by omega) av (fun x o e=>al x o (E x e)) a8) ?_;rintro _ W3 ⟨_,cx,k1,k2,k3,k4⟩;obtain⟨F3,f3,h3,M3⟩:=put (e:=false) k4 k2 (.inl ⟨bt,k3⟩) (N':=N+row.length+4) (by omega);clear y put E k1 k2 k3;generalize bl:Spn.kd.Bn l2 i j row=l3 at *;have z1:=M1.size;have z2:=g2.size;have z3:=M3.size;have O:=AF.BI oW;have Q:∀x,F1 x->x<W1.heap.size:=fun x o=>(h1.hl x o).2.1;have ax:∀x,wv.ownBlock=some x->¬F3 x:=fun x o e=>by
  have:=O x o;rcases f3 x e with e|e
  .have:=Q x e;omega
  .omega
 have ay:AF W1.heap.size 108 2 DV W3 wv IX:=AF.mod (R':=DV) oW M3 (fun x o e=>by have:=O x o;have:=Q x e;omega) fun _ _ _ h=>h;have b0:BH (fun x=>S x/\x<W.heap.size) 2 DV W3 v row:=av.mod M3 (fun x _ o e=>al x o e) (by decide) fun _ _ h=>h;have b1:=AF.sl ay;obtain⟨ra,rc,ev,_⟩:=b0.shape;obtain⟨wa,wc,ew,_⟩:=b1.shape;have bp:((min (j+1) n:Nat):Int)+((i:Int)-(j:Int))=((min (j+1) n-(j-i):Nat):Int):=by omega
 rw[Av,wrap64 (by omega) (by omega),AR,wrap64 (by omega) (by omega),bp];subst ev;rw[AS];refine Ae (fun vs W'=>∃m:Nat,m<=row.length/\vs=[.int .i64 ((min (j+1) n-(j-i)+EH (row.take m):Nat):Int),.int .i64 m]/\Grow W3 W') (fun vs _=>row.length-Dr vs 1) ⟨0,Nat.zero_le _,by simp[EH,Tr.sz],Mod.refl _ _⟩ ?_;rintro vs W4 ⟨m,hm,rfl,Z⟩ _;simp only[GA];refine Hq (fun dk=>?_) fun dT=>?_
 .have J:m<row.length:=by omega
  have bs:row.take (m+1)=row.take m++[row[m]]:=by rw[List.take_add_one];simp[J]
  have e1:EH row=EH (row.take (m+1))+EH (row.drop (m+1)):=by unfold EH;rw[<-Tr.CG,List.take_append_drop]
  have b2:EH (row.take (m+1))=EH (row.take m)+row[m].n:=by rw[bs];unfold EH;rw[Tr.CG];simp[Tr.sz,Spn.kd]
  obtain⟨p,r,rfl,e2,hr,hc,rfl⟩:=b0.get J;refine AY J (Ah (vs:=row[m].cells) rfl (fun j u hu=>by rw[Addr.add_add];exact Z.cell (hc j u hu) fun h=>h) ?_);refine Bx.new (vs:=row[m].cells) rfl rfl (Spn.one _) fun e3 w7 hb g7 B=>?_;refine Bm (B.cells 0 _ rfl) ?_;rw[AR,wrap64 (by omega) (by omega),AR,AQ (by omega)];refine⟨⟨m+1,J,?_,Z.trans g7⟩,by rw[BL,BL];omega⟩;rw[b2];congr 2
  omega
 obtain rfl:m=row.length:=by omega
 rw[List.take_length,a7];have h4:=h3.grow Z;have z4:=Z.size;refine AH ?_;refine Bm (h4.box.1.cells 3 _ rfl) ?_;obtain⟨Fs,y,E,put⟩:=h4.D0;obtain⟨bt,y⟩:=y.t;have ba:l3.length<=EH l3:=by rw[DY,<-bl];exact Spn.E0 (Spn.HZ i j row hp)
 refine AA (JF (i:=i-1) (j:=min (j+1) n-(j-i)+nr) y (by omega) (by omega) (by omega) (by omega) (by omega)) ?_;rintro _ W5 ⟨nv,rfl,oN,g5⟩;clear y put E;refine BQ ?_;generalize cc:Spn.kd.over l3 (i-1) (min (j+1) n-(j-i)+nr)=U at *;have h5:=h4.grow g5;have z5:=g5.size;have b3:=AF.BI oN;have Y:∀x,F3 x->x<W3.heap.size:=fun x o=>(h3.hl x o).2.1;have b4:=AF.sl oN;obtain⟨na,nc,en,_⟩:=b4.shape;subst en;rw[AS];have b5:∀x,Spn.rn x none (l2.flatMap Spn.u)+ex x+U.length<=1000000000:=fun x=>by have:=bd x;have:=bc x;omega
 refine Ji (P:=fun m t=>t.Holds [] f (fun x=>(Spn.rn x none (l2.flatMap Spn.u)+ex x)+Spn.DD (U.take m) x)/\t.places.length=_) (fun hT T h0 h1=>Rp hT T h0 h1) b4 (fun x o e=>by have:=b3 x o.2;have:=Y x e;omega) (by omega)
  (Sb a1 (fun s T=>?_) b5 σ.ks) h5 ⟨hh.congr fun x=>by simp[Spn.DD],rfl⟩ ?_
 .rcases w2 s.id (Spn.NL T) with e|e
  .have:=Spn.IB (p:=none) e (by simp);omega
  .obtain⟨s',bx,e'⟩:=Spn.SJ e;have:=(I s' bx).2;rw[e'] at this;omega
 rintro W6 t6 ⟨F6,f6,h6,M6⟩ ⟨b6,b7⟩;rw [List.take_length] at b6;have z6:=M6.size;have c4:AF W1.heap.size 108 2 DV W5 wv IX:=AF.mod (R':=DV) ay (Z.trans g5) (fun _ _ h=>h) fun _ _ _ h=>h;have c6:AF W1.heap.size 108 2 DV W6 wv IX:=AF.mod (R':=DV) c4 M6 (fun x o e=>ax x o e) fun _ _ _ h=>h;have b8:=AF.sl c6;subst ew;rw [AS];refine Ji (P:=fun m t=>t.Holds [] f (fun x=>(Spn.rn x none (l2.flatMap Spn.u)+ex x+Spn.DD U x) - Spn.DD (IX.take m) x)/\t.places.length=_) (fun hT T h0 h1=>JS hT T h0 h1) b8 (fun x o e=>by
   rcases f6 x e with e|e
   .exact ax x o.2 e
   .have:=O x o.2;omega) (by omega)
  (MR (b7▸a1) (fun x=>by have:=w1 x;omega) (fun x=>by have:=b5 x;have:=Spn.LD U x;omega) σ.ks) h6 ⟨b6.congr fun x=>by simp[Spn.DD],rfl⟩ ?_
 rintro W7 t7 c7 ⟨b9,c8⟩;rw[List.take_length] at b9;refine⟨trivial,t7,?_,b9.congr fun x=>by have:=w1 x;omega,c8.trans b7⟩;refine Co.next f1 M1 (Co.step g2 (Co.next f3 M3 (Co.step (Z.trans g5) (Co.next f6 M6 ?_))));exact c7
end
end Go.Proofs.YtmdhibffnkhcnaaGreatDoor
namespace Go.Proofs.YtmdhibffnkhcnaaGreatDoor
open Go Go.K Proofs.Tryz
def Bu(d:List Cel):List (List Attr):=(d.filter fun c=>decide (c.r=10)).map (·.set)
abbrev An(d:List Cel):List Int:=d.map Cel.r
def cellOf(ks:List DKey)(set:List Attr)(r:Int):Cel:=⟨r,Dn ks (decide (r=10)) set⟩
theorem DP(x y:List Cel):Bu (x++y)=Bu x++Bu y:=by simp[Bu]
theorem Cx(d:List Cel):(Bu d).length=BX (An d):=by
 induction d with
 |nil=>rfl
 |cons c d i=>
  have e:Bu (c::d)=(if c.r=10 then[c.set] else[])++Bu d:=by by_cases h:c.r=10<;>simp[Bu,h]
  have j:BX (An (c::d))=(if c.r=10 then 1 else 0)+BX (An d):=by
   have:An (c::d)=[c.r]++An d:=rfl;rw[this,E8];by_cases h:c.r=10<;>simp[BX,h]
  rw[e,j,List.length_append,i];split<;>rfl
theorem Cz(d:List Cel)(i:Nat):Bu (d.take i)=(Bu d).take (BX ((An d).take i))/\Bu (d.drop i)=(Bu d).drop (BX ((An d).take i)):=by
 have h:=DP (d.take i) (d.drop i);rw[List.take_append_drop] at h;have hl:(Bu (d.take i)).length=BX ((An d).take i):=by rw[Cx,An,List.map_take]
 rw[h];exact⟨(List.take_left' hl).symm,(List.drop_left' hl).symm⟩
theorem Yp(ks:List DKey)(set:List Attr)(rs:List Int):Bu (rs.map (cellOf ks set))=List.replicate (BX rs) (Dn ks true set):=by
 induction rs with
 |nil=>rfl
 |cons r rs i=>
  have e:r::rs=[r]++rs:=rfl;rw[e,List.map_append,DP,i,E8];by_cases h:r=10
  .subst h;rw[<-List.replicate_append_replicate];simp[Bu,cellOf,BX]
  .simp[Bu,cellOf,BX,h]
theorem cg(ks:List DKey)(set:List Attr)(rs:List Int):An (rs.map (cellOf ks set))=rs:=by
 simp[An,cellOf,Function.comp_def]
def cj(f:Int->List Attr)(z:List (Cel×Int)):Prop:=∀p∈z,(p.1.r=10->p.2=0)/\(p.1.r≠10->f p.2=p.1.set)
def Fv(k:TxK)(w0:World)(F:Nat->Prop)(W:World)(a:TxA)(σ:SKs)(most:Int)(d:List Cel)(N:Nat):Prop:=
 ∃(z:List (Cel×Int)) (l2:List Spn) (t:Tab (List Attr)) (f:Int->List Attr),z.map Prod.fst=d/\HB k w0 F W a σ most (An d) l2 (Bu d) t N/\Spn.G1 none l2/\l2.flatMap Spn.u=z.map Prod.snd/\t.Holds [] f (fun x=>Spn.rn x none (z.map Prod.snd))/\cj f z/\t.places.length<=N
def Jv(k:TxK)(w0:World)(F:Nat->Prop)(W W':World)(a:TxA)(σ:SKs)(most:Int)(d:List Cel)(N:Nat):Prop:=∃F',(∀x,F' x->F x\/W.heap.size<=x)/\Fv k w0 F' W' a σ most d N/\Mod F W W'
theorem QF{e:Bool}{F:Nat->Prop}{W:World}{b N i:Nat}{l:List Ck}(h:IS e Au.toAvT F FV W b l N)(j:i<=(BV l).length)(y:(BV l).length<=1099511627776) :
  AB prog 53 [.pointer (some ⟨b,0,none⟩),.int .i64 (i:Int)] (fun v' w'=>v'=.tuple #[.int .i64 (BX ((BV l).take i):Int),.int .i64 0]/\∃bt F',DF Au.toAvT F' FV w' b bt l N/\(∀x,F' x->F x\/W.heap.size<=x)/\Mod F W w') W:=by
 rcases h with⟨bt,h⟩|⟨_,B,rfl,o,J⟩
 .refine AA (MA h j y) ?_;rintro _ w ⟨rfl,g⟩;exact⟨rfl,bt,F,h.grow g,fun _ h=>.inl h,g.mono fun _ _ h=>h.elim⟩
 .obtain rfl:i=0:=by simpa using j
  refine AA (PN B) ?_;rintro _ w ⟨rfl,bt,F',k1,k2,E⟩;exact⟨rfl,bt,F',k1.up (Nat.zero_le _),fun x I=>(k2 x I).imp (fun e=>(o x).2 e) id,E.mono fun x _ e=>(o x).2 e⟩
theorem P2{e:Bool}{F C S D:Nat->Prop}{W:World}{b N k:Nat}{L R:List (List Attr)}{v:Value}(h:IS e Aw.toAvT F C W b L N)(Q:N<=100000000000)(hk:k<=L.length)(hl:L.length+R.length<=536870912)(I:BH S 1 (CW D) W v R)(T:∀x,S x\/D x->x≠b)(J:∀x∈R,x.length*48<=140737488355328) :
  AB prog 76 [.pointer (some ⟨b,0,none⟩),.int .i64 (k:Int),v] (fun v' w'=>∃bt F' j,(∀x,F' x\/j x->(F x\/C x)\/W.heap.size<=x)/\DF Aw.toAvT F' j w' b bt (L.take k++R++L.drop k) (N+R.length+4)/\Mod F W w') W:=by
 rcases h with⟨bt,h⟩|⟨_,U,rfl,O,V⟩
 .refine AA (Rx h Q hk hl I J) ?_;rintro _ w ⟨rfl,F',j,_,_,o,y,B,E⟩;exact ⟨bt,F',j,fun x i=>by
   rcases i with i|i
   .exact(o x i).imp .inl id
   .exact (y x i).imp .inr id,B,E⟩
 .obtain rfl:k=0:=by simpa using hk
  refine AA (O1 U (by simpa using hl) I T J) ?_;rintro _ w ⟨rfl,bt,F',j,o,y,B,E⟩;refine⟨bt,F',j,fun x i=>?_,?_,E.mono fun x _ e=>(O x).2 e⟩
  .rcases i with i|i
   .exact(o x i).imp (fun e=>.inl ((O x).2 e)) id
   .exact .inr (y x i)
  .have e:([]:List (List Attr)).take 0++R++([]:List (List Attr)).drop 0=R:=by simp
   rw[e];exact B.up (by omega)
section
variable {k:TxK}{w0:World}{F:Nat->Prop}{W:World}{a:TxA}{σ:SKs}{most:Int}{rs:List Int}{l2:List Spn}{L:List (List Attr)}{t:Tab (List Attr)}{N:Nat}{d:List Cel}
theorem VV{e:Bool}{Fr:Nat->Prop}{i N:Nat}{l:List Ck}{sv:Value}{b r s p t:Nat}(j:Bx W b (TQ sv most r s p t))(h:IS e Au.toAvT Fr FV W r l N)(o:i<=(BV l).length)(y:(BV l).length<=1099511627776) :
  AB prog 50 [.pointer (some ⟨b,0,none⟩),.int .i64 (i:Int)] (fun v' w'=>v'=.int .i64 (BX ((BV l).take i):Int)/\∃bt F',DF Au.toAvT F' FV w' r bt l N/\(∀x,F' x->Fr x\/W.heap.size<=x)/\Mod Fr W w') W:=by
 apply TS;refine AH ?_;refine Bm (j.cells 2 _ rfl) ?_;refine AA (QF h o y) ?_;rintro _ B ⟨rfl,h1⟩;exact CJ (vs:=[_,_]) (by rfl) (CJ (vs:=[_,_]) (by rfl) ⟨rfl,h1⟩)
theorem OI{S:Nat->Prop}{at':Nat}{rv sv:Value}{rs:List Int}{set:List Attr}(h:Fv k w0 F W a σ most d N)(hT:El w0)(ca:at'<=d.length)(hr:Lo S W rv rs)(Z:Cc S W sv set)(a8:∀x,S x->¬F x)
 (hm:∀r∈rs,Dy r)(a1:Bb σ.ks (Dn σ.ks false set)=0)(hI:∀x∈set,Le x)(eN:set.length<=64)(hz:d.length+rs.length<=10000000)(hN:N+4*rs.length+20<=1000000000) :
  AB prog 40 [.pointer (some ⟨a.b,0,none⟩),.int .i64 (at':Int),rv,sv] (fun v' w'=>v'=.tuple #[]/\Jv .f w0 F W w' a σ most (d.take at'++rs.map (cellOf σ.ks set)++d.drop at') (N+4*rs.length+20)) W:=by
 obtain⟨z,l2,t,f,b1,hM,hp,hu,hh,cc,eR⟩:=h;have cd:z.length=d.length:=by rw[<-b1,List.length_map]
 have b2:(An d).length=d.length:=List.length_map _;apply aK;have gd:Grow W W.drew:=Mod.drew _ _;have V:=hM.grow gd;refine Ag (fun q y=>q=10/\F y) ?_;refine AH ?_;rw[AG,AI];refine Aa ⟨V.box.1.cells 5 _ rfl,fun j hj e=>by obtain⟨rfl,_⟩:=e;exact absurd hj (by decide)⟩ ?_;refine AH ?_;rw[AG,AI];refine Aa ⟨V.box.1.cells 0 _ rfl,fun j hj e=>by obtain⟨rfl,_⟩:=e;exact absurd hj (by decide)⟩ ?_;have ch:=Z.grow gd (by decide) fun _ _ h=>h;have cn:=Z.G6 (by decide);refine AA (Kn (b:=false) V.IY.1 ch (by omega)) ?_;rintro eX W1 ⟨cx,g1⟩;refine⟨g1.mono fun _ _ h=>h.elim,?_⟩;have ak:=gd.trans g1;have b3:=V.grow g1;have zd:=gd.size;have z1:=g1.size;obtain⟨Ft,al,b4,put⟩:=b3.Pa;have b5:=hM.hl;have dk:t.Small 1099511627:=(hh.small al.inv FY.ne (H:=1000000000) (fun x=>by have:=Spn.PI x none (z.map Prod.snd);rw[List.length_map] at this;omega) (by omega)).le (by omega);refine AA (Qq al dk cx (hT.grow b3.g) (fun x o=>hI x ((List.mem_filter.1 o).1)) (fun x o=>?_) (fun x o e=>?_)) ?_
 .have:=b5 x (b4 x o);have:=hT.size;exact⟨by omega,by omega⟩
 .have:=b5 x (b4 x e);omega
 rintro _ W2 (⟨h0,_⟩|⟨_,id,t2,rfl,a6,hA⟩)
 .exact absurd a1 h0
 obtain⟨F2,f2,O,M2⟩:=put hA;clear put;refine⟨M2.mono fun x _ o=>⟨rfl,o⟩,?_⟩;refine BQ ?_;obtain⟨f',dT,b6,e4⟩:=hh.added al.inv a6 fun X=>⟨X,fun x o=>hI x ((List.mem_filter.1 o).1),a1⟩;have eA:=a6.pl;refine AH ?_;refine Bm (O.box.1.cells 0 _ rfl) ?_;have z2:=M2.size;have e5:Cc (fun x=>S x/\x<W.heap.size) W2 sv set:=(cn.grow ak (by decide) fun _ _ h=>h).mod M2 (fun x _ o e=>a8 x o.1 e) (by decide) fun _ _ h=>h;refine AA (Kn (b:=true) O.IY.1 e5 (by omega)) ?_;rintro fa W3 ⟨e6,g3⟩;have e7:=O.grow g3;have z3:=g3.size;have an:Lo (fun x=>S x/\x<W.heap.size) W3 rv rs:=(((hr.G6 (by decide)).grow ak (by decide) fun _ _ h=>h).mod M2 (fun x _ o e=>a8 x o.1 e) (by decide) fun _ _ h=>h).grow g3 (by decide) fun _ _ h=>h;obtain⟨ra,rc,e8,_⟩:=an.shape;have b7:Aj rv=Aj (.slice ra rs.length rc):=by rw[e8]
 rw[b7,AS];refine Ul an e6 (by omega) fun row cv W5 oR oC X g5=>?_;simp only[GA];have e9:=e7.grow g5;have z5:=g5.size;have b8:=O.hl;have J:=AF.BI oR;have b9:=AF.BI oC;have ea:Lo (fun x=>S x/\x<W.heap.size) W5 rv rs:=an.grow g5 (by decide) fun _ _ h=>h;have I:Grow W5 W5.drew:=Mod.drew _ _;have fe:=I.size;have Q:=e9.grow I;obtain⟨l1,Fr,av,hO,ec,put⟩:=Q.G5;have ba:at'<=(BV l1).length:=by rw[av,An,List.length_map];exact ca
 have ff:(BV l1).length=d.length:=by rw[av,An,List.length_map]
 refine Ag (fun q y=>(q=6/\Fr y)\/(q=8/\(F2 y\/W5.heap.size<=y))) ?_;refine AH ?_;rw [AG,AI];refine Aa ⟨Q.box.1.cells 4 _ rfl,fun j hj e=>by
  rcases e with⟨rfl,e⟩|⟨rfl,_⟩
  .exact(ec _ e).2 rfl
  .exact absurd hj (by decide)⟩ ?_
 refine AA (VV Q.box.1 hO ba (by omega)) ?_;rintro _ W6 ⟨rfl,ed,fg,ee,bc,m6⟩;refine⟨m6.mono fun x _ o=>.inl ⟨rfl,o⟩,?_⟩;obtain⟨F6,f6,bd,M6⟩:=put (e:=false) m6 bc (.inl ⟨ed,ee⟩) (Nat.le_refl _);clear put;rw[av] at bd ⊢;have z6:=M6.size;obtain⟨Fp,Cp,hO,ef,put⟩:=bd.para;have B:∀x,F2 x->x<W2.heap.size:=fun x o=>(b8 x o).2.1;have eh:AF W3.heap.size 43 1 (CW fun x=>W2.heap.size<=x/\x<W3.heap.size) W6 cv (List.replicate (BX rs) (Dn σ.ks true set)):=
  AF.mod (AF.mod (R':=CW fun x=>W2.heap.size<=x/\x<W3.heap.size) oC I (fun _ _ h=>h) fun r y _ hy=>Aw.BR hy I fun _ _ _ h=>h) M6 (fun x o e=>by have:=b9 x o;have:=B x e;omega) fun r y _ hy=>Aw.BR hy M6 fun x _ o e=>by have:=B x e;omega
 have fh:a.p<W2.heap.size:=by
  obtain⟨fi,fj,bk,eB,_⟩:=O.para;exact bk.lt _ (.inl bk.fb)
 refine AA (P2 (k:=BX ((An d).take at')) hO (by omega) (by rw [Cx];exact List.Sublist.count_le _ (List.take_sublist _ _)) (by rw [Cx,List.length_replicate];have h1:=DB (An d);have h2:=DB rs;rw [b2] at h1;omega) (AF.sl eh) (fun x o e=>by
   subst e;rcases o with o|o
   .have:=o.1;omega
   .omega) (fun x o=>by
   rw [List.eq_of_mem_replicate o];have:(Dn σ.ks true set).length<=set.length:=List.length_filter_le _ _;omega)) ?_
 rintro _ W7 ⟨ej,fk,fo,ek,bl,m7⟩;rw[List.length_replicate] at bl;have Y:∀x,F6 x->F2 x\/W5.heap.size<=x:=fun x o=>(f6 x o).imp (fun h=>h) fun h=>by omega
 refine⟨m7.mono fun x _ o=>.inr ⟨rfl,Y x (ef x (.inl o))⟩,?_⟩;have fp:=DB rs;obtain⟨F7,f7,bp,M7⟩:=put (e:=false) m7 ek (.inl ⟨ej,bl.up (N':=N+rs.length+4) (by omega)⟩) (by omega);clear put;have z7:=M7.size;have T:∀x,F7 x->F2 x\/W5.heap.size<=x:=fun x o=>by
  rcases f7 x o with e|e
  .exact Y x e
  .exact .inr (by omega)
 have U:∀x,S x/\x<W.heap.size->¬F2 x:=fun x o e=>by
  rcases f2 x e with e|e
  .exact a8 x o.1 e
  .omega
 have bs:∀x,S x/\x<W.heap.size->¬F6 x:=fun x o e=>by
  rcases Y x e with e|e
  .exact U x o e
  .omega
 have eC:∀x,S x/\x<W.heap.size->¬F7 x:=fun x o e=>by
  rcases T x e with e|e
  .exact U x o e
  .omega
 refine AH ?_;refine Bm (bp.box.1.cells 2 _ rfl) ?_;obtain⟨l7,fq,bx,hO,eI,put⟩:=bp.G5;obtain⟨en,hO⟩:=hO.t;have eL:(BV l7).length=d.length:=by rw[bx,An,List.length_map]
 have ep:Lo (fun x=>S x/\x<W.heap.size) W7 rv rs:=((ea.grow I (by decide) fun _ _ h=>h).mod M6 (fun x _ o e=>U x o e) (by decide) fun _ _ h=>h).mod M7 (fun x _ o e=>bs x o e) (by decide) fun _ _ h=>h;refine AA (Ss hO (by omega) (by omega) (by omega) ep hm) ?_;rintro _ W8 ⟨rfl,fs,l8,_,k2,k3,k4,k5⟩;have fu:=LX rs;obtain⟨F8,f8,c4,M8⟩:=put (e:=false) k5 k2 (.inl ⟨en,k3.up (N':=N+2*rs.length+8) (by omega)⟩) (by omega);clear put;rw[k4,bx] at c4;have z8:=M8.size;obtain⟨r1,r2,_,_,r5⟩:=LI id rs;have r6:=congrArg List.length r1;rw[List.length_map] at r6;have er:=congrArg List.length hu;rw[List.length_map,cd] at er;have et:AF W3.heap.size 108 2 DV W8 row (rowOf id rs).1:=
  AF.mod (R':=DV) (AF.mod (R':=DV) (AF.mod (R':=DV) (AF.mod (R':=DV) oR I (fun _ _ h=>h) fun _ _ _ h=>h) M6 (fun x o e=>by have:=J x o;have:=B x e;omega) fun _ _ _ h=>h) M7 (fun x o e=>by
   have:=J x o;rcases Y x e with e|e
   .have:=B x e;omega
   .omega) fun _ _ _ h=>h) M8 (fun x o e=>by
   have:=J x o;rcases T x e with e|e
   .have:=B x e;omega
   .omega) fun _ _ _ h=>h
 have c6:∀s∈(rowOf id rs).1,s.id=id\/s.id=0:=fun s Z=>by
  have:=Spn.JP Z (r2 s Z);rw[r1] at this;obtain⟨r,_,e⟩:=List.mem_map.1 this;rw[<-e];unfold FU;split
  .exact .inr rfl
  .exact .inl rfl
 refine AA (Jk (f:=f') (ex:=fun x=>if x=id then 1 else 0) (i:=at') (j:=at') c4 hp (dT.congr fun x=>by rw[hu]) (Nat.le_refl _) (by omega) (AF.sl et) (fun x o e=>?_) (fun s Z=>⟨r2 s Z,?_⟩) (by omega) (fun x=>by split<;>omega) (by omega) (by omega)) ?_
 .have:=J x o.2;rcases f8 x e with e|e
  .rcases T x e with e|e
   .have:=B x e;omega
   .omega
  .omega
 .rcases c6 s Z with e|e
  .exact .inl (by rw[if_pos e];omega)
  .exact .inr e
 rintro _ W9 ⟨rfl,t9,⟨F9,f9,c7,M9⟩,ax,fv⟩;refine AH ?_;refine Bm (c7.box.1.cells 5 _ rfl) ?_;obtain⟨fw,ay,_,put⟩:=c7.Pa;have b0:((Spn.kd.Bn l2 at' at' (rowOf id rs).1).flatMap Spn.u)=(z.map Prod.snd).take at'++rs.map (FU id)++(z.map Prod.snd).drop at':=by rw[Spn.Dj.Bn l2 _ (Nat.le_refl at'),hu,r1]
 have eu:=congrArg List.length b0;simp only[List.length_append,List.length_take,List.length_drop,List.length_map] at eu;have a7:0<Spn.rn id none ((Spn.kd.Bn l2 at' at' (rowOf id rs).1).flatMap Spn.u)+(if id=id then 1 else 0):=by rw[if_pos rfl];omega
 obtain⟨q1,q2⟩:=ax.idle (.inl a7);refine AA (JS ay ((ax.small ay.inv FY.ne (H:=1000000000) (fun x=>by have:=Spn.PI x none ((Spn.kd.Bn l2 at' at' (rowOf id rs).1).flatMap Spn.u);split<;>omega) (by omega)).le (by omega)) q1 (by omega)) ?_;rintro _ fx c8;have ew:=Co.step ak (Co.next f2 M2 (Co.step (g3.trans (g5.trans I)) (Co.next f6 M6 (Co.next f7 M7 (Co.next f8 M8 (Co.next f9 M9 (put c8)))))));have c9:=ax.free ay.inv FY.ne a7;obtain⟨F',w1,w2,w3⟩:=ew.up (N':=N+4*rs.length+20) (by omega);refine⟨trivial,F',w1,⟨z.take at'++rs.map (fun r=>(cellOf σ.ks set r,FU id r))++z.drop at',Spn.kd.Bn l2 at' at' (rowOf id rs).1,_,f',?_,?_,Spn.HZ at' at' _ hp,?_,c9.congr fun x=>?_,?_,?_⟩,w3⟩
 .rw[List.map_append,List.map_append,List.map_take,List.map_drop,b1,List.map_map];rfl
 .have e1:An (d.take at'++rs.map (cellOf σ.ks set)++d.drop at')=(An d).take at'++rs++(An d).drop at':=by
   rw[An,List.map_append,List.map_append,List.map_take,List.map_drop];show _++An _++_=_;rw[cg]
  have e2:Bu (d.take at'++rs.map (cellOf σ.ks set)++d.drop at')=(Bu d).take (BX ((An d).take at'))++List.replicate (BX rs) (Dn σ.ks true set)++(Bu d).drop (BX ((An d).take at')):=by
   rw[DP,DP,Yp,(Cz d at').1,(Cz d at').2]
  rw[e1,e2];exact w2
 .rw[b0,List.map_append,List.map_append,List.map_take,List.map_drop,List.map_map];rfl
 .have e3:(z.take at'++rs.map (fun r=>(cellOf σ.ks set r,FU id r))++z.drop at').map Prod.snd=(Spn.kd.Bn l2 at' at' (rowOf id rs).1).flatMap Spn.u:=by rw[b0,List.map_append,List.map_append,List.map_take,List.map_drop,List.map_map];rfl
  rw[e3];split<;>omega
 .intro p E;have G6:∀p∈z,(p.1.r=10->p.2=0)/\(p.1.r≠10->f' p.2=p.1.set):=fun p E=>by
   obtain⟨o1,o2⟩:=cc p E;refine⟨o1,fun X=>?_⟩;rw[e4,o2 X];exact Spn.IB (List.mem_map.2 ⟨p,E,rfl⟩) (by simp)
  rcases List.mem_append.1 E with E|E
  .rcases List.mem_append.1 E with E|E
   .exact G6 p (List.mem_of_mem_take E)
   .obtain⟨r,_,rfl⟩:=List.mem_map.1 E;refine⟨fun e=>?_,fun e=>?_⟩
    .have e':r=10:=e;simp[FU,e']
    .have e':r≠10:=e;simp[FU,e',cellOf,b6]
  .exact G6 p (List.mem_of_mem_drop E)
 .rw[Tab.Kq];omega
end
end Go.Proofs.YtmdhibffnkhcnaaGreatDoor
namespace Go.K
open Go
theorem AF.QH{α:Type}{B e k:Nat}{R:World->List Value->α->Prop}{w:World}{cs:List Value}{x:α}(o:B<=w.heap.size)(j:cs.length=k)(h1:∀u∈cs,u.oneCell'=true)(E:R (w.alloc (.cells cs.toArray e)) cs x) :
  AF B e k R (w.alloc (.cells cs.toArray e)) (.slice (some ⟨w.heap.size,0,none⟩) 1 1) [x]:=by
 refine⟨[cs],⟨by simp[j],.inr ⟨w.heap.size,1,cs.toArray,rfl,o,heap_alloc_new w _,by simp,by simp[maxLen],by simp[j],by simp[<-j]⟩⟩,rfl,fun r hr=>?_,fun i r y hr I=>?_⟩
 .simp only[List.mem_singleton] at hr;subst hr;exact⟨j,h1⟩
 .have J:i=0:=by have:=(List.getElem?_eq_some_iff.1 hr).1;simp at this;exact this
  subst J;cases hr;cases I;exact E
end Go.K
namespace Go.Proofs.YtmdhibffnkhcnaaGreatDoor
open Go Go.K Proofs.Tryz
section
variable {k:TxK}{w0:World}{F:Nat->Prop}{W:World}{a:TxA}{σ:SKs}{most:Int}{N:Nat}{d:List Cel}
theorem VZ{i j:Nat}(h:Fv .f w0 F W a σ most d N)(B:i<=j)(hj:j<=d.length)(hz:d.length<=10000000)(hN:N+20<=1000000000) :
  AB prog 44 [.pointer (some ⟨a.b,0,none⟩),.int .i64 (i:Int),.int .i64 (j:Int)] (fun v' w'=>v'=.tuple #[]/\Jv .f w0 F W w' a σ most (d.take i++d.drop j) (N+20)) W:=by
 obtain⟨z,l2,t,f,Q,hM,hp,hu,hh,T,b4⟩:=h;have a7:z.length=d.length:=by rw[<-Q,List.length_map]
 have I:(An d).length=d.length:=List.length_map _;apply ZR;have gd:Grow W W.drew:=Mod.drew _ _;have E:=hM.grow gd;obtain⟨l1,Fr,bt,U,J,b5,_⟩:=E.RC;have a8:(BV l1).length=d.length:=by rw[U,I]
 refine Ag (fun q y=>q=10/\F y) ?_;refine AH ?_;rw [AG,AI];refine Aa ⟨E.box.1.cells 4 _ rfl,fun j hj e=>by obtain ⟨rfl,_⟩:=e;exact absurd hj (by decide)⟩ ?_;refine AA (GY E.box.1 J (i:=i) (by omega) (by omega)) ?_;rintro _ W1 ⟨rfl,g1⟩;refine ⟨g1.mono fun _ _ h=>h.elim,?_⟩;have V:=E.grow g1;refine AA (GY V.box.1 (J.grow g1) (i:=j) (by omega) (by omega)) ?_;rintro _ W2 ⟨rfl,g2⟩;refine ⟨g2.mono fun _ _ h=>h.elim,?_⟩;have ak:=V.grow g2;rw [U] at a8 ⊢;obtain ⟨Fp,Cp,bp,J,al,put⟩:=ak.RE;have an:BX ((An d).take i)<=BX ((An d).take j):=List.Sublist.count_le _ (by
  rw [<-Nat.min_eq_left B,<-List.take_take];exact List.take_sublist _ _)
 have av:BX ((An d).take j)<=BX (An d):=List.Sublist.count_le _ (List.take_sublist _ _);have b6:=DB (An d);refine AA (Sw J (by omega) an (by rw [Cx];exact av) (by rw [Cx];omega)) ?_;rintro _ W3 ⟨rfl,b7,_,k2,X,m3⟩;obtain ⟨F3,f3,Y,M3⟩:=put m3 (fun x O=>by
  rcases O with O|O
  .exact(k2 x O).imp .inl fun h=>h
  .exact .inl (.inr O)) X (by omega)
 clear put J X;refine⟨m3.mono fun x _ O=>⟨rfl,al x (.inl O)⟩,?_⟩;refine AH ?_;refine Bm (Y.box.1.cells 2 _ rfl) ?_;obtain⟨l3,b8,br,Z,J,b2,put⟩:=Y.RC;have b3:(BV l3).length=d.length:=by rw[Z,I]
 refine AA (Ry J (by omega) B (by omega) (by omega)) ?_;rintro _ W4 ⟨rfl,b9,l4,_,k2,X,k4,m4⟩;obtain⟨F4,f4,a1,M4⟩:=put m4 k2 X (by omega);clear put J X;rw[k4,Z] at a1;have ax:=congrArg List.length hu;rw[List.length_map,a7] at ax;refine AA (Jk (f:=f) (ex:=fun _=>0) (row:=[]) (S:=fun _=>False) a1 hp (hh.congr fun x=>by rw[hu];rfl) B (by omega) BH.nil (fun _ h=>h.elim) (fun s hs=>nomatch hs) (by rw[List.flatMap_nil,List.length_nil];omega) (fun x=>Nat.zero_le _) (by omega) (by omega)) ?_;rintro _ W5 ⟨rfl,t5,ay,b0,ba⟩;have a6:=Co.step (gd.trans (g1.trans g2)) (Co.next f3 M3 (Co.next f4 M4 ay));obtain⟨F',w1,w2,w3⟩:=a6.up (N':=N+20) (by simp);have b1:((Spn.kd.Bn l2 i j []).flatMap Spn.u)=(z.map Prod.snd).take i++(z.map Prod.snd).drop j:=by rw[Spn.Dj.Bn l2 _ B,hu];simp
 have e3:(z.take i++z.drop j).map Prod.snd=(Spn.kd.Bn l2 i j []).flatMap Spn.u:=by rw[b1,List.map_append,List.map_take,List.map_drop]
 refine⟨rfl,F',w1,⟨z.take i++z.drop j,_,_,f,?_,?_,Spn.HZ i j [] hp,e3.symm,b0.congr fun x=>?_,fun p o=>?_,by omega⟩,w3⟩
 .rw[List.map_append,List.map_take,List.map_drop,Q]
 .have e1:An (d.take i++d.drop j)=(An d).take i++(An d).drop j:=by rw[An,List.map_append,List.map_take,List.map_drop]
  have e2:Bu (d.take i++d.drop j)=(Bu d).take (BX ((An d).take i))++(Bu d).drop (BX ((An d).take j)):=by rw[DP,(Cz d i).1,(Cz d j).2]
  rw[e1,e2];exact w2
 .rw[e3];rfl
 .rcases List.mem_append.1 o with o|o
  .exact T p (List.mem_of_mem_take o)
  .exact T p (List.mem_of_mem_drop o)
end
theorem cy:Dy 10:=.inl (by omega)
theorem Uk{ks:List DKey}:Bb ks []=0:=by
 classical
 unfold Bb;rw[if_neg,if_neg]
 .rintro⟨a,ha,_⟩;cases ha
 .rintro(h|h|⟨a,ha,_⟩)
  .exact h fun i h1 j=>by simp at j
  .simp at h
  .cases ha
theorem OG{w0 W:World}{σ:SKs}{most:Int}(Z:DI σ.S W σ.sv σ.ks)(B:∀x,σ.S x->x<W.heap.size)(hT:El w0)(g:Grow w0 W) :
  AB prog 11 [σ.sv,.int .i64 most] (fun v' w'=>Grow W w'/\((1<=most/\most<536870912/\∃a F,v'=.tuple #[.pointer (some ⟨a.b,0,none⟩),.int .i64 0]/\(∀x,F x->W.heap.size<=x)/\Fv .f w0 F w' a σ most [⟨10,[]⟩] 24)\/((most<1\/536870912<=most)/\v'=.tuple #[.pointer none,.int .i64 2]))) W:=by
 apply ZL;refine AU (fun _ W'=>W'=W/\1<=most/\most<536870912) ?_ ?_;rotate_left
 .rw[A6];refine AE (fun h1=>⟨Mod.refl _ _,.inr ⟨.inl h1,rfl⟩⟩) fun h1=>?_;rw[Dq];exact AE (fun O=>⟨Mod.refl _ _,.inr ⟨.inr O,rfl⟩⟩) fun O=>⟨rfl,by omega,by omega⟩
 rintro _ _ ⟨rfl,a1,a6⟩ _;rename World=>W
 refine AA bO ?_;rintro _ W1 ⟨r,rfl,hr,B1,g1⟩;refine AA Zh ?_;rintro _ W2 ⟨s,rfl,hs,B2,g2⟩;refine AA aF ?_;rintro _ W3 ⟨p,rfl,hp,B3,V⟩;have z1:=g1.size;have z2:=g2.size;have z3:=V.size;have av:=B1.lt (Nat.succ_pos _);have ax:=B2.lt (Nat.succ_pos _);have ay:=B3.lt (Nat.succ_pos _);have Q:=(g1.trans g2).trans V;have a7:=Z.grow Q;refine AA (X7 a7 fun x j=>by have:=B x j;omega) ?_;rintro _ W4 ⟨T,tb,b0,rfl,U⟩;have z4:=T.size;have a8:∃X,σ.sv=.pointer (some ⟨X,0,none⟩):=by
  obtain⟨X,_,_,_,e,_⟩:=id Z;exact⟨X,e⟩
 have E:Instr.fill (fun i=>[(0,1),(1,1),(2,1),(3,1),(4,1),(5,1)][i]?) [Value.pointer none,.int .i64 0,.pointer none,.pointer none,.pointer none,.pointer none].toArray [(0,σ.sv),(1,.int .i64 most),(2,.pointer (some ⟨r,0,none⟩)),(3,.pointer (some ⟨s,0,none⟩)),(4,.pointer (some ⟨p,0,none⟩)),(5,.pointer (some ⟨tb,0,none⟩))]=some (TQ σ.sv most r s p tb).toArray:=by
  obtain⟨X,e⟩:=a8;rw[e];kernel_rfl
 refine⟨_,E,?_⟩;refine Bx.box fun b o hb J B5=>?_;have z5:=J.size;have b1:=B5.lt (Nat.succ_pos _);have ak:=((g2.trans V).trans T).trans J;have I:=(Q.trans T).trans J;have b2:=U.lt;have hM:Fv ⟨true,true,true⟩ w0 (fun x=>W.heap.size<=x/\x<o.heap.size) o ⟨b,r,s,p,tb⟩ σ most [] 0:=by
  refine⟨[],[],Tab.z _,fun _=>[],rfl,⟨fun x=>if x=b then 0 else if x=r then 1 else if x=s then 2 else if x=p then 3 else if x<W.heap.size then 5 else 4,⟨fun x=>x=r,fun x=>x=s,fun x=>x=p,fun _=>False,fun x=>W3.heap.size<=x/\x<W4.heap.size⟩,[],rfl,?_⟩,trivial,rfl,Tab.Holds.new _,(fun p hp=>nomatch hp),Nat.zero_le _⟩;refine⟨B5,.inr ⟨rfl,B1.grow ak,rfl,fun x=>Iff.rfl,fun _ h=>h⟩,.inr ⟨rfl,(B2.grow (V.trans T)).grow J,rfl,fun x=>Iff.rfl,fun _ h=>h⟩,.inr ⟨rfl,(B3.grow T).grow J,rfl,fun x=>Iff.rfl,fun _ h=>h⟩,U.grow J,Z.grow I,if_pos rfl,?_,?_,?_,?_,?_,?_,?_,g.trans I⟩
  .rintro x rfl;rw[if_neg (by omega),if_pos rfl]
  .rintro x rfl;rw[if_neg (by omega),if_neg (by omega),if_pos rfl]
  .rintro x (rfl|h)
   .rw[if_neg (by omega),if_neg (by omega),if_neg (by omega),if_pos rfl]
   .exact h.elim
  .rintro x ⟨h1,O⟩;rw[if_neg (by omega),if_neg (by omega),if_neg (by omega),if_neg (by omega),if_neg (by omega)]
  .intro x j;have:=B x j;rw[if_neg (by omega),if_neg (by omega),if_neg (by omega),if_neg (by omega),if_pos this];exact⟨rfl,by omega⟩
  .rintro x ((h|h|h)|(h|h)|h)
   .have h':x=b:=h;exact⟨by omega,by omega⟩
   .have h':x=r:=h;exact⟨by omega,by omega⟩
   .have h':x=s:=h;exact⟨by omega,by omega⟩
   .have h':x=p:=h;exact⟨by omega,by omega⟩
   .exact h.elim
   .exact⟨by have:=h.1;omega,by have:=h.2;omega⟩
  .rintro x ⟨h1,O⟩;have:=g.size;exact⟨by omega,O,fun h=>by have:=B x h;omega⟩
 refine Gj (cs:=[.int .i32 10]) (by kernel_rfl) ?_;have o6:AF o.heap.size 21 1 CH (o.alloc (.cells [Value.int .i32 10].toArray 21)) (.slice (some ⟨o.heap.size,0,none⟩) 1 1) [10]:=AF.QH (Nat.le_refl _) rfl (fun u hu=>by simp at hu;subst hu;rfl) rfl;have y:=AF.sl o6;have Y:Grow o (o.alloc (.cells [Value.int .i32 10].toArray 21)):=Mod.alloc _ _ _;generalize o.alloc (.cells [Value.int .i32 10].toArray 21)=W6 at y o6 Y ⊢;obtain⟨z',l2,t,f,e1,e2,e3⟩:=hM;have al:Fv ⟨true,true,true⟩ w0 (fun x=>W.heap.size<=x/\x<o.heap.size) W6 ⟨b,r,s,p,tb⟩ σ most [] 0:=⟨z',l2,t,f,e1,e2.grow Y,e3⟩;have q1:([10]:List Int).length=1:=rfl;have q2:Dn σ.ks false []=[]:=rfl;have key:=OI (at':=0) (rs:=[10]) (set:=[]) al hT (Nat.le_refl _) y BH.nil (fun x j e=>by have:=e.2;have:=j.1;omega) (fun r hr=>by rw[List.mem_singleton] at hr;rw[hr];exact cy) (by rw[q2];exact Uk) (fun x j=>nomatch j) (Nat.zero_le _) (by rw[q1,List.length_nil];omega) (by rw[q1];omega);refine AA key ?_;rintro _ W7 ⟨rfl,F7,f7,h7,m7⟩;have z6:=Y.size;have an:=I.trans Y;refine⟨an.next m7 fun x j e=>by have:=e.1;omega,.inl ⟨a1,a6,⟨b,r,s,p,tb⟩,F7,rfl,fun x j=>?_,?_⟩⟩
 .rcases f7 x j with e|e
  .exact e.1
  .omega
 .exact h7
theorem eG{α β j:Type}(g:α->j):∀(A:List α) (B:List β),A.length=B.length->(A.zipWith (fun a b=>(g a,b)) B).map Prod.fst=A.map g/\(A.zipWith (fun a b=>(g a,b)) B).map Prod.snd=B/\∀q∈A.zipWith (fun a b=>(g a,b)) B,∃(k:Nat) (a:α) (b:β),A[k]?=some a/\B[k]?=some b/\q=(g a,b):=by
 intro A;induction A with
 |nil=>
  intro B h;have:B=[]:=List.eq_nil_of_length_eq_zero h.symm;subst this;exact⟨rfl,rfl,fun q i=>nomatch i⟩
 |cons a A o=>
  intro B h;cases B with
  |nil=>simp at h
  |cons b B=>
   obtain⟨h1,x,y⟩:=o B (by simpa using h);refine⟨by simp only[List.zipWith_cons_cons,List.map_cons,h1],by simp only[List.zipWith_cons_cons,List.map_cons,x],fun q i=>?_⟩;rw[List.zipWith_cons_cons] at i;rcases List.mem_cons.1 i with rfl|i
   .exact⟨0,a,b,rfl,rfl,rfl⟩
   .obtain⟨k,E,I,J,O,Q⟩:=y q i;exact⟨k+1,E,I,J,O,Q⟩
theorem SV{P:Int->Int->Prop}:∀{row done:List Spn},done.length=row.length->(∀(q:Nat) (s i:Spn),row[q]?=some s->done[q]?=some i->i.n=s.n/\P s.id i.id)->
  (done.flatMap Spn.u).length=(row.flatMap Spn.u).length/\∀(k:Nat) (x y:Int),(row.flatMap Spn.u)[k]?=some x->(done.flatMap Spn.u)[k]?=some y->P x y:=by
 intro row;induction row with
 |nil=>
  intro done h _;have:done=[]:=List.eq_nil_of_length_eq_zero h;subst this;exact⟨rfl,fun k x y h=>by simp at h⟩
 |cons s row B=>
  intro done h hr;cases done with
  |nil=>simp at h
  |cons i done=>
   obtain⟨E,I⟩:=hr 0 s i rfl rfl;obtain⟨h1,J⟩:=B (done:=done) (by simpa using h) fun q a b ha hb=>hr (q+1) a b ha hb;have l1:(Spn.u s).length=s.n:=by rw[Spn.u,List.length_replicate]
   have l2:(Spn.u i).length=s.n:=by rw[Spn.u,List.length_replicate,E]
   refine⟨by rw[List.flatMap_cons,List.flatMap_cons,List.length_append,List.length_append,h1,l1,l2],fun k x y j o=>?_⟩;rw[List.flatMap_cons] at j o;by_cases hk:k<s.n
   .rw[List.getElem?_append_left (by omega),Spn.u,List.getElem?_replicate,if_pos hk] at j;rw[List.getElem?_append_left (by omega),Spn.u,List.getElem?_replicate,if_pos (by omega)] at o;cases j;cases o;exact I
   .rw[List.getElem?_append_right (by omega),l1] at j;rw[List.getElem?_append_right (by omega),l2] at o;exact J _ x y j o
section
variable {k:TxK}{w0:World}{F:Nat->Prop}{W:World}{a:TxA}{σ:SKs}{most:Int}{N:Nat}{d:List Cel}
theorem Qd{S:Nat->Prop}{i j:Nat}{pv:Value}{p:List Chg}(h:Fv .f w0 F W a σ most d N)(hT:El w0)(a1:i<=j)(hj:j<=d.length)(hp:Hr S W pv p)(ec:∀x,S x->¬F x)(fo:p.length<=64)
 (O:∀c∈(d.take j).drop i,c.r≠10/\Bb σ.ks (Bo c.set p)=0/\∀x∈Bo c.set p,Le x)(hz:d.length<=10000000)(hN:N+(j-i)+20<=1000000000) :
  AB prog 86 [.pointer (some ⟨a.b,0,none⟩),.int .i64 (i:Int),.int .i64 (j:Int),pv] (fun v' w'=>v'=.tuple #[]/\Jv .f w0 F W w' a σ most (d.take i++((d.take j).drop i).map (fun c=>(⟨c.r,Bo c.set p⟩:Cel))++d.drop j) (N+(j-i)+20)) W:=by
 obtain⟨z,l2,t,f,a6,hM,a7,hu,hh,ba,fp⟩:=h;have a8:z.length=d.length:=by rw[<-a6,List.length_map]
 have c9:=congrArg List.length hu;rw[List.length_map,a8] at c9;apply Z9;refine AH ?_;refine Bm (hM.box.1.cells 3 _ rfl) ?_;obtain⟨Fs,bt,hO,fq,_⟩:=hM.Pu;have ff:EH l2=d.length:=by rw[DY,c9]
 have fs:=Spn.E0 a7;refine AA (JF (i:=i) (j:=j) hO (by omega) a1 (by omega) (by omega) (by omega)) ?_;rintro _ W1 ⟨rv,rfl,oR,g1⟩;refine BQ ?_;have bc:=Spn.GQ a7 i j;have ak:(Spn.kd.over l2 i j).flatMap Spn.u=((z.map Prod.snd).take j).drop i:=by rw[Spn.Dj.over,hu]
 have ed:=Spn.E0 bc;rw[ak,List.length_drop,List.length_take,List.length_map,a8] at ed;generalize Spn.kd.over l2 i j=row at *;clear hO;have ca:∀s∈row,0<Spn.rn s.id none (z.map Prod.snd)/\Bb σ.ks (Bo (f s.id) p)=0/\∀x∈Bo (f s.id) p,Le x:=fun s Q=>by
  have h1:=Spn.JP Q (Spn.Hj bc s Q);rw[ak] at h1;have h2:s.id∈((z.take j).drop i).map Prod.snd:=by rw[List.map_drop,List.map_take];exact h1
  obtain⟨q,B,e⟩:=List.mem_map.1 h2;have ee:q.1∈(d.take j).drop i:=by rw[<-a6,<-List.map_take,<-List.map_drop];exact List.mem_map.2 ⟨q,B,rfl⟩
  obtain⟨c1,c2,c3⟩:=O _ ee;have:=(ba q (List.mem_of_mem_take (List.mem_of_mem_drop B))).2 c1;rw[<-e,this];exact⟨Spn.IB (List.mem_of_mem_take (List.mem_of_mem_drop (e▸h1))) (by simp),c2,c3⟩
 have ef:=hM.hl;have z1:=g1.size;have E:=AF.BI oR;have eh:Hr (fun x=>S x/\x<W.heap.size) W1 pv p:=BH.grow (hp.G6 (by decide)) g1 (by decide) fun _ _ h=>h;obtain⟨ra,rc,ej,_⟩:=AF.shape oR;have cc:Aj rv=Aj (.slice ra row.length rc):=by rw[ej]
 rw [cc,AS];refine Ae (fun vs W'=>∃ (m:Nat) (done:List Spn) (t':Tab (List Attr)) (f':Int->List Attr) (F':Nat->Prop),m<=row.length/\vs=[.int .i64 m]/\done.length=m/\
   (∀x,F' x->F x\/W1.heap.size<=x)/\HB .f w0 F' W' a σ most (An d) l2 (Bu d) t' N/\Mod (fun x=>F x\/rv.ownBlock=some x) W1 W'/\
   AF W.heap.size 108 2 DV W' rv (done++row.drop m)/\(∀(q:Nat) (s s':Spn),row[q]?=some s->done[q]?=some s'->s'.n=s.n/\f' s'.id=Bo (f s.id) p)/\
   t'.Holds [] f' (fun x=>Spn.rn x none (z.map Prod.snd)+Spn.DD done x)/\(∀ x,0 < Spn.rn x none (z.map Prod.snd)->f' x=f x)/\t'.places.length<=N+m) (fun vs _=>row.length - Dr vs 0)
  ⟨0,[],t,f,F,Nat.zero_le _,rfl,rfl,fun _ h=>.inl h,hM.grow g1,Mod.refl _ _,by simpa using oR,fun q s s' _ h=>by simp at h,hh.congr fun x=>by simp[Spn.DD],fun _ _=>rfl,by omega⟩ ?_
 rintro vs W2 ⟨m,done,t2,f2,F2,hm,rfl,T,al,bd,M2,o2,V,X,bk,fg⟩ _;simp only[CR,List.headD_cons];rw[A6];have z2:=M2.size;have ay:=AF.BI o2;have I:∀x,rv.ownBlock=some x->¬F2 x:=fun x o e=>by
  have h1:=E x o;rcases al x e with e|e
  .have:=ef x e;omega
  .omega
 have ek:Hr (fun x=>S x/\x < W.heap.size) W2 pv p:=BH.mod eh M2 (fun x _ o e=>by
  rcases e with e|e
  .exact ec x o.1 e
  .have:=E x e;omega) (by decide) fun _ _ h=>h
 have an:(done++row.drop m).length=row.length:=by rw[List.length_append,List.length_drop,T];omega
 obtain⟨qa,qc,cd,_⟩:=AF.shape o2;rw[an] at cd;refine AE (fun fh=>?_) fun fu=>?_
 .have U:m<row.length:=by omega
  have b0:(done++row.drop m)[m]'(by omega)=row[m]:=by
   rw[List.getElem_append_right (by omega)];simp[T]
  obtain⟨i1,i2,i3⟩:=ca row[m] (List.getElem_mem U);have gd:Grow W2 W2.drew:=Mod.drew _ _;have Y:=bd.grow gd;refine Ag (fun _ _=>False) ?_;refine AH ?_;rw[AG,AI];refine Aa ⟨Y.box.1.cells 5 _ rfl,fun j hj e=>e⟩ ?_;have en:=AF.sl o2;subst cd;obtain⟨p0,r0,e0,Z,fv,bl,ch⟩:=en.get (i:=m) (by omega);cases e0;have bp:r0=Spn.cells row[m]:=by rw[<-b0];exact ch
  subst bp;refine AY U ?_;rw[AG,Addr.add_add];refine Aa ⟨by have:=gd.cell (bl 1 _ rfl) (fun h=>h);exact this,fun j hj e=>e⟩ ?_;obtain⟨Ft,cv,fw,_⟩:=Y.Pa;have cx:0<Spn.rn row[m].id none (z.map Prod.snd)+Spn.DD done row[m].id:=by omega
  obtain⟨d1,d2⟩:=X.idle (.inl cx);obtain⟨cn,b1⟩:=X.ask cx;refine AA (NH cv (by omega) (by omega) (by omega)) ?_;rintro v3 W3 ⟨g3,dk⟩;rw[b1] at dk;obtain⟨fx,rfl,o3⟩:=dk;have b2:f2 row[m].id=f row[m].id:=bk _ i1;simp only[b2] at o3;refine⟨g3.mono fun _ _ h=>h.elim,?_⟩;refine BQ ?_;have fi:(f row[m].id).length<=64:=by
   obtain⟨C,pl,fr,bm,hR⟩:=cv;have:=NY hR.core b1;simpa[b2] using this
  have ep:=Y.grow g3;have bs:Grow W3 W3.drew:=Mod.drew _ _;have b3:=ep.grow bs;have av:=(gd.trans g3).trans bs;have fy:=av.size;refine Ag (fun q y=>(q=9/\F2 y)\/(q=15/\y=p0.block)) ?_;refine AH ?_;rw [AG,AI];refine Aa ⟨b3.box.1.cells 5 _ rfl,fun j hj e=>by
   rcases e with⟨rfl,_⟩|⟨rfl,_⟩
   .exact absurd hj (by decide)
   .exact absurd hj (by decide)⟩ ?_
  refine AA (RR ((AF.sl o3).grow bs (by decide) fun _ _ h=>h) (BH.grow ek av (by decide) fun _ _ h=>h) (by omega)) ?_;rintro nv W4 ⟨o4,g4⟩;refine ⟨g4.mono fun _ _ h=>h.elim,?_⟩;have dT:=b3.grow g4;have z4:=g4.size;obtain ⟨fz,bx,b4,put⟩:=dT.Pa;have b5:=bd.hl;have er:t2.Small 1099511627:=(X.small bx.inv FY.ne (H:=1000000000) (fun x=>by
   have h1:=Spn.PI x none (z.map Prod.snd);rw [List.length_map] at h1;have h2:=Spn.LD done x;omega) (by omega)).le (by omega)
  refine AA (Qq bx er (AF.sl o4) (hT.grow dT.g) i3 (fun x o=>?_) (fun x o e=>?_)) ?_
  .have:=b5 x (b4 x o);have:=hT.size;exact⟨by omega,by omega⟩
  .have:=b5 x (b4 x e);have:=o.1;omega
  rintro _ W5 (⟨h0,_⟩|⟨_,id,t5,rfl,b6,hA⟩)
  .exact absurd i2 h0
  obtain⟨F5,f5,ax,M5⟩:=put hA;clear put;refine⟨M5.mono fun x _ o=>.inl ⟨rfl,o⟩,?_⟩;refine BQ ?_;obtain⟨f',c4,e4,b7⟩:=X.added bx.inv b6 fun c6=>⟨c6,i3,i2⟩;have fj:=b6.pl;have e5:¬F2 p0.block:=I _ Z.2;have o5:=AF.mod (R':=DV) (AF.mod (R':=DV) o2 (av.trans g4) (fun _ _ h=>h) fun _ _ _ h=>h) M5 (fun x o e=>I x o e) fun _ _ _ h=>h;refine AY U ?_;rw[AG,Addr.add_add];rw[<-an] at o5;refine MW (k:=2) (i:=m) (j:=1) (x':=(⟨row[m].n,id⟩:Spn)) o5 (by omega) (by decide) rfl rfl (fun _ _ _ _ h=>h) (fun _ _ r hr=>?_) fun W6 o6 m6=>?_
  .have h':r=_:=hr;rw[h',b0];rfl
  refine⟨m6.mono fun x _ e=>.inr ⟨rfl,e⟩,?_⟩;rw[AR,AQ (by omega)];have z5:=M5.size;have fk:=ax.hl;have e6:¬F5 p0.block:=fun e=>by
   have:=ay _ Z.2;rcases f5 _ e with e|e
   .exact e5 e
   .omega
  have c7:(done++row.drop m).set m (⟨row[m].n,id⟩:Spn)=(done++[⟨row[m].n,id⟩])++row.drop (m+1):=by
   rw[List.set_append,if_neg (by omega),T,Nat.sub_self,List.drop_eq_getElem_cons U,List.set_cons_zero,List.append_assoc];rfl
  rw[c7,an] at o6;have et:¬σ.S p0.block:=fun e=>by
   have h1:=(hM.IY.2 _ e);have:=E _ Z.2;omega
  have eu:w0.heap.size<=p0.block:=by have:=hM.g.size;have:=E _ Z.2;omega
  refine⟨⟨m+1,done++[⟨row[m].n,id⟩],t5,f',F5,U,rfl,by simp[T],fun x o=>?_,ax.mod m6 fun x e=>by rw[e];exact⟨e6,et,eu⟩,?_,o6,fun q s s' Q J=>?_,c4.congr fun x=>?_,fun x o=>?_,by omega⟩,by rw[DZ,DZ];omega⟩
  .rcases f5 x o with e|e
   .exact al x e
   .exact .inr (by omega)
  .refine((M2.next (av.trans g4) fun _ _ e=>e.elim).next M5 fun x o e=>?_).next m6 fun x o e=>?_
   .rcases al x e with e|e
    .exact .inl e
    .omega
   .rw[e];exact .inr Z.2
  .by_cases B:q<done.length
   .rw[List.getElem?_append_left B] at J;obtain⟨e1,e2⟩:=V q s s' Q J;refine⟨e1,?_⟩;rw[b7,e2];have:=Spn.NL (List.mem_of_getElem? J);omega
   .rw[List.getElem?_append_right (by omega)] at J;have ew:q-done.length=0:=by
     have:=(List.getElem?_eq_some_iff.1 J).1;simpa using this
    rw[ew] at J;cases J;have eA:q=m:=by omega
    subst eA;rw[List.getElem?_eq_getElem U] at Q;cases Q;exact⟨rfl,e4⟩
  .rw[Spn.DD,Spn.DD,List.countP_append,List.countP_cons,List.countP_nil];by_cases e:x=id
   .rw[if_pos e,if_pos (by simp[e])];omega
   .rw[if_neg e,if_neg (by simp[Ne.symm e])];omega
  .rw[b7 x (by omega),bk x o]
 .obtain rfl:m=row.length:=by omega
  rw[List.drop_length,List.append_nil] at o2 an;obtain⟨r1,r2⟩:=SV (P:=fun x y=>f2 y=Bo (f x) p) T V;have e7:(row.flatMap Spn.u).length=j-i:=by rw[ak,List.length_drop,List.length_take,List.length_map,a8];omega
  have c8:∀s∈done,0<s.n:=fun s Q=>by
   obtain⟨q,B,e⟩:=List.mem_iff_getElem.1 Q;obtain⟨e1,_⟩:=V q row[q] s (List.getElem?_eq_getElem (by omega)) (by rw[List.getElem?_eq_getElem B,e]);rw[e1];exact Spn.Hj bc _ (List.getElem_mem _)
  refine AA (Jk (f:=f2) (ex:=fun x=>Spn.DD done x) (row:=done) (i:=i) (j:=j) bd a7 (X.congr fun x=>by rw[hu]) a1 (by omega) (AF.sl o2) (fun x o e=>I x o.2 e) (fun s Q=>⟨c8 s Q,.inl (Spn.NL Q)⟩) (by omega) (fun x=>by have:=Spn.LD done x;omega) (by omega) (by omega)) ?_;rintro _ W5 ⟨rfl,t5,⟨F5,f5,ax,M5⟩,c4,eB⟩;have e8:((Spn.kd.Bn l2 i j done).flatMap Spn.u)=(z.map Prod.snd).take i++done.flatMap Spn.u++(z.map Prod.snd).drop j:=by rw[Spn.Dj.Bn l2 _ a1,hu]
  have eC:=congrArg List.length e8;simp only[List.length_append,List.length_take,List.length_drop,List.length_map] at eC;have o5:AF W.heap.size 108 2 DV W5 rv done:=AF.mod (R':=DV) o2 M5 (fun x o e=>I x o e) fun _ _ _ h=>h;have eI:(row.length:Int)=(done.length:Int):=by rw[T]
  rw [AS,eI];refine Ji (P:=fun m t=>t.Holds [] f2 (fun x=>(Spn.rn x none ((Spn.kd.Bn l2 i j done).flatMap Spn.u)+Spn.DD done x) - Spn.DD (done.take m) x)/\t.places.length=_) (fun hT Q h0 h1=>JS hT Q h0 h1) (AF.sl o5) (fun x o e=>by
    rcases f5 x e with e|e
    .exact I x o.2 e
    .have:=ay x o.2;omega) (by omega)
   (MR (h:=fun x=>Spn.rn x none ((Spn.kd.Bn l2 i j done).flatMap Spn.u)+Spn.DD done x) (M:=t2.places.length) (by omega) (fun x=>by omega) (fun x=>by have:=Spn.PI x none ((Spn.kd.Bn l2 i j done).flatMap Spn.u);have:=Spn.LD done x;omega) σ.ks) ax ⟨c4.congr fun x=>by simp[Spn.DD],eB⟩ ?_
  rintro W6 t6 ⟨F6,f6,h6,M6⟩ ⟨e9,fC⟩;rw[List.take_length] at e9;have eL:Mod F W W2:=by
   refine(g1.mono fun _ _ h=>h.elim).next M2 fun x o e=>?_;rcases e with e|e
   .exact e
   .have:=E x e;omega
  have eN:=Co.next (W:=W) (F:=F) (fun x o=>(al x o).imp (fun h=>h) fun h=>by omega) eL (Co.next f5 M5 ⟨F6,f6,h6,M6⟩);obtain⟨F',w1,w2,w3⟩:=eN.up (N':=N+(j-i)+20) (by omega)
  let zm:=(z.take j).drop i
  have eR:zm.length=(done.flatMap Spn.u).length:=by
   show((z.take j).drop i).length=_;rw[List.length_drop,List.length_take,r1,e7,a8];omega
  obtain⟨y1,y2,y3⟩:=eG (fun q:Cel×Int=>(⟨q.1.r,Bo q.1.set p⟩:Cel)) zm (done.flatMap Spn.u) eR;have b8:zm.map Prod.fst=(d.take j).drop i:=by
   show((z.take j).drop i).map Prod.fst=_;rw[List.map_drop,List.map_take,a6]
  have eX:zm.map (fun q:Cel×Int=>(⟨q.1.r,Bo q.1.set p⟩:Cel))=((d.take j).drop i).map (fun c=>(⟨c.r,Bo c.set p⟩:Cel)):=by
   rw[<-b8,List.map_map];rfl
  have e3:(z.take i++zm.zipWith (fun q y=>((⟨q.1.r,Bo q.1.set p⟩:Cel),y)) (done.flatMap Spn.u)++z.drop j).map Prod.snd=(Spn.kd.Bn l2 i j done).flatMap Spn.u:=by
   rw[e8,List.map_append,List.map_append,List.map_take,List.map_drop,y2]
  have b9:d=d.take i++(d.take j).drop i++d.drop j:=by
   have h1:=(List.take_append_drop i (d.take j)).symm;rw[List.take_take,Nat.min_eq_left a1] at h1;rw[<-h1,List.take_append_drop]
  refine⟨trivial,F',w1,⟨z.take i++zm.zipWith (fun q y=>((⟨q.1.r,Bo q.1.set p⟩:Cel),y)) (done.flatMap Spn.u)++z.drop j,_,t6,f2,?_,?_,Spn.HZ i j done a7,e3.symm,e9.congr fun x=>?_,fun q B=>?_,by omega⟩,w3⟩
  .rw[List.map_append,List.map_append,List.map_take,List.map_drop,y1,eX,a6]
  .have e1:An (d.take i++((d.take j).drop i).map (fun c=>(⟨c.r,Bo c.set p⟩:Cel))++d.drop j)=An d:=by
    conv=>rhs;rw[b9]
    simp only[An,List.map_append,List.map_map];rfl
   have e2:Bu (d.take i++((d.take j).drop i).map (fun c=>(⟨c.r,Bo c.set p⟩:Cel))++d.drop j)=Bu d:=by
    conv=>rhs;rw[b9]
    rw[DP,DP,DP,DP];have n1:Bu ((d.take j).drop i)=[]:=by
     unfold Bu;rw[List.map_eq_nil_iff,List.filter_eq_nil_iff];intro c hc;simpa using(O c hc).1
    have n2:Bu (((d.take j).drop i).map (fun c=>(⟨c.r,Bo c.set p⟩:Cel)))=[]:=by
     unfold Bu;rw[List.map_eq_nil_iff,List.filter_eq_nil_iff];intro c hc;obtain⟨c',fa,rfl⟩:=List.mem_map.1 hc;simpa using(O c' fa).1
    rw[n1,n2]
   rw[e1,e2];exact w2
  .rw[e3];omega
  .have G6:∀q∈z,(q.1.r=10->q.2=0)/\(q.1.r≠10->f2 q.2=q.1.set):=fun q B=>by
    obtain⟨o1,o2⟩:=ba q B;exact⟨o1,fun c6=>by rw[bk q.2 (Spn.IB (List.mem_map.2 ⟨q,B,rfl⟩) (by simp)),o2 c6]⟩
   rcases List.mem_append.1 B with B|B
   .rcases List.mem_append.1 B with B|B
    .exact G6 q (List.mem_of_mem_take B)
    .obtain⟨kk,q0,y,ha,hb,rfl⟩:=y3 q B;have ea:q0∈zm:=List.mem_of_getElem? ha;have bl:q0.1∈(d.take j).drop i:=by rw[<-b8];exact List.mem_map.2 ⟨q0,ea,rfl⟩
     obtain⟨c1,_⟩:=O _ bl;have fe:q0∈z:=List.mem_of_mem_take (List.mem_of_mem_drop ea);refine⟨fun e=>absurd e c1,fun _=>?_⟩;have o:(row.flatMap Spn.u)[kk]?=some q0.2:=by
      rw[ak,<-List.map_take,<-List.map_drop,List.getElem?_map,ha];rfl
     have:=r2 kk q0.2 y o hb;rw[this,(ba q0 fe).2 c1]
   .exact G6 q (List.mem_of_mem_drop B)
end
def EL(ks:List DKey)(s:List Attr):Prop:=J7 ks s/\∀x∈s,Le x
def II(ks:List DKey)(p:List Chg):Prop:=O5 ks p/\∀c∈p,Le ⟨c.key,c.val⟩
theorem EL.nil{ks:List DKey}:EL ks []:=⟨Hb,fun x i=>nomatch i⟩
theorem II.nil{ks:List DKey}:II ks []:=⟨Hc,fun x i=>nomatch i⟩
theorem EL.len{ks:List DKey}{s:List Attr}(h:EL ks s):s.length<=64:=h.1.2.1
theorem EL.part{ks:List DKey}{s:List Attr}(h:EL ks s)(b:Bool):EL ks (Dn ks b s):=
 ⟨⟨List.Pairwise.filter _ h.1.1,Nat.le_trans (List.length_filter_le _ _) h.1.2.1,fun x i=>h.1.2.2 x (List.mem_filter.1 i).1⟩,fun x i=>h.2 x (List.mem_filter.1 i).1⟩
theorem II.part{ks:List DKey}{p:List Chg}(h:II ks p)(b:Bool):II ks (GD ks b p):=
 ⟨⟨List.Pairwise.filter _ h.1.1,Nat.le_trans (List.length_filter_le _ _) h.1.2.1,fun x i=>h.1.2.2 x (List.mem_filter.1 i).1⟩,fun x i=>h.2 x (List.mem_filter.1 i).1⟩
theorem EL.app{ks:List DKey}(i:ks.length<=64){s:List Attr}{p:List Chg}(h:EL ks s)(hp:II ks p):EL ks (Bo s p):=by
 refine⟨VO i h.1 hp.1.1 fun c hc o=>(hp.1.2.2 c hc).2.1 o,fun x j=>?_⟩;rcases LZ j with j|⟨c,hc,_,rfl⟩
 .exact h.2 x j
 .exact hp.2 c hc
def EE(ks:List DKey)(p:List Chg)(c:Cel):Cel:=⟨c.r,RH ks c.set p c.r⟩
def Lw(d:List Cel)(i j:Nat)(g:Cel->Cel):List Cel:=d.take i++((d.take j).drop i).map g++d.drop j
theorem NA(d:List Cel){i j:Nat}(g:Cel->Cel)(o:i<=j)(y:j<=d.length)(k:Nat):(Lw d i j g)[k]?=if i<=k/\k<j then d[k]?.map g else d[k]?:=by
 unfold Lw;have l1:(d.take i).length=i:=by rw[List.length_take];omega
 have l2:(((d.take j).drop i).map g).length=j-i:=by rw[List.length_map,List.length_drop,List.length_take];omega
 by_cases h1:k<i
 .rw[if_neg (by omega),List.append_assoc,List.getElem?_append_left (by omega),List.getElem?_take,if_pos h1]
 .by_cases x:k<j
  .rw[if_pos ⟨by omega,x⟩,List.getElem?_append_left (by rw[List.length_append];omega),List.getElem?_append_right (by omega),l1,List.getElem?_map,List.getElem?_drop,List.getElem?_take,if_pos (by omega),show i+(k-i)=k by omega]
  .rw[if_neg (by omega),List.getElem?_append_right (by rw[List.length_append];omega),List.length_append,l1,l2,List.getElem?_drop,show j+(k-(i+(j-i)))=k by omega]
theorem Qm(d:List Cel){i j:Nat}(o:i<=j):d=d.take i++(d.take j).drop i++d.drop j:=by
 have h1:=(List.take_append_drop i (d.take j)).symm;rw[List.take_take,Nat.min_eq_left o] at h1;rw[<-h1,List.take_append_drop]
theorem UB(d:List Cel){i j:Nat}(g:Cel->Cel)(o:i<=j)(x:∀c,(g c).r=c.r):An (Lw d i j g)=An d:=by
 conv=>rhs;rw[Qm d o]
 unfold Lw;simp only[An,List.map_append,List.map_map];congr 2
 exact List.map_congr_left fun c _=>x c
theorem Vg(d:List Cel){i j:Nat}(g:Cel->Cel)(o:i<=j)(x:∀c∈(d.take j).drop i,g c=c):Lw d i j g=d:=by
 conv=>rhs;rw[Qm d o]
 unfold Lw;rw[List.map_congr_left (g:=id) (fun c hc=>x c hc),List.map_id]
theorem Wk{b:List Int}(h:(10:Int)∈b):∃q,Gb b 0=some q/\b[q]?=some 10/\∀k,k<q->b[k]?≠some 10:=by
 induction b with
 |nil=>cases h
 |cons r b i=>
  rw[GH];by_cases e:r=10
  .rw[if_pos e];exact⟨0,rfl,by rw[e];rfl,fun k hk=>by omega⟩
  .rw[if_neg e];obtain⟨q,h1,j,o⟩:=i ((List.mem_cons.1 h).resolve_left fun h=>e h.symm);refine⟨q+1,by rw[h1];rfl,by simpa using j,fun k hk=>?_⟩;cases k with
   |zero=>simpa using e
   |succ k=>simpa using o k (by omega)
theorem X9{rs:List Int}{p:Nat}(hp:p<rs.length)(hl:rs.getLast?=some 10):∃q,Gb rs (BX (rs.take p))=some q/\p<=q/\q<rs.length/\rs[q]?=some 10/\(∀k,p<=k->k<q->rs[k]?≠some 10)/\BX (rs.take p)+1<=BX rs/\BX (rs.take (q+1))=BX (rs.take p)+1:=by
 have Q:rs.drop p≠[]:=fun e=>by have:=congrArg List.length e;rw[List.length_drop] at this;simp at this;omega
 have hm:(10:Int)∈rs.drop p:=by
  have:(rs.drop p).getLast?=some 10:=by
   rw[List.getLast?_drop,if_neg (by omega)];exact hl
  exact List.mem_of_getLast? this
 obtain⟨q,h1,o,B⟩:=Wk hm;have lt:(rs.take p).length=p:=by rw[List.length_take];omega
 have e:=Ka (rs.take p) (rs.drop p) (BX (rs.take p));rw[List.take_append_drop,if_neg (by omega),Nat.sub_self,h1,lt] at e;rw[List.getElem?_drop] at o;have S:=(List.getElem?_eq_some_iff.1 o).1;have T:BX rs=BX (rs.take p)+BX (rs.drop p):=by rw[<-E8,List.take_append_drop]
 have y:0<BX (rs.drop p):=List.count_pos_iff.2 hm;have i:∀k,p<=k->k<q+p->rs[k]?≠some 10:=fun k a b=>by
  have:=B (k-p) (by omega);rw[List.getElem?_drop,show p+(k-p)=k by omega] at this;exact this
 refine⟨q+p,e,by omega,by omega,by rw[show q+p=p+q by omega];exact o,i,by omega,?_⟩;have E:rs.take (q+p+1)=rs.take p++((rs.take (q+p)).drop p++[10]):=by
  have x:=(List.take_append_drop p (rs.take (q+p))).symm;rw[List.take_take,Nat.min_eq_left (by omega)] at x;have I:rs[q+p]?=some 10:=by rw[show q+p=p+q by omega];exact o
  rw[List.take_add_one,I];generalize (rs.take (q+p)).drop p=M at x ⊢;rw[x];simp
 have J:BX ((rs.take (q+p)).drop p)=0:=by
  refine List.count_eq_zero.2 fun j=>?_;obtain⟨k,hk,e⟩:=List.mem_iff_getElem.1 j;have O:k<q:=by rw[List.length_drop,List.length_take] at hk;omega
  refine i (p+k) (by omega) (by omega) ?_;rw[List.getElem_drop,List.getElem_take] at e;rw[List.getElem?_eq_getElem (by omega),e]
 rw[E,E8,E8,J];rfl
theorem TL(d:List Cel)(g:Cel->Cel){g':List Attr->List Attr}(j:∀c,(g c).r=c.r)(h:∀c,c.r=10->(g c).set=g' c.set):Bu (d.map g)=(Bu d).map g':=by
 induction d with
 |nil=>rfl
 |cons c d o=>
  have e:∀(c:Cel) (d:List Cel),Bu (c::d)=(if c.r=10 then[c.set] else[])++Bu d:=fun c d=>by by_cases h:c.r=10<;>simp[Bu,h]
  rw[List.map_cons,e,e,o,j,List.map_append];split
  .rename_i i;rw[h c i];rfl
  .rfl
theorem VY(d:List Cel){i j:Nat}(o:i<=j)(g:Cel->Cel){g':List Attr->List Attr}(x:∀c,(g c).r=c.r)(h:∀c,c.r=10->(g c).set=g' c.set) :
  Bu (Lw d i j g)=(Bu d).take (BX ((An d).take i))++(((Bu d).take (BX ((An d).take j))).drop (BX ((An d).take i))).map g'++(Bu d).drop (BX ((An d).take j)):=by
 unfold Lw;rw[DP,DP,(Cz d i).1,(Cz d j).2,TL _ g x h,(Cz (d.take j) i).2,(Cz d j).1,show An (d.take j)=(An d).take j from List.map_take,List.take_take,Nat.min_eq_left o]
structure L0 (ks:List DKey) (d:List Cel):Prop where
 set:∀c∈d,EL ks c.set
 last:(An d).getLast?=some 10
theorem Fv.up{k:TxK}{w0:World}{F:Nat->Prop}{W:World}{a:TxA}{σ:SKs}{most:Int}{N N':Nat}{d:List Cel}(h:Fv k w0 F W a σ most d N)(j:N<=N'):Fv k w0 F W a σ most d N':=by
 obtain⟨z,l2,t,f,h1,o,x,y,B,E,J⟩:=h;obtain⟨own,G,l1,I,i⟩:=o;exact⟨z,l2,t,f,h1,⟨own,G,l1,I,i.box,i.G5.up j,i.D0.up j,i.para.up j,i.Pa,i.IY,i.cb,i.cr,i.cs,i.cp,i.ct,i.cS,i.lo,i.hl,i.g⟩,x,y,B,E,by omega⟩
theorem Fv.grow{k:TxK}{w0:World}{F:Nat->Prop}{W W':World}{a:TxA}{σ:SKs}{most:Int}{N:Nat}{d:List Cel}(h:Fv k w0 F W a σ most d N)(g:Grow W W'):Fv k w0 F W' a σ most d N:=by
 obtain⟨z,l2,t,f,h1,i,j⟩:=h;exact⟨z,l2,t,f,h1,i.grow g,j⟩
theorem Fv.hl{k:TxK}{w0:World}{F:Nat->Prop}{W:World}{a:TxA}{σ:SKs}{most:Int}{N:Nat}{d:List Cel}(h:Fv k w0 F W a σ most d N):∀x,F x->w0.heap.size<=x/\x<W.heap.size/\¬σ.S x:=by
 obtain⟨z,l2,t,f,h1,i,j⟩:=h;exact i.hl
theorem Fv.box{k:TxK}{w0:World}{F:Nat->Prop}{W:World}{a:TxA}{σ:SKs}{most:Int}{N:Nat}{d:List Cel}(h:Fv k w0 F W a σ most d N):Bx W a.b (TQ σ.sv most a.r a.s a.p a.t)/\F a.b:=by
 obtain⟨z,l2,t,f,h1,i,j⟩:=h;exact i.box
theorem Fv.IY{k:TxK}{w0:World}{F:Nat->Prop}{W:World}{a:TxA}{σ:SKs}{most:Int}{N:Nat}{d:List Cel}(h:Fv k w0 F W a σ most d N):DI σ.S W σ.sv σ.ks/\∀x,σ.S x->x<W.heap.size:=by
 obtain⟨z,l2,t,f,h1,i,j⟩:=h;exact i.IY
theorem Fv.g{k:TxK}{w0:World}{F:Nat->Prop}{W:World}{a:TxA}{σ:SKs}{most:Int}{N:Nat}{d:List Cel}(h:Fv k w0 F W a σ most d N):Grow w0 W:=by
 obtain⟨z,l2,t,f,h1,i,j⟩:=h;exact i.g
theorem Fv.G5{w0:World}{F:Nat->Prop}{W:World}{a:TxA}{σ:SKs}{most:Int}{N:Nat}{d:List Cel}(h:Fv .f w0 F W a σ most d N):∃l1 Fr bt,BV l1=An d/\DF Au.toAvT Fr FV W a.r bt l1 N:=by
 obtain⟨z,l2,t,f,h1,i,x⟩:=h;obtain⟨l1,Fr,bt,j,o,_⟩:=i.RC;exact⟨l1,Fr,bt,j,o⟩
theorem Jv.next{k:TxK}{w0:World}{F i:Nat->Prop}{W j W':World}{a:TxA}{σ:SKs}{most:Int}{N:Nat}{d:List Cel}(o:∀x,i x->F x\/W.heap.size<=x)(hm:Mod F W j)(h:Jv k w0 i j W' a σ most d N):Jv k w0 F W W' a σ most d N:=by
 obtain⟨B,h1,E,I⟩:=h;have z:=hm.size;refine⟨B,fun x y=>?_,E,hm.next I fun x y e=>?_⟩
 .rcases h1 x y with e|e
  .exact o x e
  .exact .inr (by omega)
 .rcases o x e with e|e
  .exact e
  .omega
theorem Jv.step{k:TxK}{w0:World}{F:Nat->Prop}{W i W':World}{a:TxA}{σ:SKs}{most:Int}{N:Nat}{d:List Cel}(g:Grow W i)(h:Jv k w0 F i W' a σ most d N):Jv k w0 F W W' a σ most d N:=Jv.next (fun _ h=>.inl h) (g.mono fun _ _ h=>h.elim) h
theorem Jv.up{k:TxK}{w0:World}{F:Nat->Prop}{W W':World}{a:TxA}{σ:SKs}{most:Int}{N N':Nat}{d:List Cel}(h:Jv k w0 F W W' a σ most d N)(i:N<=N'):Jv k w0 F W W' a σ most d N':=by
 obtain⟨F',h1,j,o⟩:=h;exact⟨F',h1,j.up i,o⟩
def Gf(ks:List DKey)(p:List Chg)(c:Cel):Cel:=if c.r=10 then⟨10,Bo c.set (GD ks true p)⟩ else c
theorem Kt(ks:List DKey)(p:List Chg)(c:Cel):(Gf ks p c).r=c.r:=by unfold Gf;split<;>simp_all
def IA(ks:List DKey)(p:List Chg)(d:List Cel)(i j m:Nat):List Cel:=d.mapIdx fun k c=>if i<=k/\k<m then EE ks p c else if i<=k/\k<j then Gf ks p c else c
theorem Em(ks:List DKey)(p:List Chg)(d:List Cel)(i j m k:Nat):(IA ks p d i j m)[k]?=d[k]?.map fun c=>if i<=k/\k<m then EE ks p c else if i<=k/\k<j then Gf ks p c else c:=by
 rw[IA,List.getElem?_mapIdx]
theorem Oc(ks:List DKey)(p:List Chg)(d:List Cel)(i j m:Nat):(IA ks p d i j m).length=d.length:=List.length_mapIdx
theorem MM(ks:List DKey)(p:List Chg)(d:List Cel){i j:Nat}(o:i<=j)(x:j<=d.length):IA ks p d i j i=Lw d i j (Gf ks p):=by
 refine List.ext_getElem? fun k=>?_;rw[Em,NA d _ o x];by_cases h:i<=k/\k<j
 .rw[if_pos h];simp only[h,if_true,show ¬k<i by omega,and_false,if_false,and_self]
 .rw[if_neg h];simp only[h,if_false,show ¬(i<=k/\k<i) by omega,Option.map_id_fun'];rfl
theorem MO(ks:List DKey)(p:List Chg)(d:List Cel){i j:Nat}(o:i<=j)(x:j<=d.length):IA ks p d i j j=Lw d i j (EE ks p):=by
 refine List.ext_getElem? fun k=>?_;rw[Em,NA d _ o x];by_cases h:i<=k/\k<j
 .rw[if_pos h];simp only[h,if_true,and_self]
 .rw[if_neg h];simp only[h,if_false,Option.map_id_fun'];rfl
theorem WB(ks:List DKey)(p:List Chg)(d:List Cel)(i j m:Nat):An (IA ks p d i j m)=An d:=by
 refine List.ext_getElem? fun k=>?_;rw[An,An,List.getElem?_map,List.getElem?_map,Em,Option.map_map];congr 1
 funext c
 show Cel.r (ite _ _ _)=c.r;split
 .rfl
 .split
  .exact Kt ks p c
  .rfl
theorem Si{ks:List DKey}{p:List Chg}{d:List Cel}{i j m q:Nat}(J:i<=m)(O:m<=j)(U:j<=d.length)(Q:m<=q)(S:(An d)[q]?=some 10)(y:∀k,m<=k->k<q->(An d)[k]?≠some 10) :
  Lw (IA ks p d i j m) m (min q j) (fun c=>⟨c.r,Bo c.set (GD ks false p)⟩)=IA ks p d i j (min (q+1) j):=by
 have hr:∀k,(An d)[k]?=d[k]?.map Cel.r:=fun k=>List.getElem?_map;refine List.ext_getElem? fun k=>?_;rw[NA _ _ (by omega) (by rw[Oc];omega),Em,Em];cases T:d[k]? with
 |none=>simp
 |some c=>
  simp only[Option.map_some];have o:=hr k;rw[T,Option.map_some] at o;by_cases h1:m<=k/\k<min q j
  .have x:c.r≠10:=fun e=>y k h1.1 (by omega) (by rw[o,e]);rw[if_pos h1,if_neg (by omega),if_pos (by omega),if_pos (by omega)];congr 1
   simp only[Gf,if_neg x,EE,RH,decide_eq_false x]
  .rw[if_neg h1];by_cases E:i<=k/\k<m
   .rw[if_pos E,if_pos (by omega)]
   .rw[if_neg E];by_cases I:i<=k/\k<min (q+1) j
    .have B:k=q:=by omega
     subst B;have he:c.r=10:=by rw[S] at o;exact(Option.some.inj o).symm
     rw[if_pos (by omega),if_pos I];simp only[Gf,EE,RH,he,if_true,decide_true]
    .rw[if_neg I]
section
variable {w0:World}{F:Nat->Prop}{W:World}{a:TxA}{σ:SKs}{most:Int}{N:Nat}{d:List Cel}
theorem Vc{S:Nat->Prop}{i j:Nat}{pv:Value}{p:List Chg}(h:Fv .f w0 F W a σ most d N)(hT:El w0)(hG:L0 σ.ks d)(b8:σ.ks.length<=64)(o:i<=j)(X:j<=d.length)(hp:Hr S W pv p)(b9:∀x,S x->¬F x)(al:II σ.ks p)
 (hz:d.length<=10000000)(hN:N+22*d.length+50<=1000000000) :
  AB prog 43 [.pointer (some ⟨a.b,0,none⟩),.int .i64 (i:Int),.int .i64 (j:Int),pv] (fun v' w'=>v'=.tuple #[]/\Jv .f w0 F W w' a σ most (Lw d i j (EE σ.ks p)) (N+22*d.length+50)) W:=by
 have Y:(An d).length=d.length:=List.length_map _;have ba:=al.1.2.1;have ef:=h.hl;apply aa;refine AU (fun _ W1=>Jv .f w0 F W W1 a σ most (IA σ.ks p d i j i) (N+d.length+4)) ?_ ?_
 .rintro _ W1 ⟨F1,f1,h1,M1⟩ _;have bc:Hr (fun x=>S x/\x<W.heap.size) W1 pv p:=BH.mod (hp.G6 (by decide)) M1 (fun x _ B e=>b9 x B.1 e) (by decide) fun _ _ h=>h;refine AH ?_;refine Bm (h1.box.1.cells 0 _ rfl) ?_;refine AA (O0 (b:=false) h1.IY.1 bc (by omega)) ?_;rintro iv W2 ⟨bd,Z⟩;have h2:=h1.grow Z;have z1:=M1.size;have z2:=Z.size;have a1:=h1.hl;have a6:=bd.G6 (by decide);obtain⟨va,vc,bk,_⟩:=a6.shape;have O:Aj iv=Aj (.slice va (GD σ.ks false p).length vc):=by rw[bk]
  have M2:Mod F W W2:=M1.next Z fun _ _ e=>e.elim;have a7:=al.part false;have bl:∀x,F1 x->F x\/W.heap.size<=x:=f1;refine Ae (fun vs W'=>∃m F',i<=m/\m<=d.length/\vs=[.int .i64 (m:Int)]/\(∀x,F' x->F1 x\/W2.heap.size<=x)/\Fv .f w0 F' W' a σ most (IA σ.ks p d i j (min m j)) (N+d.length+4+21*(min m j-i))/\Mod F1 W2 W'/\(m<=j\/True)) (fun vs _=>d.length+1-Dr vs 0)
   ⟨i,F1,Nat.le_refl _,by omega,rfl,fun _ h=>.inl h,by rw[Nat.min_eq_left o,Nat.sub_self];exact h2,Mod.refl _ _,.inr trivial⟩ ?_
  rintro vs W3 ⟨m,F3,bs,eh,rfl,f3,Q,M3,_⟩ _;simp only[CR,List.headD_cons];have z3:=M3.size;have fin:min m j=j\/GD σ.ks false p=[]->Jv .f w0 F W W3 a σ most (Lw d i j (EE σ.ks p)) (N+22*d.length+50):=fun e=>by
   have ed:IA σ.ks p d i j (min m j)=Lw d i j (EE σ.ks p):=by
    rcases e with e|e
    .rw[e,MO _ _ _ o X]
    .rw[<-MO _ _ _ o X];refine List.ext_getElem? fun k=>?_;rw[Em,Em];congr 1
     funext c
     have bx:Gf σ.ks p c=EE σ.ks p c:=by
      unfold Gf EE RH;by_cases hc:c.r=10
      .rw[if_pos hc,hc];rfl
      .rw[if_neg hc,decide_eq_false hc,e];rfl
     rw[bx];by_cases q1:i<=k/\k<j
     .rw[if_pos q1,if_pos q1];split<;>rfl
     .rw[if_neg q1,if_neg q1,if_neg (by omega)]
   rw[ed] at Q;exact Jv.next bl M2 ((Jv.up ⟨F3,f3,Q,M3⟩ (by omega)))
  refine AU (fun _ W'=>W'=W3/\m<j) ?_ ?_;rotate_left
  .rw[O,AS,BJ];refine AE (fun c4=>?_) fun c6=>?_
   .rw[A6];refine AE (fun ay=>⟨rfl,by omega⟩) fun c7=>⟨trivial,fin (.inl (by omega))⟩
   .exact⟨trivial,fin (.inr (List.eq_nil_of_length_eq_zero (by omega)))⟩
  rintro _ _ ⟨rfl,ej⟩ _;rename World=>W3
  have b0:min m j=m:=by omega
  rw[b0] at Q;generalize hD:IA σ.ks p d i j m=D at Q;have ek:D.length=d.length:=by rw[<-hD,Oc]
  have an:An D=An d:=by rw[<-hD,WB]
  have gd:Grow W3 W3.drew:=Mod.drew _ _;have av:=Q.grow gd;obtain⟨l1,Fr,bt,I,hO⟩:=av.G5;have c8:(BV l1).length=d.length:=by rw[I,an,Y]
  obtain⟨q,n1,n2,n3,n4,n5,n6,n7⟩:=X9 (rs:=An d) (p:=m) (by omega) hG.last;refine Ag (fun _ _=>False) ?_;refine AH ?_;rw[AG,AI];refine Aa ⟨av.box.1.cells 2 _ rfl,fun j X e=>e⟩ ?_;refine AA (GY av.box.1 hO (i:=m) (by omega) (by omega)) ?_;rintro _ W4 ⟨rfl,g4⟩;refine⟨g4.mono fun _ _ h=>h.elim,?_⟩;have ea:=DB (An d);rw[I,an,AR,wrap64 (by omega) (by omega),show((BX ((An d).take m):Int)+1)=((BX ((An d).take m)+1:Nat):Int) by omega];refine AA (Jz (hO.grow g4) (k:=BX ((An d).take m)+1) (by omega)) ?_;rintro _ W5 ⟨rfl,g5⟩;refine⟨g5.mono fun _ _ h=>h.elim,?_⟩;have b1:LG (BV l1) (BX ((An d).take m)+1)=.tuple #[.int .i64 ((q+1:Nat):Int),.int .i64 0]:=by
   rw[I,an];unfold LG;rw[if_neg (by omega),if_neg (by omega),Nat.add_sub_cancel,n1]
  rw[b1];refine BQ ?_;have c9:(if(j:Int)<((q+1:Nat):Int)-1 then(j:Int) else((q+1:Nat):Int)-1)=((min q j:Nat):Int):=by split<;>omega
  rw[Av,wrap64 (by omega) (by omega),Gl,c9,A6];have J:=(gd.trans g4).trans g5;have en:=J.size;have step:=Si (ks:=σ.ks) (p:=p) bs (by omega) X n2 n4 n5;have ec:=Q.hl;have ca:min (q+1) j=(if q<j then q+1 else j):=by split<;>omega
  refine AE (fun ay=>?_) fun c7=>?_
  .have cc:Hr (fun x=>W1.heap.size<=x/\x < W2.heap.size) W5 iv (GD σ.ks false p):=BH.grow (BH.mod a6 M3 (fun x _ B e=>by have:=(a1 x e).2.1;omega) (by decide) fun _ _ h=>h) J (by decide) fun _ _ h=>h;refine AA (Qd (i:=m) (j:=min q j) (Q.grow J) hT (by omega) (by omega) cc (fun x B e=>by
     rcases f3 x e with e|e
     .have:=(a1 x e).2.1;omega
     .omega) a7.1.2.1 (fun c hc=>?_) (by omega) (by omega)) ?_
   .obtain⟨k,hk⟩:=List.mem_iff_getElem?.1 hc;have cd:=(List.getElem?_eq_some_iff.1 hk).1;rw[List.length_drop,List.length_take] at cd;rw[List.getElem?_drop,List.getElem?_take,if_pos (by omega),<-hD,Em] at hk;cases T:d[m+k]? with
    |none=>rw[T] at hk;simp at hk
    |some c0=>
     rw[T,Option.map_some,if_neg (by omega),if_pos (by omega)] at hk;have b2:c0.r≠10:=fun e=>n5 (m+k) (by omega) (by omega) (by rw[An,List.getElem?_map,T,Option.map_some,e]);have ch:c=c0:=by have:=Option.some.inj hk;rw[<-this,Gf,if_neg b2]
     subst ch;have hs:=(hG.set c (List.mem_of_getElem? T)).app b8 a7;exact⟨b2,GP.2 hs.1,hs.2⟩
   rintro _ W6 ⟨rfl,F6,f6,h6,M6⟩;have e6:D.take m++((D.take (min q j)).drop m).map (fun c=>(⟨c.r,Bo c.set (GD σ.ks false p)⟩:Cel))++D.drop (min q j)=IA σ.ks p d i j (min (q+1) j):=by rw[<-hD];exact step
   rw[e6] at h6;refine⟨⟨q+1,F6,by omega,by omega,rfl,fun x B=>?_,h6.up (by omega),?_,.inr trivial⟩,by rw[DZ,DZ];omega⟩
   .rcases f6 x B with e|e
    .exact f3 x e
    .exact .inr (by omega)
   .refine(M3.next J fun _ _ e=>e.elim).next M6 fun x B e=>?_;rcases f3 x e with e|e
    .exact e
    .omega
  .have cn:q=m:=by omega
   have e6:D=IA σ.ks p d i j (min (q+1) j):=by
    rw[<-step,cn,Nat.min_eq_left (by omega),hD];refine(Vg _ _ (Nat.le_refl _) fun c hc=>?_).symm;simp at hc
   rw[e6] at Q;refine⟨⟨q+1,F3,by omega,by omega,rfl,f3,(Q.grow J).up (by omega),M3.next J fun _ _ e=>e.elim,.inr trivial⟩,by rw[DZ,DZ];omega⟩
 .refine AH ?_;refine Bm (h.box.1.cells 0 _ rfl) ?_;refine AA (O0 (b:=true) h.IY.1 hp (by omega)) ?_;rintro bv W1 ⟨b3,g1⟩;have h1:=h.grow g1;have cv:=al.part true;obtain⟨va,vc,cx,_⟩:=b3.shape;have O:Aj bv=Aj (.slice va (GD σ.ks true p).length vc):=by rw[cx]
  rw[O,AS,BJ];refine AE (fun c4=>?_) fun c6=>?_;rotate_left
  .have e0:GD σ.ks true p=[]:=List.eq_nil_of_length_eq_zero (by omega);have ed:IA σ.ks p d i j i=d:=by
    rw[MM _ _ _ o X];refine Vg d _ o fun c hc=>?_;unfold Gf;rw[e0];split
    .rename_i b4;rw[<-b4];rfl
    .rfl
   rw[ed];exact⟨F,fun _ h=>.inl h,h1.up (by omega),g1.mono fun _ _ h=>h.elim⟩
  have gd:Grow W1 W1.drew:=Mod.drew _ _;have U:=h1.grow gd;obtain⟨l1,Fr,bt,I,hO⟩:=U.G5;have c8:(BV l1).length=d.length:=by rw[I,Y]
  refine Ag (fun q y=>q=11/\F y) ?_;refine AH ?_;rw [AG,AI];refine Aa ⟨U.box.1.cells 4 _ rfl,fun j X e=>by obtain ⟨rfl,_⟩:=e;exact absurd X (by decide)⟩ ?_;refine AA (GY U.box.1 hO (i:=i) (by omega) (by omega)) ?_;rintro _ W2 ⟨rfl,Z⟩;refine ⟨Z.mono fun _ _ h=>h.elim,?_⟩;have h2:=U.grow Z;refine AA (GY h2.box.1 (hO.grow Z) (i:=j) (by omega) (by omega)) ?_;rintro _ W3 ⟨rfl,g3⟩;refine ⟨g3.mono fun _ _ h=>h.elim,?_⟩;have b5:=(gd.trans Z).trans g3;have Q:=h2.grow g3;obtain ⟨z,l2,t,f,dk,hM,dT,hu,hh,ax,ba⟩:=Q;obtain ⟨Fp,Cp,bp,e3,e4,put⟩:=hM.RE;rw [I];have e5:BX ((An d).take i)<=BX ((An d).take j):=List.Sublist.count_le _ (by
   rw [<-Nat.min_eq_left o,<-List.take_take];exact List.take_sublist _ _)
  have e7:BX ((An d).take j)<=BX (An d):=List.Sublist.count_le _ (List.take_sublist _ _);have ep:=DB (An d);have b6:∀x∈Bu d,x.length<=64:=fun x B=>by
   obtain⟨c,hc,rfl⟩:=List.mem_map.1 B;exact(hG.set c (List.mem_filter.1 hc).1).len
  have e8:=BH.grow b3 b5 (by decide) fun _ _ h=>h;have ee:=cv.1.2.1;refine AA (Vo e3 (by omega) e5 (by rw [Cx];exact e7) (by rw [Cx];omega) (fun x B=>by have:=b6 x B;omega) e8 (fun x B=>by have:=b6 x B;omega)) ?_;rintro _ W4 ⟨rfl,er,et,_,_,k3,k4,k5,m4⟩;rw [Cx] at k5;obtain ⟨F4,f4,b7,M4⟩:=put m4 (fun x B=>by
   rcases B with B|B
   .exact(k3 x B).imp .inl fun h=>h
   .exact (k4 x B).imp .inr fun h=>h) k5 (by omega)
  refine⟨m4.mono fun x _ B=>⟨rfl,e4 x (.inl B)⟩,?_⟩;have a8:=VY d o (Gf σ.ks p) (g':=fun x=>Bo x (GD σ.ks true p)) (Kt σ.ks p) (fun c hc=>by unfold Gf;rw[if_pos hc]);rw[<-a8] at b7;have ak:=UB d (Gf σ.ks p) o (Kt σ.ks p);rw[MM _ _ _ o X];refine Jv.step (g1.trans b5) ⟨F4,f4,⟨z.take i++((z.take j).drop i).map (fun q=>(Gf σ.ks p q.1,q.2))++z.drop j,l2,t,f,?_,?_,dT,?_,hh.congr fun x=>?_,fun q V=>?_,by omega⟩,M4⟩
  .clear a8 ak;subst dk;unfold Lw;simp only[List.map_append,List.map_map,List.map_take,List.map_drop,Function.comp_def]
  .rw[ak];obtain⟨own,G,l4,e1,E⟩:=b7;have hn:BX (An d)<=d.length:=by omega
   exact⟨own,G,l4,e1,E.box,E.G5.up (by omega),E.D0.up (by omega),E.para.up (by omega),E.Pa,E.IY,E.cb,E.cr,E.cs,E.cp,E.ct,E.cS,E.lo,E.hl,E.g⟩
  .have e1:(z.take i++((z.take j).drop i).map (fun q:Cel×Int=>(Gf σ.ks p q.1,q.2))++z.drop j).map Prod.snd=z.map Prod.snd:=by
    have h1:=(List.take_append_drop i (z.take j)).symm;rw[List.take_take,Nat.min_eq_left o] at h1;conv=>rhs;rw[<-List.take_append_drop j z,h1]
    simp only[List.map_append,List.map_map];rfl
   rw[e1,hu]
  .have e1:(z.take i++((z.take j).drop i).map (fun q:Cel×Int=>(Gf σ.ks p q.1,q.2))++z.drop j).map Prod.snd=z.map Prod.snd:=by
    have h1:=(List.take_append_drop i (z.take j)).symm;rw[List.take_take,Nat.min_eq_left o] at h1;conv=>rhs;rw[<-List.take_append_drop j z,h1]
    simp only[List.map_append,List.map_map];rfl
   rw[e1]
  .rcases List.mem_append.1 V with V|V
   .rcases List.mem_append.1 V with V|V
    .exact ax q (List.mem_of_mem_take V)
    .obtain⟨q0,e9,rfl⟩:=List.mem_map.1 V;obtain⟨o1,o2⟩:=ax q0 (List.mem_of_mem_take (List.mem_of_mem_drop e9));refine⟨fun e=>o1 (by rw[<-Kt σ.ks p];exact e),fun e=>?_⟩;have e':q0.1.r≠10:=by rw[<-Kt σ.ks p];exact e
     show f q0.2=(Gf σ.ks p q0.1).set;rw[o2 e',Gf,if_neg e']
   .exact ax q (List.mem_of_mem_drop V)
end
end Go.Proofs.YtmdhibffnkhcnaaGreatDoor
