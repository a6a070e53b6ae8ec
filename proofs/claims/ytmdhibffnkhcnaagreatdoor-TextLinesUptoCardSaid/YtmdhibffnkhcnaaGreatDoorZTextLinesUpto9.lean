/- parts of the proof, written short by a program of ours -/
import Derived.Test.YtmdhibffnkhcnaaGreatDoorZTextLinesUpto8
set_option linter.unusedSimpArgs false
set_option linter.unusedVariables false
namespace Go.Proofs.YtmdhibffnkhcnaaGreatDoor
open Go Go.K Proofs.Tryz
theorem VK{C:Nat->Prop}{W:World}{a:Addr}{n c i:Nat}{l:List (Ent (List Attr))}{K:World->Prop}(h:AF 0 Px 2 (Fm C) W (.slice (some a) n c) l)(J:i<l.length)(hC:∀x,x<W.heap.size->C x->¬x=a.block)
 (Y:∀W',AF 0 Px 2 (Fm C) W' (.slice (some a) n c) (l.set i ⟨[],0⟩)->Mod (fun x=>x=a.block) W W'->K W'):AY 2 (.pointer (some (a.add (i*2)))) (.agg #[.slice none 0 0,.int .i64 0]) K W:=by
 have B:Mod (fun x=>x=a.block) W (W.setCell (a.add (i * 2+0)) (.slice none 0 0)):=Mod.setCell _ _ _ (by rw [BW]);obtain ⟨⟨u1,O⟩,Q,S,_⟩:=AF.store (R':=Fm C) (u:=.slice none 0 0) (x':=⟨[],l[i].held⟩) (j:=0) h J (by decide) rfl (fun r y _ hr=>hr.mod B hC) (fun r hr=>by
  obtain ⟨s,rfl,T⟩:=hr;exact ⟨_,rfl,BJ.nil⟩)
 have U:i<(l.set i ⟨[],l[i].held⟩).length:=by rw[List.length_set];exact J
 have o:Mod (fun x=>x=a.block) (W.setCell (a.add (i * 2+0)) (.slice none 0 0)) ((W.setCell (a.add (i * 2+0)) (.slice none 0 0)).setCell (a.add (i * 2+1)) (.int .i64 0)):=Mod.setCell _ _ _ (by rw [BW]);have E:∀ x,x < (W.setCell (a.add (i * 2+0)) (.slice none 0 0)).heap.size->C x->¬ x=a.block:=fun x Z hc=>hC x (by simpa using Z) hc;obtain ⟨_,_,I,_⟩:=AF.store (R':=Fm C) (u:=.int .i64 0) (x':=⟨[],0⟩) (j:=1) S U (by decide) rfl (fun r y _ hr=>hr.mod o E) (fun r hr=>by
  obtain⟨s,rfl,T⟩:=hr;refine⟨s,rfl,?_⟩;have e:(l.set i ⟨[],l[i].held⟩)[i].set=[]:=by rw[List.getElem_set_self]
  rw [e] at T;exact T.mod o E (by decide) fun _ _ h=>h)
 rw[List.set_set] at I;obtain⟨⟨u2,V⟩,X,_,_⟩:=AF.store (R':=fun _ _ (_:Ent (List Attr))=>True) (u:=.int .i64 0) (x':=⟨[],0⟩) (j:=1) h J (by decide) rfl (fun _ _ _ _=>trivial) (fun _ _=>trivial);refine⟨_,[.slice none 0 0,.int .i64 0],rfl,rfl,rfl,fun u hu=>by simp at hu;rcases hu with rfl|rfl<;>rfl,fun j hj=>?_,Y _ ?_ ?_⟩
 .rcases(show j=0\/j=1 by omega) with rfl|rfl
  .rw[Addr.add_add];exact⟨by rw[O];rfl,Q⟩
  .rw[Addr.add_add];exact⟨by rw[V];rfl,X⟩
 .simp only[Du,Addr.add_add];exact I
 .simp only[Du,Addr.add_add];exact B.trans o
theorem TZ{F:Nat->Prop}{W:World}{b:Nat}{ks:SKs}{t:Tab (List Attr)}{id:Int}(h:EV F W b ks t)(hs:t.Small 1099511627)(h0:-9223372036854775808<=id)(h1:id<=9223372036854775807) :
  AB prog 79 [.pointer (some ⟨b,0,none⟩),.int .i64 id] (fun v' w'=>v'=.int .i64 (if(t.ask [] id).isSome then 0 else 5)/\IW F W w' b ks (t.release [] id)) W:=by
 apply ZY;have c6:=hs.pl;refine AA (K9 h (by omega) h0 h1) ?_;rintro v1 w1 ⟨g1,hm⟩;unfold Tab.release;cases ha:t.ask [] id with
 |none=>
  rw[ha] at hm;subst hm;refine BM ?_;refine BO (vs:=[.slice none 0 0,.int .i64 0]) rfl rfl (fun u hu=>by simp at hu;rcases hu with rfl|rfl<;>rfl) fun b5 w2 _ _ g2 Y _=>?_;rw[Br];have B:=g1.trans g2;exact Ab (fun e=>by cases e) fun _=>⟨rfl,.same (h.grow B) (B.mono fun _ _ h=>h.elim)⟩
 |some p=>
  rw[ha] at hm;obtain⟨si,rfl,ho,ay⟩:=hm;refine BM ?_;refine BO (vs:=[si,.int .i64 p.held]) rfl rfl (fun u hu=>by simp at hu;rcases hu with rfl|rfl;exact ho;rfl) fun b5 w2 _ _ g2 Y _=>?_;have B:=g1.trans g2;obtain⟨C,pl,fr,bm,hR⟩:=h;have o:=hR.mod B fun _ _ h=>h;have Z:=ay.grow g2 (by decide) fun _ _ h=>h;refine LQ ?_;rw[Am];refine AE (fun hz=>?_) fun hz=>?_
  .refine AH ?_;refine Bl (o.cells 4 _ rfl) ?_;have:=hs.em;rw[Av,Gm,wrap64 (by omega) (by omega)];refine AH ?_;rw[AG,AI];have en:(if(0:Int)>(t.empty:Int)-1 then(0:Int) else(t.empty:Int)-1)=((t.empty-1:Nat):Int):=by split<;>omega
   rw[en];refine HJ o fun W' a1 a6=>⟨rfl,?_⟩;dsimp only;rw[if_pos hz];exact .same ⟨C,pl,fr,bm,a1⟩ ((B.mono fun _ _ h=>h.elim).trans a6)
  .obtain⟨i,rfl,hp,U⟩:=Tab.Il ha hz;have hi:=(List.getElem?_eq_some_iff.1 hp).1;have b9:=(List.getElem?_eq_some_iff.1 hp).2;have c7:=hs.he t.places[i] (List.getElem_mem hi);obtain⟨pa,pc,E,_⟩:=o.core.FL.sl.shape;rw[AG];refine AL (Y 1 _ rfl) ?_;rw[Am];refine AE (fun X=>?_) fun X=>?_
   .have a7:p.held=1:=by omega
    have I:=hR.core.inv.ok i p hp U;obtain⟨ba,bc⟩:=KF I;refine Ag (fun k y=>k=7/\y=bm) ?_;have gd:Grow w2 w2.drew:=Mod.drew _ _;refine AH ?_;rw[AG,AI];refine Aa ⟨gd.cell (o.cells 3 _ rfl) fun h=>h,fun j hj e=>by obtain⟨rfl,_⟩:=e;exact absurd hj (by decide)⟩ ?_;rw[AG];refine Aa ⟨gd.cell (Y 0 _ rfl) fun h=>h,fun j hj e=>by obtain⟨rfl,_⟩:=e;exact absurd hj (by decide)⟩ ?_;refine AA (N5 (Z.grow gd (by decide) fun _ _ h=>h) I.2.1 bc ba) ?_;rintro _ w4 ⟨rfl,g4⟩;refine⟨g4.mono fun _ _ h=>h.elim,?_⟩;have b0:=gd.trans g4;have b1:=B.trans b0;have b2:=o.mod b0 fun _ _ h=>h;have J:=b2.core.inv;obtain⟨f,a8,b3⟩:=b2.m;obtain⟨w5,b4,ak,V⟩:=O7 (P:=prog) (ty:=0) (t:=143) (kt:=9) underlying143 underlying9 (P2 (EF p.set)) a8.map;refine Ai b4 ⟨V.mono fun x _ e=>⟨rfl,e⟩,?_⟩;have O:=a8.Tp V ak;refine AH ?_;refine Bl (O.cells 1 _ rfl) ?_;rw[Av,wrap64 (by omega) (by omega),show((i:Int)+1-1)=(i:Int) by omega];refine⟨#[.slice none 0 0,.int .i64 0],by kernel_rfl,?_⟩;have Q:=O.FL;rw[E] at Q ⊢;obtain⟨q,r,rfl,hq,_,_,_⟩:=Q.sl.get hi;refine AZ hi ?_;have al:pl.ownBlock=some q.block:=by rw[E];exact hq.2
    have bd:∀x,x<w5.heap.size->C x->¬x=q.block:=fun x _ hx e=>(O.pF _ al).2.1 (e▸hx);refine VK Q hi bd fun w6 bk an=>?_;have S:=O.Hz al an (by rw[E];exact bk);refine AH ?_;refine Bl (S.cells 2 _ rfl) ?_;have c8:=Tab.NP J;rw[Av,wrap64 (by omega) (by omega),show((i:Int)+1-1)=(i:Int) by omega];refine DO Nk S.I9 (Nat.zero_le _) (cs:=[.int .i64 i]) (x:=(i:Int)) (by kernel_rfl) rfl rfl (fun _ _ _=>Kx.one) (fun _ _ _ _ _ _ h=>h) (by rw[List.length_map];omega) (by rw[List.length_map];simp only[maxLen];omega) fun bl w7 T av bp=>?_;refine AH ?_;rw[AG,AI];have ax:(t.free.map fun i:Nat=>(i:Int))++[(i:Int)]=(t.free++[i]).map fun i:Nat=>(i:Int):=by simp
    rw [ax] at T;have s7:=av.size;have b6:=AF.BL T;refine Dd.YV (F':=fun x=>F x\/w6.heap.size<=x/\x < w7.heap.size) S av (fun _ h=>h) (fun _ h=>.inl h) (fun _ h=>h.imp id And.left) T (fun g hg=>by
     rcases bp g hg with e|e
     .exact .inl e
     .exact .inr ⟨e,.inr ⟨e,(b6 g hg).2⟩⟩) T.one.1 T.one.2 fun w8 bs b7=>⟨rfl,?_⟩
    dsimp only;rw[if_neg hz,if_pos a7,Int.toNat_natCast];have z4:=b1.size;have z5:=V.size;have z6:=an.size;have z8:=b7.size;refine⟨_,fun x hx=>?_,⟨C,pl,bl,bm,Dd.r (t:=t.drop [] i) bs (b3.drop J hp U) (Tab.TX J hp U [])⟩,?_⟩
    .rcases hx with hx|hx
     .exact .inl hx
     .exact .inr ⟨by omega,by omega⟩
    .refine(((((b1.mono fun _ _ h=>h.elim).trans (V.mono fun x _ e=>by rw[e];exact a8.fm.1)).trans (an.mono fun x _ e=>by rw[e];exact(O.pF _ al).1)).trans (av.mono fun x _ e=>(S.fF x e).1)).trans (b7.mono fun x _ e=>by rw[e];exact S.fb.1))
   .refine AH ?_;refine Bl (o.cells 1 _ rfl) ?_;have b8:=o.core.FL.sl;rw[E] at b8;rw[Av,wrap64 (by omega) (by omega),show((i:Int)+1-1)=(i:Int) by omega,E];obtain⟨q,r,rfl,_,hr,hc,bx⟩:=b8.get hi;obtain⟨s2,rfl,c9⟩:=bx;refine AZ hi ?_;rw[AG,Addr.add_add];refine AL (hc 1 _ rfl) ?_;rw[Av,wrap64 (by omega) (by omega)];refine AZ hi ?_;rw[AG,Addr.add_add];have c4:p.held≠1:=fun e=>X (by rw[e];rfl);have en:((t.places[i].held:Int)-1)=((p.held-1:Nat):Int):=by rw[b9];omega
    rw[en];refine KB o hp U (n:=p.held-1) (by omega) E fun W' a1 a6=>⟨rfl,?_⟩;dsimp only;rw[if_neg hz,if_neg c4,Int.toNat_natCast];exact .same ⟨C,pl,fr,bm,a1⟩ ((B.mono fun _ _ h=>h.elim).trans a6)
theorem TE:DC prog 144 Px 2 32:=⟨Tryz.t181,.agg #[.slice none 0 0,.int .i64 0],by kernel_rfl,by kernel_rfl,by kernel_rfl,by kernel_rfl,by kernel_rfl,by rfl,by decide⟩
section
variable {F C M:Nat->Prop}{W W':World}{b:Nat}{ks:SKs}{t:Tab (List Attr)}{places:List (Ent (List Attr))}{free:List Nat}{em:Nat}{f:Value->Option Value}{pl fr:Value}{bm:Nat}
theorem Dd.bS{F':Nat->Prop}{B:Value}{o:List (Ent (List Attr))}{K:World->Prop}(h:Dd F C W b ks places free em f pl fr bm)(hm:Mod (fun x=>pl.ownBlock=some x) W W')(J:∀x,F x->F' x)(Q:∀x,F' x->F x\/W.heap.size<=x)
 (Y:AF 0 Px 2 (Fm C) W' B o)(S:∀g,B.ownBlock=some g->pl.ownBlock=some g\/W.heap.size<=g/\F' g)(O:B.oneCell'=true)(T:B.cells=#[B])
 (Z:∀I,Dd F' C I b ks o free em f B fr bm->Mod (fun x=>x=b) W' I->K I):BC (.pointer (some ⟨b,1,none⟩)) B K W':=by
 have hb:∀ x,pl.ownBlock=some x->F x/\¬ C x/\x≠b/\x≠bm:=fun x i=>h.pF x i;have hC:∀ x,x < W.heap.size->C x->¬ pl.ownBlock=some x:=fun x _ i e=>(hb x e).2.1 i;refine Ex (vs:=SH ks.sv pl fr bm em) (fun j v hv=>hm.cell (h.cells j v hv) fun e=>(hb b e).2.2.1 rfl) (fun j U=>(h.live j U).mod hm fun e=>(hb b e).2.2.1 rfl) (q:=1) (show 1 < 5 by decide) O T fun I y hc hl=>?_;have a1:b < W.heap.size:=World.block_lt_of_cell? W _ (h.cells 4 _ rfl);have V:∀ x,x < W'.heap.size->C x->¬ x=b:=fun x _ i e=>h.fb.2 (e ▸ i);have X:=AF.BL h.I9;have a6:=h.map.lt;refine Z I ⟨hc,fun j U=>hl j U,(h.IP.mod hm fun x _ i e=>(h.sf x i).1 (hb x e).1).mod y (fun x _ i e=>(h.sf x i).1 (e ▸ h.fb.1)),AF.mod Y y (fun g E e=>?_) fun r x _ i=>i.mod y V,AF.mod (AF.mod (R':=Kx) h.I9 hm (fun g E e=>(h.fF g E).2.2.2.2 e) fun _ _ _ h=>h) y (fun g E=>(h.fF g E).2.2.1) fun _ _ _ h=>h,
  (h.map.mod hm fun e=>(hb bm e).2.2.2 rfl).mod y h.fm.2.2,⟨J _ h.fb.1,h.fb.2⟩,⟨J _ h.fm.1,h.fm.2⟩,fun g E=>?_,fun g E=>⟨J _ (h.fF g E).1,(h.fF g E).2.1,(h.fF g E).2.2.1,(h.fF g E).2.2.2.1,fun e=>?_⟩,fun x i=>⟨J _ (h.cf x i).1,Nat.lt_of_lt_of_le (h.cf x i).2 (Nat.le_trans hm.size y.size)⟩,fun x i=>⟨fun e=>(Q x e).elim (h.sf x i).1 fun e=>by have:=(h.sf x i).2;omega,Nat.lt_of_lt_of_le (h.sf x i).2 (Nat.le_trans hm.size y.size)⟩⟩ y
 .subst e;rcases S g E with e|⟨e,_⟩
  .exact(h.pF g e).2.2.1 rfl
  .omega
 .rcases S g E with e|⟨e,e'⟩
  .have:=h.pF g e;exact⟨J _ this.1,this.2⟩
  .exact⟨e',fun hc=>by have:=(h.cf g hc).2;omega,fun e2=>by omega,fun e2=>by omega⟩
 .rcases S g e with e|⟨e,_⟩
  .exact(h.fF g E).2.2.2.2 e
  .have:=(X g E).2;omega
theorem Dd.V8{K:World->Prop}{a:Addr}{c i n:Nat}{p:Ent (List Attr)}(h:Dd F C W b ks places free em f pl fr bm)(hp:places[i]?=some p)(o:pl=.slice (some a) places.length c)
 (Q:∀W',Dd F C W' b ks (places.set i ⟨p.set,n⟩) free em f pl fr bm->Mod F W W'->K W'):BC (.pointer (some (a.add (i*2+1)))) (.int .i64 n) K W:=by
 have S:=(List.getElem?_eq_some_iff.1 hp).1;have J:=(List.getElem?_eq_some_iff.1 hp).2;have B:=h.FL;rw[o] at B;have E:pl.ownBlock=some a.block:=by rw[o];rfl
 obtain ⟨T,U,Z,f4⟩:=h.pF _ E;have I:Mod (fun x=>x=a.block) W (W.setCell (a.add (i * 2+1)) (.int .i64 n)):=Mod.setCell _ _ _ (by rw [BW]);have hC:∀ x,x < W.heap.size->C x->¬ x=a.block:=fun x _ V e=>U (e ▸ V);obtain ⟨⟨u,hu⟩,X,Y,hm⟩:=AF.store (R':=Fm C) (u:=.int .i64 n) (x':=⟨p.set,n⟩) (j:=1) B S (by decide) rfl (fun r y _ hr=>hr.mod I hC) (fun r hr=>by
  obtain ⟨s,rfl,O⟩:=hr;refine ⟨s,rfl,?_⟩;rw [J] at O;exact O.mod I hC (by decide) fun _ _ h=>h)
 exact K3 rfl rfl hu X (Q _ (h.Hz E hm (by rw[o];exact Y)) (hm.mono fun x _ e=>by rw[e];exact T))
theorem Dd.Z2{K:World->Prop}{a:Addr}{c i B:Nat}{p:Ent (List Attr)}{E:Value}{s:List Attr}(h:Dd F C W b ks places free em f pl fr bm)(hp:places[i]?=some p)(O:pl=.slice (some a) places.length c)(Z:∀x,F x\/ks.S x->x<B)(U:IJ B W E s)
 (hK:∀W',Dd (fun x=>F x\/E.ownBlock=some x) (fun x=>C x\/E.ownBlock=some x) W' b ks (places.set i ⟨s,p.held⟩) free em f pl fr bm->Mod (fun x=>x=a.block) W W'->K W'):BC (.pointer (some (a.add (i*2+0)))) E K W:=by
 have hi:=(List.getElem?_eq_some_iff.1 hp).1;have Y:=(List.getElem?_eq_some_iff.1 hp).2;have Q:pl.ownBlock=some a.block:=by rw[O];rfl
 obtain⟨f1,f2,f3,f4⟩:=h.pF _ Q;have I:=AF.BL U;have nF:∀x,E.ownBlock=some x->¬F x:=fun x o hF=>by have:=(I x o).1;have:=Z x (.inl hF);omega
 have T:Dd (fun x=>F x\/E.ownBlock=some x) (fun x=>C x\/E.ownBlock=some x) W b ks places free em f pl fr bm:=
  ⟨h.cells,h.live,h.IP,AF.mod h.FL (Mod.refl (fun _=>False) _) (fun _ _ h=>h) fun r x _ o=>o.sub fun _ _ h=>.inl h,h.I9,h.map,⟨.inl h.fb.1,fun e=>e.elim h.fb.2 fun e=>nF _ e h.fb.1⟩,⟨.inl h.fm.1,fun e=>e.elim h.fm.2.1 fun e=>nF _ e h.fm.1,h.fm.2.2⟩,
   fun g J=>⟨.inl (h.pF g J).1,fun e=>e.elim (h.pF g J).2.1 fun e=>nF _ e (h.pF g J).1,(h.pF g J).2.2⟩,fun g J=>⟨.inl (h.fF g J).1,fun e=>e.elim (h.fF g J).2.1 fun e=>nF _ e (h.fF g J).1,(h.fF g J).2.2⟩,fun x o=>o.elim (fun o=>⟨.inl (h.cf x o).1,(h.cf x o).2⟩) fun o=>⟨.inr o,(I x o).2⟩,fun x o=>⟨fun e=>e.elim (h.sf x o).1 fun e=>by have:=(I x e).1;have:=Z x (.inr o);omega,(h.sf x o).2⟩⟩
 have V:=T.FL;rw [O] at V;have X:Mod (fun x=>x=a.block) W (W.setCell (a.add (i * 2+0)) E):=Mod.setCell _ _ _ (by rw [BW]);have hC:∀ x,x < W.heap.size->(C x\/E.ownBlock=some x)->¬ x=a.block:=fun x _ o e=>(T.pF _ Q).2.1 (e ▸ o);obtain ⟨⟨u,hu⟩,hf,ho,hm⟩:=AF.store (R':=Fm (fun x=>C x\/E.ownBlock=some x)) (u:=E) (x':=⟨s,p.held⟩) (j:=0) V hi (by decide) U.one.1 (fun r y _ hr=>hr.mod X hC) (fun r hr=>by
  obtain ⟨s',rfl,_⟩:=hr;refine ⟨E,by rw [Y];rfl,?_⟩;exact (AF.sl U).mod X (fun x _ o e=>hC x (I x o.2).2 (.inr o.2) e) (by decide) (fun _ _ h=>h) |>.sub (fun x _ o=>.inr o.2) (by decide) fun _ _ h=>h)
 exact K3 U.one.1 U.one.2 hu hf (hK _ (T.Hz Q hm (by rw[O];exact ho)) hm)
end
theorem Ro{F C:Nat->Prop}{W:World}{b:Nat}{ks:SKs}{t:Tab (List Attr)}{f:Value->Option Value}{pl fr:Value}{bm:Nat}(h:Dd F C W b ks t.places t.free t.empty f pl fr bm)(hi:t.Inv (FQ ks.ks))(hs:t.Small 1099511627) :
  AB prog 144 [.pointer (some ⟨b,0,none⟩)] (fun v' w'=>∃ (i:Nat) (F':Nat->Prop) (o:List (Ent (List Attr))) (free':List Nat) (J a1:Value),v'=.int .i64 ((i:Int)+1)/\Dd F' C w' b ks o free' t.empty f J a1 bm/\Mod F W w'/\
   (∀ x,F' x->F x\/W.heap.size<=x/\x < w'.heap.size)/\((t.free.getLast?=some i/\o=t.places/\free'=t.free.dropLast)\/(t.free=[]/\i=t.places.length/\o=t.places++[⟨[],0⟩]/\free'=[]))) W:=by
 apply Wq;have av:=Tab.NP hi;have an:=hs.pl;refine AH ?_;refine Bl (h.cells 2 _ rfl) ?_;obtain⟨fa,fc,B,O,_,a6,a7⟩:=h.I9.shape;rw[List.length_map] at O;rw[B,AS,Av,List.length_map,wrap64 (by omega) (by omega),Dl];refine AE (fun ax=>?_) fun ay=>?_
 .have S:0<t.free.length:=by omega
  have Q:t.free≠[]:=List.length_pos_iff.1 S;obtain⟨i,hl⟩:∃i,t.free.getLast?=some i:=⟨_,List.getLast?_eq_some_getLast Q⟩;cases fa with
  |none=>have:=a7 rfl;rw[List.map_eq_nil_iff] at this;exact absurd this Q
  |some q=>
   obtain⟨g,rfl,_,_,b0⟩:=a6 q rfl;have T:=h.I9.sl;have E:=h.I9;rw[B,List.length_map] at T E;refine AH ?_;refine Bl (h.cells 2 _ rfl) ?_;rw[B,List.length_map];have hj:t.free.length-1<(t.free.map fun i:Nat=>(i:Int)).length:=by rw[List.length_map];omega
   obtain⟨_,r,e1,_,hr,hc,rfl⟩:=T.get hj;cases e1;have ev:(t.free.map fun i:Nat=>(i:Int))[t.free.length-1]=(i:Int):=by
    rw[List.getElem_map];rw[List.getLast?_eq_some_getLast Q,List.getLast_eq_getElem] at hl;rw[Option.some.inj hl]
   rw[ev] at hc;have en:((t.free.length:Int)-1)=((t.free.length-1:Nat):Int):=by omega
   rw[en];refine AZ (show t.free.length-1<t.free.length by omega) (AL (hc 0 _ rfl) ?_);refine AH ?_;refine Bl (h.cells 2 _ rfl) ?_;rw[B,List.length_map];refine Ai (Ev (e:=3) (k:=1) (i:=Tryz.t3) (by kernel_rfl) (by kernel_rfl) (by kernel_rfl) (by omega) W) ?_;refine AH ?_;rw[AG,AI];have ht:=AF.take E (j:=t.free.length-1) (by rw[List.length_map];omega);have ed:(t.free.map fun i:Nat=>(i:Int)).take (t.free.length-1)=t.free.dropLast.map fun i:Nat=>(i:Int):=by rw[List.dropLast_eq_take,List.map_take]
   rw[ed] at ht;refine Dd.YV (F':=F) (free':=t.free.dropLast) (Mf:=fun _=>False) h (Mod.refl _ _) (fun _ h=>h.elim) (fun _ h=>h) (fun _ h=>.inl h) ht (fun g' a8=>.inl ?_) rfl rfl fun w' ak al=>?_
   .rw[B];exact a8
   rw[AR];obtain⟨p,hp,_⟩:=(hi.SQ i).1 (List.mem_of_getLast? hl);have:=(List.getElem?_eq_some_iff.1 hp).1;rw[wrap64 (by omega) (by omega)];exact⟨i,F,t.places,t.free.dropLast,pl,_,rfl,ak,al.mono fun x _ e=>by rw[e];exact h.fb.1,fun x I=>.inl I,.inl ⟨hl,rfl,rfl⟩⟩
 .have U:t.free=[]:=List.eq_nil_of_length_eq_zero (by omega);refine AH ?_;refine Bl (h.cells 1 _ rfl) ?_;refine⟨#[.slice none 0 0,.int .i64 0],by kernel_rfl,?_⟩;refine DO TE h.FL (Nat.zero_le _) (cs:=[.slice none 0 0,.int .i64 0]) (x:=⟨[],0⟩) (by kernel_rfl) rfl ⟨_,rfl,BJ.nil⟩ (fun _ _ _=>Fm.one) (fun w1 w2 r y b1 hm hr=>hr.mod hm fun x I hC e=>?_) (by omega) (by simp only[maxLen];omega) fun J w1 V hm hn=>?_
  .rcases e with e|e
   .exact(h.pF x e).2.1 hC
   .have:=(h.cf x hC).2;omega
  refine AH ?_;rw [AG,AI];have X:=AF.BL V;refine Dd.bS (F':=fun x=>F x\/W.heap.size<=x/\x < w1.heap.size) h hm (fun _ h=>.inl h) (fun _ h=>h.imp id And.left) V (fun g hg=>by
   rcases hn g hg with e|e
   .exact .inl e
   .exact .inr ⟨e,.inr ⟨e,(X g hg).2⟩⟩) V.one.1 V.one.2 fun w2 Y Z=>?_
  refine AH ?_;refine Bl (Y.cells 1 _ rfl) ?_;obtain⟨a2,c2,e2,_⟩:=V.sl.shape;have z2:=Z.size;rw[e2,AS];refine⟨t.places.length,_,_,t.free,J,fr,by simp,Y,(hm.mono fun x _ e=>(h.pF x e).1).trans (Z.mono fun x _ e=>by rw[e];exact h.fb.1),fun x I=>?_,.inr ⟨U,rfl,rfl,U⟩⟩;rcases I with I|I
  .exact .inl I
  .exact .inr ⟨I.1,by omega⟩
end Go.Proofs.YtmdhibffnkhcnaaGreatDoor
namespace Go.K
open Go
def Tab.Jo{α:Type}(t:Tab α)(z s:α)(id:Int)(t':Tab α):Prop:=
 (s=z/\id=0/\t'={ t with empty:=t.empty+1 })\/(s≠z/\∃i n:Nat,t.places[i]?=some ⟨s,n⟩/\0<n/\id=(i:Int)+1/\t'=t.HG i ⟨s,n+1⟩)\/
  (s≠z/\(∀(i:Nat) (p:Ent α),t.places[i]?=some p->0<p.held->p.set≠s)/\id=((t.put s).1:Int)+1/\t'=(t.put s).2)
end Go.K
namespace Go.Proofs.YtmdhibffnkhcnaaGreatDoor
open Go Go.K Proofs.Tryz
theorem QQ{F S:Nat->Prop}{W:World}{b:Nat}{ks:SKs}{t:Tab (List Attr)}{v:Value}{l:List Attr}(h:EV F W b ks t)(hs:t.Small 1099511627)(hv:Cu S W v l)(hT:ET W)(hI:∀a∈l,LP a)(hF:∀x,F x->2+1<=x/\x<W.heap.size)(dy:∀x,S x->¬F x) :
  AB prog 74 [.pointer (some ⟨b,0,none⟩),v] (fun v' w'=>(Bb ks.ks l≠0/\v'=.tuple #[.int .i64 0,.int .i64 (Bb ks.ks l)]/\Grow W w')\/
   (Bb ks.ks l=0/\∃ id t',v'=.tuple #[.int .i64 id,.int .i64 0]/\t.Jo [] l id t'/\IW F W w' b ks t')) W:=by
 apply Za;have c8:=hs.pl;have dz:∀a∈l,0<=a.val.f:=fun a ha=>(hI a ha).2.2.2.1.1;refine AA (LD h) ?_;rintro _ _ ⟨rfl,rfl⟩;rename World=>W
 obtain⟨C,pl,fr,bm,hR⟩:=h;rw[Aq];refine AT (AH ?_);refine Bl (hR.cells 0 _ rfl) ?_;refine AA (Qx hR.core.IP hv hT dz) ?_;rintro _ w3 ⟨rfl,g3⟩;rw[Br];refine Ab (fun a6=>?_) fun a6=>?_;rotate_left
 .exact .inl ⟨a6,rfl,g3⟩
 have b6:=hR.mod g3 fun _ _ h=>h;have dT:=hv.grow g3 (by decide) fun _ _ h=>h;obtain⟨va,vc,rfl,_⟩:=hv.shape;rw[AS,Am];refine AE (fun hz=>?_) fun hz=>?_
 .have hl:l=[]:=List.eq_nil_of_length_eq_zero (by omega);refine AH ?_;refine Bl (b6.cells 4 _ rfl) ?_;have:=hs.em;rw[AR,wrap64 (by omega) (by omega)];refine AH ?_;rw[AG,AI];have en:((t.empty:Int)+1)=((t.empty+1:Nat):Int):=by omega
  rw[en];refine HJ b6 fun W' e1 b0=>.inr ⟨a6,0,_,rfl,.inl ⟨hl,rfl,rfl⟩,?_⟩;exact .same ⟨C,pl,fr,bm,e1⟩ ((g3.mono fun _ _ h=>h.elim).trans b0)
 have hl:l≠[]:=fun e=>hz (by rw [e];rfl);have T:FQ ks.ks l:=⟨hl,hI,a6⟩;obtain ⟨e2,e3⟩:=KF T;refine AA (N5 dT hI e3 e2) ?_;rintro _ w6 ⟨rfl,g6⟩;have b1:=g3.trans g6;have c9:=b6.mod g6 fun _ _ h=>h;have J:=c9.core.inv;obtain ⟨f,Z,X⟩:=c9.m;refine AH ?_;refine Bl (Z.cells 3 _ rfl) ?_;refine Ai (Om (P:=prog) (t:=143) (kt:=9) (et:=3) (z:=.int .i64 0) underlying143 underlying9 (P2 (EF l)) (Dk (by kernel_rfl) w6) Z.map) ?_;refine BM ?_;refine AW (fun vs w9=>∃ (i n:Nat) (F9 C9:Nat->Prop) (o:List (Ent (List Attr))) (I:List Nat) (f9:Value->Option Value) (b7 b8:Value),vs=[.int .i64 ((i:Int)+1)]/\Dd F9 C9 w9 b ks o I t.empty f9 b7 b8 bm/\o[i]?=some ⟨l,n⟩/\n<=1099511627776/\i<=1099511627776/\
   Mod F W w9/\(∀ x,F9 x->F x\/W.heap.size<=x/\x < w9.heap.size)/\t.Jo [] l ((i:Int)+1) ⟨o.set i ⟨l,n+1⟩,I,t.empty⟩/\Dx ⟨o.set i ⟨l,n+1⟩,I,t.empty⟩ f9/\(⟨o.set i ⟨l,n+1⟩,I,t.empty⟩:Tab (List Attr)).Inv (FQ ks.ks)) ?_ ?_
 .rintro vs w9 ⟨i,n,F9,C9,o,I,f9,b7,b8,rfl,b2,b9,ec,ed,ba,ca,cc,bc,bd⟩ _;rw[CN,List.headD_cons];have hi:=(List.getElem?_eq_some_iff.1 b9).1;have bk:=(List.getElem?_eq_some_iff.1 b9).2;refine AH ?_;refine Bl (b2.cells 1 _ rfl) ?_;obtain⟨pa,pc,U,_⟩:=b2.FL.sl.shape;have cd:=b2.FL.sl;rw[U] at cd;rw[Av,wrap64 (by omega) (by omega),show((i:Int)+1-1)=(i:Int) by omega,U];obtain⟨q,r,rfl,_,hr,hc,e4⟩:=cd.get hi;obtain⟨si,rfl,ee⟩:=e4;refine AZ hi ?_;rw[AG,Addr.add_add];refine AL (hc 1 _ rfl) ?_;have eh:o[i].held=n:=by rw[bk]
  rw[AR,wrap64 (by omega) (by omega)];refine AZ hi ?_;rw[AG,Addr.add_add];have en:((o[i].held:Int)+1)=((n+1:Nat):Int):=by omega
  rw[en];refine b2.V8 b9 U fun W' e5 b0=>.inr ⟨a6,_,_,rfl,cc,?_⟩;have s':=b0.size;refine⟨F9,fun x O=>?_,⟨C9,b7,b8,bm,e5.r bc bd⟩,ba.next b0 fun x O e=>?_⟩
  .rcases ca x O with h|h
   .exact .inl h
   .exact .inr ⟨h.1,by omega⟩
  .rcases ca x e with h|h
   .exact h
   .omega
 .rw[Aq];cases hf:f (.string (EF l)) with
  |some v=>
   obtain⟨i,n,hp,hn,rfl⟩:=X.some J hI hf;have hi:=(List.getElem?_eq_some_iff.1 hp).1;have ch:=hs.he t.places[i] (List.getElem_mem hi);have bk:=(List.getElem?_eq_some_iff.1 hp).2;rw[bk] at ch;refine AT ?_;exact⟨i,n,F,C,t.places,t.free,f,pl,fr,rfl,Z,hp,Nat.le_trans ch (by decide),by omega,b1.mono fun _ _ h=>h.elim,fun x O=>.inl O,.inr (.inl ⟨hl,i,n,hp,hn,rfl,rfl⟩),X.HG hp hn (by omega),J.HG hp hn (by omega)⟩
  |none=>
   refine Ao ?_;have a7:=X.none hf;refine AA (Ro Z J hs) ?_;rintro _ a8 ⟨i,F7,E,ak,bl,e6,rfl,a1,bp,bs,al⟩;have ef:=Z.cf;have eg:=b1.size;have z7:=bp.size;have bx:∀x,F7 x->x<a8.heap.size:=fun x O=>by
    rcases bs x O with h|h
    .have:=(hF x h).2;omega
    .exact h.2
   obtain⟨p,cn,c4,Q⟩:∃p,E[i]?=some p/\p.held=0/\((t.put l).1=i/\(t.put l).2=⟨E.set i ⟨l,1⟩,ak,t.empty⟩):=by
    unfold Tab.put;rcases al with⟨h1,rfl,rfl⟩|⟨h1,rfl,rfl,rfl⟩
    .rw[h1];obtain⟨p,hp,e7⟩:=(J.SQ i).1 (List.mem_of_getLast? h1);exact⟨p,hp,e7,rfl,rfl⟩
    .rw[h1];refine⟨⟨[],0⟩,by simp,rfl,rfl,?_⟩;simp
   have c6:=(List.getElem?_eq_some_iff.1 cn).1;have ei:i<=1099511627:=by
    rcases al with⟨h1,rfl,_⟩|⟨_,rfl,_⟩
    .omega
    .exact c8
   refine Ag (fun k y=>k=10/\bl.ownBlock=some y) ?_;have gd:Grow a8 a8.drew:=Mod.drew _ _;refine AH ?_;rw [AG,AI];refine Aa ⟨gd.cell (a1.cells 1 _ rfl) fun h=>h,fun j hj e=>by obtain ⟨rfl,_⟩:=e;exact absurd hj (by decide)⟩ ?_;obtain ⟨pa,pc,U,_⟩:=a1.FL.sl.shape;have b4:=a1.FL.sl;rw [Av,wrap64 (by omega) (by omega),show ((i:Int)+1 - 1)=(i:Int) by omega];have cx:Cu S a8 (.slice va l.length vc) l:=(hv.grow b1 (by decide) fun _ _ h=>h).mod bp (fun x _ O hf=>dy x O hf) (by decide) fun _ _ h=>h;refine AA (G0 (cx.grow gd (by decide) fun _ _ h=>h) (by omega)) ?_;rintro cv ej ⟨dk,c7⟩;refine ⟨c7.mono fun _ _ h=>h.elim,?_⟩;have b5:=gd.trans c7;have du:=a1.mod b5 fun _ _ h=>h;rw [U] at b4 ⊢;obtain ⟨q,r,rfl,hq,_,_,_⟩:=b4.get c6;refine AZ c6 ?_;rw [AG,Addr.add_add];have zd:=gd.size;have ek:=c7.size;have e8:=AF.BL dk;refine du.Z2 (B:=a8.drew.heap.size) cn U (fun x O=>by
    rcases O with O|O
    .have:=bx x O;omega
    .have:=(a1.sf x O).2;omega) dk fun eo an av=>?_
   have e9:bl.ownBlock=some q.block:=by rw[U];exact hq.2
   refine⟨av.mono fun x _ e=>⟨rfl,by rw[e];exact hq.2⟩,?_⟩;refine AH ?_;refine Bl (an.cells 3 _ rfl) ?_;obtain⟨ea,dv,b3,ax⟩:=OE (P:=prog) (t:=143) (kt:=9) (v:=.int .i64 ((i:Int)+1)) underlying143 underlying9 (P2 (EF l)) an.map hf;refine Ai (v:=undef) (w':=ea) (by simp only[Sem.run_bind,dv,Result.andThen];rfl) ?_;have dw:=an.Tp ax b3;obtain⟨Y,dx,_,_,_⟩:=Tab.FF J T a7;have V:=X.put J T hf;rw[Q.2] at Y V;rw[Q.1] at V;have ay:(E.set i ⟨l,p.held⟩).set i ⟨l,p.held+1⟩=E.set i ⟨l,1⟩:=by rw[List.set_set,c4]
   refine⟨i,p.held,_,_,_,ak,_,bl,e6,rfl,dw,by rw[List.getElem?_set_self c6],by omega,by omega,?_,?_,?_,?_,?_⟩
   .refine((((b1.mono fun _ _ h=>h.elim).trans bp).trans (b5.mono fun _ _ h=>h.elim)).next av fun x O e=>?_).next ax fun x O e=>?_
    .have:=(a1.pF _ e9).1;rw[<-e] at this;rcases bs x this with h|h
     .exact h
     .omega
    .have:=Z.fm.1;rw[<-e] at this;exact this
   .have ep:=av.size;have er:=ax.size;rintro x (O|O)
    .rcases bs x O with h|h
     .exact .inl h
     .exact .inr ⟨by omega,by omega⟩
    .have:=e8 x O;exact .inr ⟨by omega,by omega⟩
   .rw[ay];exact .inr (.inr ⟨hl,a7,by rw[Q.1],Q.2.symm⟩)
   .rw[ay];exact V
   .rw[ay];exact Y
end Go.Proofs.YtmdhibffnkhcnaaGreatDoor
namespace Go.K
open Go
theorem Tab.Small.le{α:Type}{t:Tab α}{N N':Nat}(h:t.Small N)(i:N<=N'):t.Small N':=⟨Nat.le_trans h.pl i,Nat.le_trans h.em i,fun p hp=>Nat.le_trans (h.he p hp) i⟩
def Tab.Has{α:Type}(t:Tab α)(z s:α)(id:Int)(n:Nat):Prop:=t.ask z id=some ⟨s,n⟩/\0<n/\(id=0↔s=z)
theorem Tab.Has.zero{α:Type}{t:Tab α}{z s:α}{n:Nat}(h:t.Has z s 0 n):s=z/\t.empty=n:=by
 have h1:=h.1;unfold Tab.ask at h1;rw[if_pos rfl] at h1;cases h1;exact⟨rfl,rfl⟩
theorem Tab.Has.pos{α:Type}{t:Tab α}{z s:α}{id:Int}{n:Nat}(h:t.Has z s id n)(h0:id≠0):∃i:Nat,id=(i:Int)+1/\t.places[i]?=some ⟨s,n⟩:=by
 obtain⟨i,e,hp,_⟩:=Tab.Il h.1 h0;exact⟨i,e,hp⟩
theorem Tab.Has.Sl{α:Type}{t:Tab α}{z:α}(h:0<t.empty):t.Has z z 0 t.empty:=⟨by unfold Tab.ask;rw[if_pos rfl],h,by simp⟩
theorem Tab.Has.SZ{α:Type}{t:Tab α}{z s:α}{i n:Nat}(o:s≠z)(hp:t.places[i]?=some ⟨s,n⟩)(j:0<n):t.Has z s ((i:Int)+1) n:=⟨Tab.TS hp j,j,⟨fun h=>by omega,fun h=>absurd h o⟩⟩
theorem Tab.Jo.keeps{α:Type}[DecidableEq α]{t t':Tab α}{z x s:α}{k id:Int}{n:Nat}{G:α->Prop}(h:t.Jo z x k t')(O:t.Inv G)(S:x≠z->G x)(B:t.Has z s id n):t'.Has z s id (if x=s then n+1 else n)/\(x=s↔k=id):=by
 by_cases h0:id=0
 .subst h0;obtain⟨rfl,rfl⟩:=B.zero;rcases h with⟨rfl,rfl,rfl⟩|⟨I,i,n,hp,X,rfl,rfl⟩|⟨I,J,rfl,rfl⟩
  .rw[if_pos rfl];exact⟨Tab.Has.Sl (t:={ t with empty:=t.empty+1 }) (Nat.succ_pos _),by simp⟩
  .rw[if_neg I];exact⟨Tab.Has.Sl (t:=t.HG i _) B.2.1,⟨fun e=>absurd e I,fun e=>by omega⟩⟩
  .rw[if_neg I];obtain⟨_,_,_,_,T⟩:=Tab.FF O (S I) J;refine⟨?_,⟨fun e=>absurd e I,fun e=>by omega⟩⟩;have:=Tab.Has.Sl (t:=(t.put x).2) (z:=s) (by rw[T];exact B.2.1);rwa [T] at this
 .obtain⟨j,rfl,hp⟩:=B.pos h0;have y:s≠z:=fun e=>h0 (B.2.2.2 e);have Q:=(List.getElem?_eq_some_iff.1 hp).1;rcases h with⟨rfl,rfl,rfl⟩|⟨I,i,m,E,hm,rfl,rfl⟩|⟨I,J,rfl,rfl⟩
  .rw[if_neg (Ne.symm y)];exact⟨Tab.Has.SZ (t:={ t with empty:=t.empty+1 }) y hp B.2.1,⟨fun e=>absurd e.symm y,fun e=>by omega⟩⟩
  .by_cases e:x=s
   .subst e;have o:=O.Gy i j _ _ E hp hm B.2.1 rfl;subst o;rw[hp] at E;cases E;rw[if_pos rfl];exact⟨Tab.Has.SZ y (by show(t.places.set i _)[i]?=_;rw[List.getElem?_set_self Q]) (Nat.succ_pos _),by simp⟩
   .rw[if_neg e];have o:i≠j:=fun o=>by subst o;rw[hp] at E;cases E;exact e rfl
    exact⟨Tab.Has.SZ y (by show(t.places.set i _)[j]?=_;rw[List.getElem?_set_ne o];exact hp) B.2.1,⟨fun h=>absurd h e,fun h=>absurd (by omega) o⟩⟩
  .have e:x≠s:=fun e=>J j _ hp B.2.1 e.symm;rw[if_neg e];obtain⟨_,_,U,V,_⟩:=Tab.FF O (S I) J;have o:j≠(t.put x).1:=fun o=>by
    have:=U ⟨s,n⟩ (o▸hp);have:=B.2.1;simp only at *;omega
   exact⟨Tab.Has.SZ y ((V j o).trans hp) B.2.1,⟨fun h=>absurd h e,fun h=>absurd (by omega) o⟩⟩
theorem Tab.Has.release{α:Type}{t:Tab α}{z s:α}{k id:Int}{n:Nat}(o:t.Has z s id n)(hk:k≠id\/1<n):(t.release z k).Has z s id (if k=id then n-1 else n):=by
 by_cases e:k=id
 .subst e;have J:1<n:=hk.resolve_left fun h=>h rfl;rw[if_pos rfl];unfold Tab.release;rw[o.1];dsimp only;by_cases h0:k=0
  .subst h0;obtain⟨rfl,rfl⟩:=o.zero;rw[if_pos rfl];exact Tab.Has.Sl (t:={ t with empty:=t.empty-1 }) (by show 0<t.empty-1;omega)
  .obtain⟨j,rfl,hp⟩:=o.pos h0;have E:=(List.getElem?_eq_some_iff.1 hp).1;rw[if_neg h0,if_neg (by omega),show((j:Int)+1-1).toNat=j by omega];exact Tab.Has.SZ (fun e=>h0 (o.2.2.2 e)) (by show(t.places.set j _)[j]?=_;rw[List.getElem?_set_self E]) (by omega)
 .rw[if_neg e];unfold Tab.release;cases ha:t.ask z k with
  |none=>exact o
  |some p=>
   dsimp only;by_cases x:k=0
   .rw[if_pos x];have h0:id≠0:=fun h=>e (by rw[x,h]);obtain⟨j,rfl,hp⟩:=o.pos h0;exact Tab.Has.SZ (t:={ t with empty:=t.empty-1 }) (fun e=>h0 (o.2.2.2 e)) hp o.2.1
   .rw[if_neg x];obtain⟨i,rfl,hp,I⟩:=Tab.Il ha x;rw[show((i:Int)+1-1).toNat=i by omega];by_cases h0:id=0
    .subst h0;obtain⟨rfl,rfl⟩:=o.zero;split
     .exact Tab.Has.Sl (t:=t.drop s i) o.2.1
     .exact Tab.Has.Sl (t:=t.HG i _) o.2.1
    .obtain⟨j,rfl,y⟩:=o.pos h0;have B:i≠j:=fun h=>e (by rw[h]);split
     .exact Tab.Has.SZ (fun e=>h0 (o.2.2.2 e)) (by show(t.places.set i _)[j]?=_;rw[List.getElem?_set_ne B];exact y) o.2.1
     .exact Tab.Has.SZ (fun e=>h0 (o.2.2.2 e)) (by show(t.places.set i _)[j]?=_;rw[List.getElem?_set_ne B];exact y) o.2.1
def GP{α:Type}[DecidableEq α](r:List (α×Int))(x:α):Nat:=(r.filter fun p=>decide (p.1=x)).length
theorem Ot{α:Type}[DecidableEq α](r:List (α×Int))(x y:α)(k:Int):GP (r++[(x,k)]) y=GP r y+if x=y then 1 else 0:=by
 unfold GP;rw[List.filter_append,List.length_append];by_cases h:x=y<;>simp[h]
theorem EU{α:Type}[DecidableEq α](r:List (α×Int))(x y:α)(k:Int):GP ((x,k)::r) y=GP r y+if x=y then 1 else 0:=by
 unfold GP;by_cases h:x=y<;>simp[h]
theorem N8{α:Type}[DecidableEq α]{r:List (α×Int)}{p:α×Int}(h:p∈r):0<GP r p.1:=by
 unfold GP;exact List.length_pos_of_mem (List.mem_filter.2 ⟨h,by simp⟩)
theorem KU{α:Type}[DecidableEq α]{r:List (α×Int)}{x:α}(h:0<GP r x):∃p∈r,p.1=x:=by
 unfold GP at h;obtain⟨p,hp⟩:=List.exists_mem_of_length_pos h;obtain⟨h1,i⟩:=List.mem_filter.1 hp;exact⟨p,h1,by simpa using i⟩
structure Tab.FR {α:Type} [DecidableEq α] (t:Tab α) (z:α) (r:List (α×Int)):Prop where
 has:∀p∈r,t.Has z p.1 p.2 (GP r p.1)
 pl:∀(i:Nat) (q:Ent α),t.places[i]?=some q->0<q.held->∃p∈r,p.1=q.set
 em:t.empty=GP r z
theorem Tab.FR.z{α:Type}[DecidableEq α](z:α):(Tab.z α).FR z []:=⟨fun p hp=>(by cases hp),fun i q j=>(by simp[Tab.z] at j),rfl⟩
theorem Tab.Has.uniq{α:Type}{t:Tab α}{z x y:α}{k l:Int}{n m:Nat}{G:α->Prop}(E:t.Inv G)(h1:t.Has z x k n)(o:t.Has z y l m):k=l↔x=y:=by
 constructor
 .rintro rfl;have:=h1.1.symm.trans o.1;cases this;rfl
 .rintro rfl;by_cases h0:k=0
  .have:=h1.2.2.1 h0;rw[h0,o.2.2.2 this]
  .obtain⟨i,rfl,hp⟩:=h1.pos h0;have B:l≠0:=fun e=>h0 (h1.2.2.2 (o.2.2.1 e));obtain⟨j,rfl,I⟩:=o.pos B;rw[E.Gy i j _ _ hp I h1.2.1 o.2.1 rfl]
theorem Tab.FR.added{α:Type}[DecidableEq α]{t t':Tab α}{z x:α}{k:Int}{r:List (α×Int)}{G:α->Prop}(h:t.FR z r)(ha:t.Jo z x k t')(I:t.Inv G)(J:x≠z->G x):t'.FR z (r++[(x,k)]):=by
 have O:t'.Has z x k (GP r x+1):=by
  by_cases S:∃p∈r,p.1=x
  .obtain⟨p,hp,rfl⟩:=S;obtain⟨h1,U⟩:=ha.keeps I J (h.has p hp);rw[if_pos rfl] at h1;rw[U.1 rfl];exact h1
  .have h0:GP r x=0:=by
    refine Nat.eq_zero_of_not_pos fun Q=>S (KU Q)
   rcases ha with⟨rfl,rfl,rfl⟩|⟨o,i,n,hp,T,rfl,rfl⟩|⟨o,y,rfl,rfl⟩
   .rw[<-h.em];exact Tab.Has.Sl (t:={ t with empty:=t.empty+1 }) (Nat.succ_pos _)
   .exact absurd (h.pl i _ hp T) S
   .rw[h0];obtain⟨_,h1,_⟩:=Tab.FF I (J o) y;exact Tab.Has.SZ o h1 Nat.one_pos
 refine⟨fun p hp=>?_,fun i q E h0=>?_,?_⟩
 .rw[Ot];rcases List.mem_append.1 hp with hp|hp
  .have:=(ha.keeps I J (h.has p hp)).1;by_cases e:x=p.1
   .rw[if_pos e] at this ⊢;exact this
   .rw[if_neg e] at this ⊢;exact this
  .rw[List.mem_singleton] at hp;subst hp;rw[if_pos rfl];exact O
 .rcases ha with⟨rfl,rfl,rfl⟩|⟨o,j,n,hp,T,rfl,rfl⟩|⟨o,y,rfl,rfl⟩
  .obtain⟨p,hp,e⟩:=h.pl i q E h0;exact⟨p,List.mem_append_left _ hp,e⟩
  .have B:(t.places.set j ⟨x,n+1⟩)[i]?=some q:=E;by_cases e:i=j
   .subst e;rw[List.getElem?_set_self (List.getElem?_eq_some_iff.1 hp).1] at B;cases B;exact⟨(x,(i:Int)+1),by simp,rfl⟩
   .rw[List.getElem?_set_ne (Ne.symm e)] at B;obtain⟨p,hp,e⟩:=h.pl i q B h0;exact⟨p,List.mem_append_left _ hp,e⟩
  .obtain⟨_,h1,_,V,_⟩:=Tab.FF I (J o) y;by_cases e:i=(t.put x).1
   .subst e;rw[h1] at E;cases E;exact⟨_,List.mem_append_right _ (List.mem_singleton.2 rfl),rfl⟩
   .rw[V i e] at E;obtain⟨p,hp,e⟩:=h.pl i q E h0;exact⟨p,List.mem_append_left _ hp,e⟩
 .rw[Ot];rcases ha with⟨rfl,rfl,rfl⟩|⟨o,j,n,hp,T,rfl,rfl⟩|⟨o,y,rfl,rfl⟩
  .rw[if_pos rfl,<-h.em]
  .rw[if_neg o];exact h.em
  .rw[if_neg o];obtain⟨_,_,_,_,X⟩:=Tab.FF I (J o) y;rw[X];exact h.em
theorem Tab.FR.bq{α:Type}[DecidableEq α]{t:Tab α}{z x:α}{k:Int}{r:List (α×Int)}{G:α->Prop}(h:t.FR z ((x,k)::r))(V:t.Inv G)(X:∀s,G s->s≠z):(t.release z k).FR z r:=by
 have I:=h.has (x,k) List.mem_cons_self;rw[EU,if_pos rfl] at I;refine⟨fun p hp=>?_,fun i q E h0=>?_,?_⟩
 .have B:=h.has p (List.mem_cons_of_mem _ hp);rw[EU] at B;have hu:=Tab.Has.uniq V I B;by_cases e:k=p.2
  .have ex:=hu.1 e;simp only at ex;rw[if_pos ex] at B;have:=B.release (k:=k) (.inr (by have:=N8 hp;omega));rw[if_pos e,Nat.add_sub_cancel] at this;exact this
  .have ex:¬x=p.1:=fun h'=>e (hu.2 h');rw[if_neg ex,Nat.add_zero] at B;have:=B.release (k:=k) (.inl e);rw[if_neg e] at this;exact this
 .have Q:∃T,t.places[i]?=some T/\0<T.held/\T.set=q.set/\(q.set=x->0<GP r x):=by
   unfold Tab.release at E;rw[I.1] at E;dsimp only at E;by_cases y:k=0
   .rw[if_pos y] at E;refine⟨q,E,h0,rfl,fun e=>?_⟩;exact absurd (e.trans (I.2.2.1 y)) (X _ (V.ok i q E h0))
   .rw[if_neg y] at E;obtain⟨j,rfl,S⟩:=I.pos y;have U:=(List.getElem?_eq_some_iff.1 S).1;rw[show((j:Int)+1-1).toNat=j by omega] at E;by_cases J:i=j
    .subst J;split at E
     .have o:(t.places.set i ⟨z,0⟩)[i]?=some q:=E;rw[List.getElem?_set_self U] at o;cases o;exact absurd h0 (Nat.lt_irrefl _)
     .have o:(t.places.set i _)[i]?=some q:=E;rw[List.getElem?_set_self U] at o;cases o;exact⟨_,S,Nat.succ_pos _,rfl,fun _=>by simp only at h0;omega⟩
    .have o:t.places[i]?=some q:=by
      split at E
      .have o:(t.places.set j ⟨z,0⟩)[i]?=some q:=E;rwa [List.getElem?_set_ne (Ne.symm J)] at o
      .have o:(t.places.set j _)[i]?=some q:=E;rwa [List.getElem?_set_ne (Ne.symm J)] at o
     exact⟨q,o,h0,rfl,fun e=>absurd (V.Gy i j _ _ o S h0 I.2.1 e) J⟩
  obtain⟨T,o,Y,Z,a1⟩:=Q;obtain⟨p,hp,ep⟩:=h.pl i T o Y;rcases List.mem_cons.1 hp with rfl|hp
  .obtain⟨p',B,e'⟩:=KU (a1 (by rw[<-Z,<-ep]));exact⟨p',B,by rw[e',<-Z,<-ep]⟩
  .exact⟨p,hp,by rw[ep,Z]⟩
 .have O:=h.em;rw[EU] at O;unfold Tab.release;rw[I.1];dsimp only;by_cases y:k=0
  .rw[if_pos y];rw[if_pos (I.2.2.1 y)] at O;show t.empty-1=_;omega
  .rw[if_neg y];rw[if_neg (fun e=>y (I.2.2.2 e))] at O;split<;>exact O
end Go.K
namespace Go.K
open Go
section
variable {α:Type}[DecidableEq α]{t t':Tab α}{z s:α}{f:Int->α}{h:Int->Nat}{id:Int}{G:α->Prop}
theorem L5{r q:List (α×Int)}(hp:r.Perm q)(x:α):GP r x=GP q x:=(hp.filter _).length_eq
theorem Tab.FR.perm{r q:List (α×Int)}(j:t.FR z r)(hp:r.Perm q):t.FR z q:=
 ⟨fun p o=>by rw[<-L5 hp];exact j.has p (hp.mem_iff.2 o),fun i e h1 x=>by obtain⟨p,y,B⟩:=j.pl i e h1 x;exact⟨p,hp.mem_iff.1 y,B⟩,by rw[<-L5 hp];exact j.em⟩
omit [DecidableEq α] in
theorem Tab.UT{n:Nat}{x:α}{k:Int}(h:t.Has z x k n):(t.hold z k).Has z x k (n+1)/\(∀(i:Nat) (q:Ent α),(t.hold z k).places[i]?=some q->0<q.held->∃O:Ent α,t.places[i]?=some O/\0<O.held/\O.set=q.set)/\((t.hold z k).empty=if k=0 then t.empty+1 else t.empty)/\
  (∀{y l m},l≠k->t.Has z y l m->(t.hold z k).Has z y l m):=by
 unfold Tab.hold;rw[h.1];dsimp only;by_cases h0:k=0
 .subst h0;obtain⟨rfl,rfl⟩:=h.zero;rw[if_pos rfl,if_pos rfl];refine⟨Tab.Has.Sl (t:={ t with empty:=t.empty+1 }) (Nat.succ_pos _),fun i q Q E=>⟨q,Q,E,rfl⟩,rfl,fun hl o=>?_⟩;obtain⟨j,rfl,hp⟩:=o.pos hl;exact Tab.Has.SZ (t:={ t with empty:=t.empty+1 }) (fun e=>hl (o.2.2.2 e)) hp o.2.1
 .obtain⟨i,rfl,hp⟩:=h.pos h0;have J:=(List.getElem?_eq_some_iff.1 hp).1;rw[if_neg h0,if_neg h0,show((i:Int)+1-1).toNat=i by omega];refine⟨Tab.Has.SZ (t:=t.HG i ⟨x,n+1⟩) (fun e=>h0 (h.2.2.2 e)) (by show(t.places.set i _)[i]?=_;rw[List.getElem?_set_self J]) (Nat.succ_pos _),fun j q Q E=>?_,rfl,fun{y l m} hl o=>?_⟩
  .have B:(t.places.set i ⟨x,n+1⟩)[j]?=some q:=Q;by_cases e:i=j
   .subst e;rw[List.getElem?_set_self J] at B;cases B;exact⟨_,hp,h.2.1,rfl⟩
   .rw[List.getElem?_set_ne e] at B;exact⟨q,B,E,rfl⟩
  .by_cases I:l=0
   .subst I;obtain⟨rfl,rfl⟩:=o.zero;exact Tab.Has.Sl (t:=t.HG i ⟨x,n+1⟩) o.2.1
   .obtain⟨j,rfl,S⟩:=o.pos I;have T:i≠j:=fun e=>hl (by rw[e]);exact Tab.Has.SZ (t:=t.HG i ⟨x,n+1⟩) (fun e=>I (o.2.2.2 e)) (by show(t.places.set i _)[j]?=_;rw[List.getElem?_set_ne T];exact S) o.2.1
theorem Tab.FR.hold{r:List (α×Int)}(y:t.FR z r)(S:t.Inv G){p:α×Int}(hp:p∈r):(t.hold z p.2).FR z (p::r):=by
 obtain⟨x,k⟩:=p;have j:=y.has _ hp;obtain⟨I,J,a3,a4⟩:=Tab.UT j;simp only at I J a3 a4 j ⊢;have O:=N8 hp;refine⟨fun q o=>?_,fun i q o B=>?_,?_⟩
 .rw[EU];have E:q∈r:=by
   rcases List.mem_cons.1 o with rfl|o
   .exact hp
   .exact o
  have Q:=y.has q E;have hu:=Tab.Has.uniq S j Q;by_cases e:k=q.2
  .have ex:=hu.1 e;rw[if_pos ex,<-ex,<-e];exact I
  .rw[if_neg fun T=>e (hu.2 T),Nat.add_zero];exact a4 (fun e'=>e e'.symm) Q
 .obtain⟨U,h1,V,X⟩:=J i q o B;obtain⟨Y,Z,h5⟩:=y.pl i U h1 V;exact⟨Y,List.mem_cons_of_mem _ Z,by rw[h5,X]⟩
 .rw[EU,a3,y.em];by_cases h0:k=0
  .rw[if_pos h0,if_pos (j.2.2.1 h0)]
  .rw[if_neg h0,if_neg fun e=>h0 (j.2.2.2 e),Nat.add_zero]
theorem Tab.FR.cQ{r:List (α×Int)}(j:t.FR z r):(t.hold z 0).FR z ((z,0)::r):=by
 have e:t.hold z 0={ t with empty:=t.empty+1 }:=by unfold Tab.hold Tab.ask;simp
 rw[e];refine⟨fun q o=>?_,fun i q o y=>?_,?_⟩
 .rw[EU];rcases List.mem_cons.1 o with rfl|o
  .rw[if_pos rfl,<-j.em];exact Tab.Has.Sl (t:={ t with empty:=t.empty+1 }) (Nat.succ_pos _)
  .have x:=j.has q o;by_cases h0:q.2=0
   .have E:=x.2.2.1 h0;rw[h0,E,if_pos rfl,<-j.em];exact Tab.Has.Sl (t:={ t with empty:=t.empty+1 }) (Nat.succ_pos _)
   .obtain⟨i,I,hp⟩:=x.pos h0;have B:q.1≠z:=fun e=>h0 (x.2.2.2 e);rw[if_neg (Ne.symm B),I];exact Tab.Has.SZ (t:={ t with empty:=t.empty+1 }) B hp x.2.1
 .obtain⟨J,O,Q⟩:=j.pl i q o y;exact⟨J,List.mem_cons_of_mem _ O,Q⟩
 .show t.empty+1=_;rw[EU,if_pos rfl,j.em]
def Tab.Holds(t:Tab α)(z:α)(f:Int->α)(h:Int->Nat):Prop:=f 0=z/\∃r:List (α×Int),t.FR z r/\(∀p∈r,p.1=f p.2)/\∀id,r.countP (fun p=>decide (p.2=id))=h id
theorem Tab.Holds.mem(o:t.Holds z f h)(h0:0<h id):∃r:List (α×Int),t.FR z r/\(∀p∈r,p.1=f p.2)/\(∀id,r.countP (fun p=>decide (p.2=id))=h id)/\(f id,id)∈r:=by
 obtain⟨_,r,h1,i,j⟩:=o;refine⟨r,h1,i,j,?_⟩;rw[<-j] at h0;obtain⟨p,hp,e⟩:=List.countP_pos_iff.1 h0;simp only[decide_eq_true_eq] at e;have:=i p hp;rw[<-e,<-this];exact hp
theorem Tab.Holds.has(i:t.Holds z f h)(h0:0<h id):∃n,t.Has z (f id) id n:=by
 obtain⟨r,h1,_,_,j⟩:=i.mem h0;exact⟨_,h1.has _ j⟩
theorem Tab.Holds.ask(i:t.Holds z f h)(h0:0<h id):∃n,t.ask z id=some ⟨f id,n⟩:=by
 obtain⟨n,h1⟩:=i.has h0;exact⟨n,h1.1⟩
theorem Tab.Holds.inj(i:t.Holds z f h)(j:t.Inv G){x y:Int}(o:0<h x)(B:0<h y):x=y↔f x=f y:=by
 obtain⟨n,h1⟩:=i.has o;obtain⟨m,E⟩:=i.has B;exact Tab.Has.uniq j h1 E
theorem Tab.Holds.new(z:α):(Tab.z α).Holds z (fun _=>z) fun _=>0:=⟨rfl,[],Tab.FR.z z,fun p hp=>(nomatch hp),fun _=>rfl⟩
theorem Tab.Holds.congr{i:Int->Nat}(j:t.Holds z f h)(e:∀x,h x=i x):t.Holds z f i:=by
 obtain⟨h0,r,h1,o,y⟩:=j;exact⟨h0,r,h1,o,fun x=>(y x).trans (e x)⟩
theorem Tab.Holds.hold(o:t.Holds z f h)(E:t.Inv G)(h0:0<h id\/id=0):(t.hold z id).Holds z f fun x=>h x+if x=id then 1 else 0:=by
 have B:=o.1;obtain⟨r,i,j,y⟩:∃r:List (α×Int),(∀p∈r,p.1=f p.2)/\(∀id,r.countP (fun p=>decide (p.2=id))=h id)/\(t.hold z id).FR z ((f id,id)::r):=by
  rcases h0 with h0|rfl
  .obtain⟨r,h1,i,j,y⟩:=o.mem h0;exact⟨r,i,j,h1.hold E y⟩
  .obtain⟨_,r,h1,i,j⟩:=o;exact⟨r,i,j,by rw[B];exact h1.cQ⟩
 refine⟨B,(f id,id)::r,y,fun p hp=>?_,fun x=>?_⟩
 .rcases List.mem_cons.1 hp with rfl|hp
  .rfl
  .exact i p hp
 .rw[List.countP_cons,j];by_cases e:x=id
  .subst e;simp
  .simp[e,Ne.symm e]
theorem Tab.Holds.free(j:t.Holds z f h)(y:t.Inv G)(B:∀s,G s->s≠z)(h0:0<h id):(t.release z id).Holds z f fun x=>h x-if x=id then 1 else 0:=by
 obtain⟨r,h1,E,I,J⟩:=j.mem h0;have hp:r.Perm ((f id,id)::r.erase (f id,id)):=List.perm_cons_erase J;have O:=h1.perm hp;refine⟨j.1,r.erase (f id,id),O.bq y B,fun p i=>E p (List.mem_of_mem_erase i),fun x=>?_⟩;have o:=I x;rw[hp.countP_eq,List.countP_cons] at o;show _=h x-_;rw[<-o];by_cases e:x=id
 .subst e;simp
 .simp[e,Ne.symm e]
theorem Tab.Holds.added(I:t.Holds z f h)(J:t.Inv G)(ha:t.Jo z s id t')(O:s≠z->G s):∃j:Int->α,t'.Holds z j (fun x=>h x+if x=id then 1 else 0)/\j id=s/\(∀x,0<h x->j x=f x):=by
 obtain⟨o,r,h1,y,B⟩:=I;have i:=h1.added ha J O;have key:∀p∈r,p.2=id->p.1=s:=by
  intro p hp e;have a:=i.has p (List.mem_append_left _ hp);have b:=i.has (s,id) (List.mem_append_right _ (List.mem_singleton.2 rfl));rw[e] at a;have:=a.1.symm.trans b.1;cases this;rfl
 refine⟨fun x=>if x=id then s else f x,⟨?_,r++[(s,id)],i,fun p hp=>?_,fun x=>?_⟩,by simp,fun x E=>?_⟩
 .show(if(0:Int)=id then s else f 0)=z;split
  .rename_i e;have b:=i.has (s,id) (List.mem_append_right _ (List.mem_singleton.2 rfl));exact b.2.2.1 e.symm
  .exact o
 .rcases List.mem_append.1 hp with hp|hp
  .by_cases e:p.2=id
   .rw[key p hp e];simp[e]
   .simp[e,y p hp]
  .rw[List.mem_singleton] at hp;subst hp;simp
 .rw[List.countP_append,B];by_cases e:x=id
  .subst e;simp
  .simp[e,Ne.symm e]
 .by_cases e:x=id
  .subst e;rw[<-B] at E;obtain⟨p,hp,e⟩:=List.countP_pos_iff.1 E;simp only[decide_eq_true_eq] at e;simp only[if_true];rw[<-key p hp e,y p hp,e]
  .simp[e]
theorem Tab.Holds.len(hh:t.Holds z f h)(E:t.Inv G)(hG:∀s,G s->s≠z){L:List α}(hL:L.Nodup)(hm:∀s,s∈L↔s≠z/\∃id,0<h id/\f id=s):t.places.length=t.free.length+L.length:=by
 let I:=(List.range t.places.length).filter fun i=>decide (i∉t.free)
 have Q:∀i,i∈I↔∃p:Ent α,t.places[i]?=some p/\0<p.held:=by
  intro i;simp only[I,List.mem_filter,List.mem_range,decide_eq_true_eq];constructor
  .rintro⟨a,b⟩;refine⟨t.places[i],List.getElem?_eq_getElem a,Nat.pos_of_ne_zero fun e=>b ((E.SQ i).2 ⟨_,List.getElem?_eq_getElem a,e⟩)⟩
  .rintro⟨p,hp,h0⟩;refine⟨(List.getElem?_eq_some_iff.1 hp).1,fun hf=>?_⟩;obtain⟨q,x,J⟩:=(E.SQ i).1 hf;rw[hp] at x;cases x;omega
 have Z:t.places.length=t.free.length+I.length:=by
  have hp:((List.range t.places.length).filter fun i=>decide (i∈t.free)).Perm t.free:=by
   refine(List.perm_ext_iff_of_nodup (List.nodup_range.filter _) E.PA).2 fun i=>?_;simp only[List.mem_filter,List.mem_range,decide_eq_true_eq];refine⟨fun h=>h.2,fun h=>⟨?_,h⟩⟩;obtain⟨p,hp,_⟩:=(E.SQ i).1 h;exact(List.getElem?_eq_some_iff.1 hp).1
  have h1:=hp.length_eq;have T:∀l:List Nat,l.length=(l.filter fun i=>decide (i∈t.free)).length+(l.filter fun i=>decide (i∉t.free)).length:=by
   intro l;induction l with
   |nil=>rfl
   |cons i l ih=>
    rw[List.filter_cons,List.filter_cons,List.length_cons,ih];by_cases e:i∈t.free
    .simp[e];omega
    .simp[e];omega
  have O:=T (List.range t.places.length);rw[List.length_range,h1] at O;exact O
 let S:Nat->α:=fun i=>match t.places[i]? with|some p=>p.set|none=>z
 have y:(I.map S).Perm L:=by
  refine(List.perm_ext_iff_of_nodup ?_ hL).2 fun s=>?_
  .refine List.pairwise_map.2 (List.Pairwise.imp_of_mem ?_ (List.nodup_range.filter _:I.Nodup));intro i j B hj U e;refine U ?_;obtain⟨p,hp,o⟩:=(Q i).1 B;obtain⟨q,x,J⟩:=(Q j).1 hj;simp only[S,hp,x] at e;exact E.Gy i j p q hp x o J e
  .rw[hm,List.mem_map];obtain⟨V,r,h1,T,O⟩:=hh;constructor
   .rintro⟨i,B,rfl⟩;obtain⟨p,hp,o⟩:=(Q i).1 B;simp only[S,hp];obtain⟨q,x,e⟩:=h1.pl i p hp o;refine⟨hG _ (E.ok i p hp o),q.2,?_,by rw[<-T q x,e]⟩;rw[<-O];exact List.countP_pos_iff.2 ⟨q,x,by simp⟩
   .rintro⟨hz,id,h0,rfl⟩;obtain⟨n,X⟩:=Tab.Holds.has ⟨V,r,h1,T,O⟩ h0;have Y:id≠0:=fun e=>hz (X.2.2.1 e);obtain⟨i,rfl,hp⟩:=X.pos Y;exact⟨i,(Q i).2 ⟨_,hp,X.2.1⟩,by simp[S,hp]⟩
 have:=y.length_eq;rw[List.length_map] at this;omega
end
end Go.K
namespace Go.Proofs.YtmdhibffnkhcnaaGreatDoor
open Go Go.K Proofs.Tryz
theorem DF.up{α:Type}{g:AvT α}{F C:Nat->Prop}{W:World}{b bt N N':Nat}{l:List α}(h:DF g F C W b bt l N)(i:N<=N'):DF g F C W b bt l N':=by
 obtain⟨A,T,h1,j,o,x,y⟩:=h.Dg;exact⟨h.box,⟨A,T,h1,j,o,x,Nat.le_trans y i⟩,h.fb⟩
def IH{α:Type}(e:Bool)(g:AvT α)(F C:Nat->Prop)(W:World)(b:Nat)(l:List α)(N:Nat):Prop:=
 (∃bt,DF g F C W b bt l N)\/(e=true/\Bx W b [.pointer none]/\l=[]/\(∀x,F x↔x=b)/\∀x,¬C x)
section
variable {α:Type}{e:Bool}{g:AvT α}{F C M:Nat->Prop}{W W':World}{b N N':Nat}{l:List α}
theorem IH.mod(h:IH e g F C W b l N)(hm:Mod M W W')(i:∀x,F x\/C x->¬M x):IH e g F C W' b l N:=by
 rcases h with⟨bt,h⟩|⟨h1,o,y,j,B⟩
 .exact .inl ⟨bt,h.mod hm i⟩
 .exact .inr ⟨h1,o.mod hm (i b (.inl ((j b).2 rfl))),y,j,B⟩
theorem IH.up(h:IH e g F C W b l N)(i:N<=N'):IH e g F C W b l N':=by
 rcases h with⟨bt,h⟩|h
 .exact .inl ⟨bt,h.up i⟩
 .exact .inr h
theorem IH.lt(h:IH e g F C W b l N):∀x,F x\/C x->x<W.heap.size:=by
 rcases h with⟨bt,h⟩|⟨h1,j,B,o,y⟩
 .exact h.lt
 .rintro x (i|i)
  .rw[(o x).1 i];exact j.lt (Nat.succ_pos _)
  .exact(y x i).elim
theorem IH.t(h:IH false g F C W b l N):∃bt,DF g F C W b bt l N:=h.resolve_right fun h=>nomatch h.1
theorem IH.fb(h:IH e g F C W b l N):F b:=by
 rcases h with⟨bt,h⟩|⟨h1,j,o,i,x⟩
 .exact h.fb.1
 .exact(i b).2 rfl
end
structure TxA where
 b:Nat
 r:Nat
 s:Nat
 p:Nat
 t:Nat
structure TxK where
 r:Bool
 s:Bool
 p:Bool
structure TxG where
 r:Nat->Prop
 s:Nat->Prop
 p:Nat->Prop
 c:Nat->Prop
 t:Nat->Prop
abbrev TxK.f:TxK:=⟨false,false,false⟩
structure NR (k:TxK) (w0:World) (own:Nat->Nat) (G:TxG) (F:Nat->Prop) (W:World) (a:TxA) (σ:SKs) (most:Int) (l1:List Ck) (l2:List Spn) (L:List (List Attr)) (t:Tab (List Attr)) (N:Nat):Prop where
 box:Bx W a.b (Sm σ.sv most a.r a.s a.p a.t)
 GX:IH k.r As.toAvT G.r FN W a.r l1 N
 Dv:IH k.s Cl.toAvT G.s FN W a.s l2 N
 para:IH k.p A6.toAvT G.p G.c W a.p L N
 PB:EV G.t W a.t σ t
 IP:DG σ.S W σ.sv σ.ks
 cb:own a.b=0
 cr:∀x,G.r x->own x=1
 cs:∀x,G.s x->own x=2
 cp:∀x,G.p x\/G.c x->own x=3
 ct:∀x,G.t x->own x=4
 cS:∀x,σ.S x->own x=5/\x<W.heap.size
 lo:∀x,(x=a.b\/G.r x\/G.s x)\/(G.p x\/G.c x)\/G.t x->F x
 hl:∀x,F x->w0.heap.size<=x/\x<W.heap.size/\¬σ.S x
 g:Grow w0 W
section
variable {k:TxK}{w0:World}{own:Nat->Nat}{G:TxG}{F M:Nat->Prop}{W W':World}{a:TxA}{σ:SKs}{most:Int}{l1 VX:List Ck}{l2 Sc:List Spn}{L L':List (List Attr)}{t t':Tab (List Attr)}{N N' c:Nat}
theorem NR.frame(h:NR k w0 own G F W a σ most l1 l2 L t N)(h1:1<=c)(I:c<=4)(hm:Mod M W W')(o:∀x,M x->own x=c/\F x)(y:N<=N') :
  Bx W' a.b (Sm σ.sv most a.r a.s a.p a.t)/\(c≠1->IH k.r As.toAvT G.r FN W' a.r l1 N')/\(c≠2->IH k.s Cl.toAvT G.s FN W' a.s l2 N')/\(c≠3->IH k.p A6.toAvT G.p G.c W' a.p L N')/\(c≠4->EV G.t W' a.t σ t)/\DG σ.S W' σ.sv σ.ks/\Grow w0 W'/\
   (∀{j:Nat->Nat},(j=fun x=>if x<W.heap.size then own x else c)->j a.b=0/\(∀x,G.r x->j x=1)/\(∀x,G.s x->j x=2)/\(∀x,G.p x\/G.c x->j x=3)/\(∀x,G.t x->j x=4)/\(∀x,σ.S x->j x=5/\x<W'.heap.size)/\∀{X Y:Nat->Prop},(∀x,X x->own x=c)->(∀x,Y x->X x\/W.heap.size<=x)->∀x,Y x->j x=c):=by
 have z:=hm.size;have HH:∀x,F x->x<W.heap.size:=fun x i=>(h.hl x i).2.1;refine⟨h.box.mod hm fun e=>by have:=(o _ e).1;have:=h.cb;omega,fun hc=>(h.GX.mod hm fun x i e=>?_).up y,fun hc=>(h.Dv.mod hm fun x i e=>?_).up y,fun hc=>(h.para.mod hm fun x i e=>?_).up y,fun hc=>h.PB.mod hm fun x i e=>?_,h.IP.mod hm fun x _ i e=>?_,h.g.next hm fun x i e=>?_,?_⟩
 .have:=(o _ e).1;rcases i with i|i
  .have:=h.cr x i;omega
  .exact i.elim
 .have:=(o _ e).1;rcases i with i|i
  .have:=h.cs x i;omega
  .exact i.elim
 .have:=(o _ e).1;have:=h.cp x i;omega
 .have:=(o _ e).1;rcases i with i|i
  .have:=h.ct x i;omega
  .have:=(h.cS x i).1;omega
 .have:=(o _ e).1;have:=(h.cS x i).1;omega
 .have:=(h.hl _ (o x e).2).1;omega
 .rintro j rfl;have key:∀x,F x->(if x<W.heap.size then own x else c)=own x:=fun x i=>if_pos (HH x i);refine⟨by show ite _ _ _=0;rw[key _ (h.lo _ (.inl (.inl rfl)))];exact h.cb,fun x i=>by show ite _ _ _=1;rw[key _ (h.lo _ (.inl (.inr (.inl i))))];exact h.cr x i,fun x i=>by show ite _ _ _=2;rw[key _ (h.lo _ (.inl (.inr (.inr i))))];exact h.cs x i,fun x i=>by show ite _ _ _=3;rw[key _ (h.lo _ (.inr (.inl i)))];exact h.cp x i,fun x i=>by show ite _ _ _=4;rw[key _ (h.lo _ (.inr (.inr i)))];exact h.ct x i,fun x i=>?_,fun B E x i=>?_⟩
  .have:=h.cS x i;exact⟨by show ite _ _ _=5;rw[if_pos this.2];exact this.1,by omega⟩
  .show ite _ _ _=c;split
   .rcases E x i with e|e
    .exact B x e
    .omega
   .rfl
theorem NR.Vk{j:Nat->Prop}{e:Bool}(h:NR k w0 own G F W a σ most l1 l2 L t N)(hm:Mod G.r W W')(y:∀x,j x->G.r x\/W.heap.size<=x)(B:IH e As.toAvT j FN W' a.r VX N')(E:N<=N') :
  ∃o,NR { k with r:=e } w0 o { G with r:=j } (fun x=>F x\/j x) W' a σ most VX l2 L t N':=by
 obtain⟨I,f2,J,O,Q,f6,T,U⟩:=h.frame (c:=1) (by decide) (by decide) hm (fun x i=>⟨h.cr x i,h.lo x (.inl (.inr (.inl i)))⟩) E;obtain⟨V,g2,X,Y,Z,g6,g7⟩:=U rfl;have z:=hm.size;have z0:=h.g.size;have hS:∀x,σ.S x->x<W.heap.size:=fun x i=>(h.cS x i).2;refine⟨_,I,B,J (by decide),O (by decide),Q (by decide),f6,V,g7 h.cr y,X,Y,Z,g6,fun x i=>?_,fun x i=>?_,T⟩
 .rcases i with(i|i|i)|i
  .exact .inl (h.lo x (.inl (.inl i)))
  .exact .inr i
  .exact .inl (h.lo x (.inl (.inr (.inr i))))
  .exact .inl (h.lo x (.inr i))
 .have up:F x->w0.heap.size<=x/\x<W'.heap.size/\¬σ.S x:=fun i=>by have:=h.hl x i;exact⟨this.1,by omega,this.2.2⟩
  rcases i with i|i
  .exact up i
  .rcases y x i with e|e
   .exact up (h.lo x (.inl (.inr (.inl e))))
   .exact⟨by omega,B.lt x (.inl i),fun e=>by have:=hS x e;omega⟩
theorem NR.Ui{j:Nat->Prop}{e:Bool}(h:NR k w0 own G F W a σ most l1 l2 L t N)(hm:Mod G.s W W')(y:∀x,j x->G.s x\/W.heap.size<=x)(B:IH e Cl.toAvT j FN W' a.s Sc N')(E:N<=N') :
  ∃o,NR { k with s:=e } w0 o { G with s:=j } (fun x=>F x\/j x) W' a σ most l1 Sc L t N':=by
 obtain⟨I,J,f3,O,Q,f6,T,U⟩:=h.frame (c:=2) (by decide) (by decide) hm (fun x i=>⟨h.cs x i,h.lo x (.inl (.inr (.inr i)))⟩) E;obtain⟨V,X,g3,Y,Z,g6,g7⟩:=U rfl;have z:=hm.size;have z0:=h.g.size;have hS:∀x,σ.S x->x<W.heap.size:=fun x i=>(h.cS x i).2;refine⟨_,I,J (by decide),B,O (by decide),Q (by decide),f6,V,X,g7 h.cs y,Y,Z,g6,fun x i=>?_,fun x i=>?_,T⟩
 .rcases i with(i|i|i)|i
  .exact .inl (h.lo x (.inl (.inl i)))
  .exact .inl (h.lo x (.inl (.inr (.inl i))))
  .exact .inr i
  .exact .inl (h.lo x (.inr i))
 .have up:F x->w0.heap.size<=x/\x<W'.heap.size/\¬σ.S x:=fun i=>by have:=h.hl x i;exact⟨this.1,by omega,this.2.2⟩
  rcases i with i|i
  .exact up i
  .rcases y x i with e|e
   .exact up (h.lo x (.inl (.inr (.inr e))))
   .exact⟨by omega,B.lt x (.inl i),fun e=>by have:=hS x e;omega⟩
theorem NR.Wz{j o:Nat->Prop}{e:Bool}(h:NR k w0 own G F W a σ most l1 l2 L t N)(hm:Mod G.p W W')(B:∀x,j x\/o x->(G.p x\/G.c x)\/W.heap.size<=x)(E:IH e A6.toAvT j o W' a.p L' N')(I:N<=N') :
  ∃y,NR { k with p:=e } w0 y { G with p:=j,c:=o } (fun x=>F x\/j x\/o x) W' a σ most l1 l2 L' t N':=by
 obtain⟨J,O,Q,f4,T,f6,U,V⟩:=h.frame (c:=3) (by decide) (by decide) hm (fun x i=>⟨h.cp x (.inl i),h.lo x (.inr (.inl (.inl i)))⟩) I;obtain⟨X,Y,Z,g4,g5,g6,g7⟩:=V rfl;have z:=hm.size;have z0:=h.g.size;have hS:∀x,σ.S x->x<W.heap.size:=fun x i=>(h.cS x i).2;refine⟨_,J,O (by decide),Q (by decide),E,T (by decide),f6,X,Y,Z,g7 h.cp B,g5,g6,fun x i=>?_,fun x i=>?_,U⟩
 .rcases i with i|i|i
  .exact .inl (h.lo x (.inl i))
  .exact .inr i
  .exact .inl (h.lo x (.inr (.inr i)))
 .have up:F x->w0.heap.size<=x/\x<W'.heap.size/\¬σ.S x:=fun i=>by have:=h.hl x i;exact⟨this.1,by omega,this.2.2⟩
  rcases i with i|i
  .exact up i
  .rcases B x i with e|e
   .exact up (h.lo x (.inr (.inl e)))
   .exact⟨by omega,E.lt x i,fun e=>by have:=hS x e;omega⟩
theorem NR.aM{j:Nat->Prop}(h:NR k w0 own G F W a σ most l1 l2 L t N)(hm:Mod G.t W W')(y:∀x,j x->G.t x\/W.heap.size<=x/\x<W'.heap.size)(B:EV j W' a.t σ t')(E:N<=N') :
  ∃o,NR k w0 o { G with t:=j } (fun x=>F x\/j x) W' a σ most l1 l2 L t' N':=by
 obtain⟨I,J,O,Q,f5,f6,T,U⟩:=h.frame (c:=4) (by decide) (by decide) hm (fun x i=>⟨h.ct x i,h.lo x (.inr (.inr i))⟩) E;obtain⟨V,X,Y,Z,g5,g6,g7⟩:=U rfl;have z:=hm.size;have z0:=h.g.size;have hS:∀x,σ.S x->x<W.heap.size:=fun x i=>(h.cS x i).2;refine⟨_,I,J (by decide),O (by decide),Q (by decide),B,f6,V,X,Y,Z,g7 h.ct (fun x i=>(y x i).imp id And.left),g6,fun x i=>?_,fun x i=>?_,T⟩
 .rcases i with i|i|i
  .exact .inl (h.lo x (.inl i))
  .exact .inl (h.lo x (.inr (.inl i)))
  .exact .inr i
 .have up:F x->w0.heap.size<=x/\x<W'.heap.size/\¬σ.S x:=fun i=>by have:=h.hl x i;exact⟨this.1,by omega,this.2.2⟩
  rcases i with i|i
  .exact up i
  .rcases y x i with e|e
   .exact up (h.lo x (.inr (.inr e)))
   .exact⟨by omega,e.2,fun e=>by have:=hS x e;omega⟩
theorem NR.mod(h:NR k w0 own G F W a σ most l1 l2 L t N)(hm:Mod M W W')(j:∀x,M x->¬F x/\¬σ.S x/\w0.heap.size<=x):NR k w0 own G F W' a σ most l1 l2 L t N:=by
 have z:=hm.size;exact ⟨h.box.mod hm fun e=>(j _ e).1 (h.lo _ (.inl (.inl rfl))),h.GX.mod hm fun x i e=>(j x e).1 (i.elim (fun i=>h.lo x (.inl (.inr (.inl i)))) fun i=>i.elim),h.Dv.mod hm fun x i e=>(j x e).1 (i.elim (fun i=>h.lo x (.inl (.inr (.inr i)))) fun i=>i.elim),h.para.mod hm fun x i e=>(j x e).1 (h.lo x (.inr (.inl i))),
  h.PB.mod hm fun x i e=>i.elim (fun i=>(j x e).1 (h.lo x (.inr (.inr i)))) (j x e).2.1,h.IP.mod hm fun x _ i e=>(j x e).2.1 i,h.cb,h.cr,h.cs,h.cp,h.ct,fun x i=>⟨(h.cS x i).1,by have:=(h.cS x i).2;omega⟩,h.lo,fun x i=>⟨(h.hl x i).1,by have:=(h.hl x i).2.1;omega,(h.hl x i).2.2⟩,h.g.next hm fun x i e=>by have:=(j x e).2.2;omega⟩
end
def G2(k:TxK)(w0:World)(F:Nat->Prop)(W:World)(a:TxA)(σ:SKs)(most:Int)(rs:List Int)(l2:List Spn)(L:List (List Attr))(t:Tab (List Attr))(N:Nat):Prop:=
 ∃own G l1,BU l1=rs/\NR k w0 own G F W a σ most l1 l2 L t N
def Cm(k:TxK)(w0:World)(F:Nat->Prop)(W W':World)(a:TxA)(σ:SKs)(most:Int)(rs:List Int)(l2:List Spn)(L:List (List Attr))(t:Tab (List Attr))(N:Nat):Prop:=
 ∃F',(∀x,F' x->F x\/W.heap.size<=x)/\G2 k w0 F' W' a σ most rs l2 L t N/\Mod F W W'
section
variable {k:TxK}{w0:World}{F M:Nat->Prop}{W W':World}{a:TxA}{σ:SKs}{most:Int}{rs:List Int}{l2:List Spn}{L:List (List Attr)}{t:Tab (List Attr)}{N:Nat}
theorem G2.GX(h:G2 k w0 F W a σ most rs l2 L t N):∃l1 Fr,BU l1=rs/\IH k.r As.toAvT Fr FN W a.r l1 N/\(∀x,Fr x->F x/\x≠a.b)/\∀{W' j VX N' e},Mod Fr W W'->(∀x,j x->Fr x\/W.heap.size<=x)->IH e As.toAvT j FN W' a.r VX N'->N<=N'->Cm { k with r:=e } w0 F W W' a σ most (BU VX) l2 L t N':=by
 obtain⟨own,G,l1,h1,o⟩:=h;have up:∀x,G.r x->F x:=fun x i=>o.lo x (.inl (.inr (.inl i)));refine⟨l1,G.r,h1,o.GX,fun x i=>⟨up x i,fun e=>by have E:=o.cr x i;have Q:=o.cb;rw[e] at E;omega⟩,fun{W' j VX N' e} hm B I J=>?_⟩;obtain⟨y,O⟩:=o.Vk hm B I J;exact⟨_,fun x i=>i.elim .inl fun i=>(B x i).imp (up x) id,⟨y,_,VX,rfl,O⟩,hm.mono fun x _ i=>up x i⟩
theorem G2.Dv(h:G2 k w0 F W a σ most rs l2 L t N):∃y,IH k.s Cl.toAvT y FN W a.s l2 N/\(∀x,y x->F x)/\∀{W' i Sc N' e},Mod y W W'->(∀x,i x->y x\/W.heap.size<=x)->IH e Cl.toAvT i FN W' a.s Sc N'->N<=N'->Cm { k with s:=e } w0 F W W' a σ most rs Sc L t N':=by
 obtain⟨own,G,l1,h1,B⟩:=h;have up:∀x,G.s x->F x:=fun x j=>B.lo x (.inl (.inr (.inr j)));refine⟨G.s,B.Dv,up,fun{W' i Sc N' e} hm E I J=>?_⟩;obtain⟨o,O⟩:=B.Ui hm E I J;exact⟨_,fun x j=>j.elim .inl fun j=>(E x j).imp (up x) id,⟨o,_,l1,h1,O⟩,hm.mono fun x _ j=>up x j⟩
theorem G2.para(h:G2 k w0 F W a σ most rs l2 L t N):∃B E,IH k.p A6.toAvT B E W a.p L N/\(∀x,B x\/E x->F x)/\∀{W' i j L' N' e},Mod B W W'->(∀x,i x\/j x->(B x\/E x)\/W.heap.size<=x)->IH e A6.toAvT i j W' a.p L' N'->N<=N'->Cm { k with p:=e } w0 F W W' a σ most rs l2 L' t N':=by
 obtain⟨own,G,l1,h1,I⟩:=h;have up:∀x,G.p x\/G.c x->F x:=fun x o=>I.lo x (.inr (.inl o));refine⟨G.p,G.c,I.para,up,fun{W' i j L' N' e} hm J O Q=>?_⟩;obtain⟨y,S⟩:=I.Wz hm J O Q;exact⟨_,fun x o=>o.elim .inl fun o=>(J x o).imp (up x) id,⟨y,_,l1,h1,S⟩,hm.mono fun x _ o=>up x (.inl o)⟩
theorem G2.PB(h:G2 k w0 F W a σ most rs l2 L t N):∃o,EV o W a.t σ t/\(∀x,o x->F x)/\∀{W' t'},IW o W W' a.t σ t'->Cm k w0 F W W' a σ most rs l2 L t' N:=by
 obtain⟨own,G,l1,h1,y⟩:=h;have up:∀x,G.t x->F x:=fun x i=>y.lo x (.inr (.inr i));refine⟨G.t,y.PB,up,fun{W' t'} E=>?_⟩;obtain⟨I,B,J,hm⟩:=E;obtain⟨j,O⟩:=y.aM hm B J (Nat.le_refl _);exact⟨_,fun x i=>i.elim .inl fun i=>(B x i).imp (up x) And.left,⟨j,_,l1,h1,O⟩,hm.mono fun x _ i=>up x i⟩
theorem G2.box(h:G2 k w0 F W a σ most rs l2 L t N):Bx W a.b (Sm σ.sv most a.r a.s a.p a.t)/\F a.b:=by
 obtain⟨own,G,l1,h1,i⟩:=h;exact⟨i.box,i.lo _ (.inl (.inl rfl))⟩
theorem G2.IP(h:G2 k w0 F W a σ most rs l2 L t N):DG σ.S W σ.sv σ.ks/\∀x,σ.S x->x<W.heap.size:=by
 obtain⟨own,G,l1,h1,i⟩:=h;exact⟨i.IP,fun x j=>(i.cS x j).2⟩
theorem G2.hl(h:G2 k w0 F W a σ most rs l2 L t N):∀x,F x->w0.heap.size<=x/\x<W.heap.size/\¬σ.S x:=by
 obtain⟨own,G,l1,h1,i⟩:=h;exact i.hl
theorem G2.g(h:G2 k w0 F W a σ most rs l2 L t N):Grow w0 W:=by
 obtain⟨own,G,l1,h1,i⟩:=h;exact i.g
theorem G2.mod(h:G2 k w0 F W a σ most rs l2 L t N)(hm:Mod M W W')(i:∀x,M x->¬F x/\¬σ.S x/\w0.heap.size<=x):G2 k w0 F W' a σ most rs l2 L t N:=by
 obtain⟨own,G,l1,h1,j⟩:=h;exact⟨own,G,l1,h1,j.mod hm i⟩
theorem G2.grow(h:G2 k w0 F W a σ most rs l2 L t N)(hm:Grow W W'):G2 k w0 F W' a σ most rs l2 L t N:=h.mod hm fun _ h=>h.elim
theorem G2.same(h:G2 k w0 F W a σ most rs l2 L t N)(hm:Grow W W'):Cm k w0 F W W' a σ most rs l2 L t N:=⟨F,fun _ h=>.inl h,h.grow hm,hm.mono fun _ _ h=>h.elim⟩
theorem G2.Ql(h:G2 .f w0 F W a σ most rs l2 L t N):∃l1 Fr bt,BU l1=rs/\DF As.toAvT Fr FN W a.r bt l1 N/\(∀x,Fr x->F x/\x≠a.b)/\∀{W' i VX N'},Mod Fr W W'->(∀x,i x->Fr x\/W.heap.size<=x)->DF As.toAvT i FN W' a.r bt VX N'->N<=N'->Cm .f w0 F W W' a σ most (BU VX) l2 L t N':=by
 obtain⟨l1,Fr,h1,j,o,y⟩:=h.GX;obtain⟨bt,j⟩:=j.t;exact⟨l1,Fr,bt,h1,j,o,fun hm B E I=>y (e:=false) hm B (.inl ⟨bt,E⟩) I⟩
theorem G2.PW(h:G2 .f w0 F W a σ most rs l2 L t N):∃i bt,DF Cl.toAvT i FN W a.s bt l2 N/\(∀x,i x->F x)/\∀{W' j Sc N'},Mod i W W'->(∀x,j x->i x\/W.heap.size<=x)->DF Cl.toAvT j FN W' a.s bt Sc N'->N<=N'->Cm .f w0 F W W' a σ most rs Sc L t N':=by
 obtain⟨i,o,y,B⟩:=h.Dv;obtain⟨bt,o⟩:=o.t;exact⟨i,bt,o,y,fun hm E I J=>B (e:=false) hm E (.inl ⟨bt,I⟩) J⟩
theorem G2.UL(h:G2 .f w0 F W a σ most rs l2 L t N):∃i j bt,DF A6.toAvT i j W a.p bt L N/\(∀x,i x\/j x->F x)/\∀{W' o y L' N'},Mod i W W'->(∀x,o x\/y x->(i x\/j x)\/W.heap.size<=x)->DF A6.toAvT o y W' a.p bt L' N'->N<=N'->Cm .f w0 F W W' a σ most rs l2 L' t N':=by
 obtain⟨i,j,B,E,I⟩:=h.para;obtain⟨bt,B⟩:=B.t;exact⟨i,j,bt,B,E,fun hm J O Q=>I (e:=false) hm J (.inl ⟨bt,O⟩) Q⟩
theorem Cm.next{j:TxK}{o:Nat->Prop}{y:World}{i:List Int}{Sc:List Spn}{L':List (List Attr)}{t':Tab (List Attr)}{N':Nat}(B:∀x,o x->F x\/W.heap.size<=x)(hm:Mod F W y)(h:Cm j w0 o y W' a σ most i Sc L' t' N'):Cm j w0 F W W' a σ most i Sc L' t' N':=by
 obtain⟨I,h1,J,O⟩:=h;have z:=hm.size;refine⟨I,fun x E=>?_,J,hm.next O fun x E e=>?_⟩
 .rcases h1 x E with e|e
  .exact B x e
  .exact .inr (by omega)
 .rcases B x e with e|e
  .exact e
  .omega
theorem Cm.step{i:World}(g:Grow W i)(h:Cm k w0 F i W' a σ most rs l2 L t N):Cm k w0 F W W' a σ most rs l2 L t N:=Cm.next (fun _ h=>.inl h) (g.mono fun _ _ h=>h.elim) h
theorem Cm.up{N':Nat}(h:Cm k w0 F W W' a σ most rs l2 L t N)(j:N<=N'):Cm k w0 F W W' a σ most rs l2 L t N':=by
 obtain⟨F',h1,⟨own,G,l1,o,i⟩,x⟩:=h;exact⟨F',h1,⟨own,G,l1,o,i.box,i.GX.up j,i.Dv.up j,i.para.up j,i.PB,i.IP,i.cb,i.cr,i.cs,i.cp,i.ct,i.cS,i.lo,i.hl,i.g⟩,x⟩
end
end Go.Proofs.YtmdhibffnkhcnaaGreatDoor
namespace Go.K
open Go
section
variable {α:Type}[DecidableEq α]{t t':Tab α}{z s:α}{f:Int->α}{h:Int->Nat}{id:Int}{G:α->Prop}
theorem Tab.Holds.idle(i:t.Holds z f h)(h0:0<h id\/id=0):0<=id/\id<=t.places.length:=by
 rcases h0 with h0|rfl;rotate_left
 .omega
 obtain⟨n,h1⟩:=i.has h0;by_cases o:id=0
 .omega
 .obtain⟨j,rfl,hp⟩:=h1.pos o;have:=(List.getElem?_eq_some_iff.1 hp).1;omega
omit [DecidableEq α] in
theorem Tab.Vm:(t.hold z id).places.length=t.places.length:=by
 unfold Tab.hold;cases t.ask z id with
 |none=>rfl
 |some p=>
  dsimp only;split
  .rfl
  .show(t.places.set _ _).length=_;rw[List.length_set]
omit [DecidableEq α] in
theorem Tab.Ka:(t.release z id).places.length=t.places.length:=by
 unfold Tab.release;cases t.ask z id with
 |none=>rfl
 |some p=>
  dsimp only;split
  .rfl
  .split<;>(show(t.places.set _ _).length=_;rw[List.length_set])
omit [DecidableEq α] in
theorem Tab.Jo.pl(ha:t.Jo z s id t'):t'.places.length<=t.places.length+1:=by
 rcases ha with⟨_,_,rfl⟩|⟨_,i,n,hp,j,_,rfl⟩|⟨_,_,_,rfl⟩
 .exact Nat.le_succ _
 .show(t.places.set _ _).length<=_;rw[List.length_set];omega
 .unfold Tab.put;cases t.free.getLast? with
  |some i=>show(t.places.set _ _).length<=_;rw[List.length_set];omega
  |none=>show(t.places++[_]).length<=_;rw[List.length_append,List.length_singleton];omega
theorem Q7{r:List (α×Int)}(i:t.FR z r)(j:t.Inv G)(y:∀p∈r,p.1=f p.2){p:α×Int}(hp:p∈r):GP r p.1=r.countP fun q=>decide (q.2=p.2):=by
 unfold GP;rw[List.countP_eq_length_filter];congr 1
 refine List.filter_congr fun q o=>?_;have hu:=Tab.Has.uniq j (i.has q o) (i.has p hp);by_cases e:q.2=p.2
 .simp[e,hu.1 e]
 .have e':¬q.1=p.1:=fun x=>e (hu.2 x);simp[e,e']
theorem Tab.Holds.small(E:t.Holds z f h)(J:t.Inv G)(X:∀s,G s->s≠z){H:Nat}(T:∀x,h x<=H)(hp:t.places.length<=H):t.Small H:=by
 obtain⟨_,r,h1,U,V⟩:=E;refine⟨hp,?_,fun q Y=>?_⟩
 .rw[h1.em];refine Nat.le_of_not_lt fun I=>?_;obtain⟨p,o,e⟩:=KU (r:=r) (x:=z) (by omega);rw[<-e,Q7 h1 J U o,V] at I;have:=T p.2;omega
 .refine Nat.le_of_not_lt fun I=>?_;obtain⟨i,O,e⟩:=List.mem_iff_getElem.1 Y;have y:t.places[i]?=some q:=by rw[List.getElem?_eq_getElem O,e]
  obtain⟨p,o,e'⟩:=h1.pl i q y (by omega);have E:=h1.has p o;have Q:p.2≠0:=fun e0=>X _ (J.ok i q y (by omega)) (e'▸E.2.2.1 e0);obtain⟨j,Z,B⟩:=E.pos Q;have S:=J.Gy i j q _ y B (by omega) E.2.1 e'.symm;subst S;rw[y] at B;have:q.held=GP r p.1:=by cases B;rfl
  rw[Q7 h1 J U o,V] at this;have:=T p.2;omega
end
end Go.K
namespace Go.Proofs.YtmdhibffnkhcnaaGreatDoor
open Go Go.K Proofs.Tryz
namespace Spn
theorem Ow(x:Int)(p:Option Int)(l:List Int):rn x p l<=l.length:=by
 induction l generalizing p with
 |nil=>exact Nat.le_refl _
 |cons y l i=>
  rw[rn,List.length_cons];have:=i (some y);split<;>omega
theorem Hw{x:Int}{p:Option Int}{l:List Int}(i:x∈l)(hp:p≠some x):0<rn x p l:=by
 induction l generalizing p with
 |nil=>cases i
 |cons y l j=>
  rw[rn];by_cases e:y=x
  .rw[if_pos ⟨e,hp⟩];omega
  .have h1:x∈l:=(List.mem_cons.1 i).resolve_left fun h=>e h.symm;have:=j (p:=some y) h1 (fun h=>e (Option.some.inj h));omega
theorem Tf{x:Int}{p:Option Int}{l:List Int}(h:0<rn x p l):x∈l:=by
 induction l generalizing p with
 |nil=>simp[rn] at h
 |cons y l i=>
  rw[rn] at h;by_cases e:y=x
  .exact List.mem_cons.2 (.inl e.symm)
  .rw[if_neg fun h=>e h.1] at h;exact List.mem_cons_of_mem _ (i (p:=some y) (by omega))
theorem XB(s:Spn){i j:Nat}(o:i<j)(y:j<=s.n):kd.part s i j=⟨j-i,s.id⟩:=by
 have x:(kd.μ s).1=s.n:=rfl;unfold Kd.part;rw[x];by_cases h:j<s.n
 .rw[if_pos h];by_cases h0:0<i
  .rw[if_pos h0];rfl
  .rw[if_neg h0,show i=0 by omega];rfl
 .rw[if_neg h,show j=s.n by omega];by_cases h0:0<i
  .rw[if_pos h0];rfl
  .rw[if_neg h0,show i=0 by omega];rfl
theorem Ra{l:List Spn}:∀{p:Option Int} (_:Gu p l) (i j:Nat),Gu (if i=0 then p else none) (kd.over l i j):=by
 induction l with
 |nil=>intro p _ i j;exact trivial
 |cons s l x=>
  intro p h i j;obtain⟨h1,B,y⟩:=h;have E:(kd.μ s).1=s.n:=rfl;rw[Kd.over,E];by_cases o:i<min j s.n
  .rw[if_pos o,XB s o (Nat.min_le_right _ _)];have:=x y (i-s.n) (j-s.n);rw[if_pos (by omega)] at this;refine⟨by show 0<min j s.n-i;omega,?_,this⟩;split
   .exact B
   .simp
  .rw[if_neg o,List.nil_append];by_cases I:j<=i
   .rw[Kd.Dz _ _ (by omega)];exact trivial
   .have:=Kq (x y (i-s.n) (j-s.n));rw[if_neg (by omega)];exact this
theorem GM{p:Option Int}{l:List Spn}(h:Gu p l)(i j:Nat):Gu none (kd.over l i j):=Kq (Ra h i j)
theorem Eu{p:Option Int}{l:List Spn}(h:Gu p l):l.length<=(l.flatMap u).length:=by
 induction l generalizing p with
 |nil=>exact Nat.le_refl _
 |cons s l i=>
  have:=i h.2.2;have:=h.1;rw[List.flatMap_cons,List.length_append,u,List.length_replicate,List.length_cons];omega
theorem Rn{l:List Spn}{x:Int}(h:x∈l.flatMap u):∃s∈l,s.id=x:=by
 obtain⟨s,i,j⟩:=List.mem_flatMap.1 h;exact⟨s,i,(List.mem_replicate.1 j).2.symm⟩
theorem JH{l:List Spn}{s:Spn}(i:s∈l)(j:0<s.n):s.id∈l.flatMap u:=List.mem_flatMap.2 ⟨s,i,List.mem_replicate.2 ⟨by omega,rfl⟩⟩
abbrev DB(l:List Spn)(x:Int):Nat:=l.countP fun s=>decide (s.id=x)
structure dr (l2 row:List Spn) (i j:Nat):Prop where
 same:∀x,rn x none ((kd.Bm l2 i j row).flatMap u)+DB (kd.over l2 (i-1) (min (j+1) (l2.flatMap u).length)) x=rn x none (l2.flatMap u)+DB (kd.over (kd.Bm l2 i j row) (i-1) (min (j+1) (l2.flatMap u).length-(j-i)+(row.flatMap u).length)) x
 mem:∀x,0<DB (kd.over (kd.Bm l2 i j row) (i-1) (min (j+1) (l2.flatMap u).length-(j-i)+(row.flatMap u).length)) x->x∈l2.flatMap u\/x∈row.flatMap u
 len:(kd.over l2 (i-1) (min (j+1) (l2.flatMap u).length)).length<=(l2.flatMap u).length/\(kd.over (kd.Bm l2 i j row) (i-1) (min (j+1) (l2.flatMap u).length-(j-i)+(row.flatMap u).length)).length<=(l2.flatMap u).length+(row.flatMap u).length
theorem Sy{α:Type}(P Q R:List α){a b:Nat}(ha:a=P.length)(hb:b=P.length+Q.length):((P++Q++R).take b).drop a=Q:=by
 subst ha hb;rw[List.take_left' (by rw[List.length_append]),List.drop_left' rfl]
theorem dd{l2:List Spn}(row:List Spn){i j:Nat}(hp:Gu none l2)(S:i<=j)(hj:j<=(l2.flatMap u).length):dr l2 row i j:=by
 have T:=HN i j row hp;have eu:(kd.Bm l2 i j row).flatMap u=(l2.flatMap u).take i++row.flatMap u++(l2.flatMap u).drop j:=De.Bm l2 row S;generalize o:l2.flatMap u=ids at *;generalize E:row.flatMap u=Q at *
 let P:=ids.take (i-1)
 let I:=(ids.take i).drop (i-1)
 let B:=(ids.take j).drop i
 let J:=(ids.drop j).take 1
 let R:=(ids.drop j).drop 1
 have eA:ids.take i=P++I:=by
  have:=(List.take_append_drop (i-1) (ids.take i)).symm;rwa [List.take_take,Nat.min_eq_left (by omega)] at this
 have eC:ids.drop j=J++R:=(List.take_append_drop 1 _).symm;have eB:ids=ids.take i++B++ids.drop j:=by
  have h1:=(List.take_append_drop i (ids.take j)).symm;rw[List.take_take,Nat.min_eq_left S] at h1;rw[<-h1,List.take_append_drop]
 have Y:ids=P++(I++B++J)++R:=by
  conv=>lhs;rw[eB,eA,eC]
  simp only[List.append_assoc]
 have e2:(kd.Bm l2 i j row).flatMap u=P++(I++Q++J)++R:=by
  rw[eu,eA,eC];simp only[List.append_assoc]
 have U:P.length=i-1:=by show(ids.take (i-1)).length=_;rw[List.length_take];omega
 have V:I.length=i-(i-1):=by show((ids.take i).drop (i-1)).length=_;rw[List.length_drop,List.length_take];omega
 have lB:B.length=j-i:=by show((ids.take j).drop i).length=_;rw[List.length_drop,List.length_take];omega
 have X:J.length=min 1 (ids.length-j):=by show((ids.drop j).take 1).length=_;rw[List.length_take,List.length_drop]
 have lR:R.length=ids.length-j-1:=by show((ids.drop j).drop 1).length=_;rw[List.length_drop,List.length_drop]
 have u1:(kd.over l2 (i-1) (min (j+1) ids.length)).flatMap u=I++B++J:=by
  rw[De.over,o];have:=Sy P (I++B++J) R (b:=min (j+1) ids.length) U.symm (by rw[List.length_append,List.length_append,U,V,lB,X];omega);rw[<-Y] at this;exact this
 have Z:(kd.over (kd.Bm l2 i j row) (i-1) (min (j+1) ids.length-(j-i)+Q.length)).flatMap u=I++Q++J:=by
  rw[De.over,e2];exact Sy _ _ _ U.symm (by rw[List.length_append,List.length_append,U,V,X];omega)
 have c1:=fun x=>TB x none _ (GM hp (i-1) (min (j+1) ids.length));have c2:=fun x=>TB x none _ (GM T (i-1) (min (j+1) ids.length-(j-i)+Q.length));have n1:=Eu (GM hp (i-1) (min (j+1) ids.length));have n2:=Eu (GM T (i-1) (min (j+1) ids.length-(j-i)+Q.length));rw[u1] at n1;rw[Z] at n2;refine⟨fun x=>?_,fun x hx=>?_,?_,?_⟩
 .rw[E,o,DB,DB,c1,c2,u1,Z,e2];have:=R4 x P (I++B++J) (I++Q++J) R (fun O=>?_) (fun O=>?_)
  .rw[<-Y] at this;omega
  .have:P.length≠0:=fun h=>O (List.eq_nil_of_length_eq_zero h);cases hA:I with
   |nil=>rw[hA] at V;simp at V;omega
   |cons y A2=>simp
  .have:R.length≠0:=fun h=>O (List.eq_nil_of_length_eq_zero h);have hC:J≠[]:=fun h=>by rw[h] at X;simp at X;omega
   exact⟨by simp[List.getLast?_append,List.getLast?_eq_some_getLast hC],by simp[hC],by simp[hC]⟩
 .rw[E,o,DB,c2,Z] at hx;have hm:=Tf hx;rw[o,E];rcases List.mem_append.1 hm with hm|hm
  .rcases List.mem_append.1 hm with hm|hm
   .exact .inl (List.mem_of_mem_take (List.mem_of_mem_drop hm))
   .exact .inr hm
  .exact .inl (List.mem_of_mem_drop (List.mem_of_mem_take hm))
 .rw[o];have:=congrArg List.length Y;simp only[List.length_append] at this n1;omega
 .rw[o,E];simp only[List.length_append] at n2;omega
end Spn
theorem EV.inv{F:Nat->Prop}{W:World}{b:Nat}{ks:SKs}{t:Tab (List Attr)}(h:EV F W b ks t):t.Inv (FQ ks.ks):=by
 obtain⟨C,pl,fr,bm,i⟩:=h;exact i.core.inv
theorem FQ.ne{ks:List DKey}:∀s,FQ ks s->s≠[]:=fun _ h=>h.1
section
variable {k:TxK}{w0:World}{F:Nat->Prop}{W:World}{a:TxA}{σ:SKs}{most:Int}{rs:List Int}{l2:List Spn}{L:List (List Attr)}{t:Tab (List Attr)}{N:Nat}
theorem Ja{fn:Nat}{op:Tab (List Attr)->Int->Tab (List Attr)}{S:Nat->Prop}{rv:Value}{row:List Spn}{P:Nat->Tab (List Attr)->Prop}{Kend:World->Prop}
 (call:∀{Z W t id},EV Z W a.t σ t->t.Small 1099511627->0<=id->id<=1099511627->AB prog fn [.pointer (some ⟨a.t,0,none⟩),.int .i64 id] (fun _ w'=>IW Z W w' a.t σ (op t id)) W)
 (rd:BJ S 2 DT W rv row)(hS:∀x,S x->¬F x)(hl:row.length<=1099511627776)
 (o:∀(m:Nat) (hm:m<row.length) t,P m t->t.Inv (FQ σ.ks)->t.Small 1099511627/\0<=row[m].id/\row[m].id<=1099511627/\P (m+1) (op t row[m].id))
 (h:G2 k w0 F W a σ most rs l2 L t N)(h0:P 0 t)
 (hK:∀W' t',Cm k w0 F W W' a σ most rs l2 L t' N->P row.length t'->Kend W') :
  Ay [(.int .i64 0)] (fun vs B I=>∀_:Env,
   Bc .i64 (nth vs 0) (.int .i64 (row.length:Int)) fun a1=>
   AD a1
   (Be 2 rv (nth vs 0) fun a6=>
   Ac 2 a6 (fun a7 a8=>
   An 108 [(.int .i64 0),(.int .i64 0)] (fun J ak=>
   AY 2 J a7 (fun E=>
   Az [6] [[],[0],[0,1],[0,1,2],[],[4],[0,1,2,3,4,5]] E.drew (fun M St=>
   AJ (.pointer (some ⟨a.b,0,none⟩)) fun al=>
   AM 5 al fun an=>
   BD (St 3) an fun av=>
   AM 1 J fun ax=>
   BD (St 5) ax fun ay=>
   AB prog fn [av,ay] (fun _t87 O=>
   Mod (M 6) E.drew O/\
   AX .i64 (nth vs 0) (.int .i64 1) fun b0=>
   B [b0] O) E.drew)) ak) a8) I)
   (Kend I)) W:=by
 obtain⟨ra,rc,rfl,_⟩:=rd.shape;have Q:=rd.HH (by decide);refine Ae (fun vs W'=>∃(m:Nat) (t':Tab (List Attr)),m<=row.length/\vs=[.int .i64 m]/\Cm k w0 F W W' a σ most rs l2 L t' N/\P m t') (fun vs _=>row.length-ED vs 0) ⟨0,t,Nat.zero_le _,rfl,h.same (Mod.refl _ _),h0⟩ ?_;rintro vs W1 ⟨m,t1,hm,rfl,⟨F1,f1,h1,X⟩,hP⟩ _;simp only[CN,List.headD_cons];rw[Ax];have z1:=X.size;refine AE (fun b6=>?_) fun b7=>?_;rotate_left
 .obtain rfl:m=row.length:=by omega
  exact hK W1 t1 ⟨F1,f1,h1,X⟩ hP
 have i:m<row.length:=by omega
 obtain⟨p,r,rfl,_,hr,hc,b1⟩:=Q.get i;have T:r=row[m].cells:=b1;subst T;obtain⟨p',r',e',b2,_⟩:=Q.get i;cases e';refine AZ i (Ah (vs:=row[m].cells) rfl (fun j u hu=>by rw[Addr.add_add];exact X.cell (hc j u hu) fun e=>hS _ b2.1 (by rw[BW] at e;exact e)) ?_);refine Bx.new (vs:=row[m].cells) rfl rfl (Spn.one _) fun b5 W2 b8 g2 B5=>?_;have Y:Grow W2 W2.drew:=Mod.drew _ _;have h2:=h1.grow (g2.trans Y);obtain⟨hB,b9⟩:=h2.box;have b3:=B5.grow Y;obtain⟨Z,hT,ba,put⟩:=h2.PB;have zd:=(g2.trans Y).size;have U:∀x,F1 x->x≠b5:=fun x V e=>by have:=(h1.hl x V).2.1;omega
 refine Ag (fun q y=>q=6/\F1 y) ?_;refine AH ?_;rw[AG,AI];refine Aa ⟨hB.cells 5 _ rfl,fun j hj e=>by obtain⟨rfl,_⟩:=e;exact absurd hj (by decide)⟩ ?_;rw[AG,AI];refine Aa ⟨b3.cells 1 _ rfl,fun j hj e=>U _ e.2 rfl⟩ ?_;obtain⟨q1,q2,q3,q4⟩:=o m i t1 hP hT.inv;refine AA (call hT q1 q2 q3) ?_;rintro _ W3 hA;obtain⟨F3,f3,h3,m3⟩:=put hA;refine⟨m3.mono fun x _ V=>⟨rfl,V⟩,?_⟩;rw[AR,AQ (by omega)];have b4:Mod F W W2.drew:=X.next (g2.trans Y) fun _ _ e=>e.elim;refine⟨⟨m+1,_,i,rfl,Cm.next (fun x V=>(f1 x V)) b4 ⟨F3,f3,h3,m3⟩,q4⟩,by rw[DW,DW];omega⟩
end
end Go.Proofs.YtmdhibffnkhcnaaGreatDoor
namespace Go.Proofs.YtmdhibffnkhcnaaGreatDoor
open Go Go.K Proofs.Tryz
theorem WI{e:Bool}{F:Nat->Prop}{W:World}{b N:Nat}{l:List Spn}(h:IH e Cl.toAvT F FN W b l N) :
  AB prog 111 [.pointer (some ⟨b,0,none⟩)] (fun v' w'=>v'=.int .i64 (EB l:Int)/\∃bt F',DF Cl.toAvT F' FN w' b bt l N/\(∀x,F' x->F x\/W.heap.size<=x)/\Mod F W w') W:=by
 rcases h with⟨bt,h⟩|⟨_,j,rfl,i,B⟩
 .refine AA (LA G4 h) ?_;rintro _ w ⟨rfl,g⟩;exact⟨rfl,bt,F,h.grow g,fun _ h=>.inl h,g.mono fun _ _ h=>h.elim⟩
 .refine AA (TL (g:=Cl.toAvT) (C:=FN) G4 j (fun h=>h) fun _ h=>h.elim) ?_;rintro _ w ⟨rfl,bt,F',k1,k2,o⟩;exact⟨rfl,bt,F',k1.up (Nat.zero_le _),fun x y=>(k2 x y).imp (fun e=>(i x).2 e) id,o.mono fun x _ e=>(i x).2 e⟩
namespace Spn
theorem KW(l:List Spn){m:Nat}(hm:m<l.length)(x:Int):DB (l.take (m+1)) x=DB (l.take m) x+if x=l[m].id then 1 else 0:=by
 have i:l.take (m+1)=l.take m++[l[m]]:=by rw[List.take_add_one];simp[hm]
 rw[DB,DB,i,List.countP_append,List.countP_cons,List.countP_nil];by_cases e:x=l[m].id
 .rw[if_pos e,if_pos (by simp[e])]
 .rw[if_neg e,if_neg (by simp[Ne.symm e])]
theorem Jj(l:List Spn)(m:Nat)(x:Int):DB (l.take m) x<=DB l x:=by
 have:DB l x=DB (l.take m) x+DB (l.drop m) x:=by rw[DB,DB,DB,<-List.countP_append,List.take_append_drop]
 omega
theorem Mt{l:List Spn}{s:Spn}(h:s∈l):0<DB l s.id:=List.countP_pos_iff.2 ⟨s,h,by simp⟩
theorem Kz(l:List Spn)(x:Int):DB l x<=l.length:=List.countP_le_length
end Spn
section
variable {k:TxK}{w0:World}{F:Nat->Prop}{W:World}{a:TxA}{σ:SKs}{most:Int}{rs:List Int}{l2:List Spn}{L:List (List Attr)}{t:Tab (List Attr)}{N:Nat}
theorem R3{f:Int->List Attr}{h:Int->Nat}{i:List Spn}{M:Nat}(I:M<=1000000000)(o:∀s∈i,0<h s.id\/s.id=0)(hb:∀x,h x+i.length<=1000000000)(ks:List DKey) :
  ∀(m:Nat) (hm:m<i.length) (t:Tab (List Attr)),(t.Holds [] f (fun x=>h x+Spn.DB (i.take m) x)/\t.places.length=M)->t.Inv (FQ ks)->
   t.Small 1099511627/\0<=i[m].id/\i[m].id<=1099511627/\((t.hold [] i[m].id).Holds [] f (fun x=>h x+Spn.DB (i.take (m+1)) x)/\(t.hold [] i[m].id).places.length=M):=by
 rintro m hm t ⟨y,hp⟩ B;have J:=o i[m] (List.getElem_mem hm);have j:0<h i[m].id+Spn.DB (i.take m) i[m].id\/i[m].id=0:=by omega
 obtain⟨E,O⟩:=y.idle j;refine⟨(y.small B FQ.ne (H:=1000000000) (fun x=>?_) (by omega)).le (by omega),E,by omega,(y.hold B j).congr fun x=>?_,by rw[Tab.Vm];exact hp⟩
 .have:=Spn.Jj i m x;have:=Spn.Kz i x;have:=hb x;omega
 .rw[Spn.KW i hm];omega
theorem MA{f:Int->List Attr}{h:Int->Nat}{JA:List Spn}{M:Nat}(E:M<=1000000000)(j:∀x,Spn.DB JA x<=h x)(hb:∀x,h x<=1000000000)(ks:List DKey) :
  ∀(m:Nat) (hm:m<JA.length) (t:Tab (List Attr)),(t.Holds [] f (fun x=>h x-Spn.DB (JA.take m) x)/\t.places.length=M)->t.Inv (FQ ks)->
   t.Small 1099511627/\0<=JA[m].id/\JA[m].id<=1099511627/\((t.release [] JA[m].id).Holds [] f (fun x=>h x-Spn.DB (JA.take (m+1)) x)/\(t.release [] JA[m].id).places.length=M):=by
 rintro m hm t ⟨o,hp⟩ y;have h1:=Spn.KW JA hm JA[m].id;rw[if_pos rfl] at h1;have I:=Spn.Jj JA (m+1) JA[m].id;have J:=j JA[m].id;have i:0<h JA[m].id-Spn.DB (JA.take m) JA[m].id:=by omega
 obtain⟨B,O⟩:=o.idle (.inl i);refine⟨(o.small y FQ.ne (H:=1000000000) (fun x=>?_) (by omega)).le (by omega),B,by omega,(o.free y FQ.ne i).congr fun x=>?_,by rw[Tab.Ka];exact hp⟩
 .have:=hb x;omega
 .rw[Spn.KW JA hm];omega
theorem RN{i:Nat->Prop}{id:Int}(j:EV i W a.t σ t)(o:t.Small 1099511627)(h0:0<=id)(h1:id<=1099511627):AB prog 152 [.pointer (some ⟨a.t,0,none⟩),.int .i64 id] (fun _ w'=>IW i W w' a.t σ (t.hold [] id)) W:=
 AA (Sx j (o.le (by omega)) (by omega) (by omega)) fun _ _ h=>h.2
theorem JJ{i:Nat->Prop}{id:Int}(j:EV i W a.t σ t)(o:t.Small 1099511627)(h0:0<=id)(h1:id<=1099511627):AB prog 79 [.pointer (some ⟨a.t,0,none⟩),.int .i64 id] (fun _ w'=>IW i W w' a.t σ (t.release [] id)) W:=
 AA (TZ j o (by omega) (by omega)) fun _ _ h=>h.2
theorem Jc{S:Nat->Prop}{v:Value}{row:List Spn}{i j:Nat}{f:Int->List Attr}{ex:Int->Nat}
 (h:G2 k w0 F W a σ most rs l2 L t N)(hp:Spn.Gu none l2)(hh:t.Holds [] f fun x=>Spn.rn x none (l2.flatMap Spn.u)+ex x)
 (X:i<=j)(hj:j<=(l2.flatMap Spn.u).length)(hv:BJ S 2 DT W v row)(hS:∀x,S x->¬F x)
 (I:∀s∈row,0<s.n/\(0<ex s.id\/s.id=0))(hz:(l2.flatMap Spn.u).length+(row.flatMap Spn.u).length<=100000000)(bc:∀x,ex x<=100000000)(hN:N<=1000000000)(a1:t.places.length<=1000000000) :
  AB prog 78 [.pointer (some ⟨a.b,0,none⟩),.int .i64 (i:Int),.int .i64 (j:Int),v] (fun v' w'=>v'=.tuple #[]/\∃t',Cm { k with s:=false } w0 F W w' a σ most rs (Spn.kd.Bm l2 i j row) L t' (N+row.length+4)/\t'.Holds [] f (fun x=>Spn.rn x none ((Spn.kd.Bm l2 i j row).flatMap Spn.u)+ex x)/\t'.places.length=t.places.length) W:=by
 apply Zk;obtain⟨w1,w2,w3,w4⟩:=Spn.dd row hp X hj;have cd:row.length<=(row.flatMap Spn.u).length:=by
  clear hv hz w1 w2 w3 w4;induction row with
  |nil=>exact Nat.le_refl _
  |cons s row ih=>
   have:=(I s (by simp)).1;have:=ih fun s T=>I s (by simp[T]);rw[List.flatMap_cons,List.length_append,Spn.u,List.length_replicate,List.length_cons];omega
 have ch:=Spn.Eu hp;have e0:(if(0:Int)>(i:Int)-1 then(0:Int) else(i:Int)-1)=((i-1:Nat):Int):=by split<;>omega
 have bd:∀x,Spn.rn x none (l2.flatMap Spn.u)<=(l2.flatMap Spn.u).length:=fun x=>Spn.Ow x none _;have a6:EB l2=(l2.flatMap Spn.u).length:=DV l2;have a7:EB row=(row.flatMap Spn.u).length:=DV row;have a8:∀s∈row,0<=s.id:=fun s T=>(hh.idle (id:=s.id) (by have:=(I s T).2;omega)).1;have c9:EB (Spn.kd.Bm l2 i j row)+(j-i)=EB l2+EB row:=(Qs (l:=l2) (L:=row) (by omega) X (by omega)).1;generalize hn:(l2.flatMap Spn.u).length=n at *;generalize cn:(row.flatMap Spn.u).length=nr at *;rw[Av,Gm,wrap64 (by omega) (by omega),e0,AR,wrap64 (by omega) (by omega)];refine AH ?_;refine Bl (h.box.1.cells 3 _ rfl) ?_;obtain⟨Fs,y,E,put⟩:=h.Dv;refine AA (WI y) ?_;rintro _ W1 ⟨rfl,bt,cv,ak,V,m1⟩;obtain⟨F1,f1,h1,M1⟩:=put (e:=false) m1 V (.inl ⟨bt,ak⟩) (Nat.le_refl _);clear y put E V ak;have bk:BJ (fun x=>S x/\x<W.heap.size) 2 DT W1 v row:=(hv.HH (by decide)).mod M1 (fun x _ o e=>hS x o.1 e) (by decide) fun _ _ h=>h;have al:∀x,S x/\x<W.heap.size->¬F1 x:=fun x o e=>by
  rcases f1 x e with e|e
  .exact hS x o.1 e
  .omega
 have an:(if(EB l2:Int)<(j:Int)+1 then(EB l2:Int) else(j:Int)+1)=((min (j+1) n:Nat):Int):=by rw[a6];split<;>omega
 rw[Gg,an];refine AH ?_;refine Bl (h1.box.1.cells 3 _ rfl) ?_;obtain⟨Fs,y,E,put⟩:=h1.Dv;obtain⟨bt,y⟩:=y.t;refine AA (Iy (i:=i-1) (j:=min (j+1) n) y (by omega) (by omega) (by omega) (by omega) (by omega)) ?_;rintro _ W2 ⟨wv,rfl,oW,g2⟩;refine BM ?_;generalize ca:Spn.kd.over l2 (i-1) (min (j+1) n)=JA at *;have h2:=h1.grow g2;refine AH ?_;refine Bl (h2.box.1.cells 3 _ rfl) ?_;clear y put E;obtain⟨Fs,y,E,put⟩:=h2.Dv;obtain⟨bt,y⟩:=y.t;have av:=bk.grow g2 (by decide) fun _ _ h=>h;refine AA (RJ y (L:=row) (by omega) X (by omega) (by omega) av (fun x o e=>al x o (E x e)) a8) ?_;rintro _ W3 ⟨_,cx,k1,k2,k3,k4⟩;obtain⟨F3,f3,h3,M3⟩:=put (e:=false) k4 k2 (.inl ⟨bt,k3⟩) (N':=N+row.length+4) (by omega);clear y put E k1 k2 k3;generalize bl:Spn.kd.Bm l2 i j row=l3 at *;have z1:=M1.size;have z2:=g2.size;have z3:=M3.size;have O:=AF.BL oW;have Q:∀x,F1 x->x<W1.heap.size:=fun x o=>(h1.hl x o).2.1;have ax:∀x,wv.ownBlock=some x->¬F3 x:=fun x o e=>by
  have:=O x o;rcases f3 x e with e|e
  .have:=Q x e;omega
  .omega
 have ay:AF W1.heap.size 108 2 DT W3 wv JA:=AF.mod (R':=DT) oW M3 (fun x o e=>by have:=O x o;have:=Q x e;omega) fun _ _ _ h=>h;have b0:BJ (fun x=>S x/\x<W.heap.size) 2 DT W3 v row:=av.mod M3 (fun x _ o e=>al x o e) (by decide) fun _ _ h=>h;have b1:=AF.sl ay;obtain⟨ra,rc,ev,_⟩:=b0.shape;obtain⟨wa,wc,ew,_⟩:=b1.shape;have bp:((min (j+1) n:Nat):Int)+((i:Int)-(j:Int))=((min (j+1) n-(j-i):Nat):Int):=by omega
 rw[Av,wrap64 (by omega) (by omega),AR,wrap64 (by omega) (by omega),bp];subst ev;rw[AS];refine Ae (fun vs W'=>∃m:Nat,m<=row.length/\vs=[.int .i64 ((min (j+1) n-(j-i)+EB (row.take m):Nat):Int),.int .i64 m]/\Grow W3 W') (fun vs _=>row.length-ED vs 1) ⟨0,Nat.zero_le _,by simp[EB,Tr.sz],Mod.refl _ _⟩ ?_;rintro vs W4 ⟨m,hm,rfl,Z⟩ _;simp only[Fx];refine HU (fun dk=>?_) fun du=>?_
 .have J:m<row.length:=by omega
  have bs:row.take (m+1)=row.take m++[row[m]]:=by rw[List.take_add_one];simp[J]
  have dv:EB row=EB (row.take (m+1))+EB (row.drop (m+1)):=by unfold EB;rw[<-Tr.CH,List.take_append_drop]
  have b2:EB (row.take (m+1))=EB (row.take m)+row[m].n:=by rw[bs];unfold EB;rw[Tr.CH];simp[Tr.sz,Spn.kd]
  obtain⟨p,r,rfl,dw,hr,hc,rfl⟩:=b0.get J;refine AZ J (Ah (vs:=row[m].cells) rfl (fun j u hu=>by rw[Addr.add_add];exact Z.cell (hc j u hu) fun h=>h) ?_);refine Bx.new (vs:=row[m].cells) rfl rfl (Spn.one _) fun dx w7 hb g7 B=>?_;refine Bl (B.cells 0 _ rfl) ?_;rw[AR,wrap64 (by omega) (by omega),AR,AQ (by omega)];refine⟨⟨m+1,J,?_,Z.trans g7⟩,by rw[BH,BH];omega⟩;rw[b2];congr 2
  omega
 obtain rfl:m=row.length:=by omega
 rw[List.take_length,a7];have h4:=h3.grow Z;have z4:=Z.size;refine AH ?_;refine Bl (h4.box.1.cells 3 _ rfl) ?_;obtain⟨Fs,y,E,put⟩:=h4.Dv;obtain⟨bt,y⟩:=y.t;have ba:l3.length<=EB l3:=by rw[DV,<-bl];exact Spn.Eu (Spn.HN i j row hp)
 refine AA (Iy (i:=i-1) (j:=min (j+1) n-(j-i)+nr) y (by omega) (by omega) (by omega) (by omega) (by omega)) ?_;rintro _ W5 ⟨nv,rfl,oN,g5⟩;clear y put E;refine BM ?_;generalize cc:Spn.kd.over l3 (i-1) (min (j+1) n-(j-i)+nr)=U at *;have h5:=h4.grow g5;have z5:=g5.size;have b3:=AF.BL oN;have Y:∀x,F3 x->x<W3.heap.size:=fun x o=>(h3.hl x o).2.1;have b4:=AF.sl oN;obtain⟨na,nc,en,_⟩:=b4.shape;subst en;rw[AS];have b5:∀x,Spn.rn x none (l2.flatMap Spn.u)+ex x+U.length<=1000000000:=fun x=>by have:=bd x;have:=bc x;omega
 refine Ja (P:=fun m t=>t.Holds [] f (fun x=>(Spn.rn x none (l2.flatMap Spn.u)+ex x)+Spn.DB (U.take m) x)/\t.places.length=_) (fun hT T h0 h1=>RN hT T h0 h1) b4 (fun x o e=>by have:=b3 x o.2;have:=Y x e;omega) (by omega)
  (R3 a1 (fun s T=>?_) b5 σ.ks) h5 ⟨hh.congr fun x=>by simp[Spn.DB],rfl⟩ ?_
 .rcases w2 s.id (Spn.Mt T) with e|e
  .have:=Spn.Hw (p:=none) e (by simp);omega
  .obtain⟨s',bx,e'⟩:=Spn.Rn e;have:=(I s' bx).2;rw[e'] at this;omega
 rintro W6 t6 ⟨F6,f6,h6,M6⟩ ⟨b6,b7⟩;rw [List.take_length] at b6;have z6:=M6.size;have c4:AF W1.heap.size 108 2 DT W5 wv JA:=AF.mod (R':=DT) ay (Z.trans g5) (fun _ _ h=>h) fun _ _ _ h=>h;have c6:AF W1.heap.size 108 2 DT W6 wv JA:=AF.mod (R':=DT) c4 M6 (fun x o e=>ax x o e) fun _ _ _ h=>h;have b8:=AF.sl c6;subst ew;rw [AS];refine Ja (P:=fun m t=>t.Holds [] f (fun x=>(Spn.rn x none (l2.flatMap Spn.u)+ex x+Spn.DB U x) - Spn.DB (JA.take m) x)/\t.places.length=_) (fun hT T h0 h1=>JJ hT T h0 h1) b8 (fun x o e=>by
   rcases f6 x e with e|e
   .exact ax x o.2 e
   .have:=O x o.2;omega) (by omega)
  (MA (b7▸a1) (fun x=>by have:=w1 x;omega) (fun x=>by have:=b5 x;have:=Spn.Kz U x;omega) σ.ks) h6 ⟨b6.congr fun x=>by simp[Spn.DB],rfl⟩ ?_
 rintro W7 t7 c7 ⟨b9,c8⟩;rw[List.take_length] at b9;refine⟨trivial,t7,?_,b9.congr fun x=>by have:=w1 x;omega,c8.trans b7⟩;refine Cm.next f1 M1 (Cm.step g2 (Cm.next f3 M3 (Cm.step (Z.trans g5) (Cm.next f6 M6 ?_))));exact c7
end
end Go.Proofs.YtmdhibffnkhcnaaGreatDoor
namespace Go.Proofs.YtmdhibffnkhcnaaGreatDoor
open Go Go.K Proofs.Tryz
def Bz(d:List Cel):List (List Attr):=(d.filter fun c=>decide (c.r=10)).map (·.set)
abbrev Ak(d:List Cel):List Int:=d.map Cel.r
def cellOf(ks:List DKey)(set:List Attr)(r:Int):Cel:=⟨r,Dj ks (decide (r=10)) set⟩
theorem DL(x y:List Cel):Bz (x++y)=Bz x++Bz y:=by simp[Bz]
theorem Di(d:List Cel):(Bz d).length=BQ (Ak d):=by
 induction d with
 |nil=>rfl
 |cons c d i=>
  have e:Bz (c::d)=(if c.r=10 then[c.set] else[])++Bz d:=by by_cases h:c.r=10<;>simp[Bz,h]
  have j:BQ (Ak (c::d))=(if c.r=10 then 1 else 0)+BQ (Ak d):=by
   have:Ak (c::d)=[c.r]++Ak d:=rfl;rw[this,EZ];by_cases h:c.r=10<;>simp[BQ,h]
  rw[e,j,List.length_append,i];split<;>rfl
theorem Cx(d:List Cel)(i:Nat):Bz (d.take i)=(Bz d).take (BQ ((Ak d).take i))/\Bz (d.drop i)=(Bz d).drop (BQ ((Ak d).take i)):=by
 have h:=DL (d.take i) (d.drop i);rw[List.take_append_drop] at h;have hl:(Bz (d.take i)).length=BQ ((Ak d).take i):=by rw[Di,Ak,List.map_take]
 rw[h];exact⟨(List.take_left' hl).symm,(List.drop_left' hl).symm⟩
theorem YK(ks:List DKey)(set:List Attr)(rs:List Int):Bz (rs.map (cellOf ks set))=List.replicate (BQ rs) (Dj ks true set):=by
 induction rs with
 |nil=>rfl
 |cons r rs i=>
  have e:r::rs=[r]++rs:=rfl;rw[e,List.map_append,DL,i,EZ];by_cases h:r=10
  .subst h;rw[<-List.replicate_append_replicate];simp[Bz,cellOf,BQ]
  .simp[Bz,cellOf,BQ,h]
theorem bf(ks:List DKey)(set:List Attr)(rs:List Int):Ak (rs.map (cellOf ks set))=rs:=by
 simp[Ak,cellOf,Function.comp_def]
def bh(f:Int->List Attr)(z:List (Cel×Int)):Prop:=∀p∈z,(p.1.r=10->p.2=0)/\(p.1.r≠10->f p.2=p.1.set)
def Fw(k:TxK)(w0:World)(F:Nat->Prop)(W:World)(a:TxA)(σ:SKs)(most:Int)(d:List Cel)(N:Nat):Prop:=
 ∃(z:List (Cel×Int)) (l2:List Spn) (t:Tab (List Attr)) (f:Int->List Attr),z.map Prod.fst=d/\G2 k w0 F W a σ most (Ak d) l2 (Bz d) t N/\Spn.Gu none l2/\l2.flatMap Spn.u=z.map Prod.snd/\t.Holds [] f (fun x=>Spn.rn x none (z.map Prod.snd))/\bh f z/\t.places.length<=N
def Jn(k:TxK)(w0:World)(F:Nat->Prop)(W W':World)(a:TxA)(σ:SKs)(most:Int)(d:List Cel)(N:Nat):Prop:=∃F',(∀x,F' x->F x\/W.heap.size<=x)/\Fw k w0 F' W' a σ most d N/\Mod F W W'
theorem Pr{e:Bool}{F:Nat->Prop}{W:World}{b N i:Nat}{l:List Ck}(h:IH e As.toAvT F FN W b l N)(j:i<=(BU l).length)(y:(BU l).length<=1099511627776) :
  AB prog 53 [.pointer (some ⟨b,0,none⟩),.int .i64 (i:Int)] (fun v' w'=>v'=.tuple #[.int .i64 (BQ ((BU l).take i):Int),.int .i64 0]/\∃bt F',DF As.toAvT F' FN w' b bt l N/\(∀x,F' x->F x\/W.heap.size<=x)/\Mod F W w') W:=by
 rcases h with⟨bt,h⟩|⟨_,B,rfl,o,J⟩
 .refine AA (JG h j y) ?_;rintro _ w ⟨rfl,g⟩;exact⟨rfl,bt,F,h.grow g,fun _ h=>.inl h,g.mono fun _ _ h=>h.elim⟩
 .obtain rfl:i=0:=by simpa using j
  refine AA (O1 B) ?_;rintro _ w ⟨rfl,bt,F',k1,k2,E⟩;exact⟨rfl,bt,F',k1.up (Nat.zero_le _),fun x I=>(k2 x I).imp (fun e=>(o x).2 e) id,E.mono fun x _ e=>(o x).2 e⟩
theorem Pe{e:Bool}{F C S D:Nat->Prop}{W:World}{b N k:Nat}{L R:List (List Attr)}{v:Value}(h:IH e A6.toAvT F C W b L N)(Q:N<=100000000000)(hk:k<=L.length)(hl:L.length+R.length<=536870912)(I:BJ S 1 (CY D) W v R)(T:∀x,S x\/D x->x≠b)(J:∀x∈R,x.length*48<=140737488355328) :
  AB prog 76 [.pointer (some ⟨b,0,none⟩),.int .i64 (k:Int),v] (fun v' w'=>∃bt F' j,(∀x,F' x\/j x->(F x\/C x)\/W.heap.size<=x)/\DF A6.toAvT F' j w' b bt (L.take k++R++L.drop k) (N+R.length+4)/\Mod F W w') W:=by
 rcases h with⟨bt,h⟩|⟨_,U,rfl,O,V⟩
 .refine AA (RV h Q hk hl I J) ?_;rintro _ w ⟨rfl,F',j,_,_,o,y,B,E⟩;exact ⟨bt,F',j,fun x i=>by
   rcases i with i|i
   .exact(o x i).imp .inl id
   .exact (y x i).imp .inr id,B,E⟩
 .obtain rfl:k=0:=by simpa using hk
  refine AA (Ob U (by simpa using hl) I T J) ?_;rintro _ w ⟨rfl,bt,F',j,o,y,B,E⟩;refine⟨bt,F',j,fun x i=>?_,?_,E.mono fun x _ e=>(O x).2 e⟩
  .rcases i with i|i
   .exact(o x i).imp (fun e=>.inl ((O x).2 e)) id
   .exact .inr (y x i)
  .have e:([]:List (List Attr)).take 0++R++([]:List (List Attr)).drop 0=R:=by simp
   rw[e];exact B.up (by omega)
section
variable {k:TxK}{w0:World}{F:Nat->Prop}{W:World}{a:TxA}{σ:SKs}{most:Int}{rs:List Int}{l2:List Spn}{L:List (List Attr)}{t:Tab (List Attr)}{N:Nat}{d:List Cel}
theorem U3{e:Bool}{Fr:Nat->Prop}{i N:Nat}{l:List Ck}{sv:Value}{b r s p t:Nat}(j:Bx W b (Sm sv most r s p t))(h:IH e As.toAvT Fr FN W r l N)(o:i<=(BU l).length)(y:(BU l).length<=1099511627776) :
  AB prog 50 [.pointer (some ⟨b,0,none⟩),.int .i64 (i:Int)] (fun v' w'=>v'=.int .i64 (BQ ((BU l).take i):Int)/\∃bt F',DF As.toAvT F' FN w' r bt l N/\(∀x,F' x->Fr x\/W.heap.size<=x)/\Mod Fr W w') W:=by
 apply Sp;refine AH ?_;refine Bl (j.cells 2 _ rfl) ?_;refine AA (Pr h o y) ?_;rintro _ B ⟨rfl,h1⟩;exact B0 (vs:=[_,_]) (by rfl) (B0 (vs:=[_,_]) (by rfl) ⟨rfl,h1⟩)
theorem Ny{S:Nat->Prop}{at':Nat}{rv sv:Value}{rs:List Int}{set:List Attr}(h:Fw k w0 F W a σ most d N)(hT:ET w0)(ca:at'<=d.length)(hr:La S W rv rs)(Z:Cu S W sv set)(a8:∀x,S x->¬F x)
 (hm:∀r∈rs,Dt r)(a1:Bb σ.ks (Dj σ.ks false set)=0)(hI:∀x∈set,LP x)(er:set.length<=64)(hz:d.length+rs.length<=10000000)(hN:N+4*rs.length+20<=1000000000) :
  AB prog 40 [.pointer (some ⟨a.b,0,none⟩),.int .i64 (at':Int),rv,sv] (fun v' w'=>v'=.tuple #[]/\Jn .f w0 F W w' a σ most (d.take at'++rs.map (cellOf σ.ks set)++d.drop at') (N+4*rs.length+20)) W:=by
 obtain⟨z,l2,t,f,b1,hM,hp,hu,hh,cc,et⟩:=h;have cd:z.length=d.length:=by rw[<-b1,List.length_map]
 have b2:(Ak d).length=d.length:=List.length_map _;apply Zn;have gd:Grow W W.drew:=Mod.drew _ _;have V:=hM.grow gd;refine Ag (fun q y=>q=10/\F y) ?_;refine AH ?_;rw[AG,AI];refine Aa ⟨V.box.1.cells 5 _ rfl,fun j hj e=>by obtain⟨rfl,_⟩:=e;exact absurd hj (by decide)⟩ ?_;refine AH ?_;rw[AG,AI];refine Aa ⟨V.box.1.cells 0 _ rfl,fun j hj e=>by obtain⟨rfl,_⟩:=e;exact absurd hj (by decide)⟩ ?_;have ch:=Z.grow gd (by decide) fun _ _ h=>h;have cn:=Z.HH (by decide);refine AA (KX (b:=false) V.IP.1 ch (by omega)) ?_;rintro eu W1 ⟨cx,g1⟩;refine⟨g1.mono fun _ _ h=>h.elim,?_⟩;have ak:=gd.trans g1;have b3:=V.grow g1;have zd:=gd.size;have z1:=g1.size;obtain⟨Ft,al,b4,put⟩:=b3.PB;have b5:=hM.hl;have dk:t.Small 1099511627:=(hh.small al.inv FQ.ne (H:=1000000000) (fun x=>by have:=Spn.Ow x none (z.map Prod.snd);rw[List.length_map] at this;omega) (by omega)).le (by omega);refine AA (QQ al dk cx (hT.grow b3.g) (fun x o=>hI x ((List.mem_filter.1 o).1)) (fun x o=>?_) (fun x o e=>?_)) ?_
 .have:=b5 x (b4 x o);have:=hT.size;exact⟨by omega,by omega⟩
 .have:=b5 x (b4 x e);omega
 rintro _ W2 (⟨h0,_⟩|⟨_,id,t2,rfl,a6,hA⟩)
 .exact absurd a1 h0
 obtain⟨F2,f2,O,M2⟩:=put hA;clear put;refine⟨M2.mono fun x _ o=>⟨rfl,o⟩,?_⟩;refine BM ?_;obtain⟨f',du,b6,dv⟩:=hh.added al.inv a6 fun X=>⟨X,fun x o=>hI x ((List.mem_filter.1 o).1),a1⟩;have ej:=a6.pl;refine AH ?_;refine Bl (O.box.1.cells 0 _ rfl) ?_;have z2:=M2.size;have dw:Cu (fun x=>S x/\x<W.heap.size) W2 sv set:=(cn.grow ak (by decide) fun _ _ h=>h).mod M2 (fun x _ o e=>a8 x o.1 e) (by decide) fun _ _ h=>h;refine AA (KX (b:=true) O.IP.1 dw (by omega)) ?_;rintro ew W3 ⟨dx,g3⟩;have dy:=O.grow g3;have z3:=g3.size;have an:La (fun x=>S x/\x<W.heap.size) W3 rv rs:=(((hr.HH (by decide)).grow ak (by decide) fun _ _ h=>h).mod M2 (fun x _ o e=>a8 x o.1 e) (by decide) fun _ _ h=>h).grow g3 (by decide) fun _ _ h=>h;obtain⟨ra,rc,dz,_⟩:=an.shape;have b7:Al rv=Al (.slice ra rs.length rc):=by rw[dz]
 rw[b7,AS];refine UH an dx (by omega) fun row cv W5 oR oC X g5=>?_;simp only[Fx];have dT:=dy.grow g5;have z5:=g5.size;have b8:=O.hl;have J:=AF.BL oR;have b9:=AF.BL oC;have e4:La (fun x=>S x/\x<W.heap.size) W5 rv rs:=an.grow g5 (by decide) fun _ _ h=>h;have I:Grow W5 W5.drew:=Mod.drew _ _;have ey:=I.size;have Q:=dT.grow I;obtain⟨l1,Fr,av,hO,e5,put⟩:=Q.GX;have ba:at'<=(BU l1).length:=by rw[av,Ak,List.length_map];exact ca
 have ez:(BU l1).length=d.length:=by rw[av,Ak,List.length_map]
 refine Ag (fun q y=>(q=6/\Fr y)\/(q=8/\(F2 y\/W5.heap.size<=y))) ?_;refine AH ?_;rw [AG,AI];refine Aa ⟨Q.box.1.cells 4 _ rfl,fun j hj e=>by
  rcases e with⟨rfl,e⟩|⟨rfl,_⟩
  .exact(e5 _ e).2 rfl
  .exact absurd hj (by decide)⟩ ?_
 refine AA (U3 Q.box.1 hO ba (by omega)) ?_;rintro _ W6 ⟨rfl,e6,eA,e7,bc,m6⟩;refine⟨m6.mono fun x _ o=>.inl ⟨rfl,o⟩,?_⟩;obtain⟨F6,f6,bd,M6⟩:=put (e:=false) m6 bc (.inl ⟨e6,e7⟩) (Nat.le_refl _);clear put;rw[av] at bd ⊢;have z6:=M6.size;obtain⟨Fp,Cp,hO,e8,put⟩:=bd.para;have B:∀x,F2 x->x<W2.heap.size:=fun x o=>(b8 x o).2.1;have e9:AF W3.heap.size 43 1 (CY fun x=>W2.heap.size<=x/\x<W3.heap.size) W6 cv (List.replicate (BQ rs) (Dj σ.ks true set)):=
  AF.mod (AF.mod (R':=CY fun x=>W2.heap.size<=x/\x<W3.heap.size) oC I (fun _ _ h=>h) fun r y _ hy=>A6.BR hy I fun _ _ _ h=>h) M6 (fun x o e=>by have:=b9 x o;have:=B x e;omega) fun r y _ hy=>A6.BR hy M6 fun x _ o e=>by have:=B x e;omega
 have eB:a.p<W2.heap.size:=by
  obtain⟨eC,eD,bk,ek,_⟩:=O.para;exact bk.lt _ (.inl bk.fb)
 refine AA (Pe (k:=BQ ((Ak d).take at')) hO (by omega) (by rw [Di];exact List.Sublist.count_le _ (List.take_sublist _ _)) (by rw [Di,List.length_replicate];have h1:=Cz (Ak d);have h2:=Cz rs;rw [b2] at h1;omega) (AF.sl e9) (fun x o e=>by
   subst e;rcases o with o|o
   .have:=o.1;omega
   .omega) (fun x o=>by
   rw [List.eq_of_mem_replicate o];have:(Dj σ.ks true set).length<=set.length:=List.length_filter_le _ _;omega)) ?_
 rintro _ W7 ⟨ea,eE,eF,ec,bl,m7⟩;rw[List.length_replicate] at bl;have Y:∀x,F6 x->F2 x\/W5.heap.size<=x:=fun x o=>(f6 x o).imp (fun h=>h) fun h=>by omega
 refine⟨m7.mono fun x _ o=>.inr ⟨rfl,Y x (e8 x (.inl o))⟩,?_⟩;have eG:=Cz rs;obtain⟨F7,f7,bp,M7⟩:=put (e:=false) m7 ec (.inl ⟨ea,bl.up (N':=N+rs.length+4) (by omega)⟩) (by omega);clear put;have z7:=M7.size;have T:∀x,F7 x->F2 x\/W5.heap.size<=x:=fun x o=>by
  rcases f7 x o with e|e
  .exact Y x e
  .exact .inr (by omega)
 have U:∀x,S x/\x<W.heap.size->¬F2 x:=fun x o e=>by
  rcases f2 x e with e|e
  .exact a8 x o.1 e
  .omega
 have bs:∀x,S x/\x<W.heap.size->¬F6 x:=fun x o e=>by
  rcases Y x e with e|e
  .exact U x o e
  .omega
 have en:∀x,S x/\x<W.heap.size->¬F7 x:=fun x o e=>by
  rcases T x e with e|e
  .exact U x o e
  .omega
 refine AH ?_;refine Bl (bp.box.1.cells 2 _ rfl) ?_;obtain⟨l7,eH,bx,hO,eo,put⟩:=bp.GX;obtain⟨ed,hO⟩:=hO.t;have ep:(BU l7).length=d.length:=by rw[bx,Ak,List.length_map]
 have ee:La (fun x=>S x/\x<W.heap.size) W7 rv rs:=((e4.grow I (by decide) fun _ _ h=>h).mod M6 (fun x _ o e=>U x o e) (by decide) fun _ _ h=>h).mod M7 (fun x _ o e=>bs x o e) (by decide) fun _ _ h=>h;refine AA (SL hO (by omega) (by omega) (by omega) ee hm) ?_;rintro _ W8 ⟨rfl,eI,l8,_,k2,k3,k4,k5⟩;have eJ:=LJ rs;obtain⟨F8,f8,c4,M8⟩:=put (e:=false) k5 k2 (.inl ⟨ed,k3.up (N':=N+2*rs.length+8) (by omega)⟩) (by omega);clear put;rw[k4,bx] at c4;have z8:=M8.size;obtain⟨r1,r2,_,_,r5⟩:=K2 id rs;have r6:=congrArg List.length r1;rw[List.length_map] at r6;have ef:=congrArg List.length hu;rw[List.length_map,cd] at ef;have eg:AF W3.heap.size 108 2 DT W8 row (rowOf id rs).1:=
  AF.mod (R':=DT) (AF.mod (R':=DT) (AF.mod (R':=DT) (AF.mod (R':=DT) oR I (fun _ _ h=>h) fun _ _ _ h=>h) M6 (fun x o e=>by have:=J x o;have:=B x e;omega) fun _ _ _ h=>h) M7 (fun x o e=>by
   have:=J x o;rcases Y x e with e|e
   .have:=B x e;omega
   .omega) fun _ _ _ h=>h) M8 (fun x o e=>by
   have:=J x o;rcases T x e with e|e
   .have:=B x e;omega
   .omega) fun _ _ _ h=>h
 have c6:∀s∈(rowOf id rs).1,s.id=id\/s.id=0:=fun s Z=>by
  have:=Spn.JH Z (r2 s Z);rw[r1] at this;obtain⟨r,_,e⟩:=List.mem_map.1 this;rw[<-e];unfold FM;split
  .exact .inr rfl
  .exact .inl rfl
 refine AA (Jc (f:=f') (ex:=fun x=>if x=id then 1 else 0) (i:=at') (j:=at') c4 hp (du.congr fun x=>by rw[hu]) (Nat.le_refl _) (by omega) (AF.sl eg) (fun x o e=>?_) (fun s Z=>⟨r2 s Z,?_⟩) (by omega) (fun x=>by split<;>omega) (by omega) (by omega)) ?_
 .have:=J x o.2;rcases f8 x e with e|e
  .rcases T x e with e|e
   .have:=B x e;omega
   .omega
  .omega
 .rcases c6 s Z with e|e
  .exact .inl (by rw[if_pos e];omega)
  .exact .inr e
 rintro _ W9 ⟨rfl,t9,⟨F9,f9,c7,M9⟩,ax,eK⟩;refine AH ?_;refine Bl (c7.box.1.cells 5 _ rfl) ?_;obtain⟨eL,ay,_,put⟩:=c7.PB;have b0:((Spn.kd.Bm l2 at' at' (rowOf id rs).1).flatMap Spn.u)=(z.map Prod.snd).take at'++rs.map (FM id)++(z.map Prod.snd).drop at':=by rw[Spn.De.Bm l2 _ (Nat.le_refl at'),hu,r1]
 have eh:=congrArg List.length b0;simp only[List.length_append,List.length_take,List.length_drop,List.length_map] at eh;have a7:0<Spn.rn id none ((Spn.kd.Bm l2 at' at' (rowOf id rs).1).flatMap Spn.u)+(if id=id then 1 else 0):=by rw[if_pos rfl];omega
 obtain⟨q1,q2⟩:=ax.idle (.inl a7);refine AA (JJ ay ((ax.small ay.inv FQ.ne (H:=1000000000) (fun x=>by have:=Spn.Ow x none ((Spn.kd.Bm l2 at' at' (rowOf id rs).1).flatMap Spn.u);split<;>omega) (by omega)).le (by omega)) q1 (by omega)) ?_;rintro _ eM c8;have ei:=Cm.step ak (Cm.next f2 M2 (Cm.step (g3.trans (g5.trans I)) (Cm.next f6 M6 (Cm.next f7 M7 (Cm.next f8 M8 (Cm.next f9 M9 (put c8)))))));have c9:=ax.free ay.inv FQ.ne a7;obtain⟨F',w1,w2,w3⟩:=ei.up (N':=N+4*rs.length+20) (by omega);refine⟨trivial,F',w1,⟨z.take at'++rs.map (fun r=>(cellOf σ.ks set r,FM id r))++z.drop at',Spn.kd.Bm l2 at' at' (rowOf id rs).1,_,f',?_,?_,Spn.HN at' at' _ hp,?_,c9.congr fun x=>?_,?_,?_⟩,w3⟩
 .rw[List.map_append,List.map_append,List.map_take,List.map_drop,b1,List.map_map];rfl
 .have e1:Ak (d.take at'++rs.map (cellOf σ.ks set)++d.drop at')=(Ak d).take at'++rs++(Ak d).drop at':=by
   rw[Ak,List.map_append,List.map_append,List.map_take,List.map_drop];show _++Ak _++_=_;rw[bf]
  have e2:Bz (d.take at'++rs.map (cellOf σ.ks set)++d.drop at')=(Bz d).take (BQ ((Ak d).take at'))++List.replicate (BQ rs) (Dj σ.ks true set)++(Bz d).drop (BQ ((Ak d).take at')):=by
   rw[DL,DL,YK,(Cx d at').1,(Cx d at').2]
  rw[e1,e2];exact w2
 .rw[b0,List.map_append,List.map_append,List.map_take,List.map_drop,List.map_map];rfl
 .have e3:(z.take at'++rs.map (fun r=>(cellOf σ.ks set r,FM id r))++z.drop at').map Prod.snd=(Spn.kd.Bm l2 at' at' (rowOf id rs).1).flatMap Spn.u:=by rw[b0,List.map_append,List.map_append,List.map_take,List.map_drop,List.map_map];rfl
  rw[e3];split<;>omega
 .intro p E;have HH:∀p∈z,(p.1.r=10->p.2=0)/\(p.1.r≠10->f' p.2=p.1.set):=fun p E=>by
   obtain⟨o1,o2⟩:=cc p E;refine⟨o1,fun X=>?_⟩;rw[dv,o2 X];exact Spn.Hw (List.mem_map.2 ⟨p,E,rfl⟩) (by simp)
  rcases List.mem_append.1 E with E|E
  .rcases List.mem_append.1 E with E|E
   .exact HH p (List.mem_of_mem_take E)
   .obtain⟨r,_,rfl⟩:=List.mem_map.1 E;refine⟨fun e=>?_,fun e=>?_⟩
    .have e':r=10:=e;simp[FM,e']
    .have e':r≠10:=e;simp[FM,e',cellOf,b6]
  .exact HH p (List.mem_of_mem_drop E)
 .rw[Tab.Ka];omega
end
end Go.Proofs.YtmdhibffnkhcnaaGreatDoor
namespace Go.K
open Go
theorem AF.Pt{α:Type}{B e k:Nat}{R:World->List Value->α->Prop}{w:World}{cs:List Value}{x:α}(o:B<=w.heap.size)(j:cs.length=k)(h1:∀u∈cs,u.oneCell'=true)(E:R (w.alloc (.cells cs.toArray e)) cs x) :
  AF B e k R (w.alloc (.cells cs.toArray e)) (.slice (some ⟨w.heap.size,0,none⟩) 1 1) [x]:=by
 refine⟨[cs],⟨by simp[j],.inr ⟨w.heap.size,1,cs.toArray,rfl,o,heap_alloc_new w _,by simp,by simp[maxLen],by simp[j],by simp[<-j]⟩⟩,rfl,fun r hr=>?_,fun i r y hr I=>?_⟩
 .simp only[List.mem_singleton] at hr;subst hr;exact⟨j,h1⟩
 .have J:i=0:=by have:=(List.getElem?_eq_some_iff.1 hr).1;simp at this;exact this
  subst J;cases hr;cases I;exact E
end Go.K
namespace Go.Proofs.YtmdhibffnkhcnaaGreatDoor
open Go Go.K Proofs.Tryz
section
variable {k:TxK}{w0:World}{F:Nat->Prop}{W:World}{a:TxA}{σ:SKs}{most:Int}{N:Nat}{d:List Cel}
theorem U7{i j:Nat}(h:Fw .f w0 F W a σ most d N)(B:i<=j)(hj:j<=d.length)(hz:d.length<=10000000)(hN:N+20<=1000000000) :
  AB prog 44 [.pointer (some ⟨a.b,0,none⟩),.int .i64 (i:Int),.int .i64 (j:Int)] (fun v' w'=>v'=.tuple #[]/\Jn .f w0 F W w' a σ most (d.take i++d.drop j) (N+20)) W:=by
 obtain⟨z,l2,t,f,Q,hM,hp,hu,hh,T,b4⟩:=h;have a7:z.length=d.length:=by rw[<-Q,List.length_map]
 have I:(Ak d).length=d.length:=List.length_map _;apply Yw;have gd:Grow W W.drew:=Mod.drew _ _;have E:=hM.grow gd;obtain⟨l1,Fr,bt,U,J,b5,_⟩:=E.Ql;have a8:(BU l1).length=d.length:=by rw[U,I]
 refine Ag (fun q y=>q=10/\F y) ?_;refine AH ?_;rw [AG,AI];refine Aa ⟨E.box.1.cells 4 _ rfl,fun j hj e=>by obtain ⟨rfl,_⟩:=e;exact absurd hj (by decide)⟩ ?_;refine AA (GR E.box.1 J (i:=i) (by omega) (by omega)) ?_;rintro _ W1 ⟨rfl,g1⟩;refine ⟨g1.mono fun _ _ h=>h.elim,?_⟩;have V:=E.grow g1;refine AA (GR V.box.1 (J.grow g1) (i:=j) (by omega) (by omega)) ?_;rintro _ W2 ⟨rfl,g2⟩;refine ⟨g2.mono fun _ _ h=>h.elim,?_⟩;have ak:=V.grow g2;rw [U] at a8 ⊢;obtain ⟨Fp,Cp,bp,J,al,put⟩:=ak.UL;have an:BQ ((Ak d).take i)<=BQ ((Ak d).take j):=List.Sublist.count_le _ (by
  rw [<-Nat.min_eq_left B,<-List.take_take];exact List.take_sublist _ _)
 have av:BQ ((Ak d).take j)<=BQ (Ak d):=List.Sublist.count_le _ (List.take_sublist _ _);have b6:=Cz (Ak d);refine AA (SO J (by omega) an (by rw [Di];exact av) (by rw [Di];omega)) ?_;rintro _ W3 ⟨rfl,b7,_,k2,X,m3⟩;obtain ⟨F3,f3,Y,M3⟩:=put m3 (fun x O=>by
  rcases O with O|O
  .exact(k2 x O).imp .inl fun h=>h
  .exact .inl (.inr O)) X (by omega)
 clear put J X;refine⟨m3.mono fun x _ O=>⟨rfl,al x (.inl O)⟩,?_⟩;refine AH ?_;refine Bl (Y.box.1.cells 2 _ rfl) ?_;obtain⟨l3,b8,br,Z,J,b2,put⟩:=Y.Ql;have b3:(BU l3).length=d.length:=by rw[Z,I]
 refine AA (RW J (by omega) B (by omega) (by omega)) ?_;rintro _ W4 ⟨rfl,b9,l4,_,k2,X,k4,m4⟩;obtain⟨F4,f4,a1,M4⟩:=put m4 k2 X (by omega);clear put J X;rw[k4,Z] at a1;have ax:=congrArg List.length hu;rw[List.length_map,a7] at ax;refine AA (Jc (f:=f) (ex:=fun _=>0) (row:=[]) (S:=fun _=>False) a1 hp (hh.congr fun x=>by rw[hu];rfl) B (by omega) BJ.nil (fun _ h=>h.elim) (fun s hs=>nomatch hs) (by rw[List.flatMap_nil,List.length_nil];omega) (fun x=>Nat.zero_le _) (by omega) (by omega)) ?_;rintro _ W5 ⟨rfl,t5,ay,b0,ba⟩;have a6:=Cm.step (gd.trans (g1.trans g2)) (Cm.next f3 M3 (Cm.next f4 M4 ay));obtain⟨F',w1,w2,w3⟩:=a6.up (N':=N+20) (by simp);have b1:((Spn.kd.Bm l2 i j []).flatMap Spn.u)=(z.map Prod.snd).take i++(z.map Prod.snd).drop j:=by rw[Spn.De.Bm l2 _ B,hu];simp
 have e3:(z.take i++z.drop j).map Prod.snd=(Spn.kd.Bm l2 i j []).flatMap Spn.u:=by rw[b1,List.map_append,List.map_take,List.map_drop]
 refine⟨rfl,F',w1,⟨z.take i++z.drop j,_,_,f,?_,?_,Spn.HN i j [] hp,e3.symm,b0.congr fun x=>?_,fun p o=>?_,by omega⟩,w3⟩
 .rw[List.map_append,List.map_take,List.map_drop,Q]
 .have e1:Ak (d.take i++d.drop j)=(Ak d).take i++(Ak d).drop j:=by rw[Ak,List.map_append,List.map_take,List.map_drop]
  have e2:Bz (d.take i++d.drop j)=(Bz d).take (BQ ((Ak d).take i))++(Bz d).drop (BQ ((Ak d).take j)):=by rw[DL,(Cx d i).1,(Cx d j).2]
  rw[e1,e2];exact w2
 .rw[e3];rfl
 .rcases List.mem_append.1 o with o|o
  .exact T p (List.mem_of_mem_take o)
  .exact T p (List.mem_of_mem_drop o)
end
theorem bw:Dt 10:=.inl (by omega)
theorem UG{ks:List DKey}:Bb ks []=0:=by
 classical
 unfold Bb;rw[if_neg,if_neg]
 .rintro⟨a,ha,_⟩;cases ha
 .rintro(h|h|⟨a,ha,_⟩)
  .exact h fun i h1 j=>by simp at j
  .simp at h
  .cases ha
theorem Nw{w0 W:World}{σ:SKs}{most:Int}(Z:DG σ.S W σ.sv σ.ks)(B:∀x,σ.S x->x<W.heap.size)(hT:ET w0)(g:Grow w0 W) :
  AB prog 11 [σ.sv,.int .i64 most] (fun v' w'=>Grow W w'/\((1<=most/\most<536870912/\∃a F,v'=.tuple #[.pointer (some ⟨a.b,0,none⟩),.int .i64 0]/\(∀x,F x->W.heap.size<=x)/\Fw .f w0 F w' a σ most [⟨10,[]⟩] 24)\/((most<1\/536870912<=most)/\v'=.tuple #[.pointer none,.int .i64 2]))) W:=by
 apply Yq;refine AW (fun _ W'=>W'=W/\1<=most/\most<536870912) ?_ ?_;rotate_left
 .rw[Ax];refine AE (fun h1=>⟨Mod.refl _ _,.inr ⟨.inl h1,rfl⟩⟩) fun h1=>?_;rw[Dl];exact AE (fun O=>⟨Mod.refl _ _,.inr ⟨.inr O,rfl⟩⟩) fun O=>⟨rfl,by omega,by omega⟩
 rintro _ _ ⟨rfl,a1,a6⟩ _;rename World=>W
 refine AA aT ?_;rintro _ W1 ⟨r,rfl,hr,B1,g1⟩;refine AA ZC ?_;rintro _ W2 ⟨s,rfl,hs,B2,g2⟩;refine AA Zi ?_;rintro _ W3 ⟨p,rfl,hp,B3,V⟩;have z1:=g1.size;have z2:=g2.size;have z3:=V.size;have av:=B1.lt (Nat.succ_pos _);have ax:=B2.lt (Nat.succ_pos _);have ay:=B3.lt (Nat.succ_pos _);have Q:=(g1.trans g2).trans V;have a7:=Z.grow Q;refine AA (Xc a7 fun x j=>by have:=B x j;omega) ?_;rintro _ W4 ⟨T,tb,b0,rfl,U⟩;have z4:=T.size;have a8:∃X,σ.sv=.pointer (some ⟨X,0,none⟩):=by
  obtain⟨X,_,_,_,e,_⟩:=id Z;exact⟨X,e⟩
 have E:Instr.fill (fun i=>[(0,1),(1,1),(2,1),(3,1),(4,1),(5,1)][i]?) [Value.pointer none,.int .i64 0,.pointer none,.pointer none,.pointer none,.pointer none].toArray [(0,σ.sv),(1,.int .i64 most),(2,.pointer (some ⟨r,0,none⟩)),(3,.pointer (some ⟨s,0,none⟩)),(4,.pointer (some ⟨p,0,none⟩)),(5,.pointer (some ⟨tb,0,none⟩))]=some (Sm σ.sv most r s p tb).toArray:=by
  obtain⟨X,e⟩:=a8;rw[e];kernel_rfl
 refine⟨_,E,?_⟩;refine Bx.box fun b o hb J B5=>?_;have z5:=J.size;have b1:=B5.lt (Nat.succ_pos _);have ak:=((g2.trans V).trans T).trans J;have I:=(Q.trans T).trans J;have b2:=U.lt;have hM:Fw ⟨true,true,true⟩ w0 (fun x=>W.heap.size<=x/\x<o.heap.size) o ⟨b,r,s,p,tb⟩ σ most [] 0:=by
  refine⟨[],[],Tab.z _,fun _=>[],rfl,⟨fun x=>if x=b then 0 else if x=r then 1 else if x=s then 2 else if x=p then 3 else if x<W.heap.size then 5 else 4,⟨fun x=>x=r,fun x=>x=s,fun x=>x=p,fun _=>False,fun x=>W3.heap.size<=x/\x<W4.heap.size⟩,[],rfl,?_⟩,trivial,rfl,Tab.Holds.new _,(fun p hp=>nomatch hp),Nat.zero_le _⟩;refine⟨B5,.inr ⟨rfl,B1.grow ak,rfl,fun x=>Iff.rfl,fun _ h=>h⟩,.inr ⟨rfl,(B2.grow (V.trans T)).grow J,rfl,fun x=>Iff.rfl,fun _ h=>h⟩,.inr ⟨rfl,(B3.grow T).grow J,rfl,fun x=>Iff.rfl,fun _ h=>h⟩,U.grow J,Z.grow I,if_pos rfl,?_,?_,?_,?_,?_,?_,?_,g.trans I⟩
  .rintro x rfl;rw[if_neg (by omega),if_pos rfl]
  .rintro x rfl;rw[if_neg (by omega),if_neg (by omega),if_pos rfl]
  .rintro x (rfl|h)
   .rw[if_neg (by omega),if_neg (by omega),if_neg (by omega),if_pos rfl]
   .exact h.elim
  .rintro x ⟨h1,O⟩;rw[if_neg (by omega),if_neg (by omega),if_neg (by omega),if_neg (by omega),if_neg (by omega)]
  .intro x j;have:=B x j;rw[if_neg (by omega),if_neg (by omega),if_neg (by omega),if_neg (by omega),if_pos this];exact⟨rfl,by omega⟩
  .rintro x ((h|h|h)|(h|h)|h)
   .have h':x=b:=h;exact⟨by omega,by omega⟩
   .have h':x=r:=h;exact⟨by omega,by omega⟩
   .have h':x=s:=h;exact⟨by omega,by omega⟩
   .have h':x=p:=h;exact⟨by omega,by omega⟩
   .exact h.elim
   .exact⟨by have:=h.1;omega,by have:=h.2;omega⟩
  .rintro x ⟨h1,O⟩;have:=g.size;exact⟨by omega,O,fun h=>by have:=B x h;omega⟩
 refine Ge (cs:=[.int .i32 10]) (by kernel_rfl) ?_;have o6:AF o.heap.size 21 1 CI (o.alloc (.cells [Value.int .i32 10].toArray 21)) (.slice (some ⟨o.heap.size,0,none⟩) 1 1) [10]:=AF.Pt (Nat.le_refl _) rfl (fun u hu=>by simp at hu;subst hu;rfl) rfl;have y:=AF.sl o6;have Y:Grow o (o.alloc (.cells [Value.int .i32 10].toArray 21)):=Mod.alloc _ _ _;generalize o.alloc (.cells [Value.int .i32 10].toArray 21)=W6 at y o6 Y ⊢;obtain⟨z',l2,t,f,e1,e2,e3⟩:=hM;have al:Fw ⟨true,true,true⟩ w0 (fun x=>W.heap.size<=x/\x<o.heap.size) W6 ⟨b,r,s,p,tb⟩ σ most [] 0:=⟨z',l2,t,f,e1,e2.grow Y,e3⟩;have q1:([10]:List Int).length=1:=rfl;have q2:Dj σ.ks false []=[]:=rfl;have key:=Ny (at':=0) (rs:=[10]) (set:=[]) al hT (Nat.le_refl _) y BJ.nil (fun x j e=>by have:=e.2;have:=j.1;omega) (fun r hr=>by rw[List.mem_singleton] at hr;rw[hr];exact bw) (by rw[q2];exact UG) (fun x j=>nomatch j) (Nat.zero_le _) (by rw[q1,List.length_nil];omega) (by rw[q1];omega);refine AA key ?_;rintro _ W7 ⟨rfl,F7,f7,h7,m7⟩;have z6:=Y.size;have an:=I.trans Y;refine⟨an.next m7 fun x j e=>by have:=e.1;omega,.inl ⟨a1,a6,⟨b,r,s,p,tb⟩,F7,rfl,fun x j=>?_,?_⟩⟩
 .rcases f7 x j with e|e
  .exact e.1
  .omega
 .exact h7
theorem dP{α β j:Type}(g:α->j):∀(A:List α) (B:List β),A.length=B.length->(A.zipWith (fun a b=>(g a,b)) B).map Prod.fst=A.map g/\(A.zipWith (fun a b=>(g a,b)) B).map Prod.snd=B/\∀q∈A.zipWith (fun a b=>(g a,b)) B,∃(k:Nat) (a:α) (b:β),A[k]?=some a/\B[k]?=some b/\q=(g a,b):=by
 intro A;induction A with
 |nil=>
  intro B h;have:B=[]:=List.eq_nil_of_length_eq_zero h.symm;subst this;exact⟨rfl,rfl,fun q i=>nomatch i⟩
 |cons a A o=>
  intro B h;cases B with
  |nil=>simp at h
  |cons b B=>
   obtain⟨h1,x,y⟩:=o B (by simpa using h);refine⟨by simp only[List.zipWith_cons_cons,List.map_cons,h1],by simp only[List.zipWith_cons_cons,List.map_cons,x],fun q i=>?_⟩;rw[List.zipWith_cons_cons] at i;rcases List.mem_cons.1 i with rfl|i
   .exact⟨0,a,b,rfl,rfl,rfl⟩
   .obtain⟨k,E,I,J,O,Q⟩:=y q i;exact⟨k+1,E,I,J,O,Q⟩
theorem Rx{P:Int->Int->Prop}:∀{row done:List Spn},done.length=row.length->(∀(q:Nat) (s i:Spn),row[q]?=some s->done[q]?=some i->i.n=s.n/\P s.id i.id)->
  (done.flatMap Spn.u).length=(row.flatMap Spn.u).length/\∀(k:Nat) (x y:Int),(row.flatMap Spn.u)[k]?=some x->(done.flatMap Spn.u)[k]?=some y->P x y:=by
 intro row;induction row with
 |nil=>
  intro done h _;have:done=[]:=List.eq_nil_of_length_eq_zero h;subst this;exact⟨rfl,fun k x y h=>by simp at h⟩
 |cons s row B=>
  intro done h hr;cases done with
  |nil=>simp at h
  |cons i done=>
   obtain⟨E,I⟩:=hr 0 s i rfl rfl;obtain⟨h1,J⟩:=B (done:=done) (by simpa using h) fun q a b ha hb=>hr (q+1) a b ha hb;have l1:(Spn.u s).length=s.n:=by rw[Spn.u,List.length_replicate]
   have l2:(Spn.u i).length=s.n:=by rw[Spn.u,List.length_replicate,E]
   refine⟨by rw[List.flatMap_cons,List.flatMap_cons,List.length_append,List.length_append,h1,l1,l2],fun k x y j o=>?_⟩;rw[List.flatMap_cons] at j o;by_cases hk:k<s.n
   .rw[List.getElem?_append_left (by omega),Spn.u,List.getElem?_replicate,if_pos hk] at j;rw[List.getElem?_append_left (by omega),Spn.u,List.getElem?_replicate,if_pos (by omega)] at o;cases j;cases o;exact I
   .rw[List.getElem?_append_right (by omega),l1] at j;rw[List.getElem?_append_right (by omega),l2] at o;exact J _ x y j o
section
variable {k:TxK}{w0:World}{F:Nat->Prop}{W:World}{a:TxA}{σ:SKs}{most:Int}{N:Nat}{d:List Cel}
theorem QF{S:Nat->Prop}{i j:Nat}{pv:Value}{p:List Chg}(h:Fw .f w0 F W a σ most d N)(hT:ET w0)(a1:i<=j)(hj:j<=d.length)(hp:Hh S W pv p)(e5:∀x,S x->¬F x)(eF:p.length<=64)
 (O:∀c∈(d.take j).drop i,c.r≠10/\Bb σ.ks (Bn c.set p)=0/\∀x∈Bn c.set p,LP x)(hz:d.length<=10000000)(hN:N+(j-i)+20<=1000000000) :
  AB prog 86 [.pointer (some ⟨a.b,0,none⟩),.int .i64 (i:Int),.int .i64 (j:Int),pv] (fun v' w'=>v'=.tuple #[]/\Jn .f w0 F W w' a σ most (d.take i++((d.take j).drop i).map (fun c=>(⟨c.r,Bn c.set p⟩:Cel))++d.drop j) (N+(j-i)+20)) W:=by
 obtain⟨z,l2,t,f,a6,hM,a7,hu,hh,ba,eG⟩:=h;have a8:z.length=d.length:=by rw[<-a6,List.length_map]
 have c9:=congrArg List.length hu;rw[List.length_map,a8] at c9;apply Zd;refine AH ?_;refine Bl (hM.box.1.cells 3 _ rfl) ?_;obtain⟨Fs,bt,hO,eH,_⟩:=hM.PW;have ez:EB l2=d.length:=by rw[DV,c9]
 have eI:=Spn.Eu a7;refine AA (Iy (i:=i) (j:=j) hO (by omega) a1 (by omega) (by omega) (by omega)) ?_;rintro _ W1 ⟨rv,rfl,oR,g1⟩;refine BM ?_;have bc:=Spn.GM a7 i j;have ak:(Spn.kd.over l2 i j).flatMap Spn.u=((z.map Prod.snd).take j).drop i:=by rw[Spn.De.over,hu]
 have e6:=Spn.Eu bc;rw[ak,List.length_drop,List.length_take,List.length_map,a8] at e6;generalize Spn.kd.over l2 i j=row at *;clear hO;have ca:∀s∈row,0<Spn.rn s.id none (z.map Prod.snd)/\Bb σ.ks (Bn (f s.id) p)=0/\∀x∈Bn (f s.id) p,LP x:=fun s Q=>by
  have h1:=Spn.JH Q (Spn.Ha bc s Q);rw[ak] at h1;have h2:s.id∈((z.take j).drop i).map Prod.snd:=by rw[List.map_drop,List.map_take];exact h1
  obtain⟨q,B,e⟩:=List.mem_map.1 h2;have e7:q.1∈(d.take j).drop i:=by rw[<-a6,<-List.map_take,<-List.map_drop];exact List.mem_map.2 ⟨q,B,rfl⟩
  obtain⟨c1,c2,c3⟩:=O _ e7;have:=(ba q (List.mem_of_mem_take (List.mem_of_mem_drop B))).2 c1;rw[<-e,this];exact⟨Spn.Hw (List.mem_of_mem_take (List.mem_of_mem_drop (e▸h1))) (by simp),c2,c3⟩
 have e8:=hM.hl;have z1:=g1.size;have E:=AF.BL oR;have e9:Hh (fun x=>S x/\x<W.heap.size) W1 pv p:=BJ.grow (hp.HH (by decide)) g1 (by decide) fun _ _ h=>h;obtain⟨ra,rc,ea,_⟩:=AF.shape oR;have cc:Al rv=Al (.slice ra row.length rc):=by rw[ea]
 rw [cc,AS];refine Ae (fun vs W'=>∃ (m:Nat) (done:List Spn) (t':Tab (List Attr)) (f':Int->List Attr) (F':Nat->Prop),m<=row.length/\vs=[.int .i64 m]/\done.length=m/\
   (∀x,F' x->F x\/W1.heap.size<=x)/\G2 .f w0 F' W' a σ most (Ak d) l2 (Bz d) t' N/\Mod (fun x=>F x\/rv.ownBlock=some x) W1 W'/\
   AF W.heap.size 108 2 DT W' rv (done++row.drop m)/\(∀(q:Nat) (s s':Spn),row[q]?=some s->done[q]?=some s'->s'.n=s.n/\f' s'.id=Bn (f s.id) p)/\
   t'.Holds [] f' (fun x=>Spn.rn x none (z.map Prod.snd)+Spn.DB done x)/\(∀ x,0 < Spn.rn x none (z.map Prod.snd)->f' x=f x)/\t'.places.length<=N+m) (fun vs _=>row.length - ED vs 0)
  ⟨0,[],t,f,F,Nat.zero_le _,rfl,rfl,fun _ h=>.inl h,hM.grow g1,Mod.refl _ _,by simpa using oR,fun q s s' _ h=>by simp at h,hh.congr fun x=>by simp[Spn.DB],fun _ _=>rfl,by omega⟩ ?_
 rintro vs W2 ⟨m,done,t2,f2,F2,hm,rfl,T,al,bd,M2,o2,V,X,bk,eA⟩ _;simp only[CN,List.headD_cons];rw[Ax];have z2:=M2.size;have ay:=AF.BL o2;have I:∀x,rv.ownBlock=some x->¬F2 x:=fun x o e=>by
  have h1:=E x o;rcases al x e with e|e
  .have:=e8 x e;omega
  .omega
 have ec:Hh (fun x=>S x/\x < W.heap.size) W2 pv p:=BJ.mod e9 M2 (fun x _ o e=>by
  rcases e with e|e
  .exact e5 x o.1 e
  .have:=E x e;omega) (by decide) fun _ _ h=>h
 have an:(done++row.drop m).length=row.length:=by rw[List.length_append,List.length_drop,T];omega
 obtain⟨qa,qc,cd,_⟩:=AF.shape o2;rw[an] at cd;refine AE (fun eB=>?_) fun eJ=>?_
 .have U:m<row.length:=by omega
  have b0:(done++row.drop m)[m]'(by omega)=row[m]:=by
   rw[List.getElem_append_right (by omega)];simp[T]
  obtain⟨i1,i2,i3⟩:=ca row[m] (List.getElem_mem U);have gd:Grow W2 W2.drew:=Mod.drew _ _;have Y:=bd.grow gd;refine Ag (fun _ _=>False) ?_;refine AH ?_;rw[AG,AI];refine Aa ⟨Y.box.1.cells 5 _ rfl,fun j hj e=>e⟩ ?_;have ed:=AF.sl o2;subst cd;obtain⟨p0,r0,e0,Z,eK,bl,ch⟩:=ed.get (i:=m) (by omega);cases e0;have bp:r0=Spn.cells row[m]:=by rw[<-b0];exact ch
  subst bp;refine AZ U ?_;rw[AG,Addr.add_add];refine Aa ⟨by have:=gd.cell (bl 1 _ rfl) (fun h=>h);exact this,fun j hj e=>e⟩ ?_;obtain⟨Ft,cv,eL,_⟩:=Y.PB;have cx:0<Spn.rn row[m].id none (z.map Prod.snd)+Spn.DB done row[m].id:=by omega
  obtain⟨d1,d2⟩:=X.idle (.inl cx);obtain⟨cn,b1⟩:=X.ask cx;refine AA (Mn cv (by omega) (by omega) (by omega)) ?_;rintro v3 W3 ⟨g3,dk⟩;rw[b1] at dk;obtain⟨eM,rfl,o3⟩:=dk;have b2:f2 row[m].id=f row[m].id:=bk _ i1;simp only[b2] at o3;refine⟨g3.mono fun _ _ h=>h.elim,?_⟩;refine BM ?_;have eC:(f row[m].id).length<=64:=by
   obtain⟨C,pl,fr,bm,hR⟩:=cv;have:=NG hR.core b1;simpa[b2] using this
  have ee:=Y.grow g3;have bs:Grow W3 W3.drew:=Mod.drew _ _;have b3:=ee.grow bs;have av:=(gd.trans g3).trans bs;have eN:=av.size;refine Ag (fun q y=>(q=9/\F2 y)\/(q=15/\y=p0.block)) ?_;refine AH ?_;rw [AG,AI];refine Aa ⟨b3.box.1.cells 5 _ rfl,fun j hj e=>by
   rcases e with⟨rfl,_⟩|⟨rfl,_⟩
   .exact absurd hj (by decide)
   .exact absurd hj (by decide)⟩ ?_
  refine AA (Q4 ((AF.sl o3).grow bs (by decide) fun _ _ h=>h) (BJ.grow ec av (by decide) fun _ _ h=>h) (by omega)) ?_;rintro nv W4 ⟨o4,g4⟩;refine ⟨g4.mono fun _ _ h=>h.elim,?_⟩;have du:=b3.grow g4;have z4:=g4.size;obtain ⟨eO,bx,b4,put⟩:=du.PB;have b5:=bd.hl;have ef:t2.Small 1099511627:=(X.small bx.inv FQ.ne (H:=1000000000) (fun x=>by
   have h1:=Spn.Ow x none (z.map Prod.snd);rw [List.length_map] at h1;have h2:=Spn.Kz done x;omega) (by omega)).le (by omega)
  refine AA (QQ bx ef (AF.sl o4) (hT.grow du.g) i3 (fun x o=>?_) (fun x o e=>?_)) ?_
  .have:=b5 x (b4 x o);have:=hT.size;exact⟨by omega,by omega⟩
  .have:=b5 x (b4 x e);have:=o.1;omega
  rintro _ W5 (⟨h0,_⟩|⟨_,id,t5,rfl,b6,hA⟩)
  .exact absurd i2 h0
  obtain⟨F5,f5,ax,M5⟩:=put hA;clear put;refine⟨M5.mono fun x _ o=>.inl ⟨rfl,o⟩,?_⟩;refine BM ?_;obtain⟨f',c4,dv,b7⟩:=X.added bx.inv b6 fun c6=>⟨c6,i3,i2⟩;have eD:=b6.pl;have dw:¬F2 p0.block:=I _ Z.2;have o5:=AF.mod (R':=DT) (AF.mod (R':=DT) o2 (av.trans g4) (fun _ _ h=>h) fun _ _ _ h=>h) M5 (fun x o e=>I x o e) fun _ _ _ h=>h;refine AZ U ?_;rw[AG,Addr.add_add];rw[<-an] at o5;refine ME (k:=2) (i:=m) (j:=1) (x':=(⟨row[m].n,id⟩:Spn)) o5 (by omega) (by decide) rfl rfl (fun _ _ _ _ h=>h) (fun _ _ r hr=>?_) fun W6 o6 m6=>?_
  .have h':r=_:=hr;rw[h',b0];rfl
  refine⟨m6.mono fun x _ e=>.inr ⟨rfl,e⟩,?_⟩;rw[AR,AQ (by omega)];have z5:=M5.size;have eE:=ax.hl;have dx:¬F5 p0.block:=fun e=>by
   have:=ay _ Z.2;rcases f5 _ e with e|e
   .exact dw e
   .omega
  have c7:(done++row.drop m).set m (⟨row[m].n,id⟩:Spn)=(done++[⟨row[m].n,id⟩])++row.drop (m+1):=by
   rw[List.set_append,if_neg (by omega),T,Nat.sub_self,List.drop_eq_getElem_cons U,List.set_cons_zero,List.append_assoc];rfl
  rw[c7,an] at o6;have eg:¬σ.S p0.block:=fun e=>by
   have h1:=(hM.IP.2 _ e);have:=E _ Z.2;omega
  have eh:w0.heap.size<=p0.block:=by have:=hM.g.size;have:=E _ Z.2;omega
  refine⟨⟨m+1,done++[⟨row[m].n,id⟩],t5,f',F5,U,rfl,by simp[T],fun x o=>?_,ax.mod m6 fun x e=>by rw[e];exact⟨dx,eg,eh⟩,?_,o6,fun q s s' Q J=>?_,c4.congr fun x=>?_,fun x o=>?_,by omega⟩,by rw[DW,DW];omega⟩
  .rcases f5 x o with e|e
   .exact al x e
   .exact .inr (by omega)
  .refine((M2.next (av.trans g4) fun _ _ e=>e.elim).next M5 fun x o e=>?_).next m6 fun x o e=>?_
   .rcases al x e with e|e
    .exact .inl e
    .omega
   .rw[e];exact .inr Z.2
  .by_cases B:q<done.length
   .rw[List.getElem?_append_left B] at J;obtain⟨e1,e2⟩:=V q s s' Q J;refine⟨e1,?_⟩;rw[b7,e2];have:=Spn.Mt (List.mem_of_getElem? J);omega
   .rw[List.getElem?_append_right (by omega)] at J;have ei:q-done.length=0:=by
     have:=(List.getElem?_eq_some_iff.1 J).1;simpa using this
    rw[ei] at J;cases J;have ej:q=m:=by omega
    subst ej;rw[List.getElem?_eq_getElem U] at Q;cases Q;exact⟨rfl,dv⟩
  .rw[Spn.DB,Spn.DB,List.countP_append,List.countP_cons,List.countP_nil];by_cases e:x=id
   .rw[if_pos e,if_pos (by simp[e])];omega
   .rw[if_neg e,if_neg (by simp[Ne.symm e])];omega
  .rw[b7 x (by omega),bk x o]
 .obtain rfl:m=row.length:=by omega
  rw[List.drop_length,List.append_nil] at o2 an;obtain⟨r1,r2⟩:=Rx (P:=fun x y=>f2 y=Bn (f x) p) T V;have dy:(row.flatMap Spn.u).length=j-i:=by rw[ak,List.length_drop,List.length_take,List.length_map,a8];omega
  have c8:∀s∈done,0<s.n:=fun s Q=>by
   obtain⟨q,B,e⟩:=List.mem_iff_getElem.1 Q;obtain⟨e1,_⟩:=V q row[q] s (List.getElem?_eq_getElem (by omega)) (by rw[List.getElem?_eq_getElem B,e]);rw[e1];exact Spn.Ha bc _ (List.getElem_mem _)
  refine AA (Jc (f:=f2) (ex:=fun x=>Spn.DB done x) (row:=done) (i:=i) (j:=j) bd a7 (X.congr fun x=>by rw[hu]) a1 (by omega) (AF.sl o2) (fun x o e=>I x o.2 e) (fun s Q=>⟨c8 s Q,.inl (Spn.Mt Q)⟩) (by omega) (fun x=>by have:=Spn.Kz done x;omega) (by omega) (by omega)) ?_;rintro _ W5 ⟨rfl,t5,⟨F5,f5,ax,M5⟩,c4,ek⟩;have dz:((Spn.kd.Bm l2 i j done).flatMap Spn.u)=(z.map Prod.snd).take i++done.flatMap Spn.u++(z.map Prod.snd).drop j:=by rw[Spn.De.Bm l2 _ a1,hu]
  have en:=congrArg List.length dz;simp only[List.length_append,List.length_take,List.length_drop,List.length_map] at en;have o5:AF W.heap.size 108 2 DT W5 rv done:=AF.mod (R':=DT) o2 M5 (fun x o e=>I x o e) fun _ _ _ h=>h;have eo:(row.length:Int)=(done.length:Int):=by rw[T]
  rw [AS,eo];refine Ja (P:=fun m t=>t.Holds [] f2 (fun x=>(Spn.rn x none ((Spn.kd.Bm l2 i j done).flatMap Spn.u)+Spn.DB done x) - Spn.DB (done.take m) x)/\t.places.length=_) (fun hT Q h0 h1=>JJ hT Q h0 h1) (AF.sl o5) (fun x o e=>by
    rcases f5 x e with e|e
    .exact I x o.2 e
    .have:=ay x o.2;omega) (by omega)
   (MA (h:=fun x=>Spn.rn x none ((Spn.kd.Bm l2 i j done).flatMap Spn.u)+Spn.DB done x) (M:=t2.places.length) (by omega) (fun x=>by omega) (fun x=>by have:=Spn.Ow x none ((Spn.kd.Bm l2 i j done).flatMap Spn.u);have:=Spn.Kz done x;omega) σ.ks) ax ⟨c4.congr fun x=>by simp[Spn.DB],ek⟩ ?_
  rintro W6 t6 ⟨F6,f6,h6,M6⟩ ⟨dT,eP⟩;rw[List.take_length] at dT;have ep:Mod F W W2:=by
   refine(g1.mono fun _ _ h=>h.elim).next M2 fun x o e=>?_;rcases e with e|e
   .exact e
   .have:=E x e;omega
  have er:=Cm.next (W:=W) (F:=F) (fun x o=>(al x o).imp (fun h=>h) fun h=>by omega) ep (Cm.next f5 M5 ⟨F6,f6,h6,M6⟩);obtain⟨F',w1,w2,w3⟩:=er.up (N':=N+(j-i)+20) (by omega)
  let zm:=(z.take j).drop i
  have et:zm.length=(done.flatMap Spn.u).length:=by
   show((z.take j).drop i).length=_;rw[List.length_drop,List.length_take,r1,dy,a8];omega
  obtain⟨y1,y2,y3⟩:=dP (fun q:Cel×Int=>(⟨q.1.r,Bn q.1.set p⟩:Cel)) zm (done.flatMap Spn.u) et;have b8:zm.map Prod.fst=(d.take j).drop i:=by
   show((z.take j).drop i).map Prod.fst=_;rw[List.map_drop,List.map_take,a6]
  have eu:zm.map (fun q:Cel×Int=>(⟨q.1.r,Bn q.1.set p⟩:Cel))=((d.take j).drop i).map (fun c=>(⟨c.r,Bn c.set p⟩:Cel)):=by
   rw[<-b8,List.map_map];rfl
  have e3:(z.take i++zm.zipWith (fun q y=>((⟨q.1.r,Bn q.1.set p⟩:Cel),y)) (done.flatMap Spn.u)++z.drop j).map Prod.snd=(Spn.kd.Bm l2 i j done).flatMap Spn.u:=by
   rw[dz,List.map_append,List.map_append,List.map_take,List.map_drop,y2]
  have b9:d=d.take i++(d.take j).drop i++d.drop j:=by
   have h1:=(List.take_append_drop i (d.take j)).symm;rw[List.take_take,Nat.min_eq_left a1] at h1;rw[<-h1,List.take_append_drop]
  refine⟨trivial,F',w1,⟨z.take i++zm.zipWith (fun q y=>((⟨q.1.r,Bn q.1.set p⟩:Cel),y)) (done.flatMap Spn.u)++z.drop j,_,t6,f2,?_,?_,Spn.HN i j done a7,e3.symm,dT.congr fun x=>?_,fun q B=>?_,by omega⟩,w3⟩
  .rw[List.map_append,List.map_append,List.map_take,List.map_drop,y1,eu,a6]
  .have e1:Ak (d.take i++((d.take j).drop i).map (fun c=>(⟨c.r,Bn c.set p⟩:Cel))++d.drop j)=Ak d:=by
    conv=>rhs;rw[b9]
    simp only[Ak,List.map_append,List.map_map];rfl
   have e2:Bz (d.take i++((d.take j).drop i).map (fun c=>(⟨c.r,Bn c.set p⟩:Cel))++d.drop j)=Bz d:=by
    conv=>rhs;rw[b9]
    rw[DL,DL,DL,DL];have n1:Bz ((d.take j).drop i)=[]:=by
     unfold Bz;rw[List.map_eq_nil_iff,List.filter_eq_nil_iff];intro c hc;simpa using(O c hc).1
    have n2:Bz (((d.take j).drop i).map (fun c=>(⟨c.r,Bn c.set p⟩:Cel)))=[]:=by
     unfold Bz;rw[List.map_eq_nil_iff,List.filter_eq_nil_iff];intro c hc;obtain⟨c',ew,rfl⟩:=List.mem_map.1 hc;simpa using(O c' ew).1
    rw[n1,n2]
   rw[e1,e2];exact w2
  .rw[e3];omega
  .have HH:∀q∈z,(q.1.r=10->q.2=0)/\(q.1.r≠10->f2 q.2=q.1.set):=fun q B=>by
    obtain⟨o1,o2⟩:=ba q B;exact⟨o1,fun c6=>by rw[bk q.2 (Spn.Hw (List.mem_map.2 ⟨q,B,rfl⟩) (by simp)),o2 c6]⟩
   rcases List.mem_append.1 B with B|B
   .rcases List.mem_append.1 B with B|B
    .exact HH q (List.mem_of_mem_take B)
    .obtain⟨kk,q0,y,ha,hb,rfl⟩:=y3 q B;have e4:q0∈zm:=List.mem_of_getElem? ha;have bl:q0.1∈(d.take j).drop i:=by rw[<-b8];exact List.mem_map.2 ⟨q0,e4,rfl⟩
     obtain⟨c1,_⟩:=O _ bl;have ey:q0∈z:=List.mem_of_mem_take (List.mem_of_mem_drop e4);refine⟨fun e=>absurd e c1,fun _=>?_⟩;have o:(row.flatMap Spn.u)[kk]?=some q0.2:=by
      rw[ak,<-List.map_take,<-List.map_drop,List.getElem?_map,ha];rfl
     have:=r2 kk q0.2 y o hb;rw[this,(ba q0 ey).2 c1]
   .exact HH q (List.mem_of_mem_drop B)
end
def EN(ks:List DKey)(s:List Attr):Prop:=Js ks s/\∀x∈s,LP x
def H8(ks:List DKey)(p:List Chg):Prop:=Og ks p/\∀c∈p,LP ⟨c.key,c.val⟩
theorem EN.nil{ks:List DKey}:EN ks []:=⟨HP,fun x i=>nomatch i⟩
theorem H8.nil{ks:List DKey}:H8 ks []:=⟨HQ,fun x i=>nomatch i⟩
theorem EN.len{ks:List DKey}{s:List Attr}(h:EN ks s):s.length<=64:=h.1.2.1
theorem EN.part{ks:List DKey}{s:List Attr}(h:EN ks s)(b:Bool):EN ks (Dj ks b s):=
 ⟨⟨List.Pairwise.filter _ h.1.1,Nat.le_trans (List.length_filter_le _ _) h.1.2.1,fun x i=>h.1.2.2 x (List.mem_filter.1 i).1⟩,fun x i=>h.2 x (List.mem_filter.1 i).1⟩
theorem H8.part{ks:List DKey}{p:List Chg}(h:H8 ks p)(b:Bool):H8 ks (Fz ks b p):=
 ⟨⟨List.Pairwise.filter _ h.1.1,Nat.le_trans (List.length_filter_le _ _) h.1.2.1,fun x i=>h.1.2.2 x (List.mem_filter.1 i).1⟩,fun x i=>h.2 x (List.mem_filter.1 i).1⟩
theorem EN.app{ks:List DKey}(i:ks.length<=64){s:List Attr}{p:List Chg}(h:EN ks s)(hp:H8 ks p):EN ks (Bn s p):=by
 refine⟨Uv i h.1 hp.1.1 fun c hc o=>(hp.1.2.2 c hc).2.1 o,fun x j=>?_⟩;rcases LL j with j|⟨c,hc,_,rfl⟩
 .exact h.2 x j
 .exact hp.2 c hc
def D0(ks:List DKey)(p:List Chg)(c:Cel):Cel:=⟨c.r,Qr ks c.set p c.r⟩
def Lj(d:List Cel)(i j:Nat)(g:Cel->Cel):List Cel:=d.take i++((d.take j).drop i).map g++d.drop j
theorem Mh(d:List Cel){i j:Nat}(g:Cel->Cel)(o:i<=j)(y:j<=d.length)(k:Nat):(Lj d i j g)[k]?=if i<=k/\k<j then d[k]?.map g else d[k]?:=by
 unfold Lj;have l1:(d.take i).length=i:=by rw[List.length_take];omega
 have l2:(((d.take j).drop i).map g).length=j-i:=by rw[List.length_map,List.length_drop,List.length_take];omega
 by_cases h1:k<i
 .rw[if_neg (by omega),List.append_assoc,List.getElem?_append_left (by omega),List.getElem?_take,if_pos h1]
 .by_cases x:k<j
  .rw[if_pos ⟨by omega,x⟩,List.getElem?_append_left (by rw[List.length_append];omega),List.getElem?_append_right (by omega),l1,List.getElem?_map,List.getElem?_drop,List.getElem?_take,if_pos (by omega),show i+(k-i)=k by omega]
  .rw[if_neg (by omega),List.getElem?_append_right (by rw[List.length_append];omega),List.length_append,l1,l2,List.getElem?_drop,show j+(k-(i+(j-i)))=k by omega]
theorem QM(d:List Cel){i j:Nat}(o:i<=j):d=d.take i++(d.take j).drop i++d.drop j:=by
 have h1:=(List.take_append_drop i (d.take j)).symm;rw[List.take_take,Nat.min_eq_left o] at h1;rw[<-h1,List.take_append_drop]
theorem Td(d:List Cel){i j:Nat}(g:Cel->Cel)(o:i<=j)(x:∀c,(g c).r=c.r):Ak (Lj d i j g)=Ak d:=by
 conv=>rhs;rw[QM d o]
 unfold Lj;simp only[Ak,List.map_append,List.map_map];congr 2
 exact List.map_congr_left fun c _=>x c
theorem VE(d:List Cel){i j:Nat}(g:Cel->Cel)(o:i<=j)(x:∀c∈(d.take j).drop i,g c=c):Lj d i j g=d:=by
 conv=>rhs;rw[QM d o]
 unfold Lj;rw[List.map_congr_left (g:=id) (fun c hc=>x c hc),List.map_id]
theorem WE{b:List Int}(h:(10:Int)∈b):∃q,GW b 0=some q/\b[q]?=some 10/\∀k,k<q->b[k]?≠some 10:=by
 induction b with
 |nil=>cases h
 |cons r b i=>
  rw[GC];by_cases e:r=10
  .rw[if_pos e];exact⟨0,rfl,by rw[e];rfl,fun k hk=>by omega⟩
  .rw[if_neg e];obtain⟨q,h1,j,o⟩:=i ((List.mem_cons.1 h).resolve_left fun h=>e h.symm);refine⟨q+1,by rw[h1];rfl,by simpa using j,fun k hk=>?_⟩;cases k with
   |zero=>simpa using e
   |succ k=>simpa using o k (by omega)
theorem Mx{rs:List Int}{p:Nat}(hp:p<rs.length)(hl:rs.getLast?=some 10):∃q,GW rs (BQ (rs.take p))=some q/\p<=q/\q<rs.length/\rs[q]?=some 10/\(∀k,p<=k->k<q->rs[k]?≠some 10)/\BQ (rs.take p)+1<=BQ rs/\BQ (rs.take (q+1))=BQ (rs.take p)+1:=by
 have Q:rs.drop p≠[]:=fun e=>by have:=congrArg List.length e;rw[List.length_drop] at this;simp at this;omega
 have hm:(10:Int)∈rs.drop p:=by
  have:(rs.drop p).getLast?=some 10:=by
   rw[List.getLast?_drop,if_neg (by omega)];exact hl
  exact List.mem_of_getLast? this
 obtain⟨q,h1,o,B⟩:=WE hm;have lt:(rs.take p).length=p:=by rw[List.length_take];omega
 have e:=KL (rs.take p) (rs.drop p) (BQ (rs.take p));rw[List.take_append_drop,if_neg (by omega),Nat.sub_self,h1,lt] at e;rw[List.getElem?_drop] at o;have S:=(List.getElem?_eq_some_iff.1 o).1;have T:BQ rs=BQ (rs.take p)+BQ (rs.drop p):=by rw[<-EZ,List.take_append_drop]
 have y:0<BQ (rs.drop p):=List.count_pos_iff.2 hm;have i:∀k,p<=k->k<q+p->rs[k]?≠some 10:=fun k a b=>by
  have:=B (k-p) (by omega);rw[List.getElem?_drop,show p+(k-p)=k by omega] at this;exact this
 refine⟨q+p,e,by omega,by omega,by rw[show q+p=p+q by omega];exact o,i,by omega,?_⟩;have E:rs.take (q+p+1)=rs.take p++((rs.take (q+p)).drop p++[10]):=by
  have x:=(List.take_append_drop p (rs.take (q+p))).symm;rw[List.take_take,Nat.min_eq_left (by omega)] at x;have I:rs[q+p]?=some 10:=by rw[show q+p=p+q by omega];exact o
  rw[List.take_add_one,I];generalize (rs.take (q+p)).drop p=M at x ⊢;rw[x];simp
 have J:BQ ((rs.take (q+p)).drop p)=0:=by
  refine List.count_eq_zero.2 fun j=>?_;obtain⟨k,hk,e⟩:=List.mem_iff_getElem.1 j;have O:k<q:=by rw[List.length_drop,List.length_take] at hk;omega
  refine i (p+k) (by omega) (by omega) ?_;rw[List.getElem_drop,List.getElem_take] at e;rw[List.getElem?_eq_getElem (by omega),e]
 rw[E,EZ,EZ,J];rfl
theorem Sh(d:List Cel)(g:Cel->Cel){g':List Attr->List Attr}(j:∀c,(g c).r=c.r)(h:∀c,c.r=10->(g c).set=g' c.set):Bz (d.map g)=(Bz d).map g':=by
 induction d with
 |nil=>rfl
 |cons c d o=>
  have e:∀(c:Cel) (d:List Cel),Bz (c::d)=(if c.r=10 then[c.set] else[])++Bz d:=fun c d=>by by_cases h:c.r=10<;>simp[Bz,h]
  rw[List.map_cons,e,e,o,j,List.map_append];split
  .rename_i i;rw[h c i];rfl
  .rfl
theorem U6(d:List Cel){i j:Nat}(o:i<=j)(g:Cel->Cel){g':List Attr->List Attr}(x:∀c,(g c).r=c.r)(h:∀c,c.r=10->(g c).set=g' c.set) :
  Bz (Lj d i j g)=(Bz d).take (BQ ((Ak d).take i))++(((Bz d).take (BQ ((Ak d).take j))).drop (BQ ((Ak d).take i))).map g'++(Bz d).drop (BQ ((Ak d).take j)):=by
 unfold Lj;rw[DL,DL,(Cx d i).1,(Cx d j).2,Sh _ g x h,(Cx (d.take j) i).2,(Cx d j).1,show Ak (d.take j)=(Ak d).take j from List.map_take,List.take_take,Nat.min_eq_left o]
structure Ln (ks:List DKey) (d:List Cel):Prop where
 set:∀c∈d,EN ks c.set
 last:(Ak d).getLast?=some 10
theorem Fw.up{k:TxK}{w0:World}{F:Nat->Prop}{W:World}{a:TxA}{σ:SKs}{most:Int}{N N':Nat}{d:List Cel}(h:Fw k w0 F W a σ most d N)(j:N<=N'):Fw k w0 F W a σ most d N':=by
 obtain⟨z,l2,t,f,h1,o,x,y,B,E,J⟩:=h;obtain⟨own,G,l1,I,i⟩:=o;exact⟨z,l2,t,f,h1,⟨own,G,l1,I,i.box,i.GX.up j,i.Dv.up j,i.para.up j,i.PB,i.IP,i.cb,i.cr,i.cs,i.cp,i.ct,i.cS,i.lo,i.hl,i.g⟩,x,y,B,E,by omega⟩
theorem Fw.grow{k:TxK}{w0:World}{F:Nat->Prop}{W W':World}{a:TxA}{σ:SKs}{most:Int}{N:Nat}{d:List Cel}(h:Fw k w0 F W a σ most d N)(g:Grow W W'):Fw k w0 F W' a σ most d N:=by
 obtain⟨z,l2,t,f,h1,i,j⟩:=h;exact⟨z,l2,t,f,h1,i.grow g,j⟩
theorem Fw.hl{k:TxK}{w0:World}{F:Nat->Prop}{W:World}{a:TxA}{σ:SKs}{most:Int}{N:Nat}{d:List Cel}(h:Fw k w0 F W a σ most d N):∀x,F x->w0.heap.size<=x/\x<W.heap.size/\¬σ.S x:=by
 obtain⟨z,l2,t,f,h1,i,j⟩:=h;exact i.hl
theorem Fw.box{k:TxK}{w0:World}{F:Nat->Prop}{W:World}{a:TxA}{σ:SKs}{most:Int}{N:Nat}{d:List Cel}(h:Fw k w0 F W a σ most d N):Bx W a.b (Sm σ.sv most a.r a.s a.p a.t)/\F a.b:=by
 obtain⟨z,l2,t,f,h1,i,j⟩:=h;exact i.box
theorem Fw.IP{k:TxK}{w0:World}{F:Nat->Prop}{W:World}{a:TxA}{σ:SKs}{most:Int}{N:Nat}{d:List Cel}(h:Fw k w0 F W a σ most d N):DG σ.S W σ.sv σ.ks/\∀x,σ.S x->x<W.heap.size:=by
 obtain⟨z,l2,t,f,h1,i,j⟩:=h;exact i.IP
theorem Fw.g{k:TxK}{w0:World}{F:Nat->Prop}{W:World}{a:TxA}{σ:SKs}{most:Int}{N:Nat}{d:List Cel}(h:Fw k w0 F W a σ most d N):Grow w0 W:=by
 obtain⟨z,l2,t,f,h1,i,j⟩:=h;exact i.g
theorem Fw.GX{w0:World}{F:Nat->Prop}{W:World}{a:TxA}{σ:SKs}{most:Int}{N:Nat}{d:List Cel}(h:Fw .f w0 F W a σ most d N):∃l1 Fr bt,BU l1=Ak d/\DF As.toAvT Fr FN W a.r bt l1 N:=by
 obtain⟨z,l2,t,f,h1,i,x⟩:=h;obtain⟨l1,Fr,bt,j,o,_⟩:=i.Ql;exact⟨l1,Fr,bt,j,o⟩
theorem Jn.next{k:TxK}{w0:World}{F i:Nat->Prop}{W j W':World}{a:TxA}{σ:SKs}{most:Int}{N:Nat}{d:List Cel}(o:∀x,i x->F x\/W.heap.size<=x)(hm:Mod F W j)(h:Jn k w0 i j W' a σ most d N):Jn k w0 F W W' a σ most d N:=by
 obtain⟨B,h1,E,I⟩:=h;have z:=hm.size;refine⟨B,fun x y=>?_,E,hm.next I fun x y e=>?_⟩
 .rcases h1 x y with e|e
  .exact o x e
  .exact .inr (by omega)
 .rcases o x e with e|e
  .exact e
  .omega
theorem Jn.step{k:TxK}{w0:World}{F:Nat->Prop}{W i W':World}{a:TxA}{σ:SKs}{most:Int}{N:Nat}{d:List Cel}(g:Grow W i)(h:Jn k w0 F i W' a σ most d N):Jn k w0 F W W' a σ most d N:=Jn.next (fun _ h=>.inl h) (g.mono fun _ _ h=>h.elim) h
theorem Jn.up{k:TxK}{w0:World}{F:Nat->Prop}{W W':World}{a:TxA}{σ:SKs}{most:Int}{N N':Nat}{d:List Cel}(h:Jn k w0 F W W' a σ most d N)(i:N<=N'):Jn k w0 F W W' a σ most d N':=by
 obtain⟨F',h1,j,o⟩:=h;exact⟨F',h1,j.up i,o⟩
def Ga(ks:List DKey)(p:List Chg)(c:Cel):Cel:=if c.r=10 then⟨10,Bn c.set (Fz ks true p)⟩ else c
theorem Ke(ks:List DKey)(p:List Chg)(c:Cel):(Ga ks p c).r=c.r:=by unfold Ga;split<;>simp_all
def Hv(ks:List DKey)(p:List Chg)(d:List Cel)(i j m:Nat):List Cel:=d.mapIdx fun k c=>if i<=k/\k<m then D0 ks p c else if i<=k/\k<j then Ga ks p c else c
theorem Eg(ks:List DKey)(p:List Chg)(d:List Cel)(i j m k:Nat):(Hv ks p d i j m)[k]?=d[k]?.map fun c=>if i<=k/\k<m then D0 ks p c else if i<=k/\k<j then Ga ks p c else c:=by
 rw[Hv,List.getElem?_mapIdx]
theorem OH(ks:List DKey)(p:List Chg)(d:List Cel)(i j m:Nat):(Hv ks p d i j m).length=d.length:=List.length_mapIdx
theorem L6(ks:List DKey)(p:List Chg)(d:List Cel){i j:Nat}(o:i<=j)(x:j<=d.length):Hv ks p d i j i=Lj d i j (Ga ks p):=by
 refine List.ext_getElem? fun k=>?_;rw[Eg,Mh d _ o x];by_cases h:i<=k/\k<j
 .rw[if_pos h];simp only[h,if_true,show ¬k<i by omega,and_false,if_false,and_self]
 .rw[if_neg h];simp only[h,if_false,show ¬(i<=k/\k<i) by omega,Option.map_id_fun'];rfl
theorem L7(ks:List DKey)(p:List Chg)(d:List Cel){i j:Nat}(o:i<=j)(x:j<=d.length):Hv ks p d i j j=Lj d i j (D0 ks p):=by
 refine List.ext_getElem? fun k=>?_;rw[Eg,Mh d _ o x];by_cases h:i<=k/\k<j
 .rw[if_pos h];simp only[h,if_true,and_self]
 .rw[if_neg h];simp only[h,if_false,Option.map_id_fun'];rfl
theorem Vj(ks:List DKey)(p:List Chg)(d:List Cel)(i j m:Nat):Ak (Hv ks p d i j m)=Ak d:=by
 refine List.ext_getElem? fun k=>?_;rw[Ak,Ak,List.getElem?_map,List.getElem?_map,Eg,Option.map_map];congr 1
 funext c
 show Cel.r (ite _ _ _)=c.r;split
 .rfl
 .split
  .exact Ke ks p c
  .rfl
theorem SD{ks:List DKey}{p:List Chg}{d:List Cel}{i j m q:Nat}(J:i<=m)(O:m<=j)(U:j<=d.length)(Q:m<=q)(S:(Ak d)[q]?=some 10)(y:∀k,m<=k->k<q->(Ak d)[k]?≠some 10) :
  Lj (Hv ks p d i j m) m (min q j) (fun c=>⟨c.r,Bn c.set (Fz ks false p)⟩)=Hv ks p d i j (min (q+1) j):=by
 have hr:∀k,(Ak d)[k]?=d[k]?.map Cel.r:=fun k=>List.getElem?_map;refine List.ext_getElem? fun k=>?_;rw[Mh _ _ (by omega) (by rw[OH];omega),Eg,Eg];cases T:d[k]? with
 |none=>simp
 |some c=>
  simp only[Option.map_some];have o:=hr k;rw[T,Option.map_some] at o;by_cases h1:m<=k/\k<min q j
  .have x:c.r≠10:=fun e=>y k h1.1 (by omega) (by rw[o,e]);rw[if_pos h1,if_neg (by omega),if_pos (by omega),if_pos (by omega)];congr 1
   simp only[Ga,if_neg x,D0,Qr,decide_eq_false x]
  .rw[if_neg h1];by_cases E:i<=k/\k<m
   .rw[if_pos E,if_pos (by omega)]
   .rw[if_neg E];by_cases I:i<=k/\k<min (q+1) j
    .have B:k=q:=by omega
     subst B;have he:c.r=10:=by rw[S] at o;exact(Option.some.inj o).symm
     rw[if_pos (by omega),if_pos I];simp only[Ga,D0,Qr,he,if_true,decide_true]
    .rw[if_neg I]
section
variable {w0:World}{F:Nat->Prop}{W:World}{a:TxA}{σ:SKs}{most:Int}{N:Nat}{d:List Cel}
theorem VA{S:Nat->Prop}{i j:Nat}{pv:Value}{p:List Chg}(h:Fw .f w0 F W a σ most d N)(hT:ET w0)(hG:Ln σ.ks d)(b8:σ.ks.length<=64)(o:i<=j)(X:j<=d.length)(hp:Hh S W pv p)(b9:∀x,S x->¬F x)(al:H8 σ.ks p)
 (hz:d.length<=10000000)(hN:N+22*d.length+50<=1000000000) :
  AB prog 43 [.pointer (some ⟨a.b,0,none⟩),.int .i64 (i:Int),.int .i64 (j:Int),pv] (fun v' w'=>v'=.tuple #[]/\Jn .f w0 F W w' a σ most (Lj d i j (D0 σ.ks p)) (N+22*d.length+50)) W:=by
 have Y:(Ak d).length=d.length:=List.length_map _;have ba:=al.1.2.1;have e7:=h.hl;apply Zz;refine AW (fun _ W1=>Jn .f w0 F W W1 a σ most (Hv σ.ks p d i j i) (N+d.length+4)) ?_ ?_
 .rintro _ W1 ⟨F1,f1,h1,M1⟩ _;have bc:Hh (fun x=>S x/\x<W.heap.size) W1 pv p:=BJ.mod (hp.HH (by decide)) M1 (fun x _ B e=>b9 x B.1 e) (by decide) fun _ _ h=>h;refine AH ?_;refine Bl (h1.box.1.cells 0 _ rfl) ?_;refine AA (Oa (b:=false) h1.IP.1 bc (by omega)) ?_;rintro iv W2 ⟨bd,Z⟩;have h2:=h1.grow Z;have z1:=M1.size;have z2:=Z.size;have a1:=h1.hl;have a6:=bd.HH (by decide);obtain⟨va,vc,bk,_⟩:=a6.shape;have O:Al iv=Al (.slice va (Fz σ.ks false p).length vc):=by rw[bk]
  have M2:Mod F W W2:=M1.next Z fun _ _ e=>e.elim;have a7:=al.part false;have bl:∀x,F1 x->F x\/W.heap.size<=x:=f1;refine Ae (fun vs W'=>∃m F',i<=m/\m<=d.length/\vs=[.int .i64 (m:Int)]/\(∀x,F' x->F1 x\/W2.heap.size<=x)/\Fw .f w0 F' W' a σ most (Hv σ.ks p d i j (min m j)) (N+d.length+4+21*(min m j-i))/\Mod F1 W2 W'/\(m<=j\/True)) (fun vs _=>d.length+1-ED vs 0)
   ⟨i,F1,Nat.le_refl _,by omega,rfl,fun _ h=>.inl h,by rw[Nat.min_eq_left o,Nat.sub_self];exact h2,Mod.refl _ _,.inr trivial⟩ ?_
  rintro vs W3 ⟨m,F3,bs,e8,rfl,f3,Q,M3,_⟩ _;simp only[CN,List.headD_cons];have z3:=M3.size;have fin:min m j=j\/Fz σ.ks false p=[]->Jn .f w0 F W W3 a σ most (Lj d i j (D0 σ.ks p)) (N+22*d.length+50):=fun e=>by
   have ed:Hv σ.ks p d i j (min m j)=Lj d i j (D0 σ.ks p):=by
    rcases e with e|e
    .rw[e,L7 _ _ _ o X]
    .rw[<-L7 _ _ _ o X];refine List.ext_getElem? fun k=>?_;rw[Eg,Eg];congr 1
     funext c
     have bx:Ga σ.ks p c=D0 σ.ks p c:=by
      unfold Ga D0 Qr;by_cases hc:c.r=10
      .rw[if_pos hc,hc];rfl
      .rw[if_neg hc,decide_eq_false hc,e];rfl
     rw[bx];by_cases q1:i<=k/\k<j
     .rw[if_pos q1,if_pos q1];split<;>rfl
     .rw[if_neg q1,if_neg q1,if_neg (by omega)]
   rw[ed] at Q;exact Jn.next bl M2 ((Jn.up ⟨F3,f3,Q,M3⟩ (by omega)))
  refine AW (fun _ W'=>W'=W3/\m<j) ?_ ?_;rotate_left
  .rw[O,AS,BK];refine AE (fun c4=>?_) fun c6=>?_
   .rw[Ax];refine AE (fun ay=>⟨rfl,by omega⟩) fun c7=>⟨trivial,fin (.inl (by omega))⟩
   .exact⟨trivial,fin (.inr (List.eq_nil_of_length_eq_zero (by omega)))⟩
  rintro _ _ ⟨rfl,e9⟩ _;rename World=>W3
  have b0:min m j=m:=by omega
  rw[b0] at Q;generalize hD:Hv σ.ks p d i j m=D at Q;have ea:D.length=d.length:=by rw[<-hD,OH]
  have an:Ak D=Ak d:=by rw[<-hD,Vj]
  have gd:Grow W3 W3.drew:=Mod.drew _ _;have av:=Q.grow gd;obtain⟨l1,Fr,bt,I,hO⟩:=av.GX;have c8:(BU l1).length=d.length:=by rw[I,an,Y]
  obtain⟨q,n1,n2,n3,n4,n5,n6,n7⟩:=Mx (rs:=Ak d) (p:=m) (by omega) hG.last;refine Ag (fun _ _=>False) ?_;refine AH ?_;rw[AG,AI];refine Aa ⟨av.box.1.cells 2 _ rfl,fun j X e=>e⟩ ?_;refine AA (GR av.box.1 hO (i:=m) (by omega) (by omega)) ?_;rintro _ W4 ⟨rfl,g4⟩;refine⟨g4.mono fun _ _ h=>h.elim,?_⟩;have e3:=Cz (Ak d);rw[I,an,AR,wrap64 (by omega) (by omega),show((BQ ((Ak d).take m):Int)+1)=((BQ ((Ak d).take m)+1:Nat):Int) by omega];refine AA (Jp (hO.grow g4) (k:=BQ ((Ak d).take m)+1) (by omega)) ?_;rintro _ W5 ⟨rfl,g5⟩;refine⟨g5.mono fun _ _ h=>h.elim,?_⟩;have b1:IF (BU l1) (BQ ((Ak d).take m)+1)=.tuple #[.int .i64 ((q+1:Nat):Int),.int .i64 0]:=by
   rw[I,an];unfold IF;rw[if_neg (by omega),if_neg (by omega),Nat.add_sub_cancel,n1]
  rw[b1];refine BM ?_;have c9:(if(j:Int)<((q+1:Nat):Int)-1 then(j:Int) else((q+1:Nat):Int)-1)=((min q j:Nat):Int):=by split<;>omega
  rw[Av,wrap64 (by omega) (by omega),Gg,c9,Ax];have J:=(gd.trans g4).trans g5;have ec:=J.size;have step:=SD (ks:=σ.ks) (p:=p) bs (by omega) X n2 n4 n5;have e4:=Q.hl;have ca:min (q+1) j=(if q<j then q+1 else j):=by split<;>omega
  refine AE (fun ay=>?_) fun c7=>?_
  .have cc:Hh (fun x=>W1.heap.size<=x/\x < W2.heap.size) W5 iv (Fz σ.ks false p):=BJ.grow (BJ.mod a6 M3 (fun x _ B e=>by have:=(a1 x e).2.1;omega) (by decide) fun _ _ h=>h) J (by decide) fun _ _ h=>h;refine AA (QF (i:=m) (j:=min q j) (Q.grow J) hT (by omega) (by omega) cc (fun x B e=>by
     rcases f3 x e with e|e
     .have:=(a1 x e).2.1;omega
     .omega) a7.1.2.1 (fun c hc=>?_) (by omega) (by omega)) ?_
   .obtain⟨k,hk⟩:=List.mem_iff_getElem?.1 hc;have cd:=(List.getElem?_eq_some_iff.1 hk).1;rw[List.length_drop,List.length_take] at cd;rw[List.getElem?_drop,List.getElem?_take,if_pos (by omega),<-hD,Eg] at hk;cases T:d[m+k]? with
    |none=>rw[T] at hk;simp at hk
    |some c0=>
     rw[T,Option.map_some,if_neg (by omega),if_pos (by omega)] at hk;have b2:c0.r≠10:=fun e=>n5 (m+k) (by omega) (by omega) (by rw[Ak,List.getElem?_map,T,Option.map_some,e]);have ch:c=c0:=by have:=Option.some.inj hk;rw[<-this,Ga,if_neg b2]
     subst ch;have hs:=(hG.set c (List.mem_of_getElem? T)).app b8 a7;exact⟨b2,GL.2 hs.1,hs.2⟩
   rintro _ W6 ⟨rfl,F6,f6,h6,M6⟩;have e6:D.take m++((D.take (min q j)).drop m).map (fun c=>(⟨c.r,Bn c.set (Fz σ.ks false p)⟩:Cel))++D.drop (min q j)=Hv σ.ks p d i j (min (q+1) j):=by rw[<-hD];exact step
   rw[e6] at h6;refine⟨⟨q+1,F6,by omega,by omega,rfl,fun x B=>?_,h6.up (by omega),?_,.inr trivial⟩,by rw[DW,DW];omega⟩
   .rcases f6 x B with e|e
    .exact f3 x e
    .exact .inr (by omega)
   .refine(M3.next J fun _ _ e=>e.elim).next M6 fun x B e=>?_;rcases f3 x e with e|e
    .exact e
    .omega
  .have cn:q=m:=by omega
   have e6:D=Hv σ.ks p d i j (min (q+1) j):=by
    rw[<-step,cn,Nat.min_eq_left (by omega),hD];refine(VE _ _ (Nat.le_refl _) fun c hc=>?_).symm;simp at hc
   rw[e6] at Q;refine⟨⟨q+1,F3,by omega,by omega,rfl,f3,(Q.grow J).up (by omega),M3.next J fun _ _ e=>e.elim,.inr trivial⟩,by rw[DW,DW];omega⟩
 .refine AH ?_;refine Bl (h.box.1.cells 0 _ rfl) ?_;refine AA (Oa (b:=true) h.IP.1 hp (by omega)) ?_;rintro bv W1 ⟨b3,g1⟩;have h1:=h.grow g1;have cv:=al.part true;obtain⟨va,vc,cx,_⟩:=b3.shape;have O:Al bv=Al (.slice va (Fz σ.ks true p).length vc):=by rw[cx]
  rw[O,AS,BK];refine AE (fun c4=>?_) fun c6=>?_;rotate_left
  .have e0:Fz σ.ks true p=[]:=List.eq_nil_of_length_eq_zero (by omega);have ed:Hv σ.ks p d i j i=d:=by
    rw[L6 _ _ _ o X];refine VE d _ o fun c hc=>?_;unfold Ga;rw[e0];split
    .rename_i b4;rw[<-b4];rfl
    .rfl
   rw[ed];exact⟨F,fun _ h=>.inl h,h1.up (by omega),g1.mono fun _ _ h=>h.elim⟩
  have gd:Grow W1 W1.drew:=Mod.drew _ _;have U:=h1.grow gd;obtain⟨l1,Fr,bt,I,hO⟩:=U.GX;have c8:(BU l1).length=d.length:=by rw[I,Y]
  refine Ag (fun q y=>q=11/\F y) ?_;refine AH ?_;rw [AG,AI];refine Aa ⟨U.box.1.cells 4 _ rfl,fun j X e=>by obtain ⟨rfl,_⟩:=e;exact absurd X (by decide)⟩ ?_;refine AA (GR U.box.1 hO (i:=i) (by omega) (by omega)) ?_;rintro _ W2 ⟨rfl,Z⟩;refine ⟨Z.mono fun _ _ h=>h.elim,?_⟩;have h2:=U.grow Z;refine AA (GR h2.box.1 (hO.grow Z) (i:=j) (by omega) (by omega)) ?_;rintro _ W3 ⟨rfl,g3⟩;refine ⟨g3.mono fun _ _ h=>h.elim,?_⟩;have b5:=(gd.trans Z).trans g3;have Q:=h2.grow g3;obtain ⟨z,l2,t,f,dk,hM,du,hu,hh,ax,ba⟩:=Q;obtain ⟨Fp,Cp,bp,dv,dw,put⟩:=hM.UL;rw [I];have dx:BQ ((Ak d).take i)<=BQ ((Ak d).take j):=List.Sublist.count_le _ (by
   rw [<-Nat.min_eq_left o,<-List.take_take];exact List.take_sublist _ _)
  have dy:BQ ((Ak d).take j)<=BQ (Ak d):=List.Sublist.count_le _ (List.take_sublist _ _);have ee:=Cz (Ak d);have b6:∀x∈Bz d,x.length<=64:=fun x B=>by
   obtain⟨c,hc,rfl⟩:=List.mem_map.1 B;exact(hG.set c (List.mem_filter.1 hc).1).len
  have dz:=BJ.grow b3 b5 (by decide) fun _ _ h=>h;have e5:=cv.1.2.1;refine AA (VL dv (by omega) dx (by rw [Di];exact dy) (by rw [Di];omega) (fun x B=>by have:=b6 x B;omega) dz (fun x B=>by have:=b6 x B;omega)) ?_;rintro _ W4 ⟨rfl,ef,eg,_,_,k3,k4,k5,m4⟩;rw [Di] at k5;obtain ⟨F4,f4,b7,M4⟩:=put m4 (fun x B=>by
   rcases B with B|B
   .exact(k3 x B).imp .inl fun h=>h
   .exact (k4 x B).imp .inr fun h=>h) k5 (by omega)
  refine⟨m4.mono fun x _ B=>⟨rfl,dw x (.inl B)⟩,?_⟩;have a8:=U6 d o (Ga σ.ks p) (g':=fun x=>Bn x (Fz σ.ks true p)) (Ke σ.ks p) (fun c hc=>by unfold Ga;rw[if_pos hc]);rw[<-a8] at b7;have ak:=Td d (Ga σ.ks p) o (Ke σ.ks p);rw[L6 _ _ _ o X];refine Jn.step (g1.trans b5) ⟨F4,f4,⟨z.take i++((z.take j).drop i).map (fun q=>(Ga σ.ks p q.1,q.2))++z.drop j,l2,t,f,?_,?_,du,?_,hh.congr fun x=>?_,fun q V=>?_,by omega⟩,M4⟩
  .clear a8 ak;subst dk;unfold Lj;simp only[List.map_append,List.map_map,List.map_take,List.map_drop,Function.comp_def]
  .rw[ak];obtain⟨own,G,l4,e1,E⟩:=b7;have hn:BQ (Ak d)<=d.length:=by omega
   exact⟨own,G,l4,e1,E.box,E.GX.up (by omega),E.Dv.up (by omega),E.para.up (by omega),E.PB,E.IP,E.cb,E.cr,E.cs,E.cp,E.ct,E.cS,E.lo,E.hl,E.g⟩
  .have e1:(z.take i++((z.take j).drop i).map (fun q:Cel×Int=>(Ga σ.ks p q.1,q.2))++z.drop j).map Prod.snd=z.map Prod.snd:=by
    have h1:=(List.take_append_drop i (z.take j)).symm;rw[List.take_take,Nat.min_eq_left o] at h1;conv=>rhs;rw[<-List.take_append_drop j z,h1]
    simp only[List.map_append,List.map_map];rfl
   rw[e1,hu]
  .have e1:(z.take i++((z.take j).drop i).map (fun q:Cel×Int=>(Ga σ.ks p q.1,q.2))++z.drop j).map Prod.snd=z.map Prod.snd:=by
    have h1:=(List.take_append_drop i (z.take j)).symm;rw[List.take_take,Nat.min_eq_left o] at h1;conv=>rhs;rw[<-List.take_append_drop j z,h1]
    simp only[List.map_append,List.map_map];rfl
   rw[e1]
  .rcases List.mem_append.1 V with V|V
   .rcases List.mem_append.1 V with V|V
    .exact ax q (List.mem_of_mem_take V)
    .obtain⟨q0,dT,rfl⟩:=List.mem_map.1 V;obtain⟨o1,o2⟩:=ax q0 (List.mem_of_mem_take (List.mem_of_mem_drop dT));refine⟨fun e=>o1 (by rw[<-Ke σ.ks p];exact e),fun e=>?_⟩;have e':q0.1.r≠10:=by rw[<-Ke σ.ks p];exact e
     show f q0.2=(Ga σ.ks p q0.1).set;rw[o2 e',Ga,if_neg e']
   .exact ax q (List.mem_of_mem_drop V)
end
end Go.Proofs.YtmdhibffnkhcnaaGreatDoor
