/- parts of the proof, written short by a program of ours -/
import Derived.Test.YtmdhibffnkhcnaaGreatDoorZTextNormalUpto9
set_option linter.unusedSimpArgs false
set_option linter.unusedVariables false
namespace Go.Proofs.YtmdhibffnkhcnaaGreatDoor
open Go Proofs.Tryz
variable {i j c B:Nat}{w W w0:World}{F S C:Nat->Prop}{v sv:Value}{most:Int}{cs:List Value}{α:Type}{rs:List Int}{ks:List DKey}{σ:SKs}{s:List Spn}
def Tab.hold{α:Type}(t:Tab α)(z:α)(id:Int):Tab α:=match t.ask z id with
 |none=>t
 |some p=>if id=0 then { t with empty:=t.empty+1 } else t.ID (id-1).toNat ⟨p.set,p.held+1⟩
def Tab.release{α:Type}(t:Tab α)(z:α)(id:Int):Tab α:=match t.ask z id with
 |none=>t
 |some p=>if id=0 then { t with empty:=t.empty-1 } else if p.held=1 then t.drop z (id-1).toNat else t.ID (id-1).toNat ⟨p.set,p.held-1⟩
theorem LS{s:List Attr}(h:GY ks s):s.length<=64/\∀a∈s,a.val.s.size<=64:=by
 classical
 have hb:¬KH s:=fun hb=>by
  have o:Bl ks s=0:=h.2.2;unfold Bl at o;rw[Io hb] at o;cases o
 refine⟨pA fun j=>hb (.inr (.inl j)),fun a ha=>pA fun j=>hb (.inr (.inr ⟨a,ha,fun i=>?_⟩))⟩;rcases i with i|i|i|i
 .rw[i.2.1] at j;exact absurd j (by simp[Fo,ByteArray.size])
 .rw[i.2] at j;exact absurd j (by simp[Fo,ByteArray.size])
 .rw[i.2.1] at j;exact absurd j (by simp[Fo,ByteArray.size])
 .have:=i.2.2.1;omega
theorem Ou{b:Nat}{ks:SKs}{t:Tab (List Attr)}{pl fr:Value}(h:Vp F C W b ks t pl fr c){id:Int}{p:Ent (List Attr)}(hp:t.ask [] id=some p):p.set.length<=64:=by
 by_cases h0:id=0
 .unfold Tab.ask at hp;rw[Io h0] at hp;cases hp;simp
 .obtain⟨i,_,h1,j⟩:=Tab.Js hp h0;exact(LS (h.inv.ok i p h1 j)).1
theorem OZ{b:Nat}{ks:SKs}{t:Tab (List Attr)}{id:Int}(h:E8 F W b ks t)(J:t.places.length<=1099511627776)(h0:-9223372036854775808<=id)(h1:id<=9223372036854775807) :
  AB prog 51 [.pointer (some ⟨b,0,none⟩),.int .i64 id] (fun v' w'=>Grow W w'/\match t.ask [] id with
   |some p=>∃sv,v'=.tuple #[sv,.int .i64 0]/\IH W.heap.size w' sv p.set
   | none=>v'=.tuple #[.slice none 0 0,.int .i64 5]) W:=by
 apply eP;refine AA (MU h J h0 h1) ?_;rintro v1 V ⟨E,hm⟩;cases ha:t.ask [] id with
 |none=>
  rw[ha] at hm;subst hm;refine BV ?_;refine BS (vs:=[.slice none 0 0,.int .i64 0]) rfl rfl (fun u hu=>by simp at hu;rcases hu with rfl|rfl<;>rfl) fun O w2 _ _ B i _=>?_;rw[Bm];exact AW (fun e=>by cases e) fun _=>⟨E.trans B,rfl⟩
 |some p=>
  rw[ha] at hm;obtain⟨sv,rfl,Q,j⟩:=hm;refine BV ?_;refine BS (vs:=[sv,.int .i64 p.held]) rfl rfl (fun u hu=>by simp at hu;rcases hu with rfl|rfl;exact Q;rfl) fun O w2 _ _ B i _=>?_;refine Qn ?_;rw[AG];refine AK (i 0 _ rfl) ?_;obtain⟨C,pl,fr,bm,S⟩:=h;have hl:=Ou S.core ha;refine AA (Fz (j.grow B (by decide) fun _ _ h=>h) (by omega)) ?_;rintro v3 X ⟨I,T⟩;have o:=E.trans B;exact⟨o.trans T,v3,rfl,I.base fun g U=>by have:=(AE.BA I g U).1;have:=o.size;omega⟩
theorem LO{b:Nat}{ks:SKs}{t:Tab (List Attr)}{pl fr:Value}{bm i n:Nat}{p:Ent (List Attr)}{K:World->Prop}{a:Addr}(h:L4 F C W b ks t pl fr bm)(hp:t.places[i]?=some p)(h0:0<p.held)(T:0<n)(B:pl=.slice (some a) t.places.length c)
 (Y:∀W',L4 F C W' b ks (t.ID i ⟨p.set,n⟩) pl fr bm->Mod F W W'->K W'):BC (.pointer (some (a.add (i*2+1)))) (.int .i64 n) K W:=by
 have hi:=(Bp.1 hp).1;have O:=(Bp.1 hp).2;have E:=h.core.GR;rw[B] at E;have I:pl.ownBlock=some a.block:=by rw[B];rfl
 obtain ⟨U,Z,V,f4⟩:=h.core.pF _ I;have J:Mod (fun x=>x=a.block) W (W.setCell (a.add (i * 2+1)) (.int .i64 n)):=Mod.setCell _ _ _ (by rw [BO]);have hC:∀ x,x < W.heap.size->C x->¬ x=a.block:=fun x _ o e=>Z (e ▸ o);obtain ⟨⟨u,hu⟩,hf,ho,hm⟩:=AE.store (R':=Gv C) (u:=.int .i64 n) (x':=⟨p.set,n⟩) (j:=1) E hi (by decide) rfl (fun r y _ hr=>hr.mod J hC) (fun r hr=>by
  obtain ⟨s,rfl,X⟩:=hr;refine ⟨s,rfl,?_⟩;rw [O] at X;exact X.mod J hC (by decide) fun _ _ h=>h)
 refine Kf rfl rfl hu hf (Y _ ?_ (hm.mono fun x _ e=>by rw[e];exact U));obtain⟨f,Q,S⟩:=h.core.map;refine⟨fun j v hv=>hm.cell (h.cells j v hv) (fun e=>V e.symm),fun j hj=>(h.live j hj).mod hm (fun e=>V e.symm),?_⟩;exact⟨h.core.JS.mod hm fun x _ o e=>(h.core.sf x o).1 (e▸U),by rw[B];exact ho,AE.mod h.core.KE hm (fun g hg e=>(h.core.fF g hg).2.2.2.2 (by rw[I,e])) fun _ _ _ h=>h,⟨f,Q.mod hm (fun e=>f4 e.symm),S.ID hp h0 T⟩,h.core.inv.ID hp h0 T,h.core.fb,h.core.fm,h.core.pF,h.core.fF,fun x o=>⟨(h.core.cf x o).1,WL (h.core.cf x o).2 hm.size⟩,fun x o=>⟨(h.core.sf x o).1,WL (h.core.sf x o).2 hm.size⟩⟩
theorem IE{b:Nat}{ks:SKs}{t:Tab (List Attr)}{pl fr:Value}{bm n:Nat}{K:World->Prop}(h:L4 F C W b ks t pl fr bm)
 (o:∀W',L4 F C W' b ks { t with empty:=n } pl fr bm->Mod F W W'->K W'):BC (.pointer (some ⟨b,4,none⟩)) (.int .i64 n) K W:=by
 refine Fm h.cells (fun j i=>h.live j i) (q:=4) (show 4<5 by decide) rfl rfl fun W' hm hc hl=>?_;refine o W' ⟨hc,fun j i=>hl j i,?_⟩ (hm.mono fun x _ e=>by rw[e];exact h.core.fb.1);have:=h.core.mod hm fun x _ B=>B;exact⟨this.JS,this.GR,this.KE,this.map,⟨this.inv.Qm,this.inv.UT,this.inv.Ho,this.inv.ok⟩,this.fb,this.fm,this.pF,this.fF,this.cf,this.sf⟩
theorem U1{b:Nat}{ks:SKs}{t:Tab (List Attr)}{id:Int}(h:E8 F W b ks t)(Q:t.Small 1099511627776)(h0:-9223372036854775808<=id)(h1:id<=9223372036854775807) :
  AB prog 152 [.pointer (some ⟨b,0,none⟩),.int .i64 id] (fun v' w'=>v'=.int .i64 (if(t.ask [] id).isSome then 0 else 5)/\Ja F W w' b ks (t.hold [] id)) W:=by
 apply Zu;refine AA (MU h Q.pl h0 h1) ?_;rintro v1 w1 ⟨Z,hm⟩;unfold Tab.hold;cases ha:t.ask [] id with
 |none=>
  rw[ha] at hm;subst hm;refine BV ?_;refine BS (vs:=[.slice none 0 0,.int .i64 0]) rfl rfl (fun u hu=>by simp at hu;rcases hu with rfl|rfl<;>rfl) fun b5 w2 _ _ S T _=>?_;rw[Bm];have j:=Z.trans S;exact AW (fun e=>by cases e) fun _=>⟨rfl,.same (h.grow j) (j.mono fun _ _ h=>h.elim)⟩
 |some p=>
  rw[ha] at hm;obtain⟨sv,rfl,ho,a1⟩:=hm;refine BV ?_;refine BS (vs:=[sv,.int .i64 p.held]) rfl rfl (fun u hu=>by simp at hu;rcases hu with rfl|rfl;exact ho;rfl) fun b5 w2 _ _ S T _=>?_;have j:=Z.trans S;obtain⟨C,pl,fr,bm,hR⟩:=h;have o:=hR.mod j fun _ _ h=>h;refine Qn ?_;rw[Al];refine AF (fun O=>?_) fun O=>?_
  .refine AI ?_;refine Bt (o.cells 4 _ rfl) ?_;have:=Q.em;rw[AR,wrap64 (by omega) (by omega)];refine AI ?_;rw[AG,AH];have U:((t.empty:Int)+1)=((t.empty+1:Nat):Int):=by omega
   rw[U];refine IE o fun W' B E=>⟨rfl,?_⟩;dsimp only;rw[Io O];exact .same ⟨C,pl,fr,bm,B⟩ ((j.mono fun _ _ h=>h.elim).trans E)
  .obtain⟨i,rfl,hp,V⟩:=Tab.Js ha O;have hi:=(Bp.1 hp).1;have X:=(Bp.1 hp).2;refine AI ?_;refine Bt (o.cells 1 _ rfl) ?_;obtain⟨pa,pc,I,_⟩:=o.core.GR.sl.shape;have J:=o.core.GR.sl;rw[I] at J;rw[Av,wrap64 (by omega) (by omega),show((i:Int)+1-1)=(i:Int) by omega,I];obtain⟨q,r,rfl,_,hr,hc,Y⟩:=J.get hi;obtain⟨si,rfl,a6⟩:=Y;refine AU hi ?_;rw[AG,Addr.add_add];refine AK (hc 1 _ rfl) ?_;have a7:=Q.he t.places[i] (gC hi);rw[AR,wrap64 (by omega) (by omega)];refine AU hi ?_;rw[AG,Addr.add_add];have U:((t.places[i].held:Int)+1)=((p.held+1:Nat):Int):=by rw[X];omega
   rw[U];refine LO o hp V (n:=p.held+1) (by omega) I fun W' B E=>⟨rfl,?_⟩;dsimp only;rw[C3 O,lI];exact .same ⟨C,pl,fr,bm,B⟩ ((j.mono fun _ _ h=>h.elim).trans E)
structure ED (F C:Nat->Prop) (W:World) (b:Nat) (ks:SKs) (places:List (Ent (List Attr))) (free:List Nat) (em:Nat) (f:Value->Option Value) (pl fr:Value) (bm:Nat):Prop where
 cells:∀j v,(UI ks.sv pl fr bm em)[j]?=some v->W.cell? ⟨b,j,none⟩=some v
 live:∀j,j<5->Live W ⟨b,j,none⟩
 JS:De ks.S W ks.sv ks.ks
 GR:AE 0 RZ 2 (Gv C) W pl places
 KE:AE 0 3 1 MH W fr (free.map fun i:Nat=>(i:Int))
 map:IG .string W bm f
 fb:F b/\¬C b
 fm:F bm/\¬C bm/\bm≠b
 pF:∀g,pl.ownBlock=some g->F g/\¬C g/\g≠b/\g≠bm
 fF:∀g,fr.ownBlock=some g->F g/\¬C g/\g≠b/\g≠bm/\pl.ownBlock≠some g
 cf:∀x,C x->F x/\x<W.heap.size
 sf:∀x,ks.S x->¬F x/\x<W.heap.size
section
variable {F C M:Nat->Prop}{W W':World}{b:Nat}{ks:SKs}{t:Tab (List Attr)}{places:List (Ent (List Attr))}{free:List Nat}{em:Nat}{f:Value->Option Value}{pl fr:Value}{bm:Nat}
theorem L4.m(h:L4 F C W b ks t pl fr bm):∃f,ED F C W b ks t.places t.free t.empty f pl fr bm/\Eb t f:=by
 obtain⟨f,i,hi⟩:=h.core.map;exact⟨f,⟨h.cells,h.live,h.core.JS,h.core.GR,h.core.KE,i,h.core.fb,h.core.fm,h.core.pF,h.core.fF,h.core.cf,h.core.sf⟩,hi⟩
theorem ED.r(h:ED F C W b ks t.places t.free t.empty f pl fr bm)(hi:Eb t f)(i:t.Inv (GY ks.ks)):L4 F C W b ks t pl fr bm:=
 ⟨h.cells,h.live,h.JS,h.GR,h.KE,⟨f,h.map,hi⟩,i,h.fb,h.fm,h.pF,h.fF,h.cf,h.sf⟩
theorem ED.mod(h:ED F C W b ks places free em f pl fr bm)(hm:Mod M W W')(o:∀x,F x\/ks.S x->¬M x):ED F C W' b ks places free em f pl fr bm:=by
 have hC:∀ x,x < W.heap.size->C x->¬ M x:=fun x _ i=>o x (.inl (h.cf x i).1);exact ⟨fun j v E=>hm.cell (h.cells j v E) (o b (.inl h.fb.1)),fun j I=>(h.live j I).mod hm (o b (.inl h.fb.1)),h.JS.mod hm fun x _ i=>o x (.inr i),AE.mod h.GR hm (fun g B=>o g (.inl (h.pF g B).1)) fun r x _ i=>i.mod hm hC,AE.mod h.KE hm (fun g B=>o g (.inl (h.fF g B).1)) fun _ _ _ h=>h,
  h.map.mod hm (o bm (.inl h.fm.1)),h.fb,h.fm,h.pF,h.fF,fun x i=>⟨(h.cf x i).1,WL (h.cf x i).2 hm.size⟩,fun x i=>⟨(h.sf x i).1,WL (h.sf x i).2 hm.size⟩⟩
theorem ED.Vq{B:Value->Option Value}(h:ED F C W b ks places free em f pl fr bm)(hm:Mod (fun x=>x=bm) W W')(E:IG .string W' bm B):ED F C W' b ks places free em B pl fr bm:=by
 have hC:∀ x,x < W.heap.size->C x->¬ x=bm:=fun x _ i e=>h.fm.2.1 (e ▸ i);have hb:¬ b=bm:=fun e=>h.fm.2.2 e.symm;exact ⟨fun j v I=>hm.cell (h.cells j v I) hb,fun j J=>(h.live j J).mod hm hb,h.JS.mod hm fun x _ i e=>(h.sf x i).1 (e ▸ h.fm.1),AE.mod h.GR hm (fun g o=>(h.pF g o).2.2.2) fun r x _ i=>i.mod hm hC,AE.mod h.KE hm (fun g o=>(h.fF g o).2.2.2.1) fun _ _ _ h=>h,
  E,h.fb,h.fm,h.pF,h.fF,fun x i=>⟨(h.cf x i).1,WL (h.cf x i).2 hm.size⟩,fun x i=>⟨(h.sf x i).1,WL (h.sf x i).2 hm.size⟩⟩
theorem ED.JB{i:List (Ent (List Attr))}{g:Nat}(h:ED F C W b ks places free em f pl fr bm)(E:pl.ownBlock=some g)(hm:Mod (fun x=>x=g) W W')(hp:AE 0 RZ 2 (Gv C) W' pl i):ED F C W' b ks i free em f pl fr bm:=by
 obtain ⟨J,O,I,Q⟩:=h.pF g E;have hC:∀ x,x < W.heap.size->C x->¬ x=g:=fun x _ o e=>O (e ▸ o);exact ⟨fun j v S=>hm.cell (h.cells j v S) (fun e=>I e.symm),fun j T=>(h.live j T).mod hm (fun e=>I e.symm),h.JS.mod hm (fun x _ o e=>(h.sf x o).1 (e ▸ J)),hp,AE.mod h.KE hm (fun g' B e=>(h.fF g' B).2.2.2.2 (by rw [E,e])) fun _ _ _ h=>h,
  h.map.mod hm (fun e=>Q e.symm),h.fb,h.fm,h.pF,h.fF,fun x o=>⟨(h.cf x o).1,WL (h.cf x o).2 hm.size⟩,fun x o=>⟨(h.sf x o).1,WL (h.sf x o).2 hm.size⟩⟩
theorem ED.bJ{F':Nat->Prop}{E:Value}{free':List Nat}{K:World->Prop}{Mf:Nat->Prop}(h:ED F C W b ks places free em f pl fr bm)(hm:Mod Mf W W')(T:∀x,Mf x->fr.ownBlock=some x)(O:∀x,F x->F' x)(U:∀x,F' x->F x\/W.heap.size<=x)
 (ho:AE 0 3 1 MH W' E (free'.map fun i:Nat=>(i:Int)))(hn:∀g,E.ownBlock=some g->fr.ownBlock=some g\/W.heap.size<=g/\F' g)(Q:E.oneCell'=true)(V:E.cells=#[E])
 (hK:∀I,ED F' C I b ks places free' em f pl E bm->Mod (fun x=>x=b) W' I->K I):BC (.pointer (some ⟨b,2,none⟩)) E K W':=by
 have hb:∀ x,Mf x->F x/\¬ C x/\x≠b/\x≠bm/\pl.ownBlock≠some x:=fun x o=>h.fF x (T x o);have hC:∀ x,x < W.heap.size->C x->¬ Mf x:=fun x _ o e=>(hb x e).2.1 o;refine Fm (vs:=UI ks.sv pl fr bm em) (fun j v hv=>hm.cell (h.cells j v hv) fun e=>(hb b e).2.2.1 rfl) (fun j X=>(h.live j X).mod hm fun e=>(hb b e).2.2.1 rfl) (q:=2) (show 2 < 5 by decide) Q V fun I B hc hl=>?_;have S:=kT W _ (h.cells 4 _ rfl);have Y:∀ x,x < W'.heap.size->C x->¬ x=b:=fun x _ o e=>h.fb.2 (e ▸ o);have Z:=AE.BA h.GR;have a1:=h.map.lt;refine hK I ⟨hc,fun j X=>hl j X,(h.JS.mod hm fun x _ o e=>(h.sf x o).1 (hb x e).1).mod B (fun x _ o e=>(h.sf x o).1 (e ▸ h.fb.1)),AE.mod (AE.mod (R':=Gv C) h.GR hm (fun g J e=>(hb g e).2.2.2.2 J) fun r x _ o=>o.mod hm hC) B (fun g J=>(h.pF g J).2.2.1) fun r x _ o=>o.mod B Y,AE.mod ho B (fun g J e=>?_) fun _ _ _ h=>h,
  (h.map.mod hm fun e=>(hb bm e).2.2.2.1 rfl).mod B h.fm.2.2,⟨O _ h.fb.1,h.fb.2⟩,⟨O _ h.fm.1,h.fm.2⟩,fun g J=>⟨O _ (h.pF g J).1,(h.pF g J).2⟩,fun g J=>?_,fun x o=>⟨O _ (h.cf x o).1,WL (h.cf x o).2 (k8 hm.size B.size)⟩,fun x o=>⟨fun e=>(U x e).elim (h.sf x o).1 fun e=>by have:=(h.sf x o).2;omega,WL (h.sf x o).2 (k8 hm.size B.size)⟩⟩ B
 .subst e;rcases hn g J with e|⟨e,_⟩
  .exact(h.fF g e).2.2.1 rfl
  .have:g<W.heap.size:=S;omega
 .rcases hn g J with e|⟨e,e'⟩
  .have:=h.fF g e;exact⟨O _ this.1,this.2⟩
  .refine⟨e',fun hc=>by have:=(h.cf g hc).2;omega,fun e2=>?_,fun e2=>by omega,fun e2=>by have:=(Z g e2).2;omega⟩;have:b<W.heap.size:=S;omega
end
theorem Xh{a:Addr}{n c i:Nat}{l:List (Ent (List Attr))}{K:World->Prop}(h:AE 0 RZ 2 (Gv C) W (.slice (some a) n c) l)(hi:i<l.length)(hC:∀x,x<W.heap.size->C x->¬x=a.block)
 (X:∀W',AE 0 RZ 2 (Gv C) W' (.slice (some a) n c) (l.set i ⟨[],0⟩)->Mod (fun x=>x=a.block) W W'->K W'):Ac 2 (.pointer (some (a.add (i*2)))) (.agg #[.slice none 0 0,.int .i64 0]) K W:=by
 have B:Mod (fun x=>x=a.block) W (W.setCell (a.add (i * 2+0)) (.slice none 0 0)):=Mod.setCell _ _ _ (by rw [BO]);obtain ⟨⟨Z,J⟩,O,Q,_⟩:=AE.store (R':=Gv C) (u:=.slice none 0 0) (x':=⟨[],l[i].held⟩) (j:=0) h hi (by decide) rfl (fun r y _ hr=>hr.mod B hC) (fun r hr=>by
  obtain ⟨s,rfl,S⟩:=hr;exact ⟨_,rfl,BB.nil⟩)
 have T:i<(l.set i ⟨[],l[i].held⟩).length:=by rw[kC];exact hi
 have o:Mod (fun x=>x=a.block) (W.setCell (a.add (i * 2+0)) (.slice none 0 0)) ((W.setCell (a.add (i * 2+0)) (.slice none 0 0)).setCell (a.add (i * 2+1)) (.int .i64 0)):=Mod.setCell _ _ _ (by rw [BO]);have E:∀ x,x < (W.setCell (a.add (i * 2+0)) (.slice none 0 0)).heap.size->C x->¬ x=a.block:=fun x Y hc=>hC x (by simpa using Y) hc;obtain ⟨_,_,I,_⟩:=AE.store (R':=Gv C) (u:=.int .i64 0) (x':=⟨[],0⟩) (j:=1) Q T (by decide) rfl (fun r y _ hr=>hr.mod o E) (fun r hr=>by
  obtain⟨s,rfl,S⟩:=hr;refine⟨s,rfl,?_⟩;have e:(l.set i ⟨[],l[i].held⟩)[i].set=[]:=by rw[mw]
  rw [e] at S;exact S.mod o E (by decide) fun _ _ h=>h)
 rw[ql] at I;obtain⟨⟨u2,U⟩,V,_,_⟩:=AE.store (R':=fun _ _ (_:Ent (List Attr))=>True) (u:=.int .i64 0) (x':=⟨[],0⟩) (j:=1) h hi (by decide) rfl (fun _ _ _ _=>trivial) (fun _ _=>trivial);refine⟨_,[.slice none 0 0,.int .i64 0],rfl,rfl,rfl,fun u hu=>by simp at hu;rcases hu with rfl|rfl<;>rfl,fun j hj=>?_,X _ ?_ ?_⟩
 .rcases(show j=0\/j=1 by omega) with rfl|rfl
  .rw[Addr.add_add];exact⟨by rw[J];rfl,O⟩
  .rw[Addr.add_add];exact⟨by rw[U];rfl,V⟩
 .simp only[EW,Addr.add_add];exact I
 .simp only[EW,Addr.add_add];exact B.trans o
theorem VU{b:Nat}{ks:SKs}{t:Tab (List Attr)}{id:Int}(h:E8 F W b ks t)(hs:t.Small 1099511627)(h0:-9223372036854775808<=id)(h1:id<=9223372036854775807) :
  AB prog 79 [.pointer (some ⟨b,0,none⟩),.int .i64 id] (fun v' w'=>v'=.int .i64 (if(t.ask [] id).isSome then 0 else 5)/\Ja F W w' b ks (t.release [] id)) W:=by
 apply dQ;have c6:=hs.pl;refine AA (MU h (by omega) h0 h1) ?_;rintro v1 w1 ⟨g1,hm⟩;unfold Tab.release;cases ha:t.ask [] id with
 |none=>
  rw[ha] at hm;subst hm;refine BV ?_;refine BS (vs:=[.slice none 0 0,.int .i64 0]) rfl rfl (fun u hu=>by simp at hu;rcases hu with rfl|rfl<;>rfl) fun b5 w2 _ _ g2 Y _=>?_;rw[Bm];have B:=g1.trans g2;exact AW (fun e=>by cases e) fun _=>⟨rfl,.same (h.grow B) (B.mono fun _ _ h=>h.elim)⟩
 |some p=>
  rw[ha] at hm;obtain⟨si,rfl,ho,ay⟩:=hm;refine BV ?_;refine BS (vs:=[si,.int .i64 p.held]) rfl rfl (fun u hu=>by simp at hu;rcases hu with rfl|rfl;exact ho;rfl) fun b5 w2 _ _ g2 Y _=>?_;have B:=g1.trans g2;obtain⟨C,pl,fr,bm,hR⟩:=h;have o:=hR.mod B fun _ _ h=>h;have Z:=ay.grow g2 (by decide) fun _ _ h=>h;refine Qn ?_;rw[Al];refine AF (fun hz=>?_) fun hz=>?_
  .refine AI ?_;refine Bt (o.cells 4 _ rfl) ?_;have:=hs.em;rw[Av,G1,wrap64 (by omega) (by omega)];refine AI ?_;rw[AG,AH];have en:(if(0:Int)>(t.empty:Int)-1 then(0:Int) else(t.empty:Int)-1)=((t.empty-1:Nat):Int):=by split<;>omega
   rw[en];refine IE o fun W' a1 a6=>⟨rfl,?_⟩;dsimp only;rw[Io hz];exact .same ⟨C,pl,fr,bm,a1⟩ ((B.mono fun _ _ h=>h.elim).trans a6)
  .obtain⟨i,rfl,hp,U⟩:=Tab.Js ha hz;have hi:=(Bp.1 hp).1;have bb:=(Bp.1 hp).2;have c7:=hs.he t.places[i] (gC hi);obtain⟨pa,pc,E,_⟩:=o.core.GR.sl.shape;rw[AG];refine AK (Y 1 _ rfl) ?_;rw[Al];refine AF (fun X=>?_) fun X=>?_
   .have a7:p.held=1:=by omega
    have I:=hR.core.inv.ok i p hp U;obtain⟨bc,bd⟩:=LS I;refine Ai (fun k y=>k=7/\y=bm) ?_;have gd:Grow w2 w2.drew:=Mod.drew _ _;refine AI ?_;rw[AG,AH];refine AY ⟨gd.cell (o.cells 3 _ rfl) fun h=>h,fun j hj e=>by obtain⟨rfl,_⟩:=e;exact absurd hj (by decide)⟩ ?_;rw[AG];refine AY ⟨gd.cell (Y 0 _ rfl) fun h=>h,fun j hj e=>by obtain⟨rfl,_⟩:=e;exact absurd hj (by decide)⟩ ?_;refine AA (Pg (Z.grow gd (by decide) fun _ _ h=>h) I.2.1 bd bc) ?_;rintro _ w4 ⟨rfl,g4⟩;refine⟨g4.mono fun _ _ h=>h.elim,?_⟩;have b0:=gd.trans g4;have b3:=B.trans b0;have b4:=o.mod b0 fun _ _ h=>h;have J:=b4.core.inv;obtain⟨f,a8,b6⟩:=b4.m;obtain⟨w5,b7,ak,V⟩:=Qj (P:=prog) (ty:=0) (t:=143) (kt:=9) underlying143 underlying9 (Rh (Ei p.set)) a8.map;refine Ag b7 ⟨V.mono fun x _ e=>⟨rfl,e⟩,?_⟩;have O:=a8.Vq V ak;refine AI ?_;refine Bt (O.cells 1 _ rfl) ?_;rw[Av,wrap64 (by omega) (by omega),show((i:Int)+1-1)=(i:Int) by omega];refine⟨#[.slice none 0 0,.int .i64 0],by kernel_rfl,?_⟩;have Q:=O.GR;rw[E] at Q ⊢;obtain⟨q,r,rfl,hq,_,_,_⟩:=Q.sl.get hi;refine AU hi ?_;have al:pl.ownBlock=some q.block:=by rw[E];exact hq.2
    have bk:∀x,x<w5.heap.size->C x->¬x=q.block:=fun x _ hx e=>(O.pF _ al).2.1 (e▸hx);refine Xh Q hi bk fun w6 bl an=>?_;have S:=O.JB al an (by rw[E];exact bl);refine AI ?_;refine Bt (S.cells 2 _ rfl) ?_;have c8:=Tab.O3 J;rw[Av,wrap64 (by omega) (by omega),show((i:Int)+1-1)=(i:Int) by omega];refine Dr PO S.KE (Nn _) (cs:=[.int .i64 i]) (x:=(i:Int)) (by kernel_rfl) rfl rfl (fun _ _ _=>MH.one) (fun _ _ _ _ _ _ h=>h) (by rw[Es];omega) (by rw[Es];simp only[maxLen];omega) fun bn w7 T av bp=>?_;refine AI ?_;rw[AG,AH];have ax:(t.free.map fun i:Nat=>(i:Int))++[(i:Int)]=(t.free++[i]).map fun i:Nat=>(i:Int):=by simp
    rw [ax] at T;have s7:=av.size;have b8:=AE.BA T;refine ED.bJ (F':=fun x=>F x\/w6.heap.size<=x/\x < w7.heap.size) S av (fun _ h=>h) (fun _ h=>.inl h) (fun _ h=>h.imp id qf) T (fun g hg=>by
     rcases bp g hg with e|e
     .exact .inl e
     .exact .inr ⟨e,.inr ⟨e,(b8 g hg).2⟩⟩) T.one.1 T.one.2 fun w8 bs b9=>⟨rfl,?_⟩
    dsimp only;rw[C3 hz,Io a7,lI];have z4:=b3.size;have z5:=V.size;have z6:=an.size;have z8:=b9.size;refine⟨_,fun x hx=>?_,⟨C,pl,bn,bm,ED.r (t:=t.drop [] i) bs (b6.drop J hp U) (Tab.VS J hp U [])⟩,?_⟩
    .rcases hx with hx|hx
     .exact .inl hx
     .exact .inr ⟨by omega,by omega⟩
    .refine(((((b3.mono fun _ _ h=>h.elim).trans (V.mono fun x _ e=>by rw[e];exact a8.fm.1)).trans (an.mono fun x _ e=>by rw[e];exact(O.pF _ al).1)).trans (av.mono fun x _ e=>(S.fF x e).1)).trans (b9.mono fun x _ e=>by rw[e];exact S.fb.1))
   .refine AI ?_;refine Bt (o.cells 1 _ rfl) ?_;have ba:=o.core.GR.sl;rw[E] at ba;rw[Av,wrap64 (by omega) (by omega),show((i:Int)+1-1)=(i:Int) by omega,E];obtain⟨q,r,rfl,_,hr,hc,bx⟩:=ba.get hi;obtain⟨s2,rfl,c9⟩:=bx;refine AU hi ?_;rw[AG,Addr.add_add];refine AK (hc 1 _ rfl) ?_;rw[Av,wrap64 (by omega) (by omega)];refine AU hi ?_;rw[AG,Addr.add_add];have c4:p.held≠1:=fun e=>X (by rw[e];rfl);have en:((t.places[i].held:Int)-1)=((p.held-1:Nat):Int):=by rw[bb];omega
    rw[en];refine LO o hp U (n:=p.held-1) (by omega) E fun W' a1 a6=>⟨rfl,?_⟩;dsimp only;rw[C3 hz,C3 c4,lI];exact .same ⟨C,pl,fr,bm,a1⟩ ((B.mono fun _ _ h=>h.elim).trans a6)
theorem U8:DU prog 144 RZ 2 32:=⟨Tryz.t181,.agg #[.slice none 0 0,.int .i64 0],by kernel_rfl,by kernel_rfl,by kernel_rfl,by kernel_rfl,by kernel_rfl,by rfl,by decide⟩
section
variable {F C M:Nat->Prop}{W W':World}{b:Nat}{ks:SKs}{t:Tab (List Attr)}{places:List (Ent (List Attr))}{free:List Nat}{em:Nat}{f:Value->Option Value}{pl fr:Value}{bm:Nat}
theorem ED.gQ{F':Nat->Prop}{E:Value}{o:List (Ent (List Attr))}{K:World->Prop}(h:ED F C W b ks places free em f pl fr bm)(hm:Mod (fun x=>pl.ownBlock=some x) W W')(O:∀x,F x->F' x)(S:∀x,F' x->F x\/W.heap.size<=x)
 (Z:AE 0 RZ 2 (Gv C) W' E o)(T:∀g,E.ownBlock=some g->pl.ownBlock=some g\/W.heap.size<=g/\F' g)(Q:E.oneCell'=true)(U:E.cells=#[E])
 (hK:∀J,ED F' C J b ks o free em f E fr bm->Mod (fun x=>x=b) W' J->K J):BC (.pointer (some ⟨b,1,none⟩)) E K W':=by
 have hb:∀ x,pl.ownBlock=some x->F x/\¬ C x/\x≠b/\x≠bm:=fun x i=>h.pF x i;have hC:∀ x,x < W.heap.size->C x->¬ pl.ownBlock=some x:=fun x _ i e=>(hb x e).2.1 i;refine Fm (vs:=UI ks.sv pl fr bm em) (fun j v hv=>hm.cell (h.cells j v hv) fun e=>(hb b e).2.2.1 rfl) (fun j V=>(h.live j V).mod hm fun e=>(hb b e).2.2.1 rfl) (q:=1) (show 1 < 5 by decide) Q U fun J B hc hl=>?_;have a1:b < W.heap.size:=kT W _ (h.cells 4 _ rfl);have X:∀ x,x < W'.heap.size->C x->¬ x=b:=fun x _ i e=>h.fb.2 (e ▸ i);have Y:=AE.BA h.KE;have a6:=h.map.lt;refine hK J ⟨hc,fun j V=>hl j V,(h.JS.mod hm fun x _ i e=>(h.sf x i).1 (hb x e).1).mod B (fun x _ i e=>(h.sf x i).1 (e ▸ h.fb.1)),AE.mod Z B (fun g I e=>?_) fun r x _ i=>i.mod B X,AE.mod (AE.mod (R':=MH) h.KE hm (fun g I e=>(h.fF g I).2.2.2.2 e) fun _ _ _ h=>h) B (fun g I=>(h.fF g I).2.2.1) fun _ _ _ h=>h,
  (h.map.mod hm fun e=>(hb bm e).2.2.2 rfl).mod B h.fm.2.2,⟨O _ h.fb.1,h.fb.2⟩,⟨O _ h.fm.1,h.fm.2⟩,fun g I=>?_,fun g I=>⟨O _ (h.fF g I).1,(h.fF g I).2.1,(h.fF g I).2.2.1,(h.fF g I).2.2.2.1,fun e=>?_⟩,fun x i=>⟨O _ (h.cf x i).1,WL (h.cf x i).2 (k8 hm.size B.size)⟩,fun x i=>⟨fun e=>(S x e).elim (h.sf x i).1 fun e=>by have:=(h.sf x i).2;omega,WL (h.sf x i).2 (k8 hm.size B.size)⟩⟩ B
 .subst e;rcases T g I with e|⟨e,_⟩
  .exact(h.pF g e).2.2.1 rfl
  .omega
 .rcases T g I with e|⟨e,e'⟩
  .have:=h.pF g e;exact⟨O _ this.1,this.2⟩
  .exact⟨e',fun hc=>by have:=(h.cf g hc).2;omega,fun e2=>by omega,fun e2=>by omega⟩
 .rcases T g e with e|⟨e,_⟩
  .exact(h.fF g I).2.2.2.2 e
  .have:=(Y g I).2;omega
theorem ED.Yc{K:World->Prop}{a:Addr}{c i n:Nat}{p:Ent (List Attr)}(h:ED F C W b ks places free em f pl fr bm)(hp:places[i]?=some p)(o:pl=.slice (some a) places.length c)
 (Q:∀W',ED F C W' b ks (places.set i ⟨p.set,n⟩) free em f pl fr bm->Mod F W W'->K W'):BC (.pointer (some (a.add (i*2+1)))) (.int .i64 n) K W:=by
 have hi:=(Bp.1 hp).1;have J:=(Bp.1 hp).2;have B:=h.GR;rw[o] at B;have E:pl.ownBlock=some a.block:=by rw[o];rfl
 obtain ⟨S,T,Y,Z⟩:=h.pF _ E;have I:Mod (fun x=>x=a.block) W (W.setCell (a.add (i * 2+1)) (.int .i64 n)):=Mod.setCell _ _ _ (by rw [BO]);have hC:∀ x,x < W.heap.size->C x->¬ x=a.block:=fun x _ U e=>T (e ▸ U);obtain ⟨⟨u,hu⟩,V,X,hm⟩:=AE.store (R':=Gv C) (u:=.int .i64 n) (x':=⟨p.set,n⟩) (j:=1) B hi (by decide) rfl (fun r y _ hr=>hr.mod I hC) (fun r hr=>by
  obtain ⟨s,rfl,O⟩:=hr;refine ⟨s,rfl,?_⟩;rw [J] at O;exact O.mod I hC (by decide) fun _ _ h=>h)
 exact Kf rfl rfl hu V (Q _ (h.JB E hm (by rw[o];exact X)) (hm.mono fun x _ e=>by rw[e];exact S))
theorem ED.eO{K:World->Prop}{a:Addr}{p:Ent (List Attr)}{E:Value}{s:List Attr}(h:ED F C W b ks places free em f pl fr bm)(hp:places[i]?=some p)(O:pl=.slice (some a) places.length c)(Z:∀x,F x\/ks.S x->x<B)(U:IH B W E s)
 (hK:∀W',ED (fun x=>F x\/E.ownBlock=some x) (fun x=>C x\/E.ownBlock=some x) W' b ks (places.set i ⟨s,p.held⟩) free em f pl fr bm->Mod (fun x=>x=a.block) W W'->K W'):BC (.pointer (some (a.add (i*2+0)))) E K W:=by
 have hi:=(Bp.1 hp).1;have Y:=(Bp.1 hp).2;have Q:pl.ownBlock=some a.block:=by rw[O];rfl
 obtain⟨f1,f2,f3,f4⟩:=h.pF _ Q;have I:=AE.BA U;have nF:∀x,E.ownBlock=some x->¬F x:=fun x o hF=>by have:=(I x o).1;have:=Z x (.inl hF);omega
 have T:ED (fun x=>F x\/E.ownBlock=some x) (fun x=>C x\/E.ownBlock=some x) W b ks places free em f pl fr bm:=
  ⟨h.cells,h.live,h.JS,AE.mod h.GR (Mod.refl (fun _=>False) _) (fun _ _ h=>h) fun r x _ o=>o.sub fun _ _ h=>.inl h,h.KE,h.map,⟨.inl h.fb.1,fun e=>e.elim h.fb.2 fun e=>nF _ e h.fb.1⟩,⟨.inl h.fm.1,fun e=>e.elim h.fm.2.1 fun e=>nF _ e h.fm.1,h.fm.2.2⟩,
   fun g J=>⟨.inl (h.pF g J).1,fun e=>e.elim (h.pF g J).2.1 fun e=>nF _ e (h.pF g J).1,(h.pF g J).2.2⟩,fun g J=>⟨.inl (h.fF g J).1,fun e=>e.elim (h.fF g J).2.1 fun e=>nF _ e (h.fF g J).1,(h.fF g J).2.2⟩,fun x o=>o.elim (fun o=>⟨.inl (h.cf x o).1,(h.cf x o).2⟩) fun o=>⟨.inr o,(I x o).2⟩,fun x o=>⟨fun e=>e.elim (h.sf x o).1 fun e=>by have:=(I x e).1;have:=Z x (.inr o);omega,(h.sf x o).2⟩⟩
 have V:=T.GR;rw [O] at V;have X:Mod (fun x=>x=a.block) W (W.setCell (a.add (i * 2+0)) E):=Mod.setCell _ _ _ (by rw [BO]);have hC:∀ x,x < W.heap.size->(C x\/E.ownBlock=some x)->¬ x=a.block:=fun x _ o e=>(T.pF _ Q).2.1 (e ▸ o);obtain ⟨⟨u,hu⟩,hf,ho,hm⟩:=AE.store (R':=Gv (fun x=>C x\/E.ownBlock=some x)) (u:=E) (x':=⟨s,p.held⟩) (j:=0) V hi (by decide) U.one.1 (fun r y _ hr=>hr.mod X hC) (fun r hr=>by
  obtain ⟨s',rfl,_⟩:=hr;refine ⟨E,by rw [Y];rfl,?_⟩;exact (AE.sl U).mod X (fun x _ o e=>hC x (I x o.2).2 (.inr o.2) e) (by decide) (fun _ _ h=>h) |>.sub (fun x _ o=>.inr o.2) (by decide) fun _ _ h=>h)
 exact Kf U.one.1 U.one.2 hu hf (hK _ (T.JB Q hm (by rw[O];exact ho)) hm)
end
theorem Ti{b:Nat}{ks:SKs}{t:Tab (List Attr)}{f:Value->Option Value}{pl fr:Value}(h:ED F C W b ks t.places t.free t.empty f pl fr c)(hi:t.Inv (GY ks.ks))(hs:t.Small 1099511627) :
  AB prog 144 [.pointer (some ⟨b,0,none⟩)] (fun v' w'=>∃ (i:Nat) (F':Nat->Prop) (o:List (Ent (List Attr))) (free':List Nat) (J a1:Value),v'=.int .i64 ((i:Int)+1)/\ED F' C w' b ks o free' t.empty f J a1 c/\Mod F W w'/\
   (∀ x,F' x->F x\/W.heap.size<=x/\x < w'.heap.size)/\((t.free.getLast?=some i/\o=t.places/\free'=t.free.dropLast)\/(t.free=[]/\i=t.places.length/\o=t.places++[⟨[],0⟩]/\free'=[]))) W:=by
 apply ZH;have av:=Tab.O3 hi;have an:=hs.pl;refine AI ?_;refine Bt (h.cells 2 _ rfl) ?_;obtain⟨fa,fc,B,O,_,a6,a7⟩:=h.KE.shape;rw[Es] at O;rw[B,AP,Av,Es,wrap64 (by omega) (by omega),DX];refine AF (fun ax=>?_) fun ay=>?_
 .have S:0<t.free.length:=by omega
  have Q:t.free≠[]:=lT.1 S;obtain⟨i,hl⟩:∃i,t.free.getLast?=some i:=⟨_,lj Q⟩;cases fa with
  |none=>have:=a7 rfl;rw[nL] at this;exact absurd this Q
  |some q=>
   obtain⟨g,rfl,_,_,b0⟩:=a6 q rfl;have T:=h.KE.sl;have E:=h.KE;rw[B,Es] at T E;refine AI ?_;refine Bt (h.cells 2 _ rfl) ?_;rw[B,Es];have hj:t.free.length-1<(t.free.map fun i:Nat=>(i:Int)).length:=by rw[Es];omega
   obtain⟨_,r,e1,_,hr,hc,rfl⟩:=T.get hj;cases e1;have ev:(t.free.map fun i:Nat=>(i:Int))[t.free.length-1]=(i:Int):=by
    rw[lV];rw[lj Q,p5] at hl;rw[kK hl]
   rw[ev] at hc;have en:((t.free.length:Int)-1)=((t.free.length-1:Nat):Int):=by omega
   rw[en];refine AU (show t.free.length-1<t.free.length by omega) (AK (hc 0 _ rfl) ?_);refine AI ?_;refine Bt (h.cells 2 _ rfl) ?_;rw[B,Es];refine Ag (Fj (e:=3) (k:=1) (i:=Tryz.t3) (by kernel_rfl) (by kernel_rfl) (by kernel_rfl) (by omega) W) ?_;refine AI ?_;rw[AG,AH];have ht:=AE.take E (j:=t.free.length-1) (by rw[Es];omega);have ed:(t.free.map fun i:Nat=>(i:Int)).take (t.free.length-1)=t.free.dropLast.map fun i:Nat=>(i:Int):=by rw[nh,lK]
   rw[ed] at ht;refine ED.bJ (F':=F) (free':=t.free.dropLast) (Mf:=fun _=>False) h (Mod.refl _ _) (fun _ h=>h.elim) (fun _ h=>h) (fun _ h=>.inl h) ht (fun g' a8=>.inl ?_) rfl rfl fun w' ak al=>?_
   .rw[B];exact a8
   rw[AR];obtain⟨p,hp,_⟩:=(hi.UT i).1 (mD hl);have:=(Bp.1 hp).1;rw[wrap64 (by omega) (by omega)];exact⟨i,F,t.places,t.free.dropLast,pl,_,rfl,ak,al.mono fun x _ e=>by rw[e];exact h.fb.1,fun x I=>.inl I,.inl ⟨hl,rfl,rfl⟩⟩
 .have U:t.free=[]:=QC (by omega);refine AI ?_;refine Bt (h.cells 1 _ rfl) ?_;refine⟨#[.slice none 0 0,.int .i64 0],by kernel_rfl,?_⟩;refine Dr U8 h.GR (Nn _) (cs:=[.slice none 0 0,.int .i64 0]) (x:=⟨[],0⟩) (by kernel_rfl) rfl ⟨_,rfl,BB.nil⟩ (fun _ _ _=>Gv.one) (fun w1 w2 r y b3 hm hr=>hr.mod hm fun x I hC e=>?_) (by omega) (by simp only[maxLen];omega) fun J w1 V hm hn=>?_
  .rcases e with e|e
   .exact(h.pF x e).2.1 hC
   .have:=(h.cf x hC).2;omega
  refine AI ?_;rw [AG,AH];have X:=AE.BA V;refine ED.gQ (F':=fun x=>F x\/W.heap.size<=x/\x < w1.heap.size) h hm (fun _ h=>.inl h) (fun _ h=>h.imp id qf) V (fun g hg=>by
   rcases hn g hg with e|e
   .exact .inl e
   .exact .inr ⟨e,.inr ⟨e,(X g hg).2⟩⟩) V.one.1 V.one.2 fun w2 Y Z=>?_
  refine AI ?_;refine Bt (Y.cells 1 _ rfl) ?_;obtain⟨a2,c2,e2,_⟩:=V.sl.shape;have z2:=Z.size;rw[e2,AP];refine⟨t.places.length,_,_,t.free,J,fr,by simp,Y,(hm.mono fun x _ e=>(h.pF x e).1).trans (Z.mono fun x _ e=>by rw[e];exact h.fb.1),fun x I=>?_,.inr ⟨U,rfl,rfl,U⟩⟩;rcases I with I|I
  .exact .inl I
  .exact .inr ⟨I.1,by omega⟩
def Tab.Ky{α:Type}(t:Tab α)(z s:α)(id:Int)(t':Tab α):Prop:=
 (s=z/\id=0/\t'={ t with empty:=t.empty+1 })\/(s≠z/\∃i n:Nat,t.places[i]?=some ⟨s,n⟩/\0<n/\id=(i:Int)+1/\t'=t.ID i ⟨s,n+1⟩)\/
  (s≠z/\(∀(i:Nat) (p:Ent α),t.places[i]?=some p->0<p.held->p.set≠s)/\id=((t.put s).1:Int)+1/\t'=(t.put s).2)
theorem SA{b:Nat}{ks:SKs}{t:Tab (List Attr)}{l:List Attr}(h:E8 F W b ks t)(hs:t.Small 1099511627)(hv:Cf S W v l)(hT:E2 W)(hI:∀a∈l,Mk a)(hF:∀x,F x->2+1<=x/\x<W.heap.size)(e3:∀x,S x->¬F x) :
  AB prog 74 [.pointer (some ⟨b,0,none⟩),v] (fun v' w'=>(Bl ks.ks l≠0/\v'=.tuple #[.int .i64 0,.int .i64 (Bl ks.ks l)]/\Grow W w')\/
   (Bl ks.ks l=0/\∃ id t',v'=.tuple #[.int .i64 id,.int .i64 0]/\t.Ky [] l id t'/\Ja F W w' b ks t')) W:=by
 apply dS;have c8:=hs.pl;have e4:∀a∈l,0<=a.val.f:=fun a ha=>(hI a ha).2.2.2.1.1;refine AA (MX h) ?_;rintro _ _ ⟨rfl,rfl⟩;rename World=>W
 obtain⟨C,pl,fr,bm,hR⟩:=h;rw[Ar];refine AV (AI ?_);refine Bt (hR.cells 0 _ rfl) ?_;refine AA (Sk hR.core.JS hv hT e4) ?_;rintro _ w3 ⟨rfl,g3⟩;rw[Bm];refine AW (fun a6=>?_) fun a6=>?_;rotate_left
 .exact .inl ⟨a6,rfl,g3⟩
 have b8:=hR.mod g3 fun _ _ h=>h;have e5:=hv.grow g3 (by decide) fun _ _ h=>h;obtain⟨va,vc,rfl,_⟩:=hv.shape;rw[AP,Al];refine AF (fun hz=>?_) fun hz=>?_
 .have hl:l=[]:=QC (by omega);refine AI ?_;refine Bt (b8.cells 4 _ rfl) ?_;have:=hs.em;rw[AR,wrap64 (by omega) (by omega)];refine AI ?_;rw[AG,AH];have en:((t.empty:Int)+1)=((t.empty+1:Nat):Int):=by omega
  rw[en];refine IE b8 fun W' e6 b0=>.inr ⟨a6,0,_,rfl,.inl ⟨hl,rfl,rfl⟩,?_⟩;exact .same ⟨C,pl,fr,bm,e6⟩ ((g3.mono fun _ _ h=>h.elim).trans b0)
 have hl:l≠[]:=fun e=>hz (by rw [e];rfl);have T:GY ks.ks l:=⟨hl,hI,a6⟩;obtain ⟨e7,e8⟩:=LS T;refine AA (Pg e5 hI e8 e7) ?_;rintro _ w6 ⟨rfl,g6⟩;have b3:=g3.trans g6;have c9:=b8.mod g6 fun _ _ h=>h;have J:=c9.core.inv;obtain ⟨f,Z,X⟩:=c9.m;refine AI ?_;refine Bt (Z.cells 3 _ rfl) ?_;refine Ag (QO (P:=prog) (t:=143) (kt:=9) (et:=3) (z:=.int .i64 0) underlying143 underlying9 (Rh (Ei l)) (EL (by kernel_rfl) w6) Z.map) ?_;refine BV ?_;refine AT (fun vs w9=>∃ (i n:Nat) (F9 C9:Nat->Prop) (o:List (Ent (List Attr))) (I:List Nat) (f9:Value->Option Value) (b9 ba:Value),vs=[.int .i64 ((i:Int)+1)]/\ED F9 C9 w9 b ks o I t.empty f9 b9 ba bm/\o[i]?=some ⟨l,n⟩/\n<=1099511627776/\i<=1099511627776/\
   Mod F W w9/\(∀ x,F9 x->F x\/W.heap.size<=x/\x < w9.heap.size)/\t.Ky [] l ((i:Int)+1) ⟨o.set i ⟨l,n+1⟩,I,t.empty⟩/\Eb ⟨o.set i ⟨l,n+1⟩,I,t.empty⟩ f9/\(⟨o.set i ⟨l,n+1⟩,I,t.empty⟩:Tab (List Attr)).Inv (GY ks.ks)) ?_ ?_
 .rintro vs w9 ⟨i,n,F9,C9,o,I,f9,b9,ba,rfl,b4,bb,ek,eo,bc,ca,cc,bd,bk⟩ _;rw[B0,Of];have hi:=(Bp.1 bb).1;have bl:=(Bp.1 bb).2;refine AI ?_;refine Bt (b4.cells 1 _ rfl) ?_;obtain⟨pa,pc,U,_⟩:=b4.GR.sl.shape;have cd:=b4.GR.sl;rw[U] at cd;rw[Av,wrap64 (by omega) (by omega),show((i:Int)+1-1)=(i:Int) by omega,U];obtain⟨q,r,rfl,_,hr,hc,e9⟩:=cd.get hi;obtain⟨si,rfl,ep⟩:=e9;refine AU hi ?_;rw[AG,Addr.add_add];refine AK (hc 1 _ rfl) ?_;have eh:o[i].held=n:=by rw[bl]
  rw[AR,wrap64 (by omega) (by omega)];refine AU hi ?_;rw[AG,Addr.add_add];have en:((o[i].held:Int)+1)=((n+1:Nat):Int):=by omega
  rw[en];refine b4.Yc bb U fun W' ea b0=>.inr ⟨a6,_,_,rfl,cc,?_⟩;have s':=b0.size;refine⟨F9,fun x O=>?_,⟨C9,b9,ba,bm,ea.r bd bk⟩,bc.next b0 fun x O e=>?_⟩
  .rcases ca x O with h|h
   .exact .inl h
   .exact .inr ⟨h.1,by omega⟩
  .rcases ca x e with h|h
   .exact h
   .omega
 .rw[Ar];cases hf:f (.string (Ei l)) with
  |some v=>
   obtain⟨i,n,hp,hn,rfl⟩:=X.some J hI hf;have hi:=(Bp.1 hp).1;have ch:=hs.he t.places[i] (gC hi);have bl:=(Bp.1 hp).2;rw[bl] at ch;refine AV ?_;exact⟨i,n,F,C,t.places,t.free,f,pl,fr,rfl,Z,hp,k8 ch (by decide),by omega,b3.mono fun _ _ h=>h.elim,fun x O=>.inl O,.inr (.inl ⟨hl,i,n,hp,hn,rfl,rfl⟩),X.ID hp hn (by omega),J.ID hp hn (by omega)⟩
  |none=>
   refine As ?_;have a7:=X.none hf;refine AA (Ti Z J hs) ?_;rintro _ a8 ⟨i,F7,E,ak,bn,ec,rfl,a1,bp,bs,al⟩;have er:=Z.cf;have eu:=b3.size;have z7:=bp.size;have bx:∀x,F7 x->x<a8.heap.size:=fun x O=>by
    rcases bs x O with h|h
    .have:=(hF x h).2;omega
    .exact h.2
   obtain⟨p,cn,c4,Q⟩:∃p,E[i]?=some p/\p.held=0/\((t.put l).1=i/\(t.put l).2=⟨E.set i ⟨l,1⟩,ak,t.empty⟩):=by
    unfold Tab.put;rcases al with⟨h1,rfl,rfl⟩|⟨h1,rfl,rfl,rfl⟩
    .rw[h1];obtain⟨p,hp,ed⟩:=(J.UT i).1 (mD h1);exact⟨p,hp,ed,rfl,rfl⟩
    .rw[h1];refine⟨⟨[],0⟩,by simp,rfl,rfl,?_⟩;simp
   have c6:=(Bp.1 cn).1;have ew:i<=1099511627:=by
    rcases al with⟨h1,rfl,_⟩|⟨_,rfl,_⟩
    .omega
    .exact c8
   refine Ai (fun k y=>k=10/\bn.ownBlock=some y) ?_;have gd:Grow a8 a8.drew:=Mod.drew _ _;refine AI ?_;rw [AG,AH];refine AY ⟨gd.cell (a1.cells 1 _ rfl) fun h=>h,fun j hj e=>by obtain ⟨rfl,_⟩:=e;exact absurd hj (by decide)⟩ ?_;obtain ⟨pa,pc,U,_⟩:=a1.GR.sl.shape;have b6:=a1.GR.sl;rw [Av,wrap64 (by omega) (by omega),show ((i:Int)+1 - 1)=(i:Int) by omega];have cx:Cf S a8 (.slice va l.length vc) l:=(hv.grow b3 (by decide) fun _ _ h=>h).mod bp (fun x _ O hf=>e3 x O hf) (by decide) fun _ _ h=>h;refine AA (Fz (cx.grow gd (by decide) fun _ _ h=>h) (by omega)) ?_;rintro cv eA ⟨dk,c7⟩;refine ⟨c7.mono fun _ _ h=>h.elim,?_⟩;have b7:=gd.trans c7;have dv:=a1.mod b7 fun _ _ h=>h;rw [U] at b6 ⊢;obtain ⟨q,r,rfl,hq,_,_,_⟩:=b6.get c6;refine AU c6 ?_;rw [AG,Addr.add_add];have zd:=gd.size;have eB:=c7.size;have ee:=AE.BA dk;refine dv.eO (B:=a8.drew.heap.size) cn U (fun x O=>by
    rcases O with O|O
    .have:=bx x O;omega
    .have:=(a1.sf x O).2;omega) dk fun eC an av=>?_
   have ef:bn.ownBlock=some q.block:=by rw[U];exact hq.2
   refine⟨av.mono fun x _ e=>⟨rfl,by rw[e];exact hq.2⟩,?_⟩;refine AI ?_;refine Bt (an.cells 3 _ rfl) ?_;obtain⟨ej,dT,b5,ax⟩:=Pr (P:=prog) (t:=143) (kt:=9) (v:=.int .i64 ((i:Int)+1)) underlying143 underlying9 (Rh (Ei l)) an.map hf;refine Ag (v:=undef) (w':=ej) (by simp only[kD,dT,Result.andThen];rfl) ?_;have e1:=an.Vq ax b5;obtain⟨Y,e2,_,_,_⟩:=Tab.GK J T a7;have V:=X.put J T hf;rw[Q.2] at Y V;rw[Q.1] at V;have ay:(E.set i ⟨l,p.held⟩).set i ⟨l,p.held+1⟩=E.set i ⟨l,1⟩:=by rw[ql,c4]
   refine⟨i,p.held,_,_,_,ak,_,bn,ec,rfl,e1,by rw[kI c6],by omega,by omega,?_,?_,?_,?_,?_⟩
   .refine((((b3.mono fun _ _ h=>h.elim).trans bp).trans (b7.mono fun _ _ h=>h.elim)).next av fun x O e=>?_).next ax fun x O e=>?_
    .have:=(a1.pF _ ef).1;rw[<-e] at this;rcases bs x this with h|h
     .exact h
     .omega
    .have:=Z.fm.1;rw[<-e] at this;exact this
   .have eI:=av.size;have eL:=ax.size;rintro x (O|O)
    .rcases bs x O with h|h
     .exact .inl h
     .exact .inr ⟨by omega,by omega⟩
    .have:=ee x O;exact .inr ⟨by omega,by omega⟩
   .rw[ay];exact .inr (.inr ⟨hl,a7,by rw[Q.1],Q.2.symm⟩)
   .rw[ay];exact V
   .rw[ay];exact Y
theorem Tab.Small.le{t:Tab α}{N N':Nat}(h:t.Small N)(i:N<=N'):t.Small N':=⟨k8 h.pl i,k8 h.em i,fun p hp=>k8 (h.he p hp) i⟩
def Tab.Has{α:Type}(t:Tab α)(z s:α)(id:Int)(n:Nat):Prop:=t.ask z id=some ⟨s,n⟩/\0<n/\(id=0↔s=z)
theorem Tab.Has.zero{t:Tab α}{z s:α}{n:Nat}(h:t.Has z s 0 n):s=z/\t.empty=n:=by
 have h1:=h.1;unfold Tab.ask at h1;rw[Io rfl] at h1;cases h1;exact⟨rfl,rfl⟩
theorem Tab.Has.pos{t:Tab α}{z s:α}{id:Int}{n:Nat}(h:t.Has z s id n)(h0:id≠0):∃i:Nat,id=(i:Int)+1/\t.places[i]?=some ⟨s,n⟩:=by
 obtain⟨i,e,hp,_⟩:=Tab.Js h.1 h0;exact⟨i,e,hp⟩
theorem Tab.Has.Uq{t:Tab α}{z:α}(h:0<t.empty):t.Has z z 0 t.empty:=⟨by unfold Tab.ask;rw[Io rfl],h,by simp⟩
theorem Tab.Has.Ua{t:Tab α}{z s:α}{i n:Nat}(o:s≠z)(hp:t.places[i]?=some ⟨s,n⟩)(j:0<n):t.Has z s ((i:Int)+1) n:=⟨Tab.VN hp j,j,⟨fun h=>by omega,fun h=>absurd h o⟩⟩
theorem Tab.Ky.keeps[DecidableEq α]{t t':Tab α}{z x s:α}{k id:Int}{n:Nat}{G:α->Prop}(h:t.Ky z x k t')(hi:t.Inv G)(S:x≠z->G x)(E:t.Has z s id n):t'.Has z s id (if x=s then n+1 else n)/\(x=s↔k=id):=by
 by_cases h0:id=0
 .subst h0;obtain⟨rfl,rfl⟩:=E.zero;rcases h with⟨rfl,rfl,rfl⟩|⟨J,i,n,hp,X,rfl,rfl⟩|⟨J,O,rfl,rfl⟩
  .rw[Io rfl];exact⟨Tab.Has.Uq (t:={ t with empty:=t.empty+1 }) (Ty _),by simp⟩
  .rw[C3 J];exact⟨Tab.Has.Uq (t:=t.ID i _) E.2.1,⟨fun e=>absurd e J,fun e=>by omega⟩⟩
  .rw[C3 J];obtain⟨_,_,_,_,T⟩:=Tab.GK hi (S J) O;refine⟨?_,⟨fun e=>absurd e J,fun e=>by omega⟩⟩;have:=Tab.Has.Uq (t:=(t.put x).2) (z:=s) (by rw[T];exact E.2.1);rwa [T] at this
 .obtain⟨j,rfl,hp⟩:=E.pos h0;have B:s≠z:=fun e=>h0 (E.2.2.2 e);have Q:=(Bp.1 hp).1;rcases h with⟨rfl,rfl,rfl⟩|⟨J,i,m,I,hm,rfl,rfl⟩|⟨J,O,rfl,rfl⟩
  .rw[C3 (mW B)];exact⟨Tab.Has.Ua (t:={ t with empty:=t.empty+1 }) B hp E.2.1,⟨fun e=>absurd e.symm B,fun e=>by omega⟩⟩
  .by_cases e:x=s
   .subst e;have o:=hi.Ho i j _ _ I hp hm E.2.1 rfl;subst o;rw[hp] at I;cases I;rw[Io rfl];exact⟨Tab.Has.Ua B (by show(t.places.set i _)[i]?=_;rw[kI Q]) (Ty _),by simp⟩
   .rw[C3 e];have o:i≠j:=fun o=>by subst o;rw[hp] at I;cases I;exact e rfl
    exact⟨Tab.Has.Ua B (by show(t.places.set i _)[j]?=_;rw[kh o];exact hp) E.2.1,⟨fun h=>absurd h e,fun h=>absurd (by omega) o⟩⟩
  .have e:x≠s:=fun e=>O j _ hp E.2.1 e.symm;rw[C3 e];obtain⟨_,_,U,V,_⟩:=Tab.GK hi (S J) O;have o:j≠(t.put x).1:=fun o=>by
    have:=U ⟨s,n⟩ (o▸hp);have:=E.2.1;simp only at *;omega
   exact⟨Tab.Has.Ua B ((V j o).trans hp) E.2.1,⟨fun h=>absurd h e,fun h=>absurd (by omega) o⟩⟩
theorem Tab.Has.release{t:Tab α}{z s:α}{k id:Int}{n:Nat}(o:t.Has z s id n)(hk:k≠id\/1<n):(t.release z k).Has z s id (if k=id then n-1 else n):=by
 by_cases e:k=id
 .subst e;have Q:1<n:=hk.resolve_left fun h=>h rfl;rw[Io rfl];unfold Tab.release;rw[o.1];dsimp only;by_cases h0:k=0
  .subst h0;obtain⟨rfl,rfl⟩:=o.zero;rw[Io rfl];exact Tab.Has.Uq (t:={ t with empty:=t.empty-1 }) (by show 0<t.empty-1;omega)
  .obtain⟨j,rfl,hp⟩:=o.pos h0;have J:=(Bp.1 hp).1;rw[C3 h0,C3 (by omega),show((j:Int)+1-1).toNat=j by omega];exact Tab.Has.Ua (fun e=>h0 (o.2.2.2 e)) (by show(t.places.set j _)[j]?=_;rw[kI J]) (by omega)
 .rw[C3 e];unfold Tab.release;cases ha:t.ask z k with
  |none=>exact o
  |some p=>
   dsimp only;by_cases B:k=0
   .rw[Io B];have h0:id≠0:=fun h=>e (by rw[B,h]);obtain⟨j,rfl,hp⟩:=o.pos h0;exact Tab.Has.Ua (t:={ t with empty:=t.empty-1 }) (fun e=>h0 (o.2.2.2 e)) hp o.2.1
   .rw[C3 B];obtain⟨i,rfl,hp,O⟩:=Tab.Js ha B;rw[show((i:Int)+1-1).toNat=i by omega];by_cases h0:id=0
    .subst h0;obtain⟨rfl,rfl⟩:=o.zero;split
     .exact Tab.Has.Uq (t:=t.drop s i) o.2.1
     .exact Tab.Has.Uq (t:=t.ID i _) o.2.1
    .obtain⟨j,rfl,E⟩:=o.pos h0;have I:i≠j:=fun h=>e (by rw[h]);split
     .exact Tab.Has.Ua (fun e=>h0 (o.2.2.2 e)) (by show(t.places.set i _)[j]?=_;rw[kh I];exact E) o.2.1
     .exact Tab.Has.Ua (fun e=>h0 (o.2.2.2 e)) (by show(t.places.set i _)[j]?=_;rw[kh I];exact E) o.2.1
def HL{α:Type}[DecidableEq α](r:List (α×Int))(x:α):Nat:=(r.filter fun p=>decide (p.1=x)).length
theorem QS[DecidableEq α](r:List (α×Int))(x y:α)(k:Int):HL (r++[(x,k)]) y=HL r y+if x=y then 1 else 0:=by
 unfold HL;rw[nY,Bq];by_cases h:x=y<;>simp[h]
theorem E3[DecidableEq α](r:List (α×Int))(x y:α)(k:Int):HL ((x,k)::r) y=HL r y+if x=y then 1 else 0:=by
 unfold HL;by_cases h:x=y<;>simp[h]
theorem Pm[DecidableEq α]{r:List (α×Int)}{p:α×Int}(h:p∈r):0<HL r p.1:=by
 unfold HL;exact oe (ko.2 ⟨h,by simp⟩)
theorem Ll[DecidableEq α]{r:List (α×Int)}{x:α}(h:0<HL r x):∃p∈r,p.1=x:=by
 unfold HL at h;obtain⟨p,hp⟩:=List.exists_mem_of_length_pos h;obtain⟨h1,i⟩:=ko.1 hp;exact⟨p,h1,by simpa using i⟩
structure Tab.GZ {α:Type} [DecidableEq α] (t:Tab α) (z:α) (r:List (α×Int)):Prop where
 has:∀p∈r,t.Has z p.1 p.2 (HL r p.1)
 pl:∀(i:Nat) (q:Ent α),t.places[i]?=some q->0<q.held->∃p∈r,p.1=q.set
 em:t.empty=HL r z
theorem Tab.GZ.z[DecidableEq α](z:α):(Tab.z α).GZ z []:=⟨fun p hp=>(by cases hp),fun i q j=>(by simp[Tab.z] at j),rfl⟩
theorem Tab.Has.uniq{t:Tab α}{z x y:α}{k l:Int}{n m:Nat}{G:α->Prop}(hi:t.Inv G)(h1:t.Has z x k n)(o:t.Has z y l m):k=l↔x=y:=by
 constructor
 .rintro rfl;have:=h1.1.symm.trans o.1;cases this;rfl
 .rintro rfl;by_cases h0:k=0
  .have:=h1.2.2.1 h0;rw[h0,o.2.2.2 this]
  .obtain⟨i,rfl,hp⟩:=h1.pos h0;have B:l≠0:=fun e=>h0 (h1.2.2.2 (o.2.2.1 e));obtain⟨j,rfl,E⟩:=o.pos B;rw[hi.Ho i j _ _ hp E h1.2.1 o.2.1 rfl]
theorem Tab.GZ.added[DecidableEq α]{t t':Tab α}{z x:α}{k:Int}{r:List (α×Int)}{G:α->Prop}(h:t.GZ z r)(ha:t.Ky z x k t')(hi:t.Inv G)(J:x≠z->G x):t'.GZ z (r++[(x,k)]):=by
 have O:t'.Has z x k (HL r x+1):=by
  by_cases S:∃p∈r,p.1=x
  .obtain⟨p,hp,rfl⟩:=S;obtain⟨h1,U⟩:=ha.keeps hi J (h.has p hp);rw[Io rfl] at h1;rw[U.1 rfl];exact h1
  .have h0:HL r x=0:=by
    refine Nat.eq_zero_of_not_pos fun Q=>S (Ll Q)
   rcases ha with⟨rfl,rfl,rfl⟩|⟨o,i,n,hp,T,rfl,rfl⟩|⟨o,B,rfl,rfl⟩
   .rw[<-h.em];exact Tab.Has.Uq (t:={ t with empty:=t.empty+1 }) (Ty _)
   .exact absurd (h.pl i _ hp T) S
   .rw[h0];obtain⟨_,h1,_⟩:=Tab.GK hi (J o) B;exact Tab.Has.Ua o h1 Nat.one_pos
 refine⟨fun p hp=>?_,fun i q I h0=>?_,?_⟩
 .rw[QS];rcases DN.1 hp with hp|hp
  .have:=(ha.keeps hi J (h.has p hp)).1;by_cases e:x=p.1
   .rw[Io e] at this ⊢;exact this
   .rw[C3 e] at this ⊢;exact this
  .rw[P9] at hp;subst hp;rw[Io rfl];exact O
 .rcases ha with⟨rfl,rfl,rfl⟩|⟨o,j,n,hp,T,rfl,rfl⟩|⟨o,B,rfl,rfl⟩
  .obtain⟨p,hp,e⟩:=h.pl i q I h0;exact⟨p,i7 _ hp,e⟩
  .have E:(t.places.set j ⟨x,n+1⟩)[i]?=some q:=I;by_cases e:i=j
   .subst e;rw[kI (Bp.1 hp).1] at E;cases E;exact⟨(x,(i:Int)+1),by simp,rfl⟩
   .rw[kh (mW e)] at E;obtain⟨p,hp,e⟩:=h.pl i q E h0;exact⟨p,i7 _ hp,e⟩
  .obtain⟨_,h1,_,V,_⟩:=Tab.GK hi (J o) B;by_cases e:i=(t.put x).1
   .subst e;rw[h1] at I;cases I;exact⟨_,kB _ (P9.2 rfl),rfl⟩
   .rw[V i e] at I;obtain⟨p,hp,e⟩:=h.pl i q I h0;exact⟨p,i7 _ hp,e⟩
 .rw[QS];rcases ha with⟨rfl,rfl,rfl⟩|⟨o,j,n,hp,T,rfl,rfl⟩|⟨o,B,rfl,rfl⟩
  .rw[Io rfl,<-h.em]
  .rw[C3 o];exact h.em
  .rw[C3 o];obtain⟨_,_,_,_,X⟩:=Tab.GK hi (J o) B;rw[X];exact h.em
theorem Tab.GZ.gn[DecidableEq α]{t:Tab α}{z x:α}{k:Int}{r:List (α×Int)}{G:α->Prop}(h:t.GZ z ((x,k)::r))(hi:t.Inv G)(X:∀s,G s->s≠z):(t.release z k).GZ z r:=by
 have J:=h.has (x,k) kf;rw[E3,Io rfl] at J;refine⟨fun p hp=>?_,fun i q I h0=>?_,?_⟩
 .have E:=h.has p (fX _ hp);rw[E3] at E;have hu:=Tab.Has.uniq hi J E;by_cases e:k=p.2
  .have ex:=hu.1 e;simp only at ex;rw[Io ex] at E;have:=E.release (k:=k) (.inr (by have:=Pm hp;omega));rw[Io e,oT] at this;exact this
  .have ex:¬x=p.1:=fun h'=>e (hu.2 h');rw[C3 ex,kg] at E;have:=E.release (k:=k) (.inl e);rw[C3 e] at this;exact this
 .have S:∃U,t.places[i]?=some U/\0<U.held/\U.set=q.set/\(q.set=x->0<HL r x):=by
   unfold Tab.release at I;rw[J.1] at I;dsimp only at I;by_cases B:k=0
   .rw[Io B] at I;refine⟨q,I,h0,rfl,fun e=>?_⟩;exact absurd (e.trans (J.2.2.1 B)) (X _ (hi.ok i q I h0))
   .rw[C3 B] at I;obtain⟨j,rfl,T⟩:=J.pos B;have V:=(Bp.1 T).1;rw[show((j:Int)+1-1).toNat=j by omega] at I;by_cases O:i=j
    .subst O;split at I
     .have o:(t.places.set i ⟨z,0⟩)[i]?=some q:=I;rw[kI V] at o;cases o;exact absurd h0 (pC _)
     .have o:(t.places.set i _)[i]?=some q:=I;rw[kI V] at o;cases o;exact⟨_,T,Ty _,rfl,fun _=>by simp only at h0;omega⟩
    .have o:t.places[i]?=some q:=by
      split at I
      .have o:(t.places.set j ⟨z,0⟩)[i]?=some q:=I;rwa [kh (mW O)] at o
      .have o:(t.places.set j _)[i]?=some q:=I;rwa [kh (mW O)] at o
     exact⟨q,o,h0,rfl,fun e=>absurd (hi.Ho i j _ _ o T h0 J.2.1 e) O⟩
  obtain⟨U,o,Y,Z,a1⟩:=S;obtain⟨p,hp,ep⟩:=h.pl i U o Y;rcases I3.1 hp with rfl|hp
  .obtain⟨p',E,e'⟩:=Ll (a1 (by rw[<-Z,<-ep]));exact⟨p',E,by rw[e',<-Z,<-ep]⟩
  .exact⟨p,hp,by rw[ep,Z]⟩
 .have Q:=h.em;rw[E3] at Q;unfold Tab.release;rw[J.1];dsimp only;by_cases B:k=0
  .rw[Io B];rw[Io (J.2.2.1 B)] at Q;show t.empty-1=_;omega
  .rw[C3 B];rw[C3 (fun e=>B (J.2.2.2 e))] at Q;split<;>exact Q
section
variable {α:Type}[DecidableEq α]{t t':Tab α}{z s:α}{f:Int->α}{h:Int->Nat}{id:Int}{G:α->Prop}
theorem Ni{r q:List (α×Int)}(hp:r.Perm q)(x:α):HL r x=HL q x:=(hp.filter _).length_eq
theorem Tab.GZ.perm{r q:List (α×Int)}(j:t.GZ z r)(hp:r.Perm q):t.GZ z q:=
 ⟨fun p o=>by rw[<-Ni hp];exact j.has p (hp.mem_iff.2 o),fun i e h1 B=>by obtain⟨p,E,I⟩:=j.pl i e h1 B;exact⟨p,hp.mem_iff.1 E,I⟩,by rw[<-Ni hp];exact j.em⟩
omit [DecidableEq α] in
theorem Tab.WY{n:Nat}{x:α}{k:Int}(h:t.Has z x k n):(t.hold z k).Has z x k (n+1)/\(∀(i:Nat) (q:Ent α),(t.hold z k).places[i]?=some q->0<q.held->∃O:Ent α,t.places[i]?=some O/\0<O.held/\O.set=q.set)/\((t.hold z k).empty=if k=0 then t.empty+1 else t.empty)/\
  (∀{y l m},l≠k->t.Has z y l m->(t.hold z k).Has z y l m):=by
 unfold Tab.hold;rw[h.1];dsimp only;by_cases h0:k=0
 .subst h0;obtain⟨rfl,rfl⟩:=h.zero;rw[Io rfl,Io rfl];refine⟨Tab.Has.Uq (t:={ t with empty:=t.empty+1 }) (Ty _),fun i q Q E=>⟨q,Q,E,rfl⟩,rfl,fun hl o=>?_⟩;obtain⟨j,rfl,hp⟩:=o.pos hl;exact Tab.Has.Ua (t:={ t with empty:=t.empty+1 }) (fun e=>hl (o.2.2.2 e)) hp o.2.1
 .obtain⟨i,rfl,hp⟩:=h.pos h0;have J:=(Bp.1 hp).1;rw[C3 h0,C3 h0,show((i:Int)+1-1).toNat=i by omega];refine⟨Tab.Has.Ua (t:=t.ID i ⟨x,n+1⟩) (fun e=>h0 (h.2.2.2 e)) (by show(t.places.set i _)[i]?=_;rw[kI J]) (Ty _),fun j q Q E=>?_,rfl,fun{y l m} hl o=>?_⟩
  .have B:(t.places.set i ⟨x,n+1⟩)[j]?=some q:=Q;by_cases e:i=j
   .subst e;rw[kI J] at B;cases B;exact⟨_,hp,h.2.1,rfl⟩
   .rw[kh e] at B;exact⟨q,B,E,rfl⟩
  .by_cases I:l=0
   .subst I;obtain⟨rfl,rfl⟩:=o.zero;exact Tab.Has.Uq (t:=t.ID i ⟨x,n+1⟩) o.2.1
   .obtain⟨j,rfl,S⟩:=o.pos I;have T:i≠j:=fun e=>hl (by rw[e]);exact Tab.Has.Ua (t:=t.ID i ⟨x,n+1⟩) (fun e=>I (o.2.2.2 e)) (by show(t.places.set i _)[j]?=_;rw[kh T];exact S) o.2.1
theorem Tab.GZ.hold{r:List (α×Int)}(B:t.GZ z r)(hi:t.Inv G){p:α×Int}(hp:p∈r):(t.hold z p.2).GZ z (p::r):=by
 obtain⟨x,k⟩:=p;have j:=B.has _ hp;obtain⟨J,O,a3,a4⟩:=Tab.WY j;simp only at J O a3 a4 j ⊢;have Q:=Pm hp;refine⟨fun q o=>?_,fun i q o E=>?_,?_⟩
 .rw[E3];have I:q∈r:=by
   rcases I3.1 o with rfl|o
   .exact hp
   .exact o
  have S:=B.has q I;have hu:=Tab.Has.uniq hi j S;by_cases e:k=q.2
  .have ex:=hu.1 e;rw[Io ex,<-ex,<-e];exact J
  .rw[C3 fun T=>e (hu.2 T),kg];exact a4 (fun e'=>e e'.symm) S
 .obtain⟨U,h1,V,X⟩:=O i q o E;obtain⟨Y,Z,h5⟩:=B.pl i U h1 V;exact⟨Y,fX _ Z,by rw[h5,X]⟩
 .rw[E3,a3,B.em];by_cases h0:k=0
  .rw[Io h0,Io (j.2.2.1 h0)]
  .rw[C3 h0,C3 fun e=>h0 (j.2.2.2 e),kg]
theorem Tab.GZ.iK{r:List (α×Int)}(j:t.GZ z r):(t.hold z 0).GZ z ((z,0)::r):=by
 have e:t.hold z 0={ t with empty:=t.empty+1 }:=by unfold Tab.hold Tab.ask;simp
 rw[e];refine⟨fun q o=>?_,fun i q o E=>?_,?_⟩
 .rw[E3];rcases I3.1 o with rfl|o
  .rw[Io rfl,<-j.em];exact Tab.Has.Uq (t:={ t with empty:=t.empty+1 }) (Ty _)
  .have B:=j.has q o;by_cases h0:q.2=0
   .have J:=B.2.2.1 h0;rw[h0,J,Io rfl,<-j.em];exact Tab.Has.Uq (t:={ t with empty:=t.empty+1 }) (Ty _)
   .obtain⟨i,O,hp⟩:=B.pos h0;have I:q.1≠z:=fun e=>h0 (B.2.2.2 e);rw[C3 (mW I),O];exact Tab.Has.Ua (t:={ t with empty:=t.empty+1 }) I hp B.2.1
 .obtain⟨Q,S,T⟩:=j.pl i q o E;exact⟨Q,fX _ S,T⟩
 .show t.empty+1=_;rw[E3,Io rfl,j.em]
def Tab.Holds(t:Tab α)(z:α)(f:Int->α)(h:Int->Nat):Prop:=f 0=z/\∃r:List (α×Int),t.GZ z r/\(∀p∈r,p.1=f p.2)/\∀id,r.countP (fun p=>decide (p.2=id))=h id
theorem Tab.Holds.mem(o:t.Holds z f h)(h0:0<h id):∃r:List (α×Int),t.GZ z r/\(∀p∈r,p.1=f p.2)/\(∀id,r.countP (fun p=>decide (p.2=id))=h id)/\(f id,id)∈r:=by
 obtain⟨_,r,h1,i,j⟩:=o;refine⟨r,h1,i,j,?_⟩;rw[<-j] at h0;obtain⟨p,hp,e⟩:=oG.1 h0;simp only[S6] at e;have:=i p hp;rw[<-e,<-this];exact hp
theorem Tab.Holds.has(i:t.Holds z f h)(h0:0<h id):∃n,t.Has z (f id) id n:=by
 obtain⟨r,h1,_,_,j⟩:=i.mem h0;exact⟨_,h1.has _ j⟩
theorem Tab.Holds.ask(i:t.Holds z f h)(h0:0<h id):∃n,t.ask z id=some ⟨f id,n⟩:=by
 obtain⟨n,h1⟩:=i.has h0;exact⟨n,h1.1⟩
theorem Tab.Holds.inj(i:t.Holds z f h)(hi:t.Inv G){x y:Int}(j:0<h x)(o:0<h y):x=y↔f x=f y:=by
 obtain⟨n,h1⟩:=i.has j;obtain⟨m,B⟩:=i.has o;exact Tab.Has.uniq hi h1 B
theorem Tab.Holds.new(z:α):(Tab.z α).Holds z (fun _=>z) fun _=>0:=⟨rfl,[],Tab.GZ.z z,fun p hp=>(nomatch hp),fun _=>rfl⟩
theorem Tab.Holds.congr{i:Int->Nat}(j:t.Holds z f h)(e:∀x,h x=i x):t.Holds z f i:=by
 obtain⟨h0,r,h1,o,B⟩:=j;exact⟨h0,r,h1,o,fun x=>(B x).trans (e x)⟩
theorem Tab.Holds.hold(o:t.Holds z f h)(hi:t.Inv G)(h0:0<h id\/id=0):(t.hold z id).Holds z f fun x=>h x+if x=id then 1 else 0:=by
 have E:=o.1;obtain⟨r,i,j,B⟩:∃r:List (α×Int),(∀p∈r,p.1=f p.2)/\(∀id,r.countP (fun p=>decide (p.2=id))=h id)/\(t.hold z id).GZ z ((f id,id)::r):=by
  rcases h0 with h0|rfl
  .obtain⟨r,h1,i,j,B⟩:=o.mem h0;exact⟨r,i,j,h1.hold hi B⟩
  .obtain⟨_,r,h1,i,j⟩:=o;exact⟨r,i,j,by rw[E];exact h1.iK⟩
 refine⟨E,(f id,id)::r,B,fun p hp=>?_,fun x=>?_⟩
 .rcases I3.1 hp with rfl|hp
  .rfl
  .exact i p hp
 .rw[oD,j];by_cases e:x=id
  .subst e;simp
  .simp[e,mW e]
theorem Tab.Holds.free(j:t.Holds z f h)(hi:t.Inv G)(B:∀s,G s->s≠z)(h0:0<h id):(t.release z id).Holds z f fun x=>h x-if x=id then 1 else 0:=by
 obtain⟨r,h1,E,I,J⟩:=j.mem h0;have hp:r.Perm ((f id,id)::r.erase (f id,id)):=List.perm_cons_erase J;have O:=h1.perm hp;refine⟨j.1,r.erase (f id,id),O.gn hi B,fun p i=>E p (List.mem_of_mem_erase i),fun x=>?_⟩;have o:=I x;rw[hp.countP_eq,oD] at o;show _=h x-_;rw[<-o];by_cases e:x=id
 .subst e;simp
 .simp[e,mW e]
theorem Tab.Holds.added(J:t.Holds z f h)(hi:t.Inv G)(ha:t.Ky z s id t')(O:s≠z->G s):∃j:Int->α,t'.Holds z j (fun x=>h x+if x=id then 1 else 0)/\j id=s/\(∀x,0<h x->j x=f x):=by
 obtain⟨o,r,h1,B,E⟩:=J;have i:=h1.added ha hi O;have key:∀p∈r,p.2=id->p.1=s:=by
  intro p hp e;have a:=i.has p (i7 _ hp);have b:=i.has (s,id) (kB _ (P9.2 rfl));rw[e] at a;have:=a.1.symm.trans b.1;cases this;rfl
 refine⟨fun x=>if x=id then s else f x,⟨?_,r++[(s,id)],i,fun p hp=>?_,fun x=>?_⟩,by simp,fun x I=>?_⟩
 .show(if(0:Int)=id then s else f 0)=z;split
  .rename_i e;have b:=i.has (s,id) (kB _ (P9.2 rfl));exact b.2.2.1 e.symm
  .exact o
 .rcases DN.1 hp with hp|hp
  .by_cases e:p.2=id
   .rw[key p hp e];simp[e]
   .simp[e,B p hp]
  .rw[P9] at hp;subst hp;simp
 .rw[oU,E];by_cases e:x=id
  .subst e;simp
  .simp[e,mW e]
 .by_cases e:x=id
  .subst e;rw[<-E] at I;obtain⟨p,hp,e⟩:=oG.1 I;simp only[S6] at e;simp only[km];rw[<-key p hp e,B p hp,e]
  .simp[e]
theorem Tab.Holds.len(hh:t.Holds z f h)(hi:t.Inv G)(hG:∀s,G s->s≠z){L:List α}(hL:L.Nodup)(hm:∀s,s∈L↔s≠z/\∃id,0<h id/\f id=s):t.places.length=t.free.length+L.length:=by
 let I:=(List.range t.places.length).filter fun i=>decide (i∉t.free)
 have T:∀i,i∈I↔∃p:Ent α,t.places[i]?=some p/\0<p.held:=by
  intro i;simp only[I,ko,ly,S6];constructor
  .rintro⟨a,b⟩;refine⟨t.places[i],By a,Nat.pos_of_ne_zero fun e=>b ((hi.UT i).2 ⟨_,By a,e⟩)⟩
  .rintro⟨p,hp,h0⟩;refine⟨(Bp.1 hp).1,fun hf=>?_⟩;obtain⟨q,B,O⟩:=(hi.UT i).1 hf;rw[hp] at B;cases B;omega
 have a1:t.places.length=t.free.length+I.length:=by
  have hp:((List.range t.places.length).filter fun i=>decide (i∈t.free)).Perm t.free:=by
   refine(pZ (List.nodup_range.filter _) hi.Qm).2 fun i=>?_;simp only[ko,ly,S6];refine⟨fun h=>h.2,fun h=>⟨?_,h⟩⟩;obtain⟨p,hp,_⟩:=(hi.UT i).1 h;exact(Bp.1 hp).1
  have h1:=hp.length_eq;have U:∀l:List Nat,l.length=(l.filter fun i=>decide (i∈t.free)).length+(l.filter fun i=>decide (i∉t.free)).length:=by
   intro l;induction l with
   |nil=>rfl
   |cons i l ih=>
    rw[List.filter_cons,List.filter_cons,Vn,ih];by_cases e:i∈t.free
    .simp[e];omega
    .simp[e];omega
  have Q:=U (List.range t.places.length);rw[List.length_range,h1] at Q;exact Q
 let S:Nat->α:=fun i=>match t.places[i]? with|some p=>p.set|none=>z
 have E:(I.map S).Perm L:=by
  refine(pZ ?_ hL).2 fun s=>?_
  .refine List.pairwise_map.2 (List.Pairwise.imp_of_mem ?_ (List.nodup_range.filter _:I.Nodup));intro i j J hj V e;refine V ?_;obtain⟨p,hp,o⟩:=(T i).1 J;obtain⟨q,B,O⟩:=(T j).1 hj;simp only[S,hp,B] at e;exact hi.Ho i j p q hp B o O e
  .rw[hm,kQ];obtain⟨X,r,h1,U,Q⟩:=hh;constructor
   .rintro⟨i,J,rfl⟩;obtain⟨p,hp,o⟩:=(T i).1 J;simp only[S,hp];obtain⟨q,B,e⟩:=h1.pl i p hp o;refine⟨hG _ (hi.ok i p hp o),q.2,?_,by rw[<-U q B,e]⟩;rw[<-Q];exact oG.2 ⟨q,B,by simp⟩
   .rintro⟨hz,id,h0,rfl⟩;obtain⟨n,Y⟩:=Tab.Holds.has ⟨X,r,h1,U,Q⟩ h0;have Z:id≠0:=fun e=>hz (Y.2.2.1 e);obtain⟨i,rfl,hp⟩:=Y.pos Z;exact⟨i,(T i).2 ⟨_,hp,Y.2.1⟩,by simp[S,hp]⟩
 have:=E.length_eq;rw[Es] at this;omega
end
theorem Dj.up{g:AvT α}{b bt N N':Nat}{l:List α}(h:Dj g F C W b bt l N)(i:N<=N'):Dj g F C W b bt l N':=by
 obtain⟨A,T,h1,j,o,B,E⟩:=h.EH;exact⟨h.box,⟨A,T,h1,j,o,B,k8 E i⟩,h.fb⟩
def JM{α:Type}(e:Bool)(g:AvT α)(F C:Nat->Prop)(W:World)(b:Nat)(l:List α)(N:Nat):Prop:=
 (∃bt,Dj g F C W b bt l N)\/(e=true/\Bx W b [.pointer none]/\l=[]/\(∀x,F x↔x=b)/\∀x,¬C x)
section
variable {α:Type}{e:Bool}{g:AvT α}{F C M:Nat->Prop}{W W':World}{b N N':Nat}{l:List α}
theorem JM.mod(h:JM e g F C W b l N)(hm:Mod M W W')(i:∀x,F x\/C x->¬M x):JM e g F C W' b l N:=by
 rcases h with⟨bt,h⟩|⟨h1,o,B,j,E⟩
 .exact .inl ⟨bt,h.mod hm i⟩
 .exact .inr ⟨h1,o.mod hm (i b (.inl ((j b).2 rfl))),B,j,E⟩
theorem JM.up(h:JM e g F C W b l N)(i:N<=N'):JM e g F C W b l N':=by
 rcases h with⟨bt,h⟩|h
 .exact .inl ⟨bt,h.up i⟩
 .exact .inr h
theorem JM.lt(h:JM e g F C W b l N):∀x,F x\/C x->x<W.heap.size:=by
 rcases h with⟨bt,h⟩|⟨h1,j,E,o,B⟩
 .exact h.lt
 .rintro x (i|i)
  .rw[(o x).1 i];exact j.lt (Ty _)
  .exact(B x i).elim
theorem JM.t(h:JM false g F C W b l N):∃bt,Dj g F C W b bt l N:=h.resolve_right fun h=>nomatch h.1
theorem JM.fb(h:JM e g F C W b l N):F b:=by
 rcases h with⟨bt,h⟩|⟨h1,j,o,i,B⟩
 .exact h.fb.1
 .exact(i b).2 rfl
end
structure TxA where
 b:Nat
 r:Nat
 s:Nat
 p:Nat
 t:Nat
structure TxK where
 r:Bool
 s:Bool
 p:Bool
structure TxG where
 r:Nat->Prop
 s:Nat->Prop
 p:Nat->Prop
 c:Nat->Prop
 t:Nat->Prop
abbrev TxK.f:TxK:=⟨false,false,false⟩
structure O4 (k:TxK) (w0:World) (own:Nat->Nat) (G:TxG) (F:Nat->Prop) (W:World) (a:TxA) (σ:SKs) (most:Int) (l1:List Ck) (l2:List Spn) (L:List (List Attr)) (t:Tab (List Attr)) (N:Nat):Prop where
 box:Bx W a.b (Ur σ.sv most a.r a.s a.p a.t)
 Hn:JM k.r A6.toAvT G.r GV W a.r l1 N
 EX:JM k.s DI.toAvT G.s GV W a.s l2 N
 para:JM k.p BG.toAvT G.p G.c W a.p L N
 Qo:E8 G.t W a.t σ t
 JS:De σ.S W σ.sv σ.ks
 cb:own a.b=0
 cr:∀x,G.r x->own x=1
 cs:∀x,G.s x->own x=2
 cp:∀x,G.p x\/G.c x->own x=3
 ct:∀x,G.t x->own x=4
 cS:∀x,σ.S x->own x=5/\x<W.heap.size
 lo:∀x,(x=a.b\/G.r x\/G.s x)\/(G.p x\/G.c x)\/G.t x->F x
 hl:∀x,F x->w0.heap.size<=x/\x<W.heap.size/\¬σ.S x
 g:Grow w0 W
section
variable {k:TxK}{w0:World}{own:Nat->Nat}{G:TxG}{F M:Nat->Prop}{W W':World}{a:TxA}{σ:SKs}{most:Int}{l1 Xv:List Ck}{l2 Uf:List Spn}{L L':List (List Attr)}{t t':Tab (List Attr)}{N N' c:Nat}
theorem O4.frame(h:O4 k w0 own G F W a σ most l1 l2 L t N)(h1:1<=c)(J:c<=4)(hm:Mod M W W')(o:∀x,M x->own x=c/\F x)(B:N<=N') :
  Bx W' a.b (Ur σ.sv most a.r a.s a.p a.t)/\(c≠1->JM k.r A6.toAvT G.r GV W' a.r l1 N')/\(c≠2->JM k.s DI.toAvT G.s GV W' a.s l2 N')/\(c≠3->JM k.p BG.toAvT G.p G.c W' a.p L N')/\(c≠4->E8 G.t W' a.t σ t)/\De σ.S W' σ.sv σ.ks/\Grow w0 W'/\
   (∀{j:Nat->Nat},(j=fun x=>if x<W.heap.size then own x else c)->j a.b=0/\(∀x,G.r x->j x=1)/\(∀x,G.s x->j x=2)/\(∀x,G.p x\/G.c x->j x=3)/\(∀x,G.t x->j x=4)/\(∀x,σ.S x->j x=5/\x<W'.heap.size)/\∀{X Y:Nat->Prop},(∀x,X x->own x=c)->(∀x,Y x->X x\/W.heap.size<=x)->∀x,Y x->j x=c):=by
 have z:=hm.size;have GQ:∀x,F x->x<W.heap.size:=fun x i=>(h.hl x i).2.1;refine⟨h.box.mod hm fun e=>by have:=(o _ e).1;have:=h.cb;omega,fun hc=>(h.Hn.mod hm fun x i e=>?_).up B,fun hc=>(h.EX.mod hm fun x i e=>?_).up B,fun hc=>(h.para.mod hm fun x i e=>?_).up B,fun hc=>h.Qo.mod hm fun x i e=>?_,h.JS.mod hm fun x _ i e=>?_,h.g.next hm fun x i e=>?_,?_⟩
 .have:=(o _ e).1;rcases i with i|i
  .have:=h.cr x i;omega
  .exact i.elim
 .have:=(o _ e).1;rcases i with i|i
  .have:=h.cs x i;omega
  .exact i.elim
 .have:=(o _ e).1;have:=h.cp x i;omega
 .have:=(o _ e).1;rcases i with i|i
  .have:=h.ct x i;omega
  .have:=(h.cS x i).1;omega
 .have:=(o _ e).1;have:=(h.cS x i).1;omega
 .have:=(h.hl _ (o x e).2).1;omega
 .rintro j rfl;have key:∀x,F x->(if x<W.heap.size then own x else c)=own x:=fun x i=>Io (GQ x i);refine⟨by show ite _ _ _=0;rw[key _ (h.lo _ (.inl (.inl rfl)))];exact h.cb,fun x i=>by show ite _ _ _=1;rw[key _ (h.lo _ (.inl (.inr (.inl i))))];exact h.cr x i,fun x i=>by show ite _ _ _=2;rw[key _ (h.lo _ (.inl (.inr (.inr i))))];exact h.cs x i,fun x i=>by show ite _ _ _=3;rw[key _ (h.lo _ (.inr (.inl i)))];exact h.cp x i,fun x i=>by show ite _ _ _=4;rw[key _ (h.lo _ (.inr (.inr i)))];exact h.ct x i,fun x i=>?_,fun E I x i=>?_⟩
  .have:=h.cS x i;exact⟨by show ite _ _ _=5;rw[Io this.2];exact this.1,by omega⟩
  .show ite _ _ _=c;split
   .rcases I x i with e|e
    .exact E x e
    .omega
   .rfl
theorem O4.YD{j:Nat->Prop}{e:Bool}(h:O4 k w0 own G F W a σ most l1 l2 L t N)(hm:Mod G.r W W')(B:∀x,j x->G.r x\/W.heap.size<=x)(E:JM e A6.toAvT j GV W' a.r Xv N')(I:N<=N') :
  ∃o,O4 { k with r:=e } w0 o { G with r:=j } (fun x=>F x\/j x) W' a σ most Xv l2 L t N':=by
 obtain⟨J,f2,O,Q,T,f6,U,V⟩:=h.frame (c:=1) (by decide) (by decide) hm (fun x i=>⟨h.cr x i,h.lo x (.inl (.inr (.inl i)))⟩) I;obtain⟨X,g2,Y,Z,g5,g6,g7⟩:=V rfl;have z:=hm.size;have z0:=h.g.size;have hS:∀x,σ.S x->x<W.heap.size:=fun x i=>(h.cS x i).2;refine⟨_,J,E,O (by decide),Q (by decide),T (by decide),f6,X,g7 h.cr B,Y,Z,g5,g6,fun x i=>?_,fun x i=>?_,U⟩
 .rcases i with(i|i|i)|i
  .exact .inl (h.lo x (.inl (.inl i)))
  .exact .inr i
  .exact .inl (h.lo x (.inl (.inr (.inr i))))
  .exact .inl (h.lo x (.inr i))
 .have up:F x->w0.heap.size<=x/\x<W'.heap.size/\¬σ.S x:=fun i=>by have:=h.hl x i;exact⟨this.1,by omega,this.2.2⟩
  rcases i with i|i
  .exact up i
  .rcases B x i with e|e
   .exact up (h.lo x (.inl (.inr (.inl e))))
   .exact⟨by omega,E.lt x (.inl i),fun e=>by have:=hS x e;omega⟩
theorem O4.Wn{j:Nat->Prop}{e:Bool}(h:O4 k w0 own G F W a σ most l1 l2 L t N)(hm:Mod G.s W W')(B:∀x,j x->G.s x\/W.heap.size<=x)(E:JM e DI.toAvT j GV W' a.s Uf N')(I:N<=N') :
  ∃o,O4 { k with s:=e } w0 o { G with s:=j } (fun x=>F x\/j x) W' a σ most l1 Uf L t N':=by
 obtain⟨J,O,f3,Q,T,f6,U,V⟩:=h.frame (c:=2) (by decide) (by decide) hm (fun x i=>⟨h.cs x i,h.lo x (.inl (.inr (.inr i)))⟩) I;obtain⟨X,Y,g3,Z,g5,g6,g7⟩:=V rfl;have z:=hm.size;have z0:=h.g.size;have hS:∀x,σ.S x->x<W.heap.size:=fun x i=>(h.cS x i).2;refine⟨_,J,O (by decide),E,Q (by decide),T (by decide),f6,X,Y,g7 h.cs B,Z,g5,g6,fun x i=>?_,fun x i=>?_,U⟩
 .rcases i with(i|i|i)|i
  .exact .inl (h.lo x (.inl (.inl i)))
  .exact .inl (h.lo x (.inl (.inr (.inl i))))
  .exact .inr i
  .exact .inl (h.lo x (.inr i))
 .have up:F x->w0.heap.size<=x/\x<W'.heap.size/\¬σ.S x:=fun i=>by have:=h.hl x i;exact⟨this.1,by omega,this.2.2⟩
  rcases i with i|i
  .exact up i
  .rcases B x i with e|e
   .exact up (h.lo x (.inl (.inr (.inr e))))
   .exact⟨by omega,E.lt x (.inl i),fun e=>by have:=hS x e;omega⟩
theorem O4.ZQ{j o:Nat->Prop}{e:Bool}(h:O4 k w0 own G F W a σ most l1 l2 L t N)(hm:Mod G.p W W')(E:∀x,j x\/o x->(G.p x\/G.c x)\/W.heap.size<=x)(I:JM e BG.toAvT j o W' a.p L' N')(J:N<=N') :
  ∃B,O4 { k with p:=e } w0 B { G with p:=j,c:=o } (fun x=>F x\/j x\/o x) W' a σ most l1 l2 L' t N':=by
 obtain⟨O,Q,T,f4,U,f6,V,X⟩:=h.frame (c:=3) (by decide) (by decide) hm (fun x i=>⟨h.cp x (.inl i),h.lo x (.inr (.inl (.inl i)))⟩) J;obtain⟨Y,Z,g3,g4,g5,g6,g7⟩:=X rfl;have z:=hm.size;have z0:=h.g.size;have hS:∀x,σ.S x->x<W.heap.size:=fun x i=>(h.cS x i).2;refine⟨_,O,Q (by decide),T (by decide),I,U (by decide),f6,Y,Z,g3,g7 h.cp E,g5,g6,fun x i=>?_,fun x i=>?_,V⟩
 .rcases i with i|i|i
  .exact .inl (h.lo x (.inl i))
  .exact .inr i
  .exact .inl (h.lo x (.inr (.inr i)))
 .have up:F x->w0.heap.size<=x/\x<W'.heap.size/\¬σ.S x:=fun i=>by have:=h.hl x i;exact⟨this.1,by omega,this.2.2⟩
  rcases i with i|i
  .exact up i
  .rcases E x i with e|e
   .exact up (h.lo x (.inr (.inl e)))
   .exact⟨by omega,I.lt x i,fun e=>by have:=hS x e;omega⟩
theorem O4.fI{j:Nat->Prop}(h:O4 k w0 own G F W a σ most l1 l2 L t N)(hm:Mod G.t W W')(B:∀x,j x->G.t x\/W.heap.size<=x/\x<W'.heap.size)(E:E8 j W' a.t σ t')(I:N<=N') :
  ∃o,O4 k w0 o { G with t:=j } (fun x=>F x\/j x) W' a σ most l1 l2 L t' N':=by
 obtain⟨J,O,Q,T,f5,f6,U,V⟩:=h.frame (c:=4) (by decide) (by decide) hm (fun x i=>⟨h.ct x i,h.lo x (.inr (.inr i))⟩) I;obtain⟨X,Y,Z,g4,g5,g6,g7⟩:=V rfl;have z:=hm.size;have z0:=h.g.size;have hS:∀x,σ.S x->x<W.heap.size:=fun x i=>(h.cS x i).2;refine⟨_,J,O (by decide),Q (by decide),T (by decide),E,f6,X,Y,Z,g4,g7 h.ct (fun x i=>(B x i).imp id qf),g6,fun x i=>?_,fun x i=>?_,U⟩
 .rcases i with i|i|i
  .exact .inl (h.lo x (.inl i))
  .exact .inl (h.lo x (.inr (.inl i)))
  .exact .inr i
 .have up:F x->w0.heap.size<=x/\x<W'.heap.size/\¬σ.S x:=fun i=>by have:=h.hl x i;exact⟨this.1,by omega,this.2.2⟩
  rcases i with i|i
  .exact up i
  .rcases B x i with e|e
   .exact up (h.lo x (.inr (.inr e)))
   .exact⟨by omega,e.2,fun e=>by have:=hS x e;omega⟩
theorem O4.mod(h:O4 k w0 own G F W a σ most l1 l2 L t N)(hm:Mod M W W')(j:∀x,M x->¬F x/\¬σ.S x/\w0.heap.size<=x):O4 k w0 own G F W' a σ most l1 l2 L t N:=by
 have z:=hm.size;exact ⟨h.box.mod hm fun e=>(j _ e).1 (h.lo _ (.inl (.inl rfl))),h.Hn.mod hm fun x i e=>(j x e).1 (i.elim (fun i=>h.lo x (.inl (.inr (.inl i)))) fun i=>i.elim),h.EX.mod hm fun x i e=>(j x e).1 (i.elim (fun i=>h.lo x (.inl (.inr (.inr i)))) fun i=>i.elim),h.para.mod hm fun x i e=>(j x e).1 (h.lo x (.inr (.inl i))),
  h.Qo.mod hm fun x i e=>i.elim (fun i=>(j x e).1 (h.lo x (.inr (.inr i)))) (j x e).2.1,h.JS.mod hm fun x _ i e=>(j x e).2.1 i,h.cb,h.cr,h.cs,h.cp,h.ct,fun x i=>⟨(h.cS x i).1,by have:=(h.cS x i).2;omega⟩,h.lo,fun x i=>⟨(h.hl x i).1,by have:=(h.hl x i).2.1;omega,(h.hl x i).2.2⟩,h.g.next hm fun x i e=>by have:=(j x e).2.2;omega⟩
end
def Hs(k:TxK)(w0:World)(F:Nat->Prop)(W:World)(a:TxA)(σ:SKs)(most:Int)(rs:List Int)(l2:List Spn)(L:List (List Attr))(t:Tab (List Attr))(N:Nat):Prop:=
 ∃own G l1,Bf l1=rs/\O4 k w0 own G F W a σ most l1 l2 L t N
def DK(k:TxK)(w0:World)(F:Nat->Prop)(W W':World)(a:TxA)(σ:SKs)(most:Int)(rs:List Int)(l2:List Spn)(L:List (List Attr))(t:Tab (List Attr))(N:Nat):Prop:=
 ∃F',(∀x,F' x->F x\/W.heap.size<=x)/\Hs k w0 F' W' a σ most rs l2 L t N/\Mod F W W'
section
variable {k:TxK}{w0:World}{F M:Nat->Prop}{W W':World}{a:TxA}{σ:SKs}{most:Int}{rs:List Int}{l2:List Spn}{L:List (List Attr)}{t:Tab (List Attr)}{N:Nat}
theorem Hs.Hn(h:Hs k w0 F W a σ most rs l2 L t N):∃l1 Fr,Bf l1=rs/\JM k.r A6.toAvT Fr GV W a.r l1 N/\(∀x,Fr x->F x/\x≠a.b)/\∀{W' j Xv N' e},Mod Fr W W'->(∀x,j x->Fr x\/W.heap.size<=x)->JM e A6.toAvT j GV W' a.r Xv N'->N<=N'->DK { k with r:=e } w0 F W W' a σ most (Bf Xv) l2 L t N':=by
 obtain⟨own,G,l1,h1,o⟩:=h;have up:∀x,G.r x->F x:=fun x i=>o.lo x (.inl (.inr (.inl i)));refine⟨l1,G.r,h1,o.Hn,fun x i=>⟨up x i,fun e=>by have I:=o.cr x i;have S:=o.cb;rw[e] at I;omega⟩,fun{W' j Xv N' e} hm E J O=>?_⟩;obtain⟨B,Q⟩:=o.YD hm E J O;exact⟨_,fun x i=>i.elim .inl fun i=>(E x i).imp (up x) id,⟨B,_,Xv,rfl,Q⟩,hm.mono fun x _ i=>up x i⟩
theorem Hs.EX(h:Hs k w0 F W a σ most rs l2 L t N):∃B,JM k.s DI.toAvT B GV W a.s l2 N/\(∀x,B x->F x)/\∀{W' i Uf N' e},Mod B W W'->(∀x,i x->B x\/W.heap.size<=x)->JM e DI.toAvT i GV W' a.s Uf N'->N<=N'->DK { k with s:=e } w0 F W W' a σ most rs Uf L t N':=by
 obtain⟨own,G,l1,h1,E⟩:=h;have up:∀x,G.s x->F x:=fun x j=>E.lo x (.inl (.inr (.inr j)));refine⟨G.s,E.EX,up,fun{W' i Uf N' e} hm I J O=>?_⟩;obtain⟨o,Q⟩:=E.Wn hm I J O;exact⟨_,fun x j=>j.elim .inl fun j=>(I x j).imp (up x) id,⟨o,_,l1,h1,Q⟩,hm.mono fun x _ j=>up x j⟩
theorem Hs.para(h:Hs k w0 F W a σ most rs l2 L t N):∃E I,JM k.p BG.toAvT E I W a.p L N/\(∀x,E x\/I x->F x)/\∀{W' i j L' N' e},Mod E W W'->(∀x,i x\/j x->(E x\/I x)\/W.heap.size<=x)->JM e BG.toAvT i j W' a.p L' N'->N<=N'->DK { k with p:=e } w0 F W W' a σ most rs l2 L' t N':=by
 obtain⟨own,G,l1,h1,J⟩:=h;have up:∀x,G.p x\/G.c x->F x:=fun x o=>J.lo x (.inr (.inl o));refine⟨G.p,G.c,J.para,up,fun{W' i j L' N' e} hm O Q S=>?_⟩;obtain⟨B,T⟩:=J.ZQ hm O Q S;exact⟨_,fun x o=>o.elim .inl fun o=>(O x o).imp (up x) id,⟨B,_,l1,h1,T⟩,hm.mono fun x _ o=>up x (.inl o)⟩
theorem Hs.Qo(h:Hs k w0 F W a σ most rs l2 L t N):∃o,E8 o W a.t σ t/\(∀x,o x->F x)/\∀{W' t'},Ja o W W' a.t σ t'->DK k w0 F W W' a σ most rs l2 L t' N:=by
 obtain⟨own,G,l1,h1,B⟩:=h;have up:∀x,G.t x->F x:=fun x i=>B.lo x (.inr (.inr i));refine⟨G.t,B.Qo,up,fun{W' t'} I=>?_⟩;obtain⟨J,E,O,hm⟩:=I;obtain⟨j,Q⟩:=B.fI hm E O (Lc _);exact⟨_,fun x i=>i.elim .inl fun i=>(E x i).imp (up x) qf,⟨j,_,l1,h1,Q⟩,hm.mono fun x _ i=>up x i⟩
theorem Hs.box(h:Hs k w0 F W a σ most rs l2 L t N):Bx W a.b (Ur σ.sv most a.r a.s a.p a.t)/\F a.b:=by
 obtain⟨own,G,l1,h1,i⟩:=h;exact⟨i.box,i.lo _ (.inl (.inl rfl))⟩
theorem Hs.JS(h:Hs k w0 F W a σ most rs l2 L t N):De σ.S W σ.sv σ.ks/\∀x,σ.S x->x<W.heap.size:=by
 obtain⟨own,G,l1,h1,i⟩:=h;exact⟨i.JS,fun x j=>(i.cS x j).2⟩
theorem Hs.hl(h:Hs k w0 F W a σ most rs l2 L t N):∀x,F x->w0.heap.size<=x/\x<W.heap.size/\¬σ.S x:=by
 obtain⟨own,G,l1,h1,i⟩:=h;exact i.hl
theorem Hs.g(h:Hs k w0 F W a σ most rs l2 L t N):Grow w0 W:=by
 obtain⟨own,G,l1,h1,i⟩:=h;exact i.g
theorem Hs.mod(h:Hs k w0 F W a σ most rs l2 L t N)(hm:Mod M W W')(i:∀x,M x->¬F x/\¬σ.S x/\w0.heap.size<=x):Hs k w0 F W' a σ most rs l2 L t N:=by
 obtain⟨own,G,l1,h1,j⟩:=h;exact⟨own,G,l1,h1,j.mod hm i⟩
theorem Hs.grow(h:Hs k w0 F W a σ most rs l2 L t N)(hm:Grow W W'):Hs k w0 F W' a σ most rs l2 L t N:=h.mod hm fun _ h=>h.elim
theorem Hs.same(h:Hs k w0 F W a σ most rs l2 L t N)(hm:Grow W W'):DK k w0 F W W' a σ most rs l2 L t N:=⟨F,fun _ h=>.inl h,h.grow hm,hm.mono fun _ _ h=>h.elim⟩
theorem Hs.SS(h:Hs .f w0 F W a σ most rs l2 L t N):∃l1 Fr bt,Bf l1=rs/\Dj A6.toAvT Fr GV W a.r bt l1 N/\(∀x,Fr x->F x/\x≠a.b)/\∀{W' i Xv N'},Mod Fr W W'->(∀x,i x->Fr x\/W.heap.size<=x)->Dj A6.toAvT i GV W' a.r bt Xv N'->N<=N'->DK .f w0 F W W' a σ most (Bf Xv) l2 L t N':=by
 obtain⟨l1,Fr,h1,j,o,B⟩:=h.Hn;obtain⟨bt,j⟩:=j.t;exact⟨l1,Fr,bt,h1,j,o,fun hm E I J=>B (e:=false) hm E (.inl ⟨bt,I⟩) J⟩
theorem Hs.Q9(h:Hs .f w0 F W a σ most rs l2 L t N):∃i bt,Dj DI.toAvT i GV W a.s bt l2 N/\(∀x,i x->F x)/\∀{W' j Uf N'},Mod i W W'->(∀x,j x->i x\/W.heap.size<=x)->Dj DI.toAvT j GV W' a.s bt Uf N'->N<=N'->DK .f w0 F W W' a σ most rs Uf L t N':=by
 obtain⟨i,o,B,E⟩:=h.EX;obtain⟨bt,o⟩:=o.t;exact⟨i,bt,o,B,fun hm I J O=>E (e:=false) hm I (.inl ⟨bt,J⟩) O⟩
theorem Hs.WN(h:Hs .f w0 F W a σ most rs l2 L t N):∃i j bt,Dj BG.toAvT i j W a.p bt L N/\(∀x,i x\/j x->F x)/\∀{W' o B L' N'},Mod i W W'->(∀x,o x\/B x->(i x\/j x)\/W.heap.size<=x)->Dj BG.toAvT o B W' a.p bt L' N'->N<=N'->DK .f w0 F W W' a σ most rs l2 L' t N':=by
 obtain⟨i,j,E,I,J⟩:=h.para;obtain⟨bt,E⟩:=E.t;exact⟨i,j,bt,E,I,fun hm O Q S=>J (e:=false) hm O (.inl ⟨bt,Q⟩) S⟩
theorem DK.next{j:TxK}{o:Nat->Prop}{B:World}{i:List Int}{L':List (List Attr)}{t':Tab (List Attr)}{N':Nat}(E:∀x,o x->F x\/W.heap.size<=x)(hm:Mod F W B)(h:DK j w0 o B W' a σ most i s L' t' N'):DK j w0 F W W' a σ most i s L' t' N':=by
 obtain⟨J,h1,O,Q⟩:=h;have z:=hm.size;refine⟨J,fun x I=>?_,O,hm.next Q fun x I e=>?_⟩
 .rcases h1 x I with e|e
  .exact E x e
  .exact .inr (by omega)
 .rcases E x e with e|e
  .exact e
  .omega
theorem DK.step{i:World}(g:Grow W i)(h:DK k w0 F i W' a σ most rs l2 L t N):DK k w0 F W W' a σ most rs l2 L t N:=DK.next (fun _ h=>.inl h) (g.mono fun _ _ h=>h.elim) h
theorem DK.up{N':Nat}(h:DK k w0 F W W' a σ most rs l2 L t N)(j:N<=N'):DK k w0 F W W' a σ most rs l2 L t N':=by
 obtain⟨F',h1,⟨own,G,l1,o,i⟩,B⟩:=h;exact⟨F',h1,⟨own,G,l1,o,i.box,i.Hn.up j,i.EX.up j,i.para.up j,i.Qo,i.JS,i.cb,i.cr,i.cs,i.cp,i.ct,i.cS,i.lo,i.hl,i.g⟩,B⟩
end
section
variable {α:Type}[DecidableEq α]{t t':Tab α}{z s:α}{f:Int->α}{h:Int->Nat}{id:Int}{G:α->Prop}
theorem Tab.Holds.idle(i:t.Holds z f h)(h0:0<h id\/id=0):0<=id/\id<=t.places.length:=by
 rcases h0 with h0|rfl;rotate_left
 .omega
 obtain⟨n,h1⟩:=i.has h0;by_cases o:id=0
 .omega
 .obtain⟨j,rfl,hp⟩:=h1.pos o;have:=(Bp.1 hp).1;omega
omit [DecidableEq α] in
theorem Tab.YF:(t.hold z id).places.length=t.places.length:=by
 unfold Tab.hold;cases t.ask z id with
 |none=>rfl
 |some p=>
  dsimp only;split
  .rfl
  .show(t.places.set _ _).length=_;rw[kC]
omit [DecidableEq α] in
theorem Tab.Lv:(t.release z id).places.length=t.places.length:=by
 unfold Tab.release;cases t.ask z id with
 |none=>rfl
 |some p=>
  dsimp only;split
  .rfl
  .split<;>(show(t.places.set _ _).length=_;rw[kC])
omit [DecidableEq α] in
theorem Tab.Ky.pl(ha:t.Ky z s id t'):t'.places.length<=t.places.length+1:=by
 rcases ha with⟨_,_,rfl⟩|⟨_,i,n,hp,j,_,rfl⟩|⟨_,_,_,rfl⟩
 .exact qZ _
 .show(t.places.set _ _).length<=_;rw[kC];omega
 .unfold Tab.put;cases t.free.getLast? with
  |some i=>show(t.places.set _ _).length<=_;rw[kC];omega
  |none=>show(t.places++[_]).length<=_;rw[Bq,mu];omega
theorem Ss{r:List (α×Int)}(i:t.GZ z r)(hi:t.Inv G)(B:∀p∈r,p.1=f p.2){p:α×Int}(hp:p∈r):HL r p.1=r.countP fun q=>decide (q.2=p.2):=by
 unfold HL;rw[List.countP_eq_length_filter];congr 1
 refine List.filter_congr fun q j=>?_;have hu:=Tab.Has.uniq hi (i.has q j) (i.has p hp);by_cases e:q.2=p.2
 .simp[e,hu.1 e]
 .have e':¬q.1=p.1:=fun o=>e (hu.2 o);simp[e,e']
theorem Tab.Holds.small(I:t.Holds z f h)(hi:t.Inv G)(X:∀s,G s->s≠z){H:Nat}(T:∀x,h x<=H)(hp:t.places.length<=H):t.Small H:=by
 obtain⟨_,r,h1,U,V⟩:=I;refine⟨hp,?_,fun q Y=>?_⟩
 .rw[h1.em];refine pA fun J=>?_;obtain⟨p,o,e⟩:=Ll (r:=r) (x:=z) (by omega);rw[<-e,Ss h1 hi U o,V] at J;have:=T p.2;omega
 .refine pA fun J=>?_;obtain⟨i,O,e⟩:=nx.1 Y;have B:t.places[i]?=some q:=by rw[By O,e]
  obtain⟨p,o,e'⟩:=h1.pl i q B (by omega);have I:=h1.has p o;have Q:p.2≠0:=fun e0=>X _ (hi.ok i q B (by omega)) (e'▸I.2.2.1 e0);obtain⟨j,Z,E⟩:=I.pos Q;have S:=hi.Ho i j q _ B E (by omega) I.2.1 e'.symm;subst S;rw[B] at E;have:q.held=HL r p.1:=by cases E;rfl
  rw[Ss h1 hi U o,V] at this;have:=T p.2;omega
end
namespace Spn
theorem QV(x:Int)(p:Option Int)(l:List Int):rn x p l<=l.length:=by
 induction l generalizing p with
 |nil=>exact Lc _
 |cons y l i=>
  rw[rn,Vn];have:=i (some y);split<;>omega
theorem I8{x:Int}{p:Option Int}{l:List Int}(i:x∈l)(hp:p≠some x):0<rn x p l:=by
 induction l generalizing p with
 |nil=>cases i
 |cons y l j=>
  rw[rn];by_cases e:y=x
  .rw[Io ⟨e,hp⟩];omega
  .have h1:x∈l:=(I3.1 i).resolve_left fun h=>e h.symm;have:=j (p:=some y) h1 (fun h=>e (kK h));omega
theorem Vb{x:Int}{p:Option Int}{l:List Int}(h:0<rn x p l):x∈l:=by
 induction l generalizing p with
 |nil=>simp[rn] at h
 |cons y l i=>
  rw[rn] at h;by_cases e:y=x
  .exact I3.2 (.inl e.symm)
  .rw[C3 fun h=>e h.1] at h;exact fX _ (i (p:=some y) (by omega))
theorem ZS(s:Spn)(o:i<j)(E:j<=s.n):kd.part s i j=⟨j-i,s.id⟩:=by
 have B:(kd.μ s).1=s.n:=rfl;unfold Kd.part;rw[B];by_cases h:j<s.n
 .rw[Io h];by_cases h0:0<i
  .rw[Io h0];rfl
  .rw[C3 h0,show i=0 by omega];rfl
 .rw[C3 h,show j=s.n by omega];by_cases h0:0<i
  .rw[Io h0];rfl
  .rw[C3 h0,show i=0 by omega];rfl
theorem TW{l:List Spn}:∀{p:Option Int} (_:Hj p l) (i j:Nat),Hj (if i=0 then p else none) (kd.over l i j):=by
 induction l with
 |nil=>intro p _ i j;exact trivial
 |cons s l B=>
  intro p h i j;obtain⟨h1,I,E⟩:=h;have J:(kd.μ s).1=s.n:=rfl;rw[Kd.over,J];by_cases o:i<min j s.n
  .rw[Io o,ZS s o (Nat.min_le_right _ _)];have:=B E (i-s.n) (j-s.n);rw[Io (by omega)] at this;refine⟨by show 0<min j s.n-i;omega,?_,this⟩;split
   .exact I
   .simp
  .rw[C3 o,kS];by_cases O:j<=i
   .rw[Kd.Ed _ _ (by omega)];exact trivial
   .have:=MB (B E (i-s.n) (j-s.n));rw[C3 (by omega)];exact this
theorem HI{p:Option Int}{l:List Spn}(h:Hj p l)(i j:Nat):Hj none (kd.over l i j):=MB (TW h i j)
theorem Fi{p:Option Int}{l:List Spn}(h:Hj p l):l.length<=(l.flatMap u).length:=by
 induction l generalizing p with
 |nil=>exact Lc _
 |cons s l i=>
  have:=i h.2.2;have:=h.1;rw[kp,Bq,u,lD,Vn];omega
theorem Th{l:List Spn}{x:Int}(h:x∈l.flatMap u):∃s∈l,s.id=x:=by
 obtain⟨s,i,j⟩:=qA.1 h;exact⟨s,i,(List.mem_replicate.1 j).2.symm⟩
theorem KO{l:List Spn}{s:Spn}(i:s∈l)(j:0<s.n):s.id∈l.flatMap u:=qA.2 ⟨s,i,List.mem_replicate.2 ⟨by omega,rfl⟩⟩
abbrev Df(l:List Spn)(x:Int):Nat:=l.countP fun s=>decide (s.id=x)
structure jU (l2 row:List Spn) (i j:Nat):Prop where
 same:∀x,rn x none ((kd.Bw l2 i j row).flatMap u)+Df (kd.over l2 (i-1) (min (j+1) (l2.flatMap u).length)) x=rn x none (l2.flatMap u)+Df (kd.over (kd.Bw l2 i j row) (i-1) (min (j+1) (l2.flatMap u).length-(j-i)+(row.flatMap u).length)) x
 mem:∀x,0<Df (kd.over (kd.Bw l2 i j row) (i-1) (min (j+1) (l2.flatMap u).length-(j-i)+(row.flatMap u).length)) x->x∈l2.flatMap u\/x∈row.flatMap u
 len:(kd.over l2 (i-1) (min (j+1) (l2.flatMap u).length)).length<=(l2.flatMap u).length/\(kd.over (kd.Bw l2 i j row) (i-1) (min (j+1) (l2.flatMap u).length-(j-i)+(row.flatMap u).length)).length<=(l2.flatMap u).length+(row.flatMap u).length
theorem U2(P Q R:List α){a b:Nat}(ha:a=P.length)(hb:b=P.length+Q.length):((P++Q++R).take b).drop a=Q:=by
 subst ha hb;rw[nd (by rw[Bq]),oH rfl]
theorem jK(row:List Spn)(hp:Hj none s)(S:i<=j)(hj:j<=(s.flatMap u).length):jU s row i j:=by
 have T:=II i j row hp;have eu:(kd.Bw s i j row).flatMap u=(s.flatMap u).take i++row.flatMap u++(s.flatMap u).drop j:=EE.Bw s row S;generalize o:s.flatMap u=ids at *;generalize E:row.flatMap u=Q at *
 let P:=ids.take (i-1)
 let I:=(ids.take i).drop (i-1)
 let B:=(ids.take j).drop i
 let J:=(ids.drop j).take 1
 let R:=(ids.drop j).drop 1
 have eA:ids.take i=P++I:=by
  have:=(S9 (i-1) (ids.take i)).symm;rwa [lz,kY (by omega)] at this
 have eC:ids.drop j=J++R:=(S9 1 _).symm;have eB:ids=ids.take i++B++ids.drop j:=by
  have h1:=(S9 i (ids.take j)).symm;rw[lz,kY S] at h1;rw[<-h1,S9]
 have Y:ids=P++(I++B++J)++R:=by
  conv=>lhs;rw[eB,eA,eC]
  simp only[PF]
 have e2:(kd.Bw s i j row).flatMap u=P++(I++Q++J)++R:=by
  rw[eu,eA,eC];simp only[PF]
 have U:P.length=i-1:=by show(ids.take (i-1)).length=_;rw[Mp];omega
 have V:I.length=i-(i-1):=by show((ids.take i).drop (i-1)).length=_;rw[K8,Mp];omega
 have lB:B.length=j-i:=by show((ids.take j).drop i).length=_;rw[K8,Mp];omega
 have X:J.length=min 1 (ids.length-j):=by show((ids.drop j).take 1).length=_;rw[Mp,K8]
 have lR:R.length=ids.length-j-1:=by show((ids.drop j).drop 1).length=_;rw[K8,K8]
 have u1:(kd.over s (i-1) (min (j+1) ids.length)).flatMap u=I++B++J:=by
  rw[EE.over,o];have:=U2 P (I++B++J) R (b:=min (j+1) ids.length) U.symm (by rw[Bq,Bq,U,V,lB,X];omega);rw[<-Y] at this;exact this
 have Z:(kd.over (kd.Bw s i j row) (i-1) (min (j+1) ids.length-(j-i)+Q.length)).flatMap u=I++Q++J:=by
  rw[EE.over,e2];exact U2 _ _ _ U.symm (by rw[Bq,Bq,U,V,X];omega)
 have c1:=fun x=>U6 x none _ (HI hp (i-1) (min (j+1) ids.length));have c2:=fun x=>U6 x none _ (HI T (i-1) (min (j+1) ids.length-(j-i)+Q.length));have n1:=Fi (HI hp (i-1) (min (j+1) ids.length));have n2:=Fi (HI T (i-1) (min (j+1) ids.length-(j-i)+Q.length));rw[u1] at n1;rw[Z] at n2;refine⟨fun x=>?_,fun x hx=>?_,?_,?_⟩
 .rw[E,o,Df,Df,c1,c2,u1,Z,e2];have:=T5 x P (I++B++J) (I++Q++J) R (fun O=>?_) (fun O=>?_)
  .rw[<-Y] at this;omega
  .have:P.length≠0:=fun h=>O (QC h);cases hA:I with
   |nil=>rw[hA] at V;simp at V;omega
   |cons y A2=>simp
  .have:R.length≠0:=fun h=>O (QC h);have hC:J≠[]:=fun h=>by rw[h] at X;simp at X;omega
   exact⟨by simp[S5,lj hC],by simp[hC],by simp[hC]⟩
 .rw[E,o,Df,c2,Z] at hx;have hm:=Vb hx;rw[o,E];rcases DN.1 hm with hm|hm
  .rcases DN.1 hm with hm|hm
   .exact .inl (kO (kP hm))
   .exact .inr hm
  .exact .inl (kP (kO hm))
 .rw[o];have:=kM List.length Y;simp only[Bq] at this n1;omega
 .rw[o,E];simp only[Bq] at n2;omega
end Spn
theorem E8.inv{b:Nat}{ks:SKs}{t:Tab (List Attr)}(h:E8 F W b ks t):t.Inv (GY ks.ks):=by
 obtain⟨C,pl,fr,bm,i⟩:=h;exact i.core.inv
theorem GY.ne:∀s,GY ks s->s≠[]:=fun _ h=>h.1
section
variable {k:TxK}{w0:World}{F:Nat->Prop}{W:World}{a:TxA}{σ:SKs}{most:Int}{rs:List Int}{l2:List Spn}{L:List (List Attr)}{t:Tab (List Attr)}{N:Nat}
theorem Kj{fn:Nat}{op:Tab (List Attr)->Int->Tab (List Attr)}{row:List Spn}{P:Nat->Tab (List Attr)->Prop}{Kend:World->Prop}
 (call:∀{Z W t id},E8 Z W a.t σ t->t.Small 1099511627->0<=id->id<=1099511627->AB prog fn [.pointer (some ⟨a.t,0,none⟩),.int .i64 id] (fun _ w'=>Ja Z W w' a.t σ (op t id)) W)
 (rd:BB S 2 Dx W v row)(hS:∀x,S x->¬F x)(hl:row.length<=1099511627776)
 (o:∀(m:Nat) (hm:m<row.length) t,P m t->t.Inv (GY σ.ks)->t.Small 1099511627/\0<=row[m].id/\row[m].id<=1099511627/\P (m+1) (op t row[m].id))
 (h:Hs k w0 F W a σ most rs l2 L t N)(h0:P 0 t)
 (hK:∀W' t',DK k w0 F W W' a σ most rs l2 L t' N->P row.length t'->Kend W') :
  Aq [(.int .i64 0)] (fun vs B I=>∀_:Env,
   Bb .i64 (nth vs 0) (.int .i64 (row.length:Int)) fun a1=>
   AD a1
   (BQ 2 v (nth vs 0) fun a6=>
   Af 2 a6 (fun a7 a8=>
   Am 108 [(.int .i64 0),(.int .i64 0)] (fun J ak=>
   Ac 2 J a7 (fun E=>
   Ay [6] [[],[0],[0,1],[0,1,2],[],[4],[0,1,2,3,4,5]] E.drew (fun M St=>
   AJ (.pointer (some ⟨a.b,0,none⟩)) fun al=>
   AM 5 al fun an=>
   BF (St 3) an fun av=>
   AM 1 J fun ax=>
   BF (St 5) ax fun ay=>
   AB prog fn [av,ay] (fun _t87 O=>
   Mod (M 6) E.drew O/\
   AX .i64 (nth vs 0) (.int .i64 1) fun b0=>
   B [b0] O) E.drew)) ak) a8) I)
   (Kend I)) W:=by
 obtain⟨ra,rc,rfl,_⟩:=rd.shape;have Q:=rd.GQ (by decide);refine Ab (fun vs W'=>∃(m:Nat) (t':Tab (List Attr)),m<=row.length/\vs=[.int .i64 m]/\DK k w0 F W W' a σ most rs l2 L t' N/\P m t') (fun vs _=>row.length-Ds vs 0) ⟨0,t,Nn _,rfl,h.same (Mod.refl _ _),h0⟩ ?_;rintro vs W1 ⟨m,t1,hm,rfl,⟨F1,f1,h1,X⟩,hP⟩ _;simp only[B0,Of];rw[Ap];have z1:=X.size;refine AF (fun b8=>?_) fun b9=>?_;rotate_left
 .obtain rfl:m=row.length:=by omega
  exact hK W1 t1 ⟨F1,f1,h1,X⟩ hP
 have i:m<row.length:=by omega
 obtain⟨p,r,rfl,_,hr,hc,b3⟩:=Q.get i;have T:r=row[m].cells:=b3;subst T;obtain⟨p',r',e',b4,_⟩:=Q.get i;cases e';refine AU i (Aj (vs:=row[m].cells) rfl (fun j u hu=>by rw[Addr.add_add];exact X.cell (hc j u hu) fun e=>hS _ b4.1 (by rw[BO] at e;exact e)) ?_);refine Bx.new (vs:=row[m].cells) rfl rfl (Spn.one _) fun b5 W2 ba g2 B5=>?_;have Y:Grow W2 W2.drew:=Mod.drew _ _;have h2:=h1.grow (g2.trans Y);obtain⟨hB,bb⟩:=h2.box;have b6:=B5.grow Y;obtain⟨Z,hT,bc,put⟩:=h2.Qo;have zd:=(g2.trans Y).size;have U:∀x,F1 x->x≠b5:=fun x V e=>by have:=(h1.hl x V).2.1;omega
 refine Ai (fun q y=>q=6/\F1 y) ?_;refine AI ?_;rw[AG,AH];refine AY ⟨hB.cells 5 _ rfl,fun j hj e=>by obtain⟨rfl,_⟩:=e;exact absurd hj (by decide)⟩ ?_;rw[AG,AH];refine AY ⟨b6.cells 1 _ rfl,fun j hj e=>U _ e.2 rfl⟩ ?_;obtain⟨q1,q2,q3,q4⟩:=o m i t1 hP hT.inv;refine AA (call hT q1 q2 q3) ?_;rintro _ W3 hA;obtain⟨F3,f3,h3,m3⟩:=put hA;refine⟨m3.mono fun x _ V=>⟨rfl,V⟩,?_⟩;rw[AR,AO (by omega)];have b7:Mod F W W2.drew:=X.next (g2.trans Y) fun _ _ e=>e.elim;refine⟨⟨m+1,_,i,rfl,DK.next (fun x V=>(f1 x V)) b7 ⟨F3,f3,h3,m3⟩,q4⟩,by rw[DG,DG];omega⟩
end
theorem Yl{e:Bool}{b N:Nat}{l:List Spn}(h:JM e DI.toAvT F GV W b l N) :
  AB prog 111 [.pointer (some ⟨b,0,none⟩)] (fun v' w'=>v'=.int .i64 (Ef l:Int)/\∃bt F',Dj DI.toAvT F' GV w' b bt l N/\(∀x,F' x->F x\/W.heap.size<=x)/\Mod F W w') W:=by
 rcases h with⟨bt,h⟩|⟨_,j,rfl,i,E⟩
 .refine AA (MV Hu h) ?_;rintro _ w ⟨rfl,g⟩;exact⟨rfl,bt,F,h.grow g,fun _ h=>.inl h,g.mono fun _ _ h=>h.elim⟩
 .refine AA (VH (g:=DI.toAvT) (C:=GV) Hu j (fun h=>h) fun _ h=>h.elim) ?_;rintro _ w ⟨rfl,bt,F',k1,k2,o⟩;exact⟨rfl,bt,F',k1.up (Nn _),fun x B=>(k2 x B).imp (fun e=>(i x).2 e) id,o.mono fun x _ e=>(i x).2 e⟩
namespace Spn
theorem Lp(l:List Spn){m:Nat}(hm:m<l.length)(x:Int):Df (l.take (m+1)) x=Df (l.take m) x+if x=l[m].id then 1 else 0:=by
 have i:l.take (m+1)=l.take m++[l[m]]:=by rw[No];simp[hm]
 rw[Df,Df,i,oU,oD,List.countP_nil];by_cases e:x=l[m].id
 .rw[Io e,Io (by simp[e])]
 .rw[C3 e,C3 (by simp[mW e])]
theorem Ku(l:List Spn)(m:Nat)(x:Int):Df (l.take m) x<=Df l x:=by
 have:Df l x=Df (l.take m) x+Df (l.drop m) x:=by rw[Df,Df,Df,<-oU,S9]
 omega
theorem Od{l:List Spn}{s:Spn}(h:s∈l):0<Df l s.id:=oG.2 ⟨s,h,by simp⟩
theorem MJ(l:List Spn)(x:Int):Df l x<=l.length:=List.countP_le_length
end Spn
section
variable {k:TxK}{w0:World}{F:Nat->Prop}{W:World}{a:TxA}{σ:SKs}{most:Int}{rs:List Int}{l2:List Spn}{L:List (List Attr)}{t:Tab (List Attr)}{N:Nat}
theorem T4{f:Int->List Attr}{h:Int->Nat}{i:List Spn}{M:Nat}(I:M<=1000000000)(o:∀s∈i,0<h s.id\/s.id=0)(hb:∀x,h x+i.length<=1000000000)(ks:List DKey) :
  ∀(m:Nat) (hm:m<i.length) (t:Tab (List Attr)),(t.Holds [] f (fun x=>h x+Spn.Df (i.take m) x)/\t.places.length=M)->t.Inv (GY ks)->
   t.Small 1099511627/\0<=i[m].id/\i[m].id<=1099511627/\((t.hold [] i[m].id).Holds [] f (fun x=>h x+Spn.Df (i.take (m+1)) x)/\(t.hold [] i[m].id).places.length=M):=by
 rintro m hm t ⟨B,hp⟩ hi;have J:=o i[m] (gC hm);have j:0<h i[m].id+Spn.Df (i.take m) i[m].id\/i[m].id=0:=by omega
 obtain⟨E,O⟩:=B.idle j;refine⟨(B.small hi GY.ne (H:=1000000000) (fun x=>?_) (by omega)).le (by omega),E,by omega,(B.hold hi j).congr fun x=>?_,by rw[Tab.YF];exact hp⟩
 .have:=Spn.Ku i m x;have:=Spn.MJ i x;have:=hb x;omega
 .rw[Spn.Lp i hm];omega
theorem Nu{f:Int->List Attr}{h:Int->Nat}{M:Nat}(E:M<=1000000000)(j:∀x,Spn.Df s x<=h x)(hb:∀x,h x<=1000000000)(ks:List DKey) :
  ∀(m:Nat) (hm:m<s.length) (t:Tab (List Attr)),(t.Holds [] f (fun x=>h x-Spn.Df (s.take m) x)/\t.places.length=M)->t.Inv (GY ks)->
   t.Small 1099511627/\0<=s[m].id/\s[m].id<=1099511627/\((t.release [] s[m].id).Holds [] f (fun x=>h x-Spn.Df (s.take (m+1)) x)/\(t.release [] s[m].id).places.length=M):=by
 rintro m hm t ⟨o,hp⟩ hi;have h1:=Spn.Lp s hm s[m].id;rw[Io rfl] at h1;have I:=Spn.Ku s (m+1) s[m].id;have J:=j s[m].id;have i:0<h s[m].id-Spn.Df (s.take m) s[m].id:=by omega
 obtain⟨B,O⟩:=o.idle (.inl i);refine⟨(o.small hi GY.ne (H:=1000000000) (fun x=>?_) (by omega)).le (by omega),B,by omega,(o.free hi GY.ne i).congr fun x=>?_,by rw[Tab.Lv];exact hp⟩
 .have:=hb x;omega
 .rw[Spn.Lp s hm];omega
theorem TK{i:Nat->Prop}{id:Int}(j:E8 i W a.t σ t)(o:t.Small 1099511627)(h0:0<=id)(h1:id<=1099511627):AB prog 152 [.pointer (some ⟨a.t,0,none⟩),.int .i64 id] (fun _ w'=>Ja i W w' a.t σ (t.hold [] id)) W:=
 AA (U1 j (o.le (by omega)) (by omega) (by omega)) fun _ _ h=>h.2
theorem KQ{i:Nat->Prop}{id:Int}(j:E8 i W a.t σ t)(o:t.Small 1099511627)(h0:0<=id)(h1:id<=1099511627):AB prog 79 [.pointer (some ⟨a.t,0,none⟩),.int .i64 id] (fun _ w'=>Ja i W w' a.t σ (t.release [] id)) W:=
 AA (VU j o (by omega) (by omega)) fun _ _ h=>h.2
theorem Km{row:List Spn}{f:Int->List Attr}{ex:Int->Nat}
 (h:Hs k w0 F W a σ most rs l2 L t N)(hp:Spn.Hj none l2)(hh:t.Holds [] f fun x=>Spn.rn x none (l2.flatMap Spn.u)+ex x)
 (Y:i<=j)(hj:j<=(l2.flatMap Spn.u).length)(hv:BB S 2 Dx W v row)(hS:∀x,S x->¬F x)
 (J:∀s∈row,0<s.n/\(0<ex s.id\/s.id=0))(hz:(l2.flatMap Spn.u).length+(row.flatMap Spn.u).length<=100000000)(bd:∀x,ex x<=100000000)(hN:N<=1000000000)(a1:t.places.length<=1000000000) :
  AB prog 78 [.pointer (some ⟨a.b,0,none⟩),.int .i64 (i:Int),.int .i64 (j:Int),v] (fun v' w'=>v'=.tuple #[]/\∃t',DK { k with s:=false } w0 F W w' a σ most rs (Spn.kd.Bw l2 i j row) L t' (N+row.length+4)/\t'.Holds [] f (fun x=>Spn.rn x none ((Spn.kd.Bw l2 i j row).flatMap Spn.u)+ex x)/\t'.places.length=t.places.length) W:=by
 apply de;obtain⟨w1,w2,w3,w4⟩:=Spn.jK row hp Y hj;have cd:row.length<=(row.flatMap Spn.u).length:=by
  clear hv hz w1 w2 w3 w4;induction row with
  |nil=>exact Lc _
  |cons s row ih=>
   have:=(J s (by simp)).1;have:=ih fun s U=>J s (by simp[U]);rw[kp,Bq,Spn.u,lD,Vn];omega
 have ch:=Spn.Fi hp;have e0:(if(0:Int)>(i:Int)-1 then(0:Int) else(i:Int)-1)=((i-1:Nat):Int):=by split<;>omega
 have bk:∀x,Spn.rn x none (l2.flatMap Spn.u)<=(l2.flatMap Spn.u).length:=fun x=>Spn.QV x none _;have a6:Ef l2=(l2.flatMap Spn.u).length:=Dy l2;have a7:Ef row=(row.flatMap Spn.u).length:=Dy row;have a8:∀s∈row,0<=s.id:=fun s U=>(hh.idle (id:=s.id) (by have:=(J s U).2;omega)).1;have c9:Ef (Spn.kd.Bw l2 i j row)+(j-i)=Ef l2+Ef row:=(Sd (l:=l2) (L:=row) (by omega) Y (by omega)).1;generalize hn:(l2.flatMap Spn.u).length=n at *;generalize cn:(row.flatMap Spn.u).length=nr at *;rw[Av,G1,wrap64 (by omega) (by omega),e0,AR,wrap64 (by omega) (by omega)];refine AI ?_;refine Bt (h.box.1.cells 3 _ rfl) ?_;obtain⟨Fs,E,I,put⟩:=h.EX;refine AA (Yl E) ?_;rintro _ W1 ⟨rfl,bt,cv,ak,X,m1⟩;obtain⟨F1,f1,h1,M1⟩:=put (e:=false) m1 X (.inl ⟨bt,ak⟩) (Lc _);clear E put I X ak;have bl:BB (fun x=>S x/\x<W.heap.size) 2 Dx W1 v row:=(hv.GQ (by decide)).mod M1 (fun x _ o e=>hS x o.1 e) (by decide) fun _ _ h=>h;have al:∀x,S x/\x<W.heap.size->¬F1 x:=fun x o e=>by
  rcases f1 x e with e|e
  .exact hS x o.1 e
  .omega
 have an:(if(Ef l2:Int)<(j:Int)+1 then(Ef l2:Int) else(j:Int)+1)=((min (j+1) n:Nat):Int):=by rw[a6];split<;>omega
 rw[HY,an];refine AI ?_;refine Bt (h1.box.1.cells 3 _ rfl) ?_;obtain⟨Fs,E,I,put⟩:=h1.EX;obtain⟨bt,E⟩:=E.t;refine AA (J9 (i:=i-1) (j:=min (j+1) n) E (by omega) (by omega) (by omega) (by omega) (by omega)) ?_;rintro _ W2 ⟨wv,rfl,oW,g2⟩;refine BV ?_;generalize ca:Spn.kd.over l2 (i-1) (min (j+1) n)=Jq at *;have h2:=h1.grow g2;refine AI ?_;refine Bt (h2.box.1.cells 3 _ rfl) ?_;clear E put I;obtain⟨Fs,E,I,put⟩:=h2.EX;obtain⟨bt,E⟩:=E.t;have av:=bl.grow g2 (by decide) fun _ _ h=>h;refine AA (TG E (L:=row) (by omega) Y (by omega) (by omega) av (fun x o e=>al x o (I x e)) a8) ?_;rintro _ W3 ⟨_,cx,k1,k2,k3,k4⟩;obtain⟨F3,f3,h3,M3⟩:=put (e:=false) k4 k2 (.inl ⟨bt,k3⟩) (N':=N+row.length+4) (by omega);clear E put I k1 k2 k3;generalize bn:Spn.kd.Bw l2 i j row=l3 at *;have z1:=M1.size;have z2:=g2.size;have z3:=M3.size;have Q:=AE.BA oW;have T:∀x,F1 x->x<W1.heap.size:=fun x o=>(h1.hl x o).2.1;have ax:∀x,wv.ownBlock=some x->¬F3 x:=fun x o e=>by
  have:=Q x o;rcases f3 x e with e|e
  .have:=T x e;omega
  .omega
 have ay:AE W1.heap.size 108 2 Dx W3 wv Jq:=AE.mod (R':=Dx) oW M3 (fun x o e=>by have:=Q x o;have:=T x e;omega) fun _ _ _ h=>h;have b0:BB (fun x=>S x/\x<W.heap.size) 2 Dx W3 v row:=av.mod M3 (fun x _ o e=>al x o e) (by decide) fun _ _ h=>h;have b3:=AE.sl ay;obtain⟨ra,rc,ev,_⟩:=b0.shape;obtain⟨wa,wc,ew,_⟩:=b3.shape;have bp:((min (j+1) n:Nat):Int)+((i:Int)-(j:Int))=((min (j+1) n-(j-i):Nat):Int):=by omega
 rw[Av,wrap64 (by omega) (by omega),AR,wrap64 (by omega) (by omega),bp];subst ev;rw[AP];refine Ab (fun vs W'=>∃m:Nat,m<=row.length/\vs=[.int .i64 ((min (j+1) n-(j-i)+Ef (row.take m):Nat):Int),.int .i64 m]/\Grow W3 W') (fun vs _=>row.length-Ds vs 1) ⟨0,Nn _,by simp[Ef,Tr.sz],Mod.refl _ _⟩ ?_;rintro vs W4 ⟨m,hm,rfl,g4⟩ _;simp only[GJ];refine H6 (fun dk=>?_) fun dv=>?_
 .have O:m<row.length:=by omega
  have bs:row.take (m+1)=row.take m++[row[m]]:=by rw[No];simp[O]
  have dT:Ef row=Ef (row.take (m+1))+Ef (row.drop (m+1)):=by unfold Ef;rw[<-Tr.CT,S9]
  have b4:Ef (row.take (m+1))=Ef (row.take m)+row[m].n:=by rw[bs];unfold Ef;rw[Tr.CT];simp[Tr.sz,Spn.kd]
  obtain⟨p,r,rfl,e1,hr,hc,rfl⟩:=b0.get O;refine AU O (Aj (vs:=row[m].cells) rfl (fun j u hu=>by rw[Addr.add_add];exact g4.cell (hc j u hu) fun h=>h) ?_);refine Bx.new (vs:=row[m].cells) rfl rfl (Spn.one _) fun e2 w7 hb g7 B=>?_;refine Bt (B.cells 0 _ rfl) ?_;rw[AR,wrap64 (by omega) (by omega),AR,AO (by omega)];refine⟨⟨m+1,O,?_,g4.trans g7⟩,by rw[BL,BL];omega⟩;rw[b4];congr 2
  omega
 obtain rfl:m=row.length:=by omega
 rw[Nr,a7];have h4:=h3.grow g4;have z4:=g4.size;refine AI ?_;refine Bt (h4.box.1.cells 3 _ rfl) ?_;obtain⟨Fs,E,I,put⟩:=h4.EX;obtain⟨bt,E⟩:=E.t;have bc:l3.length<=Ef l3:=by rw[Dy,<-bn];exact Spn.Fi (Spn.II i j row hp)
 refine AA (J9 (i:=i-1) (j:=min (j+1) n-(j-i)+nr) E (by omega) (by omega) (by omega) (by omega) (by omega)) ?_;rintro _ W5 ⟨nv,rfl,oN,g5⟩;clear E put I;refine BV ?_;generalize cc:Spn.kd.over l3 (i-1) (min (j+1) n-(j-i)+nr)=V at *;have h5:=h4.grow g5;have z5:=g5.size;have b5:=AE.BA oN;have Z:∀x,F3 x->x<W3.heap.size:=fun x o=>(h3.hl x o).2.1;have b6:=AE.sl oN;obtain⟨na,nc,en,_⟩:=b6.shape;subst en;rw[AP];have b7:∀x,Spn.rn x none (l2.flatMap Spn.u)+ex x+V.length<=1000000000:=fun x=>by have:=bk x;have:=bd x;omega
 refine Kj (P:=fun m t=>t.Holds [] f (fun x=>(Spn.rn x none (l2.flatMap Spn.u)+ex x)+Spn.Df (V.take m) x)/\t.places.length=_) (fun hT U h0 h1=>TK hT U h0 h1) b6 (fun x o e=>by have:=b5 x o.2;have:=Z x e;omega) (by omega)
  (T4 a1 (fun s U=>?_) b7 σ.ks) h5 ⟨hh.congr fun x=>by simp[Spn.Df],rfl⟩ ?_
 .rcases w2 s.id (Spn.Od U) with e|e
  .have:=Spn.I8 (p:=none) e (by simp);omega
  .obtain⟨s',bx,e'⟩:=Spn.Th e;have:=(J s' bx).2;rw[e'] at this;omega
 rintro W6 t6 ⟨F6,f6,h6,M6⟩ ⟨b8,b9⟩;rw [Nr] at b8;have z6:=M6.size;have c4:AE W1.heap.size 108 2 Dx W5 wv Jq:=AE.mod (R':=Dx) ay (g4.trans g5) (fun _ _ h=>h) fun _ _ _ h=>h;have c6:AE W1.heap.size 108 2 Dx W6 wv Jq:=AE.mod (R':=Dx) c4 M6 (fun x o e=>ax x o e) fun _ _ _ h=>h;have ba:=AE.sl c6;subst ew;rw [AP];refine Kj (P:=fun m t=>t.Holds [] f (fun x=>(Spn.rn x none (l2.flatMap Spn.u)+ex x+Spn.Df V x) - Spn.Df (Jq.take m) x)/\t.places.length=_) (fun hT U h0 h1=>KQ hT U h0 h1) ba (fun x o e=>by
   rcases f6 x e with e|e
   .exact ax x o.2 e
   .have:=Q x o.2;omega) (by omega)
  (Nu (b9▸a1) (fun x=>by have:=w1 x;omega) (fun x=>by have:=b7 x;have:=Spn.MJ V x;omega) σ.ks) h6 ⟨b8.congr fun x=>by simp[Spn.Df],rfl⟩ ?_
 rintro W7 t7 c7 ⟨bb,c8⟩;rw[Nr] at bb;refine⟨trivial,t7,?_,bb.congr fun x=>by have:=w1 x;omega,c8.trans b9⟩;refine DK.next f1 M1 (DK.step g2 (DK.next f3 M3 (DK.step (g4.trans g5) (DK.next f6 M6 ?_))));exact c7
end
def CL(d:List Cel):List (List Attr):=(d.filter fun c=>decide (c.r=10)).map (·.set)
abbrev Ax(d:List Cel):List Int:=d.map Cel.r
def cellOf(ks:List DKey)(set:List Attr)(r:Int):Cel:=⟨r,Cw ks (decide (r=10)) set⟩
theorem Dm(x y:List Cel):CL (x++y)=CL x++CL y:=by simp[CL]
theorem EI(d:List Cel):(CL d).length=Bc (Ax d):=by
 induction d with
 |nil=>rfl
 |cons c d i=>
  have e:CL (c::d)=(if c.r=10 then[c.set] else[])++CL d:=by by_cases h:c.r=10<;>simp[CL,h]
  have j:Bc (Ax (c::d))=(if c.r=10 then 1 else 0)+Bc (Ax d):=by
   have:Ax (c::d)=[c.r]++Ax d:=rfl;rw[this,FD];by_cases h:c.r=10<;>simp[Bc,h]
  rw[e,j,Bq,i];split<;>rfl
theorem DZ(d:List Cel)(i:Nat):CL (d.take i)=(CL d).take (Bc ((Ax d).take i))/\CL (d.drop i)=(CL d).drop (Bc ((Ax d).take i)):=by
 have h:=Dm (d.take i) (d.drop i);rw[S9] at h;have hl:(CL (d.take i)).length=Bc ((Ax d).take i):=by rw[EI,Ax,lK]
 rw[h];exact⟨(nd hl).symm,(oH hl).symm⟩
theorem aw(ks:List DKey)(set:List Attr)(rs:List Int):CL (rs.map (cellOf ks set))=List.replicate (Bc rs) (Cw ks true set):=by
 induction rs with
 |nil=>rfl
 |cons r rs i=>
  have e:r::rs=[r]++rs:=rfl;rw[e,S7,Dm,i,FD];by_cases h:r=10
  .subst h;rw[<-nK];simp[CL,cellOf,Bc]
  .simp[CL,cellOf,Bc,h]
theorem gZ(ks:List DKey)(set:List Attr)(rs:List Int):Ax (rs.map (cellOf ks set))=rs:=by
 simp[Ax,cellOf,Function.comp_def]
def gh(f:Int->List Attr)(z:List (Cel×Int)):Prop:=∀p∈z,(p.1.r=10->p.2=0)/\(p.1.r≠10->f p.2=p.1.set)
def GP(k:TxK)(w0:World)(F:Nat->Prop)(W:World)(a:TxA)(σ:SKs)(most:Int)(d:List Cel)(N:Nat):Prop:=
 ∃(z:List (Cel×Int)) (l2:List Spn) (t:Tab (List Attr)) (f:Int->List Attr),z.map Prod.fst=d/\Hs k w0 F W a σ most (Ax d) l2 (CL d) t N/\Spn.Hj none l2/\l2.flatMap Spn.u=z.map Prod.snd/\t.Holds [] f (fun x=>Spn.rn x none (z.map Prod.snd))/\gh f z/\t.places.length<=N
def K4(k:TxK)(w0:World)(F:Nat->Prop)(W W':World)(a:TxA)(σ:SKs)(most:Int)(d:List Cel)(N:Nat):Prop:=∃F',(∀x,F' x->F x\/W.heap.size<=x)/\GP k w0 F' W' a σ most d N/\Mod F W W'
theorem RT{e:Bool}{b N i:Nat}{l:List Ck}(h:JM e A6.toAvT F GV W b l N)(hi:i<=(Bf l).length)(o:(Bf l).length<=1099511627776) :
  AB prog 53 [.pointer (some ⟨b,0,none⟩),.int .i64 (i:Int)] (fun v' w'=>v'=.tuple #[.int .i64 (Bc ((Bf l).take i):Int),.int .i64 0]/\∃bt F',Dj A6.toAvT F' GV w' b bt l N/\(∀x,F' x->F x\/W.heap.size<=x)/\Mod F W w') W:=by
 rcases h with⟨bt,h⟩|⟨_,B,rfl,j,J⟩
 .refine AA (NT h hi o) ?_;rintro _ w ⟨rfl,g⟩;exact⟨rfl,bt,F,h.grow g,fun _ h=>.inl h,g.mono fun _ _ h=>h.elim⟩
 .obtain rfl:i=0:=by simpa using hi
  refine AA (Qb B) ?_;rintro _ w ⟨rfl,bt,F',k1,k2,E⟩;exact⟨rfl,bt,F',k1.up (Nn _),fun x I=>(k2 x I).imp (fun e=>(j x).2 e) id,E.mono fun x _ e=>(j x).2 e⟩
theorem RH{e:Bool}{F C S D:Nat->Prop}{b N k:Nat}{L R:List (List Attr)}(h:JM e BG.toAvT F C W b L N)(T:N<=100000000000)(hk:k<=L.length)(hl:L.length+R.length<=536870912)(J:BB S 1 (Cx D) W v R)(U:∀x,S x\/D x->x≠b)(O:∀x∈R,x.length*48<=140737488355328) :
  AB prog 76 [.pointer (some ⟨b,0,none⟩),.int .i64 (k:Int),v] (fun v' w'=>∃bt F' j,(∀x,F' x\/j x->(F x\/C x)\/W.heap.size<=x)/\Dj BG.toAvT F' j w' b bt (L.take k++R++L.drop k) (N+R.length+4)/\Mod F W w') W:=by
 rcases h with⟨bt,h⟩|⟨_,V,rfl,Q,X⟩
 .refine AA (TS h T hk hl J O) ?_;rintro _ w ⟨rfl,F',j,_,_,o,B,E,I⟩;exact ⟨bt,F',j,fun x i=>by
   rcases i with i|i
   .exact(o x i).imp .inl id
   .exact (B x i).imp .inr id,E,I⟩
 .obtain rfl:k=0:=by simpa using hk
  refine AA (QG V (by simpa using hl) J U O) ?_;rintro _ w ⟨rfl,bt,F',j,o,B,E,I⟩;refine⟨bt,F',j,fun x i=>?_,?_,I.mono fun x _ e=>(Q x).2 e⟩
  .rcases i with i|i
   .exact(o x i).imp (fun e=>.inl ((Q x).2 e)) id
   .exact .inr (B x i)
  .have e:([]:List (List Attr)).take 0++R++([]:List (List Attr)).drop 0=R:=by simp
   rw[e];exact E.up (by omega)
section
variable {k:TxK}{w0:World}{F:Nat->Prop}{W:World}{a:TxA}{σ:SKs}{most:Int}{rs:List Int}{l2:List Spn}{L:List (List Attr)}{t:Tab (List Attr)}{N:Nat}{d:List Cel}
theorem XN{e:Bool}{Fr:Nat->Prop}{i N:Nat}{l:List Ck}{b r s p t:Nat}(j:Bx W b (Ur sv most r s p t))(h:JM e A6.toAvT Fr GV W r l N)(hi:i<=(Bf l).length)(o:(Bf l).length<=1099511627776) :
  AB prog 50 [.pointer (some ⟨b,0,none⟩),.int .i64 (i:Int)] (fun v' w'=>v'=.int .i64 (Bc ((Bf l).take i):Int)/\∃bt F',Dj A6.toAvT F' GV w' r bt l N/\(∀x,F' x->Fr x\/W.heap.size<=x)/\Mod Fr W w') W:=by
 apply Ut;refine AI ?_;refine Bt (j.cells 2 _ rfl) ?_;refine AA (RT h hi o) ?_;rintro _ B ⟨rfl,h1⟩;exact CW (vs:=[_,_]) (by rfl) (CW (vs:=[_,_]) (by rfl) ⟨rfl,h1⟩)
theorem Pa{at':Nat}{set:List Attr}(h:GP k w0 F W a σ most d N)(hT:E2 w0)(ca:at'<=d.length)(hr:KR S W v rs)(Z:Cf S W sv set)(a8:∀x,S x->¬F x)
 (hm:∀r∈rs,EK r)(a1:Bl σ.ks (Cw σ.ks false set)=0)(hI:∀x∈set,Mk x)(eI:set.length<=64)(hz:d.length+rs.length<=10000000)(hN:N+4*rs.length+20<=1000000000) :
  AB prog 40 [.pointer (some ⟨a.b,0,none⟩),.int .i64 (at':Int),v,sv] (fun v' w'=>v'=.tuple #[]/\K4 .f w0 F W w' a σ most (d.take at'++rs.map (cellOf σ.ks set)++d.drop at') (N+4*rs.length+20)) W:=by
 obtain⟨z,l2,t,f,b3,hM,hp,hu,hh,cc,eL⟩:=h;have cd:z.length=d.length:=by rw[<-b3,Es]
 have b4:(Ax d).length=d.length:=Es _;apply di;have gd:Grow W W.drew:=Mod.drew _ _;have V:=hM.grow gd;refine Ai (fun q y=>q=10/\F y) ?_;refine AI ?_;rw[AG,AH];refine AY ⟨V.box.1.cells 5 _ rfl,fun j hj e=>by obtain⟨rfl,_⟩:=e;exact absurd hj (by decide)⟩ ?_;refine AI ?_;rw[AG,AH];refine AY ⟨V.box.1.cells 0 _ rfl,fun j hj e=>by obtain⟨rfl,_⟩:=e;exact absurd hj (by decide)⟩ ?_;have ch:=Z.grow gd (by decide) fun _ _ h=>h;have cn:=Z.GQ (by decide);refine AA (Lq (b:=false) V.JS.1 ch (by omega)) ?_;rintro eN W1 ⟨cx,g1⟩;refine⟨g1.mono fun _ _ h=>h.elim,?_⟩;have ak:=gd.trans g1;have b5:=V.grow g1;have zd:=gd.size;have z1:=g1.size;obtain⟨Ft,al,b6,put⟩:=b5.Qo;have b7:=hM.hl;have dk:t.Small 1099511627:=(hh.small al.inv GY.ne (H:=1000000000) (fun x=>by have:=Spn.QV x none (z.map Prod.snd);rw[Es] at this;omega) (by omega)).le (by omega);refine AA (SA al dk cx (hT.grow b5.g) (fun x o=>hI x ((ko.1 o).1)) (fun x o=>?_) (fun x o e=>?_)) ?_
 .have:=b7 x (b6 x o);have:=hT.size;exact⟨by omega,by omega⟩
 .have:=b7 x (b6 x e);omega
 rintro _ W2 (⟨h0,_⟩|⟨_,id,t2,rfl,a6,hA⟩)
 .exact absurd a1 h0
 obtain⟨F2,f2,O,M2⟩:=put hA;clear put;refine⟨M2.mono fun x _ o=>⟨rfl,o⟩,?_⟩;refine BV ?_;obtain⟨f',dv,b8,dT⟩:=hh.added al.inv a6 fun X=>⟨X,fun x o=>hI x ((ko.1 o).1),a1⟩;have eu:=a6.pl;refine AI ?_;refine Bt (O.box.1.cells 0 _ rfl) ?_;have z2:=M2.size;have e4:Cf (fun x=>S x/\x<W.heap.size) W2 sv set:=(cn.grow ak (by decide) fun _ _ h=>h).mod M2 (fun x _ o e=>a8 x o.1 e) (by decide) fun _ _ h=>h;refine AA (Lq (b:=true) O.JS.1 e4 (by omega)) ?_;rintro eR W3 ⟨e5,g3⟩;have e6:=O.grow g3;have z3:=g3.size;have an:KR (fun x=>S x/\x<W.heap.size) W3 v rs:=(((hr.GQ (by decide)).grow ak (by decide) fun _ _ h=>h).mod M2 (fun x _ o e=>a8 x o.1 e) (by decide) fun _ _ h=>h).grow g3 (by decide) fun _ _ h=>h;obtain⟨ra,rc,e7,_⟩:=an.shape;have b9:Ae v=Ae (.slice ra rs.length rc):=by rw[e7]
 rw[b9,AP];refine WH an e5 (by omega) fun row cv W5 oR oC X g5=>?_;simp only[GJ];have e8:=e6.grow g5;have z5:=g5.size;have ba:=O.hl;have J:=AE.BA oR;have bb:=AE.BA oC;have e9:KR (fun x=>S x/\x<W.heap.size) W5 v rs:=an.grow g5 (by decide) fun _ _ h=>h;have I:Grow W5 W5.drew:=Mod.drew _ _;have eX:=I.size;have Q:=e8.grow I;obtain⟨l1,Fr,av,hO,ea,put⟩:=Q.Hn;have bc:at'<=(Bf l1).length:=by rw[av,Ax,Es];exact ca
 have fa:(Bf l1).length=d.length:=by rw[av,Ax,Es]
 refine Ai (fun q y=>(q=6/\Fr y)\/(q=8/\(F2 y\/W5.heap.size<=y))) ?_;refine AI ?_;rw [AG,AH];refine AY ⟨Q.box.1.cells 4 _ rfl,fun j hj e=>by
  rcases e with⟨rfl,e⟩|⟨rfl,_⟩
  .exact(ea _ e).2 rfl
  .exact absurd hj (by decide)⟩ ?_
 refine AA (XN Q.box.1 hO bc (by omega)) ?_;rintro _ W6 ⟨rfl,ec,fs,ed,bd,m6⟩;refine⟨m6.mono fun x _ o=>.inl ⟨rfl,o⟩,?_⟩;obtain⟨F6,f6,bk,M6⟩:=put (e:=false) m6 bd (.inl ⟨ec,ed⟩) (Lc _);clear put;rw[av] at bk ⊢;have z6:=M6.size;obtain⟨Fp,Cp,hO,ee,put⟩:=bk.para;have B:∀x,F2 x->x<W2.heap.size:=fun x o=>(ba x o).2.1;have ef:AE W3.heap.size 43 1 (Cx fun x=>W2.heap.size<=x/\x<W3.heap.size) W6 cv (List.replicate (Bc rs) (Cw σ.ks true set)):=
  AE.mod (AE.mod (R':=Cx fun x=>W2.heap.size<=x/\x<W3.heap.size) oC I (fun _ _ h=>h) fun r y _ hy=>BG.BZ hy I fun _ _ _ h=>h) M6 (fun x o e=>by have:=bb x o;have:=B x e;omega) fun r y _ hy=>BG.BZ hy M6 fun x _ o e=>by have:=B x e;omega
 have fv:a.p<W2.heap.size:=by
  obtain⟨ga,gb,bl,ew,_⟩:=O.para;exact bl.lt _ (.inl bl.fb)
 refine AA (RH (k:=Bc ((Ax d).take at')) hO (by omega) (by rw [EI];exact mJ _ (mg _ _)) (by rw [EI,lD];have h1:=Dn (Ax d);have h2:=Dn rs;rw [b4] at h1;omega) (AE.sl ef) (fun x o e=>by
   subst e;rcases o with o|o
   .have:=o.1;omega
   .omega) (fun x o=>by
   rw [List.eq_of_mem_replicate o];have:(Cw σ.ks true set).length<=set.length:=ni _ _;omega)) ?_
 rintro _ W7 ⟨eh,gf,gg,ej,bn,m7⟩;rw[lD] at bn;have Y:∀x,F6 x->F2 x\/W5.heap.size<=x:=fun x o=>(f6 x o).imp (fun h=>h) fun h=>by omega
 refine⟨m7.mono fun x _ o=>.inr ⟨rfl,Y x (ee x (.inl o))⟩,?_⟩;have gl:=Dn rs;obtain⟨F7,f7,bp,M7⟩:=put (e:=false) m7 ej (.inl ⟨eh,bn.up (N':=N+rs.length+4) (by omega)⟩) (by omega);clear put;have z7:=M7.size;have T:∀x,F7 x->F2 x\/W5.heap.size<=x:=fun x o=>by
  rcases f7 x o with e|e
  .exact Y x e
  .exact .inr (by omega)
 have U:∀x,S x/\x<W.heap.size->¬F2 x:=fun x o e=>by
  rcases f2 x e with e|e
  .exact a8 x o.1 e
  .omega
 have bs:∀x,S x/\x<W.heap.size->¬F6 x:=fun x o e=>by
  rcases Y x e with e|e
  .exact U x o e
  .omega
 have eA:∀x,S x/\x<W.heap.size->¬F7 x:=fun x o e=>by
  rcases T x e with e|e
  .exact U x o e
  .omega
 refine AI ?_;refine Bt (bp.box.1.cells 2 _ rfl) ?_;obtain⟨l7,gm,bx,hO,eB,put⟩:=bp.Hn;obtain⟨ek,hO⟩:=hO.t;have eC:(Bf l7).length=d.length:=by rw[bx,Ax,Es]
 have en:KR (fun x=>S x/\x<W.heap.size) W7 v rs:=((e9.grow I (by decide) fun _ _ h=>h).mod M6 (fun x _ o e=>U x o e) (by decide) fun _ _ h=>h).mod M7 (fun x _ o e=>bs x o e) (by decide) fun _ _ h=>h;refine AA (UN hO (by omega) (by omega) (by omega) en hm) ?_;rintro _ W8 ⟨rfl,gw,l8,_,k2,k3,k4,k5⟩;have gA:=Mc rs;obtain⟨F8,f8,c4,M8⟩:=put (e:=false) k5 k2 (.inl ⟨ek,k3.up (N':=N+2*rs.length+8) (by omega)⟩) (by omega);clear put;rw[k4,bx] at c4;have z8:=M8.size;obtain⟨r1,r2,_,_,r5⟩:=MN id rs;have r6:=kM List.length r1;rw[Es] at r6;have eo:=kM List.length hu;rw[Es,cd] at eo;have ep:AE W3.heap.size 108 2 Dx W8 row (rowOf id rs).1:=
  AE.mod (R':=Dx) (AE.mod (R':=Dx) (AE.mod (R':=Dx) (AE.mod (R':=Dx) oR I (fun _ _ h=>h) fun _ _ _ h=>h) M6 (fun x o e=>by have:=J x o;have:=B x e;omega) fun _ _ _ h=>h) M7 (fun x o e=>by
   have:=J x o;rcases Y x e with e|e
   .have:=B x e;omega
   .omega) fun _ _ _ h=>h) M8 (fun x o e=>by
   have:=J x o;rcases T x e with e|e
   .have:=B x e;omega
   .omega) fun _ _ _ h=>h
 have c6:∀s∈(rowOf id rs).1,s.id=id\/s.id=0:=fun s Z=>by
  have:=Spn.KO Z (r2 s Z);rw[r1] at this;obtain⟨r,_,e⟩:=kQ.1 this;rw[<-e];unfold GU;split
  .exact .inr rfl
  .exact .inl rfl
 refine AA (Km (f:=f') (ex:=fun x=>if x=id then 1 else 0) (i:=at') (j:=at') c4 hp (dv.congr fun x=>by rw[hu]) (Lc _) (by omega) (AE.sl ep) (fun x o e=>?_) (fun s Z=>⟨r2 s Z,?_⟩) (by omega) (fun x=>by split<;>omega) (by omega) (by omega)) ?_
 .have:=J x o.2;rcases f8 x e with e|e
  .rcases T x e with e|e
   .have:=B x e;omega
   .omega
  .omega
 .rcases c6 s Z with e|e
  .exact .inl (by rw[Io e];omega)
  .exact .inr e
 rintro _ W9 ⟨rfl,t9,⟨F9,f9,c7,M9⟩,ax,gB⟩;refine AI ?_;refine Bt (c7.box.1.cells 5 _ rfl) ?_;obtain⟨gW,ay,_,put⟩:=c7.Qo;have b0:((Spn.kd.Bw l2 at' at' (rowOf id rs).1).flatMap Spn.u)=(z.map Prod.snd).take at'++rs.map (GU id)++(z.map Prod.snd).drop at':=by rw[Spn.EE.Bw l2 _ (Lc at'),hu,r1]
 have er:=kM List.length b0;simp only[Bq,Mp,K8,Es] at er;have a7:0<Spn.rn id none ((Spn.kd.Bw l2 at' at' (rowOf id rs).1).flatMap Spn.u)+(if id=id then 1 else 0):=by rw[Io rfl];omega
 obtain⟨q1,q2⟩:=ax.idle (.inl a7);refine AA (KQ ay ((ax.small ay.inv GY.ne (H:=1000000000) (fun x=>by have:=Spn.QV x none ((Spn.kd.Bw l2 at' at' (rowOf id rs).1).flatMap Spn.u);split<;>omega) (by omega)).le (by omega)) q1 (by omega)) ?_;rintro _ h3 c8;have et:=DK.step ak (DK.next f2 M2 (DK.step (g3.trans (g5.trans I)) (DK.next f6 M6 (DK.next f7 M7 (DK.next f8 M8 (DK.next f9 M9 (put c8)))))));have c9:=ax.free ay.inv GY.ne a7;obtain⟨F',w1,w2,w3⟩:=et.up (N':=N+4*rs.length+20) (by omega);refine⟨trivial,F',w1,⟨z.take at'++rs.map (fun r=>(cellOf σ.ks set r,GU id r))++z.drop at',Spn.kd.Bw l2 at' at' (rowOf id rs).1,_,f',?_,?_,Spn.II at' at' _ hp,?_,c9.congr fun x=>?_,?_,?_⟩,w3⟩
 .rw[S7,S7,lK,lP,b3,mH];rfl
 .have e1:Ax (d.take at'++rs.map (cellOf σ.ks set)++d.drop at')=(Ax d).take at'++rs++(Ax d).drop at':=by
   rw[Ax,S7,S7,lK,lP];show _++Ax _++_=_;rw[gZ]
  have e2:CL (d.take at'++rs.map (cellOf σ.ks set)++d.drop at')=(CL d).take (Bc ((Ax d).take at'))++List.replicate (Bc rs) (Cw σ.ks true set)++(CL d).drop (Bc ((Ax d).take at')):=by
   rw[Dm,Dm,aw,(DZ d at').1,(DZ d at').2]
  rw[e1,e2];exact w2
 .rw[b0,S7,S7,lK,lP,mH];rfl
 .have e3:(z.take at'++rs.map (fun r=>(cellOf σ.ks set r,GU id r))++z.drop at').map Prod.snd=(Spn.kd.Bw l2 at' at' (rowOf id rs).1).flatMap Spn.u:=by rw[b0,S7,S7,lK,lP,mH];rfl
  rw[e3];split<;>omega
 .intro p E;have GQ:∀p∈z,(p.1.r=10->p.2=0)/\(p.1.r≠10->f' p.2=p.1.set):=fun p E=>by
   obtain⟨o1,o2⟩:=cc p E;refine⟨o1,fun X=>?_⟩;rw[dT,o2 X];exact Spn.I8 (kQ.2 ⟨p,E,rfl⟩) (by simp)
  rcases DN.1 E with E|E
  .rcases DN.1 E with E|E
   .exact GQ p (kO E)
   .obtain⟨r,_,rfl⟩:=kQ.1 E;refine⟨fun e=>?_,fun e=>?_⟩
    .have e':r=10:=e;simp[GU,e']
    .have e':r≠10:=e;simp[GU,e',cellOf,b8]
  .exact GQ p (kP E)
 .rw[Tab.Lv];omega
end
theorem AE.OW{B e k:Nat}{R:World->List Value->α->Prop}{x:α}(o:B<=w.heap.size)(j:cs.length=k)(h1:∀u∈cs,u.oneCell'=true)(E:R (w.alloc (.cells cs.toArray e)) cs x) :
  AE B e k R (w.alloc (.cells cs.toArray e)) (.slice (some ⟨w.heap.size,0,none⟩) 1 1) [x]:=by
 refine⟨[cs],⟨by simp[j],.inr ⟨w.heap.size,1,cs.toArray,rfl,o,pV w _,by simp,by simp[maxLen],by simp[j],by simp[<-j]⟩⟩,rfl,fun r hr=>?_,fun i r y hr I=>?_⟩
 .simp only[P9] at hr;subst hr;exact⟨j,h1⟩
 .have hi:i=0:=by have:=(Bp.1 hr).1;simp at this;exact this
  subst hi;cases hr;cases I;exact E
section
variable {k:TxK}{w0:World}{F:Nat->Prop}{W:World}{a:TxA}{σ:SKs}{most:Int}{N:Nat}{d:List Cel}
theorem XS(h:GP .f w0 F W a σ most d N)(B:i<=j)(hj:j<=d.length)(hz:d.length<=10000000)(hN:N+20<=1000000000) :
  AB prog 44 [.pointer (some ⟨a.b,0,none⟩),.int .i64 (i:Int),.int .i64 (j:Int)] (fun v' w'=>v'=.tuple #[]/\K4 .f w0 F W w' a σ most (d.take i++d.drop j) (N+20)) W:=by
 obtain⟨z,l2,t,f,Q,hM,hp,hu,hh,T,b6⟩:=h;have a7:z.length=d.length:=by rw[<-Q,Es]
 have I:(Ax d).length=d.length:=Es _;apply cF;have gd:Grow W W.drew:=Mod.drew _ _;have E:=hM.grow gd;obtain⟨l1,Fr,bt,U,J,b7,_⟩:=E.SS;have a8:(Bf l1).length=d.length:=by rw[U,I]
 refine Ai (fun q y=>q=10/\F y) ?_;refine AI ?_;rw [AG,AH];refine AY ⟨E.box.1.cells 4 _ rfl,fun j hj e=>by obtain ⟨rfl,_⟩:=e;exact absurd hj (by decide)⟩ ?_;refine AA (HN E.box.1 J (i:=i) (by omega) (by omega)) ?_;rintro _ W1 ⟨rfl,g1⟩;refine ⟨g1.mono fun _ _ h=>h.elim,?_⟩;have V:=E.grow g1;refine AA (HN V.box.1 (J.grow g1) (i:=j) (by omega) (by omega)) ?_;rintro _ W2 ⟨rfl,g2⟩;refine ⟨g2.mono fun _ _ h=>h.elim,?_⟩;have ak:=V.grow g2;rw [U] at a8 ⊢;obtain ⟨Fp,Cp,bp,J,al,put⟩:=ak.WN;have an:Bc ((Ax d).take i)<=Bc ((Ax d).take j):=mJ _ (by
  rw [<-kY B,<-lz];exact mg _ _)
 have av:Bc ((Ax d).take j)<=Bc (Ax d):=mJ _ (mg _ _);have b8:=Dn (Ax d);refine AA (UR J (by omega) an (by rw [EI];exact av) (by rw [EI];omega)) ?_;rintro _ W3 ⟨rfl,b9,_,k2,X,m3⟩;obtain ⟨F3,f3,Y,M3⟩:=put m3 (fun x O=>by
  rcases O with O|O
  .exact(k2 x O).imp .inl fun h=>h
  .exact .inl (.inr O)) X (by omega)
 clear put J X;refine⟨m3.mono fun x _ O=>⟨rfl,al x (.inl O)⟩,?_⟩;refine AI ?_;refine Bt (Y.box.1.cells 2 _ rfl) ?_;obtain⟨l3,ba,br,Z,J,b4,put⟩:=Y.SS;have b5:(Bf l3).length=d.length:=by rw[Z,I]
 refine AA (TT J (by omega) B (by omega) (by omega)) ?_;rintro _ W4 ⟨rfl,bb,l4,_,k2,X,k4,m4⟩;obtain⟨F4,f4,a1,M4⟩:=put m4 k2 X (by omega);clear put J X;rw[k4,Z] at a1;have ax:=kM List.length hu;rw[Es,a7] at ax;refine AA (Km (f:=f) (ex:=fun _=>0) (row:=[]) (S:=fun _=>False) a1 hp (hh.congr fun x=>by rw[hu];rfl) B (by omega) BB.nil (fun _ h=>h.elim) (fun s hs=>nomatch hs) (by rw[nS,kl];omega) (fun x=>Nn _) (by omega) (by omega)) ?_;rintro _ W5 ⟨rfl,t5,ay,b0,bc⟩;have a6:=DK.step (gd.trans (g1.trans g2)) (DK.next f3 M3 (DK.next f4 M4 ay));obtain⟨F',w1,w2,w3⟩:=a6.up (N':=N+20) (by simp);have b3:((Spn.kd.Bw l2 i j []).flatMap Spn.u)=(z.map Prod.snd).take i++(z.map Prod.snd).drop j:=by rw[Spn.EE.Bw l2 _ B,hu];simp
 have e3:(z.take i++z.drop j).map Prod.snd=(Spn.kd.Bw l2 i j []).flatMap Spn.u:=by rw[b3,S7,lK,lP]
 refine⟨rfl,F',w1,⟨z.take i++z.drop j,_,_,f,?_,?_,Spn.II i j [] hp,e3.symm,b0.congr fun x=>?_,fun p o=>?_,by omega⟩,w3⟩
 .rw[S7,lK,lP,Q]
 .have e1:Ax (d.take i++d.drop j)=(Ax d).take i++(Ax d).drop j:=by rw[Ax,S7,lK,lP]
  have e2:CL (d.take i++d.drop j)=(CL d).take (Bc ((Ax d).take i))++(CL d).drop (Bc ((Ax d).take j)):=by rw[Dm,(DZ d i).1,(DZ d j).2]
  rw[e1,e2];exact w2
 .rw[e3];rfl
 .rcases DN.1 o with o|o
  .exact T p (kO o)
  .exact T p (kP o)
end
theorem gp:EK 10:=.inl (by omega)
theorem WG:Bl ks []=0:=by
 classical
 unfold Bl;rw[C3,C3]
 .rintro⟨a,ha,_⟩;cases ha
 .rintro(h|h|⟨a,ha,_⟩)
  .exact h fun i h1 j=>by simp at j
  .simp at h
  .cases ha
theorem PY(hS:De σ.S W σ.sv σ.ks)(E:∀x,σ.S x->x<W.heap.size)(hT:E2 w0)(g:Grow w0 W) :
  AB prog 11 [σ.sv,.int .i64 most] (fun v' w'=>Grow W w'/\((1<=most/\most<536870912/\∃a F,v'=.tuple #[.pointer (some ⟨a.b,0,none⟩),.int .i64 0]/\(∀x,F x->W.heap.size<=x)/\GP .f w0 F w' a σ most [⟨10,[]⟩] 24)\/((most<1\/536870912<=most)/\v'=.tuple #[.pointer none,.int .i64 2]))) W:=by
 apply bw;refine AT (fun _ W'=>W'=W/\1<=most/\most<536870912) ?_ ?_;rotate_left
 .rw[Ap];refine AF (fun h1=>⟨Mod.refl _ _,.inr ⟨.inl h1,rfl⟩⟩) fun h1=>?_;rw[DX];exact AF (fun Q=>⟨Mod.refl _ _,.inr ⟨.inr Q,rfl⟩⟩) fun Q=>⟨rfl,by omega,by omega⟩
 rintro _ _ ⟨rfl,a1,a6⟩ _;rename World=>W
 refine AA fL ?_;rintro _ W1 ⟨r,rfl,hr,B1,g1⟩;refine AA cg ?_;rintro _ W2 ⟨s,rfl,hs,B2,g2⟩;refine AA db ?_;rintro _ W3 ⟨p,rfl,hp,B3,X⟩;have z1:=g1.size;have z2:=g2.size;have z3:=X.size;have av:=B1.lt (Ty _);have ax:=B2.lt (Ty _);have ay:=B3.lt (Ty _);have T:=(g1.trans g2).trans X;have a7:=hS.grow T;refine AA (Zx a7 fun x j=>by have:=E x j;omega) ?_;rintro _ W4 ⟨U,tb,b0,rfl,V⟩;have z4:=U.size;have a8:∃Y,σ.sv=.pointer (some ⟨Y,0,none⟩):=by
  obtain⟨Y,_,_,_,e,_⟩:=id hS;exact⟨Y,e⟩
 have I:Instr.fill (fun i=>[(0,1),(1,1),(2,1),(3,1),(4,1),(5,1)][i]?) [Value.pointer none,.int .i64 0,.pointer none,.pointer none,.pointer none,.pointer none].toArray [(0,σ.sv),(1,.int .i64 most),(2,.pointer (some ⟨r,0,none⟩)),(3,.pointer (some ⟨s,0,none⟩)),(4,.pointer (some ⟨p,0,none⟩)),(5,.pointer (some ⟨tb,0,none⟩))]=some (Ur σ.sv most r s p tb).toArray:=by
  obtain⟨Y,e⟩:=a8;rw[e];kernel_rfl
 refine⟨_,I,?_⟩;refine Bx.box fun b o hb O B5=>?_;have z5:=O.size;have b3:=B5.lt (Ty _);have ak:=((g2.trans X).trans U).trans O;have J:=(T.trans U).trans O;have b4:=V.lt;have hM:GP ⟨true,true,true⟩ w0 (fun x=>W.heap.size<=x/\x<o.heap.size) o ⟨b,r,s,p,tb⟩ σ most [] 0:=by
  refine⟨[],[],Tab.z _,fun _=>[],rfl,⟨fun x=>if x=b then 0 else if x=r then 1 else if x=s then 2 else if x=p then 3 else if x<W.heap.size then 5 else 4,⟨fun x=>x=r,fun x=>x=s,fun x=>x=p,fun _=>False,fun x=>W3.heap.size<=x/\x<W4.heap.size⟩,[],rfl,?_⟩,trivial,rfl,Tab.Holds.new _,(fun p hp=>nomatch hp),Nn _⟩;refine⟨B5,.inr ⟨rfl,B1.grow ak,rfl,fun x=>nj,fun _ h=>h⟩,.inr ⟨rfl,(B2.grow (X.trans U)).grow O,rfl,fun x=>nj,fun _ h=>h⟩,.inr ⟨rfl,(B3.grow U).grow O,rfl,fun x=>nj,fun _ h=>h⟩,V.grow O,hS.grow J,Io rfl,?_,?_,?_,?_,?_,?_,?_,g.trans J⟩
  .rintro x rfl;rw[C3 (by omega),Io rfl]
  .rintro x rfl;rw[C3 (by omega),C3 (by omega),Io rfl]
  .rintro x (rfl|h)
   .rw[C3 (by omega),C3 (by omega),C3 (by omega),Io rfl]
   .exact h.elim
  .rintro x ⟨h1,Q⟩;rw[C3 (by omega),C3 (by omega),C3 (by omega),C3 (by omega),C3 (by omega)]
  .intro x j;have:=E x j;rw[C3 (by omega),C3 (by omega),C3 (by omega),C3 (by omega),Io this];exact⟨rfl,by omega⟩
  .rintro x ((h|h|h)|(h|h)|h)
   .have h':x=b:=h;exact⟨by omega,by omega⟩
   .have h':x=r:=h;exact⟨by omega,by omega⟩
   .have h':x=s:=h;exact⟨by omega,by omega⟩
   .have h':x=p:=h;exact⟨by omega,by omega⟩
   .exact h.elim
   .exact⟨by have:=h.1;omega,by have:=h.2;omega⟩
  .rintro x ⟨h1,Q⟩;have:=g.size;exact⟨by omega,Q,fun h=>by have:=E x h;omega⟩
 refine GL (cs:=[.int .i32 10]) (by kernel_rfl) ?_;have o6:AE o.heap.size 21 1 Bo (o.alloc (.cells [Value.int .i32 10].toArray 21)) (.slice (some ⟨o.heap.size,0,none⟩) 1 1) [10]:=AE.OW (Lc _) rfl (fun u hu=>by simp at hu;subst hu;rfl) rfl;have B:=AE.sl o6;have Z:Grow o (o.alloc (.cells [Value.int .i32 10].toArray 21)):=Mod.alloc _ _ _;generalize o.alloc (.cells [Value.int .i32 10].toArray 21)=W6 at B o6 Z ⊢;obtain⟨z',l2,t,f,e1,e2,e3⟩:=hM;have al:GP ⟨true,true,true⟩ w0 (fun x=>W.heap.size<=x/\x<o.heap.size) W6 ⟨b,r,s,p,tb⟩ σ most [] 0:=⟨z',l2,t,f,e1,e2.grow Z,e3⟩;have q1:([10]:List Int).length=1:=rfl;have q2:Cw σ.ks false []=[]:=rfl;have key:=Pa (at':=0) (rs:=[10]) (set:=[]) al hT (Lc _) B BB.nil (fun x j e=>by have:=e.2;have:=j.1;omega) (fun r hr=>by rw[P9] at hr;rw[hr];exact gp) (by rw[q2];exact WG) (fun x j=>nomatch j) (Nn _) (by rw[q1,kl];omega) (by rw[q1];omega);refine AA key ?_;rintro _ W7 ⟨rfl,F7,f7,h7,m7⟩;have z6:=Z.size;have an:=J.trans Z;refine⟨an.next m7 fun x j e=>by have:=e.1;omega,.inl ⟨a1,a6,⟨b,r,s,p,tb⟩,F7,rfl,fun x j=>?_,?_⟩⟩
 .rcases f7 x j with e|e
  .exact e.1
  .omega
 .exact h7
theorem ix{α β j:Type}(g:α->j):∀(A:List α) (B:List β),A.length=B.length->(A.zipWith (fun a b=>(g a,b)) B).map Prod.fst=A.map g/\(A.zipWith (fun a b=>(g a,b)) B).map Prod.snd=B/\∀q∈A.zipWith (fun a b=>(g a,b)) B,∃(k:Nat) (a:α) (b:β),A[k]?=some a/\B[k]?=some b/\q=(g a,b):=by
 intro A;induction A with
 |nil=>
  intro B h;have:B=[]:=QC h.symm;subst this;exact⟨rfl,rfl,fun q i=>nomatch i⟩
 |cons a A o=>
  intro B h;cases B with
  |nil=>simp at h
  |cons b B=>
   obtain⟨h1,E,I⟩:=o B (by simpa using h);refine⟨by simp only[oi,kL,h1],by simp only[oi,kL,E],fun q i=>?_⟩;rw[oi] at i;rcases I3.1 i with rfl|i
   .exact⟨0,a,b,rfl,rfl,rfl⟩
   .obtain⟨k,J,O,Q,S,T⟩:=I q i;exact⟨k+1,J,O,Q,S,T⟩
theorem Tw{P:Int->Int->Prop}:∀{row done:List Spn},done.length=row.length->(∀(q:Nat) (s i:Spn),row[q]?=some s->done[q]?=some i->i.n=s.n/\P s.id i.id)->
  (done.flatMap Spn.u).length=(row.flatMap Spn.u).length/\∀(k:Nat) (x y:Int),(row.flatMap Spn.u)[k]?=some x->(done.flatMap Spn.u)[k]?=some y->P x y:=by
 intro row;induction row with
 |nil=>
  intro done h _;have:done=[]:=QC h;subst this;exact⟨rfl,fun k x y h=>by simp at h⟩
 |cons s row B=>
  intro done h hr;cases done with
  |nil=>simp at h
  |cons i done=>
   obtain⟨E,I⟩:=hr 0 s i rfl rfl;obtain⟨h1,J⟩:=B (done:=done) (by simpa using h) fun q a b ha hb=>hr (q+1) a b ha hb;have l1:(Spn.u s).length=s.n:=by rw[Spn.u,lD]
   have l2:(Spn.u i).length=s.n:=by rw[Spn.u,lD,E]
   refine⟨by rw[kp,kp,Bq,Bq,h1,l1,l2],fun k x y j o=>?_⟩;rw[kp] at j o;by_cases hk:k<s.n
   .rw[Q0 (by omega),Spn.u,mb,Io hk] at j;rw[Q0 (by omega),Spn.u,mb,Io (by omega)] at o;cases j;cases o;exact I
   .rw[kH (by omega),l1] at j;rw[kH (by omega),l2] at o;exact J _ x y j o
section
variable {k:TxK}{w0:World}{F:Nat->Prop}{W:World}{a:TxA}{σ:SKs}{most:Int}{N:Nat}{d:List Cel}
theorem Rs{p:List Chg}(h:GP .f w0 F W a σ most d N)(hT:E2 w0)(a1:i<=j)(hj:j<=d.length)(hp:FY S W v p)(ea:∀x,S x->¬F x)(gg:p.length<=64)
 (O:∀c∈(d.take j).drop i,c.r≠10/\Bl σ.ks (Bz c.set p)=0/\∀x∈Bz c.set p,Mk x)(hz:d.length<=10000000)(hN:N+(j-i)+20<=1000000000) :
  AB prog 86 [.pointer (some ⟨a.b,0,none⟩),.int .i64 (i:Int),.int .i64 (j:Int),v] (fun v' w'=>v'=.tuple #[]/\K4 .f w0 F W w' a σ most (d.take i++((d.take j).drop i).map (fun c=>(⟨c.r,Bz c.set p⟩:Cel))++d.drop j) (N+(j-i)+20)) W:=by
 obtain⟨z,l2,t,f,a6,hM,a7,hu,hh,bc,gl⟩:=h;have a8:z.length=d.length:=by rw[<-a6,Es]
 have c9:=kM List.length hu;rw[Es,a8] at c9;apply dW;refine AI ?_;refine Bt (hM.box.1.cells 3 _ rfl) ?_;obtain⟨Fs,bt,hO,gm,_⟩:=hM.Q9;have fa:Ef l2=d.length:=by rw[Dy,c9]
 have gw:=Spn.Fi a7;refine AA (J9 (i:=i) (j:=j) hO (by omega) a1 (by omega) (by omega) (by omega)) ?_;rintro _ W1 ⟨rv,rfl,oR,g1⟩;refine BV ?_;have bd:=Spn.HI a7 i j;have ak:(Spn.kd.over l2 i j).flatMap Spn.u=((z.map Prod.snd).take j).drop i:=by rw[Spn.EE.over,hu]
 have ec:=Spn.Fi bd;rw[ak,K8,Mp,Es,a8] at ec;generalize Spn.kd.over l2 i j=row at *;clear hO;have ca:∀s∈row,0<Spn.rn s.id none (z.map Prod.snd)/\Bl σ.ks (Bz (f s.id) p)=0/\∀x∈Bz (f s.id) p,Mk x:=fun s Q=>by
  have h1:=Spn.KO Q (Spn.Ib bd s Q);rw[ak] at h1;have h2:s.id∈((z.take j).drop i).map Prod.snd:=by rw[lP,lK];exact h1
  obtain⟨q,B,e⟩:=kQ.1 h2;have ed:q.1∈(d.take j).drop i:=by rw[<-a6,<-lK,<-lP];exact kQ.2 ⟨q,B,rfl⟩
  obtain⟨c1,c2,c3⟩:=O _ ed;have:=(bc q (kO (kP B))).2 c1;rw[<-e,this];exact⟨Spn.I8 (kO (kP (e▸h1))) (by simp),c2,c3⟩
 have ee:=hM.hl;have z1:=g1.size;have E:=AE.BA oR;have ef:FY (fun x=>S x/\x<W.heap.size) W1 v p:=BB.grow (hp.GQ (by decide)) g1 (by decide) fun _ _ h=>h;obtain⟨ra,rc,eh,_⟩:=AE.shape oR;have cc:Ae rv=Ae (.slice ra row.length rc):=by rw[eh]
 rw [cc,AP];refine Ab (fun vs W'=>∃ (m:Nat) (done:List Spn) (t':Tab (List Attr)) (f':Int->List Attr) (F':Nat->Prop),m<=row.length/\vs=[.int .i64 m]/\done.length=m/\
   (∀x,F' x->F x\/W1.heap.size<=x)/\Hs .f w0 F' W' a σ most (Ax d) l2 (CL d) t' N/\Mod (fun x=>F x\/rv.ownBlock=some x) W1 W'/\
   AE W.heap.size 108 2 Dx W' rv (done++row.drop m)/\(∀(q:Nat) (s s':Spn),row[q]?=some s->done[q]?=some s'->s'.n=s.n/\f' s'.id=Bz (f s.id) p)/\
   t'.Holds [] f' (fun x=>Spn.rn x none (z.map Prod.snd)+Spn.Df done x)/\(∀ x,0 < Spn.rn x none (z.map Prod.snd)->f' x=f x)/\t'.places.length<=N+m) (fun vs _=>row.length - Ds vs 0)
  ⟨0,[],t,f,F,Nn _,rfl,rfl,fun _ h=>.inl h,hM.grow g1,Mod.refl _ _,by simpa using oR,fun q s s' _ h=>by simp at h,hh.congr fun x=>by simp[Spn.Df],fun _ _=>rfl,by omega⟩ ?_
 rintro vs W2 ⟨m,done,t2,f2,F2,hm,rfl,T,al,bk,M2,o2,V,X,bl,fs⟩ _;simp only[B0,Of];rw[Ap];have z2:=M2.size;have ay:=AE.BA o2;have I:∀x,rv.ownBlock=some x->¬F2 x:=fun x o e=>by
  have h1:=E x o;rcases al x e with e|e
  .have:=ee x e;omega
  .omega
 have ej:FY (fun x=>S x/\x < W.heap.size) W2 v p:=BB.mod ef M2 (fun x _ o e=>by
  rcases e with e|e
  .exact ea x o.1 e
  .have:=E x e;omega) (by decide) fun _ _ h=>h
 have an:(done++row.drop m).length=row.length:=by rw[Bq,K8,T];omega
 obtain⟨qa,qc,cd,_⟩:=AE.shape o2;rw[an] at cd;refine AF (fun fv=>?_) fun gA=>?_
 .have U:m<row.length:=by omega
  have b0:(done++row.drop m)[m]'(by omega)=row[m]:=by
   rw[ln (by omega)];simp[T]
  obtain⟨i1,i2,i3⟩:=ca row[m] (gC U);have gd:Grow W2 W2.drew:=Mod.drew _ _;have Y:=bk.grow gd;refine Ai (fun _ _=>False) ?_;refine AI ?_;rw[AG,AH];refine AY ⟨Y.box.1.cells 5 _ rfl,fun j hj e=>e⟩ ?_;have ek:=AE.sl o2;subst cd;obtain⟨p0,r0,e0,Z,gB,bn,ch⟩:=ek.get (i:=m) (by omega);cases e0;have bp:r0=Spn.cells row[m]:=by rw[<-b0];exact ch
  subst bp;refine AU U ?_;rw[AG,Addr.add_add];refine AY ⟨by have:=gd.cell (bn 1 _ rfl) (fun h=>h);exact this,fun j hj e=>e⟩ ?_;obtain⟨Ft,cv,gW,_⟩:=Y.Qo;have cx:0<Spn.rn row[m].id none (z.map Prod.snd)+Spn.Df done row[m].id:=by omega
  obtain⟨d1,d2⟩:=X.idle (.inl cx);obtain⟨cn,b3⟩:=X.ask cx;refine AA (OZ cv (by omega) (by omega) (by omega)) ?_;rintro v3 W3 ⟨g3,dk⟩;rw[b3] at dk;obtain⟨h3,rfl,o3⟩:=dk;have b4:f2 row[m].id=f row[m].id:=bl _ i1;simp only[b4] at o3;refine⟨g3.mono fun _ _ h=>h.elim,?_⟩;refine BV ?_;have ga:(f row[m].id).length<=64:=by
   obtain⟨C,pl,fr,bm,hR⟩:=cv;have:=Ou hR.core b3;simpa[b4] using this
  have en:=Y.grow g3;have bs:Grow W3 W3.drew:=Mod.drew _ _;have b5:=en.grow bs;have av:=(gd.trans g3).trans bs;have h4:=av.size;refine Ai (fun q y=>(q=9/\F2 y)\/(q=15/\y=p0.block)) ?_;refine AI ?_;rw [AG,AH];refine AY ⟨b5.box.1.cells 5 _ rfl,fun j hj e=>by
   rcases e with⟨rfl,_⟩|⟨rfl,_⟩
   .exact absurd hj (by decide)
   .exact absurd hj (by decide)⟩ ?_
  refine AA (Sp ((AE.sl o3).grow bs (by decide) fun _ _ h=>h) (BB.grow ej av (by decide) fun _ _ h=>h) (by omega)) ?_;rintro nv W4 ⟨o4,g4⟩;refine ⟨g4.mono fun _ _ h=>h.elim,?_⟩;have dv:=b5.grow g4;have z4:=g4.size;obtain ⟨h5,bx,b6,put⟩:=dv.Qo;have b7:=bk.hl;have eo:t2.Small 1099511627:=(X.small bx.inv GY.ne (H:=1000000000) (fun x=>by
   have h1:=Spn.QV x none (z.map Prod.snd);rw [Es] at h1;have h2:=Spn.MJ done x;omega) (by omega)).le (by omega)
  refine AA (SA bx eo (AE.sl o4) (hT.grow dv.g) i3 (fun x o=>?_) (fun x o e=>?_)) ?_
  .have:=b7 x (b6 x o);have:=hT.size;exact⟨by omega,by omega⟩
  .have:=b7 x (b6 x e);have:=o.1;omega
  rintro _ W5 (⟨h0,_⟩|⟨_,id,t5,rfl,b8,hA⟩)
  .exact absurd i2 h0
  obtain⟨F5,f5,ax,M5⟩:=put hA;clear put;refine⟨M5.mono fun x _ o=>.inl ⟨rfl,o⟩,?_⟩;refine BV ?_;obtain⟨f',c4,dT,b9⟩:=X.added bx.inv b8 fun c6=>⟨c6,i3,i2⟩;have gb:=b8.pl;have e4:¬F2 p0.block:=I _ Z.2;have o5:=AE.mod (R':=Dx) (AE.mod (R':=Dx) o2 (av.trans g4) (fun _ _ h=>h) fun _ _ _ h=>h) M5 (fun x o e=>I x o e) fun _ _ _ h=>h;refine AU U ?_;rw[AG,Addr.add_add];rw[<-an] at o5;refine Ny (k:=2) (i:=m) (j:=1) (x':=(⟨row[m].n,id⟩:Spn)) o5 (by omega) (by decide) rfl rfl (fun _ _ _ _ h=>h) (fun _ _ r hr=>?_) fun W6 o6 m6=>?_
  .have h':r=_:=hr;rw[h',b0];rfl
  refine⟨m6.mono fun x _ e=>.inr ⟨rfl,e⟩,?_⟩;rw[AR,AO (by omega)];have z5:=M5.size;have gf:=ax.hl;have e5:¬F5 p0.block:=fun e=>by
   have:=ay _ Z.2;rcases f5 _ e with e|e
   .exact e4 e
   .omega
  have c7:(done++row.drop m).set m (⟨row[m].n,id⟩:Spn)=(done++[⟨row[m].n,id⟩])++row.drop (m+1):=by
   rw[List.set_append,C3 (by omega),T,oB,lA U,pX,PF];rfl
  rw[c7,an] at o6;have ep:¬σ.S p0.block:=fun e=>by
   have h1:=(hM.JS.2 _ e);have:=E _ Z.2;omega
  have er:w0.heap.size<=p0.block:=by have:=hM.g.size;have:=E _ Z.2;omega
  refine⟨⟨m+1,done++[⟨row[m].n,id⟩],t5,f',F5,U,rfl,by simp[T],fun x o=>?_,ax.mod m6 fun x e=>by rw[e];exact⟨e5,ep,er⟩,?_,o6,fun q s s' Q J=>?_,c4.congr fun x=>?_,fun x o=>?_,by omega⟩,by rw[DG,DG];omega⟩
  .rcases f5 x o with e|e
   .exact al x e
   .exact .inr (by omega)
  .refine((M2.next (av.trans g4) fun _ _ e=>e.elim).next M5 fun x o e=>?_).next m6 fun x o e=>?_
   .rcases al x e with e|e
    .exact .inl e
    .omega
   .rw[e];exact .inr Z.2
  .by_cases B:q<done.length
   .rw[Q0 B] at J;obtain⟨e1,e2⟩:=V q s s' Q J;refine⟨e1,?_⟩;rw[b9,e2];have:=Spn.Od (kx J);omega
   .rw[kH (by omega)] at J;have et:q-done.length=0:=by
     have:=(Bp.1 J).1;simpa using this
    rw[et] at J;cases J;have eu:q=m:=by omega
    subst eu;rw[By U] at Q;cases Q;exact⟨rfl,dT⟩
  .rw[Spn.Df,Spn.Df,oU,oD,List.countP_nil];by_cases e:x=id
   .rw[Io e,Io (by simp[e])];omega
   .rw[C3 e,C3 (by simp[mW e])];omega
  .rw[b9 x (by omega),bl x o]
 .obtain rfl:m=row.length:=by omega
  rw[mU,kG] at o2 an;obtain⟨r1,r2⟩:=Tw (P:=fun x y=>f2 y=Bz (f x) p) T V;have e6:(row.flatMap Spn.u).length=j-i:=by rw[ak,K8,Mp,Es,a8];omega
  have c8:∀s∈done,0<s.n:=fun s Q=>by
   obtain⟨q,B,e⟩:=nx.1 Q;obtain⟨e1,_⟩:=V q row[q] s (By (by omega)) (by rw[By B,e]);rw[e1];exact Spn.Ib bd _ (gC _)
  refine AA (Km (f:=f2) (ex:=fun x=>Spn.Df done x) (row:=done) (i:=i) (j:=j) bk a7 (X.congr fun x=>by rw[hu]) a1 (by omega) (AE.sl o2) (fun x o e=>I x o.2 e) (fun s Q=>⟨c8 s Q,.inl (Spn.Od Q)⟩) (by omega) (fun x=>by have:=Spn.MJ done x;omega) (by omega) (by omega)) ?_;rintro _ W5 ⟨rfl,t5,⟨F5,f5,ax,M5⟩,c4,ew⟩;have e7:((Spn.kd.Bw l2 i j done).flatMap Spn.u)=(z.map Prod.snd).take i++done.flatMap Spn.u++(z.map Prod.snd).drop j:=by rw[Spn.EE.Bw l2 _ a1,hu]
  have eA:=kM List.length e7;simp only[Bq,Mp,K8,Es] at eA;have o5:AE W.heap.size 108 2 Dx W5 rv done:=AE.mod (R':=Dx) o2 M5 (fun x o e=>I x o e) fun _ _ _ h=>h;have eB:(row.length:Int)=(done.length:Int):=by rw[T]
  rw [AP,eB];refine Kj (P:=fun m t=>t.Holds [] f2 (fun x=>(Spn.rn x none ((Spn.kd.Bw l2 i j done).flatMap Spn.u)+Spn.Df done x) - Spn.Df (done.take m) x)/\t.places.length=_) (fun hT Q h0 h1=>KQ hT Q h0 h1) (AE.sl o5) (fun x o e=>by
    rcases f5 x e with e|e
    .exact I x o.2 e
    .have:=ay x o.2;omega) (by omega)
   (Nu (h:=fun x=>Spn.rn x none ((Spn.kd.Bw l2 i j done).flatMap Spn.u)+Spn.Df done x) (M:=t2.places.length) (by omega) (fun x=>by omega) (fun x=>by have:=Spn.QV x none ((Spn.kd.Bw l2 i j done).flatMap Spn.u);have:=Spn.MJ done x;omega) σ.ks) ax ⟨c4.congr fun x=>by simp[Spn.Df],ew⟩ ?_
  rintro W6 t6 ⟨F6,f6,h6,M6⟩ ⟨e8,h7⟩;rw[Nr] at e8;have eC:Mod F W W2:=by
   refine(g1.mono fun _ _ h=>h.elim).next M2 fun x o e=>?_;rcases e with e|e
   .exact e
   .have:=E x e;omega
  have eI:=DK.next (W:=W) (F:=F) (fun x o=>(al x o).imp (fun h=>h) fun h=>by omega) eC (DK.next f5 M5 ⟨F6,f6,h6,M6⟩);obtain⟨F',w1,w2,w3⟩:=eI.up (N':=N+(j-i)+20) (by omega)
  let zm:=(z.take j).drop i
  have eL:zm.length=(done.flatMap Spn.u).length:=by
   show((z.take j).drop i).length=_;rw[K8,Mp,r1,e6,a8];omega
  obtain⟨y1,y2,y3⟩:=ix (fun q:Cel×Int=>(⟨q.1.r,Bz q.1.set p⟩:Cel)) zm (done.flatMap Spn.u) eL;have ba:zm.map Prod.fst=(d.take j).drop i:=by
   show((z.take j).drop i).map Prod.fst=_;rw[lP,lK,a6]
  have eN:zm.map (fun q:Cel×Int=>(⟨q.1.r,Bz q.1.set p⟩:Cel))=((d.take j).drop i).map (fun c=>(⟨c.r,Bz c.set p⟩:Cel)):=by
   rw[<-ba,mH];rfl
  have e3:(z.take i++zm.zipWith (fun q y=>((⟨q.1.r,Bz q.1.set p⟩:Cel),y)) (done.flatMap Spn.u)++z.drop j).map Prod.snd=(Spn.kd.Bw l2 i j done).flatMap Spn.u:=by
   rw[e7,S7,S7,lK,lP,y2]
  have bb:d=d.take i++(d.take j).drop i++d.drop j:=by
   have h1:=(S9 i (d.take j)).symm;rw[lz,kY a1] at h1;rw[<-h1,S9]
  refine⟨trivial,F',w1,⟨z.take i++zm.zipWith (fun q y=>((⟨q.1.r,Bz q.1.set p⟩:Cel),y)) (done.flatMap Spn.u)++z.drop j,_,t6,f2,?_,?_,Spn.II i j done a7,e3.symm,e8.congr fun x=>?_,fun q B=>?_,by omega⟩,w3⟩
  .rw[S7,S7,lK,lP,y1,eN,a6]
  .have e1:Ax (d.take i++((d.take j).drop i).map (fun c=>(⟨c.r,Bz c.set p⟩:Cel))++d.drop j)=Ax d:=by
    conv=>rhs;rw[bb]
    simp only[Ax,S7,mH];rfl
   have e2:CL (d.take i++((d.take j).drop i).map (fun c=>(⟨c.r,Bz c.set p⟩:Cel))++d.drop j)=CL d:=by
    conv=>rhs;rw[bb]
    rw[Dm,Dm,Dm,Dm];have n1:CL ((d.take j).drop i)=[]:=by
     unfold CL;rw[nL,oj];intro c hc;simpa using(O c hc).1
    have n2:CL (((d.take j).drop i).map (fun c=>(⟨c.r,Bz c.set p⟩:Cel)))=[]:=by
     unfold CL;rw[nL,oj];intro c hc;obtain⟨c',eR,rfl⟩:=kQ.1 hc;simpa using(O c' eR).1
    rw[n1,n2]
   rw[e1,e2];exact w2
  .rw[e3];omega
  .have GQ:∀q∈z,(q.1.r=10->q.2=0)/\(q.1.r≠10->f2 q.2=q.1.set):=fun q B=>by
    obtain⟨o1,o2⟩:=bc q B;exact⟨o1,fun c6=>by rw[bl q.2 (Spn.I8 (kQ.2 ⟨q,B,rfl⟩) (by simp)),o2 c6]⟩
   rcases DN.1 B with B|B
   .rcases DN.1 B with B|B
    .exact GQ q (kO B)
    .obtain⟨kk,q0,y,ha,hb,rfl⟩:=y3 q B;have e9:q0∈zm:=kx ha;have bn:q0.1∈(d.take j).drop i:=by rw[<-ba];exact kQ.2 ⟨q0,e9,rfl⟩
     obtain⟨c1,_⟩:=O _ bn;have eX:q0∈z:=kO (kP e9);refine⟨fun e=>absurd e c1,fun _=>?_⟩;have o:(row.flatMap Spn.u)[kk]?=some q0.2:=by
      rw[ak,<-lK,<-lP,kr,ha];rfl
     have:=r2 kk q0.2 y o hb;rw[this,(bc q0 eX).2 c1]
   .exact GQ q (kP B)
end
def ET(ks:List DKey)(s:List Attr):Prop:=Ik ks s/\∀x∈s,Mk x
def JE(ks:List DKey)(p:List Chg):Prop:=K6 ks p/\∀c∈p,Mk ⟨c.key,c.val⟩
theorem ET.nil:ET ks []:=⟨IK,fun x i=>nomatch i⟩
theorem JE.nil:JE ks []:=⟨IM,fun x i=>nomatch i⟩
theorem ET.len{s:List Attr}(h:ET ks s):s.length<=64:=h.1.2.1
theorem ET.part{s:List Attr}(h:ET ks s)(b:Bool):ET ks (Cw ks b s):=
 ⟨⟨qg _ h.1.1,k8 (ni _ _) h.1.2.1,fun x i=>h.1.2.2 x (ko.1 i).1⟩,fun x i=>h.2 x (ko.1 i).1⟩
theorem JE.part{p:List Chg}(h:JE ks p)(b:Bool):JE ks (Gf ks b p):=
 ⟨⟨qg _ h.1.1,k8 (ni _ _) h.1.2.1,fun x i=>h.1.2.2 x (ko.1 i).1⟩,fun x i=>h.2 x (ko.1 i).1⟩
theorem ET.app(i:ks.length<=64){s:List Attr}{p:List Chg}(h:ET ks s)(hp:JE ks p):ET ks (Bz s p):=by
 refine⟨XC i h.1 hp.1.1 fun c hc o=>(hp.1.2.2 c hc).2.1 o,fun x j=>?_⟩;rcases Mg j with j|⟨c,hc,_,rfl⟩
 .exact h.2 x j
 .exact hp.2 c hc
def Dv(ks:List DKey)(p:List Chg)(c:Cel):Cel:=⟨c.r,P8 ks c.set p c.r⟩
def ND(d:List Cel)(i j:Nat)(g:Cel->Cel):List Cel:=d.take i++((d.take j).drop i).map g++d.drop j
theorem OT(d:List Cel)(g:Cel->Cel)(o:i<=j)(E:j<=d.length)(k:Nat):(ND d i j g)[k]?=if i<=k/\k<j then d[k]?.map g else d[k]?:=by
 unfold ND;have l1:(d.take i).length=i:=by rw[Mp];omega
 have l2:(((d.take j).drop i).map g).length=j-i:=by rw[Es,K8,Mp];omega
 by_cases h1:k<i
 .rw[C3 (by omega),PF,Q0 (by omega),lQ,Io h1]
 .by_cases B:k<j
  .rw[Io ⟨by omega,B⟩,Q0 (by rw[Bq];omega),kH (by omega),l1,kr,lL,lQ,Io (by omega),show i+(k-i)=k by omega]
  .rw[C3 (by omega),kH (by rw[Bq];omega),Bq,l1,l2,lL,show j+(k-(i+(j-i)))=k by omega]
theorem R2(d:List Cel)(o:i<=j):d=d.take i++(d.take j).drop i++d.drop j:=by
 have h1:=(S9 i (d.take j)).symm;rw[lz,kY o] at h1;rw[<-h1,S9]
theorem VZ(d:List Cel)(g:Cel->Cel)(o:i<=j)(B:∀c,(g c).r=c.r):Ax (ND d i j g)=Ax d:=by
 conv=>rhs;rw[R2 d o]
 unfold ND;simp only[Ax,S7,mH];congr 2
 exact mj fun c _=>B c
theorem Xb(d:List Cel)(g:Cel->Cel)(o:i<=j)(B:∀c∈(d.take j).drop i,g c=c):ND d i j g=d:=by
 conv=>rhs;rw[R2 d o]
 unfold ND;rw[mj (g:=id) (fun c hc=>B c hc),List.map_id]
theorem Yi{b:List Int}(h:(10:Int)∈b):∃q,HQ b 0=some q/\b[q]?=some 10/\∀k,k<q->b[k]?≠some 10:=by
 induction b with
 |nil=>cases h
 |cons r b i=>
  rw[G6];by_cases e:r=10
  .rw[Io e];exact⟨0,rfl,by rw[e];rfl,fun k hk=>by omega⟩
  .rw[C3 e];obtain⟨q,h1,j,o⟩:=i ((I3.1 h).resolve_left fun h=>e h.symm);refine⟨q+1,by rw[h1];rfl,by simpa using j,fun k hk=>?_⟩;cases k with
   |zero=>simpa using e
   |succ k=>simpa using o k (by omega)
theorem Z0{p:Nat}(hp:p<rs.length)(hl:rs.getLast?=some 10):∃q,HQ rs (Bc (rs.take p))=some q/\p<=q/\q<rs.length/\rs[q]?=some 10/\(∀k,p<=k->k<q->rs[k]?≠some 10)/\Bc (rs.take p)+1<=Bc rs/\Bc (rs.take (q+1))=Bc (rs.take p)+1:=by
 have T:rs.drop p≠[]:=fun e=>by have:=kM List.length e;rw[K8] at this;simp at this;omega
 have hm:(10:Int)∈rs.drop p:=by
  have:(rs.drop p).getLast?=some 10:=by
   rw[nZ,C3 (by omega)];exact hl
  exact mD this
 obtain⟨q,h1,o,I⟩:=Yi hm;have lt:(rs.take p).length=p:=by rw[Mp];omega
 have e:=La (rs.take p) (rs.drop p) (Bc (rs.take p));rw[S9,C3 (by omega),oB,h1,lt] at e;rw[lL] at o;have U:=(Bp.1 o).1;have V:Bc rs=Bc (rs.take p)+Bc (rs.drop p):=by rw[<-FD,S9]
 have E:0<Bc (rs.drop p):=oJ.2 hm;have i:∀k,p<=k->k<q+p->rs[k]?≠some 10:=fun k a b=>by
  have:=I (k-p) (by omega);rw[lL,show p+(k-p)=k by omega] at this;exact this
 refine⟨q+p,e,by omega,by omega,by rw[show q+p=p+q by omega];exact o,i,by omega,?_⟩;have J:rs.take (q+p+1)=rs.take p++((rs.take (q+p)).drop p++[10]):=by
  have B:=(S9 p (rs.take (q+p))).symm;rw[lz,kY (by omega)] at B;have O:rs[q+p]?=some 10:=by rw[show q+p=p+q by omega];exact o
  rw[No,O];generalize (rs.take (q+p)).drop p=M at B ⊢;rw[B];simp
 have Q:Bc ((rs.take (q+p)).drop p)=0:=by
  refine List.count_eq_zero.2 fun j=>?_;obtain⟨k,hk,e⟩:=nx.1 j;have S:k<q:=by rw[K8,Mp] at hk;omega
  refine i (p+k) (by omega) (by omega) ?_;rw[List.getElem_drop,nG] at e;rw[By (by omega),e]
 rw[J,FD,FD,Q];rfl
theorem Ul(d:List Cel)(g:Cel->Cel){g':List Attr->List Attr}(j:∀c,(g c).r=c.r)(h:∀c,c.r=10->(g c).set=g' c.set):CL (d.map g)=(CL d).map g':=by
 induction d with
 |nil=>rfl
 |cons c d o=>
  have e:∀(c:Cel) (d:List Cel),CL (c::d)=(if c.r=10 then[c.set] else[])++CL d:=fun c d=>by by_cases h:c.r=10<;>simp[CL,h]
  rw[kL,e,e,o,j,S7];split
  .rename_i i;rw[h c i];rfl
  .rfl
theorem XQ(d:List Cel)(o:i<=j)(g:Cel->Cel){g':List Attr->List Attr}(B:∀c,(g c).r=c.r)(h:∀c,c.r=10->(g c).set=g' c.set) :
  CL (ND d i j g)=(CL d).take (Bc ((Ax d).take i))++(((CL d).take (Bc ((Ax d).take j))).drop (Bc ((Ax d).take i))).map g'++(CL d).drop (Bc ((Ax d).take j)):=by
 unfold ND;rw[Dm,Dm,(DZ d i).1,(DZ d j).2,Ul _ g B h,(DZ (d.take j) i).2,(DZ d j).1,show Ax (d.take j)=(Ax d).take j from lK,lz,kY o]
end Go.Proofs.YtmdhibffnkhcnaaGreatDoor
