/- parts of the proof, written short by a program of ours -/
import Derived.Test.YtbdjachmndlplaaGreatDoorZEngineNone7
import Derived.Laws.Cover3
set_option maxRecDepth 100000
set_option linter.unusedSimpArgs false
set_option linter.unusedVariables false
set_option linter.defProp false
namespace Go.Proofs.YtbdjachmndlplaaGreatDoor
open Go Proofs.Tryz
variable {j c:Nat}{w W W' w' w0:World}{F S C M F':Nat->Prop}{v sv:Value}{most:Int}{cs:List Value}{α:Type}{rs:List Int}{ks:List DKey}{P:Program}{y:List Spn}{yo xo:Operand}
section
open MapKept
def IU(d:TypeDesc)(w:World)(b:Nat)(f:Value->Option Value):Prop:=
 ∃j i,w.heap[b]?=some (.map j i)/\(∀x∈j.toList,IsKey d x.key)/\j.toList.Pairwise (λx y=>x.key≠y.key)/\∀k v,IsKey d k->(f k=some v↔∃x∈j.toList,x.key=k/\x.val=v)
def IU.lt{d:TypeDesc}{b:Nat}{f:Value->Option Value}(h:IU d w b f):b<w.heap.size:=by
 obtain⟨i,c,hb,_⟩:=h;exact(mZ.1 hb).1
def IU.mod{d:TypeDesc}{b:Nat}{f:Value->Option Value}(h:IU d w b f)(hm:Mod M w w')(hb:¬M b):IU d w' b f:=by
 have hl:=h.lt;obtain⟨i,c,h1,j⟩:=h;exact⟨i,c,(hm.same b hl hb).trans h1,j⟩
def IU.make(d:TypeDesc)(w:World):IU d (w.alloc (.map #[] 0)) w.heap.size (λ_=>none):=
 ⟨#[],0,(heap_alloc w _).1,by simp,by simp,λk v _=>by simp⟩
def RA{d:TypeDesc}{t kt et:TypeId}{z:Value}{b:Nat}{f:Value->Option Value}{k:Value}(ht:P.underlying t=some (.map kt et))(hk:P.underlying kt=some d)(hi:IsKey d k)(B:(zeroValue et).run P w=.ok z w)(h:IU d w b f) :
  (Instr.lookup t (.map (some b)) k true).run P w=.ok (.tuple #[(f k).getD z,.bool (f k).isSome]) w:=by
 obtain⟨I,i,hb,m,hp,q⟩:=h;have hc:=λem=>oY (w:=w) hk hi em 9999;rcases findNow_spec hi I.toList 0 m with⟨h1,o⟩|⟨j,e,h1,o,J⟩
 .have h0:f k=none:=by
   cases O:f k with
   |none=>rfl
   |some v=>obtain⟨x,Q,e,_⟩:=(q k v hi).1 O;exact absurd e (o x Q)
  simp[Instr.lookup,run_underlying ht,nJ hb,hc,nk hk h1,B,Result.andThen,h0]
 .have h0:f k=some e.val:=(q k e.val hi).2 ⟨e,ln o,J,rfl⟩;simp[Instr.lookup,run_underlying ht,nJ hb,hc,nk hk h1,Result.andThen,h0]
open Classical in
def QY{d:TypeDesc}{t kt et:TypeId}{b:Nat}{f:Value->Option Value}{k v:Value}(ht:P.underlying t=some (.map kt et))(hk:P.underlying kt=some d)(hi:IsKey d k)(h:IU d w b f)(Q:f k=none) :
  ∃w',(Instr.mapUpdate t (.map (some b)) k v).run P w=.ok () w'/\IU d w' b (λq=>if q=k then some v else f q)/\Mod (λx=>x=b) w w':=by
 obtain⟨U,m,hb,B,hp,V⟩:=h;have hc:=λem=>oY (w:=w) hk hi em 9999;rcases findNow_spec hi U.toList 0 B with⟨h1,J⟩|⟨j,e,h1,J,Y⟩
 .refine⟨{ w with heap:=w.heap.setIfInBounds b (.map (U.push ⟨k,v,m⟩) (m+1)) },by simp[Instr.mapUpdate,run_underlying ht,nJ hb,hc,nk hk h1,oz _ hb,Result.andThen],⟨_,_,(heap_set hb).1,?_,?_,?_⟩,⟨rfl,rfl,rfl,by simp,λx _ i=>(heap_set hb).2 x i⟩⟩
  .intro x i;simp only[pt,By,S6] at i;rcases i with i|rfl
   .exact B x i
   .exact hi
  .rw[pt,qO];exact⟨hp,by simp,λx i y X=>by simp at X;subst X;exact J x i⟩
  .intro q v' O;simp only[pt,By,S6];by_cases e:q=k
   .subst e;rw[DN rfl];constructor
    .intro e;cases e;exact⟨_,.inr rfl,rfl,rfl⟩
    .rintro⟨x,i|rfl,o,I⟩
     .exact absurd o (J x i)
     .rw[<-I]
   .rw[Bp e,V q v' O];constructor
    .rintro⟨x,i,o,I⟩;exact⟨x,.inl i,o,I⟩
    .rintro⟨x,i|rfl,o,I⟩
     .exact⟨x,i,o,I⟩
     .exact absurd o.symm e
 .rw[(V k e.val hi).2 ⟨e,ln J,Y,rfl⟩] at Q;cases Q
def Kr{l:List α}{x:α}:x∈l.eraseIdx j↔∃i,i≠j/\l[i]?=some x:=by
 rw[List.mem_eraseIdx_iff_getElem?]
open Classical in
def Ra{d:TypeDesc}{t kt et ty:TypeId}{b:Nat}{f:Value->Option Value}{k:Value}(ht:P.underlying t=some (.map kt et))(hk:P.underlying kt=some d)(hi:IsKey d k)(h:IU d w b f) :
  ∃w',(Builtin.delete_ #[t,kt] ty #[.map (some b),k]).run P w=.ok (.tuple #[]) w'/\IU d w' b (λo=>if o=k then none else f o)/\Mod (λx=>x=b) w w':=by
 obtain⟨I,q,hb,Q,hp,hf⟩:=h;have hc:=λem=>oY (w:=w) hk hi em 9999;rcases findNow_spec hi I.toList 0 Q with⟨h1,Y⟩|⟨j,e,h1,Y,h3⟩
 .refine⟨{ w with heap:=w.heap.setIfInBounds b (.map I q) },by simp[Builtin.delete_,run_underlying ht,nJ hb,hc,nk hk h1,oz _ hb,Result.andThen],⟨_,_,(heap_set hb).1,Q,hp,?_⟩,⟨rfl,rfl,rfl,by simp,λx _ m=>(heap_set hb).2 x m⟩⟩;intro o v' U;show(if o=k then none else f o)=some v'↔_;by_cases e:o=k
  .subst e;rw[DN rfl];exact⟨λh=>(by cases h),λ⟨x,m,J,_⟩=>absurd J (Y x m)⟩
  .rw[Bp e];exact hf o v' U
 .have hj:j<I.size:=by have:=(Ad.1 Y).1;simpa using this
  have Z:(I.eraseIdxIfInBounds (0+j)).toList=I.toList.eraseIdx j:=by
   unfold Array.eraseIdxIfInBounds;rw[r9 (by omega)];simp
  have O:(I.eraseIdxIfInBounds (0+j)).toList.Sublist I.toList:=by rw[Z];exact List.eraseIdx_sublist _ _
  have B:∀x,x∈(I.eraseIdxIfInBounds (0+j)).toList↔x∈I.toList/\x.key≠k:=by
   intro x;rw[Z,Kr];constructor
   .rintro⟨i,a7,m⟩;refine⟨ln m,λe'=>?_⟩;have a1:=(Ad.1 m).1;have a6:=(Ad.1 Y).1;have pw:=nE.1 hp;have ex:=(Ad.1 m).2;have ee:=(Ad.1 Y).2;rcases qi a7 with V|V
    .exact pw i j a1 a6 V (by rw[ex,ee,e',h3])
    .exact pw j i a6 a1 V (by rw[ex,ee,e',h3])
   .rintro⟨m,a8⟩;obtain⟨i,X⟩:=lz.1 m;exact⟨i,λe'=>a8 (by subst e';rw[Y] at X;cases X;exact h3),X⟩
  refine⟨{ w with heap:=w.heap.setIfInBounds b (.map (I.eraseIdxIfInBounds (0+j)) q) },by simp[Builtin.delete_,run_underlying ht,nJ hb,hc,nk hk h1,oz _ hb,Result.andThen],⟨_,_,(heap_set hb).1,λx m=>Q x (O.subset m),hp.sublist O,?_⟩,⟨rfl,rfl,rfl,by simp,λx _ m=>(heap_set hb).2 x m⟩⟩;intro o v' U;show(if o=k then none else f o)=some v'↔_;by_cases e':o=k
  .subst e';rw[DN rfl];exact⟨λh=>(by cases h),λ⟨x,m,J,_⟩=>absurd J ((B x).1 m).2⟩
  .rw[Bp e',hf o v' U];exact⟨λ⟨x,m,J,e2⟩=>⟨x,(B x).2 ⟨m,λe3=>e' (J.symm.trans e3)⟩,J,e2⟩,λ⟨x,m,J,e2⟩=>⟨x,((B x).1 m).1,J,e2⟩⟩
end
def Sk(s:ByteArray):MapKept.IsKey .string (.string s):=trivial
def Tab.ask{α:Type}(t:Tab α)(z:α)(id:Int):Option (Ent α):=if id=0 then some ⟨z,t.empty⟩ else if id<0 then none else match t.places[(id-1).toNat]? with
 |some p=>if p.held=0 then none else some p
 |none=>none
structure Tab.Small {α:Type} (t:Tab α) (n:Nat):Prop where
 pl:t.places.length<=n
 em:t.empty<=n
 he:∀p∈t.places,p.held<=n
def Tab.J8{t:Tab α}{z:α}{id:Int}{p:Ent α}(h:t.ask z id=some p)(h0:id≠0):∃i:Nat,id=(i:Int)+1/\t.places[i]?=some p/\0<p.held:=by
 unfold Tab.ask at h;rw[Bp h0] at h;split at h
 .cases h
 .cases hp:t.places[(id-1).toNat]? with
  |none=>rw[hp] at h;cases h
  |some q=>
   rw[hp] at h;simp only at h;split at h
   .cases h
   .cases h;exact⟨(id-1).toNat,by omega,hp,by omega⟩
def Tab.Wt{t:Tab α}{z:α}{i:Nat}{p:Ent α}(h:t.places[i]?=some p)(h0:0<p.held):t.ask z ((i:Int)+1)=some p:=by
 unfold Tab.ask;rw[Bp (by omega),Bp (by omega),show((i:Int)+1-1).toNat=i by omega,h];simp only;rw[Bp (by omega)]
abbrev Sc:Nat:=229
def Gm(C:Nat->Prop):World->List Value->Ent (List Attr)->Prop:=λw r x=>∃sv,r=[sv,zI x.held]/\Ba C w sv x.set
def Gm.one{r:List Value}{x:Ent (List Attr)}(h:Gm C w r x):∀u∈r,u.oneCell'=true:=by
 obtain⟨sv,rfl,i⟩:=h;obtain⟨a,c,rfl,_⟩:=i.shape;intro u hu;simp at hu;rcases hu with rfl|rfl<;>rfl
def Gm.mod{r:List Value}{x:Ent (List Attr)}(h:Gm C w r x)(hm:Mod M w w')(hC:∀b,b<w.heap.size->C b->¬M b):Gm C w' r x:=by
 obtain⟨sv,e,i⟩:=h;exact⟨sv,e,i.mod hm hC (by decide) λ_ _ h=>h⟩
def Gm.sub{C C':Nat->Prop}{r:List Value}{x:Ent (List Attr)}(h:Gm C w r x)(hC:∀b,b<w.heap.size->C b->C' b):Gm C' w r x:=by
 obtain⟨sv,e,i⟩:=h;exact⟨sv,e,i.sub hC (by decide) λ_ _ h=>h⟩
abbrev Gq(ks:List DKey):List Attr->Prop:=RN λs=>BY ks s=0
structure SKs where
 sv:Value
 ks:List DKey
 S:Nat->Prop
structure XX (F C:Nat->Prop) (W:World) (b:Nat) (ks:SKs) (t:Tab (List Attr)) (pl fr:Value) (bm:Nat):Prop where
 HN:CK ks.S W ks.sv ks.ks
 GM:AE 0 Sc 2 (Gm C) W pl t.places
 Kj:AE 0 3 1 Mn W fr (t.free.map λi:Nat=>(i:Int))
 map:∃f,IU .string W bm f/\Ea t f
 inv:t.Inv (Gq ks.ks)
 fb:F b/\¬C b
 fm:F bm/\¬C bm/\bm≠b
 pF:∀g,pl.ownBlock=some g->F g/\¬C g/\g≠b/\g≠bm
 fF:∀g,fr.ownBlock=some g->F g/\¬C g/\g≠b/\g≠bm/\pl.ownBlock≠some g
 cf:∀x,C x->F x/\x<W.heap.size
 sf:∀x,ks.S x->¬F x/\x<W.heap.size
def XX.mod{b:Nat}{ks:SKs}{t:Tab (List Attr)}{pl fr:Value}(h:XX F C W b ks t pl fr c)(hm:Mod M W W')(j:∀x,F x\/ks.S x->x≠b->¬M x):XX F C W' b ks t pl fr c:=by
 have hC:∀ x,x < W.heap.size->C x->¬ M x:=λx _ i=>j x (.inl (h.cf x i).1) λe=>h.fb.2 (e ▸ i);obtain ⟨f,o,hi⟩:=h.map;exact ⟨h.HN.mod hm λx _ i=>j x (.inr i) λe=>(h.sf x i).1 (e ▸ h.fb.1),AE.mod h.GM hm (λg m=>j g (.inl (h.pF g m).1) (h.pF g m).2.2.1) λr x _ i=>i.mod hm hC,AE.mod h.Kj hm (λg m=>j g (.inl (h.fF g m).1) (h.fF g m).2.2.1) λ_ _ _ h=>h,⟨f,o.mod hm (j c (.inl h.fm.1) h.fm.2.2),hi⟩,h.inv,h.fb,h.fm,h.pF,h.fF,
  λx i=>⟨(h.cf x i).1,No (h.cf x i).2 hm.size⟩,λx i=>⟨(h.sf x i).1,No (h.sf x i).2 hm.size⟩⟩
abbrev Vf(sv pl fr:Value)(bm:Nat)(em:Nat):List Value:=[sv,pl,fr,.map (some bm),zI em]
structure MR (F C:Nat->Prop) (W:World) (b:Nat) (ks:SKs) (t:Tab (List Attr)) (pl fr:Value) (bm:Nat):Prop where
 cells:∀j v,(Vf ks.sv pl fr bm t.empty)[j]?=some v->W.cell? ⟨b,j,none⟩=some v
 live:∀j,j<5->Live W ⟨b,j,none⟩
 core:XX F C W b ks t pl fr bm
def FR(F:Nat->Prop)(W:World)(b:Nat)(ks:SKs)(t:Tab (List Attr)):Prop:=∃C pl fr bm,MR F C W b ks t pl fr bm
def MR.mod{b:Nat}{ks:SKs}{t:Tab (List Attr)}{pl fr:Value}(h:MR F C W b ks t pl fr c)(hm:Mod M W W')(i:∀x,F x\/ks.S x->¬M x):MR F C W' b ks t pl fr c:=
 ⟨λj v m=>hm.cell (h.cells j v m) (i b (.inl h.core.fb.1)),λj o=>(h.live j o).mod hm (i b (.inl h.core.fb.1)),h.core.mod hm λx q _=>i x q⟩
def FR.mod{b:Nat}{ks:SKs}{t:Tab (List Attr)}(h:FR F W b ks t)(hm:Mod M W W')(i:∀x,F x\/ks.S x->¬M x):FR F W' b ks t:=by
 obtain⟨C,pl,fr,bm,h⟩:=h;exact⟨C,pl,fr,bm,h.mod hm i⟩
def FR.grow{b:Nat}{ks:SKs}{t:Tab (List Attr)}(h:FR F W b ks t)(g:Grow W W'):FR F W' b ks t:=h.mod g λ_ _ h=>h
def Jj(F:Nat->Prop)(w w':World)(b:Nat)(ks:SKs)(t:Tab (List Attr)):Prop:=∃F',(∀x,F' x->F x\/w.heap.size<=x/\x<w'.heap.size)/\FR F' w' b ks t/\Mod F w w'
def Jj.same{b:Nat}{ks:SKs}{t:Tab (List Attr)}(h:FR F w' b ks t)(hm:Mod F w w'):Jj F w w' b ks t:=⟨F,λ_ h=>.inl h,h,hm⟩
def FR.lt{b:Nat}{ks:SKs}{t:Tab (List Attr)}(h:FR F W b ks t):b<W.heap.size/\F b:=by
 obtain⟨C,pl,fr,bm,h⟩:=h;exact⟨lU W _ (h.cells 4 _ rfl),h.core.fb.1⟩
def NX{m:Option Nat}(w:World):(Di .neq 251 xo yo (.map m) (.map none)).run prog w=.ok (.bool (!m.isNone)) w:=by
 have hu:=underlying251;have e:(binOp .neq 251 (.map m) (.map none)).run prog w=.ok (.bool (!m.isNone)) w:=run_neq_map_nil w _ _ _ _ hu;simp[Di,eqGuard,e]
def RO{b:Nat}{ks:SKs}{t:Tab (List Attr)}(h:FR F W b ks t):AB prog 253 [.pointer (some ⟨b,0,none⟩)] (λv' w'=>v'=.bool true/\w'=W) W:=by
 obtain⟨C,pl,fr,bm,h⟩:=h;refine uS1 (dB 9 [] []) func253 (λ_ _ _=>⟨by conv=>lhs;reduce,by dsimp only[PI,AF],by kernel_rfl⟩) ?_;unfold uI;refine CY (AQ (AG ?_));rw[AH,AI];exact AJ (h.cells 3 _ rfl) (AX (NX W) ⟨rfl,rfl⟩)
def bS{ks:SKs}(h:CK ks.S w ks.sv ks.ks)(Q:∀x,ks.S x->x<w.heap.size) :
  AB prog 100 [ks.sv] (λv' w'=>Grow w w'/\∃b,w.heap.size<=b/\v'=.pointer (some ⟨b,0,none⟩)/\FR (λx=>w.heap.size<=x/\x<w'.heap.size) w' b ks (Tab.z _)) w:=by
 refine uS1 (dB 9 [] []) func100 (λ_ _ _=>⟨by conv=>lhs;reduce,by dsimp only[PI,AF],by kernel_rfl⟩) ?_;unfold uI;refine AX (v:=.map (some w.heap.size)) (w':=w.alloc (.map #[] 0)) rfl ?_;have U:Grow w (w.alloc (.map #[] 0)):=Mod.alloc _ _ _;have m:IU .string (w.alloc (.map #[] 0)) w.heap.size (λ_=>none):=IU.make .string w;have B:(w.alloc (.map #[] 0)).heap.size=w.heap.size+1:=by simp
 generalize w.alloc (.map #[] 0)=w1 at U m B ⊢;obtain⟨sv,ks,S⟩:=ks;obtain⟨V,_,_,_,rfl,_⟩:=id h;refine⟨(Vf (.pointer (some ⟨V,0,none⟩)) (.slice none 0 0) (.slice none 0 0) w.heap.size 0).toArray,by kernel_rfl,?_⟩;refine DC (vs:=Vf (.pointer (some ⟨V,0,none⟩)) (.slice none 0 0) (.slice none 0 0) w.heap.size 0) λb w2 hb Y X I J=>?_;have i:=U.trans X;have o:=h.grow i;have Z:=i.size;refine⟨i,b,by omega,rfl,λ_=>False,.slice none 0 0,.slice none 0 0,w.heap.size,?_⟩;refine⟨λj v hv=>by have:=I j v hv;rwa [AI] at this,λj hj=>by have:=J j hj;rwa [AI] at this,?_⟩;refine⟨o,AE.nil,AE.nil,⟨_,m.mod X λh=>h,Ea.z⟩,Tab.Inv.z _,⟨⟨by omega,by omega⟩,λh=>h⟩,⟨⟨by omega,by omega⟩,λh=>h,by omega⟩,(λg O=>nomatch O),(λg O=>nomatch O),(λx q=>q.elim),λx q=>⟨λe=>by have:=Q x q;omega,by have:=Q x q;omega⟩⟩
def My{b:Nat}{ks:SKs}{t:Tab (List Attr)}{id:Int}(h:FR F W b ks t)(hs:t.places.length<=1099511627776)(h0:-9223372036854775808<=id)(h1:id<=9223372036854775807) :
  AB prog 159 [.pointer (some ⟨b,0,none⟩),.int .i64 id] (λv' w'=>Grow W w'/\match t.ask [] id with
   |some p=>∃sv,v'=.tuple #[.agg #[sv,.int .i64 p.held],.int .i64 0]/\sv.oneCell'=true/\Ba F w' sv p.set
   | none=>v'=.tuple #[.agg #[.slice none 0 0,.int .i64 0],.int .i64 5]) W:=by
 refine uS2 (dB 4485042935401 [([],[(5,43)])] []) func159 (λ_ _ _ _=>⟨by conv=>lhs;reduce,by dsimp only[PI,AF],by kernel_rfl⟩) ?_;unfold uI;refine Bz λb4 w1 ay aZ Z _ a1=>?_;have a6:=h.grow Z;obtain⟨C,pl,fr,bm,hR⟩:=h;have I:=hR.mod Z λ_ _ h=>h;obtain⟨pa,pc,J,_⟩:=hR.core.GM.sl.shape;have O:=I.core.GM.sl;rw[J] at O;have box:∀(vs:List Value) {W':World} {K:Cont},vs.length=2->(∀v∈vs,v.oneCell'=true)->Grow w1 W'->(∀o,Grow W o->K (.agg vs.toArray) o)->BP 2 (.pointer (some ⟨b4,0,none⟩)) (.agg vs.toArray) (λw=>CX 2 (.pointer (some ⟨b4,0,none⟩)) K w) W':=by
  intro vs W' K hn ho g' hK;refine BB hn ho (λj hj=>(a1 j hj).mod g' λh=>h) λo m hc _=>?_;exact AV hn hc (hK _ ((Z.trans g').next m λx hx e=>by omega))
 have no:t.ask [] id=none->∀{o:World},Grow W o->Grow W o/\match t.ask [] id with
   |some p=>∃sv,Value.tuple #[.agg #[.slice none 0 0,.int .i64 0],.int .i64 5]=.tuple #[.agg #[sv,.int .i64 p.held],.int .i64 0]/\sv.oneCell'=true/\Ba F o sv p.set
   |none=>Value.tuple #[.agg #[.slice none 0 0,.int .i64 0],.int .i64 5]=.tuple #[.agg #[.slice none 0 0,.int .i64 0],.int .i64 5]:=λe o g=>⟨g,by rw[e]⟩
 refine AR (λ_ W'=>Grow w1 W'/\∃(i:Nat) (p:Ent (List Attr)),id=(i:Int)+1/\t.places[i]?=some p/\0<p.held) ?_ ?_
 .rintro _ W2 ⟨g2,i,p,rfl,hp,a7⟩ _;have hi:=(Ad.1 hp).1;have U:=(Ad.1 hp).2;refine AG ?_;refine Az (g2.cell (I.cells 1 _ rfl) λh=>h) ?_;rw[Am,wrap64 (by omega) (by omega),show((i:Int)+1-1)=(i:Int) by omega,J];obtain⟨q,r,rfl,_,hr,hc,Q⟩:=O.get hi;obtain⟨si,rfl,V⟩:=Q;refine AS hi (AV hr (λj u hu=>by rw[Addr.add_add];exact g2.cell (hc j u hu) λh=>h) ?_);obtain⟨sa,sc,rfl,_⟩:=V.shape;refine box [_,_] rfl (λu hu=>by simp at hu;rcases hu with rfl|rfl<;>rfl) g2 λo B=>?_;rw[Tab.Wt hp a7];refine⟨B,_,by rw[U],rfl,?_⟩;have a8:Ba C W (.slice sa t.places[i].set.length sc) t.places[i].set:=by
   obtain⟨q',r',e',_,b0,ak,s',e2,al⟩:=(J▸hR.core.GM.sl).get hi;cases e';have c0:=Z.cell (ak 0 s' (by rw[e2];rfl)) λh=>h;have c1:=hc 0 _ rfl;rw[c0] at c1;cases c1;exact al
  rw[<-U];exact(a8.sub (λx _ hx=>(hR.core.cf x hx).1) (by decide) λ_ _ h=>h).grow B (by decide) λ_ _ h=>h
 .refine AA (RO a6) ?_;rintro _ _ ⟨rfl,rfl⟩;rename World=>w1
  rw[Ah];refine AL ?_;rw[Aa];refine AD (λX=>?_) λX=>?_
  .refine AG ?_;refine Az (I.cells 4 _ rfl) ?_;refine⟨#[.slice none 0 0,zI t.empty],by kernel_rfl,?_⟩;refine box [.slice none 0 0,zI t.empty] rfl (λu hu=>by simp at hu;rcases hu with rfl|rfl<;>rfl) (Mod.refl _ _) λo B=>?_;have ea:t.ask [] id=some ⟨[],t.empty⟩:=by unfold Tab.ask;rw[DN X]
   rw[ea];exact⟨B,_,rfl,rfl,An.nil⟩
  refine G9 (λan=>?_) λY=>?_
  .refine⟨#[.slice none 0 0,zI 0],by kernel_rfl,?_⟩;exact box [.slice none 0 0,zI 0] rfl (λu hu=>by simp at hu;rcases hu with rfl|rfl<;>rfl) (Mod.refl _ _) λo B=>no (by unfold Tab.ask;rw[Bp X,DN an]) B
  have av:0<=id:=by omega
  refine AG ?_;refine Az (I.cells 1 _ rfl) ?_;rw[J,AO,BE];refine AD (λax=>?_) λb1=>?_
  .refine⟨#[.slice none 0 0,zI 0],by kernel_rfl,?_⟩;refine box [.slice none 0 0,zI 0] rfl (λu hu=>by simp at hu;rcases hu with rfl|rfl<;>rfl) (Mod.refl _ _) λo B=>no ?_ B;unfold Tab.ask;rw[Bp X,Bp Y,lP (by omega)]
  obtain⟨i,rfl⟩:∃i:Nat,id=(i:Int)+1:=⟨(id-1).toNat,by omega⟩;have hi:i<t.places.length:=by omega
  refine AG ?_;refine Az (I.cells 1 _ rfl) ?_;rw[Am,wrap64 (by omega) (by omega),show((i:Int)+1-1)=(i:Int) by omega,J];obtain⟨q,r,rfl,_,hr,hc,Q⟩:=O.get hi;obtain⟨si,rfl,V⟩:=Q;refine AS hi ?_;rw[AH,Addr.add_add];refine AJ (hc 1 _ rfl) ?_;rw[Aa];refine AD (λh0=>?_) λh0=>⟨Mod.refl _ _,i,t.places[i],rfl,Bq hi,by omega⟩;refine⟨#[.slice none 0 0,zI 0],by kernel_rfl,?_⟩;refine box [.slice none 0 0,zI 0] rfl (λu hu=>by simp at hu;rcases hu with rfl|rfl<;>rfl) (Mod.refl _ _) λo B=>no ?_ B;unfold Tab.ask;rw[Bp X,Bp Y,show((i:Int)+1-1).toNat=i by omega,Bq hi];simp only;rw[DN (by omega)]
def Tab.hold{α:Type}(t:Tab α)(z:α)(id:Int):Tab α:=match t.ask z id with
 |none=>t
 |some p=>if id=0 then { t with empty:=t.empty+1 } else t.IQ (id-1).toNat ⟨p.set,p.held+1⟩
def Tab.release{α:Type}(t:Tab α)(z:α)(id:Int):Tab α:=match t.ask z id with
 |none=>t
 |some p=>if id=0 then { t with empty:=t.empty-1 } else if p.held=1 then t.drop z (id-1).toNat else t.IQ (id-1).toNat ⟨p.set,p.held-1⟩
def Lx{s:List Attr}(h:Gq ks s):s.length<=64/\∀a∈s,a.val.s.size<=64:=by
 classical
 have hb:¬KZ s:=λhb=>by
  have h':BY ks s=0:=h.2.2;unfold BY at h';rw[DN hb] at h';cases h'
 refine⟨qM λj=>hb (.inr (.inl j)),λa ha=>qM λj=>hb (.inr (.inr ⟨a,ha,λi=>?_⟩))⟩;rcases i with i|i|i|i
 .rw[i.2.1] at j;exact absurd j (by simp[GX,ByteArray.size])
 .rw[i.2] at j;exact absurd j (by simp[GX,ByteArray.size])
 .rw[i.2.1] at j;exact absurd j (by simp[GX,ByteArray.size])
 .have:=i.2.2.1;omega
def PO{b:Nat}{ks:SKs}{t:Tab (List Attr)}{pl fr:Value}(h:XX F C W b ks t pl fr c){id:Int}{p:Ent (List Attr)}(hp:t.ask [] id=some p):p.set.length<=64:=by
 by_cases h0:id=0
 .unfold Tab.ask at hp;rw[DN h0] at hp;cases hp;simp
 .obtain⟨i,_,h1,j⟩:=Tab.J8 hp h0;exact(Lx (h.inv.ok i p h1 j)).1
def To{b:Nat}{ks:SKs}{t:Tab (List Attr)}{id:Int}(h:FR F W b ks t)(I:t.places.length<=1099511627776)(h0:-9223372036854775808<=id)(h1:id<=9223372036854775807) :
  AB prog 82 [.pointer (some ⟨b,0,none⟩),.int .i64 id] (λv' w'=>Grow W w'/\match t.ask [] id with
   |some p=>∃sv,v'=.tuple #[sv,.int .i64 0]/\Ho W.heap.size w' sv p.set
   | none=>v'=.tuple #[.slice none 0 0,.int .i64 5]) W:=by
 refine uS2 (dB 2138825 [] []) func82 (λ_ _ _ _=>⟨by conv=>lhs;reduce,by dsimp only[PI,AF],by kernel_rfl⟩) ?_;unfold uI;refine AA (My h I h0 h1) ?_;rintro v1 V ⟨q,hm⟩;cases ha:t.ask [] id with
 |none=>
  rw[ha] at hm;subst hm;refine BI ?_;refine BH (vs:=[.slice none 0 0,zI 0]) rfl rfl (λu hu=>by simp at hu;rcases hu with rfl|rfl<;>rfl) λb5 w2 _ _ o i _=>?_;rw[BL];exact AW (λe=>by cases e) λ_=>⟨q.trans o,rfl⟩
 |some p=>
  rw[ha] at hm;obtain⟨sv,rfl,J,j⟩:=hm;refine BI ?_;refine BH (vs:=[sv,zI p.held]) rfl rfl (λu hu=>by simp at hu;rcases hu with rfl|rfl;exact J;rfl) λb5 w2 _ _ o i _=>?_;refine Ko ?_;rw[AH];refine AJ (i 0 _ rfl) ?_;obtain⟨C,pl,fr,bm,O⟩:=h;have hl:=PO O.core ha;refine AA (Eh (j.grow o (by decide) λ_ _ h=>h) (by omega)) ?_;rintro v3 X ⟨B,Q⟩;have m:=q.trans o;exact⟨m.trans Q,v3,rfl,B.base λg U=>by have:=(AE.Aj B g U).1;have:=m.size;omega⟩
def Lu{b:Nat}{ks:SKs}{t:Tab (List Attr)}{pl fr:Value}{bm i n:Nat}{p:Ent (List Attr)}{K:World->Prop}{a:Addr}(h:MR F C W b ks t pl fr bm)(hp:t.places[i]?=some p)(h0:0<p.held)(U:0<n)(o:pl=.slice (some a) t.places.length c)
 (Z:∀W',MR F C W' b ks (t.IQ i ⟨p.set,n⟩) pl fr bm->Mod F W W'->K W'):CB (.pointer (some (a.add (i*2+1)))) (zI n) K W:=by
 have hi:=(Ad.1 hp).1;have J:=(Ad.1 hp).2;have q:=h.core.GM;rw[o] at q;have B:pl.ownBlock=some a.block:=by rw[o];rfl
 obtain ⟨V,f2,X,f4⟩:=h.core.pF _ B;have I:Mod (λx=>x=a.block) W (W.setCell (a.add (i * 2+1)) (zI n)):=Mod.setCell _ _ _ (by rw [Ac]);have hC:∀ x,x < W.heap.size->C x->¬ x=a.block:=λx _ m e=>f2 (e ▸ m);obtain ⟨⟨u,hu⟩,hf,ho,hm⟩:=AE.store (R':=Gm C) (u:=zI n) (x':=⟨p.set,n⟩) (j:=1) q hi (by decide) rfl (λr y _ hr=>hr.mod I hC) (λr hr=>by
  obtain ⟨s,rfl,Y⟩:=hr;refine ⟨s,rfl,?_⟩;rw [J] at Y;exact Y.mod I hC (by decide) λ_ _ h=>h)
 refine Kx rfl rfl hu hf (Z _ ?_ (hm.mono λx _ e=>by rw[e];exact V));obtain⟨f,O,Q⟩:=h.core.map;refine⟨λj v hv=>hm.cell (h.cells j v hv) (λe=>X e.symm),λj hj=>(h.live j hj).mod hm (λe=>X e.symm),?_⟩;exact⟨h.core.HN.mod hm λx _ m e=>(h.core.sf x m).1 (e▸V),by rw[o];exact ho,AE.mod h.core.Kj hm (λg hg e=>(h.core.fF g hg).2.2.2.2 (by rw[B,e])) λ_ _ _ h=>h,⟨f,O.mod hm (λe=>f4 e.symm),Q.IQ hp h0 U⟩,h.core.inv.IQ hp h0 U,h.core.fb,h.core.fm,h.core.pF,h.core.fF,λx m=>⟨(h.core.cf x m).1,No (h.core.cf x m).2 hm.size⟩,λx m=>⟨(h.core.sf x m).1,No (h.core.sf x m).2 hm.size⟩⟩
def IS{b:Nat}{ks:SKs}{t:Tab (List Attr)}{pl fr:Value}{bm n:Nat}{K:World->Prop}(h:MR F C W b ks t pl fr bm)
 (m:∀W',MR F C W' b ks { t with empty:=n } pl fr bm->Mod F W W'->K W'):CB (.pointer (some ⟨b,4,none⟩)) (zI n) K W:=by
 refine DY h.cells (λj i=>h.live j i) (q:=4) (show 4<5 by decide) rfl rfl λW' hm hc hl=>?_;refine m W' ⟨hc,λj i=>hl j i,?_⟩ (hm.mono λx _ e=>by rw[e];exact h.core.fb.1);have:=h.core.mod hm λx _ o=>o;exact⟨this.HN,this.GM,this.Kj,this.map,⟨this.inv.Rn,this.inv.ZU,this.inv.H0,this.inv.ok⟩,this.fb,this.fm,this.pF,this.fF,this.cf,this.sf⟩
def WW{b:Nat}{ks:SKs}{t:Tab (List Attr)}{id:Int}(h:FR F W b ks t)(Q:t.Small 1099511627776)(h0:-9223372036854775808<=id)(h1:id<=9223372036854775807) :
  AB prog 286 [.pointer (some ⟨b,0,none⟩),zI id] (λv' w'=>v'=zI (if(t.ask [] id).isSome then 0 else 5)/\Jj F W w' b ks (t.hold [] id)) W:=by
 refine uS2 (dB 1092661961 [] []) func286 (λ_ _ _ _=>⟨by conv=>lhs;reduce,by dsimp only[PI,AF],by kernel_rfl⟩) ?_;unfold uI;refine AA (My h Q.pl h0 h1) ?_;rintro v1 w1 ⟨g1,hm⟩;unfold Tab.hold;cases ha:t.ask [] id with
 |none=>
  rw[ha] at hm;subst hm;refine BI ?_;refine BH (vs:=[.slice none 0 0,zI 0]) rfl rfl (λu hu=>by simp at hu;rcases hu with rfl|rfl<;>rfl) λb5 w2 _ _ U V _=>?_;rw[BL];have j:=g1.trans U;exact AW (λe=>by cases e) λ_=>⟨rfl,.same (h.grow j) (j.mono λ_ _ h=>h.elim)⟩
 |some p=>
  rw[ha] at hm;obtain⟨sv,rfl,ho,a6⟩:=hm;refine BI ?_;refine BH (vs:=[sv,zI p.held]) rfl rfl (λu hu=>by simp at hu;rcases hu with rfl|rfl;exact ho;rfl) λb5 w2 _ _ U V _=>?_;have j:=g1.trans U;obtain⟨C,pl,fr,bm,hR⟩:=h;have m:=hR.mod j λ_ _ h=>h;refine Ko ?_;rw[Aa];refine AD (λO=>?_) λO=>?_
  .refine AG ?_;refine Az (m.cells 4 _ rfl) ?_;have:=Q.em;rw[AM,wrap64 (by omega) (by omega)];refine AG ?_;rw[AH,AI];have X:((t.empty:Int)+1)=((t.empty+1:Nat):Int):=by omega
   rw[X];refine IS m λW' o B=>⟨rfl,?_⟩;dsimp only;rw[DN O];exact .same ⟨C,pl,fr,bm,o⟩ ((j.mono λ_ _ h=>h.elim).trans B)
  .obtain⟨i,rfl,hp,Y⟩:=Tab.J8 ha O;have hi:=(Ad.1 hp).1;have Z:=(Ad.1 hp).2;refine AG ?_;refine Az (m.cells 1 _ rfl) ?_;obtain⟨pa,pc,I,_⟩:=m.core.GM.sl.shape;have J:=m.core.GM.sl;rw[I] at J;rw[Am,wrap64 (by omega) (by omega),show((i:Int)+1-1)=(i:Int) by omega,I];obtain⟨q,r,rfl,_,hr,hc,a1⟩:=J.get hi;obtain⟨si,rfl,a7⟩:=a1;refine AS hi ?_;rw[AH,Addr.add_add];refine AJ (hc 1 _ rfl) ?_;have a8:=Q.he t.places[i] (ku hi);rw[AM,wrap64 (by omega) (by omega)];refine AS hi ?_;rw[AH,Addr.add_add];have X:((t.places[i].held:Int)+1)=((p.held+1:Nat):Int):=by rw[Z];omega
   rw[X];refine Lu m hp Y (n:=p.held+1) (by omega) I λW' o B=>⟨rfl,?_⟩;dsimp only;rw[Bp O,mH];exact .same ⟨C,pl,fr,bm,o⟩ ((j.mono λ_ _ h=>h.elim).trans B)
structure ED (F C:Nat->Prop) (W:World) (b:Nat) (ks:SKs) (places:List (Ent (List Attr))) (free:List Nat) (em:Nat) (f:Value->Option Value) (pl fr:Value) (bm:Nat):Prop where
 cells:∀j v,(Vf ks.sv pl fr bm em)[j]?=some v->W.cell? ⟨b,j,none⟩=some v
 live:∀j,j<5->Live W ⟨b,j,none⟩
 HN:CK ks.S W ks.sv ks.ks
 GM:AE 0 Sc 2 (Gm C) W pl places
 Kj:AE 0 3 1 Mn W fr (free.map λi:Nat=>(i:Int))
 map:IU .string W bm f
 fb:F b/\¬C b
 fm:F bm/\¬C bm/\bm≠b
 pF:∀g,pl.ownBlock=some g->F g/\¬C g/\g≠b/\g≠bm
 fF:∀g,fr.ownBlock=some g->F g/\¬C g/\g≠b/\g≠bm/\pl.ownBlock≠some g
 cf:∀x,C x->F x/\x<W.heap.size
 sf:∀x,ks.S x->¬F x/\x<W.heap.size
section
variable {F C M:Nat->Prop}{W W':World}{b:Nat}{ks:SKs}{t:Tab (List Attr)}{places:List (Ent (List Attr))}{free:List Nat}{em:Nat}{f:Value->Option Value}{pl fr:Value}{bm:Nat}
def MR.m(h:MR F C W b ks t pl fr bm):∃f,ED F C W b ks t.places t.free t.empty f pl fr bm/\Ea t f:=by
 obtain⟨f,i,hi⟩:=h.core.map;exact⟨f,⟨h.cells,h.live,h.core.HN,h.core.GM,h.core.Kj,i,h.core.fb,h.core.fm,h.core.pF,h.core.fF,h.core.cf,h.core.sf⟩,hi⟩
def ED.r(h:ED F C W b ks t.places t.free t.empty f pl fr bm)(hi:Ea t f)(i:t.Inv (Gq ks.ks)):MR F C W b ks t pl fr bm:=
 ⟨h.cells,h.live,h.HN,h.GM,h.Kj,⟨f,h.map,hi⟩,i,h.fb,h.fm,h.pF,h.fF,h.cf,h.sf⟩
def ED.mod(h:ED F C W b ks places free em f pl fr bm)(hm:Mod M W W')(m:∀x,F x\/ks.S x->¬M x):ED F C W' b ks places free em f pl fr bm:=by
 have hC:∀ x,x < W.heap.size->C x->¬ M x:=λx _ i=>m x (.inl (h.cf x i).1);exact ⟨λj v q=>hm.cell (h.cells j v q) (m b (.inl h.fb.1)),λj B=>(h.live j B).mod hm (m b (.inl h.fb.1)),h.HN.mod hm λx _ i=>m x (.inr i),AE.mod h.GM hm (λg o=>m g (.inl (h.pF g o).1)) λr x _ i=>i.mod hm hC,AE.mod h.Kj hm (λg o=>m g (.inl (h.fF g o).1)) λ_ _ _ h=>h,
  h.map.mod hm (m bm (.inl h.fm.1)),h.fb,h.fm,h.pF,h.fF,λx i=>⟨(h.cf x i).1,No (h.cf x i).2 hm.size⟩,λx i=>⟨(h.sf x i).1,No (h.sf x i).2 hm.size⟩⟩
def ED.XY{o:Value->Option Value}(h:ED F C W b ks places free em f pl fr bm)(hm:Mod (λx=>x=bm) W W')(q:IU .string W' bm o):ED F C W' b ks places free em o pl fr bm:=by
 have hC:∀ x,x < W.heap.size->C x->¬ x=bm:=λx _ i e=>h.fm.2.1 (e ▸ i);have hb:¬ b=bm:=λe=>h.fm.2.2 e.symm;exact ⟨λj v B=>hm.cell (h.cells j v B) hb,λj I=>(h.live j I).mod hm hb,h.HN.mod hm λx _ i e=>(h.sf x i).1 (e ▸ h.fm.1),AE.mod h.GM hm (λg m=>(h.pF g m).2.2.2) λr x _ i=>i.mod hm hC,AE.mod h.Kj hm (λg m=>(h.fF g m).2.2.2.1) λ_ _ _ h=>h,
  q,h.fb,h.fm,h.pF,h.fF,λx i=>⟨(h.cf x i).1,No (h.cf x i).2 hm.size⟩,λx i=>⟨(h.sf x i).1,No (h.sf x i).2 hm.size⟩⟩
def ED.JO{i:List (Ent (List Attr))}{g:Nat}(h:ED F C W b ks places free em f pl fr bm)(q:pl.ownBlock=some g)(hm:Mod (λx=>x=g) W W')(hp:AE 0 Sc 2 (Gm C) W' pl i):ED F C W' b ks i free em f pl fr bm:=by
 obtain ⟨I,J,B,O⟩:=h.pF g q;have hC:∀ x,x < W.heap.size->C x->¬ x=g:=λx _ m e=>J (e ▸ m);exact ⟨λj v Q=>hm.cell (h.cells j v Q) (λe=>B e.symm),λj U=>(h.live j U).mod hm (λe=>B e.symm),h.HN.mod hm (λx _ m e=>(h.sf x m).1 (e ▸ I)),hp,AE.mod h.Kj hm (λg' o e=>(h.fF g' o).2.2.2.2 (by rw [q,e])) λ_ _ _ h=>h,
  h.map.mod hm (λe=>O e.symm),h.fb,h.fm,h.pF,h.fF,λx m=>⟨(h.cf x m).1,No (h.cf x m).2 hm.size⟩,λx m=>⟨(h.sf x m).1,No (h.sf x m).2 hm.size⟩⟩
def ED.cj{B:Value}{free':List Nat}{K:World->Prop}{Mf:Nat->Prop}(h:ED F C W b ks places free em f pl fr bm)(hm:Mod Mf W W')(U:∀x,Mf x->fr.ownBlock=some x)(hF:∀x,F x->F' x)(V:∀x,F' x->F x\/W.heap.size<=x)
 (ho:AE 0 3 1 Mn W' B (free'.map λi:Nat=>(i:Int)))(hn:∀g,B.ownBlock=some g->fr.ownBlock=some g\/W.heap.size<=g/\F' g)(O:B.oneCell'=true)(X:B.cells=#[B])
 (hK:∀I,ED F' C I b ks places free' em f pl B bm->Mod (λx=>x=b) W' I->K I):CB (.pointer (some ⟨b,2,none⟩)) B K W':=by
 have hb:∀ x,Mf x->F x/\¬ C x/\x≠b/\x≠bm/\pl.ownBlock≠some x:=λx m=>h.fF x (U x m);have hC:∀ x,x < W.heap.size->C x->¬ Mf x:=λx _ m e=>(hb x e).2.1 m;refine DY (vs:=Vf ks.sv pl fr bm em) (λj v hv=>hm.cell (h.cells j v hv) λe=>(hb b e).2.2.1 rfl) (λj Y=>(h.live j Y).mod hm λe=>(hb b e).2.2.1 rfl) (q:=2) (show 2 < 5 by decide) O X λI o hc hl=>?_;have Q:=lU W _ (h.cells 4 _ rfl);have Z:∀ x,x < W'.heap.size->C x->¬ x=b:=λx _ m e=>h.fb.2 (e ▸ m);have a1:=AE.Aj h.GM;have a6:=h.map.lt;refine hK I ⟨hc,λj Y=>hl j Y,(h.HN.mod hm λx _ m e=>(h.sf x m).1 (hb x e).1).mod o (λx _ m e=>(h.sf x m).1 (e ▸ h.fb.1)),AE.mod (AE.mod (R':=Gm C) h.GM hm (λg J e=>(hb g e).2.2.2.2 J) λr x _ m=>m.mod hm hC) o (λg J=>(h.pF g J).2.2.1) λr x _ m=>m.mod o Z,AE.mod ho o (λg J e=>?_) λ_ _ _ h=>h,
  (h.map.mod hm λe=>(hb bm e).2.2.2.1 rfl).mod o h.fm.2.2,⟨hF _ h.fb.1,h.fb.2⟩,⟨hF _ h.fm.1,h.fm.2⟩,λg J=>⟨hF _ (h.pF g J).1,(h.pF g J).2⟩,λg J=>?_,λx m=>⟨hF _ (h.cf x m).1,No (h.cf x m).2 (lx hm.size o.size)⟩,λx m=>⟨λe=>(V x e).elim (h.sf x m).1 λe=>by have:=(h.sf x m).2;omega,No (h.sf x m).2 (lx hm.size o.size)⟩⟩ o
 .subst e;rcases hn g J with e|⟨e,_⟩
  .exact(h.fF g e).2.2.1 rfl
  .have:g<W.heap.size:=Q;omega
 .rcases hn g J with e|⟨e,e'⟩
  .have:=h.fF g e;exact⟨hF _ this.1,this.2⟩
  .refine⟨e',λhc=>by have:=(h.cf g hc).2;omega,λe2=>?_,λe2=>by omega,λe2=>by have:=(a1 g e2).2;omega⟩;have:b<W.heap.size:=Q;omega
end
def Y8{a:Addr}{n c i:Nat}{l:List (Ent (List Attr))}{K:World->Prop}(h:AE 0 Sc 2 (Gm C) W (.slice (some a) n c) l)(hi:i<l.length)(hC:∀x,x<W.heap.size->C x->¬x=a.block)
 (Y:∀W',AE 0 Sc 2 (Gm C) W' (.slice (some a) n c) (l.set i ⟨[],0⟩)->Mod (λx=>x=a.block) W W'->K W'):BP 2 (.pointer (some (a.add (i*2)))) (.agg #[.slice none 0 0,zI 0]) K W:=by
 have o:Mod (λx=>x=a.block) W (W.setCell (a.add (i * 2+0)) (.slice none 0 0)):=Mod.setCell _ _ _ (by rw [Ac]);obtain ⟨⟨u1,I⟩,J,O,_⟩:=AE.store (R':=Gm C) (u:=.slice none 0 0) (x':=⟨[],l[i].held⟩) (j:=0) h hi (by decide) rfl (λr y _ hr=>hr.mod o hC) (λr hr=>by
  obtain ⟨s,rfl,Q⟩:=hr;exact ⟨_,rfl,An.nil⟩)
 have U:i<(l.set i ⟨[],l[i].held⟩).length:=by rw[lG];exact hi
 have m:Mod (λx=>x=a.block) (W.setCell (a.add (i * 2+0)) (.slice none 0 0)) ((W.setCell (a.add (i * 2+0)) (.slice none 0 0)).setCell (a.add (i * 2+1)) (zI 0)):=Mod.setCell _ _ _ (by rw [Ac]);have q:∀ x,x < (W.setCell (a.add (i * 2+0)) (.slice none 0 0)).heap.size->C x->¬ x=a.block:=λx Z hc=>hC x (by simpa using Z) hc;obtain ⟨_,_,B,_⟩:=AE.store (R':=Gm C) (u:=zI 0) (x':=⟨[],0⟩) (j:=1) O U (by decide) rfl (λr y _ hr=>hr.mod m q) (λr hr=>by
  obtain⟨s,rfl,Q⟩:=hr;refine⟨s,rfl,?_⟩;have e:(l.set i ⟨[],l[i].held⟩)[i].set=[]:=by rw[oT]
  rw [e] at Q;exact Q.mod m q (by decide) λ_ _ h=>h)
 rw[sE] at B;obtain⟨⟨u2,V⟩,X,_,_⟩:=AE.store (R':=λ_ _ (_:Ent (List Attr))=>True) (u:=zI 0) (x':=⟨[],0⟩) (j:=1) h hi (by decide) rfl (λ_ _ _ _=>trivial) (λ_ _=>trivial);refine⟨_,[.slice none 0 0,zI 0],rfl,rfl,rfl,λu hu=>by simp at hu;rcases hu with rfl|rfl<;>rfl,λj hj=>?_,Y _ ?_ ?_⟩
 .rcases(show j=0\/j=1 by omega) with rfl|rfl
  .rw[Addr.add_add];exact⟨by rw[I];rfl,J⟩
  .rw[Addr.add_add];exact⟨by rw[V];rfl,X⟩
 .simp only[EN,Addr.add_add];exact B
 .simp only[EN,Addr.add_add];exact o.trans m
def XC{b:Nat}{ks:SKs}{t:Tab (List Attr)}{id:Int}(h:FR F W b ks t)(hs:t.Small 1099511627)(h0:-9223372036854775808<=id)(h1:id<=9223372036854775807) :
  AB prog 182 [.pointer (some ⟨b,0,none⟩),zI id] (λv' w'=>v'=zI (if(t.ask [] id).isSome then 0 else 5)/\Jj F W w' b ks (t.release [] id)) W:=by
 refine uS2 (dB 36243234665161 [] [(dC [6,7] [0,1,3,7,0,16,48,127] [])]) func182 (λ_ _ _ _=>⟨by conv=>lhs;reduce,by dsimp only[PI,AF],by kernel_rfl⟩) ?_;unfold uI;have c8:=hs.pl;refine AA (My h (by omega) h0 h1) ?_;rintro v1 w1 ⟨g1,hm⟩;unfold Tab.release;cases ha:t.ask [] id with
 |none=>
  rw[ha] at hm;subst hm;refine BI ?_;refine BH (vs:=[.slice none 0 0,zI 0]) rfl rfl (λu hu=>by simp at hu;rcases hu with rfl|rfl<;>rfl) λb5 w2 _ _ g2 a6 _=>?_;rw[BL];have B:=g1.trans g2;exact AW (λe=>by cases e) λ_=>⟨rfl,.same (h.grow B) (B.mono λ_ _ h=>h.elim)⟩
 |some p=>
  rw[ha] at hm;obtain⟨si,rfl,ho,b1⟩:=hm;refine BI ?_;refine BH (vs:=[si,zI p.held]) rfl rfl (λu hu=>by simp at hu;rcases hu with rfl|rfl;exact ho;rfl) λb5 w2 _ _ g2 a6 _=>?_;have B:=g1.trans g2;obtain⟨C,pl,fr,bm,hR⟩:=h;have o:=hR.mod B λ_ _ h=>h;have a7:=b1.grow g2 (by decide) λ_ _ h=>h;refine Ko ?_;rw[Aa];refine AD (λhz=>?_) λhz=>?_
  .refine AG ?_;refine Az (o.cells 4 _ rfl) ?_;have:=hs.em;rw[Am,GC,wrap64 (by omega) (by omega)];refine AG ?_;rw[AH,AI];have en:(if(0:Int)>(t.empty:Int)-1 then(0:Int) else(t.empty:Int)-1)=((t.empty-1:Nat):Int):=by split<;>omega
   rw[en];refine IS o λW' a8 ak=>⟨rfl,?_⟩;dsimp only;rw[DN hz];exact .same ⟨C,pl,fr,bm,a8⟩ ((B.mono λ_ _ h=>h.elim).trans ak)
  .obtain⟨i,rfl,hp,Y⟩:=Tab.J8 ha hz;have hi:=(Ad.1 hp).1;have bd:=(Ad.1 hp).2;have c9:=hs.he t.places[i] (ku hi);obtain⟨pa,pc,I,_⟩:=o.core.GM.sl.shape;rw[AH];refine AJ (a6 1 _ rfl) ?_;rw[Aa];refine AD (λa1=>?_) λa1=>?_
   .have al:p.held=1:=by omega
    have J:=hR.core.inv.ok i p hp Y;obtain⟨bk,bl⟩:=Lx J;refine AT (λk y=>k=7/\y=bm) ?_;have gd:Grow w2 w2.drew:=Mod.drew _ _;refine AG ?_;rw[AH,AI];refine AP ⟨gd.cell (o.cells 3 _ rfl) λh=>h,λj hj e=>by obtain⟨rfl,_⟩:=e;exact absurd hj (by decide)⟩ ?_;rw[AH];refine AP ⟨gd.cell (a6 0 _ rfl) λh=>h,λj hj e=>by obtain⟨rfl,_⟩:=e;exact absurd hj (by decide)⟩ ?_;refine AA (QP (a7.grow gd (by decide) λ_ _ h=>h) J.2.1 bl bk) ?_;rintro _ w4 ⟨rfl,g4⟩;refine⟨g4.mono λ_ _ h=>h.elim,?_⟩;have b2:=gd.trans g4;have b6:=B.trans b2;have b7:=o.mod b2 λ_ _ h=>h;have O:=b7.core.inv;obtain⟨f,an,b8⟩:=b7.m;obtain⟨w5,b9,av,Z⟩:=Ra (P:=prog) (ty:=0) (t:=251) (kt:=9) underlying251 underlying9 (Sk (El p.set)) an.map;refine AX b9 ⟨Z.mono λx _ e=>⟨rfl,e⟩,?_⟩;have Q:=an.XY Z av;refine AG ?_;refine Az (Q.cells 1 _ rfl) ?_;rw[Am,wrap64 (by omega) (by omega),show((i:Int)+1-1)=(i:Int) by omega];refine⟨#[.slice none 0 0,zI 0],by kernel_rfl,?_⟩;have U:=Q.GM;rw[I] at U ⊢;obtain⟨q,r,rfl,hq,_,_,_⟩:=U.sl.get hi;refine AS hi ?_;have ax:pl.ownBlock=some q.block:=by rw[I];exact hq.2
    have bp:∀x,x<w5.heap.size->C x->¬x=q.block:=λx _ hx e=>(Q.pF _ ax).2.1 (e▸hx);refine Y8 U hi bp λw6 bs ay=>?_;have V:=Q.JO ax ay (by rw[I];exact bs);refine AG ?_;refine Az (V.cells 2 _ rfl) ?_;have ca:=Tab.UD O;rw[Am,wrap64 (by omega) (by omega),show((i:Int)+1-1)=(i:Int) by omega];refine Dp Px V.Kj (Nn _) (cs:=[zI i]) (x:=(i:Int)) (by kernel_rfl) rfl rfl (λ_ _ _=>Mn.one) (λ_ _ _ _ _ _ h=>h) (by rw[I3];omega) (by rw[I3];simp only[maxLen];omega) λbx w7 X aZ bZ=>?_;refine AG ?_;rw[AH,AI];have b0:(t.free.map λi:Nat=>(i:Int))++[(i:Int)]=(t.free++[i]).map λi:Nat=>(i:Int):=by simp
    rw [b0] at X;have s7:=aZ.size;have ba:=AE.Aj X;refine ED.cj (F':=λx=>F x\/w6.heap.size<=x/\x < w7.heap.size) V aZ (λ_ h=>h) (λ_ h=>.inl h) (λ_ h=>h.imp id qn) X (λg hg=>by
     rcases bZ g hg with e|e
     .exact .inl e
     .exact .inr ⟨e,.inr ⟨e,(ba g hg).2⟩⟩) X.one.1 X.one.2 λw8 c4 bb=>⟨rfl,?_⟩
    dsimp only;rw[Bp hz,DN al,mH];have z4:=b6.size;have z5:=Z.size;have z6:=ay.size;have z8:=bb.size;refine⟨_,λx hx=>?_,⟨C,pl,bx,bm,ED.r (t:=t.drop [] i) c4 (b8.drop O hp Y) (Tab.XA O hp Y [])⟩,?_⟩
    .rcases hx with hx|hx
     .exact .inl hx
     .exact .inr ⟨by omega,by omega⟩
    .refine(((((b6.mono λ_ _ h=>h.elim).trans (Z.mono λx _ e=>by rw[e];exact an.fm.1)).trans (ay.mono λx _ e=>by rw[e];exact(Q.pF _ ax).1)).trans (aZ.mono λx _ e=>(V.fF x e).1)).trans (bb.mono λx _ e=>by rw[e];exact V.fb.1))
   .refine AG ?_;refine Az (o.cells 1 _ rfl) ?_;have bc:=o.core.GM.sl;rw[I] at bc;rw[Am,wrap64 (by omega) (by omega),show((i:Int)+1-1)=(i:Int) by omega,I];obtain⟨q,r,rfl,_,hr,hc,c6⟩:=bc.get hi;obtain⟨s2,rfl,cc⟩:=c6;refine AS hi ?_;rw[AH,Addr.add_add];refine AJ (hc 1 _ rfl) ?_;rw[Am,wrap64 (by omega) (by omega)];refine AS hi ?_;rw[AH,Addr.add_add];have c7:p.held≠1:=λe=>a1 (by rw[e];rfl);have en:((t.places[i].held:Int)-1)=((p.held-1:Nat):Int):=by rw[bd];omega
    rw[en];refine Lu o hp Y (n:=p.held-1) (by omega) I λW' a8 ak=>⟨rfl,?_⟩;dsimp only;rw[Bp hz,Bp c7,mH];exact .same ⟨C,pl,fr,bm,a8⟩ ((B.mono λ_ _ h=>h.elim).trans ak)
def Wc:Ch prog 252 Sc 2 32:=⟨Tryz.t229,.agg #[.slice none 0 0,zI 0],by kernel_rfl,by kernel_rfl,by kernel_rfl,by kernel_rfl,by kernel_rfl,by rfl,by decide⟩
section
variable {F C M:Nat->Prop}{W W':World}{b:Nat}{ks:SKs}{t:Tab (List Attr)}{places:List (Ent (List Attr))}{free:List Nat}{em:Nat}{f:Value->Option Value}{pl fr:Value}{bm:Nat}
def ED.gX{B:Value}{m:List (Ent (List Attr))}{K:World->Prop}(h:ED F C W b ks places free em f pl fr bm)(hm:Mod (λx=>pl.ownBlock=some x) W W')(hF:∀x,F x->F' x)(Q:∀x,F' x->F x\/W.heap.size<=x)
 (ho:AE 0 Sc 2 (Gm C) W' B m)(U:∀g,B.ownBlock=some g->pl.ownBlock=some g\/W.heap.size<=g/\F' g)(O:B.oneCell'=true)(V:B.cells=#[B])
 (hK:∀J,ED F' C J b ks m free em f B fr bm->Mod (λx=>x=b) W' J->K J):CB (.pointer (some ⟨b,1,none⟩)) B K W':=by
 have hb:∀ x,pl.ownBlock=some x->F x/\¬ C x/\x≠b/\x≠bm:=λx i=>h.pF x i;have hC:∀ x,x < W.heap.size->C x->¬ pl.ownBlock=some x:=λx _ i e=>(hb x e).2.1 i;refine DY (vs:=Vf ks.sv pl fr bm em) (λj v hv=>hm.cell (h.cells j v hv) λe=>(hb b e).2.2.1 rfl) (λj X=>(h.live j X).mod hm λe=>(hb b e).2.2.1 rfl) (q:=1) (show 1 < 5 by decide) O V λJ o hc hl=>?_;have a1:b < W.heap.size:=lU W _ (h.cells 4 _ rfl);have Y:∀ x,x < W'.heap.size->C x->¬ x=b:=λx _ i e=>h.fb.2 (e ▸ i);have Z:=AE.Aj h.Kj;have a6:=h.map.lt;refine hK J ⟨hc,λj X=>hl j X,(h.HN.mod hm λx _ i e=>(h.sf x i).1 (hb x e).1).mod o (λx _ i e=>(h.sf x i).1 (e ▸ h.fb.1)),AE.mod ho o (λg I e=>?_) λr x _ i=>i.mod o Y,AE.mod (AE.mod (R':=Mn) h.Kj hm (λg I e=>(h.fF g I).2.2.2.2 e) λ_ _ _ h=>h) o (λg I=>(h.fF g I).2.2.1) λ_ _ _ h=>h,
  (h.map.mod hm λe=>(hb bm e).2.2.2 rfl).mod o h.fm.2.2,⟨hF _ h.fb.1,h.fb.2⟩,⟨hF _ h.fm.1,h.fm.2⟩,λg I=>?_,λg I=>⟨hF _ (h.fF g I).1,(h.fF g I).2.1,(h.fF g I).2.2.1,(h.fF g I).2.2.2.1,λe=>?_⟩,λx i=>⟨hF _ (h.cf x i).1,No (h.cf x i).2 (lx hm.size o.size)⟩,λx i=>⟨λe=>(Q x e).elim (h.sf x i).1 λe=>by have:=(h.sf x i).2;omega,No (h.sf x i).2 (lx hm.size o.size)⟩⟩ o
 .subst e;rcases U g I with e|⟨e,_⟩
  .exact(h.pF g e).2.2.1 rfl
  .omega
 .rcases U g I with e|⟨e,e'⟩
  .have:=h.pF g e;exact⟨hF _ this.1,this.2⟩
  .exact⟨e',λhc=>by have:=(h.cf g hc).2;omega,λe2=>by omega,λe2=>by omega⟩
 .rcases U g e with e|⟨e,_⟩
  .exact(h.fF g I).2.2.2.2 e
  .have:=(Z g I).2;omega
def ED.Z0{K:World->Prop}{a:Addr}{c i n:Nat}{p:Ent (List Attr)}(h:ED F C W b ks places free em f pl fr bm)(hp:places[i]?=some p)(m:pl=.slice (some a) places.length c)
 (O:∀W',ED F C W' b ks (places.set i ⟨p.set,n⟩) free em f pl fr bm->Mod F W W'->K W'):CB (.pointer (some (a.add (i*2+1)))) (zI n) K W:=by
 have hi:=(Ad.1 hp).1;have I:=(Ad.1 hp).2;have o:=h.GM;rw[m] at o;have q:pl.ownBlock=some a.block:=by rw[m];rfl
 obtain ⟨Q,U,Z,f4⟩:=h.pF _ q;have B:Mod (λx=>x=a.block) W (W.setCell (a.add (i * 2+1)) (zI n)):=Mod.setCell _ _ _ (by rw [Ac]);have hC:∀ x,x < W.heap.size->C x->¬ x=a.block:=λx _ V e=>U (e ▸ V);obtain ⟨⟨u,hu⟩,X,Y,hm⟩:=AE.store (R':=Gm C) (u:=zI n) (x':=⟨p.set,n⟩) (j:=1) o hi (by decide) rfl (λr y _ hr=>hr.mod B hC) (λr hr=>by
  obtain ⟨s,rfl,J⟩:=hr;refine ⟨s,rfl,?_⟩;rw [I] at J;exact J.mod B hC (by decide) λ_ _ h=>h)
 exact Kx rfl rfl hu X (O _ (h.JO q hm (by rw[m];exact Y)) (hm.mono λx _ e=>by rw[e];exact Q))
def ED.fO{K:World->Prop}{a:Addr}{c i B:Nat}{p:Ent (List Attr)}{s:List Attr}(h:ED F C W b ks places free em f pl fr bm)(hp:places[i]?=some p)(I:pl=.slice (some a) places.length c)(Y:∀x,F x\/ks.S x->x<B)(Q:Ho B W v s)
 (Z:∀W',ED (λx=>F x\/v.ownBlock=some x) (λx=>C x\/v.ownBlock=some x) W' b ks (places.set i ⟨s,p.held⟩) free em f pl fr bm->Mod (λx=>x=a.block) W W'->K W'):CB (.pointer (some (a.add (i*2+0)))) v K W:=by
 have hi:=(Ad.1 hp).1;have X:=(Ad.1 hp).2;have J:pl.ownBlock=some a.block:=by rw[I];rfl
 obtain⟨f1,f2,f3,f4⟩:=h.pF _ J;have o:=AE.Aj Q;have nF:∀x,v.ownBlock=some x->¬F x:=λx m hF=>by have:=(o x m).1;have:=Y x (.inl hF);omega
 have O:ED (λx=>F x\/v.ownBlock=some x) (λx=>C x\/v.ownBlock=some x) W b ks places free em f pl fr bm:=
  ⟨h.cells,h.live,h.HN,AE.mod h.GM (Mod.refl (λ_=>False) _) (λ_ _ h=>h) λr x _ m=>m.sub λ_ _ h=>.inl h,h.Kj,h.map,⟨.inl h.fb.1,λe=>e.elim h.fb.2 λe=>nF _ e h.fb.1⟩,⟨.inl h.fm.1,λe=>e.elim h.fm.2.1 λe=>nF _ e h.fm.1,h.fm.2.2⟩,
   λg q=>⟨.inl (h.pF g q).1,λe=>e.elim (h.pF g q).2.1 λe=>nF _ e (h.pF g q).1,(h.pF g q).2.2⟩,λg q=>⟨.inl (h.fF g q).1,λe=>e.elim (h.fF g q).2.1 λe=>nF _ e (h.fF g q).1,(h.fF g q).2.2⟩,λx m=>m.elim (λm=>⟨.inl (h.cf x m).1,(h.cf x m).2⟩) λm=>⟨.inr m,(o x m).2⟩,λx m=>⟨λe=>e.elim (h.sf x m).1 λe=>by have:=(o x e).1;have:=Y x (.inr m);omega,(h.sf x m).2⟩⟩
 have U:=O.GM;rw [I] at U;have V:Mod (λx=>x=a.block) W (W.setCell (a.add (i * 2+0)) v):=Mod.setCell _ _ _ (by rw [Ac]);have hC:∀ x,x < W.heap.size->(C x\/v.ownBlock=some x)->¬ x=a.block:=λx _ m e=>(O.pF _ J).2.1 (e ▸ m);obtain ⟨⟨u,hu⟩,hf,ho,hm⟩:=AE.store (R':=Gm (λx=>C x\/v.ownBlock=some x)) (u:=v) (x':=⟨s,p.held⟩) (j:=0) U hi (by decide) Q.one.1 (λr y _ hr=>hr.mod V hC) (λr hr=>by
  obtain ⟨s',rfl,_⟩:=hr;refine ⟨v,by rw [X];rfl,?_⟩;exact (AE.sl Q).mod V (λx _ m e=>hC x (o x m.2).2 (.inr m.2) e) (by decide) (λ_ _ h=>h) |>.sub (λx _ m=>.inr m.2) (by decide) λ_ _ h=>h)
 exact Kx Q.one.1 Q.one.2 hu hf (Z _ (O.JO J hm (by rw[I];exact ho)) hm)
end
def Uv{b:Nat}{ks:SKs}{t:Tab (List Attr)}{f:Value->Option Value}{pl fr:Value}(h:ED F C W b ks t.places t.free t.empty f pl fr c)(hi:t.Inv (Gq ks.ks))(hs:t.Small 1099511627) :
  AB prog 278 [.pointer (some ⟨b,0,none⟩)] (λv' w'=>∃ (i:Nat) (F':Nat->Prop) (m:List (Ent (List Attr))) (free':List Nat) (J a7:Value),v'=zI ((i:Int)+1)/\ED F' C w' b ks m free' t.empty f J a7 c/\Mod F W w'/\
   (∀ x,F' x->F x\/W.heap.size<=x/\x < w'.heap.size)/\((t.free.getLast?=some i/\m=t.places/\free'=t.free.dropLast)\/(t.free=[]/\i=t.places.length/\m=t.places++[⟨[],0⟩]/\free'=[]))) W:=by
 refine uS1 (dB 1210360409 [] []) func278 (λ_ _ _=>⟨by conv=>lhs;reduce,by dsimp only[PI,AF],by kernel_rfl⟩) ?_;unfold uI;have ay:=Tab.UD hi;have ax:=hs.pl;refine AG ?_;refine Az (h.cells 2 _ rfl) ?_;obtain⟨fa,fc,o,O,_,a8,ak⟩:=h.Kj.shape;rw[I3] at O;rw[o,AO,Am,I3,wrap64 (by omega) (by omega),Cu];refine AD (λaZ=>?_) λb0=>?_
 .have U:0<t.free.length:=by omega
  have Q:t.free≠[]:=mN.1 U;obtain⟨i,hl⟩:∃i,t.free.getLast?=some i:=⟨_,nD Q⟩;cases fa with
  |none=>have:=ak rfl;rw[oi] at this;exact absurd this Q
  |some q=>
   obtain⟨g,rfl,_,_,b1⟩:=a8 q rfl;have V:=h.Kj.sl;have B:=h.Kj;rw[o,I3] at V B;refine AG ?_;refine Az (h.cells 2 _ rfl) ?_;rw[o,I3];have hj:t.free.length-1<(t.free.map λi:Nat=>(i:Int)).length:=by rw[I3];omega
   obtain⟨_,r,e1,_,hr,hc,rfl⟩:=V.get hj;cases e1;have ev:(t.free.map λi:Nat=>(i:Int))[t.free.length-1]=(i:Int):=by
    rw[nA];rw[nD Q,rB] at hl;rw[lK hl]
   rw[ev] at hc;have en:((t.free.length:Int)-1)=((t.free.length-1:Nat):Int):=by omega
   rw[en];refine AS (show t.free.length-1<t.free.length by omega) (AJ (hc 0 _ rfl) ?_);refine AG ?_;refine Az (h.cells 2 _ rfl) ?_;rw[o,I3];refine AX (Eo (e:=3) (k:=1) (i:=Tryz.t3) (by kernel_rfl) (by kernel_rfl) (by kernel_rfl) (by omega) W) ?_;refine AG ?_;rw[AH,AI];have ht:=AE.take B (j:=t.free.length-1) (by rw[I3];omega);have ed:(t.free.map λi:Nat=>(i:Int)).take (t.free.length-1)=t.free.dropLast.map λi:Nat=>(i:Int):=by rw[pI,mO]
   rw[ed] at ht;refine ED.cj (F':=F) (free':=t.free.dropLast) (Mf:=λ_=>False) h (Mod.refl _ _) (λ_ h=>h.elim) (λ_ h=>h) (λ_ h=>.inl h) ht (λg' al=>.inl ?_) rfl rfl λw' an av=>?_
   .rw[o];exact al
   rw[AM];obtain⟨p,hp,_⟩:=(hi.ZU i).1 (nP hl);have:=(Ad.1 hp).1;rw[wrap64 (by omega) (by omega)];exact⟨i,F,t.places,t.free.dropLast,pl,_,rfl,an,av.mono λx _ e=>by rw[e];exact h.fb.1,λx I=>.inl I,.inl ⟨hl,rfl,rfl⟩⟩
 .have X:t.free=[]:=Of (by omega);refine AG ?_;refine Az (h.cells 1 _ rfl) ?_;refine⟨#[.slice none 0 0,zI 0],by kernel_rfl,?_⟩;refine Dp Wc h.GM (Nn _) (cs:=[.slice none 0 0,zI 0]) (x:=⟨[],0⟩) (by kernel_rfl) rfl ⟨_,rfl,An.nil⟩ (λ_ _ _=>Gm.one) (λw1 w2 r y b2 hm hr=>hr.mod hm λx I hC e=>?_) (by omega) (by simp only[maxLen];omega) λJ w1 Y hm hn=>?_
  .rcases e with e|e
   .exact(h.pF x e).2.1 hC
   .have:=(h.cf x hC).2;omega
  refine AG ?_;rw [AH,AI];have Z:=AE.Aj Y;refine ED.gX (F':=λx=>F x\/W.heap.size<=x/\x < w1.heap.size) h hm (λ_ h=>.inl h) (λ_ h=>h.imp id qn) Y (λg hg=>by
   rcases hn g hg with e|e
   .exact .inl e
   .exact .inr ⟨e,.inr ⟨e,(Z g hg).2⟩⟩) Y.one.1 Y.one.2 λw2 a1 a6=>?_
  refine AG ?_;refine Az (a1.cells 1 _ rfl) ?_;obtain⟨a2,c2,e2,_⟩:=Y.sl.shape;have z2:=a6.size;rw[e2,AO];refine⟨t.places.length,_,_,t.free,J,fr,by simp,a1,(hm.mono λx _ e=>(h.pF x e).1).trans (a6.mono λx _ e=>by rw[e];exact h.fb.1),λx I=>?_,.inr ⟨X,rfl,rfl,X⟩⟩;rcases I with I|I
  .exact .inl I
  .exact .inr ⟨I.1,by omega⟩
def Tab.LM{α:Type}(t:Tab α)(z s:α)(id:Int)(t':Tab α):Prop:=
 (s=z/\id=0/\t'={ t with empty:=t.empty+1 })\/(s≠z/\∃i n:Nat,t.places[i]?=some ⟨s,n⟩/\0<n/\id=(i:Int)+1/\t'=t.IQ i ⟨s,n+1⟩)\/
  (s≠z/\(∀(i:Nat) (p:Ent α),t.places[i]?=some p->0<p.held->p.set≠s)/\id=((t.put s).1:Int)+1/\t'=(t.put s).2)
def TT{b:Nat}{ks:SKs}{t:Tab (List Attr)}{l:List Attr}(h:FR F W b ks t)(hs:t.Small 1099511627)(hv:Ba S W v l)(hT:EA W)(hI:∀a∈l,NR a)(hF:∀x,F x->1+1<=x/\x<W.heap.size)(e3:∀x,S x->¬F x) :
  AB prog 177 [.pointer (some ⟨b,0,none⟩),v] (λv' w'=>(BY ks.ks l≠0/\v'=.tuple #[zI 0,zI (BY ks.ks l)]/\Grow W w')\/
   (BY ks.ks l=0/\∃ id t',v'=.tuple #[zI id,zI 0]/\t.LM [] l id t'/\Jj F W w' b ks t')) W:=by
 refine uS2 (dB 2994733370337662639805529 [([8],[(8,8),(43,62)])] [(dC [7,10] [0,1,3,7,0,16,0,64,255,511,1023] [[7]])]) func177 (λ_ _ _ _=>⟨by conv=>lhs;reduce,by dsimp only[PI,AF],by kernel_rfl⟩) ?_;unfold uI;have ca:=hs.pl;have e4:∀a∈l,0<=a.val.f:=λa ha=>(hI a ha).2.2.2.1.1;refine AA (RO h) ?_;rintro _ _ ⟨rfl,rfl⟩;rename World=>W
 obtain⟨C,pl,fr,bm,hR⟩:=h;rw[Ah];refine AL (AG ?_);refine Az (hR.cells 0 _ rfl) ?_;refine AA (Ln hR.core.HN hv hT e4) ?_;rintro _ w3 ⟨rfl,g3⟩;rw[BL];refine AW (λa8=>?_) λa8=>?_;rotate_left
 .exact .inl ⟨a8,rfl,g3⟩
 have ba:=hR.mod g3 λ_ _ h=>h;have e5:=hv.grow g3 (by decide) λ_ _ h=>h;obtain⟨va,vc,rfl,_⟩:=hv.shape;rw[AO,Aa];refine AD (λhz=>?_) λhz=>?_
 .have hl:l=[]:=Of (by omega);refine AG ?_;refine Az (ba.cells 4 _ rfl) ?_;have:=hs.em;rw[AM,wrap64 (by omega) (by omega)];refine AG ?_;rw[AH,AI];have en:((t.empty:Int)+1)=((t.empty+1:Nat):Int):=by omega
  rw[en];refine IS ba λW' e6 b1=>.inr ⟨a8,0,_,rfl,.inl ⟨hl,rfl,rfl⟩,?_⟩;exact .same ⟨C,pl,fr,bm,e6⟩ ((g3.mono λ_ _ h=>h.elim).trans b1)
 have hl:l≠[]:=λe=>hz (by rw [e];rfl);have V:Gq ks.ks l:=⟨hl,hI,a8⟩;obtain ⟨e7,e8⟩:=Lx V;refine AA (QP e5 hI e8 e7) ?_;rintro _ w6 ⟨rfl,g6⟩;have b2:=g3.trans g6;have cc:=ba.mod g6 λ_ _ h=>h;have O:=cc.core.inv;obtain ⟨f,a6,Z⟩:=cc.m;refine AG ?_;refine Az (a6.cells 3 _ rfl) ?_;refine AX (RA (P:=prog) (t:=251) (kt:=9) (et:=3) (z:=zI 0) underlying251 underlying9 (Sk (El l)) (EL (by kernel_rfl) w6) a6.map) ?_;refine BI ?_;refine AR (λvs w9=>∃ (i n:Nat) (F9 C9:Nat->Prop) (o:List (Ent (List Attr))) (J:List Nat) (f9:Value->Option Value) (bb bc:Value),vs=[zI ((i:Int)+1)]/\ED F9 C9 w9 b ks o J t.empty f9 bb bc bm/\o[i]?=some ⟨l,n⟩/\n<=1099511627776/\i<=1099511627776/\
   Mod F W w9/\(∀ x,F9 x->F x\/W.heap.size<=x/\x < w9.heap.size)/\t.LM [] l ((i:Int)+1) ⟨o.set i ⟨l,n+1⟩,J,t.empty⟩/\Ea ⟨o.set i ⟨l,n+1⟩,J,t.empty⟩ f9/\(⟨o.set i ⟨l,n+1⟩,J,t.empty⟩:Tab (List Attr)).Inv (Gq ks.ks)) ?_ ?_
 .rintro vs w9 ⟨i,n,F9,C9,o,J,f9,bb,bc,rfl,b6,bd,ek,eo,bk,cd,ch,bl,bp⟩ _;rw[BQ,Nr];have hi:=(Ad.1 bd).1;have bs:=(Ad.1 bd).2;refine AG ?_;refine Az (b6.cells 1 _ rfl) ?_;obtain⟨pa,pc,X,_⟩:=b6.GM.sl.shape;have cu:=b6.GM.sl;rw[X] at cu;rw[Am,wrap64 (by omega) (by omega),show((i:Int)+1-1)=(i:Int) by omega,X];obtain⟨q,r,rfl,_,hr,hc,e9⟩:=cu.get hi;obtain⟨si,rfl,ep⟩:=e9;refine AS hi ?_;rw[AH,Addr.add_add];refine AJ (hc 1 _ rfl) ?_;have eh:o[i].held=n:=by rw[bs]
  rw[AM,wrap64 (by omega) (by omega)];refine AS hi ?_;rw[AH,Addr.add_add];have en:((o[i].held:Int)+1)=((n+1:Nat):Int):=by omega
  rw[en];refine b6.Z0 bd X λW' ea b1=>.inr ⟨a8,_,_,rfl,ch,?_⟩;have s':=b1.size;refine⟨F9,λx Q=>?_,⟨C9,bb,bc,bm,ea.r bl bp⟩,bk.next b1 λx Q e=>?_⟩
  .rcases cd x Q with h|h
   .exact .inl h
   .exact .inr ⟨h.1,by omega⟩
  .rcases cd x e with h|h
   .exact h
   .omega
 .rw[Ah];cases hf:f (.string (El l)) with
  |some v=>
   obtain⟨i,n,hp,hn,rfl⟩:=Z.some O hI hf;have hi:=(Ad.1 hp).1;have cx:=hs.he t.places[i] (ku hi);have bs:=(Ad.1 hp).2;rw[bs] at cx;refine AL ?_;exact⟨i,n,F,C,t.places,t.free,f,pl,fr,rfl,a6,hp,lx cx (by decide),by omega,b2.mono λ_ _ h=>h.elim,λx Q=>.inl Q,.inr (.inl ⟨hl,i,n,hp,hn,rfl,rfl⟩),Z.IQ hp hn (by omega),O.IQ hp hn (by omega)⟩
  |none=>
   refine AQ ?_;have ak:=Z.none hf;refine AA (Uv a6 O hs) ?_;rintro _ al ⟨i,F7,I,an,bx,ec,rfl,a7,bZ,c4,av⟩;have er:=a6.cf;have eu:=b2.size;have z7:=bZ.size;have c6:∀x,F7 x->x<al.heap.size:=λx Q=>by
    rcases c4 x Q with h|h
    .have:=(hF x h).2;omega
    .exact h.2
   obtain⟨p,da,c7,U⟩:∃p,I[i]?=some p/\p.held=0/\((t.put l).1=i/\(t.put l).2=⟨I.set i ⟨l,1⟩,an,t.empty⟩):=by
    unfold Tab.put;rcases av with⟨h1,rfl,rfl⟩|⟨h1,rfl,rfl,rfl⟩
    .rw[h1];obtain⟨p,hp,ed⟩:=(O.ZU i).1 (nP h1);exact⟨p,hp,ed,rfl,rfl⟩
    .rw[h1];refine⟨⟨[],0⟩,by simp,rfl,rfl,?_⟩;simp
   have c8:=(Ad.1 da).1;have ew:i<=1099511627:=by
    rcases av with⟨h1,rfl,_⟩|⟨_,rfl,_⟩
    .omega
    .exact ca
   refine AT (λk y=>k=10/\bx.ownBlock=some y) ?_;have gd:Grow al al.drew:=Mod.drew _ _;refine AG ?_;rw [AH,AI];refine AP ⟨gd.cell (a7.cells 1 _ rfl) λh=>h,λj hj e=>by obtain ⟨rfl,_⟩:=e;exact absurd hj (by decide)⟩ ?_;obtain ⟨pa,pc,X,_⟩:=a7.GM.sl.shape;have b8:=a7.GM.sl;rw [Am,wrap64 (by omega) (by omega),show ((i:Int)+1 - 1)=(i:Int) by omega];have dk:Ba S al (.slice va l.length vc) l:=(hv.grow b2 (by decide) λ_ _ h=>h).mod bZ (λx _ Q hf=>e3 x Q hf) (by decide) λ_ _ h=>h;refine AA (Eh (dk.grow gd (by decide) λ_ _ h=>h) (by omega)) ?_;rintro cv ey ⟨dr,c9⟩;refine ⟨c9.mono λ_ _ h=>h.elim,?_⟩;have b9:=gd.trans c9;have dA:=a7.mod b9 λ_ _ h=>h;rw [X] at b8 ⊢;obtain ⟨q,r,rfl,hq,_,_,_⟩:=b8.get c8;refine AS c8 ?_;rw [AH,Addr.add_add];have zd:=gd.size;have ez:=c9.size;have ee:=AE.Aj dr;refine dA.fO (B:=al.drew.heap.size) da X (λx Q=>by
    rcases Q with Q|Q
    .have:=c6 x Q;omega
    .have:=(a7.sf x Q).2;omega) dr λeA ax ay=>?_
   have ef:bx.ownBlock=some q.block:=by rw[X];exact hq.2
   refine⟨ay.mono λx _ e=>⟨rfl,by rw[e];exact hq.2⟩,?_⟩;refine AG ?_;refine Az (ax.cells 3 _ rfl) ?_;obtain⟨ej,dT,b7,aZ⟩:=QY (P:=prog) (t:=251) (kt:=9) (v:=zI ((i:Int)+1)) underlying251 underlying9 (Sk (El l)) ax.map hf;refine AX (v:=undef) (w':=ej) (by simp only[lH,dT,Result.andThen];rfl) ?_;have e1:=ax.XY aZ b7;obtain⟨a1,e2,_,_,_⟩:=Tab.GA O V ak;have Y:=Z.put O V hf;rw[U.2] at a1 Y;rw[U.1] at Y;have b0:(I.set i ⟨l,p.held⟩).set i ⟨l,p.held+1⟩=I.set i ⟨l,1⟩:=by rw[sE,c7]
   refine⟨i,p.held,_,_,_,an,_,bx,ec,rfl,e1,by rw[lL c8],by omega,by omega,?_,?_,?_,?_,?_⟩
   .refine((((b2.mono λ_ _ h=>h.elim).trans bZ).trans (b9.mono λ_ _ h=>h.elim)).next ay λx Q e=>?_).next aZ λx Q e=>?_
    .have:=(a7.pF _ ef).1;rw[<-e] at this;rcases c4 x this with h|h
     .exact h
     .omega
    .have:=a6.fm.1;rw[<-e] at this;exact this
   .have eB:=ay.size;have eC:=aZ.size;rintro x (Q|Q)
    .rcases c4 x Q with h|h
     .exact .inl h
     .exact .inr ⟨by omega,by omega⟩
    .have:=ee x Q;exact .inr ⟨by omega,by omega⟩
   .rw[b0];exact .inr (.inr ⟨hl,ak,by rw[U.1],U.2.symm⟩)
   .rw[b0];exact Y
   .rw[b0];exact a1
def Tab.Small.le{t:Tab α}{N N':Nat}(h:t.Small N)(i:N<=N'):t.Small N':=⟨lx h.pl i,lx h.em i,λp hp=>lx (h.he p hp) i⟩
def Tab.Has{α:Type}(t:Tab α)(z s:α)(id:Int)(n:Nat):Prop:=t.ask z id=some ⟨s,n⟩/\0<n/\(id=0↔s=z)
def Tab.Has.zero{t:Tab α}{z s:α}{n:Nat}(h:t.Has z s 0 n):s=z/\t.empty=n:=by
 have h1:=h.1;unfold Tab.ask at h1;rw[DN rfl] at h1;cases h1;exact⟨rfl,rfl⟩
def Tab.Has.pos{t:Tab α}{z s:α}{id:Int}{n:Nat}(h:t.Has z s id n)(h0:id≠0):∃i:Nat,id=(i:Int)+1/\t.places[i]?=some ⟨s,n⟩:=by
 obtain⟨i,e,hp,_⟩:=Tab.J8 h.1 h0;exact⟨i,e,hp⟩
def Tab.Has.WJ{t:Tab α}{z:α}(h:0<t.empty):t.Has z z 0 t.empty:=⟨by unfold Tab.ask;rw[DN rfl],h,by simp⟩
def Tab.Has.V1{t:Tab α}{z s:α}{i n:Nat}(m:s≠z)(hp:t.places[i]?=some ⟨s,n⟩)(j:0<n):t.Has z s ((i:Int)+1) n:=⟨Tab.Wt hp j,j,⟨λh=>by omega,λh=>absurd h m⟩⟩
def Tab.LM.keeps[DecidableEq α]{t t':Tab α}{z x s:α}{k id:Int}{n:Nat}{G:α->Prop}(h:t.LM z x k t')(hi:t.Inv G)(Q:x≠z->G x)(q:t.Has z s id n):t'.Has z s id (if x=s then n+1 else n)/\(x=s↔k=id):=by
 by_cases h0:id=0
 .subst h0;obtain⟨rfl,rfl⟩:=q.zero;rcases h with⟨rfl,rfl,rfl⟩|⟨I,i,n,hp,Y,rfl,rfl⟩|⟨I,J,rfl,rfl⟩
  .rw[DN rfl];exact⟨Tab.Has.WJ (t:={ t with empty:=t.empty+1 }) (QC _),by simp⟩
  .rw[Bp I];exact⟨Tab.Has.WJ (t:=t.IQ i _) q.2.1,⟨λe=>absurd e I,λe=>by omega⟩⟩
  .rw[Bp I];obtain⟨_,_,_,_,U⟩:=Tab.GA hi (Q I) J;refine⟨?_,⟨λe=>absurd e I,λe=>by omega⟩⟩;have:=Tab.Has.WJ (t:=(t.put x).2) (z:=s) (by rw[U];exact q.2.1);rwa [U] at this
 .obtain⟨j,rfl,hp⟩:=q.pos h0;have Iz:s≠z:=λe=>h0 (q.2.2.2 e);have O:=(Ad.1 hp).1;rcases h with⟨rfl,rfl,rfl⟩|⟨I,i,m,B,hm,rfl,rfl⟩|⟨I,J,rfl,rfl⟩
  .rw[Bp (oF Iz)];exact⟨Tab.Has.V1 (t:={ t with empty:=t.empty+1 }) Iz hp q.2.1,⟨λe=>absurd e.symm Iz,λe=>by omega⟩⟩
  .by_cases e:x=s
   .subst e;have o:=hi.H0 i j _ _ B hp hm q.2.1 rfl;subst o;rw[hp] at B;cases B;rw[DN rfl];exact⟨Tab.Has.V1 Iz (by show(t.places.set i _)[i]?=_;rw[lL O]) (QC _),by simp⟩
   .rw[Bp e];have o:i≠j:=λo=>by subst o;rw[hp] at B;cases B;exact e rfl
    exact⟨Tab.Has.V1 Iz (by show(t.places.set i _)[j]?=_;rw[lY o];exact hp) q.2.1,⟨λh=>absurd h e,λh=>absurd (by omega) o⟩⟩
  .have e:x≠s:=λe=>J j _ hp q.2.1 e.symm;rw[Bp e];obtain⟨_,_,V,X,_⟩:=Tab.GA hi (Q I) J;have o:j≠(t.put x).1:=λo=>by
    have:=V ⟨s,n⟩ (o▸hp);have:=q.2.1;simp only at *;omega
   exact⟨Tab.Has.V1 Iz ((X j o).trans hp) q.2.1,⟨λh=>absurd h e,λh=>absurd (by omega) o⟩⟩
def Tab.Has.release{t:Tab α}{z s:α}{k id:Int}{n:Nat}(m:t.Has z s id n)(hk:k≠id\/1<n):(t.release z k).Has z s id (if k=id then n-1 else n):=by
 by_cases e:k=id
 .subst e;have O:1<n:=hk.resolve_left λh=>h rfl;rw[DN rfl];unfold Tab.release;rw[m.1];dsimp only;by_cases h0:k=0
  .subst h0;obtain⟨rfl,rfl⟩:=m.zero;rw[DN rfl];exact Tab.Has.WJ (t:={ t with empty:=t.empty-1 }) (by show 0<t.empty-1;omega)
  .obtain⟨j,rfl,hp⟩:=m.pos h0;have I:=(Ad.1 hp).1;rw[Bp h0,Bp (by omega),show((j:Int)+1-1).toNat=j by omega];exact Tab.Has.V1 (λe=>h0 (m.2.2.2 e)) (by show(t.places.set j _)[j]?=_;rw[lL I]) (by omega)
 .rw[Bp e];unfold Tab.release;cases ha:t.ask z k with
  |none=>exact m
  |some p=>
   dsimp only;by_cases o:k=0
   .rw[DN o];have h0:id≠0:=λh=>e (by rw[o,h]);obtain⟨j,rfl,hp⟩:=m.pos h0;exact Tab.Has.V1 (t:={ t with empty:=t.empty-1 }) (λe=>h0 (m.2.2.2 e)) hp m.2.1
   .rw[Bp o];obtain⟨i,rfl,hp,J⟩:=Tab.J8 ha o;rw[show((i:Int)+1-1).toNat=i by omega];by_cases h0:id=0
    .subst h0;obtain⟨rfl,rfl⟩:=m.zero;split
     .exact Tab.Has.WJ (t:=t.drop s i) m.2.1
     .exact Tab.Has.WJ (t:=t.IQ i _) m.2.1
    .obtain⟨j,rfl,q⟩:=m.pos h0;have B:i≠j:=λh=>e (by rw[h]);split
     .exact Tab.Has.V1 (λe=>h0 (m.2.2.2 e)) (by show(t.places.set i _)[j]?=_;rw[lY B];exact q) m.2.1
     .exact Tab.Has.V1 (λe=>h0 (m.2.2.2 e)) (by show(t.places.set i _)[j]?=_;rw[lY B];exact q) m.2.1
def HQ{α:Type}[DecidableEq α](r:List (α×Int))(x:α):Nat:=(r.filter λp=>decide (p.1=x)).length
def RK[DecidableEq α](r:List (α×Int))(x y:α)(k:Int):HQ (r++[(x,k)]) y=HQ r y+if x=y then 1 else 0:=by
 unfold HQ;rw[oQ,BW];by_cases h:x=y<;>simp[h]
def FD[DecidableEq α](r:List (α×Int))(x y:α)(k:Int):HQ ((x,k)::r) y=HQ r y+if x=y then 1 else 0:=by
 unfold HQ;by_cases h:x=y<;>simp[h]
def QS[DecidableEq α]{r:List (α×Int)}{p:α×Int}(h:p∈r):0<HQ r p.1:=by
 unfold HQ;exact qB (mg.2 ⟨h,by simp⟩)
def MA[DecidableEq α]{r:List (α×Int)}{x:α}(h:0<HQ r x):∃p∈r,p.1=x:=by
 unfold HQ at h;obtain⟨p,hp⟩:=List.exists_mem_of_length_pos h;obtain⟨h1,i⟩:=mg.1 hp;exact⟨p,h1,by simpa using i⟩
structure Tab.GL {α:Type} [DecidableEq α] (t:Tab α) (z:α) (r:List (α×Int)):Prop where
 has:∀p∈r,t.Has z p.1 p.2 (HQ r p.1)
 pl:∀(i:Nat) (q:Ent α),t.places[i]?=some q->0<q.held->∃p∈r,p.1=q.set
 em:t.empty=HQ r z
def Tab.GL.z[DecidableEq α](z:α):(Tab.z α).GL z []:=⟨λp hp=>(by cases hp),λi q j=>(by simp[Tab.z] at j),rfl⟩
def Tab.Has.uniq{t:Tab α}{z x y:α}{k l:Int}{n m:Nat}{G:α->Prop}(hi:t.Inv G)(h1:t.Has z x k n)(o:t.Has z y l m):k=l↔x=y:=by
 constructor
 .rintro rfl;have:=h1.1.symm.trans o.1;cases this;rfl
 .rintro rfl;by_cases h0:k=0
  .have:=h1.2.2.1 h0;rw[h0,o.2.2.2 this]
  .obtain⟨i,rfl,hp⟩:=h1.pos h0;have q:l≠0:=λe=>h0 (h1.2.2.2 (o.2.2.1 e));obtain⟨j,rfl,B⟩:=o.pos q;rw[hi.H0 i j _ _ hp B h1.2.1 o.2.1 rfl]
def Tab.GL.added[DecidableEq α]{t t':Tab α}{z x:α}{k:Int}{r:List (α×Int)}{G:α->Prop}(h:t.GL z r)(ha:t.LM z x k t')(hi:t.Inv G)(J:x≠z->G x):t'.GL z (r++[(x,k)]):=by
 have O:t'.Has z x k (HQ r x+1):=by
  by_cases U:∃p∈r,p.1=x
  .obtain⟨p,hp,rfl⟩:=U;obtain⟨h1,X⟩:=ha.keeps hi J (h.has p hp);rw[DN rfl] at h1;rw[X.1 rfl];exact h1
  .have h0:HQ r x=0:=by
    refine Nat.eq_zero_of_not_pos λQ=>U (MA Q)
   rcases ha with⟨rfl,rfl,rfl⟩|⟨m,i,n,hp,V,rfl,rfl⟩|⟨m,o,rfl,rfl⟩
   .rw[<-h.em];exact Tab.Has.WJ (t:={ t with empty:=t.empty+1 }) (QC _)
   .exact absurd (h.pl i _ hp V) U
   .rw[h0];obtain⟨_,h1,_⟩:=Tab.GA hi (J m) o;exact Tab.Has.V1 m h1 Nat.one_pos
 refine⟨λp hp=>?_,λi q I h0=>?_,?_⟩
 .rw[RK];rcases By.1 hp with hp|hp
  .have:=(ha.keeps hi J (h.has p hp)).1;by_cases e:x=p.1
   .rw[DN e] at this ⊢;exact this
   .rw[Bp e] at this ⊢;exact this
  .rw[S6] at hp;subst hp;rw[DN rfl];exact O
 .rcases ha with⟨rfl,rfl,rfl⟩|⟨m,j,n,hp,V,rfl,rfl⟩|⟨m,o,rfl,rfl⟩
  .obtain⟨p,hp,e⟩:=h.pl i q I h0;exact⟨p,lC _ hp,e⟩
  .have B:(t.places.set j ⟨x,n+1⟩)[i]?=some q:=I;by_cases e:i=j
   .subst e;rw[lL (Ad.1 hp).1] at B;cases B;exact⟨(x,(i:Int)+1),by simp,rfl⟩
   .rw[lY (oF e)] at B;obtain⟨p,hp,e⟩:=h.pl i q B h0;exact⟨p,lC _ hp,e⟩
  .obtain⟨_,h1,_,Y,_⟩:=Tab.GA hi (J m) o;by_cases e:i=(t.put x).1
   .subst e;rw[h1] at I;cases I;exact⟨_,lE _ (S6.2 rfl),rfl⟩
   .rw[Y i e] at I;obtain⟨p,hp,e⟩:=h.pl i q I h0;exact⟨p,lC _ hp,e⟩
 .rw[RK];rcases ha with⟨rfl,rfl,rfl⟩|⟨m,j,n,hp,V,rfl,rfl⟩|⟨m,o,rfl,rfl⟩
  .rw[DN rfl,<-h.em]
  .rw[Bp m];exact h.em
  .rw[Bp m];obtain⟨_,_,_,_,Z⟩:=Tab.GA hi (J m) o;rw[Z];exact h.em
def Tab.GL.iE[DecidableEq α]{t:Tab α}{z x:α}{k:Int}{r:List (α×Int)}{G:α->Prop}(h:t.GL z ((x,k)::r))(hi:t.Inv G)(Z:∀s,G s->s≠z):(t.release z k).GL z r:=by
 have J:=h.has (x,k) lb;rw[FD,DN rfl] at J;refine⟨λp hp=>?_,λi q I h0=>?_,?_⟩
 .have B:=h.has p (kx _ hp);rw[FD] at B;have hu:=Tab.Has.uniq hi J B;by_cases e:k=p.2
  .have ex:=hu.1 e;simp only at ex;rw[DN ex] at B;have:=B.release (k:=k) (.inr (by have:=QS hp;omega));rw[DN e,ph] at this;exact this
  .have ex:¬x=p.1:=λh'=>e (hu.2 h');rw[Bp ex,lf] at B;have:=B.release (k:=k) (.inl e);rw[Bp e] at this;exact this
 .have U:∃X,t.places[i]?=some X/\0<X.held/\X.set=q.set/\(q.set=x->0<HQ r x):=by
   unfold Tab.release at I;rw[J.1] at I;dsimp only at I;by_cases o:k=0
   .rw[DN o] at I;refine⟨q,I,h0,rfl,λe=>?_⟩;exact absurd (e.trans (J.2.2.1 o)) (Z _ (hi.ok i q I h0))
   .rw[Bp o] at I;obtain⟨j,rfl,V⟩:=J.pos o;have Y:=(Ad.1 V).1;rw[show((j:Int)+1-1).toNat=j by omega] at I;by_cases O:i=j
    .subst O;split at I
     .have m:(t.places.set i ⟨z,0⟩)[i]?=some q:=I;rw[lL Y] at m;cases m;exact absurd h0 (qN _)
     .have m:(t.places.set i _)[i]?=some q:=I;rw[lL Y] at m;cases m;exact⟨_,V,QC _,rfl,λ_=>by simp only at h0;omega⟩
    .have m:t.places[i]?=some q:=by
      split at I
      .have m:(t.places.set j ⟨z,0⟩)[i]?=some q:=I;rwa [lY (oF O)] at m
      .have m:(t.places.set j _)[i]?=some q:=I;rwa [lY (oF O)] at m
     exact⟨q,m,h0,rfl,λe=>absurd (hi.H0 i j _ _ m V h0 J.2.1 e) O⟩
  obtain⟨X,m,a1,es,a6⟩:=U;obtain⟨p,hp,ep⟩:=h.pl i X m a1;rcases Mp.1 hp with rfl|hp
  .obtain⟨p',B,e'⟩:=MA (a6 (by rw[<-es,<-ep]));exact⟨p',B,by rw[e',<-es,<-ep]⟩
  .exact⟨p,hp,by rw[ep,es]⟩
 .have Q:=h.em;rw[FD] at Q;unfold Tab.release;rw[J.1];dsimp only;by_cases o:k=0
  .rw[DN o];rw[DN (J.2.2.1 o)] at Q;show t.empty-1=_;omega
  .rw[Bp o];rw[Bp (λe=>o (J.2.2.2 e))] at Q;split<;>exact Q
section
variable {α:Type}[DecidableEq α]{t t':Tab α}{z s:α}{f:Int->α}{h:Int->Nat}{id:Int}{G:α->Prop}
def OK{r q:List (α×Int)}(hp:r.Perm q)(x:α):HQ r x=HQ q x:=(hp.filter _).length_eq
def Tab.GL.perm{r q:List (α×Int)}(j:t.GL z r)(hp:r.Perm q):t.GL z q:=
 ⟨λp m=>by rw[<-OK hp];exact j.has p (hp.mem_iff.2 m),λi e h1 o=>by obtain⟨p,B,I⟩:=j.pl i e h1 o;exact⟨p,hp.mem_iff.1 B,I⟩,by rw[<-OK hp];exact j.em⟩
omit [DecidableEq α] in
def Tab.YB{n:Nat}{x:α}{k:Int}(h:t.Has z x k n):(t.hold z k).Has z x k (n+1)/\(∀(i:Nat) (q:Ent α),(t.hold z k).places[i]?=some q->0<q.held->∃Q:Ent α,t.places[i]?=some Q/\0<Q.held/\Q.set=q.set)/\((t.hold z k).empty=if k=0 then t.empty+1 else t.empty)/\
  (∀{y l m},l≠k->t.Has z y l m->(t.hold z k).Has z y l m):=by
 unfold Tab.hold;rw[h.1];dsimp only;by_cases h0:k=0
 .subst h0;obtain⟨rfl,rfl⟩:=h.zero;rw[DN rfl,DN rfl];refine⟨Tab.Has.WJ (t:={ t with empty:=t.empty+1 }) (QC _),λi q U I=>⟨q,U,I,rfl⟩,rfl,λhl o=>?_⟩;obtain⟨j,rfl,hp⟩:=o.pos hl;exact Tab.Has.V1 (t:={ t with empty:=t.empty+1 }) (λe=>hl (o.2.2.2 e)) hp o.2.1
 .obtain⟨i,rfl,hp⟩:=h.pos h0;have O:=(Ad.1 hp).1;rw[Bp h0,Bp h0,show((i:Int)+1-1).toNat=i by omega];refine⟨Tab.Has.V1 (t:=t.IQ i ⟨x,n+1⟩) (λe=>h0 (h.2.2.2 e)) (by show(t.places.set i _)[i]?=_;rw[lL O]) (QC _),λj q U I=>?_,rfl,λ{y l m} hl o=>?_⟩
  .have B:(t.places.set i ⟨x,n+1⟩)[j]?=some q:=U;by_cases e:i=j
   .subst e;rw[lL O] at B;cases B;exact⟨_,hp,h.2.1,rfl⟩
   .rw[lY e] at B;exact⟨q,B,I,rfl⟩
  .by_cases J:l=0
   .subst J;obtain⟨rfl,rfl⟩:=o.zero;exact Tab.Has.WJ (t:=t.IQ i ⟨x,n+1⟩) o.2.1
   .obtain⟨j,rfl,V⟩:=o.pos J;have X:i≠j:=λe=>hl (by rw[e]);exact Tab.Has.V1 (t:=t.IQ i ⟨x,n+1⟩) (λe=>J (o.2.2.2 e)) (by show(t.places.set i _)[j]?=_;rw[lY X];exact V) o.2.1
def Tab.GL.hold{r:List (α×Int)}(o:t.GL z r)(hi:t.Inv G){p:α×Int}(hp:p∈r):(t.hold z p.2).GL z (p::r):=by
 obtain⟨x,k⟩:=p;have j:=o.has _ hp;obtain⟨J,O,a3,a4⟩:=Tab.YB j;simp only at J O a3 a4 j ⊢;have Q:=QS hp;refine⟨λq m=>?_,λi q m B=>?_,?_⟩
 .rw[FD];have I:q∈r:=by
   rcases Mp.1 m with rfl|m
   .exact hp
   .exact m
  have U:=o.has q I;have hu:=Tab.Has.uniq hi j U;by_cases e:k=q.2
  .have ex:=hu.1 e;rw[DN ex,<-ex,<-e];exact J
  .rw[Bp λh'=>e (hu.2 h'),lf];exact a4 (λe'=>e e'.symm) U
 .obtain⟨V,h1,X,Y⟩:=O i q m B;obtain⟨Z,h4,h5⟩:=o.pl i V h1 X;exact⟨Z,kx _ h4,by rw[h5,Y]⟩
 .rw[FD,a3,o.em];by_cases h0:k=0
  .rw[DN h0,DN (j.2.2.1 h0)]
  .rw[Bp h0,Bp λe=>h0 (j.2.2.2 e),lf]
def Tab.GL.iZ{r:List (α×Int)}(j:t.GL z r):(t.hold z 0).GL z ((z,0)::r):=by
 have e:t.hold z 0={ t with empty:=t.empty+1 }:=by unfold Tab.hold Tab.ask;simp
 rw[e];refine⟨λq m=>?_,λi q m B=>?_,?_⟩
 .rw[FD];rcases Mp.1 m with rfl|m
  .rw[DN rfl,<-j.em];exact Tab.Has.WJ (t:={ t with empty:=t.empty+1 }) (QC _)
  .have o:=j.has q m;by_cases h0:q.2=0
   .have J:=o.2.2.1 h0;rw[h0,J,DN rfl,<-j.em];exact Tab.Has.WJ (t:={ t with empty:=t.empty+1 }) (QC _)
   .obtain⟨i,O,hp⟩:=o.pos h0;have I:q.1≠z:=λe=>h0 (o.2.2.2 e);rw[Bp (oF I),O];exact Tab.Has.V1 (t:={ t with empty:=t.empty+1 }) I hp o.2.1
 .obtain⟨Q,U,V⟩:=j.pl i q m B;exact⟨Q,kx _ U,V⟩
 .show t.empty+1=_;rw[FD,DN rfl,j.em]
def Tab.Holds(t:Tab α)(z:α)(f:Int->α)(h:Int->Nat):Prop:=f 0=z/\∃r:List (α×Int),t.GL z r/\(∀p∈r,p.1=f p.2)/\∀id,r.countP (λp=>decide (p.2=id))=h id
def Tab.Holds.mem(m:t.Holds z f h)(h0:0<h id):∃r:List (α×Int),t.GL z r/\(∀p∈r,p.1=f p.2)/\(∀id,r.countP (λp=>decide (p.2=id))=h id)/\(f id,id)∈r:=by
 obtain⟨_,r,h1,i,j⟩:=m;refine⟨r,h1,i,j,?_⟩;rw[<-j] at h0;obtain⟨p,hp,e⟩:=qb.1 h0;simp only[jD] at e;have:=i p hp;rw[<-e,<-this];exact hp
def Tab.Holds.has(i:t.Holds z f h)(h0:0<h id):∃n,t.Has z (f id) id n:=by
 obtain⟨r,h1,_,_,j⟩:=i.mem h0;exact⟨_,h1.has _ j⟩
def Tab.Holds.ask(i:t.Holds z f h)(h0:0<h id):∃n,t.ask z id=some ⟨f id,n⟩:=by
 obtain⟨n,h1⟩:=i.has h0;exact⟨n,h1.1⟩
def Tab.Holds.new(z:α):(Tab.z α).Holds z (λ_=>z) λ_=>0:=⟨rfl,[],Tab.GL.z z,λp hp=>(nomatch hp),λ_=>rfl⟩
def Tab.Holds.congr{h':Int->Nat}(i:t.Holds z f h)(e:∀x,h x=h' x):t.Holds z f h':=by
 obtain⟨h0,r,h1,j,m⟩:=i;exact⟨h0,r,h1,j,λx=>(m x).trans (e x)⟩
def Tab.Holds.hold(m:t.Holds z f h)(hi:t.Inv G)(h0:0<h id\/id=0):(t.hold z id).Holds z f λx=>h x+if x=id then 1 else 0:=by
 have q:=m.1;obtain⟨r,i,j,o⟩:∃r:List (α×Int),(∀p∈r,p.1=f p.2)/\(∀id,r.countP (λp=>decide (p.2=id))=h id)/\(t.hold z id).GL z ((f id,id)::r):=by
  rcases h0 with h0|rfl
  .obtain⟨r,h1,i,j,o⟩:=m.mem h0;exact⟨r,i,j,h1.hold hi o⟩
  .obtain⟨_,r,h1,i,j⟩:=m;exact⟨r,i,j,by rw[q];exact h1.iZ⟩
 refine⟨q,(f id,id)::r,o,λp hp=>?_,λx=>?_⟩
 .rcases Mp.1 hp with rfl|hp
  .rfl
  .exact i p hp
 .rw[pT,j];by_cases e:x=id
  .subst e;simp
  .simp[e,oF e]
def Tab.Holds.free(j:t.Holds z f h)(hi:t.Inv G)(o:∀s,G s->s≠z)(h0:0<h id):(t.release z id).Holds z f λx=>h x-if x=id then 1 else 0:=by
 obtain⟨r,h1,q,B,I⟩:=j.mem h0;have hp:r.Perm ((f id,id)::r.erase (f id,id)):=List.perm_cons_erase I;have J:=h1.perm hp;refine⟨j.1,r.erase (f id,id),J.iE hi o,λp i=>q p (List.mem_of_mem_erase i),λx=>?_⟩;have m:=B x;rw[hp.countP_eq,pT] at m;show _=h x-_;rw[<-m];by_cases e:x=id
 .subst e;simp
 .simp[e,oF e]
def Tab.Holds.added(I:t.Holds z f h)(hi:t.Inv G)(ha:t.LM z s id t')(J:s≠z->G s):∃j:Int->α,t'.Holds z j (λx=>h x+if x=id then 1 else 0)/\j id=s/\(∀x,0<h x->j x=f x):=by
 obtain⟨m,r,h1,o,q⟩:=I;have i:=h1.added ha hi J;have key:∀p∈r,p.2=id->p.1=s:=by
  intro p hp e;have a:=i.has p (lC _ hp);have b:=i.has (s,id) (lE _ (S6.2 rfl));rw[e] at a;have:=a.1.symm.trans b.1;cases this;rfl
 refine⟨λx=>if x=id then s else f x,⟨?_,r++[(s,id)],i,λp hp=>?_,λx=>?_⟩,by simp,λx B=>?_⟩
 .show(if(0:Int)=id then s else f 0)=z;split
  .rename_i e;have b:=i.has (s,id) (lE _ (S6.2 rfl));exact b.2.2.1 e.symm
  .exact m
 .rcases By.1 hp with hp|hp
  .by_cases e:p.2=id
   .rw[key p hp e];simp[e]
   .simp[e,o p hp]
  .rw[S6] at hp;subst hp;simp
 .rw[pj,q];by_cases e:x=id
  .subst e;simp
  .simp[e,oF e]
 .by_cases e:x=id
  .subst e;rw[<-q] at B;obtain⟨p,hp,e⟩:=qb.1 B;simp only[jD] at e;simp only[mF];rw[<-key p hp e,o p hp,e]
  .simp[e]
end
def Dk.up{g:AvT α}{b bt N N':Nat}{l:List α}(h:Dk g F C W b bt l N)(i:N<=N'):Dk g F C W b bt l N':=by
 obtain⟨A,T,h1,j,m,o,q⟩:=h.EI;exact⟨h.box,⟨A,T,h1,j,m,o,lx q i⟩,h.fb⟩
def JX{α:Type}(e:Bool)(g:AvT α)(F C:Nat->Prop)(W:World)(b:Nat)(l:List α)(N:Nat):Prop:=
 (∃bt,Dk g F C W b bt l N)\/(e=true/\Bx W b [.pointer none]/\l=[]/\(∀x,F x↔x=b)/\∀x,¬C x)
section
variable {α:Type}{e:Bool}{g:AvT α}{F C M:Nat->Prop}{W W':World}{b N N':Nat}{l:List α}
def JX.mod(h:JX e g F C W b l N)(hm:Mod M W W')(i:∀x,F x\/C x->¬M x):JX e g F C W' b l N:=by
 rcases h with⟨bt,h⟩|⟨h1,m,o,j,q⟩
 .exact .inl ⟨bt,h.mod hm i⟩
 .exact .inr ⟨h1,m.mod hm (i b (.inl ((j b).2 rfl))),o,j,q⟩
def JX.up(h:JX e g F C W b l N)(i:N<=N'):JX e g F C W b l N':=by
 rcases h with⟨bt,h⟩|h
 .exact .inl ⟨bt,h.up i⟩
 .exact .inr h
def JX.lt(h:JX e g F C W b l N):∀x,F x\/C x->x<W.heap.size:=by
 rcases h with⟨bt,h⟩|⟨h1,j,q,m,o⟩
 .exact h.lt
 .rintro x (i|i)
  .rw[(m x).1 i];exact j.lt (QC _)
  .exact(o x i).elim
def JX.t(h:JX false g F C W b l N):∃bt,Dk g F C W b bt l N:=h.resolve_right λh=>nomatch h.1
def JX.fb(h:JX e g F C W b l N):F b:=by
 rcases h with⟨bt,h⟩|⟨h1,j,m,i,o⟩
 .exact h.fb.1
 .exact(i b).2 rfl
end
structure TxA where
 b:Nat
 r:Nat
 s:Nat
 p:Nat
 t:Nat
structure TxK where
 r:Bool
 s:Bool
 p:Bool
structure TxG where
 r:Nat->Prop
 s:Nat->Prop
 p:Nat->Prop
 c:Nat->Prop
 t:Nat->Prop
abbrev TxK.f:TxK:=⟨false,false,false⟩
structure Pe (k:TxK) (w0:World) (own:Nat->Nat) (G:TxG) (F:Nat->Prop) (W:World) (a:TxA) (σ:SKs) (most:Int) (l1:List Ck) (l2:List Spn) (L:List (List Attr)) (t:Tab (List Attr)) (N:Nat):Prop where
 box:Bx W a.b (ZP σ.sv most a.r a.s a.p a.t)
 Hw:JX k.r Ap.toAvT G.r Gl W a.r l1 N
 EX:JX k.s DW.toAvT G.s Gl W a.s l2 N
 para:JX k.p Au.toAvT G.p G.c W a.p L N
 Vv:FR G.t W a.t σ t
 HN:CK σ.S W σ.sv σ.ks
 cb:own a.b=0
 cr:∀x,G.r x->own x=1
 cs:∀x,G.s x->own x=2
 cp:∀x,G.p x\/G.c x->own x=3
 ct:∀x,G.t x->own x=4
 cS:∀x,σ.S x->own x=5/\x<W.heap.size
 lo:∀x,(x=a.b\/G.r x\/G.s x)\/(G.p x\/G.c x)\/G.t x->F x
 hl:∀x,F x->w0.heap.size<=x/\x<W.heap.size/\¬σ.S x
 g:Grow w0 W
section
variable {k:TxK}{w0:World}{own:Nat->Nat}{G:TxG}{F M:Nat->Prop}{W W':World}{a:TxA}{σ:SKs}{most:Int}{l1 ZO:List Ck}{l2 V7:List Spn}{L L':List (List Attr)}{t t':Tab (List Attr)}{N N' c:Nat}
def Pe.frame(h:Pe k w0 own G F W a σ most l1 l2 L t N)(h1:1<=c)(I:c<=4)(hm:Mod M W W')(m:∀x,M x->own x=c/\F x)(o:N<=N') :
  Bx W' a.b (ZP σ.sv most a.r a.s a.p a.t)/\(c≠1->JX k.r Ap.toAvT G.r Gl W' a.r l1 N')/\(c≠2->JX k.s DW.toAvT G.s Gl W' a.s l2 N')/\(c≠3->JX k.p Au.toAvT G.p G.c W' a.p L N')/\(c≠4->FR G.t W' a.t σ t)/\CK σ.S W' σ.sv σ.ks/\Grow w0 W'/\
   (∀{j:Nat->Nat},(j=λx=>if x<W.heap.size then own x else c)->j a.b=0/\(∀x,G.r x->j x=1)/\(∀x,G.s x->j x=2)/\(∀x,G.p x\/G.c x->j x=3)/\(∀x,G.t x->j x=4)/\(∀x,σ.S x->j x=5/\x<W'.heap.size)/\∀{X Y:Nat->Prop},(∀x,X x->own x=c)->(∀x,Y x->X x\/W.heap.size<=x)->∀x,Y x->j x=c):=by
 have z:=hm.size;have Gw:∀x,F x->x<W.heap.size:=λx i=>(h.hl x i).2.1;refine⟨h.box.mod hm λe=>by have:=(m _ e).1;have:=h.cb;omega,λhc=>(h.Hw.mod hm λx i e=>?_).up o,λhc=>(h.EX.mod hm λx i e=>?_).up o,λhc=>(h.para.mod hm λx i e=>?_).up o,λhc=>h.Vv.mod hm λx i e=>?_,h.HN.mod hm λx _ i e=>?_,h.g.next hm λx i e=>?_,?_⟩
 .have:=(m _ e).1;rcases i with i|i
  .have:=h.cr x i;omega
  .exact i.elim
 .have:=(m _ e).1;rcases i with i|i
  .have:=h.cs x i;omega
  .exact i.elim
 .have:=(m _ e).1;have:=h.cp x i;omega
 .have:=(m _ e).1;rcases i with i|i
  .have:=h.ct x i;omega
  .have:=(h.cS x i).1;omega
 .have:=(m _ e).1;have:=(h.cS x i).1;omega
 .have:=(h.hl _ (m x e).2).1;omega
 .rintro j rfl;have key:∀x,F x->(if x<W.heap.size then own x else c)=own x:=λx i=>DN (Gw x i);refine⟨by show ite _ _ _=0;rw[key _ (h.lo _ (.inl (.inl rfl)))];exact h.cb,λx i=>by show ite _ _ _=1;rw[key _ (h.lo _ (.inl (.inr (.inl i))))];exact h.cr x i,λx i=>by show ite _ _ _=2;rw[key _ (h.lo _ (.inl (.inr (.inr i))))];exact h.cs x i,λx i=>by show ite _ _ _=3;rw[key _ (h.lo _ (.inr (.inl i)))];exact h.cp x i,λx i=>by show ite _ _ _=4;rw[key _ (h.lo _ (.inr (.inr i)))];exact h.ct x i,λx i=>?_,λq B x i=>?_⟩
  .have:=h.cS x i;exact⟨by show ite _ _ _=5;rw[DN this.2];exact this.1,by omega⟩
  .show ite _ _ _=c;split
   .rcases B x i with e|e
    .exact q x e
    .omega
   .rfl
def Pe.Zi{j:Nat->Prop}{e:Bool}(h:Pe k w0 own G F W a σ most l1 l2 L t N)(hm:Mod G.r W W')(hF:∀x,j x->G.r x\/W.heap.size<=x)(o:JX e Ap.toAvT j Gl W' a.r ZO N')(q:N<=N') :
  ∃m,Pe { k with r:=e } w0 m { G with r:=j } (λx=>F x\/j x) W' a σ most ZO l2 L t N':=by
 obtain⟨B,f2,I,J,O,f6,Q,U⟩:=h.frame (c:=1) (by decide) (by decide) hm (λx i=>⟨h.cr x i,h.lo x (.inl (.inr (.inl i)))⟩) q;obtain⟨V,g2,X,Y,Z,g6,g7⟩:=U rfl;have z:=hm.size;have z0:=h.g.size;have hS:∀x,σ.S x->x<W.heap.size:=λx i=>(h.cS x i).2;refine⟨_,B,o,I (by decide),J (by decide),O (by decide),f6,V,g7 h.cr hF,X,Y,Z,g6,λx i=>?_,λx i=>?_,Q⟩
 .rcases i with(i|i|i)|i
  .exact .inl (h.lo x (.inl (.inl i)))
  .exact .inr i
  .exact .inl (h.lo x (.inl (.inr (.inr i))))
  .exact .inl (h.lo x (.inr i))
 .have up:F x->w0.heap.size<=x/\x<W'.heap.size/\¬σ.S x:=λi=>by have:=h.hl x i;exact⟨this.1,by omega,this.2.2⟩
  rcases i with i|i
  .exact up i
  .rcases hF x i with e|e
   .exact up (h.lo x (.inl (.inr (.inl e))))
   .exact⟨by omega,o.lt x (.inl i),λe=>by have:=hS x e;omega⟩
def Pe.YN{j:Nat->Prop}{e:Bool}(h:Pe k w0 own G F W a σ most l1 l2 L t N)(hm:Mod G.s W W')(hF:∀x,j x->G.s x\/W.heap.size<=x)(o:JX e DW.toAvT j Gl W' a.s V7 N')(q:N<=N') :
  ∃m,Pe { k with s:=e } w0 m { G with s:=j } (λx=>F x\/j x) W' a σ most l1 V7 L t N':=by
 obtain⟨B,I,f3,J,O,f6,Q,U⟩:=h.frame (c:=2) (by decide) (by decide) hm (λx i=>⟨h.cs x i,h.lo x (.inl (.inr (.inr i)))⟩) q;obtain⟨V,X,g3,Y,Z,g6,g7⟩:=U rfl;have z:=hm.size;have z0:=h.g.size;have hS:∀x,σ.S x->x<W.heap.size:=λx i=>(h.cS x i).2;refine⟨_,B,I (by decide),o,J (by decide),O (by decide),f6,V,X,g7 h.cs hF,Y,Z,g6,λx i=>?_,λx i=>?_,Q⟩
 .rcases i with(i|i|i)|i
  .exact .inl (h.lo x (.inl (.inl i)))
  .exact .inl (h.lo x (.inl (.inr (.inl i))))
  .exact .inr i
  .exact .inl (h.lo x (.inr i))
 .have up:F x->w0.heap.size<=x/\x<W'.heap.size/\¬σ.S x:=λi=>by have:=h.hl x i;exact⟨this.1,by omega,this.2.2⟩
  rcases i with i|i
  .exact up i
  .rcases hF x i with e|e
   .exact up (h.lo x (.inl (.inr (.inr e))))
   .exact⟨by omega,o.lt x (.inl i),λe=>by have:=hS x e;omega⟩
def Pe.ag{j m:Nat->Prop}{e:Bool}(h:Pe k w0 own G F W a σ most l1 l2 L t N)(hm:Mod G.p W W')(hF:∀x,j x\/m x->(G.p x\/G.c x)\/W.heap.size<=x)(q:JX e Au.toAvT j m W' a.p L' N')(B:N<=N') :
  ∃o,Pe { k with p:=e } w0 o { G with p:=j,c:=m } (λx=>F x\/j x\/m x) W' a σ most l1 l2 L' t N':=by
 obtain⟨I,J,O,f4,Q,f6,U,V⟩:=h.frame (c:=3) (by decide) (by decide) hm (λx i=>⟨h.cp x (.inl i),h.lo x (.inr (.inl (.inl i)))⟩) B;obtain⟨X,Y,Z,g4,g5,g6,g7⟩:=V rfl;have z:=hm.size;have z0:=h.g.size;have hS:∀x,σ.S x->x<W.heap.size:=λx i=>(h.cS x i).2;refine⟨_,I,J (by decide),O (by decide),q,Q (by decide),f6,X,Y,Z,g7 h.cp hF,g5,g6,λx i=>?_,λx i=>?_,U⟩
 .rcases i with i|i|i
  .exact .inl (h.lo x (.inl i))
  .exact .inr i
  .exact .inl (h.lo x (.inr (.inr i)))
 .have up:F x->w0.heap.size<=x/\x<W'.heap.size/\¬σ.S x:=λi=>by have:=h.hl x i;exact⟨this.1,by omega,this.2.2⟩
  rcases i with i|i
  .exact up i
  .rcases hF x i with e|e
   .exact up (h.lo x (.inr (.inl e)))
   .exact⟨by omega,q.lt x i,λe=>by have:=hS x e;omega⟩
def Pe.fj{j:Nat->Prop}(h:Pe k w0 own G F W a σ most l1 l2 L t N)(hm:Mod G.t W W')(hF:∀x,j x->G.t x\/W.heap.size<=x/\x<W'.heap.size)(o:FR j W' a.t σ t')(q:N<=N') :
  ∃m,Pe k w0 m { G with t:=j } (λx=>F x\/j x) W' a σ most l1 l2 L t' N':=by
 obtain⟨B,I,J,O,f5,f6,Q,U⟩:=h.frame (c:=4) (by decide) (by decide) hm (λx i=>⟨h.ct x i,h.lo x (.inr (.inr i))⟩) q;obtain⟨V,X,Y,Z,g5,g6,g7⟩:=U rfl;have z:=hm.size;have z0:=h.g.size;have hS:∀x,σ.S x->x<W.heap.size:=λx i=>(h.cS x i).2;refine⟨_,B,I (by decide),J (by decide),O (by decide),o,f6,V,X,Y,Z,g7 h.ct (λx i=>(hF x i).imp id qn),g6,λx i=>?_,λx i=>?_,Q⟩
 .rcases i with i|i|i
  .exact .inl (h.lo x (.inl i))
  .exact .inl (h.lo x (.inr (.inl i)))
  .exact .inr i
 .have up:F x->w0.heap.size<=x/\x<W'.heap.size/\¬σ.S x:=λi=>by have:=h.hl x i;exact⟨this.1,by omega,this.2.2⟩
  rcases i with i|i
  .exact up i
  .rcases hF x i with e|e
   .exact up (h.lo x (.inr (.inr e)))
   .exact⟨by omega,e.2,λe=>by have:=hS x e;omega⟩
def Pe.mod(h:Pe k w0 own G F W a σ most l1 l2 L t N)(hm:Mod M W W')(j:∀x,M x->¬F x/\¬σ.S x/\w0.heap.size<=x):Pe k w0 own G F W' a σ most l1 l2 L t N:=by
 have z:=hm.size;exact ⟨h.box.mod hm λe=>(j _ e).1 (h.lo _ (.inl (.inl rfl))),h.Hw.mod hm λx i e=>(j x e).1 (i.elim (λi=>h.lo x (.inl (.inr (.inl i)))) λi=>i.elim),h.EX.mod hm λx i e=>(j x e).1 (i.elim (λi=>h.lo x (.inl (.inr (.inr i)))) λi=>i.elim),h.para.mod hm λx i e=>(j x e).1 (h.lo x (.inr (.inl i))),
  h.Vv.mod hm λx i e=>i.elim (λi=>(j x e).1 (h.lo x (.inr (.inr i)))) (j x e).2.1,h.HN.mod hm λx _ i e=>(j x e).2.1 i,h.cb,h.cr,h.cs,h.cp,h.ct,λx i=>⟨(h.cS x i).1,by have:=(h.cS x i).2;omega⟩,h.lo,λx i=>⟨(h.hl x i).1,by have:=(h.hl x i).2.1;omega,(h.hl x i).2.2⟩,h.g.next hm λx i e=>by have:=(j x e).2.2;omega⟩
end
def H7(k:TxK)(w0:World)(F:Nat->Prop)(W:World)(a:TxA)(σ:SKs)(most:Int)(rs:List Int)(l2:List Spn)(L:List (List Attr))(t:Tab (List Attr))(N:Nat):Prop:=
 ∃own G l1,BR l1=rs/\Pe k w0 own G F W a σ most l1 l2 L t N
def DI(k:TxK)(w0:World)(F:Nat->Prop)(W W':World)(a:TxA)(σ:SKs)(most:Int)(rs:List Int)(l2:List Spn)(L:List (List Attr))(t:Tab (List Attr))(N:Nat):Prop:=
 ∃F',(∀x,F' x->F x\/W.heap.size<=x)/\H7 k w0 F' W' a σ most rs l2 L t N/\Mod F W W'
section
variable {k:TxK}{w0:World}{F M:Nat->Prop}{W W':World}{a:TxA}{σ:SKs}{most:Int}{rs:List Int}{l2:List Spn}{L:List (List Attr)}{t:Tab (List Attr)}{N:Nat}
def H7.Hw(h:H7 k w0 F W a σ most rs l2 L t N):∃l1 Fr,BR l1=rs/\JX k.r Ap.toAvT Fr Gl W a.r l1 N/\(∀x,Fr x->F x/\x≠a.b)/\∀{W' j ZO N' e},Mod Fr W W'->(∀x,j x->Fr x\/W.heap.size<=x)->JX e Ap.toAvT j Gl W' a.r ZO N'->N<=N'->DI { k with r:=e } w0 F W W' a σ most (BR ZO) l2 L t N':=by
 obtain⟨own,G,l1,h1,m⟩:=h;have up:∀x,G.r x->F x:=λx i=>m.lo x (.inl (.inr (.inl i)));refine⟨l1,G.r,h1,m.Hw,λx i=>⟨up x i,λe=>by have q:=m.cr x i;have O:=m.cb;rw[e] at q;omega⟩,λ{W' j ZO N' e} hm hF B I=>?_⟩;obtain⟨o,J⟩:=m.Zi hm hF B I;exact⟨_,λx i=>i.elim .inl λi=>(hF x i).imp (up x) id,⟨o,_,ZO,rfl,J⟩,hm.mono λx _ i=>up x i⟩
def H7.EX(h:H7 k w0 F W a σ most rs l2 L t N):∃o,JX k.s DW.toAvT o Gl W a.s l2 N/\(∀x,o x->F x)/\∀{W' i V7 N' e},Mod o W W'->(∀x,i x->o x\/W.heap.size<=x)->JX e DW.toAvT i Gl W' a.s V7 N'->N<=N'->DI { k with s:=e } w0 F W W' a σ most rs V7 L t N':=by
 obtain⟨own,G,l1,h1,q⟩:=h;have up:∀x,G.s x->F x:=λx j=>q.lo x (.inl (.inr (.inr j)));refine⟨G.s,q.EX,up,λ{W' i V7 N' e} hm hF B I=>?_⟩;obtain⟨m,J⟩:=q.YN hm hF B I;exact⟨_,λx j=>j.elim .inl λj=>(hF x j).imp (up x) id,⟨m,_,l1,h1,J⟩,hm.mono λx _ j=>up x j⟩
def H7.para(h:H7 k w0 F W a σ most rs l2 L t N):∃q B,JX k.p Au.toAvT q B W a.p L N/\(∀x,q x\/B x->F x)/\∀{W' i j L' N' e},Mod q W W'->(∀x,i x\/j x->(q x\/B x)\/W.heap.size<=x)->JX e Au.toAvT i j W' a.p L' N'->N<=N'->DI { k with p:=e } w0 F W W' a σ most rs l2 L' t N':=by
 obtain⟨own,G,l1,h1,I⟩:=h;have up:∀x,G.p x\/G.c x->F x:=λx m=>I.lo x (.inr (.inl m));refine⟨G.p,G.c,I.para,up,λ{W' i j L' N' e} hm hF J O=>?_⟩;obtain⟨o,Q⟩:=I.ag hm hF J O;exact⟨_,λx m=>m.elim .inl λm=>(hF x m).imp (up x) id,⟨o,_,l1,h1,Q⟩,hm.mono λx _ m=>up x (.inl m)⟩
def H7.Vv(h:H7 k w0 F W a σ most rs l2 L t N):∃Ft,FR Ft W a.t σ t/\(∀x,Ft x->F x)/\∀{W' t'},Jj Ft W W' a.t σ t'->DI k w0 F W W' a σ most rs l2 L t' N:=by
 obtain⟨own,G,l1,h1,m⟩:=h;have up:∀x,G.t x->F x:=λx i=>m.lo x (.inr (.inr i));refine⟨G.t,m.Vv,up,λ{W' t'} o=>?_⟩;obtain⟨q,hF,B,hm⟩:=o;obtain⟨j,I⟩:=m.fj hm hF B (K8 _);exact⟨_,λx i=>i.elim .inl λi=>(hF x i).imp (up x) qn,⟨j,_,l1,h1,I⟩,hm.mono λx _ i=>up x i⟩
def H7.box(h:H7 k w0 F W a σ most rs l2 L t N):Bx W a.b (ZP σ.sv most a.r a.s a.p a.t)/\F a.b:=by
 obtain⟨own,G,l1,h1,i⟩:=h;exact⟨i.box,i.lo _ (.inl (.inl rfl))⟩
def H7.HN(h:H7 k w0 F W a σ most rs l2 L t N):CK σ.S W σ.sv σ.ks/\∀x,σ.S x->x<W.heap.size:=by
 obtain⟨own,G,l1,h1,i⟩:=h;exact⟨i.HN,λx j=>(i.cS x j).2⟩
def H7.hl(h:H7 k w0 F W a σ most rs l2 L t N):∀x,F x->w0.heap.size<=x/\x<W.heap.size/\¬σ.S x:=by
 obtain⟨own,G,l1,h1,i⟩:=h;exact i.hl
def H7.g(h:H7 k w0 F W a σ most rs l2 L t N):Grow w0 W:=by
 obtain⟨own,G,l1,h1,i⟩:=h;exact i.g
def H7.mod(h:H7 k w0 F W a σ most rs l2 L t N)(hm:Mod M W W')(i:∀x,M x->¬F x/\¬σ.S x/\w0.heap.size<=x):H7 k w0 F W' a σ most rs l2 L t N:=by
 obtain⟨own,G,l1,h1,j⟩:=h;exact⟨own,G,l1,h1,j.mod hm i⟩
def H7.grow(h:H7 k w0 F W a σ most rs l2 L t N)(hm:Grow W W'):H7 k w0 F W' a σ most rs l2 L t N:=h.mod hm λ_ h=>h.elim
def H7.same(h:H7 k w0 F W a σ most rs l2 L t N)(hm:Grow W W'):DI k w0 F W W' a σ most rs l2 L t N:=⟨F,λ_ h=>.inl h,h.grow hm,hm.mono λ_ _ h=>h.elim⟩
def H7.Tm(h:H7 .f w0 F W a σ most rs l2 L t N):∃l1 Fr bt,BR l1=rs/\Dk Ap.toAvT Fr Gl W a.r bt l1 N/\(∀x,Fr x->F x/\x≠a.b)/\∀{W' i ZO N'},Mod Fr W W'->(∀x,i x->Fr x\/W.heap.size<=x)->Dk Ap.toAvT i Gl W' a.r bt ZO N'->N<=N'->DI .f w0 F W W' a σ most (BR ZO) l2 L t N':=by
 obtain⟨l1,Fr,h1,j,m,o⟩:=h.Hw;obtain⟨bt,j⟩:=j.t;exact⟨l1,Fr,bt,h1,j,m,λhm hF q B=>o (e:=false) hm hF (.inl ⟨bt,q⟩) B⟩
def H7.XF(h:H7 .f w0 F W a σ most rs l2 L t N):∃i bt,Dk DW.toAvT i Gl W a.s bt l2 N/\(∀x,i x->F x)/\∀{W' j V7 N'},Mod i W W'->(∀x,j x->i x\/W.heap.size<=x)->Dk DW.toAvT j Gl W' a.s bt V7 N'->N<=N'->DI .f w0 F W W' a σ most rs V7 L t N':=by
 obtain⟨i,m,o,q⟩:=h.EX;obtain⟨bt,m⟩:=m.t;exact⟨i,bt,m,o,λhm hF B I=>q (e:=false) hm hF (.inl ⟨bt,B⟩) I⟩
def H7.Tq(h:H7 .f w0 F W a σ most rs l2 L t N):∃i j bt,Dk Au.toAvT i j W a.p bt L N/\(∀x,i x\/j x->F x)/\∀{W' m o L' N'},Mod i W W'->(∀x,m x\/o x->(i x\/j x)\/W.heap.size<=x)->Dk Au.toAvT m o W' a.p bt L' N'->N<=N'->DI .f w0 F W W' a σ most rs l2 L' t N':=by
 obtain⟨i,j,q,B,I⟩:=h.para;obtain⟨bt,q⟩:=q.t;exact⟨i,j,bt,q,B,λhm hF J O=>I (e:=false) hm hF (.inl ⟨bt,J⟩) O⟩
def DI.next{j:TxK}{m:Nat->Prop}{o:World}{i:List Int}{L':List (List Attr)}{t':Tab (List Attr)}{N':Nat}(hF:∀x,m x->F x\/W.heap.size<=x)(hm:Mod F W o)(h:DI j w0 m o W' a σ most i y L' t' N'):DI j w0 F W W' a σ most i y L' t' N':=by
 obtain⟨B,h1,I,J⟩:=h;have z:=hm.size;refine⟨B,λx q=>?_,I,hm.next J λx q e=>?_⟩
 .rcases h1 x q with e|e
  .exact hF x e
  .exact .inr (by omega)
 .rcases hF x e with e|e
  .exact e
  .omega
def DI.step{i:World}(g:Grow W i)(h:DI k w0 F i W' a σ most rs l2 L t N):DI k w0 F W W' a σ most rs l2 L t N:=DI.next (λ_ h=>.inl h) (g.mono λ_ _ h=>h.elim) h
def DI.up{N':Nat}(h:DI k w0 F W W' a σ most rs l2 L t N)(j:N<=N'):DI k w0 F W W' a σ most rs l2 L t N':=by
 obtain⟨F',h1,⟨own,G,l1,m,i⟩,o⟩:=h;exact⟨F',h1,⟨own,G,l1,m,i.box,i.Hw.up j,i.EX.up j,i.para.up j,i.Vv,i.HN,i.cb,i.cr,i.cs,i.cp,i.ct,i.cS,i.lo,i.hl,i.g⟩,o⟩
end
section
variable {α:Type}[DecidableEq α]{t t':Tab α}{z s:α}{f:Int->α}{h:Int->Nat}{id:Int}{G:α->Prop}
def Tab.Holds.idle(i:t.Holds z f h)(h0:0<h id\/id=0):0<=id/\id<=t.places.length:=by
 rcases h0 with h0|rfl;rotate_left
 .omega
 obtain⟨n,h1⟩:=i.has h0;by_cases m:id=0
 .omega
 .obtain⟨j,rfl,hp⟩:=h1.pos m;have:=(Ad.1 hp).1;omega
omit [DecidableEq α] in
def Tab.Zk:(t.hold z id).places.length=t.places.length:=by
 unfold Tab.hold;cases t.ask z id with
 |none=>rfl
 |some p=>
  dsimp only;split
  .rfl
  .show(t.places.set _ _).length=_;rw[lG]
omit [DecidableEq α] in
def Tab.MJ:(t.release z id).places.length=t.places.length:=by
 unfold Tab.release;cases t.ask z id with
 |none=>rfl
 |some p=>
  dsimp only;split
  .rfl
  .split<;>(show(t.places.set _ _).length=_;rw[lG])
omit [DecidableEq α] in
def Tab.LM.pl(ha:t.LM z s id t'):t'.places.length<=t.places.length+1:=by
 rcases ha with⟨_,_,rfl⟩|⟨_,i,n,hp,j,_,rfl⟩|⟨_,_,_,rfl⟩
 .exact rk _
 .show(t.places.set _ _).length<=_;rw[lG];omega
 .unfold Tab.put;cases t.free.getLast? with
  |some i=>show(t.places.set _ _).length<=_;rw[lG];omega
  |none=>show(t.places++[_]).length<=_;rw[BW,nT];omega
def T7{r:List (α×Int)}(i:t.GL z r)(hi:t.Inv G)(m:∀p∈r,p.1=f p.2){p:α×Int}(hp:p∈r):HQ r p.1=r.countP λq=>decide (q.2=p.2):=by
 unfold HQ;rw[List.countP_eq_length_filter];congr 1
 refine List.filter_congr λq j=>?_;have hu:=Tab.Has.uniq hi (i.has q j) (i.has p hp);by_cases e:q.2=p.2
 .simp[e,hu.1 e]
 .have e':¬q.1=p.1:=λh'=>e (hu.2 h');simp[e,e']
def Tab.Holds.small(I:t.Holds z f h)(hi:t.Inv G)(Z:∀s,G s->s≠z){H:Nat}(V:∀x,h x<=H)(hp:t.places.length<=H):t.Small H:=by
 obtain⟨_,r,h1,X,Y⟩:=I;refine⟨hp,?_,λq hq=>?_⟩
 .rw[h1.em];refine qM λJ=>?_;obtain⟨p,m,e⟩:=MA (r:=r) (x:=z) (by omega);rw[<-e,T7 h1 hi X m,Y] at J;have:=V p.2;omega
 .refine qM λJ=>?_;obtain⟨i,O,e⟩:=oe.1 hq;have o:t.places[i]?=some q:=by rw[Bq O,e]
  obtain⟨p,m,e'⟩:=h1.pl i q o (by omega);have I:=h1.has p m;have Q:p.2≠0:=λe0=>Z _ (hi.ok i q o (by omega)) (e'▸I.2.2.1 e0);obtain⟨j,hj,B⟩:=I.pos Q;have U:=hi.H0 i j q _ o B (by omega) I.2.1 e'.symm;subst U;rw[o] at B;have:q.held=HQ r p.1:=by cases B;rfl
  rw[T7 h1 hi X m,Y] at this;have:=V p.2;omega
end
namespace Spn
def RM(x:Int)(p:Option Int)(l:List Int):rn x p l<=l.length:=by
 induction l generalizing p with
 |nil=>exact K8 _
 |cons y l i=>
  rw[rn,gD];have:=i (some y);split<;>omega
def MB{x:Int}{p:Option Int}{l:List Int}(i:x∈l)(hp:p≠some x):0<rn x p l:=by
 induction l generalizing p with
 |nil=>cases i
 |cons y l j=>
  rw[rn];by_cases e:y=x
  .rw[DN ⟨e,hp⟩];omega
  .have h1:x∈l:=(Mp.1 i).resolve_left λh=>e h.symm;have:=j (p:=some y) h1 (λh=>e (lK h));omega
def eV{x:Int}{p:Option Int}{l:List Int}(h:0<rn x p l):x∈l:=by
 induction l generalizing p with
 |nil=>simp[rn] at h
 |cons y l i=>
  rw[rn] at h;by_cases e:y=x
  .exact Mp.2 (.inl e.symm)
  .rw[Bp λh=>e h.1] at h;exact kx _ (i (p:=some y) (by omega))
def ai(s:Spn){i j:Nat}(m:i<j)(q:j<=s.n):kd.part s i j=⟨j-i,s.id⟩:=by
 have o:(kd.μ s).1=s.n:=rfl;unfold Kd.part;rw[o];by_cases h:j<s.n
 .rw[DN h];by_cases h0:0<i
  .rw[DN h0];rfl
  .rw[Bp h0,show i=0 by omega];rfl
 .rw[Bp h,show j=s.n by omega];by_cases h0:0<i
  .rw[DN h0];rfl
  .rw[Bp h0,show i=0 by omega];rfl
def Uj{l:List Spn}:∀{p:Option Int} (_:Hx p l) (i j:Nat),Hx (if i=0 then p else none) (kd.over l i j):=by
 induction l with
 |nil=>intro p _ i j;exact trivial
 |cons s l o=>
  intro p h i j;obtain⟨h1,B,q⟩:=h;have I:(kd.μ s).1=s.n:=rfl;rw[Kd.over,I];by_cases m:i<min j s.n
  .rw[DN m,ai s m (Nat.min_le_right _ _)];have:=o q (i-s.n) (j-s.n);rw[DN (by omega)] at this;refine⟨by show 0<min j s.n-i;omega,?_,this⟩;split
   .exact B
   .simp
  .rw[Bp m,lg];by_cases J:j<=i
   .rw[Kd.Ec _ _ (by omega)];exact trivial
   .have:=MY (o q (i-s.n) (j-s.n));rw[Bp (by omega)];exact this
def HM{p:Option Int}{l:List Spn}(h:Hx p l)(i j:Nat):Hx none (kd.over l i j):=MY (Uj h i j)
def Gg{p:Option Int}{l:List Spn}(h:Hx p l):l.length<=(l.flatMap u).length:=by
 induction l generalizing p with
 |nil=>exact K8 _
 |cons s l i=>
  have:=i h.2.2;have:=h.1;rw[mE,BW,u,me,gD];omega
def Ut{l:List Spn}{x:Int}(h:x∈l.flatMap u):∃s∈l,s.id=x:=by
 obtain⟨s,i,j⟩:=rA.1 h;exact⟨s,i,(List.mem_replicate.1 j).2.symm⟩
def N2{l:List Spn}{s:Spn}(i:s∈l)(j:0<s.n):s.id∈l.flatMap u:=rA.2 ⟨s,i,List.mem_replicate.2 ⟨by omega,rfl⟩⟩
abbrev De(l:List Spn)(x:Int):Nat:=l.countP λs=>decide (s.id=x)
structure kW (l2 row:List Spn) (i j:Nat):Prop where
 same:∀x,rn x none ((kd.Bl l2 i j row).flatMap u)+De (kd.over l2 (i-1) (min (j+1) (l2.flatMap u).length)) x=rn x none (l2.flatMap u)+De (kd.over (kd.Bl l2 i j row) (i-1) (min (j+1) (l2.flatMap u).length-(j-i)+(row.flatMap u).length)) x
 mem:∀x,0<De (kd.over (kd.Bl l2 i j row) (i-1) (min (j+1) (l2.flatMap u).length-(j-i)+(row.flatMap u).length)) x->x∈l2.flatMap u\/x∈row.flatMap u
 len:(kd.over l2 (i-1) (min (j+1) (l2.flatMap u).length)).length<=(l2.flatMap u).length/\(kd.over (kd.Bl l2 i j row) (i-1) (min (j+1) (l2.flatMap u).length-(j-i)+(row.flatMap u).length)).length<=(l2.flatMap u).length+(row.flatMap u).length
def WX(P Q R:List α){a b:Nat}(ha:a=P.length)(hb:b=P.length+Q.length):((P++Q++R).take b).drop a=Q:=by
 subst ha hb;rw[pC (by rw[BW]),pE rfl]
def kJ(row:List Spn){i j:Nat}(hp:Hx none y)(Q:i<=j)(hj:j<=(y.flatMap u).length):kW y row i j:=by
 have U:=IV i j row hp;have eu:(kd.Bl y i j row).flatMap u=(y.flatMap u).take i++row.flatMap u++(y.flatMap u).drop j:=EE.Bl y row Q;generalize m:y.flatMap u=ids at *;generalize o:row.flatMap u=O at *
 let P:=ids.take (i-1)
 let q:=(ids.take i).drop (i-1)
 let B:=(ids.take j).drop i
 let I:=(ids.drop j).take 1
 let R:=(ids.drop j).drop 1
 have eA:ids.take i=P++q:=by
  have:=(TC (i-1) (ids.take i)).symm;rwa [nB,lQ (by omega)] at this
 have eC:ids.drop j=I++R:=(TC 1 _).symm;have eB:ids=ids.take i++B++ids.drop j:=by
  have h1:=(TC i (ids.take j)).symm;rw[nB,lQ Q] at h1;rw[<-h1,TC]
 have Z:ids=P++(q++B++I)++R:=by
  conv=>lhs;rw[eB,eA,eC]
  simp only[P9]
 have e2:(kd.Bl y i j row).flatMap u=P++(q++O++I)++R:=by
  rw[eu,eA,eC];simp only[P9]
 have V:P.length=i-1:=by show(ids.take (i-1)).length=_;rw[Lc];omega
 have X:q.length=i-(i-1):=by show((ids.take i).drop (i-1)).length=_;rw[Hy,Lc];omega
 have lB:B.length=j-i:=by show((ids.take j).drop i).length=_;rw[Hy,Lc];omega
 have Y:I.length=min 1 (ids.length-j):=by show((ids.drop j).take 1).length=_;rw[Lc,Hy]
 have lR:R.length=ids.length-j-1:=by show((ids.drop j).drop 1).length=_;rw[Hy,Hy]
 have u1:(kd.over y (i-1) (min (j+1) ids.length)).flatMap u=q++B++I:=by
  rw[EE.over,m];have:=WX P (q++B++I) R (b:=min (j+1) ids.length) V.symm (by rw[BW,BW,V,X,lB,Y];omega);rw[<-Z] at this;exact this
 have u2:(kd.over (kd.Bl y i j row) (i-1) (min (j+1) ids.length-(j-i)+O.length)).flatMap u=q++O++I:=by
  rw[EE.over,e2];exact WX _ _ _ V.symm (by rw[BW,BW,V,X,Y];omega)
 have c1:=λx=>WZ x none _ (HM hp (i-1) (min (j+1) ids.length));have c2:=λx=>WZ x none _ (HM U (i-1) (min (j+1) ids.length-(j-i)+O.length));have n1:=Gg (HM hp (i-1) (min (j+1) ids.length));have n2:=Gg (HM U (i-1) (min (j+1) ids.length-(j-i)+O.length));rw[u1] at n1;rw[u2] at n2;refine⟨λx=>?_,λx hx=>?_,?_,?_⟩
 .rw[o,m,De,De,c1,c2,u1,u2,e2];have:=VS x P (q++B++I) (q++O++I) R (λJ=>?_) (λJ=>?_)
  .rw[<-Z] at this;omega
  .have:P.length≠0:=λh=>J (Of h);cases hA:q with
   |nil=>rw[hA] at X;simp at X;omega
   |cons l2 A2=>simp
  .have:R.length≠0:=λh=>J (Of h);have hC:I≠[]:=λh=>by rw[h] at Y;simp at Y;omega
   exact⟨by simp[cq,nD hC],by simp[hC],by simp[hC]⟩
 .rw[o,m,De,c2,u2] at hx;have hm:=eV hx;rw[m,o];rcases By.1 hm with hm|hm
  .rcases By.1 hm with hm|hm
   .exact .inl (lJ (ky hm))
   .exact .inr hm
  .exact .inl (ky (lJ hm))
 .rw[m];have:=lV List.length Z;simp only[BW] at this n1;omega
 .rw[m,o];simp only[BW] at n2;omega
end Spn
def FR.inv{b:Nat}{ks:SKs}{t:Tab (List Attr)}(h:FR F W b ks t):t.Inv (Gq ks.ks):=by
 obtain⟨C,pl,fr,bm,i⟩:=h;exact i.core.inv
def Gq.ne:∀s,Gq ks s->s≠[]:=λ_ h=>h.1
section
variable {k:TxK}{w0:World}{F:Nat->Prop}{W:World}{a:TxA}{σ:SKs}{most:Int}{rs:List Int}{l2:List Spn}{L:List (List Attr)}{t:Tab (List Attr)}{N:Nat}
def K2{op:Tab (List Attr)->Int->Tab (List Attr)}{row:List Spn}{P:Nat->Tab (List Attr)->Prop}{Kend:World->Prop}
 (call:∀{Ft W t id},FR Ft W a.t σ t->t.Small 1099511627->0<=id->id<=1099511627->AB prog c [.pointer (some ⟨a.t,0,none⟩),zI id] (λ_ w'=>Jj Ft W w' a.t σ (op t id)) W)
 (rd:An S 2 Ei W v row)(hS:∀x,S x->¬F x)(hl:row.length<=1099511627776)
 (o:∀(m:Nat) (hm:m<row.length) t,P m t->t.Inv (Gq σ.ks)->t.Small 1099511627/\0<=row[m].id/\row[m].id<=1099511627/\P (m+1) (op t row[m].id))
 (h:H7 k w0 F W a σ most rs l2 L t N)(h0:P 0 t)
 (hK:∀W' t',DI k w0 F W W' a σ most rs l2 L t' N->P row.length t'->Kend W') :
  FK [(zI 0)] (λvs B J=>∀_:Env,
   GI .i64 (nth vs 0) (zI (row.length:Int)) λa1=>
   AZ a1
   (Ip 2 v (nth vs 0) λa6=>
   CX 2 a6 (λa7 a8=>
   Bt 128 [(zI 0),(zI 0)] (λO ak=>
   BP 2 O a7 (λI=>
   CM [6] [[],[0],[0,1],[0,1,2],[],[4],[0,1,2,3,4,5]] I.drew (λM St=>
   Af (.pointer (some ⟨a.b,0,none⟩)) λal=>
   BC 5 al λan=>
   DQ (St 3) an λav=>
   BC 1 O λax=>
   DQ (St 5) ax λay=>
   AB prog c [av,ay] (λ_t87 Q=>
   Mod (M 6) I.drew Q/\
   CW .i64 (nth vs 0) (zI 1) λaZ=>
   B [aZ] Q) I.drew)) ak) a8) J)
   (Kend J)) W:=by
 obtain⟨ra,rc,rfl,_⟩:=rd.shape;have U:=rd.Gw (by decide);refine AU (λvs W'=>∃(m:Nat) (t':Tab (List Attr)),m<=row.length/\vs=[zI m]/\DI k w0 F W W' a σ most rs l2 L t' N/\P m t') (λvs _=>row.length-Dh vs 0) ⟨0,t,Nn _,rfl,h.same (Mod.refl _ _),h0⟩ ?_;rintro vs W1 ⟨m,t1,hm,rfl,⟨F1,f1,h1,Z⟩,hP⟩ _;simp only[BQ,Nr];rw[Ai];have z1:=Z.size;refine AD (λb7=>?_) λb8=>?_;rotate_left
 .obtain rfl:m=row.length:=by omega
  exact hK W1 t1 ⟨F1,f1,h1,Z⟩ hP
 have i:m<row.length:=by omega
 obtain⟨p,r,rfl,_,hr,hc,b0⟩:=U.get i;have V:r=row[m].cells:=b0;subst V;obtain⟨p',r',e',b1,_⟩:=U.get i;cases e';refine AS i (AV (vs:=row[m].cells) rfl (λj u hu=>by rw[Addr.add_add];exact Z.cell (hc j u hu) λe=>hS _ b1.1 (by rw[Ac] at e;exact e)) ?_);refine Bx.new (vs:=row[m].cells) rfl rfl (Spn.one _) λb5 W2 b9 g2 B5=>?_;have gd:Grow W2 W2.drew:=Mod.drew _ _;have h2:=h1.grow (g2.trans gd);obtain⟨hB,ba⟩:=h2.box;have b2:=B5.grow gd;obtain⟨Ft,hT,bb,put⟩:=h2.Vv;have zd:=(g2.trans gd).size;have X:∀x,F1 x->x≠b5:=λx Y e=>by have:=(h1.hl x Y).2.1;omega
 refine AT (λq y=>q=6/\F1 y) ?_;refine AG ?_;rw[AH,AI];refine AP ⟨hB.cells 5 _ rfl,λj hj e=>by obtain⟨rfl,_⟩:=e;exact absurd hj (by decide)⟩ ?_;rw[AH,AI];refine AP ⟨b2.cells 1 _ rfl,λj hj e=>X _ e.2 rfl⟩ ?_;obtain⟨q1,q2,q3,q4⟩:=o m i t1 hP hT.inv;refine AA (call hT q1 q2 q3) ?_;rintro _ W3 hA;obtain⟨F3,f3,h3,m3⟩:=put hA;refine⟨m3.mono λx _ Y=>⟨rfl,Y⟩,?_⟩;rw[AM,AK (by omega)];have b6:Mod F W W2.drew:=Z.next (g2.trans gd) λ_ _ e=>e.elim;refine⟨⟨m+1,_,i,rfl,DI.next (λx Y=>(f1 x Y)) b6 ⟨F3,f3,h3,m3⟩,q4⟩,by rw[Bw,Bw];omega⟩
end
def aB{e:Bool}{b N:Nat}{l:List Spn}(h:JX e DW.toAvT F Gl W b l N) :
  AB prog 161 [.pointer (some ⟨b,0,none⟩)] (λv' w'=>v'=zI (FG l:Int)/\∃bt F',Dk DW.toAvT F' Gl w' b bt l N/\(∀x,F' x->F x\/W.heap.size<=x)/\Mod F W w') W:=by
 rcases h with⟨bt,h⟩|⟨_,j,rfl,i,q⟩
 .refine AA (Mz JI h) ?_;rintro _ w ⟨rfl,g⟩;exact⟨rfl,bt,F,h.grow g,λ_ h=>.inl h,g.mono λ_ _ h=>h.elim⟩
 .refine AA (Wj (g:=DW.toAvT) (C:=Gl) JI j (λh=>h) λ_ h=>h.elim) ?_;rintro _ w ⟨rfl,bt,F',k1,k2,m⟩;exact⟨rfl,bt,F',k1.up (Nn _),λx o=>(k2 x o).imp (λe=>(i x).2 e) id,m.mono λx _ e=>(i x).2 e⟩
namespace Spn
def MF(l:List Spn){m:Nat}(hm:m<l.length)(x:Int):De (l.take (m+1)) x=De (l.take m) x+if x=l[m].id then 1 else 0:=by
 have i:l.take (m+1)=l.take m++[l[m]]:=by rw[S5];simp[hm]
 rw[De,De,i,pj,pT,List.countP_nil];by_cases e:x=l[m].id
 .rw[DN e,DN (by simp[e])]
 .rw[Bp e,Bp (by simp[oF e])]
def LH(l:List Spn)(m:Nat)(x:Int):De (l.take m) x<=De l x:=by
 have:De l x=De (l.take m) x+De (l.drop m) x:=by rw[De,De,De,<-pj,TC]
 omega
def O9{l:List Spn}{s:Spn}(h:s∈l):0<De l s.id:=qb.2 ⟨s,h,by simp⟩
def Mq(l:List Spn)(x:Int):De l x<=l.length:=List.countP_le_length
end Spn
section
variable {k:TxK}{w0:World}{F:Nat->Prop}{W:World}{a:TxA}{σ:SKs}{most:Int}{rs:List Int}{l2:List Spn}{L:List (List Attr)}{t:Tab (List Attr)}{N:Nat}
def VR{f:Int->List Attr}{h:Int->Nat}{i:List Spn}{M:Nat}(I:M<=1000000000)(o:∀s∈i,0<h s.id\/s.id=0)(hb:∀x,h x+i.length<=1000000000)(ks:List DKey) :
  ∀(m:Nat) (hm:m<i.length) (t:Tab (List Attr)),(t.Holds [] f (λx=>h x+Spn.De (i.take m) x)/\t.places.length=M)->t.Inv (Gq ks)->
   t.Small 1099511627/\0<=i[m].id/\i[m].id<=1099511627/\((t.hold [] i[m].id).Holds [] f (λx=>h x+Spn.De (i.take (m+1)) x)/\(t.hold [] i[m].id).places.length=M):=by
 rintro m hm t ⟨q,hp⟩ hi;have J:=o i[m] (ku hm);have j:0<h i[m].id+Spn.De (i.take m) i[m].id\/i[m].id=0:=by omega
 obtain⟨B,O⟩:=q.idle j;refine⟨(q.small hi Gq.ne (H:=1000000000) (λx=>?_) (by omega)).le (by omega),B,by omega,(q.hold hi j).congr λx=>?_,by rw[Tab.Zk];exact hp⟩
 .have:=Spn.LH i m x;have:=Spn.Mq i x;have:=hb x;omega
 .rw[Spn.MF i hm];omega
def OV{f:Int->List Attr}{h:Int->Nat}{M:Nat}(B:M<=1000000000)(j:∀x,Spn.De y x<=h x)(hb:∀x,h x<=1000000000)(ks:List DKey) :
  ∀(m:Nat) (hm:m<y.length) (t:Tab (List Attr)),(t.Holds [] f (λx=>h x-Spn.De (y.take m) x)/\t.places.length=M)->t.Inv (Gq ks)->
   t.Small 1099511627/\0<=y[m].id/\y[m].id<=1099511627/\((t.release [] y[m].id).Holds [] f (λx=>h x-Spn.De (y.take (m+1)) x)/\(t.release [] y[m].id).places.length=M):=by
 rintro m hm t ⟨o,hp⟩ hi;have h1:=Spn.MF y hm y[m].id;rw[DN rfl] at h1;have I:=Spn.LH y (m+1) y[m].id;have J:=j y[m].id;have i:0<h y[m].id-Spn.De (y.take m) y[m].id:=by omega
 obtain⟨q,O⟩:=o.idle (.inl i);refine⟨(o.small hi Gq.ne (H:=1000000000) (λx=>?_) (by omega)).le (by omega),q,by omega,(o.free hi Gq.ne i).congr λx=>?_,by rw[Tab.MJ];exact hp⟩
 .have:=hb x;omega
 .rw[Spn.MF y hm];omega
def UW{id:Int}(i:FR F W a.t σ t)(j:t.Small 1099511627)(h0:0<=id)(h1:id<=1099511627):AB prog 286 [.pointer (some ⟨a.t,0,none⟩),zI id] (λ_ w'=>Jj F W w' a.t σ (t.hold [] id)) W:=
 AA (WW i (j.le (by omega)) (by omega) (by omega)) λ_ _ h=>h.2
def Ki{id:Int}(i:FR F W a.t σ t)(j:t.Small 1099511627)(h0:0<=id)(h1:id<=1099511627):AB prog 182 [.pointer (some ⟨a.t,0,none⟩),zI id] (λ_ w'=>Jj F W w' a.t σ (t.release [] id)) W:=
 AA (XC i j (by omega) (by omega)) λ_ _ h=>h.2
def K5{row:List Spn}{i j:Nat}{f:Int->List Attr}{ex:Int->Nat}
 (h:H7 k w0 F W a σ most rs l2 L t N)(hp:Spn.Hx none l2)(hh:t.Holds [] f λx=>Spn.rn x none (l2.flatMap Spn.u)+ex x)
 (Z:i<=j)(hj:j<=(l2.flatMap Spn.u).length)(hv:An S 2 Ei W v row)(hS:∀x,S x->¬F x)
 (J:∀s∈row,0<s.n/\(0<ex s.id\/s.id=0))(hz:(l2.flatMap Spn.u).length+(row.flatMap Spn.u).length<=100000000)(bk:∀x,ex x<=100000000)(hN:N<=1000000000)(a6:t.places.length<=1000000000) :
  AB prog 181 [.pointer (some ⟨a.b,0,none⟩),zI (i:Int),zI (j:Int),v] (λv' w'=>v'=.tuple #[]/\∃t',DI { k with s:=false } w0 F W w' a σ most rs (Spn.kd.Bl l2 i j row) L t' (N+row.length+4)/\t'.Holds [] f (λx=>Spn.rn x none ((Spn.kd.Bl l2 i j row).flatMap Spn.u)+ex x)/\t'.places.length=t.places.length) W:=by
 refine uS4 (dB 290305839594674059948943997973065 [([9,56],[(9,9),(13,13),(56,64)]),([77],[(17,17),(77,88)]),([91],[(19,19),(91,102)])] [(dC [6] [0,1,3,7,0,16,63] []),(dC [6] [0,1,3,7,0,16,63] [])]) func181 (λ_ _ _ _ _ _=>⟨by conv=>lhs;reduce,by dsimp only[PI,AF],by kernel_rfl⟩) ?_;unfold uI;obtain⟨w1,w2,w3,w4⟩:=Spn.kJ row hp Z hj;have ch:row.length<=(row.flatMap Spn.u).length:=by
  clear hv hz w1 w2 w3 w4;induction row with
  |nil=>exact K8 _
  |cons s row ih=>
   have:=(J s (by simp)).1;have:=ih λs V=>J s (by simp[V]);rw[mE,BW,Spn.u,me,gD];omega
 have cu:=Spn.Gg hp;have e0:(if(0:Int)>(i:Int)-1 then(0:Int) else(i:Int)-1)=((i-1:Nat):Int):=by split<;>omega
 have bl:∀x,Spn.rn x none (l2.flatMap Spn.u)<=(l2.flatMap Spn.u).length:=λx=>Spn.RM x none _;have a7:FG l2=(l2.flatMap Spn.u).length:=Ed l2;have a8:FG row=(row.flatMap Spn.u).length:=Ed row;have ak:∀s∈row,0<=s.id:=λs V=>(hh.idle (id:=s.id) (by have:=(J s V).2;omega)).1;have ca:FG (Spn.kd.Bl l2 i j row)+(j-i)=FG l2+FG row:=(Tv (l:=l2) (L:=row) (by omega) Z (by omega)).1;generalize hn:(l2.flatMap Spn.u).length=n at *;generalize cx:(row.flatMap Spn.u).length=nr at *;rw[Am,GC,wrap64 (by omega) (by omega),e0,AM,wrap64 (by omega) (by omega)];refine AG ?_;refine Az (h.box.1.cells 3 _ rfl) ?_;obtain⟨Fs,q,I,put⟩:=h.EX;refine AA (aB q) ?_;rintro _ W1 ⟨rfl,bt,da,al,Y,m1⟩;obtain⟨F1,f1,h1,M1⟩:=put (e:=false) m1 Y (.inl ⟨bt,al⟩) (K8 _);clear q put I Y al;have bp:An (λx=>S x/\x<W.heap.size) 2 Ei W1 v row:=(hv.Gw (by decide)).mod M1 (λx _ o e=>hS x o.1 e) (by decide) λ_ _ h=>h;have an:∀x,S x/\x<W.heap.size->¬F1 x:=λx o e=>by
  rcases f1 x e with e|e
  .exact hS x o.1 e
  .omega
 have av:(if(FG l2:Int)<(j:Int)+1 then(FG l2:Int) else(j:Int)+1)=((min (j+1) n:Nat):Int):=by rw[a7];split<;>omega
 rw[Hi,av];refine AG ?_;refine Az (h1.box.1.cells 3 _ rfl) ?_;obtain⟨Fs,q,I,put⟩:=h1.EX;obtain⟨bt,q⟩:=q.t;refine AA (Lo (i:=i-1) (j:=min (j+1) n) q (by omega) (by omega) (by omega) (by omega) (by omega)) ?_;rintro _ W2 ⟨wv,rfl,oW,g2⟩;refine BI ?_;generalize cc:Spn.kd.over l2 (i-1) (min (j+1) n)=KX at *;have h2:=h1.grow g2;refine AG ?_;refine Az (h2.box.1.cells 3 _ rfl) ?_;clear q put I;obtain⟨Fs,q,I,put⟩:=h2.EX;obtain⟨bt,q⟩:=q.t;have ax:=bp.grow g2 (by decide) λ_ _ h=>h;refine AA (UP q (L:=row) (by omega) Z (by omega) (by omega) ax (λx o e=>an x o (I x e)) ak) ?_;rintro _ W3 ⟨_,dk,k1,k2,k3,k4⟩;obtain⟨F3,f3,h3,M3⟩:=put (e:=false) k4 k2 (.inl ⟨bt,k3⟩) (N':=N+row.length+4) (by omega);clear q put I k1 k2 k3;generalize bs:Spn.kd.Bl l2 i j row=l3 at *;have z1:=M1.size;have z2:=g2.size;have z3:=M3.size;have Q:=AE.Aj oW;have U:∀x,F1 x->x<W1.heap.size:=λx o=>(h1.hl x o).2.1;have ay:∀x,wv.ownBlock=some x->¬F3 x:=λx o e=>by
  have:=Q x o;rcases f3 x e with e|e
  .have:=U x e;omega
  .omega
 have aZ:AE W1.heap.size 128 2 Ei W3 wv KX:=AE.mod (R':=Ei) oW M3 (λx o e=>by have:=Q x o;have:=U x e;omega) λ_ _ _ h=>h;have b0:An (λx=>S x/\x<W.heap.size) 2 Ei W3 v row:=ax.mod M3 (λx _ o e=>an x o e) (by decide) λ_ _ h=>h;have b1:=AE.sl aZ;obtain⟨ra,rc,ev,_⟩:=b0.shape;obtain⟨wa,wc,ew,_⟩:=b1.shape;have bx:((min (j+1) n:Nat):Int)+((i:Int)-(j:Int))=((min (j+1) n-(j-i):Nat):Int):=by omega
 rw[Am,wrap64 (by omega) (by omega),AM,wrap64 (by omega) (by omega),bx];subst ev;rw[AO];refine AU (λvs W'=>∃m:Nat,m<=row.length/\vs=[zI ((min (j+1) n-(j-i)+FG (row.take m):Nat):Int),zI m]/\Grow W3 W') (λvs _=>row.length-Dh vs 1) ⟨0,Nn _,by simp[FG,Tr.sz],Mod.refl _ _⟩ ?_;rintro vs W4 ⟨m,hm,rfl,g4⟩ _;simp only[FC];refine G9 (λdr=>?_) λdA=>?_
 .have O:m<row.length:=by omega
  have bZ:row.take (m+1)=row.take m++[row[m]]:=by rw[S5];simp[O]
  have dT:FG row=FG (row.take (m+1))+FG (row.drop (m+1)):=by unfold FG;rw[<-Tr.CI,TC]
  have b2:FG (row.take (m+1))=FG (row.take m)+row[m].n:=by rw[bZ];unfold FG;rw[Tr.CI];simp[Tr.sz,Spn.kd]
  obtain⟨p,r,rfl,e1,hr,hc,rfl⟩:=b0.get O;refine AS O (AV (vs:=row[m].cells) rfl (λj u hu=>by rw[Addr.add_add];exact g4.cell (hc j u hu) λh=>h) ?_);refine Bx.new (vs:=row[m].cells) rfl rfl (Spn.one _) λe2 w7 hb g7 B=>?_;refine Az (B.cells 0 _ rfl) ?_;rw[AM,wrap64 (by omega) (by omega),AM,AK (by omega)];refine⟨⟨m+1,O,?_,g4.trans g7⟩,by rw[Ar,Ar];omega⟩;rw[b2];congr 2
  omega
 obtain rfl:m=row.length:=by omega
 rw[S7,a8];have h4:=h3.grow g4;have z4:=g4.size;refine AG ?_;refine Az (h4.box.1.cells 3 _ rfl) ?_;obtain⟨Fs,q,I,put⟩:=h4.EX;obtain⟨bt,q⟩:=q.t;have bd:l3.length<=FG l3:=by rw[Ed,<-bs];exact Spn.Gg (Spn.IV i j row hp)
 refine AA (Lo (i:=i-1) (j:=min (j+1) n-(j-i)+nr) q (by omega) (by omega) (by omega) (by omega) (by omega)) ?_;rintro _ W5 ⟨nv,rfl,oN,g5⟩;clear q put I;refine BI ?_;generalize cd:Spn.kd.over l3 (i-1) (min (j+1) n-(j-i)+nr)=X at *;have h5:=h4.grow g5;have z5:=g5.size;have b6:=AE.Aj oN;have a1:∀x,F3 x->x<W3.heap.size:=λx o=>(h3.hl x o).2.1;have b7:=AE.sl oN;obtain⟨na,nc,en,_⟩:=b7.shape;subst en;rw[AO];have b8:∀x,Spn.rn x none (l2.flatMap Spn.u)+ex x+X.length<=1000000000:=λx=>by have:=bl x;have:=bk x;omega
 refine K2 (P:=λm t=>t.Holds [] f (λx=>(Spn.rn x none (l2.flatMap Spn.u)+ex x)+Spn.De (X.take m) x)/\t.places.length=_) (λhT V h0 h1=>UW hT V h0 h1) b7 (λx o e=>by have:=b6 x o.2;have:=a1 x e;omega) (by omega)
  (VR a6 (λs V=>?_) b8 σ.ks) h5 ⟨hh.congr λx=>by simp[Spn.De],rfl⟩ ?_
 .rcases w2 s.id (Spn.O9 V) with e|e
  .have:=Spn.MB (p:=none) e (by simp);omega
  .obtain⟨s',c4,e'⟩:=Spn.Ut e;have:=(J s' c4).2;rw[e'] at this;omega
 rintro W6 t6 ⟨F6,f6,h6,M6⟩ ⟨b9,ba⟩;rw [S7] at b9;have z6:=M6.size;have c6:AE W1.heap.size 128 2 Ei W5 wv KX:=AE.mod (R':=Ei) aZ (g4.trans g5) (λ_ _ h=>h) λ_ _ _ h=>h;have c7:AE W1.heap.size 128 2 Ei W6 wv KX:=AE.mod (R':=Ei) c6 M6 (λx o e=>ay x o e) λ_ _ _ h=>h;have bb:=AE.sl c7;subst ew;rw [AO];refine K2 (P:=λm t=>t.Holds [] f (λx=>(Spn.rn x none (l2.flatMap Spn.u)+ex x+Spn.De X x) - Spn.De (KX.take m) x)/\t.places.length=_) (λhT V h0 h1=>Ki hT V h0 h1) bb (λx o e=>by
   rcases f6 x e with e|e
   .exact ay x o.2 e
   .have:=Q x o.2;omega) (by omega)
  (OV (ba▸a6) (λx=>by have:=w1 x;omega) (λx=>by have:=b8 x;have:=Spn.Mq X x;omega) σ.ks) h6 ⟨b9.congr λx=>by simp[Spn.De],rfl⟩ ?_
 rintro W7 t7 c8 ⟨bc,c9⟩;rw[S7] at bc;refine⟨trivial,t7,?_,bc.congr λx=>by have:=w1 x;omega,c9.trans ba⟩;refine DI.next f1 M1 (DI.step g2 (DI.next f3 M3 (DI.step (g4.trans g5) (DI.next f6 M6 ?_))));exact c8
end
def Bb(d:List Cel):List (List Attr):=(d.filter λc=>decide (c.r=10)).map (·.set)
abbrev Al(d:List Cel):List Int:=d.map Cel.r
def cellOf(ks:List DKey)(set:List Attr)(r:Int):Cel:=⟨r,CL ks (decide (r=10)) set⟩
def Dn(x y:List Cel):Bb (x++y)=Bb x++Bb y:=by simp[Bb]
def DU(d:List Cel):(Bb d).length=BJ (Al d):=by
 induction d with
 |nil=>rfl
 |cons c d i=>
  have e:Bb (c::d)=(if c.r=10 then[c.set] else[])++Bb d:=by by_cases h:c.r=10<;>simp[Bb,h]
  have j:BJ (Al (c::d))=(if c.r=10 then 1 else 0)+BJ (Al d):=by
   have:Al (c::d)=[c.r]++Al d:=rfl;rw[this,ER];by_cases h:c.r=10<;>simp[BJ,h]
  rw[e,j,BW,i];split<;>rfl
def DZ(d:List Cel)(i:Nat):Bb (d.take i)=(Bb d).take (BJ ((Al d).take i))/\Bb (d.drop i)=(Bb d).drop (BJ ((Al d).take i)):=by
 have h:=Dn (d.take i) (d.drop i);rw[TC] at h;have hl:(Bb (d.take i)).length=BJ ((Al d).take i):=by rw[DU,Al,mO]
 rw[h];exact⟨(pC hl).symm,(pE hl).symm⟩
def cU(ks:List DKey)(set:List Attr)(rs:List Int):Bb (rs.map (cellOf ks set))=List.replicate (BJ rs) (CL ks true set):=by
 induction rs with
 |nil=>rfl
 |cons r rs i=>
  have e:r::rs=[r]++rs:=rfl;rw[e,kZ,Dn,i,ER];by_cases h:r=10
  .subst h;rw[<-qE];simp[Bb,cellOf,BJ]
  .simp[Bb,cellOf,BJ,h]
def gx(ks:List DKey)(set:List Attr)(rs:List Int):Al (rs.map (cellOf ks set))=rs:=by
 simp[Al,cellOf,Function.comp_def]
def hU(f:Int->List Attr)(z:List (Cel×Int)):Prop:=∀p∈z,(p.1.r=10->p.2=0)/\(p.1.r≠10->f p.2=p.1.set)
def Gx(k:TxK)(w0:World)(F:Nat->Prop)(W:World)(a:TxA)(σ:SKs)(most:Int)(d:List Cel)(N:Nat):Prop:=
 ∃(z:List (Cel×Int)) (l2:List Spn) (t:Tab (List Attr)) (f:Int->List Attr),z.map Prod.fst=d/\H7 k w0 F W a σ most (Al d) l2 (Bb d) t N/\Spn.Hx none l2/\l2.flatMap Spn.u=z.map Prod.snd/\t.Holds [] f (λx=>Spn.rn x none (z.map Prod.snd))/\hU f z/\t.places.length<=N
def Lk(k:TxK)(w0:World)(F:Nat->Prop)(W W':World)(a:TxA)(σ:SKs)(most:Int)(d:List Cel)(N:Nat):Prop:=∃F',(∀x,F' x->F x\/W.heap.size<=x)/\Gx k w0 F' W' a σ most d N/\Mod F W W'
def SQ{e:Bool}{b N i:Nat}{l:List Ck}(h:JX e Ap.toAvT F Gl W b l N)(hi:i<=(BR l).length)(m:(BR l).length<=1099511627776) :
  AB prog 62 [.pointer (some ⟨b,0,none⟩),zI (i:Int)] (λv' w'=>v'=.tuple #[zI (BJ ((BR l).take i):Int),zI 0]/\∃bt F',Dk Ap.toAvT F' Gl w' b bt l N/\(∀x,F' x->F x\/W.heap.size<=x)/\Mod F W w') W:=by
 rcases h with⟨bt,h⟩|⟨_,o,rfl,j,I⟩
 .refine AA (Kc h hi m) ?_;rintro _ w ⟨rfl,g⟩;exact⟨rfl,bt,F,h.grow g,λ_ h=>.inl h,g.mono λ_ _ h=>h.elim⟩
 .obtain rfl:i=0:=by simpa using hi
  refine AA (RT o) ?_;rintro _ w ⟨rfl,bt,F',k1,k2,q⟩;exact⟨rfl,bt,F',k1.up (Nn _),λx B=>(k2 x B).imp (λe=>(j x).2 e) id,q.mono λx _ e=>(j x).2 e⟩
def SF{e:Bool}{F C S D:Nat->Prop}{b N k:Nat}{L R:List (List Attr)}(h:JX e Au.toAvT F C W b L N)(O:N<=100000000000)(hk:k<=L.length)(hl:L.length+R.length<=536870912)(B:An S 1 (Ca D) W v R)(Q:∀x,S x\/D x->x≠b)(I:∀x∈R,x.length*48<=140737488355328) :
  AB prog 179 [.pointer (some ⟨b,0,none⟩),zI (k:Int),v] (λv' w'=>∃bt F' C',(∀x,F' x\/C' x->(F x\/C x)\/W.heap.size<=x)/\Dk Au.toAvT F' C' w' b bt (L.take k++R++L.drop k) (N+R.length+4)/\Mod F W w') W:=by
 rcases h with⟨bt,h⟩|⟨_,U,rfl,J,V⟩
 .refine AA (Ud h O hk hl B I) ?_;rintro _ w ⟨rfl,F',C',_,_,j,m,o,q⟩;exact ⟨bt,F',C',λx i=>by
   rcases i with i|i
   .exact(j x i).imp .inl id
   .exact (m x i).imp .inr id,o,q⟩
 .obtain rfl:k=0:=by simpa using hk
  refine AA (Qz U (by simpa using hl) B Q I) ?_;rintro _ w ⟨rfl,bt,F',C',j,m,o,q⟩;refine⟨bt,F',C',λx i=>?_,?_,q.mono λx _ e=>(J x).2 e⟩
  .rcases i with i|i
   .exact(j x i).imp (λe=>.inl ((J x).2 e)) id
   .exact .inr (m x i)
  .have e:([]:List (List Attr)).take 0++R++([]:List (List Attr)).drop 0=R:=by simp
   rw[e];exact o.up (by omega)
section
variable {k:TxK}{w0:World}{F:Nat->Prop}{W:World}{a:TxA}{σ:SKs}{most:Int}{rs:List Int}{l2:List Spn}{L:List (List Attr)}{t:Tab (List Attr)}{N:Nat}{d:List Cel}
def Yn{e:Bool}{Fr:Nat->Prop}{i N:Nat}{l:List Ck}{b r s p t:Nat}(j:Bx W b (ZP sv most r s p t))(h:JX e Ap.toAvT Fr Gl W r l N)(hi:i<=(BR l).length)(m:(BR l).length<=1099511627776) :
  AB prog 81 [.pointer (some ⟨b,0,none⟩),zI (i:Int)] (λv' w'=>v'=zI (BJ ((BR l).take i):Int)/\∃bt F',Dk Ap.toAvT F' Gl w' r bt l N/\(∀x,F' x->Fr x\/W.heap.size<=x)/\Mod Fr W w') W:=by
 refine uS2 (dB 73 [] []) func81 (λ_ _ _ _=>⟨by conv=>lhs;reduce,by dsimp only[PI,AF],by kernel_rfl⟩) ?_;unfold uI;refine AG ?_;refine Az (j.cells 2 _ rfl) ?_;refine AA (SQ h hi m) ?_;rintro _ o ⟨rfl,h1⟩;exact Ae (vs:=[_,_]) (by rfl) (Ae (vs:=[_,_]) (by rfl) ⟨rfl,h1⟩)
def QH{at':Nat}{set:List Attr}(h:Gx k w0 F W a σ most d N)(hT:EA w0)(ca:at'<=d.length)(hr:I6 S W v rs)(hs:Ba S W sv set)(a8:∀x,S x->¬F x)
 (hm:∀r∈rs,EK r)(a1:BY σ.ks (CL σ.ks false set)=0)(hI:∀x∈set,NR x)(ez:set.length<=64)(hz:d.length+rs.length<=10000000)(hN:N+4*rs.length+20<=1000000000) :
  AB prog 101 [.pointer (some ⟨a.b,0,none⟩),zI (at':Int),v,sv] (λv' w'=>v'=.tuple #[]/\Lk .f w0 F W w' a σ most (d.take at'++rs.map (cellOf σ.ks set)++d.drop at') (N+4*rs.length+20)) W:=by
 obtain⟨z,l2,t,f,b0,hM,hp,hu,hh,cc,eA⟩:=h;have cd:z.length=d.length:=by rw[<-b0,I3]
 have b1:(Al d).length=d.length:=I3 _;refine uS4 (dB 2998704032065636897493627 [([11,12,37],[(11,14),(37,79)]),([11,12],[(11,14),(39,78)])] [(dC [9,10] [0,1,3,7,0,16,48,112,0,496,1023,2047,4095,4095,8191,32767] []),(dC [6,8] [0,1,3,7,0,0,48,0,255] [])]) func101 (λ_ _ _ _ _ _=>⟨by conv=>lhs;reduce,by dsimp only[PI,AF],by kernel_rfl⟩) ?_;unfold uI;have gd:Grow W W.drew:=Mod.drew _ _;have X:=hM.grow gd;refine AT (λq y=>q=10/\F y) ?_;refine AG ?_;rw[AH,AI];refine AP ⟨X.box.1.cells 5 _ rfl,λj hj e=>by obtain⟨rfl,_⟩:=e;exact absurd hj (by decide)⟩ ?_;refine AG ?_;rw[AH,AI];refine AP ⟨X.box.1.cells 0 _ rfl,λj hj e=>by obtain⟨rfl,_⟩:=e;exact absurd hj (by decide)⟩ ?_;have ch:=hs.grow gd (by decide) λ_ _ h=>h;have cu:=hs.Gw (by decide);refine AA (Js (b:=false) X.HN.1 ch (by omega)) ?_;rintro eB W1 ⟨cx,g1⟩;refine⟨g1.mono λ_ _ h=>h.elim,?_⟩;have ak:=gd.trans g1;have b2:=X.grow g1;have zd:=gd.size;have z1:=g1.size;obtain⟨Ft,al,b6,put⟩:=b2.Vv;have b7:=hM.hl;have da:t.Small 1099511627:=(hh.small al.inv Gq.ne (H:=1000000000) (λx=>by have:=Spn.RM x none (z.map Prod.snd);rw[I3] at this;omega) (by omega)).le (by omega);refine AA (TT al da cx (hT.grow b2.g) (λx m=>hI x ((mg.1 m).1)) (λx m=>?_) (λx m e=>?_)) ?_
 .have:=b7 x (b6 x m);have:=hT.size;exact⟨by omega,by omega⟩
 .have:=b7 x (b6 x e);omega
 rintro _ W2 (⟨h0,_⟩|⟨_,id,t2,rfl,a6,hA⟩)
 .exact absurd a1 h0
 obtain⟨F2,f2,O,M2⟩:=put hA;clear put;refine⟨M2.mono λx _ m=>⟨rfl,m⟩,?_⟩;refine BI ?_;obtain⟨f',dk,b8,dr⟩:=hh.added al.inv a6 λY=>⟨Y,λx m=>hI x ((mg.1 m).1),a1⟩;have er:=a6.pl;refine AG ?_;refine Az (O.box.1.cells 0 _ rfl) ?_;have z2:=M2.size;have dA:Ba (λx=>S x/\x<W.heap.size) W2 sv set:=(cu.grow ak (by decide) λ_ _ h=>h).mod M2 (λx _ m e=>a8 x m.1 e) (by decide) λ_ _ h=>h;refine AA (Js (b:=true) O.HN.1 dA (by omega)) ?_;rintro eC W3 ⟨dT,g3⟩;have e4:=O.grow g3;have z3:=g3.size;have an:I6 (λx=>S x/\x<W.heap.size) W3 v rs:=(((hr.Gw (by decide)).grow ak (by decide) λ_ _ h=>h).mod M2 (λx _ m e=>a8 x m.1 e) (by decide) λ_ _ h=>h).grow g3 (by decide) λ_ _ h=>h;obtain⟨ra,rc,e5,_⟩:=an.shape;have b9:Dr v=Dr (.slice ra rs.length rc):=by rw[e5]
 rw[b9,AO];refine Xt an dT (by omega) λrow cv W5 oR oC Y g5=>?_;simp only[FC];have e6:=e4.grow g5;have z5:=g5.size;have ba:=O.hl;have J:=AE.Aj oR;have bb:=AE.Aj oC;have e7:I6 (λx=>S x/\x<W.heap.size) W5 v rs:=an.grow g5 (by decide) λ_ _ h=>h;have I:Grow W5 W5.drew:=Mod.drew _ _;have eI:=I.size;have Q:=e6.grow I;obtain⟨l1,Fr,av,hO,e8,put⟩:=Q.Hw;have bc:at'<=(BR l1).length:=by rw[av,Al,I3];exact ca
 have eL:(BR l1).length=d.length:=by rw[av,Al,I3]
 refine AT (λq y=>(q=6/\Fr y)\/(q=8/\(F2 y\/W5.heap.size<=y))) ?_;refine AG ?_;rw [AH,AI];refine AP ⟨Q.box.1.cells 4 _ rfl,λj hj e=>by
  rcases e with⟨rfl,e⟩|⟨rfl,_⟩
  .exact(e8 _ e).2 rfl
  .exact absurd hj (by decide)⟩ ?_
 refine AA (Yn Q.box.1 hO bc (by omega)) ?_;rintro _ W6 ⟨rfl,e9,eN,ea,bd,m6⟩;refine⟨m6.mono λx _ m=>.inl ⟨rfl,m⟩,?_⟩;obtain⟨F6,f6,bk,M6⟩:=put (e:=false) m6 bd (.inl ⟨e9,ea⟩) (K8 _);clear put;rw[av] at bk ⊢;have z6:=M6.size;obtain⟨Fp,Cp,hO,ec,put⟩:=bk.para;have o:∀x,F2 x->x<W2.heap.size:=λx m=>(ba x m).2.1;have ed:AE W3.heap.size 64 1 (Ca λx=>W2.heap.size<=x/\x<W3.heap.size) W6 cv (List.replicate (BJ rs) (CL σ.ks true set)):=
  AE.mod (AE.mod (R':=Ca λx=>W2.heap.size<=x/\x<W3.heap.size) oC I (λ_ _ h=>h) λr y _ hy=>Au.BO hy I λ_ _ _ h=>h) M6 (λx m e=>by have:=bb x m;have:=o x e;omega) λr y _ hy=>Au.BO hy M6 λx _ m e=>by have:=o x e;omega
 have eR:a.p<W2.heap.size:=by
  obtain⟨eX,fa,bl,et,_⟩:=O.para;exact bl.lt _ (.inl bl.fb)
 refine AA (SF (k:=BJ ((Al d).take at')) hO (by omega) (by rw [DU];exact nV _ (oB _ _)) (by rw [DU,me];have h1:=DL (Al d);have h2:=DL rs;rw [b1] at h1;omega) (AE.sl ed) (λx m e=>by
   subst e;rcases m with m|m
   .have:=m.1;omega
   .omega) (λx m=>by
   rw [List.eq_of_mem_replicate m];have:(CL σ.ks true set).length<=set.length:=nU _ _;omega)) ?_
 rintro _ W7 ⟨ee,fo,fs,ef,bp,m7⟩;rw[me] at bp;have Z:∀x,F6 x->F2 x\/W5.heap.size<=x:=λx m=>(f6 x m).imp (λh=>h) λh=>by omega
 refine⟨m7.mono λx _ m=>.inr ⟨rfl,Z x (ec x (.inl m))⟩,?_⟩;have fv:=DL rs;obtain⟨F7,f7,bs,M7⟩:=put (e:=false) m7 ef (.inl ⟨ee,bp.up (N':=N+rs.length+4) (by omega)⟩) (by omega);clear put;have z7:=M7.size;have U:∀x,F7 x->F2 x\/W5.heap.size<=x:=λx m=>by
  rcases f7 x m with e|e
  .exact Z x e
  .exact .inr (by omega)
 have V:∀x,S x/\x<W.heap.size->¬F2 x:=λx m e=>by
  rcases f2 x e with e|e
  .exact a8 x m.1 e
  .omega
 have bx:∀x,S x/\x<W.heap.size->¬F6 x:=λx m e=>by
  rcases Z x e with e|e
  .exact V x m e
  .omega
 have eu:∀x,S x/\x<W.heap.size->¬F7 x:=λx m e=>by
  rcases U x e with e|e
  .exact V x m e
  .omega
 refine AG ?_;refine Az (bs.box.1.cells 2 _ rfl) ?_;obtain⟨l7,ga,bZ,hO,ew,put⟩:=bs.Hw;obtain⟨eh,hO⟩:=hO.t;have ey:(BR l7).length=d.length:=by rw[bZ,Al,I3]
 have ej:I6 (λx=>S x/\x<W.heap.size) W7 v rs:=((e7.grow I (by decide) λ_ _ h=>h).mod M6 (λx _ m e=>V x m e) (by decide) λ_ _ h=>h).mod M7 (λx _ m e=>bx x m e) (by decide) λ_ _ h=>h;refine AA (Vp hO (by omega) (by omega) (by omega) ej hm) ?_;rintro _ W8 ⟨rfl,gb,l8,_,k2,k3,k4,k5⟩;have gf:=NJ rs;obtain⟨F8,f8,c4,M8⟩:=put (e:=false) k5 k2 (.inl ⟨eh,k3.up (N':=N+2*rs.length+8) (by omega)⟩) (by omega);clear put;rw[k4,bZ] at c4;have z8:=M8.size;obtain⟨r1,r2,_,_,r5⟩:=Mu id rs;have r6:=lV List.length r1;rw[I3] at r6;have ek:=lV List.length hu;rw[I3,cd] at ek;have en:AE W3.heap.size 128 2 Ei W8 row (rowOf id rs).1:=
  AE.mod (R':=Ei) (AE.mod (R':=Ei) (AE.mod (R':=Ei) (AE.mod (R':=Ei) oR I (λ_ _ h=>h) λ_ _ _ h=>h) M6 (λx m e=>by have:=J x m;have:=o x e;omega) λ_ _ _ h=>h) M7 (λx m e=>by
   have:=J x m;rcases Z x e with e|e
   .have:=o x e;omega
   .omega) λ_ _ _ h=>h) M8 (λx m e=>by
   have:=J x m;rcases U x e with e|e
   .have:=o x e;omega
   .omega) λ_ _ _ h=>h
 have c6:∀s∈(rowOf id rs).1,s.id=id\/s.id=0:=λs hs=>by
  have:=Spn.N2 hs (r2 s hs);rw[r1] at this;obtain⟨r,_,e⟩:=lT.1 this;rw[<-e];unfold GH;split
  .exact .inr rfl
  .exact .inl rfl
 refine AA (K5 (f:=f') (ex:=λx=>if x=id then 1 else 0) (i:=at') (j:=at') c4 hp (dk.congr λx=>by rw[hu]) (K8 _) (by omega) (AE.sl en) (λx m e=>?_) (λs hs=>⟨r2 s hs,?_⟩) (by omega) (λx=>by split<;>omega) (by omega) (by omega)) ?_
 .have:=J x m.2;rcases f8 x e with e|e
  .rcases U x e with e|e
   .have:=o x e;omega
   .omega
  .omega
 .rcases c6 s hs with e|e
  .exact .inl (by rw[DN e];omega)
  .exact .inr e
 rintro _ W9 ⟨rfl,t9,⟨F9,f9,c7,M9⟩,ax,gg⟩;refine AG ?_;refine Az (c7.box.1.cells 5 _ rfl) ?_;obtain⟨gl,ay,_,put⟩:=c7.Vv;have aZ:((Spn.kd.Bl l2 at' at' (rowOf id rs).1).flatMap Spn.u)=(z.map Prod.snd).take at'++rs.map (GH id)++(z.map Prod.snd).drop at':=by rw[Spn.EE.Bl l2 _ (K8 at'),hu,r1]
 have eo:=lV List.length aZ;simp only[BW,Lc,Hy,I3] at eo;have a7:0<Spn.rn id none ((Spn.kd.Bl l2 at' at' (rowOf id rs).1).flatMap Spn.u)+(if id=id then 1 else 0):=by rw[DN rfl];omega
 obtain⟨q1,q2⟩:=ax.idle (.inl a7);refine AA (Ki ay ((ax.small ay.inv Gq.ne (H:=1000000000) (λx=>by have:=Spn.RM x none ((Spn.kd.Bl l2 at' at' (rowOf id rs).1).flatMap Spn.u);split<;>omega) (by omega)).le (by omega)) q1 (by omega)) ?_;rintro _ gm c8;have ep:=DI.step ak (DI.next f2 M2 (DI.step (g3.trans (g5.trans I)) (DI.next f6 M6 (DI.next f7 M7 (DI.next f8 M8 (DI.next f9 M9 (put c8)))))));have c9:=ax.free ay.inv Gq.ne a7;obtain⟨F',w1,w2,w3⟩:=ep.up (N':=N+4*rs.length+20) (by omega);refine⟨trivial,F',w1,⟨z.take at'++rs.map (λr=>(cellOf σ.ks set r,GH id r))++z.drop at',Spn.kd.Bl l2 at' at' (rowOf id rs).1,_,f',?_,?_,Spn.IV at' at' _ hp,?_,c9.congr λx=>?_,?_,?_⟩,w3⟩
 .rw[kZ,kZ,mO,mX,b0,nu];rfl
 .have e1:Al (d.take at'++rs.map (cellOf σ.ks set)++d.drop at')=(Al d).take at'++rs++(Al d).drop at':=by
   rw[Al,kZ,kZ,mO,mX];show _++Al _++_=_;rw[gx]
  have e2:Bb (d.take at'++rs.map (cellOf σ.ks set)++d.drop at')=(Bb d).take (BJ ((Al d).take at'))++List.replicate (BJ rs) (CL σ.ks true set)++(Bb d).drop (BJ ((Al d).take at')):=by
   rw[Dn,Dn,cU,(DZ d at').1,(DZ d at').2]
  rw[e1,e2];exact w2
 .rw[aZ,kZ,kZ,mO,mX,nu];rfl
 .have e3:(z.take at'++rs.map (λr=>(cellOf σ.ks set r,GH id r))++z.drop at').map Prod.snd=(Spn.kd.Bl l2 at' at' (rowOf id rs).1).flatMap Spn.u:=by rw[aZ,kZ,kZ,mO,mX,nu];rfl
  rw[e3];split<;>omega
 .intro p B;have Gw:∀p∈z,(p.1.r=10->p.2=0)/\(p.1.r≠10->f' p.2=p.1.set):=λp B=>by
   obtain⟨o1,o2⟩:=cc p B;refine⟨o1,λY=>?_⟩;rw[dr,o2 Y];exact Spn.MB (lT.2 ⟨p,B,rfl⟩) (by simp)
  rcases By.1 B with B|B
  .rcases By.1 B with B|B
   .exact Gw p (lJ B)
   .obtain⟨r,_,rfl⟩:=lT.1 B;refine⟨λe=>?_,λe=>?_⟩
    .have e':r=10:=e;simp[GH,e']
    .have e':r≠10:=e;simp[GH,e',cellOf,b8]
  .exact Gw p (ky B)
 .rw[Tab.MJ];omega
end
def AE.SS{B e k:Nat}{R:World->List Value->α->Prop}{x:α}(m:B<=w.heap.size)(j:cs.length=k)(h1:∀u∈cs,u.oneCell'=true)(o:R (w.alloc (.cells cs.toArray e)) cs x) :
  AE B e k R (w.alloc (.cells cs.toArray e)) (.slice (some ⟨w.heap.size,0,none⟩) 1 1) [x]:=by
 refine⟨[cs],⟨by simp[j],.inr ⟨w.heap.size,1,cs.toArray,rfl,m,px w _,by simp,by simp[maxLen],by simp[j],by simp[<-j]⟩⟩,rfl,λr hr=>?_,λi r y hr q=>?_⟩
 .simp only[S6] at hr;subst hr;exact⟨j,h1⟩
 .have hi:i=0:=by have:=(Ad.1 hr).1;simp at this;exact this
  subst hi;cases hr;cases q;exact o
section
variable {k:TxK}{w0:World}{F:Nat->Prop}{W:World}{a:TxA}{σ:SKs}{most:Int}{N:Nat}{d:List Cel}
def Ys{i j:Nat}(h:Gx .f w0 F W a σ most d N)(o:i<=j)(hj:j<=d.length)(hz:d.length<=10000000)(hN:N+20<=1000000000) :
  AB prog 117 [.pointer (some ⟨a.b,0,none⟩),zI (i:Int),zI (j:Int)] (λv' w'=>v'=.tuple #[]/\Lk .f w0 F W w' a σ most (d.take i++d.drop j) (N+20)) W:=by
 obtain⟨z,l2,t,f,Q,hM,hp,hu,hh,U,b7⟩:=h;have a8:z.length=d.length:=by rw[<-Q,I3]
 have I:(Al d).length=d.length:=I3 _;refine uS3 (dB 123 [] [(dC [6,9,10] [0,1,3,7,0,0,48,0,0,496,1023] [])]) func117 (λ_ _ _ _ _=>⟨by conv=>lhs;reduce,by dsimp only[PI,AF],by kernel_rfl⟩) ?_;unfold uI;have gd:Grow W W.drew:=Mod.drew _ _;have B:=hM.grow gd;obtain⟨l1,Fr,bt,V,J,b8,_⟩:=B.Tm;have ak:(BR l1).length=d.length:=by rw[V,I]
 refine AT (λq y=>q=10/\F y) ?_;refine AG ?_;rw [AH,AI];refine AP ⟨B.box.1.cells 4 _ rfl,λj hj e=>by obtain ⟨rfl,_⟩:=e;exact absurd hj (by decide)⟩ ?_;refine AA (HU B.box.1 J (i:=i) (by omega) (by omega)) ?_;rintro _ W1 ⟨rfl,g1⟩;refine ⟨g1.mono λ_ _ h=>h.elim,?_⟩;have X:=B.grow g1;refine AA (HU X.box.1 (J.grow g1) (i:=j) (by omega) (by omega)) ?_;rintro _ W2 ⟨rfl,g2⟩;refine ⟨g2.mono λ_ _ h=>h.elim,?_⟩;have al:=X.grow g2;rw [V] at ak ⊢;obtain ⟨Fp,Cp,bp,J,an,put⟩:=al.Tq;have av:BJ ((Al d).take i)<=BJ ((Al d).take j):=nV _ (by
  rw [<-lQ o,<-nB];exact oB _ _)
 have ax:BJ ((Al d).take j)<=BJ (Al d):=nV _ (oB _ _);have b9:=DL (Al d);refine AA (Vt J (by omega) av (by rw [DU];exact ax) (by rw [DU];omega)) ?_;rintro _ W3 ⟨rfl,ba,_,k2,Y,m3⟩;obtain ⟨F3,f3,Z,M3⟩:=put m3 (λx O=>by
  rcases O with O|O
  .exact(k2 x O).imp .inl λh=>h
  .exact .inl (.inr O)) Y (by omega)
 clear put J Y;refine⟨m3.mono λx _ O=>⟨rfl,an x (.inl O)⟩,?_⟩;refine AG ?_;refine Az (Z.box.1.cells 2 _ rfl) ?_;obtain⟨l3,bb,br,a1,J,b2,put⟩:=Z.Tm;have b6:(BR l3).length=d.length:=by rw[a1,I]
 refine AA (Uf J (by omega) o (by omega) (by omega)) ?_;rintro _ W4 ⟨rfl,bc,l4,_,k2,Y,k4,m4⟩;obtain⟨F4,f4,a6,M4⟩:=put m4 k2 Y (by omega);clear put J Y;rw[k4,a1] at a6;have ay:=lV List.length hu;rw[I3,a8] at ay;refine AA (K5 (f:=f) (ex:=λ_=>0) (row:=[]) (S:=λ_=>False) a6 hp (hh.congr λx=>by rw[hu];rfl) o (by omega) An.nil (λ_ h=>h.elim) (λs hs=>nomatch hs) (by rw[oq,lX];omega) (λx=>Nn _) (by omega) (by omega)) ?_;rintro _ W5 ⟨rfl,t5,aZ,b0,bd⟩;have a7:=DI.step (gd.trans (g1.trans g2)) (DI.next f3 M3 (DI.next f4 M4 aZ));obtain⟨F',w1,w2,w3⟩:=a7.up (N':=N+20) (by simp);have b1:((Spn.kd.Bl l2 i j []).flatMap Spn.u)=(z.map Prod.snd).take i++(z.map Prod.snd).drop j:=by rw[Spn.EE.Bl l2 _ o,hu];simp
 have e3:(z.take i++z.drop j).map Prod.snd=(Spn.kd.Bl l2 i j []).flatMap Spn.u:=by rw[b1,kZ,mO,mX]
 refine⟨rfl,F',w1,⟨z.take i++z.drop j,_,_,f,?_,?_,Spn.IV i j [] hp,e3.symm,b0.congr λx=>?_,λp m=>?_,by omega⟩,w3⟩
 .rw[kZ,mO,mX,Q]
 .have e1:Al (d.take i++d.drop j)=(Al d).take i++(Al d).drop j:=by rw[Al,kZ,mO,mX]
  have e2:Bb (d.take i++d.drop j)=(Bb d).take (BJ ((Al d).take i))++(Bb d).drop (BJ ((Al d).take j)):=by rw[Dn,(DZ d i).1,(DZ d j).2]
  rw[e1,e2];exact w2
 .rw[e3];rfl
 .rcases By.1 m with m|m
  .exact U p (lJ m)
  .exact U p (ky m)
end
def iH:EK 10:=.inl (by omega)
def Xs:BY ks []=0:=by
 classical
 unfold BY;rw[Bp,Bp]
 .rintro⟨a,ha,_⟩;cases ha
 .rintro(h|h|⟨a,ha,_⟩)
  .exact h λi h1 j=>by simp at j
  .simp at h
  .cases ha
def XH{σ:SKs}(hS:CK σ.S W σ.sv σ.ks)(q:∀x,σ.S x->x<W.heap.size)(hT:EA w0)(g:Grow w0 W) :
  AB prog 48 [σ.sv,zI most] (λv' w'=>Grow W w'/\((1<=most/\most<536870912/\∃a F,v'=.tuple #[.pointer (some ⟨a.b,0,none⟩),zI 0]/\(∀x,F x->W.heap.size<=x)/\Gx .f w0 F w' a σ most [⟨10,[]⟩] 24)\/((most<1\/536870912<=most)/\v'=.tuple #[.pointer none,zI 2]))) W:=by
 refine uS2 (dB 19141737 [([],[(4,5),(7,12)])] []) func48 (λ_ _ _ _=>⟨by conv=>lhs;reduce,by dsimp only[PI,AF],by kernel_rfl⟩) ?_;unfold uI;refine AR (λ_ W'=>W'=W/\1<=most/\most<536870912) ?_ ?_;rotate_left
 .rw[Ai];refine AD (λh1=>⟨Mod.refl _ _,.inr ⟨.inl h1,rfl⟩⟩) λh1=>?_;rw[Cu];exact AD (λO=>⟨Mod.refl _ _,.inr ⟨.inr O,rfl⟩⟩) λO=>⟨rfl,by omega,by omega⟩
 rintro _ _ ⟨rfl,a1,a6⟩ _;rename World=>W
 refine AA fq ?_;rintro _ W1 ⟨r,rfl,hr,B1,g1⟩;refine AA eH ?_;rintro _ W2 ⟨s,rfl,hs,B2,g2⟩;refine AA fA ?_;rintro _ W3 ⟨p,rfl,hp,B3,X⟩;have z1:=g1.size;have z2:=g2.size;have z3:=X.size;have av:=B1.lt (QC _);have ax:=B2.lt (QC _);have ay:=B3.lt (QC _);have Q:=(g1.trans g2).trans X;have a7:=hS.grow Q;refine AA (bS a7 λx j=>by have:=q x j;omega) ?_;rintro _ W4 ⟨U,tb,aZ,rfl,V⟩;have z4:=U.size;have a8:∃Y,σ.sv=.pointer (some ⟨Y,0,none⟩):=by
  obtain⟨Y,_,_,_,e,_⟩:=id hS;exact⟨Y,e⟩
 have B:Instr.fill (λi=>[(0,1),(1,1),(2,1),(3,1),(4,1),(5,1)][i]?) [Value.pointer none,zI 0,.pointer none,.pointer none,.pointer none,.pointer none].toArray [(0,σ.sv),(1,zI most),(2,.pointer (some ⟨r,0,none⟩)),(3,.pointer (some ⟨s,0,none⟩)),(4,.pointer (some ⟨p,0,none⟩)),(5,.pointer (some ⟨tb,0,none⟩))]=some (ZP σ.sv most r s p tb).toArray:=by
  obtain⟨Y,e⟩:=a8;rw[e];kernel_rfl
 refine⟨_,B,?_⟩;refine Bx.box λb m hb J B5=>?_;have z5:=J.size;have b0:=B5.lt (QC _);have ak:=((g2.trans X).trans U).trans J;have I:=(Q.trans U).trans J;have b1:=V.lt;have hM:Gx ⟨true,true,true⟩ w0 (λx=>W.heap.size<=x/\x<m.heap.size) m ⟨b,r,s,p,tb⟩ σ most [] 0:=by
  refine⟨[],[],Tab.z _,λ_=>[],rfl,⟨λx=>if x=b then 0 else if x=r then 1 else if x=s then 2 else if x=p then 3 else if x<W.heap.size then 5 else 4,⟨λx=>x=r,λx=>x=s,λx=>x=p,λ_=>False,λx=>W3.heap.size<=x/\x<W4.heap.size⟩,[],rfl,?_⟩,trivial,rfl,Tab.Holds.new _,(λp hp=>nomatch hp),Nn _⟩;refine⟨B5,.inr ⟨rfl,B1.grow ak,rfl,λx=>pJ,λ_ h=>h⟩,.inr ⟨rfl,(B2.grow (X.trans U)).grow J,rfl,λx=>pJ,λ_ h=>h⟩,.inr ⟨rfl,(B3.grow U).grow J,rfl,λx=>pJ,λ_ h=>h⟩,V.grow J,hS.grow I,DN rfl,?_,?_,?_,?_,?_,?_,?_,g.trans I⟩
  .rintro x rfl;rw[Bp (by omega),DN rfl]
  .rintro x rfl;rw[Bp (by omega),Bp (by omega),DN rfl]
  .rintro x (rfl|h)
   .rw[Bp (by omega),Bp (by omega),Bp (by omega),DN rfl]
   .exact h.elim
  .rintro x ⟨h1,O⟩;rw[Bp (by omega),Bp (by omega),Bp (by omega),Bp (by omega),Bp (by omega)]
  .intro x j;have:=q x j;rw[Bp (by omega),Bp (by omega),Bp (by omega),Bp (by omega),DN this];exact⟨rfl,by omega⟩
  .rintro x ((h|h|h)|(h|h)|h)
   .have h':x=b:=h;exact⟨by omega,by omega⟩
   .have h':x=r:=h;exact⟨by omega,by omega⟩
   .have h':x=s:=h;exact⟨by omega,by omega⟩
   .have h':x=p:=h;exact⟨by omega,by omega⟩
   .exact h.elim
   .exact⟨by have:=h.1;omega,by have:=h.2;omega⟩
  .rintro x ⟨h1,O⟩;have:=g.size;exact⟨by omega,O,λh=>by have:=q x h;omega⟩
 refine JT (cs:=[.int .i32 10]) (by kernel_rfl) ?_;have o6:AE m.heap.size 21 1 Be (m.alloc (.cells [Value.int .i32 10].toArray 21)) (.slice (some ⟨m.heap.size,0,none⟩) 1 1) [10]:=AE.SS (K8 _) rfl (λu hu=>by simp at hu;subst hu;rfl) rfl;have o:=AE.sl o6;have Z:Grow m (m.alloc (.cells [Value.int .i32 10].toArray 21)):=Mod.alloc _ _ _;generalize m.alloc (.cells [Value.int .i32 10].toArray 21)=W6 at o o6 Z ⊢;obtain⟨z',l2,t,f,e1,e2,e3⟩:=hM;have al:Gx ⟨true,true,true⟩ w0 (λx=>W.heap.size<=x/\x<m.heap.size) W6 ⟨b,r,s,p,tb⟩ σ most [] 0:=⟨z',l2,t,f,e1,e2.grow Z,e3⟩;have q1:([10]:List Int).length=1:=rfl;have q2:CL σ.ks false []=[]:=rfl;have key:=QH (at':=0) (rs:=[10]) (set:=[]) al hT (K8 _) o An.nil (λx j e=>by have:=e.2;have:=j.1;omega) (λr hr=>by rw[S6] at hr;rw[hr];exact iH) (by rw[q2];exact Xs) (λx j=>nomatch j) (Nn _) (by rw[q1,lX];omega) (by rw[q1];omega);refine AA key ?_;rintro _ W7 ⟨rfl,F7,f7,h7,m7⟩;have z6:=Z.size;have an:=I.trans Z;refine⟨an.next m7 λx j e=>by have:=e.1;omega,.inl ⟨a1,a6,⟨b,r,s,p,tb⟩,F7,rfl,λx j=>?_,?_⟩⟩
 .rcases f7 x j with e|e
  .exact e.1
  .omega
 .exact h7
def jf{α β j:Type}(g:α->j):∀(A:List α) (B:List β),A.length=B.length->(A.zipWith (λa b=>(g a,b)) B).map Prod.fst=A.map g/\(A.zipWith (λa b=>(g a,b)) B).map Prod.snd=B/\∀q∈A.zipWith (λa b=>(g a,b)) B,∃(k:Nat) (a:α) (b:β),A[k]?=some a/\B[k]?=some b/\q=(g a,b):=by
 intro A;induction A with
 |nil=>
  intro B h;have:B=[]:=Of h.symm;subst this;exact⟨rfl,rfl,λq i=>nomatch i⟩
 |cons a A m=>
  intro B h;cases B with
  |nil=>simp at h
  |cons b B=>
   obtain⟨h1,o,I⟩:=m B (by simpa using h);refine⟨by simp only[qD,lO,h1],by simp only[qD,lO,o],λq i=>?_⟩;rw[qD] at i;rcases Mp.1 i with rfl|i
   .exact⟨0,a,b,rfl,rfl,rfl⟩
   .obtain⟨k,J,O,Q,U,V⟩:=I q i;exact⟨k+1,J,O,Q,U,V⟩
def VL{P:Int->Int->Prop}:∀{row done:List Spn},done.length=row.length->(∀(q:Nat) (s i:Spn),row[q]?=some s->done[q]?=some i->i.n=s.n/\P s.id i.id)->
  (done.flatMap Spn.u).length=(row.flatMap Spn.u).length/\∀(k:Nat) (x y:Int),(row.flatMap Spn.u)[k]?=some x->(done.flatMap Spn.u)[k]?=some y->P x y:=by
 intro row;induction row with
 |nil=>
  intro done h _;have:done=[]:=Of h;subst this;exact⟨rfl,λk x y h=>by simp at h⟩
 |cons s row o=>
  intro done h hr;cases done with
  |nil=>simp at h
  |cons i done=>
   obtain⟨B,I⟩:=hr 0 s i rfl rfl;obtain⟨h1,J⟩:=o (done:=done) (by simpa using h) λq a b ha hb=>hr (q+1) a b ha hb;have l1:(Spn.u s).length=s.n:=by rw[Spn.u,me]
   have l2:(Spn.u i).length=s.n:=by rw[Spn.u,me,B]
   refine⟨by rw[mE,mE,BW,BW,h1,l1,l2],λk x y j m=>?_⟩;rw[mE] at j m;by_cases hk:k<s.n
   .rw[Q0 (by omega),Spn.u,po,DN hk] at j;rw[Q0 (by omega),Spn.u,po,DN (by omega)] at m;cases j;cases m;exact I
   .rw[lF (by omega),l1] at j;rw[lF (by omega),l2] at m;exact J _ x y j m
section
variable {k:TxK}{w0:World}{F:Nat->Prop}{W:World}{a:TxA}{σ:SKs}{most:Int}{N:Nat}{d:List Cel}
def TF{i j:Nat}{p:List Chg}(h:Gx .f w0 F W a σ most d N)(hT:EA w0)(a7:i<=j)(hj:j<=d.length)(hp:EV S W v p)(ea:∀x,S x->¬F x)(ga:p.length<=64)
 (Q:∀c∈(d.take j).drop i,c.r≠10/\BY σ.ks (BZ c.set p)=0/\∀x∈BZ c.set p,NR x)(hz:d.length<=10000000)(hN:N+(j-i)+20<=1000000000) :
  AB prog 202 [.pointer (some ⟨a.b,0,none⟩),zI (i:Int),zI (j:Int),v] (λv' w'=>v'=.tuple #[]/\Lk .f w0 F W w' a σ most (d.take i++((d.take j).drop i).map (λc=>(⟨c.r,BZ c.set p⟩:Cel))++d.drop j) (N+(j-i)+20)) W:=by
 obtain⟨z,l2,t,f,a8,hM,ak,hu,hh,bk,gb⟩:=h;have al:z.length=d.length:=by rw[<-a8,I3]
 have cc:=lV List.length hu;rw[I3,al] at cc;refine uS4 (dB 4224505969089785993305 [([27],[(10,12),(27,58)]),([66],[(14,14),(66,77)])] [(dC [9] [0,1,3,7,0,0,48,112,240,511,1023,2047,2047,4095,16383] []),(dC [8,9,15] [0,0,0,4,12,28,0,0,192,508,1020,2044,2044,4095,12287,28671] [[8,9]]),(dC [6] [0,1,3,7,0,16,63] [])]) func202 (λ_ _ _ _ _ _=>⟨by conv=>lhs;reduce,by dsimp only[PI,AF],by kernel_rfl⟩) ?_;unfold uI;refine AG ?_;refine Az (hM.box.1.cells 3 _ rfl) ?_;obtain⟨Fs,bt,hO,gf,_⟩:=hM.XF;have eR:FG l2=d.length:=by rw[Ed,cc]
 have gg:=Spn.Gg ak;refine AA (Lo (i:=i) (j:=j) hO (by omega) a7 (by omega) (by omega) (by omega)) ?_;rintro _ W1 ⟨rv,rfl,oR,g1⟩;refine BI ?_;have bl:=Spn.HM ak i j;have an:(Spn.kd.over l2 i j).flatMap Spn.u=((z.map Prod.snd).take j).drop i:=by rw[Spn.EE.over,hu]
 have ec:=Spn.Gg bl;rw[an,Hy,Lc,I3,al] at ec;generalize Spn.kd.over l2 i j=row at *;clear hO;have cd:∀s∈row,0<Spn.rn s.id none (z.map Prod.snd)/\BY σ.ks (BZ (f s.id) p)=0/\∀x∈BZ (f s.id) p,NR x:=λs U=>by
  have h1:=Spn.N2 U (Spn.KA bl s U);rw[an] at h1;have h2:s.id∈((z.take j).drop i).map Prod.snd:=by rw[mX,mO];exact h1
  obtain⟨q,B,e⟩:=lT.1 h2;have ed:q.1∈(d.take j).drop i:=by rw[<-a8,<-mO,<-mX];exact lT.2 ⟨q,B,rfl⟩
  obtain⟨c1,c2,c3⟩:=Q _ ed;have:=(bk q (lJ (ky B))).2 c1;rw[<-e,this];exact⟨Spn.MB (lJ (ky (e▸h1))) (by simp),c2,c3⟩
 have ee:=hM.hl;have z1:=g1.size;have I:=AE.Aj oR;have ef:EV (λx=>S x/\x<W.heap.size) W1 v p:=An.grow (hp.Gw (by decide)) g1 (by decide) λ_ _ h=>h;obtain⟨ra,rc,eh,_⟩:=AE.shape oR;have ch:Dr rv=Dr (.slice ra row.length rc):=by rw[eh]
 rw [ch,AO];refine AU (λvs W'=>∃ (m:Nat) (done:List Spn) (t':Tab (List Attr)) (f':Int->List Attr) (F':Nat->Prop),m<=row.length/\vs=[zI m]/\done.length=m/\
   (∀x,F' x->F x\/W1.heap.size<=x)/\H7 .f w0 F' W' a σ most (Al d) l2 (Bb d) t' N/\Mod (λx=>F x\/rv.ownBlock=some x) W1 W'/\
   AE W.heap.size 128 2 Ei W' rv (done++row.drop m)/\(∀(q:Nat) (s s':Spn),row[q]?=some s->done[q]?=some s'->s'.n=s.n/\f' s'.id=BZ (f s.id) p)/\
   t'.Holds [] f' (λx=>Spn.rn x none (z.map Prod.snd)+Spn.De done x)/\(∀ x,0 < Spn.rn x none (z.map Prod.snd)->f' x=f x)/\t'.places.length<=N+m) (λvs _=>row.length - Dh vs 0)
  ⟨0,[],t,f,F,Nn _,rfl,rfl,λ_ h=>.inl h,hM.grow g1,Mod.refl _ _,by simpa using oR,λq s s' _ h=>by simp at h,hh.congr λx=>by simp[Spn.De],λ_ _=>rfl,by omega⟩ ?_
 rintro vs W2 ⟨m,done,t2,f2,F2,hm,rfl,V,av,bp,M2,o2,Y,Z,bs,eX⟩ _;simp only[BQ,Nr];rw[Ai];have z2:=M2.size;have b0:=AE.Aj o2;have J:∀x,rv.ownBlock=some x->¬F2 x:=λx o e=>by
  have h1:=I x o;rcases av x e with e|e
  .have:=ee x e;omega
  .omega
 have ej:EV (λx=>S x/\x < W.heap.size) W2 v p:=An.mod ef M2 (λx _ o e=>by
  rcases e with e|e
  .exact ea x o.1 e
  .have:=I x e;omega) (by decide) λ_ _ h=>h
 have ax:(done++row.drop m).length=row.length:=by rw[BW,Hy,V];omega
 obtain⟨qa,qc,cu,_⟩:=AE.shape o2;rw[ax] at cu;refine AD (λfa=>?_) λgl=>?_
 .have X:m<row.length:=by omega
  have b1:(done++row.drop m)[m]'(by omega)=row[m]:=by
   rw[nG (by omega)];simp[V]
  obtain⟨i1,i2,i3⟩:=cd row[m] (ku X);have gd:Grow W2 W2.drew:=Mod.drew _ _;have a1:=bp.grow gd;refine AT (λ_ _=>False) ?_;refine AG ?_;rw[AH,AI];refine AP ⟨a1.box.1.cells 5 _ rfl,λj hj e=>e⟩ ?_;have ek:=AE.sl o2;subst cu;obtain⟨p0,r0,e0,a6,gm,bx,cx⟩:=ek.get (i:=m) (by omega);cases e0;have bZ:r0=Spn.cells row[m]:=by rw[<-b1];exact cx
  subst bZ;refine AS X ?_;rw[AH,Addr.add_add];refine AP ⟨by have:=gd.cell (bx 1 _ rfl) (λh=>h);exact this,λj hj e=>e⟩ ?_;obtain⟨Ft,da,gr,_⟩:=a1.Vv;have dk:0<Spn.rn row[m].id none (z.map Prod.snd)+Spn.De done row[m].id:=by omega
  obtain⟨d1,d2⟩:=Z.idle (.inl dk);obtain⟨cn,b2⟩:=Z.ask dk;refine AA (To da (by omega) (by omega) (by omega)) ?_;rintro v3 W3 ⟨g3,dr⟩;rw[b2] at dr;obtain⟨gv,rfl,o3⟩:=dr;have b6:f2 row[m].id=f row[m].id:=bs _ i1;simp only[b6] at o3;refine⟨g3.mono λ_ _ h=>h.elim,?_⟩;refine BI ?_;have fo:(f row[m].id).length<=64:=by
   obtain⟨C,pl,fr,bm,hR⟩:=da;have:=PO hR.core b2;simpa[b6] using this
  have en:=a1.grow g3;have c4:Grow W3 W3.drew:=Mod.drew _ _;have b7:=en.grow c4;have ay:=(gd.trans g3).trans c4;have gw:=ay.size;refine AT (λq y=>(q=9/\F2 y)\/(q=15/\y=p0.block)) ?_;refine AG ?_;rw [AH,AI];refine AP ⟨b7.box.1.cells 5 _ rfl,λj hj e=>by
   rcases e with⟨rfl,_⟩|⟨rfl,_⟩
   .exact absurd hj (by decide)
   .exact absurd hj (by decide)⟩ ?_
  refine AA (PT ((AE.sl o3).grow c4 (by decide) λ_ _ h=>h) (An.grow ej ay (by decide) λ_ _ h=>h) (by omega)) ?_;rintro nv W4 ⟨o4,g4⟩;refine ⟨g4.mono λ_ _ h=>h.elim,?_⟩;have dA:=b7.grow g4;have z4:=g4.size;obtain ⟨gA,c6,b8,put⟩:=dA.Vv;have b9:=bp.hl;have eo:t2.Small 1099511627:=(Z.small c6.inv Gq.ne (H:=1000000000) (λx=>by
   have h1:=Spn.RM x none (z.map Prod.snd);rw [I3] at h1;have h2:=Spn.Mq done x;omega) (by omega)).le (by omega)
  refine AA (TT c6 eo (AE.sl o4) (hT.grow dA.g) i3 (λx o=>?_) (λx o e=>?_)) ?_
  .have:=b9 x (b8 x o);have:=hT.size;exact⟨by omega,by omega⟩
  .have:=b9 x (b8 x e);have:=o.1;omega
  rintro _ W5 (⟨h0,_⟩|⟨_,id,t5,rfl,ba,hA⟩)
  .exact absurd i2 h0
  obtain⟨F5,f5,aZ,M5⟩:=put hA;clear put;refine⟨M5.mono λx _ o=>.inl ⟨rfl,o⟩,?_⟩;refine BI ?_;obtain⟨f',c7,dT,bb⟩:=Z.added c6.inv ba λc8=>⟨c8,i3,i2⟩;have fs:=ba.pl;have e4:¬F2 p0.block:=J _ a6.2;have o5:=AE.mod (R':=Ei) (AE.mod (R':=Ei) o2 (ay.trans g4) (λ_ _ h=>h) λ_ _ _ h=>h) M5 (λx o e=>J x o e) λ_ _ _ h=>h;refine AS X ?_;rw[AH,Addr.add_add];rw[<-ax] at o5;refine OZ (k:=2) (i:=m) (j:=1) (x':=(⟨row[m].n,id⟩:Spn)) o5 (by omega) (by decide) rfl rfl (λ_ _ _ _ h=>h) (λ_ _ r hr=>?_) λW6 o6 m6=>?_
  .have h':r=_:=hr;rw[h',b1];rfl
  refine⟨m6.mono λx _ e=>.inr ⟨rfl,e⟩,?_⟩;rw[AM,AK (by omega)];have z5:=M5.size;have fv:=aZ.hl;have e5:¬F5 p0.block:=λe=>by
   have:=b0 _ a6.2;rcases f5 _ e with e|e
   .exact e4 e
   .omega
  have c9:(done++row.drop m).set m (⟨row[m].n,id⟩:Spn)=(done++[⟨row[m].n,id⟩])++row.drop (m+1):=by
   rw[List.set_append,Bp (by omega),V,p5,mI X,oy,P9];rfl
  rw[c9,ax] at o6;have ep:¬σ.S p0.block:=λe=>by
   have h1:=(hM.HN.2 _ e);have:=I _ a6.2;omega
  have er:w0.heap.size<=p0.block:=by have:=hM.g.size;have:=I _ a6.2;omega
  refine⟨⟨m+1,done++[⟨row[m].n,id⟩],t5,f',F5,X,rfl,by simp[V],λx o=>?_,aZ.mod m6 λx e=>by rw[e];exact⟨e5,ep,er⟩,?_,o6,λq s s' U O=>?_,c7.congr λx=>?_,λx o=>?_,by omega⟩,by rw[Bw,Bw];omega⟩
  .rcases f5 x o with e|e
   .exact av x e
   .exact .inr (by omega)
  .refine((M2.next (ay.trans g4) λ_ _ e=>e.elim).next M5 λx o e=>?_).next m6 λx o e=>?_
   .rcases av x e with e|e
    .exact .inl e
    .omega
   .rw[e];exact .inr a6.2
  .by_cases B:q<done.length
   .rw[Q0 B] at O;obtain⟨e1,e2⟩:=Y q s s' U O;refine⟨e1,?_⟩;rw[bb,e2];have:=Spn.O9 (ln O);omega
   .rw[lF (by omega)] at O;have et:q-done.length=0:=by
     have:=(Ad.1 O).1;simpa using this
    rw[et] at O;cases O;have eu:q=m:=by omega
    subst eu;rw[Bq X] at U;cases U;exact⟨rfl,dT⟩
  .rw[Spn.De,Spn.De,pj,pT,List.countP_nil];by_cases e:x=id
   .rw[DN e,DN (by simp[e])];omega
   .rw[Bp e,Bp (by simp[oF e])];omega
  .rw[bb x (by omega),bs x o]
 .obtain rfl:m=row.length:=by omega
  rw[nd,lA] at o2 ax;obtain⟨r1,r2⟩:=VL (P:=λx y=>f2 y=BZ (f x) p) V Y;have e6:(row.flatMap Spn.u).length=j-i:=by rw[an,Hy,Lc,I3,al];omega
  have ca:∀s∈done,0<s.n:=λs U=>by
   obtain⟨q,B,e⟩:=oe.1 U;obtain⟨e1,_⟩:=Y q row[q] s (Bq (by omega)) (by rw[Bq B,e]);rw[e1];exact Spn.KA bl _ (ku _)
  refine AA (K5 (f:=f2) (ex:=λx=>Spn.De done x) (row:=done) (i:=i) (j:=j) bp ak (Z.congr λx=>by rw[hu]) a7 (by omega) (AE.sl o2) (λx o e=>J x o.2 e) (λs U=>⟨ca s U,.inl (Spn.O9 U)⟩) (by omega) (λx=>by have:=Spn.Mq done x;omega) (by omega) (by omega)) ?_;rintro _ W5 ⟨rfl,t5,⟨F5,f5,aZ,M5⟩,c7,ew⟩;have e7:((Spn.kd.Bl l2 i j done).flatMap Spn.u)=(z.map Prod.snd).take i++done.flatMap Spn.u++(z.map Prod.snd).drop j:=by rw[Spn.EE.Bl l2 _ a7,hu]
  have ey:=lV List.length e7;simp only[BW,Lc,Hy,I3] at ey;have o5:AE W.heap.size 128 2 Ei W5 rv done:=AE.mod (R':=Ei) o2 M5 (λx o e=>J x o e) λ_ _ _ h=>h;have ez:(row.length:Int)=(done.length:Int):=by rw[V]
  rw [AO,ez];refine K2 (P:=λm t=>t.Holds [] f2 (λx=>(Spn.rn x none ((Spn.kd.Bl l2 i j done).flatMap Spn.u)+Spn.De done x) - Spn.De (done.take m) x)/\t.places.length=_) (λhT U h0 h1=>Ki hT U h0 h1) (AE.sl o5) (λx o e=>by
    rcases f5 x e with e|e
    .exact J x o.2 e
    .have:=b0 x o.2;omega) (by omega)
   (OV (h:=λx=>Spn.rn x none ((Spn.kd.Bl l2 i j done).flatMap Spn.u)+Spn.De done x) (M:=t2.places.length) (by omega) (λx=>by omega) (λx=>by have:=Spn.RM x none ((Spn.kd.Bl l2 i j done).flatMap Spn.u);have:=Spn.Mq done x;omega) σ.ks) aZ ⟨c7.congr λx=>by simp[Spn.De],ew⟩ ?_
  rintro W6 t6 ⟨F6,f6,h6,M6⟩ ⟨e8,gB⟩;rw[S7] at e8;have eA:Mod F W W2:=by
   refine(g1.mono λ_ _ h=>h.elim).next M2 λx o e=>?_;rcases e with e|e
   .exact e
   .have:=I x e;omega
  have eB:=DI.next (W:=W) (F:=F) (λx o=>(av x o).imp (λh=>h) λh=>by omega) eA (DI.next f5 M5 ⟨F6,f6,h6,M6⟩);obtain⟨F',w1,w2,w3⟩:=eB.up (N':=N+(j-i)+20) (by omega)
  let zm:=(z.take j).drop i
  have eC:zm.length=(done.flatMap Spn.u).length:=by
   show((z.take j).drop i).length=_;rw[Hy,Lc,r1,e6,al];omega
  obtain⟨y1,y2,y3⟩:=jf (λq:Cel×Int=>(⟨q.1.r,BZ q.1.set p⟩:Cel)) zm (done.flatMap Spn.u) eC;have bc:zm.map Prod.fst=(d.take j).drop i:=by
   show((z.take j).drop i).map Prod.fst=_;rw[mX,mO,a8]
  have eI:zm.map (λq:Cel×Int=>(⟨q.1.r,BZ q.1.set p⟩:Cel))=((d.take j).drop i).map (λc=>(⟨c.r,BZ c.set p⟩:Cel)):=by
   rw[<-bc,nu];rfl
  have e3:(z.take i++zm.zipWith (λq y=>((⟨q.1.r,BZ q.1.set p⟩:Cel),y)) (done.flatMap Spn.u)++z.drop j).map Prod.snd=(Spn.kd.Bl l2 i j done).flatMap Spn.u:=by
   rw[e7,kZ,kZ,mO,mX,y2]
  have bd:d=d.take i++(d.take j).drop i++d.drop j:=by
   have h1:=(TC i (d.take j)).symm;rw[nB,lQ a7] at h1;rw[<-h1,TC]
  refine⟨trivial,F',w1,⟨z.take i++zm.zipWith (λq y=>((⟨q.1.r,BZ q.1.set p⟩:Cel),y)) (done.flatMap Spn.u)++z.drop j,_,t6,f2,?_,?_,Spn.IV i j done ak,e3.symm,e8.congr λx=>?_,λq B=>?_,by omega⟩,w3⟩
  .rw[kZ,kZ,mO,mX,y1,eI,a8]
  .have e1:Al (d.take i++((d.take j).drop i).map (λc=>(⟨c.r,BZ c.set p⟩:Cel))++d.drop j)=Al d:=by
    conv=>rhs;rw[bd]
    simp only[Al,kZ,nu];rfl
   have e2:Bb (d.take i++((d.take j).drop i).map (λc=>(⟨c.r,BZ c.set p⟩:Cel))++d.drop j)=Bb d:=by
    conv=>rhs;rw[bd]
    rw[Dn,Dn,Dn,Dn];have n1:Bb ((d.take j).drop i)=[]:=by
     unfold Bb;rw[oi,oH];intro c hc;simpa using(Q c hc).1
    have n2:Bb (((d.take j).drop i).map (λc=>(⟨c.r,BZ c.set p⟩:Cel)))=[]:=by
     unfold Bb;rw[oi,oH];intro c hc;obtain⟨c',eL,rfl⟩:=lT.1 hc;simpa using(Q c' eL).1
    rw[n1,n2]
   rw[e1,e2];exact w2
  .rw[e3];omega
  .have Gw:∀q∈z,(q.1.r=10->q.2=0)/\(q.1.r≠10->f2 q.2=q.1.set):=λq B=>by
    obtain⟨o1,o2⟩:=bk q B;exact⟨o1,λc8=>by rw[bs q.2 (Spn.MB (lT.2 ⟨q,B,rfl⟩) (by simp)),o2 c8]⟩
   rcases By.1 B with B|B
   .rcases By.1 B with B|B
    .exact Gw q (lJ B)
    .obtain⟨kk,q0,y,ha,hb,rfl⟩:=y3 q B;have e9:q0∈zm:=ln ha;have bx:q0.1∈(d.take j).drop i:=by rw[<-bc];exact lT.2 ⟨q0,e9,rfl⟩
     obtain⟨c1,_⟩:=Q _ bx;have eN:q0∈z:=lJ (ky e9);refine⟨λe=>absurd e c1,λ_=>?_⟩;have o:(row.flatMap Spn.u)[kk]?=some q0.2:=by
      rw[an,<-mO,<-mX,ly,ha];rfl
     have:=r2 kk q0.2 y o hb;rw[this,(bk q0 eN).2 c1]
   .exact Gw q (ky B)
end
def Et(ks:List DKey)(s:List Attr):Prop:=JP ks s/\∀x∈s,NR x
def Hb(ks:List DKey)(p:List Chg):Prop:=KL ks p/\∀c∈p,NR ⟨c.key,c.val⟩
def Et.nil:Et ks []:=⟨IW,λx i=>nomatch i⟩
def Hb.nil:Hb ks []:=⟨KU,λx i=>nomatch i⟩
def Et.len{s:List Attr}(h:Et ks s):s.length<=64:=h.1.2.1
def Et.part{s:List Attr}(h:Et ks s)(b:Bool):Et ks (CL ks b s):=
 ⟨⟨qP _ h.1.1,lx (nU _ _) h.1.2.1,λx i=>h.1.2.2 x (mg.1 i).1⟩,λx i=>h.2 x (mg.1 i).1⟩
def Hb.part{p:List Chg}(h:Hb ks p)(b:Bool):Hb ks (CP ks b p):=
 ⟨⟨qP _ h.1.1,lx (nU _ _) h.1.2.1,λx i=>h.1.2.2 x (mg.1 i).1⟩,λx i=>h.2 x (mg.1 i).1⟩
def Et.app(i:ks.length<=64){s:List Attr}{p:List Chg}(h:Et ks s)(hp:Hb ks p):Et ks (BZ s p):=by
 refine⟨YY i h.1 hp.1.1 λc hc m=>(hp.1.2.2 c hc).2.1 m,λx j=>?_⟩;rcases NO j with j|⟨c,hc,_,rfl⟩
 .exact h.2 x j
 .exact hp.2 c hc
def Ce(ks:List DKey)(p:List Chg)(c:Cel):Cel:=⟨c.r,Mk ks c.set p c.r⟩
def Nl(d:List Cel)(i j:Nat)(g:Cel->Cel):List Cel:=d.take i++((d.take j).drop i).map g++d.drop j
def O2(d:List Cel){i j:Nat}(g:Cel->Cel)(m:i<=j)(q:j<=d.length)(k:Nat):(Nl d i j g)[k]?=if i<=k/\k<j then d[k]?.map g else d[k]?:=by
 unfold Nl;have l1:(d.take i).length=i:=by rw[Lc];omega
 have l2:(((d.take j).drop i).map g).length=j-i:=by rw[I3,Hy,Lc];omega
 by_cases h1:k<i
 .rw[Bp (by omega),P9,Q0 (by omega),mT,DN h1]
 .by_cases o:k<j
  .rw[DN ⟨by omega,o⟩,Q0 (by rw[BW];omega),lF (by omega),l1,ly,mM,mT,DN (by omega),show i+(k-i)=k by omega]
  .rw[Bp (by omega),lF (by rw[BW];omega),BW,l1,l2,mM,show j+(k-(i+(j-i)))=k by omega]
def TN(d:List Cel){i j:Nat}(m:i<=j):d=d.take i++(d.take j).drop i++d.drop j:=by
 have h1:=(TC i (d.take j)).symm;rw[nB,lQ m] at h1;rw[<-h1,TC]
def XJ(d:List Cel){i j:Nat}(g:Cel->Cel)(m:i<=j)(o:∀c,(g c).r=c.r):Al (Nl d i j g)=Al d:=by
 conv=>rhs;rw[TN d m]
 unfold Nl;simp only[Al,kZ,nu];congr 2
 exact oh λc _=>o c
def Y2(d:List Cel){i j:Nat}(g:Cel->Cel)(m:i<=j)(o:∀c∈(d.take j).drop i,g c=c):Nl d i j g=d:=by
 conv=>rhs;rw[TN d m]
 unfold Nl;rw[oh (g:=id) (λc hc=>o c hc),List.map_id]
def Z7{b:List Int}(h:(10:Int)∈b):∃q,G5 b 0=some q/\b[q]?=some 10/\∀k,k<q->b[k]?≠some 10:=by
 induction b with
 |nil=>cases h
 |cons r b i=>
  rw[G7];by_cases e:r=10
  .rw[DN e];exact⟨0,rfl,by rw[e];rfl,λk hk=>by omega⟩
  .rw[Bp e];obtain⟨q,h1,j,m⟩:=i ((Mp.1 h).resolve_left λh=>e h.symm);refine⟨q+1,by rw[h1];rfl,by simpa using j,λk hk=>?_⟩;cases k with
   |zero=>simpa using e
   |succ k=>simpa using m k (by omega)
def bW{p:Nat}(hp:p<rs.length)(hl:rs.getLast?=some 10):∃q,G5 rs (BJ (rs.take p))=some q/\p<=q/\q<rs.length/\rs[q]?=some 10/\(∀k,p<=k->k<q->rs[k]?≠some 10)/\BJ (rs.take p)+1<=BJ rs/\BJ (rs.take (q+1))=BJ (rs.take p)+1:=by
 have V:rs.drop p≠[]:=λe=>by have:=lV List.length e;rw[Hy] at this;simp at this;omega
 have hm:(10:Int)∈rs.drop p:=by
  have:(rs.drop p).getLast?=some 10:=by
   rw[pB,Bp (by omega)];exact hl
  exact nP this
 obtain⟨q,h1,m,I⟩:=Z7 hm;have lt:(rs.take p).length=p:=by rw[Lc];omega
 have e:=L4 (rs.take p) (rs.drop p) (BJ (rs.take p));rw[TC,Bp (by omega),p5,h1,lt] at e;rw[mM] at m;have X:=(Ad.1 m).1;have Y:BJ rs=BJ (rs.take p)+BJ (rs.drop p):=by rw[<-ER,TC]
 have B:0<BJ (rs.drop p):=List.count_pos_iff.2 hm;have i:∀k,p<=k->k<q+p->rs[k]?≠some 10:=λk a b=>by
  have:=I (k-p) (by omega);rw[mM,show p+(k-p)=k by omega] at this;exact this
 refine⟨q+p,e,by omega,by omega,by rw[show q+p=p+q by omega];exact m,i,by omega,?_⟩;have J:rs.take (q+p+1)=rs.take p++((rs.take (q+p)).drop p++[10]):=by
  have o:=(TC p (rs.take (q+p))).symm;rw[nB,lQ (by omega)] at o;have O:rs[q+p]?=some 10:=by rw[show q+p=p+q by omega];exact m
  rw[S5,O];generalize (rs.take (q+p)).drop p=M at o ⊢;rw[o];simp
 have Q:BJ ((rs.take (q+p)).drop p)=0:=by
  refine qo.2 λj=>?_;obtain⟨k,hk,e⟩:=oe.1 j;have U:k<q:=by rw[Hy,Lc] at hk;omega
  refine i (p+k) (by omega) (by omega) ?_;rw[List.getElem_drop,ob] at e;rw[Bq (by omega),e]
 rw[J,ER,ER,Q];rfl
def WE(d:List Cel)(g:Cel->Cel){g':List Attr->List Attr}(j:∀c,(g c).r=c.r)(h:∀c,c.r=10->(g c).set=g' c.set):Bb (d.map g)=(Bb d).map g':=by
 induction d with
 |nil=>rfl
 |cons c d m=>
  have e:∀(c:Cel) (d:List Cel),Bb (c::d)=(if c.r=10 then[c.set] else[])++Bb d:=λc d=>by by_cases h:c.r=10<;>simp[Bb,h]
  rw[lO,e,e,m,j,kZ];split
  .rename_i i;rw[h c i];rfl
  .rfl
def Yq(d:List Cel){i j:Nat}(m:i<=j)(g:Cel->Cel){g':List Attr->List Attr}(o:∀c,(g c).r=c.r)(h:∀c,c.r=10->(g c).set=g' c.set) :
  Bb (Nl d i j g)=(Bb d).take (BJ ((Al d).take i))++(((Bb d).take (BJ ((Al d).take j))).drop (BJ ((Al d).take i))).map g'++(Bb d).drop (BJ ((Al d).take j)):=by
 unfold Nl;rw[Dn,Dn,(DZ d i).1,(DZ d j).2,WE _ g o h,(DZ (d.take j) i).2,(DZ d j).1,show Al (d.take j)=(Al d).take j from mO,nB,lQ m]
end Go.Proofs.YtbdjachmndlplaaGreatDoor
