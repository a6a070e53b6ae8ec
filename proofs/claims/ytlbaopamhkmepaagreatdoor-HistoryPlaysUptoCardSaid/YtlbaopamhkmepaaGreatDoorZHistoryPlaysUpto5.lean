/- Contracts: the changes of block keys, or of inline ones; a cell with a patch on it. Conditions: the sizes. Contract: whether bytes are UTF-8 (utf8.Valid): as the document reads. Conditions: the two tables lie in memory as they are laid. Plain laws: the text of a set in the table of interned sets; no two sets have the same. Conditions: the numbers lie in their types. Plain laws: the map from the sets' texts to ids. Conditions: the numbers of the sets lie in their types. Contract: the runes of bytes (runes.Read): as the document reads. Conditions: the size; the two tables lie in memory as they are laid. Contracts: the program's values (value.Flag, Int, Float, Text, May). Conditions: the size of a text; the two tables lie in memory as they are laid. The sort's worlds in our own words: a row of one's own, sorted. No conditions. slices.SortFunc at keys: the shelf's contract, laid; sorted rows of keys. No conditions. Contract of schema.New; known04; the plain law of keys. No conditions. What is known of schemas; the law SchemaGroups: it answers true, and leaves all memory as it was. No conditions. Contract of Schema.Fits; the law SchemaFits: it answers true, and leaves all memory as it was. Conditions: the two tables lie in memory as they are laid. Contracts of the document's Keys and Group; the law SchemaKeys: it answers true, and leaves all memory as it was. Conditions: the two tables lie in memory as they are laid. By a program of ours: of each function below the predicate that its code comes to, and that it is sound. No conditions. Contracts: the document's patches, one behind the other, of a kind, and on sets; its cell with a patch. Conditions: the sizes. -/
import Derived.Test.YtlbaopamhkmepaaGreatDoorZHistoryPlaysUpto4
import Derived.Laws.BytesArg
import Derived.Laws.IdiomStrings
import Derived.MapKept
import Derived.Shelf.GgSortFunc.InsertionK
import Derived.Shelf.SlSortCmp.WholeK
import Derived.Shelf.SlSortCmp.NoneTotal
namespace Go.K
open Go
theorem addr_at (g o x:Nat):(⟨g,o,none⟩:Addr).add x=⟨g,o+x,none⟩:=by unfold Addr.add;split <;> simp_all
theorem setL_at {g off:Nat}:∀ (vs:List Value) (q:Nat) (W:World),(∀ j,q≤j→j < q+vs.length→Live W ⟨g,off+j,none⟩)→
  Mod (fun x=>x=g) W (setL W ⟨g,off,none⟩ q vs)∧(∀ j u,vs[j]?=some u→(setL W ⟨g,off,none⟩ q vs).cell? ⟨g,off+q+j,none⟩=some u)∧(∀ j,(j < off+q∨off+q+vs.length≤j)→(setL W ⟨g,off,none⟩ q vs).cell? ⟨g,j,none⟩=W.cell? ⟨g,j,none⟩)∧(∀ a,Live W a→Live (setL W ⟨g,off,none⟩ q vs) a):=by
 intro vs
 induction vs with
 | nil=>intro q W _;exact ⟨Mod.refl _ _,fun j u hu=>by simp at hu,fun _ _=>rfl,fun _ h=>h⟩
 | cons x vs ih=>
  intro q W hl
  simp only [setL]
  rw [addr_at]
  have hl0:=hl q (Nat.le_refl _) (by simp)
  obtain ⟨i1,i2,i3,i4⟩:=ih (q+1) (W.setCell ⟨g,off+q,none⟩ x) fun j h1 h2=>(hl j (by omega) (by simp;omega)).set _ _
  refine ⟨(Mod.setCell (M:=fun x=>x=g) W ⟨g,off+q,none⟩ x rfl).trans i1,fun j u hu=>?_,fun j hj=>?_,fun a ha=>i4 a (ha.set _ _)⟩
  ·cases j with
   | zero=>
    simp at hu;subst hu
    obtain ⟨u',hu'⟩:=Option.isSome_iff_exists.1 hl0.1
    rw [i3 _ (.inl (by omega))]
    exact World.cell?_setCell_same _ _ _ hu'
   | succ j=>
    have:=i2 j u (by simpa using hu)
    rw [show off+q+(j+1)=off+(q+1)+j by omega];exact this
  ·simp only [List.length_cons] at hj
   rw [i3 j (by omega),World.cell?_setCell_other _ _ _ _ (by intro e;simp only [Addr.mk.injEq] at e;omega)]
structure RowG {α:Type} (k:Nat) (cs:α→List Value) (W:World) (g:Nat) (L:List α):Prop where
 cells:∀ m (h:m < L.length) j u,(cs L[m])[j]?=some u→W.cell? ⟨g,m * k+j,none⟩=some u
 live:∀ m j,m < L.length→j < k→Live W ⟨g,m * k+j,none⟩
section
variable {α:Type} {k:Nat} {cs:α→List Value} {W W':World} {g:Nat} {L:List α}
theorem RowG.mod {M:Nat→Prop} (h:RowG k cs W g L) (m:Mod M W W') (hg:¬ M g):RowG k cs W' g L:=⟨fun i hi j u hu=>m.cell (h.cells i hi j u hu) hg,fun i j hi hj=>(h.live i j hi hj).mod m hg⟩
theorem RowG.store {i:Nat} {x:α} {K:World→Prop} (h:RowG k cs W g L) (hi:i < L.length) (hk:∀ y,(cs y).length=k) (h1:∀ v ∈ cs x,v.oneCell'=true)
  (hK:∀ W',RowG k cs W' g (L.set i x)→Mod (fun b=>b=g) W W'→K W'):stnK k (.pointer (some ⟨g,i * k,none⟩)) (.agg (cs x).toArray) K W:=by
 have lv:∀ j,j < k→Live W ((⟨g,i * k,none⟩:Addr).add j):=fun j hj=>by rw [addr_at];exact h.live i j hi hj
 obtain ⟨q1,q2,q3,q4⟩:=setL_at (g:=g) (off:=i * k) (cs x) 0 W fun j _ hj=>h.live i j hi (by have:=hk x;omega)
 refine ⟨_,cs x,rfl,rfl,hk x,h1,fun j hj=>lv j hj,hK _ ⟨fun m hm j u hu=>?_,fun m j hm hj=>q4 _ (h.live m j (by simpa using hm) hj)⟩ q1⟩
 rw [List.getElem_set] at hu
 split at hu
 ·rename_i e
  subst e
  have:=q2 j u hu
  rwa [Nat.add_zero] at this
 ·rename_i hne
  have hm':m < L.length:=by simpa using hm
  have hj:j < k:=by have:=(List.getElem?_eq_some_iff.1 hu).1;rw [hk] at this;exact this
  rw [q3]
  ·exact h.cells m hm' j u hu
  ·rw [hk]
   rcases Nat.lt_or_gt_of_ne hne with e | e
   ·right
    have:(i+1) * k≤m * k:=Nat.mul_le_mul_right _ e
    rw [Nat.add_mul] at this;omega
   ·left
    have:(m+1) * k≤i * k:=Nat.mul_le_mul_right _ e
    rw [Nat.add_mul] at this;omega
theorem RowG.of {B e n c:Nat} {R:World→List Value→α→Prop} (h:OwnR B e k R W (.slice (some ⟨g,0,none⟩) n c) L) (hk:0 < k) (hR:∀ r x,R W r x→r=cs x):RowG k cs W g L:=by
 refine ⟨fun m hm j u hu=>?_,fun m j hm hj=>?_⟩
 ·obtain ⟨rows,h1,h2,h3,h4⟩:=id h
  obtain ⟨a,r,e1,_,hr,hc,hx⟩:=(OwnR.sl h).get hm
  cases e1
  have:=hc j u (by rw [hR _ _ hx];exact hu)
  rwa [addr_at,Nat.zero_add] at this
 ·obtain ⟨g',e1,_,hl⟩:=OwnR.live h hm hj
  cases e1
  rwa [addr_at,Nat.zero_add] at hl
end
theorem zero_one {zero:Array Value} {n:Nat} (hz:0 < zero.size) (h1:∀ v ∈ zero.toList,v.oneCell'=true):∀ v ∈ (Builtin.zeroCells zero n).toList,v.oneCell'=true:=by
 intro v hv
 simp only [Builtin.zeroCells,Array.toList_map,List.mem_map] at hv
 obtain ⟨i,_,rfl⟩:=hv
 refine h1 _ ?_
 have:i % zero.size < zero.size:=Nat.mod_lt _ hz
 rw [getElem!_pos zero _ this]
 exact Array.getElem_mem_toList this
theorem clear_end {P:Program} {t e k:Nat} {i:TypeInfo} {zv:Value} {W:World} {g off m c:Nat} (hu:P.underlying t=some (.slice e)) (hi:P.info? e=some i) (hz:i.zero=some zv) (hk:zv.cells.size=k) (hk0:0 < k) (h1:∀ v ∈ zv.cells.toList,v.oneCell'=true) (hm:0 < m)
  (hl:∀ j,j < m * k→Live W ⟨g,off+j,none⟩):∃ W',(Builtin.clear_ #[t] 0 [.slice (some ⟨g,off,none⟩) m c].toArray).run P W=.ok (.tuple #[]) W'∧Mod (fun x=>x=g) W W'∧∀ j,j < off→W'.cell? ⟨g,j,none⟩=W.cell? ⟨g,j,none⟩:=by
 have hlen:(Builtin.zeroCells zv.cells m).toList.length=m * k:=by rw [Array.length_toList,size_zeroCells,hk]
 have lv:∀ j,0≤j→j < 0+(Builtin.zeroCells zv.cells m).toList.length→Live W ⟨g,off+j,none⟩:=fun j _ hj=>hl j (by omega)
 obtain ⟨q1,_,q3,_⟩:=setL_at (g:=g) (off:=off) (Builtin.zeroCells zv.cells m).toList 0 W lv
 have hrun:=setL_run (P:=P) (⟨g,off,none⟩:Addr) (Builtin.zeroCells zv.cells m).toList 0 W (zero_one (by omega) h1) (fun j h0 hj=>by rw [addr_at];exact lv j h0 hj)
 refine ⟨_,?_,q1,fun j hj=>q3 j (.inl (by omega))⟩
 have hv:(zeroValue e).run P W=.ok zv W:=by simp [zeroValue,typeInfo,hi,hz]
 obtain ⟨m,rfl⟩:∃ q,m=q+1:=⟨m - 1,by omega⟩
 simp [Builtin.clear_,run_underlying hu,hv,hrun]
end Go.K
namespace Go.Proofs.YtlbaopamhkmepaaGreatDoor
open Go Go.K

def Tells (G:World→Prop) (fv:Value) (del:Chg→Bool):Prop:=∀ W c (K:Cont),G W→(∀ W',Grow W W'→K (.bool (del c)) W')→callyK Tryz.prog okf fv [.agg c.cells.toArray] K W
theorem idxc_ok {S:Nat→Prop} {v fv:Value} {p:List Chg} {del:Chg→Bool} {w:World} (h:RPat S w v p) (hf:Tells (Grow w) fv del) :
  callK Tryz.prog 218 [v,fv] (fun v' w'=>Grow w w'∧((v'=.int .i64 (-1)∧∀ c ∈ p,del c=false)∨∃ i:Nat,∃ hi:i < p.length,v'=.int .i64 i∧del p[i]=true∧∀ c ∈ p.take i,del c=false)) w:=by
 apply S218_ok
 unfold S218
 obtain ⟨a,c,rfl,hm⟩:=h.shape
 simp only [maxLen] at hm
 rw [lenK_i]
 refine LoopK_i (fun vs W=>∃ i:Nat,i≤p.length∧vs=[.int .i64 i]∧Grow w W∧∀ c ∈ p.take i,del c=false) (fun vs _=>p.length - iOf vs 0) ⟨0,Nat.zero_le _,rfl,Mod.refl _ _,by simp⟩ ?_
 rintro vs W ⟨i,hi,rfl,g,hall⟩ _
 rw [nth_z,List.headD_cons,ltK_i]
 refine condK_p (fun hlt=>?_) fun hge=>?_
 ·have hlt':i < p.length:=by omega
  obtain ⟨q,r,rfl,_,hr,hc,rfl⟩:=(h.grow g (by decide) fun _ _ h=>h).get hlt'
  refine ixK_n hlt' (ldnK_i hr (fun j u hu=>by rw [Addr.add_add];exact hc j u hu) ?_)
  refine hf W p[i] _ g fun W' g'=>?_
  cases e:del p[i] with
  | true=>exact condK_t ⟨g.trans g',.inr ⟨i,hlt',rfl,e,hall⟩⟩
  | false=>
   refine condK_f ?_
   rw [addK_i,loop_step (by omega)]
   refine ⟨⟨i+1,hlt',rfl,g.trans g',fun c hc=>?_⟩,by rw [iOf0,iOf0];omega⟩
   rw [List.take_add_one,List.getElem?_eq_getElem hlt'] at hc
   rcases List.mem_append.1 hc with hc | hc
   ·exact hall c hc
   ·simp at hc;subst hc;exact e
 ·have:i=p.length:=by omega
  subst this
  exact ⟨g,.inl ⟨rfl,fun c hc=>hall c (by rw [List.take_length];exact hc)⟩⟩
theorem Chg.len (c:Chg):c.cells.length=6:=rfl
set_option maxRecDepth 20000 in
theorem delf_ok {B:Nat} {v fv:Value} {p:List Chg} {del:Chg→Bool} {w:World} (ho:OwnR B 111 6 RChg w v p) (hsz:p.length≤1099511627776) (hf:Tells (Mod (fun b=>v.ownBlock=some b) w) fv del) :
  callK Tryz.prog 214 [v,fv] (fun v' w'=>RPat (fun b=>v.ownBlock=some b) w' v' (p.filter fun c=>!del c)∧Mod (fun b=>v.ownBlock=some b) w w') w:=by
 apply S214_ok
 unfold S214
 refine callK_mono (idxc_ok (OwnR.sl ho) fun W c K g hK=>hf W c K (g.mono fun _ _ e=>e.elim) hK) ?_
 rintro _ w1 ⟨g1,⟨rfl,hall⟩ | ⟨i0,hi0,rfl,hd,hall⟩⟩
 ·rw [eqK_i]
  refine condK_p (fun _=>?_) fun e=>(e rfl).elim
  rw [List.filter_eq_self.2 fun c hc=>by rw [hall c hc];rfl]
  exact ⟨SlR.sub (OwnR.sl (OwnR.mod ho g1 (fun _ _ h=>h) fun _ _ _ h=>h)) (fun b _ h=>h.2) (by decide) fun _ _ h=>h,g1.mono fun _ _ e=>e.elim⟩
 rw [eqK_i]
 refine condK_p (fun e=>absurd e (by omega)) fun _=>?_
 obtain ⟨a,c,rfl,hlc,hcm,hp,hn⟩:=OwnR.shape ho
 cases a with
 | none=>rw [hn rfl] at hi0;simp at hi0
 | some q=>
 obtain ⟨g,rfl,hgB,hgw,hown⟩:=hp q rfl
 have hoM:∀ b,(Value.slice (some ⟨g,0,none⟩) p.length c).ownBlock=some b↔b=g:=fun b=>⟨fun e=>by cases e;rfl,fun e=>by subst e;rfl⟩
 simp only [hoM] at hf ⊢
 have R0:RowG 6 Chg.cells w g p:=RowG.of ho (by decide) fun _ _ h=>h
 have R1:=R0.mod g1 fun h=>h
 rw [addK_i,loop_step (by omega)]
 -- what stays of what was looked at
 refine LoopK_i (fun vs W=>∃ (i j:Nat) (L:List Chg),i < j∧j≤p.length∧vs=[.int .i64 i,.int .i64 j]∧L.length=p.length∧RowG 6 Chg.cells W g L∧L.take i=(p.take j).filter (fun c=>!del c)∧L.drop j=p.drop j∧Mod (fun b=>b=g) w W) (fun vs _=>p.length - iOf vs 1)
  ⟨i0,i0+1,p,by omega,hi0,rfl,rfl,R1,?_,rfl,g1.mono fun _ _ e=>e.elim⟩ ?_
 ·rw [List.take_add_one,List.getElem?_eq_getElem hi0,List.filter_append,List.filter_eq_self.2 fun c hc=>by rw [hall c hc];rfl]
  simp [hd]
 rintro vs W ⟨i,j,L,hij,hj,rfl,hL,hR,ht,hdr,hm⟩ _
 simp only [nth_s,nth_z,List.headD_cons,List.tail_cons]
 rw [lenK_i,ltK_i]
 refine condK_p (fun hlt=>?_) fun hge=>?_
 ·have hlt':j < p.length:=by omega
  have hLj:L[j]'(by omega)=p[j]:=by
   have e:=congrArg List.head? hdr
   rw [List.head?_drop,List.head?_drop,List.getElem?_eq_getElem (by omega),List.getElem?_eq_getElem hlt'] at e
   exact Option.some.inj e
  refine ixK_n hlt' ?_
  rw [addr0]
  refine ldnK_i (vs:=p[j].cells) rfl (fun q u hu=>by rw [addr_at];exact hR.cells j (by omega) q u (by rw [hLj];exact hu)) ?_
  refine newst_n (vs:=p[j].cells) rfl rfl (RChg.one (w:=W) (x:=p[j]) rfl) fun b7 w4 hb7 hz7 g4 hc7 _=>?_
  have hgW:g < W.heap.size:=Nat.lt_of_lt_of_le hgw hm.size
  refine ldnK_i (vs:=p[j].cells) rfl hc7 ?_
  refine hf w4 p[j] _ (hm.next g4 fun _ _ e=>e.elim) fun W5 g5=>?_
  have R5:=(hR.mod g4 fun h=>h).mod g5 fun h=>h
  have m5:=(hm.next g4 fun _ _ e=>e.elim).next g5 fun _ _ e=>e.elim
  have et:(p.take (j+1)).filter (fun c=>!del c)=(p.take j).filter (fun c=>!del c)++if del p[j] then [] else [p[j]]:=by
   rw [List.take_add_one,List.getElem?_eq_getElem hlt',List.filter_append]
   cases e:del p[j] <;> simp [e]
  have hdr1:L.drop (j+1)=p.drop (j+1):=by have:=congrArg (List.drop 1) hdr;simpa [List.drop_drop] using this
  cases e:del p[j] with
  | true=>
   rw [notK_i]
   refine condK_f ?_
   rw [addK_i,loop_step (by omega)]
   rw [e,if_pos rfl,List.append_nil] at et
   refine ⟨⟨i,j+1,L,by omega,hlt',rfl,hL,R5,by rw [et];exact ht,?_,m5⟩,by rw [iOf1,iOf1];omega⟩
   exact hdr1
  | false=>
   rw [notK_i]
   refine condK_t ?_
   refine ldnK_i (vs:=p[j].cells) rfl (fun q u hu=>g5.cell (hc7 q u hu) fun h=>h) ?_
   refine ixK_n (by omega) ?_
   rw [addr0]
   refine R5.store (i:=i) (x:=p[j]) (by omega) Chg.len (RChg.one (w:=W) (x:=p[j]) rfl) fun W6 R6 m6=>?_
   rw [addK_i,addK_i,loop_step (by omega),loop_step (by omega)]
   rw [e,if_neg (by decide)] at et
   refine ⟨⟨i+1,j+1,L.set i p[j],by omega,hlt',rfl,by simp [hL],R6,?_,?_,m5.trans m6⟩,by rw [iOf1,iOf1];omega⟩
   ·rw [et,←ht,List.take_set,List.take_add_one,List.getElem?_eq_getElem (by omega),List.set_append_right _ _ (by simp;omega)]
    simp [Nat.min_eq_left (show i≤L.length by omega)]
   ·rw [List.drop_set_of_lt (by omega)]
    exact hdr1
 ·obtain rfl:j=p.length:=by omega
  rw [List.take_length] at ht
  refine runK_i (slice_lo_run (e:=111) (k:=6) (i:=Tryz.t111) (by kernel_rfl) (by kernel_rfl) (by kernel_rfl) (by omega) W) ?_
  have esl:sliced (some (⟨g,0,none⟩:Addr)) i p.length c 6=.slice (some ⟨g,i * 6,none⟩) (p.length - i) (c - i):=by
   unfold sliced
   rw [if_neg (by omega)]
   simp only [Option.map_some,addr0]
  rw [esl]
  obtain ⟨W2,hr,m2,h2⟩:=clear_end (P:=Tryz.prog) (t:=37) (e:=111) (k:=6) (i:=Tryz.t111) (zv:=.agg (⟨0,false,AVal.zero⟩:Chg).cells.toArray) (W:=W) (g:=g) (off:=i * 6) (m:=p.length - i) (c:=c - i) (by kernel_rfl) (by kernel_rfl) (by kernel_rfl) (by kernel_rfl) (by decide)
   (fun u hu=>RChg.one (w:=W) (x:=⟨0,false,AVal.zero⟩) rfl u (by simpa [Value.cells] using hu)) (by omega) fun q hq=>by
    have:=hR.live (i+q / 6) (q % 6) (by omega) (Nat.mod_lt _ (by decide))
    rwa [show (i+q / 6) * 6+q % 6=i * 6+q by omega] at this
  refine runK_i hr ?_
  refine runK_i (slice_hi_run (e:=111) (k:=6) (i:=Tryz.t111) (by kernel_rfl) (by kernel_rfl) (by kernel_rfl) (by omega) W2) ?_
  refine ⟨?_,hm.trans m2⟩
  rw [←ht]
  have hlt:(L.take i).length=i:=by simp;omega
  refine ⟨_,_,by rw [hlt],by omega,by omega,fun m x hx=>?_⟩
  obtain ⟨hmi,hx'⟩:=List.getElem?_eq_some_iff.1 hx
  rw [List.getElem_take] at hx'
  subst hx'
  refine ⟨⟨g,0,none⟩,_,rfl,rfl,rfl,fun q u hu=>?_,rfl⟩
  have hq:q < 6:=(List.getElem?_eq_some_iff.1 hu).1
  rw [addr0,h2 _ (by omega)]
  exact hR.cells m (by omega) q u hu
def keepC (ks:List DKey) (b:Bool) (c:Chg):Bool:=match findK ks c.key with | some k=>decide (k.block=b) | none=>false
theorem part1_ok {D:Nat→Prop} {sv:Value} {ks:List DKey} {b:Bool} {c:Chg} {b3 b5:Nat} {w:World} (hS:SchR D w sv ks) (h3:w.cell? ⟨b3,0,none⟩=some sv) (h5:w.cell? ⟨b5,0,none⟩=some (.bool b)) :
  callK Tryz.prog 215 [.agg c.cells.toArray,.pointer (some ⟨b3,0,none⟩),.pointer (some ⟨b5,0,none⟩)] (fun v' w'=>v'=.bool (!keepC ks b c)∧Grow w w') w:=by
 apply S215_ok
 unfold S215
 refine boxn_i fun b0 w1 hb0 hz1 g1 hc1 _=>?_
 refine ld1K_i (g1.cell h3 fun h=>h) ?_
 rw [faK_i]
 refine ld1K_i (hc1 0 _ rfl) ?_
 refine callK_mono (sfind_ok (hS.grow g1) c.key) ?_
 rintro _ w2 ⟨rfl,g2⟩
 refine extK_i (vs:=[_,_]) (by rfl) (extK_i (vs:=[_,_]) (by rfl) ?_)
 refine newst_n (vs:=((findK ks c.key).getD DKey.zero).cells) rfl rfl (RKey.one (w:=w2) (x:=(findK ks c.key).getD DKey.zero) rfl) fun b4 w3 hb4 hz4 g3 hc3 _=>?_
 have g13:=(g1.trans g2).trans g3
 rw [notK_i]
 unfold keepC
 cases e:findK ks c.key with
 | none=>exact condK_t ⟨rfl,g13⟩
 | some k=>
  rw [e] at hc3
  refine condK_f ?_
  rw [faK_i]
  refine ld1K_i (hc3 1 _ rfl) ?_
  refine ld1K_i (g13.cell h5 fun h=>h) ?_
  rw [bneK_i]
  refine ⟨?_,g13⟩
  show Value.bool (k.block != b)=.bool (!decide (k.block=b))
  cases k.block <;> cases b <;> rfl
theorem ppart_ok {D S:Nat→Prop} {sv pv:Value} {ks:List DKey} {b:Bool} {p:List Chg} {w:World} (hS:SchR D w sv ks) (hp:RPat S w pv p) (hl:p.length≤1099511627776) :
  callK Tryz.prog 204 [sv,pv,.bool b] (fun v' w'=>RPat (fun x=>w.heap.size≤x) w' v' (partP ks b p)∧Grow w w') w:=by
 apply S204_ok
 unfold S204
 have hsv:sv.cells=#[sv]:=by
  obtain ⟨b,m,kv,l,rfl,_⟩:=hS
  rfl
 have hS':SchR (fun x=>D x∧x < w.heap.size) w sv ks:=hS.sub fun x hx h=>⟨h,hx⟩
 refine ⟨hsv,newz_i fun b3 w1 hb3 hz1 g1 hc1 _=>?_⟩
 refine ⟨rfl,newz_i fun b5 w2 hb5 hz2 g2 hc2 _=>?_⟩
 refine callK_mono (clone_pat (hp.grow (g1.trans g2) (by decide) fun _ _ h=>h) (by omega)) ?_
 rintro v3 w3 ⟨o3,g3⟩
 have c3:w2.cell? ⟨b3,0,none⟩=some sv:=by have:=g2.cell (hc1 0 _ rfl) fun h=>h;rwa [addr0] at this
 have c5:w2.cell? ⟨b5,0,none⟩=some (.bool b):=by have:=hc2 0 _ rfl;rwa [addr0] at this
 have hown:∀ x,v3.ownBlock=some x→w2.heap.size≤x:=fun x e=>(OwnR.ownB o3 x e).1
 have g13:=(g1.trans g2).trans g3
 have tl:Tells (Mod (fun x=>v3.ownBlock=some x) w3) (.func (.func 215) #[] #[.pointer (some ⟨b3,0,none⟩),.pointer (some ⟨b5,0,none⟩)]) fun c=>!keepC ks b c:=by
  intro W c K m hK
  refine .inl ⟨_,[],[.pointer (some ⟨b3,0,none⟩),.pointer (some ⟨b5,0,none⟩)],rfl,by kernel_rfl,?_⟩
  refine callK_mono (part1_ok ((hS'.grow g13).mod m fun x _ hx e=>?_) (m.cell (g3.cell c3 fun h=>h) fun e=>?_) (m.cell (g3.cell c5 fun h=>h) fun e=>?_)) ?_
  ·have:=hown _ e;have:=hx.2;have:=(g1.trans g2).size;omega
  ·have h:w2.heap.size≤b3:=hown _ e
   omega
  ·have h:w2.heap.size≤b5:=hown _ e
   omega
  ·rintro _ W' ⟨rfl,g⟩;exact hK W' g
 refine callK_mono (delf_ok o3 hl tl) ?_
 rintro v4 w4 ⟨h4,m4⟩
 have e:(p.filter fun c=>!(!keepC ks b c))=partP ks b p:=by simp only [Bool.not_not];rfl
 rw [e] at h4
 refine ⟨SlR.sub h4 (fun x _ e=>by have:=hown x e;have:=(g1.trans g2).size;omega) (by decide) fun _ _ h=>h,?_⟩
 exact g13.next m4 fun x hx e=>by have:=hown x e;have:=(g1.trans g2).size;omega
theorem acell_ok {D S S':Nat→Prop} {sv cv pv:Value} {ks:List DKey} {r:Int} {s:List Attr} {p:List Chg} {w:World} (hS:SchR D w sv ks) (hs:RSet S w cv s) (hp:RPat S' w pv p) (hl:s.length+p.length≤1099511627776) :
  callK Tryz.prog 186 [sv,.agg #[.int .i32 r,cv],pv] (fun v' w'=>∃ cv',v'=.agg #[.int .i32 r,cv']∧OSet w.heap.size w' cv' (cellP ks s p r)∧Grow w w') w:=by
 apply S186_ok
 unfold S186
 refine boxn_i (vs:=[.int .i32 r,cv]) fun b4 w1 hb4 hz1 g1 hc1 _=>?_
 refine newz_i fun b6 w2 hb6 hz2 g2 hc2 hl2=>?_
 have gd:Grow w2 w2.drew:=Mod.drew _ _
 have zd:w2.drew.heap.size=w2.heap.size:=rfl
 have g0:=(g1.trans g2).trans gd
 have c4:∀ j u,([.int .i32 r,cv]:List Value)[j]?=some u→w2.drew.cell? ((⟨b4,0,none⟩:Addr).add j)=some u:=fun j u hu=>gd.cell (g2.cell (hc1 j u hu) fun h=>h) fun h=>h
 have ne:b4≠b6:=by omega
 refine drawC_i (fun k y=>k=12∧y=b6) ?_
 rw [faK_i]
 refine sld1_i ⟨c4 0 _ rfl,fun j _ e=>by rw [add_block] at e;exact ne e.2⟩ ?_
 rw [faK_i]
 refine sld1_i ⟨c4 1 _ rfl,fun j _ e=>by rw [add_block] at e;exact ne e.2⟩ ?_
 rw [faK_i]
 refine sld1_i ⟨c4 0 _ rfl,fun j _ e=>by rw [add_block] at e;exact ne e.2⟩ ?_
 rw [eqK_i]
 refine callK_mono (ppart_ok (hS.grow g0) (hp.grow g0 (by decide) fun _ _ h=>h) (by omega)) ?_
 rintro v3 w3 ⟨h3,g3⟩
 refine ⟨g3.mono fun _ _ e=>e.elim,?_⟩
 have hpl:(partP ks (decide (r=10)) p).length≤p.length:=List.length_filter_le _ _
 refine callK_mono (papp_ok (hs.grow (g0.trans g3) (by decide) fun _ _ h=>h) h3 (by omega)) ?_
 rintro v4 w4 ⟨o4,g4⟩
 refine ⟨g4.mono fun _ _ e=>e.elim,?_⟩
 have o1:=OwnR.one o4
 obtain ⟨a4,k4,e4,_⟩:=OwnR.shape o4
 refine ⟨#[.int .i32 r,v4],by subst e4;kernel_rfl,?_⟩
 have z3:=g3.size
 have z4:=g4.size
 refine stn_over (vs:=[.int .i32 r,v4]) rfl (fun u hu=>by simp at hu;rcases hu with rfl | rfl;rfl;exact o1.1) (fun j hj=>(((hl2 j hj).mod gd fun h=>h).mod g3 fun h=>h).mod g4 fun h=>h) fun w5 m5 hc5 _=>?_
 refine ⟨m5.mono fun x _ e=>⟨rfl,e⟩,?_⟩
 refine ldnK_i (vs:=[.int .i32 r,v4]) rfl hc5 ⟨v4,rfl,?_,?_⟩
 ·have:OSet w.heap.size w4 v4 (cellP ks s p r):=o4.base fun g hg=>by have:=(OwnR.ownB o4 g hg).1;have:=(g0.trans g3).size;omega
  refine OwnR.mod this m5 (fun g hg e=>?_) fun _ _ _ h=>h
  have:=(OwnR.ownB o4 g hg).1
  omega
 ·exact ((g0.trans g3).trans g4).next m5 fun x hx e=>by omega
end Go.Proofs.YtlbaopamhkmepaaGreatDoor

namespace Go.Proofs.YtlbaopamhkmepaaGreatDoor
open Go Go.K

def firstT (x:Int):Int:=if x < 194 then 241 else if x < 224 then 2 else if x=224 then 19 else if x=237 then 35 else if x < 240 then 3 else if x=240 then 52 else if x < 244 then 4 else if x=244 then 68 else 241
def accLo (j:Nat):Int:=if j=1 then 160 else if j=3 then 144 else if j < 5 then 128 else 0
def accHi (j:Nat):Int:=if j=2 then 159 else if j=4 then 143 else if j < 5 then 191 else 0
structure Tabs (w:World):Prop where
 size:1 < w.heap.size
 first:∀ j:Nat,128≤j→j < 256→w.cell? ⟨0,j,none⟩=some (.int .u8 (firstT j))
 acc:∀ j:Nat,j < 16→w.cell? ⟨1,j * 2,none⟩=some (.int .u8 (accLo j))∧w.cell? ⟨1,j * 2+1,none⟩=some (.int .u8 (accHi j))
theorem Tabs.grow {w w':World} (h:Tabs w) (g:Grow w w'):Tabs w':=
 ⟨Nat.lt_of_lt_of_le h.size g.size,fun j h1 h2=>g.cell (h.first j h1 h2) fun h=>h,fun j hj=>⟨g.cell (h.acc j hj).1 fun h=>h,g.cell (h.acc j hj).2 fun h=>h⟩⟩
theorem tab_ok {x:Int} (h0:128≤x) (h1:x < 256):∃ (f:Int) (z j:Nat),firstT x=f∧0≤f∧f < 256∧(f.toNat &&& 7)=z∧f / 16=j∧j < 16∧(z=hdSize x∨hdSize x=0∧z=1)∧(hdSize x≠0→accLo j=hdLo x∧accHi j=hdHi x):=by
 unfold firstT hdSize hdLo hdHi
 by_cases a1:x < 194
 ·exact ⟨241,1,15,by rw [if_pos a1],by decide,by decide,by decide,by decide,by decide,by rw [if_pos a1];exact .inr ⟨rfl,rfl⟩,by rw [if_pos a1];exact fun h=>absurd rfl h⟩
 rw [if_neg a1,if_neg a1]
 by_cases a2:x < 224
 ·rw [if_pos a2,if_pos a2]
  exact ⟨2,2,0,rfl,by decide,by decide,by decide,by decide,by decide,.inl rfl,fun _=>⟨by rw [if_neg (by omega),if_neg (by omega)];rfl,by rw [if_neg (by omega),if_neg (by omega)];rfl⟩⟩
 rw [if_neg a2,if_neg a2]
 by_cases a3:x=224
 ·subst a3
  exact ⟨19,3,1,rfl,by decide,by decide,by decide,by decide,by decide,.inl rfl,fun _=>⟨rfl,rfl⟩⟩
 rw [if_neg a3,if_neg a3]
 by_cases a4:x=237
 ·subst a4
  exact ⟨35,3,2,rfl,by decide,by decide,by decide,by decide,by decide,.inl rfl,fun _=>⟨rfl,rfl⟩⟩
 rw [if_neg a4,if_neg a4]
 by_cases a5:x < 240
 ·rw [if_pos a5,if_pos a5]
  exact ⟨3,3,0,rfl,by decide,by decide,by decide,by decide,by decide,.inl rfl,fun _=>⟨by rw [if_neg (by omega)];rfl,by rw [if_neg (by omega)];rfl⟩⟩
 rw [if_neg a5,if_neg a5]
 by_cases a6:x=240
 ·subst a6
  exact ⟨52,4,3,rfl,by decide,by decide,by decide,by decide,by decide,.inl rfl,fun _=>⟨rfl,rfl⟩⟩
 rw [if_neg a6,if_neg a6]
 by_cases a7:x < 244
 ·rw [if_pos a7,if_pos (by omega)]
  exact ⟨4,4,0,rfl,by decide,by decide,by decide,by decide,by decide,.inl rfl,fun _=>⟨rfl,by rw [if_neg (by omega)];rfl⟩⟩
 rw [if_neg a7]
 by_cases a8:x=244
 ·subst a8
  exact ⟨68,4,4,rfl,by decide,by decide,by decide,by decide,by decide,.inl rfl,fun _=>⟨rfl,rfl⟩⟩
 rw [if_neg a8,if_neg (by omega)]
 exact ⟨241,1,15,rfl,by decide,by decide,by decide,by decide,by decide,.inr ⟨rfl,rfl⟩,fun h=>absurd rfl h⟩
theorem hdSize_v (x:Int):hdSize x=0∨hdSize x=2∨hdSize x=3∨hdSize x=4:=by
 unfold hdSize
 (repeat' split) <;> simp
theorem run_and8 {t:TypeId} {xo yo:Operand} {a:Int} {z:Nat} (w:World) (h0:0≤a) (h1:a < 256) (hz:(a.toNat &&& 7)=z):(binS .and t xo yo (.int .u8 a) (.int .u8 7)).run Tryz.prog w=.ok (.int .u8 z) w:=by
 rw [(run_bits w).2]
 have e:((BitVec.ofInt IntKind.u8.bits a &&& BitVec.ofInt IntKind.u8.bits 7).toNat:Int)=((a.toNat &&& 7:Nat):Int):=by
  show ((BitVec.ofInt 8 a &&& BitVec.ofInt 8 7).toNat:Int)=_
  rw [BitVec.toNat_and,BitVec.toNat_ofInt,BitVec.toNat_ofInt]
  have e:((2 ^ 8:Nat):Int)=256:=by decide
  rw [e,Int.emod_eq_of_lt h0 h1]
  rfl
 have hz8:z≤7:=hz ▸ Nat.and_le_right
 rw [e,hz]
 congr 2
 have e1:(2:Int) ^ IntKind.u8.bits=256:=by decide
 simp only [IntKind.wrap,e1,IntKind.signed,Bool.false_and]
 rw [if_neg (by decide)]
 omega
def slLen (v:Value):Nat:=match v with | .slice _ n _=>n | _=>0
theorem skip_ok {l:List Int} {k:Nat} (hl:ByteL l) (hk:k≤l.length) (h:∀ j,j < k→l.getD j 0 < 128):(readB l).isSome=(readB (l.drop k)).isSome:=by
 refine readB_skip hk fun j x hj hx=>?_
 have:=h j hj
 rw [List.getD_eq_getElem?_getD,hx] at this
 exact ⟨(hl x (List.mem_iff_getElem?.2 ⟨j,hx⟩)).1,this⟩
theorem getD_drop (l:List Int) (k j:Nat):(l.drop k).getD j 0=l.getD (k+j) 0:=by
 rw [List.getD_eq_getElem?_getD,List.getD_eq_getElem?_getD,List.getElem?_drop]
theorem and_or_zero {a b c:Nat} (h:((a ||| b) &&& c)=0):(a &&& c)=0∧(b &&& c)=0:=by
 rw [Nat.and_or_distrib_right] at h
 exact Nat.or_eq_zero_iff.1 h
theorem hi_zero {n:Nat} (h:((n &&& (9259542123273814144:Int).toNat:Nat):Int)=0):(n &&& 9259542123273814144)=0:=Int.ofNat_inj.1 h
set_option maxRecDepth 10000 in
theorem valid_ok {S:Nat→Prop} {v:Value} {b:List Int} {w:World} (h:RBytes S w v b) (hb:ByteL b) (hT:Tabs w) :
  callK Tryz.prog 174 [v] (fun v' w'=>v'=.bool (readB b).isSome∧Grow w w') w:=by
 apply S174_ok
 unfold S174
 have hu:Tryz.prog.underlying 70=some (.slice 5):=by kernel_rfl
 have hi:Tryz.prog.info? 5=some Tryz.t5:=by kernel_rfl
 have hs:Tryz.t5.size=1:=by kernel_rfl
 obtain ⟨a,c,rfl,hm⟩:=h.shape
 obtain ⟨_,_,e0,hc0,_,_⟩:=id h
 cases e0
 rw [lenK_i,lenK_i]
 obtain ⟨a',hr0,ha'⟩:=slice_all_run (a:=a) (n:=b.length) (c:=c) hu hi hs hc0 w
 refine runK_i hr0 ?_
 have h':RBytes S w (.slice a' b.length b.length) b:=by
  obtain ⟨_,_,e0,h1,h2,h3⟩:=h
  cases e0
  refine ⟨_,_,rfl,Nat.le_refl _,hm,fun i x hx=>?_⟩
  obtain ⟨p,r,rfl,q⟩:=h3 i x hx
  have:=(List.getElem?_eq_some_iff.1 hx).1
  exact ⟨p,r,ha' (by omega),q⟩
 refine LoopK_i (fun vs W=>∃ l v1,vs=[v1]∧RBytes S W v1 l∧ByteL l∧(readB b).isSome=(readB l).isSome∧Grow w W) (fun vs _=>slLen (nth vs 0)) ⟨b,_,rfl,h',hb,rfl,Mod.refl _ _⟩ ?_
 rintro vs W ⟨l,v1,rfl,hl,hB,hrd,gW⟩ _
 rw [nth_z,List.headD_cons]
 obtain ⟨p1,c1,rfl,hm1⟩:=hl.shape
 simp only [maxLen] at hm1
 rw [lenK_i,gtK_i]
 refine condK_p (fun hpos=>?_) fun hneg=>?_
 rotate_left
 ·have:l=[]:=List.eq_nil_of_length_eq_zero (by omega)
  subst this
  exact ⟨by rw [hrd,readB_nil];rfl,gW⟩
 -- the round ends with a rest that is shorter
 have again:∀ {W':World} {v':Value} {l':List Int},RBytes S W' v' l'→ByteL l'→(readB l).isSome=(readB l').isSome→l'.length < l.length→Grow w W'→
   ((∃ l v1,[v']=[v1]∧RBytes S W' v1 l∧ByteL l∧(readB b).isSome=(readB l).isSome∧Grow w W')∧slLen (nth [v'] 0) < slLen (nth [Value.slice p1 l.length c1] 0)):=by
  intro W' v' l' h1 h2 h3 h4 h5
  obtain ⟨q,d,rfl,_⟩:=h1.shape
  exact ⟨⟨l',_,rfl,h1,h2,hrd.trans h3,h5⟩,h4⟩
 have sl:∀ {W':World} {q:Option Addr} {n d j:Nat} {l':List Int} {K:Cont},RBytes S W' (.slice q n d) l'→j≤l'.length→(∀ v',RBytes S W' v' (l'.drop j)→K v' W')→runK Tryz.prog (Instr.sliceAt 70 (.slice q n d) (some (.int .i64 j)) none none) K W':=
  fun h1 h2 h3=>slice_lo (e:=5) (i:=Tryz.t5) hu hi hs h1 h2 h3
 have ge:∀ {W1 W2:World} {v':Value} {l':List Int},RBytes S W1 v' l'→Grow W1 W2→RBytes S W2 v' l':=fun h1 g=>h1.grow g (by decide) fun _ _ h=>h
 -- a word's call,in a region
 have wq:∀ {W1:World} {v':Value} {l':List Int} {K:Value→Prop},RBytes S W1 v' l'→ByteL l'→8≤l'.length→K (.int .u64 (wordN l'))→qcallK Tryz.prog (fun W2=>Grow W1 W2) 200 [v'] K:=by
  intro W1 v' l' K h1 h2 h3 h4
  refine ⟨_,fun w2 g=>callK_mono (word_ok (ge h1 g) h2 h3) ?_,h4⟩
  rintro _ w3 ⟨rfl,g3⟩
  exact ⟨rfl,g.trans g3⟩
 obtain ⟨x,t,rfl⟩:∃ x t,l=x :: t:=by cases l with | nil=>simp at hpos | cons x t=>exact ⟨x,t,rfl⟩
 have hx:=hB x List.mem_cons_self
 have hBt:ByteL t:=fun y hy=>hB y (List.mem_cons_of_mem _ hy)
 obtain ⟨p,r,rfl,_,hr,hc,rfl⟩:=hl.get (i:=0) (by simp)
 have cx:W.cell? (p.add (0 * 1+0))=some (.int .u8 x):=hc 0 _ rfl
 refine ixK_n (j:=0) (by simp) (ld1K_i cx ?_)
 show ltK .u8 (.int .u8 x) _ _
 rw [ltK_i]
 refine condK_p (fun hlo=>?_) fun hhi=>?_
 ·-- ASCII
  have hrt:(readB (x :: t)).isSome=(readB t).isSome:=by
   have:=skip_ok (l:=x :: t) (k:=1) hB (by simp) fun j hj=>by
    have:j=0:=by omega
    subst this;exact hlo
   simpa using this
  refine sl hl (j:=1) (by simp) fun v2 hv2=>?_
  rw [List.drop_succ_cons,List.drop_zero] at hv2
  obtain ⟨q2,d2,rfl,_⟩:=hv2.shape
  refine JoinK_i (fun vs W2=>Grow W W2∧∃ q:Bool,vs=[.bool q]∧(q=true→8≤t.length∧∀ j,j < 8→t.getD j 0 < 128)) ?_ ?_
  ·rintro vs W2 ⟨g2,q,rfl,hq⟩ _
   rw [nth_z,List.headD_cons]
   cases q with
   | false=>exact condK_f (again (ge hv2 g2) hBt hrt (by simp) (gW.trans g2))
   | true=>
    obtain ⟨h8,hq8⟩:=hq rfl
    refine condK_t (sl (ge hv2 g2) (j:=8) h8 fun v3 hv3=>?_)
    have hB3:ByteL (t.drop 8):=ByteL.drop hBt 8
    have hr3:(readB (x :: t)).isSome=(readB (t.drop 8)).isSome:=hrt.trans (skip_ok hBt h8 hq8)
    have hl3:(t.drop 8).length < (x :: t).length:=by simp;omega
    generalize t.drop 8=l3 at hv3 hB3 hr3 hl3
    obtain ⟨q3,d3,rfl,_⟩:=hv3.shape
    refine JoinK_i (fun vs W3=>Grow W W3∧Grow W2 W3∧∃ q:Bool,vs=[.bool q]∧(q=true→16≤l3.length∧∀ j,j < 16→l3.getD j 0 < 128)) ?_ ?_
    ·rintro vs W3 ⟨g3,g23,q,rfl,hq⟩ _
     rw [nth_z,List.headD_cons]
     cases q with
     | false=>exact condK_f (again (ge hv3 g23) hB3 hr3 hl3 (gW.trans g3))
     | true=>
      obtain ⟨h16,hq16⟩:=hq rfl
      refine condK_t (sl (ge hv3 g23) (j:=16) h16 fun v4 hv4=>?_)
      refine LoopK_i (fun vs W4=>∃ l4 v5,vs=[v5]∧RBytes S W4 v5 l4∧ByteL l4∧(readB (x :: t)).isSome=(readB l4).isSome∧l4.length < (x :: t).length∧Grow W W4) (fun vs _=>slLen (nth vs 0))
       ⟨_,_,rfl,hv4,ByteL.drop hB3 16,hr3.trans (skip_ok hB3 h16 hq16),by simp only [List.length_drop];omega,g3⟩ ?_
      rintro vs W4 ⟨l4,v5,rfl,hv5,hB4,hr4,hl4,g4⟩ _
      rw [nth_z,List.headD_cons]
      obtain ⟨q5,d5,rfl,_⟩:=hv5.shape
      refine drawK_i (fun W'=>Grow W4 W') (Mod.drew _ _) ?_
      rw [lenK_i,gtK_i]
      refine condK_p (fun h32=>?_) fun _=>fun W' g'=>again (ge hv5 g') hB4 hr4 hl4 (gW.trans (g4.trans g'))
      have h32':32 < l4.length:=by omega
      have run:=fun (j:Nat) (hj:j≤l4.length) (w':World)=>slice_lo_run (a:=q5) (n:=l4.length) (c:=d5) hu hi hs hj w'
      have sls:=fun (j:Nat) (hj:j≤l4.length)=>slice_lo_sl hv5 hj
      refine wq hv5 hB4 (by omega) ?_
      refine ⟨_,fun w' _=>run 8 (by omega) w',?_⟩
      refine wq (sls 8 (by omega)) (ByteL.drop hB4 8) (by simp only [List.length_drop];omega) ?_
      have u0:=wordN_U hB4
      have u1:=wordN_U (ByteL.drop hB4 8)
      have u2:=wordN_U (ByteL.drop hB4 16)
      have u3:=wordN_U (ByteL.drop hB4 24)
      refine ⟨_,fun w' _=>run_or64 w' u0 u1,?_⟩
      refine ⟨_,fun w' _=>run 16 (by omega) w',?_⟩
      refine wq (sls 16 (by omega)) (ByteL.drop hB4 16) (by simp only [List.length_drop];omega) ?_
      refine ⟨_,fun w' _=>run 24 (by omega) w',?_⟩
      refine wq (sls 24 (by omega)) (ByteL.drop hB4 24) (by simp only [List.length_drop];omega) ?_
      refine ⟨_,fun w' _=>run_or64 w' u2 u3,?_⟩
      refine ⟨_,fun w' _=>run_or64 w' (orN_U u0 u1) (orN_U u2 u3),?_⟩
      refine ⟨_,fun w' _=>run_and64 w' (orN_U (orN_U u0 u1) (orN_U u2 u3)) (by unfold U64;decide),?_⟩
      show eqK .u64 (.int .u64 _) _ _
      rw [eqK_i]
      intro W' g'
      refine condK_p (fun hz=>?_) fun _=>again (ge hv5 g') hB4 hr4 hl4 (gW.trans (g4.trans g'))
      have hz':((orN (orN (wordN l4) (wordN (l4.drop 8))) (orN (wordN (l4.drop 16)) (wordN (l4.drop 24)))).toNat &&& 9259542123273814144:Nat)=0:=hi_zero hz
      simp only [orN,Int.toNat_natCast] at hz'
      obtain ⟨z1,z2⟩:=and_or_zero hz'
      obtain ⟨z3,z4⟩:=and_or_zero z1
      obtain ⟨z5,z6⟩:=and_or_zero z2
      have a32:∀ j,j < 32→l4.getD j 0 < 128:=by
       intro j hj
       rcases (show j < 8∨8≤j∧j < 16∨16≤j∧j < 24∨24≤j by omega) with h | h | h | h
       ·exact word_ascii hB4 z3 h
       ·have:=word_ascii (ByteL.drop hB4 8) z4 (j:=j - 8) (by omega)
        rw [getD_drop,show 8+(j - 8)=j by omega] at this;exact this
       ·have:=word_ascii (ByteL.drop hB4 16) z5 (j:=j - 16) (by omega)
        rw [getD_drop,show 16+(j - 16)=j by omega] at this;exact this
       ·have:=word_ascii (ByteL.drop hB4 24) z6 (j:=j - 24) (by omega)
        rw [getD_drop,show 24+(j - 24)=j by omega] at this;exact this
      refine sl (ge hv5 g') (j:=32) (by omega) fun v6 hv6=>?_
      obtain ⟨q6,d6,rfl,_⟩:=hv6.shape
      refine ⟨⟨_,_,rfl,hv6,ByteL.drop hB4 32,hr4.trans (skip_ok hB4 (by omega) a32),by simp only [List.length_drop];omega,g4.trans g'⟩,?_⟩
      show (l4.drop 32).length < l4.length
      rw [List.length_drop];omega
    ·refine drawK_i (fun W'=>Grow W2 W') (Mod.drew _ _) ?_
     rw [lenK_i,gtK_i]
     refine condK_p (fun h16=>?_) fun _=>fun W' g'=>⟨g2.trans g',g',false,rfl,fun h=>(nomatch h)⟩
     have h16':16 < l3.length:=by omega
     refine wq hv3 hB3 (by omega) ?_
     refine ⟨_,fun w' _=>slice_lo_run (a:=q3) (n:=l3.length) (c:=d3) hu hi hs (j:=8) (by omega) w',?_⟩
     refine wq (slice_lo_sl hv3 (by omega)) (ByteL.drop hB3 8) (by simp only [List.length_drop];omega) ?_
     have u0:=wordN_U hB3
     have u1:=wordN_U (ByteL.drop hB3 8)
     refine ⟨_,fun w' _=>run_or64 w' u0 u1,?_⟩
     refine ⟨_,fun w' _=>run_and64 w' (orN_U u0 u1) (by unfold U64;decide),?_⟩
     show eqK .u64 (.int .u64 _) _ _
     rw [eqK_i]
     intro W' g'
     refine ⟨g2.trans g',g',_,rfl,fun hz=>?_⟩
     rw [decide_eq_true_eq] at hz
     have hz':((orN (wordN l3) (wordN (l3.drop 8))).toNat &&& 9259542123273814144:Nat)=0:=hi_zero hz
     simp only [orN,Int.toNat_natCast] at hz'
     obtain ⟨z1,z2⟩:=and_or_zero hz'
     refine ⟨by omega,fun j hj=>?_⟩
     rcases (show j < 8∨8≤j by omega) with h | h
     ·exact word_ascii hB3 z1 h
     ·have:=word_ascii (ByteL.drop hB3 8) z2 (j:=j - 8) (by omega)
      rw [getD_drop,show 8+(j - 8)=j by omega] at this;exact this
  ·rw [lenK_i,gtK_i]
   refine condK_p (fun h8=>?_) fun _=>⟨Mod.refl _ _,false,rfl,fun h=>(nomatch h)⟩
   have h8':8 < t.length:=by omega
   refine callK_mono (word_ok hv2 hBt (by omega)) ?_
   rintro _ W2 ⟨rfl,g2⟩
   refine runK_i (run_and64 W2 (wordN_U hBt) (by unfold U64;decide)) ?_
   rw [eqK_i]
   refine ⟨g2,_,rfl,fun hz=>?_⟩
   rw [decide_eq_true_eq] at hz
   exact ⟨by omega,fun j hj=>word_ascii hBt (hi_zero hz) hj⟩
 ·-- the first byte of several
  have bad:nextB (x :: t)=(0,0)→∀ {W'},Grow w W'→Value.bool false=.bool (readB b).isSome∧Grow w W':=fun e W' g=>⟨by rw [hrd,readB_step (by simp),e];rfl,g⟩
  have good:∀ {n:Nat} {r:Int},nextB (x :: t)=(r,n)→0 < n→(readB (x :: t)).isSome=(readB ((x :: t).drop n)).isSome:=by
   intro n r e hn
   rw [readB_step (by simp),e]
   show (decide (n≠0) && _)=_
   rw [decide_eq_true (show n≠0 by omega),Bool.true_and]
  obtain ⟨f,z,j,hf,hf0,hf1,hz,hj,hj16,hzs,hacc⟩:=tab_ok (x:=x) (by omega) hx.2
  have hTW:=hT.grow gW
  have cf:W.cell? (Addr.add ⟨0,0,none⟩ (x.toNat * 1))=some (.int .u8 f):=by
   rw [addr0,Nat.mul_one,←hf]
   have:=hTW.first x.toNat (by omega) (by omega)
   rwa [show ((x.toNat:Nat):Int)=x by omega] at this
  refine runK_i (run_indexAt_arr (n:=256) (e:=5) (i:=Tryz.t5) (s:=1) (by kernel_rfl) (by kernel_rfl) (by kernel_rfl) hx.1 (by omega)) (ld1K_i cf ?_)
  refine runK_i (run_and8 W hf0 hf1 hz) ?_
  refine runK_i (run_conv (k:=.i64) W (by kernel_rfl) (by kernel_rfl)) ?_
  have hz7:z≤7:=hz ▸ Nat.and_le_right
  rw [wrap64 (by omega) (by omega)]
  refine runK_i (run_shr (n:=4) W (by decide)) ?_
  have ej:f.fdiv (2 ^ 4)=(j:Int):=by
   rw [Int.fdiv_eq_ediv_of_nonneg _ (by decide),←hj];rfl
  rw [ej]
  refine runK_i (run_indexAt_arr (n:=16) (e:=244) (i:=Tryz.t244) (s:=2) (by kernel_rfl) (by kernel_rfl) (by kernel_rfl) (by omega) (by omega)) ?_
  rw [Int.toNat_natCast,addr0]
  obtain ⟨ca,cb⟩:=hTW.acc j hj16
  refine ldnK_i (vs:=[.int .u8 (accLo j),.int .u8 (accHi j)]) rfl (fun q u hu=>?_) ?_
  ·rcases q with _ | _ | q
   ·cases hu;exact ca
   ·cases hu;exact cb
   ·simp at hu
  refine newst_n (vs:=[.int .u8 (accLo j),.int .u8 (accHi j)]) rfl rfl (fun u hu=>by simp at hu;rcases hu with rfl | rfl <;> rfl) fun b6 W2 hb6 hz6 g6 hc6 _=>?_
  have c6a:=hc6 0 _ rfl
  have c6b:=hc6 1 _ rfl
  have gW2:=gW.trans g6
  have hl2:=ge hl g6
  have lenpos:0 < (x :: t).length:=by simp
  -- the second byte's test,the third's
  rw [eqK_i]
  refine condK_p (fun h2=>?_) fun h2=>?_
  ·have hz2:z=2:=by omega
   have hsz:hdSize x=2:=by omega
   obtain ⟨elo,ehi⟩:=hacc (by omega)
   refine JoinK_i (fun _ W3=>Grow W2 W3∧2≤(x :: t).length∧(readB (x :: t)).isSome=(readB ((x :: t).drop 2)).isSome) ?_ ?_
   ·rintro vs W3 ⟨g3,hle,hrr⟩ _
    refine sl (ge hl2 g3) (j:=2) hle fun v3 hv3=>?_
    exact again hv3 (ByteL.drop hB 2) hrr (by rw [List.length_drop];omega) (gW2.trans g3)
   refine drawK_i (fun W'=>Grow W2 W') (Mod.drew _ _) ?_
   rw [lenK_i,ltK_i]
   refine condK_p (fun hsh=>fun W' g'=>bad (next_short hx.2 (by rw [hsz];omega)) (gW2.trans g')) fun hlg=>?_
   obtain ⟨y1,t1,rfl⟩:∃ y t',t=y :: t':=by cases t with | nil=>simp at hlg | cons y t'=>exact ⟨y,t',rfl⟩
   have hy1:=hBt y1 List.mem_cons_self
   have hn:=next_2 (t:=t1) hsz hy1.1 hy1.2
   obtain ⟨_,r1,e1,_,hr1,hc1,rfl⟩:=hl2.get (i:=1) (by simp)
   cases e1
   have cy1:=hc1 0 _ rfl
   refine ixK_n (j:=1) (by simp) (qld1K_i (fun w' g=>g.cell cy1 fun h=>h) ?_)
   rw [faK_i]
   refine qld1K_i (fun w' g=>g.cell c6a fun h=>h) ?_
   show ltK .u8 (.int .u8 y1) _ _
   rw [ltK_i]
   refine condK_p (fun hb1=>fun W' g'=>bad (by rw [hn,if_neg (by omega)]) (gW2.trans g')) fun hb1=>?_
   rw [faK_i]
   refine qld1K_i (fun w' g=>g.cell c6b fun h=>h) ?_
   refine ixK_n (j:=1) (by simp) (qld1K_i (fun w' g=>g.cell cy1 fun h=>h) ?_)
   show ltK .u8 _ (.int .u8 y1) _
   rw [ltK_i]
   intro W' g'
   refine condK_p (fun hb2=>bad (by rw [hn,if_neg (by omega)]) (gW2.trans g')) fun hb2=>?_
   exact ⟨g',by simp,good (by rw [hn,if_pos (by omega)]) (by decide)⟩
  rw [eqK_i]
  refine condK_p (fun h3=>?_) fun h3=>?_
  ·have hz3:z=3:=by omega
   have hsz:hdSize x=3:=by omega
   obtain ⟨elo,ehi⟩:=hacc (by omega)
   refine JoinK_i (fun _ W3=>Grow W2 W3∧3≤(x :: t).length∧(readB (x :: t)).isSome=(readB ((x :: t).drop 3)).isSome) ?_ ?_
   ·rintro vs W3 ⟨g3,hle,hrr⟩ _
    refine sl (ge hl2 g3) (j:=3) hle fun v3 hv3=>?_
    exact again hv3 (ByteL.drop hB 3) hrr (by rw [List.length_drop];omega) (gW2.trans g3)
   refine drawK_i (fun W'=>Grow W2 W') (Mod.drew _ _) ?_
   rw [lenK_i,ltK_i]
   refine condK_p (fun hsh=>fun W' g'=>bad (next_short hx.2 (by rw [hsz];omega)) (gW2.trans g')) fun hlg=>?_
   obtain ⟨y1,y2,t1,rfl⟩:∃ y y2 t',t=y :: y2 :: t':=by
    rcases t with _ | ⟨y,_ | ⟨y2,t'⟩⟩
    ·simp at hlg
    ·simp at hlg
    ·exact ⟨y,y2,t',rfl⟩
   have hy1:=hBt y1 List.mem_cons_self
   have hy2:=hBt y2 (List.mem_cons_of_mem _ List.mem_cons_self)
   have hn:=next_3 (t:=t1) hsz hy1.1 hy1.2 hy2.1 hy2.2
   obtain ⟨_,r1,e1,_,hr1,hc1,rfl⟩:=hl2.get (i:=1) (by simp)
   cases e1
   have cy1:=hc1 0 _ rfl
   obtain ⟨_,r2,e2,_,hr2,hc2,rfl⟩:=hl2.get (i:=2) (by simp)
   cases e2
   have cy2:=hc2 0 _ rfl
   refine ixK_n (j:=1) (by simp) (qld1K_i (fun w' g=>g.cell cy1 fun h=>h) ?_)
   rw [faK_i]
   refine qld1K_i (fun w' g=>g.cell c6a fun h=>h) ?_
   show ltK .u8 (.int .u8 y1) _ _
   rw [ltK_i]
   refine condK_p (fun hb1=>fun W' g'=>bad (by rw [hn,if_neg (by omega)]) (gW2.trans g')) fun hb1=>?_
   rw [faK_i]
   refine qld1K_i (fun w' g=>g.cell c6b fun h=>h) ?_
   refine ixK_n (j:=1) (by simp) (qld1K_i (fun w' g=>g.cell cy1 fun h=>h) ?_)
   show ltK .u8 _ (.int .u8 y1) _
   rw [ltK_i]
   refine condK_p (fun hb2=>fun W' g'=>bad (by rw [hn,if_neg (by omega)]) (gW2.trans g')) fun hb2=>?_
   refine ixK_n (j:=2) (by simp) (qld1K_i (fun w' g=>g.cell cy2 fun h=>h) ?_)
   show ltK .u8 (.int .u8 y2) _ _
   rw [ltK_i]
   refine condK_p (fun hb3=>fun W' g'=>bad (by rw [hn,if_neg (by omega)]) (gW2.trans g')) fun hb3=>?_
   refine ixK_n (j:=2) (by simp) (qld1K_i (fun w' g=>g.cell cy2 fun h=>h) ?_)
   show ltK .u8 _ (.int .u8 y2) _
   rw [ltK_i]
   intro W' g'
   refine condK_p (fun hb4=>bad (by rw [hn,if_neg (by omega)]) (gW2.trans g')) fun hb4=>?_
   exact ⟨g',by simp,good (by rw [hn,if_pos (by omega)]) (by decide)⟩
  rw [eqK_i]
  refine condK_p (fun h4=>?_) fun h4=>?_
  ·have hz4:z=4:=by omega
   have hsz:hdSize x=4:=by omega
   obtain ⟨elo,ehi⟩:=hacc (by omega)
   refine JoinK_i (fun _ W3=>Grow W2 W3∧4≤(x :: t).length∧(readB (x :: t)).isSome=(readB ((x :: t).drop 4)).isSome) ?_ ?_
   ·rintro vs W3 ⟨g3,hle,hrr⟩ _
    refine sl (ge hl2 g3) (j:=4) hle fun v3 hv3=>?_
    exact again hv3 (ByteL.drop hB 4) hrr (by rw [List.length_drop];omega) (gW2.trans g3)
   refine drawK_i (fun W'=>Grow W2 W') (Mod.drew _ _) ?_
   rw [lenK_i,ltK_i]
   refine condK_p (fun hsh=>fun W' g'=>bad (next_short hx.2 (by rw [hsz];omega)) (gW2.trans g')) fun hlg=>?_
   obtain ⟨y1,y2,y3,t1,rfl⟩:∃ y y2 y3 t',t=y :: y2 :: y3 :: t':=by
    rcases t with _ | ⟨y,_ | ⟨y2,_ | ⟨y3,t'⟩⟩⟩
    ·simp at hlg
    ·simp at hlg
    ·simp at hlg
    ·exact ⟨y,y2,y3,t',rfl⟩
   have hy1:=hBt y1 List.mem_cons_self
   have hy2:=hBt y2 (List.mem_cons_of_mem _ List.mem_cons_self)
   have hy3:=hBt y3 (List.mem_cons_of_mem _ (List.mem_cons_of_mem _ List.mem_cons_self))
   have hn:=next_4 (t:=t1) hsz hy1.1 hy1.2 hy2.1 hy2.2 hy3.1 hy3.2
   obtain ⟨_,r1,e1,_,hr1,hc1,rfl⟩:=hl2.get (i:=1) (by simp)
   cases e1
   have cy1:=hc1 0 _ rfl
   obtain ⟨_,r2,e2,_,hr2,hc2,rfl⟩:=hl2.get (i:=2) (by simp)
   cases e2
   have cy2:=hc2 0 _ rfl
   obtain ⟨_,r3,e3,_,hr3,hc3,rfl⟩:=hl2.get (i:=3) (by simp)
   cases e3
   have cy3:=hc3 0 _ rfl
   refine ixK_n (j:=1) (by simp) (qld1K_i (fun w' g=>g.cell cy1 fun h=>h) ?_)
   rw [faK_i]
   refine qld1K_i (fun w' g=>g.cell c6a fun h=>h) ?_
   show ltK .u8 (.int .u8 y1) _ _
   rw [ltK_i]
   refine condK_p (fun hb1=>fun W' g'=>bad (by rw [hn,if_neg (by omega)]) (gW2.trans g')) fun hb1=>?_
   rw [faK_i]
   refine qld1K_i (fun w' g=>g.cell c6b fun h=>h) ?_
   refine ixK_n (j:=1) (by simp) (qld1K_i (fun w' g=>g.cell cy1 fun h=>h) ?_)
   show ltK .u8 _ (.int .u8 y1) _
   rw [ltK_i]
   refine condK_p (fun hb2=>fun W' g'=>bad (by rw [hn,if_neg (by omega)]) (gW2.trans g')) fun hb2=>?_
   refine ixK_n (j:=2) (by simp) (qld1K_i (fun w' g=>g.cell cy2 fun h=>h) ?_)
   show ltK .u8 (.int .u8 y2) _ _
   rw [ltK_i]
   refine condK_p (fun hb3=>fun W' g'=>bad (by rw [hn,if_neg (by omega)]) (gW2.trans g')) fun hb3=>?_
   refine ixK_n (j:=2) (by simp) (qld1K_i (fun w' g=>g.cell cy2 fun h=>h) ?_)
   show ltK .u8 _ (.int .u8 y2) _
   rw [ltK_i]
   refine condK_p (fun hb4=>fun W' g'=>bad (by rw [hn,if_neg (by omega)]) (gW2.trans g')) fun hb4=>?_
   refine ixK_n (j:=3) (by simp) (qld1K_i (fun w' g=>g.cell cy3 fun h=>h) ?_)
   show ltK .u8 (.int .u8 y3) _ _
   rw [ltK_i]
   refine condK_p (fun hb5=>fun W' g'=>bad (by rw [hn,if_neg (by omega)]) (gW2.trans g')) fun hb5=>?_
   refine ixK_n (j:=3) (by simp) (qld1K_i (fun w' g=>g.cell cy3 fun h=>h) ?_)
   show ltK .u8 _ (.int .u8 y3) _
   rw [ltK_i]
   intro W' g'
   refine condK_p (fun hb6=>bad (by rw [hn,if_neg (by omega)]) (gW2.trans g')) fun hb6=>?_
   exact ⟨g',by simp,good (by rw [hn,if_pos (by omega)]) (by decide)⟩
  ·exact bad (next_bad hB (by omega) (by have:=hdSize_v x;omega)) gW2
end Go.Proofs.YtlbaopamhkmepaaGreatDoor

namespace Go.Proofs.YtlbaopamhkmepaaGreatDoor
open Go Go.K

def uvB:Nat→Nat→List Int
 | 0,n=>[(n:Int)]
 | f+1,n=>if n≤127 then [(n:Int)] else ((n % 128+128:Nat):Int) :: uvB f (n / 128)
def uv (n:Nat):List Int:=uvB 9 n
def InA (a:Attr):Prop:=(-9223372036854775808≤a.key∧a.key≤9223372036854775807)∧(0≤a.val.kind∧a.val.kind < 256)∧(-9223372036854775808≤a.val.n∧a.val.n≤9223372036854775807)∧(0≤a.val.f∧a.val.f < 18446744073709551616)∧a.val.s.size < 18446744073709551616
theorem bytesL_len (s:ByteArray):(bytesL s).length=s.size:=by simp [bytesL]
end Go.Proofs.YtlbaopamhkmepaaGreatDoor

namespace Go.Proofs.YtlbaopamhkmepaaGreatDoor
open Go Go.K

def strOf (l:List Int):ByteArray:=⟨(l.map fun x=>UInt8.ofNat x.toNat).toArray⟩
theorem bytesL_strOf {l:List Int} (h:∀ x ∈ l,0≤x∧x < 256):bytesL (strOf l)=l:=by
 unfold bytesL strOf
 simp only [List.map_map]
 conv=>rhs;rw [←List.map_id l]
 refine List.map_congr_left fun x hx=>?_
 have:=h x hx
 simp only [Function.comp,UInt8.toNat_ofNat',id]
 omega
end Go.Proofs.YtlbaopamhkmepaaGreatDoor

namespace Go.K
open Go
def posAt (w:World) (r:Nat):Nat:=match w.heap[r]? with | some (.stringIter _ p)=>p | _=>0
theorem run_next_str {P:Program} {w:World} {r:Nat} {s:ByteArray} {pos:Nat} {ty:TypeId} (h:w.heap[r]?=some (.stringIter s pos)) (hp:pos < s.size) :
  (Instr.next (.pointer (some ⟨r,0,none⟩)) true ty).run P w=.ok (.tuple #[.bool true,.int .i64 pos,.int .i32 (Utf8.decode s pos).1]) { w with heap:=w.heap.setIfInBounds r (.stringIter s (pos+(Utf8.decode s pos).2)) }:=by
 simp only [Instr.next,getObj,setObj,Sem.run_bind,Sem.run,h,Result.andThen,hp,if_true]
 simp [goInt]
theorem run_next_over {P:Program} {w:World} {r:Nat} {s:ByteArray} {pos:Nat} {ty:TypeId} (h:w.heap[r]?=some (.stringIter s pos)) (hp:¬ pos < s.size) :
  (Instr.next (.pointer (some ⟨r,0,none⟩)) true ty).run P w=.ok (.tuple #[.bool false]) w:=by
 simp only [Instr.next,getObj,Sem.run_bind,Sem.run,h,Result.andThen,hp,if_false]
 rfl
theorem Mod.setObj (w:World) (r:Nat) (o o':Obj) (h:w.heap[r]?=some o):Mod (fun b=>b=r) w { w with heap:=w.heap.setIfInBounds r o' }:=
 ⟨rfl,rfl,rfl,by simp,fun x _ hx=>(MapKept.heap_set h).2 x hx⟩
end Go.K
namespace Go.Proofs.YtlbaopamhkmepaaGreatDoor
open Go Go.K

theorem run_str {S:Nat→Prop} {v:Value} {b:List Int} {w:World} (h:RBytes S w v b) (hb:ByteL b):(convert 70 9 v).run Tryz.prog w=.ok (.string (strOf b)) w:=by
 obtain ⟨a,c,rfl,hm⟩:=h.shape
 cases a with
 | none=>
  have:b=[]:=by
   cases b with
   | nil=>rfl
   | cons x b=>obtain ⟨p,r,e,_⟩:=h.get (i:=0) (by simp);cases e
  subst this
  exact run_convert_bytes_nil w 70 5 (by kernel_rfl) (by kernel_rfl) _ _ _ (by kernel_rfl)
 | some p=>
  have hl:(b.map fun x=>UInt8.ofNat x.toNat).length=b.length:=by simp
  have:=run_convert_bytes_back (P:=Tryz.prog) w 70 9 5 p c (b.map fun x=>UInt8.ofNat x.toNat) (by kernel_rfl) (by kernel_rfl) (by kernel_rfl) (fun j hj=>by
   rw [hl] at hj
   obtain ⟨_,r,e,_,hr,hc,rfl⟩:=h.get hj
   cases e
   have:=hc 0 _ rfl
   rw [Nat.mul_one,Nat.add_zero] at this
   rw [this]
   have hbj:=hb b[j] (List.getElem_mem hj)
   simp only [List.getElem_map,UInt8.toNat_ofNat']
   congr 2
   omega)
  rw [hl] at this
  exact this
theorem decode_next {s:ByteArray} {pos:Nat} {r:Int} {n:Nat} (hp:pos < s.size) (h:nextB ((bytesL s).drop pos)=(r,n)) (hn:n≠0):((Utf8.decode s pos).1:Int)=r∧(Utf8.decode s pos).2=n:=by
 have hat:∀ k c,((bytesL s).drop pos)[k]?=some c→pos+k < s.size∧(((s.get! (pos+k)).toNat:Nat):Int)=c:=by
  intro k c hc
  rw [List.getElem?_drop] at hc
  have hlt:pos+k < s.size:=by
   have:=(List.getElem?_eq_some_iff.1 hc).1
   rwa [bytesL_len] at this
  refine ⟨hlt,?_⟩
  have hg:s.get! (pos+k)=s[pos+k]'hlt:=by
   simp [ByteArray.get!,getElem!_pos,hlt]
   rfl
  rw [hg]
  simp only [bytesL,List.getElem?_map] at hc
  have hlt':pos+k < s.data.toList.length:=by simpa using hlt
  rw [List.getElem?_eq_getElem hlt'] at hc
  have:=Option.some.inj hc
  exact this
 have hB:ByteL ((bytesL s).drop pos):=fun x hx=>by
  have:=List.mem_of_mem_drop hx
  simp only [bytesL,List.mem_map] at this
  obtain ⟨b,_,rfl⟩:=this
  have:=b.toNat_lt
  omega
 have hne:((bytesL s).drop pos).length≠0:=by rw [List.length_drop,bytesL_len];omega
 generalize (bytesL s).drop pos=l at h hat hB hne
 obtain ⟨b0,t,rfl⟩:∃ x t,l=x :: t:=by cases l with | nil=>simp at hne | cons x t=>exact ⟨x,t,rfl⟩
 obtain ⟨_,e0⟩:=hat 0 b0 rfl
 have h0:=hB b0 List.mem_cons_self
 generalize hm0:(s.get! (pos+0)).toNat=m0 at e0
 by_cases ha:b0 < 128
 ·rw [next_ascii h0.1 ha] at h
  cases h
  simp only [Utf8.decode,hm0]
  rw [if_pos (by omega)]
  exact ⟨e0,rfl⟩
 rcases hdSize_v b0 with hz | hz | hz | hz
 ·rw [next_bad hB (by omega) hz] at h
  cases h;exact absurd rfl hn
 ·cases t with
  | nil=>rw [next_short h0.2 (by rw [hz];simp)] at h;cases h;exact absurd rfl hn
  | cons c1 t=>
   have h1:=hB c1 (by simp)
   obtain ⟨l1,e1⟩:=hat 1 c1 rfl
   generalize hm1:(s.get! (pos+1)).toNat=m1 at e1
   rw [next_2 hz h1.1 h1.2] at h
   split at h
   ·rename_i hc
    cases h
    have hb0:194≤b0∧b0 < 224:=by
     unfold hdSize at hz
     (repeat' split at hz) <;> omega
    have hlo:128≤hdLo b0:=by
     unfold hdLo
     split
     ·decide
     ·split <;> decide
    have hhi:hdHi b0≤191:=by
     unfold hdHi
     split
     ·decide
     ·split <;> decide
    have q1:(m0 / 32 == 6 && (decide (pos+1 < s.size) && m1 / 64 == 2))=true:=by
     simp only [Bool.and_eq_true,beq_iff_eq,decide_eq_true_eq]
     exact ⟨by omega,l1,by omega⟩
    simp only [Utf8.decode,hm0,hm1]
    rw [if_neg (by omega),if_pos q1,if_pos (by omega)]
    exact ⟨by omega,rfl⟩
   ·cases h;exact absurd rfl hn
 ·rcases t with _ | ⟨c1,_ | ⟨c2,t⟩⟩
  ·rw [next_short h0.2 (by rw [hz];simp)] at h;cases h;exact absurd rfl hn
  ·rw [next_short h0.2 (by rw [hz];simp)] at h;cases h;exact absurd rfl hn
  ·have h1:=hB c1 (by simp)
   have h2:=hB c2 (by simp)
   obtain ⟨l1,e1⟩:=hat 1 c1 rfl
   obtain ⟨l2,e2⟩:=hat 2 c2 rfl
   generalize hm1:(s.get! (pos+1)).toNat=m1 at e1
   generalize hm2:(s.get! (pos+2)).toNat=m2 at e2
   rw [next_3 hz h1.1 h1.2 h2.1 h2.2] at h
   split at h
   ·rename_i hc
    cases h
    have hb0:224≤b0∧b0 < 240:=by
     unfold hdSize at hz
     (repeat' split at hz) <;> omega
    have hlo:(if b0=224 then (160:Int) else 128)≤c1:=by
     refine Int.le_trans ?_ hc.1.1
     unfold hdLo
     split
     ·decide
     ·split <;> decide
    have hhi:c1≤(if b0=237 then (159:Int) else 191):=by
     refine Int.le_trans hc.1.2 ?_
     unfold hdHi
     split
     ·decide
     ·split <;> decide
    have hlo2:128≤c1:=by split at hlo <;> omega
    have hhi2:c1≤191:=by split at hhi <;> omega
    have q1:¬ (m0 / 32 == 6 && (decide (pos+1 < s.size) && m1 / 64 == 2))=true:=by
     simp only [Bool.and_eq_true,beq_iff_eq,decide_eq_true_eq]
     rintro ⟨x,_⟩;omega
    have q2:(m0 / 16 == 14 && (decide (pos+1 < s.size) && m1 / 64 == 2) && (decide (pos+2 < s.size) && m2 / 64 == 2))=true:=by
     simp only [Bool.and_eq_true,beq_iff_eq,decide_eq_true_eq]
     exact ⟨⟨by omega,l1,by omega⟩,l2,by omega⟩
    have q3:(decide (m0 % 16 * 4096+m1 % 64 * 64+m2 % 64 ≥ 2048) && Utf8.valid ((m0 % 16 * 4096+m1 % 64 * 64+m2 % 64:Nat):Int))=true:=by
     simp only [Utf8.valid,Bool.and_eq_true,Bool.or_eq_true,decide_eq_true_eq]
     refine ⟨by split at hlo <;> omega,?_⟩
     split at hhi
     ·left;omega
     ·by_cases hb:b0 < 237
      ·left;omega
      ·right;omega
    simp only [Utf8.decode,hm0,hm1,hm2]
    rw [if_neg (by omega),if_neg q1,if_pos q2,if_pos q3]
    exact ⟨by omega,rfl⟩
   ·cases h;exact absurd rfl hn
 ·rcases t with _ | ⟨c1,_ | ⟨c2,_ | ⟨c3,t⟩⟩⟩
  ·rw [next_short h0.2 (by rw [hz];simp)] at h;cases h;exact absurd rfl hn
  ·rw [next_short h0.2 (by rw [hz];simp)] at h;cases h;exact absurd rfl hn
  ·rw [next_short h0.2 (by rw [hz];simp)] at h;cases h;exact absurd rfl hn
  ·have h1:=hB c1 (by simp)
   have h2:=hB c2 (by simp)
   have h3:=hB c3 (by simp)
   obtain ⟨l1,e1⟩:=hat 1 c1 rfl
   obtain ⟨l2,e2⟩:=hat 2 c2 rfl
   obtain ⟨l3,e3⟩:=hat 3 c3 rfl
   generalize hm1:(s.get! (pos+1)).toNat=m1 at e1
   generalize hm2:(s.get! (pos+2)).toNat=m2 at e2
   generalize hm3:(s.get! (pos+3)).toNat=m3 at e3
   rw [next_4 hz h1.1 h1.2 h2.1 h2.2 h3.1 h3.2] at h
   split at h
   ·rename_i hc
    cases h
    have hb0:240≤b0∧b0 < 245:=by
     unfold hdSize at hz
     (repeat' split at hz) <;> omega
    have hlo:(if b0=240 then (144:Int) else 128)≤c1:=by
     refine Int.le_trans ?_ hc.1.1
     unfold hdLo
     rw [if_neg (show ¬ b0=224 by omega)]
     exact Int.le_refl _
    have hhi:c1≤(if b0=244 then (143:Int) else 191):=by
     refine Int.le_trans hc.1.2 ?_
     unfold hdHi
     rw [if_neg (show ¬ b0=237 by omega)]
     exact Int.le_refl _
    have hlo2:128≤c1:=by split at hlo <;> omega
    have hhi2:c1≤191:=by split at hhi <;> omega
    have q1:¬ (m0 / 32 == 6 && (decide (pos+1 < s.size) && m1 / 64 == 2))=true:=by
     simp only [Bool.and_eq_true,beq_iff_eq,decide_eq_true_eq]
     rintro ⟨x,_⟩;omega
    have q2:¬ (m0 / 16 == 14 && (decide (pos+1 < s.size) && m1 / 64 == 2) && (decide (pos+2 < s.size) && m2 / 64 == 2))=true:=by
     simp only [Bool.and_eq_true,beq_iff_eq,decide_eq_true_eq]
     rintro ⟨⟨x,_⟩,_⟩;omega
    have q3:(m0 / 8 == 30 && (decide (pos+1 < s.size) && m1 / 64 == 2) && (decide (pos+2 < s.size) && m2 / 64 == 2) && (decide (pos+3 < s.size) && m3 / 64 == 2))=true:=by
     simp only [Bool.and_eq_true,beq_iff_eq,decide_eq_true_eq]
     exact ⟨⟨⟨by omega,l1,by omega⟩,l2,by omega⟩,l3,by omega⟩
    have q4:(decide (m0 % 8 * 262144+m1 % 64 * 4096+m2 % 64 * 64+m3 % 64 ≥ 65536) && Utf8.valid ((m0 % 8 * 262144+m1 % 64 * 4096+m2 % 64 * 64+m3 % 64:Nat):Int))=true:=by
     simp only [Utf8.valid,Bool.and_eq_true,Bool.or_eq_true,decide_eq_true_eq]
     refine ⟨by split at hlo <;> omega,?_⟩
     right
     split at hhi <;> omega
    simp only [Utf8.decode,hm0,hm1,hm2,hm3]
    rw [if_neg (by omega),if_neg q1,if_neg q2,if_pos q3,if_pos q4]
    exact ⟨by omega,rfl⟩
   ·cases h;exact absurd rfl hn
theorem runes_ok {S:Nat→Prop} {v:Value} {b:List Int} {w:World} (h:RBytes S w v b) (hb:ByteL b) (hT:Tabs w) (hl:b.length * 4≤140737488355328) :
  callK Tryz.prog 114 [v] (fun v' w'=>Grow w w'∧match readB b with
   | some l=>∃ sl,v'=.tuple #[sl,.int .i64 0]∧OwnR w.heap.size 21 1 RRune w' sl l
   | none=>v'=.tuple #[.slice none 0 0,.int .i64 3]) w:=by
 apply S114_ok
 unfold S114
 refine callK_mono (valid_ok h hb hT) ?_
 rintro _ w1 ⟨rfl,g1⟩
 rw [notK_i]
 cases hr:readB b with
 | none=>exact condK_t ⟨g1,rfl⟩
 | some rs=>
  refine condK_f (runK_i (run_str (h.grow g1 (by decide) fun _ _ h=>h) hb) ?_)
  have hs:bytesL (strOf b)=b:=bytesL_strOf hb
  have hsz:(strOf b).size=b.length:=by rw [←bytesL_len,hs]
  generalize strOf b=s at hs hsz
  refine runK_i (run_range_string w1 9 s (by kernel_rfl)) ?_
  have hit:=World.iter_heap w1 s 0
  have g2:Grow w1 (w1.iter s 0):=Mod.alloc _ _ _
  have hr1:=g1.size
  generalize w1.iter s 0=w2 at hit g2
  generalize hrb:w1.heap.size=r at hit
  have hrw:w.heap.size≤r:=by omega
  refine LoopK_i (fun vs W=>∃ (pos:Nat) (lv:Value) (acc:List Int),pos≤b.length∧acc.length≤pos∧vs=[lv]∧W.heap[r]?=some (.stringIter s pos)∧OwnR w.heap.size 21 1 RRune W lv acc∧lv.ownBlock≠some r∧Grow w W∧readB b=(readB (b.drop pos)).map (acc++·)) (fun _ W=>b.length - posAt W r)
   ⟨0,_,[],Nat.zero_le _,Nat.le_refl _,rfl,hit,OwnR.nil,(fun h=>nomatch h),g1.trans g2,by simp⟩ ?_
  rintro vs W ⟨pos,lv,acc,hpos,hacc,rfl,hi,ho,hrn,gW,hrd⟩ _
  have hposAt:posAt W r=pos:=by simp [posAt,hi]
  by_cases hlt:pos < s.size
  ·have hlt':pos < b.length:=by omega
   have hne:b.drop pos≠[]:=by intro e;have:=congrArg List.length e;simp at this;omega
   have hnl:=nextB_len (b.drop pos)
   rw [List.length_drop] at hnl
   rw [readB_cons hne] at hrd
   have hnx:∃ q n,nextB (b.drop pos)=(q,n):=⟨_,_,rfl⟩
   obtain ⟨q,n,hq⟩:=hnx
   rw [hq] at hrd hnl
   simp only at hrd hnl
   have hn:n≠0:=by
    intro e
    rw [if_pos e,hr] at hrd
    cases hrd
   rw [if_neg hn] at hrd
   obtain ⟨d1,d2⟩:=decode_next (s:=s) hlt (by rw [hs];exact hq) hn
   refine runK_i (run_next_str hi hlt) ?_
   rw [d1,d2]
   refine extK_i (vs:=[_,_,_]) (by rfl) (condK_t (extK_i (vs:=[_,_,_]) (by rfl) ?_))
   have m3:=Mod.setObj W r _ (.stringIter s (pos+n)) hi
   have hi3:=(MapKept.heap_set (o':=.stringIter s (pos+n)) hi).1
   have hi3':({ W with heap:=W.heap.setIfInBounds r (.stringIter s (pos+n)) }:World).heap[r]?=some (.stringIter s (pos+n)):=hi3
   generalize ({ W with heap:=W.heap.setIfInBounds r (.stringIter s (pos+n)) }:World)=W3 at m3 hi3'
   have ho3:OwnR w.heap.size 21 1 RRune W3 lv acc:=OwnR.mod ho m3 (fun g hg e=>hrn (e ▸ hg)) fun _ _ _ h=>h
   have gW3:Grow w W3:=gW.next m3 fun x hx e=>by omega
   show rowK _ _ _ _ [(0,.int .i32 q)] _ _
   refine push_g elem_rune ho3 gW3.size (cs:=[.int .i32 q]) (x:=q) (by kernel_rfl) rfl rfl (fun _ _ _=>RRune.one) (fun _ _ _ _ _ _ h=>h) (by omega) (by simp only [maxLen];omega) fun v' w' h1 h2 h3=>?_
   have hrlt:r < W3.heap.size:=(Array.getElem?_eq_some_iff.1 hi3').1
   have hi4:w'.heap[r]?=some (.stringIter s (pos+n)):=(h2.same r hrlt hrn).trans hi3'
   refine ⟨⟨pos+n,v',acc++[q],by omega,by simp;omega,rfl,hi4,h1,fun e=>?_,gW3.next h2 fun x hx e=>?_,?_⟩,?_⟩
   ·rcases h3 r e with e | e
    ·exact hrn e
    ·omega
   ·have:=(OwnR.ownB ho3 x e).1
    omega
   ·rw [hrd,List.drop_drop]
    cases readB (b.drop (pos+n)) <;> simp
   ·rw [hposAt]
    have:posAt w' r=pos+n:=by simp [posAt,hi4]
    rw [this]
    omega
  ·refine runK_i (run_next_over hi hlt) ?_
   refine extK_i (vs:=[_]) (by rfl) (condK_f ?_)
   have:pos=b.length:=by omega
   subst this
   rw [List.drop_length,readB_nil,hr] at hrd
   simp only [Option.map_some,Option.some.injEq,List.append_nil] at hrd
   subst hrd
   exact ⟨gW,lv,rfl,ho⟩
end Go.Proofs.YtlbaopamhkmepaaGreatDoor

namespace Go.Proofs.YtlbaopamhkmepaaGreatDoor
open Go Go.K

theorem ext_bits {n:Nat} {w:World}:(callFunc 217 #[.float .f64 n]).run Tryz.prog w=.ok (.value (.int .u64 n)) w:=by
 have h:Tryz.prog.funcs[217]?=some Tryz.f217:=Tryz.func217
 have e0 : (Tryz.f217.name == "runtime.NumGoroutine") = false := by kernel_rfl
 have e1:Tryz.f217.body.isNone=true:=by kernel_rfl
 have e2:Extern.findNext Tryz.f217=none:=by kernel_rfl
 have e3:Extern.find Tryz.f217=some Extern.MathFloatBits.float64bits:=by kernel_rfl
 simp only [callFunc,program,mark,Sem.run_bind,Sem.run,Result.andThen,h,e0,e1,e2,e3,Bool.false_eq_true,if_false,if_true]
 rfl
theorem ext_from {n:Int} {w:World}:(callFunc 209 #[.int .u64 n]).run Tryz.prog w=.ok (.value (.float .f64 n.toNat)) w:=by
 have h:Tryz.prog.funcs[209]?=some Tryz.f209:=Tryz.func209
 have e0 : (Tryz.f209.name == "runtime.NumGoroutine") = false := by kernel_rfl
 have e1:Tryz.f209.body.isNone=true:=by kernel_rfl
 have e2:Extern.findNext Tryz.f209=none:=by kernel_rfl
 have e3:Extern.find Tryz.f209=some Extern.MathFloatBits.float64frombits:=by kernel_rfl
 simp only [callFunc,program,mark,Sem.run_bind,Sem.run,Result.andThen,h,e0,e1,e2,e3,Bool.false_eq_true,if_false,if_true]
 rfl
theorem isnan_ok {n:Nat} {w:World}:callK Tryz.prog 216 [.float .f64 n] (fun v w'=>v=.bool (decide (NoNum (n:Int)))∧w'=w) w:=by
 apply S216_ok
 unfold S216
 refine runK_i (v:=.bool (decide (NoNum (n:Int)))) (w':=w) ?_ ⟨rfl,rfl⟩
 rw [←order_self]
 simp [binS,eqGuard,binOp,Op.floatCmp]
theorem flag_ok {b:Bool} {w:World}:callK Tryz.prog 206 [.bool b] (fun v w'=>v=.agg (⟨1,if b then 1 else 0,0,noS⟩:AVal).cells.toArray∧Grow w w') w:=by
 apply S206_ok
 unfold S206
 refine newz_i fun b2 w1 hb2 hz2 g2 _ hl2=>?_
 refine ⟨(⟨1,0,0,noS⟩:AVal).cells.toArray,by kernel_rfl,?_⟩
 refine newst_n (vs:=(⟨1,0,0,noS⟩:AVal).cells) rfl rfl (AVal.one _) fun b3 w2 hb3 hz3 g3 hc3 hl3=>?_
 have g23:=g2.trans g3
 cases b with
 | true=>
  refine condK_t ?_
  rw [faK_i]
  refine (hl3 1 (by decide)).st rfl rfl ?_
  rw [addr0]
  have m:=Mod.setCell (M:=fun x=>x=b3) w2 ⟨b3,1,none⟩ (.int .i64 1) rfl
  have hc:∀ j u,(⟨1,1,0,noS⟩:AVal).cells[j]?=some u→(w2.setCell ⟨b3,1,none⟩ (.int .i64 1)).cell? ((⟨b3,0,none⟩:Addr).add j)=some u:=by
   intro j u hu
   rw [addr0]
   by_cases e:j=1
   ·subst e
    have h1:=(hl3 1 (by decide)).1
    rw [addr0] at h1
    obtain ⟨u',hu'⟩:=Option.isSome_iff_exists.1 h1
    cases hu
    exact World.cell?_setCell_same _ _ _ hu'
   ·rw [World.cell?_setCell_other _ _ _ _ (fun e'=>by simp only [Addr.mk.injEq] at e';exact e e'.2.1.symm)]
    have:=hc3 j u (by
     rcases j with _ | _ | _ | _ | j
     ·exact hu
     ·exact absurd rfl e
     ·exact hu
     ·exact hu
     ·exact hu)
    rwa [addr0] at this
  have hl2':=fun j hj=>((hl2 j hj).mod g3 fun h=>h).mod m (fun e=>by rw [addr0] at e;have:b2=b3:=e;omega)
  generalize w2.setCell ⟨b3,1,none⟩ (.int .i64 1)=w3 at m hc hl2' ⊢
  refine ldnK_i (vs:=(⟨1,1,0,noS⟩:AVal).cells) rfl hc ?_
  refine stn_over rfl (AVal.one _) (fun j hj=>hl2' j hj) fun w4 m4 hc4 _=>?_
  refine ldnK_i (vs:=(⟨1,1,0,noS⟩:AVal).cells) rfl hc4 ⟨rfl,?_⟩
  exact (g23.next m fun x hx e=>by omega).next m4 fun x hx e=>by omega
 | false=>
  refine condK_f ?_
  refine ldnK_i (vs:=(⟨1,0,0,noS⟩:AVal).cells) rfl hc3 ?_
  refine stn_over rfl (AVal.one _) (fun j hj=>(hl2 j hj).mod g3 fun h=>h) fun w4 m4 hc4 _=>?_
  refine ldnK_i (vs:=(⟨1,0,0,noS⟩:AVal).cells) rfl hc4 ⟨rfl,?_⟩
  exact g23.next m4 fun x hx e=>by omega
theorem int_ok {n:Int} {w:World}:callK Tryz.prog 207 [.int .i64 n] (fun v w'=>v=.agg (⟨2,n,0,noS⟩:AVal).cells.toArray∧Grow w w') w:=by
 apply S207_ok
 unfold S207
 refine newz_i fun b2 w1 hb2 hz2 g2 _ hl2=>?_
 refine ⟨(⟨2,n,0,noS⟩:AVal).cells.toArray,by kernel_rfl,?_⟩
 refine stn_over rfl (AVal.one _) (fun j hj=>hl2 j hj) fun w4 m4 hc4 _=>?_
 refine ldnK_i (vs:=(⟨2,n,0,noS⟩:AVal).cells) rfl hc4 ⟨rfl,?_⟩
 exact g2.next m4 fun x hx e=>by omega
theorem float_ok {n:Nat} {w:World}:callK Tryz.prog 208 [.float .f64 n] (fun v w'=>v=.agg (⟨3,0,if NoNum (n:Int) then 9221120237041090560 else n,noS⟩:AVal).cells.toArray∧Grow w w') w:=by
 apply S208_ok
 unfold S208
 refine newz_i fun b2 w1 hb2 hz2 g2 _ hl2=>?_
 refine callK_mono isnan_ok ?_
 rintro _ _ ⟨rfl,rfl⟩
 rename World=>w1
 by_cases hn:NoNum (n:Int)
 ·rw [decide_eq_true hn]
  refine condK_t ⟨(⟨3,0,9221120237041090560,noS⟩:AVal).cells.toArray,by kernel_rfl,?_⟩
  refine stn_over rfl (AVal.one _) (fun j hj=>hl2 j hj) fun w4 m4 hc4 _=>?_
  refine ldnK_i (vs:=(⟨3,0,9221120237041090560,noS⟩:AVal).cells) rfl hc4 ⟨by rw [if_pos hn],?_⟩
  exact g2.next m4 fun x hx e=>by omega
 ·rw [decide_eq_false hn]
  refine condK_f ⟨_,_,ext_bits,?_⟩
  refine ⟨(⟨3,0,(n:Int),noS⟩:AVal).cells.toArray,by kernel_rfl,?_⟩
  refine stn_over rfl (AVal.one _) (fun j hj=>hl2 j hj) fun w4 m4 hc4 _=>?_
  refine ldnK_i (vs:=(⟨3,0,(n:Int),noS⟩:AVal).cells) rfl hc4 ⟨by rw [if_neg hn],?_⟩
  exact g2.next m4 fun x hx e=>by omega
def TextOK (s:ByteArray):Prop:=s.size≤64∧(readB (bytesL s)).isSome=true
instance (s:ByteArray):Decidable (TextOK s):=by unfold TextOK;infer_instance
theorem bytesL_byte (s:ByteArray):ByteL (bytesL s):=fun x hx=>by
 simp only [bytesL,List.mem_map] at hx
 obtain ⟨b,_,rfl⟩:=hx
 have:=b.toNat_lt
 omega
theorem text_ok {s:ByteArray} {w:World} (hT:Tabs w):callK Tryz.prog 210 [.string s] (fun v w'=>v=(if TextOK s then .tuple #[.agg (⟨4,0,0,s⟩:AVal).cells.toArray,.int .i64 0] else .tuple #[.agg (⟨0,0,0,noS⟩:AVal).cells.toArray,.int .i64 3])∧Grow w w') w:=by
 apply S210_ok
 unfold S210
 refine newz_i fun b2 w1 hb2 hz2 g2 _ hl2=>?_
 rw [slenK_i,gtK_i]
 refine condK_p (fun hbig=>?_) fun hle=>?_
 ·refine ⟨(⟨0,0,0,noS⟩:AVal).cells.toArray,by kernel_rfl,?_⟩
  refine stn_over rfl (AVal.one _) (fun j hj=>hl2 j hj) fun w4 m4 hc4 _=>?_
  refine ldnK_i (vs:=(⟨0,0,0,noS⟩:AVal).cells) rfl hc4 ⟨by rw [if_neg (fun h=>by have:=h.1;omega)],?_⟩
  exact g2.next m4 fun x hx e=>by omega
 ·refine strbytes (by omega) fun v3 w3 g3 hb3=>?_
  have g23:=g2.trans g3
  have hl3:∀ j,j < 4→Live w3 ((⟨b2,0,none⟩:Addr).add j):=fun j hj=>(hl2 j hj).mod g3 fun h=>h
  refine callK_mono (runes_ok hb3 (bytesL_byte s) (hT.grow g23) (by rw [bytesL_len];omega)) ?_
  rintro v5 w5 ⟨g5,hm⟩
  have hl5:∀ j,j < 4→Live w5 ((⟨b2,0,none⟩:Addr).add j):=fun j hj=>(hl3 j hj).mod g5 fun h=>h
  have g25:=g23.trans g5
  cases hr:readB (bytesL s) with
  | none=>
   rw [hr] at hm
   subst hm
   refine extK_i (vs:=[_,_]) (by rfl) (extK_i (vs:=[_,_]) (by rfl) ?_)
   rw [neK_i]
   refine condK_neg (fun e=>by cases e) fun _=>?_
   refine ⟨(⟨0,0,0,noS⟩:AVal).cells.toArray,by kernel_rfl,?_⟩
   refine stn_over rfl (AVal.one _) (fun j hj=>hl5 j hj) fun w6 m6 hc6 _=>?_
   refine ldnK_i (vs:=(⟨0,0,0,noS⟩:AVal).cells) rfl hc6 ⟨by rw [if_neg (fun h=>by have:=h.2;rw [hr] at this;cases this)],?_⟩
   exact g25.next m6 fun x hx e=>by omega
  | some l=>
   rw [hr] at hm
   obtain ⟨sl,rfl,_⟩:=hm
   refine extK_i (vs:=[_,_]) (by rfl) (extK_i (vs:=[_,_]) (by rfl) ?_)
   rw [neK_i]
   refine condK_neg (fun _=>?_) fun e=>(e rfl).elim
   refine ⟨(⟨4,0,0,s⟩:AVal).cells.toArray,by kernel_rfl,?_⟩
   refine stn_over rfl (AVal.one _) (fun j hj=>hl5 j hj) fun w6 m6 hc6 _=>?_
   refine ldnK_i (vs:=(⟨4,0,0,s⟩:AVal).cells) rfl hc6 ⟨by rw [if_pos ⟨by omega,by rw [hr];rfl⟩],?_⟩
   exact g25.next m6 fun x hx e=>by omega
theorem vmay_ok {v:AVal} {w:World} (hT:Tabs w) (h0:0≤v.f) :
  callK Tryz.prog 191 [.agg v.cells.toArray] (fun v' w'=>v'=.bool (decide (ValOK v))∧Grow w w') w:=by
 apply S191_ok
 unfold S191
 refine boxn_i fun b w1 _ hz g hc _=>?_
 have l0:=hc 0 _ rfl
 have l1:=hc 1 _ rfl
 have l2:=hc 2 _ rfl
 have l3:=hc 3 _ rfl
 have key:∀ (b:Bool) w',Grow w w'→(b=true↔ValOK v)→Value.bool b=.bool (decide (ValOK v))∧Grow w w':=fun b w' g h=>⟨by congr 1;rw [Bool.eq_iff_iff,h,decide_eq_true_eq],g⟩
 have no:∀ w',Grow w w'→¬ ValOK v→Value.bool false=.bool (decide (ValOK v))∧Grow w w':=fun w' g h=>key false w' g (by simp only [Bool.false_eq_true,false_iff];exact h)
 have hall:∀ j u,v.cells[j]?=some u→w1.cell? ((⟨b,0,none⟩:Addr).add j)=some u:=hc
 simp only [faK_i]
 refine ld1K_i l0 ?_
 rw [eqK_i]
 refine condK_p (fun k1=>?_) fun k1=>?_
 ·refine drawK_i (fun w2=>Grow w1 w2) (Mod.drew _ _) ?_
  refine qldnK_i (vs:=v.cells) rfl (fun w2 g2 j u hu=>g2.cell (hall j u hu) fun h=>h) (qld1K_i (fun w2 g2=>g2.cell l1 fun h=>h) ?_)
  rw [eqK_i]
  refine ⟨_,fun w2 g2=>callK_mono flag_ok (by rintro _ w3 ⟨rfl,g3⟩;exact ⟨rfl,g2.trans g3⟩),?_⟩
  refine ⟨_,fun w2 _=>run_eq_val _ _ v ⟨1,if decide (v.n=1) then 1 else 0,0,noS⟩ w2,?_⟩
  intro w3 g3
  refine key _ _ (g.trans g3) ?_
  rw [decide_eq_true_eq]
  constructor
  ·intro e
   refine .inl ⟨k1,?_,?_⟩
   ·by_cases h1:v.n=1
    ·rw [h1];simpa [h1] using e
    ·have en:v.n=0:=by rw [e];simp [h1]
     rw [en];simpa [h1] using e
   ·by_cases h1:v.n=1
    ·exact .inr h1
    ·left;rw [e];simp [h1]
  ·rintro (h | h | h | h)
   ·obtain ⟨_,e,hn⟩:=h
    rcases hn with hn | hn
    ·rw [hn] at e ⊢;exact e
    ·rw [hn] at e ⊢;exact e
   ·omega
   ·omega
   ·omega
 rw [eqK_i]
 refine condK_p (fun k2=>?_) fun k2=>?_
 ·refine drawK_i (fun w2=>Grow w1 w2) (Mod.drew _ _) ?_
  refine qldnK_i (vs:=v.cells) rfl (fun w2 g2 j u hu=>g2.cell (hall j u hu) fun h=>h) (qld1K_i (fun w2 g2=>g2.cell l1 fun h=>h) ?_)
  refine ⟨_,fun w2 g2=>callK_mono int_ok (by rintro _ w3 ⟨rfl,g3⟩;exact ⟨rfl,g2.trans g3⟩),?_⟩
  refine ⟨_,fun w2 _=>run_eq_val _ _ v ⟨2,v.n,0,noS⟩ w2,?_⟩
  intro w3 g3
  refine key _ _ (g.trans g3) ?_
  rw [decide_eq_true_eq]
  refine ⟨fun h=>.inr (.inl ⟨k2,h⟩),fun h=>?_⟩
  rcases h with h | h | h | h
  ·omega
  ·exact h.2
  ·omega
  ·omega
 rw [eqK_i]
 refine condK_p (fun k3=>?_) fun k3=>?_
 ·refine drawK_i (fun w2=>Grow w1 w2) (Mod.drew _ _) ?_
  refine qldnK_i (vs:=v.cells) rfl (fun w2 g2 j u hu=>g2.cell (hall j u hu) fun h=>h) (qld1K_i (fun w2 g2=>g2.cell l2 fun h=>h) ?_)
  refine ⟨_,fun w2 _=>ext_from,?_⟩
  refine ⟨_,fun w2 g2=>callK_mono float_ok (by rintro _ w3 ⟨rfl,g3⟩;exact ⟨rfl,g2.trans g3⟩),?_⟩
  refine ⟨_,fun w2 _=>run_eq_val _ _ v _ w2,?_⟩
  intro w3 g3
  refine key _ _ (g.trans g3) ?_
  have ef:((v.f.toNat:Nat):Int)=v.f:=by omega
  rw [decide_eq_true_eq,ef]
  constructor
  ·intro e
   refine .inr (.inr (.inl ⟨k3,?_,?_⟩))
   ·by_cases hn:NoNum v.f
    ·rw [if_pos hn] at e
     have e2:v.f=9221120237041090560:=congrArg AVal.f e
     rw [e2];exact e
    ·rw [if_neg hn] at e;exact e
   ·by_cases hn:NoNum v.f
    ·rw [if_pos hn] at e
     exact .inr (congrArg AVal.f e)
    ·exact .inl hn
  ·rintro (h | h | h | h)
   ·omega
   ·omega
   ·obtain ⟨_,e,hn⟩:=h
    by_cases hh:NoNum v.f
    ·rw [if_pos hh]
     rw [hn.resolve_left fun x=>x hh] at e
     exact e
    ·rw [if_neg hh];exact e
   ·omega
 rw [eqK_i]
 refine condK_p (fun k4=>?_) fun k4=>no _ g ?_
 ·refine ld1K_i l3 (callK_mono (text_ok (hT.grow g)) ?_)
  rintro v3 w3 ⟨rfl,g3⟩
  have g03:=g.trans g3
  by_cases hx:TextOK v.s
  ·rw [if_pos hx]
   refine extK_i (vs:=[_,_]) (by rfl) (extK_i (vs:=[_,_]) (by rfl) ?_)
   refine newst_n (vs:=(⟨4,0,0,v.s⟩:AVal).cells) rfl rfl (AVal.one _) fun b4 w4 _ _ g4 hc4 _=>?_
   rw [eqK_i]
   refine condK_p (fun _=>?_) fun e=>(e rfl).elim
   refine ldnK_i (vs:=v.cells) rfl (fun j u hu=>(g3.trans g4).cell (hall j u hu) fun h=>h) ?_
   refine ldnK_i (vs:=(⟨4,0,0,v.s⟩:AVal).cells) rfl hc4 (runK_i (run_eq_val _ _ v ⟨4,0,0,v.s⟩ w4) ?_)
   refine key _ _ (g03.trans g4) ?_
   rw [decide_eq_true_eq]
   refine ⟨fun e=>.inr (.inr (.inr ⟨k4,e,hx.1,hx.2⟩)),fun h=>?_⟩
   rcases h with h | h | h | h
   ·omega
   ·omega
   ·omega
   ·exact h.2.1
  ·rw [if_neg hx]
   refine extK_i (vs:=[_,_]) (by rfl) (extK_i (vs:=[_,_]) (by rfl) ?_)
   refine newst_n (vs:=(⟨0,0,0,noS⟩:AVal).cells) rfl rfl (AVal.one _) fun b4 w4 _ _ g4 hc4 _=>?_
   rw [eqK_i]
   refine condK_p (fun e=>by cases e) fun _=>no _ (g03.trans g4) ?_
   rintro (h | h | h | h)
   ·omega
   ·omega
   ·omega
   ·exact hx ⟨h.2.2.1,h.2.2.2⟩
 ·rintro (h | h | h | h)
  ·exact k1 h.1
  ·exact k2 h.1
  ·exact k3 h.1
  ·exact k4 h.1
end Go.Proofs.YtlbaopamhkmepaaGreatDoor

namespace Go.K
open Go

section
variable {α:Type} [Inhabited α]
theorem flatK_toList (enc : α → List Value) (k : Nat) (hk : ∀ x, (enc x).length = k) (d : Array α) : (Sort.flatK enc k d).toList = (d.toList.map enc).flatten := by
  refine List.ext_getElem? fun t => ?_
  have hl : ∀ r ∈ d.toList.map enc, r.length = k := fun r hr => by obtain ⟨x, _, rfl⟩ := List.mem_map.1 hr; exact hk x
  have hfl : (d.toList.map enc).flatten.length = d.size * k := by rw [flat_len _ hl, List.length_map, Array.length_toList]
  by_cases ht : t < d.size * k
  · have k0 : 0 < k := by rcases Nat.eq_zero_or_pos k with h | h; · subst h; simp at ht
                          · exact h
    have hi : t / k < d.size := (Nat.div_lt_iff_lt_mul k0).2 ht
    have h1 := Sort.get_flatK enc k d t ht
    have h2 : (Sort.flatK enc k d).toList[t]? = some (Sort.flatK enc k d)[t]! := by
      have hs : t < (Sort.flatK enc k d).size := by simpa using ht
      rw [Array.getElem?_toList, Array.getElem?_eq_getElem hs, getElem!_pos _ t hs]
    rw [h2, h1]
    have h3 := flat_get (d.toList.map enc) (t / k) (t % k) (enc d[t / k]!) hl (by simp [hi]) (Nat.mod_lt _ k0)
    rw [Nat.div_add_mod' t k] at h3
    rw [h3]
    have hm : t % k < (enc d[t / k]!).length := by rw [hk]; exact Nat.mod_lt _ k0
    rw [List.getElem?_eq_getElem hm, getElem!_pos (enc d[t / k]!) _ hm]
  · rw [List.getElem?_eq_none (by simp; omega), List.getElem?_eq_none (by omega)]
theorem putCells_take (F cur:Array Value) (h:F.size≤cur.size):(Sort.putCells id 0 F cur).size=cur.size∧(Sort.putCells id 0 F cur).toList.take F.size=F.toList:=by
 refine ⟨by simp [Sort.putCells],List.ext_getElem? fun t=>?_⟩
 by_cases ht:t < F.size
 ·rw [List.getElem?_take,if_pos ht,Array.getElem?_toList,Array.getElem?_toList]
  have h1:t < cur.size:=by omega
  simp [Sort.putCells,ht,h1]
 ·rw [List.getElem?_take,if_neg ht,List.getElem?_eq_none (by simp;omega)]
theorem sortWorld_heap {enc:α→List Value} {k:Nat} {w:World} {g m e:Nat} {d:Array α} {os:Array Obj} {cur:Array Value} (hg:w.heap[g]?=some (.cells cur e (0,0))) :
  (Go.Proofs.sortWorldK enc k w g 0 m d os).heap[g]?=some (.cells (Sort.putCells id 0 (Sort.flatK enc k d) cur) e (0,0))∧Mod (fun b=>b=g) w (Go.Proofs.sortWorldK enc k w g 0 m d os):=by
 have hlt:g < w.heap.size:=(Array.getElem?_eq_some_iff.1 hg).1
 have hsz:(w.heap.modify g (Sort.onCells (Sort.putCells id 0 (Sort.flatK enc k d)))).size=w.heap.size:=by simp
 have eh:(Go.Proofs.sortWorldK enc k w g 0 m d os).heap=w.heap.modify g (Sort.onCells (Sort.putCells id 0 (Sort.flatK enc k d)))++os:=rfl
 refine ⟨?_,⟨rfl,rfl,rfl,by rw [eh,Array.size_append,hsz];omega,fun b hb hn=>?_⟩⟩
 ·rw [eh,Array.getElem?_append_left (by rw [hsz];exact hlt),Array.getElem?_modify,if_pos rfl,hg];rfl
 ·rw [eh,Array.getElem?_append_left (by rw [hsz];exact hb),Array.getElem?_modify,if_neg (fun h=>hn h.symm)]
theorem OwnR.sorted {B e k:Nat} {R:World→List Value→α→Prop} {enc:α→List Value} (hk:∀ x,(enc x).length=k) (h1:∀ x,∀ v ∈ enc x,v.oneCell'=true) (hR:∀ w r x,R w r x↔r=enc x) {w:World} {g n c:Nat} {l:List α} (h:OwnR B e k R w (.slice (some ⟨g,0,none⟩) n c) l) :
  n=l.length∧g < w.heap.size∧Sort.HoldsK enc k w g 0 l.toArray∧∀ (m:Nat) (d:Array α) (os:Array Obj),d.size=l.length→OwnR B e k R (Go.Proofs.sortWorldK enc k w g 0 m d os) (.slice (some ⟨g,0,none⟩) n c) d.toList∧Mod (fun b=>b=g) w (Go.Proofs.sortWorldK enc k w g 0 m d os):=by
 obtain ⟨rows,h2,h3,h4,h5⟩:=h
 obtain ⟨q1,q2⟩:=h2
 rcases q2 with ⟨q,_⟩ | ⟨g',cap,cur,q,hg,hh,hn,hm,hcs,hcur⟩
 ·cases q
 cases q
 have hlt:g < w.heap.size:=(Array.getElem?_eq_some_iff.1 hh).1
 have hrows:rows=l.map enc:=by
  refine List.ext_getElem? fun i=>?_
  rw [List.getElem?_map]
  by_cases hi:i < l.length
  ·have hir:i < rows.length:=by omega
   rw [List.getElem?_eq_getElem hi,List.getElem?_eq_getElem hir,Option.map_some]
   rw [(hR w rows[i] l[i]).1 (h5 i _ _ (List.getElem?_eq_getElem hir) (List.getElem?_eq_getElem hi))]
  ·rw [List.getElem?_eq_none (by omega),List.getElem?_eq_none (by omega)];rfl
 have hle:l.length * k≤c * k:=Nat.mul_le_mul_right _ hn
 refine ⟨rfl,hlt,fun j hj=>?_,fun m d os hd=>?_⟩
 ·rw [Sort.size_flatK] at hj
  have hjl:j < l.length * k:=by simpa using hj
  have hjc:j < cur.size:=by rw [hcs];omega
  have e0:(Sort.flatK enc k l.toArray).toList=rows.flatten:=by rw [flatK_toList enc k hk,hrows]
  have e1:rows.flatten[j]?=some (Sort.flatK enc k l.toArray)[j]!:=by
   have hs:j < (Sort.flatK enc k l.toArray).size:=by rw [Sort.size_flatK];exact hj
   rw [←e0,Array.getElem?_toList,Array.getElem?_eq_getElem hs,getElem!_pos _ j hs]
  rw [←hcur,List.getElem?_take,if_pos hjl,Array.getElem?_toList] at e1
  rw [Nat.zero_add]
  refine ⟨?_,?_⟩
  ·simp only [World.cell?,hh];exact e1
  ·simp [World.frozen?,hh]
 ·obtain ⟨r1,r2⟩:=sortWorld_heap (enc:=enc) (k:=k) (m:=m) (d:=d) (os:=os) hh
  refine ⟨⟨d.toList.map enc,⟨?_,.inr ⟨g,c,_,by have e:d.toList.length=l.length:=hd;rw [e],hg,r1,?_,hm,?_,?_⟩⟩,by simp,fun r hr=>?_,fun i r x hr hx=>?_⟩,r2⟩
  ·have:=flat_len (d.toList.map enc) (k:=k) fun r hr=>by obtain ⟨x,_,rfl⟩:=List.mem_map.1 hr;exact hk x
   simpa using this
  ·rw [Array.length_toList,hd];exact hn
  ·rw [(putCells_take (Sort.flatK enc k d) cur (by rw [Sort.size_flatK,hd,hcs];exact hle)).1];exact hcs
  ·have:=(putCells_take (Sort.flatK enc k d) cur (by rw [Sort.size_flatK,hd,hcs];exact hle)).2
   rw [Sort.size_flatK] at this
   rw [Array.length_toList,this,flatK_toList enc k hk]
  ·obtain ⟨x,_,rfl⟩:=List.mem_map.1 hr
   exact ⟨hk x,h1 x⟩
  ·rw [List.getElem?_map] at hr
   rw [hx] at hr
   exact (hR _ _ _).2 (Option.some.inj hr).symm
end
end Go.K

namespace Go.Proofs.YtlbaopamhkmepaaGreatDoor
open Go Go.K

def sortKey_ren:Go.Shelf.Ren:=⟨fun | 6=>45 | 15=>81 | 14=>80 | 28=>137 | 29=>138 | 20=>129 | 21=>130 | 22=>131 | 23=>132 | 24=>133 | 25=>134 | 26=>135 | 27=>136 | 46=>179 | 47=>180 | 48=>181 | 49=>182 | 50=>183 | 57=>202 | n=>n,fun | 22=>48 | 24=>84 | 25=>92 | 3=>3 | 39=>142 | 0=>0 | 53=>191 | 55=>34 | 4=>4 | 46=>184 | 45=>183 | 50=>188 | 5=>5 | 9=>9 | 66=>225 | 70=>228 | 76=>247 | 77=>43 | n=>n,fun | n=>n⟩
theorem sortKey:Go.Proofs.SlLaysF0.n6 Tryz.prog sortKey_ren:={
 mixed:=by kernel_rfl,
 f6:=⟨Tryz.f45.name,by decide,Tryz.func45.trans (congrArg some (by kernel_rfl))⟩,
 f14:=⟨Tryz.f80.name,by decide,Tryz.func80.trans (congrArg some (by kernel_rfl))⟩,
 f15:=Tryz.func81.trans (congrArg some (by kernel_rfl)),
 f20:=⟨Tryz.f129.name,by decide,Tryz.func129.trans (congrArg some (by kernel_rfl))⟩,
 f21:=⟨Tryz.f130.name,by decide,Tryz.func130.trans (congrArg some (by kernel_rfl))⟩,
 f22:=⟨Tryz.f131.name,by decide,Tryz.func131.trans (congrArg some (by kernel_rfl))⟩,
 f23:=⟨Tryz.f132.name,by decide,Tryz.func132.trans (congrArg some (by kernel_rfl))⟩,
 f24:=⟨Tryz.f133.name,by decide,Tryz.func133.trans (congrArg some (by kernel_rfl))⟩,
 f25:=⟨Tryz.f134.name,by decide,Tryz.func134.trans (congrArg some (by kernel_rfl))⟩,
 f26:=⟨Tryz.f135.name,by decide,Tryz.func135.trans (congrArg some (by kernel_rfl))⟩,
 f27:=⟨Tryz.f136.name,by decide,Tryz.func136.trans (congrArg some (by kernel_rfl))⟩,
 f28:=Tryz.func137.trans (congrArg some (by kernel_rfl)),
 f29:=Tryz.func138.trans (congrArg some (by kernel_rfl)),
 f46:=⟨Tryz.f179.name,by decide,Tryz.func179.trans (congrArg some (by kernel_rfl))⟩,
 f47:=Tryz.func180.trans (congrArg some (by kernel_rfl)),
 f48:=Tryz.func181.trans (congrArg some (by kernel_rfl)),
 f49:=⟨Tryz.f182.name,by decide,Tryz.func182.trans (congrArg some (by kernel_rfl))⟩,
 f50:=⟨Tryz.f183.name,by decide,Tryz.func183.trans (congrArg some (by kernel_rfl))⟩,
 f57:=⟨Tryz.f202.name,by decide,Tryz.func202.trans (congrArg some (by kernel_rfl))⟩,
 t0:=Tryz.underlying0,
 a0:=Tryz.isAgg0,
 z0:=Tryz.sizeOf0,
 v0:=Tryz.zeroValue0,
 t3:=Tryz.underlying3,
 a3:=Tryz.isAgg3,
 z3:=Tryz.sizeOf3,
 v3:=Tryz.zeroValue3,
 t4:=Tryz.underlying4,
 a4:=Tryz.isAgg4,
 z4:=Tryz.sizeOf4,
 v4:=Tryz.zeroValue4,
 t5:=Tryz.underlying5,
 a5:=Tryz.isAgg5,
 z5:=Tryz.sizeOf5,
 v5:=Tryz.zeroValue5,
 t9:=Tryz.underlying9,
 a9:=Tryz.isAgg9,
 z9:=Tryz.sizeOf9,
 v9:=Tryz.zeroValue9,
 t22:=Tryz.underlying48,
 a22:=Tryz.isAgg48,
 z22:=Tryz.sizeOf48,
 v22:=Tryz.zeroValue48,
 t25:=Tryz.underlying92,
 a25:=Tryz.isAgg92,
 z25:=Tryz.sizeOf92,
 v25:=Tryz.zeroValue92,
 t39:=Tryz.underlying142,
 a39:=Tryz.isAgg142,
 z39:=Tryz.sizeOf142,
 v39:=Tryz.zeroValue142,
 t45:=Tryz.underlying183,
 a45:=Tryz.isAgg183,
 z45:=Tryz.sizeOf183,
 v45:=Tryz.zeroValue183,
 t46:=Tryz.underlying184,
 a46:=Tryz.isAgg184,
 z46:=Tryz.sizeOf184,
 v46:=Tryz.zeroValue184,
 t50:=Tryz.underlying188,
 a50:=Tryz.isAgg188,
 z50:=Tryz.sizeOf188,
 v50:=Tryz.zeroValue188,
 t53:=Tryz.underlying191,
 a53:=Tryz.isAgg191,
 z53:=Tryz.sizeOf191,
 v53:=Tryz.zeroValue191,
 t55:=Tryz.underlying34,
 a55:=Tryz.isAgg34,
 z55:=Tryz.sizeOf34,
 v55:=Tryz.zeroValue34,
 t66:=Tryz.underlying225,
 a66:=Tryz.isAgg225,
 z66:=Tryz.sizeOf225,
 v66:=Tryz.zeroValue225,
 t70:=Tryz.underlying228,
 a70:=Tryz.isAgg228,
 z70:=Tryz.sizeOf228,
 v70:=Tryz.zeroValue228,
 t76:=Tryz.underlying247,
 a76:=Tryz.isAgg247,
 z76:=Tryz.sizeOf247,
 v76:=Tryz.zeroValue247,
 t77:=Tryz.underlying43,
 a77:=Tryz.isAgg43,
 z77:=Tryz.sizeOf43,
 v77:=Tryz.zeroValue43 }
theorem cmpk_ok (x y:DKey) (W:World):Calls Tryz.prog 46 #[.agg x.cells.toArray,.agg y.cells.toArray] W fun e w'=>e=.returned (.int .i64 (cmpI x.id y.id))∧∃ q os',w'=Sort.grow (W.drewN q) os':=by
 have h:callK Tryz.prog 46 [.agg x.cells.toArray,.agg y.cells.toArray] (fun v w'=>v=.int .i64 (cmpI x.id y.id)∧∃ os',w'=Sort.grow W os') W:=by
  apply S46_ok
  unfold S46
  refine ⟨x.cells,rfl,⟨y.cells,rfl,newK_i ?_⟩⟩
  rw [faK_i]
  have c1:∀ j u,x.cells[j]?=some u→((W.alloc (.cells x.cells.toArray 84)).alloc (.cells y.cells.toArray 84)).cell? ((⟨W.heap.size,0,none⟩:Addr).add j)=some u:=fun j u hu=>(Mod.alloc (fun _=>False) _ _).cell (cell_box hu) fun h=>h
  have c2:∀ j u,y.cells[j]?=some u→((W.alloc (.cells x.cells.toArray 84)).alloc (.cells y.cells.toArray 84)).cell? ((⟨(W.alloc (.cells x.cells.toArray 84)).heap.size,0,none⟩:Addr).add j)=some u:=fun j u hu=>cell_box hu
  refine ld1K_i (c1 0 _ rfl) ?_
  rw [faK_i]
  refine ld1K_i (c2 0 _ rfl) ?_
  refine callK_mono cmp_ok ?_
  rintro _ _ ⟨rfl,rfl⟩
  exact ⟨rfl,_,by rw [Sort.alloc_eq_grow,Sort.alloc_eq_grow,Sort.grow_grow]⟩
 refine Calls.mono h ?_
 rintro e w' ⟨v,rfl,rfl,os',rfl⟩
 exact ⟨rfl,0,os',rfl⟩
theorem swo_id:Sort.SWO (Go.Proofs.ltOf fun x y:DKey=>cmpI x.id y.id):=by
 have e:∀ x y:DKey,Go.Proofs.ltOf (fun x y:DKey=>cmpI x.id y.id) x y=decide (x.id < y.id):=fun x y=>by
  unfold Go.Proofs.ltOf cmpI
  by_cases h1:x.id < y.id
  ·simp [h1]
  ·by_cases h2:y.id < x.id <;> simp [h1,h2]
 exact ⟨fun x=>by rw [e];simp,fun x y z h1 h2=>by rw [e] at *;simp at *;omega,fun x y z h1 h2=>by rw [e] at *;simp at *;omega⟩
instance:Inhabited DKey:=⟨DKey.zero⟩
theorem sortk_ok {B:Nat} {v:Value} {keys:List DKey} {w:World} (h:OwnR B 84 6 RKey w v keys) (hl:keys.length≤1099511627776) :
  callK Tryz.prog 45 [v,.func (.func 46) #[] #[]] (fun _ w'=>∃ ks:List DKey,ks.Perm keys∧ks.Pairwise (fun x y=>x.id≤y.id)∧OwnR B 84 6 RKey w' v ks∧Mod (fun b=>v.ownBlock=some b) w w') w:=by
 obtain ⟨a,c,rfl,_,_,hp,hn⟩:=h.shape
 cases a with
 | none=>
  have e:=hn rfl
  subst e
  refine Calls.mono (Go.Proofs.AnyF.slices_SortFunc_none sortKey none c _ w) ?_
  rintro _ _ ⟨rfl,rfl⟩
  exact ⟨_,rfl,[],List.Perm.refl _,List.Pairwise.nil,h,Mod.refl _ _⟩
 | some p=>
  obtain ⟨g,rfl,_,hlt,hob⟩:=hp p rfl
  obtain ⟨_,_,hH,hS⟩:=OwnR.sorted (enc:=DKey.cells) (fun _=>rfl) (fun x=>RKey.one (w:=w) (x:=x) rfl) (fun _ _ _=>Iff.rfl) h
  have hc:=Go.Proofs.AnyQ.slices_SortFunc sortKey 6 Tryz.isAgg84 Tryz.sizeOf84 DKey.cells (fun _=>rfl) (fun x=>RKey.one (w:=w) (x:=x) rfl) (fun x y=>cmpI x.id y.id) swo_id 46 #[] g 0 c keys.toArray w (good _ rfl) (fun m os dk _ x y=>cmpk_ok x y _) hH hlt (by simp;omega)
  rw [List.size_toArray] at hc
  refine Calls.mono hc ?_
  rintro _ _ ⟨rfl,d',m,os,hperm,hsort,rfl⟩
  obtain ⟨h1,h2,h3⟩:=hperm
  have hd:d'.size=keys.length:=by rw [h1,List.size_toArray]
  obtain ⟨o1,o2⟩:=hS m d' os hd
  refine ⟨_,rfl,d'.toList,?_,?_,o1,o2.mono fun b _ e=>by rw [e];rfl⟩
  ·have e1:d'.extract 0 keys.length=d':=by rw [←hd];exact Array.extract_size
   have e2:keys.toArray.extract 0 keys.length=keys.toArray:=by
    have:=Array.extract_size (xs:=keys.toArray);rwa [List.size_toArray] at this
   rw [e1,e2] at h3
   simpa using h3
  ·rw [List.pairwise_iff_getElem]
   intro i j hi hj hij
   simp only [Array.length_toList] at hi hj
   have:=hsort i j (Nat.zero_le _) hij (by omega)
   rw [getElem!_pos d' i hi,getElem!_pos d' j hj] at this
   have e:Go.Proofs.ltOf (fun x y:DKey=>cmpI x.id y.id) d'[j] d'[i]=decide (d'[j].id < d'[i].id):=by
    unfold Go.Proofs.ltOf cmpI
    by_cases h1:d'[j].id < d'[i].id
    ·simp [h1]
    ·by_cases h2:d'[i].id < d'[j].id <;> simp [h1,h2]
   rw [e] at this
   simp only [decide_eq_false_iff_not] at this
   simp only [Array.getElem_toList]
   omega
end Go.Proofs.YtlbaopamhkmepaaGreatDoor

namespace Go.Proofs.YtlbaopamhkmepaaGreatDoor
open Go Go.K

def Dist (keys:List DKey):Prop:=keys.Pairwise fun x y=>x.id≠y.id
theorem mayk_iff {keys:List DKey}:MayKeys keys↔keys.length≤64∧(∀ k ∈ keys,KeyOK k)∧Dist keys:=by
 unfold MayKeys MayN Dist
 rw [List.pairwise_iff_getElem]
 constructor
 ·rintro ⟨h1,h2⟩
  refine ⟨h1,fun k hk=>?_,fun i j hi hj hij=>?_⟩
  ·obtain ⟨i,hi,rfl⟩:=List.getElem_of_mem hk
   exact (h2 i hi _ (List.getElem?_eq_getElem hi)).1
  ·exact (h2 j hj _ (List.getElem?_eq_getElem hj)).2 i hij _ (List.getElem?_eq_getElem hi)
 ·rintro ⟨h1,h2,h3⟩
  refine ⟨h1,fun i hi k hk=>?_⟩
  rw [List.getElem?_eq_getElem hi] at hk;cases hk
  refine ⟨h2 _ (List.getElem_mem hi),fun j hj k' hk'=>?_⟩
  rw [List.getElem?_eq_getElem (by omega)] at hk';cases hk'
  exact h3 j i (by omega) hi hj
theorem find_map {L:List DKey} {id:Int}:(L.map fun k=>(k.id,(Value.agg k.cells.toArray))).find? (fun p=>decide (p.1=id))=(findK L id).map fun k=>(k.id,.agg k.cells.toArray):=by
 unfold findK
 rw [List.find?_map]
 rfl
theorem findK_iff {L:List DKey} (hd:Dist L) {id:Int} {k:DKey}:findK L id=some k↔k ∈ L∧k.id=id:=by
 induction L with
 | nil=>simp [findK]
 | cons x L ih=>
  unfold Dist at hd
  rw [List.pairwise_cons] at hd
  have ih':=ih hd.2
  unfold findK at ih' ⊢
  by_cases hx:x.id=id
  ·rw [List.find?_cons_of_pos (by simpa using hx)]
   simp only [Option.some.injEq,List.mem_cons]
   constructor
   ·rintro rfl;exact ⟨.inl rfl,hx⟩
   ·rintro ⟨rfl | hk,h2⟩
    ·rfl
    ·exact (hd.1 k hk (by rw [hx,h2])).elim
  ·rw [List.find?_cons_of_neg (by simpa using hx),ih']
   constructor
   ·rintro ⟨h1,h2⟩;exact ⟨List.mem_cons_of_mem _ h1,h2⟩
   ·rintro ⟨h1,h2⟩
    rcases List.mem_cons.1 h1 with rfl | h1
    ·exact (hx h2).elim
    ·exact ⟨h1,h2⟩
theorem Dist.perm {L L':List DKey} (hp:L.Perm L') (h:Dist L):Dist L':=(hp.pairwise_iff (R:=fun x y:DKey=>x.id≠y.id) fun h=>h.symm).1 h
theorem findK_perm {L L':List DKey} (hp:L.Perm L') (hd:Dist L) (id:Int):findK L id=findK L' id:=by
 refine Option.ext fun k=>?_
 rw [findK_iff hd,findK_iff (hd.perm hp),hp.mem_iff]
theorem strict_of {L:List DKey} (hd:Dist L) (hs:L.Pairwise fun x y=>x.id≤y.id):L.Pairwise fun x y=>x.id < y.id:=by
 refine (List.Pairwise.and hd hs).imp fun {x y} h=>?_
 obtain ⟨h1,h2⟩:=h
 omega

structure NewI (w0 W:World) (b m:Nat) (kv:Value) (keys:List DKey) (i:Nat):Prop where
 c0:W.cell? ⟨b,0,none⟩=some kv
 c1:W.cell? ⟨b,1,none⟩=some (.map (some m))
 row:OwnR w0.heap.size 84 6 RKey W kv keys
 mp:MapI W m ((keys.take i).map fun k=>(k.id,.agg k.cells.toArray))
 hb:w0.heap.size≤b
 hm:w0.heap.size≤m
 ne:m≠b
 own:∀ g,kv.ownBlock=some g→g≠m∧g≠b
 g:Grow w0 W
theorem NewI.grow {w0 W W':World} {b m i:Nat} {kv:Value} {keys:List DKey} (h:NewI w0 W b m kv keys i) (hg:Grow W W'):NewI w0 W' b m kv keys i:=
 ⟨hg.cell h.c0 fun h=>h,hg.cell h.c1 fun h=>h,OwnR.mod h.row hg (fun _ _ h=>h) fun _ _ _ h=>h,h.mp.mod hg fun h=>h,h.hb,h.hm,h.ne,h.own,h.g.trans hg⟩

open Classical in
theorem new_key_ok {S:Nat→Prop} {kv:Value} {keys:List DKey} {w:World} (h:RKeys S w kv keys) :
  callK Tryz.prog 14 [kv] (fun v' w'=>Grow w w'∧((MayKeys keys∧∃ (sv:Value) (ks:List DKey),v'=.tuple #[sv,.int .i64 0]∧ks.Perm keys∧ks.Pairwise (fun x y=>x.id < y.id)∧SchR (fun b=>w.heap.size≤b) w' sv ks)∨
   (¬ MayKeys keys∧v'=.tuple #[.pointer none,.int .i64 3]))) w:=by
 apply S14_ok
 unfold S14
 obtain ⟨a,c,rfl,hmx⟩:=h.shape
 simp only [maxLen] at hmx
 rw [lenK_i,gtK_i]
 refine condK_p (fun h6=>⟨Mod.refl _ _,.inr ⟨by rintro ⟨h,_⟩;omega,rfl⟩⟩) fun h6=>?_
 refine callK_mono (clone_key h (by omega)) ?_
 rintro v1 w1 ⟨o1,g1⟩
 refine runK_i (v:=.map (some w1.heap.size)) (w':=w1.alloc (.map #[] 0)) rfl ?_
 have g2:Grow w1 (w1.alloc (.map #[] 0)):=Mod.alloc _ _ _
 have hmp:MapI (w1.alloc (.map #[] 0)) w1.heap.size []:=MapI.make w1
 have hz2:(w1.alloc (.map #[] 0)).heap.size=w1.heap.size+1:=by simp
 generalize w1.alloc (.map #[] 0)=w2 at g2 hmp hz2 ⊢
 obtain ⟨ra,rc,rfl,_,_,_,_⟩:=o1.shape
 refine ⟨#[.slice ra keys.length rc,.map (some w1.heap.size)],by kernel_rfl,?_⟩
 refine boxn_i (vs:=[.slice ra keys.length rc,.map (some w1.heap.size)]) fun b w3 hb hz3 g3 hc3 _=>?_
 have z1:=g1.size
 have z2:=g2.size
 have hown:∀ g,(Value.slice ra keys.length rc).ownBlock=some g→g < w1.heap.size:=fun g hg=>(OwnR.ownB o1 g hg).2
 have I0:NewI w w3 b w1.heap.size (.slice ra keys.length rc) keys 0:=
  ⟨by have:=hc3 0 _ rfl;rwa [addr0] at this,by have:=hc3 1 _ rfl;rwa [addr0] at this,OwnR.mod o1 (g2.trans g3) (fun _ _ h=>h) fun _ _ _ h=>h,by simpa using hmp.mod g3 fun h=>h,by omega,by omega,by omega,fun g hg=>by have:=hown g hg;omega,(g1.trans g2).trans g3⟩
 generalize Value.slice ra keys.length rc=rv at I0 hown ⊢
 clear hc3 hmp o1
 generalize w1.heap.size=m at *
 rw [lenK_i]
 refine LoopK_i (fun vs W=>∃ i:Nat,i≤keys.length∧vs=[.int .i64 i]∧NewI w W b m rv keys i∧MayN keys i) (fun vs _=>keys.length - iOf vs 0) ⟨0,Nat.zero_le _,rfl,I0,fun i hi=>by omega⟩ ?_
 rintro vs W ⟨i,hi,rfl,I,hmay⟩ _
 rw [nth_z,List.headD_cons,ltK_i]
 refine condK_p (fun hlt=>?_) fun hge=>?_
 ·have hlt':i < keys.length:=by omega
  have hki:keys[i]?=some keys[i]:=List.getElem?_eq_getElem hlt'
  obtain ⟨p,r,rfl,_,hr,hc,rfl⟩:=(h.grow I.g (by decide) fun _ _ h=>h).get hlt'
  refine ixK_n hlt' (ldnK_i hr (fun j u hu=>by rw [Addr.add_add];exact hc j u hu) ?_)
  refine newst_n (vs:=keys[i].cells) rfl rfl (RKey.one (w:=w) (x:=keys[i]) rfl) fun b6 W1 hb6 hz6 g6 hc6 _=>?_
  have I1:=I.grow g6
  have bad:∀ W',Grow W1 W'→¬ MayKeys keys→(fun v' w'=>Grow w w'∧((MayKeys keys∧∃ (sv:Value) (ks:List DKey),v'=.tuple #[sv,.int .i64 0]∧ks.Perm keys∧ks.Pairwise (fun x y=>x.id < y.id)∧SchR (fun b=>w.heap.size≤b) w' sv ks)∨
   (¬ MayKeys keys∧v'=.tuple #[.pointer none,.int .i64 3]))) (Value.tuple #[.pointer none,.int .i64 3]) W':=fun W' g hn=>⟨I1.g.trans g,.inr ⟨hn,rfl⟩⟩
  refine JoinK_i (fun _ W2=>Grow W1 W2∧findK (keys.take i) keys[i].id=none∧KeyOK keys[i]) ?_ ?_
  ·rintro _ W2 ⟨gW2,hno,hok⟩ _
   have I2:=I1.grow gW2
   refine drawC_i (fun k y=>k=7∧y=m) ?_
   have gd:Grow W2 W2.drew:=Mod.drew _ _
   have I3:=I2.grow gd
   have c6:∀ j u,keys[i].cells[j]?=some u→W2.drew.cell? ((⟨b6,0,none⟩:Addr).add j)=some u:=fun j u hu=>(gW2.trans gd).cell (hc6 j u hu) fun h=>h
   refine nilckK_s ?_
   rw [faK_i]
   refine sld1_i ⟨by rw [addr0];exact I3.c1,fun j hj e=>by obtain ⟨rfl,_⟩:=e;exact absurd hj (by decide)⟩ ?_
   rw [faK_i]
   refine sld1_i ⟨c6 0 _ rfl,fun j hj e=>by obtain ⟨rfl,_⟩:=e;exact absurd hj (by decide)⟩ ?_
   refine sldn_i (vs:=keys[i].cells) rfl (fun j u hu=>⟨c6 j u hu,fun j hj e=>by obtain ⟨rfl,_⟩:=e;exact absurd hj (by decide)⟩) ?_
   obtain ⟨W4,hrun,hmp4,m4⟩:=map_update Tryz.underlying85 Tryz.underlying3 I3.mp keys[i].id (.agg keys[i].cells.toArray) (by rw [find_map,hno];rfl)
   refine runK_i (v:=undef) (w':=W4) (by simp only [Sem.run_bind,hrun,Result.andThen_ok,Sem.run_pure]) ⟨m4.mono fun y _ e=>⟨rfl,e⟩,?_⟩
   rw [addK_i,loop_step (by omega)]
   refine ⟨⟨i+1,hlt',rfl,⟨m4.cell I3.c0 (fun e=>I3.ne e.symm),m4.cell I3.c1 (fun e=>I3.ne e.symm),OwnR.mod I3.row m4 (fun g hg e=>(I3.own g hg).1 e) fun _ _ _ h=>h,?_,I3.hb,I3.hm,I3.ne,I3.own,I3.g.next m4 fun x hx e=>by have:=I3.hm;omega⟩,fun q hq k hk=>?_⟩,by rw [iOf0,iOf0];omega⟩
   ·rw [List.take_add_one,hki,List.map_append];exact hmp4
   ·by_cases e:q=i
    ·subst e
     rw [hki] at hk;cases hk
     refine ⟨hok,fun j hj k' hk' e=>?_⟩
     unfold findK at hno
     rw [List.find?_eq_none] at hno
     exact hno k' (List.mem_of_getElem? (by rw [List.getElem?_take,if_pos hj];exact hk')) (by simpa using e)
    ·exact hmay q (by omega) k hk
  ·refine JoinK_i (fun vs W2=>Grow W1 W2∧vs=[.bool (findK (keys.take i) keys[i].id).isSome]) ?_ ?_
   ·rintro _ W2 ⟨gW2,rfl⟩ _
    rw [nth_z,List.headD_cons]
    cases hf:findK (keys.take i) keys[i].id with
    | some k'=>
     refine condK_t (bad _ gW2 fun hM=>?_)
     have h1:=List.find?_some hf
     have h2:=List.mem_of_find?_eq_some hf
     obtain ⟨j,hj,e⟩:=List.getElem_of_mem h2
     rw [List.length_take] at hj
     rw [List.getElem_take] at e
     exact (hM.2 i hlt' _ hki).2 j (by omega) k' (by rw [List.getElem?_eq_getElem (by omega),e]) (by simpa using h1)
    | none=>
     refine condK_f (ldnK_i (vs:=keys[i].cells) rfl (fun j u hu=>gW2.cell (hc6 j u hu) fun h=>h) ?_)
     refine callK_mono may1_ok ?_
     rintro _ W3 ⟨rfl,g3'⟩
     rw [notK_i]
     refine condK_neg (fun hok=>⟨gW2.trans g3',rfl,hok⟩) fun hbad=>bad _ (gW2.trans g3') fun hM=>hbad (hM.2 i hlt' _ hki).1
   ·refine drawC_i (fun k y=>k=11∧W1.heap.size≤y) ?_
    have gd:Grow W1 W1.drew:=Mod.drew _ _
    have Id:=I1.grow gd
    refine nilckK_s ?_
    rw [faK_i]
    refine sld1_i ⟨by rw [addr0];exact Id.c1,fun j hj e=>by obtain ⟨rfl,_⟩:=e;exact absurd hj (by decide)⟩ ?_
    rw [faK_i]
    refine sld1_i ⟨gd.cell (hc6 0 _ rfl) fun h=>h,fun j hj e=>by obtain ⟨rfl,_⟩:=e;exact absurd hj (by decide)⟩ ?_
    have look:∀ W',Grow W1.drew W'→(Instr.lookup 85 (.map (some m)) (.int .i64 keys[i].id) true).run Tryz.prog W'=.ok (.tuple #[.agg (((findK (keys.take i) keys[i].id)).getD DKey.zero).cells.toArray,.bool (findK (keys.take i) keys[i].id).isSome]) W':=fun W' g'=>by
     have:=map_lookup Tryz.underlying85 Tryz.underlying3 (zero_key W') (Id.mp.mod g' fun h=>h) keys[i].id
     rw [this,find_map]
     cases findK (keys.take i) keys[i].id <;> rfl
    generalize (findK (keys.take i) keys[i].id).getD DKey.zero=kz at look
    have one:=RKey.one (w:=w) (x:=kz) rfl
    refine ⟨?_,?_⟩
    ·refine runK_i (look _ (Mod.refl _ _)) ⟨Mod.refl _ _,?_⟩
     refine extK_i (vs:=[_,_]) (by rfl) (extK_i (vs:=[_,_]) (by rfl) ?_)
     refine newz_i fun b7 W5 hb7 hz7 g7 _ hl7=>⟨g7.mono fun _ _ h=>h.elim,?_⟩
     refine stn_over rfl one hl7 fun W6 m6 _ _=>⟨m6.mono fun y _ e=>⟨rfl,by have:=gd.size;omega⟩,?_,rfl⟩
     exact (gd.trans g7).next m6 fun x hx e=>by have:=gd.size;omega
    ·refine newz_i fun b7 W5 hb7 hz7 g7 _ hl7=>⟨g7.mono fun _ _ h=>h.elim,?_⟩
     refine runK_i (look _ g7) ⟨Mod.refl _ _,?_⟩
     refine extK_i (vs:=[_,_]) (by rfl) (extK_i (vs:=[_,_]) (by rfl) ?_)
     refine stn_over rfl one hl7 fun W6 m6 _ _=>⟨m6.mono fun y _ e=>⟨rfl,by have:=gd.size;omega⟩,?_,rfl⟩
     exact (gd.trans g7).next m6 fun x hx e=>by have:=gd.size;omega
 ·have:i=keys.length:=by omega
  subst this
  refine nilckK_s ?_
  rw [faK_i]
  refine ld1K_i (by rw [addr0];exact I.c0) ?_
  refine callK_mono (sortk_ok I.row (by omega)) ?_
  rintro _ W2 ⟨ks,hp,hs,o2,m2⟩
  have hM:MayKeys keys:=⟨by omega,hmay⟩
  obtain ⟨_,_,hd⟩:=mayk_iff.1 hM
  have hd':=hd.perm hp.symm
  refine ⟨I.g.next m2 fun x hx e=>by have:=(OwnR.ownB I.row x e).1;omega,.inl ⟨hM,_,ks,rfl,hp,strict_of hd' hs,b,m,rv,_,rfl,I.hb,I.hm,m2.cell I.c0 fun e=>(I.own _ e).2 rfl,m2.cell I.c1 fun e=>(I.own _ e).2 rfl,(OwnR.sl o2).sub (fun _ _ h=>h.1) (by decide) fun _ _ h=>h,I.mp.mod m2 fun e=>(I.own _ e).1 rfl,fun id=>?_⟩⟩
  rw [List.take_length,find_map,findK_perm hp hd']
  cases findK keys id <;> rfl
end Go.Proofs.YtlbaopamhkmepaaGreatDoor

namespace Go.Proofs.YtlbaopamhkmepaaGreatDoor
open Go Go.K

theorem strict_dist {L:List DKey} (h:L.Pairwise fun x y=>x.id < y.id):Dist L:=List.Pairwise.imp (fun {x y} h=>by omega) h
end Go.Proofs.YtlbaopamhkmepaaGreatDoor

namespace Go.Proofs.YtlbaopamhkmepaaGreatDoor
open Go Go.K

open Classical in
theorem sfits_ok {D:Nat→Prop} {v:Value} {ks:List DKey} {id:Int} {x:AVal} {w:World} (h:SchR D w v ks) (hT:Tabs w) (h0:0≤x.f) :
  callK Tryz.prog 192 [v,.int .i64 id,.agg x.cells.toArray] (fun v' w'=>v'=.bool (decide (FitsK ks id x))∧Grow w w') w:=by
 apply S192_ok
 unfold S192
 have no:∀ w',Grow w w'→¬ FitsK ks id x→Value.bool false=.bool (decide (FitsK ks id x))∧Grow w w':=fun w' g h=>⟨by rw [decide_eq_false h],g⟩
 refine boxn_i fun b w1 _ hz g hc _=>?_
 refine callK_mono (sfind_ok (h.grow g) id) ?_
 rintro _ w2 ⟨rfl,g2⟩
 refine extK_i (vs:=[_,_]) (by rfl) (extK_i (vs:=[_,_]) (by rfl) ?_)
 generalize hk:(findK ks id).getD DKey.zero=k
 refine newst_n (vs:=k.cells) rfl rfl (RKey.one (w:=w) (x:=k) rfl) fun b5 w3 hb5 hz5 g5 hc5 _=>?_
 have g13:=g2.trans g5
 have g03:=g.trans g13
 cases hf:findK ks id with
 | none=>
  rw [Option.isSome_none]
  exact no _ g03 (by rintro ⟨k,e,_⟩;rw [hf] at e;cases e)
 | some k'=>
  rw [hf] at hk
  simp only [Option.getD_some] at hk
  subst hk
  rw [Option.isSome_some]
  refine condK_t ?_
  rw [faK_i]
  refine ld1K_i (hc5 2 _ rfl) ?_
  rw [faK_i]
  refine ld1K_i (g13.cell (hc 0 _ rfl) fun h=>h) ?_
  rw [eqK_i]
  refine condK_p (fun he=>?_) fun he=>no _ g03 (by rintro ⟨k,e,_,h⟩;rw [hf] at e;cases e;exact he h.symm)
  refine ldnK_i (vs:=x.cells) rfl (fun j u hu=>g13.cell (hc j u hu) fun h=>h) (callK_mono (vmay_ok (hT.grow g03) h0) ?_)
  rintro _ w4 ⟨rfl,g4⟩
  refine ⟨?_,g03.trans g4⟩
  congr 1
  rw [decide_eq_decide]
  constructor
  ·intro ho;exact ⟨k',hf,ho,he.symm⟩
  ·rintro ⟨_,_,ho,_⟩;exact ho

end Go.Proofs.YtlbaopamhkmepaaGreatDoor

namespace Go.K
open Go
theorem append_fresh {α:Type} {P:Program} {t ty e k bytes:Nat} {R:World→List Value→α→Prop} {S:Nat→Prop} {w:World} {v:Value} {l:List α} {K:Cont} (hE:ElemOK P t e k bytes) (h:SlR S k R w v l) (hk:0 < k)
  (hone:∀ w r y,R w r y→∀ u ∈ r,u.oneCell'=true) (hR:∀ w1 w2 r y,R w1 r y→R w2 r y) (hl:l.length * bytes≤140737488355328) (hm:l.length≤maxLen)
  (hK:∀ v' w',OwnR w.heap.size e k R w' v' l→Grow w w'→K v' w'):rowK e k 0 [] [] (fun s w1=>runK P (Builtin.append_ #[t,t] ty [s,v].toArray) K w1) w:=by
 refine rowK_empty ?_
 have hg:Grow w (w.alloc (.cells #[] e)):=Mod.alloc _ _ _
 have ho:OwnR w.heap.size e k R (w.alloc (.cells #[] e)) (.slice (some ⟨w.heap.size,0,none⟩) 0 0) ([]:List α):=OwnR.made (Nat.le_refl _)
 obtain ⟨v',w',h1,h2,h3,h4⟩:=OwnR.append (ty:=ty) hE ho (h.grow hg hk fun _ _ h=>hR _ _ _ _ h) (fun _ _=>hone _ _ _) (by simpa using hl) (by simp) (by simpa using hm) (fun _ _ _ _ h=>hR _ _ _ _ h)
 refine runK_i h1 (hK _ _ (h2.base fun g hg'=>?_) (hg.next (Mod.of_grownBy h3) ?_))
 ·rcases h4 g hg' with h | h
  ·cases h;exact Nat.le_refl _
  ·simp only [World.size_alloc] at h;omega
 ·intro b hb e;simp only [Value.ownBlock,Option.some.injEq] at e;omega
end Go.K
namespace Go.Proofs.YtlbaopamhkmepaaGreatDoor
open Go Go.K

end Go.Proofs.YtlbaopamhkmepaaGreatDoor

namespace Go.Proofs.YtlbaopamhkmepaaGreatDoor
open Go Go.K
def S149 (v0 v1:Value) (K:Cont) (w:World):Prop:=
 boxnK 111 v1 (fun t3 w1=>
 LoopK [(.slice none 0 0),(.bool false),(.int .i64 0)] (fun vs again w2=>∀ _h:Env,
 lenK v0 fun t10=>
 ltK .i64 (nth vs 2) t10 fun t11=>
 condK t11
 (JoinK (fun vs_1 w3=>∀ _h_1:Env,
 DrawK w3 (fun C=>
 ixK 6 v0 (nth vs 2) fun t32=>
 faK 0 t32 fun t33=>
 qld1K C t33 fun t34=>
 faK 0 t3 fun t35=>
 qld1K C t35 fun t36=>
 neK .i64 t34 t36 fun t37=>
 ∀ w4:World,C w4→
 condK t37
 (ixK 6 v0 (nth vs 2) fun t41=>
 ldnK 6 t41 (fun t42 w5=>
 rowK 111 6 1 [(.int .i64 0),(.bool false),(.int .u8 0),(.int .i64 0),(.int .u64 0),(.string (ByteArray.mk #[]))] [(0,t42)] (fun t43 w6=>
 runK Tryz.prog (Builtin.append_ #[37,37] 37 [(nth vs_1 0),t43].toArray) (fun t44 w7=>
 addK .i64 (nth vs 2) (.int .i64 1) fun t13=>
 again [t44,(nth vs_1 1),t13] w7) w6) w5) w4)
 (addK .i64 (nth vs 2) (.int .i64 1) fun t13_1=>
 again [(nth vs_1 0),(nth vs_1 1),t13_1] w4))) (fun J=>
 DrawK w2 (fun C_1=>
 notK (nth vs 1) fun t15=>
 condK t15
 (ixK 6 v0 (nth vs 2) fun t19=>
 faK 0 t19 fun t20=>
 qld1K C_1 t20 fun t21=>
 faK 0 t3 fun t22=>
 qld1K C_1 t22 fun t23=>
 geK .i64 t21 t23 fun t24=>
 ∀ w8:World,C_1 w8→
 condK t24
 (ldnK 6 t3 (fun t27 w9=>
 rowK 111 6 1 [(.int .i64 0),(.bool false),(.int .u8 0),(.int .i64 0),(.int .u64 0),(.string (ByteArray.mk #[]))] [(0,t27)] (fun t28 w10=>
 runK Tryz.prog (Builtin.append_ #[37,37] 37 [(nth vs 0),t28].toArray) (fun t29 w11=>
 J [t29,(.bool true)] w11) w10) w9) w8)
 (J [(nth vs 0),(nth vs 1)] w8))
 (∀ w12:World,C_1 w12→
 J [(nth vs 0),(nth vs 1)] w12))))
 (notK (nth vs 1) fun t46=>
 condK t46
 (ldnK 6 t3 (fun t48 w16=>
 rowK 111 6 1 [(.int .i64 0),(.bool false),(.int .u8 0),(.int .i64 0),(.int .u64 0),(.string (ByteArray.mk #[]))] [(0,t48)] (fun t49 w17=>
 runK Tryz.prog (Builtin.append_ #[37,37] 37 [(nth vs 0),t49].toArray) (fun t50 w18=>
 K t50 w18) w17) w16) w2)
 (K (nth vs 0) w2))) w1) w
theorem S149_eq (v0 v1:Value) (K:Cont) (w:World):S149 v0 v1 K w=D Tryz.prog okf 52 (bodyOf Tryz.f149) (.node [] [] .nil (.node [] [] .nil (.node [] [] .nil (.node [] [] (.node [] [] .nil (.node [5,6,7] [(5,44)] (.node [] [] (.node [] [] .nil (.node [] [] .nil .nil)) (.node [] [] (.cut [5,6] [(5,6),(14,29)] (.node [] [] .draw (.node [] [] (.node [] [] .nil .nil) .nil)) (.node [] [] .draw (.node [] [] .nil .nil))) .nil)) .nil)) (.node [] [] (.node [] [] .nil (.node [] [] .nil .nil)) (.node [] [] .nil .nil)))))) (retK Tryz.prog [.tmp 4] K) (nth [v0,v1]) w:=by kernel_rfl
theorem S149_ok {v0 v1:Value} {K:Cont} {w:World} (h:S149 v0 v1 K w):callK Tryz.prog 149 [v0,v1] K w:=
 callK_of (P:=Tryz.prog) (ok:=okf) (n:=52) (fn:=Tryz.f149) (c:=bodyOf Tryz.f149) (rs:=[.tmp 4]) (an:=(.node [] [] .nil (.node [] [] .nil (.node [] [] .nil (.node [] [] (.node [] [] .nil (.node [5,6,7] [(5,44)] (.node [] [] (.node [] [] .nil (.node [] [] .nil .nil)) (.node [] [] (.cut [5,6] [(5,6),(14,29)] (.node [] [] .draw (.node [] [] (.node [] [] .nil .nil) .nil)) (.node [] [] .draw (.node [] [] .nil .nil))) .nil)) .nil)) (.node [] [] (.node [] [] .nil (.node [] [] .nil .nil)) (.node [] [] .nil .nil))))))) good mixed Tryz.func149 (by kernel_rfl) (by kernel_rfl) (by kernel_rfl) (by kernel_rfl) (Eq.mp (S149_eq v0 v1 K w) h)

def S91 (v0 v1:Value) (K:Cont) (w:World):Prop:=
 rowK 111 6 0 [] [] (fun t7 w1=>
 runK Tryz.prog (Builtin.append_ #[37,37] 37 [t7,v0].toArray) (fun t9 w2=>
 LoopK [t9,(.int .i64 0)] (fun vs again w3=>∀ _h:Env,
 lenK v1 fun t12=>
 ltK .i64 (nth vs 1) t12 fun t13=>
 condK t13
 (ixK 6 v1 (nth vs 1) fun t19=>
 ldnK 6 t19 (fun t20 w4=>
 callK Tryz.prog 149 [(nth vs 0),t20] (fun t21 w5=>
 addK .i64 (nth vs 1) (.int .i64 1) fun t15=>
 again [t21,t15] w5) w4) w3)
 (K (nth vs 0) w3)) w2) w1) w
theorem S91_eq (v0 v1:Value) (K:Cont) (w:World):S91 v0 v1 K w=D Tryz.prog okf 23 (bodyOf Tryz.f91) (.node [] [] .nil (.node [] [] .nil (.node [] [] (.node [] [] .nil (.node [5,6] [(5,6),(10,21)] (.node [] [] (.node [] [] .nil (.node [] [] .nil .nil)) (.node [] [] .nil .nil)) .nil)) (.node [] [] .nil .nil)))) (retK Tryz.prog [.tmp 4] K) (nth [v0,v1]) w:=by kernel_rfl
theorem S91_ok {v0 v1:Value} {K:Cont} {w:World} (h:S91 v0 v1 K w):callK Tryz.prog 91 [v0,v1] K w:=
 callK_of (P:=Tryz.prog) (ok:=okf) (n:=23) (fn:=Tryz.f91) (c:=bodyOf Tryz.f91) (rs:=[.tmp 4]) (an:=(.node [] [] .nil (.node [] [] .nil (.node [] [] (.node [] [] .nil (.node [5,6] [(5,6),(10,21)] (.node [] [] (.node [] [] .nil (.node [] [] .nil .nil)) (.node [] [] .nil .nil)) .nil)) (.node [] [] .nil .nil))))) good mixed Tryz.func91 (by kernel_rfl) (by kernel_rfl) (by kernel_rfl) (by kernel_rfl) (Eq.mp (S91_eq v0 v1 K w) h)

def S151 (v0 v1 v2:Value) (K:Cont) (w:World):Prop:=
 LoopK [(.slice none 0 0),(.int .i64 0)] (fun vs again w1=>∀ _h:Env,
 lenK v1 fun t13=>
 ltK .i64 (nth vs 1) t13 fun t14=>
 condK t14
 (JoinK (fun vs_1 w2=>∀ _h_1:Env,
 addK .i64 (nth vs 1) (.int .i64 1) fun t16=>
 again [(nth vs_1 0),t16] w2) (fun J=>
 ixK 6 v1 (nth vs 1) fun t21=>
 faK 0 t21 fun t22=>
 ld1K t22 (fun t23 w3=>
 callK Tryz.prog 168 [v0,t23] (fun t24 w4=>
 extK 0 t24 fun t25=>
 extK 1 t24 fun t26=>
 newK 84 [(.int .i64 0),(.bool false),(.int .u8 0),(.bool false),(.bool false),(.int .i64 0)] (fun t9 w5=>
 stnK 6 t9 t25 (fun w6=>
 condK t26
 (faK 1 t9 fun t29=>
 ld1K t29 (fun t30 w7=>
 beqK t30 v2 fun t32=>
 condK t32
 (ixK 6 v1 (nth vs 1) fun t37=>
 ldnK 6 t37 (fun t38 w8=>
 rowK 111 6 1 [(.int .i64 0),(.bool false),(.int .u8 0),(.int .i64 0),(.int .u64 0),(.string (ByteArray.mk #[]))] [(0,t38)] (fun t39 w9=>
 runK Tryz.prog (Builtin.append_ #[37,37] 37 [(nth vs 0),t39].toArray) (fun t40 w10=>
 J [t40] w10) w9) w8) w7)
 (J [(nth vs 0)] w7)) w6)
 (J [(nth vs 0)] w6)) w5) w4) w3) w1))
 (K (nth vs 0) w1)) w
theorem S151_eq (v0 v1 v2:Value) (K:Cont) (w:World):S151 v0 v1 v2 K w=D Tryz.prog okf 42 (bodyOf Tryz.f151) (.node [] [] .nil (.node [] [] .nil (.node [] [] (.node [] [] .nil (.node [7,8] [(7,40)] (.node [] [] (.node [] [] .nil (.node [] [] .nil .nil)) (.cut [7] [(7,7),(9,10),(17,40)] (.node [] [] .nil (.node [] [] .nil (.node [] [] .nil .nil))) .nil)) .nil)) (.node [] [] .nil .nil)))) (retK Tryz.prog [.tmp 6] K) (nth [v0,v1,v2]) w:=by kernel_rfl
theorem S151_ok {v0 v1 v2:Value} {K:Cont} {w:World} (h:S151 v0 v1 v2 K w):callK Tryz.prog 151 [v0,v1,v2] K w:=
 callK_of (P:=Tryz.prog) (ok:=okf) (n:=42) (fn:=Tryz.f151) (c:=bodyOf Tryz.f151) (rs:=[.tmp 6]) (an:=(.node [] [] .nil (.node [] [] .nil (.node [] [] (.node [] [] .nil (.node [7,8] [(7,40)] (.node [] [] (.node [] [] .nil (.node [] [] .nil .nil)) (.cut [7] [(7,7),(9,10),(17,40)] (.node [] [] .nil (.node [] [] .nil (.node [] [] .nil .nil))) .nil)) .nil)) (.node [] [] .nil .nil))))) good mixed Tryz.func151 (by kernel_rfl) (by kernel_rfl) (by kernel_rfl) (by kernel_rfl) (Eq.mp (S151_eq v0 v1 v2 K w) h)

def S150 (v0 v1:Value) (K:Cont) (w:World):Prop:=
 rowK 109 5 0 [] [] (fun t7 w1=>
 runK Tryz.prog (Builtin.append_ #[36,36] 36 [t7,v0].toArray) (fun t9 w2=>
 LoopK [t9,(.int .i64 0)] (fun vs again w3=>∀ _h:Env,
 lenK v1 fun t12=>
 ltK .i64 (nth vs 1) t12 fun t13=>
 condK t13
 (ixK 6 v1 (nth vs 1) fun t18=>
 faK 1 t18 fun t19=>
 ld1K t19 (fun t20 w4=>
 condK t20
 (ixK 6 v1 (nth vs 1) fun t24=>
 faK 0 t24 fun t25=>
 ld1K t25 (fun t26 w5=>
 callK Tryz.prog 187 [(nth vs 0),t26] (fun t27 w6=>
 addK .i64 (nth vs 1) (.int .i64 1) fun t15=>
 again [t27,t15] w6) w5) w4)
 (DrawC [12] [[],[],[],[1,2],[1,2,3],[1,2,3,4],[],[],[6,7],[6,7,8],[6,7,8,9],[1,2,3,4,5,6,7,8,9,10],[0,1,2,3,4,5,6,7,8,9,10,11],[0,1,2,3,4,5,6,7,8,9,10,11,12]] w4.drew (fun M St=>
 ixK 6 v1 (nth vs 1) fun t31=>
 faK 0 t31 fun t32=>
 sld1 (St 5) t32 fun t33=>
 ixK 6 v1 (nth vs 1) fun t36=>
 faK 2 t36 fun t37=>
 sldn (St 10) 4 t37 fun t38=>
 buildK [(0,1),(1,4)] [(.int .i64 0),(.int .u8 0),(.int .i64 0),(.int .u64 0),(.string (ByteArray.mk #[]))] [(0,t33),(1,t38)] fun t39=>
 callK Tryz.prog 188 [(nth vs 0),t39] (fun t40 w7=>
 Mod (M 12) w4.drew w7∧
 addK .i64 (nth vs 1) (.int .i64 1) fun t15_1=>
 again [t40,t15_1] w7) w4.drew))) w3)
 (K (nth vs 0) w3)) w2) w1) w
theorem S150_eq (v0 v1:Value) (K:Cont) (w:World):S150 v0 v1 K w=D Tryz.prog okf 42 (bodyOf Tryz.f150) (.node [] [] .nil (.node [] [] .nil (.node [] [] (.node [] [] .nil (.node [5,6] [(5,6),(10,40)] (.node [] [] (.node [] [] .nil (.node [] [] .nil .nil)) (.node [] [] (.node [] [] .nil (.node [] [] .nil (.dc [12] [[],[],[],[1,2],[1,2,3],[1,2,3,4],[],[],[6,7],[6,7,8],[6,7,8,9],[1,2,3,4,5,6,7,8,9,10],[0,1,2,3,4,5,6,7,8,9,10,11],[0,1,2,3,4,5,6,7,8,9,10,11,12]] []))) .nil)) .nil)) (.node [] [] .nil .nil)))) (retK Tryz.prog [.tmp 4] K) (nth [v0,v1]) w:=by kernel_rfl
theorem S150_ok {v0 v1:Value} {K:Cont} {w:World} (h:S150 v0 v1 K w):callK Tryz.prog 150 [v0,v1] K w:=
 callK_of (P:=Tryz.prog) (ok:=okf) (n:=42) (fn:=Tryz.f150) (c:=bodyOf Tryz.f150) (rs:=[.tmp 4]) (an:=(.node [] [] .nil (.node [] [] .nil (.node [] [] (.node [] [] .nil (.node [5,6] [(5,6),(10,40)] (.node [] [] (.node [] [] .nil (.node [] [] .nil .nil)) (.node [] [] (.node [] [] .nil (.node [] [] .nil (.dc [12] [[],[],[],[1,2],[1,2,3],[1,2,3,4],[],[],[6,7],[6,7,8],[6,7,8,9],[1,2,3,4,5,6,7,8,9,10],[0,1,2,3,4,5,6,7,8,9,10,11],[0,1,2,3,4,5,6,7,8,9,10,11,12]] []))) .nil)) .nil)) (.node [] [] .nil .nil))))) good mixed Tryz.func150 (by kernel_rfl) (by kernel_rfl) (by kernel_rfl) (by kernel_rfl) (Eq.mp (S150_eq v0 v1 K w) h)

def S187 (v0 v1:Value) (K:Cont) (w:World):Prop:=
 LoopK [(.slice none 0 0),(.int .i64 0)] (fun vs again w1=>∀ _h:Env,
 lenK v0 fun t9=>
 ltK .i64 (nth vs 1) t9 fun t10=>
 condK t10
 (ixK 5 v0 (nth vs 1) fun t15=>
 faK 0 t15 fun t16=>
 ld1K t16 (fun t17 w2=>
 neK .i64 t17 v1 fun t19=>
 condK t19
 (ixK 5 v0 (nth vs 1) fun t23=>
 ldnK 5 t23 (fun t24 w3=>
 rowK 109 5 1 [(.int .i64 0),(.int .u8 0),(.int .i64 0),(.int .u64 0),(.string (ByteArray.mk #[]))] [(0,t24)] (fun t25 w4=>
 runK Tryz.prog (Builtin.append_ #[36,36] 36 [(nth vs 0),t25].toArray) (fun t26 w5=>
 addK .i64 (nth vs 1) (.int .i64 1) fun t12=>
 again [t26,t12] w5) w4) w3) w2)
 (addK .i64 (nth vs 1) (.int .i64 1) fun t12_1=>
 again [(nth vs 0),t12_1] w2)) w1)
 (K (nth vs 0) w1)) w
theorem S187_eq (v0 v1:Value) (K:Cont) (w:World):S187 v0 v1 K w=D Tryz.prog okf 28 (bodyOf Tryz.f187) (.node [] [] .nil (.node [] [] .nil (.node [] [] (.node [] [] .nil (.node [5,6] [(5,26)] (.node [] [] (.node [] [] .nil (.node [] [] .nil .nil)) (.node [] [] (.node [] [] .nil (.node [] [] .nil .nil)) .nil)) .nil)) (.node [] [] .nil .nil)))) (retK Tryz.prog [.tmp 4] K) (nth [v0,v1]) w:=by kernel_rfl
theorem S187_ok {v0 v1:Value} {K:Cont} {w:World} (h:S187 v0 v1 K w):callK Tryz.prog 187 [v0,v1] K w:=
 callK_of (P:=Tryz.prog) (ok:=okf) (n:=28) (fn:=Tryz.f187) (c:=bodyOf Tryz.f187) (rs:=[.tmp 4]) (an:=(.node [] [] .nil (.node [] [] .nil (.node [] [] (.node [] [] .nil (.node [5,6] [(5,26)] (.node [] [] (.node [] [] .nil (.node [] [] .nil .nil)) (.node [] [] (.node [] [] .nil (.node [] [] .nil .nil)) .nil)) .nil)) (.node [] [] .nil .nil))))) good mixed Tryz.func187 (by kernel_rfl) (by kernel_rfl) (by kernel_rfl) (by kernel_rfl) (Eq.mp (S187_eq v0 v1 K w) h)

def S188 (v0 v1:Value) (K:Cont) (w:World):Prop:=
 boxnK 109 v1 (fun t3 w1=>
 faK 0 t3 fun t10=>
 ld1K t10 (fun t11 w2=>
 callK Tryz.prog 187 [v0,t11] (fun t12 w3=>
 LoopK [(.slice none 0 0),(.bool false),(.int .i64 0)] (fun vs again w4=>∀ _h:Env,
 lenK t12 fun t15=>
 ltK .i64 (nth vs 2) t15 fun t16=>
 condK t16
 (JoinK (fun vs_1 w5=>∀ _h_1:Env,
 ixK 5 t12 (nth vs 2) fun t38=>
 ldnK 5 t38 (fun t39 w6=>
 rowK 109 5 1 [(.int .i64 0),(.int .u8 0),(.int .i64 0),(.int .u64 0),(.string (ByteArray.mk #[]))] [(0,t39)] (fun t40 w7=>
 runK Tryz.prog (Builtin.append_ #[36,36] 36 [(nth vs_1 0),t40].toArray) (fun t41 w8=>
 addK .i64 (nth vs 2) (.int .i64 1) fun t18=>
 again [t41,(nth vs_1 1),t18] w8) w7) w6) w5) (fun J=>
 DrawK w4 (fun C=>
 notK (nth vs 1) fun t20=>
 condK t20
 (ixK 5 t12 (nth vs 2) fun t24=>
 faK 0 t24 fun t25=>
 qld1K C t25 fun t26=>
 faK 0 t3 fun t27=>
 qld1K C t27 fun t28=>
 gtK .i64 t26 t28 fun t29=>
 ∀ w9:World,C w9→
 condK t29
 (ldnK 5 t3 (fun t32 w10=>
 rowK 109 5 1 [(.int .i64 0),(.int .u8 0),(.int .i64 0),(.int .u64 0),(.string (ByteArray.mk #[]))] [(0,t32)] (fun t33 w11=>
 runK Tryz.prog (Builtin.append_ #[36,36] 36 [(nth vs 0),t33].toArray) (fun t34 w12=>
 J [t34,(.bool true)] w12) w11) w10) w9)
 (J [(nth vs 0),(nth vs 1)] w9))
 (∀ w13:World,C w13→
 J [(nth vs 0),(nth vs 1)] w13))))
 (notK (nth vs 1) fun t43=>
 condK t43
 (ldnK 5 t3 (fun t45 w17=>
 rowK 109 5 1 [(.int .i64 0),(.int .u8 0),(.int .i64 0),(.int .u64 0),(.string (ByteArray.mk #[]))] [(0,t45)] (fun t46 w18=>
 runK Tryz.prog (Builtin.append_ #[36,36] 36 [(nth vs 0),t46].toArray) (fun t47 w19=>
 K t47 w19) w18) w17) w4)
 (K (nth vs 0) w4))) w3) w2) w1) w
theorem S188_eq (v0 v1:Value) (K:Cont) (w:World):S188 v0 v1 K w=D Tryz.prog okf 49 (bodyOf Tryz.f188) (.node [] [] .nil (.node [] [] .nil (.node [] [] .nil (.node [] [] .nil (.node [] [] (.node [] [] .nil (.node [6,7,8] [(6,8),(13,41)] (.node [] [] (.node [] [] .nil (.node [] [] .nil .nil)) (.node [] [] (.cut [6,7] [(6,7),(19,34)] (.node [] [] .draw (.node [] [] (.node [] [] .nil .nil) .nil)) .nil) .nil)) .nil)) (.node [] [] (.node [] [] .nil (.node [] [] .nil .nil)) (.node [] [] .nil .nil))))))) (retK Tryz.prog [.tmp 4] K) (nth [v0,v1]) w:=by kernel_rfl
theorem S188_ok {v0 v1:Value} {K:Cont} {w:World} (h:S188 v0 v1 K w):callK Tryz.prog 188 [v0,v1] K w:=
 callK_of (P:=Tryz.prog) (ok:=okf) (n:=49) (fn:=Tryz.f188) (c:=bodyOf Tryz.f188) (rs:=[.tmp 4]) (an:=(.node [] [] .nil (.node [] [] .nil (.node [] [] .nil (.node [] [] .nil (.node [] [] (.node [] [] .nil (.node [6,7,8] [(6,8),(13,41)] (.node [] [] (.node [] [] .nil (.node [] [] .nil .nil)) (.node [] [] (.cut [6,7] [(6,7),(19,34)] (.node [] [] .draw (.node [] [] (.node [] [] .nil .nil) .nil)) .nil) .nil)) .nil)) (.node [] [] (.node [] [] .nil (.node [] [] .nil .nil)) (.node [] [] .nil .nil)))))))) good mixed Tryz.func188 (by kernel_rfl) (by kernel_rfl) (by kernel_rfl) (by kernel_rfl) (Eq.mp (S188_eq v0 v1 K w) h)

def S92 (v0 v1 v2:Value) (K:Cont) (w:World):Prop:=
 boxnK 152 v1 (fun t4 w1=>
 newK 152 [(.int .i32 0),(.slice none 0 0)] (fun t6 w2=>
 DrawC [9,10,12] [[],[0],[],[2],[],[],[],[6],[6,7],[4,5,6,7,8],[2,3,4,5,6,7,8,9],[0,1,2,3,4,5,6,7,8,9,10],[0,1,2,3,4,5,6,7,8,9,10,11]] w2.drew (fun M St=>
 faK 0 t4 fun t7=>
 sld1 (St 1) t7 fun t8=>
 faK 1 t4 fun t9=>
 sld1 (St 3) t9 fun t10=>
 faK 0 t4 fun t13=>
 sld1 (St 7) t13 fun t14=>
 eqK .i32 t14 (.int .i32 10) fun t15=>
 callK Tryz.prog 151 [v0,v2,t15] (fun t16 w3=>
 Mod (M 9) w2.drew w3∧
 callK Tryz.prog 150 [t10,t16] (fun t17 w4=>
 Mod (M 10) w3 w4∧
 buildK [(0,1),(1,1)] [(.int .i32 0),(.slice none 0 0)] [(0,t8),(1,t17)] fun t18=>
 stnK 2 t6 t18 (fun w5=>
 Mod (M 12) w4 w5∧
 ldnK 2 t6 (fun r0 w6=>
 K r0 w6) w5) w4) w3) w2.drew)) w1) w
theorem S92_eq (v0 v1 v2:Value) (K:Cont) (w:World):S92 v0 v1 v2 K w=D Tryz.prog okf 19 (bodyOf Tryz.f92) (.node [] [] .nil (.node [] [] (.dc [9,10,12] [[],[0],[],[2],[],[],[],[6],[6,7],[4,5,6,7,8],[2,3,4,5,6,7,8,9],[0,1,2,3,4,5,6,7,8,9,10],[0,1,2,3,4,5,6,7,8,9,10,11]] [[9,10]]) .nil)) (retK Tryz.prog [.cell 6 152] K) (nth [v0,v1,v2]) w:=by kernel_rfl
theorem S92_ok {v0 v1 v2:Value} {K:Cont} {w:World} (h:S92 v0 v1 v2 K w):callK Tryz.prog 92 [v0,v1,v2] K w:=
 callK_of (P:=Tryz.prog) (ok:=okf) (n:=19) (fn:=Tryz.f92) (c:=bodyOf Tryz.f92) (rs:=[.cell 6 152]) (an:=(.node [] [] .nil (.node [] [] (.dc [9,10,12] [[],[0],[],[2],[],[],[],[6],[6,7],[4,5,6,7,8],[2,3,4,5,6,7,8,9],[0,1,2,3,4,5,6,7,8,9,10],[0,1,2,3,4,5,6,7,8,9,10,11]] [[9,10]]) .nil))) good mixed Tryz.func92 (by kernel_rfl) (by kernel_rfl) (by kernel_rfl) (by kernel_rfl) (Eq.mp (S92_eq v0 v1 v2 K w) h)

def S90 (v0:Value) (K:Cont) (w:World):Prop:=
 LoopK [(.slice none 0 0),(.int .i64 0)] (fun vs again w1=>∀ _h:Env,
 lenK v0 fun t10=>
 ltK .i64 (nth vs 1) t10 fun t11=>
 condK t11
 (ixK 5 v0 (nth vs 1) fun t16=>
 ldnK 5 t16 (fun t17 w2=>
 newK 39 [(.int .u8 0),(.int .i64 0),(.slice none 0 0),(.slice none 0 0),(.slice none 0 0)] (fun t5 w3=>
 stnK 5 t5 t17 (fun w4=>
 LoopK [(nth vs 0),(.int .i64 0)] (fun vs_1 again_1 w5=>∀ _h_1:Env,
 ldnK 5 t5 (fun t19 w6=>
 callK Tryz.prog 148 [t19] (fun t20 w7=>
 ltK .i64 (nth vs_1 1) t20 fun t21=>
 condK t21
 (faK 0 t5 fun t24=>
 ld1K t24 (fun t25 w8=>
 faK 3 t5 fun t26=>
 ld1K t26 (fun t27 w9=>
 faK 4 t5 fun t28=>
 ld1K t28 (fun t29 w10=>
 buildK [(0,1),(1,1),(2,1),(3,1),(4,1)] [(.int .u8 0),(.int .i64 0),(.slice none 0 0),(.slice none 0 0),(.slice none 0 0)] [(0,t25),(3,t27),(4,t29)] fun t30=>
 newK 39 [(.int .u8 0),(.int .i64 0),(.slice none 0 0),(.slice none 0 0),(.slice none 0 0)] (fun t7 w11=>
 stnK 5 t7 t30 (fun w12=>
 JoinK (fun _vs_2 w13=>∀ _h_2:Env,
 ldnK 5 t7 (fun t43 w14=>
 rowK 39 5 1 [(.int .u8 0),(.int .i64 0),(.slice none 0 0),(.slice none 0 0),(.slice none 0 0)] [(0,t43)] (fun t44 w15=>
 runK Tryz.prog (Builtin.append_ #[31,31] 31 [(nth vs_1 0),t44].toArray) (fun t45 w16=>
 addK .i64 (nth vs_1 1) (.int .i64 1) fun t23=>
 again_1 [t45,t23] w16) w15) w14) w13) (fun J=>
 faK 0 t5 fun t31=>
 ld1K t31 (fun t32 w17=>
 eqK .u8 t32 (.int .u8 2) fun t33=>
 condK t33
 (faK 2 t5 fun t34=>
 ld1K t34 (fun t35 w18=>
 addK .i64 (nth vs_1 1) (.int .i64 1) fun t38=>
 runK Tryz.prog (Instr.sliceAt 35 t35 (some (nth vs_1 1)) (some t38) none) (fun t39 w19=>
 faK 2 t7 fun t40=>
 st1K t40 t39 (fun w20=>
 J [] w20) w19) w18) w17)
 (faK 1 t7 fun t41=>
 st1K t41 (.int .i64 1) (fun w21=>
 J [] w21) w17)) w12)) w11) w10) w9) w8) w7)
 (addK .i64 (nth vs 1) (.int .i64 1) fun t13=>
 again [(nth vs_1 0),t13] w7)) w6) w5) w4) w3) w2) w1)
 (K (nth vs 0) w1)) w
theorem S90_eq (v0:Value) (K:Cont) (w:World):S90 v0 K w=D Tryz.prog okf 47 (bodyOf Tryz.f90) (.node [] [] .nil (.node [] [] .nil (.node [] [] (.node [] [] .nil (.node [3,4] [(3,45)] (.node [] [] (.node [] [] .nil (.node [] [] .nil .nil)) (.node [] [] (.node [] [] .nil (.node [] [] .nil (.node [3,6] [(3,3),(6,7),(18,45)] (.node [] [] (.node [] [] .nil (.node [] [] .nil .nil)) (.node [] [] (.node [] [] .nil (.cut [] [(31,41)] (.node [] [] .nil (.node [] [] .nil .nil)) .nil)) .nil)) .nil))) .nil)) .nil)) (.node [] [] .nil .nil)))) (retK Tryz.prog [.tmp 2] K) (nth [v0]) w:=by kernel_rfl
theorem S90_ok {v0:Value} {K:Cont} {w:World} (h:S90 v0 K w):callK Tryz.prog 90 [v0] K w:=
 callK_of (P:=Tryz.prog) (ok:=okf) (n:=47) (fn:=Tryz.f90) (c:=bodyOf Tryz.f90) (rs:=[.tmp 2]) (an:=(.node [] [] .nil (.node [] [] .nil (.node [] [] (.node [] [] .nil (.node [3,4] [(3,45)] (.node [] [] (.node [] [] .nil (.node [] [] .nil .nil)) (.node [] [] (.node [] [] .nil (.node [] [] .nil (.node [3,6] [(3,3),(6,7),(18,45)] (.node [] [] (.node [] [] .nil (.node [] [] .nil .nil)) (.node [] [] (.node [] [] .nil (.cut [] [(31,41)] (.node [] [] .nil (.node [] [] .nil .nil)) .nil)) .nil)) .nil))) .nil)) .nil)) (.node [] [] .nil .nil))))) good mixed Tryz.func90 (by kernel_rfl) (by kernel_rfl) (by kernel_rfl) (by kernel_rfl) (Eq.mp (S90_eq v0 K w) h)

def S89 (v0 v1:Value) (K:Cont) (w:World):Prop:=
 LoopK [(.int .i64 0),(.int .i64 0)] (fun vs again w1=>∀ _h:Env,
 lenK v0 fun t10=>
 ltK .i64 (nth vs 1) t10 fun t11=>
 condK t11
 (ixK 5 v0 (nth vs 1) fun t16=>
 ldnK 5 t16 (fun t17 w2=>
 callK Tryz.prog 148 [t17] (fun t18 w3=>
 JoinK (fun _vs_1 w4=>∀ _h_1:Env,
 addK .i64 (nth vs 0) t18 fun t28=>
 gtK .i64 t28 v1 fun t31=>
 condK t31
 (K (.bool false) w4)
 (addK .i64 (nth vs 1) (.int .i64 1) fun t13=>
 again [t28,t13] w4)) (fun J=>
 ltK .i64 t18 (.int .i64 0) fun t20=>
 condK t20
 (K (.bool false) w3)
 (gtK .i64 t18 v1 fun t24=>
 condK t24
 (K (.bool false) w3)
 (J [] w3)))) w2) w1)
 (K (.bool true) w1)) w
theorem S89_eq (v0 v1:Value) (K:Cont) (w:World):S89 v0 v1 K w=D Tryz.prog okf 32 (bodyOf Tryz.f89) (.node [] [] .nil (.node [] [] .nil (.node [] [] (.node [] [] .nil (.node [5,6] [(4,31)] (.node [] [] (.node [] [] .nil (.node [] [] .nil .nil)) (.node [] [] (.node [] [] .nil (.cut [] [(4,4),(19,25)] (.node [] [] .nil (.node [] [] (.node [] [] .nil .nil) .nil)) (.node [] [] .nil (.node [] [] .nil (.node [] [] (.node [] [] .nil .nil) .nil))))) .nil)) .nil)) (.node [] [] .nil .nil)))) (retK Tryz.prog [.tmp 4] K) (nth [v0,v1]) w:=by kernel_rfl
theorem S89_ok {v0 v1:Value} {K:Cont} {w:World} (h:S89 v0 v1 K w):callK Tryz.prog 89 [v0,v1] K w:=
 callK_of (P:=Tryz.prog) (ok:=okf) (n:=32) (fn:=Tryz.f89) (c:=bodyOf Tryz.f89) (rs:=[.tmp 4]) (an:=(.node [] [] .nil (.node [] [] .nil (.node [] [] (.node [] [] .nil (.node [5,6] [(4,31)] (.node [] [] (.node [] [] .nil (.node [] [] .nil .nil)) (.node [] [] (.node [] [] .nil (.cut [] [(4,4),(19,25)] (.node [] [] .nil (.node [] [] (.node [] [] .nil .nil) .nil)) (.node [] [] .nil (.node [] [] .nil (.node [] [] (.node [] [] .nil .nil) .nil))))) .nil)) .nil)) (.node [] [] .nil .nil))))) good mixed Tryz.func89 (by kernel_rfl) (by kernel_rfl) (by kernel_rfl) (by kernel_rfl) (Eq.mp (S89_eq v0 v1 K w) h)

def S58 (v0 v1 v2:Value) (K:Cont) (w:World):Prop:=
 callK Tryz.prog 90 [v1] (fun t15 w1=>
 callK Tryz.prog 90 [v2] (fun t17 w2=>
 LoopK [(.slice none 0 0),(.int .i64 0),(.int .i64 0)] (fun vs again w3=>∀ _h:Env,
 lenK t17 fun t20=>
 ltK .i64 (nth vs 2) t20 fun t21=>
 condK t21
 (JoinK (fun vs_1 w4=>∀ _h_1:Env,
 addK .i64 (nth vs 2) (.int .i64 1) fun t23=>
 again [(nth vs_1 0),(nth vs_1 1),t23] w4) (fun J=>
 ixK 5 t17 (nth vs 2) fun t26=>
 faK 0 t26 fun t27=>
 ld1K t27 (fun t28 w5=>
 eqK .u8 t28 (.int .u8 2) fun t29=>
 condK t29
 (ixK 5 t17 (nth vs 2) fun t33=>
 ldnK 5 t33 (fun t34 w6=>
 rowK 39 5 1 [(.int .u8 0),(.int .i64 0),(.slice none 0 0),(.slice none 0 0),(.slice none 0 0)] [(0,t34)] (fun t35 w7=>
 runK Tryz.prog (Builtin.append_ #[31,31] 31 [(nth vs 0),t35].toArray) (fun t36 w8=>
 J [t36,(nth vs 1)] w8) w7) w6) w5)
 (JoinK (fun vs_2 w9=>∀ _h_2:Env,
 buildK [(0,1),(1,1),(2,1),(3,1),(4,1)] [(.int .u8 0),(.int .i64 0),(.slice none 0 0),(.slice none 0 0),(.slice none 0 0)] [(0,(.int .u8 1)),(1,(.int .i64 1))] fun t58=>
 newK 39 [(.int .u8 0),(.int .i64 0),(.slice none 0 0),(.slice none 0 0),(.slice none 0 0)] (fun t12 w10=>
 stnK 5 t12 t58 (fun w11=>
 JoinK (fun vs_3 w12=>∀ _h_3:Env,
 JoinK (fun vs_4 w13=>∀ _h_4:Env,
 condK (nth vs_4 0)
 (ixK 5 t17 (nth vs 2) fun t84=>
 ldnK 5 t84 (fun t85 w14=>
 rowK 39 5 1 [(.int .u8 0),(.int .i64 0),(.slice none 0 0),(.slice none 0 0),(.slice none 0 0)] [(0,t85)] (fun t86 w15=>
 runK Tryz.prog (Builtin.append_ #[31,31] 31 [(nth vs_2 0),t86].toArray) (fun t87 w16=>
 J [t87,(nth vs_3 0)] w16) w15) w14) w13)
 (JoinK (fun vs_5 w17=>∀ _h_5:Env,
 condK (nth vs_5 0)
 (DrawC [8,10,11] [[],[],[1],[],[],[3,4],[3,4,5],[3,4,5,6],[1,2,3,4,5,6,7],[1,2,3,4,5,6,7,8],[1,2,3,4,5,6,7,8,9],[0,1,2,3,4,5,6,7,8,9,10],[0,1,2,3,4,5,6,7,8,9,10,11]] w17.drew (fun M St=>
 faK 4 t12 fun t101=>
 sld1 (St 2) t101 fun t102=>
 ixK 5 t17 (nth vs 2) fun t105=>
 faK 4 t105 fun t106=>
 sld1 (St 7) t106 fun t107=>
 callK Tryz.prog 91 [t102,t107] (fun t108 w18=>
 Mod (M 8) w17.drew w18∧
 buildK [(0,1),(1,1),(2,1),(3,1),(4,1)] [(.int .u8 0),(.int .i64 0),(.slice none 0 0),(.slice none 0 0),(.slice none 0 0)] [(0,(.int .u8 1)),(1,(.int .i64 1)),(4,t108)] fun t109=>
 rowK 39 5 1 [(.int .u8 0),(.int .i64 0),(.slice none 0 0),(.slice none 0 0),(.slice none 0 0)] [(0,t109)] (fun t110 w19=>
 Mod (M 10) w18 w19∧
 runK Tryz.prog (Builtin.append_ #[31,31] 31 [(nth vs_2 0),t110].toArray) (fun t111 w20=>
 Mod (M 11) w19 w20∧
 J [t111,(nth vs_3 0)] w20) w19) w18) w17.drew))
 (ixK 5 t17 (nth vs 2) fun t115=>
 faK 0 t115 fun t116=>
 ld1K t116 (fun t117 w21=>
 eqK .u8 t117 (.int .u8 1) fun t118=>
 condK t118
 (JoinK (fun vs_6 w22=>∀ _h_6:Env,
 faK 0 (nth vs_6 0) fun t134=>
 ld1K t134 (fun t135 w23=>
 rowK 21 1 1 [(.int .i32 0)] [(0,t135)] (fun t136 w24=>
 faK 1 (nth vs_6 0) fun t137=>
 ld1K t137 (fun t138 w25=>
 buildK [(0,1),(1,1),(2,1),(3,1),(4,1)] [(.int .u8 0),(.int .i64 0),(.slice none 0 0),(.slice none 0 0),(.slice none 0 0)] [(0,(.int .u8 2)),(2,t136),(3,t138)] fun t139=>
 rowK 39 5 1 [(.int .u8 0),(.int .i64 0),(.slice none 0 0),(.slice none 0 0),(.slice none 0 0)] [(0,t139)] (fun t140 w26=>
 runK Tryz.prog (Builtin.append_ #[31,31] 31 [(nth vs_2 0),t140].toArray) (fun t141 w27=>
 J [t141,(nth vs_3 0)] w27) w26) w25) w24) w23) w22) (fun J_5=>
 DrawC [13,14,15] [[],[],[1],[1,2],[1,2,3],[],[5],[1,2,3,4,5,6],[],[],[8,9],[8,9,10],[8,9,10,11],[0,1,2,3,4,5,6,7,8,9,10,11,12],[],[0,1,2,3,4,5,6,7,8,9,10,11,12,13,14]] w21.drew (fun M_1 St_1=>
 faK 2 t12 fun t120=>
 sld1 (St_1 2) t120 fun t121=>
 ixK 1 t121 (.int .i64 0) fun t122=>
 sld1 (St_1 4) t122 fun t123=>
 faK 3 t12 fun t124=>
 sld1 (St_1 6) t124 fun t125=>
 buildK [(0,1),(1,1)] [(.int .i32 0),(.slice none 0 0)] [(0,t123),(1,t125)] fun t126=>
 ixK 5 t17 (nth vs 2) fun t129=>
 faK 4 t129 fun t130=>
 sld1 (St_1 12) t130 fun t131=>
 (callK Tryz.prog 92 [v0,t126,t131] (fun t132 w28=>
 Mod (M_1 13) w21.drew w28∧
 newK 152 [(.int .i32 0),(.slice none 0 0)] (fun t13 w29=>
 Mod (M_1 14) w28 w29∧
 stnK 2 t13 t132 (fun w30=>
 Mod (M_1 15) w29 w30∧
 J_5 [t13] w30) w29) w28) w21.drew)∧
 (newK 152 [(.int .i32 0),(.slice none 0 0)] (fun t13_1 w31=>
 Mod (M_1 14) w21.drew w31∧
 callK Tryz.prog 92 [v0,t126,t131] (fun t132_1 w32=>
 Mod (M_1 13) w31 w32∧
 stnK 2 t13_1 t132_1 (fun w33=>
 Mod (M_1 15) w32 w33∧
 J_5 [t13_1] w33) w32) w31) w21.drew))))
 (J [(nth vs_2 0),(nth vs_3 0)] w21)) w17)) (fun J_4=>
 ixK 5 t17 (nth vs 2) fun t91=>
 faK 0 t91 fun t92=>
 ld1K t92 (fun t93 w34=>
 eqK .u8 t93 (.int .u8 1) fun t94=>
 condK t94
 (faK 0 t12 fun t96=>
 ld1K t96 (fun t97 w35=>
 eqK .u8 t97 (.int .u8 1) fun t98=>
 J_4 [t98] w35) w34)
 (J_4 [(.bool false)] w34)) w13))) (fun J_3=>
 ixK 5 t17 (nth vs 2) fun t72=>
 faK 0 t72 fun t73=>
 ld1K t73 (fun t74 w36=>
 eqK .u8 t74 (.int .u8 3) fun t75=>
 condK t75
 (faK 0 t12 fun t77=>
 ld1K t77 (fun t78 w37=>
 eqK .u8 t78 (.int .u8 1) fun t79=>
 J_3 [t79] w37) w36)
 (J_3 [(.bool false)] w36)) w12)) (fun J_2=>
 lenK t15 fun t61=>
 ltK .i64 (nth vs_2 1) t61 fun t62=>
 condK t62
 (ixK 5 t15 (nth vs_2 1) fun t65=>
 ldnK 5 t65 (fun t66 w38=>
 stnK 5 t12 t66 (fun w39=>
 addK .i64 (nth vs_2 1) (.int .i64 1) fun t68=>
 J_2 [t68] w39) w38) w11)
 (J_2 [(nth vs_2 1)] w11))) w10) w9) (fun J_1=>
 LoopK [(nth vs 0),(nth vs 1)] (fun vs_7 again_1 w40=>∀ _h_7:Env,
 JoinK (fun _vs_8 w41=>∀ _h_8:Env,
 ixK 5 t15 (nth vs_7 1) fun t52=>
 ldnK 5 t52 (fun t53 w42=>
 rowK 39 5 1 [(.int .u8 0),(.int .i64 0),(.slice none 0 0),(.slice none 0 0),(.slice none 0 0)] [(0,t53)] (fun t54 w43=>
 runK Tryz.prog (Builtin.append_ #[31,31] 31 [(nth vs_7 0),t54].toArray) (fun t55 w44=>
 addK .i64 (nth vs_7 1) (.int .i64 1) fun t57=>
 again_1 [t55,t57] w44) w43) w42) w41) (fun J_6=>
 lenK t15 fun t39=>
 ltK .i64 (nth vs_7 1) t39 fun t40=>
 condK t40
 (ixK 5 t15 (nth vs_7 1) fun t44=>
 faK 0 t44 fun t45=>
 ld1K t45 (fun t46 w45=>
 eqK .u8 t46 (.int .u8 3) fun t47=>
 condK t47
 (J_6 [] w45)
 (J_1 [(nth vs_7 0),(nth vs_7 1)] w45)) w40)
 (J_1 [(nth vs_7 0),(nth vs_7 1)] w40))) w5))) w3))
 (runK Tryz.prog (Instr.sliceAt 31 t15 (some (nth vs 1)) none none) (fun t145 w46=>
 runK Tryz.prog (Builtin.append_ #[31,31] 31 [(nth vs 0),t145].toArray) (fun t146 w47=>
 callK Tryz.prog 64 [t146] (fun t148 w48=>
 K t148 w48) w47) w46) w3)) w2) w1) w
theorem S58_eq (v0 v1 v2:Value) (K:Cont) (w:World):S58 v0 v1 v2 K w=D Tryz.prog okf 149 (bodyOf Tryz.f58) (.node [] [] .nil (.node [] [] .nil (.node [] [] .nil (.node [] [] .nil (.node [] [] (.node [] [] .nil (.node [9,10,11] [(9,13),(18,141)] (.node [] [] (.node [] [] .nil (.node [] [] .nil .nil)) (.cut [9,10] [(9,10),(12,13),(24,141)] (.node [] [] (.node [] [] .nil (.node [] [] (.node [] [] .nil .nil) .nil)) (.cut [9,10] [(9,10),(37,57)] (.node [9,10] [(9,10),(37,57)] (.cut [] [(37,48)] (.node [] [] .nil (.node [] [] .nil .nil)) (.node [] [] .nil .nil)) .nil) (.node [] [] .nil (.cut [10] [(10,10),(59,68)] (.node [] [] .nil (.node [] [] (.node [] [] .nil .nil) .nil)) (.cut [69] [(69,80)] .nil (.node [] [] .nil (.cut [88] [(88,99)] .nil (.node [] [] (.dc [8,10,11] [[],[],[1],[],[],[3,4],[3,4,5],[3,4,5,6],[1,2,3,4,5,6,7],[1,2,3,4,5,6,7,8],[1,2,3,4,5,6,7,8,9],[0,1,2,3,4,5,6,7,8,9,10],[0,1,2,3,4,5,6,7,8,9,10,11]] [[8]]) (.node [] [] .nil (.node [] [] (.cut [13] [(13,13),(119,132)] (.dt [13,14,15] [[],[],[1],[1,2],[1,2,3],[],[5],[1,2,3,4,5,6],[],[],[8,9],[8,9,10],[8,9,10,11],[0,1,2,3,4,5,6,7,8,9,10,11,12],[],[0,1,2,3,4,5,6,7,8,9,10,11,12,13,14]] [] (.op 0 (.op 1 (.op 2 (.op 3 (.op 4 (.op 5 (.op 6 (.op 7 (.op 8 (.op 9 (.op 10 (.op 11 (.op 12 (.br (.op 13 (.op 14 (.op 15 .nil))) (.op 14 (.op 13 (.op 15 .nil)))))))))))))))))) .nil) .nil)))))))))) .nil)) .nil)) (.node [] [] .nil (.node [] [] .nil .nil))))))) (retK Tryz.prog [.tmp 6] K) (nth [v0,v1,v2]) w:=by kernel_rfl
theorem S58_ok {v0 v1 v2:Value} {K:Cont} {w:World} (h:S58 v0 v1 v2 K w):callK Tryz.prog 58 [v0,v1,v2] K w:=
 callK_of (P:=Tryz.prog) (ok:=okf) (n:=149) (fn:=Tryz.f58) (c:=bodyOf Tryz.f58) (rs:=[.tmp 6]) (an:=(.node [] [] .nil (.node [] [] .nil (.node [] [] .nil (.node [] [] .nil (.node [] [] (.node [] [] .nil (.node [9,10,11] [(9,13),(18,141)] (.node [] [] (.node [] [] .nil (.node [] [] .nil .nil)) (.cut [9,10] [(9,10),(12,13),(24,141)] (.node [] [] (.node [] [] .nil (.node [] [] (.node [] [] .nil .nil) .nil)) (.cut [9,10] [(9,10),(37,57)] (.node [9,10] [(9,10),(37,57)] (.cut [] [(37,48)] (.node [] [] .nil (.node [] [] .nil .nil)) (.node [] [] .nil .nil)) .nil) (.node [] [] .nil (.cut [10] [(10,10),(59,68)] (.node [] [] .nil (.node [] [] (.node [] [] .nil .nil) .nil)) (.cut [69] [(69,80)] .nil (.node [] [] .nil (.cut [88] [(88,99)] .nil (.node [] [] (.dc [8,10,11] [[],[],[1],[],[],[3,4],[3,4,5],[3,4,5,6],[1,2,3,4,5,6,7],[1,2,3,4,5,6,7,8],[1,2,3,4,5,6,7,8,9],[0,1,2,3,4,5,6,7,8,9,10],[0,1,2,3,4,5,6,7,8,9,10,11]] [[8]]) (.node [] [] .nil (.node [] [] (.cut [13] [(13,13),(119,132)] (.dt [13,14,15] [[],[],[1],[1,2],[1,2,3],[],[5],[1,2,3,4,5,6],[],[],[8,9],[8,9,10],[8,9,10,11],[0,1,2,3,4,5,6,7,8,9,10,11,12],[],[0,1,2,3,4,5,6,7,8,9,10,11,12,13,14]] [] (.op 0 (.op 1 (.op 2 (.op 3 (.op 4 (.op 5 (.op 6 (.op 7 (.op 8 (.op 9 (.op 10 (.op 11 (.op 12 (.br (.op 13 (.op 14 (.op 15 .nil))) (.op 14 (.op 13 (.op 15 .nil)))))))))))))))))) .nil) .nil)))))))))) .nil)) .nil)) (.node [] [] .nil (.node [] [] .nil .nil)))))))) good mixed Tryz.func58 (by kernel_rfl) (by kernel_rfl) (by kernel_rfl) (by kernel_rfl) (Eq.mp (S58_eq v0 v1 v2 K w) h)

def S56 (v0 v1:Value) (K:Cont) (w:World):Prop:=
 callK Tryz.prog 34 [v1] (fun t6 w1=>
 leK .i64 t6 (.int .i64 60) fun t7=>
 condK t7
 (callK Tryz.prog 62 [v0,v1] (fun t11 w2=>
 eqK .i64 t11 (.int .i64 0) fun t12=>
 condK t12
 (callK Tryz.prog 89 [v1,(.int .i64 200)] (fun t16 w3=>
 K t16 w3) w2)
 (K (.bool false) w2)) w1)
 (K (.bool false) w1)) w
theorem S56_eq (v0 v1:Value) (K:Cont) (w:World):S56 v0 v1 K w=D Tryz.prog okf 18 (bodyOf Tryz.f56) (.node [] [] .nil (.node [] [] .nil .nil)) (retK Tryz.prog [.tmp 4] K) (nth [v0,v1]) w:=by kernel_rfl
theorem S56_ok {v0 v1:Value} {K:Cont} {w:World} (h:S56 v0 v1 K w):callK Tryz.prog 56 [v0,v1] K w:=
 callK_of (P:=Tryz.prog) (ok:=okf) (n:=18) (fn:=Tryz.f56) (c:=bodyOf Tryz.f56) (rs:=[.tmp 4]) (an:=(.node [] [] .nil (.node [] [] .nil .nil))) good mixed Tryz.func56 (by kernel_rfl) (by kernel_rfl) (by kernel_rfl) (by kernel_rfl) (Eq.mp (S56_eq v0 v1 K w) h)

def S26 (v0 v1 v2:Value) (K:Cont) (w:World):Prop:=
 nilckK v0 fun t7=>
 faK 3 t7 fun t8=>
 st1K t8 (.slice none 0 0) (fun w1=>
 nilckK v0 fun t10=>
 faK 4 t10 fun t11=>
 ld1K t11 (fun t12 w2=>
 notK t12 fun t13=>
 condK t13
 (buildK [(0,1),(1,1)] [(.slice none 0 0),(.slice none 0 0)] [(0,v1),(1,v2)] fun t17=>
 callK Tryz.prog 57 [v0,t17] (fun _t18 w3=>
 K (.tuple #[]) w3) w2)
 (nilckK v0 fun t20=>
 faK 5 t20 fun t21=>
 ld1K t21 (fun t22 w4=>
 condK t22
 (DrawC [11,22,26] [[],[],[1],[1,2],[1,2,3],[],[5],[5,6],[5,6,7],[5,6,7,8],[],[1,2,3,4,5,6,7,8,9,10],[],[12],[12,13],[12,13,14],[],[],[17],[17,18],[17,18,19],[17,18,19,20],[1,2,3,4,5,6,7,8,9,10,11,12,13,14,15,16,17,18,19,20,21],[1,2,3,4,5,6,7,8,9,10,11,12,13,14,15,16,17,18,19,20,21,22],[0,1,2,3,4,5,6,7,8,9,10,11,12,13,14,15,16,17,18,19,20,21,22,23],[0,1,2,3,4,5,6,7,8,9,10,11,12,13,14,15,16,17,18,19,20,21,22,23,24],[0,1,2,3,4,5,6,7,8,9,10,11,12,13,14,15,16,17,18,19,20,21,22,23,24,25]] w4.drew (fun M St=>
 nilckK v0 fun t25=>
 faK 0 t25 fun t26=>
 sld1 (St 4) t26 fun t27=>
 nilckK v0 fun t29=>
 faK 6 t29 fun t30=>
 faK 0 t30 fun t31=>
 sld1 (St 9) t31 fun t32=>
 callK Tryz.prog 58 [t27,t32,v1] (fun t34 w5=>
 Mod (M 11) w4.drew w5∧
 nilckK v0 fun t36=>
 faK 0 t36 fun t37=>
 sld1 (St 15) t37 fun t38=>
 nilckK v0 fun t41=>
 faK 6 t41 fun t42=>
 faK 1 t42 fun t43=>
 sld1 (St 21) t43 fun t44=>
 callK Tryz.prog 58 [t38,v2,t44] (fun t45 w6=>
 Mod (M 22) w5 w6∧
 buildK [(0,1),(1,1)] [(.slice none 0 0),(.slice none 0 0)] [(0,t34),(1,t45)] fun t46=>
 nilckK v0 fun t47=>
 faK 6 t47 fun t48=>
 stnK 2 t48 t46 (fun w7=>
 Mod (M 26) w6 w7∧
 nilckK v0 fun t56=>
 faK 5 t56 fun t57=>
 st1K t57 (.bool true) (fun w8=>
 K (.tuple #[]) w8) w7) w6) w5) w4.drew))
 (buildK [(0,1),(1,1)] [(.slice none 0 0),(.slice none 0 0)] [(0,v1),(1,v2)] fun t52=>
 nilckK v0 fun t53=>
 faK 6 t53 fun t54=>
 stnK 2 t54 t52 (fun w9=>
 nilckK v0 fun t56_1=>
 faK 5 t56_1 fun t57_1=>
 st1K t57_1 (.bool true) (fun w10=>
 K (.tuple #[]) w10) w9) w4)) w2)) w1) w
theorem S26_eq (v0 v1 v2:Value) (K:Cont) (w:World):S26 v0 v1 v2 K w=D Tryz.prog okf 58 (bodyOf Tryz.f26) (.node [] [] .nil (.node [] [] (.node [] [] .nil (.node [] [] (.node [] [] .nil .nil) .nil)) (.node [] [] (.node [] [] .nil (.node [] [] (.dc [11,22,26] [[],[],[1],[1,2],[1,2,3],[],[5],[5,6],[5,6,7],[5,6,7,8],[],[1,2,3,4,5,6,7,8,9,10],[],[12],[12,13],[12,13,14],[],[],[17],[17,18],[17,18,19],[17,18,19,20],[1,2,3,4,5,6,7,8,9,10,11,12,13,14,15,16,17,18,19,20,21],[1,2,3,4,5,6,7,8,9,10,11,12,13,14,15,16,17,18,19,20,21,22],[0,1,2,3,4,5,6,7,8,9,10,11,12,13,14,15,16,17,18,19,20,21,22,23],[0,1,2,3,4,5,6,7,8,9,10,11,12,13,14,15,16,17,18,19,20,21,22,23,24],[0,1,2,3,4,5,6,7,8,9,10,11,12,13,14,15,16,17,18,19,20,21,22,23,24,25]] [[11,22]]) .nil)) .nil))) (retK Tryz.prog [] K) (nth [v0,v1,v2]) w:=by kernel_rfl
theorem S26_ok {v0 v1 v2:Value} {K:Cont} {w:World} (h:S26 v0 v1 v2 K w):callK Tryz.prog 26 [v0,v1,v2] K w:=
 callK_of (P:=Tryz.prog) (ok:=okf) (n:=58) (fn:=Tryz.f26) (c:=bodyOf Tryz.f26) (rs:=[]) (an:=(.node [] [] .nil (.node [] [] (.node [] [] .nil (.node [] [] (.node [] [] .nil .nil) .nil)) (.node [] [] (.node [] [] .nil (.node [] [] (.dc [11,22,26] [[],[],[1],[1,2],[1,2,3],[],[5],[5,6],[5,6,7],[5,6,7,8],[],[1,2,3,4,5,6,7,8,9,10],[],[12],[12,13],[12,13,14],[],[],[17],[17,18],[17,18,19],[17,18,19,20],[1,2,3,4,5,6,7,8,9,10,11,12,13,14,15,16,17,18,19,20,21],[1,2,3,4,5,6,7,8,9,10,11,12,13,14,15,16,17,18,19,20,21,22],[0,1,2,3,4,5,6,7,8,9,10,11,12,13,14,15,16,17,18,19,20,21,22,23],[0,1,2,3,4,5,6,7,8,9,10,11,12,13,14,15,16,17,18,19,20,21,22,23,24],[0,1,2,3,4,5,6,7,8,9,10,11,12,13,14,15,16,17,18,19,20,21,22,23,24,25]] [[11,22]]) .nil)) .nil)))) good mixed Tryz.func26 (by kernel_rfl) (by kernel_rfl) (by kernel_rfl) (by kernel_rfl) (Eq.mp (S26_eq v0 v1 v2 K w) h)

def S28 (v0:Value) (K:Cont) (w:World):Prop:=
 nilckK v0 fun t4=>
 faK 4 t4 fun t5=>
 ld1K t5 (fun t6 w1=>
 condK t6
 (K (.int .i64 9) w1)
 (nilckK v0 fun t8=>
 faK 4 t8 fun t9=>
 st1K t9 (.bool true) (fun w2=>
 nilckK v0 fun t11=>
 faK 5 t11 fun t12=>
 st1K t12 (.bool false) (fun w3=>
 K (.int .i64 0) w3) w2) w1)) w
theorem S28_eq (v0:Value) (K:Cont) (w:World):S28 v0 K w=D Tryz.prog okf 13 (bodyOf Tryz.f28) (.node [] [] .nil (.node [] [] (.node [] [] .nil (.node [] [] (.node [] [] .nil .nil) .nil)) (.node [] [] .nil (.node [] [] .nil (.node [] [] .nil .nil))))) (retK Tryz.prog [.tmp 2] K) (nth [v0]) w:=by kernel_rfl
theorem S28_ok {v0:Value} {K:Cont} {w:World} (h:S28 v0 K w):callK Tryz.prog 28 [v0] K w:=
 callK_of (P:=Tryz.prog) (ok:=okf) (n:=13) (fn:=Tryz.f28) (c:=bodyOf Tryz.f28) (rs:=[.tmp 2]) (an:=(.node [] [] .nil (.node [] [] (.node [] [] .nil (.node [] [] (.node [] [] .nil .nil) .nil)) (.node [] [] .nil (.node [] [] .nil (.node [] [] .nil .nil)))))) good mixed Tryz.func28 (by kernel_rfl) (by kernel_rfl) (by kernel_rfl) (by kernel_rfl) (Eq.mp (S28_eq v0 K w) h)

def S30 (v0:Value) (K:Cont) (w:World):Prop:=
 nilckK v0 fun t4=>
 faK 4 t4 fun t5=>
 ld1K t5 (fun t6 w1=>
 notK t6 fun t7=>
 condK t7
 (K (.int .i64 9) w1)
 (JoinK (fun _vs w2=>∀ _h:Env,
 nilckK v0 fun t19=>
 faK 4 t19 fun t20=>
 st1K t20 (.bool false) (fun w3=>
 nilckK v0 fun t22=>
 faK 5 t22 fun t23=>
 st1K t23 (.bool false) (fun w4=>
 K (.int .i64 0) w4) w3) w2) (fun J=>
 nilckK v0 fun t9=>
 faK 5 t9 fun t10=>
 ld1K t10 (fun t11 w5=>
 condK t11
 (nilckK v0 fun t14=>
 faK 6 t14 fun t15=>
 ldnK 2 t15 (fun t16 w6=>
 callK Tryz.prog 57 [v0,t16] (fun _t17 w7=>
 J [] w7) w6) w5)
 (J [] w5)) w1))) w
theorem S30_eq (v0:Value) (K:Cont) (w:World):S30 v0 K w=D Tryz.prog okf 24 (bodyOf Tryz.f30) (.node [] [] .nil (.node [] [] (.node [] [] .nil (.node [] [] (.node [] [] .nil .nil) .nil)) (.cut [] [(8,17)] (.node [] [] .nil (.node [] [] .nil .nil)) (.node [] [] .nil (.node [] [] .nil (.node [] [] .nil .nil)))))) (retK Tryz.prog [.tmp 2] K) (nth [v0]) w:=by kernel_rfl
theorem S30_ok {v0:Value} {K:Cont} {w:World} (h:S30 v0 K w):callK Tryz.prog 30 [v0] K w:=
 callK_of (P:=Tryz.prog) (ok:=okf) (n:=24) (fn:=Tryz.f30) (c:=bodyOf Tryz.f30) (rs:=[.tmp 2]) (an:=(.node [] [] .nil (.node [] [] (.node [] [] .nil (.node [] [] (.node [] [] .nil .nil) .nil)) (.cut [] [(8,17)] (.node [] [] .nil (.node [] [] .nil .nil)) (.node [] [] .nil (.node [] [] .nil (.node [] [] .nil .nil))))))) good mixed Tryz.func30 (by kernel_rfl) (by kernel_rfl) (by kernel_rfl) (by kernel_rfl) (Eq.mp (S30_eq v0 K w) h)

def S31 (v0:Value) (K:Cont) (w:World):Prop:=
 nilckK v0 fun t7=>
 faK 4 t7 fun t8=>
 ld1K t8 (fun t9 w1=>
 condK t9
 (K (.tuple #[(.slice none 0 0),(.int .i64 9)]) w1)
 (nilckK v0 fun t11=>
 faK 2 t11 fun t12=>
 ld1K t12 (fun t13 w2=>
 lenK t13 fun t14=>
 eqK .i64 t14 (.int .i64 0) fun t16=>
 condK t16
 (K (.tuple #[(.slice none 0 0),(.int .i64 10)]) w2)
 (nilckK v0 fun t18=>
 faK 2 t18 fun t19=>
 ld1K t19 (fun t20 w3=>
 subK .i64 t14 (.int .i64 1) fun t22=>
 ixK 2 t20 t22 fun t23=>
 ldnK 2 t23 (fun t24 w4=>
 newK 54 [(.slice none 0 0),(.slice none 0 0)] (fun t5 w5=>
 stnK 2 t5 t24 (fun w6=>
 rowK 54 2 0 [] [] (fun t26 w7=>
 nilckK v0 fun t28=>
 faK 2 t28 fun t29=>
 ld1K t29 (fun t30 w8=>
 subK .i64 t14 (.int .i64 1) fun t32=>
 runK Tryz.prog (Instr.sliceAt 52 t30 none (some t32) none) (fun t33 w9=>
 runK Tryz.prog (Builtin.append_ #[52,52] 52 [t26,t33].toArray) (fun t34 w10=>
 nilckK v0 fun t35=>
 faK 2 t35 fun t36=>
 st1K t36 t34 (fun w11=>
 JoinK (fun _vs w12=>∀ _h:Env,
 faK 1 t5 fun t49=>
 ld1K t49 (fun t50 w13=>
 K (.tuple #[t50,(.int .i64 0)]) w13) w12) (fun J=>
 DrawC [1,6,8,9,12] [[],[],[],[2],[2,3],[2,3,4],[1,2,3,4,5],[],[7],[1,2,3,4,5,6,7,8],[0,1,2,3,4,5,6,7,8,9],[0,1,2,3,4,5,6,7,8,9,10],[0,1,2,3,4,5,6,7,8,9,10,11]] w11.drew (fun M St=>
 nilckK v0 fun t40=>
 faK 3 t40 fun t41=>
 sld1 (St 5) t41 fun t42=>
 sldn (St 7) 2 t5 fun t44=>
 (rowK 54 2 0 [] [] (fun t38 w14=>
 Mod (M 1) w11.drew w14∧
 (runK Tryz.prog (Builtin.append_ #[52,52] 52 [t38,t42].toArray) (fun t43 w15=>
 Mod (M 6) w14 w15∧
 rowK 54 2 1 [(.slice none 0 0),(.slice none 0 0)] [(0,t44)] (fun t45 w16=>
 Mod (M 8) w15 w16∧
 runK Tryz.prog (Builtin.append_ #[52,52] 52 [t43,t45].toArray) (fun t46 w17=>
 Mod (M 9) w16 w17∧
 nilckK v0 fun t47=>
 faK 3 t47 fun t48=>
 st1K t48 t46 (fun w18=>
 Mod (M 12) w17 w18∧
 J [] w18) w17) w16) w15) w14)∧
 (rowK 54 2 1 [(.slice none 0 0),(.slice none 0 0)] [(0,t44)] (fun t45_1 w19=>
 Mod (M 8) w14 w19∧
 runK Tryz.prog (Builtin.append_ #[52,52] 52 [t38,t42].toArray) (fun t43_1 w20=>
 Mod (M 6) w19 w20∧
 runK Tryz.prog (Builtin.append_ #[52,52] 52 [t43_1,t45_1].toArray) (fun t46_1 w21=>
 Mod (M 9) w20 w21∧
 nilckK v0 fun t47_1=>
 faK 3 t47_1 fun t48_1=>
 st1K t48_1 t46_1 (fun w22=>
 Mod (M 12) w21 w22∧
 J [] w22) w21) w20) w19) w14)) w11.drew)∧
 (rowK 54 2 1 [(.slice none 0 0),(.slice none 0 0)] [(0,t44)] (fun t45_2 w23=>
 Mod (M 8) w11.drew w23∧
 rowK 54 2 0 [] [] (fun t38_1 w24=>
 Mod (M 1) w23 w24∧
 runK Tryz.prog (Builtin.append_ #[52,52] 52 [t38_1,t42].toArray) (fun t43_2 w25=>
 Mod (M 6) w24 w25∧
 runK Tryz.prog (Builtin.append_ #[52,52] 52 [t43_2,t45_2].toArray) (fun t46_2 w26=>
 Mod (M 9) w25 w26∧
 nilckK v0 fun t47_2=>
 faK 3 t47_2 fun t48_2=>
 st1K t48_2 t46_2 (fun w27=>
 Mod (M 12) w26 w27∧
 J [] w27) w26) w25) w24) w23) w11.drew)))) w10) w9) w8) w7) w6) w5) w4) w3) w2)) w1)) w
theorem S31_eq (v0:Value) (K:Cont) (w:World):S31 v0 K w=D Tryz.prog okf 51 (bodyOf Tryz.f31) (.node [] [] .nil (.node [] [] (.node [] [] .nil (.node [] [] (.node [] [] .nil .nil) .nil)) (.node [] [] .nil (.node [] [] (.node [] [] .nil (.node [] [] (.node [] [] .nil .nil) .nil)) (.node [] [] .nil (.node [] [] .nil (.cut [] [(37,48)] (.dt [1,6,8,9,12] [[],[],[],[2],[2,3],[2,3,4],[1,2,3,4,5],[],[7],[1,2,3,4,5,6,7,8],[0,1,2,3,4,5,6,7,8,9],[0,1,2,3,4,5,6,7,8,9,10],[0,1,2,3,4,5,6,7,8,9,10,11]] [[1,6,8,9]] (.op 0 (.op 2 (.op 3 (.op 4 (.op 5 (.op 7 (.br (.op 1 (.br (.op 6 (.op 8 (.op 9 (.op 10 (.op 11 (.op 12 .nil)))))) (.op 8 (.op 6 (.op 9 (.op 10 (.op 11 (.op 12 .nil)))))))) (.op 8 (.op 1 (.op 6 (.op 9 (.op 10 (.op 11 (.op 12 .nil))))))))))))))) (.node [] [] .nil .nil)))))))) (retK Tryz.prog [.tmp 2,.tmp 3] K) (nth [v0]) w:=by kernel_rfl
theorem S31_ok {v0:Value} {K:Cont} {w:World} (h:S31 v0 K w):callK Tryz.prog 31 [v0] K w:=
 callK_of (P:=Tryz.prog) (ok:=okf) (n:=51) (fn:=Tryz.f31) (c:=bodyOf Tryz.f31) (rs:=[.tmp 2,.tmp 3]) (an:=(.node [] [] .nil (.node [] [] (.node [] [] .nil (.node [] [] (.node [] [] .nil .nil) .nil)) (.node [] [] .nil (.node [] [] (.node [] [] .nil (.node [] [] (.node [] [] .nil .nil) .nil)) (.node [] [] .nil (.node [] [] .nil (.cut [] [(37,48)] (.dt [1,6,8,9,12] [[],[],[],[2],[2,3],[2,3,4],[1,2,3,4,5],[],[7],[1,2,3,4,5,6,7,8],[0,1,2,3,4,5,6,7,8,9],[0,1,2,3,4,5,6,7,8,9,10],[0,1,2,3,4,5,6,7,8,9,10,11]] [[1,6,8,9]] (.op 0 (.op 2 (.op 3 (.op 4 (.op 5 (.op 7 (.br (.op 1 (.br (.op 6 (.op 8 (.op 9 (.op 10 (.op 11 (.op 12 .nil)))))) (.op 8 (.op 6 (.op 9 (.op 10 (.op 11 (.op 12 .nil)))))))) (.op 8 (.op 1 (.op 6 (.op 9 (.op 10 (.op 11 (.op 12 .nil))))))))))))))) (.node [] [] .nil .nil))))))))) good mixed Tryz.func31 (by kernel_rfl) (by kernel_rfl) (by kernel_rfl) (by kernel_rfl) (Eq.mp (S31_eq v0 K w) h)

def S32 (v0:Value) (K:Cont) (w:World):Prop:=
 nilckK v0 fun t7=>
 faK 4 t7 fun t8=>
 ld1K t8 (fun t9 w1=>
 condK t9
 (K (.tuple #[(.slice none 0 0),(.int .i64 9)]) w1)
 (nilckK v0 fun t11=>
 faK 3 t11 fun t12=>
 ld1K t12 (fun t13 w2=>
 lenK t13 fun t14=>
 eqK .i64 t14 (.int .i64 0) fun t16=>
 condK t16
 (K (.tuple #[(.slice none 0 0),(.int .i64 10)]) w2)
 (nilckK v0 fun t18=>
 faK 3 t18 fun t19=>
 ld1K t19 (fun t20 w3=>
 subK .i64 t14 (.int .i64 1) fun t22=>
 ixK 2 t20 t22 fun t23=>
 ldnK 2 t23 (fun t24 w4=>
 newK 54 [(.slice none 0 0),(.slice none 0 0)] (fun t5 w5=>
 stnK 2 t5 t24 (fun w6=>
 rowK 54 2 0 [] [] (fun t26 w7=>
 nilckK v0 fun t28=>
 faK 3 t28 fun t29=>
 ld1K t29 (fun t30 w8=>
 subK .i64 t14 (.int .i64 1) fun t32=>
 runK Tryz.prog (Instr.sliceAt 52 t30 none (some t32) none) (fun t33 w9=>
 runK Tryz.prog (Builtin.append_ #[52,52] 52 [t26,t33].toArray) (fun t34 w10=>
 nilckK v0 fun t35=>
 faK 3 t35 fun t36=>
 st1K t36 t34 (fun w11=>
 JoinK (fun _vs w12=>∀ _h:Env,
 faK 0 t5 fun t49=>
 ld1K t49 (fun t50 w13=>
 K (.tuple #[t50,(.int .i64 0)]) w13) w12) (fun J=>
 DrawC [1,6,8,9,12] [[],[],[],[2],[2,3],[2,3,4],[1,2,3,4,5],[],[7],[1,2,3,4,5,6,7,8],[0,1,2,3,4,5,6,7,8,9],[0,1,2,3,4,5,6,7,8,9,10],[0,1,2,3,4,5,6,7,8,9,10,11]] w11.drew (fun M St=>
 nilckK v0 fun t40=>
 faK 2 t40 fun t41=>
 sld1 (St 5) t41 fun t42=>
 sldn (St 7) 2 t5 fun t44=>
 (rowK 54 2 0 [] [] (fun t38 w14=>
 Mod (M 1) w11.drew w14∧
 (runK Tryz.prog (Builtin.append_ #[52,52] 52 [t38,t42].toArray) (fun t43 w15=>
 Mod (M 6) w14 w15∧
 rowK 54 2 1 [(.slice none 0 0),(.slice none 0 0)] [(0,t44)] (fun t45 w16=>
 Mod (M 8) w15 w16∧
 runK Tryz.prog (Builtin.append_ #[52,52] 52 [t43,t45].toArray) (fun t46 w17=>
 Mod (M 9) w16 w17∧
 nilckK v0 fun t47=>
 faK 2 t47 fun t48=>
 st1K t48 t46 (fun w18=>
 Mod (M 12) w17 w18∧
 J [] w18) w17) w16) w15) w14)∧
 (rowK 54 2 1 [(.slice none 0 0),(.slice none 0 0)] [(0,t44)] (fun t45_1 w19=>
 Mod (M 8) w14 w19∧
 runK Tryz.prog (Builtin.append_ #[52,52] 52 [t38,t42].toArray) (fun t43_1 w20=>
 Mod (M 6) w19 w20∧
 runK Tryz.prog (Builtin.append_ #[52,52] 52 [t43_1,t45_1].toArray) (fun t46_1 w21=>
 Mod (M 9) w20 w21∧
 nilckK v0 fun t47_1=>
 faK 2 t47_1 fun t48_1=>
 st1K t48_1 t46_1 (fun w22=>
 Mod (M 12) w21 w22∧
 J [] w22) w21) w20) w19) w14)) w11.drew)∧
 (rowK 54 2 1 [(.slice none 0 0),(.slice none 0 0)] [(0,t44)] (fun t45_2 w23=>
 Mod (M 8) w11.drew w23∧
 rowK 54 2 0 [] [] (fun t38_1 w24=>
 Mod (M 1) w23 w24∧
 runK Tryz.prog (Builtin.append_ #[52,52] 52 [t38_1,t42].toArray) (fun t43_2 w25=>
 Mod (M 6) w24 w25∧
 runK Tryz.prog (Builtin.append_ #[52,52] 52 [t43_2,t45_2].toArray) (fun t46_2 w26=>
 Mod (M 9) w25 w26∧
 nilckK v0 fun t47_2=>
 faK 2 t47_2 fun t48_2=>
 st1K t48_2 t46_2 (fun w27=>
 Mod (M 12) w26 w27∧
 J [] w27) w26) w25) w24) w23) w11.drew)))) w10) w9) w8) w7) w6) w5) w4) w3) w2)) w1)) w
theorem S32_eq (v0:Value) (K:Cont) (w:World):S32 v0 K w=D Tryz.prog okf 51 (bodyOf Tryz.f32) (.node [] [] .nil (.node [] [] (.node [] [] .nil (.node [] [] (.node [] [] .nil .nil) .nil)) (.node [] [] .nil (.node [] [] (.node [] [] .nil (.node [] [] (.node [] [] .nil .nil) .nil)) (.node [] [] .nil (.node [] [] .nil (.cut [] [(37,48)] (.dt [1,6,8,9,12] [[],[],[],[2],[2,3],[2,3,4],[1,2,3,4,5],[],[7],[1,2,3,4,5,6,7,8],[0,1,2,3,4,5,6,7,8,9],[0,1,2,3,4,5,6,7,8,9,10],[0,1,2,3,4,5,6,7,8,9,10,11]] [[1,6,8,9]] (.op 0 (.op 2 (.op 3 (.op 4 (.op 5 (.op 7 (.br (.op 1 (.br (.op 6 (.op 8 (.op 9 (.op 10 (.op 11 (.op 12 .nil)))))) (.op 8 (.op 6 (.op 9 (.op 10 (.op 11 (.op 12 .nil)))))))) (.op 8 (.op 1 (.op 6 (.op 9 (.op 10 (.op 11 (.op 12 .nil))))))))))))))) (.node [] [] .nil .nil)))))))) (retK Tryz.prog [.tmp 2,.tmp 3] K) (nth [v0]) w:=by kernel_rfl
theorem S32_ok {v0:Value} {K:Cont} {w:World} (h:S32 v0 K w):callK Tryz.prog 32 [v0] K w:=
 callK_of (P:=Tryz.prog) (ok:=okf) (n:=51) (fn:=Tryz.f32) (c:=bodyOf Tryz.f32) (rs:=[.tmp 2,.tmp 3]) (an:=(.node [] [] .nil (.node [] [] (.node [] [] .nil (.node [] [] (.node [] [] .nil .nil) .nil)) (.node [] [] .nil (.node [] [] (.node [] [] .nil (.node [] [] (.node [] [] .nil .nil) .nil)) (.node [] [] .nil (.node [] [] .nil (.cut [] [(37,48)] (.dt [1,6,8,9,12] [[],[],[],[2],[2,3],[2,3,4],[1,2,3,4,5],[],[7],[1,2,3,4,5,6,7,8],[0,1,2,3,4,5,6,7,8,9],[0,1,2,3,4,5,6,7,8,9,10],[0,1,2,3,4,5,6,7,8,9,10,11]] [[1,6,8,9]] (.op 0 (.op 2 (.op 3 (.op 4 (.op 5 (.op 7 (.br (.op 1 (.br (.op 6 (.op 8 (.op 9 (.op 10 (.op 11 (.op 12 .nil)))))) (.op 8 (.op 6 (.op 9 (.op 10 (.op 11 (.op 12 .nil)))))))) (.op 8 (.op 1 (.op 6 (.op 9 (.op 10 (.op 11 (.op 12 .nil))))))))))))))) (.node [] [] .nil .nil))))))))) good mixed Tryz.func32 (by kernel_rfl) (by kernel_rfl) (by kernel_rfl) (by kernel_rfl) (Eq.mp (S32_eq v0 K w) h)

def S57 (v0 v1:Value) (K:Cont) (w:World):Prop:=
 boxnK 54 v1 (fun t3 w1=>
 JoinK (fun _vs w2=>∀ _h:Env,
 LoopK [] (fun _vs_1 again w3=>∀ _h_1:Env,
 DrawK w3 (fun C=>
 nilckK v0 fun t17=>
 faK 2 t17 fun t18=>
 qld1K C t18 fun t19=>
 lenK t19 fun t20=>
 nilckK v0 fun t22=>
 faK 1 t22 fun t23=>
 qld1K C t23 fun t24=>
 gtK .i64 t20 t24 fun t25=>
 ∀ w4:World,C w4→
 condK t25
 (rowK 54 2 0 [] [] (fun t27 w5=>
 nilckK v0 fun t29=>
 faK 2 t29 fun t30=>
 ld1K t30 (fun t31 w6=>
 runK Tryz.prog (Instr.sliceAt 52 t31 (some (.int .i64 1)) none none) (fun t32 w7=>
 runK Tryz.prog (Builtin.append_ #[52,52] 52 [t27,t32].toArray) (fun t33 w8=>
 nilckK v0 fun t34=>
 faK 2 t34 fun t35=>
 st1K t35 t33 (fun w9=>
 again [] w9) w8) w7) w6) w5) w4)
 (K (.tuple #[]) w4))) w2) (fun J=>
 DrawC [1,6,8,9,12] [[],[],[],[2],[2,3],[2,3,4],[1,2,3,4,5],[],[7],[1,2,3,4,5,6,7,8],[0,1,2,3,4,5,6,7,8,9],[0,1,2,3,4,5,6,7,8,9,10],[0,1,2,3,4,5,6,7,8,9,10,11]] w1.drew (fun M St=>
 nilckK v0 fun t7=>
 faK 2 t7 fun t8=>
 sld1 (St 5) t8 fun t9=>
 sldn (St 7) 2 t3 fun t11=>
 (rowK 54 2 0 [] [] (fun t5 w10=>
 Mod (M 1) w1.drew w10∧
 (runK Tryz.prog (Builtin.append_ #[52,52] 52 [t5,t9].toArray) (fun t10 w11=>
 Mod (M 6) w10 w11∧
 rowK 54 2 1 [(.slice none 0 0),(.slice none 0 0)] [(0,t11)] (fun t12 w12=>
 Mod (M 8) w11 w12∧
 runK Tryz.prog (Builtin.append_ #[52,52] 52 [t10,t12].toArray) (fun t13 w13=>
 Mod (M 9) w12 w13∧
 nilckK v0 fun t14=>
 faK 2 t14 fun t15=>
 st1K t15 t13 (fun w14=>
 Mod (M 12) w13 w14∧
 J [] w14) w13) w12) w11) w10)∧
 (rowK 54 2 1 [(.slice none 0 0),(.slice none 0 0)] [(0,t11)] (fun t12_1 w15=>
 Mod (M 8) w10 w15∧
 runK Tryz.prog (Builtin.append_ #[52,52] 52 [t5,t9].toArray) (fun t10_1 w16=>
 Mod (M 6) w15 w16∧
 runK Tryz.prog (Builtin.append_ #[52,52] 52 [t10_1,t12_1].toArray) (fun t13_1 w17=>
 Mod (M 9) w16 w17∧
 nilckK v0 fun t14_1=>
 faK 2 t14_1 fun t15_1=>
 st1K t15_1 t13_1 (fun w18=>
 Mod (M 12) w17 w18∧
 J [] w18) w17) w16) w15) w10)) w1.drew)∧
 (rowK 54 2 1 [(.slice none 0 0),(.slice none 0 0)] [(0,t11)] (fun t12_2 w19=>
 Mod (M 8) w1.drew w19∧
 rowK 54 2 0 [] [] (fun t5_1 w20=>
 Mod (M 1) w19 w20∧
 runK Tryz.prog (Builtin.append_ #[52,52] 52 [t5_1,t9].toArray) (fun t10_2 w21=>
 Mod (M 6) w20 w21∧
 runK Tryz.prog (Builtin.append_ #[52,52] 52 [t10_2,t12_2].toArray) (fun t13_2 w22=>
 Mod (M 9) w21 w22∧
 nilckK v0 fun t14_2=>
 faK 2 t14_2 fun t15_2=>
 st1K t15_2 t13_2 (fun w23=>
 Mod (M 12) w22 w23∧
 J [] w23) w22) w21) w20) w19) w1.drew)))) w
theorem S57_eq (v0 v1:Value) (K:Cont) (w:World):S57 v0 v1 K w=D Tryz.prog okf 36 (bodyOf Tryz.f57) (.node [] [] .nil (.cut [] [(4,15)] (.dt [1,6,8,9,12] [[],[],[],[2],[2,3],[2,3,4],[1,2,3,4,5],[],[7],[1,2,3,4,5,6,7,8],[0,1,2,3,4,5,6,7,8,9],[0,1,2,3,4,5,6,7,8,9,10],[0,1,2,3,4,5,6,7,8,9,10,11]] [[1,6,8,9]] (.op 0 (.op 2 (.op 3 (.op 4 (.op 5 (.op 7 (.br (.op 1 (.br (.op 6 (.op 8 (.op 9 (.op 10 (.op 11 (.op 12 .nil)))))) (.op 8 (.op 6 (.op 9 (.op 10 (.op 11 (.op 12 .nil)))))))) (.op 8 (.op 1 (.op 6 (.op 9 (.op 10 (.op 11 (.op 12 .nil))))))))))))))) (.node [] [(16,35)] (.node [] [] (.node [] [] .draw (.node [] [] .nil .nil)) .nil) .nil))) (retK Tryz.prog [] K) (nth [v0,v1]) w:=by kernel_rfl
theorem S57_ok {v0 v1:Value} {K:Cont} {w:World} (h:S57 v0 v1 K w):callK Tryz.prog 57 [v0,v1] K w:=
 callK_of (P:=Tryz.prog) (ok:=okf) (n:=36) (fn:=Tryz.f57) (c:=bodyOf Tryz.f57) (rs:=[]) (an:=(.node [] [] .nil (.cut [] [(4,15)] (.dt [1,6,8,9,12] [[],[],[],[2],[2,3],[2,3,4],[1,2,3,4,5],[],[7],[1,2,3,4,5,6,7,8],[0,1,2,3,4,5,6,7,8,9],[0,1,2,3,4,5,6,7,8,9,10],[0,1,2,3,4,5,6,7,8,9,10,11]] [[1,6,8,9]] (.op 0 (.op 2 (.op 3 (.op 4 (.op 5 (.op 7 (.br (.op 1 (.br (.op 6 (.op 8 (.op 9 (.op 10 (.op 11 (.op 12 .nil)))))) (.op 8 (.op 6 (.op 9 (.op 10 (.op 11 (.op 12 .nil)))))))) (.op 8 (.op 1 (.op 6 (.op 9 (.op 10 (.op 11 (.op 12 .nil))))))))))))))) (.node [] [(16,35)] (.node [] [] (.node [] [] .draw (.node [] [] .nil .nil)) .nil) .nil)))) good mixed Tryz.func57 (by kernel_rfl) (by kernel_rfl) (by kernel_rfl) (by kernel_rfl) (Eq.mp (S57_eq v0 v1 K w) h)

def S23 (v0 v1:Value) (K:Cont) (w:World):Prop:=
 lenK v1 fun t7=>
 gtK .i64 t7 (.int .i64 80) fun t8=>
 condK t8
 (K (.bool false) w)
 (lenK v1 fun t10=>
 LoopK [(.int .i64 0)] (fun vs again w1=>∀ _h:Env,
 ltK .i64 (nth vs 0) t10 fun t12=>
 condK t12
 (ixK 3 v1 (nth vs 0) fun t16=>
 faK 0 t16 fun t17=>
 ld1K t17 (fun t18 w2=>
 eqK .i64 t18 (.int .i64 1) fun t19=>
 condK t19
 (ixK 3 v1 (nth vs 0) fun t24=>
 faK 1 t24 fun t25=>
 ld1K t25 (fun t26 w3=>
 callK Tryz.prog 56 [v0,t26] (fun t27 w4=>
 notK t27 fun t28=>
 condK t28
 (K (.bool false) w4)
 (ixK 3 v1 (nth vs 0) fun t33=>
 faK 2 t33 fun t34=>
 ld1K t34 (fun t35 w5=>
 callK Tryz.prog 56 [v0,t35] (fun t36 w6=>
 notK t36 fun t37=>
 condK t37
 (K (.bool false) w6)
 (addK .i64 (nth vs 0) (.int .i64 1) fun t40_1=>
 again [t40_1] w6)) w5) w4)) w3) w2)
 (addK .i64 (nth vs 0) (.int .i64 1) fun t40_2=>
 again [t40_2] w2)) w1)
 (K (.bool true) w1)) w)
theorem S23_eq (v0 v1:Value) (K:Cont) (w:World):S23 v0 v1 K w=D Tryz.prog okf 41 (bodyOf Tryz.f23) (.node [] [] .nil (.node [] [] (.node [] [] .nil (.node [] [] (.node [] [] .nil .nil) .nil)) (.node [] [] (.node [] [] .nil (.node [11] [(4,5),(11,40)] (.node [] [] .nil (.node [] [] (.node [] [] .nil .nil) (.node [] [] (.node [] [] .nil (.node [] [] .nil (.node [] [] (.node [] [] .nil .nil) .nil))) .nil))) .nil)) (.node [] [] .nil .nil)))) (retK Tryz.prog [.tmp 4] K) (nth [v0,v1]) w:=by kernel_rfl
theorem S23_ok {v0 v1:Value} {K:Cont} {w:World} (h:S23 v0 v1 K w):callK Tryz.prog 23 [v0,v1] K w:=
 callK_of (P:=Tryz.prog) (ok:=okf) (n:=41) (fn:=Tryz.f23) (c:=bodyOf Tryz.f23) (rs:=[.tmp 4]) (an:=(.node [] [] .nil (.node [] [] (.node [] [] .nil (.node [] [] (.node [] [] .nil .nil) .nil)) (.node [] [] (.node [] [] .nil (.node [11] [(4,5),(11,40)] (.node [] [] .nil (.node [] [] (.node [] [] .nil .nil) (.node [] [] (.node [] [] .nil (.node [] [] .nil (.node [] [] (.node [] [] .nil .nil) .nil))) .nil))) .nil)) (.node [] [] .nil .nil))))) good mixed Tryz.func23 (by kernel_rfl) (by kernel_rfl) (by kernel_rfl) (by kernel_rfl) (Eq.mp (S23_eq v0 v1 K w) h)

def S25 (v0:Value) (K:Cont) (w:World):Prop:=
 lenK v0 fun t5=>
 LoopK [(.int .i64 0)] (fun vs again w1=>∀ _h:Env,
 ltK .i64 (nth vs 0) t5 fun t7=>
 condK t7
 (ixK 5 v0 (nth vs 0) fun t11=>
 faK 1 t11 fun t12=>
 ld1K t12 (fun t13 w2=>
 addK .i64 t13 (.int .i64 1) fun t14=>
 ixK 5 v0 (nth vs 0) fun t15=>
 faK 1 t15 fun t16=>
 st1K t16 t14 (fun w3=>
 ixK 5 v0 (nth vs 0) fun t19=>
 faK 2 t19 fun t20=>
 ld1K t20 (fun t21 w4=>
 lenK t21 fun t22=>
 LoopK [(.int .i64 0)] (fun vs_1 again_1 w5=>∀ _h_1:Env,
 ltK .i64 (nth vs_1 0) t22 fun t24=>
 condK t24
 (ixK 5 v0 (nth vs 0) fun t28=>
 faK 2 t28 fun t29=>
 ld1K t29 (fun t30 w6=>
 ixK 1 t30 (nth vs_1 0) fun t32=>
 ld1K t32 (fun t33 w7=>
 addK .i32 t33 (.int .i32 1) fun t34=>
 ixK 1 t30 (nth vs_1 0) fun t35=>
 st1K t35 t34 (fun w8=>
 addK .i64 (nth vs_1 0) (.int .i64 1) fun t36=>
 again_1 [t36] w8) w7) w6) w5)
 (addK .i64 (nth vs 0) (.int .i64 1) fun t37=>
 again [t37] w5)) w4) w3) w2) w1)
 (K (.tuple #[]) w1)) w
theorem S25_eq (v0:Value) (K:Cont) (w:World):S25 v0 K w=D Tryz.prog okf 38 (bodyOf Tryz.f25) (.node [] [] .nil (.node [6] [(2,3),(6,37)] (.node [] [] .nil (.node [] [] (.node [] [] .nil .nil) (.node [] [] (.node [] [] .nil (.node [] [] .nil (.node [] [] .nil (.node [23] [(3,3),(23,36)] (.node [] [] .nil (.node [] [] (.node [] [] .nil .nil) (.node [] [] (.node [] [] .nil .nil) .nil))) .nil)))) .nil))) .nil)) (retK Tryz.prog [] K) (nth [v0]) w:=by kernel_rfl
theorem S25_ok {v0:Value} {K:Cont} {w:World} (h:S25 v0 K w):callK Tryz.prog 25 [v0] K w:=
 callK_of (P:=Tryz.prog) (ok:=okf) (n:=38) (fn:=Tryz.f25) (c:=bodyOf Tryz.f25) (rs:=[]) (an:=(.node [] [] .nil (.node [6] [(2,3),(6,37)] (.node [] [] .nil (.node [] [] (.node [] [] .nil .nil) (.node [] [] (.node [] [] .nil (.node [] [] .nil (.node [] [] .nil (.node [23] [(3,3),(23,36)] (.node [] [] .nil (.node [] [] (.node [] [] .nil .nil) (.node [] [] (.node [] [] .nil .nil) .nil))) .nil)))) .nil))) .nil))) good mixed Tryz.func25 (by kernel_rfl) (by kernel_rfl) (by kernel_rfl) (by kernel_rfl) (Eq.mp (S25_eq v0 K w) h)

def S5 (v0 v1 v2:Value) (K:Cont) (w:World):Prop:=
 callK Tryz.prog 14 [v0] (fun t27 w1=>
 extK 0 t27 fun t28=>
 extK 1 t27 fun t29=>
 JoinK (fun _vs w2=>∀ _h:Env,
 callK Tryz.prog 15 [t28,v1] (fun t42 w3=>
 extK 0 t42 fun t43=>
 extK 1 t42 fun t44=>
 JoinK (fun _vs_1 w4=>∀ _h_1:Env,
 JoinK (fun _vs_2 w5=>∀ _h_2:Env,
 buildK [(0,1),(1,1),(2,1),(3,1),(4,1),(5,1),(6,2)] [(.slice none 0 0),(.int .i64 0),(.slice none 0 0),(.slice none 0 0),(.bool false),(.bool false),(.slice none 0 0),(.slice none 0 0)] [(0,v0),(1,v1)] fun t68=>
 boxnK 56 t68 (fun t69 w6=>
 lenK v2 fun t71=>
 LoopK [(.int .i64 0),(.int .i64 0)] (fun vs_3 again w7=>∀ _h_3:Env,
 ltK .i64 (nth vs_3 1) t71 fun t73=>
 condK t73
 (JoinK (fun vs_4 w8=>∀ _h_4:Env,
 addK .i64 (nth vs_3 1) (.int .i64 1) fun t192=>
 again [(nth vs_4 0),t192] w8) (fun J_3=>
 ixK 3 v2 (nth vs_3 1) fun t74=>
 ldnK 3 t74 (fun t75 w9=>
 newK 58 [(.int .i64 0),(.slice none 0 0),(.slice none 0 0)] (fun t14 w10=>
 stnK 3 t14 t75 (fun w11=>
 JoinK (fun vs_5 w12=>∀ _h_5:Env,
 callK Tryz.prog 20 [t43] (fun t164 w13=>
 extK 0 t164 fun t165=>
 extK 1 t164 fun t166=>
 DrawC [18] [[],[],[1],[1,2],[1,2,3],[1,2,3,4],[0,1,2,3,4,5],[0,1,2,3,4,5,6],[0,1,2,3,4,5,6,7],[0,1,2,3,4,5,6,7],[0,1,2,3,4,5,6,7,9],[0,1,2,3,4,5,6,7,9,10],[0,1,2,3,4,5,6,7,9,10,11],[0,1,2,3,4,5,6,7,9,10,11,12],[0,1,2,3,4,5,6,7,8,9,10,11,12,13],[0,1,2,3,4,5,6,7,8,9,10,11,12,13,14],[0,1,2,3,4,5,6,7,8,9,10,11,12,13,14,15],[0,1,2,3,4,5,6,7,8,9,10,11,12,13,14,15,16],[0,1,2,3,4,5,6,7,8,9,10,11,12,13,14,15,16,17],[0,1,2,3,4,5,6,7,8,9,10,11,12,13,14,15,16],[0,1,2,3,4,5,6,7,8,9,10,11,12,13,14,15,16,19],[0,1,2,3,4,5,6,7,8,9,10,11,12,13,14,15,16,19,20],[0,1,2,3,4,5,6,7,8,9,10,11,12,13,14,15,16,19,20,21],[0,1,2,3,4,5,6,7,8,9,10,11,12,13,14,15,16,17,18,19,20,21,22],[0,1,2,3,4,5,6,7,8,9,10,11,12,13,14,15,16,17,18,19,20,21,22,23]] w13.drew (fun M St=>
 nilckK t69 fun t169=>
 faK 2 t169 fun t170=>
 sld1 (St 4) t170 fun t171=>
 lenK t171 fun t172=>
 neK .i64 t165 t172 fun t173=>
 condK t173
 (K (.bool false) w13.drew)
 (nilckK t69 fun t177=>
 faK 3 t177 fun t178=>
 sld1 (St 12) t178 fun t179=>
 lenK t179 fun t180=>
 neK .i64 t166 t180 fun t181=>
 condK t181
 (K (.bool false) w13.drew)
 (callK Tryz.prog 33 [t43] (fun t185 w14=>
 Mod (M 18) w13.drew w14∧
 nilckK t69 fun t187=>
 faK 4 t187 fun t188=>
 sld1 (St 22) t188 fun t189=>
 bneK t185 t189 fun t190=>
 condK t190
 (K (.bool false) w14)
 (J_3 [(nth vs_5 0)] w14)) w13.drew)))) w12) (fun J_4=>
 faK 0 t14 fun t76=>
 ld1K t76 (fun t77 w15=>
 eqK .i64 t77 (.int .i64 1) fun t79=>
 condK t79
 (JoinK (fun vs_6 w16=>∀ _h_6:Env,
 DrawC [2,5] [[],[0],[0,1],[],[3],[0,1,2,3,4],[0,1,2,3,4,5],[0,1,2,3,4,5,6]] w16.drew (fun M_1 St_1=>
 faK 1 t14 fun t90=>
 sld1 (St_1 1) t90 fun t91=>
 callK Tryz.prog 24 [t91] (fun t92 w17=>
 Mod (M_1 2) w16.drew w17∧
 faK 2 t14 fun t93=>
 sld1 (St_1 4) t93 fun t94=>
 callK Tryz.prog 24 [t94] (fun t95 w18=>
 Mod (M_1 5) w17 w18∧
 callK Tryz.prog 18 [t43,t92,t95] (fun t99 w19=>
 neK .i64 t99 (.int .i64 0) fun t100=>
 condK t100
 (K (.bool false) w19)
 (callK Tryz.prog 25 [t92] (fun _t102 w20=>
 callK Tryz.prog 25 [t95] (fun _t104 w21=>
 DrawC [3,6,7] [[],[],[1],[1,2],[],[4],[1,2,3,4,5],[0,1,2,3,4,5,6]] w21.drew (fun M_2 St_2=>
 faK 1 t14 fun t106=>
 sld1 (St_2 2) t106 fun t107=>
 callK Tryz.prog 24 [t107] (fun t108 w22=>
 Mod (M_2 3) w21.drew w22∧
 faK 2 t14 fun t109=>
 sld1 (St_2 5) t109 fun t110=>
 callK Tryz.prog 24 [t110] (fun t111 w23=>
 Mod (M_2 6) w22 w23∧
 callK Tryz.prog 26 [t69,t108,t111] (fun _t112 w24=>
 Mod (M_2 7) w23 w24∧
 J_4 [(nth vs_6 0)] w24) w23) w22) w21.drew)) w20) w19)) w18) w17) w16.drew)) (fun J_5=>
 addK .i64 (nth vs_3 0) (.int .i64 1) fun t81=>
 nilckK t69 fun t83=>
 faK 4 t83 fun t84=>
 ld1K t84 (fun t85 w25=>
 condK t85
 (gtK .i64 t81 (.int .i64 10) fun t88=>
 condK t88
 (J_3 [t81] w25)
 (J_5 [t81] w25))
 (J_5 [t81] w25)) w15))
 (eqK .i64 t77 (.int .i64 2) fun t114=>
 condK t114
 (callK Tryz.prog 27 [t43] (fun t116 w26=>
 callK Tryz.prog 28 [t69] (fun t118 w27=>
 neK .i64 t116 t118 fun t119=>
 condK t119
 (K (.bool false) w27)
 (J_4 [(.int .i64 0)] w27)) w26) w15)
 (eqK .i64 t77 (.int .i64 3) fun t121=>
 condK t121
 (callK Tryz.prog 29 [t43] (fun t123 w28=>
 callK Tryz.prog 30 [t69] (fun t125 w29=>
 neK .i64 t123 t125 fun t126=>
 condK t126
 (K (.bool false) w29)
 (J_4 [(nth vs_3 0)] w29)) w28) w15)
 (JoinK (fun vs_7 w30=>∀ _h_7:Env,
 condK (nth vs_7 0)
 (JoinK (fun vs_8 w31=>∀ _h_8:Env,
 callyK Tryz.prog okf (nth vs_8 0) [] (fun t143 w32=>
 extK 0 t143 fun t144=>
 extK 1 t143 fun t145=>
 callyK Tryz.prog okf (nth vs_8 1) [] (fun t148 w33=>
 extK 0 t148 fun t149=>
 extK 1 t148 fun t150=>
 neK .i64 t145 t150 fun t153=>
 condK t153
 (K (.bool false) w33)
 (callK Tryz.prog 22 [t144,t149] (fun t157 w35=>
 notK t157 fun t158=>
 condK t158
 (K (.bool false) w35)
 (callK Tryz.prog 25 [t144] (fun _t161_1 w36=>
 J_4 [(nth vs_3 0)] w36) w35)) w33)) w32) w31) (fun J_7=>
 faK 0 t14 fun t134=>
 ld1K t134 (fun t135 w37=>
 eqK .i64 t135 (.int .i64 5) fun t136=>
 condK t136
 (J_7 [(.func (.func 21) #[t43] #[]),(.func (.func 32) #[t69] #[])] w37)
 (J_7 [(.func (.func 19) #[t43] #[]),(.func (.func 31) #[t69] #[])] w37)) w30))
 (J_4 [(nth vs_3 0)] w30)) (fun J_6=>
 eqK .i64 t77 (.int .i64 4) fun t128=>
 condK t128
 (J_6 [t128] w15)
 (eqK .i64 t77 (.int .i64 5) fun t129=>
 J_6 [t129] w15)))))) w11)) w10) w9) w7))
 (callK Tryz.prog 16 [] (fun t193 w38=>
 K t193 w38) w7)) w6) w5) (fun J_2=>
 pnilK t43 fun b61=>
 condK (.bool b61)
 (K (.bool false) w4)
 (neK .i64 t44 (.int .i64 0) fun t64=>
 condK t64
 (K (.bool false) w4)
 (J_2 [] w4)))) (fun J_1=>
 ltK .i64 v1 (.int .i64 0) fun t46=>
 condK t46
 (pnilK t43 fun b52=>
 condK (.bool b52)
 (eqK .i64 t44 (.int .i64 2) fun t55=>
 condK t55
 (callK Tryz.prog 16 [] (fun t58 w39=>
 K t58 w39) w3)
 (K (.bool false) w3))
 (K (.bool false) w3))
 (gtK .i64 v1 (.int .i64 65536) fun t49=>
 condK t49
 (pnilK t43 fun b52_1=>
 condK (.bool b52_1)
 (eqK .i64 t44 (.int .i64 2) fun t55_1=>
 condK t55_1
 (callK Tryz.prog 16 [] (fun t58_1 w40=>
 K t58_1 w40) w3)
 (K (.bool false) w3))
 (K (.bool false) w3))
 (J_1 [] w3)))) w2) (fun J=>
 neK .i64 t29 (.int .i64 0) fun t31=>
 condK t31
 (callK Tryz.prog 16 [] (fun t38 w41=>
 K t38 w41) w1)
 (callK Tryz.prog 23 [v0,v2] (fun t35 w42=>
 notK t35 fun t36=>
 condK t36
 (callK Tryz.prog 16 [] (fun t38_1 w43=>
 K t38_1 w43) w42)
 (J [] w42)) w1))) w
theorem S5_eq (v0 v1 v2:Value) (K:Cont) (w:World):S5 v0 v1 v2 K w=D Tryz.prog okf 194 (bodyOf Tryz.f5) (.node [] [] .nil (.node [] [] .nil (.cut [] [(6,6),(30,38)] (.node [] [] .nil (.node [] [] (.node [] [] .nil .nil) .nil)) (.node [] [] .nil (.cut [] [(6,6),(45,59)] (.node [] [] .nil (.node [] [] (.node [] [] .nil .nil) .nil)) (.cut [] [(6,6),(60,65)] (.node [] [] .nil (.node [] [] (.node [] [] .nil .nil) .nil)) (.node [] [] .nil (.node [] [] .nil (.node [] [] (.node [] [] .nil (.node [12,72] [(6,6),(12,12),(14,24),(72,192)] (.node [] [] .nil (.node [] [] (.node [] [] .nil .nil) (.cut [12] [(6,6),(12,12),(14,24),(74,191)] (.node [] [] .nil (.cut [12] [(6,6),(12,12),(15,22),(76,161)] (.node [] [] .nil (.node [] [] .nil (.node [] [] (.cut [12] [(12,12),(80,89)] (.node [] [] .nil (.node [] [] .nil (.node [] [] .nil .nil))) (.node [] [] (.dc [2,5] [[],[0],[0,1],[],[3],[0,1,2,3,4],[0,1,2,3,4,5],[0,1,2,3,4,5,6]] []) (.node [] [] (.node [] [] .nil (.node [] [] (.node [] [] .nil .nil) .nil)) (.node [] [] .nil (.node [] [] .nil (.dc [3,6,7] [[],[],[1],[1,2],[],[4],[1,2,3,4,5],[0,1,2,3,4,5,6]] [])))))) (.node [] [] .nil (.node [] [] (.node [] [] .nil (.node [] [] .nil (.node [] [] (.node [] [] .nil .nil) .nil))) (.node [] [] .nil (.node [] [] (.node [] [] .nil (.node [] [] (.node [] [] .nil .nil) .nil)) (.cut [127] [(127,129)] (.node [] [] .nil (.node [] [] .nil .nil)) (.node [] [] (.node [] [] .nil (.cut [17,18] [(17,18),(134,140)] (.node [] [] .nil (.node [] [] .nil .nil)) (.node [] [] .nil (.node [] [] .nil (.node [] [] (.node [] [] .nil (.node [] [] (.node [] [] .nil .nil) .nil)) .nil))))) .nil))))))))) (.node [] [] .nil (.node [] [] (.dc [18] [[],[],[1],[1,2],[1,2,3],[1,2,3,4],[0,1,2,3,4,5],[0,1,2,3,4,5,6],[0,1,2,3,4,5,6,7],[0,1,2,3,4,5,6,7],[0,1,2,3,4,5,6,7,9],[0,1,2,3,4,5,6,7,9,10],[0,1,2,3,4,5,6,7,9,10,11],[0,1,2,3,4,5,6,7,9,10,11,12],[0,1,2,3,4,5,6,7,8,9,10,11,12,13],[0,1,2,3,4,5,6,7,8,9,10,11,12,13,14],[0,1,2,3,4,5,6,7,8,9,10,11,12,13,14,15],[0,1,2,3,4,5,6,7,8,9,10,11,12,13,14,15,16],[0,1,2,3,4,5,6,7,8,9,10,11,12,13,14,15,16,17],[0,1,2,3,4,5,6,7,8,9,10,11,12,13,14,15,16],[0,1,2,3,4,5,6,7,8,9,10,11,12,13,14,15,16,19],[0,1,2,3,4,5,6,7,8,9,10,11,12,13,14,15,16,19,20],[0,1,2,3,4,5,6,7,8,9,10,11,12,13,14,15,16,19,20,21],[0,1,2,3,4,5,6,7,8,9,10,11,12,13,14,15,16,17,18,19,20,21,22],[0,1,2,3,4,5,6,7,8,9,10,11,12,13,14,15,16,17,18,19,20,21,22,23]] []) (.node [] [] (.node [] [] .nil .nil) .nil))))) .nil))) .nil)) (.node [] [] .nil .nil)))))))))) (retK Tryz.prog [.tmp 6] K) (nth [v0,v1,v2]) w:=by kernel_rfl
theorem S5_ok {v0 v1 v2:Value} {K:Cont} {w:World} (h:S5 v0 v1 v2 K w):callK Tryz.prog 5 [v0,v1,v2] K w:=
 callK_of (P:=Tryz.prog) (ok:=okf) (n:=194) (fn:=Tryz.f5) (c:=bodyOf Tryz.f5) (rs:=[.tmp 6]) (an:=(.node [] [] .nil (.node [] [] .nil (.cut [] [(6,6),(30,38)] (.node [] [] .nil (.node [] [] (.node [] [] .nil .nil) .nil)) (.node [] [] .nil (.cut [] [(6,6),(45,59)] (.node [] [] .nil (.node [] [] (.node [] [] .nil .nil) .nil)) (.cut [] [(6,6),(60,65)] (.node [] [] .nil (.node [] [] (.node [] [] .nil .nil) .nil)) (.node [] [] .nil (.node [] [] .nil (.node [] [] (.node [] [] .nil (.node [12,72] [(6,6),(12,12),(14,24),(72,192)] (.node [] [] .nil (.node [] [] (.node [] [] .nil .nil) (.cut [12] [(6,6),(12,12),(14,24),(74,191)] (.node [] [] .nil (.cut [12] [(6,6),(12,12),(15,22),(76,161)] (.node [] [] .nil (.node [] [] .nil (.node [] [] (.cut [12] [(12,12),(80,89)] (.node [] [] .nil (.node [] [] .nil (.node [] [] .nil .nil))) (.node [] [] (.dc [2,5] [[],[0],[0,1],[],[3],[0,1,2,3,4],[0,1,2,3,4,5],[0,1,2,3,4,5,6]] []) (.node [] [] (.node [] [] .nil (.node [] [] (.node [] [] .nil .nil) .nil)) (.node [] [] .nil (.node [] [] .nil (.dc [3,6,7] [[],[],[1],[1,2],[],[4],[1,2,3,4,5],[0,1,2,3,4,5,6]] [])))))) (.node [] [] .nil (.node [] [] (.node [] [] .nil (.node [] [] .nil (.node [] [] (.node [] [] .nil .nil) .nil))) (.node [] [] .nil (.node [] [] (.node [] [] .nil (.node [] [] (.node [] [] .nil .nil) .nil)) (.cut [127] [(127,129)] (.node [] [] .nil (.node [] [] .nil .nil)) (.node [] [] (.node [] [] .nil (.cut [17,18] [(17,18),(134,140)] (.node [] [] .nil (.node [] [] .nil .nil)) (.node [] [] .nil (.node [] [] .nil (.node [] [] (.node [] [] .nil (.node [] [] (.node [] [] .nil .nil) .nil)) .nil))))) .nil))))))))) (.node [] [] .nil (.node [] [] (.dc [18] [[],[],[1],[1,2],[1,2,3],[1,2,3,4],[0,1,2,3,4,5],[0,1,2,3,4,5,6],[0,1,2,3,4,5,6,7],[0,1,2,3,4,5,6,7],[0,1,2,3,4,5,6,7,9],[0,1,2,3,4,5,6,7,9,10],[0,1,2,3,4,5,6,7,9,10,11],[0,1,2,3,4,5,6,7,9,10,11,12],[0,1,2,3,4,5,6,7,8,9,10,11,12,13],[0,1,2,3,4,5,6,7,8,9,10,11,12,13,14],[0,1,2,3,4,5,6,7,8,9,10,11,12,13,14,15],[0,1,2,3,4,5,6,7,8,9,10,11,12,13,14,15,16],[0,1,2,3,4,5,6,7,8,9,10,11,12,13,14,15,16,17],[0,1,2,3,4,5,6,7,8,9,10,11,12,13,14,15,16],[0,1,2,3,4,5,6,7,8,9,10,11,12,13,14,15,16,19],[0,1,2,3,4,5,6,7,8,9,10,11,12,13,14,15,16,19,20],[0,1,2,3,4,5,6,7,8,9,10,11,12,13,14,15,16,19,20,21],[0,1,2,3,4,5,6,7,8,9,10,11,12,13,14,15,16,17,18,19,20,21,22],[0,1,2,3,4,5,6,7,8,9,10,11,12,13,14,15,16,17,18,19,20,21,22,23]] []) (.node [] [] (.node [] [] .nil .nil) .nil))))) .nil))) .nil)) (.node [] [] .nil .nil))))))))))) good mixed Tryz.func5 (by kernel_rfl) (by kernel_rfl) (by kernel_rfl) (by kernel_rfl) (Eq.mp (S5_eq v0 v1 v2 K w) h)

end Go.Proofs.YtlbaopamhkmepaaGreatDoor

namespace Go.Proofs.YtlbaopamhkmepaaGreatDoor
open Go Go.K

theorem putF_len (c:Chg):∀ (b:List Chg) (o:List Chg) (f:Bool),(b.foldl (putF c) (o,f)).1.length≤o.length+2 * b.length:=by
 intro b
 induction b with
 | nil=>intro o f;simp
 | cons x b ih=>
  intro o f
  rw [List.foldl_cons]
  have:=ih (putF c (o,f) x).1 (putF c (o,f) x).2
  have h:(putF c (o,f) x).1.length≤o.length+2:=by
   simp only [putF]
   split <;> (simp only [List.length_append];split <;> simp)
  simp only [List.length_cons]
  exact Nat.le_trans this (by omega)
theorem foldP_succ {p:List Chg} {c:Chg} {i:Nat} (h:i < p.length):(p.take (i+1)).foldl (putF c) ([],false)=putF c ((p.take i).foldl (putF c) ([],false)) p[i]:=by
 rw [List.take_add_one,List.getElem?_eq_getElem h]
 simp only [Option.toList,List.foldl_append,List.foldl_cons,List.foldl_nil]
set_option maxRecDepth 20000 in
theorem rputp_ok {S:Nat→Prop} {pv:Value} {p:List Chg} {c:Chg} {w:World} (hp:RPat S w pv p) (hb:p.length≤1000000000) :
  callK Tryz.prog 149 [pv,.agg c.cells.toArray] (fun v' w'=>OwnR w.heap.size 111 6 RChg w' v' (putP p c)∧Grow w w') w:=by
 apply S149_ok
 unfold S149
 obtain ⟨pa,pc,rfl,_⟩:=hp.shape
 refine boxn_i (vs:=c.cells) fun b w1 hb1 hz1 g1 hc1 _=>?_
 have hp1:=hp.grow g1 (by decide) fun _ _ h=>h
 have fin:∀ {W:World} {ov:Value} {o:List Chg},OwnR w1.heap.size 111 6 RChg W ov o→Grow w1 W→OwnR w.heap.size 111 6 RChg W ov o∧Grow w W:=fun ho g=>⟨OwnR.base ho fun z hz=>by have:=(OwnR.ownB ho z hz).1;omega,g1.trans g⟩
 refine LoopK_i (fun vs W=>∃ (i:Nat) (ov:Value) (a:List Chg × Bool),i≤p.length∧vs=[ov,.bool a.2,.int .i64 i]∧a=(p.take i).foldl (putF c) ([],false)∧OwnR w1.heap.size 111 6 RChg W ov a.1∧Grow w1 W) (fun vs _=>p.length - iOf vs 2) ⟨0,_,([],false),by omega,rfl,rfl,OwnR.nil,Mod.refl _ _⟩ ?_
 rintro vs W ⟨i,ov,⟨o,f⟩,hi,rfl,ha,ho,g⟩ _
 simp only at ho
 have hlen:o.length≤2 * p.length:=by
  have:=putF_len c (p.take i) [] false
  rw [←ha] at this
  have h2:=List.length_take_le i p
  simp only [List.length_nil] at this
  omega
 simp only [nth_s,nth_z,List.headD_cons,List.tail_cons]
 rw [lenK_i,ltK_i]
 refine condK_p (fun hlt=>?_) fun hge=>?_
 ·have hlt':i < p.length:=by omega
  obtain ⟨q,r,rfl,_,hr,hc,rfl⟩:=(hp1.grow g (by decide) fun _ _ h=>h).get hlt'
  have hs:=foldP_succ (c:=c) hlt'
  rw [←ha] at hs
  simp only [putF] at hs
  -- the element itself
  refine JoinK_i (fun vs W'=>∃ (ov':Value) (o':List Chg),vs=[ov',.bool (f || decide (c.key≤p[i].key))]∧o'=(if f=false∧c.key≤p[i].key then o++[c] else o)∧OwnR w1.heap.size 111 6 RChg W' ov' o'∧Grow w1 W'∧(∀ j u,p[i].cells[j]?=some u→W'.cell? (q.add (i * 6+j))=some u)) ?_ ?_
  ·rintro _ W' ⟨ov',o',rfl,ho',hO,gW,hcq⟩ _
   simp only [nth_s,nth_z,List.headD_cons,List.tail_cons]
   have hlen':o'.length≤2 * p.length+1:=by
    rw [ho']
    split
    ·simp only [List.length_append,List.length_cons,List.length_nil];omega
    ·omega
   refine drawK_i (fun w2=>Grow W' w2) (Mod.drew _ _) ?_
   refine ixK_n hlt' ?_
   rw [faK_i,Addr.add_add]
   refine qld1K_i (fun w2 h2=>h2.cell (hcq 0 _ rfl) fun h=>h) ?_
   rw [faK_i]
   refine qld1K_i (fun w2 h2=>h2.cell (gW.cell (hc1 0 _ rfl) fun h=>h) fun h=>h) ?_
   rw [neK_i]
   intro w2 g2
   have hO2:OwnR w1.heap.size 111 6 RChg w2 ov' o':=OwnR.mod hO g2 (fun _ _ h=>h) fun _ _ _ h=>h
   refine condK_neg (fun he=>?_) fun hne=>?_
   ·rw [if_pos he,List.append_nil,←ho'] at hs
    rw [addK_i,loop_step (by omega)]
    refine ⟨⟨i+1,ov',(o',f || decide (c.key≤p[i].key)),hlt',rfl,by rw [hs],hO2,gW.trans g2⟩,?_⟩
    show p.length - ((i+1:Nat):Int).toNat < p.length - (i:Int).toNat
    omega
   ·rw [if_neg hne,←ho'] at hs
    refine ixK_n hlt' (ldnK_i (vs:=p[i].cells) rfl (fun j u hu=>by rw [Addr.add_add];exact g2.cell (hcq j u hu) fun h=>h) ?_)
    refine push_n (w0:=w1) elem_chg hO2 (gW.trans g2) (cs:=p[i].cells) (x:=p[i]) (by kernel_rfl) rfl rfl (fun _ _ _=>RChg.one) (fun _ _ _ _ _ _ h=>h) (by omega) (by simp only [maxLen];omega) fun v' w' o'' g'=>?_
    rw [addK_i,loop_step (by omega)]
    refine ⟨⟨i+1,v',(o'++[p[i]],f || decide (c.key≤p[i].key)),hlt',rfl,by rw [hs],o'',g'⟩,?_⟩
    show p.length - ((i+1:Nat):Int).toNat < p.length - (i:Int).toNat
    omega
  ·refine drawK_i (fun w2=>Grow W w2) (Mod.drew _ _) ?_
   rw [notK_i]
   cases f with
   | true=>
    refine condK_f fun w2 g2=>⟨ov,o,by simp,by simp,OwnR.mod ho g2 (fun _ _ h=>h) fun _ _ _ h=>h,g.trans g2,fun j u hu=>g2.cell (hc j u hu) fun h=>h⟩
   | false=>
    refine condK_t ?_
    refine ixK_n hlt' ?_
    rw [faK_i,Addr.add_add]
    refine qld1K_i (fun w2 h2=>h2.cell (hc 0 _ rfl) fun h=>h) ?_
    rw [faK_i]
    refine qld1K_i (fun w2 h2=>h2.cell (g.cell (hc1 0 _ rfl) fun h=>h) fun h=>h) ?_
    rw [geK_i]
    intro w2 g2
    have hO2:OwnR w1.heap.size 111 6 RChg w2 ov o:=OwnR.mod ho g2 (fun _ _ h=>h) fun _ _ _ h=>h
    refine condK_p (fun hge=>?_) fun hlt2=>?_
    ·refine ldnK_i (vs:=c.cells) rfl (fun j u hu=>(g.trans g2).cell (hc1 j u hu) fun h=>h) ?_
     refine push_g elem_chg hO2 (g.trans g2).size (cs:=c.cells) (x:=c) (by kernel_rfl) rfl rfl (fun _ _ _=>RChg.one) (fun _ _ _ _ _ _ h=>h) (by omega) (by simp only [maxLen];omega) fun v' w' o'' m' hv'=>?_
     refine ⟨v',_,by simp;omega,by rw [if_pos ⟨rfl,by omega⟩],o'',(g.trans g2).next m' fun z hz e=>by have:=(OwnR.ownB hO2 z e).1;omega,fun j u hu=>?_⟩
     refine m'.cell (g2.cell (hc j u hu) fun h=>h) fun e=>?_
     -- the row that is read is not the one that grows
     have hq:=World.block_lt_of_cell? w _ ((show w.cell? (q.add (i * 6+j))=some u from by
      obtain ⟨_,r',e',_,_,hc',rfl⟩:=hp.get hlt'
      cases e'
      exact hc' j u hu))
     have:=(OwnR.ownB hO2 _ e).1
     omega
    ·exact ⟨ov,o,by simp;omega,by rw [if_neg (by rintro ⟨_,h⟩;omega)],hO2,g.trans g2,fun j u hu=>g2.cell (hc j u hu) fun h=>h⟩
 ·obtain rfl:i=p.length:=by omega
  rw [List.take_length] at ha
  have hP:putP p c=endF c (o,f):=by rw [putP,←ha]
  rw [notK_i]
  cases f with
  | true=>
   refine condK_f ?_
   rw [hP]
   exact fin ho g
  | false=>
   refine condK_t ?_
   refine ldnK_i (vs:=c.cells) rfl (fun j u hu=>g.cell (hc1 j u hu) fun h=>h) ?_
   refine push_n (w0:=w1) elem_chg ho g (cs:=c.cells) (x:=c) (by kernel_rfl) rfl rfl (fun _ _ _=>RChg.one) (fun _ _ _ _ _ _ h=>h) (by omega) (by simp only [maxLen];omega) fun v' w' o'' g'=>?_
   rw [hP]
   exact fin o'' g'
theorem rcom_ok {S S':Nat→Prop} {pv qv:Value} {p q:List Chg} {w:World} (hp:RPat S w pv p) (hq:RPat S' w qv q) (hb:p.length+q.length≤1000000) (rp:RisP p) (rq:RisP q) :
  callK Tryz.prog 91 [pv,qv] (fun v' w'=>OwnR w.heap.size 111 6 RChg w' v' (comP p q)∧Grow w w') w:=by
 apply S91_ok
 unfold S91
 obtain ⟨qa,qc,rfl,_⟩:=hq.shape
 refine append_fresh elem_chg hp (by decide) (fun _ _ _=>RChg.one) (fun _ _ _ _ h=>h) (by omega) (by simp only [maxLen];omega) fun v1 w1 o1 g1=>?_
 refine LoopK_i (fun vs W=>∃ (k:Nat) (ov:Value),k≤q.length∧vs=[ov,.int .i64 k]∧OwnR w.heap.size 111 6 RChg W ov (rcomP p (q.take k))∧Grow w W) (fun vs _=>q.length - iOf vs 1) ⟨0,v1,by omega,rfl,o1,g1⟩ ?_
 rintro vs W ⟨k,ov,hk,rfl,ho,g⟩ _
 simp only [nth_s,nth_z,List.headD_cons,List.tail_cons]
 rw [lenK_i,ltK_i]
 refine condK_p (fun hlt=>?_) fun hge=>?_
 ·have hlt':k < q.length:=by omega
  obtain ⟨a,r,rfl,_,hr,hc,rfl⟩:=(hq.grow g (by decide) fun _ _ h=>h).get hlt'
  refine ixK_n hlt' (ldnK_i hr (fun j u hu=>by rw [Addr.add_add];exact hc j u hu) ?_)
  have hrl:(rcomP p (q.take k)).length≤p.length+q.length:=by
   rw [rcom_eq rp (rq.sublist (List.take_sublist _ _))]
   have h1:∀ (p q:List Chg),(comP p q).length≤p.length+q.length:=by
    intro p q
    induction q generalizing p with
    | nil=>simp [comP]
    | cons c q ih=>
     have h3:(lowC c p).length+(highC c p).length≤p.length:=by
      induction p with
      | nil=>simp [lowC,highC]
      | cons a p ihp=>
       simp only [lowC,highC]
       split
       ·split <;> (simp only [List.length_cons];omega)
       ·simp
     have:=ih (highC c p)
     simp only [comP,List.length_append,List.length_cons]
     omega
   have:=h1 p (q.take k)
   have:=List.length_take_le k q
   omega
  refine callK_mono (rputp_ok (OwnR.sl ho) (by omega)) ?_
  rintro v' w' ⟨o',g'⟩
  rw [addK_i,loop_step (by omega)]
  refine ⟨⟨k+1,v',hlt',rfl,?_,g.trans g'⟩,by rw [iOf1,iOf1];omega⟩
  have e:rcomP p (q.take (k+1))=putP (rcomP p (q.take k)) q[k]:=by
   rw [List.take_add_one,List.getElem?_eq_getElem hlt']
   simp only [rcomP,Option.toList,List.foldl_append,List.foldl_cons,List.foldl_nil]
  rw [e]
  exact OwnR.base o' fun z hz=>by have:=(OwnR.ownB o' z hz).1;have:=g.size;omega
 ·obtain rfl:k=q.length:=by omega
  rw [List.take_length,rcom_eq rp rq] at ho
  exact ⟨ho,g⟩
theorem rpart_ok {S S':Nat→Prop} {kv pv:Value} {keys:List DKey} {b:Bool} {p:List Chg} {w:World} (hk:RKeys S' w kv keys) (hp:RPat S w pv p) (hb:p.length≤1000000) :
  callK Tryz.prog 151 [kv,pv,.bool b] (fun v' w'=>OwnR w.heap.size 111 6 RChg w' v' (partP keys b p)∧Grow w w') w:=by
 apply S151_ok
 unfold S151
 obtain ⟨pa,pc,rfl,_⟩:=hp.shape
 refine LoopK_i (fun vs W=>∃ (i:Nat) (ov:Value),i≤p.length∧vs=[ov,.int .i64 i]∧OwnR w.heap.size 111 6 RChg W ov (partP keys b (p.take i))∧Grow w W) (fun vs _=>p.length - iOf vs 1) ⟨0,_,by omega,rfl,OwnR.nil,Mod.refl _ _⟩ ?_
 rintro vs W ⟨i,ov,hi,rfl,ho,g⟩ _
 simp only [nth_s,nth_z,List.headD_cons,List.tail_cons]
 rw [lenK_i,ltK_i]
 refine condK_p (fun hlt=>?_) fun hge=>?_
 ·have hlt':i < p.length:=by omega
  have hsz:(partP keys b (p.take i)).length≤p.length:=Nat.le_trans (List.length_filter_le _ _) (List.length_take_le' _ _)
  have es:partP keys b (p.take (i+1))=partP keys b (p.take i)++if keepC keys b p[i] then [p[i]] else []:=by
   rw [List.take_add_one,List.getElem?_eq_getElem hlt',partP,List.filter_append]
   congr 1
   rw [Option.toList,List.filter_cons,List.filter_nil]
   rfl
  refine JoinK_i (fun vs W'=>∃ ov',vs=[ov']∧OwnR w.heap.size 111 6 RChg W' ov' (partP keys b (p.take (i+1)))∧Grow w W') ?_ ?_
  ·rintro _ W' ⟨ov',rfl,ho',g'⟩ _
   simp only [nth_s,nth_z,List.headD_cons,List.tail_cons]
   rw [addK_i,loop_step (by omega)]
   exact ⟨⟨i+1,ov',hlt',rfl,ho',g'⟩,by rw [iOf1,iOf1];omega⟩
  obtain ⟨a,r,rfl,_,hr,hc,rfl⟩:=(hp.grow g (by decide) fun _ _ h=>h).get hlt'
  refine ixK_n hlt' ?_
  rw [faK_i,Addr.add_add]
  refine ld1K_i (hc 0 _ rfl) ?_
  refine callK_mono (find_ok (hk.grow g (by decide) fun _ _ h=>h)) ?_
  rintro _ w2 ⟨rfl,g2⟩
  refine extK_i (vs:=[_,_]) (by rfl) (extK_i (vs:=[_,_]) (by rfl) ?_)
  refine newst_n (vs:=((findK keys p[i].key).getD DKey.zero).cells) rfl rfl (RKey.one (w:=w2) (x:=(findK keys p[i].key).getD DKey.zero) rfl) fun b9 w3 hb9 hz9 g3 hc3 _=>?_
  have g23:=g2.trans g3
  have ho3:OwnR w.heap.size 111 6 RChg w3 ov (partP keys b (p.take i)):=OwnR.mod ho g23 (fun _ _ h=>h) fun _ _ _ h=>h
  have no:keepC keys b p[i]=false→∃ ov',[ov]=[ov']∧OwnR w.heap.size 111 6 RChg w3 ov' (partP keys b (p.take (i+1)))∧Grow w w3:=fun e=>⟨ov,rfl,by rw [es,e];simpa using ho3,g.trans g23⟩
  cases e:findK keys p[i].key with
  | none=>exact condK_f (no (by unfold keepC;rw [e]))
  | some kk=>
   rw [e] at hc3
   refine condK_t ?_
   rw [faK_i]
   refine ld1K_i (hc3 1 _ rfl) ?_
   rw [beqK_i]
   simp only [Option.getD_some]
   by_cases hbb:kk.block=b
   ·rw [show (kk.block == b)=true by simp [hbb]]
    refine condK_t ?_
    refine ixK_n hlt' (ldnK_i hr (fun j u hu=>by rw [Addr.add_add];exact g23.cell (hc j u hu) fun h=>h) ?_)
    refine push_n (w0:=w) elem_chg ho3 (g.trans g23) (cs:=p[i].cells) (x:=p[i]) (by kernel_rfl) rfl rfl (fun _ _ _=>RChg.one) (fun _ _ _ _ _ _ h=>h) (by omega) (by simp only [maxLen];omega) fun v' w' o' g'=>?_
    refine ⟨v',rfl,?_,g'⟩
    rw [es,show keepC keys b p[i]=true by unfold keepC;rw [e];simp [hbb]]
    exact o'
   ·rw [show (kk.block == b)=false by simp [hbb]]
    exact condK_f (no (by unfold keepC;rw [e];simp [hbb]))
 ·obtain rfl:i=p.length:=by omega
  rw [List.take_length] at ho
  exact ⟨ho,g⟩
end Go.Proofs.YtlbaopamhkmepaaGreatDoor
