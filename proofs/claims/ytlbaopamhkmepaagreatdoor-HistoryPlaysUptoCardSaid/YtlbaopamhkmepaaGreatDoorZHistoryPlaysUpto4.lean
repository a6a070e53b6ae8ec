/- Contracts: a patch behind another one; a set with a patch on it. Conditions: the sizes. Contracts: a delta in memory of its own. Conditions: the sizes. Contracts: slices.Grow of nothing, slices.Concat of two rows of ops. Conditions: the sizes. The maker of normal forms in memory; contracts: New, gap, Delete. Conditions: the sizes. Contract: the maker is told an insert. Conditions: the sizes; what is told lies apart from the maker. Contract: the maker is told a retain. Conditions: the sizes; what is told lies apart from the maker. Contracts: what a maker has made; a delta's normal form; whether it is normal. Conditions: the sizes. Contracts of the document's side: whether two deltas are the same. No conditions. Adding onto an empty row that has no room: the row itself stays. No conditions but the sizes. Stacks: rows of the holder's own, or slices without room. No conditions but the sizes. Plain laws of UTF-8: the document's reading, byte by byte, as the library tells a valid text. No conditions but that bytes are bytes. Plain laws: what is no number; eight bytes in one word. No conditions. By a program of ours: of each function below the predicate that its code comes to, and that it is sound. No conditions. Contracts: eight bytes as a word; whether bytes are UTF-8. Conditions: the two tables lie in memory as they are laid. -/
import Derived.Test.YtlbaopamhkmepaaGreatDoorZHistoryPlaysUpto3
import Derived.Lib.AppendZeros
namespace Go.K
open Go
theorem app_n {α:Type} {P:Program} {t e k bytes:Nat} {R:World→List Value→α→Prop} {S:Nat→Prop} {w0 w:World} {v x:Value} {l m:List α} {K:Cont} (hE:ElemOK P t e k bytes) (h:OwnR w0.heap.size e k R w v l) (hg:Grow w0 w) (hx:SlR S k R w x m)
  (hone:∀ r y,R w r y→∀ u ∈ r,u.oneCell'=true) (hR:∀ w1 w2 r y,R w1 r y→R w2 r y) (h63:(l.length+m.length) * bytes≤140737488355328) (hlm:l.length+m.length≤maxLen)
  (hK:∀ v' w',OwnR w0.heap.size e k R w' v' (l++m)→Grow w0 w'→K v' w'):runK P (Builtin.append_ #[t,t] t [v,x].toArray) K w:=by
 obtain ⟨v',w',h1,h2,h3,_⟩:=OwnR.append (ty:=t) hE h hx hone h63 hg.size hlm fun w' _ r y hy=>hR _ _ _ _ hy
 exact runK_i h1 (hK v' w' h2 (hg.next (Mod.of_grownBy h3) fun b hb e=>by have:=(OwnR.ownB h b e).1;omega))
def RowIn (ov0:Value) (w4 W:World) (ov:Value):Prop:=Mod (fun b=>ov0.ownBlock=some b) w4 W∧∀ b,ov.ownBlock=some b→ov0.ownBlock=some b∨w4.heap.size≤b
section
variable {ov0 ov v':Value} {w w4 W W':World}
theorem RowIn.start:RowIn ov w4 w4 ov:=⟨Mod.refl _ _,fun _ h=>.inl h⟩
theorem RowIn.grow (h:RowIn ov0 w4 W ov) (g:Grow W W'):RowIn ov0 w4 W' ov:=⟨h.1.next g fun _ _ e=>e.elim,h.2⟩
theorem RowIn.push (h:RowIn ov0 w4 W ov) (m:Mod (fun b=>ov.ownBlock=some b) W W') (hv:∀ g,v'.ownBlock=some g→ov.ownBlock=some g∨W.heap.size≤g):RowIn ov0 w4 W' v':=
 ⟨h.1.next m fun b hb e=>by rcases h.2 b e with e | e;exact e;omega,fun b hb=>by
  rcases hv b hb with e | e
  ·exact h.2 b e
  ·exact .inr (Nat.le_trans h.1.size e)⟩
theorem RowIn.g (h:RowIn ov0 w4 W ov) (g:Grow w w4) (hB:∀ b,ov0.ownBlock=some b→w.heap.size≤b):Grow w W:=g.next h.1 fun b hb e=>by have:=hB b e;omega
end
end Go.K
namespace Go.Proofs.YtlbaopamhkmepaaGreatDoor
open Go Go.K

theorem drop_cons {α:Type} {l:List α} {i:Nat} (h:i < l.length):l.drop i=l[i] :: l.drop (i+1):=List.drop_eq_getElem_cons h
set_option maxRecDepth 20000 in
theorem pcom_ok {S S':Nat→Prop} {pv qv:Value} {p q:List Chg} {w:World} (hp:RPat S w pv p) (hq:RPat S' w qv q) (hb:p.length+q.length≤1099511627776) :
  callK Tryz.prog 185 [pv,qv] (fun v' w'=>OwnR w.heap.size 111 6 RChg w' v' (comP p q)∧Grow w w') w:=by
 apply S185_ok
 unfold S185
 obtain ⟨pa,pc,rfl,_⟩:=hp.shape
 obtain ⟨qa,qc,rfl,_⟩:=hq.shape
 rw [lenK_i]
 refine LoopK_i (fun vs W=>∃ (k i:Nat) (ov:Value) (out:List Chg),k≤q.length∧i≤p.length∧vs=[ov,.int .i64 i,.int .i64 k]∧OwnR w.heap.size 111 6 RChg W ov out∧Grow w W∧out.length+(p.length - i)+(q.length - k)≤p.length+q.length∧out++comP (p.drop i) (q.drop k)=comP p q) (fun vs _=>q.length - iOf vs 2) ⟨0,0,_,[],by omega,by omega,rfl,OwnR.nil,Mod.refl _ _,by simp,rfl⟩ ?_
 rintro vs W ⟨k,i,ov0,out,hk,hi,rfl,ho,g,hlen,he⟩ _
 simp only [nth_s,nth_z,List.headD_cons,List.tail_cons]
 rw [ltK_i]
 refine condK_p (fun hlt=>?_) fun hge=>?_
 ·have hlt':k < q.length:=by omega
  obtain ⟨a,r,rfl,_,hr,hc,rfl⟩:=(hq.grow g (by decide) fun _ _ h=>h).get hlt'
  refine ixK_n hlt' (ldnK_i hr (fun j u hu=>by rw [Addr.add_add];exact hc j u hu) ?_)
  refine newst_n (vs:=q[k].cells) rfl rfl (RChg.one (w:=W) (x:=q[k]) rfl) fun b8 w4 hb8 hz8 g4 hc8 _=>?_
  have g04:=g.trans g4
  have hB:∀ b,ov0.ownBlock=some b→w.heap.size≤b:=fun b e=>(OwnR.ownB ho b e).1
  have h8:ov0.ownBlock≠some b8:=fun e=>by have:=(OwnR.ownB ho b8 e).2;omega
  have ho4:OwnR w.heap.size 111 6 RChg w4 ov0 out:=OwnR.mod ho g4 (fun _ _ h=>h) fun _ _ _ h=>h
  rw [drop_cons hlt'] at he
  simp only [comP] at he
  refine JoinK_i (fun vs W=>∃ (i:Nat) (ov:Value) (out:List Chg),i≤p.length∧vs=[ov,.int .i64 i]∧OwnR w.heap.size 111 6 RChg W ov out∧RowIn ov0 w4 W ov∧out.length+(p.length - i)+(q.length - k)≤p.length+q.length∧out++q[k] :: comP (p.drop i) (q.drop (k+1))=comP p q) ?_ ?_
  ·rintro vs W ⟨i,ov,out,hi,rfl,ho,g5,hlen,he⟩ _
   simp only [nth_s,nth_z,List.headD_cons,List.tail_cons]
   refine ldnK_i (vs:=q[k].cells) rfl (fun j u hu=>g5.1.cell (hc8 j u hu) (by rw [add_block];exact h8)) ?_
   refine push_n (w0:=w) elem_chg ho (g5.g g04 hB) (cs:=q[k].cells) (x:=q[k]) (by kernel_rfl) rfl rfl (fun _ _ _=>RChg.one) (fun _ _ _ _ _ _ h=>h) (by omega) (by simp only [maxLen];omega) fun v' w' o' g'=>?_
   rw [addK_i,loop_step (by omega)]
   refine ⟨⟨k+1,i,v',out++[q[k]],hlt',hi,rfl,o',g',by simp only [List.length_append,List.length_cons,List.length_nil];omega,by rw [List.append_assoc];exact he⟩,?_⟩
   show q.length - ((k+1:Nat):Int).toNat < q.length - (k:Int).toNat
   omega
  refine LoopK_i (fun vs W=>∃ (i:Nat) (ov:Value) (out:List Chg),i≤p.length∧vs=[ov,.int .i64 i]∧OwnR w.heap.size 111 6 RChg W ov out∧RowIn ov0 w4 W ov∧out.length+(p.length - i)+(q.length - k)≤p.length+q.length∧out++lowC q[k] (p.drop i)++q[k] :: comP (highC q[k] (p.drop i)) (q.drop (k+1))=comP p q) (fun vs _=>p.length - iOf vs 1) ⟨i,ov0,out,hi,rfl,ho4,RowIn.start,hlen,by rw [←he,List.append_assoc]⟩ ?_
  clear ho ho4 hlen he hi
  rintro vs W1 ⟨i,ov,out,hi,rfl,ho,g5,hlen,he⟩ _
  have g05:=g5.g g04 hB
  have c8:W1.cell? ((⟨b8,0,none⟩:Addr).add 0)=some (.int .i64 q[k].key):=g5.1.cell (hc8 0 _ rfl) (by rw [add_block];exact h8)
  simp only [nth_s,nth_z,List.headD_cons,List.tail_cons]
  refine JoinK_i (fun _ W=>∃ hl:i < p.length,Grow W1 W∧p[i].key≤q[k].key) ?_ ?_
  ·rintro _ W2 ⟨hl,g6,hle⟩ _
   obtain ⟨a,r,e,_,hr,hc,hx⟩:=(hp.grow (g05.trans g6) (by decide) fun _ _ h=>h).get hl
   subst hx
   cases e
   have eL:lowC q[k] (p.drop i)=(if p[i].key < q[k].key then p[i] :: lowC q[k] (p.drop (i+1)) else lowC q[k] (p.drop (i+1))):=by
    rw [drop_cons hl];simp only [lowC];rw [if_pos hle]
   have eH:highC q[k] (p.drop i)=highC q[k] (p.drop (i+1)):=by
    rw [drop_cons hl];simp only [highC];rw [if_pos hle]
   rw [eL,eH] at he
   refine drawK_i (fun W=>Grow W2 W) (Mod.drew _ _) ?_
   refine ixK_n hl ?_
   rw [faK_i,Addr.add_add]
   refine qld1K_i (fun W hW=>hW.cell (hc 0 _ rfl) fun h=>h) ?_
   rw [faK_i]
   refine qld1K_i (fun W hW=>hW.cell (g6.cell c8 fun h=>h) fun h=>h) ?_
   rw [ltK_i]
   intro W3 g7
   have ho3:OwnR w.heap.size 111 6 RChg W3 ov out:=OwnR.mod ho (g6.trans g7) (fun _ _ h=>h) fun _ _ _ h=>h
   refine condK_p (fun hlt=>?_) fun hnl=>?_
   ·refine ixK_n hl (ldnK_i hr (fun j u hu=>by rw [Addr.add_add];exact g7.cell (hc j u hu) fun h=>h) ?_)
    refine push_g elem_chg ho3 ((g05.trans g6).trans g7).size (cs:=p[i].cells) (x:=p[i]) (by kernel_rfl) rfl rfl (fun _ _ _=>RChg.one) (fun _ _ _ _ _ _ h=>h) (by omega) (by simp only [maxLen];omega) fun v' w' o' m' hv'=>?_
    rw [if_pos hlt] at he
    rw [addK_i,loop_step (by omega)]
    refine ⟨⟨i+1,v',out++[p[i]],hl,rfl,o',((g5.grow g6).grow g7).push m' hv',by simp only [List.length_append,List.length_cons,List.length_nil];omega,by rw [←he];simp⟩,by rw [iOf1,iOf1];omega⟩
   ·rw [if_neg hnl] at he
    rw [addK_i,loop_step (by omega)]
    exact ⟨⟨i+1,ov,out,hl,rfl,ho3,(g5.grow g6).grow g7,by omega,he⟩,by rw [iOf1,iOf1];omega⟩
  ·refine drawK_i (fun W=>Grow W1 W) (Mod.drew _ _) ?_
   rw [lenK_i,ltK_i]
   refine condK_p (fun hl=>?_) fun hge=>?_
   ·have hl':i < p.length:=by omega
    obtain ⟨a,r,e,_,hr,hc,hx⟩:=(hp.grow g05 (by decide) fun _ _ h=>h).get hl'
    subst hx
    cases e
    refine ixK_n hl' ?_
    rw [faK_i,Addr.add_add]
    refine qld1K_i (fun W hW=>hW.cell (hc 0 _ rfl) fun h=>h) ?_
    rw [faK_i]
    refine qld1K_i (fun W hW=>hW.cell c8 fun h=>h) ?_
    rw [leK_i]
    intro W2 g6
    refine condK_p (fun hle=>⟨hl',g6,hle⟩) fun hgt=>?_
    have eL:lowC q[k] (p.drop i)=[]:=by rw [drop_cons hl'];simp only [lowC];rw [if_neg hgt]
    have eH:highC q[k] (p.drop i)=p.drop i:=by rw [drop_cons hl'];simp only [highC];rw [if_neg hgt]
    rw [eL,eH,List.append_nil] at he
    exact ⟨i,ov,out,hi,rfl,OwnR.mod ho g6 (fun _ _ h=>h) fun _ _ _ h=>h,g5.grow g6,hlen,he⟩
   ·intro W2 g6
    have e:p.drop i=[]:=List.drop_eq_nil_of_le (by omega)
    rw [e] at he
    simp only [lowC,highC,List.append_nil] at he
    exact ⟨i,ov,out,hi,rfl,OwnR.mod ho g6 (fun _ _ h=>h) fun _ _ _ h=>h,g5.grow g6,hlen,by rw [e];exact he⟩
 ·obtain rfl:k=q.length:=by omega
  rw [List.drop_length] at he
  simp only [comP] at he
  refine slice_lo (e:=111) (k:=6) (i:=Tryz.t111) (by kernel_rfl) (by kernel_rfl) (by kernel_rfl) (hp.grow g (by decide) fun _ _ h=>h) hi fun v' hv'=>?_
  refine app_n (w0:=w) elem_chg ho g hv' (fun _ _=>RChg.one (w:=W)) (fun _ _ _ _ h=>h) (by rw [List.length_drop];omega) (by simp only [maxLen,List.length_drop];omega) fun v'' w' o' g'=>?_
  rw [he] at o'
  exact ⟨o',g'⟩
set_option maxRecDepth 20000 in
theorem papp_ok {S S':Nat→Prop} {sv pv:Value} {s:List Attr} {p:List Chg} {w:World} (hs:RSet S w sv s) (hp:RPat S' w pv p) (hb:s.length+p.length≤1099511627776) :
  callK Tryz.prog 203 [sv,pv] (fun v' w'=>OSet w.heap.size w' v' (appP s p)∧Grow w w') w:=by
 apply S203_ok
 unfold S203
 obtain ⟨sa,sc,rfl,_⟩:=hs.shape
 obtain ⟨pa,pc,rfl,_⟩:=hp.shape
 rw [lenK_i]
 refine LoopK_i (fun vs W=>∃ (k i:Nat) (ov:Value) (out:List Attr),k≤p.length∧i≤s.length∧vs=[ov,.int .i64 i,.int .i64 k]∧OSet w.heap.size W ov out∧Grow w W∧out.length+(s.length - i)+(p.length - k)≤s.length+p.length∧out++appP (s.drop i) (p.drop k)=appP s p) (fun vs _=>p.length - iOf vs 2) ⟨0,0,_,[],by omega,by omega,rfl,OwnR.nil,Mod.refl _ _,by simp,rfl⟩ ?_
 rintro vs W ⟨k,i,ov0,out,hk,hi,rfl,ho,g,hlen,he⟩ _
 simp only [nth_s,nth_z,List.headD_cons,List.tail_cons]
 rw [ltK_i]
 refine condK_p (fun hlt=>?_) fun hge=>?_
 ·have hlt':k < p.length:=by omega
  rw [drop_cons hlt'] at he
  simp only [appP] at he
  refine JoinK_i (fun vs W=>∃ (i:Nat) (ov:Value) (out:List Attr),i≤s.length∧vs=[ov,.int .i64 i]∧OSet w.heap.size W ov out∧Grow w W∧out.length+(s.length - i)+(p.length - (k+1))≤s.length+p.length∧out++appP (s.drop i) (p.drop (k+1))=appP s p) ?_ ?_
  ·rintro vs W ⟨i,ov,out,hi,rfl,ho,g5,hlen,he⟩ _
   simp only [nth_s,nth_z,List.headD_cons,List.tail_cons]
   rw [addK_i,loop_step (by omega)]
   refine ⟨⟨k+1,i,ov,out,hlt',hi,rfl,ho,g5,hlen,he⟩,?_⟩
   show p.length - ((k+1:Nat):Int).toNat < p.length - (k:Int).toNat
   omega
  obtain ⟨a,r,rfl,_,hr,hc,rfl⟩:=(hp.grow g (by decide) fun _ _ h=>h).get hlt'
  refine ixK_n hlt' (ldnK_i hr (fun j u hu=>by rw [Addr.add_add];exact hc j u hu) ?_)
  refine newst_n (vs:=p[k].cells) rfl rfl (RChg.one (w:=W) (x:=p[k]) rfl) fun b8 w4 hb8 hz8 g4 hc8 _=>?_
  have g04:=g.trans g4
  have hB:∀ b,ov0.ownBlock=some b→w.heap.size≤b:=fun b e=>(OwnR.ownB ho b e).1
  have h8:ov0.ownBlock≠some b8:=fun e=>by have:=(OwnR.ownB ho b8 e).2;omega
  have ho4:OSet w.heap.size w4 ov0 out:=OwnR.mod ho g4 (fun _ _ h=>h) fun _ _ _ h=>h
  -- what the change itself puts
  have put:∀ (i:Nat) (ov:Value) (out:List Attr) (W1:World),OSet w.heap.size W1 ov out→RowIn ov0 w4 W1 ov→i≤s.length→out.length+(s.length - i)+(p.length - k)≤s.length+p.length→out++midA p[k]++appP (s.drop i) (p.drop (k+1))=appP s p→
    (faK 1 (.pointer (some ⟨b8,0,none⟩)) fun t48=>ld1K t48 (fun t49 w8=>notK t49 fun t50=>condK t50
     (faK 0 (.pointer (some ⟨b8,0,none⟩)) fun t52=>ld1K t52 (fun t53 w9=>faK 2 (.pointer (some ⟨b8,0,none⟩)) fun t54=>ldnK 4 t54 (fun t55 w10=>
      buildK [(0,1),(1,4)] [(.int .i64 0),(.int .u8 0),(.int .i64 0),(.int .u64 0),(.string (ByteArray.mk #[]))] [(0,t53),(1,t55)] fun t56=>
      rowK 109 5 1 [(.int .i64 0),(.int .u8 0),(.int .i64 0),(.int .u64 0),(.string (ByteArray.mk #[]))] [(0,t56)] (fun t57 w11=>
      runK Tryz.prog (Builtin.append_ #[36,36] 36 [ov,t57].toArray) (fun t58 w12=>
       ∃ (i':Nat) (ov':Value) (out':List Attr),i'≤s.length∧[t58,.int .i64 (i:Int)]=[ov',.int .i64 (i':Int)]∧OSet w.heap.size w12 ov' out'∧Grow w w12∧out'.length+(s.length - i')+(p.length - (k+1))≤s.length+p.length∧out'++appP (s.drop i') (p.drop (k+1))=appP s p) w11) w10) w9) w8)
     (∃ (i':Nat) (ov':Value) (out':List Attr),i'≤s.length∧[ov,.int .i64 (i:Int)]=[ov',.int .i64 (i':Int)]∧OSet w.heap.size w8 ov' out'∧Grow w w8∧out'.length+(s.length - i')+(p.length - (k+1))≤s.length+p.length∧out'++appP (s.drop i') (p.drop (k+1))=appP s p)) W1):=by
   intro i ov out W1 ho g5 hi hlen he
   have c8:∀ j u,p[k].cells[j]?=some u→W1.cell? ((⟨b8,0,none⟩:Addr).add j)=some u:=fun j u hu=>g5.1.cell (hc8 j u hu) (by rw [add_block];exact h8)
   rw [faK_i]
   refine ld1K_i (c8 1 _ rfl) ?_
   rw [notK_i]
   have g05:=g5.g g04 hB
   cases hg:p[k].gone with
   | true=>
    refine condK_f ?_
    rw [midA,hg,if_pos rfl,List.append_nil] at he
    exact ⟨i,ov,out,hi,rfl,ho,g05,by omega,he⟩
   | false=>
    refine condK_t ?_
    rw [midA,hg,if_neg (by decide)] at he
    rw [faK_i]
    refine ld1K_i (c8 0 _ rfl) ?_
    rw [faK_i]
    refine ldnK_i (vs:=p[k].val.cells) rfl (fun j u hu=>by rw [Addr.add_add];exact c8 (2+j) u (by rw [Nat.add_comm];exact hu)) ?_
    refine ⟨(⟨p[k].key,p[k].val⟩:Attr).cells.toArray,by kernel_rfl,?_⟩
    refine push_n (w0:=w) elem_attr ho g05 (cs:=(⟨p[k].key,p[k].val⟩:Attr).cells) (x:=⟨p[k].key,p[k].val⟩) (by kernel_rfl) rfl rfl (fun _ _ _=>RAttr.one) (fun _ _ _ _ _ _ h=>h) (by omega) (by simp only [maxLen];omega) fun v' w' o' g'=>?_
    exact ⟨i,v',_,hi,rfl,o',g',by simp only [List.length_append,List.length_cons,List.length_nil];omega,he⟩
  refine LoopK_i (fun vs W=>∃ (i:Nat) (ov:Value) (out:List Attr),i≤s.length∧vs=[ov,.int .i64 i]∧OSet w.heap.size W ov out∧RowIn ov0 w4 W ov∧out.length+(s.length - i)+(p.length - k)≤s.length+p.length∧out++(lowA p[k] (s.drop i)++midA p[k]++appP (highA p[k] (s.drop i)) (p.drop (k+1)))=appP s p) (fun vs _=>s.length - iOf vs 1) ⟨i,ov0,out,hi,rfl,ho4,RowIn.start,hlen,he⟩ ?_
  clear ho ho4 hlen he hi
  rintro vs W1 ⟨i,ov,out,hi,rfl,ho,g5,hlen,he⟩ _
  have g05:=g5.g g04 hB
  have c8:W1.cell? ((⟨b8,0,none⟩:Addr).add 0)=some (.int .i64 p[k].key):=g5.1.cell (hc8 0 _ rfl) (by rw [add_block];exact h8)
  simp only [nth_s,nth_z,List.headD_cons,List.tail_cons]
  rw [lenK_i,ltK_i]
  refine condK_p (fun hl=>?_) fun hge=>?_
  ·have hl':i < s.length:=by omega
   rw [drop_cons hl'] at he
   simp only [lowA,highA] at he
   refine JoinK_i (fun vs W=>∃ (i:Nat),i≤s.length∧vs=[ov,.int .i64 i]∧Grow W1 W∧out.length+(s.length - i)+(p.length - k)≤s.length+p.length∧out++midA p[k]++appP (s.drop i) (p.drop (k+1))=appP s p) ?_ ?_
   ·rintro vs W2 ⟨i',hi',rfl,g6,hlen',he'⟩ _
    simp only [nth_s,nth_z,List.headD_cons,List.tail_cons]
    exact put i' ov out W2 (OwnR.mod ho g6 (fun _ _ h=>h) fun _ _ _ h=>h) (g5.grow g6) hi' hlen' he'
   obtain ⟨a,r,e,_,hr,hc,hx⟩:=(hs.grow g05 (by decide) fun _ _ h=>h).get hl'
   subst hx
   cases e
   refine drawK_i (fun W=>Grow W1 W) (Mod.drew _ _) ?_
   refine ixK_n hl' ?_
   rw [faK_i,Addr.add_add]
   refine qld1K_i (fun W hW=>hW.cell (hc 0 _ rfl) fun h=>h) ?_
   rw [faK_i]
   refine qld1K_i (fun W hW=>hW.cell c8 fun h=>h) ?_
   rw [ltK_i]
   intro W2 g6
   have ho2:OSet w.heap.size W2 ov out:=OwnR.mod ho g6 (fun _ _ h=>h) fun _ _ _ h=>h
   refine condK_p (fun hlt=>?_) fun hnl=>?_
   ·rw [if_pos hlt,if_pos hlt] at he
    refine ixK_n hl' (ldnK_i hr (fun j u hu=>by rw [Addr.add_add];exact g6.cell (hc j u hu) fun h=>h) ?_)
    refine push_g elem_attr ho2 (g05.trans g6).size (cs:=s[i].cells) (x:=s[i]) (by kernel_rfl) rfl rfl (fun _ _ _=>RAttr.one) (fun _ _ _ _ _ _ h=>h) (by omega) (by simp only [maxLen];omega) fun v' w' o' m' hv'=>?_
    rw [addK_i,loop_step (by omega)]
    refine ⟨⟨i+1,v',out++[s[i]],hl',rfl,o',(g5.grow g6).push m' hv',by simp only [List.length_append,List.length_cons,List.length_nil];omega,by rw [←he];simp⟩,by rw [iOf1,iOf1];omega⟩
   ·rw [if_neg hnl,if_neg hnl] at he
    refine drawK_i (fun W=>Grow W2 W) (Mod.drew _ _) ?_
    refine ixK_n hl' ?_
    rw [faK_i,Addr.add_add]
    refine qld1K_i (fun W hW=>hW.cell (g6.cell (hc 0 _ rfl) fun h=>h) fun h=>h) ?_
    rw [faK_i]
    refine qld1K_i (fun W hW=>hW.cell (g6.cell c8 fun h=>h) fun h=>h) ?_
    rw [eqK_i]
    intro W3 g7
    refine condK_p (fun heq=>?_) fun hne=>?_
    ·rw [if_pos heq] at he
     rw [addK_i,loop_step (by omega)]
     exact ⟨i+1,hl',rfl,g6.trans g7,by omega,by rw [←he];simp⟩
    ·rw [if_neg hne] at he
     exact ⟨i,hi,rfl,g6.trans g7,hlen,by rw [drop_cons hl',←he];simp⟩
  ·have e:s.drop i=[]:=List.drop_eq_nil_of_le (by omega)
   rw [e] at he
   simp only [lowA,highA,List.nil_append] at he
   exact put i ov out W1 ho g5 hi hlen (by rw [e,←he];simp)
 ·obtain rfl:k=p.length:=by omega
  rw [List.drop_length] at he
  simp only [appP] at he
  refine slice_lo (e:=109) (k:=5) (i:=Tryz.t109) (by kernel_rfl) (by kernel_rfl) (by kernel_rfl) (hs.grow g (by decide) fun _ _ h=>h) hi fun v' hv'=>?_
  refine app_n (w0:=w) elem_attr ho g hv' (fun _ _=>RAttr.one (w:=W)) (fun _ _ _ _ h=>h) (by rw [List.length_drop];omega) (by simp only [maxLen,List.length_drop];omega) fun v'' w' o' g'=>?_
  rw [he] at o'
  exact ⟨o',g'⟩
end Go.Proofs.YtlbaopamhkmepaaGreatDoor

namespace Go.K
open Go
theorem OwnR.conv {α:Type} {B e k:Nat} {R0 R:World→List Value→α→Prop} {w:World} {g n c:Nat} {l:List α} (h:OwnR B e k R0 w (.slice (some ⟨g,0,none⟩) n c) l)
  (hR:∀ i (hi:i < l.length) (r:List Value),r.length=k→(∀ u ∈ r,u.oneCell'=true)→(∀ q u,r[q]?=some u→w.cell? ⟨g,i * k+q,none⟩=some u)→R w r l[i]):OwnR B e k R w (.slice (some ⟨g,0,none⟩) n c) l:=by
 obtain ⟨rows,h1,h2,h3,h4⟩:=h
 have hrl:∀ r ∈ rows,r.length=k:=fun r hr=>(h3 r hr).1
 have hn:n=l.length:=by
  rcases h1.2 with ⟨h',_⟩ | ⟨g',cap',cur,h',_⟩
  ·simp at h'
  ·simp only [Value.slice.injEq] at h';exact h'.2.1
 subst hn
 refine ⟨rows,h1,h2,h3,fun i r x hr hx=>?_⟩
 have hi:i < l.length:=(List.getElem?_eq_some_iff.1 hx).1
 have hx':x=l[i]:=by rw [List.getElem?_eq_getElem hi] at hx;exact (Option.some.inj hx).symm
 subst hx'
 have hm:=List.mem_of_getElem? hr
 refine hR i hi r (hrl r hm) (h3 r hm).2 fun q u hu=>?_
 have hq:q < k:=by rw [←hrl r hm];exact (List.getElem?_eq_some_iff.1 hu).1
 have hlt:i * k+q < l.length * k:=by
  have:(i+1) * k≤l.length * k:=Nat.mul_le_mul_right _ hi
  rw [Nat.add_mul] at this;omega
 have:=h1.cellAt _ hlt
 rw [flat_get rows i q r hrl hr hq] at this
 rw [←hu];exact this
theorem OwnR.any {α:Type} {B e k:Nat} {R0:World→List Value→α→Prop} {w:World} {v:Value} {l:List α} (h:OwnR B e k R0 w v l):OwnR B e k (fun _ _ _=>True) w v l:=by
 obtain ⟨rows,h1,h2,h3,_⟩:=h
 exact ⟨rows,h1,h2,h3,fun _ _ _ _ _=>trivial⟩
theorem OwnR.setAny {α:Type} {B e k:Nat} {w:World} {g n c:Nat} {l:List α} (h:OwnR B e k (fun _ _ _=>True) w (.slice (some ⟨g,0,none⟩) n c) l) {i j:Nat} (hi:i < l.length) (hj:j < k) {u:Value} (hu:u.oneCell'=true) :
  OwnR B e k (fun _ _ _=>True) (w.setCell ⟨g,i * k+j,none⟩ u) (.slice (some ⟨g,0,none⟩) n c) l:=by
 have hs:=(OwnR.store (R':=fun _ _ _=>True) (x':=l[i]) h hi hj hu (fun _ _ _ _=>trivial) fun _ _=>trivial).2.2.1
 have e:l.set i l[i]=l:=List.set_getElem_self hi
 rw [e] at hs
 have hadd:(⟨g,0,none⟩:Addr).add (i * k+j)=⟨g,i * k+j,none⟩:=by unfold Addr.add;split <;> simp_all
 rw [hadd] at hs
 exact hs
theorem setA (W:World) (g o:Nat) (u:Value):Mod (fun b=>b=g) W (W.setCell ⟨g,o,none⟩ u):=Mod.setCell _ _ _ rfl
theorem OwnR.cellsOf {α:Type} {B e k:Nat} {R:World→List Value→α→Prop} {w:World} {g n c:Nat} {l:List α} (h:OwnR B e k R w (.slice (some ⟨g,0,none⟩) n c) l) {i:Nat} (hi:i < l.length) :
  ∃ r,r.length=k∧(∀ q u,r[q]?=some u→w.cell? ⟨g,i * k+q,none⟩=some u)∧R w r l[i]∧∀ q,q < k→Live w ⟨g,i * k+q,none⟩:=by
 obtain ⟨p,r,e1,_,hr,hc,hR⟩:=(OwnR.sl h).get hi
 cases e1
 have hadd:∀ q,(⟨g,0,none⟩:Addr).add (i * k+q)=⟨g,i * k+q,none⟩:=fun q=>by unfold Addr.add;split <;> simp_all
 refine ⟨r,hr,fun q u hu=>by rw [←hadd];exact hc q u hu,hR,fun q hq=>?_⟩
 obtain ⟨g',e2,_,hl⟩:=OwnR.live h hi hq
 cases e2
 rw [hadd] at hl;exact hl
end Go.K
namespace Go.Proofs.YtlbaopamhkmepaaGreatDoor
open Go Go.K

def OpAt (W:World) (g j:Nat) (o:Dop) (rv sv pv:Value):Prop:=∀ q u,[Value.int .u8 o.kind,.int .i64 o.n,rv,sv,pv][q]?=some u→W.cell? ⟨g,j * 5+q,none⟩=some u
theorem OpAt.cong {W W':World} {g j:Nat} {o:Dop} {rv sv pv:Value} (h:OpAt W g j o rv sv pv) (hW:∀ q,q < 5→W'.cell? ⟨g,j * 5+q,none⟩=W.cell? ⟨g,j * 5+q,none⟩):OpAt W' g j o rv sv pv:=by
 intro q u hu
 have:=(List.getElem?_eq_some_iff.1 hu).1
 simp only [List.length_cons,List.length_nil] at this
 rw [hW q (by omega)];exact h q u hu
theorem copy_dops {S D:Nat→Prop} {v:Value} {x:List Dop} {w:World} (h:RDops S D w v x) (hb:mDops x≤1099511627776) :
  callK Tryz.prog 49 [v] (fun v' w'=>ODops w.heap.size w' v' x∧Grow w w') w:=by
 apply S49_ok
 unfold S49
 have hxl:=mDops_len x
 refine callK_mono (clone_dops h (by omega)) ?_
 rintro v1 w1 ⟨o1,g1⟩
 obtain ⟨a1,c1,rfl,hc1,hcm,hp,hn⟩:=OwnR.shape o1
 simp only [maxLen] at hcm
 rw [lenK_i]
 cases a1 with
 | none=>
  have:=hn rfl
  subst this
  refine LoopK_i (fun vs w2=>vs=[.int .i64 0]∧w2=w1) (fun _ _=>0) ⟨rfl,rfl⟩ ?_
  rintro vs _ ⟨rfl,rfl⟩ _
  rename World=>w1
  rw [nth_z,List.headD_cons,ltK_i]
  exact condK_p (fun h=>by simp at h) fun _=>⟨OwnR.mod o1 (Mod.refl (fun _=>False) _) (fun _ _ h=>h) fun r y hy=>by simp at hy,g1⟩
 | some p1=>
  obtain ⟨g,rfl,hg1,hg2,_⟩:=hp _ rfl
  have hsz:∀ o ∈ x,o.runes.length * 4≤140737488355328∧o.set.length * 48≤140737488355328∧o.patch.length * 56≤140737488355328:=by
   intro o ho
   have:=mDops_mem ho
   simp only [mDop,mSet_eq,mPat_eq] at this
   omega
  -- what the row has,i ops done
  let F:Nat→Prop:=fun b=>w.heap.size≤b∧b≠g
  let D0:Nat→Prop:=fun b=>D b∧b < w.heap.size
  let Inv:Nat→World→Prop:=fun i W=>OwnR w.heap.size 39 5 (fun _ _ _=>True) W (.slice (some ⟨g,0,none⟩) x.length c1) x∧Mod (fun b=>b=g) w1 W∧
   ∀ j (hj:j < x.length),∃ rv sv pv,OpAt W g j x[j] rv sv pv∧(j < i→ODop F W [.int .u8 x[j].kind,.int .i64 x[j].n,rv,sv,pv] x[j])∧(i≤j→RDop D0 W [.int .u8 x[j].kind,.int .i64 x[j].n,rv,sv,pv] x[j])
  have inv0:Inv 0 w1:=by
   refine ⟨o1.any,Mod.refl _ _,fun j hj=>?_⟩
   obtain ⟨r,hr,hcl,ho,_⟩:=OwnR.cellsOf o1 hj
   obtain ⟨rv,sv,pv,rfl,q1,q2,q3⟩:=ho
   exact ⟨rv,sv,pv,hcl,fun h=>by omega,fun _=>⟨rv,sv,pv,rfl,q1,q2,q3⟩⟩
  have hz1:=g1.size
  refine LoopK_i (fun vs W=>∃ i:Nat,i≤x.length∧vs=[.int .i64 i]∧Inv i W) (fun vs _=>x.length - iOf vs 0) ⟨0,Nat.zero_le _,rfl,inv0⟩ ?_
  rintro vs w2 ⟨i,hi,rfl,hinv⟩ _
  rw [nth_z,List.headD_cons,ltK_i]
  refine condK_p (fun hlt=>?_) fun hge=>?_
  ·have hlt':i < x.length:=by omega
   obtain ⟨oA,mA,rows⟩:=hinv
   have hz2:=mA.size
   obtain ⟨rv,sv,pv,hat,_,hrd⟩:=rows i hlt'
   obtain ⟨_,_,_,e,q1,q2,q3⟩:=hrd (Nat.le_refl _)
   simp only [List.cons.injEq,and_true,true_and] at e
   obtain ⟨rfl,rfl,rfl⟩:=e
   have hmem:x[i] ∈ x:=by simp
   obtain ⟨z1,z2,z3⟩:=hsz _ hmem
   have gd:Grow w2 w2.drew:=Mod.drew _ _
   refine drawC_i (fun k b=>(k=26∨k=29∨k=32)∧b=g) ?_
   -- the loads are of cells that the stores turn,which wait for them
   have ld:∀ q u,[Value.int .u8 x[i].kind,.int .i64 x[i].n,rv,sv,pv][q]?=some u→w2.drew.cell? ((⟨g,0,none⟩:Addr).add (i * 5+q))=some u:=fun q u hu=>by rw [addr0];exact hat q u hu
   have lv:∀ q,q < 5→Live w2 ⟨g,i * 5+q,none⟩:=by
    obtain ⟨_,_,_,_,hl⟩:=OwnR.cellsOf oA hlt'
    exact hl
   refine ixK_n hlt' ?_
   rw [faK_i,Addr.add_add]
   refine sld1_i ⟨ld 2 _ rfl,fun j hj h=>by rcases h with ⟨rfl | rfl | rfl,_⟩ <;> exact absurd hj (by decide)⟩ ?_
   refine callK_mono (clone_run (q1.grow gd (by decide) fun _ _ h=>h) z1) ?_
   rintro t1 w3 ⟨n1,g3⟩
   refine ⟨Grow.mod g3,?_⟩
   have g23:=gd.trans g3
   refine ixK_n hlt' ?_
   rw [faK_i,Addr.add_add]
   refine sld1_i ⟨ld 3 _ rfl,fun j hj h=>by rcases h with ⟨rfl | rfl | rfl,_⟩ <;> exact absurd hj (by decide)⟩ ?_
   refine callK_mono (copy_set (q2.grow g23 (by decide) fun _ _ h=>h) z2) ?_
   rintro t2 w4 ⟨n2,g4⟩
   refine ⟨Grow.mod g4,?_⟩
   have g24:=g23.trans g4
   refine ixK_n hlt' ?_
   rw [faK_i,Addr.add_add]
   refine sld1_i ⟨ld 4 _ rfl,fun j hj h=>by rcases h with ⟨rfl | rfl | rfl,_⟩ <;> exact absurd hj (by decide)⟩ ?_
   refine callK_mono (copy_pat (q3.grow g24 (by decide) fun _ _ h=>h) z3) ?_
   rintro t3 w5 ⟨n3,g5⟩
   refine ⟨Grow.mod g5,?_⟩
   have g25:=g24.trans g5
   have hz5:=g25.size
   have zd:w2.drew.heap.size=w2.heap.size:=rfl
   have hz3:=g3.size
   have hz4:=g4.size
   have lv5:∀ q,q < 5→Live w5 ⟨g,i * 5+q,none⟩:=fun q hq=>(lv q hq).mod g25 fun h=>h
   have n1':OwnR 0 21 1 RRune w5 t1 x[i].runes:=OwnR.base (OwnR.mod n1 (g4.trans g5) (fun _ _ h=>h) fun _ _ _ h=>h) fun _ _=>Nat.zero_le _
   have n2':OSet 0 w5 t2 x[i].set:=OwnR.base (OwnR.mod n2 g5 (fun _ _ h=>h) fun _ _ _ h=>h) fun _ _=>Nat.zero_le _
   have n3':OwnR 0 111 6 RChg w5 t3 x[i].patch:=OwnR.base n3 fun _ _=>Nat.zero_le _
   have b1:∀ b,t1.ownBlock=some b→F b:=fun b hb=>by have:=(OwnR.ownB n1 b hb).1;exact ⟨by omega,by omega⟩
   have b2:∀ b,t2.ownBlock=some b→F b:=fun b hb=>by have:=(OwnR.ownB n2 b hb).1;exact ⟨by omega,by omega⟩
   have b3:∀ b,t3.ownBlock=some b→F b:=fun b hb=>by have:=(OwnR.ownB n3 b hb).1;exact ⟨by omega,by omega⟩
   have oA5:OwnR w.heap.size 39 5 (fun _ _ _=>True) w5 (.slice (some ⟨g,0,none⟩) x.length c1) x:=OwnR.mod oA g25 (fun _ _ h=>h) fun _ _ _ _=>trivial
   have ht1:=OwnR.one n1'
   have ht2:=OwnR.one n2'
   have ht3:=OwnR.one n3'
   refine ixK_n hlt' ?_
   rw [faK_i,Addr.add_add,addr0]
   refine (lv5 2 (by decide)).st ht1.1 ht1.2 ⟨Mod.setCell _ _ _ ⟨.inl rfl,rfl⟩,?_⟩
   refine ixK_n hlt' ?_
   rw [faK_i,Addr.add_add,addr0]
   refine ((lv5 3 (by decide)).set _ _).st ht2.1 ht2.2 ⟨Mod.setCell _ _ _ ⟨.inr (.inl rfl),rfl⟩,?_⟩
   refine ixK_n hlt' ?_
   rw [faK_i,Addr.add_add,addr0]
   refine (((lv5 4 (by decide)).set _ _).set _ _).st ht3.1 ht3.2 ⟨Mod.setCell _ _ _ ⟨.inr (.inr rfl),rfl⟩,?_⟩
   rw [addK_i,loop_step (by omega)]
   refine ⟨⟨i+1,hlt',rfl,?_⟩,by rw [iOf0,iOf0];omega⟩
   have oA6:=OwnR.setAny (OwnR.setAny (OwnR.setAny oA5 hlt' (show 2 < 5 by decide) ht1.1) hlt' (show 3 < 5 by decide) ht2.1) hlt' (show 4 < 5 by decide) ht3.1
   have m56:Mod (fun b=>b=g) w5 (((w5.setCell ⟨g,i * 5+2,none⟩ t1).setCell ⟨g,i * 5+3,none⟩ t2).setCell ⟨g,i * 5+4,none⟩ t3):=((setA _ _ _ _).trans (setA _ _ _ _)).trans (setA _ _ _ _)
   have oth:∀ j q,q < 5→(j≠i∨q < 2)→(((w5.setCell ⟨g,i * 5+2,none⟩ t1).setCell ⟨g,i * 5+3,none⟩ t2).setCell ⟨g,i * 5+4,none⟩ t3).cell? ⟨g,j * 5+q,none⟩=w5.cell? ⟨g,j * 5+q,none⟩:=by
    intro j q hq hj
    have ne:∀ q',q' < 5→2≤q'→(⟨g,i * 5+q',none⟩:Addr)≠⟨g,j * 5+q,none⟩:=by
     intro q' h1 h2 e
     simp only [Addr.mk.injEq,and_true,true_and] at e
     omega
    rw [World.cell?_setCell_other _ _ _ _ (ne 4 (by omega) (by omega)),World.cell?_setCell_other _ _ _ _ (ne 3 (by omega) (by omega)),World.cell?_setCell_other _ _ _ _ (ne 2 (by omega) (by omega))]
   have same:∀ j q u,w2.cell? ⟨g,j * 5+q,none⟩=some u→w5.cell? ⟨g,j * 5+q,none⟩=some u:=fun j q u hu=>g25.cell hu fun h=>h
   generalize hW:(((w5.setCell ⟨g,i * 5+2,none⟩ t1).setCell ⟨g,i * 5+3,none⟩ t2).setCell ⟨g,i * 5+4,none⟩ t3)=W at oA6 m56 oth ⊢
   refine ⟨oA6,mA.trans ((Grow.mod g25).trans m56),fun j hj=>?_⟩
   by_cases hji:j=i
   ·subst hji
    refine ⟨t1,t2,t3,fun q u hu=>?_,fun _=>⟨t1,t2,t3,rfl,own_mod ⟨n1',b1⟩ m56 (fun b _ hb e=>hb.2 e) (fun _ _ h=>h) fun _ _ h=>h,own_mod ⟨n2',b2⟩ m56 (fun b _ hb e=>hb.2 e) (fun _ _ h=>h) fun _ _ h=>h,own_mod ⟨n3',b3⟩ m56 (fun b _ hb e=>hb.2 e) (fun _ _ h=>h) fun _ _ h=>h⟩,fun h=>by omega⟩
    have hq:=(List.getElem?_eq_some_iff.1 hu).1
    simp only [List.length_cons,List.length_nil] at hq
    have ne:∀ q q',q≠q'→(⟨g,j * 5+q',none⟩:Addr)≠⟨g,j * 5+q,none⟩:=by
     intro q q' h e
     simp only [Addr.mk.injEq,and_true,true_and] at e
     omega
    have some5:∀ q,q < 5→∃ u,w5.cell? ⟨g,j * 5+q,none⟩=some u:=fun q hq=>Option.isSome_iff_exists.1 (lv5 q hq).1
    rw [←hW]
    match q,hq,hu with
    | 0,_,hu=>rw [hW,oth j 0 (by omega) (.inr (by omega))];exact same _ _ _ (hat 0 u hu)
    | 1,_,hu=>rw [hW,oth j 1 (by omega) (.inr (by omega))];exact same _ _ _ (hat 1 u hu)
    | 2,_,hu=>
     simp only [List.getElem?_cons_succ,List.getElem?_cons_zero,Option.some.injEq] at hu;subst hu
     obtain ⟨u',hu'⟩:=some5 2 (by omega)
     rw [World.cell?_setCell_other _ _ _ _ (ne 2 4 (by decide)),World.cell?_setCell_other _ _ _ _ (ne 2 3 (by decide))]
     exact World.cell?_setCell_same _ _ _ hu'
    | 3,_,hu=>
     simp only [List.getElem?_cons_succ,List.getElem?_cons_zero,Option.some.injEq] at hu;subst hu
     obtain ⟨u',hu'⟩:=some5 3 (by omega)
     rw [World.cell?_setCell_other _ _ _ _ (ne 3 4 (by decide))]
     exact World.cell?_setCell_same _ _ _ ((World.cell?_setCell_other _ _ _ _ (ne 3 2 (by decide))).trans hu')
    | 4,_,hu=>
     simp only [List.getElem?_cons_succ,List.getElem?_cons_zero,Option.some.injEq] at hu;subst hu
     obtain ⟨u',hu'⟩:=some5 4 (by omega)
     exact World.cell?_setCell_same _ _ _ ((World.cell?_setCell_other _ _ _ _ (ne 4 3 (by decide))).trans ((World.cell?_setCell_other _ _ _ _ (ne 4 2 (by decide))).trans hu'))
   ·obtain ⟨rv',sv',pv',hat',hod',hrd'⟩:=rows j hj
    refine ⟨rv',sv',pv',OpAt.cong (W:=w5) (fun q u hu=>same _ _ _ (hat' q u hu)) fun q hq=>oth j q hq (.inl hji),fun h=>?_,fun h=>?_⟩
    ·exact (ODop.mod (hod' (by omega)) (D':=F) g25 (fun _ _ _ h=>h) fun _ _ h=>h).mod m56 (fun b _ hb e=>hb.2 e) fun _ _ h=>h
    ·exact (RDop.mod (hrd' (by omega)) (D':=D0) g25 (fun _ _ _ h=>h) fun _ _ h=>h).mod m56 (fun b _ hb e=>by have:=hb.2;omega) fun _ _ h=>h
  ·have:i=x.length:=by omega
   subst this
   obtain ⟨oA,mA,rows⟩:=hinv
   refine ⟨OwnR.conv oA fun j hj r hr hone hcl=>?_,g1.next mA fun b hb e=>by omega⟩
   obtain ⟨rv,sv,pv,hat,hod,_⟩:=rows j hj
   have e:r=[.int .u8 x[j].kind,.int .i64 x[j].n,rv,sv,pv]:=by
    refine List.ext_getElem? fun q=>?_
    by_cases hq:q < 5
    ·have h1:r[q]?=some r[q]:=List.getElem?_eq_getElem (by omega)
     have h2:([Value.int .u8 x[j].kind,.int .i64 x[j].n,rv,sv,pv])[q]?=some ([Value.int .u8 x[j].kind,.int .i64 x[j].n,rv,sv,pv])[q]:=List.getElem?_eq_getElem (by simpa using hq)
     have h3:=hcl q _ h1
     rw [hat q _ h2] at h3
     rw [h1,h2,h3]
    ·rw [List.getElem?_eq_none (by omega),List.getElem?_eq_none (by simp;omega)]
   subst e
   exact (hod hj).mod (Mod.refl (fun _=>False) _) (fun _ _ _ h=>h) fun b _ hb=>⟨hb.1,fun e=>hb.2 (by simpa [Value.ownBlock] using e.symm)⟩
end Go.Proofs.YtlbaopamhkmepaaGreatDoor

namespace Go.K
open Go
theorem cap_run {P:Program} {t ty e:TypeId} {a:Option Addr} {n c:Nat} {w:World} (ht:P.underlying t=some (.slice e)):(Builtin.cap_ #[t] ty #[.slice a n c]).run P w=.ok (.int .i64 c) w:=by
 simp [Builtin.cap_,run_underlying ht,goInt]
theorem sliceHi_run {P:Program} {t e k:Nat} {i:TypeInfo} {a:Option Addr} {n c h:Nat} {w:World} (ht:P.underlying t=some (.slice e)) (hi:P.info? e=some i) (hk:i.size=k) (hh:h≤c) :
  (Instr.sliceAt t (.slice a n c) none (some (.int .i64 h)) none).run P w=.ok (.slice (if c=0 then a else a.map (·.add (0 * k))) h c) w:=by
 have hel:P.elem t=e:=by simp [Program.elem,ht]
 rw [run_sliceAt_slice _ _ _ _ _ _ (by rw [hel];exact ht),run_slice_h _ _ _ _ _ (by rw [hel];exact ht) _ _ (by omega) (by omega),hel]
 simp [sizeOf,typeInfo,hi,hk,sliced]
end Go.K
namespace Go.Proofs.YtlbaopamhkmepaaGreatDoor
open Go Go.K

theorem grow_nil {n:Nat} {w:World} (hn:n * 88≤140737488355328) (R:World→List Value→Dop→Prop) :
  callK Tryz.prog 178 [.slice none 0 0,.int .i64 n] (fun v' w'=>OwnR w.heap.size 39 5 R w' v' []∧Grow w w') w:=by
 apply S178_ok
 unfold S178
 refine JoinK_i (fun vs w1=>w1=w) ?_ ?_
 ·rintro vs _ rfl _
  rename World=>w
  refine runK_i (cap_run (e:=39) (by kernel_rfl)) ?_
  rw [lenK_i,subK_i,subK_i,gtK_i]
  have e0:IntKind.i64.wrap ((n:Int) - IntKind.i64.wrap (((0:Nat):Int) - ((0:Nat):Int)))=n:=by rw [wrap64 (x:=((0:Nat):Int) - ((0:Nat):Int)) (by omega) (by omega),wrap64 (by omega) (by omega)];omega
  rw [e0]
  refine condK_p (fun hp=>?_) fun _=>⟨OwnR.nil,Mod.refl _ _⟩
  refine runK_i (cap_run (e:=39) (by kernel_rfl)) ?_
  refine runK_i (sliceHi_run (e:=39) (i:=Tryz.t39) (k:=5) (h:=0) (by kernel_rfl) (by kernel_rfl) (by kernel_rfl) (Nat.le_refl _)) ?_
  simp only [if_true]
  obtain ⟨i,z,h1,h2,h3,h4,h5,h6,h7⟩:=elem_dop
  have hbz:i.bytes=88:=h5
  refine runK_i (Go.Lib.run_append_nil_zeros (P:=Tryz.prog) w 31 3 31 39 i z .i64 .i64 h1 (by kernel_rfl) h2 h3 n (by omega) (by omega) (by omega) (by rw [hbz];omega)) ?_
  have hge:=grownCap_ge w n 0 39
  have hml:=grownCap_le_maxLen w n 0 39 (by simp only [maxLen];omega)
  have hg:Grow w (w.drew.alloc (.cells (Builtin.zeroCells z.cells n++Builtin.zeroCells z.cells (grownCap w n 0 39 - n)) 39)):=(Mod.drew _ _).trans (Mod.alloc _ _ _)
  have hh:=heap_alloc_new w.drew (.cells (Builtin.zeroCells z.cells n++Builtin.zeroCells z.cells (grownCap w n 0 39 - n)) 39)
  generalize w.drew.alloc (.cells (Builtin.zeroCells z.cells n++Builtin.zeroCells z.cells (grownCap w n 0 39 - n)) 39)=w2 at hg hh ⊢
  rw [lenK_i]
  refine runK_i (sliceHi_run (e:=39) (i:=Tryz.t39) (k:=5) (h:=0) (by kernel_rfl) (by kernel_rfl) (by kernel_rfl) (Nat.zero_le _)) ⟨?_,hg⟩
  rw [if_neg (by omega)]
  simp only [Option.map_some,addr0,Nat.zero_mul]
  refine ⟨[],⟨rfl,.inr ⟨_,_,_,rfl,Nat.le_refl _,hh,Nat.zero_le _,hml,?_,by simp⟩⟩,rfl,by simp,by simp⟩
  simp only [Array.size_append,size_zeroCells,h6,←Nat.add_mul]
  rw [Nat.add_sub_cancel' hge]
 ·rw [ltK_i]
  exact condK_p (fun h=>by omega) fun _=>rfl
theorem concat_dops {S1 D1 S2 D2:Nat→Prop} {va vb:Value} {l m:List Dop} {p:Addr} {w:World} (ha:RDops S1 D1 w va l) (hb:RDops S2 D2 w vb m) (h0:w.cell? p=some va) (h1:w.cell? (p.add 1)=some vb) (hl:(l.length+m.length) * 88≤140737488355328) :
  callK Tryz.prog 128 [.slice (some p) 2 2] (fun v' w'=>OwnR w.heap.size 39 5 (RDop fun b=>(D1 b∨D2 b)∧b < w.heap.size) w' v' (l++m)∧Grow w w') w:=by
 apply S128_ok
 unfold S128
 obtain ⟨a1,c1,rfl,m1⟩:=ha.shape
 obtain ⟨a2,c2,rfl,m2⟩:=hb.shape
 rw [lenK_i]
 have n0:((2:Nat):Int)=2:=rfl
 refine LoopK_i (fun vs w1=>∃ k:Nat,k≤2∧vs=[.int .i64 (if k=0 then (0:Nat) else if k=1 then l.length else l.length+m.length:Nat),.int .i64 k]∧w1=w) (fun vs _=>2 - iOf vs 1) ⟨0,by omega,rfl,rfl⟩ ?_
 rintro vs _ ⟨k,hk,rfl,rfl⟩ _
 rename World=>w
 simp only [nth_s,nth_z,List.headD_cons,List.tail_cons]
 rw [ltK_i]
 refine condK_p (fun hlt=>?_) fun hge=>?_
 ·have hk2:k=0∨k=1:=by omega
  rcases hk2 with rfl | rfl
  ·refine ixK_n (by decide) ?_
   have e:(p.add (0 * 1))=p.add 0:=rfl
   rw [e,Addr.add_zero']
   refine ld1K_i h0 ?_
   rw [lenK_i,addK_i,wrap64 (by simp <;> omega) (by simp <;> omega),ltK_i]
   refine condK_p (fun h=>by simp at h <;> omega) fun _=>?_
   rw [addK_i,loop_step (by omega)]
   exact ⟨⟨1,by omega,by simp,rfl⟩,by rw [iOf1,iOf1];omega⟩
  ·refine ixK_n (by decide) ?_
   refine ld1K_i (show w.cell? (p.add (1 * 1))=_ from h1) ?_
   rw [lenK_i,addK_i,wrap64 (by simp <;> omega) (by simp <;> omega),ltK_i]
   refine condK_p (fun h=>by simp at h <;> omega) fun _=>?_
   rw [addK_i,loop_step (by omega)]
   exact ⟨⟨2,by omega,by simp,rfl⟩,by rw [iOf1,iOf1];omega⟩
 ·have hk2:k=2:=by omega
  subst hk2
  simp only [show ¬ (2:Nat)=0 by decide,show ¬ (2:Nat)=1 by decide,if_false]
  refine callK_mono (grow_nil hl (RDop fun b=>(D1 b∨D2 b)∧b < w.heap.size)) ?_
  rintro v1 w1 ⟨o1,g1⟩
  rw [lenK_i]
  let R:=RDop fun b=>(D1 b∨D2 b)∧b < w.heap.size
  have hz1:=g1.size
  have ha1:SlR (fun _=>True) 5 R w1 (.slice a1 l.length c1) l:=SlR.mono ha.old (fun _ _ _=>trivial) (fun b hb _=>g1.same b hb fun h=>h) (by decide) fun r x hx=>hx.mod g1 (fun _ _ _ h=>h) fun b _ h=>⟨.inl h.1,h.2⟩
  have hb1:SlR (fun _=>True) 5 R w1 (.slice a2 m.length c2) m:=SlR.mono hb.old (fun _ _ _=>trivial) (fun b hb _=>g1.same b hb fun h=>h) (by decide) fun r x hx=>hx.mod g1 (fun _ _ _ h=>h) fun b _ h=>⟨.inr h.1,h.2⟩
  have pst:∀ {W W':World} {M:Nat→Prop},Mod M W W'→(∀ b,M b→w.heap.size≤b)→∀ r y,R W r y→R W' r y:=fun hm hM r y hy=>hy.mod hm (fun b _ hd hb=>by have:=hM b hb;omega) fun _ _ h=>h
  refine LoopK_i (fun vs w2=>∃ (k:Nat) (out:Value) (acc:List Dop),k≤2∧vs=[out,.int .i64 k]∧acc=(if k=0 then [] else if k=1 then l else l++m)∧OwnR w.heap.size 39 5 R w2 out acc∧Grow w w2) (fun vs _=>2 - iOf vs 1) ⟨0,v1,[],by omega,rfl,rfl,o1,g1⟩ ?_
  rintro vs w2 ⟨k,out,acc,hk,rfl,hacc,ho,g2⟩ _
  simp only [nth_s,nth_z,List.headD_cons,List.tail_cons]
  rw [ltK_i]
  have one:∀ {W:World} (j:Nat) (y z:List Dop) (x o:Value),SlR (fun _=>True) 5 R w x y→OwnR w.heap.size 39 5 R W o z→Grow w W→(z.length+y.length) * 88≤140737488355328→
    runK Tryz.prog (Builtin.append_ #[31,31] 31 [o,x].toArray) (fun v' w'=>OwnR w.heap.size 39 5 R w' v' (z++y)∧Grow w w') W:=by
   intro W j y z x o hx hz hW hb
   have hx':SlR (fun _=>True) 5 R W x y:=by
    refine SlR.mono (hx.old (by decide)) (fun _ _ _=>trivial) (fun b hb h=>hW.same b hb fun h=>h) (by decide) fun r q hq=>pst hW (fun _ h=>h.elim) r q hq
   obtain ⟨v',w',r1,r2,r3,r4⟩:=OwnR.append (ty:=31) elem_dop hz hx' (fun _ _=>RDop.one) hb hW.size (by simp only [maxLen];omega) fun w' hg r q hq=>pst (Mod.of_grownBy hg) (fun b e=>(OwnR.ownB hz b e).1) r q hq
   exact runK_i r1 ⟨r2,hW.next (Mod.of_grownBy r3) fun b hb e=>by have:=(OwnR.ownB hz b e).1;omega⟩
  have ha0:SlR (fun _=>True) 5 R w (.slice a1 l.length c1) l:=SlR.sub ha.old (fun _ _ _=>trivial) (by decide) fun r x hx=>hx.mod (Mod.refl (fun _=>False) _) (fun _ _ _ h=>h) fun b _ h=>⟨.inl h.1,h.2⟩
  have hb0:SlR (fun _=>True) 5 R w (.slice a2 m.length c2) m:=SlR.sub hb.old (fun _ _ _=>trivial) (by decide) fun r x hx=>hx.mod (Mod.refl (fun _=>False) _) (fun _ _ _ h=>h) fun b _ h=>⟨.inr h.1,h.2⟩
  refine condK_p (fun hlt=>?_) fun hge=>?_
  ·have hk2:k=0∨k=1:=by omega
   rcases hk2 with rfl | rfl
   ·refine ixK_n (by decide) ?_
    have e:(p.add (0 * 1))=p.add 0:=rfl
    rw [e,Addr.add_zero']
    refine ld1K_i (g2.cell h0 fun h=>h) ?_
    simp only [if_true] at hacc
    subst hacc
    obtain ⟨v',w',r1,r2,r3⟩:=one 0 l [] _ out ha0 ho g2 (by simp;omega)
    refine runK_i r1 ?_
    rw [addK_i,loop_step (by omega)]
    exact ⟨⟨1,v',_,by omega,rfl,by simp,r2,r3⟩,by rw [iOf1,iOf1];omega⟩
   ·refine ixK_n (by decide) ?_
    refine ld1K_i (g2.cell (show w.cell? (p.add (1 * 1))=_ from h1) fun h=>h) ?_
    simp only [show ¬ (1:Nat)=0 by decide,if_true,if_false] at hacc
    subst hacc
    obtain ⟨v',w',r1,r2,r3⟩:=one 0 m acc _ out hb0 ho g2 hl
    refine runK_i r1 ?_
    rw [addK_i,loop_step (by omega)]
    exact ⟨⟨2,v',_,by omega,rfl,by simp,r2,r3⟩,by rw [iOf1,iOf1];omega⟩
  ·have hk2:k=2:=by omega
   subst hk2
   simp only [show ¬ (2:Nat)=0 by decide,show ¬ (2:Nat)=1 by decide,if_false] at hacc
   subst hacc
   exact ⟨ho,g2⟩
end Go.Proofs.YtlbaopamhkmepaaGreatDoor

namespace Go.Proofs.YtlbaopamhkmepaaGreatDoor
open Go Go.K

abbrev TOp:Nat:=39
abbrev row5 (o:Dop) (rv sv pv:Value):List Value:=[.int .u8 o.kind,.int .i64 o.n,rv,sv,pv]
def InsRows (C:Nat→Prop) (h:Nat) (W:World) (g:Nat) (ins:List Dop):Prop:=0 < ins.length∧∀ j (hj:j < ins.length),∃ rv sv pv,OpAt W g j ins[j] rv sv pv∧RDop (fun x=>C x∨x=h) W (row5 ins[j] rv sv pv) ins[j]∧
 (j+1=ins.length→OwnR 0 21 1 RRune W rv ins[j].runes∧rv.ownBlock=some h∧RSet C W sv ins[j].set∧RPat C W pv ins[j].patch)∧(j+1 < ins.length→RDop C W (row5 ins[j] rv sv pv) ins[j])
structure MkR (F:Nat→Prop) (W:World) (b:Nat) (s:MkS) (dv iv:Value) (C:Nat→Prop) (hot:Option Nat):Prop where
 c0:W.cell? ⟨b,0,none⟩=some dv
 c1:W.cell? ⟨b,1,none⟩=some iv
 c2:W.cell? ⟨b,2,none⟩=some (.int .i64 s.gone)
 lv:∀ q,q < 3→Live W ⟨b,q,none⟩
 fb:F b
 nb:¬ C b
 cf:∀ x,C x→F x∧x < W.heap.size
 done:OwnR 0 TOp 5 (RDop C) W dv s.done
 dF:∀ g,dv.ownBlock=some g→F g∧¬ C g∧g≠b
 ins:(s.ins=[]∧iv=.slice none 0 0∧hot=none)∨∃ g c h,iv=.slice (some ⟨g,0,none⟩) s.ins.length c∧hot=some h∧OwnR 0 TOp 5 (fun _ _ _=>True) W iv s.ins∧F g∧¬ C g∧g≠b∧dv.ownBlock≠some g∧
  F h∧¬ C h∧h≠b∧h≠g∧dv.ownBlock≠some h∧h < W.heap.size∧InsRows C h W g s.ins
def MkI (F:Nat→Prop) (W:World) (b:Nat) (s:MkS):Prop:=∃ dv iv C hot,MkR F W b s dv iv C hot
theorem OpAt.mod {W W':World} {M:Nat→Prop} {g j:Nat} {o:Dop} {rv sv pv:Value} (h:OpAt W g j o rv sv pv) (hm:Mod M W W') (hg:¬ M g):OpAt W' g j o rv sv pv:=fun q u hu=>hm.cell (h q u hu) hg
theorem InsRows.mod {C M:Nat→Prop} {h:Nat} {W W':World} {g:Nat} {ins:List Dop} (hi:InsRows C h W g ins) (hm:Mod M W W') (hg:¬ M g) (hh:¬ M h) (hC:∀ x,C x→¬ M x):InsRows C h W' g ins:=by
 refine ⟨hi.1,fun j hj=>?_⟩
 obtain ⟨rv,sv,pv,q1,q2,q3,q4⟩:=hi.2 j hj
 refine ⟨rv,sv,pv,q1.mod hm hg,q2.mod hm (fun b _ hb=>by rcases hb with hb | rfl;exact hC b hb;exact hh) fun _ _ h=>h,fun e=>?_,fun e=>(q4 e).mod hm (fun b _ hb=>hC b hb) fun _ _ h=>h⟩
 obtain ⟨p1,p2,p3,p4⟩:=q3 e
 exact ⟨OwnR.mod p1 hm (fun g hg=>by rw [p2] at hg;cases hg;exact hh) fun _ _ _ h=>h,p2,p3.mono (fun _ _ h=>h) (fun b hb hc=>hm.same b hb (hC b hc)) (by decide) fun _ _ h=>h,p4.mono (fun _ _ h=>h) (fun b hb hc=>hm.same b hb (hC b hc)) (by decide) fun _ _ h=>h⟩
theorem RDop.cmod {C M:Nat→Prop} {W W':World} {r:List Value} {o:Dop} (h:RDop C W r o) (hm:Mod M W W') (hC:∀ x,C x→¬ M x):RDop C W' r o:=h.mod hm (fun b _ hb=>hC b hb) fun _ _ h=>h
theorem MkR.mod {F M C:Nat→Prop} {W W':World} {b:Nat} {s:MkS} {dv iv:Value} {hot:Option Nat} (h:MkR F W b s dv iv C hot) (hm:Mod M W W') (hF:∀ x,F x→¬ M x):MkR F W' b s dv iv C hot:=by
 have hb:=hF b h.fb
 have hC:∀ x,C x→¬ M x:=fun x hx=>hF x (h.cf x hx).1
 refine ⟨hm.cell h.c0 hb,hm.cell h.c1 hb,hm.cell h.c2 hb,fun q hq=>(h.lv q hq).mod hm hb,h.fb,h.nb,fun x hx=>⟨(h.cf x hx).1,Nat.lt_of_lt_of_le (h.cf x hx).2 hm.size⟩,OwnR.mod h.done hm (fun g hg=>hF g (h.dF g hg).1) fun r x _ hx=>hx.cmod hm hC,h.dF,?_⟩
 rcases h.ins with h0 | ⟨g,c,hh,e1,e2,e3,e4,e5,e6,e7,e8,e9,e10,e11,e12,e13,e14⟩
 ·exact .inl h0
 ·exact .inr ⟨g,c,hh,e1,e2,OwnR.mod e3 hm (fun g' hg'=>by rw [e1] at hg';simp only [Value.ownBlock,Option.some.injEq] at hg';subst hg';exact hF _ e4) fun _ _ _ _=>trivial,e4,e5,e6,e7,e8,e9,e10,e11,e12,Nat.lt_of_lt_of_le e13 hm.size,e14.mod hm (hF g e4) (hF hh e8) hC⟩
theorem MkR.grow {F C:Nat→Prop} {W W':World} {b:Nat} {s:MkS} {dv iv:Value} {hot:Option Nat} (h:MkR F W b s dv iv C hot) (hm:Grow W W'):MkR F W' b s dv iv C hot:=h.mod hm fun _ _ h=>h
theorem MkI.mod {F M:Nat→Prop} {W W':World} {b:Nat} {s:MkS} (h:MkI F W b s) (hm:Mod M W W') (hF:∀ x,F x→¬ M x):MkI F W' b s:=by
 obtain ⟨dv,iv,C,hot,h⟩:=h
 exact ⟨dv,iv,C,hot,h.mod hm hF⟩
theorem MkI.sub {F F':Nat→Prop} {W:World} {b:Nat} {s:MkS} (h:MkI F W b s) (hF:∀ x,F x→F' x):MkI F' W b s:=by
 obtain ⟨dv,iv,C,hot,h⟩:=h
 refine ⟨dv,iv,C,hot,h.c0,h.c1,h.c2,h.lv,hF _ h.fb,h.nb,fun x hx=>⟨hF _ (h.cf x hx).1,(h.cf x hx).2⟩,h.done,fun g hg=>⟨hF _ (h.dF g hg).1,(h.dF g hg).2⟩,?_⟩
 rcases h.ins with h0 | ⟨g,c,hh,e1,e2,e3,e4,e5,e6,e7,e8,e9⟩
 ·exact .inl h0
 ·exact .inr ⟨g,c,hh,e1,e2,e3,hF _ e4,e5,e6,e7,hF _ e8,e9⟩
theorem new_ok {w:World}:callK Tryz.prog 75 [] (fun v w'=>Grow w w'∧∃ b,w.heap.size≤b∧b < w'.heap.size∧v=.pointer (some ⟨b,0,none⟩)∧MkI (fun x=>x=b) w' b MkS.z) w:=by
 apply S75_ok
 unfold S75
 refine ⟨#[.slice none 0 0,.slice none 0 0,.int .i64 0],by kernel_rfl,?_⟩
 refine boxn_i (vs:=[.slice none 0 0,.slice none 0 0,.int .i64 0]) fun b w1 hb hz g hc hl=>?_
 have a0:∀ j,(⟨b,0,none⟩:Addr).add j=⟨b,j,none⟩:=fun j=>addr0 b j
 refine ⟨g,b,by omega,by omega,rfl,_,_,fun _=>False,none,by rw [←a0];exact hc 0 _ rfl,by rw [←a0];exact hc 1 _ rfl,by rw [←a0];exact hc 2 _ rfl,fun q hq=>by rw [←a0];exact hl q hq,rfl,fun h=>h,fun _ h=>h.elim,OwnR.nil,fun g hg=>(nomatch hg),.inl ⟨rfl,rfl,rfl⟩⟩
theorem delete_ok {F:Nat→Prop} {w:World} {b:Nat} {s:MkS} {n:Int} (h:MkI F w b s):callK Tryz.prog 78 [.pointer (some ⟨b,0,none⟩),.int .i64 n] (fun _ w'=>MkI F w' b (delS s n)∧Mod F w w') w:=by
 apply S78_ok
 unfold S78
 obtain ⟨dv,iv,C,hot,h⟩:=h
 rw [pnilK_i]
 simp only [Option.isNone_some,Bool.not_false]
 rw [condK_b,if_pos rfl,nilckK_i,faK_i,addr0]
 refine ld1K_i h.c2 ?_
 rw [maxK_i,addK_i,nilckK_i,faK_i,addr0]
 have e:(if (0:Int) > n then (0:Int) else n)=maxI n 0:=rfl
 rw [e]
 refine (h.lv 2 (by decide)).st rfl rfl ?_
 have hm:=setA w b 2 (.int .i64 (IntKind.i64.wrap (s.gone+maxI n 0)))
 have ne:∀ q,q < 2→(⟨b,2,none⟩:Addr)≠⟨b,q,none⟩:=fun q hq e=>by simp only [Addr.mk.injEq] at e;omega
 obtain ⟨u,hu⟩:=Option.isSome_iff_exists.1 (h.lv 2 (by decide)).1
 have nC:∀ x,C x→¬ x=b:=fun x hx e=>h.nb (e ▸ hx)
 refine ⟨⟨dv,iv,C,hot,(World.cell?_setCell_other _ _ _ _ (ne 0 (by decide))).trans h.c0,(World.cell?_setCell_other _ _ _ _ (ne 1 (by decide))).trans h.c1,World.cell?_setCell_same _ _ _ hu,fun q hq=>(h.lv q hq).set _ _,h.fb,h.nb,fun x hx=>⟨(h.cf x hx).1,Nat.lt_of_lt_of_le (h.cf x hx).2 hm.size⟩,OwnR.mod h.done hm (fun g hg=>(h.dF g hg).2.2) fun r x _ hx=>hx.cmod hm nC,h.dF,?_⟩,hm.mono fun x _ e=>by rw [e];exact h.fb⟩
 rcases h.ins with h0 | ⟨g,c,hh,e1,e2,e3,e4,e5,e6,e7,e8,e9,e10,e11,e12,e13,e14⟩
 ·exact .inl h0
 ·exact .inr ⟨g,c,hh,e1,e2,OwnR.mod e3 hm (fun g' hg'=>by rw [e1] at hg';simp only [Value.ownBlock,Option.some.injEq] at hg';subst hg';exact e6) fun _ _ _ _=>trivial,e4,e5,e6,e7,e8,e9,e10,e11,e12,Nat.lt_of_lt_of_le e13 hm.size,e14.mod hm e6 e10 nC⟩
theorem MkR.insRd {F C:Nat→Prop} {W:World} {b:Nat} {s:MkS} {dv iv:Value} {hot:Option Nat} (h:MkR F W b s dv iv C hot):RDops (fun _=>True) (fun x=>(C x∨hot=some x)∧x < W.heap.size) W iv s.ins:=by
 rcases h.ins with ⟨e1,e2,_⟩ | ⟨g,c,hh,e1,e2,e3,e4,e5,e6,e7,e8,e9,e10,e11,e12,e13,e14⟩
 ·rw [e1,e2];exact SlR.nil
 ·subst e1;subst e2
  have o:=OwnR.conv (R:=RDop fun x=>(C x∨some hh=some x)∧x < W.heap.size) e3 fun j hj r hr hone hcl=>?_
  ·exact SlR.sub (OwnR.sl o) (fun _ _ _=>trivial) (by decide) fun _ _ h=>h
  ·obtain ⟨rv,sv,pv,q1,q2,_,_⟩:=e14.2 j hj
   have e:r=row5 s.ins[j] rv sv pv:=by
    refine List.ext_getElem? fun q=>?_
    by_cases hq:q < 5
    ·have h1:r[q]?=some r[q]:=List.getElem?_eq_getElem (by omega)
     have h2:(row5 s.ins[j] rv sv pv)[q]?=some (row5 s.ins[j] rv sv pv)[q]:=List.getElem?_eq_getElem (by simpa using hq)
     have h3:=hcl q _ h1
     rw [q1 q _ h2] at h3
     rw [h1,h2,h3]
    ·rw [List.getElem?_eq_none (by omega),List.getElem?_eq_none (by simp;omega)]
   subst e
   exact q2.mod (Mod.refl (fun _=>False) _) (fun _ _ _ h=>h) fun x hx hc=>by
    refine ⟨?_,hx⟩
    rcases hc with hc | hc
    ·exact .inl hc
    ·exact .inr (by rw [hc])
theorem gap_ok {F C:Nat→Prop} {w:World} {b:Nat} {s:MkS} {dv iv:Value} {hot:Option Nat} (h:MkR F w b s dv iv C hot) (hl:(s.ins.length+1) * 88≤140737488355328) :
  callK Tryz.prog 127 [.pointer (some ⟨b,0,none⟩)] (fun v' w'=>OwnR w.heap.size TOp 5 (RDop fun x=>(C x∨hot=some x)∧x < w.heap.size) w' v' (gapL s.ins s.gone)∧Grow w w') w:=by
 apply S127_ok
 unfold S127
 rw [nilckK_i,faK_i,addr0]
 refine ld1K_i h.c1 ?_
 refine callK_mono (clone_dops h.insRd (by omega)) ?_
 rintro v1 w1 ⟨o1,g1⟩
 have o1':OwnR w.heap.size TOp 5 (RDop fun x=>(C x∨hot=some x)∧x < w.heap.size) w1 v1 s.ins:=OwnR.mod o1 (Mod.refl (fun _=>False) _) (fun _ _ h=>h) fun r x _ hx=>hx.mod (Mod.refl (fun _=>False) _) (fun _ _ _ h=>h) fun _ _ h=>h.1
 rw [nilckK_i,faK_i,addr0]
 refine ld1K_i (g1.cell h.c2 fun h=>h) ?_
 rw [gtK_i]
 refine condK_p (fun hg=>?_) fun hg=>⟨by rw [gapL,if_neg hg];exact o1',g1⟩
 rw [nilckK_i,faK_i,addr0]
 refine ld1K_i (g1.cell h.c2 fun h=>h) ?_
 refine ⟨#[.int .u8 3,.int .i64 s.gone,.slice none 0 0,.slice none 0 0,.slice none 0 0],by kernel_rfl,?_⟩
 refine push_n (w0:=w) elem_dop o1' g1 (cs:=row5 ⟨3,s.gone,[],[],[]⟩ (.slice none 0 0) (.slice none 0 0) (.slice none 0 0)) (x:=⟨3,s.gone,[],[],[]⟩) (by kernel_rfl) rfl ⟨_,_,_,rfl,SlR.nil,SlR.nil,SlR.nil⟩ (fun _ _ _=>RDop.one) ?_ hl (by simp only [maxLen];omega) fun v' w' h1 h2=>⟨by rw [gapL,if_pos hg];exact h1,h2⟩
 intro W1 W2 r y hz hm hy
 refine hy.mod hm (fun x _ hx e=>?_) fun _ _ h=>h
 rcases e with e | e
 ·have:=(OwnR.ownB o1 x e).1;omega
 ·have:=g1.size;omega
end Go.Proofs.YtlbaopamhkmepaaGreatDoor

namespace Go.K
open Go
theorem OwnR.len {α β:Type} {B e k:Nat} {R:World→List Value→α→Prop} {w:World} {v:Value} {l:List α} (h:OwnR B e k R w v l) (l':List β) (hl:l'.length=l.length):OwnR B e k (fun _ _ (_:β)=>True) w v l':=by
 obtain ⟨rows,h1,h2,h3,_⟩:=h
 exact ⟨rows,by rw [hl];exact h1,by rw [hl];exact h2,h3,fun _ _ _ _ _=>trivial⟩
end Go.K
namespace Go.Proofs.YtlbaopamhkmepaaGreatDoor
open Go Go.K

def lastSet (ins:List Dop) (set:List Attr):Bool:=match ins.getLast? with | some o=>decide (o.set=set) | none=>false
theorem getLast_get {l:List Dop} (h:0 < l.length):l.getLast?=some l[l.length - 1]:=by
 rw [List.getLast?_eq_getElem?];simp [show l.length - 1 < l.length by omega]
theorem insert_ok {F S:Nat→Prop} {w:World} {b:Nat} {s:MkS} {lv sv:Value} {rs:List Int} {set:List Attr} (h:MkI F w b s) (h1:RRun S w lv rs) (h2:RSet S w sv set) (hS:∀ x,S x→¬ F x)
  (hb1:(s.ins.length+1) * 88≤140737488355328) (hb2:∀ o ∈ s.ins,(o.runes.length+rs.length) * 4≤140737488355328) (hb3:rs.length * 4≤140737488355328) (hb4:set.length * 48≤140737488355328) :
  callK Tryz.prog 77 [.pointer (some ⟨b,0,none⟩),lv,sv] (fun _ w'=>MkI (fun x=>F x∨w.heap.size≤x) w' b (insS s rs set)∧Mod F w w') w:=by
 apply S77_ok
 unfold S77
 have hI:=h
 obtain ⟨dv,iv,C,hot,h⟩:=h
 obtain ⟨pl,cl,rfl,ml⟩:=h1.shape
 have shI:∃ ga gc,iv=.slice ga s.ins.length gc:=by
  rcases h.ins with ⟨e1,e2,_⟩ | ⟨g,c,hh,e1,_⟩
  ·exact ⟨none,0,by rw [e1,e2];rfl⟩
  ·exact ⟨_,c,e1⟩
 obtain ⟨ga,gc,rfl⟩:=shI
 refine JoinK_i (fun vs w1=>w1=w∧rs≠[]) ?_ ?_
 rotate_left
 ·rw [pnilK_i]
  simp only [Option.isNone_some]
  rw [condK_b,if_neg (by simp),lenK_i,eqK_i]
  refine condK_p (fun e=>?_) fun e=>⟨trivial,fun h=>e (len0.2 h)⟩
  have:=len0.1 e
  subst this
  exact ⟨by rw [insS,if_pos rfl];exact hI.sub fun x hx=>.inl hx,Mod.refl _ _⟩
 rintro vs _ ⟨rfl,hne⟩ _
 rename World=>w
 have hpos:0 < rs.length:=List.length_pos_iff.2 hne
 rw [nilckK_i,faK_i,addr0]
 refine ld1K_i h.c1 ?_
 rw [lenK_i,subK_i]
 have hwl:s.ins.length * 88≤140737488355328:=by omega
 rw [wrap64 (by omega) (by omega)]
 have key:insS s rs set=⟨s.done,addI s.ins rs set,s.gone⟩:=by rw [insS,if_neg hne]
 rw [key]
 refine JoinK_i (fun vs w1=>vs=[.bool (lastSet s.ins set)]∧Grow w w1) ?_ ?_
 rotate_left
 ·rw [geK_i]
  refine condK_p (fun hge=>?_) fun hge=>?_
  ·have hip:0 < s.ins.length:=by omega
   rw [nilckK_i,faK_i,addr0]
   refine ld1K_i h.c1 ?_
   have hlt:s.ins.length - 1 < s.ins.length:=by omega
   rw [show ((s.ins.length:Int) - 1)=((s.ins.length - 1:Nat):Int) by omega]
   obtain ⟨p,r,rfl,_,hr,hc,rv,sv',pv,rfl,q1,q2,q3⟩:=h.insRd.get hlt
   refine ixK_n hlt ?_
   rw [faK_i,Addr.add_add]
   refine ld1K_i (hc 3 _ rfl) ?_
   refine callK_mono (same_set q2 h2) ?_
   rintro v1 w1 ⟨rfl,g1⟩
   exact ⟨by rw [lastSet,getLast_get hip],g1⟩
  ·have:s.ins=[]:=List.eq_nil_of_length_eq_zero (by omega)
   exact ⟨by rw [lastSet,this];rfl,Mod.refl _ _⟩
 rintro vs w3 ⟨rfl,g3⟩ _
 rw [nth_z,List.headD_cons]
 have gd:Grow w w3.drew:=g3.trans (Mod.drew _ _)
 have h':=h.grow gd
 have zd:=gd.size
 have h1':RRun (fun x=>S x∧x < w.heap.size) w3.drew (.slice pl rs.length cl) rs:=(h1.old (by decide)).grow gd (by decide) fun _ _ h=>h
 have h2':RSet (fun x=>S x∧x < w.heap.size) w3.drew sv set:=(h2.old (by decide)).grow gd (by decide) fun _ _ h=>h
 generalize w3.drew=w4 at gd h' zd h1' h2' ⊢
 cases hls:lastSet s.ins set with
 | true=>
  rw [condK_b,if_pos rfl]
  have hip:0 < s.ins.length:=by
   cases hn:s.ins with
   | nil=>rw [lastSet,hn] at hls;cases hls
   | cons a l=>simp
  have hlt:s.ins.length - 1 < s.ins.length:=by omega
  rcases h'.ins with ⟨e1,_⟩ | ⟨g,c,hh,e1,e2,e3,e4,e5,e6,e7,e8,e9,e10,e11,e12,e13,e14⟩
  ·rw [e1] at hip;simp at hip
  simp only [Value.slice.injEq,true_and] at e1
  obtain ⟨rfl,rfl⟩:=e1
  obtain ⟨rv,sv',pv,at1,_,ho,_⟩:=e14.2 _ hlt
  obtain ⟨o1,o2,o3,o4⟩:=ho (by omega)
  have hset:s.ins[s.ins.length - 1].set=set:=by
   rw [lastSet,getLast_get hip] at hls
   simpa using hls
  rw [show ((s.ins.length:Int) - 1)=((s.ins.length - 1:Nat):Int) by omega]
  refine drawC_i (fun k x=>(k=14∧x=hh)∨(k=17∧x=g)) ?_
  rw [nilckK_i,faK_i,addr0]
  refine sld1_i ⟨h'.c1,fun j _ e=>by rcases e with ⟨_,e⟩ | ⟨_,e⟩;exact e10 e.symm;exact e6 e.symm⟩ ?_
  rw [nilckK_i,faK_i,addr0]
  refine sld1_i ⟨h'.c1,fun j _ e=>by rcases e with ⟨_,e⟩ | ⟨_,e⟩;exact e10 e.symm;exact e6 e.symm⟩ ?_
  refine ixK_n hlt ?_
  rw [faK_i,Addr.add_add,addr0]
  refine sld1_i ⟨at1 2 _ rfl,fun j hj e=>by rcases e with ⟨rfl,e⟩ | ⟨rfl,e⟩;exact e11 e.symm;exact absurd hj (by decide)⟩ ?_
  have hb2':=hb2 s.ins[s.ins.length - 1] (by simp)
  obtain ⟨v',w5,r1,r2,r3,r4⟩:=OwnR.append (ty:=35) elem_rune o1 h1' (fun _ _=>RRune.one) hb2' (Nat.zero_le _) (by simp only [maxLen];omega) fun _ _ _ _ h=>h
  refine runK_i r1 ⟨(Mod.of_grownBy r3).mono fun x _ e=>by rw [o2] at e;cases e;exact .inl ⟨rfl,rfl⟩,?_⟩
  have m45:Mod (fun x=>x=hh) w4 w5:=(Mod.of_grownBy r3).mono fun x _ e=>by rw [o2] at e;cases e;rfl
  have hv1:=OwnR.one r2
  have shv:∃ h2,v'.ownBlock=some h2∧h2 < w5.heap.size:=by
   obtain ⟨a,c',rfl,_,_,hp,hn⟩:=OwnR.shape r2
   cases a with
   | none=>have:=hn rfl;simp at this;exact (hne this.2).elim
   | some p=>obtain ⟨g',rfl,q1,q2,q3⟩:=hp p rfl;exact ⟨g',q3,q2⟩
  obtain ⟨h2n,hv2,hv3⟩:=shv
  have hv4:=r4 h2n hv2
  have zz:=m45.size
  have hgs:g < w4.heap.size:=by
   have:=OwnR.ownB e3 g rfl;exact this.2
  have hdv:∀ x,dv.ownBlock=some x→x < w4.heap.size:=fun x hx=>(OwnR.ownB h'.done x hx).2
  have live5:Live w5 ⟨g,(s.ins.length - 1) * 5+2,none⟩:=by
   obtain ⟨_,_,_,_,hl⟩:=OwnR.cellsOf e3 hlt
   exact (hl 2 (by decide)).mod m45 fun e=>e11 e.symm
  refine ixK_n hlt ?_
  rw [faK_i,Addr.add_add,addr0]
  refine live5.st hv1.1 hv1.2 ⟨Mod.setCell _ _ _ (.inr ⟨rfl,rfl⟩),?_⟩
  have m56:=setA w5 g ((s.ins.length - 1) * 5+2) v'
  have hnew:∀ x,h2n=x→x=hh∨w4.heap.size≤x:=by
   rintro x rfl
   rcases hv4 with e | e
   ·rw [o2] at e;cases e;exact .inl rfl
   ·exact .inr e
  -- the new block's place
  have nC:¬ C h2n:=fun hx=>by rcases hnew _ rfl with e | e;exact e9 (e ▸ hx);have:=(h'.cf _ hx).2;omega
  have nb2:h2n≠b:=fun e=>by
   have hbl:b < w4.heap.size:=World.block_lt_of_cell? w4 ⟨b,0,none⟩ h'.c0
   rcases hnew _ rfl with e' | e'
   ·exact e10 (e'.symm.trans e)
   ·omega
  have ng2:h2n≠g:=fun e=>by
   rcases hnew _ rfl with e' | e'
   ·exact e11 (e'.symm.trans e)
   ·omega
  have nd2:dv.ownBlock≠some h2n:=fun e=>by
   have:=hdv _ e
   rcases hnew _ rfl with e' | e'
   ·rw [e'] at e;exact e12 e
   ·omega
  have mm:Mod (fun x=>x=hh∨x=g) w4 (w5.setCell ⟨g,(s.ins.length - 1) * 5+2,none⟩ v'):=(m45.mono fun _ _ e=>.inl e).trans (m56.mono fun _ _ e=>.inr e)
  have hbne:¬ (b=hh∨b=g):=by rintro (e | e);exact e10 e.symm;exact e6 e.symm
  have hCne:∀ x,C x→¬ (x=hh∨x=g):=by rintro x hx (rfl | rfl);exact e9 hx;exact e5 hx
  have r2':OwnR 0 21 1 RRune (w5.setCell ⟨g,(s.ins.length - 1) * 5+2,none⟩ v') v' (s.ins[s.ins.length - 1].runes++rs):=OwnR.mod r2 m56 (fun x hx e=>by rw [hv2] at hx;cases hx;exact ng2 e) fun _ _ _ h=>h
  have eadd:addI s.ins rs set=s.ins.set (s.ins.length - 1) ⟨s.ins[s.ins.length - 1].kind,s.ins[s.ins.length - 1].n,s.ins[s.ins.length - 1].runes++rs,s.ins[s.ins.length - 1].set,s.ins[s.ins.length - 1].patch⟩:=by
   unfold addI
   rw [getLast_get hip]
   simp only [hset,if_true]
  have oA:=OwnR.setAny (OwnR.mod e3 m45 (fun x hx e=>by simp only [Value.ownBlock,Option.some.injEq] at hx;exact e11 (e.symm.trans hx.symm)) fun _ _ _ _=>trivial) hlt (show 2 < 5 by decide) hv1.1
  refine ⟨⟨dv,_,C,some h2n,mm.cell h'.c0 hbne,mm.cell h'.c1 hbne,mm.cell h'.c2 hbne,fun q hq=>(h'.lv q hq).mod mm hbne,.inl h'.fb,h'.nb,fun x hx=>⟨.inl (h'.cf x hx).1,Nat.lt_of_lt_of_le (h'.cf x hx).2 mm.size⟩,
   OwnR.mod h'.done mm (fun x hx e=>by rcases e with rfl | rfl;exact e12 hx;exact e7 hx) fun r x _ hx=>hx.cmod mm hCne,fun x hx=>⟨.inl (h'.dF x hx).1,(h'.dF x hx).2⟩,.inr ⟨g,gc,h2n,?_,rfl,?_,.inl e4,e5,e6,e7,?_,nC,nb2,ng2,nd2,?_,?_⟩⟩,?_⟩
  ·rw [eadd,List.length_set]
  ·exact OwnR.len oA _ (by rw [eadd,List.length_set])
  ·rcases hnew _ rfl with e | e
   ·exact .inl (e ▸ e8)
   ·exact .inr (by omega)
  ·rw [World.size_setCell];exact hv3
  ·rw [eadd]
   refine ⟨by rw [List.length_set];exact hip,fun j hj=>?_⟩
   rw [List.length_set] at hj
   obtain ⟨rv',sv2,pv2,a1,a2,a3,a4⟩:=e14.2 j hj
   by_cases hjl:j=s.ins.length - 1
   ·subst hjl
    have hrow:OpAt w5 g (s.ins.length - 1) s.ins[s.ins.length - 1] rv sv' pv:=at1.mod m45 fun e=>e11 e.symm
    refine ⟨v',sv',pv,fun q u hu=>?_,?_,fun _=>?_,fun e=>by rw [List.length_set] at e;omega⟩
    ·rw [List.getElem_set_self] at hu
     have hq:=(List.getElem?_eq_some_iff.1 hu).1
     simp only [List.length_cons,List.length_nil] at hq
     by_cases h2q:q=2
     ·subst h2q
      simp only [List.getElem?_cons_succ,List.getElem?_cons_zero,Option.some.injEq] at hu;subst hu
      obtain ⟨u',hu'⟩:=Option.isSome_iff_exists.1 live5.1
      exact World.cell?_setCell_same _ _ _ hu'
     ·rw [World.cell?_setCell_other _ _ _ _ (by intro e;simp only [Addr.mk.injEq] at e;omega)]
      refine hrow q u ?_
      rw [←hu]
      match q,hq,h2q with
      | 0,_,_=>rfl
      | 1,_,_=>rfl
      | 3,_,_=>rfl
      | 4,_,_=>rfl
    ·rw [List.getElem_set_self]
     refine ⟨v',sv',pv,rfl,?_,?_,?_⟩
     ·exact own_rd (by decide) ⟨r2',fun x hx=>.inr (by rw [hv2] at hx;exact (Option.some.inj hx).symm)⟩
     ·exact o3.mono (fun _ _ hx=>.inl hx) (fun x hb hx=>mm.same x hb (hCne x hx)) (by decide) fun _ _ h=>h
     ·exact o4.mono (fun _ _ hx=>.inl hx) (fun x hb hx=>mm.same x hb (hCne x hx)) (by decide) fun _ _ h=>h
    ·rw [List.getElem_set_self]
     exact ⟨r2',hv2,o3.mono (fun _ _ hx=>hx) (fun x hb hx=>mm.same x hb (hCne x hx)) (by decide) fun _ _ h=>h,o4.mono (fun _ _ hx=>hx) (fun x hb hx=>mm.same x hb (hCne x hx)) (by decide) fun _ _ h=>h⟩
   ·have hjc:=(a4 (by omega)).cmod mm hCne
    refine ⟨rv',sv2,pv2,fun q u hu=>?_,?_,fun e=>by rw [List.length_set] at e;omega,fun _=>?_⟩
    ·rw [List.getElem_set_ne (by omega)] at hu
     have hq:=(List.getElem?_eq_some_iff.1 hu).1
     simp only [List.length_cons,List.length_nil] at hq
     rw [World.cell?_setCell_other _ _ _ _ (by intro e;simp only [Addr.mk.injEq] at e;omega)]
     exact m45.cell (a1 q u hu) fun e=>e11 e.symm
    ·rw [List.getElem_set_ne (by omega)]
     exact hjc.mod (Mod.refl (fun _=>False) _) (fun _ _ _ h=>h) fun _ _ hx=>.inl hx
    ·rw [List.getElem_set_ne (by omega)];exact hjc
  ·refine (Grow.mod gd).trans (mm.mono fun x _ e=>?_)
   rcases e with rfl | rfl
   ·exact e8
   ·exact e4
 | false=>
  rw [condK_b,if_neg (by simp)]
  have eadd:addI s.ins rs set=s.ins++[⟨2,0,rs,set,[]⟩]:=by
   unfold addI
   unfold lastSet at hls
   cases hl:s.ins.getLast? with
   | none=>rfl
   | some o=>rw [hl] at hls;simp only [decide_eq_false_iff_not] at hls;simp only;rw [if_neg hls]
  have hbl:b < w4.heap.size:=World.block_lt_of_cell? w4 ⟨b,0,none⟩ h'.c0
  have hivb:(Value.slice ga s.ins.length gc).ownBlock≠some b∧(∀ g,(Value.slice ga s.ins.length gc).ownBlock=some g→F g∧¬ C g∧g≠b∧dv.ownBlock≠some g∧hot≠some g∧g < w4.heap.size):=by
   rcases h'.ins with ⟨e1,e2,_⟩ | ⟨g,c,hh,e1,e2,e3,e4,e5,e6,e7,e8,e9,e10,e11,_⟩
   ·simp only [Value.slice.injEq] at e2
    obtain ⟨rfl,_⟩:=e2
    exact ⟨fun h=>(nomatch h),fun g h=>(nomatch h)⟩
   ·simp only [Value.slice.injEq,true_and] at e1
    obtain ⟨rfl,rfl⟩:=e1
    refine ⟨fun e=>by simp only [Value.ownBlock,Option.some.injEq] at e;exact e6 e,fun g' e=>?_⟩
    simp only [Value.ownBlock,Option.some.injEq] at e;subst e
    exact ⟨e4,e5,e6,e7,fun e=>by rw [e2] at e;cases e;exact e11 rfl,(OwnR.ownB e3 _ rfl).2⟩
  obtain ⟨hivb,hiv⟩:=hivb
  have hhot:∀ x,hot=some x→F x∧¬ C x∧x≠b∧dv.ownBlock≠some x∧x < w4.heap.size:=by
   intro x hx
   rcases h'.ins with ⟨_,_,e⟩ | ⟨g,c,hh,e1,e2,e3,e4,e5,e6,e7,e8,e9,e10,e11,e12,e13,_⟩
   ·rw [e] at hx;cases hx
   ·rw [e2] at hx;cases hx;exact ⟨e8,e9,e10,e12,e13⟩
  refine drawC_i (fun k x=>(k=11∧(Value.slice ga s.ins.length gc).ownBlock=some x)∨(k=14∧x=b)) ?_
  rw [nilckK_i,faK_i,addr0]
  refine sld1_i ⟨h'.c1,fun j hj e=>by rcases e with ⟨_,e⟩ | ⟨rfl,_⟩;exact hivb e;exact absurd hj (by decide)⟩ ?_
  refine callK_mono (clone_run h1' hb3) ?_
  rintro t1 w5 ⟨n1,g5⟩
  refine ⟨Grow.mod g5,?_⟩
  refine callK_mono (copy_set (h2'.grow g5 (by decide) fun _ _ h=>h) hb4) ?_
  rintro t2 w6 ⟨n2,g6⟩
  refine ⟨Grow.mod g6,?_⟩
  have g46:=g5.trans g6
  have z5:=g5.size
  have z6:=g6.size
  have h6:=h'.grow g46
  have n1':OwnR w4.heap.size 21 1 RRune w6 t1 rs:=OwnR.mod n1 g6 (fun _ _ h=>h) fun _ _ _ h=>h
  obtain ⟨sa1,sc1,hsv1,_,_,hp1,hn1⟩:=OwnR.shape n1'
  obtain ⟨sa2,sc2,hsv2,_⟩:=OwnR.shape n2
  refine ⟨#[.int .u8 2,.int .i64 0,t1,t2,.slice none 0 0],by subst hsv1;subst hsv2;kernel_rfl,?_⟩
  have hn:∃ h2n,t1.ownBlock=some h2n∧w4.heap.size≤h2n∧h2n < w6.heap.size:=by
   cases sa1 with
   | none=>exact (hne (hn1 rfl)).elim
   | some p=>obtain ⟨g',_,q1,q2,q3⟩:=hp1 p rfl;exact ⟨g',q3,q1,q2⟩
  obtain ⟨h2n,hv2,hv3,hv4⟩:=hn
  -- rows: the old ones are only read from here on
  let C2:Nat→Prop:=fun x=>(C x∨hot=some x)∧x < w4.heap.size
  let C':Nat→Prop:=fun x=>C2 x∨t2.ownBlock=some x
  let R:World→List Value→Dop × Bool→Prop:=fun W r x=>match x.2 with
   | false=>RDop C2 W r x.1
   | true=>r=row5 x.1 t1 t2 (.slice none 0 0)∧OwnR 0 21 1 RRune W t1 x.1.runes∧RSet (fun x=>t2.ownBlock=some x) W t2 x.1.set∧x.1.patch=[]
  have hone:∀ W r y,R W r y→∀ u ∈ r,u.oneCell'=true:=by
   rintro W r ⟨o,t⟩ hy
   cases t with
   | false=>exact RDop.one hy
   | true=>
    obtain ⟨rfl,_⟩:=hy
    intro u hu
    simp only [List.mem_cons,List.not_mem_nil,or_false] at hu
    rcases hu with rfl | rfl | rfl | rfl | rfl
    ·rfl
    ·rfl
    ·rw [hsv1];rfl
    ·rw [hsv2];rfl
    ·rfl
  have o6:OwnR 0 TOp 5 R w6 (.slice ga s.ins.length gc) (s.ins.map fun o=>(o,false)):=by
   rcases h6.ins with ⟨e1,e2,_⟩ | ⟨g,c,hh,e1,e2,e3,e4,e5,e6,e7,e8,e9,e10,e11,e12,e13,e14⟩
   ·rw [e1] at e2 ⊢;rw [e2];exact OwnR.nil
   ·simp only [Value.slice.injEq,true_and] at e1
    obtain ⟨rfl,rfl⟩:=e1
    refine OwnR.conv (OwnR.len e3 (s.ins.map fun o=>(o,false)) (by simp)) fun j hj r hr hone hcl=>?_
    have hj':j < s.ins.length:=by simpa using hj
    obtain ⟨rv,sv0,pv,q1,q2,_,_⟩:=e14.2 j hj'
    have e:r=row5 s.ins[j] rv sv0 pv:=by
     refine List.ext_getElem? fun q=>?_
     by_cases hq:q < 5
     ·have h1:r[q]?=some r[q]:=List.getElem?_eq_getElem (by omega)
      have h2:(row5 s.ins[j] rv sv0 pv)[q]?=some (row5 s.ins[j] rv sv0 pv)[q]:=List.getElem?_eq_getElem (by simpa using hq)
      have h3:=hcl q _ h1
      rw [q1 q _ h2] at h3
      rw [h1,h2,h3]
     ·rw [List.getElem?_eq_none (by omega),List.getElem?_eq_none (by simp;omega)]
    subst e
    rw [List.getElem_map]
    refine q2.mod (Mod.refl (fun _=>False) _) (fun _ _ _ h=>h) fun x hx hc=>?_
    rcases hc with hc | hc
    ·exact ⟨.inl hc,(h'.cf x hc).2⟩
    ·subst hc;exact ⟨.inr e2,(hhot _ e2).2.2.2.2⟩
  have pst:∀ W1 W2 r y,w6.heap.size≤W1.heap.size→Mod (fun x=>(Value.slice ga s.ins.length gc).ownBlock=some x∨w6.heap.size≤x) W1 W2→R W1 r y→R W2 r y:=by
   rintro W1 W2 r ⟨o,t⟩ hz hm hy
   cases t with
   | false=>
    refine RDop.mod hy hm (fun x _ hx e=>?_) fun _ _ h=>h
    rcases e with e | e
    ·obtain ⟨_,q2,_,_,q5,_⟩:=hiv x e
     rcases hx.1 with hc | hc
     ·exact q2 hc
     ·exact q5 hc
    ·have:=hx.2;omega
   | true=>
    obtain ⟨q1,q2,q3,q4⟩:=hy
    refine ⟨q1,OwnR.mod q2 hm (fun x hx e=>?_) fun _ _ _ h=>h,q3.mono (fun _ _ h=>h) (fun x hb hx=>hm.same x hb fun e=>?_) (by decide) fun _ _ h=>h,q4⟩
    ·rw [hv2] at hx;cases hx
     rcases e with e | e
     ·have:=(hiv _ e).2.2.2.2.2;omega
     ·omega
    ·have h1:=OwnR.ownB n2 x hx
     rcases e with e | e
     ·have:=(hiv _ e).2.2.2.2.2;omega
     ·omega
  refine push_g2 elem_dop o6 (Nat.zero_le _) (cs:=row5 ⟨2,0,rs,set,[]⟩ t1 t2 (.slice none 0 0)) (x:=((⟨2,0,rs,set,[]⟩:Dop),true)) (by subst hsv1;subst hsv2;kernel_rfl) rfl ⟨rfl,OwnR.base n1' fun _ _=>Nat.zero_le _,SlR.sub (OwnR.sl n2) (fun x _ hx=>hx.2) (by decide) fun _ _ h=>h,rfl⟩ hone pst (by simpa using hb1) (by simp only [List.length_map,maxLen];omega) (fun _ g=>Grow.mod g) fun w6' v' w7 o7 m6' m7 f7=>?_
  refine ⟨m6'.mono fun x _ e=>.inl ⟨rfl,e⟩,?_⟩
  have z7:=m7.size
  have hv7:=OwnR.one o7
  obtain ⟨va,vc,rfl,_,_,hvp,hvn⟩:=OwnR.shape o7
  cases va with
  | none=>have:=hvn rfl;simp at this
  | some vp=>
  obtain ⟨g7,rfl,_,hg7,hown7⟩:=hvp _ rfl
  have ln7:(s.ins.map (fun o=>(o,false))++[((⟨2,0,rs,set,[]⟩:Dop),true)]).length=(addI s.ins rs set).length:=by rw [eadd];simp
  have hg7':=f7 g7 rfl
  have bne:¬ (Value.slice ga s.ins.length gc).ownBlock=some b:=hivb
  have Cne:∀ x,C x→¬ (Value.slice ga s.ins.length gc).ownBlock=some x:=fun x hx e=>(hiv x e).2.1 hx
  have h47:MkR F w7 b s dv (.slice ga s.ins.length gc) C hot→True:=fun _=>trivial
  have l7:∀ q,q < 3→Live w7 ⟨b,q,none⟩:=fun q hq=>(h6.lv q hq).mod m7 bne
  rw [nilckK_i,faK_i,addr0]
  refine (l7 1 (by decide)).st hv7.1 hv7.2 ⟨Mod.setCell _ _ _ (.inr ⟨rfl,rfl⟩),?_⟩
  have m78:=setA w7 b 1 (Value.slice (some ⟨g7,0,none⟩) (s.ins.map (fun o=>(o,false))++[((⟨2,0,rs,set,[]⟩:Dop),true)]).length vc)
  have oth:∀ q,q≠1→(⟨b,1,none⟩:Addr)≠⟨b,q,none⟩:=fun q hq e=>by simp only [Addr.mk.injEq] at e;omega
  obtain ⟨u1,hu1⟩:=Option.isSome_iff_exists.1 (l7 1 (by decide)).1
  have c8:∀ q u,q≠1→w6.cell? ⟨b,q,none⟩=some u→(w7.setCell ⟨b,1,none⟩ (Value.slice (some ⟨g7,0,none⟩) (s.ins.map (fun o=>(o,false))++[((⟨2,0,rs,set,[]⟩:Dop),true)]).length vc)).cell? ⟨b,q,none⟩=some u:=fun q u hq hu=>(World.cell?_setCell_other _ _ _ _ (oth q hq)).trans (m7.cell hu bne)
  have c81:=World.cell?_setCell_same w7 ⟨b,1,none⟩ (Value.slice (some ⟨g7,0,none⟩) (s.ins.map (fun o=>(o,false))++[((⟨2,0,rs,set,[]⟩:Dop),true)]).length vc) hu1
  have lv8:∀ q,q < 3→Live (w7.setCell ⟨b,1,none⟩ (Value.slice (some ⟨g7,0,none⟩) (s.ins.map (fun o=>(o,false))++[((⟨2,0,rs,set,[]⟩:Dop),true)]).length vc)) ⟨b,q,none⟩:=fun q hq=>(l7 q hq).set _ _
  -- the blocks that the new rows do not lie in
  have hdv:∀ x,dv.ownBlock=some x→x < w4.heap.size:=fun x hx=>(OwnR.ownB h'.done x hx).2
  have g7b:g7≠b:=fun e=>by rcases hg7' with h | h;exact bne (e ▸ h);omega
  have g7C:¬ C' g7:=by
   rintro (⟨hx | hx,hlt⟩ | hx)
   ·rcases hg7' with h | h
    ·exact (hiv _ h).2.1 hx
    ·omega
   ·rcases hg7' with h | h
    ·exact (hiv _ h).2.2.2.2.1 hx
    ·omega
   ·have:=OwnR.ownB n2 _ hx
    rcases hg7' with h | h
    ·have:=(hiv _ h).2.2.2.2.2;omega
    ·omega
  have g7d:dv.ownBlock≠some g7:=fun e=>by
   rcases hg7' with h | h
   ·exact (hiv _ h).2.2.2.1 e
   ·have:=hdv _ e;omega
  have C'b:∀ x,C' x→¬ x=b:=by
   rintro x (⟨hx | hx,hlt⟩ | hx) e
   ·exact h'.nb (e ▸ hx)
   ·exact (hhot x hx).2.2.1 e
   ·have:=OwnR.ownB n2 _ hx;omega
  have h2C:¬ C' h2n:=by
   rintro (⟨_,hlt⟩ | hx)
   ·omega
   ·have:=OwnR.ownB n2 _ hx;have:=(OwnR.ownB (OwnR.mod n1 (Mod.refl (fun _=>False) _) (fun _ _ h=>h) fun _ _ _ h=>h) _ hv2).2;omega
  have Cd:∀ x,C x→C' x:=fun x hx=>.inl ⟨.inl hx,(h'.cf x hx).2⟩
  have o8:OwnR 0 TOp 5 R (w7.setCell ⟨b,1,none⟩ (Value.slice (some ⟨g7,0,none⟩) (s.ins.map (fun o=>(o,false))++[((⟨2,0,rs,set,[]⟩:Dop),true)]).length vc)) (Value.slice (some ⟨g7,0,none⟩) (s.ins.map (fun o=>(o,false))++[((⟨2,0,rs,set,[]⟩:Dop),true)]).length vc) (s.ins.map (fun o=>(o,false))++[((⟨2,0,rs,set,[]⟩:Dop),true)]):=by
   refine OwnR.mod o7 m78 (fun x hx e=>?_) fun r y _ hy=>?_
   ·simp only [Value.ownBlock,Option.some.injEq] at hx;subst hx;exact g7b e
   ·obtain ⟨o,t⟩:=y
    cases t with
    | false=>exact RDop.mod hy m78 (fun x _ hx e=>C'b x (.inl hx) e) fun _ _ h=>h
    | true=>
     obtain ⟨q1,q2,q3,q4⟩:=hy
     refine ⟨q1,OwnR.mod q2 m78 (fun x hx e=>?_) fun _ _ _ h=>h,q3.mono (fun _ _ h=>h) (fun x hb hx=>m78.same x hb fun e=>C'b x (.inr hx) e) (by decide) fun _ _ h=>h,q4⟩
     rw [hv2] at hx;cases hx;omega
  generalize hW:w7.setCell ⟨b,1,none⟩ (Value.slice (some ⟨g7,0,none⟩) (s.ins.map (fun o=>(o,false))++[((⟨2,0,rs,set,[]⟩:Dop),true)]).length vc)=W at m78 c8 c81 lv8 o8 ⊢
  have z8:=m78.size
  have m68:Mod (fun x=>(Value.slice ga s.ins.length gc).ownBlock=some x∨x=b) w6 W:=(m7.mono fun _ _ e=>.inl e).trans (m78.mono fun _ _ e=>.inr e)
  have Cm:∀ x,C x→¬ ((Value.slice ga s.ins.length gc).ownBlock=some x∨x=b):=by
   rintro x hx (e | e)
   ·exact Cne x hx e
   ·exact h'.nb (e ▸ hx)
  refine ⟨⟨dv,_,C',some h2n,c8 0 _ (by decide) h6.c0,c81,c8 2 _ (by decide) h6.c2,lv8,.inl h'.fb,fun hx=>C'b b hx rfl,?_,?_,fun x hx=>⟨.inl (h'.dF x hx).1,?_,(h'.dF x hx).2.2⟩,.inr ⟨g7,vc,h2n,?_,rfl,?_,?_,g7C,g7b,g7d,.inr (by omega),h2C,by omega,?_,?_,by omega,?_⟩⟩,?_⟩
  ·rintro x (⟨hx | hx,hlt⟩ | hx)
   ·exact ⟨.inl (h'.cf x hx).1,by omega⟩
   ·exact ⟨.inl (hhot x hx).1,by omega⟩
   ·have:=OwnR.ownB n2 _ hx;exact ⟨.inr (by omega),by omega⟩
  ·refine OwnR.mod h6.done m68 (fun x hx e=>?_) fun r x _ hx=>(hx.cmod m68 Cm).mod (Mod.refl (fun _=>False) _) (fun _ _ _ h=>h) fun y _ hy=>Cd y hy
   rcases e with e | e
   ·exact (hiv _ e).2.2.2.1 hx
   ·exact (h'.dF x hx).2.2 e
  ·rintro (⟨hc | hc,hlt⟩ | hc)
   ·exact (h'.dF x hx).2.1 hc
   ·exact (hhot x hc).2.2.2.1 hx
   ·have:=OwnR.ownB n2 _ hc;have:=hdv x hx;omega
  ·rw [ln7]
  ·exact OwnR.len o8 _ ln7.symm
  ·rcases hg7' with h | h
   ·exact .inl (hiv _ h).1
   ·exact .inr (by omega)
  ·intro e
   rcases hg7' with h | h
   ·have:=(hiv _ h).2.2.2.2.2;omega
   ·omega
  ·intro e;have:=hdv _ e;omega
  ·rw [eadd]
   refine ⟨by simp,fun j hj=>?_⟩
   have hjL:j < (s.ins.map (fun o=>(o,false))++[((⟨2,0,rs,set,[]⟩:Dop),true)]).length:=by simpa using hj
   obtain ⟨r,hr,hcl,hR,_⟩:=OwnR.cellsOf o8 hjL
   by_cases hjl:j < s.ins.length
   ·have e1:(s.ins.map (fun o=>(o,false))++[((⟨2,0,rs,set,[]⟩:Dop),true)])[j]=(s.ins[j],false):=by
     rw [List.getElem_append_left (by simpa using hjl)];simp
    have e2:(s.ins++[(⟨2,0,rs,set,[]⟩:Dop)])[j]=s.ins[j]:=by rw [List.getElem_append_left hjl]
    rw [e1] at hR
    have hR':RDop C2 W r s.ins[j]:=hR
    obtain ⟨rv,sv0,pv,rfl,p1,p2,p3⟩:=hR'
    rw [e2]
    have rd:RDop C' W (row5 s.ins[j] rv sv0 pv) s.ins[j]:=RDop.mod (D:=C2) ⟨rv,sv0,pv,rfl,p1,p2,p3⟩ (Mod.refl (fun _=>False) _) (fun _ _ _ h=>h) fun x _ hx=>.inl hx
    refine ⟨rv,sv0,pv,hcl,rd.mod (Mod.refl (fun _=>False) _) (fun _ _ _ h=>h) fun x _ hx=>.inl hx,fun e=>?_,fun _=>rd⟩
    simp at e;omega
   ·have hje:j=s.ins.length:=by simp at hj;omega
    subst hje
    have e1:(s.ins.map (fun o=>(o,false))++[((⟨2,0,rs,set,[]⟩:Dop),true)])[s.ins.length]=((⟨2,0,rs,set,[]⟩:Dop),true):=by
     rw [List.getElem_append_right (by simp)];simp
    have e2:(s.ins++[(⟨2,0,rs,set,[]⟩:Dop)])[s.ins.length]=(⟨2,0,rs,set,[]⟩:Dop):=by rw [List.getElem_append_right (by simp)];simp
    rw [e1] at hR
    obtain ⟨rfl,q2,q3,q4⟩:=hR
    rw [e2]
    refine ⟨t1,t2,.slice none 0 0,hcl,⟨t1,t2,.slice none 0 0,rfl,?_,?_,SlR.nil⟩,fun _=>⟨q2,hv2,?_,SlR.nil⟩,fun e=>by simp at e⟩
    ·exact own_rd (by decide) ⟨q2,fun x hx=>.inr (by rw [hv2] at hx;exact (Option.some.inj hx).symm)⟩
    ·exact SlR.sub q3 (fun x _ hx=>.inl (.inr hx)) (by decide) fun _ _ h=>h
    ·exact SlR.sub q3 (fun x _ hx=>.inr hx) (by decide) fun _ _ h=>h
  ·refine ((Grow.mod gd).trans (Grow.mod g46)).trans (m68.mono fun x _ e=>?_)
   rcases e with e | e
   ·exact (hiv _ e).1
   ·rw [e];exact h'.fb
end Go.Proofs.YtlbaopamhkmepaaGreatDoor

namespace Go.Proofs.YtlbaopamhkmepaaGreatDoor
open Go Go.K

theorem set3 (W:World) (b:Nat) (u0 u1 u2:Value) (l:∀ q,q < 3→Live W ⟨b,q,none⟩):∀ W',W'=((W.setCell ⟨b,0,none⟩ u0).setCell ⟨b,1,none⟩ u1).setCell ⟨b,2,none⟩ u2→Mod (fun x=>x=b) W W'∧W'.cell? ⟨b,0,none⟩=some u0∧W'.cell? ⟨b,1,none⟩=some u1∧W'.cell? ⟨b,2,none⟩=some u2∧(∀ q,q < 3→Live W' ⟨b,q,none⟩):=by
 rintro W' rfl
 have ne:∀ q q',q≠q'→(⟨b,q,none⟩:Addr)≠⟨b,q',none⟩:=fun q q' hq e=>by simp only [Addr.mk.injEq] at e;omega
 have m1:=setA W b 0 u0
 have m2:=setA (W.setCell ⟨b,0,none⟩ u0) b 1 u1
 have m3:=setA ((W.setCell ⟨b,0,none⟩ u0).setCell ⟨b,1,none⟩ u1) b 2 u2
 refine ⟨(m1.trans m2).trans m3,?_,?_,?_,fun q hq=>(((l q hq).set _ _).set _ _).set _ _⟩
 ·obtain ⟨u,hu⟩:=Option.isSome_iff_exists.1 (l 0 (by decide)).1
  rw [World.cell?_setCell_other _ _ _ _ (ne 2 0 (by decide)),World.cell?_setCell_other _ _ _ _ (ne 1 0 (by decide))]
  exact World.cell?_setCell_same _ _ _ hu
 ·obtain ⟨u,hu⟩:=Option.isSome_iff_exists.1 ((l 1 (by decide)).set ⟨b,0,none⟩ u0).1
  rw [World.cell?_setCell_other _ _ _ _ (ne 2 1 (by decide))]
  exact World.cell?_setCell_same _ _ _ hu
 ·obtain ⟨u,hu⟩:=Option.isSome_iff_exists.1 (((l 2 (by decide)).set ⟨b,0,none⟩ u0).set ⟨b,1,none⟩ u1).1
  exact World.cell?_setCell_same _ _ _ hu
def lastPat (d:List Dop) (p:List Chg):Bool:=match d.getLast? with | some o=>decide (o.kind=1∧o.patch=p) | none=>false
theorem retain_ok {F S:Nat→Prop} {w:World} {b:Nat} {s:MkS} {n:Int} {pv:Value} {p:List Chg} (h:MkI F w b s) (h1:RPat S w pv p) (hS:∀ x,S x→¬ F x)
  (hb1:s.done.length+s.ins.length+2≤1099511627776) (hb2:p.length * 56≤140737488355328) :
  callK Tryz.prog 76 [.pointer (some ⟨b,0,none⟩),.int .i64 n,pv] (fun _ w'=>MkI (fun x=>F x∨w.heap.size≤x) w' b (retS s n p)∧Mod F w w') w:=by
 apply S76_ok
 unfold S76
 have hI:=h
 have hb3:(s.ins.length+1) * 88≤140737488355328:=by omega
 obtain ⟨dv,iv,C,hot,h⟩:=h
 refine JoinK_i (fun vs w1=>w1=w∧¬ n < 1) ?_ ?_
 rotate_left
 ·rw [pnilK_i]
  simp only [Option.isNone_some]
  rw [condK_b,if_neg (by simp),ltK_i]
  refine condK_p (fun e=>?_) fun e=>⟨trivial,e⟩
  exact ⟨by rw [retS,if_pos e];exact hI.sub fun x hx=>.inl hx,Mod.refl _ _⟩
 rintro vs _ ⟨rfl,hn⟩ _
 rename World=>w
 have key:retS s n p=⟨putS (s.done++gapL s.ins s.gone) n p,[],0⟩:=by rw [retS,if_neg hn]
 rw [key]
 have gl:(gapL s.ins s.gone).length≤s.ins.length+1:=by unfold gapL;split <;> simp
 have gd:Grow w w.drew:=Mod.drew _ _
 have h':=h.grow gd
 have zd:w.drew.heap.size=w.heap.size:=rfl
 have h1':RPat (fun x=>S x∧x < w.heap.size) w.drew pv p:=(h1.old (by decide)).grow gd (by decide) fun _ _ h=>h
 have hbl:b < w.drew.heap.size:=World.block_lt_of_cell? w.drew ⟨b,0,none⟩ h'.c0
 have hdv:∀ x,dv.ownBlock=some x→x < w.drew.heap.size:=fun x hx=>(OwnR.ownB h'.done x hx).2
 have hhot:∀ x,hot=some x→F x∧¬ C x∧x≠b∧dv.ownBlock≠some x∧x < w.drew.heap.size:=by
  intro x hx
  rcases h'.ins with ⟨_,_,e⟩ | ⟨g,c,hh,e1,e2,e3,e4,e5,e6,e7,e8,e9,e10,e11,e12,e13,_⟩
  ·rw [e] at hx;cases hx
  ·rw [e2] at hx;cases hx;exact ⟨e8,e9,e10,e12,e13⟩
 rw [←zd]
 generalize w.drew=w4 at gd h' zd h1' hbl hdv hhot ⊢
 have dvb:dv.ownBlock≠some b:=fun e=>(h'.dF b e).2.2 rfl
 let C1:Nat→Prop:=fun x=>(C x∨hot=some x)∧x < w4.heap.size
 have C1b:¬ C1 b:=by
  rintro ⟨hx | hx,_⟩
  ·exact h'.nb hx
  ·exact (hhot b hx).2.2.1 rfl
 have C1d:∀ x,dv.ownBlock=some x→¬ C1 x:=by
  rintro x hx ⟨hc | hc,_⟩
  ·exact (h'.dF x hx).2.1 hc
  ·exact (hhot x hc).2.2.2.1 hx
 have C1F:∀ x,C1 x→F x:=by
  rintro x ⟨hc | hc,_⟩
  ·exact (h'.cf x hc).1
  ·exact (hhot x hc).1
 refine drawC_i (fun k x=>(k=7∧dv.ownBlock=some x)∨(k=10∧x=b)) ?_
 rw [nilckK_i,faK_i,addr0]
 refine sld1_i ⟨h'.c0,fun j hj e=>by rcases e with ⟨_,e⟩ | ⟨rfl,_⟩;exact dvb e;exact absurd hj (by decide)⟩ ?_
 refine callK_mono (gap_ok h' hb3) ?_
 rintro v5 w5 ⟨o5,g5⟩
 refine ⟨Grow.mod g5,?_⟩
 have h5:=h'.grow g5
 have z5:=g5.size
 have d5:OwnR 0 TOp 5 (RDop C1) w5 dv s.done:=OwnR.mod h5.done (Mod.refl (fun _=>False) _) (fun _ _ h=>h) fun r x _ hx=>hx.mod (Mod.refl (fun _=>False) _) (fun _ _ _ h=>h) fun y _ hy=>⟨.inl hy,(h'.cf y hy).2⟩
 obtain ⟨v6,w6,r1,o6,r3,r4⟩:=OwnR.append (ty:=31) elem_dop d5 (OwnR.sl o5) (fun _ _=>RDop.one) (by omega) (Nat.zero_le _) (by simp only [maxLen];omega) fun w' hg r y hy=>hy.mod (Mod.of_grownBy hg) (fun x _ hx e=>C1d x e hx) fun _ _ h=>h
 have m56:Mod (fun x=>dv.ownBlock=some x) w5 w6:=Mod.of_grownBy r3
 refine runK_i r1 ⟨m56.mono fun x _ e=>.inl ⟨rfl,e⟩,?_⟩
 have z6:=m56.size
 have hv6:=OwnR.one o6
 have l6:∀ q,q < 3→Live w6 ⟨b,q,none⟩:=fun q hq=>(h5.lv q hq).mod m56 dvb
 have own6:∀ x,v6.ownBlock=some x→dv.ownBlock=some x∨w4.heap.size≤x:=fun x hx=>by rcases r4 x hx with h | h;exact .inl h;exact .inr (by omega)
 rw [nilckK_i,faK_i,addr0]
 refine (l6 0 (by decide)).st hv6.1 hv6.2 ⟨Mod.setCell _ _ _ (.inr ⟨rfl,rfl⟩),?_⟩
 rw [nilckK_i,faK_i,addr0]
 refine ((l6 1 (by decide)).set _ _).st rfl rfl ?_
 rw [nilckK_i,faK_i,addr0]
 refine (((l6 2 (by decide)).set _ _).set _ _).st rfl rfl ?_
 generalize hW7:((w6.setCell ⟨b,0,none⟩ v6).setCell ⟨b,1,none⟩ (.slice none 0 0)).setCell ⟨b,2,none⟩ (.int .i64 0)=w7
 obtain ⟨m67,cell0,cell1,cell2,l7⟩:=set3 w6 b v6 (.slice none 0 0) (.int .i64 0) l6 w7 hW7.symm
 clear hW7
 have z7:=m67.size
 let F1:Nat→Prop:=fun x=>F x∨w4.heap.size≤x
 have v6b:v6.ownBlock≠some b:=fun e=>by rcases own6 b e with h | h;exact dvb h;omega
 have d7:OwnR 0 TOp 5 (RDop C1) w7 v6 (s.done++gapL s.ins s.gone):=OwnR.mod o6 m67 (fun x hx e=>v6b (e ▸ hx)) fun r x _ hx=>hx.cmod m67 fun y hy e=>C1b (e ▸ hy)
 have K7:MkR F1 w7 b ⟨s.done++gapL s.ins s.gone,[],0⟩ v6 (.slice none 0 0) C1 none:=by
  refine ⟨cell0,cell1,cell2,l7,.inl h'.fb,C1b,fun x hx=>⟨.inl (C1F x hx),by have:=hx.2;omega⟩,d7,fun x hx=>⟨?_,?_,fun e=>v6b (e ▸ hx)⟩,.inl ⟨rfl,rfl,rfl⟩⟩
  ·rcases own6 x hx with h | h
   ·exact .inl (h'.dF x h).1
   ·exact .inr h
  ·intro hc
   rcases own6 x hx with h | h
   ·exact C1d x h hc
   ·have:=hc.2;omega
 have m47:Mod F w4 w7:=((Grow.mod g5).trans (m56.mono fun x _ e=>(h'.dF x e).1)).trans (m67.mono fun x _ e=>by rw [e];exact h'.fb)
 have m07:Mod F w w7:=(Grow.mod gd).trans m47
 have p7:RPat (fun x=>S x∧x < w.heap.size) w7 pv p:=h1'.mono (fun _ _ h=>h) (fun x hb hx=>m47.same x hb (hS x hx.1)) (by decide) fun _ _ h=>h
 have dlen:(s.done++gapL s.ins s.gone).length≤s.done.length+s.ins.length+1:=by simp;omega
 generalize hD:s.done++gapL s.ins s.gone=D at K7 d7 dlen ⊢
 clear o6 r1 r3 r4 own6 cell0 cell1 cell2 l6 m56 m67 o5 h5 d5
 obtain ⟨va,vc,rfl,_,_,hvp,hvn⟩:=OwnR.shape d7
 rw [nilckK_i,faK_i,addr0]
 refine ld1K_i K7.c0 ?_
 rw [lenK_i,subK_i,wrap64 (by omega) (by omega)]
 refine JoinK_i (fun vs w8=>vs=[.bool (lastPat D p)]∧Grow w7 w8) ?_ ?_
 rotate_left
 ·rw [geK_i]
  refine condK_p (fun hge=>?_) fun hge=>?_
  ·have hip:0 < D.length:=by omega
   have hlt:D.length - 1 < D.length:=by omega
   rw [show ((D.length:Int) - 1)=((D.length - 1:Nat):Int) by omega]
   rw [nilckK_i,faK_i,addr0]
   refine ld1K_i K7.c0 ?_
   obtain ⟨q,r,rfl,_,hr,hc,rv,sv',pv',rfl,q1,q2,q3⟩:=(OwnR.sl d7).get hlt
   refine ixK_n hlt ?_
   rw [faK_i,Addr.add_add]
   refine ld1K_i (hc 0 _ rfl) ?_
   rw [eqK_i]
   refine condK_p (fun hk=>?_) fun hk=>⟨by rw [lastPat,getLast_get hip];simp [hk],Mod.refl _ _⟩
   rw [nilckK_i,faK_i,addr0]
   refine ld1K_i K7.c0 ?_
   refine ixK_n hlt ?_
   rw [faK_i,Addr.add_add]
   refine ld1K_i (hc 4 _ rfl) ?_
   refine callK_mono (same_pat q3 p7) ?_
   rintro v1 w8 ⟨rfl,g8⟩
   exact ⟨by rw [lastPat,getLast_get hip];simp [hk],g8⟩
  ·have:D=[]:=List.eq_nil_of_length_eq_zero (by omega)
   exact ⟨by rw [lastPat,this];rfl,Mod.refl _ _⟩
 rintro vs w8 ⟨rfl,g8⟩ _
 rw [nth_z,List.headD_cons]
 have K8:=K7.grow g8
 have z8:=g8.size
 have d8:OwnR 0 TOp 5 (RDop C1) w8 (.slice va D.length vc) D:=K8.done
 have p8:RPat (fun x=>S x∧x < w.heap.size) w8 pv p:=p7.grow g8 (by decide) fun _ _ h=>h
 have m08:Mod F w w8:=m07.trans (Grow.mod g8)
 have vb:(Value.slice va D.length vc).ownBlock≠some b:=fun e=>(K8.dF b e).2.2 rfl
 cases hls:lastPat D p with
 | true=>
  rw [condK_b,if_pos rfl]
  have hip:0 < D.length:=by
   cases hn:D with
   | nil=>rw [lastPat,hn] at hls;cases hls
   | cons a l=>simp
  have hlt:D.length - 1 < D.length:=by omega
  rw [lastPat,getLast_get hip] at hls
  simp only [decide_eq_true_eq] at hls
  rw [show ((D.length:Int) - 1)=((D.length - 1:Nat):Int) by omega]
  cases va with
  | none=>rw [hvn rfl] at hip;simp at hip
  | some vp=>
  obtain ⟨g7,rfl,_,hg7,_⟩:=hvp _ rfl
  rw [nilckK_i,faK_i,addr0]
  refine ld1K_i K8.c0 ?_
  obtain ⟨q,r,e,_,hr,hc,rv,sv',pv',rfl,q1,q2,q3⟩:=(OwnR.sl d8).get hlt
  cases e
  refine ixK_n hlt ?_
  rw [faK_i,Addr.add_add]
  refine ld1K_i (hc 1 _ rfl) ?_
  rw [addK_i]
  refine ixK_n hlt ?_
  rw [faK_i,Addr.add_add]
  obtain ⟨g7F,g7C,g7b⟩:=K8.dF g7 rfl
  obtain ⟨⟨u,hu⟩,hf,ho,hm⟩:=OwnR.store (R':=RDop C1) (u:=.int .i64 (IntKind.i64.wrap (D[D.length - 1].n+n))) (x':=⟨D[D.length - 1].kind,IntKind.i64.wrap (D[D.length - 1].n+n),D[D.length - 1].runes,D[D.length - 1].set,D[D.length - 1].patch⟩) d8 hlt (show 1 < 5 by decide) rfl
   (fun r y _ hy=>hy.mod (Mod.setCell (M:=fun x=>x=g7) _ _ _ (by rw [addr0])) (fun x _ hx e=>g7C (e ▸ hx)) fun _ _ h=>h)
   (fun r hy=>by
    obtain ⟨rv,sv',pv',rfl,p1,p2,p3⟩:=hy.mod (D':=C1) (Mod.setCell (M:=fun x=>x=g7) w8 ((⟨g7,0,none⟩:Addr).add ((D.length - 1) * 5+1)) (.int .i64 (IntKind.i64.wrap (D[D.length - 1].n+n))) (by rw [addr0])) (fun x _ hx e=>g7C (e ▸ hx)) fun _ _ h=>h
    exact ⟨rv,sv',pv',rfl,p1,p2,p3⟩)
  refine st1K_i rfl rfl hu hf ?_
  have eput:putS D n p=D.set (D.length - 1) ⟨D[D.length - 1].kind,IntKind.i64.wrap (D[D.length - 1].n+n),D[D.length - 1].runes,D[D.length - 1].set,D[D.length - 1].patch⟩:=by
   unfold putS
   rw [getLast_get hip]
   simp only [hls,and_self,if_true]
  have hm':Mod (fun x=>x=g7) w8 (w8.setCell ((⟨g7,0,none⟩:Addr).add ((D.length - 1) * 5+1)) (.int .i64 (IntKind.i64.wrap (D[D.length - 1].n+n)))):=hm
  refine ⟨⟨_,_,C1,none,hm'.cell K8.c0 (fun e=>g7b e.symm),hm'.cell K8.c1 (fun e=>g7b e.symm),hm'.cell K8.c2 (fun e=>g7b e.symm),fun q hq=>(K8.lv q hq).mod hm' (fun e=>g7b e.symm),K8.fb,K8.nb,fun x hx=>⟨(K8.cf x hx).1,Nat.lt_of_lt_of_le (K8.cf x hx).2 hm'.size⟩,by rw [eput];exact ho,K8.dF,.inl ⟨rfl,rfl,rfl⟩⟩,?_⟩
  refine m08.next hm' fun x hx e=>?_
  subst e
  rcases g7F with h | h
  ·exact h
  ·omega
 | false=>
  rw [condK_b,if_neg (by simp)]
  have gd8:Grow w8 w8.drew:=Mod.drew _ _
  have K9:=K8.grow gd8
  have zd8:w8.drew.heap.size=w8.heap.size:=rfl
  have p9:RPat (fun x=>S x∧x < w.heap.size) w8.drew pv p:=p8.grow gd8 (by decide) fun _ _ h=>h
  have m09:Mod F w w8.drew:=m08.trans (Grow.mod gd8)
  generalize w8.drew=w9 at gd8 K9 zd8 p9 m09 ⊢
  refine drawC_i (fun k x=>(k=10∧(Value.slice va D.length vc).ownBlock=some x)∨(k=13∧x=b)) ?_
  rw [nilckK_i,faK_i,addr0]
  refine sld1_i ⟨K9.c0,fun j hj e=>by rcases e with ⟨_,e⟩ | ⟨rfl,_⟩;exact vb e;exact absurd hj (by decide)⟩ ?_
  refine callK_mono (copy_pat p9 hb2) ?_
  rintro t1 w10 ⟨n1,g10⟩
  refine ⟨Grow.mod g10,?_⟩
  have K10:=K9.grow g10
  have z10:=g10.size
  obtain ⟨sa1,sc1,hsv1,_⟩:=OwnR.shape n1
  refine ⟨#[.int .u8 1,.int .i64 n,.slice none 0 0,.slice none 0 0,t1],by subst hsv1;kernel_rfl,?_⟩
  let C2:Nat→Prop:=fun x=>C1 x∨t1.ownBlock=some x
  have n1b:∀ x,t1.ownBlock=some x→w9.heap.size≤x∧x < w10.heap.size:=fun x hx=>OwnR.ownB n1 x hx
  have hvl:∀ x,(Value.slice va D.length vc).ownBlock=some x→x < w8.heap.size:=fun x hx=>(OwnR.ownB d8 x hx).2
  have C2v:∀ x,(Value.slice va D.length vc).ownBlock=some x→¬ C2 x:=by
   rintro x hx (hc | hc)
   ·exact (K8.dF x hx).2.1 hc
   ·have:=n1b x hc;have:=hvl x hx;omega
  have C2b:¬ C2 b:=by
   rintro (hc | hc)
   ·exact C1b hc
   ·have:=n1b b hc;omega
  have d10:OwnR 0 TOp 5 (RDop C2) w10 (.slice va D.length vc) D:=OwnR.mod K10.done (Mod.refl (fun _=>False) _) (fun _ _ h=>h) fun r x _ hx=>hx.mod (Mod.refl (fun _=>False) _) (fun _ _ _ h=>h) fun y _ hy=>.inl hy
  have eput:putS D n p=D++[⟨1,n,[],[],p⟩]:=by
   unfold putS
   unfold lastPat at hls
   cases hl:D.getLast? with
   | none=>rfl
   | some o=>rw [hl] at hls;simp only [decide_eq_false_iff_not] at hls;simp only;rw [if_neg hls]
  refine push_g2 elem_dop d10 (Nat.zero_le _) (cs:=row5 ⟨1,n,[],[],p⟩ (.slice none 0 0) (.slice none 0 0) t1) (x:=⟨1,n,[],[],p⟩) (by subst hsv1;kernel_rfl) rfl ⟨_,_,_,rfl,SlR.nil,SlR.nil,SlR.sub (OwnR.sl n1) (fun x _ hx=>.inr hx.2) (by decide) fun _ _ h=>h⟩ (fun _ _ _=>RDop.one) ?_ (by omega) (by simp only [maxLen];omega) (fun _ g=>Grow.mod g) fun w10' v' w11 o11 m10' m11 f11=>?_
  ·intro W1 W2 r y hz hm hy
   refine hy.mod hm (fun x _ hx e=>?_) fun _ _ h=>h
   rcases e with e | e
   ·exact C2v x e hx
   ·rcases hx with hc | hc
    ·have:=hc.2;omega
    ·have:=n1b x hc;omega
  refine ⟨m10'.mono fun x _ e=>.inl ⟨rfl,e⟩,?_⟩
  have z11:=m11.size
  have hv11:=OwnR.one o11
  rw [nilckK_i,faK_i,addr0]
  have l11:∀ q,q < 3→Live w11 ⟨b,q,none⟩:=fun q hq=>(K10.lv q hq).mod m11 vb
  refine (l11 0 (by decide)).st hv11.1 hv11.2 ⟨Mod.setCell _ _ _ (.inr ⟨rfl,rfl⟩),?_⟩
  have m12:=setA w11 b 0 v'
  have ne:∀ q,q≠0→(⟨b,0,none⟩:Addr)≠⟨b,q,none⟩:=fun q hq e=>by simp only [Addr.mk.injEq] at e;omega
  obtain ⟨u,hu⟩:=Option.isSome_iff_exists.1 (l11 0 (by decide)).1
  have v'b:v'.ownBlock≠some b:=fun e=>by rcases f11 b e with h | h;exact vb h;omega
  have lv12:∀ q,q < 3→Live (w11.setCell ⟨b,0,none⟩ v') ⟨b,q,none⟩:=fun q hq=>(l11 q hq).set _ _
  have c12:=World.cell?_setCell_same w11 ⟨b,0,none⟩ v' hu
  have co:∀ q u,q≠0→w10.cell? ⟨b,q,none⟩=some u→(w11.setCell ⟨b,0,none⟩ v').cell? ⟨b,q,none⟩=some u:=fun q u hq hu=>(World.cell?_setCell_other _ _ _ _ (ne q hq)).trans (m11.cell hu vb)
  generalize w11.setCell ⟨b,0,none⟩ v'=W at m12 lv12 c12 co ⊢
  have z12:=m12.size
  refine ⟨⟨v',_,C2,none,c12,co 1 _ (by decide) K10.c1,co 2 _ (by decide) K10.c2,lv12,.inl h'.fb,C2b,fun x hx=>?_,?_,fun x hx=>?_,.inl ⟨rfl,rfl,rfl⟩⟩,?_⟩
  ·rcases hx with hc | hc
   ·exact ⟨.inl (C1F x hc),by have:=hc.2;omega⟩
   ·have:=n1b x hc;exact ⟨.inr (by omega),by omega⟩
  ·rw [eput]
   exact OwnR.mod o11 m12 (fun x hx e=>v'b (e ▸ hx)) fun r x _ hx=>hx.cmod m12 fun y hy e=>C2b (e ▸ hy)
  ·rcases f11 x hx with h | h
   ·exact ⟨(K8.dF x h).1,C2v x h,(K8.dF x h).2.2⟩
   ·refine ⟨.inr (by omega),?_,fun e=>v'b (e ▸ hx)⟩
    rintro (hc | hc)
    ·have:=hc.2;omega
    ·have:=n1b x hc;omega
  ·refine ((m09.trans (Grow.mod g10)).next m11 fun x hx e=>?_).next m12 fun x _ e=>by rw [e];exact h'.fb
   rcases (K8.dF x e).1 with h | h
   ·exact h
   ·omega
end Go.Proofs.YtlbaopamhkmepaaGreatDoor

namespace Go.Proofs.YtlbaopamhkmepaaGreatDoor
open Go Go.K

theorem mDops_app (l m:List Dop):mDops (l++m)=mDops l+mDops m:=by simp [mDops]
theorem mDops_one (o:Dop):mDops [o]=mDop o:=by simp [mDops]
theorem gapL_m (ins:List Dop) (g:Int):mDops (gapL ins g)≤mDops ins+1:=by
 unfold gapL;split
 ·rw [mDops_app,mDops_one];simp [mDop,mSet,mPat]
 ·omega
theorem mDops_sub {l:List Dop}:mDops (trimL l)≤mDops l:=by
 unfold trimL
 split
 ·split
  ·rw [List.dropLast_eq_take];exact mDops_le _ _
  ·exact Nat.le_refl _
 ·exact Nat.le_refl _
theorem ops_ok {F:Nat→Prop} {w:World} {b:Nat} {s:MkS} (h:MkI F w b s) (hb:mDops s.done+mDops s.ins≤274877906944) :
  callK Tryz.prog 79 [.pointer (some ⟨b,0,none⟩)] (fun v' w'=>ODops w.heap.size w' v' (opsS s)∧Grow w w') w:=by
 apply S79_ok
 unfold S79
 obtain ⟨dv,iv,C,hot,h⟩:=h
 have hdl:=mDops_len s.done
 have hil:=mDops_len s.ins
 have hgm:=gapL_m s.ins s.gone
 have hgl:=mDops_len (gapL s.ins s.gone)
 rw [pnilK_i]
 simp only [Option.isNone_some]
 rw [condK_b,if_neg (by simp)]
 have gd:Grow w w.drew:=Mod.drew _ _
 have h':=h.grow gd
 have zd:w.drew.heap.size=w.heap.size:=rfl
 rw [←zd]
 have fin:∀ {W':World},Grow w.drew W'→Grow w W':=fun g=>gd.trans g
 generalize w.drew=w1 at gd h' zd fin ⊢
 refine drawC_i (fun _ _=>False) ?_
 rw [nilckK_i,faK_i,addr0]
 refine sld1_i ⟨h'.c0,fun j hj e=>e⟩ ?_
 refine callK_mono (gap_ok h' (by omega)) ?_
 rintro v2 w2 ⟨o2,g2⟩
 refine ⟨g2,?_⟩
 obtain ⟨a1,c1,hv1,hm1,_⟩:=OwnR.shape h'.done
 obtain ⟨a2,c2,hv2,hm2,_⟩:=OwnR.shape o2
 refine rowK_i (cs:=[dv,v2]) (by subst hv1;subst hv2;kernel_rfl) ?_
 have g3:Grow w2 (w2.alloc (.cells [dv,v2].toArray 31)):=Mod.alloc _ _ _
 have hc3:∀ j v,[dv,v2][j]?=some v→(w2.alloc (.cells [dv,v2].toArray 31)).cell? ((⟨w2.heap.size,0,none⟩:Addr).add j)=some v:=fun j v hv=>cell_box hv
 generalize w2.alloc (.cells [dv,v2].toArray 31)=w3 at g3 hc3 ⊢
 refine ⟨g3,?_⟩
 have g13:=g2.trans g3
 have z3:=g13.size
 have rd:RDops (fun _=>True) (fun x=>C x) w3 dv s.done:=SlR.sub (OwnR.sl (h'.grow g13).done) (fun _ _ _=>trivial) (by decide) fun _ _ h=>h
 have rg:RDops (fun _=>True) (fun x=>(C x∨hot=some x)∧x < w1.heap.size) w3 v2 (gapL s.ins s.gone):=by
  have:=OwnR.mod (R':=RDop fun x=>(C x∨hot=some x)∧x < w1.heap.size) o2 g3 (fun _ _ h=>h) fun r y _ hy=>hy.mod g3 (fun _ _ _ h=>h) fun _ _ h=>h
  exact SlR.sub (OwnR.sl this) (fun _ _ _=>trivial) (by decide) fun _ _ h=>h
 refine callK_mono (concat_dops rd rg (by rw [←addr0 w2.heap.size 0];exact hc3 0 _ rfl) (hc3 1 _ rfl) (by omega)) ?_
 rintro v4 w4 ⟨o4,g4⟩
 refine ⟨g4,?_⟩
 have g14:=g13.trans g4
 have z14:=g14.size
 have hlm:mDops (s.done++gapL s.ins s.gone)≤549755813888:=by rw [mDops_app];omega
 have hop:opsS s=trimL (s.done++gapL s.ins s.gone):=rfl
 rw [hop]
 generalize s.done++gapL s.ins s.gone=L at o4 hlm ⊢
 have hLl:=mDops_len L
 have r4:=OwnR.sl o4
 obtain ⟨va,vc,rfl,_,_,_⟩:=OwnR.shape o4
 refine JoinK_i (fun vs w5=>∃ v,vs=[v]∧Grow w1 w5∧RDops (fun _=>True) (fun _=>True) w5 v (trimL L)) ?_ ?_
 ·rintro vs w5 ⟨v,rfl,g5,h5⟩ _
  rw [nth_z,List.headD_cons]
  refine callK_mono (copy_dops h5 (by have:=mDops_sub (l:=L);omega)) ?_
  rintro v6 w6 ⟨o6,g6⟩
  have:=g5.size
  refine ⟨?_,fin (g5.trans g6)⟩
  refine OwnR.mod (OwnR.base o6 fun g hg=>by have:=(OwnR.ownB o6 g hg).1;omega) (Mod.refl (fun _=>False) _) (fun _ _ h=>h) fun r x _ hx=>hx.mod (Mod.refl (fun _=>False) _) (fun _ _ _ h=>h) fun y _ hy=>⟨by omega,hy.2⟩
 ·have rT:RDops (fun _=>True) (fun _=>True) w4 (.slice va L.length vc) L:=SlR.sub r4 (fun _ _ _=>trivial) (by decide) fun r x hx=>hx.mod (Mod.refl (fun _=>False) _) (fun _ _ _ h=>h) fun _ _ _=>trivial
  rw [lenK_i,subK_i,wrap64 (by omega) (by omega),geK_i]
  refine condK_p (fun hge=>?_) fun hge=>?_
  ·have hip:0 < L.length:=by omega
   have hlt:L.length - 1 < L.length:=by omega
   rw [show ((L.length:Int) - 1)=((L.length - 1:Nat):Int) by omega]
   obtain ⟨q,r,rfl,_,hr,hc,rv,sv',pv',rfl,q1,q2,q3⟩:=rT.get hlt
   refine ixK_n hlt ?_
   rw [faK_i,Addr.add_add]
   refine ld1K_i (hc 0 _ rfl) ?_
   rw [eqK_i]
   refine condK_p (fun hk=>?_) fun hk=>⟨_,rfl,g14,by rw [trimL,getLast_get hip];simp only;rw [if_neg (fun h=>hk h.1)];exact rT⟩
   refine ixK_n hlt ?_
   rw [faK_i,Addr.add_add]
   refine ld1K_i (hc 4 _ rfl) ?_
   obtain ⟨pa,pc,rfl,_⟩:=q3.shape
   rw [lenK_i,eqK_i]
   refine condK_p (fun hp=>?_) fun hp=>⟨_,rfl,g14,by rw [trimL,getLast_get hip];simp only;rw [if_neg (fun h=>hp (len0.2 h.2))];exact rT⟩
   refine slice_hi (e:=39) (i:=Tryz.t39) (by kernel_rfl) (by kernel_rfl) (by kernel_rfl) rT (Nat.sub_le _ _) fun v' hv'=>?_
   refine ⟨v',rfl,g14,?_⟩
   rw [trimL,getLast_get hip]
   simp only
   rw [if_pos ⟨hk,len0.1 hp⟩,List.dropLast_eq_take]
   exact hv'
  ·have:L=[]:=List.eq_nil_of_length_eq_zero (by omega)
   subst this
   exact ⟨_,rfl,g14,rT⟩
end Go.Proofs.YtlbaopamhkmepaaGreatDoor

namespace Go.Proofs.YtlbaopamhkmepaaGreatDoor
open Go Go.K

theorem rsame_dops {S S' D D':Nat→Prop} {a b:Value} {x y:List Dop} {w:World} (ha:RDops S D w a x) (hb:RDops S' D' w b y) :
  callK Tryz.prog 22 [a,b] (fun v w'=>v=.bool (decide (x=y))∧Grow w w') w:=by
 apply S22_ok
 unfold S22
 obtain ⟨pa,ca,rfl,hla⟩:=ha.shape
 obtain ⟨pb,cb,rfl,hlb⟩:=hb.shape
 simp only [maxLen] at hla
 have no:∀ w',Grow w w'→x≠y→Value.bool false=.bool (decide (x=y))∧Grow w w':=fun w' g hn=>⟨by rw [decide_eq_false hn],g⟩
 rw [lenK_i,lenK_i,neK_i]
 refine condK_neg (fun hlen=>?_) fun hne=>no _ (Mod.refl _ _) fun e=>hne (by rw [e])
 have hlen':x.length=y.length:=by omega
 refine LoopK_i (fun vs w1=>∃ i:Nat,i≤x.length∧vs=[.int .i64 i]∧Grow w w1∧x.take i=y.take i) (fun vs _=>x.length - iOf vs 0) ⟨0,Nat.zero_le _,rfl,Mod.refl _ _,rfl⟩ ?_
 rintro vs w1 ⟨i,hi,rfl,g1,ht⟩ _
 rw [lenK_i,nth_z,List.headD_cons,ltK_i]
 refine condK_p (fun hlt=>?_) fun hge=>?_
 ·have hlt':i < x.length:=by omega
  have hlt2:i < y.length:=by omega
  have no2:∀ w',Grow w w'→x[i]≠y[i]→Value.bool false=.bool (decide (x=y))∧Grow w w':=fun w' g hn=>no w' g (by rintro rfl;exact hn rfl)
  refine JoinK_i (fun _ w2=>Grow w w2∧x[i]=y[i]) ?_ ?_
  ·rintro _ w2 ⟨g2,he⟩ _
   rw [addK_i,loop_step (by omega)]
   refine ⟨⟨i+1,hlt',rfl,g2,?_⟩,by rw [iOf0,iOf0];omega⟩
   rw [List.take_add_one,List.take_add_one,ht,List.getElem?_eq_getElem hlt',List.getElem?_eq_getElem hlt2,he]
  ·obtain ⟨p,r,rfl,_,hr,hc,hx⟩:=(RDops.grow ha g1).get hlt'
   obtain ⟨p',r',rfl,_,hr',hc',hy⟩:=(RDops.grow hb g1).get hlt2
   refine JoinK_i (fun vs w3=>∃ b6 b7,vs=[.pointer (some ⟨b6,0,none⟩),.pointer (some ⟨b7,0,none⟩)]∧Grow w1 w3∧(∀ j u,r[j]?=some u→w3.cell? ((⟨b6,0,none⟩:Addr).add j)=some u)∧(∀ j u,r'[j]?=some u→w3.cell? ((⟨b7,0,none⟩:Addr).add j)=some u)) ?_ ?_
   ·rintro _ w3 ⟨b6,b7,rfl,g3,c6,c7⟩ _
    have hx3:=hx.mod (D':=D) g3 (fun _ _ _ h=>h) fun _ _ h=>h
    have hy3:=hy.mod (D':=D') g3 (fun _ _ _ h=>h) fun _ _ h=>h
    obtain ⟨rv,sv,pv,rfl,x1,x2,x3⟩:=hx3
    obtain ⟨rv',sv',pv',rfl,y1,y2,y3⟩:=hy3
    have g13:=g1.trans g3
    show faK 0 (.pointer (some ⟨b6,0,none⟩)) _
    simp only [nth_z,nth_s,List.headD_cons,List.tail_cons,faK_i]
    refine ld1K_i (c6 0 _ rfl) (ld1K_i (c7 0 _ rfl) ?_)
    rw [neK_i]
    refine condK_neg (fun e1=>?_) fun hne=>no2 _ g13 fun e=>hne (by rw [e])
    refine ld1K_i (c6 1 _ rfl) (ld1K_i (c7 1 _ rfl) ?_)
    rw [neK_i]
    refine condK_neg (fun e2=>?_) fun hne=>no2 _ g13 fun e=>hne (by rw [e])
    refine ld1K_i (c6 2 _ rfl) (ld1K_i (c7 2 _ rfl) ?_)
    refine callK_mono (rsame_run x1 y1) ?_
    rintro _ w4 ⟨rfl,g4⟩
    rw [notK_i]
    refine condK_neg (fun e3=>?_) fun hne=>no2 _ (g13.trans g4) fun e=>hne (by rw [e])
    refine ld1K_i (g4.cell (c6 3 _ rfl) fun h=>h) (ld1K_i (g4.cell (c7 3 _ rfl) fun h=>h) ?_)
    refine callK_mono (rsame_set (x2.grow g4 (by decide) fun _ _ h=>h) (y2.grow g4 (by decide) fun _ _ h=>h)) ?_
    rintro _ w5 ⟨rfl,g5⟩
    rw [notK_i]
    have g45:=g4.trans g5
    refine condK_neg (fun e4=>?_) fun hne=>no2 _ (g13.trans g45) fun e=>hne (by rw [e])
    refine ld1K_i (g45.cell (c6 4 _ rfl) fun h=>h) (ld1K_i (g45.cell (c7 4 _ rfl) fun h=>h) ?_)
    refine callK_mono (rsame_pat (x3.grow g45 (by decide) fun _ _ h=>h) (y3.grow g45 (by decide) fun _ _ h=>h)) ?_
    rintro _ w6 ⟨rfl,g6⟩
    rw [notK_i]
    refine condK_neg (fun e5=>⟨(g13.trans g45).trans g6,?_⟩) fun hne=>no2 _ ((g13.trans g45).trans g6) fun e=>hne (by rw [e])
    have eta:∀ o:Dop,o=⟨o.kind,o.n,o.runes,o.set,o.patch⟩:=fun _=>rfl
    rw [eta x[i],eta y[i],e1,e2,e3,e4,e5]
   ·refine drawC_i (fun k y=>(k=10∨k=11)∧w1.heap.size≤y) ?_
    have gd:Grow w1 w1.drew:=Mod.drew _ _
    have one:=RDop.one hx
    have one':=RDop.one hy
    have zd:=gd.size
    refine ixK_n hlt' (sldn_i hr (fun j u hu=>⟨by rw [Addr.add_add];exact gd.cell (hc j u hu) fun h=>h,fun k hk e=>?_⟩) ?_)
    ·rcases e with ⟨rfl | rfl,_⟩ <;> exact absurd hk (by decide)
    refine ixK_n hlt2 (sldn_i hr' (fun j u hu=>⟨by rw [Addr.add_add];exact gd.cell (hc' j u hu) fun h=>h,fun k hk e=>?_⟩) ?_)
    ·have:=World.block_lt_of_cell? w1 _ (hc' j u hu)
     rw [add_block] at this
     rw [add_block,add_block] at e
     omega
    refine ⟨?_,?_⟩
    ·refine newz_i fun b6 w17 hb6 hz6 g6 _ hl6=>⟨g6.mono fun _ _ h=>h.elim,?_⟩
     refine newz_i fun b7 w18 hb7 hz7 g7 _ hl7=>⟨g7.mono fun _ _ h=>h.elim,?_⟩
     refine stn_over hr one (fun j hj=>(hl6 j hj).mod g7 fun h=>h) fun w19 m19 hc6 _=>⟨m19.mono fun y _ e=>⟨.inl rfl,by omega⟩,?_⟩
     refine stn_over hr' one' (fun j hj=>(hl7 j hj).mod m19 fun e=>absurd (show b7=b6 by rw [addr0] at e;exact e) (by omega)) fun w20 m20 hc7 _=>⟨m20.mono fun y _ e=>⟨.inr rfl,by omega⟩,b6,b7,rfl,?_,fun j u hu=>m20.cell (hc6 j u hu) fun e=>absurd (show b6=b7 by rw [addr0] at e;exact e) (by omega),hc7⟩
     exact (((gd.trans g6).trans g7).next m19 fun x hx e=>by omega).next m20 fun x hx e=>by omega
    ·refine newz_i fun b7 w17 hb7 hz7 g7 _ hl7=>⟨g7.mono fun _ _ h=>h.elim,?_⟩
     refine newz_i fun b6 w18 hb6 hz6 g6 _ hl6=>⟨g6.mono fun _ _ h=>h.elim,?_⟩
     refine stn_over hr one hl6 fun w19 m19 hc6 _=>⟨m19.mono fun y _ e=>⟨.inl rfl,by omega⟩,?_⟩
     refine stn_over hr' one' (fun j hj=>((hl7 j hj).mod g6 fun h=>h).mod m19 fun e=>absurd (show b7=b6 by rw [addr0] at e;exact e) (by omega)) fun w20 m20 hc7 _=>⟨m20.mono fun y _ e=>⟨.inr rfl,by omega⟩,b6,b7,rfl,?_,fun j u hu=>m20.cell (hc6 j u hu) fun e=>absurd (show b6=b7 by rw [addr0] at e;exact e) (by omega),hc7⟩
     exact (((gd.trans g7).trans g6).next m19 fun x hx e=>by omega).next m20 fun x hx e=>by omega
 ·have:i=x.length:=by omega
  subst this
  rw [List.take_length,hlen',List.take_length] at ht
  exact ⟨by rw [decide_eq_true ht],g1⟩
end Go.Proofs.YtlbaopamhkmepaaGreatDoor

namespace Go.K
open Go
theorem SlR.rows {α:Type} {S:Nat→Prop} {k:Nat} {R:World→List Value→α→Prop} {w:World} {a:Option Addr} {c n:Nat} {m:List α} (hx:SlR S k R w (.slice a n c) m) (hone:∀ r y,R w r y→∀ u ∈ r,u.oneCell'=true) :
  ∃ rows':List (List Value),rows'.length=m.length∧(∀ (i:Nat) (r:List Value),rows'[i]?=some r→r.length=k∧(∀ u ∈ r,u.oneCell'=true)∧(∃ p,a=some p∧∀ j u,r[j]?=some u→w.cell? (p.add (i * k+j))=some u)∧∃ y,m[i]?=some y∧R w r y):=by
 obtain ⟨a',c',e,_,_,hel⟩:=hx
 cases e
 have gen:∀ q,q≤m.length→∃ rows':List (List Value),rows'.length=q∧(∀ (i:Nat) (r:List Value),rows'[i]?=some r→r.length=k∧(∀ u ∈ r,u.oneCell'=true)∧(∃ p,a=some p∧∀ j u,r[j]?=some u→w.cell? (p.add (i * k+j))=some u)∧∃ y,m[i]?=some y∧R w r y):=by
  intro q
  induction q with
  | zero=>exact fun _=>⟨[],rfl,fun i r h=>by simp at h⟩
  | succ q ih=>
   intro hq
   obtain ⟨rs,e1,e2⟩:=ih (by omega)
   obtain ⟨p,r,f1,f2,f3,f4,f5⟩:=hel q m[q] (by simp [show q < m.length by omega])
   refine ⟨rs++[r],by simp [e1],fun i r' hr'=>?_⟩
   by_cases hi:i < q
   ·rw [List.getElem?_append_left (by omega)] at hr';exact e2 i r' hr'
   ·have:i=q:=by have:=(List.getElem?_eq_some_iff.1 hr').1;simp [e1] at this;omega
    subst this
    rw [List.getElem?_append_right (by omega)] at hr'
    simp [e1] at hr'
    subst hr'
    exact ⟨f3,hone _ _ f5,⟨p,f1,f4⟩,m[i],by simp [show i < m.length by omega],f5⟩
 exact gen m.length (Nat.le_refl _)
theorem append_new {α:Type} {P:Program} {t ty e k bytes b:Nat} {R:World→List Value→α→Prop} {S:Nat→Prop} {w:World} {x:Value} {m:List α} (hE:ElemOK P t e k bytes) (hb:w.heap[b]?=some (.cells #[] e (0,0))) (hx:SlR S k R w x m)
  (hone:∀ w r y,R w r y→∀ u ∈ r,u.oneCell'=true) (h63:m.length * bytes≤140737488355328) (hR:∀ w',w.grownBy w' (some b)→∀ r y,R w r y→R w' r y) :
  ∃ v' w',(Builtin.append_ #[t,t] ty [.slice (some ⟨b,0,none⟩) 0 0,x].toArray).run P w=.ok v' w'∧OwnR b e k R w' v' m∧Grow w w'∧∀ g,v'.ownBlock=some g→g=b∨w.heap.size≤g:=by
 obtain ⟨a,c,rfl,hm⟩:=hx.shape
 have hlt:b < w.heap.size:=(Array.getElem?_eq_some_iff.1 hb).1
 have ho:OwnR b e k R w (.slice (some ⟨b,0,none⟩) 0 0) ([]:List α):=⟨[],⟨by simp,.inr ⟨b,0,#[],rfl,Nat.le_refl _,hb,Nat.le_refl _,by simp [maxLen],by simp,by simp⟩⟩,rfl,by simp,by simp⟩
 obtain ⟨v',w',hrun,r2,r3,r4⟩:=OwnR.append (ty:=ty) hE ho hx (fun _ _=>hone _ _ _) (by simpa using h63) (by omega) (by simpa using hm) (fun w' hg r y hy=>hR w' hg r y hy)
 refine ⟨v',w',hrun,by simpa using r2,?_,fun g hg=>?_⟩
 ·obtain ⟨i,z,ht,hi,hz,hs,hbt,hzs,hk⟩:=hE
  obtain ⟨rows',g1,g2⟩:=SlR.rows hx (fun _ _=>hone _ _ _)
  have hlen:∀ r ∈ rows',r.length=k:=fun r hr=>by obtain ⟨j,hj⟩:=List.mem_iff_getElem?.1 hr;exact (g2 j r hj).1
  simp only [maxLen] at hm
  by_cases hm0:m.length=0
  ·have h0:(Builtin.append_ #[t,t] ty [.slice (some ⟨b,0,none⟩) 0 0,.slice a m.length c].toArray).run P w=.ok (.slice (some ⟨b,0,none⟩) 0 0) w:=by
    rw [hm0]
    cases a <;> simp [Builtin.append_,run_underlying ht,sizeOf,typeInfo,hi,Builtin.lenOf,Builtin.firstCells,storeCells,loadCells,loadCellsFrom]
   rw [h0] at hrun
   cases hrun
   exact Mod.refl _ _
  ·obtain ⟨p,r,f1,_⟩:=hx.get (i:=0) (by omega)
   subst f1
   have hr:=run_append_grow (P:=P) w t ty e i z ht hi hz ⟨b,0,none⟩ 0 0 [] (by simp) (by simp) p m.length c rows'.flatten (by rw [flat_len rows' hlen,g1,hs]) (fun q u hu=>by
    obtain ⟨r,hr,hru⟩:=flat_of_get hk rows' hlen q u hu
    obtain ⟨_,_,⟨p',hp',hc'⟩,_⟩:=g2 _ r hr
    cases hp'
    have:=hc' _ u hru
    rwa [Nat.div_add_mod'] at this) (by omega) (by omega) (growslice_fits (by omega) (by rw [hbt];simpa using h63))
   have hr':(Builtin.append_ #[t,t] ty [.slice (some ⟨b,0,none⟩) 0 0,.slice (some p) m.length c].toArray).run P w=_:=hr
   rw [hr'] at hrun
   cases hrun
   exact (Mod.drew _ _).trans (Mod.alloc _ _ _)
 ·rcases r4 g hg with h | h
  ·exact .inl (by simpa [Value.ownBlock] using h.symm)
  ·exact .inr h
end Go.K

namespace Go.K
open Go
theorem slice_hi_run {P:Program} {t e k:Nat} {i:TypeInfo} {g n c j:Nat} (ht:P.underlying t=some (.slice e)) (hi:P.info? e=some i) (hk:i.size=k) (hj:j≤c) (w:World):(Instr.sliceAt t (.slice (some ⟨g,0,none⟩) n c) none (some (.int .i64 j)) none).run P w=.ok (.slice (some ⟨g,0,none⟩) j c) w:=by
 have hel:P.elem t=e:=by simp [Program.elem,ht]
 rw [run_sliceAt_slice _ _ _ _ _ _ (by rw [hel];exact ht),run_slice_h _ _ _ _ _ (by rw [hel];exact ht) _ _ (by omega) (by omega),hel]
 simp [sizeOf,typeInfo,hi,hk,sliced,Addr.add]
theorem box_store {b:Nat} {vs:List Value} {q:Nat} {u:Value} {W:World} {K:World→Prop} (hc:∀ j v,vs[j]?=some v→W.cell? ⟨b,j,none⟩=some v) (hl:∀ j,j < vs.length→Live W ⟨b,j,none⟩) (hq:q < vs.length) (h1:u.oneCell'=true) (h2:u.cells=#[u])
  (hK:∀ W',Mod (fun x=>x=b) W W'→(∀ j v,(vs.set q u)[j]?=some v→W'.cell? ⟨b,j,none⟩=some v)→(∀ j,j < (vs.set q u).length→Live W' ⟨b,j,none⟩)→K W'):st1K (.pointer (some ⟨b,q,none⟩)) u K W:=by
 refine (hl q hq).st h1 h2 (hK _ (Mod.setCell (M:=fun x=>x=b) W ⟨b,q,none⟩ u rfl) (fun j v hv=>?_) fun j hj=>(hl j (by simpa using hj)).set _ _)
 by_cases e:j=q
 ·subst e
  rw [List.getElem?_set_self hq] at hv
  cases hv
  obtain ⟨u',hu'⟩:=Option.isSome_iff_exists.1 (hl j hq).1
  exact World.cell?_setCell_same _ _ _ hu'
 ·rw [List.getElem?_set_ne (Ne.symm e)] at hv
  rw [World.cell?_setCell_other _ _ _ _ (fun e'=>by simp only [Addr.mk.injEq] at e';exact e e'.2.1.symm)]
  exact hc j v hv
theorem append_full {α:Type} {P:Program} {t ty e k bytes:Nat} {R:World→List Value→α→Prop} {S S':Nat→Prop} {w:World} {p:Addr} {x:Value} {l m:List α} (hE:ElemOK P t e k bytes) (h:SlR S k R w (.slice (some p) l.length l.length) l) (hx:SlR S' k R w x m) (hm0:0 < m.length)
  (hone:∀ w r y,R w r y→∀ u ∈ r,u.oneCell'=true) (h63:(l.length+m.length) * bytes≤140737488355328) (hlm:l.length+m.length≤maxLen) (hR:∀ w',Grow w w'→∀ r y,R w r y→R w' r y) :
  ∃ v' w',(Builtin.append_ #[t,t] ty [.slice (some p) l.length l.length,x].toArray).run P w=.ok v' w'∧OwnR w.heap.size e k R w' v' (l++m)∧Grow w w':=by
 obtain ⟨i,z,ht,hi,hz,hs,hbt,hzs,hk⟩:=hE
 obtain ⟨a,c,rfl,hm⟩:=hx.shape
 have hlm':=hlm
 simp only [maxLen] at hlm
 obtain ⟨rows,g1,g2⟩:=SlR.rows h (fun _ _=>hone _ _ _)
 obtain ⟨rows',g1',g2'⟩:=SlR.rows hx (fun _ _=>hone _ _ _)
 have hlen:∀ r ∈ rows,r.length=k:=fun r hr=>by obtain ⟨j,hj⟩:=List.mem_iff_getElem?.1 hr;exact (g2 j r hj).1
 have hlen':∀ r ∈ rows',r.length=k:=fun r hr=>by obtain ⟨j,hj⟩:=List.mem_iff_getElem?.1 hr;exact (g2' j r hj).1
 obtain ⟨pa,r0,f1,_⟩:=hx.get (i:=0) hm0
 subst f1
 have get:∀ {rs:List (List Value)} {q:Addr},(∀ r ∈ rs,r.length=k)→(∀ (i:Nat) (r:List Value),rs[i]?=some r→∀ j u,r[j]?=some u→w.cell? (q.add (i * k+j))=some u)→∀ (j:Nat) (u:Value),rs.flatten[j]?=some u→w.cell? (q.add j)=some u:=by
  intro rs q hl hc j u hu
  obtain ⟨r,hr,hru⟩:=flat_of_get hk rs hl j u hu
  have:=hc _ r hr _ u hru
  rwa [Nat.div_add_mod'] at this
 have hr:=run_append_grow (P:=P) w t ty e i z ht hi hz p l.length l.length rows.flatten (by rw [flat_len rows hlen,g1,hs]) (get hlen fun j r hj q u hu=>by
   obtain ⟨_,_,⟨p',hp',hc'⟩,_⟩:=g2 j r hj
   cases hp';exact hc' q u hu) pa m.length c rows'.flatten (by rw [flat_len rows' hlen',g1',hs]) (get hlen' fun j r hj q u hu=>by
   obtain ⟨_,_,⟨p',hp',hc'⟩,_⟩:=g2' j r hj
   cases hp';exact hc' q u hu) (by omega) (by omega) (growslice_fits (by omega) (by rw [hbt];exact h63))
 have hg:Grow w (w.drew.alloc (.cells (rows.flatten.toArray++rows'.flatten.toArray++Builtin.zeroCells z.cells (grownCap w (l.length+m.length) l.length e - (l.length+m.length))) e)):=(Mod.drew _ _).trans (Mod.alloc _ _ _)
 have hge:=grownCap_ge w (l.length+m.length) l.length e
 have hflat:(rows.flatten++rows'.flatten).length=(l.length+m.length) * k:=by rw [List.length_append,flat_len rows hlen,flat_len rows' hlen',g1,g1',Nat.add_mul]
 refine ⟨_,_,hr,⟨rows++rows',⟨by rw [List.flatten_append,hflat,List.length_append],.inr ⟨w.heap.size,_,_,by rw [List.length_append],Nat.le_refl _,heap_alloc_new w.drew _,by rw [List.length_append];exact hge,grownCap_le_maxLen w (l.length+m.length) l.length e hlm',?_,?_⟩⟩,by simp [g1,g1'],fun r hr=>?_,fun j r y hj hy=>?_⟩,hg⟩
 ·simp only [Array.size_append,List.size_toArray,size_zeroCells,hzs]
  have e1:=hflat
  rw [List.length_append] at e1
  rw [e1,←Nat.add_mul]
  congr 1;omega
 ·simp only [Array.toList_append,List.length_append,List.flatten_append]
  have h3:(l.length+m.length) * k=(rows.flatten++rows'.flatten).length:=hflat.symm
  rw [h3,List.take_append_of_le_length (Nat.le_refl _),List.take_length]
 ·rcases List.mem_append.1 hr with h | h
  ·obtain ⟨j,hj⟩:=List.mem_iff_getElem?.1 h;exact ⟨(g2 j r hj).1,(g2 j r hj).2.1⟩
  ·obtain ⟨j,hj⟩:=List.mem_iff_getElem?.1 h;exact ⟨(g2' j r hj).1,(g2' j r hj).2.1⟩
 ·refine hR _ hg r y ?_
  by_cases hjl:j < l.length
  ·rw [List.getElem?_append_left (by omega)] at hj
   rw [List.getElem?_append_left hjl] at hy
   obtain ⟨_,_,_,y',hy',hRy⟩:=g2 j r hj
   rw [hy] at hy';cases hy';exact hRy
  ·rw [List.getElem?_append_right (by omega),g1] at hj
   rw [List.getElem?_append_right (by omega)] at hy
   obtain ⟨_,_,_,y',hy',hRy⟩:=g2' _ r hj
   rw [hy] at hy';cases hy';exact hRy
def StkR {α:Type} (e k:Nat) (R:World→List Value→α→Prop) (w:World) (v:Value) (l:List α):Prop:=
 OwnR 0 e k R w v l∨∃ p,v=.slice (some p) l.length l.length∧p.block < w.heap.size∧SlR (fun b=>b=p.block) k R w v l
section
variable {α:Type} {e k:Nat} {R R':World→List Value→α→Prop} {w w':World} {v:Value} {l:List α} {M:Nat→Prop}
theorem StkR.sl (h:StkR e k R w v l) (hk:0 < k):SlR (fun b=>v.ownBlock=some b) k R w v l:=by
 rcases h with h | ⟨p,rfl,hlt,h⟩
 ·exact (OwnR.sl h).sub (fun _ _ h=>h.2) hk fun _ _ h=>h
 ·exact h.sub (fun b _ e=>by rw [e];rfl) hk fun _ _ h=>h
theorem StkR.ownB (h:StkR e k R w v l):∀ g,v.ownBlock=some g→g < w.heap.size:=by
 rcases h with h | ⟨p,rfl,hlt,h⟩
 ·exact fun g hg=>(OwnR.ownB h g hg).2
 ·intro g hg
  have:p.block=g:=Option.some.inj hg
  rw [←this];exact hlt
theorem StkR.mod (h:StkR e k R w v l) (hk:0 < k) (hm:Mod M w w') (hv:∀ g,v.ownBlock=some g→¬ M g) (hR:∀ r x,R w r x→R' w' r x):StkR e k R' w' v l:=by
 rcases h with h | ⟨p,rfl,hlt,h⟩
 ·exact .inl (OwnR.mod h hm hv fun r x _ hx=>hR r x hx)
 ·exact .inr ⟨p,rfl,Nat.lt_of_lt_of_le hlt hm.size,SlR.mono h (fun _ _ h=>h) (fun b hb hs=>hm.same b hb (hv b (by rw [hs];rfl))) hk hR⟩
theorem StkR.one (h:StkR e k R w v l):v.oneCell'=true∧v.cells=#[v]:=by
 rcases h with h | ⟨p,rfl,hlt,h⟩
 ·exact OwnR.one h
 ·exact ⟨rfl,rfl⟩
theorem StkR.shape (h:StkR e k R w v l) (hk:0 < k):∃ a c,v=.slice a l.length c∧l.length≤maxLen:=(h.sl hk).shape
theorem StkR.push {P:Program} {t bytes:Nat} {x:α} {zero:List Value} {parts:List (Nat × Value)} {cs:List Value} {K:Cont} (hE:ElemOK P t e k bytes) (h:StkR e k R w v l)
  (hf:Instr.fill (fun i=>some (i * k,k)) ((Array.range (1 * k)).map (zero.toArray[· % zero.toArray.size]!)) parts=some cs.toArray) (hcs:cs.length=k) (hx:R w cs x) (hone:∀ w r y,R w r y→∀ u ∈ r,u.oneCell'=true)
  (hR:∀ w1 w2 r y,w.heap.size≤w1.heap.size→Mod (fun b=>v.ownBlock=some b∨w.heap.size≤b) w1 w2→R w1 r y→R w2 r y) (hlen:(l.length+1) * bytes≤140737488355328) (hlm:l.length+1≤maxLen)
  {Q1:World→Prop} {Q2:World→World→Prop} (hQ1:∀ w1,Grow w w1→Q1 w1)
  (hK:∀ w1 v' w',OwnR 0 e k R w' v' (l++[x])→Mod (fun b=>v.ownBlock=some b) w1 w'→Mod (fun b=>v.ownBlock=some b) w w'→(∀ g,v'.ownBlock=some g→v.ownBlock=some g∨w.heap.size≤g)→Q2 w1 w'∧K v' w') :
  rowK e k 1 zero parts (fun s w1=>Q1 w1∧runK P (Builtin.append_ #[t,t] t [v,s].toArray) (fun v' w'=>Q2 w1 w'∧K v' w') w1) w:=by
 rcases h with h | ⟨p,rfl,hlt,h⟩
 ·exact push_g2 hE h (Nat.zero_le _) hf hcs hx hone hR hlen hlm hQ1 hK
 refine ⟨_,hf,?_⟩
 have hk:0 < k:=by obtain ⟨_,_,_,_,_,_,_,_,hk⟩:=hE;exact hk
 have hg:Grow w (w.alloc (.cells cs.toArray e)):=Mod.alloc _ _ _
 have hc:∀ j u,cs[j]?=some u→(w.alloc (.cells cs.toArray e)).cell? ((⟨w.heap.size,0,none⟩:Addr).add j)=some u:=fun j u hu=>cell_box hu
 have hz:(w.alloc (.cells cs.toArray e)).heap.size=w.heap.size+1:=by simp
 generalize w.alloc (.cells cs.toArray e)=w1 at hg hc hz ⊢
 have h':=h.grow hg hk fun r y hy=>hR _ _ _ _ (Nat.le_refl _) (hg.mono fun _ _ h=>h.elim) hy
 have hs:SlR (fun _=>True) k R w1 (.slice (some ⟨w.heap.size,0,none⟩) 1 1) [x]:=by
  refine ⟨_,1,rfl,Nat.le_refl _,by simp [maxLen],fun i y hy=>?_⟩
  have hi:i=0:=by have:=(List.getElem?_eq_some_iff.1 hy).1;simp at this;exact this
  subst hi
  simp at hy;subst hy
  exact ⟨_,cs,rfl,trivial,hcs,fun j u hu=>by rw [Nat.zero_mul,Nat.zero_add];exact hc j u hu,hR _ _ _ _ (Nat.le_refl _) (hg.mono fun _ _ h=>h.elim) hx⟩
 obtain ⟨v',w',h1,h2,h3⟩:=append_full (ty:=t) (m:=[x]) hE h' hs (by simp) hone hlen hlm fun w2 g r y hy=>hR _ _ _ _ (by omega) (g.mono fun _ _ h=>h.elim) hy
 refine ⟨hQ1 _ hg,runK_i h1 (hK w1 v' w' (h2.base fun _ _=>Nat.zero_le _) (h3.mono fun _ _ h=>h.elim) ((hg.trans h3).mono fun _ _ h=>h.elim) fun g hg'=>.inr ?_)⟩
 have:=(OwnR.ownB h2 g hg').1
 omega
end
end Go.K

namespace Go.Proofs.YtlbaopamhkmepaaGreatDoor
open Go Go.K

def hdSize (b0:Int):Nat:=if b0 < 194 then 0 else if b0 < 224 then 2 else if b0 < 240 then 3 else if b0 < 245 then 4 else 0
def hdLo (b0:Int):Int:=if b0=224 then 160 else if b0=240 then 144 else 128
def hdHi (b0:Int):Int:=if b0=237 then 159 else if b0=244 then 143 else 191
theorem wrap32 {x:Int} (h0:-2147483648≤x) (h1:x < 2147483648):IntKind.i32.wrap x=x:=by
 have e1:(2:Int) ^ IntKind.i32.bits=4294967296:=by decide
 have e2:(2:Int) ^ (IntKind.i32.bits - 1)=2147483648:=by decide
 simp only [IntKind.wrap,e1,e2,IntKind.signed,Bool.true_and,decide_eq_true_eq]
 split <;> omega
theorem cont_step {b:List Int} {i k:Nat} {c r:Int} (hc:b[i]?=some c) (h0:0≤r) (h1:r < 16777216) (c0:0≤c) (c1:c < 256):contB b (k+1) i r=if c < 128∨191 < c then none else contB b k (i+1) (r * 64+c - 128):=by
 simp only [contB,hc]
 rw [wrap32 (x:=r * 64) (by omega) (by omega),wrap32 (x:=c) (by omega) (by omega),wrap32 (x:=r * 64+c) (by omega) (by omega),wrap32 (x:=r * 64+c - 128) (by omega) (by omega)]
theorem head4 {b0:Int} (h0:240≤b0) (h1:b0 < 256):nextHead b0=some (4,b0 - 240):=by
 unfold nextHead
 rw [if_pos h0,wrap32 (x:=b0) (by omega) (by omega),wrap32 (by omega) (by omega)]
theorem head3 {b0:Int} (h0:224≤b0) (h1:b0 < 240):nextHead b0=some (3,b0 - 224):=by
 unfold nextHead
 rw [if_neg (by omega),if_pos h0,wrap32 (x:=b0) (by omega) (by omega),wrap32 (by omega) (by omega)]
theorem head2 {b0:Int} (h0:192≤b0) (h1:b0 < 224):nextHead b0=some (2,b0 - 192):=by
 unfold nextHead
 rw [if_neg (by omega),if_neg (by omega),if_pos h0,wrap32 (x:=b0) (by omega) (by omega),wrap32 (by omega) (by omega)]
theorem next_ascii {b0:Int} {t:List Int} (h0:0≤b0) (h1:b0 < 128):nextB (b0 :: t)=(b0,1):=by
 have hh:nextHead b0=some (1,b0):=by
  unfold nextHead
  rw [if_neg (by omega),if_neg (by omega),if_neg (by omega),if_neg (by omega),wrap32 (by omega) (by omega)]
 unfold nextB
 rw [List.headD_cons,hh]
 simp only [List.length_cons,contB,Nat.sub_self]
 rw [if_neg (by omega),if_pos ⟨by unfold MayR;omega,by unfold oneLen;rw [if_pos h1]⟩]
theorem next_short {b0:Int} {t:List Int} (h1:b0 < 256) (h:(b0 :: t).length < hdSize b0):nextB (b0 :: t)=(0,0):=by
 unfold nextB
 rw [List.headD_cons]
 unfold hdSize at h
 split at h
 ·omega
 split at h
 ·rw [head2 (by omega) (by omega)];simp only;rw [if_pos h]
 split at h
 ·rw [head3 (by omega) (by omega)];simp only;rw [if_pos h]
 split at h
 ·rw [head4 (by omega) (by omega)];simp only;rw [if_pos h]
 ·omega
theorem cont_lt {b:List Int}:∀ {k i:Nat} {r x:Int},contB b k i r=some x→(∀ y ∈ b,0≤y∧y < 256)→0≤r→r * 64 ^ k < 1073741824→k≤3→r * 64 ^ k≤x∧x≤r * 64 ^ k+64 ^ k - 1:=by
 intro k
 induction k with
 | zero=>intro i r x h _ _ _ _;simp only [contB] at h;cases h;simp
 | succ k ih=>
  intro i r x h hb h0 h1 hk
  cases hc:b[i]? with
  | none=>simp [contB,hc] at h
  | some c=>
   have hcb:=hb c (List.mem_iff_getElem?.2 ⟨i,hc⟩)
   have e:(64:Int) ^ (k+1)=64 * 64 ^ k:=by rw [Int.pow_succ];omega
   rw [e] at h1
   have hp:(1:Int)≤64 ^ k:=by
    rcases (show k=0∨k=1∨k=2 by omega) with rfl | rfl | rfl <;> decide
   have h2:r * (64 * 64 ^ k)=(r * 64) * 64 ^ k:=by rw [Int.mul_assoc]
   rw [h2] at h1
   have hr:r * 64≤r * 64 * 64 ^ k:=by
    have:=Int.mul_le_mul_of_nonneg_left hp (show 0≤r * 64 by omega)
    omega
   rw [cont_step hc h0 (by omega) hcb.1 hcb.2] at h
   split at h
   ·cases h
   ·rename_i hcc
    have e3:(r * 64+c - 128) * 64 ^ k=r * 64 * 64 ^ k+(c - 128) * 64 ^ k:=by rw [show r * 64+c - 128=r * 64+(c - 128) by omega,Int.add_mul]
    have hc2:(c - 128) * 64 ^ k≤63 * 64 ^ k:=Int.mul_le_mul_of_nonneg_right (by omega) (by omega)
    have hc3:0≤(c - 128) * 64 ^ k:=Int.mul_nonneg (by omega) (by omega)
    have hp3:(64:Int) ^ k≤4096:=by
     rcases (show k=0∨k=1∨k=2 by omega) with rfl | rfl | rfl <;> decide
    by_cases hbig:(r * 64+c - 128) * 64 ^ k < 1073741824
    ·have:=ih h hb (by omega) hbig (by omega)
     rw [e,h2]
     omega
    ·exfalso
     rw [e3] at hbig
     have hdv:r * 64 * 64 ^ k≤1073741824 - 64 * 64 ^ k:=by
      rcases (show k=0∨k=1∨k=2 by omega) with rfl | rfl | rfl
      ·simp only [Int.pow_zero] at *;omega
      ·simp only [Int.pow_one] at *;omega
      ·rw [show (64:Int) ^ 2=4096 by decide] at *;omega
     omega
theorem next_bad {b0:Int} {t:List Int} (hb:∀ y ∈ b0 :: t,0≤y∧y < 256) (h0:128≤b0) (h:hdSize b0=0):nextB (b0 :: t)=(0,0):=by
 have h1:=(hb b0 List.mem_cons_self).2
 have hc:b0 < 194∨245≤b0:=by
  unfold hdSize at h
  (repeat' split at h) <;> omega
 unfold nextB
 rw [List.headD_cons]
 by_cases h2:b0 < 192
 ·have hh:nextHead b0=none:=by
   unfold nextHead
   rw [if_neg (by omega),if_neg (by omega),if_neg (by omega),if_pos h0]
  rw [hh]
 by_cases h3:b0 < 194
 ·rw [head2 (by omega) (by omega)]
  simp only
  split
  ·rfl
  ·split
   ·rfl
   ·rename_i x hx
    have:=cont_lt hx hb (by omega) (by omega) (by omega)
    rw [if_neg]
    rintro ⟨_,ho⟩
    unfold oneLen at ho
    rw [if_pos (by omega)] at ho
    omega
 ·rw [head4 (by omega) (by omega)]
  simp only
  split
  ·rfl
  ·split
   ·rfl
   ·rename_i x hx
    have:=cont_lt hx hb (by omega) (by omega) (by omega)
    rw [if_neg]
    rintro ⟨hm,_⟩
    unfold MayR at hm
    omega
theorem next_2 {b0 c1:Int} {t:List Int} (h:hdSize b0=2) (c0:0≤c1) (c2:c1 < 256) :
  nextB (b0 :: c1 :: t)=if hdLo b0≤c1∧c1≤hdHi b0 then ((b0 - 192) * 64+(c1 - 128),2) else (0,0):=by
 have hb:194≤b0∧b0 < 224:=by
  unfold hdSize at h
  (repeat' split at h) <;> omega
 have hl:hdLo b0=128:=by unfold hdLo;rw [if_neg (by omega),if_neg (by omega)]
 have hh:hdHi b0=191:=by unfold hdHi;rw [if_neg (by omega),if_neg (by omega)]
 unfold nextB
 rw [List.headD_cons,head2 (by omega) (by omega)]
 simp only
 rw [if_neg (by simp),cont_step (b:=b0 :: c1 :: t) (i:=1) (c:=c1) rfl (by omega) (by omega) c0 c2,hl,hh]
 by_cases hc:c1 < 128∨191 < c1
 ·rw [if_pos hc,if_neg (by omega)]
 ·rw [if_neg hc,if_pos (by omega)]
  simp only [contB]
  rw [if_pos ⟨by unfold MayR;omega,by unfold oneLen;rw [if_neg (by omega),if_pos (by omega)]⟩]
  congr 1;omega
theorem next_3 {b0 c1 c2:Int} {t:List Int} (h:hdSize b0=3) (c0:0≤c1) (c0':c1 < 256) (d0:0≤c2) (d0':c2 < 256) :
  nextB (b0 :: c1 :: c2 :: t)=if (hdLo b0≤c1∧c1≤hdHi b0)∧128≤c2∧c2≤191 then ((b0 - 224) * 4096+(c1 - 128) * 64+(c2 - 128),3) else (0,0):=by
 have hb:224≤b0∧b0 < 240:=by
  unfold hdSize at h
  (repeat' split at h) <;> omega
 have hl:hdLo b0=if b0=224 then 160 else 128:=by
  unfold hdLo;split
  ·rfl
  ·rw [if_neg (by omega)]
 have hh:hdHi b0=if b0=237 then 159 else 191:=by
  unfold hdHi;split
  ·rfl
  ·rw [if_neg (by omega)]
 unfold nextB
 rw [List.headD_cons,head3 (by omega) (by omega)]
 simp only
 rw [if_neg (by simp),cont_step (b:=b0 :: c1 :: c2 :: t) (i:=1) (c:=c1) rfl (by omega) (by omega) c0 c0',hl,hh]
 by_cases hc:c1 < 128∨191 < c1
 ·rw [if_pos hc,if_neg]
  rintro ⟨⟨h1,h2⟩,_⟩
  split at h1 <;> split at h2 <;> omega
 rw [if_neg hc,cont_step (b:=b0 :: c1 :: c2 :: t) (i:=2) (c:=c2) rfl (by omega) (by omega) d0 d0']
 by_cases hd:c2 < 128∨191 < c2
 ·rw [if_pos hd,if_neg (by omega)]
 rw [if_neg hd]
 simp only [contB]
 by_cases ha:((if b0=224 then (160:Int) else 128)≤c1∧c1≤(if b0=237 then (159:Int) else 191))
 ·have hA:=(show (_∧128≤c2∧c2≤191) from ⟨ha,by omega⟩)
  rw [if_pos hA,if_pos]
  ·congr 1;omega
  ·obtain ⟨h1,h2⟩:=ha
   refine ⟨?_,?_⟩
   ·unfold MayR
    split at h1 <;> split at h2 <;> omega
   ·unfold oneLen
    rw [if_neg (by split at h1 <;> omega),if_neg (by split at h1 <;> omega),if_pos (by omega)]
 ·rw [if_neg (fun x:(_∧128≤c2∧c2≤191)=>ha x.1),if_neg]
  rintro ⟨hm,ho⟩
  apply ha
  unfold MayR at hm
  have:¬ (b0 - 224) * 64 * 64+(c1 - 128) * 64+c2 - 128 < 2048:=by
   intro hx
   unfold oneLen at ho
   split at ho
   ·cases ho
   ·split at ho
    ·cases ho
    ·omega
  constructor
  ·split <;> omega
  ·split <;> omega
theorem next_4 {b0 c1 c2 c3:Int} {t:List Int} (h:hdSize b0=4) (c0:0≤c1) (c0':c1 < 256) (d0:0≤c2) (d0':c2 < 256) (e0:0≤c3) (e0':c3 < 256) :
  nextB (b0 :: c1 :: c2 :: c3 :: t)=if (hdLo b0≤c1∧c1≤hdHi b0)∧(128≤c2∧c2≤191)∧128≤c3∧c3≤191 then ((b0 - 240) * 262144+(c1 - 128) * 4096+(c2 - 128) * 64+(c3 - 128),4) else (0,0):=by
 have hb:240≤b0∧b0 < 245:=by
  unfold hdSize at h
  (repeat' split at h) <;> omega
 have hl:hdLo b0=if b0=240 then 144 else 128:=by unfold hdLo;rw [if_neg (by omega)]
 have hh:hdHi b0=if b0=244 then 143 else 191:=by unfold hdHi;rw [if_neg (by omega)]
 unfold nextB
 rw [List.headD_cons,head4 (by omega) (by omega)]
 simp only
 rw [if_neg (by simp),cont_step (b:=b0 :: c1 :: c2 :: c3 :: t) (i:=1) (c:=c1) rfl (by omega) (by omega) c0 c0',hl,hh]
 by_cases hc:c1 < 128∨191 < c1
 ·rw [if_pos hc,if_neg]
  rintro ⟨⟨h1,h2⟩,_⟩
  split at h1 <;> split at h2 <;> omega
 rw [if_neg hc,cont_step (b:=b0 :: c1 :: c2 :: c3 :: t) (i:=2) (c:=c2) rfl (by omega) (by omega) d0 d0']
 by_cases hd:c2 < 128∨191 < c2
 ·rw [if_pos hd,if_neg (by omega)]
 rw [if_neg hd,cont_step (b:=b0 :: c1 :: c2 :: c3 :: t) (i:=3) (c:=c3) rfl (by omega) (by omega) e0 e0']
 by_cases he:c3 < 128∨191 < c3
 ·rw [if_pos he,if_neg (by omega)]
 rw [if_neg he]
 simp only [contB]
 by_cases ha:((if b0=240 then (144:Int) else 128)≤c1∧c1≤(if b0=244 then (143:Int) else 191))
 ·have hA:=(show (_∧(128≤c2∧c2≤191)∧128≤c3∧c3≤191) from ⟨ha,by omega⟩)
  rw [if_pos hA,if_pos]
  ·congr 1;omega
  ·obtain ⟨h1,h2⟩:=ha
   refine ⟨?_,?_⟩
   ·unfold MayR
    split at h1 <;> split at h2 <;> omega
   ·unfold oneLen
    rw [if_neg (by split at h1 <;> omega),if_neg (by split at h1 <;> omega),if_neg (by split at h1 <;> omega)]
 ·rw [if_neg (fun x:(_∧(128≤c2∧c2≤191)∧128≤c3∧c3≤191)=>ha x.1),if_neg]
  rintro ⟨hm,ho⟩
  apply ha
  unfold MayR at hm
  have:¬ ((b0 - 240) * 64+(c1 - 128)) * 64 * 64+(c2 - 128) * 64+c3 - 128 < 65536:=by
   intro hx
   unfold oneLen at ho
   split at ho
   ·cases ho
   ·split at ho
    ·cases ho
    ·split at ho
     ·cases ho
     ·omega
  constructor
  ·split <;> omega
  ·split <;> omega
theorem readB_step {b:List Int} (hb:b≠[]):(readB b).isSome=(decide ((nextB b).2≠0) && (readB (b.drop (nextB b).2)).isSome):=by
 rw [readB_cons hb]
 by_cases h:(nextB b).2=0
 ·simp [h]
 ·simp [h]
theorem readB_nil:readB ([]:List Int)=some []:=by simp [readB,readF]
theorem readB_skip:∀ {k:Nat} {b:List Int},k≤b.length→(∀ j x,j < k→b[j]?=some x→0≤x∧x < 128)→(readB b).isSome=(readB (b.drop k)).isSome:=by
 intro k
 induction k with
 | zero=>intro b _ _;rw [List.drop_zero]
 | succ k ih=>
  intro b hk h
  cases b with
  | nil=>simp at hk
  | cons b0 t=>
   have h0:=h 0 b0 (by omega) rfl
   rw [readB_step (by simp),next_ascii h0.1 h0.2]
   simp only [List.drop_succ_cons]
   simp only [ne_eq,Nat.one_ne_zero,not_false_eq_true,decide_true,Bool.true_and,List.drop_zero]
   exact ih (by simpa using hk) fun j x hj hx=>h (j+1) x (by omega) hx
end Go.Proofs.YtlbaopamhkmepaaGreatDoor

namespace Go.Proofs.YtlbaopamhkmepaaGreatDoor
open Go Go.K
theorem order_self (n:Nat):(FloatKind.f64.format.order n n != some .eq)=decide (NoNum (n:Int)):=by
 have h1:Ieee.double.signWeight=9223372036854775808:=by decide
 have h2:Ieee.double.infRung=9218868437227405312:=by decide
 have h3:Ieee.double.binade=4503599627370496:=by decide
 have hN:NoNum (n:Int)↔9218868437227405312 < n % 9223372036854775808:=by
  unfold NoNum
  rw [Int.tmod_eq_emod_of_nonneg (by omega)]
  omega
 have hs:∀ x:Int,compare x x=.eq:=fun x=>by simp [compare,compareOfLessAndEq]
 have hn:∀ x:Nat,compare x x=.eq:=fun x=>by simp [compare,compareOfLessAndEq]
 rw [show decide (NoNum (n:Int))=decide (9218868437227405312 < n % 9223372036854775808) from decide_eq_decide.2 hN]
 show ((Ieee.double.read n).order (Ieee.double.read n) != some .eq)=_
 unfold Ieee.Format.read
 simp only [h1,h2,h3]
 split
 ·rename_i hh
  have:¬ 9218868437227405312 < n % 9223372036854775808:=by omega
  simp only [Ieee.Datum.order,hs,decide_eq_false this];rfl
 ·split
  ·have:¬ 9218868437227405312 < n % 9223372036854775808:=by omega
   simp only [Ieee.Datum.order,hs,decide_eq_false this];rfl
  ·split
   ·have:¬ 9218868437227405312 < n % 9223372036854775808:=by omega
    simp only [Ieee.Datum.order,hn,decide_eq_false this];rfl
   ·have:9218868437227405312 < n % 9223372036854775808:=by omega
    simp only [Ieee.Datum.order,decide_eq_true this];rfl
def U64 (x:Int):Prop:=0≤x∧x < 18446744073709551616
def orN (a b:Int):Int:=((a.toNat ||| b.toNat:Nat):Int)
theorem wrapu64 {x:Int} (h:U64 x):IntKind.u64.wrap x=x:=by
 have e1:(2:Int) ^ IntKind.u64.bits=18446744073709551616:=by decide
 unfold U64 at h
 simp only [IntKind.wrap,e1,IntKind.signed,Bool.false_and]
 rw [if_neg (by decide)]
 omega
theorem bv_or {a b:Int} (ha:U64 a) (hb:U64 b):((BitVec.ofInt 64 a ||| BitVec.ofInt 64 b).toNat:Int)=orN a b:=by
 unfold U64 at ha hb
 unfold orN
 rw [BitVec.toNat_or,BitVec.toNat_ofInt,BitVec.toNat_ofInt]
 have e:((2 ^ 64:Nat):Int)=18446744073709551616:=by decide
 rw [e,Int.emod_eq_of_lt ha.1 ha.2,Int.emod_eq_of_lt hb.1 hb.2]
theorem bv_and {a b:Int} (ha:U64 a) (hb:U64 b):((BitVec.ofInt 64 a &&& BitVec.ofInt 64 b).toNat:Int)=((a.toNat &&& b.toNat:Nat):Int):=by
 unfold U64 at ha hb
 rw [BitVec.toNat_and,BitVec.toNat_ofInt,BitVec.toNat_ofInt]
 have e:((2 ^ 64:Nat):Int)=18446744073709551616:=by decide
 rw [e,Int.emod_eq_of_lt ha.1 ha.2,Int.emod_eq_of_lt hb.1 hb.2]
theorem orN_U {a b:Int} (ha:U64 a) (hb:U64 b):U64 (orN a b):=by
 unfold U64 at *
 unfold orN
 have:a.toNat ||| b.toNat < 2 ^ 64:=Nat.or_lt_two_pow (by omega) (by omega)
 omega
def HiB (x:Int) (j:Nat):Prop:=x.toNat.testBit (8 * j+7)=true
theorem HiB.l {a b:Int} {j:Nat} (h:HiB a j):HiB (orN a b) j:=by
 unfold HiB orN at *
 rw [Int.toNat_natCast,Nat.testBit_or,h,Bool.true_or]
theorem HiB.r {a b:Int} {j:Nat} (h:HiB b j):HiB (orN a b) j:=by
 unfold HiB orN at *
 rw [Int.toNat_natCast,Nat.testBit_or,h,Bool.or_true]
theorem hib_byte {x:Int} {j:Nat} (hj:j < 8) (h0:128≤x) (h1:x < 256):U64 (x * 2 ^ (8 * j))∧HiB (x * 2 ^ (8 * j)) j:=by
 obtain ⟨n,rfl⟩:∃ n:Nat,x=n:=⟨x.toNat,by omega⟩
 have e:((n:Int) * 2 ^ (8 * j))=((n * 2 ^ (8 * j):Nat):Int):=by rw [Int.natCast_mul,Int.natCast_pow];rfl
 have hp:n * 2 ^ (8 * j) < 2 ^ (8+8 * j):=by
  rw [Nat.pow_add]
  exact Nat.mul_lt_mul_of_pos_right (by omega) (Nat.pow_pos (by decide))
 have hq:2 ^ (8+8 * j)≤2 ^ 64:=Nat.pow_le_pow_right (by decide) (by omega)
 refine ⟨?_,?_⟩
 ·rw [e];unfold U64;omega
 ·rw [e];unfold HiB
  rw [Int.toNat_natCast,Nat.testBit_mul_two_pow]
  simp only [show 8 * j≤8 * j+7 by omega,decide_true,Bool.true_and,show 8 * j+7 - 8 * j=7 by omega]
  rw [Nat.testBit_eq_decide_div_mod_eq]
  rw [decide_eq_true_eq]
  omega
theorem hib_u {x:Int} {j:Nat} (hj:j < 8) (h0:0≤x) (h1:x < 256):U64 (x * 2 ^ (8 * j)):=by
 obtain ⟨n,rfl⟩:∃ n:Nat,x=n:=⟨x.toNat,by omega⟩
 have e:((n:Int) * 2 ^ (8 * j))=((n * 2 ^ (8 * j):Nat):Int):=by rw [Int.natCast_mul,Int.natCast_pow];rfl
 have hp:n * 2 ^ (8 * j) < 2 ^ (8+8 * j):=by
  rw [Nat.pow_add]
  exact Nat.mul_lt_mul_of_pos_right (by omega) (Nat.pow_pos (by decide))
 have hq:2 ^ (8+8 * j)≤2 ^ 64:=Nat.pow_le_pow_right (by decide) (by omega)
 rw [e];unfold U64;omega
theorem hib_none {x:Int} (h:x.toNat &&& 9259542123273814144=0) {j:Nat} (hj:j < 8):¬ HiB x j:=by
 intro hx
 unfold HiB at hx
 have:(x.toNat &&& 9259542123273814144).testBit (8 * j+7)=true:=by
  rw [Nat.testBit_and,hx,Bool.true_and]
  rcases (show j=0∨j=1∨j=2∨j=3∨j=4∨j=5∨j=6∨j=7 by omega) with rfl | rfl | rfl | rfl | rfl | rfl | rfl | rfl <;> decide
 rw [h,Nat.zero_testBit] at this
 cases this
end Go.Proofs.YtlbaopamhkmepaaGreatDoor

namespace Go.Proofs.YtlbaopamhkmepaaGreatDoor
open Go Go.K
def S192 (v0 v1 v2:Value) (K:Cont) (w:World):Prop:=
 boxnK 107 v2 (fun t5 w1=>
 callK Tryz.prog 193 [v0,v1] (fun t12 w2=>
 extK 0 t12 fun t13=>
 extK 1 t12 fun t14=>
 newK 84 [(.int .i64 0),(.bool false),(.int .u8 0),(.bool false),(.bool false),(.int .i64 0)] (fun t7 w3=>
 stnK 6 t7 t13 (fun w4=>
 condK t14
 (faK 2 t7 fun t17=>
 ld1K t17 (fun t18 w5=>
 faK 0 t5 fun t19=>
 ld1K t19 (fun t20 w6=>
 eqK .u8 t18 t20 fun t21=>
 condK t21
 (ldnK 4 t5 (fun t24 w7=>
 callK Tryz.prog 191 [t24] (fun t25 w8=>
 K t25 w8) w7) w6)
 (K (.bool false) w6)) w5) w4)
 (K (.bool false) w4)) w3) w2) w1) w
theorem S192_eq (v0 v1 v2:Value) (K:Cont) (w:World):S192 v0 v1 v2 K w=D Tryz.prog okf 27 (bodyOf Tryz.f192) (.node [] [] .nil (.node [] [] .nil (.node [] [] .nil .nil))) (retK Tryz.prog [.tmp 6] K) (nth [v0,v1,v2]) w:=by kernel_rfl
theorem S192_ok {v0 v1 v2:Value} {K:Cont} {w:World} (h:S192 v0 v1 v2 K w):callK Tryz.prog 192 [v0,v1,v2] K w:=
 callK_of (P:=Tryz.prog) (ok:=okf) (n:=27) (fn:=Tryz.f192) (c:=bodyOf Tryz.f192) (rs:=[.tmp 6]) (an:=(.node [] [] .nil (.node [] [] .nil (.node [] [] .nil .nil)))) good mixed Tryz.func192 (by kernel_rfl) (by kernel_rfl) (by kernel_rfl) (by kernel_rfl) (Eq.mp (S192_eq v0 v1 v2 K w) h)

def S191 (v0:Value) (K:Cont) (w:World):Prop:=
 boxnK 107 v0 (fun t1 w1=>
 faK 0 t1 fun t5=>
 ld1K t5 (fun t6 w2=>
 eqK .u8 t6 (.int .u8 1) fun t8=>
 condK t8
 (DrawK w2 (fun C=>
 qldnK C 4 t1 fun t9=>
 faK 1 t1 fun t10=>
 qld1K C t10 fun t11=>
 eqK .i64 t11 (.int .i64 1) fun t12=>
 qcallK Tryz.prog C 206 [t12] fun t13=>
 qrunK Tryz.prog C (binS .eql 107 (.tmp 9) (.tmp 13) t9 t13) fun t14=>
 ∀ w3:World,C w3→
 K t14 w3))
 (eqK .u8 t6 (.int .u8 2) fun t16=>
 condK t16
 (DrawK w2 (fun C_1=>
 qldnK C_1 4 t1 fun t17=>
 faK 1 t1 fun t18=>
 qld1K C_1 t18 fun t19=>
 qcallK Tryz.prog C_1 207 [t19] fun t20=>
 qrunK Tryz.prog C_1 (binS .eql 107 (.tmp 17) (.tmp 20) t17 t20) fun t21=>
 ∀ w4:World,C_1 w4→
 K t21 w4))
 (eqK .u8 t6 (.int .u8 3) fun t23=>
 condK t23
 (DrawK w2 (fun C_2=>
 qldnK C_2 4 t1 fun t24=>
 faK 2 t1 fun t25=>
 qld1K C_2 t25 fun t26=>
 qextK Tryz.prog C_2 209 [t26] fun t27=>
 qcallK Tryz.prog C_2 208 [t27] fun t28=>
 qrunK Tryz.prog C_2 (binS .eql 107 (.tmp 24) (.tmp 28) t24 t28) fun t29=>
 ∀ w5:World,C_2 w5→
 K t29 w5))
 (eqK .u8 t6 (.int .u8 4) fun t31=>
 condK t31
 (faK 3 t1 fun t33=>
 ld1K t33 (fun t34 w6=>
 callK Tryz.prog 210 [t34] (fun t35 w7=>
 extK 0 t35 fun t36=>
 extK 1 t35 fun t37=>
 newK 107 [(.int .u8 0),(.int .i64 0),(.int .u64 0),(.string (ByteArray.mk #[]))] (fun t3 w8=>
 stnK 4 t3 t36 (fun w9=>
 eqK .i64 t37 (.int .i64 0) fun t39=>
 condK t39
 (ldnK 4 t1 (fun t41 w10=>
 ldnK 4 t3 (fun t42 w11=>
 runK Tryz.prog (binS .eql 107 (.tmp 41) (.tmp 42) t41 t42) (fun t43 w12=>
 K t43 w12) w11) w10) w9)
 (K (.bool false) w9)) w8) w7) w6) w2)
 (K (.bool false) w2))))) w1) w
theorem S191_eq (v0:Value) (K:Cont) (w:World):S191 v0 K w=D Tryz.prog okf 45 (bodyOf Tryz.f191) (.node [] [] .nil (.node [] [] (.node [] [] .nil (.node [] [] .nil (.node [] [] (.node [] [] .draw .nil) (.node [] [] .nil (.node [] [] (.node [] [] .draw .nil) (.node [] [] .nil (.node [] [] (.node [] [] .draw .nil) (.node [] [] .nil (.node [] [] (.node [] [] .nil (.node [] [] .nil .nil)) .nil))))))))) (.node [] [] .nil .nil))) (retK Tryz.prog [.tmp 2] K) (nth [v0]) w:=by kernel_rfl
theorem S191_ok {v0:Value} {K:Cont} {w:World} (h:S191 v0 K w):callK Tryz.prog 191 [v0] K w:=
 callK_of (P:=Tryz.prog) (ok:=okf) (n:=45) (fn:=Tryz.f191) (c:=bodyOf Tryz.f191) (rs:=[.tmp 2]) (an:=(.node [] [] .nil (.node [] [] (.node [] [] .nil (.node [] [] .nil (.node [] [] (.node [] [] .draw .nil) (.node [] [] .nil (.node [] [] (.node [] [] .draw .nil) (.node [] [] .nil (.node [] [] (.node [] [] .draw .nil) (.node [] [] .nil (.node [] [] (.node [] [] .nil (.node [] [] .nil .nil)) .nil))))))))) (.node [] [] .nil .nil)))) good mixed Tryz.func191 (by kernel_rfl) (by kernel_rfl) (by kernel_rfl) (by kernel_rfl) (Eq.mp (S191_eq v0 K w) h)

def S206 (v0:Value) (K:Cont) (w:World):Prop:=
 newK 107 [(.int .u8 0),(.int .i64 0),(.int .u64 0),(.string (ByteArray.mk #[]))] (fun t2 w1=>
 buildK [(0,1),(1,1),(2,1),(3,1)] [(.int .u8 0),(.int .i64 0),(.int .u64 0),(.string (ByteArray.mk #[]))] [(0,(.int .u8 1))] fun t4=>
 newK 107 [(.int .u8 0),(.int .i64 0),(.int .u64 0),(.string (ByteArray.mk #[]))] (fun t3 w2=>
 stnK 4 t3 t4 (fun w3=>
 condK v0
 (faK 1 t3 fun t6=>
 st1K t6 (.int .i64 1) (fun w4=>
 ldnK 4 t3 (fun t7 w5=>
 stnK 4 t2 t7 (fun w6=>
 ldnK 4 t2 (fun r0 w7=>
 K r0 w7) w6) w5) w4) w3)
 (ldnK 4 t3 (fun t7_1 w8=>
 stnK 4 t2 t7_1 (fun w9=>
 ldnK 4 t2 (fun r0_1 w10=>
 K r0_1 w10) w9) w8) w3)) w2) w1) w
theorem S206_eq (v0:Value) (K:Cont) (w:World):S206 v0 K w=D Tryz.prog okf 8 (bodyOf Tryz.f206) (.node [] [] .nil (.node [] [] .nil (.node [] [] (.node [] [] .nil (.node [] [] .nil .nil)) (.node [] [] .nil .nil)))) (retK Tryz.prog [.cell 2 107] K) (nth [v0]) w:=by kernel_rfl
theorem S206_ok {v0:Value} {K:Cont} {w:World} (h:S206 v0 K w):callK Tryz.prog 206 [v0] K w:=
 callK_of (P:=Tryz.prog) (ok:=okf) (n:=8) (fn:=Tryz.f206) (c:=bodyOf Tryz.f206) (rs:=[.cell 2 107]) (an:=(.node [] [] .nil (.node [] [] .nil (.node [] [] (.node [] [] .nil (.node [] [] .nil .nil)) (.node [] [] .nil .nil))))) good mixed Tryz.func206 (by kernel_rfl) (by kernel_rfl) (by kernel_rfl) (by kernel_rfl) (Eq.mp (S206_eq v0 K w) h)

def S207 (v0:Value) (K:Cont) (w:World):Prop:=
 newK 107 [(.int .u8 0),(.int .i64 0),(.int .u64 0),(.string (ByteArray.mk #[]))] (fun t2 w1=>
 buildK [(0,1),(1,1),(2,1),(3,1)] [(.int .u8 0),(.int .i64 0),(.int .u64 0),(.string (ByteArray.mk #[]))] [(0,(.int .u8 2)),(1,v0)] fun t4=>
 stnK 4 t2 t4 (fun w2=>
 ldnK 4 t2 (fun r0 w3=>
 K r0 w3) w2) w1) w
theorem S207_eq (v0:Value) (K:Cont) (w:World):S207 v0 K w=D Tryz.prog okf 5 (bodyOf Tryz.f207) (.node [] [] .nil (.node [] [] .nil .nil)) (retK Tryz.prog [.cell 2 107] K) (nth [v0]) w:=by kernel_rfl
theorem S207_ok {v0:Value} {K:Cont} {w:World} (h:S207 v0 K w):callK Tryz.prog 207 [v0] K w:=
 callK_of (P:=Tryz.prog) (ok:=okf) (n:=5) (fn:=Tryz.f207) (c:=bodyOf Tryz.f207) (rs:=[.cell 2 107]) (an:=(.node [] [] .nil (.node [] [] .nil .nil))) good mixed Tryz.func207 (by kernel_rfl) (by kernel_rfl) (by kernel_rfl) (by kernel_rfl) (Eq.mp (S207_eq v0 K w) h)

def S208 (v0:Value) (K:Cont) (w:World):Prop:=
 newK 107 [(.int .u8 0),(.int .i64 0),(.int .u64 0),(.string (ByteArray.mk #[]))] (fun t2 w1=>
 callK Tryz.prog 216 [v0] (fun t4 w2=>
 condK t4
 (buildK [(0,1),(1,1),(2,1),(3,1)] [(.int .u8 0),(.int .i64 0),(.int .u64 0),(.string (ByteArray.mk #[]))] [(0,(.int .u8 3)),(2,(.int .u64 9221120237041090560))] fun t5=>
 stnK 4 t2 t5 (fun w3=>
 ldnK 4 t2 (fun r0 w4=>
 K r0 w4) w3) w2)
 (extcK Tryz.prog 217 [v0] (fun t7 w5=>
 buildK [(0,1),(1,1),(2,1),(3,1)] [(.int .u8 0),(.int .i64 0),(.int .u64 0),(.string (ByteArray.mk #[]))] [(0,(.int .u8 3)),(2,t7)] fun t8=>
 stnK 4 t2 t8 (fun w6=>
 ldnK 4 t2 (fun r0_1 w7=>
 K r0_1 w7) w6) w5) w2)) w1) w
theorem S208_eq (v0:Value) (K:Cont) (w:World):S208 v0 K w=D Tryz.prog okf 9 (bodyOf Tryz.f208) (.node [] [] .nil (.node [] [] (.node [] [] .nil (.node [] [] (.node [] [] .nil .nil) .nil)) (.node [] [] .nil .nil))) (retK Tryz.prog [.cell 2 107] K) (nth [v0]) w:=by kernel_rfl
theorem S208_ok {v0:Value} {K:Cont} {w:World} (h:S208 v0 K w):callK Tryz.prog 208 [v0] K w:=
 callK_of (P:=Tryz.prog) (ok:=okf) (n:=9) (fn:=Tryz.f208) (c:=bodyOf Tryz.f208) (rs:=[.cell 2 107]) (an:=(.node [] [] .nil (.node [] [] (.node [] [] .nil (.node [] [] (.node [] [] .nil .nil) .nil)) (.node [] [] .nil .nil)))) good mixed Tryz.func208 (by kernel_rfl) (by kernel_rfl) (by kernel_rfl) (by kernel_rfl) (Eq.mp (S208_eq v0 K w) h)

def S210 (v0:Value) (K:Cont) (w:World):Prop:=
 newK 107 [(.int .u8 0),(.int .i64 0),(.int .u64 0),(.string (ByteArray.mk #[]))] (fun t2 w1=>
 slenK v0 fun t7=>
 gtK .i64 t7 (.int .i64 64) fun t8=>
 condK t8
 (buildK [(0,1),(1,1),(2,1),(3,1)] [(.int .u8 0),(.int .i64 0),(.int .u64 0),(.string (ByteArray.mk #[]))] [] fun t9=>
 stnK 4 t2 t9 (fun w2=>
 ldnK 4 t2 (fun r0 w3=>
 K (.tuple #[r0,(.int .i64 3)]) w3) w2) w1)
 (runK Tryz.prog (convert 9 70 v0) (fun t12 w4=>
 callK Tryz.prog 114 [t12] (fun t13 w5=>
 extK 0 t13 fun _t14=>
 extK 1 t13 fun t15=>
 neK .i64 t15 (.int .i64 0) fun t17=>
 condK t17
 (buildK [(0,1),(1,1),(2,1),(3,1)] [(.int .u8 0),(.int .i64 0),(.int .u64 0),(.string (ByteArray.mk #[]))] [] fun t18=>
 stnK 4 t2 t18 (fun w6=>
 ldnK 4 t2 (fun r0_1 w7=>
 K (.tuple #[r0_1,t15]) w7) w6) w5)
 (buildK [(0,1),(1,1),(2,1),(3,1)] [(.int .u8 0),(.int .i64 0),(.int .u64 0),(.string (ByteArray.mk #[]))] [(0,(.int .u8 4)),(3,v0)] fun t21=>
 stnK 4 t2 t21 (fun w8=>
 ldnK 4 t2 (fun r0_2 w9=>
 K (.tuple #[r0_2,(.int .i64 0)]) w9) w8) w5)) w4) w1)) w
theorem S210_eq (v0:Value) (K:Cont) (w:World):S210 v0 K w=D Tryz.prog okf 22 (bodyOf Tryz.f210) (.node [] [] .nil (.node [] [] (.node [] [] .nil (.node [] [] (.node [] [] .nil .nil) .nil)) (.node [] [] (.node [] [] .nil (.node [] [] .nil (.node [] [] (.node [] [] .nil .nil) .nil))) (.node [] [] .nil .nil)))) (retK Tryz.prog [.cell 2 107,.tmp 3] K) (nth [v0]) w:=by kernel_rfl
theorem S210_ok {v0:Value} {K:Cont} {w:World} (h:S210 v0 K w):callK Tryz.prog 210 [v0] K w:=
 callK_of (P:=Tryz.prog) (ok:=okf) (n:=22) (fn:=Tryz.f210) (c:=bodyOf Tryz.f210) (rs:=[.cell 2 107,.tmp 3]) (an:=(.node [] [] .nil (.node [] [] (.node [] [] .nil (.node [] [] (.node [] [] .nil .nil) .nil)) (.node [] [] (.node [] [] .nil (.node [] [] .nil (.node [] [] (.node [] [] .nil .nil) .nil))) (.node [] [] .nil .nil))))) good mixed Tryz.func210 (by kernel_rfl) (by kernel_rfl) (by kernel_rfl) (by kernel_rfl) (Eq.mp (S210_eq v0 K w) h)

def S216 (v0:Value) (K:Cont) (w:World):Prop:=
 runK Tryz.prog (binS .neq 254 (.tmp 3) (.tmp 4) v0 v0) (fun t5 w1=>
 K t5 w1) w
theorem S216_eq (v0:Value) (K:Cont) (w:World):S216 v0 K w=D Tryz.prog okf 6 (bodyOf Tryz.f216) (.node [] [] .nil (.node [] [] .nil .nil)) (retK Tryz.prog [.tmp 2] K) (nth [v0]) w:=by kernel_rfl
theorem S216_ok {v0:Value} {K:Cont} {w:World} (h:S216 v0 K w):callK Tryz.prog 216 [v0] K w:=
 callK_of (P:=Tryz.prog) (ok:=okf) (n:=6) (fn:=Tryz.f216) (c:=bodyOf Tryz.f216) (rs:=[.tmp 2]) (an:=(.node [] [] .nil (.node [] [] .nil .nil))) good mixed Tryz.func216 (by kernel_rfl) (by kernel_rfl) (by kernel_rfl) (by kernel_rfl) (Eq.mp (S216_eq v0 K w) h)

def S114 (v0:Value) (K:Cont) (w:World):Prop:=
 callK Tryz.prog 174 [v0] (fun t8 w1=>
 notK t8 fun t9=>
 condK t9
 (K (.tuple #[(.slice none 0 0),(.int .i64 3)]) w1)
 (runK Tryz.prog (convert 70 9 v0) (fun t11 w2=>
 runK Tryz.prog (Instr.range 9 t11) (fun t12 w3=>
 LoopK [(.slice none 0 0)] (fun vs again w4=>∀ _h:Env,
 runK Tryz.prog (Instr.next t12 true 0) (fun t13 w5=>
 extK 0 t13 fun t14=>
 condK t14
 (extK 2 t13 fun t15=>
 rowK 21 1 1 [(.int .i32 0)] [(0,t15)] (fun t18 w6=>
 runK Tryz.prog (Builtin.append_ #[35,35] 35 [(nth vs 0),t18].toArray) (fun t19 w7=>
 again [t19] w7) w6) w5)
 (K (.tuple #[(nth vs 0),(.int .i64 0)]) w5)) w4) w3) w2) w1)) w
theorem S114_eq (v0:Value) (K:Cont) (w:World):S114 v0 K w=D Tryz.prog okf 21 (bodyOf Tryz.f114) (.node [] [] .nil (.node [] [] (.node [] [] .nil (.node [] [] (.node [] [] .nil .nil) .nil)) (.node [] [] .nil (.node [] [] (.node [] [] .nil (.node [4] [(4,4),(6,6),(13,19)] (.node [] [] .nil (.node [] [] (.node [] [] .nil .nil) (.node [] [] .nil .nil))) .nil)) (.node [] [] .nil .nil))))) (retK Tryz.prog [.tmp 2,.tmp 3] K) (nth [v0]) w:=by kernel_rfl
theorem S114_ok {v0:Value} {K:Cont} {w:World} (h:S114 v0 K w):callK Tryz.prog 114 [v0] K w:=
 callK_of (P:=Tryz.prog) (ok:=okf) (n:=21) (fn:=Tryz.f114) (c:=bodyOf Tryz.f114) (rs:=[.tmp 2,.tmp 3]) (an:=(.node [] [] .nil (.node [] [] (.node [] [] .nil (.node [] [] (.node [] [] .nil .nil) .nil)) (.node [] [] .nil (.node [] [] (.node [] [] .nil (.node [4] [(4,4),(6,6),(13,19)] (.node [] [] .nil (.node [] [] (.node [] [] .nil .nil) (.node [] [] .nil .nil))) .nil)) (.node [] [] .nil .nil)))))) good mixed Tryz.func114 (by kernel_rfl) (by kernel_rfl) (by kernel_rfl) (by kernel_rfl) (Eq.mp (S114_eq v0 K w) h)

def S174 (v0:Value) (K:Cont) (w:World):Prop:=
 lenK v0 fun t9=>
 lenK v0 fun t11=>
 runK Tryz.prog (Instr.sliceAt 70 v0 none (some t9) (some t11)) (fun t12 w1=>
 LoopK [t12] (fun vs again w2=>∀ _h:Env,
 lenK (nth vs 0) fun t14=>
 gtK .i64 t14 (.int .i64 0) fun t15=>
 condK t15
 (ixK 1 (nth vs 0) (.int .i64 0) fun t17=>
 ld1K t17 (fun t18 w3=>
 ltK .u8 t18 (.int .u8 128) fun t20=>
 condK t20
 (runK Tryz.prog (Instr.sliceAt 70 (nth vs 0) (some (.int .i64 1)) none none) (fun t22 w4=>
 JoinK (fun vs_1 w5=>∀ _h_1:Env,
 condK (nth vs_1 0)
 (runK Tryz.prog (Instr.sliceAt 70 t22 (some (.int .i64 8)) none none) (fun t33 w6=>
 JoinK (fun vs_2 w7=>∀ _h_2:Env,
 condK (nth vs_2 0)
 (runK Tryz.prog (Instr.sliceAt 70 t33 (some (.int .i64 16)) none none) (fun t48 w8=>
 LoopK [t48] (fun vs_3 again_1 w9=>∀ _h_3:Env,
 DrawK w9 (fun C=>
 lenK (nth vs_3 0) fun t50=>
 gtK .i64 t50 (.int .i64 32) fun t51=>
 condK t51
 (qcallK Tryz.prog C 200 [(nth vs_3 0)] fun t54=>
 qrunK Tryz.prog C (Instr.sliceAt 70 (nth vs_3 0) (some (.int .i64 8)) none none) fun t56=>
 qcallK Tryz.prog C 200 [t56] fun t57=>
 qrunK Tryz.prog C (binS .or 12 (.tmp 54) (.tmp 57) t54 t57) fun t58=>
 qrunK Tryz.prog C (Instr.sliceAt 70 (nth vs_3 0) (some (.int .i64 16)) none none) fun t60=>
 qcallK Tryz.prog C 200 [t60] fun t61=>
 qrunK Tryz.prog C (Instr.sliceAt 70 (nth vs_3 0) (some (.int .i64 24)) none none) fun t63=>
 qcallK Tryz.prog C 200 [t63] fun t64=>
 qrunK Tryz.prog C (binS .or 12 (.tmp 61) (.tmp 64) t61 t64) fun t65=>
 qrunK Tryz.prog C (binS .or 12 (.tmp 58) (.tmp 65) t58 t65) fun t66=>
 qrunK Tryz.prog C (binS .and 12 (.tmp 66) (.const (.int .u64 9259542123273814144)) t66 (.int .u64 9259542123273814144)) fun t67=>
 eqK .u64 t67 (.int .u64 0) fun t68=>
 ∀ w10:World,C w10→
 condK t68
 (runK Tryz.prog (Instr.sliceAt 70 (nth vs_3 0) (some (.int .i64 32)) none none) (fun t71 w11=>
 again_1 [t71] w11) w10)
 (again [(nth vs_3 0)] w10))
 (∀ w12:World,C w12→
 again [(nth vs_3 0)] w12))) w8) w7)
 (again [t33] w7)) (fun J_1=>
 DrawK w6 (fun C_1=>
 lenK t33 fun t35=>
 gtK .i64 t35 (.int .i64 16) fun t36=>
 condK t36
 (qcallK Tryz.prog C_1 200 [t33] fun t39=>
 qrunK Tryz.prog C_1 (Instr.sliceAt 70 t33 (some (.int .i64 8)) none none) fun t41=>
 qcallK Tryz.prog C_1 200 [t41] fun t42=>
 qrunK Tryz.prog C_1 (binS .or 12 (.tmp 39) (.tmp 42) t39 t42) fun t43=>
 qrunK Tryz.prog C_1 (binS .and 12 (.tmp 43) (.const (.int .u64 9259542123273814144)) t43 (.int .u64 9259542123273814144)) fun t44=>
 eqK .u64 t44 (.int .u64 0) fun t45=>
 ∀ w14:World,C_1 w14→
 J_1 [t45] w14)
 (∀ w15:World,C_1 w15→
 J_1 [(.bool false)] w15)))) w5)
 (again [t22] w5)) (fun J=>
 lenK t22 fun t24=>
 gtK .i64 t24 (.int .i64 8) fun t25=>
 condK t25
 (callK Tryz.prog 200 [t22] (fun t28 w16=>
 runK Tryz.prog (binS .and 12 (.tmp 28) (.const (.int .u64 9259542123273814144)) t28 (.int .u64 9259542123273814144)) (fun t29 w17=>
 eqK .u64 t29 (.int .u64 0) fun t30=>
 J [t30] w17) w16) w4)
 (J [(.bool false)] w4))) w3)
 (runK Tryz.prog (Instr.indexAt 242 (.pointer (some ⟨0,0,none⟩)) t18) (fun t73 w18=>
 ld1K t73 (fun t74 w19=>
 runK Tryz.prog (binS .and 5 (.tmp 75) (.const (.int .u8 7)) t74 (.int .u8 7)) (fun t76 w20=>
 runK Tryz.prog (convert 5 3 t76) (fun t77 w21=>
 runK Tryz.prog (binS .shr 5 (.tmp 78) (.const (.int .u64 4)) t74 (.int .u64 4)) (fun t79 w22=>
 runK Tryz.prog (Instr.indexAt 245 (.pointer (some ⟨1,0,none⟩)) t79) (fun t80 w23=>
 ldnK 2 t80 (fun t81 w24=>
 newK 244 [(.int .u8 0),(.int .u8 0)] (fun t6 w25=>
 stnK 2 t6 t81 (fun w26=>
 eqK .i64 t77 (.int .i64 2) fun t84=>
 condK t84
 (JoinK (fun _vs_4 w27=>∀ _h_4:Env,
 runK Tryz.prog (Instr.sliceAt 70 (nth vs 0) (some (.int .i64 2)) none none) (fun t105 w28=>
 again [t105] w28) w27) (fun J_2=>
 DrawK w26 (fun C_2=>
 lenK (nth vs 0) fun t86=>
 ltK .i64 t86 (.int .i64 2) fun t87=>
 condK t87
 (∀ w29:World,C_2 w29→
 K (.bool false) w29)
 (ixK 1 (nth vs 0) (.int .i64 1) fun t90=>
 qld1K C_2 t90 fun t91=>
 faK 0 t6 fun t92=>
 qld1K C_2 t92 fun t93=>
 ltK .u8 t91 t93 fun t94=>
 condK t94
 (∀ w30:World,C_2 w30→
 K (.bool false) w30)
 (faK 1 t6 fun t97=>
 qld1K C_2 t97 fun t98=>
 ixK 1 (nth vs 0) (.int .i64 1) fun t100=>
 qld1K C_2 t100 fun t101=>
 ltK .u8 t98 t101 fun t102=>
 ∀ w31:World,C_2 w31→
 condK t102
 (K (.bool false) w31)
 (J_2 [] w31))))))
 (eqK .i64 t77 (.int .i64 3) fun t107=>
 condK t107
 (JoinK (fun _vs_5 w32=>∀ _h_5:Env,
 runK Tryz.prog (Instr.sliceAt 70 (nth vs 0) (some (.int .i64 3)) none none) (fun t140 w33=>
 again [t140] w33) w32) (fun J_3=>
 DrawK w26 (fun C_3=>
 lenK (nth vs 0) fun t109=>
 ltK .i64 t109 (.int .i64 3) fun t110=>
 condK t110
 (∀ w34:World,C_3 w34→
 K (.bool false) w34)
 (ixK 1 (nth vs 0) (.int .i64 1) fun t113=>
 qld1K C_3 t113 fun t114=>
 faK 0 t6 fun t115=>
 qld1K C_3 t115 fun t116=>
 ltK .u8 t114 t116 fun t117=>
 condK t117
 (∀ w35:World,C_3 w35→
 K (.bool false) w35)
 (faK 1 t6 fun t120=>
 qld1K C_3 t120 fun t121=>
 ixK 1 (nth vs 0) (.int .i64 1) fun t123=>
 qld1K C_3 t123 fun t124=>
 ltK .u8 t121 t124 fun t125=>
 condK t125
 (∀ w36:World,C_3 w36→
 K (.bool false) w36)
 (ixK 1 (nth vs 0) (.int .i64 2) fun t129=>
 qld1K C_3 t129 fun t130=>
 ltK .u8 t130 (.int .u8 128) fun t131=>
 condK t131
 (∀ w37:World,C_3 w37→
 K (.bool false) w37)
 (ixK 1 (nth vs 0) (.int .i64 2) fun t135=>
 qld1K C_3 t135 fun t136=>
 ltK .u8 (.int .u8 191) t136 fun t137=>
 ∀ w38:World,C_3 w38→
 condK t137
 (K (.bool false) w38)
 (J_3 [] w38))))))))
 (eqK .i64 t77 (.int .i64 4) fun t142=>
 condK t142
 (JoinK (fun _vs_6 w39=>∀ _h_6:Env,
 runK Tryz.prog (Instr.sliceAt 70 (nth vs 0) (some (.int .i64 4)) none none) (fun t187 w40=>
 again [t187] w40) w39) (fun J_4=>
 DrawK w26 (fun C_4=>
 lenK (nth vs 0) fun t144=>
 ltK .i64 t144 (.int .i64 4) fun t145=>
 condK t145
 (∀ w41:World,C_4 w41→
 K (.bool false) w41)
 (ixK 1 (nth vs 0) (.int .i64 1) fun t148=>
 qld1K C_4 t148 fun t149=>
 faK 0 t6 fun t150=>
 qld1K C_4 t150 fun t151=>
 ltK .u8 t149 t151 fun t152=>
 condK t152
 (∀ w42:World,C_4 w42→
 K (.bool false) w42)
 (faK 1 t6 fun t155=>
 qld1K C_4 t155 fun t156=>
 ixK 1 (nth vs 0) (.int .i64 1) fun t158=>
 qld1K C_4 t158 fun t159=>
 ltK .u8 t156 t159 fun t160=>
 condK t160
 (∀ w43:World,C_4 w43→
 K (.bool false) w43)
 (ixK 1 (nth vs 0) (.int .i64 2) fun t164=>
 qld1K C_4 t164 fun t165=>
 ltK .u8 t165 (.int .u8 128) fun t166=>
 condK t166
 (∀ w44:World,C_4 w44→
 K (.bool false) w44)
 (ixK 1 (nth vs 0) (.int .i64 2) fun t170=>
 qld1K C_4 t170 fun t171=>
 ltK .u8 (.int .u8 191) t171 fun t172=>
 condK t172
 (∀ w45:World,C_4 w45→
 K (.bool false) w45)
 (ixK 1 (nth vs 0) (.int .i64 3) fun t176=>
 qld1K C_4 t176 fun t177=>
 ltK .u8 t177 (.int .u8 128) fun t178=>
 condK t178
 (∀ w46:World,C_4 w46→
 K (.bool false) w46)
 (ixK 1 (nth vs 0) (.int .i64 3) fun t182=>
 qld1K C_4 t182 fun t183=>
 ltK .u8 (.int .u8 191) t183 fun t184=>
 ∀ w47:World,C_4 w47→
 condK t184
 (K (.bool false) w47)
 (J_4 [] w47))))))))))
 (K (.bool false) w26)))) w25) w24) w23) w22) w21) w20) w19) w18) w3)) w2)
 (K (.bool true) w2)) w1) w
theorem S174_eq (v0:Value) (K:Cont) (w:World):S174 v0 K w=D Tryz.prog okf 188 (bodyOf Tryz.f174) (.node [] [] .nil (.node [] [] .nil (.node [] [] (.node [0] [(0,0),(2,6),(13,187)] (.node [] [] (.node [] [] .nil (.node [] [] .nil .nil)) (.node [] [] .nil (.node [] [] (.node [] [] .nil (.node [] [] (.node [] [] .nil (.node [] [] (.cut [31] [(23,31)] .nil (.node [] [] (.node [] [] .nil (.cut [46] [(34,46)] .draw (.node [] [] (.node [] [] .nil (.node [0] [(0,0),(49,71)] (.node [] [] (.node [] [] .draw (.node [] [] .nil .nil)) .nil) .nil)) .nil))) .nil)) .nil)) .nil)) (.node [] [] .nil (.node [] [] .nil (.node [] [] .nil (.node [] [] .nil (.node [] [] .nil (.node [] [] (.cut [] [(2,2),(85,103)] (.node [] [] .draw (.node [] [] (.node [] [] .nil .nil) .nil)) .nil) (.node [] [] .nil (.node [] [] (.cut [] [(2,2),(108,138)] (.node [] [] .draw (.node [] [] (.node [] [] .nil .nil) .nil)) .nil) (.node [] [] .nil (.node [] [] (.cut [] [(2,2),(143,185)] (.node [] [] .draw (.node [] [] (.node [] [] .nil .nil) .nil)) .nil) (.node [] [] .nil .nil)))))))))))))) .nil) (.node [] [] .nil .nil)))) (retK Tryz.prog [.tmp 2] K) (nth [v0]) w:=by kernel_rfl
theorem S174_ok {v0:Value} {K:Cont} {w:World} (h:S174 v0 K w):callK Tryz.prog 174 [v0] K w:=
 callK_of (P:=Tryz.prog) (ok:=okf) (n:=188) (fn:=Tryz.f174) (c:=bodyOf Tryz.f174) (rs:=[.tmp 2]) (an:=(.node [] [] .nil (.node [] [] .nil (.node [] [] (.node [0] [(0,0),(2,6),(13,187)] (.node [] [] (.node [] [] .nil (.node [] [] .nil .nil)) (.node [] [] .nil (.node [] [] (.node [] [] .nil (.node [] [] (.node [] [] .nil (.node [] [] (.cut [31] [(23,31)] .nil (.node [] [] (.node [] [] .nil (.cut [46] [(34,46)] .draw (.node [] [] (.node [] [] .nil (.node [0] [(0,0),(49,71)] (.node [] [] (.node [] [] .draw (.node [] [] .nil .nil)) .nil) .nil)) .nil))) .nil)) .nil)) .nil)) (.node [] [] .nil (.node [] [] .nil (.node [] [] .nil (.node [] [] .nil (.node [] [] .nil (.node [] [] (.cut [] [(2,2),(85,103)] (.node [] [] .draw (.node [] [] (.node [] [] .nil .nil) .nil)) .nil) (.node [] [] .nil (.node [] [] (.cut [] [(2,2),(108,138)] (.node [] [] .draw (.node [] [] (.node [] [] .nil .nil) .nil)) .nil) (.node [] [] .nil (.node [] [] (.cut [] [(2,2),(143,185)] (.node [] [] .draw (.node [] [] (.node [] [] .nil .nil) .nil)) .nil) (.node [] [] .nil .nil)))))))))))))) .nil) (.node [] [] .nil .nil))))) good mixed Tryz.func174 (by kernel_rfl) (by kernel_rfl) (by kernel_rfl) (by kernel_rfl) (Eq.mp (S174_eq v0 K w) h)

def S200 (v0:Value) (K:Cont) (w:World):Prop:=
 DrawK w (fun C_1=>
 ixK 1 v0 (.int .i64 0) fun t26=>
 qld1K C_1 t26 fun t27=>
 qrunK Tryz.prog C_1 (convert 5 34 t27) fun t28=>
 ixK 1 v0 (.int .i64 1) fun t30=>
 qld1K C_1 t30 fun t31=>
 qrunK Tryz.prog C_1 (convert 5 34 t31) fun t32=>
 qrunK Tryz.prog C_1 (binS .shl 34 (.tmp 32) (.const (.int .u64 8)) t32 (.int .u64 8)) fun t33=>
 qrunK Tryz.prog C_1 (binS .or 34 (.tmp 28) (.tmp 33) t28 t33) fun t34=>
 ixK 1 v0 (.int .i64 2) fun t36=>
 qld1K C_1 t36 fun t37=>
 qrunK Tryz.prog C_1 (convert 5 34 t37) fun t38=>
 qrunK Tryz.prog C_1 (binS .shl 34 (.tmp 38) (.const (.int .u64 16)) t38 (.int .u64 16)) fun t39=>
 qrunK Tryz.prog C_1 (binS .or 34 (.tmp 34) (.tmp 39) t34 t39) fun t40=>
 ixK 1 v0 (.int .i64 3) fun t42=>
 qld1K C_1 t42 fun t43=>
 qrunK Tryz.prog C_1 (convert 5 34 t43) fun t44=>
 qrunK Tryz.prog C_1 (binS .shl 34 (.tmp 44) (.const (.int .u64 24)) t44 (.int .u64 24)) fun t45=>
 qrunK Tryz.prog C_1 (binS .or 34 (.tmp 40) (.tmp 45) t40 t45) fun t46=>
 ixK 1 v0 (.int .i64 4) fun t48=>
 qld1K C_1 t48 fun t49=>
 qrunK Tryz.prog C_1 (convert 5 34 t49) fun t50=>
 qrunK Tryz.prog C_1 (binS .shl 34 (.tmp 50) (.const (.int .u64 32)) t50 (.int .u64 32)) fun t51=>
 qrunK Tryz.prog C_1 (binS .or 34 (.tmp 46) (.tmp 51) t46 t51) fun t52=>
 ixK 1 v0 (.int .i64 5) fun t54=>
 qld1K C_1 t54 fun t55=>
 qrunK Tryz.prog C_1 (convert 5 34 t55) fun t56=>
 qrunK Tryz.prog C_1 (binS .shl 34 (.tmp 56) (.const (.int .u64 40)) t56 (.int .u64 40)) fun t57=>
 qrunK Tryz.prog C_1 (binS .or 34 (.tmp 52) (.tmp 57) t52 t57) fun t58=>
 ixK 1 v0 (.int .i64 6) fun t60=>
 qld1K C_1 t60 fun t61=>
 qrunK Tryz.prog C_1 (convert 5 34 t61) fun t62=>
 qrunK Tryz.prog C_1 (binS .shl 34 (.tmp 62) (.const (.int .u64 48)) t62 (.int .u64 48)) fun t63=>
 qrunK Tryz.prog C_1 (binS .or 34 (.tmp 58) (.tmp 63) t58 t63) fun t64=>
 ixK 1 v0 (.int .i64 7) fun t66=>
 qld1K C_1 t66 fun t67=>
 qrunK Tryz.prog C_1 (convert 5 34 t67) fun t68=>
 qrunK Tryz.prog C_1 (binS .shl 34 (.tmp 68) (.const (.int .u64 56)) t68 (.int .u64 56)) fun t69=>
 qrunK Tryz.prog C_1 (binS .or 34 (.tmp 64) (.tmp 69) t64 t69) fun t70=>
 ∀ w2:World,C_1 w2→
 K t70 w2)
theorem S200_eq (v0:Value) (K:Cont) (w:World):S200 v0 K w=D Tryz.prog okf 71 (bodyOf Tryz.f200) (.node [] [] .nil (.node [] [] (.node [] [] (.node [] [] .draw .nil) .nil) (.node [] [] .draw .nil))) (retK Tryz.prog [.tmp 2] K) (nth [v0]) w:=by kernel_rfl
theorem S200_ok {v0:Value} {K:Cont} {w:World} (h:S200 v0 K w):callK Tryz.prog 200 [v0] K w:=
 callK_of (P:=Tryz.prog) (ok:=okf) (n:=71) (fn:=Tryz.f200) (c:=bodyOf Tryz.f200) (rs:=[.tmp 2]) (an:=(.node [] [] .nil (.node [] [] (.node [] [] (.node [] [] .draw .nil) .nil) (.node [] [] .draw .nil)))) good mixed Tryz.func200 (by kernel_rfl) (by kernel_rfl) (by kernel_rfl) (by kernel_rfl) (Eq.mp (S200_eq v0 K w) h)

end Go.Proofs.YtlbaopamhkmepaaGreatDoor

namespace Go.K
open Go
theorem slice_lo_run {P:Program} {t e k:Nat} {i:TypeInfo} {a:Option Addr} {n c j:Nat} (ht:P.underlying t=some (.slice e)) (hi:P.info? e=some i) (hk:i.size=k) (hj:j≤n) (w:World):(Instr.sliceAt t (.slice a n c) (some (.int .i64 j)) none none).run P w=.ok (sliced a j n c k) w:=by
 have hel:P.elem t=e:=by simp [Program.elem,ht]
 rw [run_sliceAt_slice _ _ _ _ _ _ (by rw [hel];exact ht),run_slice_l _ _ _ _ _ (by rw [hel];exact ht) _ _ (by omega) (by omega),hel]
 simp [sizeOf,typeInfo,hi,hk]
theorem slice_lo_sl {α:Type} {k:Nat} {R:World→List Value→α→Prop} {S:Nat→Prop} {w:World} {a:Option Addr} {n c:Nat} {l:List α} {j:Nat} (h:SlR S k R w (.slice a n c) l) (hj:j≤l.length):SlR S k R w (sliced a j n c k) (l.drop j):=by
 obtain ⟨a',c',e1,h1,h2,h3⟩:=h
 cases e1
 unfold sliced
 refine ⟨_,_,by rw [List.length_drop],by rw [List.length_drop];omega,by omega,fun q x hx=>?_⟩
 rw [List.getElem?_drop] at hx
 obtain ⟨p,r,rfl,hS,hr,hc,hR⟩:=h3 _ x hx
 have hlt:=(List.getElem?_eq_some_iff.1 hx).1
 rw [if_neg (by omega)]
 refine ⟨p.add (j * k),r,rfl,by rw [add_block];exact hS,hr,fun m u hu=>?_,hR⟩
 rw [Addr.add_add,←Nat.add_assoc,←Nat.add_mul]
 exact hc m u hu
theorem slice_all_run {P:Program} {t e k:Nat} {i:TypeInfo} {a:Option Addr} {n c:Nat} (ht:P.underlying t=some (.slice e)) (hi:P.info? e=some i) (hk:i.size=k) (hc:n≤c) (w:World):∃ a',(Instr.sliceAt t (.slice a n c) none (some (.int .i64 n)) (some (.int .i64 n))).run P w=.ok (.slice a' n n) w∧(0 < n→a'=a):=by
 have hel:P.elem t=e:=by simp [Program.elem,ht]
 refine ⟨if n=0 then a else a.map (·.add (0 * k)),?_,fun h=>?_⟩
 ·rw [run_sliceAt_slice _ _ _ _ _ _ (by rw [hel];exact ht)]
  simp [Instr.slice,run_underlying ht,Instr.sliceBounds,run_sliceBound,hc,sizeOf,typeInfo,hi,hk,Result.andThen]
 ·rw [if_neg (by omega)]
  cases a with
  | none=>rfl
  | some a=>simp [Addr.add]
theorem run_indexAt_arr {P:Program} {t e n s:Nat} {i:TypeInfo} {k:IntKind} {a:Addr} {j:Int} {w:World} (ht:P.underlying t=some (.array n e)) (hi:P.info? e=some i) (hs:i.size=s) (h0:0≤j) (h1:j < n):(Instr.indexAt t (.pointer (some a)) (.int k j)).run P w=.ok (.pointer (some (a.add (j.toNat * s)))) w:=by
 simp [Instr.indexAt,Instr.sureAddr,run_underlying ht,asIntOf,sizeOf,typeInfo,hi,hs,h0,h1,Result.andThen]
theorem run_conv {P:Program} {s d:TypeId} {q k:IntKind} {n:Int} (w:World) (hs:(P.underlying s).isSome=true) (hd:P.underlying d=some (.int k)):(convert s d (.int q n)).run P w=.ok (.int k (k.wrap n)) w:=by
 obtain ⟨e,he⟩:=Option.isSome_iff_exists.mp hs
 simp [convert,run_underlying he,run_underlying hd,Conv.intToInt]
theorem run_shl {P:Program} {t:TypeId} {xo yo:Operand} {k q:IntKind} {a:Int} {n:Nat} (w:World) (hn:n≤k.bits):(binS .shl t xo yo (.int k a) (.int q n)).run P w=.ok (.int k (k.wrap (a * 2 ^ n))) w:=by
 have h0:¬ ((n:Int) < 0):=by omega
 simp [binS,eqGuard,binOp,Op.shift,Nat.min_eq_left hn,h0]
theorem run_shr {P:Program} {t:TypeId} {xo yo:Operand} {k q:IntKind} {a:Int} {n:Nat} (w:World) (hn:n≤k.bits):(binS .shr t xo yo (.int k a) (.int q n)).run P w=.ok (.int k (a.fdiv (2 ^ n))) w:=by
 have h0:¬ ((n:Int) < 0):=by omega
 simp [binS,eqGuard,binOp,Op.shift,Nat.min_eq_left hn,h0]
theorem run_bits {P:Program} {t:TypeId} {xo yo:Operand} {k:IntKind} {a b:Int} (w:World):(binS .or t xo yo (.int k a) (.int k b)).run P w=.ok (.int k (k.wrap (BitVec.ofInt k.bits a ||| BitVec.ofInt k.bits b).toNat)) w∧(binS .and t xo yo (.int k a) (.int k b)).run P w=.ok (.int k (k.wrap (BitVec.ofInt k.bits a &&& BitVec.ofInt k.bits b).toNat)) w:=by
 constructor <;> simp [binS,eqGuard,binOp,Op.intBits]
end Go.K
namespace Go.Proofs.YtlbaopamhkmepaaGreatDoor
open Go Go.K

theorem run_or64 {t:TypeId} {xo yo:Operand} {a b:Int} (w:World) (ha:U64 a) (hb:U64 b):(binS .or t xo yo (.int .u64 a) (.int .u64 b)).run Tryz.prog w=.ok (.int .u64 (orN a b)) w:=by
 rw [(run_bits w).1]
 have e:((BitVec.ofInt IntKind.u64.bits a ||| BitVec.ofInt IntKind.u64.bits b).toNat:Int)=orN a b:=bv_or ha hb
 rw [e,wrapu64 (orN_U ha hb)]
theorem run_and64 {t:TypeId} {xo yo:Operand} {a b:Int} (w:World) (ha:U64 a) (hb:U64 b):(binS .and t xo yo (.int .u64 a) (.int .u64 b)).run Tryz.prog w=.ok (.int .u64 ((a.toNat &&& b.toNat:Nat):Int)) w:=by
 rw [(run_bits w).2]
 have e:((BitVec.ofInt IntKind.u64.bits a &&& BitVec.ofInt IntKind.u64.bits b).toNat:Int)=((a.toNat &&& b.toNat:Nat):Int):=bv_and ha hb
 rw [e,wrapu64 ⟨by omega,?_⟩]
 have:=Nat.and_le_left (n:=a.toNat) (m:=b.toNat)
 have:=ha.2
 have:=ha.1
 omega
def shB (x:Int) (j:Nat):Int:=x * 2 ^ (8 * j)
def wordN (b:List Int):Int:=orN (orN (orN (orN (orN (orN (orN (b.getD 0 0) (shB (b.getD 1 0) 1)) (shB (b.getD 2 0) 2)) (shB (b.getD 3 0) 3)) (shB (b.getD 4 0) 4)) (shB (b.getD 5 0) 5)) (shB (b.getD 6 0) 6)) (shB (b.getD 7 0) 7)
abbrev ByteL (b:List Int):Prop:=∀ x ∈ b,0≤x∧x < 256
theorem ByteL.getD {b:List Int} (h:ByteL b) (j:Nat):0≤b.getD j 0∧b.getD j 0 < 256:=by
 rw [List.getD_eq_getElem?_getD]
 cases e:b[j]? with
 | none=>simp
 | some x=>exact h x (List.mem_iff_getElem?.2 ⟨j,e⟩)
theorem ByteL.drop {b:List Int} (h:ByteL b) (j:Nat):ByteL (b.drop j):=fun x hx=>h x (List.mem_of_mem_drop hx)
theorem byte_U {x:Int} (h:0≤x∧x < 256):U64 x:=⟨h.1,by omega⟩
theorem wordN_U {b:List Int} (h:ByteL b):U64 (wordN b):=by
 have u:∀ j,j < 8→U64 (shB (b.getD j 0) j):=fun j hj=>hib_u hj (h.getD j).1 (h.getD j).2
 unfold wordN
 exact orN_U (orN_U (orN_U (orN_U (orN_U (orN_U (orN_U (byte_U (h.getD 0)) (u 1 (by decide))) (u 2 (by decide))) (u 3 (by decide))) (u 4 (by decide))) (u 5 (by decide))) (u 6 (by decide))) (u 7 (by decide))
theorem wordN_hi {b:List Int} (h:ByteL b) {j:Nat} (hj:j < 8) (hx:128≤b.getD j 0):HiB (wordN b) j:=by
 have hh:=(hib_byte hj hx (h.getD j).2).2
 unfold wordN
 rcases (show j=0∨j=1∨j=2∨j=3∨j=4∨j=5∨j=6∨j=7 by omega) with rfl | rfl | rfl | rfl | rfl | rfl | rfl | rfl
 ·rw [show b.getD 0 0 * 2 ^ (8 * 0)=b.getD 0 0 by omega] at hh
  exact .l (.l (.l (.l (.l (.l (.l hh))))))
 ·exact .l (.l (.l (.l (.l (.l (.r hh))))))
 ·exact .l (.l (.l (.l (.l (.r hh)))))
 ·exact .l (.l (.l (.l (.r hh))))
 ·exact .l (.l (.l (.r hh)))
 ·exact .l (.l (.r hh))
 ·exact .l (.r hh)
 ·exact .r hh
theorem word_step {C:World→Prop} {p:Addr} {n c:Nat} {b:Int} {j:Nat} {m:Int} {xo yo:Operand} {k:Value→Prop} (hj:j < n) (hm:m=8 * j) (hj8:j < 8) (hb:0≤b∧b < 256) (hc:∀ w,C w→w.cell? (p.add (j * 1))=some (.int .u8 b)) (hk:k (.int .u64 (shB b j))) :
  ixK 1 (.slice (some p) n c) (.int .i64 j) fun t30=>qld1K C t30 fun t31=>qrunK Tryz.prog C (convert 5 34 t31) fun t32=>qrunK Tryz.prog C (binS .shl 34 xo yo t32 (.int .u64 m)) k:=by
 refine ixK_n hj (qld1K_i hc ⟨.int .u64 (IntKind.u64.wrap b),fun w _=>run_conv (k:=.u64) w (by kernel_rfl) (by kernel_rfl),?_⟩)
 rw [wrapu64 (byte_U hb)]
 subst hm
 refine ⟨_,fun w _=>?_,hk⟩
 have e:=run_shl (P:=Tryz.prog) (t:=34) (xo:=xo) (yo:=yo) (k:=.u64) (q:=.u64) (a:=b) (n:=8 * j) w (by show 8 * j≤64;omega)
 rw [wrapu64 (hib_u hj8 hb.1 hb.2)] at e
 have e2:((8 * j:Nat):Int)=8 * (j:Int):=by omega
 rw [e2] at e
 exact e
theorem word_ok {S:Nat→Prop} {v:Value} {b:List Int} {w:World} (h:RBytes S w v b) (hb:ByteL b) (hl:8≤b.length) :
  callK Tryz.prog 200 [v] (fun v' w'=>v'=.int .u64 (wordN b)∧Grow w w') w:=by
 apply S200_ok
 unfold S200
 obtain ⟨a,c,rfl,hm⟩:=h.shape
 have cell:∀ j (hj:j < b.length),∃ p,a=some p∧w.cell? (p.add (j * 1))=some (.int .u8 (b.getD j 0)):=by
  intro j hj
  obtain ⟨p,r,rfl,_,hr,hc,rfl⟩:=h.get hj
  refine ⟨p,rfl,?_⟩
  rw [List.getD_eq_getElem?_getD,List.getElem?_eq_getElem hj]
  exact hc 0 _ rfl
 obtain ⟨p,rfl,c0⟩:=cell 0 (by omega)
 have cellp:∀ j,j < b.length→w.cell? (p.add (j * 1))=some (.int .u8 (b.getD j 0)):=fun j hj=>by obtain ⟨p',e,hc⟩:=cell j hj;cases e;exact hc
 refine drawK_i (fun w2=>Grow w w2) (Mod.drew _ _) ?_
 have hc:∀ j,j < b.length→∀ w2,Grow w w2→w2.cell? (p.add (j * 1))=some (.int .u8 (b.getD j 0)):=fun j hj w2 g=>g.cell (cellp j hj) fun h=>h
 have u:∀ j,j < 8→U64 (shB (b.getD j 0) j):=fun j hj=>hib_u hj (hb.getD j).1 (hb.getD j).2
 refine ixK_n (j:=0) (by omega) (qld1K_i (hc 0 (by omega)) ⟨.int .u64 (IntKind.u64.wrap (b.getD 0 0)),fun w _=>run_conv (k:=.u64) w (by kernel_rfl) (by kernel_rfl),?_⟩)
 rw [wrapu64 (byte_U (hb.getD 0))]
 have u0:=byte_U (hb.getD 0)
 refine word_step (j:=1) (by omega) rfl (by decide) (hb.getD 1) (hc 1 (by omega)) ⟨_,fun w _=>run_or64 w u0 (u 1 (by decide)),?_⟩
 have u1:=orN_U u0 (u 1 (by decide))
 refine word_step (j:=2) (by omega) rfl (by decide) (hb.getD 2) (hc 2 (by omega)) ⟨_,fun w _=>run_or64 w u1 (u 2 (by decide)),?_⟩
 have u2:=orN_U u1 (u 2 (by decide))
 refine word_step (j:=3) (by omega) rfl (by decide) (hb.getD 3) (hc 3 (by omega)) ⟨_,fun w _=>run_or64 w u2 (u 3 (by decide)),?_⟩
 have u3:=orN_U u2 (u 3 (by decide))
 refine word_step (j:=4) (by omega) rfl (by decide) (hb.getD 4) (hc 4 (by omega)) ⟨_,fun w _=>run_or64 w u3 (u 4 (by decide)),?_⟩
 have u4:=orN_U u3 (u 4 (by decide))
 refine word_step (j:=5) (by omega) rfl (by decide) (hb.getD 5) (hc 5 (by omega)) ⟨_,fun w _=>run_or64 w u4 (u 5 (by decide)),?_⟩
 have u5:=orN_U u4 (u 5 (by decide))
 refine word_step (j:=6) (by omega) rfl (by decide) (hb.getD 6) (hc 6 (by omega)) ⟨_,fun w _=>run_or64 w u5 (u 6 (by decide)),?_⟩
 have u6:=orN_U u5 (u 6 (by decide))
 refine word_step (j:=7) (by omega) rfl (by decide) (hb.getD 7) (hc 7 (by omega)) ⟨_,fun w _=>run_or64 w u6 (u 7 (by decide)),?_⟩
 exact fun w2 g=>⟨rfl,g⟩
theorem word_ascii {b:List Int} (hb:ByteL b) (h:((wordN b).toNat &&& 9259542123273814144:Nat)=0) {j:Nat} (hj:j < 8):b.getD j 0 < 128:=by
 have:=hib_none h hj
 have hx:¬ 128≤b.getD j 0:=fun hx=>this (wordN_hi hb hj hx)
 omega
end Go.Proofs.YtlbaopamhkmepaaGreatDoor
