/- Contracts of the history: Undo, Redo; the history as the laws use it. Conditions: the sizes. What is known of the history; the law HistoryNone. Conditions: the sizes. Contracts of composing: what a maker is told of both deltas. Conditions: the sizes. By a program of ours: of each function below the predicate that its code comes to, and that it is sound. No conditions. Contracts: the text of a set (intern.text); why a set may not be (attrs.May). Conditions: the sets' numbers lie in their types; of the text: the set may be. Contracts: why a patch, an op, a delta may not be. Conditions: the two tables. Contract of composing two deltas that may be. Conditions: the sizes; the two tables. Contract: the document's composing of deltas that may be. Conditions: the sizes. Contract: the document's composing of deltas that may be. Conditions: the sizes. What is known of the history; the law HistoryNone. No conditions. Contract of composing two deltas that may be. Conditions: the sizes; the two tables. Contracts of the history: Push within a bracket, End. Conditions: the sizes; the two tables. Undo and Redo within a bracket: refused; the law HistoryBrackets. Conditions: the two tables. The law HistoryBack: it answers true, and leaves all memory as it was. No conditions. What is handed in, opened, with how much it holds: sets, patches, runes, ops, keys. No conditions. The opening of the rows that list the two tables: what the condition gives, a world that meets it; what is handed in, opened with its ranges. No conditions. Sets that are handed in, opened with their ranges. No conditions. What is handed in, opened: numbers; deltas with their ranges; scripts of the history. No conditions. -/
import Derived.Test.YtlbaopamhkmepaaGreatDoorZHistoryPlaysUpto6
import Derived.Test.YtlbaopamhkmepaaGreatDoorRows
import Derived.Lib.LaidU8
import Derived.Lib.LaidIn
import Derived.LaidHandle
import Derived.LaidMore
import Derived.MakeChecks
namespace Go.Proofs.YtlbaopamhkmepaaGreatDoor
open Go Go.K
section
variable {F C M:Nat→Prop} {W W':World} {b:Nat} {sv:Value} {ks:List DKey} {h:Hist}
theorem undo_ok (hh:HistI F W b ks h) (hop:h.op=false) (hl1:h.us.length≤65536) (hl2:h.rs.length≤65536) (hF:∀ x,F x→x < W.heap.size) (hb:∀ g ∈ h.us,mDops g.u≤1099511627776) :
  callK Tryz.prog 19 [.pointer (some ⟨b,0,none⟩)] (fun v' w'=>(h.us=[]∧∃ cv,v'=.tuple #[cv,.int .i64 10]∧Grow W w')∨
   ∃ l g cv n,h.us=l++[g]∧v'=.tuple #[cv,.int .i64 0]∧W.heap.size≤n∧ODops n w' cv g.u∧∃ F',(∀ x,F' x→(F x∨W.heap.size≤x)∧x < n)∧HistI F' w' b ks { h with us:=l,rs:=h.rs++[g] }∧n≤w'.heap.size∧Mod F W w') W:=by
 apply S19_ok
 unfold S19
 refine callK_mono (hready_ok hh) ?_
 rintro _ _ ⟨rfl,rfl⟩
 rename World=>W
 obtain ⟨C,sv,uv,rv,ov,hR⟩:=hh
 rw [hop] at hR
 rw [notK_i]
 refine condK_f ?_
 refine JoinK_i (fun vs w2=>(h.us=[]∧∃ b4,vs=[.pointer (some ⟨b4,0,none⟩),.int .i64 10]∧(∀ j v,([.slice none 0 0,.slice none 0 0]:List Value)[j]?=some v→w2.cell? ((⟨b4,0,none⟩:Addr).add j)=some v)∧Grow W w2)∨
  ∃ l g b4 r F' uv' rv',h.us=l++[g]∧vs=[.pointer (some ⟨b4,0,none⟩),.int .i64 0]∧RGrp C w2 r g∧(∀ j v,r[j]?=some v→w2.cell? ((⟨b4,0,none⟩:Addr).add j)=some v)∧(∀ x,F' x→(F x∨W.heap.size≤x)∧x < w2.heap.size)∧HistR F' C w2 b sv ks uv' rv' ov h.max l (h.rs++[g]) false h.own∧Mod F W w2) ?_ ?_
 ·rintro _ w2 (⟨hn,b4,rfl,hc,g2⟩ | ⟨l,g,b4,r,F',uv',rv',hlg,rfl,⟨dv,uu,rfl,hd,hu⟩,hc,hF',hR2,m2⟩) _
  ·simp only [nth_s,nth_z,List.headD_cons,List.tail_cons]
   rw [faK_i]
   refine ld1K_i (hc 1 _ rfl) ?_
   refine callK_mono (copy_dops (S:=fun _=>False) (D:=fun _=>False) (x:=[]) SlR.nil (by simp [mDops])) ?_
   rintro cv w3 ⟨_,g3⟩
   exact .inl ⟨hn,cv,rfl,g2.trans g3⟩
  ·simp only [nth_s,nth_z,List.headD_cons,List.tail_cons]
   rw [faK_i]
   refine ld1K_i (hc 1 _ rfl) ?_
   refine callK_mono (copy_dops hu (hb g (by rw [hlg];simp))) ?_
   rintro cv w3 ⟨o3,g3⟩
   exact .inr ⟨l,g,cv,w2.heap.size,hlg,rfl,m2.size,o3,F',hF',⟨C,sv,uv',rv',ov,by rw [hop];exact hR2.grow g3⟩,g3.size,m2.next g3 fun _ _ h=>h.elim⟩
 have gd:Grow W W.drew:=Mod.drew _ _
 have zd:W.drew.heap.size=W.heap.size:=rfl
 refine drawC_i (fun k y=>(k=7∧F y)∨(k=12∧W.heap.size≤y)) ?_
 refine nilckK_s ?_
 rw [faK_i,addr0]
 refine nilckK_s ?_
 rw [faK_i,addr0]
 refine ⟨?_,?_⟩
 ·refine callK_mono (moveU_ok (hR.grow gd) hl1 hl2 hF) ?_
  rintro _ w5 (⟨hn,rfl,g5⟩ | ⟨l,g,r,F',uv',rv',hlg,rfl,hr2,hg,hF',hR5,m5⟩)
  ·refine ⟨g5.mono fun _ _ h=>h.elim,?_⟩
   refine extK_i (vs:=[_,_]) (by rfl) (extK_i (vs:=[_,_]) (by rfl) ?_)
   refine newz_i fun b4 w6 hb4 hz6 g6 _ hl6=>⟨g6.mono fun _ _ h=>h.elim,?_⟩
   have z5:=g5.size
   refine stn_over (vs:=[.slice none 0 0,.slice none 0 0]) rfl (fun u hu=>by simp at hu;subst hu;rfl) (fun j hj=>hl6 j hj) fun w7 m7 hc7 _=>⟨m7.mono fun x _ e=>.inr ⟨rfl,by omega⟩,.inl ⟨hn,b4,rfl,hc7,((gd.trans g5).trans g6).next m7 fun x hx e=>by omega⟩⟩
  ·refine ⟨m5.mono fun x _ e=>.inl ⟨rfl,e⟩,?_⟩
   refine extK_i (vs:=[_,_]) (by rfl) (extK_i (vs:=[_,_]) (by rfl) ?_)
   refine newz_i fun b4 w6 hb4 hz6 g6 _ hl6=>⟨g6.mono fun _ _ h=>h.elim,?_⟩
   have z5:=m5.size
   have hg6:=hg.mod g6 fun _ _ _ h=>h
   have hR6:=hR5.grow g6
   refine stn_over (vs:=r) hr2 hg6.one (fun j hj=>hl6 j hj) fun w7 m7 hc7 _=>⟨m7.mono fun x _ e=>.inr ⟨rfl,by omega⟩,.inr ⟨l,g,b4,r,F',uv',rv',hlg,rfl,hg6.mod m7 fun x _ hx e=>?_,hc7,fun x hx=>?_,hR6.mod m7 fun x hx e=>?_,?_⟩⟩
   ·have:=(hR5.cf x hx).2;omega
   ·have:=m7.size
    rcases hF' x hx with e | e
    ·exact ⟨.inl e,by have:=hF x e;omega⟩
    ·exact ⟨.inr (by omega),by omega⟩
   ·rcases hF' x hx with e' | e'
    ·have:=hF x e';omega
    ·omega
   ·exact (((gd.mono fun _ _ h=>h.elim:Mod F W W.drew).trans m5).next g6 fun _ _ h=>h.elim).next m7 fun x hx e=>by omega
 ·refine newz_i fun b4 w8 hb4 hz8 g8 _ hl8=>⟨g8.mono fun _ _ h=>h.elim,?_⟩
  have z8:=g8.size
  have hF8:∀ x,F x→x < w8.heap.size:=fun x hx=>by have:=hF x hx;omega
  refine callK_mono (moveU_ok ((hR.grow gd).grow g8) hl1 hl2 hF8) ?_
  rintro _ w9 (⟨hn,rfl,g9⟩ | ⟨l,g,r,F',uv',rv',hlg,rfl,hr2,hg,hF',hR9,m9⟩)
  ·refine ⟨g9.mono fun _ _ h=>h.elim,?_⟩
   refine extK_i (vs:=[_,_]) (by rfl) (extK_i (vs:=[_,_]) (by rfl) ?_)
   refine stn_over (vs:=[.slice none 0 0,.slice none 0 0]) rfl (fun u hu=>by simp at hu;subst hu;rfl) (fun j hj=>(hl8 j hj).mod g9 fun h=>h) fun w7 m7 hc7 _=>⟨m7.mono fun x _ e=>.inr ⟨rfl,by omega⟩,.inl ⟨hn,b4,rfl,hc7,((gd.trans g8).trans g9).next m7 fun x hx e=>by omega⟩⟩
  ·refine ⟨m9.mono fun x _ e=>.inl ⟨rfl,e⟩,?_⟩
   refine extK_i (vs:=[_,_]) (by rfl) (extK_i (vs:=[_,_]) (by rfl) ?_)
   have z9:=m9.size
   have b4F:¬ F b4:=fun e=>by have:=hF b4 e;omega
   refine stn_over (vs:=r) hr2 hg.one (fun j hj=>(hl8 j hj).mod m9 (by rw [add_block];exact b4F)) fun w7 m7 hc7 _=>⟨m7.mono fun x _ e=>.inr ⟨rfl,by omega⟩,.inr ⟨l,g,b4,r,F',uv',rv',hlg,rfl,hg.mod m7 fun x _ hx e=>?_,hc7,fun x hx=>?_,hR9.mod m7 fun x hx e=>?_,?_⟩⟩
   ·exact b4F (e ▸ (hR.cf x hx).1)
   ·have:=m7.size
    rcases hF' x hx with e | e
    ·exact ⟨.inl e,by have:=hF x e;omega⟩
    ·exact ⟨.inr (by omega),by omega⟩
   ·rcases hF' x hx with e' | e'
    ·exact b4F (e ▸ e')
    ·omega
   ·exact (((gd.trans g8).mono fun _ _ h=>h.elim:Mod F W w8).trans m9).next m7 fun x hx e=>by omega
theorem redo_ok (hh:HistI F W b ks h) (hop:h.op=false) (hl1:h.us.length≤65536) (hl2:h.rs.length≤65536) (hF:∀ x,F x→x < W.heap.size) (hb:∀ g ∈ h.rs,mDops g.d≤1099511627776) :
  callK Tryz.prog 21 [.pointer (some ⟨b,0,none⟩)] (fun v' w'=>(h.rs=[]∧∃ cv,v'=.tuple #[cv,.int .i64 10]∧Grow W w')∨
   ∃ l g cv n,h.rs=l++[g]∧v'=.tuple #[cv,.int .i64 0]∧W.heap.size≤n∧ODops n w' cv g.d∧∃ F',(∀ x,F' x→(F x∨W.heap.size≤x)∧x < n)∧HistI F' w' b ks { h with us:=h.us++[g],rs:=l }∧n≤w'.heap.size∧Mod F W w') W:=by
 apply S21_ok
 unfold S21
 refine callK_mono (hready_ok hh) ?_
 rintro _ _ ⟨rfl,rfl⟩
 rename World=>W
 obtain ⟨C,sv,uv,rv,ov,hR⟩:=hh
 rw [hop] at hR
 rw [notK_i]
 refine condK_f ?_
 refine JoinK_i (fun vs w2=>(h.rs=[]∧∃ b4,vs=[.pointer (some ⟨b4,0,none⟩),.int .i64 10]∧(∀ j v,([.slice none 0 0,.slice none 0 0]:List Value)[j]?=some v→w2.cell? ((⟨b4,0,none⟩:Addr).add j)=some v)∧Grow W w2)∨
  ∃ l g b4 r F' uv' rv',h.rs=l++[g]∧vs=[.pointer (some ⟨b4,0,none⟩),.int .i64 0]∧RGrp C w2 r g∧(∀ j v,r[j]?=some v→w2.cell? ((⟨b4,0,none⟩:Addr).add j)=some v)∧(∀ x,F' x→(F x∨W.heap.size≤x)∧x < w2.heap.size)∧HistR F' C w2 b sv ks uv' rv' ov h.max (h.us++[g]) l false h.own∧Mod F W w2) ?_ ?_
 ·rintro _ w2 (⟨hn,b4,rfl,hc,g2⟩ | ⟨l,g,b4,r,F',uv',rv',hlg,rfl,⟨dv,uu,rfl,hd,hu⟩,hc,hF',hR2,m2⟩) _
  ·simp only [nth_s,nth_z,List.headD_cons,List.tail_cons]
   rw [faK_i]
   refine ld1K_i (hc 0 _ rfl) ?_
   refine callK_mono (copy_dops (S:=fun _=>False) (D:=fun _=>False) (x:=[]) SlR.nil (by simp [mDops])) ?_
   rintro cv w3 ⟨_,g3⟩
   exact .inl ⟨hn,cv,rfl,g2.trans g3⟩
  ·simp only [nth_s,nth_z,List.headD_cons,List.tail_cons]
   rw [faK_i]
   refine ld1K_i (hc 0 _ rfl) ?_
   refine callK_mono (copy_dops hd (hb g (by rw [hlg];simp))) ?_
   rintro cv w3 ⟨o3,g3⟩
   exact .inr ⟨l,g,cv,w2.heap.size,hlg,rfl,m2.size,o3,F',hF',⟨C,sv,uv',rv',ov,by rw [hop];exact hR2.grow g3⟩,g3.size,m2.next g3 fun _ _ h=>h.elim⟩
 have gd:Grow W W.drew:=Mod.drew _ _
 have zd:W.drew.heap.size=W.heap.size:=rfl
 refine drawC_i (fun k y=>(k=7∧F y)∨(k=12∧W.heap.size≤y)) ?_
 refine nilckK_s ?_
 rw [faK_i,addr0]
 refine nilckK_s ?_
 rw [faK_i,addr0]
 refine ⟨?_,?_⟩
 ·refine callK_mono (moveR_ok (hR.grow gd) hl1 hl2 hF) ?_
  rintro _ w5 (⟨hn,rfl,g5⟩ | ⟨l,g,r,F',uv',rv',hlg,rfl,hr2,hg,hF',hR5,m5⟩)
  ·refine ⟨g5.mono fun _ _ h=>h.elim,?_⟩
   refine extK_i (vs:=[_,_]) (by rfl) (extK_i (vs:=[_,_]) (by rfl) ?_)
   refine newz_i fun b4 w6 hb4 hz6 g6 _ hl6=>⟨g6.mono fun _ _ h=>h.elim,?_⟩
   have z5:=g5.size
   refine stn_over (vs:=[.slice none 0 0,.slice none 0 0]) rfl (fun u hu=>by simp at hu;subst hu;rfl) (fun j hj=>hl6 j hj) fun w7 m7 hc7 _=>⟨m7.mono fun x _ e=>.inr ⟨rfl,by omega⟩,.inl ⟨hn,b4,rfl,hc7,((gd.trans g5).trans g6).next m7 fun x hx e=>by omega⟩⟩
  ·refine ⟨m5.mono fun x _ e=>.inl ⟨rfl,e⟩,?_⟩
   refine extK_i (vs:=[_,_]) (by rfl) (extK_i (vs:=[_,_]) (by rfl) ?_)
   refine newz_i fun b4 w6 hb4 hz6 g6 _ hl6=>⟨g6.mono fun _ _ h=>h.elim,?_⟩
   have z5:=m5.size
   have hg6:=hg.mod g6 fun _ _ _ h=>h
   have hR6:=hR5.grow g6
   refine stn_over (vs:=r) hr2 hg6.one (fun j hj=>hl6 j hj) fun w7 m7 hc7 _=>⟨m7.mono fun x _ e=>.inr ⟨rfl,by omega⟩,.inr ⟨l,g,b4,r,F',uv',rv',hlg,rfl,hg6.mod m7 fun x _ hx e=>?_,hc7,fun x hx=>?_,hR6.mod m7 fun x hx e=>?_,?_⟩⟩
   ·have:=(hR5.cf x hx).2;omega
   ·have:=m7.size
    rcases hF' x hx with e | e
    ·exact ⟨.inl e,by have:=hF x e;omega⟩
    ·exact ⟨.inr (by omega),by omega⟩
   ·rcases hF' x hx with e' | e'
    ·have:=hF x e';omega
    ·omega
   ·exact (((gd.mono fun _ _ h=>h.elim:Mod F W W.drew).trans m5).next g6 fun _ _ h=>h.elim).next m7 fun x hx e=>by omega
 ·refine newz_i fun b4 w8 hb4 hz8 g8 _ hl8=>⟨g8.mono fun _ _ h=>h.elim,?_⟩
  have z8:=g8.size
  have hF8:∀ x,F x→x < w8.heap.size:=fun x hx=>by have:=hF x hx;omega
  refine callK_mono (moveR_ok ((hR.grow gd).grow g8) hl1 hl2 hF8) ?_
  rintro _ w9 (⟨hn,rfl,g9⟩ | ⟨l,g,r,F',uv',rv',hlg,rfl,hr2,hg,hF',hR9,m9⟩)
  ·refine ⟨g9.mono fun _ _ h=>h.elim,?_⟩
   refine extK_i (vs:=[_,_]) (by rfl) (extK_i (vs:=[_,_]) (by rfl) ?_)
   refine stn_over (vs:=[.slice none 0 0,.slice none 0 0]) rfl (fun u hu=>by simp at hu;subst hu;rfl) (fun j hj=>(hl8 j hj).mod g9 fun h=>h) fun w7 m7 hc7 _=>⟨m7.mono fun x _ e=>.inr ⟨rfl,by omega⟩,.inl ⟨hn,b4,rfl,hc7,((gd.trans g8).trans g9).next m7 fun x hx e=>by omega⟩⟩
  ·refine ⟨m9.mono fun x _ e=>.inl ⟨rfl,e⟩,?_⟩
   refine extK_i (vs:=[_,_]) (by rfl) (extK_i (vs:=[_,_]) (by rfl) ?_)
   have z9:=m9.size
   have b4F:¬ F b4:=fun e=>by have:=hF b4 e;omega
   refine stn_over (vs:=r) hr2 hg.one (fun j hj=>(hl8 j hj).mod m9 (by rw [add_block];exact b4F)) fun w7 m7 hc7 _=>⟨m7.mono fun x _ e=>.inr ⟨rfl,by omega⟩,.inr ⟨l,g,b4,r,F',uv',rv',hlg,rfl,hg.mod m7 fun x _ hx e=>?_,hc7,fun x hx=>?_,hR9.mod m7 fun x hx e=>?_,?_⟩⟩
   ·exact b4F (e ▸ (hR.cf x hx).1)
   ·have:=m7.size
    rcases hF' x hx with e | e
    ·exact ⟨.inl e,by have:=hF x e;omega⟩
    ·exact ⟨.inr (by omega),by omega⟩
   ·rcases hF' x hx with e' | e'
    ·exact b4F (e ▸ e')
    ·omega
   ·exact (((gd.trans g8).mono fun _ _ h=>h.elim:Mod F W w8).trans m9).next m7 fun x hx e=>by omega
end
structure HL (w0:World) (F:Nat→Prop) (W:World) (b:Nat) (ks:List DKey) (h:Hist):Prop where
 his:HistI F W b ks h
 hF:∀ x,F x→w0.heap.size≤x∧x < W.heap.size
 g:Grow w0 W
section
variable {w0 W W':World} {F:Nat→Prop} {b:Nat} {ks:List DKey} {h h':Hist}
theorem HL.grow (hh:HL w0 F W b ks h) (g:Grow W W'):HL w0 F W' b ks h:=⟨hh.his.grow g,fun x hx=>⟨(hh.hF x hx).1,Nat.lt_of_lt_of_le (hh.hF x hx).2 g.size⟩,hh.g.trans g⟩
theorem HL.after (hh:HL w0 F W b ks h) (ha:HAfter F W W' b ks h'):∃ F',HL w0 F' W' b ks h'∧(∀ x,F' x→F x∨W.heap.size≤x)∧Mod F W W':=by
 obtain ⟨F',h1,h2,h3⟩:=ha
 have s:=h3.size
 have s0:=hh.g.size
 refine ⟨F',⟨h2,fun x hx=>?_,hh.g.next h3 fun x hx e=>by have:=(hh.hF x e).1;omega⟩,fun x hx=>?_,h3⟩
 ·rcases h1 x hx with e | e
  ·have:=hh.hF x e;exact ⟨this.1,by omega⟩
  ·exact ⟨by omega,e.2⟩
 ·rcases h1 x hx with e | e
  ·exact .inl e
  ·exact .inr e.1
theorem HL.push {S D S' D':Nat→Prop} {dv uu:Value} {x y:List Dop} (hh:HL w0 F W b ks h) (hop:h.op=false) (hl:h.us.length≤h.max) (hmx:h.max≤65536) (hd:RDops S D W dv x) (hu:RDops S' D' W uu y) (bx:mDops x≤1099511627776) (by':mDops y≤1099511627776) :
  callK Tryz.prog 18 [.pointer (some ⟨b,0,none⟩),dv,uu] (fun v' w'=>v'=.int .i64 0∧∃ F',HL w0 F' w' b ks { h with us:=keepL h.max h.us ⟨x,y⟩,rs:=[] }∧(∀ x,F' x→F x∨W.heap.size≤x)∧Mod F W w') W:=
 callK_mono (push_ok hh.his hop hl hmx hd hu bx by' fun x hx=>(hh.hF x hx).2) fun _ _ h'=>⟨h'.1,hh.after h'.2⟩
theorem HL.undo (hh:HL w0 F W b ks h) (hop:h.op=false) (hl1:h.us.length≤65536) (hl2:h.rs.length≤65536) (hb:∀ g ∈ h.us,mDops g.u≤1099511627776) :
  callK Tryz.prog 19 [.pointer (some ⟨b,0,none⟩)] (fun v' w'=>(h.us=[]∧∃ cv,v'=.tuple #[cv,.int .i64 10]∧Grow W w')∨
   ∃ l g cv n F',h.us=l++[g]∧v'=.tuple #[cv,.int .i64 0]∧W.heap.size≤n∧ODops n w' cv g.u∧HL w0 F' w' b ks { h with us:=l,rs:=h.rs++[g] }∧(∀ x,F' x→(F x∨W.heap.size≤x)∧x < n)∧Mod F W w') W:=by
 refine callK_mono (undo_ok hh.his hop hl1 hl2 (fun x hx=>(hh.hF x hx).2) hb) ?_
 rintro v w' (h1 | ⟨l,g,cv,n,h1,h2,h3,h4,F',h5,h6,h7,h8⟩)
 ·exact .inl h1
 ·have s0:=hh.g.size
  refine .inr ⟨l,g,cv,n,F',h1,h2,h3,h4,⟨h6,fun x hx=>?_,hh.g.next h8 fun x hx e=>by have:=(hh.hF x e).1;omega⟩,h5,h8⟩
  obtain ⟨e,hn⟩:=h5 x hx
  rcases e with e | e
  ·exact ⟨(hh.hF x e).1,by omega⟩
  ·exact ⟨by omega,by omega⟩
theorem HL.redo (hh:HL w0 F W b ks h) (hop:h.op=false) (hl1:h.us.length≤65536) (hl2:h.rs.length≤65536) (hb:∀ g ∈ h.rs,mDops g.d≤1099511627776) :
  callK Tryz.prog 21 [.pointer (some ⟨b,0,none⟩)] (fun v' w'=>(h.rs=[]∧∃ cv,v'=.tuple #[cv,.int .i64 10]∧Grow W w')∨
   ∃ l g cv n F',h.rs=l++[g]∧v'=.tuple #[cv,.int .i64 0]∧W.heap.size≤n∧ODops n w' cv g.d∧HL w0 F' w' b ks { h with us:=h.us++[g],rs:=l }∧(∀ x,F' x→(F x∨W.heap.size≤x)∧x < n)∧Mod F W w') W:=by
 refine callK_mono (redo_ok hh.his hop hl1 hl2 (fun x hx=>(hh.hF x hx).2) hb) ?_
 rintro v w' (h1 | ⟨l,g,cv,n,h1,h2,h3,h4,F',h5,h6,h7,h8⟩)
 ·exact .inl h1
 ·have s0:=hh.g.size
  refine .inr ⟨l,g,cv,n,F',h1,h2,h3,h4,⟨h6,fun x hx=>?_,hh.g.next h8 fun x hx e=>by have:=(hh.hF x e).1;omega⟩,h5,h8⟩
  obtain ⟨e,hn⟩:=h5 x hx
  rcases e with e | e
  ·exact ⟨(hh.hF x e).1,by omega⟩
  ·exact ⟨by omega,by omega⟩
end
end Go.Proofs.YtlbaopamhkmepaaGreatDoor

namespace Go.K
open Go
theorem OwnR.row1 {α:Type} {B e k:Nat} {R:World→List Value→α→Prop} {w:World} {cs:List Value} {x:α} (hB:B≤w.heap.size) (hcs:cs.length=k) (h1:∀ u ∈ cs,u.oneCell'=true) (hx:R (w.alloc (.cells cs.toArray e)) cs x) :
  OwnR B e k R (w.alloc (.cells cs.toArray e)) (.slice (some ⟨w.heap.size,0,none⟩) 1 1) [x]:=by
 refine ⟨[cs],⟨by simp [hcs],.inr ⟨w.heap.size,1,cs.toArray,rfl,hB,heap_alloc_new w _,by simp,by simp [maxLen],by simp [hcs],by simp [←hcs]⟩⟩,rfl,fun r hr=>?_,fun i r y hr hy=>?_⟩
 ·simp only [List.mem_singleton] at hr
  subst hr
  exact ⟨hcs,h1⟩
 ·have hi:i=0:=by have:=(List.getElem?_eq_some_iff.1 hr).1;simp at this;exact this
  subst hi
  cases hr;cases hy
  exact hx
end Go.K
namespace Go.Proofs.YtlbaopamhkmepaaGreatDoor
open Go Go.K

def insO (r:Int):Dop:=⟨2,0,[r],[],[]⟩
def delO (n:Int):Dop:=⟨3,n,[],[],[]⟩
theorem in_ok {r:Int} {w:World}:callK Tryz.prog 17 [.int .i32 r] (fun v' w'=>Grow w w'∧∃ dv uv,v'=.tuple #[dv,uv]∧ODops w.heap.size w' dv [insO r]∧ODops w.heap.size w' uv [delO 1]∧(∀ g,uv.ownBlock=some g→dv.ownBlock≠some g∧(∀ x,w.heap.size≤x→x < w'.heap.size→x=g∨x < g))) w:=by
 apply S17_ok
 unfold S17
 refine rowK_i (cs:=[.int .i32 r]) (by kernel_rfl) ?_
 have g1:Grow w (w.alloc (.cells [Value.int .i32 r].toArray 21)):=Mod.alloc _ _ _
 have o1:OwnR w.heap.size 21 1 RRune (w.alloc (.cells [Value.int .i32 r].toArray 21)) (.slice (some ⟨w.heap.size,0,none⟩) 1 1) [r]:=OwnR.row1 (Nat.le_refl _) rfl (fun u hu=>by simp at hu;subst hu;rfl) rfl
 have z1:(w.alloc (.cells [Value.int .i32 r].toArray 21)).heap.size=w.heap.size+1:=by simp
 generalize w.alloc (.cells [Value.int .i32 r].toArray 21)=w1 at g1 o1 z1 ⊢
 refine ⟨#[.int .u8 2,.int .i64 0,.slice (some ⟨w.heap.size,0,none⟩) 1 1,.slice none 0 0,.slice none 0 0],by kernel_rfl,?_⟩
 refine rowK_i (cs:=[.int .u8 2,.int .i64 0,.slice (some ⟨w.heap.size,0,none⟩) 1 1,.slice none 0 0,.slice none 0 0]) (by kernel_rfl) ?_
 have g2:Grow w1 (w1.alloc (.cells [Value.int .u8 2,.int .i64 0,.slice (some ⟨w.heap.size,0,none⟩) 1 1,.slice none 0 0,.slice none 0 0].toArray 39)):=Mod.alloc _ _ _
 have o2:ODops w.heap.size (w1.alloc (.cells [Value.int .u8 2,.int .i64 0,.slice (some ⟨w.heap.size,0,none⟩) 1 1,.slice none 0 0,.slice none 0 0].toArray 39)) (.slice (some ⟨w1.heap.size,0,none⟩) 1 1) [insO r]:=by
  refine OwnR.row1 (by omega) rfl (fun u hu=>by simp at hu;rcases hu with rfl | rfl | rfl | rfl <;> rfl) ⟨_,_,_,rfl,⟨OwnR.mod (o1.base fun _ _=>Nat.zero_le _) g2 (fun _ _ h=>h) fun _ _ _ h=>h,fun g hg=>?_⟩,⟨OwnR.nil,fun g hg=>nomatch hg⟩,⟨OwnR.nil,fun g hg=>nomatch hg⟩⟩
  have e:w.heap.size=g:=Option.some.inj hg
  exact ⟨by omega,fun e2=>by have e3:w1.heap.size=g:=Option.some.inj e2;omega⟩
 have z2:(w1.alloc (.cells [Value.int .u8 2,.int .i64 0,.slice (some ⟨w.heap.size,0,none⟩) 1 1,.slice none 0 0,.slice none 0 0].toArray 39)).heap.size=w1.heap.size+1:=by simp
 generalize w1.alloc (.cells [Value.int .u8 2,.int .i64 0,.slice (some ⟨w.heap.size,0,none⟩) 1 1,.slice none 0 0,.slice none 0 0].toArray 39)=w2 at g2 o2 z2 ⊢
 refine ⟨#[.int .u8 3,.int .i64 1,.slice none 0 0,.slice none 0 0,.slice none 0 0],by kernel_rfl,?_⟩
 refine rowK_i (cs:=[.int .u8 3,.int .i64 1,.slice none 0 0,.slice none 0 0,.slice none 0 0]) (by kernel_rfl) ?_
 have g3:Grow w2 (w2.alloc (.cells [Value.int .u8 3,.int .i64 1,.slice none 0 0,.slice none 0 0,.slice none 0 0].toArray 39)):=Mod.alloc _ _ _
 refine ⟨(g1.trans g2).trans g3,_,_,rfl,ODops.grow o2 g3 fun _ _ _ h=>h,?_,fun g hg=>?_⟩
 ·exact OwnR.row1 (by omega) rfl (fun u hu=>by simp at hu;rcases hu with rfl | rfl | rfl <;> rfl) ⟨_,_,_,rfl,⟨OwnR.nil,fun g hg=>nomatch hg⟩,⟨OwnR.nil,fun g hg=>nomatch hg⟩,⟨OwnR.nil,fun g hg=>nomatch hg⟩⟩
 ·have e:w2.heap.size=g:=Option.some.inj hg
  refine ⟨fun e2=>by have e3:w1.heap.size=g:=Option.some.inj e2;omega,fun x _ hx=>?_⟩
  have:(w2.alloc (.cells [Value.int .u8 3,.int .i64 1,.slice none 0 0,.slice none 0 0,.slice none 0 0].toArray 39)).heap.size=w2.heap.size+1:=by simp
  omega
structure HK (F:Nat→Prop) (W:World) (lo hi:Nat) (v:Value) (l:List Dop):Prop where
 rd:RDops (fun z=>lo≤z∧z < hi) (fun z=>lo≤z∧z < hi) W v l
 sz:hi≤W.heap.size
 ap:∀ x,F x→x < lo∨hi≤x
theorem HK.next {F F':Nat→Prop} {W W':World} {lo hi:Nat} {v:Value} {l:List Dop} (h:HK F W lo hi v l) (hm:Mod F W W') (hF:∀ x,F' x→F x∨W.heap.size≤x):HK F' W' lo hi v l:=by
 have hn:∀ b,b < W.heap.size→(lo≤b∧b < hi)→¬ F b:=fun b _ hb hf=>by rcases h.ap b hf with e | e <;> omega
 refine ⟨h.rd.mod hm hn hn,Nat.le_trans h.sz hm.size,fun x hx=>?_⟩
 rcases hF x hx with e | e
 ·exact h.ap x e
 ·have:=h.sz;exact .inr (by omega)
theorem HK.grow {F:Nat→Prop} {W W':World} {lo hi:Nat} {v:Value} {l:List Dop} (h:HK F W lo hi v l) (g:Grow W W'):HK F W' lo hi v l:=⟨h.rd.grow g,Nat.le_trans h.sz g.size,h.ap⟩
theorem HK.new {F:Nat→Prop} {W:World} {n:Nat} {v:Value} {l:List Dop} (h:ODops n W v l) (hF:∀ x,F x→x < n∨W.heap.size≤x):HK F W n W.heap.size v l:=⟨ODops.reads h,Nat.le_refl _,hF⟩
theorem mins (r:Int):mDops [insO r]≤1099511627776:=by simp [mDops,mDop,insO,mSet,mPat]
theorem mdel (n:Int):mDops [delO n]≤1099511627776:=by simp [mDops,mDop,delO,mSet,mPat]
def gin (r n:Int):Grp:=⟨[insO r],[delO n]⟩
end Go.Proofs.YtlbaopamhkmepaaGreatDoor

namespace Go.Proofs.YtlbaopamhkmepaaGreatDoor
open Go Go.K

theorem MkI.cut {F:Nat→Prop} {W:World} {b:Nat} {s:MkS} (h:MkI F W b s):MkI (fun x=>F x∧x < W.heap.size) W b s:=by
 obtain ⟨dv,iv,C,hot,h⟩:=h
 refine ⟨dv,iv,C,hot,h.c0,h.c1,h.c2,h.lv,⟨h.fb,World.block_lt_of_cell? W _ h.c0⟩,h.nb,fun x hx=>⟨h.cf x hx,(h.cf x hx).2⟩,h.done,fun g hg=>⟨⟨(h.dF g hg).1,(OwnR.ownB h.done g hg).2⟩,(h.dF g hg).2⟩,?_⟩
 rcases h.ins with h0 | ⟨g,c,hh,e1,e2,e3,e4,e5,e6,e7,e8,e9,e10,e11,e12,e13,e14⟩
 ·exact .inl h0
 ·exact .inr ⟨g,c,hh,e1,e2,e3,⟨e4,(OwnR.ownB e3 g (by rw [e1];rfl)).2⟩,e5,e6,e7,⟨e8,e13⟩,e9,e10,e11,e12,e13,e14⟩
def MkL (W0:World) (F0:Nat→Prop) (W:World) (b:Nat) (s:MkS):Prop:=∃ F:Nat→Prop,MkI F W b s∧(∀ x,F x→(F0 x∨W0.heap.size≤x)∧x < W.heap.size)∧Mod F0 W0 W
section
variable {W0 W W':World} {F0 F F1:Nat→Prop} {b:Nat} {s s':MkS}
theorem MkL.start (h:MkI F0 W0 b s):MkL W0 F0 W0 b s:=⟨_,h.cut,fun x hx=>⟨.inl hx.1,hx.2⟩,Mod.refl _ _⟩
theorem MkL.grow (h:MkL W0 F0 W b s) (g:Grow W W'):MkL W0 F0 W' b s:=by
 obtain ⟨F,h1,h2,h3⟩:=h
 exact ⟨F,h1.mod g fun _ _ h=>h,fun x hx=>⟨(h2 x hx).1,Nat.lt_of_lt_of_le (h2 x hx).2 g.size⟩,h3.next g fun _ _ e=>e.elim⟩
theorem MkL.next (h2:∀ x,F x→(F0 x∨W0.heap.size≤x)) (h3:Mod F0 W0 W) (h4:MkI F1 W' b s') (h5:∀ x,F1 x→F x∨W.heap.size≤x) (h6:Mod F W W'):MkL W0 F0 W' b s':=by
 refine ⟨_,h4.cut,fun x hx=>⟨?_,hx.2⟩,h3.next h6 fun x hx e=>?_⟩
 ·rcases h5 x hx.1 with e | e
  ·exact h2 x e
  ·exact .inr (Nat.le_trans h3.size e)
 ·rcases h2 x e with e | e
  ·exact e
  ·omega
end
theorem valS {v:AVal} (h:ValOK v):v.s.size≤64:=by
 rcases h with ⟨_,e,_⟩ | ⟨_,e⟩ | ⟨_,e,_⟩ | ⟨_,_,h,_⟩
 ·rw [e];show noS.size≤64;decide
 ·rw [e];show noS.size≤64;decide
 ·rw [e];show noS.size≤64;decide
 ·exact h
theorem sum_le {α:Type} (f:α→Nat) (c:Nat):∀ (l:List α),(∀ a ∈ l,f a≤c)→(l.map f).sum≤c * l.length:=by
 intro l
 induction l with
 | nil=>intro _;simp
 | cons a l ih=>
  intro h
  have h1:=ih fun a ha=>h a (by simp [ha])
  have h2:=h a (by simp)
  simp only [List.map_cons,List.sum_cons,List.length_cons,Nat.mul_add,Nat.mul_one]
  omega
section
variable {ks:List DKey}
theorem SetK.m {l:List Attr} (h:SetK ks l):mSet l≤4160:=by
 have:=sum_le mAttr 65 l fun a ha=>by have:=valS (h.2.2 a ha).1;unfold mAttr;omega
 have:=h.2.1
 unfold mSet
 omega
theorem PatK.m {l:List Chg} (h:PatK ks l):mPat l≤4160:=by
 have:=sum_le mChg 65 l fun c hc=>by
  obtain ⟨h1,h2,_⟩:=h.2.2 c hc
  unfold mChg
  cases e:c.gone with
  | true=>rw [h1 e];decide
  | false=>have:=valS (h2 e).1;omega
 have:=h.2.1
 unfold mPat
 omega
theorem GoodK.m {o:Dop} (h:GoodK ks o):mDop o≤8322 * lenN o∧1≤lenN o:=by
 have nil1:mSet []=0:=rfl
 have nil2:mPat []=0:=rfl
 rcases h with ⟨h1,h2,h3,h4,h5⟩ | ⟨h1,h2,h3,h4,h5⟩ | ⟨h1,h2,h3,h4,h5,h6⟩
 ·have:=h5.m
  simp only [mDop,lenN,h1,h2,h3,nil1,List.length_nil,show ¬ (1:Int)=2 by decide,if_false]
  omega
 ·simp only [mDop,lenN,h1,h2,h3,h4,nil1,nil2,List.length_nil,show ¬ (3:Int)=2 by decide,if_false]
  omega
 ·have:=h6.m
  have:=List.length_pos_iff.2 h5
  simp only [mDop,lenN,h1,h4,nil2,if_true]
  omega
theorem good_m {l:List Dop} (h:∀ o ∈ l,GoodK ks o):mDops l≤8322 * total l∧l.length≤total l:=by
 induction l with
 | nil=>simp [mDops,total]
 | cons o l ih=>
  have h1:=ih fun o ho=>h o (by simp [ho])
  have h2:=GoodK.m (h o (by simp))
  simp only [mDops,total,List.map_cons,List.sum_cons,List.length_cons] at *
  omega
theorem GoodM.bnd {s:MkS} {t:Nat} (h:GoodM (SetK ks) (PatK ks) s t) (ht:t≤16777216):mDops s.done+mDops s.ins≤274877906944∧s.done.length+s.ins.length≤16777216∧∀ o ∈ s.ins,o.runes.length≤16777216:=by
 have h1:=good_m h.done
 have h2:=good_m fun o ho=>(h.ins o ho).1
 have h3:=h.tot
 refine ⟨by omega,by omega,fun o ho=>?_⟩
 have:=total_mem ho
 have k2:=(h.ins o ho).2
 simp only [lenN,k2,if_true] at this
 omega
theorem tell_ok {F D:Nat→Prop} {W:World} {b t:Nat} {s:MkS} {r:List Value} {o:Dop} (hm:MkI F W b s) (hr:RDop D W r o) (hD:∀ x,D x→¬ F x) (hs:GoodM (SetK ks) (PatK ks) s t) (ho:GoodK ks o) (ht:t+lenN o≤16777216) :
  callK Tryz.prog 144 [.pointer (some ⟨b,0,none⟩),.agg r.toArray] (fun _ w'=>MkL W F w' b (stepS s o)) W:=by
 apply S144_ok
 unfold S144
 obtain ⟨q1,q2,q3⟩:=hs.bnd (by omega)
 have hsz:=GoodK.form ho (by omega)
 have hp64:=hsz.2.2.2.1
 have hs64:=hsz.2.1.2.1
 refine boxn_i fun b3 w1 hb3 hz1 g1 hc1 _=>?_
 have hm1:MkI F w1 b s:=hm.mod g1 fun _ _ h=>h
 obtain ⟨rv,sv,pv,rfl,h1,h2,h3⟩:=hr.mod (D':=D) g1 (fun _ _ _ h=>h) fun _ _ h=>h
 have st:MkL W F w1 b s:=(MkL.start hm).grow g1
 rw [faK_i]
 refine ld1K_i (hc1 0 _ rfl) ?_
 rw [eqK_i]
 have nx:∀ w',MkI (fun x=>F x∨w1.heap.size≤x) w' b (stepS s o)→Mod F w1 w'→MkL W F w' b (stepS s o):=fun w' q m=>MkL.next (F:=F) (fun x hx=>.inl hx) (g1.mono fun _ _ e=>e.elim) q (fun x hx=>hx) m
 refine condK_p (fun k1=>?_) fun k1=>?_
 ·rw [faK_i]
  refine ld1K_i (hc1 1 _ rfl) ?_
  rw [faK_i]
  refine ld1K_i (hc1 4 _ rfl) ?_
  refine callK_mono (retain_ok hm1 h3 hD (by omega) (by omega)) ?_
  rintro _ w' ⟨q,m⟩
  exact nx w' (by rw [stepS,if_pos k1];exact q) m
 ·rw [eqK_i]
  refine condK_p (fun k2=>?_) fun k2=>?_
  ·have hl:lenN o=o.runes.length:=by simp [lenN,k2]
   rw [faK_i]
   refine ld1K_i (hc1 2 _ rfl) ?_
   rw [faK_i]
   refine ld1K_i (hc1 3 _ rfl) ?_
   refine callK_mono (insert_ok hm1 h1 h2 hD (by omega) (fun o' ho'=>by have:=q3 o' ho';omega) (by omega) (by omega)) ?_
   rintro _ w' ⟨q,m⟩
   exact nx w' (by rw [stepS,if_neg k1,if_pos k2];exact q) m
  ·rw [faK_i]
   refine ld1K_i (hc1 1 _ rfl) ?_
   refine callK_mono (delete_ok hm1) ?_
   rintro _ w' ⟨q,m⟩
   exact nx w' (by rw [stepS,if_neg k1,if_neg k2];exact q.sub fun x hx=>.inl hx) m
theorem fold_good (h64:ks.length≤64) {s:MkS} {t:Nat} (set:List Attr) (p:List Chg) (hset:SetK ks set) (hp:PatK ks p):∀ (rs:List Int),(∀ r ∈ rs,MayR r)→GoodM (SetK ks) (PatK ks) s t→t+rs.length≤16777216→
  GoodM (SetK ks) (PatK ks) (rs.foldl (fun s r=>insS s [r] (cellP ks set p r)) s) (t+rs.length):=by
 intro rs
 induction rs using rev_ind with
 | h0=>intro _ h _;exact h
 | h1 rs r ih=>
  intro hr h ht
  simp only [List.length_append,List.length_cons,List.length_nil] at ht ⊢
  rw [List.foldl_append]
  have h1:=ih (fun q hq=>hr q (by simp [hq])) h (by omega)
  have:=good_step h1 (o:=⟨2,0,[r],cellP ks set p r,[]⟩) (.inr (.inr ⟨rfl,by simpa using hr r (by simp),rfl,rfl,by simp,cellP_may h64 hset hp r⟩)) (by simp [lenN];omega)
  simpa [stepS,lenN,Nat.add_assoc] using this
set_option maxRecDepth 20000 in
theorem both_ok {E F D D':Nat→Prop} {W:World} {b t:Nat} {sv:Value} {s:MkS} {r r':List Value} {u v:Dop} (h64:ks.length≤64) (hS:SchR E W sv ks) (hE:∀ x,E x→¬ F x) (hm:MkI F W b s) (hF:∀ x,F x→x < W.heap.size) (hr:RDop D W r u) (hD:∀ x,D x→¬ F x) (hr':RDop D' W r' v) (hD':∀ x,D' x→¬ F x)
  (hs:GoodM (SetK ks) (PatK ks) s t) (hu:GoodK ks u) (hv:GoodK ks v) (ht:t+lenN u≤16777216) (hl:lenN u=lenN v) (hk:v.kind≠2) :
  callK Tryz.prog 147 [sv,.pointer (some ⟨b,0,none⟩),.agg r.toArray,.agg r'.toArray] (fun _ w'=>MkL W F w' b (bothS ks s u v)) W:=by
 apply S147_ok
 unfold S147
 obtain ⟨q1,q2,q3⟩:=hs.bnd (by omega)
 have fu:=GoodK.form hu (by omega)
 have fv:=GoodK.form hv (by omega)
 have hup:=fu.2.2.2.1
 have hvp:=fv.2.2.2.1
 have hus:=fu.2.1.2.1
 refine boxn_i fun b6 w1 hb6 hz1 g1 hc1 _=>?_
 refine boxn_i fun b7 w2 hb7 hz2 g2 hc2 _=>?_
 have g12:=g1.trans g2
 have hm2:MkI F w2 b s:=hm.mod g12 fun _ _ h=>h
 have st:MkL W F w2 b s:=(MkL.start hm).grow g12
 obtain ⟨rv,uv,pv,rfl,h1,h2,h3⟩:=hr.mod (D':=D) g12 (fun _ _ _ h=>h) fun _ _ h=>h
 obtain ⟨rv',uv',pv',rfl,k1,k2,k3⟩:=hr'.mod (D':=D') g12 (fun _ _ _ h=>h) fun _ _ h=>h
 have c6:∀ j x,([.int .u8 u.kind,.int .i64 u.n,rv,uv,pv]:List Value)[j]?=some x→w2.cell? ((⟨b6,0,none⟩:Addr).add j)=some x:=fun j x hx=>g2.cell (hc1 j x hx) fun h=>h
 have n6:¬ F b6:=fun e=>by have:=hF b6 e;omega
 have n7:¬ F b7:=fun e=>by have:=hF b7 e;omega
 have nx:∀ {w3 w' s'},Grow w2 w3→MkI (fun x=>F x∨w3.heap.size≤x) w' b s'→Mod F w3 w'→MkL W F w' b s':=fun g q m=>MkL.next (F:=F) (fun x hx=>.inl hx) ((g12.trans g).mono fun _ _ e=>e.elim) q (fun x hx=>hx) m
 refine JoinK_i (fun vs w3=>w3=w2∧vs=[.bool (decide (u.kind=1) && decide (v.kind=1))]) ?_ ?_
 rotate_left
 ·rw [faK_i]
  refine ld1K_i (c6 0 _ rfl) ?_
  rw [eqK_i]
  refine condK_p (fun ku=>?_) fun ku=>?_
  ·rw [faK_i]
   refine ld1K_i (hc2 0 _ rfl) ?_
   rw [eqK_i]
   exact ⟨rfl,by rw [decide_eq_true ku,Bool.true_and]⟩
  ·exact ⟨rfl,by rw [decide_eq_false ku,Bool.false_and]⟩
 rintro _ _ ⟨rfl,rfl⟩ _
 rename World=>w2
 rw [nth_z,List.headD_cons]
 by_cases ku:u.kind=1
 ·rw [decide_eq_true ku,Bool.true_and]
  refine condK_p (fun kv=>?_) fun kv=>?_
  ·have gd:Grow w2 w2.drew:=Mod.drew _ _
   refine drawC_i (fun q y=>q=8∧F y) ?_
   rw [faK_i]
   refine sld1_i ⟨gd.cell (hc2 1 _ rfl) fun h=>h,fun j _ e=>n7 (by rw [add_block] at e;exact e.2)⟩ ?_
   rw [faK_i]
   refine sld1_i ⟨gd.cell (c6 4 _ rfl) fun h=>h,fun j _ e=>n6 (by rw [add_block] at e;exact e.2)⟩ ?_
   rw [faK_i]
   refine sld1_i ⟨gd.cell (hc2 4 _ rfl) fun h=>h,fun j _ e=>n7 (by rw [add_block] at e;exact e.2)⟩ ?_
   refine callK_mono (pcom_ok (h3.grow gd (by decide) fun _ _ h=>h) (k3.grow gd (by decide) fun _ _ h=>h) (by omega)) ?_
   rintro cv w4 ⟨o4,g4⟩
   refine ⟨g4.mono fun _ _ e=>e.elim,?_⟩
   have hc64:=(comP_may h64 fu.2.2 fv.2.2).2.1
   refine callK_mono (retain_ok (hm2.mod (gd.trans g4) fun _ _ h=>h) (SlR.sub (OwnR.sl o4) (fun x _ h=>h.1) (by decide) fun _ _ h=>h) (fun x hx hf=>by have:=hF x hf;have h5:w2.drew.heap.size≤x:=hx;have:=(g12.trans gd).size;omega) (by omega) (by omega)) ?_
   rintro _ w5 ⟨q,m⟩
   refine ⟨m.mono fun x _ e=>⟨rfl,e⟩,nx (gd.trans g4) ?_ m⟩
   rw [bothS,if_pos ku,if_pos kv];exact q
  ·rw [faK_i]
   refine ld1K_i (c6 0 _ rfl) ?_
   rw [eqK_i]
   refine condK_p (fun _=>?_) fun e=>(e ku).elim
   rw [faK_i]
   refine ld1K_i (hc2 1 _ rfl) ?_
   refine callK_mono (delete_ok hm2) ?_
   rintro _ w5 ⟨q,m⟩
   refine nx (Mod.refl _ _) ?_ m
   rw [bothS,if_pos ku,if_neg kv];exact q.sub fun x hx=>.inl hx
 ·rw [decide_eq_false ku,Bool.false_and]
  refine condK_f ?_
  rw [faK_i]
  refine ld1K_i (c6 0 _ rfl) ?_
  rw [eqK_i]
  refine condK_p (fun e=>(ku e).elim) fun _=>?_
  rw [faK_i]
  refine ld1K_i (hc2 0 _ rfl) ?_
  rw [eqK_i]
  refine condK_p (fun kv=>?_) fun kv=>?_
  rotate_left
  ·rw [bothS,if_neg ku,if_neg kv];exact st
  have k2u:u.kind=2∨u.kind=3:=by rcases hu with ⟨h,_⟩ | ⟨h,_⟩ | ⟨h,_⟩ <;> omega
  -- a delete has no runes
  have hrun:u.runes.length≤lenN u∧∀ x ∈ u.runes,MayR x:=by
   rcases hu with ⟨h,_⟩ | ⟨h,e,_⟩ | ⟨h,e,_⟩
   ·omega
   ·rw [e];simp
   ·exact ⟨by simp [lenN,h],e⟩
  obtain ⟨ra,rc,rfl,_⟩:=h1.shape
  rw [faK_i]
  refine ld1K_i (c6 2 _ rfl) ?_
  rw [lenK_i]
  rw [bothS,if_neg ku,if_pos kv]
  refine LoopK_i (fun vs W3=>∃ (i:Nat) (F3:Nat→Prop),i≤u.runes.length∧vs=[.int .i64 i]∧MkI F3 W3 b ((u.runes.take i).foldl (fun s r=>insS s [r] (cellP ks u.set v.patch r)) s)∧(∀ x,F3 x→(F x∨w2.heap.size≤x)∧x < W3.heap.size)∧Mod F w2 W3) (fun vs _=>u.runes.length - iOf vs 0)
   ⟨0,_,Nat.zero_le _,rfl,hm2.cut,fun x hx=>⟨.inl hx.1,hx.2⟩,Mod.refl _ _⟩ ?_
  rintro vs W3 ⟨i,F3,hi,rfl,hm3,hF3,m3⟩ _
  rw [nth_z,List.headD_cons,ltK_i]
  have hs3:=fold_good h64 u.set v.patch fu.2.1 fv.2.2 (u.runes.take i) (fun x hx=>hrun.2 x (List.mem_of_mem_take hx)) hs (by have:=List.length_take_le i u.runes;omega)
  obtain ⟨e1,e2,e3⟩:=hs3.bnd (by have:=List.length_take_le i u.runes;omega)
  refine condK_p (fun hlt=>?_) fun hge=>?_
  rotate_left
  ·have:i=u.runes.length:=by omega
   subst this
   rw [List.take_length] at hm3
   exact ⟨_,hm3,fun x hx=>⟨by rcases (hF3 x hx).1 with e | e;exact .inl e;exact .inr (Nat.le_trans g12.size e),(hF3 x hx).2⟩,(g12.mono fun _ _ e=>e.elim:Mod F W w2).trans m3⟩
  have hlt':i < u.runes.length:=by omega
  have z3:=m3.size
  have lD:∀ {x},D x→¬ F x:=fun h=>hD _ h
  have h1':RRun D W3 (.slice ra u.runes.length rc) u.runes:=h1.mono (fun _ _ h=>h) (fun y hy hd=>m3.same y hy (hD y hd)) (by decide) fun _ _ h=>h
  have h2':RSet D W3 uv u.set:=h2.mono (fun _ _ h=>h) (fun y hy hd=>m3.same y hy (hD y hd)) (by decide) fun _ _ h=>h
  have k3':RPat D' W3 pv' v.patch:=k3.mono (fun _ _ h=>h) (fun y hy hd=>m3.same y hy (hD' y hd)) (by decide) fun _ _ h=>h
  have hS3:SchR E W3 sv ks:=(hS.grow g12).mod m3 fun x _ hx=>hE x hx
  have c6':∀ j x,([.int .u8 u.kind,.int .i64 u.n,.slice ra u.runes.length rc,uv,pv]:List Value)[j]?=some x→W3.cell? ((⟨b6,0,none⟩:Addr).add j)=some x:=fun j x hx=>m3.cell (c6 j x hx) (by rw [add_block];exact n6)
  have c7':∀ j x,([.int .u8 v.kind,.int .i64 v.n,rv',uv',pv']:List Value)[j]?=some x→W3.cell? ((⟨b7,0,none⟩:Addr).add j)=some x:=fun j x hx=>m3.cell (hc2 j x hx) (by rw [add_block];exact n7)
  obtain ⟨p,q,rfl,_,hq,hc,rfl⟩:=h1'.get hlt'
  refine ixK_n hlt' ?_
  refine ld1K_i (by have:=hc 0 _ rfl;rwa [Nat.mul_one] at this ⊢) ?_
  rw [faK_i]
  refine ld1K_i (c6' 3 _ rfl) ?_
  obtain ⟨ua,uc,rfl,_⟩:=h2'.shape
  refine ⟨#[.int .i32 u.runes[i],.slice ua u.set.length uc],by kernel_rfl,?_⟩
  dsimp only
  rw [faK_i]
  refine ld1K_i (c7' 4 _ rfl) ?_
  refine callK_mono (acell_ok hS3 h2' k3' (by omega)) ?_
  rintro _ w4 ⟨cv,rfl,o4,g4⟩
  have cv1:=(OwnR.one o4).1
  refine newst_n (vs:=[.int .i32 u.runes[i],cv]) rfl rfl (fun y hy=>by simp at hy;rcases hy with rfl | rfl;rfl;exact cv1) fun b10 w5 hb10 hz5 g5 hc5 _=>?_
  rw [faK_i]
  refine ld1K_i (hc5 0 _ rfl) ?_
  refine rowK_i (cs:=[.int .i32 u.runes[i]]) (by kernel_rfl) ?_
  have g6:Grow w5 (w5.alloc (.cells [Value.int .i32 u.runes[i]].toArray 21)):=Mod.alloc _ _ _
  have o6:OwnR w5.heap.size 21 1 RRune (w5.alloc (.cells [Value.int .i32 u.runes[i]].toArray 21)) (.slice (some ⟨w5.heap.size,0,none⟩) 1 1) [u.runes[i]]:=OwnR.row1 (Nat.le_refl _) rfl (fun y hy=>by simp at hy;subst hy;rfl) rfl
  generalize w5.alloc (.cells [Value.int .i32 u.runes[i]].toArray 21)=w6 at g6 o6 ⊢
  rw [faK_i]
  refine ld1K_i (g6.cell (hc5 1 _ rfl) fun h=>h) ?_
  have g36:=(g4.trans g5).trans g6
  have z36:=g36.size
  have z5:=(g4.trans g5).size
  have hm6:MkI F3 w6 b _:=hm3.mod g36 fun _ _ h=>h
  have hset64:=(cellP_may h64 fu.2.1 fv.2.2 u.runes[i]).2.1
  refine callK_mono (insert_ok (S:=fun x=>W3.heap.size≤x) hm6 (SlR.sub (OwnR.sl o6) (fun x _ h=>Nat.le_trans z5 h.1) (by decide) fun _ _ h=>h) (SlR.sub (OwnR.sl (OwnR.mod o4 (g5.trans g6) (fun _ _ h=>h) fun _ _ _ h=>h)) (fun x _ h=>h.1) (by decide) fun _ _ h=>h)
   (fun x hx hf=>by have:=(hF3 x hf).2;omega) (by omega) (fun o ho=>by have:=e3 o ho;simp only [List.length_cons,List.length_nil];omega) (by simp) (by omega)) ?_
  rintro _ w7 ⟨hm7,m7⟩
  rw [addK_i,loop_step (by omega)]
  refine ⟨⟨i+1,fun x=>(F3 x∨w6.heap.size≤x)∧x < w7.heap.size,hlt',rfl,?_,fun x hx=>?_,(m3.next g36 fun _ _ e=>e.elim).next m7 fun x hx e=>?_⟩,by rw [iOf0,iOf0];omega⟩
  ·rw [List.take_add_one,List.getElem?_eq_getElem hlt',Option.toList,List.foldl_append]
   exact hm7.cut
  ·refine ⟨?_,hx.2⟩
   rcases hx.1 with e | e
   ·exact (hF3 x e).1
   ·exact .inr (by omega)
  ·rcases (hF3 x e).1 with e | e
   ·exact e
   ·omega
end
end Go.Proofs.YtlbaopamhkmepaaGreatDoor

namespace Go.Proofs.YtlbaopamhkmepaaGreatDoor
open Go Go.K
def S154 (v0 v1:Value) (K:Cont) (w:World):Prop:=
 lenK v1 fun t9=>
 gtK .i64 t9 (.int .i64 64) fun t10=>
 condK t10
 (K (.int .i64 3) w)
 (lenK v1 fun t12=>
 LoopK [(.int .i64 0),(.int .i64 0)] (fun vs again w1=>∀ _h:Env,
 ltK .i64 (nth vs 1) t12 fun t14=>
 condK t14
 (ixK 5 v1 (nth vs 1) fun t16=>
 ldnK 5 t16 (fun t17 w2=>
 newK 109 [(.int .i64 0),(.int .u8 0),(.int .i64 0),(.int .u64 0),(.string (ByteArray.mk #[]))] (fun t7 w3=>
 stnK 5 t7 t17 (fun w4=>
 JoinK (fun vs_1 w5=>∀ _h_1:Env,
 condK (nth vs_1 0)
 (K (.int .i64 3) w5)
 (faK 0 t7 fun t40=>
 ld1K t40 (fun t41 w6=>
 faK 1 t7 fun t42=>
 ldnK 4 t42 (fun t43 w7=>
 callK Tryz.prog 192 [v0,t41,t43] (fun t44 w8=>
 notK t44 fun t45=>
 condK t45
 (addK .i64 (nth vs 1) (.int .i64 1) fun t46=>
 again [(.int .i64 4),t46] w8)
 (addK .i64 (nth vs 1) (.int .i64 1) fun t46_1=>
 again [(nth vs 0),t46_1] w8)) w7) w6) w5)) (fun J=>
 DrawC [16] [[],[0],[0,1],[0,1,2],[0,1,2],[0,1,2,4],[0,1,2,3,4,5],[0,1,2,3,4,5,6],[0,1,2,3,4,5,6,7],[0,1,2],[0,1,2,9],[0,1,2,3,4,5,6,7,8,9,10],[0,1,2,3,4,5,6,7,8,9,10,11],[0,1,2,3,4,5,6,7,8,9,10,11,12],[0,1,2,3,4,5,6,7,8,9,10,11,12,13],[0,1,2,3,4,5,6,7,8,9,10,11,12,13,14],[0,1,2,3,4,5,6,7,8,9,10,11,12,13,14,15],[0,1,2,3,4,5,6,7,8,9,10,11,12,13,14,15,16],[0,1,2,3,4,5,6,7,8,9,10,11,12,13,14,15,16,17],[0,1,2,3,4,5,6,7,8,9,10,11,12,13,14,15,16,17,18]] w4.drew (fun M St=>
 gtK .i64 (nth vs 1) (.int .i64 0) fun t20=>
 condK t20
 (subK .i64 (nth vs 1) (.int .i64 1) fun t24=>
 ixK 5 v1 t24 fun t25=>
 faK 0 t25 fun t26=>
 sld1 (St 8) t26 fun t27=>
 faK 0 t7 fun t28=>
 sld1 (St 10) t28 fun t29=>
 geK .i64 t27 t29 fun t30=>
 condK t30
 (J [(.bool true)] w4.drew)
 (faK 1 t7 fun t33=>
 sldn (St 15) 4 t33 fun t34=>
 callK Tryz.prog 191 [t34] (fun t35 w9=>
 Mod (M 16) w4.drew w9∧
 notK t35 fun t36=>
 J [t36] w9) w4.drew))
 (faK 1 t7 fun t33_1=>
 sldn (St 15) 4 t33_1 fun t34_1=>
 callK Tryz.prog 191 [t34_1] (fun t35_1 w10=>
 Mod (M 16) w4.drew w10∧
 notK t35_1 fun t36_1=>
 J [t36_1] w10) w4.drew)))) w3) w2) w1)
 (K (nth vs 0) w1)) w)
theorem S154_eq (v0 v1:Value) (K:Cont) (w:World):S154 v0 v1 K w=D Tryz.prog okf 48 (bodyOf Tryz.f154) (.node [] [] .nil (.node [] [] (.node [] [] .nil (.node [] [] (.node [] [] .nil .nil) .nil)) (.node [] [] .nil (.node [] [] (.node [] [] .nil (.node [5,13] [(4,7),(13,46)] (.node [] [] .nil (.node [] [] (.node [] [] .nil .nil) (.node [] [] (.node [] [] .nil (.cut [18] [(18,37)] (.dc [16] [[],[0],[0,1],[0,1,2],[0,1,2],[0,1,2,4],[0,1,2,3,4,5],[0,1,2,3,4,5,6],[0,1,2,3,4,5,6,7],[0,1,2],[0,1,2,9],[0,1,2,3,4,5,6,7,8,9,10],[0,1,2,3,4,5,6,7,8,9,10,11],[0,1,2,3,4,5,6,7,8,9,10,11,12],[0,1,2,3,4,5,6,7,8,9,10,11,12,13],[0,1,2,3,4,5,6,7,8,9,10,11,12,13,14],[0,1,2,3,4,5,6,7,8,9,10,11,12,13,14,15],[0,1,2,3,4,5,6,7,8,9,10,11,12,13,14,15,16],[0,1,2,3,4,5,6,7,8,9,10,11,12,13,14,15,16,17],[0,1,2,3,4,5,6,7,8,9,10,11,12,13,14,15,16,17,18]] []) (.node [] [] (.node [] [] .nil .nil) (.node [] [] .nil (.node [] [] .nil .nil))))) .nil))) .nil)) (.node [] [] .nil .nil))))) (retK Tryz.prog [.tmp 4] K) (nth [v0,v1]) w:=by kernel_rfl
theorem S154_ok {v0 v1:Value} {K:Cont} {w:World} (h:S154 v0 v1 K w):callK Tryz.prog 154 [v0,v1] K w:=
 callK_of (P:=Tryz.prog) (ok:=okf) (n:=48) (fn:=Tryz.f154) (c:=bodyOf Tryz.f154) (rs:=[.tmp 4]) (an:=(.node [] [] .nil (.node [] [] (.node [] [] .nil (.node [] [] (.node [] [] .nil .nil) .nil)) (.node [] [] .nil (.node [] [] (.node [] [] .nil (.node [5,13] [(4,7),(13,46)] (.node [] [] .nil (.node [] [] (.node [] [] .nil .nil) (.node [] [] (.node [] [] .nil (.cut [18] [(18,37)] (.dc [16] [[],[0],[0,1],[0,1,2],[0,1,2],[0,1,2,4],[0,1,2,3,4,5],[0,1,2,3,4,5,6],[0,1,2,3,4,5,6,7],[0,1,2],[0,1,2,9],[0,1,2,3,4,5,6,7,8,9,10],[0,1,2,3,4,5,6,7,8,9,10,11],[0,1,2,3,4,5,6,7,8,9,10,11,12],[0,1,2,3,4,5,6,7,8,9,10,11,12,13],[0,1,2,3,4,5,6,7,8,9,10,11,12,13,14],[0,1,2,3,4,5,6,7,8,9,10,11,12,13,14,15],[0,1,2,3,4,5,6,7,8,9,10,11,12,13,14,15,16],[0,1,2,3,4,5,6,7,8,9,10,11,12,13,14,15,16,17],[0,1,2,3,4,5,6,7,8,9,10,11,12,13,14,15,16,17,18]] []) (.node [] [] (.node [] [] .nil .nil) (.node [] [] .nil (.node [] [] .nil .nil))))) .nil))) .nil)) (.node [] [] .nil .nil)))))) good mixed Tryz.func154 (by kernel_rfl) (by kernel_rfl) (by kernel_rfl) (by kernel_rfl) (Eq.mp (S154_eq v0 v1 K w) h)

end Go.Proofs.YtlbaopamhkmepaaGreatDoor

namespace Go.Proofs.YtlbaopamhkmepaaGreatDoor
open Go Go.K

theorem smay_ok {D S:Nat→Prop} {sv v:Value} {ks:List DKey} {l:List Attr} {w:World} (hS:SchR D w sv ks) (h:RSet S w v l) (hT:Tabs w) (hI:∀ a ∈ l,0≤a.val.f) :
  callK Tryz.prog 154 [sv,v] (fun v' w'=>v'=.int .i64 (maySet ks l)∧Grow w w') w:=by
 classical
 apply S154_ok
 unfold S154
 obtain ⟨a,c,rfl,hm⟩:=h.shape
 simp only [maxLen] at hm
 have bad:∀ w',Grow w w'→SetBad l→Value.int .i64 3=.int .i64 (maySet ks l)∧Grow w w':=fun w' g hb=>⟨by rw [maySet,if_pos hb],g⟩
 rw [lenK_i,gtK_i]
 refine condK_p (fun h6=>bad _ (Mod.refl _ _) (.inr (.inl (by omega)))) fun h6=>?_
 rw [lenK_i]
 refine LoopK_i (fun vs W=>∃ i:Nat,i≤l.length∧vs=[.int .i64 (if SetNoKey ks (l.take i) then 4 else 0),.int .i64 i]∧Grow w W∧(∀ a ∈ l.take i,ValOK a.val)∧RisN Attr.key l i) (fun vs _=>l.length - iOf vs 1)
  ⟨0,Nat.zero_le _,by rw [if_neg (by rintro ⟨a,ha,_⟩;simp at ha)];rfl,Mod.refl _ _,by simp,fun j hj=>by omega⟩ ?_
 rintro vs W ⟨i,hi,rfl,g,hv,hris⟩ _
 simp only [nth_s,nth_z,List.headD_cons,List.tail_cons]
 rw [ltK_i]
 refine condK_p (fun hlt=>?_) fun hge=>?_
 ·have hlt':i < l.length:=by omega
  obtain ⟨p,r,rfl,_,hr,hc,rfl⟩:=(h.grow g (by decide) fun _ _ h=>h).get hlt'
  refine ixK_n hlt' (ldnK_i hr (fun j u hu=>by rw [Addr.add_add];exact hc j u hu) ?_)
  refine newst_n (vs:=l[i].cells) rfl rfl (RAttr.one (w:=w) (x:=l[i]) rfl) fun b7 W1 hb7 hz7 g7 hc7 _=>?_
  have gW1:=g.trans g7
  have hf0:=hI l[i] (List.getElem_mem hlt')
  have e1:l.take (i+1)=l.take i++[l[i]]:=by rw [List.take_add_one,List.getElem?_eq_getElem hlt'];rfl
  refine JoinK_i (fun vs W2=>Grow W1 W2∧((vs=[.bool true]∧SetBad l)∨(vs=[.bool false]∧ValOK l[i].val∧RisN Attr.key l (i+1)))) ?_ ?_
  ·rintro vs W2 ⟨g2,hvs⟩ _
   rcases hvs with ⟨rfl,hb⟩ | ⟨rfl,hok,hrs⟩
   ·exact condK_t (bad _ (gW1.trans g2) hb)
   ·refine condK_f ?_
    rw [faK_i]
    refine ld1K_i (g2.cell (hc7 0 _ rfl) fun h=>h) ?_
    rw [faK_i]
    refine ldnK_i (vs:=l[i].val.cells) rfl (fun j u hu=>g2.cell (by rw [Addr.add_add];exact hc7 (1+j) u (by rw [Nat.add_comm];exact hu)) fun h=>h) ?_
    refine callK_mono (sfits_ok (hS.grow (gW1.trans g2)) (hT.grow (gW1.trans g2)) hf0) ?_
    rintro _ W3 ⟨rfl,g3⟩
    have g03:=(gW1.trans g2).trans g3
    rw [notK_i]
    have hv':∀ a ∈ l.take (i+1),ValOK a.val:=fun a ha=>by
     rw [e1] at ha
     rcases List.mem_append.1 ha with ha | ha
     ·exact hv a ha
     ·simp at ha;subst ha;exact hok
    by_cases hfit:FitsK ks l[i].key l[i].val
    ·rw [decide_eq_true hfit]
     refine condK_f ?_
     rw [addK_i,loop_step (by omega)]
     refine ⟨⟨i+1,hlt',?_,g03,hv',hrs⟩,by rw [iOf1,iOf1];omega⟩
     have e:SetNoKey ks (l.take (i+1))↔SetNoKey ks (l.take i):=by
      unfold SetNoKey
      rw [e1]
      constructor
      ·rintro ⟨a,ha,hn⟩
       rcases List.mem_append.1 ha with ha | ha
       ·exact ⟨a,ha,hn⟩
       ·simp at ha;subst ha;exact absurd hfit hn
      ·rintro ⟨a,ha,hn⟩;exact ⟨a,List.mem_append_left _ ha,hn⟩
     simp only [e]
    ·rw [decide_eq_false hfit]
     refine condK_t ?_
     rw [addK_i,loop_step (by omega)]
     refine ⟨⟨i+1,hlt',?_,g03,hv',hrs⟩,by rw [iOf1,iOf1];omega⟩
     rw [if_pos (show SetNoKey ks (l.take (i+1)) from ⟨l[i],by rw [e1];exact List.mem_append_right _ (List.mem_singleton.2 rfl),hfit⟩)]
  ·refine drawC_i (fun _ _=>False) ?_
   have gd:Grow W1 W1.drew:=Mod.drew _ _
   -- whether the value may be
   have vmay:RisN Attr.key l (i+1)→faK 1 (.pointer (some (⟨b7,0,none⟩:Addr))) fun t33=>sldn (StI [16] [[],[0],[0,1],[0,1,2],[0,1,2],[0,1,2,4],[0,1,2,3,4,5],[0,1,2,3,4,5,6],[0,1,2,3,4,5,6,7],[0,1,2],[0,1,2,9],[0,1,2,3,4,5,6,7,8,9,10],[0,1,2,3,4,5,6,7,8,9,10,11],[0,1,2,3,4,5,6,7,8,9,10,11,12],[0,1,2,3,4,5,6,7,8,9,10,11,12,13],[0,1,2,3,4,5,6,7,8,9,10,11,12,13,14],[0,1,2,3,4,5,6,7,8,9,10,11,12,13,14,15],[0,1,2,3,4,5,6,7,8,9,10,11,12,13,14,15,16],[0,1,2,3,4,5,6,7,8,9,10,11,12,13,14,15,16,17],[0,1,2,3,4,5,6,7,8,9,10,11,12,13,14,15,16,17,18]] (fun _ _=>False) W1.drew 15) 4 t33 fun t34=>
     callK Tryz.prog 191 [t34] (fun t35 w9=>Mod (fun _=>False) W1.drew w9∧notK t35 fun t36=>(fun vs W2=>Grow W1 W2∧((vs=[.bool true]∧SetBad l)∨(vs=[.bool false]∧ValOK l[i].val∧RisN Attr.key l (i+1)))) [t36] w9) W1.drew:=by
    intro hrs
    rw [faK_i]
    refine sldn_i (vs:=l[i].val.cells) rfl (fun j u hu=>⟨gd.cell (by rw [Addr.add_add];exact hc7 (1+j) u (by rw [Nat.add_comm];exact hu)) fun h=>h,fun _ _ h=>h⟩) ?_
    refine callK_mono (vmay_ok (hT.grow (gW1.trans gd)) hf0) ?_
    rintro _ W3 ⟨rfl,g3⟩
    refine ⟨g3,?_⟩
    rw [notK_i]
    refine ⟨gd.trans g3,?_⟩
    by_cases hok:ValOK l[i].val
    ·exact .inr ⟨by rw [decide_eq_true hok];rfl,hok,hrs⟩
    ·exact .inl ⟨by rw [decide_eq_false hok];rfl,.inr (.inr ⟨l[i],List.getElem_mem hlt',hok⟩)⟩
   rw [gtK_i]
   refine condK_p (fun hi0=>?_) fun hi0=>vmay (fun j hj=>by omega)
   rw [subK_i,wrap64 (by omega) (by omega),show ((i:Int) - 1)=((i - 1:Nat):Int) by omega]
   have hi1:i - 1 < l.length:=by omega
   obtain ⟨_,r2,e2,_,hr2,hc2,rfl⟩:=(h.grow g (by decide) fun _ _ h=>h).get hi1
   cases e2
   refine ixK_n hi1 ?_
   rw [faK_i,Addr.add_add]
   refine sld1_i ⟨(g7.trans gd).cell (hc2 0 _ rfl) fun h=>h,fun _ _ h=>h⟩ ?_
   rw [faK_i]
   refine sld1_i ⟨gd.cell (hc7 0 _ rfl) fun h=>h,fun _ _ h=>h⟩ ?_
   rw [geK_i]
   refine condK_p (fun hge=>⟨gd,.inl ⟨rfl,.inl fun hr=>?_⟩⟩) fun hlt2=>vmay ?_
   ·have:=hr i (by omega) hlt' _ _ (List.getElem?_eq_getElem hi1) (List.getElem?_eq_getElem hlt')
    omega
   ·intro j hj1 hj2 x y hx hy
    by_cases hji:j < i
    ·exact hris j hj1 hji x y hx hy
    ·have:j=i:=by omega
     subst this
     rw [List.getElem?_eq_getElem hi1] at hx
     rw [List.getElem?_eq_getElem hlt'] at hy
     cases hx;cases hy
     omega
 ·have:i=l.length:=by omega
  subst this
  rw [List.take_length] at hv
  refine ⟨?_,g⟩
  have ok:¬ SetBad l:=by
   rintro (h | h | ⟨a,ha,h⟩)
   ·exact h hris
   ·omega
   ·exact h (hv a ha)
  rw [List.take_length,maySet,if_neg ok]
end Go.Proofs.YtlbaopamhkmepaaGreatDoor

namespace Go.Proofs.YtlbaopamhkmepaaGreatDoor
open Go Go.K

theorem validr_ok {r:Int} {w:World}:callK Tryz.prog 195 [.int .i32 r] (fun v' w'=>v'=.bool (decide (MayR r))∧w'=w) w:=by
 apply S195_ok
 unfold S195
 have key:∀ {b:Bool},(b=true↔MayR r)→Value.bool b=.bool (decide (MayR r))∧w=w:=fun h=>⟨by congr 1;rw [Bool.eq_iff_iff,h,decide_eq_true_eq],rfl⟩
 unfold MayR at key ⊢
 rw [leK_i]
 refine condK_p (fun h0=>?_) fun h0=>?_
 ·rw [ltK_i]
  refine condK_p (fun h1=>key (by simp;omega)) fun h1=>?_
  rw [ltK_i]
  refine condK_p (fun h2=>?_) fun h2=>key (by simp;omega)
  rw [leK_i]
  exact condK_p (fun h3=>key (by simp;omega)) fun h3=>key (by simp;omega)
 ·rw [ltK_i]
  refine condK_p (fun h2=>?_) fun h2=>key (by simp;omega)
  rw [leK_i]
  exact condK_p (fun h3=>key (by simp;omega)) fun h3=>key (by simp;omega)
theorem rmayp_ok {r:Int} {w:World}:callK Tryz.prog 159 [.int .i32 r] (fun v' w'=>v'=.bool (decide (MayR r))∧w'=w) w:=by
 apply S159_ok
 unfold S159
 exact validr_ok
theorem crunes_ok {S:Nat→Prop} {v:Value} {l:List Int} {w:World} (h:RRun S w v l) :
  callK Tryz.prog 189 [v,.func (.func 190) #[] #[]] (fun v' w'=>v'=.bool (!decide (∀ r ∈ l,MayR r))∧w'=w) w:=by
 apply S189_ok
 unfold S189
 refine callK_mono (K:=fun v' w'=>w'=w∧((v'=.int .i64 (-1)∧∀ r ∈ l,MayR r)∨∃ i:Nat,v'=.int .i64 i∧¬ ∀ r ∈ l,MayR r)) ?_ ?_
 ·apply S205_ok
  unfold S205
  obtain ⟨a,c,rfl,hm⟩:=h.shape
  simp only [maxLen] at hm
  rw [lenK_i]
  refine LoopK_i (fun vs W=>∃ i:Nat,i≤l.length∧vs=[.int .i64 i]∧W=w∧∀ c ∈ l.take i,MayR c) (fun vs _=>l.length - iOf vs 0) ⟨0,Nat.zero_le _,rfl,rfl,by simp⟩ ?_
  rintro vs _ ⟨i,hi,rfl,rfl,hall⟩ _
  rename World=>w
  rw [nth_z,List.headD_cons,ltK_i]
  refine condK_p (fun hlt=>?_) fun hge=>?_
  ·have hlt':i < l.length:=by omega
   obtain ⟨q,r,rfl,_,hr,hc,rfl⟩:=h.get hlt'
   refine ixK_n hlt' (ld1K_i (by have:=hc 0 _ rfl;exact this) ?_)
   refine callyK_f (by kernel_rfl) ?_
   apply S190_ok
   unfold S190
   refine callK_mono rmayp_ok ?_
   rintro _ _ ⟨rfl,rfl⟩
   rename World=>w
   rw [notK_i]
   by_cases hm1:MayR l[i]
   ·rw [decide_eq_true hm1]
    refine condK_f ?_
    rw [addK_i,loop_step (by omega)]
    refine ⟨⟨i+1,hlt',rfl,rfl,fun c hc=>?_⟩,by rw [iOf0,iOf0];omega⟩
    rw [List.take_add_one,List.getElem?_eq_getElem hlt'] at hc
    rcases List.mem_append.1 hc with hc | hc
    ·exact hall c hc
    ·simp at hc;subst hc;exact hm1
   ·rw [decide_eq_false hm1]
    exact condK_t ⟨rfl,.inr ⟨i,rfl,fun hall=>hm1 (hall _ (List.getElem_mem hlt'))⟩⟩
  ·have:i=l.length:=by omega
   subst this
   exact ⟨rfl,.inl ⟨rfl,fun c hc=>hall c (by rw [List.take_length];exact hc)⟩⟩
 ·rintro _ _ ⟨rfl,⟨rfl,hall⟩ | ⟨i,rfl,hn⟩⟩
  ·rw [geK_i]
   exact ⟨by rw [decide_eq_true hall];rfl,rfl⟩
  ·rw [geK_i]
   exact ⟨by rw [decide_eq_false hn,decide_eq_true (by omega:(i:Int) ≥ 0)];rfl,rfl⟩
def FormP (o:Dop):Prop:=(o.kind=1∧o.runes=[]∧o.set=[])∨(o.kind=3∧o.runes=[]∧o.set=[]∧o.patch=[])∨(o.kind=2∧o.n=0∧o.patch=[]∧∀ r ∈ o.runes,MayR r)
instance (o:Dop):Decidable (FormP o):=by unfold FormP;infer_instance
theorem formO_iff (o:Dop):FormO o↔FormP o∧1≤lenO o∧lenO o≤536870912:=by
 unfold FormO FormP lenO
 constructor
 ·rintro (⟨h1,h2,h3,h4,h5⟩ | ⟨h1,h2,h3,h4,h5,h6⟩ | ⟨h1,h2,h3,h4,h5,h6⟩)
  ·exact ⟨.inl ⟨h1,h2,h3⟩,by rw [h1,if_neg (by decide)];exact h4,by rw [h1,if_neg (by decide)];exact h5⟩
  ·exact ⟨.inr (.inl ⟨h1,h2,h3,h4⟩),by rw [h1,if_neg (by decide)];exact h5,by rw [h1,if_neg (by decide)];exact h6⟩
  ·exact ⟨.inr (.inr ⟨h1,h3,h4,h2⟩),by rw [if_pos h1];omega,by rw [if_pos h1];omega⟩
 ·rintro ⟨⟨h1,h2,h3⟩ | ⟨h1,h2,h3,h4⟩ | ⟨h1,h2,h3,h4⟩,h5,h6⟩
  ·rw [h1,if_neg (by decide)] at h5 h6;exact .inl ⟨h1,h2,h3,h5,h6⟩
  ·rw [h1,if_neg (by decide)] at h5 h6;exact .inr (.inl ⟨h1,h2,h3,h4,h5,h6⟩)
  ·rw [if_pos h1] at h5 h6;exact .inr (.inr ⟨h1,h4,h2,h3,by omega,by omega⟩)
theorem formp_ok {D:Nat→Prop} {r:List Value} {o:Dop} {w:World} (h:RDop D w r o) :
  callK Tryz.prog 152 [.agg r.toArray] (fun v w'=>v=.bool (decide (FormP o))∧Grow w w') w:=by
 apply S152_ok
 unfold S152
 have hr1:=h.one
 obtain ⟨rv,sv,pv,rfl,h1,h2,h3⟩:=h
 refine boxn_i fun b w1 _ hz g hc _=>?_
 have h1':=h1.grow g (by decide) fun _ _ h=>h
 obtain ⟨a1,c1,rfl,m1⟩:=h1.shape
 obtain ⟨a2,c2,rfl,m2⟩:=h2.shape
 obtain ⟨a3,c3,rfl,m3⟩:=h3.shape
 have key:∀ {x:Bool},(x=true↔FormP o)→Value.bool x=.bool (decide (FormP o))∧Grow w w1:=fun h=>⟨by congr 1;rw [Bool.eq_iff_iff,h,decide_eq_true_eq],g⟩
 unfold FormP at key ⊢
 refine JoinK_i (fun vs w2=>w2=w1∧vs=[.bool (decide (¬ (o.runes=[]∧o.set=[])))]) ?_ ?_
 rotate_left
 ·rw [faK_i]
  refine ld1K_i (hc 2 _ rfl) ?_
  rw [lenK_i,gtK_i]
  refine condK_p (fun e=>?_) fun e=>?_
  ·refine ⟨rfl,?_⟩
   rw [decide_eq_true]
   rintro ⟨e2,_⟩;rw [e2] at e;simp at e
  ·have e1:o.runes=[]:=List.eq_nil_of_length_eq_zero (by omega)
   rw [faK_i]
   refine ld1K_i (hc 3 _ rfl) ?_
   rw [lenK_i,gtK_i]
   refine ⟨rfl,?_⟩
   congr 2
   rw [decide_eq_decide]
   constructor
   ·rintro e3 ⟨_,e4⟩;rw [e4] at e3;simp at e3
   ·intro e3
    have:o.set≠[]:=fun e4=>e3 ⟨e1,e4⟩
    have:=List.length_pos_iff.2 this
    omega
 rintro _ _ ⟨rfl,rfl⟩ _
 rename World=>w1
 rw [nth_z,List.headD_cons,faK_i]
 refine ld1K_i (hc 0 _ rfl) ?_
 rw [eqK_i]
 refine condK_p (fun k1=>?_) fun k1=>?_
 ·rw [notK_i]
  refine key ?_
  simp only [k1,decide_not,Bool.not_not,decide_eq_true_eq]
  constructor
  ·exact fun h=>.inl ⟨trivial,h⟩
  ·rintro (h | h | h)
   ·exact h.2
   ·omega
   ·omega
 rw [eqK_i]
 refine condK_p (fun k3=>?_) fun k3=>?_
 ·rw [notK_i]
  by_cases hT:o.runes=[]∧o.set=[]
  ·rw [show (!decide ¬ (o.runes=[]∧o.set=[]))=true by simp [hT]]
   refine condK_t ?_
   rw [faK_i]
   refine ld1K_i (hc 4 _ rfl) ?_
   rw [lenK_i,eqK_i]
   refine key ?_
   rw [decide_eq_true_eq,len0]
   constructor
   ·exact fun h=>.inr (.inl ⟨k3,hT.1,hT.2,h⟩)
   ·rintro (h | h | h)
    ·omega
    ·exact h.2.2.2
    ·omega
  ·rw [show (!decide ¬ (o.runes=[]∧o.set=[]))=false by simp [hT]]
   refine condK_f (key ?_)
   simp only [Bool.false_eq_true,false_iff]
   rintro (h | h | h)
   ·omega
   ·exact hT ⟨h.2.1,h.2.2.1⟩
   ·omega
 rw [eqK_i]
 refine condK_p (fun k2=>?_) fun k2=>key (by simp only [Bool.false_eq_true,false_iff];rintro (h | h | h) <;> omega)
 rw [faK_i]
 refine ld1K_i (hc 1 _ rfl) ?_
 rw [eqK_i]
 refine condK_p (fun hn=>?_) fun hn=>key (by simp only [Bool.false_eq_true,false_iff];rintro (h | h | h) <;> omega)
 rw [faK_i]
 refine ld1K_i (hc 4 _ rfl) ?_
 rw [lenK_i,eqK_i]
 refine condK_p (fun hp=>?_) fun hp=>key (by
  simp only [Bool.false_eq_true,false_iff]
  rintro (h | h | h)
  ·omega
  ·omega
  ·exact hp (len0.2 h.2.2.1))
 rw [len0] at hp
 rw [faK_i]
 refine ld1K_i (hc 2 _ rfl) ?_
 refine callK_mono (crunes_ok h1') ?_
 rintro _ _ ⟨rfl,rfl⟩
 rename World=>w1
 rw [notK_i,Bool.not_not]
 refine key ?_
 rw [decide_eq_true_eq]
 constructor
 ·exact fun h=>.inr (.inr ⟨k2,hn,hp,h⟩)
 ·rintro (h | h | h)
  ·omega
  ·omega
  ·exact h.2.2.2
theorem sizep_ok {D:Nat→Prop} {r:List Value} {o:Dop} {w:World} (h:RDop D w r o) :
  callK Tryz.prog 153 [.agg r.toArray] (fun v w'=>v=.int .i64 (lenO o)∧Grow w w') w:=by
 apply S153_ok
 unfold S153
 obtain ⟨rv,sv,pv,rfl,h1,h2,h3⟩:=h
 obtain ⟨a1,c1,rfl,m1⟩:=h1.shape
 refine boxn_i fun b w1 _ hz g hc _=>?_
 rw [faK_i]
 refine ld1K_i (hc 0 _ rfl) ?_
 rw [eqK_i]
 refine condK_p (fun k1=>?_) fun k1=>?_
 ·rw [faK_i]
  refine ld1K_i (hc 2 _ rfl) ?_
  rw [lenK_i]
  exact ⟨by rw [lenO,if_pos k1],g⟩
 ·rw [faK_i]
  refine ld1K_i (hc 1 _ rfl) ?_
  exact ⟨by rw [lenO,if_neg k1],g⟩
theorem takesp_ok {S D:Nat→Prop} {v:Value} {x:List Dop} {w:World} (h:RDops S D w v x) :
  callK Tryz.prog 94 [v] (fun v' w'=>v'=.int .i64 (sumW takesF x)∧Grow w w') w:=by
 apply S94_ok
 unfold S94
 obtain ⟨a,c,rfl,hm⟩:=h.shape
 simp only [maxLen] at hm
 rw [lenK_i]
 refine LoopK_i (fun vs w1=>∃ k:Nat,k≤x.length∧vs=[.int .i64 (sumW takesF (x.take k)),.int .i64 k]∧Grow w w1) (fun vs _=>x.length - iOf vs 1) ⟨0,Nat.zero_le _,rfl,Mod.refl _ _⟩ ?_
 rintro vs w1 ⟨k,hk,rfl,g⟩ _
 simp only [nth_s,nth_z,List.headD_cons,List.tail_cons]
 rw [ltK_i]
 refine condK_p (fun hlt=>?_) fun hge=>?_
 ·have hlt':k < x.length:=by omega
  obtain ⟨p,r,rfl,hS,hr,hc,hop⟩:=(RDops.grow h g).get hlt'
  refine ixK_n hlt' (ldnK_i hr (fun j u hu=>by rw [Addr.add_add];exact hc j u hu) ?_)
  refine newst_n hr rfl hop.one fun b w2 hb hz g2 hc2 _=>?_
  obtain ⟨rv,sv,pv,rfl,h1,h2,h3⟩:=hop
  rw [faK_i]
  refine ld1K_i (hc2 0 _ rfl) ?_
  rw [neK_i]
  refine condK_neg (fun e=>?_) fun e=>?_
  ·rw [addK_i,loop_step (by omega)]
   refine ⟨⟨k+1,hlt',?_,g.trans g2⟩,by rw [iOf1,iOf1];omega⟩
   rw [sumW_take hlt',takesF,if_pos e,Int.add_zero]
   have:IntKind.i64.wrap (sumW takesF (x.take k))=sumW takesF (x.take k):=by
    by_cases h0:k=0
    ·subst h0;simp [sumW];rfl
    ·obtain ⟨k',rfl⟩:∃ k',k=k'+1:=⟨k - 1,by omega⟩
     rw [sumW_take (by omega)]
     have:=wrap_range (sumW takesF (x.take k')+takesF x[k'])
     rw [wrap64 (by omega) (by omega)]
   rw [this]
  ·rw [faK_i]
   refine ld1K_i (hc2 1 _ rfl) ?_
   rw [addK_i,addK_i,loop_step (by omega)]
   refine ⟨⟨k+1,hlt',?_,g.trans g2⟩,by rw [iOf1,iOf1];omega⟩
   rw [sumW_take hlt',takesF,if_neg e]
 ·have:k=x.length:=by omega
  subst this
  rw [List.take_length]
  exact ⟨rfl,g⟩
theorem makesp_ok {S D:Nat→Prop} {v:Value} {x:List Dop} {w:World} (h:RDops S D w v x) :
  callK Tryz.prog 95 [v] (fun v' w'=>v'=.int .i64 (sumW makesF x)∧Grow w w') w:=by
 apply S95_ok
 unfold S95
 obtain ⟨a,c,rfl,hm⟩:=h.shape
 simp only [maxLen] at hm
 rw [lenK_i]
 refine LoopK_i (fun vs w1=>∃ k:Nat,k≤x.length∧vs=[.int .i64 (sumW makesF (x.take k)),.int .i64 k]∧Grow w w1) (fun vs _=>x.length - iOf vs 1) ⟨0,Nat.zero_le _,rfl,Mod.refl _ _⟩ ?_
 rintro vs w1 ⟨k,hk,rfl,g⟩ _
 simp only [nth_s,nth_z,List.headD_cons,List.tail_cons]
 rw [ltK_i]
 refine condK_p (fun hlt=>?_) fun hge=>?_
 ·have hlt':k < x.length:=by omega
  obtain ⟨p,r,rfl,hS,hr,hc,hop⟩:=(RDops.grow h g).get hlt'
  refine ixK_n hlt' (ldnK_i hr (fun j u hu=>by rw [Addr.add_add];exact hc j u hu) ?_)
  refine newst_n hr rfl hop.one fun b w2 hb hz g2 hc2 _=>?_
  have hop2:=hop.mod (D':=D) g2 (fun _ _ _ h=>h) fun _ _ h=>h
  obtain ⟨rv,sv,pv,rfl,h1,h2,h3⟩:=id hop
  rw [faK_i]
  refine ld1K_i (hc2 0 _ rfl) ?_
  rw [neK_i]
  refine condK_neg (fun e=>?_) fun e=>?_
  ·rw [addK_i,loop_step (by omega)]
   refine ⟨⟨k+1,hlt',?_,g.trans g2⟩,by rw [iOf1,iOf1];omega⟩
   rw [sumW_take hlt',makesF,if_pos e,Int.add_zero]
   have:IntKind.i64.wrap (sumW makesF (x.take k))=sumW makesF (x.take k):=by
    by_cases h0:k=0
    ·subst h0;simp [sumW];rfl
    ·obtain ⟨k',rfl⟩:∃ k',k=k'+1:=⟨k - 1,by omega⟩
     rw [sumW_take (by omega)]
     have:=wrap_range (sumW makesF (x.take k')+makesF x[k'])
     rw [wrap64 (by omega) (by omega)]
   rw [this]
  ·refine ldnK_i hr hc2 ?_
   refine callK_mono (sizep_ok hop2) ?_
   rintro _ w3 ⟨rfl,g3⟩
   rw [addK_i,addK_i,loop_step (by omega)]
   refine ⟨⟨k+1,hlt',?_,(g.trans g2).trans g3⟩,by rw [iOf1,iOf1];omega⟩
   rw [sumW_take hlt',makesF,if_neg e]
 ·have:k=x.length:=by omega
  subst this
  rw [List.take_length]
  exact ⟨rfl,g⟩
theorem ite_iff {α:Type} {p q:Prop} [Decidable p] [Decidable q] {a b:α} (h:p↔q):(if p then a else b)=if q then a else b:=by
 by_cases hp:p
 ·rw [if_pos hp,if_pos (h.1 hp)]
 ·rw [if_neg hp,if_neg fun hq=>hp (h.2 hq)]
def ChgBad (c:Chg):Prop:=(c.gone=true∧c.val≠AVal.zero)∨(c.gone=false∧¬ ValOK c.val)
def ChgNo (ks:List DKey) (c:Chg):Prop:=findK ks c.key=none∨(c.gone=false∧¬ FitsK ks c.key c.val)
set_option maxRecDepth 20000 in
open Classical in
theorem pmayp_ok {D S:Nat→Prop} {sv v:Value} {ks:List DKey} {p:List Chg} {w:World} (hS:SchR D w sv ks) (h:RPat S w v p) (hT:Tabs w) (hI:∀ c ∈ p,0≤c.val.f) :
  callK Tryz.prog 155 [sv,v] (fun v' w'=>v'=.int .i64 (mayPat ks p)∧Grow w w') w:=by
 apply S155_ok
 unfold S155
 obtain ⟨a,c,rfl,hm⟩:=h.shape
 simp only [maxLen] at hm
 have bad:∀ w',Grow w w'→PatBad p→Value.int .i64 3=.int .i64 (mayPat ks p)∧Grow w w':=fun w' g hb=>⟨by rw [mayPat,if_pos hb],g⟩
 rw [lenK_i,gtK_i]
 refine condK_p (fun h6=>bad _ (Mod.refl _ _) (.inr (.inl (by omega)))) fun h6=>?_
 rw [lenK_i]
 refine LoopK_i (fun vs W=>∃ i:Nat,i≤p.length∧vs=[.int .i64 (if PatNoKey ks (p.take i) then 4 else 0),.int .i64 i]∧Grow w W∧(∀ a ∈ p.take i,¬ ChgBad a)∧RisN Chg.key p i) (fun vs _=>p.length - iOf vs 1)
  ⟨0,Nat.zero_le _,by rw [if_neg (by rintro ⟨a,ha,_⟩;simp at ha)];rfl,Mod.refl _ _,by simp,fun j hj=>by omega⟩ ?_
 rintro vs W ⟨i,hi,rfl,g,hv,hris⟩ _
 simp only [nth_s,nth_z,List.headD_cons,List.tail_cons]
 rw [ltK_i]
 refine condK_p (fun hlt=>?_) fun hge=>?_
 rotate_left
 ·have:i=p.length:=by omega
  subst this
  rw [List.take_length] at hv ⊢
  refine ⟨?_,g⟩
  have hnb:¬ PatBad p:=by
   rintro (hn | hn | ⟨c,hc,hn⟩)
   ·exact hn hris
   ·omega
   ·exact hv c hc hn
  unfold mayPat
  rw [if_neg hnb]
 have hlt':i < p.length:=by omega
 have hmem:=List.getElem_mem hlt'
 have hf0:=hI p[i] hmem
 have e1:p.take (i+1)=p.take i++[p[i]]:=by rw [List.take_add_one,List.getElem?_eq_getElem hlt'];rfl
 have hno:PatNoKey ks (p.take (i+1))↔PatNoKey ks (p.take i)∨ChgNo ks p[i]:=by
  unfold PatNoKey ChgNo
  rw [e1]
  constructor
  ·rintro ⟨a,ha,hn⟩
   rcases List.mem_append.1 ha with ha | ha
   ·exact .inl ⟨a,ha,hn⟩
   ·simp at ha;subst ha;exact .inr hn
  ·rintro (⟨a,ha,hn⟩ | hn)
   ·exact ⟨a,List.mem_append_left _ ha,hn⟩
   ·exact ⟨p[i],List.mem_append_right _ (List.mem_singleton.2 rfl),hn⟩
 refine JoinK_i (fun vs W2=>Grow w W2∧vs=[.int .i64 (if PatNoKey ks (p.take (i+1)) then 4 else 0)]∧¬ ChgBad p[i]∧RisN Chg.key p (i+1)) ?_ ?_
 ·rintro vs W2 ⟨g2,rfl,hnb,hr⟩ _
  simp only [nth_s,nth_z,List.headD_cons,List.tail_cons]
  rw [addK_i,loop_step (by omega)]
  refine ⟨⟨i+1,hlt',rfl,g2,fun a ha=>?_,hr⟩,by rw [iOf1,iOf1];omega⟩
  rw [e1] at ha
  rcases List.mem_append.1 ha with ha | ha
  ·exact hv a ha
  ·simp at ha;subst ha;exact hnb
 obtain ⟨q,r,rfl,_,hr,hc,rfl⟩:=(h.grow g (by decide) fun _ _ h=>h).get hlt'
 refine ixK_n hlt' (ldnK_i hr (fun j u hu=>by rw [Addr.add_add];exact hc j u hu) ?_)
 refine newst_n (vs:=p[i].cells) rfl rfl (RChg.one (w:=w) (x:=p[i]) rfl) fun b7 W1 hb7 hz7 g7 hc7 _=>?_
 rw [faK_i]
 refine ld1K_i (hc7 0 _ rfl) ?_
 refine callK_mono (sfind_ok (hS.grow (g.trans g7)) p[i].key) ?_
 rintro _ W2 ⟨rfl,g2⟩
 refine extK_i (vs:=[_,_]) (by rfl) (extK_i (vs:=[_,_]) (by rfl) ?_)
 refine newst_n (vs:=((findK ks p[i].key).getD DKey.zero).cells) rfl rfl (RKey.one (w:=W2) (x:=(findK ks p[i].key).getD DKey.zero) rfl) fun b8 W3 hb8 hz8 g3 _ _=>?_
 have g03:=((g.trans g7).trans g2).trans g3
 have c7:∀ j u,p[i].cells[j]?=some u→W3.cell? ((⟨b7,0,none⟩:Addr).add j)=some u:=fun j u hu=>(g2.trans g3).cell (hc7 j u hu) fun h=>h
 have hgo:p[i].cells[1]?=some (.bool p[i].gone):=rfl
 have hva:∀ j u,p[i].val.cells[j]?=some u→p[i].cells[2+j]?=some u:=fun j u hu=>by rw [Nat.add_comm];exact hu
 refine JoinK_i (fun vs W4=>Grow W3 W4∧((vs=[.bool true]∧PatBad p)∨(vs=[.bool false]∧¬ ChgBad p[i]∧RisN Chg.key p (i+1)))) ?_ ?_
 ·rintro vs W4 ⟨g4,⟨rfl,hb⟩ | ⟨rfl,hnb,hrs⟩⟩ _
  ·exact condK_t (bad _ (g03.trans g4) hb)
  refine condK_f ?_
  rw [notK_i]
  cases hk:findK ks p[i].key with
  | none=>
   refine condK_t ⟨g03.trans g4,?_,hnb,hrs⟩
   rw [if_pos (hno.2 (.inr (.inl hk)))]
  | some k=>
   refine condK_f ?_
   rw [faK_i]
   refine ld1K_i (g4.cell (c7 1 _ hgo) fun h=>h) ?_
   rw [notK_i]
   cases hg:p[i].gone with
   | true=>
    refine condK_f ⟨g03.trans g4,?_,hnb,hrs⟩
    congr 2
    refine ite_iff ?_
    rw [hno]
    constructor
    ·exact .inl
    ·rintro (h | h | h)
     ·exact h
     ·rw [hk] at h;cases h
     ·rw [hg] at h;cases h.1
   | false=>
    refine condK_t ?_
    rw [faK_i]
    refine ld1K_i (g4.cell (c7 0 _ rfl) fun h=>h) ?_
    rw [faK_i]
    refine ldnK_i (vs:=p[i].val.cells) rfl (fun j u hu=>g4.cell (by rw [Addr.add_add];exact c7 (2+j) u (hva j u hu)) fun h=>h) ?_
    refine callK_mono (sfits_ok (hS.grow (g03.trans g4)) (hT.grow (g03.trans g4)) hf0) ?_
    rintro _ W5 ⟨rfl,g5⟩
    rw [notK_i]
    by_cases hfit:FitsK ks p[i].key p[i].val
    ·rw [decide_eq_true hfit]
     refine condK_f ⟨(g03.trans g4).trans g5,?_,hnb,hrs⟩
     congr 2
     refine ite_iff ?_
     rw [hno]
     constructor
     ·exact .inl
     ·rintro (h | h | h)
      ·exact h
      ·rw [hk] at h;cases h
      ·exact (h.2 hfit).elim
    ·rw [decide_eq_false hfit]
     refine condK_t ⟨(g03.trans g4).trans g5,?_,hnb,hrs⟩
     rw [if_pos (hno.2 (.inr (.inr ⟨hg,hfit⟩)))]
 refine JoinK_i (fun vs W4=>Grow W3 W4∧((vs=[.bool true]∧PatBad p)∨(vs=[.bool false]∧RisN Chg.key p (i+1)))) ?_ ?_
 ·rintro vs W4 ⟨g4,⟨rfl,hb⟩ | ⟨rfl,hrs⟩⟩ _
  ·exact condK_t ⟨g4,.inl ⟨rfl,hb⟩⟩
  refine condK_f ?_
  rw [faK_i]
  refine ld1K_i (g4.cell (c7 1 _ hgo) fun h=>h) ?_
  cases hg:p[i].gone with
  | true=>
   refine condK_t ?_
   rw [faK_i]
   refine ldnK_i (vs:=p[i].val.cells) rfl (fun j u hu=>g4.cell (by rw [Addr.add_add];exact c7 (2+j) u (hva j u hu)) fun h=>h) ?_
   refine ⟨AVal.zero.cells.toArray,by kernel_rfl,?_⟩
   refine runK_i (run_ne_val _ _ p[i].val AVal.zero W4) ?_
   by_cases hz:p[i].val=AVal.zero
   ·rw [decide_eq_true hz]
    refine condK_f ?_
    rw [faK_i]
    refine ld1K_i (g4.cell (c7 1 _ hgo) fun h=>h) ?_
    rw [notK_i,hg]
    refine condK_f ⟨g4,.inr ⟨rfl,?_,hrs⟩⟩
    rintro (h | h)
    ·exact h.2 hz
    ·rw [hg] at h;cases h.1
   ·rw [decide_eq_false hz]
    exact condK_t ⟨g4,.inl ⟨rfl,.inr (.inr ⟨p[i],hmem,.inl ⟨hg,hz⟩⟩)⟩⟩
  | false=>
   refine condK_f ?_
   rw [faK_i]
   refine ld1K_i (g4.cell (c7 1 _ hgo) fun h=>h) ?_
   rw [notK_i,hg]
   refine condK_t ?_
   rw [faK_i]
   refine ldnK_i (vs:=p[i].val.cells) rfl (fun j u hu=>g4.cell (by rw [Addr.add_add];exact c7 (2+j) u (hva j u hu)) fun h=>h) ?_
   refine callK_mono (vmay_ok (hT.grow (g03.trans g4)) hf0) ?_
   rintro _ W5 ⟨rfl,g5⟩
   rw [notK_i]
   refine ⟨g4.trans g5,?_⟩
   by_cases hok:ValOK p[i].val
   ·refine .inr ⟨by rw [decide_eq_true hok];rfl,?_,hrs⟩
    rintro (h | h)
    ·rw [hg] at h;cases h.1
    ·exact h.2 hok
   ·exact .inl ⟨by rw [decide_eq_false hok];rfl,.inr (.inr ⟨p[i],hmem,.inr ⟨hg,hok⟩⟩)⟩
 refine drawK_i (fun W=>Grow W3 W) (Mod.drew _ _) ?_
 rw [gtK_i]
 refine condK_p (fun hi0=>?_) fun hi0 W4 g4=>⟨g4,.inr ⟨rfl,fun j hj=>by omega⟩⟩
 rw [subK_i,wrap64 (by omega) (by omega),show ((i:Int) - 1)=((i - 1:Nat):Int) by omega]
 have hi1:i - 1 < p.length:=by omega
 obtain ⟨_,r2,e2,_,hr2,hc2,rfl⟩:=(h.grow g03 (by decide) fun _ _ h=>h).get hi1
 cases e2
 refine ixK_n hi1 ?_
 rw [faK_i,Addr.add_add]
 refine qld1K_i (fun W hW=>hW.cell (hc2 0 _ rfl) fun h=>h) ?_
 rw [faK_i]
 refine qld1K_i (fun W hW=>hW.cell (c7 0 _ rfl) fun h=>h) ?_
 rw [geK_i]
 intro W4 g4
 by_cases hge:p[i - 1].key ≥ p[i].key
 ·rw [decide_eq_true hge]
  refine ⟨g4,.inl ⟨rfl,.inl fun hall=>?_⟩⟩
  have:=hall i (by omega) hlt' _ _ (List.getElem?_eq_getElem hi1) (List.getElem?_eq_getElem hlt')
  omega
 ·rw [decide_eq_false hge]
  refine ⟨g4,.inr ⟨rfl,fun j h1 h2 a b ha hb=>?_⟩⟩
  by_cases e:j=i
  ·subst e
   rw [List.getElem?_eq_getElem hi1] at ha
   rw [List.getElem?_eq_getElem hlt'] at hb
   cases ha;cases hb;omega
  ·exact hris j h1 (by omega) a b ha hb
def InO (o:Dop):Prop:=(∀ a ∈ o.set,0≤a.val.f)∧∀ c ∈ o.patch,0≤c.val.f
open Classical in
noncomputable def mayO (ks:List DKey) (o:Dop):Int:=if ¬ FormO o then 3 else if maySet ks o.set≠0 then maySet ks o.set else mayPat ks o.patch
open Classical in
theorem onep_ok {E D:Nat→Prop} {sv:Value} {ks:List DKey} {r:List Value} {o:Dop} {w:World} (hS:SchR E w sv ks) (h:RDop D w r o) (hT:Tabs w) (hI:InO o) :
  callK Tryz.prog 93 [sv,.agg r.toArray] (fun v w'=>v=.int .i64 (mayO ks o)∧Grow w w') w:=by
 apply S93_ok
 unfold S93
 refine boxn_i fun b w1 _ hz g hc _=>?_
 have hr5:r.length=5:=by obtain ⟨_,_,_,rfl,_⟩:=h;rfl
 have h1:=h.mod (D':=D) g (fun _ _ _ h=>h) fun _ _ h=>h
 refine JoinK_i (fun vs w2=>Grow w1 w2∧FormO o) ?_ ?_
 ·rintro vs w2 ⟨g2,hf⟩ _
  obtain ⟨rv,uv,pv,rfl,q1,q2,q3⟩:=h1.mod (D':=D) g2 (fun _ _ _ h=>h) fun _ _ h=>h
  rw [faK_i]
  refine ld1K_i (g2.cell (hc 3 _ rfl) fun h=>h) ?_
  refine callK_mono (smay_ok (hS.grow (g.trans g2)) q2 (hT.grow (g.trans g2)) hI.1) ?_
  rintro _ w3 ⟨rfl,g3⟩
  rw [neK_i]
  have e0:mayO ks o=if maySet ks o.set≠0 then maySet ks o.set else mayPat ks o.patch:=by rw [mayO,if_neg (not_not_intro hf)]
  refine condK_neg (fun hz=>?_) fun hz=>⟨by rw [e0,if_pos hz],(g.trans g2).trans g3⟩
  rw [faK_i]
  refine ld1K_i ((g2.trans g3).cell (hc 4 _ rfl) fun h=>h) ?_
  refine callK_mono (pmayp_ok (hS.grow ((g.trans g2).trans g3)) (q3.grow g3 (by decide) fun _ _ h=>h) (hT.grow ((g.trans g2).trans g3)) hI.2) ?_
  rintro _ w4 ⟨rfl,g4⟩
  exact ⟨by rw [e0,if_neg (not_not_intro hz)],((g.trans g2).trans g3).trans g4⟩
 have no:∀ w',Grow w1 w'→¬ FormO o→Value.int .i64 3=.int .i64 (mayO ks o)∧Grow w w':=fun w' g' hn=>⟨by rw [mayO,if_pos hn],g.trans g'⟩
 refine ldnK_i hr5 hc ?_
 refine callK_mono (formp_ok h1) ?_
 rintro _ w2 ⟨rfl,g2⟩
 rw [notK_i]
 refine condK_neg (fun hp=>?_) fun hp=>no _ g2 fun hf=>hp ((formO_iff o).1 hf).1
 refine ldnK_i hr5 (fun j u hu=>g2.cell (hc j u hu) fun h=>h) ?_
 refine callK_mono (sizep_ok (h1.mod (D':=D) g2 (fun _ _ _ h=>h) fun _ _ h=>h)) ?_
 rintro _ w3 ⟨rfl,g3⟩
 rw [ltK_i]
 refine condK_p (fun hl=>no _ (g2.trans g3) fun hf=>by have:=((formO_iff o).1 hf).2.1;omega) fun hl=>?_
 refine ldnK_i hr5 (fun j u hu=>(g2.trans g3).cell (hc j u hu) fun h=>h) ?_
 refine callK_mono (sizep_ok (h1.mod (D':=D) (g2.trans g3) (fun _ _ _ h=>h) fun _ _ h=>h)) ?_
 rintro _ w4 ⟨rfl,g4⟩
 rw [gtK_i]
 refine condK_p (fun hl2=>no _ ((g2.trans g3).trans g4) fun hf=>by have:=((formO_iff o).1 hf).2.2;omega) fun hl2=>⟨(g2.trans g3).trans g4,(formO_iff o).2 ⟨hp,by omega,by omega⟩⟩
theorem maySet_nil (ks:List DKey):maySet ks []=0:=setK_iff.2 setK_nil
theorem mayPat_nil (ks:List DKey):mayPat ks []=0:=patK_iff.2 patK_nil
theorem maySet_v (ks:List DKey) (l:List Attr):maySet ks l=0∨maySet ks l=3∨maySet ks l=4:=by
 unfold maySet;split
 ·exact .inr (.inl rfl)
 ·split
  ·exact .inr (.inr rfl)
  ·exact .inl rfl
theorem mayPat_v (ks:List DKey) (l:List Chg):mayPat ks l=0∨mayPat ks l=3∨mayPat ks l=4:=by
 unfold mayPat;split
 ·exact .inr (.inl rfl)
 ·split
  ·exact .inr (.inr rfl)
  ·exact .inl rfl
theorem mayO_v (ks:List DKey) (o:Dop):(mayO ks o=3↔¬ FormO o∨maySet ks o.set=3∨mayPat ks o.patch=3)∧(mayO ks o=0∨mayO ks o=3∨mayO ks o=4)∧(mayO ks o≠3→(mayO ks o=0↔maySet ks o.set=0∧mayPat ks o.patch=0)):=by
 have v1:=maySet_v ks o.set
 have v2:=mayPat_v ks o.patch
 by_cases hf:FormO o
 ·have hx:maySet ks o.set=0∨mayPat ks o.patch=0:=by
   rcases hf with ⟨_,_,h,_⟩ | ⟨_,_,h,_⟩ | ⟨_,_,_,h,_⟩
   ·left;rw [h];exact maySet_nil ks
   ·left;rw [h];exact maySet_nil ks
   ·right;rw [h];exact mayPat_nil ks
  unfold mayO
  rw [if_neg (not_not_intro hf)]
  by_cases hz:maySet ks o.set=0
  ·rw [if_neg (not_not_intro hz)]
   exact ⟨⟨fun h=>.inr (.inr h),fun h=>by rcases h with h | h | h;exact (h hf).elim;omega;exact h⟩,v2,fun _=>⟨fun h=>⟨hz,h⟩,fun h=>h.2⟩⟩
  ·rw [if_pos hz]
   refine ⟨⟨fun h=>.inr (.inl h),fun h=>by rcases h with h | h | h;exact (h hf).elim;exact h;omega⟩,v1,fun _=>⟨fun h=>⟨h,by omega⟩,fun h=>h.1⟩⟩
 ·unfold mayO
  rw [if_pos hf]
  exact ⟨⟨fun _=>.inl hf,fun _=>rfl⟩,.inr (.inl rfl),fun h=>(h rfl).elim⟩
open Classical in
theorem maypo_ok {E S D:Nat→Prop} {sv v:Value} {ks:List DKey} {x:List Dop} {w:World} (hS:SchR E w sv ks) (h:RDops S D w v x) (hT:Tabs w) (hI:∀ o ∈ x,InO o) :
  callK Tryz.prog 59 [sv,v] (fun v' w'=>v'=.int .i64 (mayOps ks x)∧Grow w w') w:=by
 apply S59_ok
 unfold S59
 have ho:=h
 obtain ⟨a,c,rfl,hm⟩:=h.shape
 simp only [maxLen] at hm
 have bad:∀ w',Grow w w'→OpsBad ks x→Value.int .i64 3=.int .i64 (mayOps ks x)∧Grow w w':=fun w' g hb=>⟨by rw [mayOps,if_pos hb],g⟩
 rw [lenK_i]
 refine LoopK_i (fun vs w1=>∃ k:Nat,k≤x.length∧vs=[.int .i64 (if OpsNoKey ks (x.take k) then 4 else 0),.int .i64 k]∧Grow w w1∧∀ o ∈ x.take k,mayO ks o≠3) (fun vs _=>x.length - iOf vs 1)
  ⟨0,Nat.zero_le _,by rw [if_neg (by rintro ⟨a,ha,_⟩;simp at ha)];rfl,Mod.refl _ _,by simp⟩ ?_
 rintro vs w1 ⟨k,hk,rfl,g,hall⟩ _
 simp only [nth_s,nth_z,List.headD_cons,List.tail_cons]
 rw [ltK_i]
 refine condK_p (fun hlt=>?_) fun hge=>?_
 ·have hlt':k < x.length:=by omega
  have hmem:=List.getElem_mem hlt'
  obtain ⟨p,r,rfl,_,hr,hc,hop⟩:=(RDops.grow h g).get hlt'
  refine ixK_n hlt' (ldnK_i hr (fun j u hu=>by rw [Addr.add_add];exact hc j u hu) ?_)
  refine newst_n hr rfl hop.one fun b w2 hb hz g2 hc2 _=>?_
  refine ldnK_i hr hc2 ?_
  refine callK_mono (onep_ok (hS.grow (g.trans g2)) (hop.mod (D':=D) g2 (fun _ _ _ h=>h) fun _ _ h=>h) (hT.grow (g.trans g2)) (hI _ hmem)) ?_
  rintro _ w3 ⟨rfl,g3⟩
  have g03:=(g.trans g2).trans g3
  obtain ⟨m1,m2,m3⟩:=mayO_v ks x[k]
  rw [eqK_i]
  refine condK_p (fun h3=>?_) fun h3=>?_
  ·rw [h3];exact bad _ g03 (.inl ⟨_,hmem,m1.1 h3⟩)
  have e1:x.take (k+1)=x.take k++[x[k]]:=by rw [List.take_add_one,List.getElem?_eq_getElem hlt'];rfl
  have hall':∀ o ∈ x.take (k+1),mayO ks o≠3:=fun o ho=>by
   rw [e1] at ho
   rcases List.mem_append.1 ho with ho | ho
   ·exact hall o ho
   ·simp at ho;subst ho;exact h3
  have hno:OpsNoKey ks (x.take (k+1))↔OpsNoKey ks (x.take k)∨mayO ks x[k]≠0:=by
   unfold OpsNoKey
   rw [e1]
   constructor
   ·rintro ⟨a,ha,hn⟩
    rcases List.mem_append.1 ha with ha | ha
    ·exact .inl ⟨a,ha,hn⟩
    ·simp at ha;subst ha
     exact .inr fun h0=>by have:=(m3 h3).1 h0;rcases hn with hn | hn;exact hn this.1;exact hn this.2
   ·rintro (⟨a,ha,hn⟩ | hn)
    ·exact ⟨a,List.mem_append_left _ ha,hn⟩
    ·refine ⟨x[k],List.mem_append_right _ (List.mem_singleton.2 rfl),?_⟩
     by_cases hz:maySet ks x[k].set=0
     ·exact .inr fun h0=>hn ((m3 h3).2 ⟨hz,h0⟩)
     ·exact .inl hz
  rw [neK_i]
  refine condK_neg (fun h0=>?_) fun h0=>?_
  ·rw [addK_i,loop_step (by omega)]
   refine ⟨⟨k+1,hlt',?_,g03,hall'⟩,by rw [iOf1,iOf1];omega⟩
   congr 2
   refine ite_iff ?_
   rw [hno]
   exact ⟨.inl,fun h'=>by rcases h' with h' | h';exact h';exact (h' h0).elim⟩
  ·rw [addK_i,loop_step (by omega)]
   refine ⟨⟨k+1,hlt',?_,g03,hall'⟩,by rw [iOf1,iOf1];omega⟩
   rw [if_pos (hno.2 (.inr h0))]
   congr 2
   omega
 ·have:k=x.length:=by omega
  subst this
  rw [List.take_length] at hall ⊢
  refine callK_mono (takesp_ok (RDops.grow ho g)) ?_
  rintro _ w2 ⟨rfl,g2⟩
  rw [gtK_i]
  refine condK_p (fun h1=>bad _ (g.trans g2) (.inr (.inl h1))) fun h1=>?_
  refine callK_mono (makesp_ok (RDops.grow ho (g.trans g2))) ?_
  rintro _ w3 ⟨rfl,g3⟩
  rw [gtK_i]
  refine condK_p (fun h2=>bad _ ((g.trans g2).trans g3) (.inr (.inr h2))) fun h2=>?_
  refine ⟨?_,(g.trans g2).trans g3⟩
  have hnb:¬ OpsBad ks x:=by
   rintro (⟨o,ho,hn⟩ | hn | hn)
   ·exact hall o ho ((mayO_v ks o).1.2 hn)
   ·exact h1 hn
   ·exact h2 hn
  unfold mayOps
  rw [if_neg hnb]
end Go.Proofs.YtlbaopamhkmepaaGreatDoor

namespace Go.Proofs.YtlbaopamhkmepaaGreatDoor
open Go Go.K

section
variable {ks:List DKey}
theorem good_head {o:Dop} {n:Nat} (h:GoodK ks o) (h1:1≤n) (h2:n≤lenN o):GoodK ks (headO n o):=by
 rcases h with ⟨k1,k2,k3,k4,k5⟩ | ⟨k1,k2,k3,k4,k5⟩ | ⟨k1,k2,k3,k4,k5,k6⟩
 ·unfold headO
  rw [if_neg (by omega)]
  exact .inl ⟨k1,k2,k3,by simp only;omega,k5⟩
 ·unfold headO
  rw [if_neg (by omega)]
  exact .inr (.inl ⟨k1,k2,k3,k4,by simp only;omega⟩)
 ·unfold headO
  rw [if_pos k1]
  simp only [lenN,k1,if_true] at h2
  refine .inr (.inr ⟨rfl,fun r hr=>k2 r (List.mem_of_mem_take hr),k3,k4,?_,k6⟩)
  intro e
  have:=congrArg List.length e
  simp at this
  rcases this with h | h
  ·omega
  ·exact k5 h
theorem good_rest {o:Dop} {n:Nat} (h:GoodK ks o) (h2:n < lenN o):GoodK ks (restO n o):=by
 rcases h with ⟨k1,k2,k3,k4,k5⟩ | ⟨k1,k2,k3,k4,k5⟩ | ⟨k1,k2,k3,k4,k5,k6⟩
 ·unfold restO
  simp only [lenN,show o.kind≠2 by omega,if_false] at h2
  rw [if_neg (by omega)]
  exact .inl ⟨k1,k2,k3,by simp only;omega,k5⟩
 ·unfold restO
  simp only [lenN,show o.kind≠2 by omega,if_false] at h2
  rw [if_neg (by omega)]
  exact .inr (.inl ⟨k1,k2,k3,k4,by simp only;omega⟩)
 ·unfold restO
  rw [if_pos k1]
  simp only [lenN,k1,if_true] at h2
  refine .inr (.inr ⟨rfl,fun r hr=>k2 r (List.mem_of_mem_drop hr),k3,k4,?_,k6⟩)
  intro e
  have:=congrArg List.length e
  simp at this
  omega
theorem good_behind {n:Nat} {x:List Dop} (h:∀ o ∈ x,GoodK ks o):∀ o ∈ behind n x,GoodK ks o:=by
 cases x with
 | nil=>intro o ho;simp [behind] at ho
 | cons a x=>
  intro o ho
  simp only [behind] at ho
  split at ho
  ·rcases List.mem_cons.1 ho with rfl | ho
   ·exact good_rest (h a (by simp)) (by assumption)
   ·exact h o (by simp [ho])
  ·exact h o (by simp [ho])
theorem GoodM.more {PS:List Attr→Prop} {PP:List Chg→Prop} {s:MkS} {t t':Nat} (h:GoodM PS PP s t) (ht:t≤t'):GoodM PS PP s t':=⟨h.done,h.ins,h.gone,Nat.le_trans h.tot ht⟩
theorem good_both (h64:ks.length≤64) {s:MkS} {t n:Nat} {u v:Dop} (hs:GoodM (SetK ks) (PatK ks) s t) (hu:GoodK ks u) (hv:GoodK ks v) (h1:lenN u=n) (h2:lenN v=n) (hk:v.kind≠2) (hku:u.kind≠3) (hn:1≤n) (ht:t+n≤16777216):GoodM (SetK ks) (PatK ks) (bothS ks s u v) (t+n):=by
 have fu:=GoodK.form hu (by omega)
 have fv:=GoodK.form hv (by omega)
 have vk:v.kind=1∨v.kind=3:=by rcases hv with ⟨h,_⟩ | ⟨h,_⟩ | ⟨h,_⟩ <;> omega
 have uk:u.kind=1∨u.kind=2:=by rcases hu with ⟨h,_⟩ | ⟨h,_⟩ | ⟨h,_⟩ <;> omega
 have ln:v.n=n:=by
  have:=h2
  simp only [lenN,hk,if_false] at this
  omega
 unfold bothS
 by_cases ku:u.kind=1
 ·rw [if_pos ku]
  by_cases kv:v.kind=1
  ·rw [if_pos kv]
   have:=good_step hs (o:=⟨1,v.n,[],[],comP u.patch v.patch⟩) (.inl ⟨rfl,rfl,rfl,by simp only;omega,comP_may h64 fu.2.2 fv.2.2⟩) (by simp only [lenN,show ¬ (1:Int)=2 by decide,if_false];omega)
   simp only [lenN,show ¬ (1:Int)=2 by decide,if_false,ln,Int.toNat_natCast] at this
   rw [ln]
   simpa [stepS] using this
  ·rw [if_neg kv]
   have k3:v.kind=3:=by omega
   have:=good_step hs hv (by omega)
   rw [h2] at this
   simpa [stepS,k3] using this
 ·rw [if_neg ku]
  split
  ·have hl:u.runes.length=n:=by simpa [lenN,show u.kind=2 by omega] using h1
   have hr:∀ r ∈ u.runes,MayR r:=by
    rcases hu with ⟨h,_⟩ | ⟨h,_⟩ | ⟨h,e,_⟩
    ·omega
    ·omega
    ·exact e
   have:=fold_good h64 u.set v.patch fu.2.1 fv.2.2 u.runes hr hs (by omega)
   rwa [hl] at this
  ·exact hs.more (by omega)
theorem cmp_in (h64:ks.length≤64) {x y:List Dop} (hx:∀ o ∈ x,GoodK ks o∧InO o) (hy:∀ o ∈ y,GoodK ks o∧InO o) (hb:total x+total y≤1099511627776):∀ z ∈ cmpD ks x y,InO z:=by
 obtain ⟨h1,h2⟩:=ref_good h64 (fun o ho=>(hx o ho).1) fun o ho=>(hy o ho).1
 have one:∀ {l:List Dop},(∀ o ∈ l,GoodK ks o∧InO o)→∀ u ∈ onesL l,InO u:=fun {l} hl u hu=>by
  simp only [onesL,List.mem_flatMap] at hu
  obtain ⟨o,ho,hu⟩:=hu
  obtain ⟨_,e1,e2⟩:=ones_kind hu
  have:=(hl o ho).2
  unfold InO at this ⊢
  rw [e1,e2];exact this
 have hin:∀ z ∈ refC (oneP ks) (onesL x) (onesL y),InO z:=by
  intro z hz
  rcases refC_mem hz with h | h | ⟨u,c,hu,hc,_,h⟩
  ·exact one hx z h
  ·exact one hy z h
  ·have iu:InO u:=by
    rcases hu with hu | rfl
    ·exact one hx u hu
    ·exact ⟨by simp,by simp⟩
   have ic:=one hy c hc
   unfold oneP at h
   split at h
   ·split at h
    ·simp at h;subst h;exact ic
    ·split at h
     ·simp at h;subst h
      refine ⟨by simp,fun d hd=>?_⟩
      rcases comP_mem hd with hd | hd
      ·exact iu.2 d hd
      ·exact ic.2 d hd
     ·simp at h
   ·split at h
    ·simp at h;subst h
     refine ⟨fun a ha=>?_,by simp⟩
     rcases appP_mem ha with ha | ⟨d,hd,_,rfl⟩
     ·exact iu.1 a ha
     ·exact ic.2 d (List.mem_filter.1 hd).1
    ·simp at h
 obtain ⟨h3,_⟩:=good_norm (PS:=fun l=>∀ a ∈ l,0≤a.val.f) (PP:=fun p=>∀ c ∈ p,0≤c.val.f) (refC (oneP ks) (onesL x) (onesL y)) (fun z hz=>by
  have i:=hin z hz
  rcases (h1 z hz).1 with ⟨k1,k2,k3,k4,k5⟩ | ⟨k1,k2,k3,k4,k5⟩ | ⟨k1,k2,k3,k4,k5,k6⟩
  ·exact .inl ⟨k1,k2,k3,k4,i.2⟩
  ·exact .inr (.inl ⟨k1,k2,k3,k4,k5⟩)
  ·exact .inr (.inr ⟨k1,k2,k3,k4,k5,i.1⟩)) (by omega)
 intro z hz
 rcases h3 z hz with ⟨k1,k2,k3,k4,k5⟩ | ⟨k1,k2,k3,k4,k5⟩ | ⟨k1,k2,k3,k4,k5,k6⟩
 ·exact ⟨by rw [k3];simp,k5⟩
 ·exact ⟨by rw [k3];simp,by rw [k4];simp⟩
 ·exact ⟨k6,by rw [k4];simp⟩
theorem cmay_ok {E S D S' D':Nat→Prop} {sv xv yv:Value} {x y:List Dop} {w:World} (hS:SchR E w sv ks) (hx:RDops S D w xv x) (hy:RDops S' D' w yv y) (hT:Tabs w) (ix:∀ o ∈ x,InO o) (iy:∀ o ∈ y,InO o) (mx:mayOps ks x=0) (my:mayOps ks y=0) :
  callK Tryz.prog 141 [sv,xv,yv] (fun v' w'=>v'=.int .i64 0∧Grow w w') w:=by
 apply S141_ok
 unfold S141
 refine callK_mono (maypo_ok hS hx hT ix) ?_
 rintro _ w1 ⟨rfl,g1⟩
 refine callK_mono (maypo_ok (hS.grow g1) (RDops.grow hy g1) (hT.grow g1) iy) ?_
 rintro _ w2 ⟨rfl,g2⟩
 rw [mx,my,eqK_i]
 exact condK_p (fun _=>⟨rfl,g1.trans g2⟩) fun e=>(e rfl).elim
end
end Go.Proofs.YtlbaopamhkmepaaGreatDoor

namespace Go.Proofs.YtlbaopamhkmepaaGreatDoor
open Go Go.K

def COut (B:Nat) (W:World) (ov:Value) (out:List Dop):Prop:=∃ C:Nat→Prop,OwnR B 39 5 (RDop C) W ov out∧∀ b,C b→b < W.heap.size∧ov.ownBlock≠some b
section
variable {B:Nat} {W W':World} {ov:Value} {out:List Dop}
theorem COut.nil:COut B W (.slice none 0 0) []:=⟨fun _=>False,OwnR.nil,fun _ h=>h.elim⟩
theorem COut.mod {M:Nat→Prop} (h:COut B W ov out) (m:Mod M W W') (hM:∀ b,M b→b < W.heap.size→b < B) (hC:∀ b,M b→b < W.heap.size→False):COut B W' ov out:=by
 obtain ⟨C,h1,h2⟩:=h
 exact ⟨C,OwnR.mod h1 m (fun g hg e=>hC g e (OwnR.ownB h1 g hg).2) fun r x _ hx=>hx.mod m (fun b hb _ e=>hC b e hb) fun _ _ h=>h,fun b hb=>⟨Nat.lt_of_lt_of_le (h2 b hb).1 m.size,(h2 b hb).2⟩⟩
theorem COut.grow (h:COut B W ov out) (g:Grow W W'):COut B W' ov out:=h.mod g (fun _ e=>e.elim) fun _ e=>e.elim
theorem COut.own (h:COut B W ov out):∀ b,ov.ownBlock=some b→B≤b∧b < W.heap.size:=by
 obtain ⟨C,h1,_⟩:=h
 exact fun b hb=>OwnR.ownB h1 b hb
theorem COut.rd (h:COut B W ov out):∃ S D:Nat→Prop,RDops S D W ov out:=by
 obtain ⟨C,h1,_⟩:=h
 exact ⟨_,_,OwnR.sl h1⟩
theorem fill5 {C2:Nat→Prop} {r:List Value} {o:Dop} (hr:RDop C2 W r o):Instr.fill (fun i=>some (i * 5,5)) ((Array.range (1 * 5)).map (([.int .u8 0,.int .i64 0,.slice none 0 0,.slice none 0 0,.slice none 0 0]:List Value).toArray[· % ([.int .u8 0,.int .i64 0,.slice none 0 0,.slice none 0 0,.slice none 0 0]:List Value).toArray.size]!)) [(0,.agg r.toArray)]=some r.toArray:=by
 obtain ⟨rv',sv',pv',rfl,_⟩:=hr
 kernel_rfl
theorem COut.push2 {C2:Nat→Prop} {r:List Value} {o:Dop} {K:Cont} {Q1:World→Prop} {Q2:World→World→Prop} (h:COut B W ov out) (hB:B≤W.heap.size) (hr:RDop C2 W r o) (hC2:∀ b,C2 b→b < W.heap.size∧ov.ownBlock≠some b) (hl:out.length≤1000000) (hQ1:∀ w1,Grow W w1→Q1 w1)
  (hK:∀ w1 v' w',COut B w' v' (out++[o])→Mod (fun b=>ov.ownBlock=some b) w1 w'→Mod (fun b=>ov.ownBlock=some b) W w'→Q2 w1 w'∧K v' w') :
  rowK 39 5 1 [(.int .u8 0),(.int .i64 0),(.slice none 0 0),(.slice none 0 0),(.slice none 0 0)] [(0,.agg r.toArray)] (fun s w1=>Q1 w1∧runK Tryz.prog (Builtin.append_ #[31,31] 31 [ov,s].toArray) (fun v' w'=>Q2 w1 w'∧K v' w') w1) W:=by
 obtain ⟨C,h1,h2⟩:=h
 have m0:Mod (fun _=>False) W W:=Mod.refl _ _
 have h1':OwnR B 39 5 (RDop fun b=>C b∨C2 b) W ov out:=OwnR.mod h1 m0 (fun _ _ h=>h) fun r x _ hx=>hx.mod m0 (fun _ _ _ h=>h) fun _ _ h=>.inl h
 have hcc:∀ b,C b∨C2 b→b < W.heap.size∧ov.ownBlock≠some b:=fun b hb=>by
  rcases hb with hb | hb
  ·exact h2 b hb
  ·exact hC2 b hb
 have hr':RDop (fun b=>C b∨C2 b) W r o:=hr.mod m0 (fun _ _ _ h=>h) fun _ _ h=>.inr h
 have hr5:r.length=5:=by obtain ⟨_,_,_,rfl,_⟩:=hr;rfl
 have hf:=fill5 hr
 refine push_g2 elem_dop h1' hB hf hr5 hr' (fun _ _ _=>RDop.one) (fun w1 w2 r y _ hm hx=>hx.mod hm (fun b _ hd e=>by
  rcases e with e | e
  ·exact (hcc b hd).2 e
  ·have:=(hcc b hd).1;omega) fun _ _ h=>h) (by omega) (by simp only [maxLen];omega) hQ1 fun w1 v' w' o' m1 m' hv'=>hK w1 v' w' ⟨_,o',fun b hb=>⟨Nat.lt_of_lt_of_le (hcc b hb).1 m'.size,fun e=>?_⟩⟩ m1 m'
 rcases hv' b e with e | e
 ·exact (hcc b hb).2 e
 ·have:=(hcc b hb).1;omega
theorem COut.push {C2:Nat→Prop} {r:List Value} {o:Dop} {K:Cont} (h:COut B W ov out) (hB:B≤W.heap.size) (hr:RDop C2 W r o) (hC2:∀ b,C2 b→b < W.heap.size∧ov.ownBlock≠some b) (hl:out.length≤1000000)
  (hK:∀ v' w',COut B w' v' (out++[o])→Mod (fun b=>ov.ownBlock=some b) W w'→K v' w') :
  rowK 39 5 1 [(.int .u8 0),(.int .i64 0),(.slice none 0 0),(.slice none 0 0),(.slice none 0 0)] [(0,.agg r.toArray)] (fun s w1=>runK Tryz.prog (Builtin.append_ #[31,31] 31 [ov,s].toArray) K w1) W:=by
 obtain ⟨c,h1,_,v',w',h2,_,h3⟩:=h.push2 (K:=K) (Q1:=fun _=>True) (Q2:=fun _ _=>True) hB hr hC2 hl (fun _ _=>trivial) fun w1 v' w' k1 _ k2=>⟨trivial,hK v' w' k1 k2⟩
 exact ⟨c,h1,v',w',h2,h3⟩
theorem COut.app {S C2:Nat→Prop} {x:Value} {m:List Dop} {K:Cont} (h:COut B W ov out) (hB:B≤W.heap.size) (hx:RDops S C2 W x m) (hC2:∀ b,C2 b→b < W.heap.size∧ov.ownBlock≠some b) (hl:out.length+m.length≤1000000)
  (hK:∀ v' w',COut B w' v' (out++m)→Mod (fun b=>ov.ownBlock=some b) W w'→K v' w'):runK Tryz.prog (Builtin.append_ #[31,31] 31 [ov,x].toArray) K W:=by
 obtain ⟨C,h1,h2⟩:=h
 have m0:Mod (fun _=>False) W W:=Mod.refl _ _
 have h1':OwnR B 39 5 (RDop fun b=>C b∨C2 b) W ov out:=OwnR.mod h1 m0 (fun _ _ h=>h) fun r x _ hx=>hx.mod m0 (fun _ _ _ h=>h) fun _ _ h=>.inl h
 have hcc:∀ b,C b∨C2 b→b < W.heap.size∧ov.ownBlock≠some b:=fun b hb=>by
  rcases hb with hb | hb
  ·exact h2 b hb
  ·exact hC2 b hb
 have hx':RDops S (fun b=>C b∨C2 b) W x m:=SlR.sub hx (fun _ _ h=>h) (by decide) fun r y hy=>hy.mod m0 (fun _ _ _ h=>h) fun _ _ h=>.inr h
 obtain ⟨v',w',r1,o',r3,r4⟩:=OwnR.append (ty:=31) elem_dop h1' hx' (fun _ _=>RDop.one) (by omega) hB (by simp only [maxLen];omega) fun w' hg r q hq=>hq.mod (Mod.of_grownBy hg) (fun b _ hd e=>(hcc b hd).2 e) fun _ _ h=>h
 refine runK_i r1 (hK v' w' ⟨_,o',fun b hb=>⟨Nat.lt_of_lt_of_le (hcc b hb).1 r3.size,fun e=>?_⟩⟩ (Mod.of_grownBy r3))
 rcases r4 b e with e | e
 ·exact (hcc b hb).2 e
 ·have:=(hcc b hb).1;omega
end
def stepC (one:Dop→Dop→List Dop) (a:List Dop) (c:Dop) (b:List Dop):List Dop:=match a with
 | []=>one ⟨1,1,[],[],[]⟩ c++refC one [] b
 | u :: a=>one u c++refC one a b
theorem refC_step {one:Dop→Dop→List Dop} {a b:List Dop} {c:Dop} (hc:c.kind≠2):refC one a (c :: b)=a.takeWhile (fun o=>decide (o.kind=3))++stepC one (a.dropWhile (fun o=>decide (o.kind=3))) c b:=by
 simp only [refC]
 rw [if_neg hc]
 rfl
end Go.Proofs.YtlbaopamhkmepaaGreatDoor

namespace Go.Proofs.YtlbaopamhkmepaaGreatDoor
open Go Go.K

theorem COut.modn {B:Nat} {W W':World} {ov:Value} {out:List Dop} {M:Nat→Prop} (h:COut B W ov out) (m:Mod M W W') (hM:∀ b,M b→W.heap.size≤b):COut B W' ov out:=
 h.mod m (fun b e hb=>absurd (hM b e) (by omega)) fun b e hb=>absurd (hM b e) (by omega)
theorem refC_lenP {keys:List DKey} {a b:List Dop}:(refC (oneP keys) a b).length≤a.length+b.length:=by
 refine refC_len fun u c=>?_
 unfold oneP
 split
 ·split
  ·simp
  ·split <;> simp
 ·split <;> simp
set_option maxRecDepth 20000 in
theorem rcompose_ok {S0 S D S' D':Nat→Prop} {kv xv yv:Value} {keys:List DKey} {x y:List Dop} {w:World} (h64:keys.length≤64) (hk:RKeys S0 w kv keys) (hx:RDops S D w xv x) (hy:RDops S' D' w yv y) (gx:∀ o ∈ x,GoodK keys o) (gy:∀ o ∈ y,GoodK keys o) (hb:total x+total y≤100000) :
  callK Tryz.prog 58 [kv,xv,yv] (fun v' w'=>ODops w.heap.size w' v' (cmpD keys x y)∧Grow w w') w:=by
 apply S58_ok
 unfold S58
 refine callK_mono (rones_ok hx (by omega)) ?_
 rintro av w1 ⟨oa,g1⟩
 refine callK_mono (rones_ok (RDops.grow hy g1) (by omega)) ?_
 rintro bv w2 ⟨ob,g2⟩
 have g02:=g1.trans g2
 have z1:=g1.size
 have z2:=g2.size
 have ga:=good_onesL gx
 have gb:=good_onesL gy
 have la:=onesL_len x
 have lb:=onesL_len y
 have hZ1:∀ z ∈ refC (oneP keys) (onesL x) (onesL y),GoodK keys z∧lenN z=1:=(ref_good h64 gx gy).1
 have hZt:=(ref_good h64 gx gy).2
 have hZl:(refC (oneP keys) (onesL x) (onesL y)).length≤100000:=by have:=refC_lenP (keys:=keys) (a:=onesL x) (b:=onesL y);omega
 have eD:cmpD keys x y=normB (refC (oneP keys) (onesL x) (onesL y)):=rfl
 rw [eD]
 have hav:RDops (fun z=>w.heap.size≤z∧z < w2.heap.size) (fun z=>z < w2.heap.size) w2 av (onesL x):=by
  have h1:=OwnR.sl (OwnR.mod oa g2 (fun _ _ h=>h) fun r y _ hx=>hx.mod (D':=fun z=>z < w2.heap.size) g2 (fun _ _ _ h=>h) fun z _ hz=>by have:=hz.2;omega)
  exact SlR.sub h1 (fun z hz h=>⟨h.1,hz⟩) (by decide) fun _ _ h=>h
 have hbv:RDops (fun z=>w.heap.size≤z∧z < w2.heap.size) (fun z=>z < w2.heap.size) w2 bv (onesL y):=by
  have m0:Mod (fun _=>False) w2 w2:=Mod.refl _ _
  exact SlR.sub (OwnR.sl ob) (fun z hz h=>⟨by omega,hz⟩) (by decide) fun r y hy=>hy.mod m0 (fun _ _ _ h=>h) fun z _ hz=>by have:=hz.2;omega
 clear oa ob
 generalize onesL x=a at ga la hav hZ1 hZt hZl ⊢
 generalize onesL y=b at gb lb hbv hZ1 hZt hZl ⊢
 obtain ⟨Z,hZ⟩:∃ Z,Z=refC (oneP keys) a b:=⟨_,rfl⟩
 rw [←hZ] at hZ1 hZt hZl ⊢
 obtain ⟨aa,ac,rfl,_⟩:=hav.shape
 obtain ⟨ba,bc,rfl,_⟩:=hbv.shape
 have ra:∀ {W:World},Grow w2 W→RDops (fun z=>w.heap.size≤z∧z < w2.heap.size) (fun z=>z < w2.heap.size) W (.slice aa a.length ac) a:=fun g=>RDops.grow hav g
 have rb:∀ {W:World},Grow w2 W→RDops (fun z=>w.heap.size≤z∧z < w2.heap.size) (fun z=>z < w2.heap.size) W (.slice ba b.length bc) b:=fun g=>RDops.grow hbv g
 have gm:∀ {W W':World} {ov:Value} {out:List Dop},Grow w2 W→COut w2.heap.size W ov out→Mod (fun z=>ov.ownBlock=some z) W W'→Grow w2 W':=fun g ho m=>g.next m fun z hz e=>by have:=(ho.own z e).1;omega
 have low:∀ {W:World} {ov:Value} {out:List Dop},Grow w2 W→COut w2.heap.size W ov out→∀ z,z < w2.heap.size→z < W.heap.size∧ov.ownBlock≠some z:=fun g ho z hz=>⟨Nat.lt_of_lt_of_le hz g.size,fun e=>by have:=(ho.own z e).1;omega⟩
 have small:∀ {out t:List Dop},out++t=Z→out.length≤100000:=fun e=>by have:=congrArg List.length e;rw [List.length_append] at this;omega
 refine LoopK_i (fun vs W=>∃ (k i:Nat) (ov:Value) (out:List Dop),k≤b.length∧i≤a.length∧vs=[ov,.int .i64 i,.int .i64 k]∧COut w2.heap.size W ov out∧Grow w2 W∧out++refC (oneP keys) (a.drop i) (b.drop k)=Z) (fun vs _=>b.length - iOf vs 2) ⟨0,0,_,[],by omega,by omega,rfl,COut.nil,Mod.refl _ _,by rw [hZ];rfl⟩ ?_
 rintro vs W ⟨k,i,ov,out,hkl,hi,rfl,hO,g,he⟩ _
 simp only [nth_s,nth_z,List.headD_cons,List.tail_cons]
 rw [lenK_i,ltK_i]
 refine condK_p (fun hlt=>?_) fun hge=>?_
 rotate_left
 ·obtain rfl:k=b.length:=by omega
  rw [List.drop_length] at he
  simp only [refC] at he
  refine slice_lo (e:=39) (k:=5) (i:=Tryz.t39) (by kernel_rfl) (by kernel_rfl) (by kernel_rfl) (ra g) hi fun v' hv'=>?_
  refine hO.app g.size hv' (low g hO) (by have:=small he;rw [List.length_drop];omega) fun v2 w3 hO3 m3=>?_
  rw [he] at hO3
  have g3:=gm g hO m3
  obtain ⟨S3,D3,rd3⟩:=hO3.rd
  have hf1:∀ o ∈ Z,Form1 o:=fun o ho=>by
   obtain ⟨h1,h2⟩:=hZ1 o ho
   exact (GoodK.form h1 (by omega)).1.f1
  have hmd:=good_m fun o ho=>(hZ1 o ho).1
  rw [norm_eq Z hf1]
  refine callK_mono (rof_ok rd3 (by omega)) ?_
  rintro v4 w4 ⟨o4,g4⟩
  have g04:=(g02.trans g3).trans g4
  refine ⟨?_,g04⟩
  have hsz:w.heap.size≤w3.heap.size:=(g02.trans g3).size
  unfold ODops at o4 ⊢
  exact OwnR.base (OwnR.mod o4 (Mod.refl (fun _=>False) _) (fun _ _ h=>h) fun r o _ ho=>ho.mod (Mod.refl (fun _=>False) _) (fun _ _ _ h=>h) fun z _ hz=>⟨by omega,hz.2⟩) fun z hz=>by have:=(OwnR.ownB o4 z hz).1;omega
 have hlt':k < b.length:=by omega
 have gc:=gb _ (List.getElem_mem hlt')
 rw [drop_cons hlt'] at he
 refine JoinK_i (fun vs W'=>∃ (i:Nat) (ov:Value) (out:List Dop),i≤a.length∧vs=[ov,.int .i64 i]∧COut w2.heap.size W' ov out∧Grow w2 W'∧out++refC (oneP keys) (a.drop i) (b.drop (k+1))=Z) ?_ ?_
 ·rintro _ W' ⟨i',ov',out',hi',rfl,hO',g',he'⟩ _
  simp only [nth_s,nth_z,List.headD_cons,List.tail_cons]
  rw [addK_i,loop_step (by omega)]
  refine ⟨⟨k+1,i',ov',out',hlt',hi',rfl,hO',g',he'⟩,?_⟩
  show b.length - ((k+1:Nat):Int).toNat < b.length - (k:Int).toNat
  omega
 -- the second one's op
 have rc:∀ {W:World},Grow w2 W→∃ p r,ba=some p∧r.length=5∧(∀ j u,r[j]?=some u→W.cell? (p.add (k * 5+j))=some u)∧RDop (fun z=>z < w2.heap.size) W r b[k]:=fun g=>by
  obtain ⟨p,r,e,_,h1,h2,h3⟩:=(rb g).get hlt'
  exact ⟨p,r,e,h1,h2,h3⟩
 obtain ⟨p,r,rfl,hr,hc,hop⟩:=rc g
 refine ixK_n hlt' ?_
 rw [faK_i,Addr.add_add]
 obtain ⟨crv,csv,cpv,rfl,_⟩:=id hop
 refine ld1K_i (hc 0 _ rfl) ?_
 rw [eqK_i]
 -- pushing the second one's op
 have pushC:∀ {W:World} {ov:Value} {out:List Dop} {K:Cont},COut w2.heap.size W ov out→Grow w2 W→out.length≤100000→(∀ v' W',COut w2.heap.size W' v' (out++[b[k]])→Grow w2 W'→K v' W')→
   ixK 5 (.slice (some p) b.length bc) (.int .i64 (k:Int)) fun t33=>ldnK 5 t33 (fun t34 w6=>rowK 39 5 1 [(.int .u8 0),(.int .i64 0),(.slice none 0 0),(.slice none 0 0),(.slice none 0 0)] [(0,t34)] (fun t35 w7=>runK Tryz.prog (Builtin.append_ #[31,31] 31 [ov,t35].toArray) K w7) w6) W:=by
  intro W ov out K hO g hl hK
  obtain ⟨p',r',e,hr',hc',hop'⟩:=rc g
  cases e
  refine ixK_n hlt' (ldnK_i hr' (fun j u hu=>by rw [Addr.add_add];exact hc' j u hu) ?_)
  exact hO.push g.size hop' (low g hO) (by omega) fun v' w' h1 h2=>hK v' w' h1 (gm g hO h2)
 refine condK_p (fun k2=>?_) fun k2=>?_
 ·rw [show refC (oneP keys) (a.drop i) (b[k] :: b.drop (k+1))=b[k] :: refC (oneP keys) (a.drop i) (b.drop (k+1)) by simp only [refC];rw [if_pos k2]] at he
  exact pushC hO g (small he) fun v' W' h1 h2=>⟨i,v',_,hi,rfl,h1,h2,by rw [List.append_assoc];exact he⟩
 rw [refC_step k2] at he
 refine JoinK_i (fun vs W'=>∃ (i:Nat) (ov:Value) (out:List Dop),i≤a.length∧vs=[ov,.int .i64 i]∧COut w2.heap.size W' ov out∧Grow w2 W'∧out++stepC (oneP keys) (a.drop i) b[k] (b.drop (k+1))=Z∧∀ h:i < a.length,a[i].kind≠3) ?_ ?_
 rotate_left
 ·-- the first one's deletes
  refine LoopK_i (fun vs W=>∃ (i:Nat) (ov:Value) (out:List Dop),i≤a.length∧vs=[ov,.int .i64 i]∧COut w2.heap.size W ov out∧Grow w2 W∧out++((a.drop i).takeWhile (fun o=>decide (o.kind=3))++stepC (oneP keys) ((a.drop i).dropWhile (fun o=>decide (o.kind=3))) b[k] (b.drop (k+1)))=Z) (fun vs _=>a.length - iOf vs 1) ⟨i,ov,out,hi,rfl,hO,g,he⟩ ?_
  clear hO g he hi
  rintro vs W ⟨i,ov,out,hi,rfl,hO,g,he⟩ _
  simp only [nth_s,nth_z,List.headD_cons,List.tail_cons]
  refine JoinK_i (fun _ W'=>W'=W∧∃ h:i < a.length,a[i].kind=3) ?_ ?_
  ·rintro _ _ ⟨rfl,hl,k3⟩ _
   rename World=>W
   obtain ⟨q,r',e,_,hr',hc',hop'⟩:=(ra g).get hl
   subst e
   refine ixK_n hl (ldnK_i hr' (fun j u hu=>by rw [Addr.add_add];exact hc' j u hu) ?_)
   rw [drop_cons hl,List.takeWhile_cons,if_pos (by simp [k3]),List.dropWhile_cons,if_pos (by simp [k3])] at he
   refine hO.push g.size hop' (low g hO) (by have:=small he;omega) fun v' w' h1 h2=>?_
   rw [addK_i,loop_step (by omega)]
   exact ⟨⟨i+1,v',_,hl,rfl,h1,gm g hO h2,by rw [List.append_assoc];exact he⟩,by rw [iOf1,iOf1];omega⟩
  ·rw [lenK_i,ltK_i]
   refine condK_p (fun hl=>?_) fun hg=>?_
   ·have hl':i < a.length:=by omega
    obtain ⟨q,r',e,_,hr',hc',rv',sv',pv',rfl,_⟩:=(ra g).get hl'
    subst e
    refine ixK_n hl' ?_
    rw [faK_i,Addr.add_add]
    refine ld1K_i (hc' 0 _ rfl) ?_
    rw [eqK_i]
    refine condK_p (fun k3=>⟨rfl,hl',k3⟩) fun k3=>⟨i,ov,out,hi,rfl,hO,g,?_,fun _=>k3⟩
    rw [drop_cons hl',List.takeWhile_cons,if_neg (by simp [k3]),List.dropWhile_cons,if_neg (by simp [k3]),←drop_cons hl'] at he
    exact he
   ·refine ⟨i,ov,out,hi,rfl,hO,g,?_,fun h=>by omega⟩
    have e:a.drop i=[]:=List.drop_eq_nil_of_le (by omega)
    rw [e] at he ⊢
    exact he
 clear hO g he hi
 rintro _ W ⟨i,ov,out,hi,rfl,hO,g,he,hn3⟩ _
 simp only [nth_s,nth_z,List.headD_cons,List.tail_cons]
 refine ⟨#[.int .u8 1,.int .i64 1,.slice none 0 0,.slice none 0 0,.slice none 0 0],by kernel_rfl,?_⟩
 refine newst_n (vs:=[.int .u8 1,.int .i64 1,.slice none 0 0,.slice none 0 0,.slice none 0 0]) rfl rfl (fun u hu=>by simp at hu;rcases hu with rfl | rfl | rfl <;> rfl) fun b12 w5 hb12 hz5 g5 hc5 hl5=>?_
 have hO5:=hO.grow g5
 have gg5:=g.trans g5
 refine JoinK_i (fun vs W'=>∃ (i:Nat) (u:Dop) (r:List Value),i≤a.length∧vs=[.int .i64 i]∧(∀ j v,r[j]?=some v→W'.cell? ((⟨b12,0,none⟩:Addr).add j)=some v)∧RDop (fun z=>z < w2.heap.size) W' r u∧(GoodK keys u∧lenN u=1)∧u.kind≠3∧COut w2.heap.size W' ov out∧Grow w2 W'∧ov.ownBlock≠some b12∧b12 < W'.heap.size∧w2.heap.size≤b12∧out++(oneP keys u b[k]++refC (oneP keys) (a.drop i) (b.drop (k+1)))=Z) ?_ ?_
 rotate_left
 ·have h12:ov.ownBlock≠some b12:=fun e=>by have:=(hO.own b12 e).2;omega
  have z5:=g5.size
  have zg:=g.size
  rw [lenK_i,ltK_i]
  refine condK_p (fun hl=>?_) fun hg=>?_
  ·have hl':i < a.length:=by omega
   obtain ⟨q,r',e,_,hr',hc',hop'⟩:=(ra gg5).get hl'
   subst e
   refine ixK_n hl' (ldnK_i hr' (fun j u hu=>by rw [Addr.add_add];exact hc' j u hu) ?_)
   refine stn_over hr' hop'.one (fun j hj=>hl5 j hj) fun w6 m6 hc6 _=>?_
   rw [addK_i,loop_step (by omega)]
   rw [drop_cons hl'] at he
   have z6:=m6.size
   have hO6:COut w2.heap.size w6 ov out:=by
    obtain ⟨C,q1,q2⟩:=hO
    have q15:OwnR w2.heap.size 39 5 (RDop C) w5 ov out:=OwnR.mod q1 g5 (fun _ _ h=>h) fun r y _ hy=>hy.mod g5 (fun _ _ _ h=>h) fun _ _ h=>h
    exact ⟨C,OwnR.mod q15 m6 (fun z hz e=>h12 (e ▸ hz)) fun r y _ hy=>hy.mod m6 (fun z _ hz e=>by have:=(q2 z hz).1;omega) fun _ _ h=>h,fun z hz=>⟨by have:=(q2 z hz).1;omega,(q2 z hz).2⟩⟩
   exact ⟨i+1,a[i],r',hl',rfl,hc6,hop'.mod m6 (fun z _ hz e=>by omega) fun _ _ h=>h,ga _ (List.getElem_mem hl'),hn3 hl',hO6,gg5.next m6 fun z hz e=>by omega,h12,by omega,by omega,he⟩
  ·have e:a.drop i=[]:=List.drop_eq_nil_of_le (by omega)
   rw [e] at he
   exact ⟨i,⟨1,1,[],[],[]⟩,_,hi,rfl,hc5,⟨_,_,_,rfl,SlR.nil,SlR.nil,SlR.nil⟩,⟨.inl ⟨rfl,rfl,rfl,by decide,patK_nil⟩,rfl⟩,by decide,hO5,gg5,h12,by omega,by omega,by rw [e];exact he⟩
 clear hO g he hi hn3 hO5 gg5 hc5 hl5 g5 hz5 hb12
 rintro _ W ⟨i,u,r,hi,rfl,hcu,hru,⟨gu,lu⟩,ku3,hO,g,h12,hb12,hb2,he⟩ _
 simp only [nth_s,nth_z,List.headD_cons,List.tail_cons]
 have fu:=GoodK.form gu (by omega)
 have fc:=GoodK.form gc.1 (by omega)
 obtain ⟨p',r',e,hr',hc',hop'⟩:=rc g
 cases e
 obtain ⟨urv,usv,upv,rfl,hu1,hu2,hu3⟩:=id hru
 obtain ⟨crv,csv,cpv,rfl,hv1,hv2,hv3⟩:=id hop'
 refine JoinK_i (fun vs W'=>W'=W∧vs=[.bool (decide (b[k].kind=3) && decide (u.kind=1))]) ?_ ?_
 rotate_left
 ·refine ixK_n hlt' ?_
  rw [faK_i,Addr.add_add]
  refine ld1K_i (hc' 0 _ rfl) ?_
  rw [eqK_i]
  refine condK_p (fun e=>?_) fun e=>⟨rfl,by rw [decide_eq_false e,Bool.false_and]⟩
  rw [faK_i]
  refine ld1K_i (hcu 0 _ rfl) ?_
  rw [eqK_i]
  exact ⟨rfl,by rw [decide_eq_true e,Bool.true_and]⟩
 rintro _ _ ⟨rfl,rfl⟩ _
 rename World=>W
 rw [List.headD_cons]
 by_cases hA:b[k].kind=3∧u.kind=1
 ·rw [decide_eq_true hA.1,decide_eq_true hA.2]
  refine condK_t ?_
  rw [show oneP keys u b[k]=[b[k]] by rw [oneP,if_pos hA.2,if_pos hA.1]] at he
  exact pushC hO g (small he) fun v' W' h1 h2=>⟨i,v',_,hi,rfl,h1,h2,by rw [List.append_assoc];exact he⟩
 rw [show (decide (b[k].kind=3) && decide (u.kind=1))=false by simpa using hA]
 refine condK_f ?_
 refine JoinK_i (fun vs W'=>W'=W∧vs=[.bool (decide (b[k].kind=1) && decide (u.kind=1))]) ?_ ?_
 rotate_left
 ·refine ixK_n hlt' ?_
  rw [faK_i,Addr.add_add]
  refine ld1K_i (hc' 0 _ rfl) ?_
  rw [eqK_i]
  refine condK_p (fun e=>?_) fun e=>⟨rfl,by rw [decide_eq_false e,Bool.false_and]⟩
  rw [faK_i]
  refine ld1K_i (hcu 0 _ rfl) ?_
  rw [eqK_i]
  exact ⟨rfl,by rw [decide_eq_true e,Bool.true_and]⟩
 rintro _ _ ⟨rfl,rfl⟩ _
 rename World=>W
 rw [List.headD_cons]
 have ownlt:∀ z,ov.ownBlock=some z→w2.heap.size≤z∧z < W.heap.size:=hO.own
 have pb:p.block < w2.heap.size:=by
  obtain ⟨_,_,e,hs,_⟩:=hbv.get hlt'
  cases e
  exact hs.2
 by_cases hBq:b[k].kind=1∧u.kind=1
 ·rw [decide_eq_true hBq.1,decide_eq_true hBq.2]
  refine condK_t ?_
  rw [show oneP keys u b[k]=[⟨1,1,[],[],comP u.patch b[k].patch⟩] by rw [oneP,if_pos hBq.2,if_neg (by omega),if_pos hBq.1]] at he
  have gd:Grow W W.drew:=Mod.drew _ _
  have zd:W.drew.heap.size=W.heap.size:=rfl
  refine drawC_i (fun q y=>q=11∧ov.ownBlock=some y) ?_
  rw [faK_i]
  refine sld1_i ⟨gd.cell (hcu 4 _ rfl) fun h=>h,fun j _ e=>by rw [add_block] at e;exact h12 e.2⟩ ?_
  refine ixK_n hlt' ?_
  rw [faK_i,Addr.add_add]
  refine sld1_i ⟨gd.cell (hc' 4 _ rfl) fun h=>h,fun j _ e=>by rw [add_block] at e;have:=(ownlt _ e.2).1;omega⟩ ?_
  have l1:=fu.2.2.2.1
  have l2:=fc.2.2.2.1
  refine callK_mono (rcom_ok (hu3.grow gd (by decide) fun _ _ h=>h) (hv3.grow gd (by decide) fun _ _ h=>h) (by omega) fu.2.2.1 fc.2.2.1) ?_
  rintro cv w18 ⟨o18,g18⟩
  refine ⟨g18.mono fun _ _ e=>e.elim,?_⟩
  obtain ⟨ca,cc,ecv,_⟩:=OwnR.shape o18
  refine ⟨#[.int .u8 1,.int .i64 1,.slice none 0 0,.slice none 0 0,cv],by rw [ecv];kernel_rfl,?_⟩
  have hO18:=(hO.grow gd).grow g18
  have z18:=g18.size
  have hr18:RDop (fun z=>W.heap.size≤z∧z < w18.heap.size) w18 [.int .u8 1,.int .i64 1,.slice none 0 0,.slice none 0 0,cv] ⟨1,1,[],[],comP u.patch b[k].patch⟩:=⟨_,_,_,rfl,SlR.nil,SlR.nil,SlR.sub (OwnR.sl o18) (fun z hz h=>⟨h.1,hz⟩) (by decide) fun _ _ h=>h⟩
  have hzg:=g.size
  refine hO18.push2 (by omega) hr18 (fun z hz=>⟨hz.2,fun e=>by have:=(ownlt z e).2;omega⟩) (by have:=small he;omega) (fun w1 g1=>g1.mono fun _ _ e=>e.elim) fun w19 v' w20 h1 m1 m2=>⟨m1.mono fun z _ e=>⟨rfl,e⟩,i,v',_,hi,rfl,h1,?_,by rw [List.append_assoc];exact he⟩
  exact ((g.trans gd).trans g18).next m2 fun z hz e=>by have:=(ownlt z e).1;omega
 rw [show (decide (b[k].kind=1) && decide (u.kind=1))=false by simpa using hBq]
 refine condK_f ?_
 refine ixK_n hlt' ?_
 rw [faK_i,Addr.add_add]
 refine ld1K_i (hc' 0 _ rfl) ?_
 rw [eqK_i]
 refine condK_p (fun c1=>?_) fun c1=>?_
 rotate_left
 ·-- a delete of an insert
  have:oneP keys u b[k]=[]:=by
   rcases gc.1 with ⟨h,_⟩ | ⟨h,_⟩ | ⟨h,_⟩
   ·exact (c1 h).elim
   ·have hu:u.kind≠1:=fun e=>hA ⟨h,e⟩
    rw [oneP,if_neg hu,if_neg c1]
   ·exact (k2 h).elim
  rw [this,List.nil_append] at he
  exact ⟨i,ov,out,hi,rfl,hO,g,he⟩
 have u1:u.kind≠1:=fun e=>hBq ⟨c1,e⟩
 have u2:u.kind=2∧u.runes≠[]:=by
  rcases gu with ⟨h,_⟩ | ⟨h,_⟩ | ⟨h,_,_,_,h5,_⟩
  ·exact (u1 h).elim
  ·exact (ku3 h).elim
  ·exact ⟨h,h5⟩
 obtain ⟨r0,rs0,eru⟩:∃ r0 rs,u.runes=r0 :: rs:=List.exists_cons_of_ne_nil u2.2
 rw [show oneP keys u b[k]=[⟨2,0,[r0],cellP keys u.set b[k].patch r0,[]⟩] by rw [oneP,if_neg u1,if_pos c1,eru];rfl] at he
 have l1:=fu.2.1.2.1
 have l2:=fc.2.2.2.1
 have hzg:=g.size
 refine JoinK_i (fun vs W'=>∃ (b13:Nat) (cv:Value),vs=[.pointer (some ⟨b13,0,none⟩)]∧(∀ j v,([.int .i32 r0,cv]:List Value)[j]?=some v→W'.cell? ((⟨b13,0,none⟩:Addr).add j)=some v)∧OSet W.heap.size W' cv (cellP keys u.set b[k].patch r0)∧COut w2.heap.size W' ov out∧Grow w2 W'∧W.heap.size≤W'.heap.size) ?_ ?_
 ·rintro _ W' ⟨b13,cv,rfl,hc13,ocv,hO',g',hzw⟩ _
  rw [List.headD_cons,faK_i]
  refine ld1K_i (hc13 0 _ rfl) ?_
  refine rowK_i (cs:=[.int .i32 r0]) (by kernel_rfl) ?_
  have g1':Grow W' (W'.alloc (.cells [Value.int .i32 r0].toArray 21)):=Mod.alloc _ _ _
  have o1':OwnR W'.heap.size 21 1 RRune (W'.alloc (.cells [Value.int .i32 r0].toArray 21)) (.slice (some ⟨W'.heap.size,0,none⟩) 1 1) [r0]:=OwnR.row1 (Nat.le_refl _) rfl (fun u hu=>by simp at hu;subst hu;rfl) rfl
  generalize W'.alloc (.cells [Value.int .i32 r0].toArray 21)=W2 at g1' o1' ⊢
  rw [faK_i]
  refine ld1K_i (g1'.cell (hc13 1 _ rfl) fun h=>h) ?_
  obtain ⟨ca,cc,ecv,_⟩:=OwnR.shape ocv
  refine ⟨#[.int .u8 2,.int .i64 0,.slice (some ⟨W'.heap.size,0,none⟩) 1 1,cv,.slice none 0 0],by rw [ecv];kernel_rfl,?_⟩
  have hO2:=hO'.grow g1'
  have z2':=g1'.size
  have hr2:RDop (fun z=>W.heap.size≤z∧z < W2.heap.size) W2 [.int .u8 2,.int .i64 0,.slice (some ⟨W'.heap.size,0,none⟩) 1 1,cv,.slice none 0 0] ⟨2,0,[r0],cellP keys u.set b[k].patch r0,[]⟩:=
   ⟨_,_,_,rfl,SlR.sub (OwnR.sl o1') (fun z hz h=>⟨by have:=h.1;omega,hz⟩) (by decide) fun _ _ h=>h,SlR.sub (OwnR.sl (OwnR.mod ocv g1' (fun _ _ h=>h) fun _ _ _ h=>h)) (fun z hz h=>⟨h.1,hz⟩) (by decide) fun _ _ h=>h,SlR.nil⟩
  refine hO2.push (by omega) hr2 (fun z hz=>⟨hz.2,fun e=>by have:=(ownlt z e).2;omega⟩) (by have:=small he;omega) fun v' w' h1 h2=>⟨i,v',_,hi,rfl,h1,gm (g'.trans g1') hO2 h2,by rw [List.append_assoc];exact he⟩
 have gd:Grow W W.drew:=Mod.drew _ _
 have zd:W.drew.heap.size=W.heap.size:=rfl
 refine drawC_i (fun q y=>q=15∧W.heap.size≤y) ?_
 obtain ⟨ra',rc',rfl,_⟩:=hu1.shape
 rw [faK_i]
 refine sld1_i ⟨gd.cell (hcu 2 _ rfl) fun h=>h,fun j _ e=>by have e2:W.heap.size≤b12:=e.2;omega⟩ ?_
 have h0:0 < u.runes.length:=by rw [eru];simp
 obtain ⟨q,rr,eq,hqb,_,hcq,hrr⟩:=hu1.get h0
 subst eq
 have hrr':rr=[.int .i32 r0]:=by rw [hrr];simp [eru]
 subst hrr'
 refine ixK_n (j:=0) h0 ?_
 refine sld1_i ⟨gd.cell (by have:=hcq 0 _ rfl;exact this) fun h=>h,fun j _ e=>by rw [add_block] at e;have:=e.2;omega⟩ ?_
 rw [faK_i]
 refine sld1_i ⟨gd.cell (hcu 3 _ rfl) fun h=>h,fun j _ e=>by have e2:W.heap.size≤b12:=e.2;omega⟩ ?_
 obtain ⟨sa',sc',rfl,_⟩:=hu2.shape
 refine ⟨#[.int .i32 r0,.slice sa' u.set.length sc'],by kernel_rfl,?_⟩
 refine ixK_n hlt' ?_
 rw [faK_i,Addr.add_add]
 refine sld1_i ⟨gd.cell (hc' 4 _ rfl) fun h=>h,fun j _ e=>by rw [add_block] at e;have:=e.2;omega⟩ ?_
 have hkd:RKeys S0 W.drew kv keys:=hk.grow ((g02.trans g).trans gd) (by decide) fun _ _ h=>h
 have cellC:∀ {W1:World},Grow W.drew W1→callK Tryz.prog 92 [kv,.agg #[.int .i32 r0,.slice sa' u.set.length sc'],cpv] (fun v' w'=>∃ cv',v'=.agg #[.int .i32 r0,cv']∧OSet W1.heap.size w' cv' (cellP keys u.set b[k].patch r0)∧Grow W1 w') W1:=fun gg=>
  rcell_ok (hkd.grow gg (by decide) fun _ _ h=>h) (hu2.grow (gd.trans gg) (by decide) fun _ _ h=>h) (hv3.grow (gd.trans gg) (by decide) fun _ _ h=>h) (by omega) fu.2.1.1 fc.2.2.1
 refine ⟨?_,?_⟩
 ·refine callK_mono (cellC (Mod.refl _ _)) ?_
  rintro _ w28 ⟨cv,rfl,ocv,g28⟩
  refine ⟨g28.mono fun _ _ e=>e.elim,?_⟩
  have z28:=g28.size
  refine newz_i fun b13 w29 hb13 hz29 g29 _ hl13=>⟨g29.mono fun _ _ e=>e.elim,?_⟩
  refine stn_over (vs:=[.int .i32 r0,cv]) rfl (fun y hy=>by simp at hy;rcases hy with rfl | rfl;rfl;exact (OwnR.one ocv).1) (fun j hj=>hl13 j hj) fun w30 m30 hc30 _=>⟨m30.mono fun z _ e=>⟨rfl,by omega⟩,b13,cv,rfl,hc30,?_,?_,?_,?_⟩
  ·have:OSet W.heap.size w29 cv _:=OwnR.mod (OwnR.base ocv fun z hz=>by have:=(OwnR.ownB ocv z hz).1;omega) g29 (fun _ _ h=>h) fun _ _ _ h=>h
   exact OwnR.mod this m30 (fun z hz e=>by have:=(OwnR.ownB ocv z hz).2;omega) fun _ _ _ h=>h
  ·exact hO.modn ((((gd.trans g28).trans g29).mono fun _ _ e=>e.elim:Mod (fun z=>z=b13) W w29).trans m30) fun z e=>by omega
  ·exact (((g.trans gd).trans g28).trans g29).next m30 fun z hz e=>by omega
  ·have:=m30.size;have:=g29.size;omega
 ·refine newz_i fun b13 w31 hb13 hz31 g31 _ hl13=>⟨g31.mono fun _ _ e=>e.elim,?_⟩
  have z31:=g31.size
  refine callK_mono (cellC g31) ?_
  rintro _ w32 ⟨cv,rfl,ocv,g32⟩
  refine ⟨g32.mono fun _ _ e=>e.elim,?_⟩
  refine stn_over (vs:=[.int .i32 r0,cv]) rfl (fun y hy=>by simp at hy;rcases hy with rfl | rfl;rfl;exact (OwnR.one ocv).1) (fun j hj=>(hl13 j hj).mod g32 fun h=>h) fun w33 m33 hc33 _=>⟨m33.mono fun z _ e=>⟨rfl,by omega⟩,b13,cv,rfl,hc33,?_,?_,?_,?_⟩
  ·have:OSet W.heap.size w32 cv _:=OwnR.base ocv fun z hz=>by have:=(OwnR.ownB ocv z hz).1;omega
   exact OwnR.mod this m33 (fun z hz e=>by have:=(OwnR.ownB ocv z hz).1;omega) fun _ _ _ h=>h
  ·exact hO.modn ((((gd.trans g31).trans g32).mono fun _ _ e=>e.elim:Mod (fun z=>z=b13) W w32).trans m33) fun z e=>by omega
  ·exact (((g.trans gd).trans g31).trans g32).next m33 fun z hz e=>by omega
  ·have:=m33.size;have:=g32.size;omega
end Go.Proofs.YtlbaopamhkmepaaGreatDoor

namespace Go.Proofs.YtlbaopamhkmepaaGreatDoor
open Go Go.K

theorem newnil_ok {w:World}:callK Tryz.prog 14 [.slice none 0 0] (fun v' w'=>Grow w w'∧∃ sv,v'=.tuple #[sv,.int .i64 0]∧SchR (fun x=>w.heap.size≤x) w' sv []) w:=by
 refine callK_mono (new_key_ok (S:=fun _=>False) (keys:=[]) SlR.nil) ?_
 rintro v w' ⟨g,hr⟩
 refine ⟨g,?_⟩
 rcases hr with ⟨_,sv,ks,rfl,hp,_,hS⟩ | ⟨hn,_⟩
 ·have:ks=[]:=List.perm_nil.1 hp
  subst this
  exact ⟨sv,rfl,hS⟩
 ·exact absurd ((mayk_iff (keys:=[])).2 ⟨by simp,(fun x hx=>by simp at hx),List.Pairwise.nil⟩) hn
theorem HL.new {w0 W:World} {C:Nat→Prop} {sv:Value} {ks:List DKey} {mx:Nat} (hS:SchR C W sv ks) (hC:∀ x,x < W.heap.size→C x→w0.heap.size≤x) (g:Grow w0 W) (hmx:mx≤65536) :
  callK Tryz.prog 15 [sv,.int .i64 mx] (fun v' w'=>∃ b F,v'=.tuple #[.pointer (some ⟨b,0,none⟩),.int .i64 0]∧HL w0 F w' b ks ⟨mx,[],[],false,[]⟩) W:=by
 refine callK_mono (hnew_ok hS hmx) ?_
 rintro _ w' ⟨g',b,hb,rfl,hH⟩
 have:=g.size
 have:=g'.size
 exact ⟨b,_,rfl,hH,fun x hx=>by rcases hx with ⟨h1,h2⟩ | ⟨h1,h2⟩;exact ⟨hC x h2 h1,by omega⟩;exact ⟨by omega,h2⟩,g.trans g'⟩
theorem concat_inj {α:Type} {l l':List α} {g g':α} (h:l++[g]=l'++[g']):l=l'∧g=g':=by
 have:=List.append_inj' h rfl
 exact ⟨this.1,by simpa using this.2⟩
def kus:Nat→List Grp
 | 0=>[]
 | 1=>[gin 97 1]
 | 2=>[gin 97 1,gin 98 1]
 | _=>[gin 98 1,gin 99 1]
set_option maxRecDepth 20000 in
theorem known27_ok {w : World} : callK Tryz.prog 16 [] (fun v w' => v = .bool true ∧ Grow w w') w := by
  apply S16_ok
  unfold S16
  refine callK_mono newnil_ok ?_
  rintro _ w1 ⟨g1, sv, rfl, hS⟩
  refine extK_i (vs := [_, _]) (by rfl) (extK_i (vs := [_, _]) (by rfl) ?_)
  refine callK_mono (HL.new (mx := 2) hS (fun x _ hx => hx) g1 (by decide)) ?_
  rintro _ w2 ⟨b, F, rfl, hH⟩
  refine extK_i (vs := [_, _]) (by rfl) (extK_i (vs := [_, _]) (by rfl) ?_)
  refine JoinK_i (fun _ W => W = w2) ?_ ?_
  rotate_left
  · rw [neK_i]
    refine condK_neg (fun _ => ?_) fun e => (e rfl).elim
    rw [neK_i]
    refine condK_neg (fun _ => ?_) fun e => (e rfl).elim
    exact pnilK_s (condK_f rfl)
  rintro _ _ rfl _
  rename World => w2
  refine runK_i (v := .agg #[.int .i32 97, .int .i32 98, .int .i32 99]) (w' := w2) (by kernel_rfl) ?_
  refine LoopK_i (fun vs W => ∃ (i : Nat) (F : Nat → Prop), i ≤ 3 ∧ vs = [.int .i64 i] ∧ HL w F W b [] ⟨2, kus i, [], false, []⟩) (fun vs _ => 3 - iOf vs 0) ⟨0, F, by omega, rfl, hH⟩ ?_
  rintro vs W ⟨i, F, hi, rfl, hH⟩ _
  rw [nth_z, List.headD_cons, ltK_i]
  refine condK_p (fun hlt => ?_) fun hge => ?_
  · have step : ∀ (r : Int), keepL 2 (kus i) (gin r 1) = kus (i + 1) → (kus i).length ≤ 2 → (Instr.index 93 (.agg #[.int .i32 97, .int .i32 98, .int .i32 99]) (.int .i64 i)).run Tryz.prog W = .ok (.int .i32 r) W →
        runK Tryz.prog (Instr.index 93 (.agg #[.int .i32 97, .int .i32 98, .int .i32 99]) (.int .i64 i)) (fun t43 w6 => callK Tryz.prog 17 [t43] (fun t46 w7 => extK 0 t46 fun t47 => extK 1 t46 fun t48 => callK Tryz.prog 18 [.pointer (some ⟨b, 0, none⟩), t47, t48] (fun t52 w8 => neK .i64 t52 (.int .i64 0) fun t53 => condK t53 ((.bool false : Value) = .bool true ∧ Grow w w8) (addK .i64 (.int .i64 i) (.int .i64 1) fun t54 => (∃ (i : Nat) (F : Nat → Prop), i ≤ 3 ∧ [t54] = [.int .i64 (i : Int)] ∧ HL w F w8 b [] ⟨2, kus i, [], false, []⟩) ∧ 3 - iOf [t54] 0 < 3 - iOf [.int .i64 (i : Int)] 0)) w7) w6) W := by
      intro r hk hl hrun
      refine runK_i hrun (callK_mono in_ok ?_)
      rintro _ w7 ⟨g7, dv, uv, rfl, hd, hu, _⟩
      refine extK_i (vs := [_, _]) (by rfl) (extK_i (vs := [_, _]) (by rfl) ?_)
      refine callK_mono ((hH.grow g7).push rfl hl (show 2 ≤ 65536 by decide) (ODops.sl hd) (ODops.sl hu) (mins r) (mdel 1)) ?_
      rintro _ w8 ⟨rfl, F8, hH8, _, _⟩
      have hH8' : HL w F8 w8 b [] ⟨2, kus (i + 1), [], false, []⟩ := by rw [← hk]; exact hH8
      rw [neK_i]
      refine condK_neg (fun _ => ?_) fun e => (e rfl).elim
      rw [addK_i, loop_step (by omega)]
      exact ⟨⟨i + 1, F8, by omega, rfl, hH8'⟩, by rw [iOf0, iOf0]; omega⟩
    rcases (show i = 0 ∨ i = 1 ∨ i = 2 by omega) with rfl | rfl | rfl
    · exact step 97 rfl (by decide) (by kernel_rfl)
    · exact step 98 rfl (by decide) (by kernel_rfl)
    · exact step 99 rfl (by decide) (by kernel_rfl)
  obtain rfl : i = 3 := by omega
  have b8 : ∀ (us : List Grp), (∀ g ∈ us, g = gin 97 1 ∨ g = gin 98 1 ∨ g = gin 99 1) → (∀ g ∈ us, mDops g.u ≤ 1099511627776) ∧ ∀ g ∈ us, mDops g.d ≤ 1099511627776 := fun us h => ⟨fun g hg => by rcases h g hg with rfl | rfl | rfl <;> exact mdel 1, fun g hg => by rcases h g hg with rfl | rfl | rfl <;> exact mins _⟩
  -- undone: c
  refine callK_mono (hH.undo rfl (by simp [kus]) (by simp) (b8 _ (by simp [kus])).1) ?_
  rintro _ w9 (⟨hn, _⟩ | ⟨l, g, cx, n9, F9, hlg, rfl, hn9, ox, hH9, hF9, m9⟩)
  · cases hn
  obtain ⟨rfl, rfl⟩ := concat_inj (l := [gin 98 1]) (g := gin 99 1) hlg
  have kx : HK F9 w9 n9 w9.heap.size cx [delO 1] := HK.new ox fun x hx => .inl (hF9 x hx).2
  have hH9' : HL w F9 w9 b [] ⟨2, [gin 98 1], [gin 99 1], false, []⟩ := hH9
  refine extK_i (vs := [_, _]) (by rfl) (extK_i (vs := [_, _]) (by rfl) ?_)
  -- undone: b
  refine callK_mono (hH9'.undo rfl (by simp) (by simp) (b8 _ (by simp)).1) ?_
  rintro _ w10 (⟨hn, _⟩ | ⟨l, g, c10, n10, F10, hlg, rfl, hn10, _, hH10, hF10, m10⟩)
  · cases hn
  obtain ⟨rfl, rfl⟩ := concat_inj (l := []) (g := gin 98 1) hlg
  have kx10 := kx.next m10 fun x hx => (hF10 x hx).1
  have hH10' : HL w F10 w10 b [] ⟨2, [], [gin 99 1, gin 98 1], false, []⟩ := hH10
  refine extK_i (vs := [_, _]) (by rfl) (extK_i (vs := [_, _]) (by rfl) ?_)
  -- no more
  refine callK_mono (hH10'.undo rfl (by simp) (by simp) (by simp)) ?_
  rintro _ w11 (⟨_, c11, rfl, g11⟩ | ⟨l, g, _, _, _, hlg, _⟩)
  rotate_left
  · exact absurd hlg (by simp)
  refine extK_i (vs := [_, _]) (by rfl) (extK_i (vs := [_, _]) (by rfl) ?_)
  have hH11 := hH10'.grow g11
  have kx11 := kx10.grow g11
  -- done again: b
  refine callK_mono (hH11.redo rfl (by simp) (by simp) (b8 _ (by simp)).2) ?_
  rintro _ w12 (⟨hn, _⟩ | ⟨l, g, cy, n12, F12, hlg, rfl, hn12, oy, hH12, hF12, m12⟩)
  · cases hn
  obtain ⟨rfl, rfl⟩ := concat_inj (l := [gin 99 1]) (g := gin 98 1) hlg
  have hH12' : HL w F12 w12 b [] ⟨2, [gin 98 1], [gin 99 1], false, []⟩ := hH12
  have kx12 := kx11.next m12 fun x hx => (hF12 x hx).1
  have ky : HK F12 w12 n12 w12.heap.size cy [insO 98] := HK.new oy fun x hx => .inl (hF12 x hx).2
  refine extK_i (vs := [_, _]) (by rfl) (extK_i (vs := [_, _]) (by rfl) ?_)
  refine callK_mono in_ok ?_
  rintro _ w13 ⟨g13, dv, uv, rfl, hd, hu, _⟩
  refine extK_i (vs := [_, _]) (by rfl) (extK_i (vs := [_, _]) (by rfl) ?_)
  have hH13 := hH12'.grow g13
  refine callK_mono (depths_ok hH13.his) ?_
  rintro _ w14 ⟨rfl, g14⟩
  refine extK_i (vs := [_, _]) (by rfl) (extK_i (vs := [_, _]) (by rfl) ?_)
  have hH14 := hH13.grow g14
  rw [eqK_i]; refine condK_p (fun _ => ?_) fun e => (e rfl).elim
  rw [eqK_i]; refine condK_p (fun _ => ?_) fun e => (e rfl).elim
  rw [eqK_i]; refine condK_p (fun _ => ?_) fun e => (e rfl).elim
  rw [eqK_i]; refine condK_p (fun _ => ?_) fun e => (e rfl).elim
  have g24 := g13.trans g14
  refine callK_mono (rsame_dops (kx12.grow g24).rd (ODops.sl (ODops.grow hu g14 fun _ _ _ h => h))) ?_
  rintro _ w15 ⟨rfl, g15⟩
  rw [decide_eq_true rfl]
  refine condK_t ?_
  refine callK_mono (rsame_dops (ky.grow (g24.trans g15)).rd (ODops.sl (ODops.grow hd (g14.trans g15) fun _ _ _ h => h))) ?_
  rintro _ w16 ⟨rfl, g16⟩
  rw [decide_eq_true rfl]
  refine condK_t ?_
  rw [eqK_i]; refine condK_p (fun _ => ?_) fun e => (e rfl).elim
  rw [eqK_i]; refine condK_p (fun _ => ?_) fun e => (e rfl).elim
  have g46 := (g14.trans g15).trans g16
  have hH16 := (hH14.grow g15).grow g16
  refine callK_mono (hH16.push rfl (by simp) (by simp) (ODops.sl (ODops.grow hd g46 fun _ _ _ h => h)) (ODops.sl (ODops.grow hu g46 fun _ _ _ h => h)) (mins 98) (mdel 1)) ?_
  rintro _ w17 ⟨rfl, F17, hH17, _, _⟩
  rw [eqK_i]; refine condK_p (fun _ => ?_) fun e => (e rfl).elim
  refine callK_mono (begin_ok hH17.his) ?_
  rintro _ w18 (⟨h1, _⟩ | ⟨_, rfl, ha⟩)
  · cases h1
  obtain ⟨F18, hH18, _, _⟩ := hH17.after ha
  rw [eqK_i]; refine condK_p (fun _ => ?_) fun e => (e rfl).elim
  refine callK_mono (begin_ok hH18.his) ?_
  rintro _ w19 (⟨_, rfl, rfl⟩ | ⟨h1, _⟩)
  rotate_left
  · cases h1
  rw [eqK_i]; refine condK_p (fun _ => ?_) fun e => (e rfl).elim
  refine callK_mono (open_ok hH18.his) ?_
  rintro _ _ ⟨rfl, rfl⟩
  exact ⟨rfl, hH18.g⟩
end Go.Proofs.YtlbaopamhkmepaaGreatDoor

namespace Go.Proofs.YtlbaopamhkmepaaGreatDoor
open Go Go.K

structure Cx (w W0:World) (Sx Dx Sy Dy:Nat→Prop) (b c d:Nat):Prop where
 b1:w.heap.size≤b
 c1:w.heap.size≤c
 d1:w.heap.size≤d
 b2:b < W0.heap.size
 c2:c < W0.heap.size
 d2:d < W0.heap.size
 bc:b≠c
 bd:b≠d
 cd:c≠d
 x:∀ z,Sx z∨Dx z→z < w.heap.size
 y:∀ z,Sy z∨Dy z→z < w.heap.size
def Fof (W0 W:World) (b:Nat) (F:Nat→Prop):Prop:=∀ z,F z→(z=b∨W0.heap.size≤z)∧z < W.heap.size
section
variable {w W0 W W' We:World} {Sx Dx Sy Dy F:Nat→Prop} {b c d:Nat} {u v:List Dop} {s s':MkS}
theorem Cx.after (cx:Cx w W0 Sx Dx Sy Dy b c d) (hF:Fof W0 W b F) (hL:MkL W F We b s') (ru:RdI Sx Dx W c u) (rv:RdI Sy Dy W d v) (g:Grow w W) (h0:W0.heap.size≤W.heap.size) :
  (∃ F',MkI F' We b s'∧Fof W0 We b F')∧RdI Sx Dx We c u∧RdI Sy Dy We d v∧Grow w We∧W0.heap.size≤We.heap.size:=by
 obtain ⟨F',h1,h2,h3⟩:=hL
 have nc:¬ F c:=fun e=>by have:=(hF c e).1;have:=cx.bc;have:=cx.c2;omega
 have nd:¬ F d:=fun e=>by have:=(hF d e).1;have:=cx.bd;have:=cx.d2;omega
 have nx:∀ z,z < w.heap.size→¬ F z:=fun z hz e=>by have:=(hF z e).1;have:=cx.b1;have:=cx.b2;omega
 refine ⟨⟨F',h1,fun z hz=>⟨?_,(h2 z hz).2⟩⟩,ru.mod h3 nc (fun z hz=>nx z (cx.x z (.inl hz))) fun z hz=>nx z (cx.x z (.inr hz)),rv.mod h3 nd (fun z hz=>nx z (cx.y z (.inl hz))) fun z hz=>nx z (cx.y z (.inr hz)),g.next h3 fun z hz e=>nx z hz e,Nat.le_trans h0 h3.size⟩
 rcases (h2 z hz).1 with e | e
 ·exact (hF z e).1
 ·exact .inr (Nat.le_trans h0 e)
theorem Cx.tookX (cx:Cx w W0 Sx Dx Sy Dy b c d) (hm:MkI F W b s) (hF:Fof W0 W b F) (m:Mod (fun z=>z=c) W W') (rv:RdI Sy Dy W d v) (g:Grow w W) (h0:W0.heap.size≤W.heap.size) :
  MkI F W' b s∧Fof W0 W' b F∧RdI Sy Dy W' d v∧Grow w W'∧W0.heap.size≤W'.heap.size:=by
 have:=cx.bc;have:=cx.c2;have:=cx.c1;have:=cx.cd
 refine ⟨hm.mod m fun z hz e=>by have:=(hF z hz).1;omega,fun z hz=>⟨(hF z hz).1,Nat.lt_of_lt_of_le (hF z hz).2 m.size⟩,rv.mod m (fun e=>by omega) (fun z hz e=>by have:=cx.y z (.inl hz);omega) fun z hz e=>by have:=cx.y z (.inr hz);omega,g.next m fun z hz e=>by omega,Nat.le_trans h0 m.size⟩
theorem Cx.tookY (cx:Cx w W0 Sx Dx Sy Dy b c d) (hm:MkI F W b s) (hF:Fof W0 W b F) (m:Mod (fun z=>z=d) W W') (ru:RdI Sx Dx W c u) (g:Grow w W) (h0:W0.heap.size≤W.heap.size) :
  MkI F W' b s∧Fof W0 W' b F∧RdI Sx Dx W' c u∧Grow w W'∧W0.heap.size≤W'.heap.size:=by
 have:=cx.bd;have:=cx.d2;have:=cx.d1;have:=cx.cd
 refine ⟨hm.mod m fun z hz e=>by have:=(hF z hz).1;omega,fun z hz=>⟨(hF z hz).1,Nat.lt_of_lt_of_le (hF z hz).2 m.size⟩,ru.mod m (fun e=>by omega) (fun z hz e=>by have:=cx.x z (.inl hz);omega) fun z hz e=>by have:=cx.x z (.inr hz);omega,g.next m fun z hz e=>by omega,Nat.le_trans h0 m.size⟩
theorem Cx.grew (hm:MkI F W b s) (hF:Fof W0 W b F) (g:Grow W W'):MkI F W' b s∧Fof W0 W' b F:=⟨hm.mod g fun _ _ h=>h,fun z hz=>⟨(hF z hz).1,Nat.lt_of_lt_of_le (hF z hz).2 g.size⟩⟩
end
section
variable {ks:List DKey}
theorem total_cons (o:Dop) (x:List Dop):total (o :: x)=lenN o+total x:=by simp [total]
theorem behind_all {o:Dop} {x:List Dop}:behind (lenN o) (o :: x)=x:=by simp [behind]
set_option maxRecDepth 20000 in
theorem compose_ok {E S D S' D':Nat→Prop} {sv xv yv:Value} {x y:List Dop} {w:World} (h64:ks.length≤64) (hS:SchR E w sv ks) (hx:RDops S D w xv x) (hy:RDops S' D' w yv y) (hT:Tabs w) (gx:∀ o ∈ x,GoodK ks o∧InO o) (gy:∀ o ∈ y,GoodK ks o∧InO o) (hb:total x+total y≤16777216) :
  callK Tryz.prog 87 [sv,xv,yv] (fun v' w'=>∃ zv,v'=.tuple #[zv,.int .i64 0]∧ODops w.heap.size w' zv (cmpD ks x y)∧Grow w w') w:=by
 apply S87_ok
 unfold S87
 refine callK_mono (cmay_ok hS hx hy hT (fun o ho=>(gx o ho).2) (fun o ho=>(gy o ho).2) (good_may (fun o ho=>(gx o ho).1) (by omega)) (good_may (fun o ho=>(gy o ho).1) (by omega))) ?_
 rintro _ w1 ⟨rfl,g1⟩
 rw [neK_i]
 refine condK_neg (fun _=>?_) fun e=>(e rfl).elim
 refine callK_mono new_ok ?_
 rintro _ w2 ⟨g2,b,hb1,hb2,rfl,hmk⟩
 have hx0:=RDops.old hx
 have hy0:=RDops.old hy
 have z1:=g1.size
 have z2:=g2.size
 obtain ⟨xa,xc,rfl,_⟩:=hx.shape
 obtain ⟨ya,yc,rfl,_⟩:=hy.shape
 refine ⟨#[.slice xa x.length xc,.int .i64 0],by kernel_rfl,?_⟩
 refine boxn_i (vs:=[.slice xa x.length xc,.int .i64 0]) fun c w3 hc hz3 g3 hc3 hl3=>?_
 refine ⟨#[.slice ya y.length yc,.int .i64 0],by kernel_rfl,?_⟩
 refine boxn_i (vs:=[.slice ya y.length yc,.int .i64 0]) fun d w4 hd hz4 g4 hc4 hl4=>?_
 have g04:=((g1.trans g2).trans g3).trans g4
 have cx:Cx w w4 (fun z=>S z∧z < w.heap.size) (fun z=>D z∧z < w.heap.size) (fun z=>S' z∧z < w.heap.size) (fun z=>D' z∧z < w.heap.size) b c d:=
  ⟨by omega,by omega,by omega,by omega,by omega,by omega,by omega,by omega,by omega,fun z hz=>by rcases hz with hz | hz <;> exact hz.2,fun z hz=>by rcases hz with hz | hz <;> exact hz.2⟩
 -- at first
 have rx:RdI (fun z=>S z∧z < w.heap.size) (fun z=>D z∧z < w.heap.size) w4 c x:=by
  refine ⟨_,x,0,⟨by have:=g4.cell (hc3 0 _ rfl) fun h=>h;rwa [addr0] at this,by have:=g4.cell (hc3 1 _ rfl) fun h=>h;rwa [addr0] at this,fun j hj=>by have:=(hl3 j hj).mod g4 fun h=>h;rwa [addr0] at this,RDops.grow hx0 g04,fun z hz=>by rcases hz with hz | hz <;> (have:=hz.2;omega),fun o ho=>GoodK.opk (gx o ho).1 (by have:=total_mem ho;omega)⟩,fun o r e=>by have:=(GoodK.m (gx o (by rw [e];simp)).1).2;omega,?_⟩
  cases x with
  | nil=>rfl
  | cons o r=>simp only [remO,restO_0]
 have ry:RdI (fun z=>S' z∧z < w.heap.size) (fun z=>D' z∧z < w.heap.size) w4 d y:=by
  refine ⟨_,y,0,⟨by have:=hc4 0 _ rfl;rwa [addr0] at this,by have:=hc4 1 _ rfl;rwa [addr0] at this,fun j hj=>by have:=hl4 j hj;rwa [addr0] at this,RDops.grow hy0 g04,fun z hz=>by rcases hz with hz | hz <;> (have:=hz.2;omega),fun o ho=>GoodK.opk (gy o ho).1 (by have:=total_mem ho;omega)⟩,fun o r e=>by have:=(GoodK.m (gy o (by rw [e];simp)).1).2;omega,?_⟩
  cases y with
  | nil=>rfl
  | cons o r=>simp only [remO,restO_0]
 have gm0:GoodM (SetK ks) (PatK ks) MkS.z 0:=⟨by simp [MkS.z],by simp [MkS.z],by simp [MkS.z],by simp [MkS.z,total]⟩
 generalize (fun z=>S z∧z < w.heap.size)=Sx at cx rx
 generalize (fun z=>D z∧z < w.heap.size)=Dx at cx rx
 generalize (fun z=>S' z∧z < w.heap.size)=Sy at cx ry
 generalize (fun z=>D' z∧z < w.heap.size)=Dy at cx ry
 have hE:SchR (fun z=>E z∧z < w.heap.size) w sv ks:=hS.sub fun z hz h=>⟨h,hz⟩
 have nF:∀ {W:World} {F:Nat→Prop},Fof w4 W b F→∀ z,z < w.heap.size→¬ F z:=fun hF z hz e=>by have:=(hF z e).1;have:=cx.b1;have:=cx.b2;omega
 refine LoopK_i (fun vs W=>∃ (u v:List Dop) (s:MkS) (F:Nat→Prop) (t:Nat),vs=[]∧MkI F W b s∧Fof w4 W b F∧GoodM (SetK ks) (PatK ks) s t∧t+total u+total v≤total x+total y∧RdI Sx Dx W c u∧RdI Sy Dy W d v∧(∀ o ∈ u,GoodK ks o)∧(∀ o ∈ v,GoodK ks o)∧goC ks s u v=goC ks MkS.z x y∧Grow w W∧w4.heap.size≤W.heap.size)
  (fun _ W=>rank W c+rank W d) ⟨x,y,MkS.z,_,0,rfl,hmk.mod (g3.trans g4) fun _ _ h=>h,fun z hz=>⟨.inl hz,by subst hz;omega⟩,gm0,by omega,rx,ry,fun o ho=>(gx o ho).1,fun o ho=>(gy o ho).1,rfl,g04,Nat.le_refl _⟩ ?_
 rintro _ W ⟨u,v,s,F,t,rfl,hm,hF,hs,htt,ru,rv,gu,gv,hgo,g,h0⟩ _
 have hT2:∀ {q:List Dop} {o:Dop},o ∈ q→lenN o≤total q:=fun h=>total_mem h
 refine callK_mono (rover_ok rv) ?_
 rintro _ _ ⟨rfl,rfl⟩
 rename World=>W
 rw [notK_i]
 cases v with
 | nil=>
  rw [decide_eq_true rfl]
  refine condK_f ?_
  rw [go_end fun o ho=>GoodK.opk (gu o ho) (by have:=hT2 ho;omega)] at hgo
  -- the rest of the first one
  refine LoopK_i (fun vs W=>∃ (u:List Dop) (s:MkS) (F:Nat→Prop) (t:Nat),vs=[]∧MkI F W b s∧Fof w4 W b F∧GoodM (SetK ks) (PatK ks) s t∧t+total u≤total x+total y∧RdI Sx Dx W c u∧RdI Sy Dy W d []∧(∀ o ∈ u,GoodK ks o)∧u.foldl stepS s=goC ks MkS.z x y∧Grow w W∧w4.heap.size≤W.heap.size)
   (fun _ W=>rank W c) ⟨u,s,F,t,rfl,hm,hF,hs,by omega,ru,rv,gu,hgo,g,h0⟩ ?_
  clear hm hF hs htt ru rv gu hgo g h0
  rintro _ W ⟨u,s,F,t,rfl,hm,hF,hs,htt,ru,rv,gu,hgo,g,h0⟩ _
  refine callK_mono (rover_ok ru) ?_
  rintro _ _ ⟨rfl,rfl⟩
  rename World=>W
  rw [notK_i]
  cases u with
  | nil=>
   rw [decide_eq_true rfl]
   refine condK_f ?_
   simp only [List.foldl_nil] at hgo
   subst hgo
   obtain ⟨q1,q2,q3⟩:=hs.bnd (by omega)
   refine callK_mono (ops_ok hm q1) ?_
   rintro zv w5 ⟨oz,g5⟩
   have ez:opsS (goC ks MkS.z x y)=cmpD ks x y:=rfl
   rw [ez] at oz
   obtain ⟨c1,c2⟩:=cmp_good h64 (fun o ho=>(gx o ho).1) (fun o ho=>(gy o ho).1) (by omega)
   have hn:∀ o ∈ cmpD ks x y,0≤o.n:=fun o ho=>by rcases c1 o ho with ⟨_,_,_,h4,_⟩ | ⟨_,_,_,_,h4⟩ | ⟨_,_,h4,_⟩ <;> omega
   have ht1:=sumW_total (f:=takesF) (cmpD ks x y) (fun o ho=>by have:=hn o ho;unfold takesF lenN;split <;> omega) (by omega)
   have ht2:=sumW_total (f:=makesF) (cmpD ks x y) (fun o ho=>by have:=hn o ho;unfold makesF lenN lenO;split <;> (split <;> omega)) (by omega)
   refine callK_mono (takesp_ok (ODops.sl oz)) ?_
   rintro _ w6 ⟨rfl,g6⟩
   rw [gtK_i]
   refine condK_p (fun e=>by omega) fun _=>?_
   refine callK_mono (makesp_ok (RDops.grow (ODops.sl oz) g6)) ?_
   rintro _ w7 ⟨rfl,g7⟩
   rw [gtK_i]
   refine condK_p (fun e=>by omega) fun _=>?_
   refine ⟨zv,rfl,?_,((g.trans g5).trans g6).trans g7⟩
   have o7:=ODops.grow oz (g6.trans g7) fun _ _ _ h=>h
   have:w.heap.size≤W.heap.size:=g.size
   unfold ODops at o7 ⊢
   refine OwnR.base (OwnR.mod o7 (Mod.refl (fun _=>False) _) (fun _ _ h=>h) fun r o _ ho=>ho.mod (Mod.refl (fun _=>False) _) (fun _ _ _ h=>h) fun z _ hz=>⟨by omega,hz.2⟩) fun z hz=>by have:=(OwnR.ownB o7 z hz).1;omega
  | cons o u=>
   rw [decide_eq_false (by simp)]
   refine condK_t ?_
   have ho:=gu o (by simp)
   have hlo:=hT2 (show o ∈ o :: u by simp)
   have op:=GoodK.opk ho (by omega)
   refine callK_mono (rtake_ok ru (n:=536870912) (by decide) (by decide)) ?_
   rintro _ W1 ⟨r,o',u',rfl,hr,ru1,m1,⟨e,_⟩ | ⟨o1,u1,e,rfl,rfl,hrk⟩⟩
   ·simp at e
   cases e
   have hmin:min 536870912 (lenN o)=lenN o:=by omega
   rw [hmin,headO_all op] at hr
   rw [hmin,behind_all] at ru1
   obtain ⟨hm1,hF1,rv1,gw1,h01⟩:=cx.tookX hm hF m1 rv g h0
   rw [total_cons] at htt
   refine callK_mono (tell_ok hm1 hr (fun z hz e=>nF hF1 z (cx.x z (.inr hz)) e) hs ho (by omega)) ?_
   rintro _ W2 hL
   obtain ⟨⟨F2,hm2,hF2⟩,ru2,rv2,gw2,h02⟩:=cx.after hF1 hL ru1 rv1 gw1 h01
   refine ⟨⟨u,stepS s o,F2,t+lenN o,rfl,hm2,hF2,good_step hs ho (by omega),by omega,ru2,rv2,fun q hq=>gu q (by simp [hq]),hgo,gw2,h02⟩,?_⟩
   obtain ⟨_,_,_,mL⟩:=hL
   rw [ru1.rank_mod mL fun e=>by have:=(hF1 c e).1;have:=cx.bc;have:=cx.c2;omega]
   exact hrk
 | cons o v=>
  rw [decide_eq_false (by simp)]
  refine condK_t ?_
  have ho:=gv o (by simp)
  have hlo:=hT2 (show o ∈ o :: v by simp)
  have op:=GoodK.opk ho (by omega)
  refine callK_mono (rkind_ok rv) ?_
  rintro _ _ ⟨rfl,rfl⟩
  rename World=>W
  rw [eqK_i]
  refine condK_p (fun k2=>?_) fun k2=>?_
  ·-- an insert of the second one
   rw [go_ins op k2] at hgo
   refine callK_mono (rtake_ok rv (n:=536870912) (by decide) (by decide)) ?_
   rintro _ W1 ⟨r,o',v',rfl,hr,rv1,m1,⟨e,_⟩ | ⟨o1,v1,e,rfl,rfl,hrk⟩⟩
   ·simp at e
   cases e
   have hmin:min 536870912 (lenN o)=lenN o:=by omega
   rw [hmin,headO_all op] at hr
   rw [hmin,behind_all] at rv1
   obtain ⟨hm1,hF1,ru1,gw1,h01⟩:=cx.tookY hm hF m1 ru g h0
   rw [total_cons] at htt
   refine callK_mono (tell_ok hm1 hr (fun z hz e=>nF hF1 z (cx.y z (.inr hz)) e) hs ho (by omega)) ?_
   rintro _ W2 hL
   obtain ⟨⟨F2,hm2,hF2⟩,ru2,rv2,gw2,h02⟩:=cx.after hF1 hL ru1 rv1 gw1 h01
   refine ⟨⟨u,v,stepS s o,F2,t+lenN o,rfl,hm2,hF2,good_step hs ho (by omega),by omega,ru2,rv2,gu,fun q hq=>gv q (by simp [hq]),hgo,gw2,h02⟩,?_⟩
   obtain ⟨_,_,_,mL⟩:=hL
   rw [ru1.rank_mod mL fun e=>by have:=(hF1 c e).1;have:=cx.bc;have:=cx.c2;omega,rv1.rank_mod mL fun e=>by have:=(hF1 d e).1;have:=cx.bd;have:=cx.d2;omega,ru.rank_mod m1 cx.cd]
   omega
  refine callK_mono (rkind_ok ru) ?_
  rintro _ _ ⟨rfl,rfl⟩
  rename World=>W
  rw [eqK_i]
  -- what both give together
  have both:∀ (a:Dop) (n:Nat),1≤n→n≤lenN o→(u=[]∧a=⟨1,n,[],[],[]⟩∧n=lenN o∨∃ a1 u1,u=a1 :: u1∧a1.kind≠3∧n=min (lenN a1) (lenN o)∧a=headO n a1)→
    GoodK ks a∧lenN a=n∧a.kind≠3∧goC ks (bothS ks s a (headO n o)) (behind n u) (behind n (o :: v))=goC ks MkS.z x y∧total (behind n u)+total (behind n (o :: v))+n≤total u+total (o :: v):=by
   intro a n hn1 hn2 hc
   have tv:=total_behind (x:=v) hn2
   rcases hc with ⟨rfl,rfl,rfl⟩ | ⟨a1,u1,rfl,k3,hmin,rfl⟩
   ·refine ⟨.inl ⟨rfl,rfl,rfl,by simp only;omega,patK_nil⟩,by simp [lenN],by simp,?_,?_⟩
    ·rw [go_none op k2] at hgo
     rw [headO_all op,behind_all];exact hgo
    ·simp only [behind] at tv ⊢;omega
   ·have ga:=gu a1 (by simp)
    have hla:=hT2 (show a1 ∈ a1 :: u1 by simp)
    have na:n≤lenN a1:=by omega
    have tu:=total_behind (x:=u1) na
    refine ⟨good_head ga hn1 na,headO_len na,by rw [headO_kind];exact k3,?_,by omega⟩
    rw [go_both (GoodK.opk ga (by omega)) op k3 k2 hmin] at hgo
    exact hgo
  -- the step
  have step:(∀ a1 u1,u=a1 :: u1→a1.kind≠3)→callK Tryz.prog 146 [.pointer (some ⟨c,0,none⟩)] (fun t48 w14=>callK Tryz.prog 146 [.pointer (some ⟨d,0,none⟩)] (fun t50 w15=>minK .i64 t48 t50 fun t51=>
    callK Tryz.prog 145 [.pointer (some ⟨c,0,none⟩),t51] (fun t56 w16=>callK Tryz.prog 145 [.pointer (some ⟨d,0,none⟩),t51] (fun t59 w17=>callK Tryz.prog 147 [sv,.pointer (some ⟨b,0,none⟩),t56,t59] (fun _ W'=>
     (∃ (u v:List Dop) (s:MkS) (F:Nat→Prop) (t:Nat),([]:List Value)=[]∧MkI F W' b s∧Fof w4 W' b F∧GoodM (SetK ks) (PatK ks) s t∧t+total u+total v≤total x+total y∧RdI Sx Dx W' c u∧RdI Sy Dy W' d v∧(∀ o ∈ u,GoodK ks o)∧(∀ o ∈ v,GoodK ks o)∧goC ks s u v=goC ks MkS.z x y∧Grow w W'∧w4.heap.size≤W'.heap.size)∧rank W' c+rank W' d < rank W c+rank W d) w17) w16) w15) w14) W:=by
   intro hk3
   refine callK_mono (rlong_ok ru) ?_
   rintro _ W1 ⟨rfl,g1'⟩
   have rv1:=rv.mod g1' (fun h=>h) (fun _ _ h=>h) fun _ _ h=>h
   refine callK_mono (rlong_ok rv1) ?_
   rintro _ W2 ⟨rfl,g2'⟩
   have g12':=g1'.trans g2'
   have ru2:=ru.mod g12' (fun h=>h) (fun _ _ h=>h) fun _ _ h=>h
   have rv2:=rv.mod g12' (fun h=>h) (fun _ _ h=>h) fun _ _ h=>h
   obtain ⟨hm2,hF2⟩:=Cx.grew hm hF g12'
   have g02:=g.trans g12'
   have h02:w4.heap.size≤W2.heap.size:=Nat.le_trans h0 g12'.size
   have ek1:rank W2 c=rank W c:=ru.rank_mod g12' fun h=>h
   have ek2:rank W2 d=rank W d:=rv.rank_mod g12' fun h=>h
   rw [minK_i]
   obtain ⟨n,hn⟩:∃ n:Nat,n=min (longH u) (lenN o):=⟨_,rfl⟩
   have en:(if ((longH (o :: v):Nat):Int) < ((longH u:Nat):Int) then ((longH (o :: v):Nat):Int) else ((longH u:Nat):Int))=(n:Int):=by
    rw [longH_cons]
    split <;> omega
   rw [en]
   have hpos:=op.pos
   have hn1:1≤n:=by
    cases u with
    | nil=>rw [longH_nil,Nat.min_eq_right op.le] at hn;rw [hn];exact hpos
    | cons a u1=>have:=(GoodK.m (gu a (by simp))).2;rw [longH_cons] at hn;omega
   have hn2:n≤lenN o:=by omega
   refine callK_mono (rtake_ok ru2 (n:=n) hn1 (by omega)) ?_
   rintro _ W3 ⟨r,a,u',rfl,hr,ru3,m3,hcase⟩
   obtain ⟨hm3,hF3,rv3,g03,h03⟩:=cx.tookX hm2 hF2 m3 rv2 g02 h02
   refine callK_mono (rtake_ok rv3 (n:=n) hn1 (by omega)) ?_
   rintro _ W4 ⟨r2,o2,v2,rfl,hr2,rv4,m4,⟨e,_⟩ | ⟨o1,v1,e,rfl,rfl,hrk⟩⟩
   ·simp at e
   cases e
   have hmin2:min n (lenN o)=n:=by omega
   rw [hmin2] at hr2 rv4
   obtain ⟨hm4,hF4,ru4,g04',h04⟩:=cx.tookY hm3 hF3 m4 ru3 g03 h03
   have hca:(u=[]∧a=⟨1,n,[],[],[]⟩∧n=lenN o∨∃ a1 u1,u=a1 :: u1∧a1.kind≠3∧n=min (lenN a1) (lenN o)∧a=headO n a1)∧u'=behind n u∧rank W3 c≤rank W2 c:=by
    rcases hcase with ⟨hu,ha,hu',hrk'⟩ | ⟨a1,u1,hu,ha,hu',hrk'⟩
    ·subst hu
     rw [longH_nil,Nat.min_eq_right op.le] at hn
     exact ⟨.inl ⟨rfl,ha,by omega⟩,hu',by omega⟩
    ·subst hu
     rw [longH_cons] at hn
     have hmin3:min n (lenN a1)=n:=by omega
     rw [hmin3] at ha hu'
     exact ⟨.inr ⟨a1,u1,rfl,hk3 _ _ rfl,hn,ha⟩,hu',by omega⟩
   obtain ⟨hca1,rfl,hrk3⟩:=hca
   obtain ⟨ga,la,ka,hgo',htot⟩:=both a n hn1 hn2 hca1
   have gho:=good_head ho hn1 hn2
   have hr4:RDop Dx W4 r a:=hr.mod m4 (fun z _ hz e=>by have:=cx.x z (.inr hz);have:=cx.d1;omega) fun _ _ h=>h
   have hS4:SchR (fun z=>E z∧z < w.heap.size) W4 sv ks:=hE.grow g04'
   refine callK_mono (both_ok h64 hS4 (fun z hz e=>nF hF4 z hz.2 e) hm4 (fun z hz=>(hF4 z hz).2) hr4 (fun z hz e=>nF hF4 z (cx.x z (.inr hz)) e) hr2 (fun z hz e=>nF hF4 z (cx.y z (.inr hz)) e) hs ga gho (by omega) (by rw [la,headO_len hn2]) (by rw [headO_kind];exact k2)) ?_
   rintro _ W5 hL
   obtain ⟨⟨F5,hm5,hF5⟩,ru5,rv5,g05,h05⟩:=cx.after hF4 hL ru4 rv4 g04' h04
   refine ⟨⟨behind n u,behind n (o :: v),_,F5,t+n,rfl,hm5,hF5,good_both h64 hs ga gho la (headO_len hn2) (by rw [headO_kind];exact k2) ka hn1 (by omega),by omega,ru5,rv5,good_behind gu,good_behind gv,hgo',g05,h05⟩,?_⟩
   obtain ⟨_,_,_,mL⟩:=hL
   have e1:rank W5 c=rank W3 c:=by rw [ru4.rank_mod mL fun e=>by have:=(hF4 c e).1;have:=cx.bc;have:=cx.c2;omega,ru3.rank_mod m4 cx.cd]
   have e2:rank W5 d=rank W4 d:=rv4.rank_mod mL fun e=>by have:=(hF4 d e).1;have:=cx.bd;have:=cx.d2;omega
   have e3:rank W3 d=rank W2 d:=rv2.rank_mod m3 fun e=>cx.cd e.symm
   omega
  cases u with
  | nil=>exact condK_p (fun e=>by simp [kindH] at e) fun _=>step fun a1 u1 e=>by simp at e
  | cons a u=>
   refine condK_p (fun k3=>?_) fun k3=>step fun a1 u1 e=>by cases e;exact k3
   -- a delete of the first one
   have ga:=gu a (by simp)
   have hla:=hT2 (show a ∈ a :: u by simp)
   have oa:=GoodK.opk ga (by omega)
   rw [go_del oa op k3 k2] at hgo
   refine callK_mono (rtake_ok ru (n:=536870912) (by decide) (by decide)) ?_
   rintro _ W1 ⟨r,o',u',rfl,hr,ru1,m1,⟨e,_⟩ | ⟨o1,u1,e,rfl,rfl,hrk⟩⟩
   ·simp at e
   cases e
   have hmin:min 536870912 (lenN a)=lenN a:=by omega
   rw [hmin,headO_all oa] at hr
   rw [hmin,behind_all] at ru1
   obtain ⟨hm1,hF1,rv1,gw1,h01⟩:=cx.tookX hm hF m1 rv g h0
   rw [total_cons a u] at htt
   refine callK_mono (tell_ok hm1 hr (fun z hz e=>nF hF1 z (cx.x z (.inr hz)) e) hs ga (by omega)) ?_
   rintro _ W2 hL
   obtain ⟨⟨F2,hm2,hF2⟩,ru2,rv2,gw2,h02⟩:=cx.after hF1 hL ru1 rv1 gw1 h01
   refine ⟨⟨u,o :: v,stepS s a,F2,t+lenN a,rfl,hm2,hF2,good_step hs ga (by omega),by omega,ru2,rv2,fun q hq=>gu q (by simp [hq]),gv,hgo,gw2,h02⟩,?_⟩
   obtain ⟨_,_,_,mL⟩:=hL
   rw [ru1.rank_mod mL fun e=>by have:=(hF1 c e).1;have:=cx.bc;have:=cx.c2;omega,rv1.rank_mod mL fun e=>by have:=(hF1 d e).1;have:=cx.bd;have:=cx.d2;omega,rv.rank_mod m1 fun e=>cx.cd e.symm]
   omega
end
end Go.Proofs.YtlbaopamhkmepaaGreatDoor

namespace Go.Proofs.YtlbaopamhkmepaaGreatDoor
open Go Go.K

def GoodG (ks:List DKey) (T:Nat) (g:Grp):Prop:=(∀ o ∈ g.d,GoodK ks o∧InO o)∧(∀ o ∈ g.u,GoodK ks o∧InO o)∧total g.d≤T∧total g.u≤T
def withL (ks:List DKey) (own:List Grp) (g:Grp):Grp:=match own with
 | []=>g
 | a :: _=>⟨cmpD ks a.d g.d,cmpD ks g.u a.u⟩
theorem GoodG.m {ks:List DKey} {T:Nat} {g:Grp} (h:GoodG ks T g) (hT:T≤16777216):mDops g.d≤1099511627776∧mDops g.u≤1099511627776:=by
 have h1:=good_m fun o ho=>(h.1 o ho).1
 have h2:=good_m fun o ho=>(h.2.1 o ho).1
 have:=h.2.2.1
 have:=h.2.2.2
 omega
theorem GoodG.with {ks:List DKey} {T T':Nat} {own:List Grp} {g:Grp} (h64:ks.length≤64) (h:GoodG ks T g) (ho:∀ a ∈ own,GoodG ks T' a) (hT:T+T'≤16777216):GoodG ks (T+T') (withL ks own g):=by
 cases own with
 | nil=>exact ⟨h.1,h.2.1,by have:=h.2.2.1;show total g.d≤T+T';omega,by have:=h.2.2.2;show total g.u≤T+T';omega⟩
 | cons a r=>
  have ha:=ho a (by simp)
  have e1:=h.2.2.1
  have e2:=h.2.2.2
  have e3:=ha.2.2.1
  have e4:=ha.2.2.2
  have c1:=cmp_good h64 (fun o ho=>(ha.1 o ho).1) (fun o ho=>(h.1 o ho).1) (by omega)
  have c2:=cmp_good h64 (fun o ho=>(h.2.1 o ho).1) (fun o ho=>(ha.2.1 o ho).1) (by omega)
  exact ⟨fun o ho=>⟨c1.1 o ho,cmp_in h64 ha.1 h.1 (by omega) o ho⟩,fun o ho=>⟨c2.1 o ho,cmp_in h64 h.2.1 ha.2.1 (by omega) o ho⟩,by show total (cmpD ks a.d g.d)≤T+T';omega,by show total (cmpD ks g.u a.u)≤T+T';omega⟩
section
variable {F C C':Nat→Prop} {W:World} {b T T':Nat} {sv uv rv ov dv uu:Value} {ks:List DKey} {mx:Nat} {us rs own:List Grp} {op:Bool} {g:Grp}
set_option maxRecDepth 20000 in
theorem with_ok (hR:HistR F C W b sv ks uv rv ov mx us rs op own) (hg:RGrp C' W [dv,uu] g) (h1:own.length≤1) (h64:ks.length≤64) (hT:Tabs W) (gg:GoodG ks T g) (go:∀ a ∈ own,GoodG ks T' a) (hb:T+T'≤16777216) :
  callK Tryz.prog 50 [.pointer (some ⟨b,0,none⟩),.agg #[dv,uu]] (fun v' w'=>∃ dv' uu',v'=.tuple #[.agg #[dv',uu'],.int .i64 0]∧RGrp (fun z=>C' z∨W.heap.size≤z∧z < w'.heap.size) w' [dv',uu'] (withL ks own g)∧Grow W w') W:=by
 apply S50_ok
 unfold S50
 refine boxn_i (vs:=[dv,uu]) fun b3 w1 hb3 hz1 g1 hc1 _=>?_
 refine newz_i fun b4 w2 hb4 hz2 g2 _ hl2=>?_
 have g12:=g1.trans g2
 have hR2:=hR.grow g12
 have hr1:=hg.one
 refine nilckK_s ?_
 rw [faK_i,addr0]
 refine ld1K_i (hR2.cells 6 _ rfl) ?_
 obtain ⟨oa,oc,rfl,_⟩:=hR2.own.shape
 rw [lenK_i,eqK_i]
 refine condK_p (fun h0=>?_) fun h0=>?_
 ·have e0:own=[]:=List.eq_nil_of_length_eq_zero (by omega)
  subst e0
  refine ldnK_i (vs:=[dv,uu]) rfl (fun j u hu=>g2.cell (hc1 j u hu) fun h=>h) ?_
  refine stn_over (vs:=[dv,uu]) rfl hr1 (fun j hj=>hl2 j hj) fun w3 m3 hc3 _=>?_
  refine ldnK_i (vs:=[dv,uu]) rfl hc3 ?_
  refine ⟨dv,uu,rfl,?_,g12.next m3 fun x hx e=>by omega⟩
  exact hg.to (g12.next m3 fun x hx e=>by omega:Grow W w3) (fun _ _ _ h=>h) fun _ _ h=>.inl h
 obtain ⟨a,rfl⟩:∃ a,own=[a]:=by
  match own,h1,h0 with
  | [],_,h0=>simp at h0
  | [a],_,_=>exact ⟨a,rfl⟩
  | _ :: _ :: _,h1,_=>simp at h1
 have ga:=go a (by simp)
 have gd:Grow w2 w2.drew:=Mod.drew _ _
 have hR3:=hR2.grow gd
 have c3:∀ j u,([dv,uu]:List Value)[j]?=some u→w2.drew.cell? ((⟨b3,0,none⟩:Addr).add j)=some u:=fun j u hu=>(g2.trans gd).cell (hc1 j u hu) fun h=>h
 obtain ⟨p,r,rfl,_,hr2,hcr,da,ua,rfl,hda,hua⟩:=hR3.own.get (i:=0) (by simp)
 have hda':RDops C C w2.drew da a.d:=hda
 have hua':RDops C C w2.drew ua a.u:=hua
 obtain ⟨dv0,uu0,e0,hd0,hu0⟩:=hg
 cases e0
 have e1:=gg.2.2.1
 have e2:=gg.2.2.2
 have e3:=ga.2.2.1
 have e4:=ga.2.2.2
 have g3:=g12.trans gd
 refine drawC_i (fun _ _=>False) ?_
 refine nilckK_s ?_
 rw [faK_i,addr0]
 refine sld1_i ⟨hR3.cells 0 _ rfl,fun _ _ h=>h⟩ ?_
 refine nilckK_s ?_
 rw [faK_i,addr0]
 refine sld1_i ⟨hR3.cells 6 _ rfl,fun _ _ h=>h⟩ ?_
 refine ixK_n (j:=0) (by simp) ?_
 rw [faK_i,Addr.add_add]
 refine sld1_i ⟨hcr 0 _ rfl,fun _ _ h=>h⟩ ?_
 rw [faK_i]
 refine sld1_i ⟨c3 0 _ rfl,fun _ _ h=>h⟩ ?_
 refine callK_mono (compose_ok h64 hR3.sch hda' (hd0.grow g3) (hT.grow g3) ga.1 gg.1 (by omega)) ?_
 rintro _ w4 ⟨zd,rfl,od,g4⟩
 refine ⟨g4,extK_i (vs:=[_,_]) (by rfl) (extK_i (vs:=[_,_]) (by rfl) ?_)⟩
 rw [neK_i]
 refine condK_neg (fun _=>?_) fun e=>(e rfl).elim
 have gd2:Grow w4 w4.drew:=Mod.drew _ _
 have g34:=g4.trans gd2
 have hR4:=hR3.grow g34
 refine drawC_i (fun _ _=>False) ?_
 refine nilckK_s ?_
 rw [faK_i,addr0]
 refine sld1_i ⟨hR4.cells 0 _ rfl,fun _ _ h=>h⟩ ?_
 rw [faK_i]
 refine sld1_i ⟨g34.cell (c3 1 _ rfl) fun h=>h,fun _ _ h=>h⟩ ?_
 refine nilckK_s ?_
 rw [faK_i,addr0]
 refine sld1_i ⟨hR4.cells 6 _ rfl,fun _ _ h=>h⟩ ?_
 refine ixK_n (j:=0) (by simp) ?_
 rw [faK_i,Addr.add_add]
 refine sld1_i ⟨g34.cell (hcr 1 _ rfl) fun h=>h,fun _ _ h=>h⟩ ?_
 refine callK_mono (compose_ok h64 hR4.sch (hu0.grow (g3.trans g34)) (hua'.grow g34) (hT.grow (g3.trans g34)) gg.2.1 ga.2.1 (by omega)) ?_
 rintro _ w5 ⟨zu,rfl,ou,g5⟩
 refine ⟨g5,extK_i (vs:=[_,_]) (by rfl) (extK_i (vs:=[_,_]) (by rfl) ?_)⟩
 obtain ⟨ca,cc,ecd,_⟩:=(ODops.sl od).shape
 obtain ⟨ca',cc',ecu,_⟩:=(ODops.sl ou).shape
 refine ⟨#[zd,zu],by rw [ecd,ecu];kernel_rfl,?_⟩
 have z12:=g12.size
 have z3:w2.drew.heap.size=w2.heap.size:=rfl
 have z34:=g34.size
 have z4:=g4.size
 have z5:=g5.size
 have g35:=g34.trans g5
 refine stn_over (vs:=[zd,zu]) rfl (fun u hu=>by simp at hu;rcases hu with rfl | rfl;rw [ecd];rfl;rw [ecu];rfl) (fun j hj=>((hl2 j hj).mod gd fun h=>h).mod g35 fun h=>h) fun w6 m6 hc6 _=>?_
 refine ldnK_i (vs:=[zd,zu]) rfl hc6 ?_
 have z6:=m6.size
 have g06:Grow W w6:=(g3.trans g35).next m6 fun x hx e=>by omega
 have hb4':b4 < w2.drew.heap.size:=by omega
 refine ⟨zd,zu,rfl,⟨zd,zu,rfl,?_,?_⟩,g06⟩
 ·exact ((ODops.reads od).to (gd2.trans g5) (fun _ _ _ h=>h) (fun _ _ _ h=>h) (fun _ _ h=>h) fun _ _ h=>h).to m6 (fun x _ hx e=>by have:=hx.1;omega) (fun x _ hx e=>by have:=hx.1;omega) (fun x _ hx=>.inr ⟨by have:=hx.1;omega,by have:=hx.2;omega⟩) fun x _ hx=>.inr ⟨by have:=hx.1;omega,by have:=hx.2;omega⟩
 ·exact (ODops.reads ou).to m6 (fun x _ hx e=>by have:=hx.1;have:=gd2.size;omega) (fun x _ hx e=>by have:=hx.1;have:=gd2.size;omega) (fun x _ hx=>.inr ⟨by have:=hx.1;have:=gd2.size;omega,by have:=hx.2;omega⟩) fun x _ hx=>.inr ⟨by have:=hx.1;have:=gd2.size;omega,by have:=hx.2;omega⟩
end
section
variable {F C M:Nat→Prop} {W W':World} {b T T':Nat} {ks:List DKey} {h:Hist}
theorem push2_ok {S D S' D':Nat→Prop} {dv uu:Value} {x y:List Dop} (hh:HistI F W b ks h) (hop:h.op=true) (h1:h.own.length≤1) (h64:ks.length≤64) (hT:Tabs W) (hd:RDops S D W dv x) (hu:RDops S' D' W uu y) (gg:GoodG ks T ⟨x,y⟩) (go:∀ a ∈ h.own,GoodG ks T' a) (hb:T+T'≤16777216) (hF:∀ z,F z→z < W.heap.size) :
  callK Tryz.prog 18 [.pointer (some ⟨b,0,none⟩),dv,uu] (fun v' w'=>v'=.int .i64 0∧HAfter F W w' b ks { h with own:=[withL ks h.own ⟨x,y⟩],rs:=[] }) W:=by
 apply S18_ok
 unfold S18
 refine callK_mono (hready_ok hh) ?_
 rintro _ _ ⟨rfl,rfl⟩
 rename World=>W
 obtain ⟨C,sv,uv,rv,ov,hR⟩:=hh
 obtain ⟨bx,by'⟩:=gg.m (by omega)
 rw [notK_i]
 refine condK_f ?_
 refine callK_mono (copy_dops hd bx) ?_
 rintro cv w2 ⟨o2,g2⟩
 refine callK_mono (copy_dops (hu.grow g2) by') ?_
 rintro cu w3 ⟨o3,g3⟩
 have g23:=g2.trans g3
 obtain ⟨ca,cc,ecv,_⟩:=(ODops.sl o2).shape
 obtain ⟨ca',cc',ecu,_⟩:=(ODops.sl o3).shape
 refine ⟨#[cv,cu],by rw [ecv,ecu];kernel_rfl,?_⟩
 refine newst_n (vs:=[cv,cu]) rfl rfl (fun u hu=>by simp at hu;rcases hu with rfl | rfl;rw [ecv];rfl;rw [ecu];rfl) fun b7 w4 hb7 hz7 g4 hc4 _=>?_
 have z2:=g2.size
 have z3:=g3.size
 have r2:RDops (fun z=>W.heap.size≤z∧z < w4.heap.size) (fun z=>W.heap.size≤z∧z < w4.heap.size) w4 cv x:=(ODops.reads o2).to (g3.trans g4) (fun _ _ _ h=>h) (fun _ _ _ h=>h) (fun z _ hz=>⟨hz.1,by omega⟩) fun z _ hz=>⟨hz.1,by omega⟩
 have r3:RDops (fun z=>W.heap.size≤z∧z < w4.heap.size) (fun z=>W.heap.size≤z∧z < w4.heap.size) w4 cu y:=(ODops.reads o3).to g4 (fun _ _ _ h=>h) (fun _ _ _ h=>h) (fun z _ hz=>⟨by omega,by omega⟩) fun z _ hz=>⟨by omega,by omega⟩
 have hg:RGrp (fun z=>W.heap.size≤z∧z < w4.heap.size) w4 [cv,cu] ⟨x,y⟩:=⟨cv,cu,rfl,r2,r3⟩
 have g04:=g23.trans g4
 have hR4:=hR.grow g04
 refine JoinK_i (fun _ w6=>∃ F' C' ov',(∀ z,F' z→F z∨W.heap.size≤z∧z < w6.heap.size)∧HistR F' C' w6 b sv ks uv rv ov' h.max h.us h.rs h.op [withL ks h.own ⟨x,y⟩]∧Mod F W w6) ?_ ?_
 ·rintro _ w6 ⟨F',C',ov',hF',hR6,m6⟩ _
  refine nilckK_s ?_
  rw [faK_i,addr0]
  refine hR6.setR (F':=F') (M:=fun _=>False) (Mod.refl _ _) (fun _ h=>h.elim) (fun _ h=>h) (.inl OwnR.nil) (fun g hg=>nomatch hg) fun w7 hR7 m7=>⟨rfl,F',fun z hz=>?_,⟨_,sv,uv,_,ov',hR7⟩,m6.trans (m7.mono fun z _ e=>by rw [e];exact hR.fb.1)⟩
  have:=m7.size
  rcases hF' z hz with h | h
  ·exact .inl h
  ·exact .inr ⟨h.1,by omega⟩
 refine nilckK_s ?_
 rw [faK_i,addr0]
 refine ld1K_i (hR4.cells 5 _ rfl) ?_
 rw [hop]
 refine condK_t ?_
 refine ldnK_i (vs:=[cv,cu]) rfl hc4 ?_
 rw [←hop]
 refine callK_mono (with_ok hR4 hg h1 h64 (hT.grow g04) gg go hb) ?_
 rintro _ w5 ⟨dv',uu',rfl,hg5,g5⟩
 refine extK_i (vs:=[_,_]) (by rfl) (extK_i (vs:=[_,_]) (by rfl) ?_)
 have z4:=g04.size
 have z5:=g5.size
 refine newst_n (vs:=[dv',uu']) rfl rfl hg5.one fun b8 w6 hb8 hz8 g6 hc6 _=>?_
 rw [neK_i]
 refine condK_neg (fun _=>?_) fun e=>(e rfl).elim
 refine ldnK_i (vs:=[dv',uu']) rfl hc6 ?_
 have hg6:=hg5.to (C':=fun z=>W.heap.size≤z∧z < w5.heap.size) g6 (fun _ _ _ h=>h) fun z _ hz=>by
  rcases hz with hz | hz
  ·exact ⟨hz.1,by omega⟩
  ·exact ⟨by omega,hz.2⟩
 have shp:∃ a1 n1 c1 a2 n2 c2,dv'=.slice a1 n1 c1∧uu'=.slice a2 n2 c2:=by
  obtain ⟨d0,u0,e0,q1,q2⟩:=hg6
  cases e0
  obtain ⟨a1,c1,rfl,_⟩:=q1.shape
  obtain ⟨a2,c2,rfl,_⟩:=q2.shape
  exact ⟨_,_,_,_,_,_,rfl,rfl⟩
 refine rowK_i (cs:=[dv',uu']) (by obtain ⟨_,_,_,_,_,_,rfl,rfl⟩:=shp;kernel_rfl) ?_
 have g7:Grow w6 (w6.alloc (.cells [dv',uu'].toArray TGrp)):=Mod.alloc _ _ _
 have z7:(w6.alloc (.cells [dv',uu'].toArray TGrp)).heap.size=w6.heap.size+1:=by simp
 have hg7:=hg6.mod g7 fun _ _ _ h=>h
 have o7:OwnR w6.heap.size TGrp 2 (RGrp fun z=>W.heap.size≤z∧z < w5.heap.size) (w6.alloc (.cells [dv',uu'].toArray TGrp)) (.slice (some ⟨w6.heap.size,0,none⟩) 1 1) [withL ks h.own ⟨x,y⟩]:=OwnR.row1 (Nat.le_refl _) rfl hg5.one hg7
 generalize w6.alloc (.cells [dv',uu'].toArray TGrp)=w7 at g7 z7 hg7 o7 ⊢
 have g47:=(g5.trans g6).trans g7
 have z6:=g6.size
 have hR7:=(hR4.grow g47).more (F':=fun z=>F z∨W.heap.size≤z∧z < w7.heap.size) (C':=fun z=>C z∨W.heap.size≤z∧z < w7.heap.size) (fun _ h=>.inl h) (fun _ h=>.inl h) (fun z hz=>by
  rcases hz with hz | hz
  ·have:=hR.cf z hz;exact ⟨.inl this.1,by omega,.inl hz⟩
  ·exact ⟨.inr hz,hz.2,.inr fun hf=>by have:=hF z hf;omega⟩)
 refine nilckK_s ?_
 rw [faK_i,addr0]
 have osl:SlR (fun z=>C z∨W.heap.size≤z∧z < w7.heap.size) 2 (RGrp fun z=>C z∨W.heap.size≤z∧z < w7.heap.size) w7 (.slice (some ⟨w6.heap.size,0,none⟩) 1 1) [withL ks h.own ⟨x,y⟩]:=
  SlR.sub (OwnR.sl o7) (fun z hz h=>.inr ⟨by have:=h.1;omega,hz⟩) (by decide) fun r g hg=>hg.to (Mod.refl (fun _=>False) _) (fun _ _ _ h=>h) fun z _ hz=>.inr ⟨hz.1,by omega⟩
 refine hR7.setOwn osl fun w8 hR8 m8=>⟨_,_,_,fun z hz=>?_,hR8,?_⟩
 ·have:=m8.size
  rcases hz with hz | hz
  ·exact .inl hz
  ·exact .inr ⟨hz.1,by omega⟩
 ·exact ((g04.trans g47).mono fun _ _ e=>e.elim:Mod F W w7).trans (m8.mono fun z _ e=>by rw [e];exact hR.fb.1)
def endL (mx:Nat) (us own:List Grp):List Grp:=match own with
 | []=>us
 | g :: _=>keepL mx us g
theorem end_ok (hh:HistI F W b ks h) (h1:h.own.length≤1) (hl:h.us.length≤h.max) (hmx:h.max≤65536) :
  callK Tryz.prog 29 [.pointer (some ⟨b,0,none⟩)] (fun v' w'=>(h.op=false∧v'=.int .i64 9∧w'=W)∨(h.op=true∧v'=.int .i64 0∧HAfter F W w' b ks { h with us:=endL h.max h.us h.own,op:=false,own:=[] })) W:=by
 apply S29_ok
 unfold S29
 refine callK_mono (hready_ok hh) ?_
 rintro _ _ ⟨rfl,rfl⟩
 rename World=>W
 obtain ⟨C,sv,uv,rv,ov,hR⟩:=hh
 rw [notK_i]
 refine condK_f (nilckK_s ?_)
 rw [faK_i,addr0]
 refine ld1K_i (hR.cells 5 _ rfl) ?_
 rw [notK_i]
 cases hop:h.op with
 | false=>exact condK_t (.inl ⟨rfl,rfl,rfl⟩)
 | true=>
  rw [hop] at hR
  refine condK_f (nilckK_s ?_)
  rw [faK_i,addr0]
  refine ld1K_i (hR.cells 6 _ rfl) ?_
  obtain ⟨oa,oc,rfl,_⟩:=hR.own.shape
  rw [lenK_i]
  refine LoopK_i (fun vs W1=>∃ (i:Nat) (F':Nat→Prop) (uv':Value),i≤h.own.length∧vs=[.int .i64 i]∧(∀ x,F' x→F x∨W.heap.size≤x∧x < W1.heap.size)∧HistR F' C W1 b sv ks uv' rv (.slice oa h.own.length oc) h.max (endL h.max h.us (h.own.take i)) h.rs true h.own∧Mod F W W1) (fun vs _=>h.own.length - iOf vs 0)
   ⟨0,F,uv,Nat.zero_le _,rfl,fun _ h=>.inl h,hR,Mod.refl _ _⟩ ?_
  rintro vs W1 ⟨i,F',uv',hi,rfl,hF',hR1,m1⟩ _
  rw [nth_z,List.headD_cons,ltK_i]
  refine condK_p (fun hlt=>?_) fun hge=>?_
  ·have hlt':i < h.own.length:=by omega
   obtain rfl:i=0:=by omega
   obtain ⟨p,r,rfl,_,hr,hc,hg⟩:=hR1.own.get hlt'
   refine ixK_n (j:=0) (by omega) (ldnK_i hr (fun j u hu=>by rw [Addr.add_add];exact hc j u hu) ?_)
   refine newst_n hr rfl hg.one fun b4 W2 hb4 hz4 g4 hc4 _=>?_
   refine ldnK_i hr hc4 ?_
   obtain ⟨dv,uu,rfl,q1,q2⟩:=id hg
   refine callK_mono (keep_ok (hR1.grow g4) hl hmx (hg.mod g4 fun _ _ _ h=>h)) ?_
   rintro _ W3 ⟨F3,uv3,hF3,hR3,m3⟩
   rw [addK_i,loop_step (by omega)]
   have z1:=m1.size
   have z4:=g4.size
   have z3:=m3.size
   refine ⟨⟨1,F3,uv3,hlt',rfl,fun x hx=>?_,?_,(m1.next g4 fun _ _ e=>e.elim).next m3 fun x hx e=>?_⟩,by rw [iOf0,iOf0];omega⟩
   ·rcases hF3 x hx with e | e
    ·rcases hF' x e with e | e
     ·exact .inl e
     ·exact .inr ⟨e.1,by omega⟩
    ·exact .inr ⟨by omega,e.2⟩
   ·have e1:h.own.take 1=[h.own[0]]:=by rw [List.take_add_one,List.getElem?_eq_getElem hlt'];rfl
    rw [e1]
    exact hR3
   ·rcases hF' x e with e | e
    ·exact e
    ·omega
  ·obtain rfl:i=h.own.length:=by omega
   rw [List.take_length] at hR1
   refine nilckK_s ?_
   rw [faK_i,addr0]
   refine hR1.setOp fun W2 hR2 m2=>nilckK_s ?_
   rw [faK_i,addr0]
   refine hR2.setOwn SlR.nil fun W3 hR3 m3=>.inr ⟨rfl,rfl,F',fun x hx=>?_,⟨C,sv,uv',rv,_,hR3⟩,m1.trans ((m2.trans m3).mono fun x _ e=>by rw [e];exact hR.fb.1)⟩
   have:=m2.size
   have:=m3.size
   rcases hF' x hx with e | e
   ·exact .inl e
   ·exact .inr ⟨e.1,by omega⟩
end
section
variable {w0 W:World} {F:Nat→Prop} {b T T':Nat} {ks:List DKey} {h:Hist}
theorem HL.push2 {S D S' D':Nat→Prop} {dv uu:Value} {x y:List Dop} (hh:HL w0 F W b ks h) (hop:h.op=true) (h1:h.own.length≤1) (h64:ks.length≤64) (hT:Tabs w0) (hd:RDops S D W dv x) (hu:RDops S' D' W uu y) (gg:GoodG ks T ⟨x,y⟩) (go:∀ a ∈ h.own,GoodG ks T' a) (hb:T+T'≤16777216) :
  callK Tryz.prog 18 [.pointer (some ⟨b,0,none⟩),dv,uu] (fun v' w'=>v'=.int .i64 0∧∃ F',HL w0 F' w' b ks { h with own:=[withL ks h.own ⟨x,y⟩],rs:=[] }∧(∀ x,F' x→F x∨W.heap.size≤x)∧Mod F W w') W:=
 callK_mono (push2_ok hh.his hop h1 h64 (hT.grow hh.g) hd hu gg go hb fun x hx=>(hh.hF x hx).2) fun _ _ h'=>⟨h'.1,hh.after h'.2⟩
end
end Go.Proofs.YtlbaopamhkmepaaGreatDoor

namespace Go.Proofs.YtlbaopamhkmepaaGreatDoor
open Go Go.K
section
variable {F C:Nat→Prop} {W:World} {b:Nat} {sv uv rv ov:Value} {ks:List DKey} {mx:Nat} {us rs own:List Grp}
theorem move_open {q:Nat} {v2:Value} {a:Option Addr} {n c:Nat} (h:HistR F C W b sv ks uv rv ov mx us rs true own) (hq:W.cell? ⟨b,q,none⟩=some (.slice a n c)) :
  callK Tryz.prog 52 [.pointer (some ⟨b,0,none⟩),.pointer (some ⟨b,q,none⟩),v2] (fun v' w'=>v'=.tuple #[.agg #[.slice none 0 0,.slice none 0 0],.int .i64 9]∧Grow W w') W:=by
 apply S52_ok
 unfold S52
 refine newz_i fun b6 w1 hb6 hz1 g1 _ hl6=>?_
 have hR1:=h.grow g1
 refine nilckK_s ?_
 refine ld1K_i (g1.cell hq fun h=>h) ?_
 rw [lenK_i,subK_i]
 refine nilckK_s ?_
 rw [faK_i,addr0]
 refine ld1K_i (hR1.cells 5 _ rfl) ?_
 refine condK_t ⟨#[.slice none 0 0,.slice none 0 0],by kernel_rfl,?_⟩
 refine stn_over (vs:=[.slice none 0 0,.slice none 0 0]) rfl (fun u hu=>by simp at hu;subst hu;rfl) (fun j hj=>hl6 j hj) fun W'' m hc _=>?_
 exact ldnK_i rfl hc ⟨rfl,g1.next m fun x hx e=>by omega⟩
theorem stk_slice (h:StkR TGrp 2 (RGrp C) W uv us):∃ a n c,uv=.slice a n c:=by
 obtain ⟨a,c,e,_⟩:=h.sl (by decide)
 exact ⟨a,_,c,e⟩
end
section
variable {F:Nat→Prop} {W:World} {b:Nat} {ks:List DKey} {h:Hist}
end
end Go.Proofs.YtlbaopamhkmepaaGreatDoor

namespace Go.Proofs.YtlbaopamhkmepaaGreatDoor
open Go Go.K

theorem hnew_bad {sv:Value} {mx:Int} {W:World} (h:mx < 0∨65536 < mx):callK Tryz.prog 15 [sv,.int .i64 mx] (fun v' w'=>v'=.tuple #[.pointer none,.int .i64 2]∧w'=W) W:=by
 apply S15_ok
 unfold S15
 refine JoinK_i (fun _ _=>False) (fun _ _ h=>h.elim) ?_
 rw [ltK_i]
 refine condK_p (fun _=>⟨rfl,rfl⟩) fun h1=>?_
 rw [gtK_i]
 exact condK_p (fun _=>⟨rfl,rfl⟩) fun h2=>by omega
def rB (n:Int):Int:=IntKind.i32.wrap (IntKind.u64.wrap (97+(IntKind.u64.wrap n).tmod 26))
def nB (n:Int):Int:=IntKind.i64.wrap (1+IntKind.i64.wrap ((IntKind.u64.wrap n).tmod 9))
def gB (n:Int):Grp:=gin (rB n) (nB n)
end Go.Proofs.YtlbaopamhkmepaaGreatDoor

namespace Go.Proofs.YtlbaopamhkmepaaGreatDoor
open Go Go.K
open Go.ChangeShapes Go.Joins
variable {H:Type} {enc:TypeId × Value→H} {w:World} {base:Nat} {spare:Nat→Bool} {held:Bool}
theorem len5 {α:Type} {l:List α} (h:l.length=5):∃ a b c d e,l=[a,b,c,d,e]:=by
 match l,h with | [a,b,c,d,e],_=>exact ⟨a,b,c,d,e,rfl⟩
theorem len6 {α:Type} {l:List α} (h:l.length=6):∃ a b c d e f,l=[a,b,c,d,e,f]:=by
 match l,h with | [a,b,c,d,e,f],_=>exact ⟨a,b,c,d,e,f,rfl⟩
theorem bulk_app (l m:List (DataW H)):Rows.uptoBulkAll (l++m)=Rows.uptoBulkAll l+Rows.uptoBulkAll m:=by
 induction l with
 | nil=>simp [Rows.uptoBulkAll]
 | cons d l ih=>simp only [List.cons_append,Rows.uptoBulkAll,ih];omega
theorem SlR.of_trodU {α:Type} {t e k:Nat} {R:World→List Value→α→Prop} {μ:α→Nat} {fuel:Nat} {cs:List Value} {x:DataW H × List MemPlace} (ht:Tryz.prog.underlying t=some (.slice e)) (hk:Tryz.prog.cellsOf e=k)
  (hel:∀ n cs' y,DataW.trod enc Tryz.prog w base spare held n e cs'=some y→∃ x,R w cs' x∧μ x≤Rows.uptoBulk y.1) (h:DataW.trod enc Tryz.prog w base spare held fuel t cs=some x) :
  ∃ v l,cs=[v]∧SlR (fun _=>True) k R w v l∧(l.map μ).sum+1≤Rows.uptoBulk x.1:=by
 rcases Go.Deep.open_slice ht h with ⟨rfl,rfl⟩ | ⟨a,len,cap,m,n,D,Pl,rfl,hb,hl,hm,hmm,rfl,hall⟩
 ·exact ⟨_,[],rfl,SlR.nil,by simp [Rows.uptoBulk]⟩
 ·have hlm:len≤m:=by rw [hmm];split <;> omega
  have one:∀ i,i < len→∃ (cs':List Value) (x:α),cs'.length=k∧(∀ j u,cs'[j]?=some u→w.cell? (a.add (i * k+j))=some u)∧R w cs' x∧μ x≤Rows.uptoBulk (D i):=by
   intro i hi
   obtain ⟨cs',h1,h2⟩:=hall i (by omega)
   obtain ⟨x,hx,hmu⟩:=hel n cs' _ h2
   obtain ⟨_,hlen,hc⟩:=World.cells?_some h1
   rw [hk] at hlen hc
   refine ⟨cs',x,hlen,fun j u hu=>?_,hx,hmu⟩
   have hj:j < k:=by rw [←hlen];exact (List.getElem?_eq_some_iff.1 hu).1
   have:=hc j hj
   rw [Addr.add_add] at this
   rw [this];exact hu
  have build:∀ q,q≤len→∃ l:List α,l.length=q∧(l.map μ).sum≤Rows.uptoBulkAll ((List.range q).map D)∧∀ i x,l[i]?=some x→∃ cs':List Value,cs'.length=k∧(∀ j u,cs'[j]?=some u→w.cell? (a.add (i * k+j))=some u)∧R w cs' x:=by
   intro q
   induction q with
   | zero=>exact fun _=>⟨[],rfl,by simp [Rows.uptoBulkAll],fun i x h=>by simp at h⟩
   | succ q ih=>
    intro hq
    obtain ⟨l,h1,hs,h2⟩:=ih (by omega)
    obtain ⟨cs',x,h3,h4,h5,h6⟩:=one q (by omega)
    refine ⟨l++[x],by simp [h1],?_,fun i y hy=>?_⟩
    ·rw [List.range_succ,List.map_append (f:=D),bulk_app]
     simp only [List.map_append,List.sum_append,List.map_cons,List.map_nil,List.sum_cons,List.sum_nil,Rows.uptoBulkAll]
     omega
    by_cases hi:i < q
    ·rw [List.getElem?_append_left (by omega)] at hy;exact h2 i y hy
    ·have:i=q:=by have:=(List.getElem?_eq_some_iff.1 hy).1;simp [h1] at this;omega
     subst this
     rw [List.getElem?_append_right (by omega)] at hy
     simp [h1] at hy;subst hy
     exact ⟨cs',h3,h4,h5⟩
  obtain ⟨l,h1,hs,h2⟩:=build len (Nat.le_refl _)
  subst h1
  refine ⟨_,l,rfl,⟨a,cap,rfl,hl,hm,fun i x hx=>?_⟩,?_⟩
  ·obtain ⟨cs',h3,h4,h5⟩:=h2 i x hx
   exact ⟨a,cs',rfl,trivial,h3,h4,h5⟩
  ·simp only [Rows.uptoBulk];omega
theorem val_of_trodU {n:Nat} {cs:List Value} {y:DataW H × List MemPlace} (h:DataW.trod enc Tryz.prog w base spare held n 107 cs=some y):∃ x:AVal,cs=x.cells∧x.s.size+1≤Rows.uptoBulk y.1:=by
 have c2:Tryz.prog.cellsOf 107=4:=by kernel_rfl
 have c3:Tryz.prog.cellsOf 5=1:=by kernel_rfl
 have c4:Tryz.prog.cellsOf 2=1:=by kernel_rfl
 have c5:Tryz.prog.cellsOf 34=1:=by kernel_rfl
 have c6:Tryz.prog.cellsOf 9=1:=by kernel_rfl
 obtain ⟨z0,z1,z2,z3,m',rfl,hl,g0,g1,g2,g3⟩:=trod_struct4 Tryz.underlying107 h
 rw [c2] at hl
 simp only [c3,c4,c5,c6] at g0 g1 g2 g3
 match cs,hl with
 | [a0,a1,a2,a3],_=>
  simp only [List.drop_zero,List.take_succ_cons,List.take_zero,List.drop_succ_cons] at g0 g1 g2 g3
  obtain ⟨k0,f0,e0,_⟩:=DataW.trod_int Tryz.underlying5 g0
  obtain ⟨k1,f1,e1,_⟩:=DataW.trod_int Tryz.underlying2 g1
  obtain ⟨k2,f2,e2,_⟩:=DataW.trod_int Tryz.underlying34 g2
  obtain ⟨k3,f3,e3,_⟩:=DataW.trod_string Tryz.underlying9 g3
  cases f0;cases f1;cases f2;cases f3;subst e0;subst e1;subst e2;subst e3
  refine ⟨⟨k0,k1,k2,k3⟩,rfl,?_⟩
  simp only [Rows.uptoBulk,Rows.uptoBulkAll,Array.length_toList,ByteArray.size_data]
  omega
theorem attr_of_trodU {n:Nat} {cs:List Value} {y:DataW H × List MemPlace} (h:DataW.trod enc Tryz.prog w base spare held n 109 cs=some y):∃ x:Attr,RAttr w cs x∧mAttr x≤Rows.uptoBulk y.1:=by
 have c0:Tryz.prog.cellsOf 109=5:=by kernel_rfl
 have c1:Tryz.prog.cellsOf 3=1:=by kernel_rfl
 have c2:Tryz.prog.cellsOf 107=4:=by kernel_rfl
 obtain ⟨y0,y1,m,rfl,hl,h0,h1⟩:=trod_struct2 Tryz.underlying109 h
 rw [c0] at hl
 simp only [c1,c2] at h0 h1
 match cs,hl with
 | [a0,a1,a2,a3,a4],_=>
  simp only [List.drop_zero,List.take_succ_cons,List.take_zero,List.drop_succ_cons] at h0 h1
  obtain ⟨k,e0,_,_⟩:=DataW.trod_int Tryz.underlying3 h0
  obtain ⟨v,e1,hs⟩:=val_of_trodU h1
  cases e0;cases e1
  refine ⟨⟨k,v⟩,rfl,?_⟩
  simp only [mAttr,Rows.uptoBulk,Rows.uptoBulkAll]
  omega
theorem chg_of_trodU {n:Nat} {cs:List Value} {y:DataW H × List MemPlace} (h:DataW.trod enc Tryz.prog w base spare held n 111 cs=some y):∃ x:Chg,RChg w cs x∧mChg x≤Rows.uptoBulk y.1:=by
 have c0:Tryz.prog.cellsOf 111=6:=by kernel_rfl
 have c1:Tryz.prog.cellsOf 3=1:=by kernel_rfl
 have c2:Tryz.prog.cellsOf 107=4:=by kernel_rfl
 have c3:Tryz.prog.cellsOf 4=1:=by kernel_rfl
 obtain ⟨xs,m,_,rfl,hl,hlen,hf⟩:=DataW.trod_struct Tryz.underlying111 h
 match xs,hlen with
 | [y0,y1,y2],_=>
  have h0:DataW.trod enc Tryz.prog w base spare held m 3 ((cs.drop 0).take (Tryz.prog.cellsOf 3))=some y0:=hf 0 _ rfl
  have h1:DataW.trod enc Tryz.prog w base spare held m 4 ((cs.drop 1).take (Tryz.prog.cellsOf 4))=some y1:=hf 1 _ rfl
  have h2:DataW.trod enc Tryz.prog w base spare held m 107 ((cs.drop 2).take (Tryz.prog.cellsOf 107))=some y2:=hf 2 _ rfl
  rw [c0] at hl
  rw [c1] at h0
  rw [c3] at h1
  rw [c2] at h2
  obtain ⟨a0,a1,a2,a3,a4,a5,rfl⟩:=len6 hl
  ·clear hf
   simp only [List.drop_zero,List.take_succ_cons,List.take_zero,List.drop_succ_cons] at h0 h1 h2
   obtain ⟨k,e0,_,_⟩:=DataW.trod_int Tryz.underlying3 h0
   obtain ⟨b,e1,_⟩:=DataW.trod_bool Tryz.underlying4 h1
   obtain ⟨v,e2,hs⟩:=val_of_trodU h2
   cases e0;cases e1;cases e2
   refine ⟨⟨k,b,v⟩,rfl,?_⟩
   simp only [mChg,List.map_cons,List.map_nil,Rows.uptoBulk,Rows.uptoBulkAll]
   omega
theorem rune_of_trodU {n:Nat} {cs:List Value} {y:DataW H × List MemPlace} (h:DataW.trod enc Tryz.prog w base spare held n 21 cs=some y):∃ x:Int,RRune w cs x∧1≤Rows.uptoBulk y.1:=by
 obtain ⟨k,rfl,e,_⟩:=DataW.trod_int Tryz.underlying21 h
 subst e
 exact ⟨k,rfl,by simp [Rows.uptoBulk]⟩
theorem runes_of_trodU {n:Nat} {cs:List Value} {y:DataW H × List MemPlace} (h:DataW.trod enc Tryz.prog w base spare held n 35 cs=some y):∃ v l,cs=[v]∧RRun (fun _=>True) w v l∧l.length+1≤Rows.uptoBulk y.1:=by
 obtain ⟨v,l,e,h1,h2⟩:=SlR.of_trodU (μ:=fun _:Int=>1) Tryz.underlying35 (by kernel_rfl) (fun _ _ _ h=>rune_of_trodU h) h
 refine ⟨v,l,e,h1,?_⟩
 have:(l.map fun _=>1).sum=l.length:=by clear h1 h2;induction l with | nil=>rfl | cons a l ih=>simp only [List.map_cons,List.sum_cons,List.length_cons,ih];omega
 omega
theorem key_of_trodU {n:Nat} {cs:List Value} {y:DataW H × List MemPlace} (h:DataW.trod enc Tryz.prog w base spare held n 84 cs=some y):∃ x:DKey,RKey w cs x∧1≤Rows.uptoBulk y.1:=by
 have c0:Tryz.prog.cellsOf 84=6:=by kernel_rfl
 have c1:Tryz.prog.cellsOf 3=1:=by kernel_rfl
 have c2:Tryz.prog.cellsOf 5=1:=by kernel_rfl
 have c3:Tryz.prog.cellsOf 4=1:=by kernel_rfl
 obtain ⟨xs,m,_,rfl,hl,hlen,hf⟩:=DataW.trod_struct Tryz.underlying84 h
 match xs,hlen with
 | [y0,y1,y2,y3,y4,y5],_=>
  have h0:DataW.trod enc Tryz.prog w base spare held m 3 ((cs.drop 0).take (Tryz.prog.cellsOf 3))=some y0:=hf 0 _ rfl
  have h1:DataW.trod enc Tryz.prog w base spare held m 4 ((cs.drop 1).take (Tryz.prog.cellsOf 4))=some y1:=hf 1 _ rfl
  have h2:DataW.trod enc Tryz.prog w base spare held m 5 ((cs.drop 2).take (Tryz.prog.cellsOf 5))=some y2:=hf 2 _ rfl
  have h3:DataW.trod enc Tryz.prog w base spare held m 4 ((cs.drop 3).take (Tryz.prog.cellsOf 4))=some y3:=hf 3 _ rfl
  have h4:DataW.trod enc Tryz.prog w base spare held m 4 ((cs.drop 4).take (Tryz.prog.cellsOf 4))=some y4:=hf 4 _ rfl
  have h5:DataW.trod enc Tryz.prog w base spare held m 3 ((cs.drop 5).take (Tryz.prog.cellsOf 3))=some y5:=hf 5 _ rfl
  rw [c0] at hl
  rw [c1] at h0
  rw [c3] at h1
  rw [c2] at h2
  rw [c3] at h3
  rw [c3] at h4
  rw [c1] at h5
  obtain ⟨a0,a1,a2,a3,a4,a5,rfl⟩:=len6 hl
  ·clear hf
   simp only [List.drop_zero,List.take_succ_cons,List.take_zero,List.drop_succ_cons] at h0 h1 h2 h3 h4 h5
   obtain ⟨k0,e0,_,_⟩:=DataW.trod_int Tryz.underlying3 h0
   obtain ⟨k1,e1,_⟩:=DataW.trod_bool Tryz.underlying4 h1
   obtain ⟨k2,e2,_,_⟩:=DataW.trod_int Tryz.underlying5 h2
   obtain ⟨k3,e3,_⟩:=DataW.trod_bool Tryz.underlying4 h3
   obtain ⟨k4,e4,_⟩:=DataW.trod_bool Tryz.underlying4 h4
   obtain ⟨k5,e5,_,_⟩:=DataW.trod_int Tryz.underlying3 h5
   cases e0;cases e1;cases e2;cases e3;cases e4;cases e5
   refine ⟨⟨k0,k1,k2,k3,k4,k5⟩,rfl,?_⟩
   simp only [Rows.uptoBulk]
   omega
theorem keys_of_trodU {n:Nat} {cs:List Value} {y:DataW H × List MemPlace} (h:DataW.trod enc Tryz.prog w base spare held n 48 cs=some y):∃ v l,cs=[v]∧RKeys (fun _=>True) w v l∧l.length+1≤Rows.uptoBulk y.1:=by
 obtain ⟨v,l,e,h1,h2⟩:=SlR.of_trodU (μ:=fun _:DKey=>1) Tryz.underlying48 (by kernel_rfl) (fun _ _ _ h=>key_of_trodU h) h
 refine ⟨v,l,e,h1,?_⟩
 have:(l.map fun _=>1).sum=l.length:=by clear h1 h2;induction l with | nil=>rfl | cons a l ih=>simp only [List.map_cons,List.sum_cons,List.length_cons,ih];omega
 omega
end Go.Proofs.YtlbaopamhkmepaaGreatDoor

namespace Go.Proofs.YtlbaopamhkmepaaGreatDoor
open Go Go.K
open Go.ChangeShapes Go.WideShapes Go.ChangeAt Go.RowKit Go.Joins

def laidL : List (String × DataW Unit) := [("unicode/utf8.acceptRanges", Rows.laid_unicode_utf8_acceptRanges), ("unicode/utf8.first", Rows.laid_unicode_utf8_first)]
theorem first_tab:Rows.laid_unicode_utf8_first=Lib.tabData .u8 (Pinned.utf8FirstZ.map Int.ofNat):=by kernel_rfl
theorem first_at:(List.range 256).all (fun j=>decide (128≤j→(Pinned.utf8FirstZ.map Int.ofNat)[j]?=some (firstT j)))=true:=by decide +kernel
theorem acc_tab:Rows.laid_unicode_utf8_acceptRanges (H:=Unit)=.agg ((List.range 16).map fun i=>.agg ([accLo i,accHi i].map fun z=>.lit (.int .u8 z))):=by kernel_rfl
theorem tabs_of_laid {W:World} (h:laidMetH Tryz.prog laidL W):Tabs W:=by
 rw [MakeChecks.laidMetH_plain _ _ _ (by kernel_rfl)] at h
 have h4:=Lib.laidMet.reads h (.head _)
 have h3:=Lib.laidMet.reads h (.tail _ (.head _))
 have hf:∀ j:Nat,128≤j→j < 256→W.cell? ⟨0,j,none⟩=some (.int .u8 (firstT j)):=by
  intro j hj1 hj2
  obtain ⟨g,t,cs,fuel,p,hg,hty,hvar,hd⟩:=h3
  obtain rfl := Option.some.inj ((show Tryz.prog.globalNamed "unicode/utf8.first" = some 0 by kernel_rfl).symm.trans hg)
  obtain rfl:=Option.some.inj ((show (Tryz.prog.globals[0]?).map (·.type)=some 242 by kernel_rfl).symm.trans hty)
  rw [first_tab] at hd
  have hcs:=Lib.cells_of_tab Tryz.underlying242 Tryz.underlying5 (by kernel_rfl) (by kernel_rfl) hd
  have:=World.var?_cell hg hvar j
  rw [this,←Array.getElem?_toList,hcs]
  have ha:=List.all_eq_true.1 first_at j (List.mem_range.2 hj2)
  rw [decide_eq_true_eq] at ha
  rw [List.getElem?_map,ha hj1]
  rfl
 have hac:∀ j:Nat,j < 16→W.cell? ⟨1,j * 2,none⟩=some (.int .u8 (accLo j))∧W.cell? ⟨1,j * 2+1,none⟩=some (.int .u8 (accHi j)):=by
  intro i hi
  obtain ⟨g,t,cs,fuel,p,hg,hty,hvar,hd⟩:=h4
  obtain rfl := Option.some.inj ((show Tryz.prog.globalNamed "unicode/utf8.acceptRanges" = some 1 by kernel_rfl).symm.trans hg)
  obtain rfl:=Option.some.inj ((show (Tryz.prog.globals[1]?).map (·.type)=some 245 by kernel_rfl).symm.trans hty)
  rw [acc_tab] at hd
  obtain ⟨fuel',d,q,hdi,he⟩:=Lib.array_elem Tryz.underlying245 hd i hi
  simp only [List.getElem?_map,List.getElem?_range hi,Option.map_some,Option.some.injEq] at hdi
  subst hdi
  have c2:Tryz.prog.cellsOf 244=2:=by kernel_rfl
  rw [c2] at he
  have hcs:=Lib.ints_of_struct Tryz.underlying244 (fun j f hj=>by
   match j,hj with
   | 0,hj=>simp at hj;subst hj;exact ⟨Tryz.underlying5,rfl,by kernel_rfl⟩
   | 1,hj=>simp at hj;subst hj;exact ⟨Tryz.underlying5,rfl,by kernel_rfl⟩
   | j+2,hj=>simp at hj) (by rw [c2];rfl) he
  have e0:=congrArg (·[0]?) hcs
  have e1:=congrArg (·[1]?) hcs
  simp at e0 e1
  have w0:=World.var?_cell hg hvar (i * 2)
  have w1:=World.var?_cell hg hvar (i * 2+1)
  rw [w0,w1,←Array.getElem?_toList,←Array.getElem?_toList]
  exact ⟨by simpa using e0,by simpa using e1⟩
 have:=World.block_lt_of_cell? W _ (hac 0 (by decide)).1
 exact ⟨this,hf,hac⟩
noncomputable def laidWorld (os:Os):World:=
 let w0:=World.holding Tryz.prog os ⟨#[],#[],[]⟩
 let put (h:Array Obj) (g:Nat) (cs:Array Value):Array Obj:=h.modify g fun
  | .cells _ t frozen=>.cells cs t frozen
  | o=>o
 let h1:=put w0.heap 0 (Pinned.utf8FirstZ.map fun (z:Nat)=>Value.int .u8 (Int.ofNat z)).toArray
 let h2:=put h1 1 ((List.range 16).flatMap fun i=>[Value.int .u8 (accLo i),Value.int .u8 (accHi i)]).toArray
 { w0 with heap:=h2 }
theorem laidWorld_met (os:Os) (args:Array Value):laidMetH Tryz.prog laidL ((laidWorld os).forCall (fun _ _=>0) ⟨#[],args,[]⟩).memory:=by
 rw [MakeChecks.laidMetH_plain _ _ _ (by kernel_rfl)]
 exact (LaidIn.of_run (l:=laidL) [1,0] 8 (by kernel_rfl) (by kernel_rfl) (by kernel_rfl) (by kernel_rfl)).met

def InV (v:AVal):Prop:=(0≤v.kind∧v.kind < 256)∧(-9223372036854775808≤v.n∧v.n≤9223372036854775807)∧(0≤v.f∧v.f < 18446744073709551616)∧v.s.size < 18446744073709551616
variable {H:Type} {enc:TypeId × Value→H} {w:World} {base:Nat} {spare:Nat→Bool} {held:Bool}
theorem wf_range {k:IntKind} {n:Int} (h:(Lit.int k n).wf=true):k.min≤n∧n≤k.max:=by
 simpa [Lit.wf] using h
theorem val_of_trodR {n:Nat} {cs:List Value} {y:DataW H × List MemPlace} (h:DataW.trod enc Tryz.prog w base spare held n 107 cs=some y):∃ x:AVal,cs=x.cells∧InV x:=by
 have c2:Tryz.prog.cellsOf 107=4:=by kernel_rfl
 have c3:Tryz.prog.cellsOf 5=1:=by kernel_rfl
 have c4:Tryz.prog.cellsOf 2=1:=by kernel_rfl
 have c5:Tryz.prog.cellsOf 34=1:=by kernel_rfl
 have c6:Tryz.prog.cellsOf 9=1:=by kernel_rfl
 obtain ⟨z0,z1,z2,z3,m',_,hl,g0,g1,g2,g3⟩:=trod_struct4 Tryz.underlying107 h
 rw [c2] at hl
 simp only [c3,c4,c5,c6] at g0 g1 g2 g3
 match cs,hl with
 | [a1,a2,a3,a4],_=>
  simp only [List.drop_zero,List.take_succ_cons,List.take_zero,List.drop_succ_cons] at g0 g1 g2 g3
  obtain ⟨k0,f0,_,w0⟩:=DataW.trod_int Tryz.underlying5 g0
  obtain ⟨k1,f1,_,w1⟩:=DataW.trod_int Tryz.underlying2 g1
  obtain ⟨k2,f2,_,w2⟩:=DataW.trod_int Tryz.underlying34 g2
  obtain ⟨k3,f3,_,w3⟩:=DataW.trod_string Tryz.underlying9 g3
  cases f0;cases f1;cases f2;cases f3
  refine ⟨⟨k0,k1,k2,k3⟩,rfl,?_⟩
  have r0:=wf_range w0
  have r1:=wf_range w1
  have r2:=wf_range w2
  have m0:IntKind.u8.min=0∧IntKind.u8.max=255:=by decide
  have m1:IntKind.i64.min=-9223372036854775808∧IntKind.i64.max=9223372036854775807:=by decide
  have m2:IntKind.u64.min=0∧IntKind.u64.max=18446744073709551615:=by decide
  rw [m0.1,m0.2] at r0
  rw [m1.1,m1.2] at r1
  rw [m2.1,m2.2] at r2
  have r3:k3.size≤9223372036854775807:=by
   simp only [Lit.wf,maxLen] at w3
   simpa using w3
  exact ⟨⟨r0.1,show k0 < 256 by omega⟩,r1,⟨r2.1,show k2 < 18446744073709551616 by omega⟩,show k3.size < 18446744073709551616 by omega⟩
end Go.Proofs.YtlbaopamhkmepaaGreatDoor

namespace Go.K
open Go
theorem SlR.strip {α:Type} {S:Nat→Prop} {k:Nat} {R:World→List Value→α→Prop} {P:α→Prop} {w:World} {v:Value} {l:List α} (h:SlR S k (fun w r x=>R w r x∧P x) w v l):SlR S k R w v l∧∀ x ∈ l,P x:=by
 obtain ⟨a,c,e,h1,h2,h3⟩:=h
 refine ⟨⟨a,c,e,h1,h2,fun i x hx=>?_⟩,fun x hx=>?_⟩
 ·obtain ⟨p,r,q1,q2,q3,q4,q5⟩:=h3 i x hx
  exact ⟨p,r,q1,q2,q3,q4,q5.1⟩
 ·obtain ⟨i,hi⟩:=List.mem_iff_getElem?.1 hx
  obtain ⟨_,_,_,_,_,_,q5⟩:=h3 i x hi
  exact q5.2
end Go.K
namespace Go.Proofs.YtlbaopamhkmepaaGreatDoor
open Go Go.K
open Go.ChangeShapes Go.WideShapes Go.ChangeAt Go.RowKit Go.Joins
variable {H:Type} {enc:TypeId × Value→H} {w:World} {base:Nat} {spare:Nat→Bool} {held:Bool}
theorem attr_of_trodR {n:Nat} {cs:List Value} {y:DataW H × List MemPlace} (h:DataW.trod enc Tryz.prog w base spare held n 109 cs=some y):∃ x:Attr,cs=x.cells∧InA x:=by
 have c0:Tryz.prog.cellsOf 109=5:=by kernel_rfl
 have c1:Tryz.prog.cellsOf 3=1:=by kernel_rfl
 have c2:Tryz.prog.cellsOf 107=4:=by kernel_rfl
 obtain ⟨y0,y1,m,_,hl,h0,h1⟩:=trod_struct2 Tryz.underlying109 h
 rw [c0] at hl
 simp only [c1,c2] at h0 h1
 match cs,hl with
 | [a0,a1,a2,a3,a4],_=>
  simp only [List.drop_zero,List.take_succ_cons,List.take_zero,List.drop_succ_cons] at h0 h1
  obtain ⟨k,e0,_,w0⟩:=DataW.trod_int Tryz.underlying3 h0
  obtain ⟨x,ex,hx⟩:=val_of_trodR h1
  cases e0
  have r0:=wf_range w0
  have m1:IntKind.i64.min=-9223372036854775808∧IntKind.i64.max=9223372036854775807:=by decide
  rw [m1.1,m1.2] at r0
  refine ⟨⟨k,x⟩,?_,r0,hx⟩
  show _=Value.int .i64 k :: x.cells
  rw [←ex]
end Go.Proofs.YtlbaopamhkmepaaGreatDoor

namespace Go.Proofs.YtlbaopamhkmepaaGreatDoor
open Go Go.K
open Go.ChangeShapes Go.WideShapes Go.ChangeAt Go.RowKit Go.Joins
variable {H:Type} {enc:TypeId × Value→H} {w:World} {base:Nat} {spare:Nat→Bool} {held:Bool}
theorem attr_inj' {x y:Attr} (h:x.cells=y.cells):x=y:=by
 obtain ⟨k,v,n,f,s⟩:=x
 obtain ⟨k',v',n',f',s'⟩:=y
 simp only [Attr.cells,AVal.cells,List.cons.injEq,Value.int.injEq,Value.string.injEq,true_and,and_true] at h
 obtain ⟨rfl,rfl,rfl,rfl,rfl⟩:=h
 rfl
theorem val_inj {x y:AVal} (h:x.cells=y.cells):x=y:=by
 obtain ⟨v,n,f,s⟩:=x
 obtain ⟨v',n',f',s'⟩:=y
 simp only [AVal.cells,List.cons.injEq,Value.int.injEq,Value.string.injEq,true_and,and_true] at h
 obtain ⟨rfl,rfl,rfl,rfl⟩:=h
 rfl
theorem attr_of_trodF {n:Nat} {cs:List Value} {y:DataW H × List MemPlace} (h:DataW.trod enc Tryz.prog w base spare held n 109 cs=some y):∃ x:Attr,(RAttr w cs x∧0≤x.val.f)∧mAttr x≤Rows.uptoBulk y.1:=by
 obtain ⟨x,e,hx⟩:=attr_of_trodR h
 obtain ⟨x',e',hm⟩:=attr_of_trodU h
 have e'':cs=x'.cells:=e'
 have:x=x':=attr_inj' (e.symm.trans e'')
 subst this
 exact ⟨x,⟨e,hx.2.2.2.1.1⟩,hm⟩
theorem chg_of_trodF {n:Nat} {cs:List Value} {y:DataW H × List MemPlace} (h:DataW.trod enc Tryz.prog w base spare held n 111 cs=some y):∃ x:Chg,(RChg w cs x∧0≤x.val.f)∧mChg x≤Rows.uptoBulk y.1:=by
 have c2:Tryz.prog.cellsOf 107=4:=by kernel_rfl
 obtain ⟨x,e,hm⟩:=chg_of_trodU h
 obtain ⟨xs,m,_,_,hl,hlen,hf⟩:=DataW.trod_struct Tryz.underlying111 h
 match xs,hlen with
 | [y0,y1,y2],_=>
  have h2:DataW.trod enc Tryz.prog w base spare held m 107 ((cs.drop 2).take (Tryz.prog.cellsOf 107))=some y2:=hf 2 _ rfl
  rw [c2] at h2
  obtain ⟨v,ev,hv⟩:=val_of_trodR h2
  have e':cs=x.cells:=e
  subst e'
  have:v=x.val:=val_inj (ev.symm.trans (by rfl))
  subst this
  exact ⟨x,⟨rfl,hv.2.2.1.1⟩,hm⟩
theorem set_of_trodF {n:Nat} {cs:List Value} {y:DataW H × List MemPlace} (h:DataW.trod enc Tryz.prog w base spare held n 36 cs=some y):∃ v l,cs=[v]∧(RSet (fun _=>True) w v l∧∀ a ∈ l,0≤a.val.f)∧mSet l+1≤Rows.uptoBulk y.1:=by
 obtain ⟨v,l,e,hl,hm⟩:=SlR.of_trodU (k:=5) (μ:=mAttr) (R:=fun (w:World) r (x:Attr)=>RAttr w r x∧0≤x.val.f) Tryz.underlying36 (by kernel_rfl) (fun _ _ _ h=>attr_of_trodF h) h
 exact ⟨v,l,e,hl.strip,hm⟩
theorem pat_of_trodF {n:Nat} {cs:List Value} {y:DataW H × List MemPlace} (h:DataW.trod enc Tryz.prog w base spare held n 37 cs=some y):∃ v l,cs=[v]∧(RPat (fun _=>True) w v l∧∀ a ∈ l,0≤a.val.f)∧mPat l+1≤Rows.uptoBulk y.1:=by
 obtain ⟨v,l,e,hl,hm⟩:=SlR.of_trodU (k:=6) (μ:=mChg) (R:=fun (w:World) r (x:Chg)=>RChg w r x∧0≤x.val.f) Tryz.underlying37 (by kernel_rfl) (fun _ _ _ h=>chg_of_trodF h) h
 exact ⟨v,l,e,hl.strip,hm⟩
set_option maxRecDepth 20000 in
theorem dop_of_trodF {n:Nat} {cs:List Value} {y:DataW H × List MemPlace} (h:DataW.trod enc Tryz.prog w base spare held n 39 cs=some y):∃ x:Dop,(RDop (fun _=>True) w cs x∧InO x)∧mDop x≤Rows.uptoBulk y.1:=by
 have c0:Tryz.prog.cellsOf 39=5:=by kernel_rfl
 have c1:Tryz.prog.cellsOf 3=1:=by kernel_rfl
 have c2:Tryz.prog.cellsOf 5=1:=by kernel_rfl
 have c3:Tryz.prog.cellsOf 35=1:=by kernel_rfl
 have c4:Tryz.prog.cellsOf 36=1:=by kernel_rfl
 have c5:Tryz.prog.cellsOf 37=1:=by kernel_rfl
 obtain ⟨xs,m,_,rfl,hl,hlen,hf⟩:=DataW.trod_struct Tryz.underlying39 h
 match xs,hlen with
 | [y0,y1,y2,y3,y4],_=>
  have h0:DataW.trod enc Tryz.prog w base spare held m 5 ((cs.drop 0).take (Tryz.prog.cellsOf 5))=some y0:=hf 0 _ rfl
  have h1:DataW.trod enc Tryz.prog w base spare held m 3 ((cs.drop 1).take (Tryz.prog.cellsOf 3))=some y1:=hf 1 _ rfl
  have h2:DataW.trod enc Tryz.prog w base spare held m 35 ((cs.drop 2).take (Tryz.prog.cellsOf 35))=some y2:=hf 2 _ rfl
  have h3:DataW.trod enc Tryz.prog w base spare held m 36 ((cs.drop 3).take (Tryz.prog.cellsOf 36))=some y3:=hf 3 _ rfl
  have h4:DataW.trod enc Tryz.prog w base spare held m 37 ((cs.drop 4).take (Tryz.prog.cellsOf 37))=some y4:=hf 4 _ rfl
  rw [c0] at hl
  rw [c2] at h0
  rw [c1] at h1
  rw [c3] at h2
  rw [c4] at h3
  rw [c5] at h4
  obtain ⟨a0,a1,a2,a3,a4,rfl⟩:=len5 hl
  ·clear hf
   simp only [List.drop_zero,List.take_succ_cons,List.take_zero,List.drop_succ_cons] at h0 h1 h2 h3 h4
   obtain ⟨k,e0,_,_⟩:=DataW.trod_int Tryz.underlying5 h0
   obtain ⟨n,e1,_,_⟩:=DataW.trod_int Tryz.underlying3 h1
   obtain ⟨rv,rl,e2,hr,b2⟩:=runes_of_trodU h2
   obtain ⟨sv,sl,e3,⟨hs,i3⟩,b3⟩:=set_of_trodF h3
   obtain ⟨pv,pl',e4,⟨hp,i4⟩,b4⟩:=pat_of_trodF h4
   cases e0;cases e1;cases e2;cases e3;cases e4
   refine ⟨⟨k,n,rl,sl,pl'⟩,⟨⟨a2,a3,a4,rfl,hr,hs,hp⟩,i3,i4⟩,?_⟩
   simp only [mDop,List.map_cons,List.map_nil,Rows.uptoBulk,Rows.uptoBulkAll]
   omega
theorem dops_of_trodF {n:Nat} {cs:List Value} {y:DataW H × List MemPlace} (h:DataW.trod enc Tryz.prog w base spare held n 31 cs=some y):∃ v l,cs=[v]∧(RDops (fun _=>True) (fun _=>True) w v l∧∀ o ∈ l,InO o)∧mDops l+1≤Rows.uptoBulk y.1:=by
 obtain ⟨v,l,e,hl,hm⟩:=SlR.of_trodU (k:=5) (μ:=mDop) (R:=fun (w:World) r (x:Dop)=>RDop (fun _=>True) w r x∧InO x) Tryz.underlying31 (by kernel_rfl) (fun _ _ _ h=>dop_of_trodF h) h
 exact ⟨v,l,e,hl.strip,hm⟩
structure HOp where
 kind:Int
 d:List Dop
 u:List Dop
def RHOp (S:Nat→Prop):World→List Value→HOp→Prop:=fun w r x=>∃ dv uv,r=[.int .i64 x.kind,dv,uv]∧RDops S S w dv x.d∧RDops S S w uv x.u
theorem RHOp.one {S:Nat→Prop} {w:World} {r:List Value} {x:HOp} (h:RHOp S w r x):∀ u ∈ r,u.oneCell'=true:=by
 obtain ⟨dv,uv,rfl,h1,h2⟩:=h
 obtain ⟨a,c,rfl,_⟩:=h1.shape
 obtain ⟨a',c',rfl,_⟩:=h2.shape
 intro u hu
 simp at hu
 rcases hu with rfl | rfl | rfl <;> rfl
theorem RHOp.mod {S M:Nat→Prop} {w w':World} {r:List Value} {x:HOp} (h:RHOp S w r x) (hm:Mod M w w') (hS:∀ b,b < w.heap.size→S b→¬ M b):RHOp S w' r x:=by
 obtain ⟨dv,uv,e,h1,h2⟩:=h
 exact ⟨dv,uv,e,RDops.mod h1 hm hS hS,RDops.mod h2 hm hS hS⟩
set_option maxRecDepth 20000 in
theorem hop_of_trodF {n:Nat} {cs:List Value} {y:DataW H × List MemPlace} (h:DataW.trod enc Tryz.prog w base spare held n 58 cs=some y):∃ x:HOp,(RHOp (fun _=>True) w cs x∧(∀ o ∈ x.d,InO o)∧∀ o ∈ x.u,InO o)∧mDops x.d+mDops x.u≤Rows.uptoBulk y.1:=by
 have c0:Tryz.prog.cellsOf 58=3:=by kernel_rfl
 have c1:Tryz.prog.cellsOf 3=1:=by kernel_rfl
 have c2:Tryz.prog.cellsOf 31=1:=by kernel_rfl
 obtain ⟨xs,m,_,rfl,hl,hlen,hf⟩:=DataW.trod_struct Tryz.underlying58 h
 match xs,hlen with
 | [y0,y1,y2],_=>
  have h0:DataW.trod enc Tryz.prog w base spare held m 3 ((cs.drop 0).take (Tryz.prog.cellsOf 3))=some y0:=hf 0 _ rfl
  have h1:DataW.trod enc Tryz.prog w base spare held m 31 ((cs.drop 1).take (Tryz.prog.cellsOf 31))=some y1:=hf 1 _ rfl
  have h2:DataW.trod enc Tryz.prog w base spare held m 31 ((cs.drop 2).take (Tryz.prog.cellsOf 31))=some y2:=hf 2 _ rfl
  rw [c0] at hl
  rw [c1] at h0
  rw [c2] at h1 h2
  match cs,hl with
  | [a0,a1,a2],_=>
   clear hf
   simp only [List.drop_zero,List.take_succ_cons,List.take_zero,List.drop_succ_cons] at h0 h1 h2
   obtain ⟨k,e0,_,_⟩:=DataW.trod_int Tryz.underlying3 h0
   obtain ⟨v1,l1,e1,⟨q1,i1⟩,m1⟩:=dops_of_trodF h1
   obtain ⟨v2,l2,e2,⟨q2,i2⟩,m2⟩:=dops_of_trodF h2
   cases e0;cases e1;cases e2
   refine ⟨⟨k,l1,l2⟩,⟨⟨_,_,rfl,q1,q2⟩,i1,i2⟩,?_⟩
   simp only [List.map_cons,List.map_nil,Rows.uptoBulk,Rows.uptoBulkAll]
   omega
theorem le_sumH {α:Type} {μ:α→Nat} {l:List α} {a:α} (h:a ∈ l):μ a≤(l.map μ).sum:=by
 induction l with
 | nil=>cases h
 | cons b l ih=>
  simp only [List.map_cons,List.sum_cons]
  rcases List.mem_cons.1 h with rfl | h
  ·omega
  ·have:=ih h;omega
theorem hops_of_trodF {n:Nat} {cs:List Value} {y:DataW H × List MemPlace} (h:DataW.trod enc Tryz.prog w base spare held n 49 cs=some y):∃ v l,cs=[v]∧SlR (fun _=>True) 3 (RHOp fun _=>True) w v l∧∀ x ∈ l,((∀ o ∈ x.d,InO o)∧∀ o ∈ x.u,InO o)∧mDops x.d+mDops x.u≤Rows.uptoBulk y.1:=by
 obtain ⟨v,l,e,hl,hm⟩:=SlR.of_trodU (k:=3) (μ:=fun x:HOp=>mDops x.d+mDops x.u) (R:=fun (w:World) r (x:HOp)=>RHOp (fun _=>True) w r x∧(∀ o ∈ x.d,InO o)∧∀ o ∈ x.u,InO o) Tryz.underlying49 (by kernel_rfl) (fun _ _ _ h=>hop_of_trodF h) h
 obtain ⟨h1,h2⟩:=hl.strip
 refine ⟨v,l,e,h1,fun x hx=>⟨h2 x hx,?_⟩⟩
 have q1:mDops x.d+mDops x.u≤(l.map fun x:HOp=>mDops x.d+mDops x.u).sum:=le_sumH (μ:=fun x:HOp=>mDops x.d+mDops x.u) hx
 omega
end Go.Proofs.YtlbaopamhkmepaaGreatDoor
