/- The small machine: what one operation does to memory. No conditions. The small machine: what goes ahead of what in a drawn region, reckoned by bits; that it is what the calculus asks. No conditions. The small machine: a region, in its order, or drawn. No conditions. The small machine: operations reckoned once into what they do, a row of them. No conditions. The small machine: code, calls, ranges over iterators; that what it reckons is what the model does. No conditions. -/
import Derived.Test.YtaimlfomodfekaaGreatDoorZScriptForms4
import Derived.LoopNIn
import Derived.RangeFuncNested
set_option linter.unusedSimpArgs false
set_option linter.unusedVariables false
namespace Go.K
open Go

noncomputable def rowC (e:TypeId) (size len:Nat) (zero:List Value) (parts:List (Nat × AV)) (s:St):Option (AV × St):=
 (fillE (fun i=>some (i * size,size)) ((List.range (len * size)).map fun j=>of1 (zero.toArray[j % zero.toArray.size]!)) parts).bind fun c=>
  bif allOne c then (newE s (.cells c 0)).bind fun s'=>some (.s s.nx 0 len len,s') else none
noncomputable def effE (P:Program) (ok:Nat→Bool) (glob:Nat→Nat→Option AV) (lk:List Nat) (callF yieldF:Nat→List AV→St→Option (AV × St)) (o:Oper) (A:Operand→AV) (s:St):Option (AV × St):=
 match o.op with
 | .alloc t=>match zeE P t with
  | some z=>bif allOne (z.cells.toList.map of1) then (newE s (.cells (z.cells.toList.map of1) 0)).bind fun s'=>some (.p s.nx 0,s') else none
  | none=>none
 | .box t x=>match agE P t with
  | some (false,_)=>bif isOne (A x) then (newE s (.cells [A x] 0)).bind fun s'=>some (.p s.nx 0,s') else none
  | some (true,_)=>match A x with
   | .agg l=>bif allOne l then (newE s (.cells l 0)).bind fun s'=>some (.p s.nx 0,s') else none
   | _=>none
  | none=>none
 | .load t x=>(loadE P glob s.h t (A x)).bind fun a=>some (a,s)
 | .store t x v=>(storeE P lk s t (A x) (A v)).bind fun s'=>some (.tup [],s')
 | .buildSlice t len parts=>match unE P t with
  | some (.slice e)=>match inE P e with
   | some i=>bif Nat.blt 0 (len * i.size) && Nat.ble (len * i.size) 1000000 then
     match i.zero with | some z=>rowC e i.size len z.cells.toList (parts.toList.map fun p=>(p.1,A p.2)) s | none=>none
    else bif Nat.beq (len * i.size) 0 then rowC e i.size len [] (parts.toList.map fun p=>(p.1,A p.2)) s else none
   | none=>none
  | _=>none
 | .makeMap _ none=>(newE s .mp).bind fun s'=>some (.m s.nx,s')
 | .range t x=>match unE P t,A x with
  | some .string,.t str=>(newE s (.it str 0)).bind fun s'=>some (.p s.nx 0,s')
  | _,_=>none
 | .next it true=>match A it with
  | .p y 0=>match hget s.h y with
   | some (.it str p)=>bif Nat.blt p str.size then
     (bif memB lk y then none else fN (p+(Utf8.decode str p).2) fun p'=>hsetS s.h y (.it str p') fun h=>some (.tup [.b true,.i .i64 p,.i .i32 (Utf8.decode str p).1],⟨h,s.nx⟩))
     else some (.tup [.b false],s)
   | _=>none
  | _=>none
 | .convert t d x=>match A x with
  | .t str=>match unE P d with
   | some (.slice _)=>convE P lk s t d (.t str)
   | _=>(data1 P (.t str) (convert t d)).bind fun a=>some (a,s)
  | .sn=>convE P lk s t d .sn
  | .s y o n c=>convE P lk s t d (.s y o n c)
  | .sg y j n k=>convE P lk s t d (.sg y j n k)
  | x=>(data1 P x (convert t d)).bind fun a=>some (a,s)
 | .call c=>match c.callee with
  | .value (.func g)=>bif ok g then callF g (c.args.toList.map A) s else none
  | .value f=>match A f with
   | .f g fs cs=>bif ok g then callF g (fs++c.args.toList.map A++cs) s else none
   | .y l=>yieldF l (c.args.toList.map A) s
   | _=>none
  | .builtin .append=>match c.argTypes.toList,c.args.toList with
   | [t,tx],[a,b]=>appE P lk s t tx (A a) (A b)
   | _,_=>none
  | .builtin .copy=>match c.argTypes.toList,c.args.toList with
   | [t,tx],[a,b]=>copyE P lk s t tx (A a) (A b)
   | _,_=>none
  | _=>(pureE P o A).bind fun a=>some (a,s)
 | _=>(pureE P o A).bind fun a=>some (a,s)
section
variable {P:Program} {ok:Nat→Bool} {glob:Nat→Nat→Option AV} {B:Nat} {ctx:List (Nat × LI)} {lk:List Nat} {σ:Sg} {s:St} {w:World} {callF yieldF:Nat→List AV→St→Option (AV × St)} {A:Operand→AV} {ρ:Operand→Value}
def CallOk (P:Program) (ok:Nat→Bool) (glob:Nat→Nat→Option AV) (B:Nat) (ctx:List (Nat × LI)) (lk:List Nat) (callF:Nat→List AV→St→Option (AV × St)):Prop:=
 ∀ (g:Nat) (args:List AV) (s:St) (a:AV) (s':St) (σ:Sg) (w:World) (vs:List Value) (K:Cont),callF g args s=some (a,s')→ok g=true→SR glob B ctx lk σ s w→relL σ args vs→
  (∀ σ' w' v,Ext B lk σ w σ' w'→SR glob B ctx lk σ' s' w'→rel σ' a v→K v w')→callK P g vs K w
def YieldOk (P:Program) (glob:Nat→Nat→Option AV) (B:Nat) (ctx:List (Nat × LI)) (lk:List Nat) (yieldF:Nat→List AV→St→Option (AV × St)):Prop:=
 ∀ (l:Nat) (args:List AV) (s:St) (a:AV) (s':St) (σ:Sg) (w:World) (vs:List Value) (b C:Nat) (K:Cont),yieldF l args s=some (a,s')→σ l=some (b,C)→SR glob B ctx lk σ s w→relL σ args vs→
  (∀ σ' w' v,Ext B lk σ w σ' w'→SR glob B ctx lk σ' s' w'→rel σ' a v→K v w')→roundK P b vs K w
theorem isNil_rowK {e size len:Nat} {zero:List Value} {parts:List (Nat × Operand)} {r:AV} {s':St} {K:Cont} (h:SR glob B ctx lk σ s w) (hA:∀ x,rel σ (A x) (ρ x)) (e1:rowC e size len zero (parts.map fun p=>(p.1,A p.2)) s=some (r,s'))
  (hK:∀ σ' w' v,Ext B lk σ w σ' w'→SR glob B ctx lk σ' s' w'→rel σ' r v→K v w'):rowK e size len zero (parts.map fun p=>(p.1,ρ p.2)) K w:=by
 simp only [rowC,Option.bind_eq_some_iff] at e1
 obtain ⟨c,e2,e3⟩:=e1
 cases hc:allOne c with
 | false=>simp only [hc,cond_false,reduceCtorEq] at e3
 | true=>
  simp only [hc,cond_true,Option.bind_eq_some_iff,Option.some.injEq,Prod.mk.injEq] at e3
  obtain ⟨s1,e3,rfl,rfl⟩:=e3
  obtain ⟨c',h2,h3⟩:=fill_rel (σ:=σ) (ps:=parts.map fun p=>(p.1,A p.2)) (qs:=parts.map fun p=>(p.1,ρ p.2)) (c:=(Array.range (len * size)).map (zero.toArray[· % zero.toArray.size]!)) (by simp) (fun i p q hp hq=>by
   simp only [List.getElem?_map,Option.map_eq_some_iff] at hp hq
   obtain ⟨u,e1,rfl⟩:=hp
   obtain ⟨u',e2,rfl⟩:=hq
   rw [e1] at e2;cases e2
   exact ⟨rfl,hA _⟩) (by
   rw [Array.toList_map,Array.toList_range]
   exact relL_map (fun j=>rel_of1 σ _) _) e2
  obtain ⟨σ',e4,e5,e6⟩:=newcells_ok h e3 hc h3 e
  exact ⟨c',h2,hK σ' _ _ e5 (by simpa using e6) ⟨_,_,e4,rfl⟩⟩
set_option maxHeartbeats 2000000 in
theorem effE_ok (hC:CallOk P ok glob B ctx lk callF) (hY:YieldOk P glob B ctx lk yieldF) (h:SR glob B ctx lk σ s w) {o:Oper} {a:AV} {s':St} {K:Cont} (e:effE P ok glob lk callF yieldF o A s=some (a,s')) (hA:∀ x,rel σ (A x) (ρ x)) (hρ:∀ v,ρ (.const v)=v) (hρf:∀ f,ρ (.func f)=.func (.func f) #[] #[])
  (hK:∀ σ' w' v,Ext B lk σ w σ' w'→SR glob B ctx lk σ' s' w'→rel σ' a v→K v w'):opD P ok o ρ K w∨∃ c f l b,o.op=.call c∧c.callee=.value f∧(∀ g,f≠.func g)∧A f=.y l∧ρ f=.func (.yield b) #[] #[]∧(∃ C,σ l=some (b,C))∧yieldF l (c.args.toList.map A) s=some (a,s')∧roundK P b (c.args.toList.map ρ) K w:=by
 have hpure:(pureE P o A).bind (fun a=>some (a,s))=some (a,s')→opD P ok o ρ K w:=fun e=>by
  simp only [Option.bind_eq_some_iff,Option.some.injEq,Prod.mk.injEq] at e
  obtain ⟨a',e1,rfl,rfl⟩:=e
  exact pureE_ok e1 hA hρ fun r hr=>hK σ w r Ext.refl h hr
 obtain ⟨dst,op,type,pos,after,guard⟩:=o
 cases op with
 | alloc t=>
  refine .inl ?_
  simp only [effE,unE_eq,inE_eq,agE_eq,zeE_eq,plE_eq] at e
  simp only [opD]
  split at e
  ·rename_i z hz
   simp only [hz]
   cases hc:allOne (z.cells.toList.map of1) with
   | false=>simp only [hc,cond_false,reduceCtorEq] at e
   | true=>
    simp only [hc,cond_true,Option.bind_eq_some_iff,Option.some.injEq,Prod.mk.injEq] at e
    obtain ⟨s1,e1,rfl,rfl⟩:=e
    obtain ⟨σ',e2,e3,e4⟩:=newcells_ok (vs:=z.cells.toList) h e1 hc (by simpa using relL_map (g:=fun v=>v) (rel_of1 σ) z.cells.toList) t
    exact hK σ' _ _ e3 e4 ⟨_,_,e2,rfl⟩
  ·cases e
 | box t x=>
  refine .inl ?_
  simp only [effE,unE_eq,inE_eq,agE_eq,zeE_eq,plE_eq] at e
  simp only [opD]
  have hx:=hA x
  split at e
  ·rename_i k ha
   simp only [ha]
   cases hc:isOne (A x) with
   | false=>simp only [hc,cond_false,reduceCtorEq] at e
   | true=>
    simp only [hc,cond_true,Option.bind_eq_some_iff,Option.some.injEq,Prod.mk.injEq] at e
    obtain ⟨s1,e1,rfl,rfl⟩:=e
    obtain ⟨σ',e2,e3,e4⟩:=newcells_ok (vs:=[ρ x]) h e1 (by simp [allOne,hc]) ⟨_,[],rfl,hx,rfl⟩ t
    exact ⟨(isOne_rel hc hx).2,hK σ' _ _ e3 e4 ⟨_,_,e2,rfl⟩⟩
  ·rename_i k ha
   simp only [ha]
   split at e
   ·rename_i l hl
    rw [hl] at hx
    cases hc:allOne l with
    | false=>simp only [hc,cond_false,reduceCtorEq] at e
    | true=>
     simp only [hc,cond_true,Option.bind_eq_some_iff,Option.some.injEq,Prod.mk.injEq] at e
     obtain ⟨s1,e1,rfl,rfl⟩:=e
     obtain ⟨vs,h1,h2⟩:=hx
     obtain ⟨σ',e2,e3,e4⟩:=newcells_ok h e1 hc h1 t
     exact ⟨vs,h2,hK σ' _ _ e3 e4 ⟨_,_,e2,rfl⟩⟩
   ·cases e
  ·cases e
 | load t x=>
  refine .inl ?_
  simp only [effE,unE_eq,inE_eq,agE_eq,zeE_eq,plE_eq,Option.bind_eq_some_iff,Option.some.injEq,Prod.mk.injEq] at e
  obtain ⟨a',e1,rfl,rfl⟩:=e
  simp only [opD]
  exact loadD_ok h e1 (hA x) fun r hr=>hK σ w r Ext.refl h hr
 | store t x v=>
  refine .inl ?_
  simp only [effE,unE_eq,inE_eq,agE_eq,zeE_eq,plE_eq,Option.bind_eq_some_iff,Option.some.injEq,Prod.mk.injEq] at e
  obtain ⟨s1,e1,rfl,rfl⟩:=e
  simp only [opD]
  exact store_ok h e1 (hA x) (hA v) fun w' x1 x2=>hK σ w' _ x1 x2 ⟨[],rfl,rfl⟩
 | buildSlice t len parts=>
  refine .inl ?_
  simp only [effE,unE_eq,inE_eq,agE_eq,zeE_eq,plE_eq] at e
  simp only [opD]
  split at e
  ·rename_i el hu
   simp only [hu]
   split at e
   ·rename_i i hi
    simp only [hi]
    cases hb:(Nat.blt 0 (len * i.size) && Nat.ble (len * i.size) 1000000) with
    | true=>
     simp only [hb,cond_true] at e ⊢
     split at e
     ·rename_i z hz
      simp only [hz]
      exact isNil_rowK h hA e hK
     ·cases e
    | false=>
     simp only [hb,cond_false] at e ⊢
     cases hb2:Nat.beq (len * i.size) 0 with
     | true=>
      simp only [hb2,cond_true] at e ⊢
      exact isNil_rowK h hA e hK
     | false=>simp only [hb2,cond_false,reduceCtorEq] at e
   ·cases e
  ·cases e
 | makeMap t r=>
  refine .inl ?_
  cases r with
  | some _=>simp only [effE,unE_eq,inE_eq,agE_eq,zeE_eq,plE_eq] at e;cases e
  | none=>
   simp only [effE,unE_eq,inE_eq,agE_eq,zeE_eq,plE_eq,Option.bind_eq_some_iff,Option.some.injEq,Prod.mk.injEq] at e
   obtain ⟨s1,e1,rfl,rfl⟩:=e
   obtain ⟨σ',e2,e3,e4⟩:=new_ok' (q:=.map #[] 0) h e1 (.inl rfl) 0 fun σ' _ _=>⟨0,rfl⟩
   exact ⟨.map (some w.heap.size),w.alloc (.map #[] 0),by simp [Instr.makeMap,Sem.run_bind],hK σ' _ _ e3 e4 ⟨_,_,e2,rfl⟩⟩
 | range t x=>
  refine .inl ?_
  simp only [effE,unE_eq,inE_eq,agE_eq,zeE_eq,plE_eq] at e
  have hx:=hA x
  split at e
  ·rename_i str hu hs
   rw [hs] at hx
   simp only [Option.bind_eq_some_iff,Option.some.injEq,Prod.mk.injEq] at e
   obtain ⟨s1,e1,rfl,rfl⟩:=e
   obtain ⟨σ',e2,e3,e4⟩:=new_ok' (q:=.stringIter str 0) h e1 (.inl rfl) 0 fun σ' _ _=>rfl
   simp only [opD]
   have hx':ρ x=.string str:=hx
   rw [hx']
   exact ⟨_,_,run_range_string w t str hu,hK σ' _ _ e3 e4 ⟨_,_,e2,rfl⟩⟩
  ·cases e
 | next it str=>
  refine .inl ?_
  cases str with
  | false=>simp only [effE,unE_eq,inE_eq,agE_eq,zeE_eq,plE_eq] at e;cases e
  | true=>
   simp only [effE,unE_eq,inE_eq,agE_eq,zeE_eq,plE_eq] at e
   have hx:=hA it
   split at e
   ·rename_i y hy
    rw [hy] at hx
    obtain ⟨b,C,e1,e2⟩:=hx
    split at e
    ·rename_i str p hg
     obtain ⟨b',C',q,g1,g2,g3⟩:=h.live hg (by simp)
     rw [e1] at g1;cases g1
     have g3':q=.stringIter str p:=g3
     subst g3'
     simp only [opD]
     rw [e2]
     cases hb:Nat.blt p str.size with
     | true=>
      have hlt:p < str.size:=Nat.le_of_ble_eq_true hb
      simp only [hb,cond_true] at e
      cases hm:memB lk y with
      | true=>simp only [hm,cond_true,reduceCtorEq] at e
      | false=>
       simp only [hm,cond_false,fN_eq,hsetS_eq,Option.some.injEq,Prod.mk.injEq] at e
       obtain ⟨rfl,rfl⟩:=e
       obtain ⟨x1,x2⟩:=h.put (o':=.it str (p+(Utf8.decode str p).2)) (w':=w.iterAt b str (p+(Utf8.decode str p).2)) hg (by simp) (memB_false.1 hm) e1 (Mod.putObj w b _ rfl) (fun _=>World.putObj_heap_same (h.rng y b C e1).2) fun _=>rfl
       exact ⟨_,_,Lib.run_next_any_at w b str p type g2 hlt,hK σ _ _ x1 x2 ⟨_,⟨_,_,rfl,rfl,_,_,rfl,rfl,_,_,rfl,rfl,rfl⟩,rfl⟩⟩
     | false=>
      have hlt:¬ p < str.size:=fun hh=>by rw [show Nat.blt p str.size=true from Nat.ble_eq_true_of_le hh] at hb;cases hb
      simp only [hb,cond_false,Option.some.injEq,Prod.mk.injEq] at e
      obtain ⟨rfl,rfl⟩:=e
      exact ⟨_,_,Lib.run_next_end_at w b str p type g2 hlt,hK σ _ _ Ext.refl h ⟨_,⟨_,_,rfl,rfl,rfl⟩,rfl⟩⟩
    ·cases e
   ·cases e
 | convert t d x=>
  refine .inl ?_
  simp only [effE,unE_eq,inE_eq,agE_eq,zeE_eq,plE_eq] at e
  simp only [opD]
  have hx:=hA x
  split at e
  ·rename_i str hs
   rw [hs] at hx
   split at e
   ·exact conv_ok h e hx hK
   ·simp only [Option.bind_eq_some_iff,Option.some.injEq,Prod.mk.injEq] at e
    obtain ⟨a',e1,rfl,rfl⟩:=e
    exact data1_ok e1 hx fun r hr=>hK σ w r Ext.refl h hr
  ·rename_i hs;rw [hs] at hx;exact conv_ok h e hx hK
  ·rename_i hs;rw [hs] at hx;exact conv_ok h e hx hK
  ·rename_i hs;rw [hs] at hx;exact conv_ok h e hx hK
  ·simp only [Option.bind_eq_some_iff,Option.some.injEq,Prod.mk.injEq] at e
   obtain ⟨a',e1,rfl,rfl⟩:=e
   exact data1_ok e1 hx fun r hr=>hK σ w r Ext.refl h hr
 | call c=>
  obtain ⟨callee,args,ats⟩:=c
  cases callee with
  | value f=>
   have key:∀ (hf:∀ g,f≠.func g),(match A f with | .f g fs cs=>bif ok g then callF g (fs++args.toList.map A++cs) s else none | .y l=>yieldF l (args.toList.map A) s | _=>none)=some (a,s')→
     callvK P ok (ρ f) (args.toList.map ρ) K w∨∃ l b,A f=.y l∧ρ f=.func (.yield b) #[] #[]∧(∃ C,σ l=some (b,C))∧yieldF l (args.toList.map A) s=some (a,s')∧roundK P b (args.toList.map ρ) K w:=fun _ e=>by
    have hf:=hA f
    split at e
    ·rename_i g fs cs he
     rw [he] at hf
     obtain ⟨vf,vc,h1,h2,h3⟩:=hf
     cases hg:ok g with
     | false=>simp only [hg,cond_false,reduceCtorEq] at e
     | true=>
      simp only [hg,cond_true] at e
      exact .inl ⟨g,vf,vc,h3,hg,hC g _ s a s' σ w _ K e hg h (relL_app (relL_app h1 (relL_map hA _)) h2) hK⟩
    ·rename_i l he
     rw [he] at hf
     obtain ⟨b,C,h1,h2⟩:=hf
     exact .inr ⟨l,b,he,h2,⟨C,h1⟩,e,hY l _ s a s' σ w _ b C K e h1 h (relL_map hA _) hK⟩
    ·cases e
   cases f with
   | func g=>
    refine .inl ?_
    simp only [effE,unE_eq,inE_eq,agE_eq,zeE_eq,plE_eq] at e
    simp only [opD]
    cases hg:ok g with
    | false=>simp only [hg,cond_false,reduceCtorEq] at e
    | true=>
     simp only [hg,cond_true] at e ⊢
     exact hC g _ s a s' σ w _ K e hg h (relL_map hA _) hK
   | tmp t=>
    rcases key (fun g=>by simp) e with h | ⟨l,b,h1,h2,h3,h4,h5⟩
    ·exact .inl h
    ·exact .inr ⟨_,_,l,b,rfl,rfl,fun g=>by simp,h1,h2,h3,h4,h5⟩
   | const v=>
    rcases key (fun g=>by simp) e with h | ⟨l,b,h1,h2,h3,h4,h5⟩
    ·exact .inl h
    ·exact .inr ⟨_,_,l,b,rfl,rfl,fun g=>by simp,h1,h2,h3,h4,h5⟩
   | global g=>
    rcases key (fun g=>by simp) e with h | ⟨l,b,h1,h2,h3,h4,h5⟩
    ·exact .inl h
    ·exact .inr ⟨_,_,l,b,rfl,rfl,fun g=>by simp,h1,h2,h3,h4,h5⟩
  | invoke r m=>refine .inl (hpure e)
  | builtin b=>
   cases b with
   | append=>
    refine .inl ?_
    simp only [effE,unE_eq,inE_eq,agE_eq,zeE_eq,plE_eq] at e
    simp only [opD]
    split at e
    ·rename_i t tx x y h1 h2
     have e1:ats=#[t,tx]:=by rw [←Array.toArray_toList (xs:=ats),h1]
     rw [e1,h2]
     exact app_ok h e (hA x) (hA y) hK
    ·cases e
   | copy=>
    refine .inl ?_
    simp only [effE,unE_eq,inE_eq,agE_eq,zeE_eq,plE_eq] at e
    simp only [opD]
    split at e
    ·rename_i t tx x y h1 h2
     have e1:ats=#[t,tx]:=by rw [←Array.toArray_toList (xs:=ats),h1]
     rw [e1,h2]
     exact copy_ok h e (hA x) (hA y) hK
    ·cases e
   | _=>exact .inl (hpure e)
 | _=>exact .inl (hpure e)
end
end Go.K

namespace Go.K
open Go

def tb (m i:Nat):Bool:=Nat.beq (Nat.land (Nat.shiftRight m i) 1) 1
theorem tb_eq (m i:Nat):tb m i=m.testBit i:=by
 have h:Nat.land (Nat.shiftRight m i) 1=(m >>> i) % 2:=Nat.and_one_is_mod (m >>> i)
 rw [Nat.testBit_eq_decide_div_mod_eq,tb,h,Nat.shiftRight_eq_div_pow]
 cases hd:decide (m / 2 ^ i % 2=1) with
 | true=>rw [of_decide_eq_true hd];rfl
 | false=>
  have:=of_decide_eq_false hd
  have h2:m / 2 ^ i % 2=0:=by omega
  rw [h2];rfl
theorem tb_or (a b i:Nat):tb (Nat.lor a b) i=(tb a i || tb b i):=by
 rw [tb_eq,tb_eq,tb_eq]
 exact Nat.testBit_or a b i
theorem tb_and (a b i:Nat):tb (Nat.land a b) i=(tb a i && tb b i):=by
 rw [tb_eq,tb_eq,tb_eq]
 exact Nat.testBit_and a b i
def bt (i:Nat):Nat:=Nat.shiftLeft 1 i
theorem tb_bt (i j:Nat):tb (bt i) j=Nat.beq i j:=by
 rw [tb_eq]
 have h:bt i=2 ^ i:=Nat.one_shiftLeft i
 rw [h,Nat.testBit_two_pow]
 cases hd:decide (i=j) with
 | true=>rw [of_decide_eq_true hd];simp
 | false=>
  have:=of_decide_eq_false hd
  cases hb:Nat.beq i j with
  | true=>exact (this (Nat.eq_of_beq_eq_true hb)).elim
  | false=>rfl
theorem tb_zero (i:Nat):tb 0 i=false:=by rw [tb_eq];exact Nat.zero_testBit i
def sbM (a b:Nat):Bool:=Nat.beq (Nat.land a b) a
theorem sbM_ok {a b:Nat} (h:sbM a b=true) (i:Nat) (hi:tb a i=true):tb b i=true:=by
 have:=Nat.eq_of_beq_eq_true h
 have h2:=tb_and a b i
 rw [this,hi] at h2
 simpa using h2.symm
def gM (M i:Nat):Nat:=Nat.land (Nat.shiftRight M (Nat.mul 128 i)) 340282366920938463463374607431768211455
def uM (M:Nat):List Edge→Nat→Nat
 | [],a=>a
 | e :: r,a=>bif Region.binds .any e then uM M r (Nat.lor (Nat.lor a (gM M e.on)) (bt e.on)) else uM M r a
theorem uM_ok {M:Nat}:∀ {l:List Edge} {a j:Nat},tb (uM M l a) j=true→tb a j=true∨∃ e ∈ l,Region.binds .any e=true∧(e.on=j∨tb (gM M e.on) j=true)
 | [],_,_,h=>.inl h
 | e :: r,a,j,h=>by
  unfold uM at h
  cases hb:Region.binds .any e with
  | false=>
   rw [hb] at h
   rcases uM_ok (l:=r) h with h | ⟨e',h1,h2⟩
   ·exact .inl h
   ·exact .inr ⟨e',List.mem_cons_of_mem _ h1,h2⟩
  | true=>
   rw [hb] at h
   rcases uM_ok (l:=r) h with h | ⟨e',h1,h2⟩
   ·rw [tb_or,tb_or,tb_bt,Bool.or_eq_true,Bool.or_eq_true] at h
    rcases h with (h | h) | h
    ·exact .inl h
    ·exact .inr ⟨e,List.mem_cons_self,hb,.inr h⟩
    ·exact .inr ⟨e,List.mem_cons_self,hb,.inl (Nat.eq_of_beq_eq_true h)⟩
   ·exact .inr ⟨e',List.mem_cons_of_mem _ h1,h2⟩
def mM:List Oper→Nat→Nat→Nat
 | [],_,M=>M
 | o :: r,i,M=>fN (Nat.lor M (Nat.shiftLeft (uM M o.after.toList 0) (Nat.mul 128 i))) fun M=>fN (i+1) fun i=>mM r i M
def bL (m:Nat):Nat→List Nat→List Nat
 | 0,l=>l
 | k+1,l=>bif tb m k then bL m k (k :: l) else bL m k l
theorem bL_mem {m j:Nat}:∀ {k:Nat} {l:List Nat},j ∈ bL m k l↔(j < k∧tb m j=true)∨j ∈ l
 | 0,l=>by simp [bL]
 | k+1,l=>by
  unfold bL
  cases hb:tb m k with
  | true=>
   simp only [cond_true,bL_mem (k:=k),List.mem_cons]
   constructor
   ·rintro (⟨h1,h2⟩ | rfl | h)
    ·exact .inl ⟨by omega,h2⟩
    ·exact .inl ⟨by omega,hb⟩
    ·exact .inr h
   ·rintro (⟨h1,h2⟩ | h)
    ·rcases Nat.lt_or_ge j k with h | h
     ·exact .inl ⟨h,h2⟩
     ·exact .inr (.inl (by omega))
    ·exact .inr (.inr h)
  | false=>
   simp only [cond_false,bL_mem (k:=k)]
   constructor
   ·rintro (⟨h1,h2⟩ | h)
    ·exact .inl ⟨by omega,h2⟩
    ·exact .inr h
   ·rintro (⟨h1,h2⟩ | h)
    ·rcases Nat.lt_or_ge j k with h | h
     ·exact .inl ⟨h,h2⟩
     ·have:j=k:=by omega
      subst this
      rw [hb] at h2;cases h2
    ·exact .inr h
def ANM (M N:Nat):Nat→List (List Nat)→List (List Nat)
 | 0,l=>l
 | k+1,l=>ANM M N k (bL (gM M k) N [] :: l)
theorem ANM_len {M N:Nat}:∀ {k:Nat} {l:List (List Nat)},(ANM M N k l).length=k+l.length
 | 0,l=>by simp [ANM]
 | k+1,l=>by rw [ANM,ANM_len (k:=k),List.length_cons];omega
theorem ANM_get {M N:Nat}:∀ {k:Nat} {l:List (List Nat)} {i:Nat},getA (ANM M N k l) i=if i < k then bL (gM M i) N [] else getA l (i - k)
 | 0,l,i=>by simp [ANM]
 | k+1,l,i=>by
  rw [ANM,ANM_get (k:=k)]
  rcases Nat.lt_trichotomy i k with h | h | h
  ·rw [if_pos h,if_pos (by omega)]
  ·subst h
   rw [if_neg (by omega),if_pos (by omega),Nat.sub_self];rfl
  ·rw [if_neg (by omega),if_neg (by omega)]
   obtain ⟨d,hd⟩:∃ d,i - k=d+1:=⟨i - k - 1,by omega⟩
   rw [hd,show i - (k+1)=d by omega];rfl
def dL:List Oper→Nat→List (Nat × Nat)
 | [],_=>[]
 | o :: r,i=>match o.dst with
  | some d=>fN d fun d=>fN i fun i=>(i,d) :: dL r (i+1)
  | none=>dL r (i+1)
theorem dL_mem {d:Nat} {o:Oper}:∀ {l:List Oper} {i j:Nat},l[j]?=some o→o.dst=some d→(i+j,d) ∈ dL l i
 | [],_,_,h,_=>by cases h
 | a :: r,i,0,h,hd=>by
  cases h
  unfold dL
  rw [hd]
  simp only [fN_eq]
  exact List.mem_cons_self
 | a :: r,i,j+1,h,hd=>by
  have h2:=dL_mem (l:=r) (i:=i+1) (j:=j) h hd
  rw [show i+(j+1)=i+1+j by omega]
  unfold dL
  split
  ·simp only [fN_eq];exact List.mem_cons_of_mem _ h2
  ·exact h2
def chk1 (n M:Nat) (all:List Oper) (DL:List (Nat × Nat)) (i:Nat) (o:Oper) (A:List Nat):Bool:=
 fN (gM M i) fun a=>
 !isSel o && o.after.toList.all (fun e=>!(Region.binds .any e) || Nat.blt e.on i)
 && sbM a (uM M o.after.toList 0)
 && A.all (fun j=>sbM (gM M j) a)
 && (slotsOf all o).all (fun t=>DL.all fun p=>bif Nat.beq p.2 t then Nat.beq p.1 i || tb a p.1 || tb (gM M p.1) i else true)
 && (match o.guard with | none=>true | some (g,_)=>tb a g && (dstAt all g).isSome)
 && (match o.dst with | none=>true | some d=>Nat.blt d n && DL.all fun p=>bif Nat.beq p.2 d then Nat.beq p.1 i else true)
def chkA (n M:Nat) (all:List Oper) (DL:List (Nat × Nat)):List Oper→List (List Nat)→Nat→Bool
 | [],_,_=>true
 | o :: r,A,i=>chk1 n M all DL i o (A.headD []) && fN (i+1) fun i=>chkA n M all DL r A.tail i
theorem chkA_ok {n M:Nat} {all:List Oper} {DL:List (Nat × Nat)} {o:Oper}:∀ {l:List Oper} {A:List (List Nat)} {i j:Nat},chkA n M all DL l A i=true→l[j]?=some o→chk1 n M all DL (i+j) o (getA A j)=true
 | [],_,_,_,_,h=>by cases h
 | a :: r,A,i,j,h,hj=>by
  simp only [chkA,fN_eq,Bool.and_eq_true] at h
  cases j with
  | zero=>
   cases hj
   have:A.headD []=getA A 0:=by cases A <;> rfl
   rw [←this];exact h.1
  | succ j=>
   have:=chkA_ok (l:=r) (A:=A.tail) (j:=j) h.2 hj
   have e:getA A.tail j=getA A (j+1):=by
    cases A with
    | nil=>cases j <;> rfl
    | cons _ _=>rfl
   rw [e] at this
   rw [show i+(j+1)=i+1+j by omega];exact this
def mkM:List Nat→Nat→Nat
 | [],a=>a
 | i :: r,a=>mkM r (Nat.lor a (bt i))
theorem mkM_ok:∀ {l:List Nat} {a j:Nat},tb (mkM l a) j=(tb a j || memB l j)
 | [],a,j=>by simp [mkM,memB]
 | i :: r,a,j=>by
  rw [mkM,mkM_ok (l:=r),tb_or,tb_bt]
  simp only [memB,List.any_cons,Bool.or_assoc]
def nxtM (E:Nat):Ord→Nat→Bool
 | .nil,_=>false
 | .br a b,i=>nxtM E a i || nxtM E b i
 | .op j t,i=>Nat.beq j i || (!tb E j && nxtM E t i)
def covM (eff:List Nat) (E:Nat) (AN:List (List Nat)) (t:Ord) (p:Nat):Bool:=eff.all fun i=>tb p i || !((getA AN i).all fun j=>!tb E j || tb p j) || nxtM E t i
def okMv (N:Nat) (eff:List Nat) (E:Nat) (AN:List (List Nat)):Ord→Nat→Bool
 | .nil,p=>(List.range N).all (tb p)
 | .br a b,p=>okMv N eff E AN a p && okMv N eff E AN b p
 | .op i t,p=>Nat.blt i N && !tb p i && (getA AN i).all (tb p) && fN (Nat.lor p (bt i)) fun q=>(bif tb E i then covM eff E AN t q else true) && okMv N eff E AN t q
theorem nxtM_eq {E:Nat} {eff:List Nat} (hE:∀ j,tb E j=memB eff j):∀ (t:Ord) (i:Nat),nxtM E t i=nxt eff t i
 | .nil,_=>rfl
 | .br a b,i=>by rw [nxtM,nxt,nxtM_eq hE a,nxtM_eq hE b]
 | .op j t,i=>by rw [nxtM,nxt,nxtM_eq hE t,hE]
theorem covM_eq {E:Nat} {eff:List Nat} {AN:List (List Nat)} (hE:∀ j,tb E j=memB eff j) {t:Ord} {p:Nat} {pre:List Nat} (hp:∀ j,tb p j=memB pre j):covM eff E AN t p=cov eff AN t pre:=by
 simp only [covM,cov,nxtM_eq hE,hE,hp]
theorem okMv_eq {N E:Nat} {eff:List Nat} {AN:List (List Nat)} (hE:∀ j,tb E j=memB eff j):∀ (t:Ord) {p:Nat} {pre:List Nat},(∀ j,tb p j=memB pre j)→okMv N eff E AN t p=okT N eff AN t pre
 | .nil,p,pre,hp=>by
  have:tb p=memB pre:=funext hp
  rw [okMv,okT,this]
 | .br a b,p,pre,hp=>by rw [okMv,okT,okMv_eq hE a hp,okMv_eq hE b hp]
 | .op i t,p,pre,hp=>by
  have h2:∀ j,tb (Nat.lor p (bt i)) j=memB (i :: pre) j:=fun j=>by
   rw [tb_or,tb_bt,hp]
   simp only [memB,List.any_cons]
   exact Bool.or_comm _ _
  have:tb p=memB pre:=funext hp
  rw [okMv,okT,fN_eq,okMv_eq hE t h2,covM_eq hE h2,hE,this]
  cases Nat.blt i N <;> cases memB pre i <;> cases (getA AN i).all (memB pre) <;> simp
def gokM (n M E:Nat) (all:List Oper) (DL:List (Nat × Nat)) (eff:List Nat) (AN:List (List Nat)):Bool:=
 chkA n M all DL all AN 0 && eff.any (fun k=>Nat.blt k all.length && (getA AN k).all fun j=>!tb E j) && eff.all (fun k=>Nat.blt k all.length)
theorem gokM_ok {n M E:Nat} {all:List Oper} {eff:List Nat} (hE:∀ j,tb E j=memB eff j) (h:gokM n M E all (dL all 0) eff (ANM M all.length all.length [])=true) :
  gokB n all eff (ANM M all.length all.length []) ((List.range all.length).map fun i=>eff.filter (memB (getA (ANM M all.length all.length []) i)))=true:=by
 simp only [gokM,Bool.and_eq_true] at h
 obtain ⟨⟨h1,h2⟩,h3⟩:=h
 have hlen:(ANM M all.length all.length []).length=all.length:=by rw [ANM_len];rfl
 have hget:∀ i j,memB (getA (ANM M all.length all.length []) i) j=true↔i < all.length∧j < all.length∧tb (gM M i) j=true:=fun i j=>by
  rw [memB_iff,ANM_get]
  by_cases hi:i < all.length
  ·rw [if_pos hi,bL_mem];simp [hi]
  ·rw [if_neg hi]
   have:getA ([]:List (List Nat)) (i - all.length)=[]:=by cases i - all.length <;> rfl
   rw [this];simp [hi]
 generalize ANM M all.length all.length []=AN at h1 h2 hlen hget ⊢
 simp only [gokB,Bool.and_eq_true,List.all_eq_true,List.mem_range]
 have hone:∀ i o,all[i]?=some o→chk1 n M all (dL all 0) i o (getA AN i)=true:=fun i o hi=>by
  have:=chkA_ok (j:=i) h1 hi
  rwa [Nat.zero_add] at this
 have parts:=fun i o (hi:all[i]?=some o)=>by
  have:=hone i o hi
  simp only [chk1,fN_eq,Bool.and_eq_true,List.all_eq_true] at this
  exact this
 refine ⟨⟨⟨⟨Nat.ble_eq_true_of_le (by omega),fun i hi=>?_⟩,fun i hi j hj m hm=>?_⟩,?_⟩,fun k hk=>by simpa using List.all_eq_true.1 h3 k hk⟩
 ·obtain ⟨o,ho⟩:∃ o,all[i]?=some o:=⟨_,List.getElem?_eq_getElem hi⟩
  rw [ho]
  obtain ⟨⟨⟨⟨⟨⟨p1,p2⟩,p3⟩,p4⟩,p5⟩,p6⟩,p7⟩:=parts i o ho
  simp only [gok1,Bool.and_eq_true,List.all_eq_true,List.mem_range]
  refine ⟨⟨⟨⟨⟨⟨p1,p2⟩,fun j hj=>?_⟩,fun t ht m hm=>?_⟩,?_⟩,?_⟩,?_⟩
  ·have ⟨_,q2,q3⟩:=(hget i j).1 (memB_iff.2 hj)
   rcases uM_ok (sbM_ok p3 j q3) with h | ⟨e,he,hb,hc⟩
   ·rw [tb_zero] at h;cases h
   ·refine List.any_eq_true.2 ⟨e,he,?_⟩
    have hlt:Nat.blt e.on i=true:=by simpa [hb] using p2 e he
    have hlt:e.on < i:=Nat.le_of_ble_eq_true hlt
    rw [hb,Bool.true_and,Bool.or_eq_true]
    rcases hc with hc | hc
    ·exact .inl (by rw [hc];exact Nat.beq_refl j)
    ·exact .inr ((hget e.on j).2 ⟨by omega,q2,hc⟩)
  ·cases hd:optEq (dstAt all m) t with
   | false=>rfl
   | true=>
    obtain ⟨o',ho'⟩:∃ o',all[m]?=some o':=⟨_,List.getElem?_eq_getElem hm⟩
    have hd':=optEq_iff.1 hd
    rw [dstAt_get,ho'] at hd'
    have hmem:(0+m,t) ∈ dL all 0:=dL_mem ho' hd'
    have:=p5 t ht (0+m,t) hmem
    rw [Nat.zero_add] at this
    simp only [Nat.beq_refl,cond_true,Bool.or_eq_true] at this
    simp only [Bool.not_true,Bool.false_or,Bool.or_eq_true]
    rcases this with (h | h) | h
    ·exact .inl (.inl h)
    ·exact .inl (.inr ((hget i m).2 ⟨hi,hm,h⟩))
    ·exact .inr ((hget m i).2 ⟨hm,hi,h⟩)
  ·cases hg:o.guard with
   | none=>rfl
   | some gw=>
    obtain ⟨g,wv⟩:=gw
    rw [hg] at p6
    simp only [Bool.and_eq_true] at p6 ⊢
    refine ⟨(hget i g).2 ⟨hi,?_,p6.1⟩,p6.2⟩
    rcases Nat.lt_or_ge g all.length with h | h
    ·exact h
    ·have h6:=p6.2
     rw [dstAt_get,List.getElem?_eq_none h] at h6
     cases h6
  ·cases hd:o.dst with
   | none=>rfl
   | some d=>
    rw [hd] at p7
    simp only [Bool.and_eq_true,List.all_eq_true,List.mem_range] at p7 ⊢
    refine ⟨p7.1,fun j hj=>?_⟩
    cases he:optEq (dstAt all j) d with
    | false=>simp
    | true=>
     obtain ⟨o',ho'⟩:∃ o',all[j]?=some o':=⟨_,List.getElem?_eq_getElem hj⟩
     have hd':=optEq_iff.1 he
     rw [dstAt_get,ho'] at hd'
     have hmem:(0+j,d) ∈ dL all 0:=dL_mem ho' hd'
     have:=p7.2 (0+j,d) hmem
     rw [Nat.zero_add] at this
     simp only [Nat.beq_refl,cond_true] at this
     rw [this];rfl
  ·rw [Bool.or_eq_true]
   refine .inr (List.any_eq_true.2 ⟨eff.filter (memB (getA AN i)),List.mem_map.2 ⟨i,List.mem_range.2 hi,rfl⟩,List.all_eq_true.2 fun j hj=>?_⟩)
   have:memB (eff.filter (memB (getA AN i))) j=memB (getA AN i) j:=by
    cases hm:memB (getA AN i) j with
    | true=>exact memB_iff.2 (List.mem_filter.2 ⟨hj,hm⟩)
    | false=>
     cases hm2:memB (eff.filter (memB (getA AN i))) j with
     | false=>rfl
     | true=>
      have:=(List.mem_filter.1 (memB_iff.1 hm2)).2
      rw [hm] at this;cases this
   rw [this];simp
 ·have hi':i < all.length:=by omega
  obtain ⟨o,ho⟩:∃ o,all[i]?=some o:=⟨_,List.getElem?_eq_getElem hi'⟩
  obtain ⟨⟨⟨⟨⟨⟨p1,p2⟩,p3⟩,p4⟩,p5⟩,p6⟩,p7⟩:=parts i o ho
  obtain ⟨_,q2,q3⟩:=(hget j m).1 (memB_iff.2 hm)
  exact (hget i m).2 ⟨hi',q2,sbM_ok (p4 j hj) m q3⟩
 ·obtain ⟨k,hk,hk2⟩:=List.any_eq_true.1 h2
  rw [Bool.and_eq_true] at hk2
  refine List.any_eq_true.2 ⟨k,hk,?_⟩
  rw [Bool.and_eq_true]
  refine ⟨hk2.1,?_⟩
  have:=hk2.2
  simp only [hE] at this
  exact this
end Go.K

namespace Go.K
open Go

def gdE (all:List Oper) (o:Oper) (i:Nat) (kn:List (Nat × Option Bool)) (e:T):Option (Bool × List (Nat × Option Bool)):=
 match o.guard with
 | none=>some (true,kn)
 | some (j,want)=>match lookK kn j with
  | some (some b)=>bif sameB b want then some (true,kn) else some (false,(i,none) :: kn)
  | some none=>some (false,(i,none) :: kn)
  | none=>match dstAt all j with
   | some d=>bif clash o.dst ((j,none) :: kn) all then none else match tget e d with
    | .b b=>bif sameB b want then some (true,(j,some b) :: kn) else some (false,(i,none) :: (j,some b) :: kn)
    | _=>none
   | none=>none
noncomputable def opsE (ex:Oper→T→St→Option (AV × St)) (all:List Oper):List Oper→Nat→List (Nat × Option Bool)→T→St→Option (T × St)
 | [],_,_,e,s=>some (e,s)
 | o :: r,i,kn,e,s=>bif clash o.dst kn all then none else (gdE all o i kn e).bind fun g=>
   bif g.1 then (ex o e s).bind fun q=>lsetF e o.dst q.1 fun e=>opsE ex all r (i+1) g.2 e q.2
   else lsetF e o.dst (.tup []) fun e=>opsE ex all r (i+1) g.2 e s
section
variable {P:Program} {ok:Nat→Bool} {glob:Nat→Nat→Option AV} {B:Nat} {ctx:List (Nat × LI)} {lk:List Nat} {callF yieldF:Nat→List AV→St→Option (AV × St)} {n:Nat}
theorem opY_of {o:Oper} {ρ:Operand→Value} {K:Cont} {w:World} (h:opD P ok o ρ K w∨∃ c f b,o.op=.call c∧c.callee=.value f∧(∀ g,f≠.func g)∧ρ f=.func (.yield b) #[] #[]∧roundK P b (c.args.toList.map ρ) K w):opY P ok o ρ K w:=by
 obtain ⟨dst,op,type,pos,after,guard⟩:=o
 rcases h with h | ⟨c,f,b,h1,h2,h3,h4,h5⟩
 ·cases op with
  | call c=>
   obtain ⟨callee,args,ats⟩:=c
   cases callee with
   | value f=>cases f with
    | func g=>exact h
    | tmp t=>exact .inl h
    | const v=>exact .inl h
    | global g=>exact .inl h
   | invoke r m=>exact h
   | builtin b=>exact h
  | _=>exact h
 ·simp only at h1
  subst h1
  obtain ⟨callee,args,ats⟩:=c
  simp only at h2
  subst h2
  cases f with
  | func g=>exact (h3 g rfl).elim
  | tmp t=>exact .inr ⟨b,h4,h5⟩
  | const v=>exact .inr ⟨b,h4,h5⟩
  | global g=>exact .inr ⟨b,h4,h5⟩
theorem bool_of {n:Nat} {σ:Sg} {l:T} {e:Env} (h:ER n σ l e) {d:Nat} {b:Bool} (hd:tget l d=.b b):e d=.bool b:=by
 have:=h.get d
 rw [hd] at this
 exact this
theorem undef_rel {σ:Sg}:rel σ (.tup []) undef:=⟨[],rfl,rfl⟩
theorem opsE_ok (hC:CallOk P ok glob B ctx lk callF) (hY:YieldOk P glob B ctx lk yieldF) {all:List Oper} {K:Env→World→Prop} {e':T} {s':St}:∀ (l:List Oper) (i:Nat) (kn:List (Nat × Option Bool)) (e:T) (s:St) (σ:Sg) (ē:Env) (w:World),
  opsE (fun o e s=>effE P ok glob lk callF yieldF o (evA e) s) all l i kn e s=some (e',s')→SR glob B ctx lk σ s w→ER n σ e ē→
  (∀ σ' w' ē',Ext B lk σ w σ' w'→SR glob B ctx lk σ' s' w'→ER n σ' e' ē'→K ē' w')→opsD P ok n all K l i kn ē w:=by
 intro l
 induction l with
 | nil=>
  intro i kn e s σ ē w h hS hE hK
  simp only [opsE,Option.some.injEq,Prod.mk.injEq] at h
  obtain ⟨rfl,rfl⟩:=h
  exact hK σ w ē Ext.refl hS hE
 | cons o r ih=>
  intro i kn e s σ ē w h hS hE hK
  simp only [opsE,lsetF_eq] at h
  simp only [opsD]
  cases hcl:clash o.dst kn all with
  | true=>simp only [hcl,cond_true,reduceCtorEq] at h
  | false=>
   simp only [hcl,cond_false,Option.bind_eq_some_iff] at h ⊢
   obtain ⟨⟨g1,g2⟩,hg,h⟩:=h
   have run1:∀ kn',(effE P ok glob lk callF yieldF o (evA e) s).bind (fun q=>opsE (fun o e s=>effE P ok glob lk callF yieldF o (evA e) s) all r (i+1) kn' (lsetO e o.dst q.1) q.2)=some (e',s')→opY P ok o (ev ē) (fun v w'=>opsD P ok n all K r (i+1) kn' (updO n ē o.dst v) w') w:=fun kn' h=>by
    simp only [Option.bind_eq_some_iff] at h
    obtain ⟨⟨a,s1⟩,h1,h2⟩:=h
    refine opY_of ?_
    rcases effE_ok (K:=fun v w'=>opsD P ok n all K r (i+1) kn' (updO n ē o.dst v) w') hC hY hS h1 hE.ev (fun _=>rfl) (fun _=>rfl) (fun σ' w' v x1 x2 x3=>ih (i+1) kn' _ s1 σ' _ w' h2 x2 ((hE.le x1.le).setO o.dst x3) fun σ'' w'' ē'' y1 y2 y3=>hK σ'' w'' ē'' (x1.trans y1) y2 y3) with h | ⟨c,f,l,b,z1,z2,z3,_,z4,_,_,z5⟩
    ·exact .inl h
    ·exact .inr ⟨c,f,b,z1,z2,z3,z4,z5⟩
   have skip1:∀ kn',opsE (fun o e s=>effE P ok glob lk callF yieldF o (evA e) s) all r (i+1) kn' (lsetO e o.dst (.tup [])) s=some (e',s')→opsD P ok n all K r (i+1) kn' (updO n ē o.dst undef) w:=fun kn' h=>
    ih (i+1) kn' _ s σ _ w h hS (hE.setO o.dst undef_rel) hK
   unfold gdE at hg
   cases hgd:o.guard with
   | none=>
    simp only [hgd,Option.some.injEq,Prod.mk.injEq] at hg ⊢
    obtain ⟨rfl,rfl⟩:=hg
    exact run1 kn h
   | some gw=>
    obtain ⟨j,want⟩:=gw
    simp only [hgd] at hg ⊢
    cases hlk:lookK kn j with
    | some ob=>
     cases ob with
     | some b=>
      simp only [hlk] at hg ⊢
      cases hb:sameB b want with
      | true=>
       simp only [hb,cond_true,Option.some.injEq,Prod.mk.injEq] at hg ⊢
       obtain ⟨rfl,rfl⟩:=hg
       exact run1 kn h
      | false=>
       simp only [hb,cond_false,Option.some.injEq,Prod.mk.injEq] at hg ⊢
       obtain ⟨rfl,rfl⟩:=hg
       exact skip1 _ h
     | none=>
      simp only [hlk,Option.some.injEq,Prod.mk.injEq] at hg ⊢
      obtain ⟨rfl,rfl⟩:=hg
      exact skip1 _ h
    | none=>
     simp only [hlk] at hg ⊢
     cases hd:dstAt all j with
     | none=>simp only [hd,reduceCtorEq] at hg
     | some d=>
      simp only [hd] at hg ⊢
      cases hc2:clash o.dst ((j,none) :: kn) all with
      | true=>simp only [hc2,cond_true,reduceCtorEq] at hg
      | false=>
       simp only [hc2,cond_false] at hg ⊢
       split at hg
       ·rename_i b hb
        have hv:=bool_of hE hb
        rw [hv]
        cases b with
        | true=>
         show (bif want then _ else _)
         rw [upd_self hv]
         cases want with
         | true=>
          simp only [sameB,cond_true,Option.some.injEq,Prod.mk.injEq] at hg ⊢
          obtain ⟨rfl,rfl⟩:=hg
          exact run1 _ h
         | false=>
          simp only [sameB,cond_false,Option.some.injEq,Prod.mk.injEq] at hg ⊢
          obtain ⟨rfl,rfl⟩:=hg
          exact skip1 _ h
        | false=>
         show (bif want then _ else _)
         rw [upd_self hv]
         cases want with
         | true=>
          simp only [sameB,cond_true,cond_false,Option.some.injEq,Prod.mk.injEq] at hg ⊢
          obtain ⟨rfl,rfl⟩:=hg
          exact skip1 _ h
         | false=>
          simp only [sameB,cond_true,cond_false,Option.some.injEq,Prod.mk.injEq] at hg ⊢
          obtain ⟨rfl,rfl⟩:=hg
          exact run1 _ h
       ·cases hg
end
def nonE (P:Program) (o:Oper):Bool:=match o.op with | .load _ _=>true | .binOp ..=>true | _=>pureOp P o
def isLd (o:Oper):Bool:=match o.op with | .load _ _=>true | _=>false
def e0M (P:Program):List Oper→Nat→Nat→Nat
 | [],_,a=>a
 | o :: r,i,a=>fN i fun i=>bif nonE P o then e0M P r (i+1) a else fN (Nat.lor a (bt i)) fun a=>e0M P r (i+1) a
def effM (P:Program) (M E:Nat):List Oper→Nat→List Nat
 | [],_=>[]
 | o :: r,i=>fN i fun i=>bif nonE P o && (bif isLd o then Nat.beq (Nat.land (gM M i) E) 0 else true) then effM P M E r (i+1) else i :: effM P M E r (i+1)
def effX (P:Program) (M E N:Nat):List Oper→Nat→List Nat
 | [],_=>[]
 | o :: r,i=>fN i fun i=>bif nonE P o && (bif isLd o then Nat.beq (Nat.land (gM M i) E) 0 && (List.range N).all (fun k=>!tb E k || tb (gM M k) i) else true) then effX P M E N r (i+1) else i :: effX P M E N r (i+1)
def preM (M E:Nat):Nat→List Nat→List Nat
 | 0,l=>l
 | k+1,l=>bif !tb E k && Nat.beq (Nat.land (gM M k) E) 0 then preM M E k (k :: l) else preM M E k l
def treeM (M E:Nat):Nat→Nat→List Nat→Ord
 | 0,_,_=>.nil
 | f+1,dn,todo=>match todo.find? (fun i=>!tb E i && sbM (gM M i) dn) with
  | some i=>.op i (treeM M E f (Nat.lor dn (bt i)) (todo.filter fun j=>!Nat.beq i j))
  | none=>match (todo.filter fun i=>sbM (gM M i) dn).map fun i=>Ord.op i (treeM M E f (Nat.lor dn (bt i)) (todo.filter fun j=>!Nat.beq i j)) with
   | []=>.nil
   | a :: r=>r.foldl Ord.br a
def hasBr:Ord→Bool
 | .nil=>false
 | .op _ t=>hasBr t
 | .br _ _=>true
noncomputable def ndE (P:Program) (glob:Nat→Nat→Option AV) (h:HP) (o:Oper) (A:Operand→AV):Option (AV × List Nat):=
 match o.op with
 | .load t x=>(loadE P glob h t (A x)).bind fun a=>some (a,loadN (A x))
 | .binOp op t x y _=>(binE P op t x y (A x) (A y)).bind fun a=>some (a,[])
 | _=>bif pureOp P o then (pureE P o A).bind fun a=>some (a,[]) else none
noncomputable def preE (P:Program) (glob:Nat→Nat→Option AV) (h:HP) (all:List Oper) (eff:List Nat):List Nat→List (Nat × Option Bool)→T→List (Nat × Nat)→Option (List (Nat × Option Bool) × T × List (Nat × Nat))
 | [],kn,e,L=>some (kn,e,L)
 | i :: r,kn,e,L=>bif memB eff i then none else match all[i]? with
  | none=>none
  | some o=>(gdE all o i kn e).bind fun g=>
   bif g.1 then (ndE P glob h o (evA e)).bind fun q=>lsetF e o.dst q.1 fun e=>preE P glob h all eff r g.2 e (q.2.map (fun x=>(i,x))++L)
   else lsetF e o.dst (.tup []) fun e=>preE P glob h all eff r g.2 e L
def lksE (AN:List (List Nat)) (lk:List Nat) (L:List (Nat × Nat)) (j:Nat):List Nat:=(L.filter fun p=>!memB (getA AN j) p.1).map (·.2)++lk
noncomputable def liveE (h:HP) (x:Nat):Bool:=match hget h x with | some .dead=>false | some _=>true | none=>false
noncomputable def chE (P:Program) (ex:Nat→Oper→T→St→Option (AV × St)) (bs:Nat→Nat→Nat) (all:List Oper) (eff:List Nat):Ord→List (Nat × Option Bool)→T→St→Option (T × St)
 | .nil,_,e,s=>some (e,s)
 | .br a b,kn,e,s=>(chE P ex bs all eff a kn e s).bind fun p=>(chE P ex bs all eff b kn e s).bind fun q=>bif beqT p.1 q.1 && beqH p.2.h q.2.h then some p else none
 | .op i r,kn,e,s=>match all[i]? with
  | none=>none
  | some o=>(gdE all o i kn e).bind fun g=>
   bif g.1 then (bif memB eff i then (fN (bs i s.nx) fun x=>ex i o e ⟨s.h,x⟩).bind fun q=>lsetF e o.dst q.1 fun e=>chE P ex bs all eff r g.2 e q.2
     else bif isLd o then none else (ndE P (fun _ _=>none) .nil o (evA e)).bind fun q=>lsetF e o.dst q.1 fun e=>chE P ex bs all eff r g.2 e s)
   else lsetF e o.dst (.tup []) fun e=>chE P ex bs all eff r g.2 e s
inductive DA where
 | no
 | ok (pre eff:List Nat) (AN:List (List Nat)) (t:Ord) (br:Bool)
def fNs {α:Type}:List Nat→(List Nat→α)→α
 | [],k=>k []
 | a :: l,k=>fN a fun a=>fNs l fun l=>k (a :: l)
theorem fNs_eq {α:Type}:∀ (l:List Nat) (k:List Nat→α),fNs l k=k l
 | [],_=>rfl
 | a :: l,k=>by simp only [fNs,fN_eq,fNs_eq l]
def fNss {α:Type}:List (List Nat)→(List (List Nat)→α)→α
 | [],k=>k []
 | a :: l,k=>fNs a fun a=>fNss l fun l=>k (a :: l)
theorem fNss_eq {α:Type}:∀ (l:List (List Nat)) (k:List (List Nat)→α),fNss l k=k l
 | [],_=>rfl
 | a :: l,k=>by simp only [fNss,fNs_eq,fNss_eq l]
def fOrd {α:Type}:Ord→(Ord→α)→α
 | .nil,k=>k .nil
 | .op i t,k=>fN i fun i=>fOrd t fun t=>k (.op i t)
 | .br a b,k=>fOrd a fun a=>fOrd b fun b=>k (.br a b)
theorem fOrd_eq {α:Type}:∀ (t:Ord) (k:Ord→α),fOrd t k=k t
 | .nil,_=>rfl
 | .op i t,k=>by simp only [fOrd,fN_eq,fOrd_eq t]
 | .br a b,k=>by simp only [fOrd,fOrd_eq a,fOrd_eq b]
def fPs {α:Type}:List (Nat × Nat)→(List (Nat × Nat)→α)→α
 | [],k=>k []
 | a :: l,k=>fN a.1 fun x=>fN a.2 fun y=>fPs l fun l=>k ((x,y) :: l)
theorem fPs_eq {α:Type}:∀ (l:List (Nat × Nat)) (k:List (Nat × Nat)→α),fPs l k=k l
 | [],_=>rfl
 | a :: l,k=>by simp only [fPs,fN_eq,fPs_eq l]
def orL (l:List Nat) (d:Nat):List Nat:=match l with | []=>[d] | l=>l
def annE (P:Program) (n:Nat) (x:Bool) (all:List Oper):DA:=
 fN all.length fun N=>fN (mM all 0 0) fun M=>fN (e0M P all 0 0) fun E0=>fNs (orL (bif x then effX P M E0 N all 0 else effM P M E0 all 0) (N - 1)) fun eff=>
 fN (mkM eff 0) fun E=>fNss (ANM M N N []) fun AN=>fNs (preM M E N []) fun pre=>fN (mkM pre 0) fun p=>
 fOrd (treeM M E (N+1) p ((List.range N).filter fun i=>!tb p i)) fun t=>fPs (dL all 0) fun DL=>fOrd (pre.foldr Ord.op t) fun t0=>
 bif gokM n M E all DL eff AN && (covM eff E AN t0 0 && okMv N eff E AN t0 0) && all.all ndef then
  (match hasBr t with | true=>.ok pre eff AN t true | false=>.ok pre eff AN t false) else .no
noncomputable def drawE1 (P:Program) (glob:Nat→Nat→Option AV) (ex:List Nat→Oper→T→St→Option (AV × St)) (W:Nat) (lk:List Nat) (n:Nat) (x:Bool) (all:List Oper) (e:T) (s:St):Option (T × St):=
 match annE P n x all with
 | .no=>none
 | .ok pre eff AN t br=>(preE P glob s.h all eff pre [] e []).bind fun p=>
   bif br then (chE P (fun j o e s=>bif (lksE AN [] p.2.2 j).all (liveE s.h) then ex (lksE AN lk p.2.2 j) o e s else none) (fun i _=>s.nx+(i+1) * W) all eff t p.1 p.2.1 s).bind fun q=>fN (s.nx+100 * W) fun x=>some (q.1,⟨q.2.h,x⟩)
   else chE P (fun j o e s=>bif (lksE AN [] p.2.2 j).all (liveE s.h) then ex (lksE AN lk p.2.2 j) o e s else none) (fun _ x=>x) all eff t p.1 p.2.1 s
noncomputable def drawE (P:Program) (glob:Nat→Nat→Option AV) (ex:List Nat→Oper→T→St→Option (AV × St)) (W:Nat) (lk:List Nat) (n:Nat) (all:List Oper) (e:T) (s:St):Option (T × St):=
 match drawE1 P glob ex W lk n false all e s with
 | some r=>some r
 | none=>drawE1 P glob ex W lk n true all e s
theorem drawE_1 {P:Program} {glob:Nat→Nat→Option AV} {ex:List Nat→Oper→T→St→Option (AV × St)} {W:Nat} {lk:List Nat} {n:Nat} {all:List Oper} {e:T} {s:St} {r:T × St} (h:drawE P glob ex W lk n all e s=some r):∃ x,drawE1 P glob ex W lk n x all e s=some r:=by
 unfold drawE at h
 split at h
 ·rename_i q hq
  exact ⟨false,by rw [hq];exact h⟩
 ·exact ⟨true,h⟩
theorem annE_ok {P:Program} {n:Nat} {x:Bool} {all:List Oper} {pre eff:List Nat} {AN:List (List Nat)} {t:Ord} {br:Bool} (h:annE P n x all=.ok pre eff AN t br):∃ Gs,(gokB n all eff AN Gs && treeB all.length eff AN (pre.foldr Ord.op t))=true∧all.all ndef=true:=by
 simp only [annE,fNss_eq,fNs_eq,fOrd_eq,fN_eq,fPs_eq] at h
 generalize mM all 0 0=M at h
 generalize orL (bif x then effX P M (e0M P all 0 0) all.length all 0 else effM P M (e0M P all 0 0) all 0) (all.length - 1)=eff' at h
 have hE:∀ j,tb (mkM eff' 0) j=memB eff' j:=fun j=>by rw [mkM_ok,tb_zero,Bool.false_or]
 have h0:∀ j,tb 0 j=memB [] j:=fun j=>by rw [tb_zero];rfl
 generalize preM M (mkM eff' 0) all.length []=pre' at h
 generalize treeM M (mkM eff' 0) (all.length+1) _ _=t' at h
 cases hg:(gokM n M (mkM eff' 0) all (dL all 0) eff' (ANM M all.length all.length []) && (covM eff' (mkM eff' 0) (ANM M all.length all.length []) (pre'.foldr Ord.op t') 0 && okMv all.length eff' (mkM eff' 0) (ANM M all.length all.length []) (pre'.foldr Ord.op t') 0) && all.all ndef) with
 | false=>simp only [hg,cond_false,reduceCtorEq] at h
 | true=>
  simp only [hg,cond_true] at h
  rw [Bool.and_eq_true,Bool.and_eq_true] at hg
  obtain ⟨⟨g1,g2⟩,g3⟩:=hg
  rw [covM_eq hE h0,okMv_eq hE _ h0] at g2
  have g4:=gokM_ok hE g1
  split at h <;> simp only [DA.ok.injEq] at h <;> obtain ⟨rfl,rfl,rfl,rfl,_⟩:=h <;> exact ⟨_,by rw [Bool.and_eq_true];exact ⟨g4,g2⟩,g3⟩
section
variable {P:Program} {ok:Nat→Bool} {glob:Nat→Nat→Option AV} {B:Nat} {ctx:List (Nat × LI)} {lk:List Nat} {callF:List Nat→Nat→List AV→St→Option (AV × St)} {n:Nat} {all:List Oper} {eff:List Nat} {AN:List (List Nat)}
theorem SR.nx {σ:Sg} {s:St} {w:World} (h:SR glob B ctx lk σ s w) (x:Nat):SR glob B ctx lk σ ⟨s.h,x⟩ w:=⟨h.srt,h.obj,h.dom,h.rng,h.inj,h.gl,h.lk,h.big⟩
theorem gd_chain {M:Nat→Nat→Prop} {Stt:Nat→Addr→Value→Prop} {w0:World} {K:Env→World→Prop} {i:Nat} {r:Ord} {kn kn':List (Nat × Option Bool)} {σ:Sg} {e:T} {ē:Env} {w:World} {o:Oper} {b:Bool} (hio:all[i]?=some o) (hE:ER n σ e ē) (hg:gdE all o i kn e=some (b,kn'))
  (hx:b=true→cexec P ok eff M Stt w0 o i (ev ē) (fun v w'=>chainT P ok n all eff M Stt w0 K r kn' (updO n ē o.dst v) w') w) (hs:b=false→chainT P ok n all eff M Stt w0 K r kn' (updO n ē o.dst undef) w):chainT P ok n all eff M Stt w0 K (.op i r) kn ē w:=by
 unfold chainT
 rw [hio]
 unfold gdE at hg
 cases hgd:o.guard with
 | none=>
  simp only [hgd,Option.some.injEq,Prod.mk.injEq] at hg ⊢
  obtain ⟨rfl,rfl⟩:=hg
  exact hx rfl
 | some gw=>
  obtain ⟨j,want⟩:=gw
  simp only [hgd] at hg ⊢
  cases hlk:lookK kn j with
  | some ob=>
   cases ob with
   | some c=>
    simp only [hlk] at hg ⊢
    cases hb:sameB c want with
    | true=>
     simp only [hb,cond_true,Option.some.injEq,Prod.mk.injEq] at hg ⊢
     obtain ⟨rfl,rfl⟩:=hg
     exact hx rfl
    | false=>
     simp only [hb,cond_false,Option.some.injEq,Prod.mk.injEq] at hg ⊢
     obtain ⟨rfl,rfl⟩:=hg
     exact hs rfl
   | none=>
    simp only [hlk,Option.some.injEq,Prod.mk.injEq] at hg ⊢
    obtain ⟨rfl,rfl⟩:=hg
    exact hs rfl
  | none=>
   simp only [hlk] at hg ⊢
   cases hd:dstAt all j with
   | none=>simp only [hd,reduceCtorEq] at hg
   | some d=>
    simp only [hd] at hg ⊢
    cases hc2:clash o.dst ((j,none) :: kn) all with
    | true=>simp only [hc2,cond_true,reduceCtorEq] at hg
    | false=>
     simp only [hc2,cond_false] at hg
     split at hg
     ·rename_i c hb
      have hv:=bool_of hE hb
      rw [hv]
      cases c with
      | true=>
       show (bif want then _ else _)
       rw [upd_self hv]
       cases want with
       | true=>
        simp only [sameB,cond_true,Option.some.injEq,Prod.mk.injEq] at hg ⊢
        obtain ⟨rfl,rfl⟩:=hg
        exact hx rfl
       | false=>
        simp only [sameB,cond_false,Option.some.injEq,Prod.mk.injEq] at hg ⊢
        obtain ⟨rfl,rfl⟩:=hg
        exact hs rfl
      | false=>
       show (bif want then _ else _)
       rw [upd_self hv]
       cases want with
       | true=>
        simp only [sameB,cond_true,cond_false,Option.some.injEq,Prod.mk.injEq] at hg ⊢
        obtain ⟨rfl,rfl⟩:=hg
        exact hs rfl
       | false=>
        simp only [sameB,cond_true,cond_false,Option.some.injEq,Prod.mk.injEq] at hg ⊢
        obtain ⟨rfl,rfl⟩:=hg
        exact hx rfl
     ·cases hg
theorem nd_pure {o:Oper} {h:HP} {A:Operand→AV} {ρ:Operand→Value} {σ:Sg} {w:World} {Stt:Addr→Value→Prop} {i:Nat} {k:Value→Prop} {a:AV} {L:List Nat} (e:ndE P glob h o A=some (a,L)) (hl:isLd o=false) (hi:memB eff i=false) (hA:∀ x,rel σ (A x) (ρ x)) (hρ:∀ v,ρ (.const v)=v) (hk:∀ v,rel σ a v→k v) :
  wexec P ok eff (fun _ _ _=>True) Stt w o i ρ k:=by
 obtain ⟨dst,op,type,pos,after,guard⟩:=o
 unfold wexec
 rw [hi]
 simp only [cond_false]
 have pu:(bif pureOp P ⟨dst,op,type,pos,after,guard⟩ then (pureE P ⟨dst,op,type,pos,after,guard⟩ A).bind fun a=>some (a,[]) else none)=some (a,L)→bif pureOp P ⟨dst,op,type,pos,after,guard⟩ then opD P ok ⟨dst,op,type,pos,after,guard⟩ ρ (fun v _=>k v) w else False:=fun e=>by
  cases hp:pureOp P ⟨dst,op,type,pos,after,guard⟩ with
  | false=>simp only [hp,cond_false,reduceCtorEq] at e
  | true=>
   simp only [hp,cond_true,Option.bind_eq_some_iff,Option.some.injEq,Prod.mk.injEq] at e ⊢
   obtain ⟨a',e1,rfl,_⟩:=e
   exact pureE_ok e1 hA hρ hk
 cases op with
 | load t x=>cases hl
 | binOp op t x y yt=>
  simp only [ndE,Option.bind_eq_some_iff,Option.some.injEq,Prod.mk.injEq] at e ⊢
  obtain ⟨a',e1,rfl,_⟩:=e
  rcases bin_all e1 (hA x) (hA y) (fun c e=>by rw [e];exact hρ c) with ⟨h1,h2⟩ | ⟨h1,⟨r,h2,h3⟩,_⟩
  ·rw [h1];exact h2 _ _ hk
  ·rw [h1];exact ⟨r,h3,hk r h2⟩
 | _=>exact pu e
theorem nd_load {o:Oper} {A:Operand→AV} {ρ:Operand→Value} {σ:Sg} {s:St} {w:World} {M:Nat→Nat→Prop} {i:Nat} {k:Value→Prop} {a:AV} {L:List Nat} {lks:Nat→List Nat} (hS:SR glob B ctx lk σ s w) (e:ndE P glob s.h o A=some (a,L)) (hl:isLd o=true) (hi:memB eff i=false) (hA:∀ x,rel σ (A x) (ρ x)) (hM:∀ j b,M j b→lkM B (lks j) σ b) (hL:∀ x ∈ L,∀ j ∈ effI eff AN i,x ∈ lks j) (hk:∀ v,rel σ a v→k v) :
  wexec P ok eff (fun _ _ _=>True) (StI eff AN M w i) w o i ρ k:=by
 obtain ⟨dst,op,type,pos,after,guard⟩:=o
 cases op with
 | load t x=>
  simp only [ndE,Option.bind_eq_some_iff,Option.some.injEq,Prod.mk.injEq] at e
  obtain ⟨a',e1,rfl,rfl⟩:=e
  obtain ⟨ad,e2,e3,e4⟩:=load_ok hS e1 (hA x)
  have nm:∀ j ∈ effI eff AN i,¬ M j ad.block:=fun j hj hm=>by
   have hm:=hM j _ hm
   rcases e3 with ⟨y,b,C,y1,y2,y3,_⟩ | e3
   ·subst y3
    exact hm.2 y (hL y (by rw [y1];exact List.mem_singleton.2 rfl) j hj) C y2
   ·have:=hm.1;omega
  unfold wexec
  rw [hi]
  simp only [cond_false]
  rw [e2]
  rcases e4 with ⟨q,r,f1,f2,f3⟩ | ⟨q,vs,f1,f2,f3,f4⟩
  ·rw [f1];exact ⟨ad,r,rfl,⟨f2,nm⟩,hk r f3⟩
  ·rw [f1];exact ⟨ad,vs,rfl,f2,fun j u hu=>⟨f3 j u hu,fun j' hj'=>by rw [add_block];exact nm j' hj'⟩,hk _ f4⟩
 | _=>cases hl
theorem nd_nil {o:Oper} {h:HP} {A:Operand→AV} {a:AV} {L:List Nat} (h1:ndE P glob h o A=some (a,L)) (hl:isLd o=false):L=[]:=by
 obtain ⟨dst,op,type,pos,after,guard⟩:=o
 have pu:(bif pureOp P ⟨dst,op,type,pos,after,guard⟩ then (pureE P ⟨dst,op,type,pos,after,guard⟩ A).bind fun a=>some (a,[]) else none)=some (a,L)→L=[]:=fun e=>by
  cases hp:pureOp P ⟨dst,op,type,pos,after,guard⟩ with
  | false=>simp only [hp,cond_false,reduceCtorEq] at e
  | true=>
   simp only [hp,cond_true,Option.bind_eq_some_iff,Option.some.injEq,Prod.mk.injEq] at e
   obtain ⟨_,_,_,h⟩:=e
   exact h.symm
 cases op with
 | load t x=>cases hl
 | binOp op t x y yt=>
  simp only [ndE,Option.bind_eq_some_iff,Option.some.injEq,Prod.mk.injEq] at h1
  obtain ⟨_,_,_,h⟩:=h1
  exact h.symm
 | _=>exact pu h1
theorem pre_sub {h:HP} {kn':List (Nat × Option Bool)} {e':T} {L':List (Nat × Nat)}:∀ (l:List Nat) (kn:List (Nat × Option Bool)) (e:T) (L:List (Nat × Nat)),preE P glob h all eff l kn e L=some (kn',e',L')→∀ x ∈ L,x ∈ L':=by
 intro l
 induction l with
 | nil=>
  intro kn e L h x hx
  simp only [preE,Option.some.injEq,Prod.mk.injEq] at h
  rw [←h.2.2];exact hx
 | cons i r ih=>
  intro kn e L h x hx
  simp only [preE,lsetF_eq] at h
  cases hi:memB eff i with
  | true=>simp only [hi,cond_true,reduceCtorEq] at h
  | false=>
   simp only [hi,cond_false] at h
   split at h
   ·cases h
   ·simp only [Option.bind_eq_some_iff] at h
    obtain ⟨⟨g1,g2⟩,_,h⟩:=h
    cases g1 with
    | true=>
     simp only [cond_true,Option.bind_eq_some_iff] at h
     obtain ⟨⟨a,La⟩,_,h2⟩:=h
     exact ih _ _ _ h2 x (List.mem_append_right _ hx)
    | false=>exact ih _ _ _ h x hx
theorem pre_ok {σ:Sg} {s:St} {w:World} {M:Nat→Nat→Prop} {K:Env→World→Prop} {t:Ord} {lks:Nat→List Nat} (hS:SR glob B ctx lk σ s w) (hM:∀ j b,M j b→lkM B (lks j) σ b) {kn':List (Nat × Option Bool)} {e':T} {L':List (Nat × Nat)} (hLf:∀ p ∈ L',∀ j ∈ effI eff AN p.1,p.2 ∈ lks j)
  (hK:∀ ē',ER n σ e' ē'→chainT P ok n all eff M (StI eff AN M w) w K t kn' ē' w):∀ (l:List Nat) (kn:List (Nat × Option Bool)) (e:T) (L:List (Nat × Nat)) (ē:Env),
  preE P glob s.h all eff l kn e L=some (kn',e',L')→ER n σ e ē→chainT P ok n all eff M (StI eff AN M w) w K (l.foldr Ord.op t) kn ē w:=by
 intro l
 induction l with
 | nil=>
  intro kn e L ē h hE
  simp only [preE,Option.some.injEq,Prod.mk.injEq] at h
  obtain ⟨rfl,rfl,rfl⟩:=h
  exact hK ē hE
 | cons i r ih=>
  intro kn e L ē h hE
  simp only [preE,lsetF_eq] at h
  cases hi:memB eff i with
  | true=>simp only [hi,cond_true,reduceCtorEq] at h
  | false=>
   simp only [hi,cond_false] at h
   split at h
   ·cases h
   ·rename_i o hio
    simp only [Option.bind_eq_some_iff] at h
    obtain ⟨⟨g1,g2⟩,hg,h⟩:=h
    cases g1 with
    | true=>
     simp only [cond_true,Option.bind_eq_some_iff] at h
     obtain ⟨⟨a,La⟩,h1,h2⟩:=h
     refine gd_chain hio hE hg (fun _=>?_) fun h=>by cases h
     unfold cexec
     rw [hi]
     simp only [cond_false]
     cases hl:isLd o with
     | false=>
      have hLa:=nd_nil h1 hl
      subst hLa
      exact nd_pure h1 hl hi hE.ev (fun _=>rfl) fun v hv=>ih _ _ _ _ h2 (hE.setO o.dst hv)
     | true=>
      exact nd_load hS h1 hl hi hE.ev hM (fun x hx=>hLf (i,x) (pre_sub _ _ _ _ h2 _ (List.mem_append_left _ (List.mem_map.2 ⟨x,hx,rfl⟩)))) fun v hv=>ih _ _ _ _ h2 (hE.setO o.dst hv)
    | false=>
     simp only [cond_false] at h
     exact gd_chain hio hE hg (fun h=>by cases h) fun _=>ih _ _ _ _ h (hE.setO o.dst undef_rel)
theorem SR.more {σ:Sg} {s:St} {w:World} (h:SR glob B ctx lk σ s w) {L:List Nat} (hL:L.all (liveE s.h)=true):SR glob B ctx (L++lk) σ s w:=
 ⟨h.srt,h.obj,h.dom,h.rng,h.inj,h.gl,fun x hx=>by
  rcases List.mem_append.1 hx with hx | hx
  ·have:=List.all_eq_true.1 hL x hx
   unfold liveE at this
   split at this
   ·cases this
   ·rename_i o hne hg;exact ⟨o,hg,fun e=>hne e⟩
   ·cases this
  ·exact h.lk x hx,h.big⟩
theorem ch_ok {callF:List Nat→Nat→List AV→St→Option (AV × St)} {ex:Nat→Oper→T→St→Option (AV × St)} {bs:Nat→Nat→Nat} {M:Nat→Nat→Prop} {Stt:Nat→Addr→Value→Prop} {w0:World} {K:Env→World→Prop} {σ0:Sg} {L:List (Nat × Nat)} (hC:∀ lk,CallOk P ok glob B ctx lk (callF lk)) (hex:ex=fun j o e s=>bif (lksE AN [] L j).all (liveE s.h) then effE P ok glob (lksE AN lk L j) (callF (lksE AN lk L j)) (fun _ _ _=>none) o (evA e) s else none) (hM:∀ i b,lkM B (lksE AN lk L i) σ0 b→M i b) :
  ∀ (t:Ord) {e':T} {s':St} (kn:List (Nat × Option Bool)) (e:T) (s:St) (σ:Sg) (ē:Env) (w:World),chE P ex bs all eff t kn e s=some (e',s')→SR glob B ctx lk σ s w→Le σ0 σ→ER n σ e ē→
   (∀ σ' w' ē',Ext B lk σ w σ' w'→SR glob B ctx lk σ' s' w'→ER n σ' e' ē'→K ē' w')→chainT P ok n all eff M Stt w0 K t kn ē w:=by
 intro t
 induction t with
 | nil=>
  intro e' s' kn e s σ ē w h hS hle hE hK
  simp only [chE,Option.some.injEq,Prod.mk.injEq] at h
  obtain ⟨rfl,rfl⟩:=h
  exact hK σ w ē Ext.refl hS hE
 | br a b iha ihb=>
  intro e' s' kn e s σ ē w h hS hle hE hK
  simp only [chE,Option.bind_eq_some_iff] at h
  obtain ⟨p,h1,q,h2,h3⟩:=h
  cases hb:(beqT p.1 q.1 && beqH p.2.h q.2.h) with
  | false=>simp only [hb,cond_false,reduceCtorEq] at h3
  | true=>
   simp only [hb,cond_true,Option.some.injEq] at h3
   subst h3
   simp only [Bool.and_eq_true] at hb
   have e1:=beqT_eq hb.1
   have e2:=beqH_eq hb.2
   refine ⟨iha kn e s σ ē w h1 hS hle hE hK,?_⟩
   obtain ⟨q1,q2,q3⟩:=q
   simp only at e1 e2
   subst e1
   subst e2
   refine ihb kn e s σ ē w h2 hS hle hE fun σ' w' ē' x1 x2 x3=>hK σ' w' ē' x1 (x2.nx _) x3
 | op i r ih=>
  intro e' s' kn e s σ ē w h hS hle hE hK
  simp only [chE,lsetF_eq,fN_eq] at h
  split at h
  ·cases h
  ·rename_i o hio
   simp only [Option.bind_eq_some_iff] at h
   obtain ⟨⟨g1,g2⟩,hg,h⟩:=h
   cases g1 with
   | true=>
    simp only [cond_true] at h
    refine gd_chain hio hE hg (fun _=>?_) fun h=>by cases h
    unfold cexec
    cases hi:memB eff i with
    | true=>
     simp only [hi,cond_true,Option.bind_eq_some_iff] at h ⊢
     obtain ⟨⟨a,s1⟩,h1,h2⟩:=h
     rw [hex] at h1
     simp only at h1
     cases hlv:(lksE AN [] L i).all (liveE s.h) with
     | false=>simp only [hlv,cond_false,reduceCtorEq] at h1
     | true=>
      simp only [hlv,cond_true] at h1
      have hS1:SR glob B ctx (lksE AN lk L i) σ s w:=by
       have:=hS.more hlv
       simpa [lksE] using this
      have sub:∀ x ∈ lk,x ∈ lksE AN lk L i:=fun x hx=>List.mem_append_right _ hx
      have hY:YieldOk P glob B ctx (lksE AN lk L i) fun _ _ _=>none:=fun l args s a s' σ w vs b C K h=>by cases h
      rcases effE_ok (K:=fun v w'=>Mod (M i) w w'∧chainT P ok n all eff M Stt w0 K r g2 (updO n ē o.dst v) w') (hC _) hY (hS1.nx (bs i s.nx)) h1 hE.ev (fun _=>rfl) (fun _=>rfl) (fun σ' w' v x1 x2 x3=>⟨x1.mod.mono fun b _ hb=>hM i b ⟨hb.1,fun x hx C hC=>hb.2 x hx C (hle _ _ hC)⟩,ih g2 _ s1 σ' _ w' h2 (x2.fewer sub) (hle.trans x1.le) ((hE.le x1.le).setO o.dst x3) fun σ'' w'' ē'' y1 y2 y3=>hK σ'' w'' ē'' ((x1.fewer sub).trans y1) y2 y3⟩) with h | ⟨_,_,_,_,_,_,_,_,_,_,z,_⟩
      ·exact h
      ·cases z
    | false=>
     simp only [hi,cond_false] at h ⊢
     cases hl:isLd o with
     | true=>simp only [hl,cond_true,reduceCtorEq] at h
     | false=>
      simp only [hl,cond_false,Option.bind_eq_some_iff] at h
      obtain ⟨⟨a,La⟩,h1,h2⟩:=h
      exact nd_pure h1 hl hi hE.ev (fun _=>rfl) fun v hv=>ih g2 _ s σ _ w h2 hS hle (hE.setO o.dst hv) hK
   | false=>
    simp only [cond_false] at h
    exact gd_chain hio hE hg (fun h=>by cases h) fun _=>ih g2 _ s σ _ w h hS hle (hE.setO o.dst undef_rel) hK
noncomputable def regE (P:Program) (ok:Nat→Bool) (glob:Nat→Nat→Option AV) (callF:List Nat→Nat→Nat→List AV→St→Option (AV × St)) (yieldF:Nat→List AV→St→Option (AV × St)) (W n:Nat) (lk:List Nat) (ops:List Oper) (draw:Bool) (e:T) (s:St):Option (T × St):=
 bif draw then drawE P glob (fun lk' o e s=>effE P ok glob lk' (callF lk' (W / 1048576)) (fun _ _ _=>none) o (evA e) s) W lk n ops e s
 else opsE (fun o e s=>effE P ok glob lk (callF lk W) yieldF o (evA e) s) ops ops 0 [] e s
theorem reg_ok {callF:List Nat→Nat→Nat→List AV→St→Option (AV × St)} {yieldF:Nat→List AV→St→Option (AV × St)} {W:Nat} (hok:GoodFns P ok) (hm:P.follows .mixedOrders=true) (hC:∀ lk W,CallOk P ok glob B ctx lk (callF lk W)) (hY:YieldOk P glob B ctx lk yieldF) {id:Nat} {ops:Array Oper} {draw:Bool} {e e':T} {s s':St} {σ:Sg} {ē:Env} {w:World} {ds:List Deferred} {ro:Option Nat} {a:Act} {Q:Exit→Act→World→Prop}
  (h:regE P ok glob callF yieldF W n lk ops.toList draw e s=some (e',s')) (hS:SR glob B ctx lk σ s w) (hE:ER n σ e ē) (hF:Fr ds n ē a)
  (hQ:∀ σ' w' ē' a',Ext B lk σ w σ' w'→SR glob B ctx lk σ' s' w'→ER n σ' e' ē'→Fr ds n ē' a'→Q .normal a' w'):(Code.region id ops draw).wpIn (Wd ro) 0 P Q a w:=by
 let Q':EQ:=fun ex e2 w2=>ex=.normal∧∃ σ',Ext B lk σ w σ' w2∧SR glob B ctx lk σ' s' w2∧ER n σ' e' e2
 have fin:∀ (an:Ann),(ro=none∨rdB (.region id ops draw)=true)→D P ok n (.region id ops draw) an Q' ē w→(Code.region id ops draw).wpIn (Wd ro) 0 P Q a w:=fun an hr hD=>by
  refine wpIn_mono (D_sound (m:=0) hok hm (.region id ops draw) an Q' ē w a hr hF hD) ?_
  rintro ex a' w' ⟨e2,f1,_,rfl,σ',f2,f3,f4⟩
  exact hQ σ' w' e2 a' f2 f3 f4 f1
 cases draw with
 | false=>
  simp only [regE,cond_false] at h
  refine fin .nil (.inr rfl) ?_
  simp only [D]
  exact opsE_ok (hC lk W) hY ops.toList 0 [] e s σ ē w h hS hE fun σ' w' ē' x1 x2 x3=>⟨rfl,σ',x1,x2,x3⟩
 | true=>
  simp only [regE,cond_true] at h
  obtain ⟨x,h⟩:=drawE_1 h
  unfold drawE1 at h
  split at h
  ·cases h
  ·rename_i pre eff AN t br han
   obtain ⟨Gs,hg,hnd⟩:=annE_ok han
   simp only [Option.bind_eq_some_iff] at h
   obtain ⟨⟨kn1,e1,L⟩,hp,h⟩:=h
   refine fin (.dt eff AN Gs (pre.foldr Ord.op t)) (.inr ?_) ?_
   ·simp only [rdB,Bool.not_true,Bool.false_or]
    exact hnd
   ·simp only [D]
    rw [hg]
    simp only [cond_true]
    have gd:Grow w w.drew:=Mod.drew _ _
    have hSd:=hS.grow gd
    refine ⟨fun j=>lkM B (lksE AN lk L j) σ,?_⟩
    refine pre_ok (lks:=lksE AN lk L) hSd (fun j b hb=>hb) (fun p hp j hj=>?_) (fun ē1 hE1=>?_) pre [] e [] ē hp hE
    ·have hj2:=(List.mem_filter.1 hj).2
     exact List.mem_append_left _ (List.mem_map.2 ⟨p,List.mem_filter.2 ⟨hp,hj2⟩,rfl⟩)
    have post:∀ {s1:St} {bs:Nat→Nat→Nat} {e2:T},chE P (fun j o e s=>bif (lksE AN [] L j).all (liveE s.h) then effE P ok glob (lksE AN lk L j) (callF (lksE AN lk L j) (W / 1048576)) (fun _ _ _=>none) o (evA e) s else none) bs ops.toList eff t kn1 e1 s=some (e2,s1)→e2=e'→s1.h=s'.h→chainT P ok n ops.toList eff (fun j=>lkM B (lksE AN lk L j) σ) (StI eff AN (fun j=>lkM B (lksE AN lk L j) σ) w.drew) w.drew (fun e' w'=>Q' .normal e' w') t kn1 ē1 w.drew:=fun {s1 bs e2} hc he hh=>by
     subst he
     refine ch_ok (callF:=fun lk=>callF lk (W / 1048576)) (σ0:=σ) (fun lk=>hC lk _) rfl (fun _ _ h=>h) t kn1 e1 s σ ē1 w.drew hc hSd (Le.refl _) hE1 fun σ' w' ē' x1 x2 x3=>?_
     refine ⟨rfl,σ',(Ext.grow gd).trans x1,?_,x3⟩
     have:=x2.nx s'.nx
     rw [hh] at this
     exact this
    cases br with
    | true=>
     simp only [cond_true,fN_eq,Option.bind_eq_some_iff,Option.some.injEq,Prod.mk.injEq] at h
     obtain ⟨⟨e2,s2⟩,hc,rfl,rfl⟩:=h
     exact post hc rfl rfl
    | false=>
     simp only [cond_false] at h
     exact post h rfl rfl
end
end Go.K

namespace Go.K
open Go

noncomputable section
def gK {R:Type}:Operand→Cl (T→(AV→Option R)→Option R)
 | .tmp t=>bif Nat.blt t 4000 then gP (pth t) else .mk fun _ k=>k (.tup [])
 | .const v=>fA (ofV v) fun a=>.mk fun _ k=>k a
 | .global g=>.mk fun _ k=>k (.gp g 0)
 | .func f=>.mk fun _ k=>k (.f f [] [])
theorem gK_eq {R:Type} (x:Operand) (e:T) (k:AV→Option R):(gK x).f e k=k (evA e x):=by
 cases x with
 | tmp t=>
  simp only [gK,evA,tget]
  cases Nat.blt t 4000 with
  | true=>exact gP_eq (pth t) e k
  | false=>rfl
 | const v=>simp only [gK,fA_eq];rfl
 | global g=>rfl
 | func f=>rfl
def gKs {R:Type}:List Operand→Cl (T→(List AV→Option R)→Option R)
 | []=>.mk fun _ k=>k []
 | x :: l=>match gK x,gKs l with
  | .mk f,.mk g=>.mk fun e k=>f e fun a=>g e fun l=>k (a :: l)
theorem gKs_eq {R:Type}:∀ (l:List Operand) (e:T) (k:List AV→Option R),(gKs l).f e k=k (l.map (evA e))
 | [],_,_=>rfl
 | x :: l,e,k=>by
  have h1:=gK_eq (R:=R) x e
  have h2:=gKs_eq (R:=R) l e
  simp only [gKs]
  generalize gK x=a at h1
  generalize gKs l=b at h2
  obtain ⟨f⟩:=a
  obtain ⟨g⟩:=b
  simp only [Cl.f] at h1 h2 ⊢
  rw [h1,h2]
  rfl
def nC {R:Type}:Nat→Cl (List AV→(AV→Option R)→Option R)
 | 0=>.mk fun l k=>List.rec (motive:=fun _=>Option R) none (fun a _ _=>k a) l
 | n+1=>match nC n with
  | .mk f=>.mk fun l k=>List.rec (motive:=fun _=>Option R) none (fun _ r _=>f r k) l
theorem nC_eq {R:Type}:∀ (n:Nat) (l:List AV) (k:AV→Option R),(nC n).f l k=(l[n]?).bind k
 | 0,[],_=>rfl
 | 0,_ :: _,_=>rfl
 | n+1,l,k=>by
  have h:=nC_eq (R:=R) n
  simp only [nC]
  generalize nC n=a at h
  obtain ⟨f⟩:=a
  cases l with
  | nil=>rfl
  | cons a l=>rw [List.getElem?_cons_succ];exact h l k
def nthK {R:Type} (l:List AV) (n:Nat) (k:AV→Option R):Option R:=match nC (R:=R) n with | .mk f=>f l k
theorem nthK_eq {R:Type} (l:List AV) (n:Nat) (k:AV→Option R):nthK l n k=(l[n]?).bind k:=by
 have h:=nC_eq n l k
 unfold nthK
 generalize nC (R:=R) n=a at h
 obtain ⟨f⟩:=a
 exact h
noncomputable def hgK {R:Type} (h:HP) (x:Nat) (k:AO→Option R):Option R:=HP.rec (motive:=fun _=>Option R) none (fun _ a o _ il ir=>Bool.rec (motive:=fun _=>Option R) il (Bool.rec (motive:=fun _=>Option R) ir (k o) (Nat.beq a x)) (Nat.ble a x)) h
theorem hgK_eq {R:Type} (x:Nat) (k:AO→Option R):∀ h:HP,hgK h x k=(hget h x).bind k
 | .nil=>rfl
 | .node l a o r=>by
  have h1:=hgK_eq (R:=R) x k l
  have h2:=hgK_eq (R:=R) x k r
  show Bool.rec (motive:=fun _=>Option R) (hgK l x k) (Bool.rec (motive:=fun _=>Option R) (hgK r x k) (k o) (Nat.beq a x)) (Nat.ble a x)=_
  rw [h1,h2,hget_node,ble_d,beq_d]
  by_cases h:a≤x
  ·rw [decide_eq_true h,if_neg (by omega)]
   by_cases e:a=x
   ·rw [decide_eq_true e,if_pos e.symm];rfl
   ·rw [decide_eq_false e,if_neg (fun h=>e h.symm)]
  ·rw [decide_eq_false h,if_pos (by omega)]
noncomputable def cellK {R:Type} (h:HP) (x:Nat) (k:List AV→Nat→Option R):Option R:=hgK h x fun o=>match o with | .cells l n=>k l n | _=>none
theorem cellK_eq {R:Type} (h:HP) (x:Nat) (k:List AV→Nat→Option R):cellK h x k=(cellsOf h x).bind fun c=>k c.1 c.2:=by
 unfold cellK cellsOf
 rw [hgK_eq]
 cases hget h x with
 | none=>rfl
 | some o=>cases o <;> rfl
noncomputable def fOff (P:Program) (s:TypeId) (f:Nat):Option Nat:=
 match unE P s with
 | some (.struct fs)=>match fs.toList[f]? with
  | some f=>match inE P f.type with
   | some i=>bif Nat.beq i.size 0 then none else some f.offset
   | none=>none
  | none=>none
 | _=>none
def ltB (a b:Int):Bool:=match a,b with
 | .ofNat m,.ofNat n=>Nat.blt m n
 | .ofNat _,.negSucc _=>false
 | .negSucc _,.ofNat _=>true
 | .negSucc m,.negSucc n=>Nat.blt n m
theorem ltB_eq (a b:Int):ltB a b=decide (a < b):=by
 have dec:∀ (m n:Nat) (p:Prop) [Decidable p],(m < n↔p)→Nat.blt m n=decide p:=fun m n p _ h=>by
  by_cases k:m < n
  ·rw [blt_true k,decide_eq_true (h.1 k)]
  ·rw [blt_false k,decide_eq_false (fun e=>k (h.2 e))]
 cases a <;> cases b <;> simp only [ltB]
 ·exact dec _ _ _ (by simp)
 ·symm;rw [decide_eq_false_iff_not,Int.negSucc_eq,Int.ofNat_eq_natCast];omega
 ·symm;rw [decide_eq_true_eq,Int.negSucc_eq,Int.ofNat_eq_natCast];omega
 ·exact dec _ _ _ (by omega)
def eqB (a b:Int):Bool:=beqZ a b
theorem eqB_eq (a b:Int):eqB a b=decide (a=b):=by
 by_cases h:a=b
 ·subst h
  rw [decide_eq_true rfl]
  cases a <;> simp [eqB,beqZ]
 ·rw [decide_eq_false h]
  cases hb:eqB a b with
  | false=>rfl
  | true=>exact (h (beqZ_eq hb)).elim
def bK {R:Type} (b:Bool) (k:AV→Option R):Option R:=match b with | true=>k (.b true) | false=>k (.b false)
theorem bK_eq {R:Type} (b:Bool) (k:AV→Option R):bK b k=k (.b b):=by cases b <;> rfl
def iK {R:Type} (q:IntKind):BinOp→Option (Int→Int→(AV→Option R)→Option R)
 | .add=>some fun a b k=>fZ (q.wrap (a+b)) fun z=>k (.i q z)
 | .sub=>some fun a b k=>fZ (q.wrap (a - b)) fun z=>k (.i q z)
 | .mul=>some fun a b k=>fZ (q.wrap (a * b)) fun z=>k (.i q z)
 | .lss=>some fun a b k=>bK (ltB a b) k
 | .leq=>some fun a b k=>bK (!ltB b a) k
 | .gtr=>some fun a b k=>bK (ltB b a) k
 | .geq=>some fun a b k=>bK (!ltB a b) k
 | .eql=>some fun a b k=>bK (eqB a b) k
 | .neq=>some fun a b k=>bK (!eqB a b) k
 | _=>none
theorem iK_eq {R:Type} {q:IntKind} {op:BinOp} {f:Int→Int→(AV→Option R)→Option R} (h:iK q op=some f) (a b:Int) (k:AV→Option R):f a b k=(intE q op a b).bind k:=by
 have ile:∀ a b:Int,(!ltB b a)=decide (a≤b):=fun a b=>by
  rw [ltB_eq]
  by_cases h:a≤b
  ·rw [decide_eq_true h,decide_eq_false (by omega)];rfl
  ·rw [decide_eq_false h,decide_eq_true (by omega)];rfl
 cases op <;> simp only [iK,Option.some.injEq,reduceCtorEq] at h <;> subst h <;> simp only [intE,Option.bind_some,fZ_eq,bK_eq,ile] <;> try simp only [ltB_eq,eqB_eq]
abbrev CF:=Nat→List AV→St→Option (AV × St)
noncomputable def opS {R:Type} (P:Program) (ok:Nat→Bool) (glob:Nat→Nat→Option AV) (o:Oper):Cl (List Nat→CF→CF→T→St→(AV→St→Option R)→Option R):=
 match o.op with
 | .move x=>match gK x with | .mk f=>.mk fun _ _ _ e s k=>f e fun a=>k a s
 | .assign x=>match gK x with | .mk f=>.mk fun _ _ _ e s k=>f e fun a=>k a s
 | .pick c x y=>match gK c,gK x,gK y with
  | .mk f,.mk g,.mk h=>.mk fun _ _ _ e s k=>f e fun a=>match a with | .b true=>g e fun a=>k a s | .b false=>h e fun a=>k a s | _=>none
 | .nilCheck x=>match gK x with | .mk f=>.mk fun _ _ _ e s k=>f e fun a=>match a with | .p y o=>k (.p y o) s | .gp y o=>k (.gp y o) s | _=>none
 | .extract t i=>match gK t,nC (R:=R) i with | .mk f,.mk g=>.mk fun _ _ _ e s k=>f e fun a=>match a with | .tup l=>g l fun a=>k a s | _=>none
 | .fieldAddr t x f=>match fOff P t f,gK x with
  | some d,.mk f=>fN d fun d=>.mk fun _ _ _ e s k=>f e fun a=>match a with
   | .p y o=>fN (o+d) fun o=>k (.p y o) s
   | .gp y o=>fN (o+d) fun o=>k (.gp y o) s
   | _=>none
  | none,_=>.mk fun _ _ _ _ _ _=>none
 | .load t x=>match agE P t,gK x with
  | some (false,_),.mk f=>.mk fun _ _ _ e s k=>f e fun a=>match a with
   | .p y o=>cellK s.h y fun l _=>nthK l o fun a=>k a s
   | .gp g o=>(glob g o).bind fun a=>fA a fun a=>k a s
   | _=>none
  | some (true,n),.mk f=>.mk fun _ _ _ e s k=>f e fun a=>match a with
   | .p y o=>cellK s.h y fun l _=>bif Nat.ble (o+n) l.length then fS ((l.drop o).take n) fun l=>k (.agg l) s else none
   | _=>none
  | none,_=>.mk fun _ _ _ _ _ _=>none
 | .store t x v=>match gK x,gK v with | .mk f,.mk g=>.mk fun lk _ _ e s k=>f e fun a=>g e fun b=>(storeE P lk s t a b).bind fun s=>k (.tup []) s
 | .binOp op t x y _=>match gK x,gK y with
  | .mk f,.mk g=>match unE P t with
   | some (.int q)=>match iK (R:=R) q op with
    | some h=>.mk fun _ _ _ e s k=>f e fun a=>g e fun b=>match a,b with
     | .i q1 m,.i q2 n=>bif beqI q1 q && beqI q2 q then h m n fun r=>k r s else none
     | _,_=>none
    | none=>.mk fun _ _ _ e s k=>f e fun a=>g e fun b=>(binE P op t x y a b).bind fun r=>fA r fun r=>k r s
   | _=>.mk fun _ _ _ e s k=>f e fun a=>g e fun b=>(binE P op t x y a b).bind fun r=>fA r fun r=>k r s
 | .call c=>match c.callee with
  | .value (.func g)=>bif ok g then (match gKs c.args.toList with | .mk f=>.mk fun _ cf _ e s k=>f e fun l=>(cf g l s).bind fun q=>match q with | (a,s)=>k a s) else .mk fun _ _ _ _ _ _=>none
  | _=>.mk fun lk cf yf e s k=>(effE P ok glob lk cf yf o (evA e) s).bind fun q=>fA q.1 fun a=>k a q.2
 | _=>.mk fun lk cf yf e s k=>(effE P ok glob lk cf yf o (evA e) s).bind fun q=>fA q.1 fun a=>k a q.2
theorem gK_mk {R:Type} {x:Operand} {f:T→(AV→Option R)→Option R} (h:gK x=.mk f) (e:T) (k:AV→Option R):f e k=k (evA e x):=by
 have:=gK_eq x e k
 rw [h] at this
 exact this
theorem opS_eq {R:Type} (P:Program) (ok:Nat→Bool) (glob:Nat→Nat→Option AV) (o:Oper) (lk:List Nat) (cf yf:CF) (e:T) (s:St) (k:AV→St→Option R):(opS P ok glob o).f lk cf yf e s k=(effE P ok glob lk cf yf o (evA e) s).bind fun q=>k q.1 q.2:=by
 have slow:(effE P ok glob lk cf yf o (evA e) s).bind (fun q=>fA q.1 fun a=>k a q.2)=(effE P ok glob lk cf yf o (evA e) s).bind fun q=>k q.1 q.2:=by simp only [fA_eq]
 have pu:effE P ok glob lk cf yf o (evA e) s=(pureE P o (evA e)).bind (fun a=>some (a,s))→(pureE P o (evA e)).bind (fun a=>k a s)=(effE P ok glob lk cf yf o (evA e) s).bind fun q=>k q.1 q.2:=fun h=>by
  rw [h]
  cases pureE P o (evA e) <;> rfl
 obtain ⟨dst,op,type,pos,after,guard⟩:=o
 cases op with
 | move x=>
  simp only [opS]
  rcases h:gK (R:=R) x with ⟨f⟩
  simp only [Cl.f,gK_mk h]
  exact pu rfl
 | assign x=>
  simp only [opS]
  rcases h:gK (R:=R) x with ⟨f⟩
  simp only [Cl.f,gK_mk h]
  exact pu rfl
 | pick c x y=>
  simp only [opS]
  rcases h1:gK (R:=R) c with ⟨f1⟩
  rcases h2:gK (R:=R) x with ⟨f2⟩
  rcases h3:gK (R:=R) y with ⟨f3⟩
  simp only [Cl.f,gK_mk h1,gK_mk h2,gK_mk h3]
  refine Eq.trans ?_ (pu rfl)
  simp only [pureE]
  cases evA e c <;> first | rfl | skip
  rename_i b;cases b <;> rfl
 | nilCheck x=>
  simp only [opS]
  rcases h:gK (R:=R) x with ⟨f⟩
  simp only [Cl.f,gK_mk h]
  refine Eq.trans ?_ (pu rfl)
  simp only [pureE]
  cases evA e x <;> rfl
 | extract t i=>
  simp only [opS]
  rcases h:gK (R:=R) t with ⟨f⟩
  have hn:=nC_eq (R:=R) i
  generalize nC (R:=R) i=c at hn
  obtain ⟨g⟩:=c
  simp only [Cl.f,gK_mk h] at hn ⊢
  refine Eq.trans ?_ (pu rfl)
  simp only [pureE]
  cases evA e t <;> first | rfl | exact hn _ _
 | fieldAddr t x f=>
  simp only [opS]
  refine Eq.trans ?_ (pu rfl)
  simp only [pureE]
  rcases h:gK (R:=R) x with ⟨g⟩
  unfold fOff
  cases unE P t with
  | none=>rfl
  | some d=>cases d with
   | struct fs=>
    simp only
    cases fs.toList[f]? with
    | none=>rfl
    | some fd=>
     simp only
     cases inE P fd.type with
     | none=>rfl
     | some i=>
      simp only
      cases Nat.beq i.size 0 with
      | true=>rfl
      | false=>
       simp only [cond_false,fN_eq,Cl.f,gK_mk h]
       cases evA e x <;> rfl
   | _=>rfl
 | load t x=>
  simp only [opS,effE,loadE]
  rcases h:gK (R:=R) x with ⟨g⟩
  cases agE P t with
  | none=>rfl
  | some bn=>
   obtain ⟨b,n⟩:=bn
   cases b with
   | false=>
    simp only [Cl.f,gK_mk h]
    cases evA e x with
    | p y o=>
     simp only [cellK_eq,nthK_eq]
     cases cellsOf s.h y with
     | none=>rfl
     | some c=>
      simp only [Option.bind_some]
      cases c.1[o]? <;> rfl
    | gp g o=>
     simp only [fA_eq]
     cases glob g o <;> rfl
    | _=>rfl
   | true=>
    simp only [Cl.f,gK_mk h]
    cases evA e x with
    | p y o=>
     simp only [cellK_eq,fL_eq,fS_eq]
     cases cellsOf s.h y with
     | none=>rfl
     | some c=>
      simp only [Option.bind_some]
      cases Nat.ble (o+n) c.1.length <;> rfl
    | _=>rfl
 | store t x v=>
  simp only [opS,effE]
  rcases h1:gK (R:=R) x with ⟨f1⟩
  rcases h2:gK (R:=R) v with ⟨f2⟩
  simp only [Cl.f,gK_mk h1,gK_mk h2]
  cases storeE P lk s t (evA e x) (evA e v) <;> rfl
 | binOp op t x y yt=>
  simp only [opS]
  refine Eq.trans ?_ (pu rfl)
  rcases h1:gK (R:=R) x with ⟨f1⟩
  rcases h2:gK (R:=R) y with ⟨f2⟩
  simp only [pureE]
  have gen:(Cl.f (Cl.mk fun (_:List Nat) (_ _:CF) (e:T) (s:St) (k:AV→St→Option R)=>f1 e fun a=>f2 e fun b=>(binE P op t x y a b).bind fun r=>fA r fun r=>k r s) lk cf yf e s k)=(binE P op t x y (evA e x) (evA e y)).bind fun a=>k a s:=by
   simp only [Cl.f,gK_mk h1,gK_mk h2,fA_eq]
  split
  ·rename_i q hu
   split
   ·rename_i h hh
    simp only [Cl.f,gK_mk h1,gK_mk h2]
    unfold binE
    simp only [hu]
    have hop:(match op with | .add | .sub | .mul | .lss | .leq | .gtr | .geq | .eql | .neq=>(match evA e x,evA e y with | .i k1 a,.i k2 b=>bif beqI k1 q && beqI k2 q then intE q op a b else none | _,_=>none) | _=>dataB P op t x y (evA e x) (evA e y))=(match evA e x,evA e y with | .i k1 a,.i k2 b=>bif beqI k1 q && beqI k2 q then intE q op a b else none | _,_=>none):=by
     cases op <;> first | rfl | (simp [iK] at hh)
    refine Eq.trans ?_ (congrArg (fun z:Option AV=>z.bind fun a=>k a s) hop.symm)
    cases evA e x <;> first | rfl | skip
    cases evA e y <;> first | rfl | skip
    rename_i q1 m q2 n
    simp only
    cases (beqI q1 q && beqI q2 q) with
    | false=>rfl
    | true=>exact iK_eq hh m n _
   ·exact gen
  ·exact gen
 | call c=>
  obtain ⟨callee,args,ats⟩:=c
  cases callee with
  | value f=>
   cases f with
   | func g=>
    simp only [opS,effE]
    cases ok g with
    | false=>rfl
    | true=>
     simp only [cond_true]
     have h:=gKs_eq (R:=R) args.toList e
     generalize gKs (R:=R) args.toList=a at h
     obtain ⟨f⟩:=a
     simp only [Cl.f,fA_eq] at h ⊢
     rw [h]
   | _=>exact slow
  | _=>exact slow
 | _=>exact slow
def opsC {R:Type} (P:Program) (ok:Nat→Bool) (glob:Nat→Nat→Option AV):List Oper→Cl (List Nat→CF→CF→T→St→(T→St→Option R)→Option R)
 | []=>.mk fun _ _ _ e s k=>k e s
 | o :: r=>match opS (R:=R) P ok glob o,opsC P ok glob r with
  | .mk f,.mk g=>match o.dst with
   | none=>.mk fun lk cf yf e s k=>f lk cf yf e s fun _ s=>g lk cf yf e s k
   | some d=>bif Nat.blt d 4000 then (match sP (R:=Option R) (pth d) with
     | .mk h=>.mk fun lk cf yf e s k=>f lk cf yf e s fun a s=>h e a fun e=>g lk cf yf e s k)
    else .mk fun lk cf yf e s k=>f lk cf yf e s fun _ s=>g lk cf yf e s k
theorem opsC_eq {R:Type} (P:Program) (ok:Nat→Bool) (glob:Nat→Nat→Option AV) (all:List Oper) (lk:List Nat) (cf yf:CF):∀ (l:List Oper) (i:Nat) (e:T) (s:St) (k:T→St→Option R),(l.all fun o=>o.guard.isNone)=true→
  (opsC P ok glob l).f lk cf yf e s k=(opsE (fun o e s=>effE P ok glob lk cf yf o (evA e) s) all l i [] e s).bind fun q=>k q.1 q.2
 | [],_,_,_,_,_=>rfl
 | o :: r,i,e,s,k,hg=>by
  simp only [List.all_cons,Bool.and_eq_true] at hg
  have hgd:o.guard=none:=by
   cases h:o.guard with
   | none=>rfl
   | some _=>rw [h] at hg;cases hg.1
  have ih:=fun e s k=>opsC_eq (R:=R) P ok glob all lk cf yf r (i+1) e s k hg.2
  have ho:=opS_eq (R:=R) P ok glob o lk cf yf
  simp only [opsC]
  generalize opsC (R:=R) P ok glob r=b at ih
  generalize opS (R:=R) P ok glob o=a at ho
  obtain ⟨f⟩:=a
  obtain ⟨g⟩:=b
  simp only [Cl.f] at ih ho
  have hc:clash o.dst [] all=false:=by unfold clash;cases o.dst <;> rfl
  simp only [opsE,hc,cond_false,gdE,hgd,Option.bind_some,cond_true,lsetF_eq]
  have step:(effE P ok glob lk cf yf o (evA e) s).bind (fun q=>(opsE (fun o e s=>effE P ok glob lk cf yf o (evA e) s) all r (i+1) [] (lsetO e o.dst q.1) q.2).bind fun q=>k q.1 q.2)=((effE P ok glob lk cf yf o (evA e) s).bind fun q=>opsE (fun o e s=>effE P ok glob lk cf yf o (evA e) s) all r (i+1) [] (lsetO e o.dst q.1) q.2).bind fun q=>k q.1 q.2:=by
   cases effE P ok glob lk cf yf o (evA e) s <;> rfl
  rw [←step]
  cases hd:o.dst with
  | none=>
   simp only [Cl.f]
   rw [ho]
   simp only [ih]
   rfl
  | some d=>
   simp only
   cases hb:Nat.blt d 4000 with
   | false=>
    simp only [cond_false,Cl.f]
    rw [ho]
    simp only [ih,lsetO,tset,hb,cond_false]
   | true=>
    simp only [cond_true]
    have hs:=sP_eq (R:=Option R) (pth d)
    generalize sP (R:=Option R) (pth d)=c at hs
    obtain ⟨h⟩:=c
    simp only [Cl.f] at hs ⊢
    rw [ho]
    simp only [hs,ih,lsetO,tset,hb,cond_true]
def setG {R:Type} (d:Option Nat):Cl (T→AV→(T→Option R)→Option R):=match d with
 | none=>.mk fun e _ k=>k e
 | some d=>bif Nat.blt d 4000 then sP (R:=Option R) (pth d) else .mk fun e _ k=>k e
theorem setG_eq {R:Type} (d:Option Nat) (e:T) (a:AV) (k:T→Option R):(setG d).f e a k=k (lsetO e d a):=by
 cases d with
 | none=>rfl
 | some d=>
  simp only [setG,lsetO,tset]
  cases hb:Nat.blt d 4000 with
  | false=>rfl
  | true=>exact sP_eq (R:=Option R) (pth d) e a k
def opsG {R:Type} (P:Program) (ok:Nat→Bool) (glob:Nat→Nat→Option AV) (all:List Oper):List Oper→Nat→Cl (List Nat→CF→CF→List (Nat × Option Bool)→T→St→(T→St→Option R)→Option R)
 | [],_=>.mk fun _ _ _ _ e s k=>k e s
 | o :: r,i=>match opS (R:=R) P ok glob o,opsG P ok glob all r (i+1),setG (R:=R) o.dst with
  | .mk f,.mk g,.mk h=>.mk fun lk cf yf kn e s k=>bif clash o.dst kn all then none else (gdE all o i kn e).bind fun q=>
    bif q.1 then f lk cf yf e s fun a s=>h e a fun e=>g lk cf yf q.2 e s k else h e (.tup []) fun e=>g lk cf yf q.2 e s k
theorem opsG_eq {R:Type} (P:Program) (ok:Nat→Bool) (glob:Nat→Nat→Option AV) (all:List Oper) (lk:List Nat) (cf yf:CF):∀ (l:List Oper) (i:Nat) (kn:List (Nat × Option Bool)) (e:T) (s:St) (k:T→St→Option R),
  (opsG P ok glob all l i).f lk cf yf kn e s k=(opsE (fun o e s=>effE P ok glob lk cf yf o (evA e) s) all l i kn e s).bind fun q=>k q.1 q.2
 | [],_,_,_,_,_=>rfl
 | o :: r,i,kn,e,s,k=>by
  have ih:=fun kn e s k=>opsG_eq (R:=R) P ok glob all lk cf yf r (i+1) kn e s k
  have ho:=opS_eq (R:=R) P ok glob o lk cf yf
  have hs:=setG_eq (R:=R) o.dst
  simp only [opsG]
  generalize opsG (R:=R) P ok glob all r (i+1)=b at ih
  generalize opS (R:=R) P ok glob o=a at ho
  generalize setG (R:=R) o.dst=c at hs
  obtain ⟨f⟩:=a
  obtain ⟨g⟩:=b
  obtain ⟨h⟩:=c
  simp only [Cl.f] at ih ho hs ⊢
  simp only [opsE,lsetF_eq]
  cases clash o.dst kn all with
  | true=>rfl
  | false=>
   simp only [cond_false]
   cases gdE all o i kn e with
   | none=>rfl
   | some q=>
    obtain ⟨q1,q2⟩:=q
    cases q1 with
    | true=>
     simp only [Option.bind_some,cond_true]
     rw [ho]
     simp only [hs,ih]
     cases effE P ok glob lk cf yf o (evA e) s <;> rfl
    | false=>
     simp only [Option.bind_some,cond_false]
     rw [hs,ih]
end
end Go.K

namespace Go.K
open Go

inductive Xt where
 | n
 | x (i:Nat)
 | r
def Xt.ex:Xt→Exit
 | .n=>.normal
 | .x i=>.exit i
 | .r=>.ret
abbrev RR:=Xt × T × List Nat × St
abbrev Rc:=Nat→Nat→Option Nat→List (Nat × LI)→List Nat→Code→T→List Nat→St→Option RR
noncomputable section
def resE (P:Program) (glob:Nat→Nat→Option AV) (h:HP) (e:T):List ResultVar→Option (List AV)
 | []=>some []
 | .tmp t :: r=>(resE P glob h e r).bind fun l=>some (tget e t :: l)
 | .cell x t :: r=>(loadE P glob h t (tget e x)).bind fun a=>(resE P glob h e r).bind fun l=>some (a :: l)
def tupA:List AV→AV
 | [a]=>a
 | l=>.tup l
def endM (lk:List Nat):List Nat→St→Option St
 | [],s=>some s
 | d :: ds,s=>match hget s.h d with
  | some .df=>bif memB lk d then none else hsetS s.h d .dead fun h=>endM lk ds ⟨h,s.nx⟩
  | _=>none
def argsK {R:Type}:List AV→Nat→T→(T→R)→R
 | [],_,t,k=>k t
 | a :: l,i,t,k=>fN i fun i=>tsetK t i a fun t=>argsK l (i+1) t k
def argsT:List AV→Nat→T→T
 | [],_,t=>t
 | a :: l,i,t=>argsT l (i+1) (tset t i a)
theorem argsK_eq {R:Type}:∀ (l:List AV) (i:Nat) (t:T) (k:T→R),argsK l i t k=k (argsT l i t)
 | [],_,_,_=>rfl
 | a :: l,i,t,k=>by simp only [argsK,argsT,fN_eq,tsetK_eq,argsK_eq l]
def callC (P:Program) (glob:Nat→Nat→Option AV) (rec:Rc) (ctx:List (Nat × LI)) (lk:List Nat) (W g:Nat) (args:List AV) (s:St):Option (AV × St):=
 match fnE P g with
 | some fn=>match fn.body with
  | some c=>fN fn.ntmps fun n=>bif Nat.ble args.length n && Nat.ble n 4000 then
    (argsK args 0 (mkT n) fun e=>rec W n none ctx lk c e [] s).bind fun q=>match q.1 with
     | .x _=>none
     | _=>(endM lk q.2.2.1 q.2.2.2).bind fun s2=>(resE P glob s2.h q.2.1 fn.results.toList).bind fun r=>fL r fun r=>some (tupA r,s2)
   else none
  | none=>none
 | none=>none
def fillK {R:Type}:T→List Nat→List AV→(T→R)→R
 | e,[],_,k=>k e
 | e,p :: ps,vs,k=>fA (vs.headD (.tup [])) fun a=>tsetK e p a fun e=>fillK e ps vs.tail k
def fillA:T→List Nat→List AV→T
 | e,[],_=>e
 | e,p :: ps,vs=>fillA (tset e p (vs.headD (.tup []))) ps vs.tail
theorem fillK_eq {R:Type}:∀ (ps:List Nat) (e:T) (vs:List AV) (k:T→R),fillK e ps vs k=k (fillA e ps vs)
 | [],_,_,_=>rfl
 | p :: ps,e,vs,k=>by simp only [fillK,fillA,fA_eq,tsetK_eq,fillK_eq ps]
def yieldC (rec:Rc) (ctx:List (Nat × LI)) (lk:List Nat) (W l:Nat) (args:List AV) (s:St):Option (AV × St):=
 match cget ctx l with
 | none=>none
 | some i=>match hget s.h l with
  | some (.loop _ _)=>bif !memB lk l && Nat.beq args.length i.ps.size then
    (fillK i.e i.ps.toList args fun e=>rec W i.n (some l) ctx lk i.asg e [] s).bind fun q=>match q.1 with
     | .n=>match hget q.2.2.2.h l with
      | some (.loop .ready pd)=>(hsetS q.2.2.2.h l (.loop .busy pd) fun h=>rec W i.n (some l) ctx lk i.body q.2.1 q.2.2.1 ⟨h,q.2.2.2.nx⟩).bind fun r=>match hget r.2.2.2.h l with
       | some (.loop _ _)=>match r.1 with
        | .n=>hsetS r.2.2.2.h l (.loop .ready none) fun h=>some (.b true,⟨h,r.2.2.2.nx⟩)
        | .r=>hsetS r.2.2.2.h l (.loop .done (some none)) fun h=>some (.b false,⟨h,r.2.2.2.nx⟩)
        | .x j=>hsetS r.2.2.2.h l (.loop .done (some (some j))) fun h=>some (.b false,⟨h,r.2.2.2.nx⟩)
       | _=>none
      | _=>none
     | _=>none
    else none
  | _=>none
def notBusy:LoopState→Bool
 | .busy=>false
 | _=>true
def xtOf:Option (Option Nat)→Xt
 | none=>.n
 | some none=>.r
 | some (some i)=>.x i
def rangeC (P:Program) (glob:Nat→Nat→Option AV) (rec:Rc) (W n:Nat) (ctx:List (Nat × LI)) (lk:List Nat) (gf:Nat) (cs:List AV) (ps:Array Nat) (x y:Code) (e:T) (d:Nat) (ds:List Nat) (s:St):Option RR:=
 (newE s (.loop .ready none)).bind fun s1=>(callC P glob rec ((s.nx,⟨n,e,ps,x,y,d⟩) :: ctx) lk W gf (.y s.nx :: cs) s1).bind fun q=>match hget q.2.h s.nx with
  | some (.loop st pd)=>bif notBusy st && !memB lk s.nx then (hsetS q.2.h s.nx .dead fun h=>some (xtOf pd,e,ds,⟨h,q.2.nx⟩)) else none
  | _=>none
def loopC (f:T→List Nat→St→Option RR):Nat→T→List Nat→St→Option RR
 | 0,_,_,_=>none
 | m+1,e,ds,s=>(f e ds s).bind fun q=>match q.1 with
  | .n=>loopC f m q.2.1 q.2.2.1 q.2.2.2
  | _=>some q
def rgS (P:Program) (ok:Nat→Bool) (glob:Nat→Nat→Option AV) (rec:Rc) (g:Operand) (ps:Array Nat) (x y:Code) (W n:Nat) (ro:Option Nat) (ctx:List (Nat × LI)) (lk:List Nat) (e:T) (ds:List Nat) (s:St):Option RR:=
 match evA e g with
 | .f gf [] cs=>bif ok gf then match ro with
   | none=>(newE s .df).bind fun s1=>rangeC P glob rec W n ctx lk gf cs ps x y e s.nx (s.nx :: ds) s1
   | some l0=>match cget ctx l0 with
    | some i0=>match hget s.h l0 with
     | some (.loop _ _)=>rangeC P glob rec W n ctx lk gf cs ps x y e i0.df ds s
     | _=>none
    | none=>none
  else none
 | _=>none
def rnd (W:Nat):Nat:=W+100000
def stS (P:Program) (ok:Nat→Bool) (glob:Nat→Nat→Option AV) (rec:Rc):Code→Nat→Nat→Option Nat→List (Nat × LI)→List Nat→T→List Nat→St→Option RR
 | .skip,_,_,_,_,_,e,ds,s=>some (.n,e,ds,s)
 | .region _ ops draw,W,n,_,ctx,lk,e,ds,s=>(regE P ok glob (fun lk W=>callC P glob rec ctx lk W) (yieldC rec ctx lk W) W n lk ops.toList draw e s).bind fun q=>some (.n,q.1,ds,q.2)
 | .seq x y,W,n,ro,ctx,lk,e,ds,s=>(stS P ok glob rec x W n ro ctx lk e ds s).bind fun q=>match q.1 with
  | .n=>stS P ok glob rec y W n ro ctx lk q.2.1 q.2.2.1 q.2.2.2
  | _=>some q
 | .cond c x y,W,n,ro,ctx,lk,e,ds,s=>match evA e c with
  | .b true=>stS P ok glob rec x W n ro ctx lk e ds s
  | .b false=>stS P ok glob rec y W n ro ctx lk e ds s
  | _=>none
 | .block id x,W,n,ro,ctx,lk,e,ds,s=>(stS P ok glob rec x W n ro ctx lk e ds s).bind fun q=>match q.1 with
  | .x i=>bif Nat.beq i id then some (.n,q.2) else some q
  | _=>some q
 | .loop x,W,n,ro,ctx,lk,e,ds,s=>loopC (fun e ds s=>stS P ok glob rec x W n ro ctx lk e ds s) (rnd W) e ds s
 | .exit id,_,_,_,_,_,e,ds,s=>some (.x id,e,ds,s)
 | .ret,_,_,_,_,_,e,ds,s=>some (.r,e,ds,s)
 | .label _,_,_,_,_,_,e,ds,s=>some (.n,e,ds,s)
 | .scope x,W,n,ro,ctx,lk,e,ds,s=>match ro with
  | none=>stS P ok glob rec x W n none ctx lk e ds s
  | some _=>none
 | .rangeFunc g ps x y,W,n,ro,ctx,lk,e,ds,s=>rgS P ok glob rec g ps x y W n ro ctx lk e ds s
 | .goto _,_,_,_,_,_,_,_,_=>none
 | .refuse _,_,_,_,_,_,_,_,_=>none
abbrev CT (R:Type):=Rc→Nat→Nat→Option Nat→List (Nat × LI)→List Nat→T→List Nat→St→(T→List Nat→St→Option R)→(Xt→T→List Nat→St→Option R)→Option R
def loopK {R:Type} (f:T→List Nat→St→(T→List Nat→St→Option R)→(Xt→T→List Nat→St→Option R)→Option R) (kn:T→List Nat→St→Option R) (kx:Xt→T→List Nat→St→Option R):Nat→T→List Nat→St→Option R
 | 0,_,_,_=>none
 | m+1,e,ds,s=>f e ds s (fun e ds s=>loopK f kn kx m e ds s) kx
def loopL {R:Type} (g:Nat→Nat) (f:CT R):Cl (CT R):=.mk fun rec W n ro ctx lk e ds s kn kx=>loopK (f rec W n ro ctx lk) kn kx (g W) e ds s
theorem loopL_f {R:Type} (g:Nat→Nat) (f:CT R) (rec:Rc) (W n:Nat) (ro:Option Nat) (ctx:List (Nat × LI)) (lk:List Nat) (e:T) (ds:List Nat) (s:St) (kn:T→List Nat→St→Option R) (kx:Xt→T→List Nat→St→Option R):(loopL g f).f rec W n ro ctx lk e ds s kn kx=loopK (f rec W n ro ctx lk) kn kx (g W) e ds s:=rfl
def codeC {R:Type} (P:Program) (ok:Nat→Bool) (glob:Nat→Nat→Option AV):Code→Cl (CT R)
 | .skip=>.mk fun _ _ _ _ _ _ e ds s kn _=>kn e ds s
 | .region _ ops draw=>bif !draw && ops.toList.all fun o=>o.guard.isNone then
   (match opsC (R:=R) P ok glob ops.toList with | .mk f=>.mk fun rec W _ _ ctx lk e ds s kn _=>f lk (callC P glob rec ctx lk W) (yieldC rec ctx lk W) e s fun e s=>kn e ds s)
   else bif !draw then (match opsG (R:=R) P ok glob ops.toList ops.toList 0 with | .mk f=>.mk fun rec W _ _ ctx lk e ds s kn _=>f lk (callC P glob rec ctx lk W) (yieldC rec ctx lk W) [] e s fun e s=>kn e ds s)
   else .mk fun rec W n _ ctx lk e ds s kn _=>(regE P ok glob (fun lk W=>callC P glob rec ctx lk W) (yieldC rec ctx lk W) W n lk ops.toList draw e s).bind fun q=>kn q.1 ds q.2
 | .seq x y=>match codeC P ok glob x,codeC P ok glob y with
  | .mk f,.mk g=>.mk fun rec W n ro ctx lk e ds s kn kx=>f rec W n ro ctx lk e ds s (fun e ds s=>g rec W n ro ctx lk e ds s kn kx) kx
 | .cond c x y=>match gK (R:=R) c,codeC P ok glob x,codeC P ok glob y with
  | .mk h,.mk f,.mk g=>.mk fun rec W n ro ctx lk e ds s kn kx=>h e fun a=>match a with
   | .b true=>f rec W n ro ctx lk e ds s kn kx
   | .b false=>g rec W n ro ctx lk e ds s kn kx
   | _=>none
 | .block id x=>match codeC P ok glob x with
  | .mk f=>.mk fun rec W n ro ctx lk e ds s kn kx=>f rec W n ro ctx lk e ds s kn fun t e ds s=>match t with
   | .x i=>bif Nat.beq i id then kn e ds s else kx (.x i) e ds s
   | .n=>kn e ds s
   | .r=>kx .r e ds s
 | .loop x=>match codeC P ok glob x with
  | .mk f=>loopL rnd f
 | .exit id=>.mk fun _ _ _ _ _ _ e ds s _ kx=>kx (.x id) e ds s
 | .ret=>.mk fun _ _ _ _ _ _ e ds s _ kx=>kx .r e ds s
 | .label _=>.mk fun _ _ _ _ _ _ e ds s kn _=>kn e ds s
 | .scope x=>match codeC P ok glob x with
  | .mk f=>.mk fun rec W n ro ctx lk e ds s kn kx=>match ro with
   | none=>f rec W n none ctx lk e ds s kn kx
   | some _=>none
 | .rangeFunc g ps x y=>.mk fun rec W n ro ctx lk e ds s kn kx=>(rgS P ok glob rec g ps x y W n ro ctx lk e ds s).bind fun q=>match q.1 with
  | .n=>kn q.2.1 q.2.2.1 q.2.2.2
  | .x i=>kx (.x i) q.2.1 q.2.2.1 q.2.2.2
  | .r=>kx .r q.2.1 q.2.2.1 q.2.2.2
 | .goto _=>.mk fun _ _ _ _ _ _ _ _ _ _ _=>none
 | .refuse _=>.mk fun _ _ _ _ _ _ _ _ _ _ _=>none
def evC (P:Program) (ok:Nat→Bool) (glob:Nat→Nat→Option AV):Nat→Rc
 | 0=>fun _ _ _ _ _ _ _ _ _=>none
 | k+1=>fun W n ro ctx lk c e ds s=>match codeC (R:=RR) P ok glob c with
  | .mk f=>f (evC P ok glob k) W n ro ctx lk e ds s (fun e ds s=>some (.n,e,ds,s)) fun x e ds s=>some (x,e,ds,s)
def two {R:Type} (kn:T→List Nat→St→Option R) (kx:Xt→T→List Nat→St→Option R) (q:RR):Option R:=match q.1 with
 | .n=>kn q.2.1 q.2.2.1 q.2.2.2
 | .x i=>kx (.x i) q.2.1 q.2.2.1 q.2.2.2
 | .r=>kx .r q.2.1 q.2.2.1 q.2.2.2
theorem loopK_eq {R:Type} (f:T→List Nat→St→(T→List Nat→St→Option R)→(Xt→T→List Nat→St→Option R)→Option R) (g:T→List Nat→St→Option RR) (kn:T→List Nat→St→Option R) (kx:Xt→T→List Nat→St→Option R) (h1:∀ e ds s kn kx,f e ds s kn kx=(g e ds s).bind (two kn kx)):∀ (m:Nat) (e:T) (ds:List Nat) (s:St),loopK f kn kx m e ds s=(loopC g m e ds s).bind (two kn kx)
 | 0,_,_,_=>rfl
 | m+1,e,ds,s=>by
  simp only [loopK,loopC]
  rw [h1]
  cases g e ds s with
  | none=>rfl
  | some q=>
   obtain ⟨t,q⟩:=q
   cases t <;> simp only [Option.bind_some,two]
   exact loopK_eq f g kn kx h1 m _ _ _
theorem codeC_eq {R:Type} (P:Program) (ok:Nat→Bool) (glob:Nat→Nat→Option AV) (rec:Rc):∀ (c:Code) (W n:Nat) (ro:Option Nat) (ctx:List (Nat × LI)) (lk:List Nat) (e:T) (ds:List Nat) (s:St) (kn:T→List Nat→St→Option R) (kx:Xt→T→List Nat→St→Option R),
  (codeC P ok glob c).f rec W n ro ctx lk e ds s kn kx=(stS P ok glob rec c W n ro ctx lk e ds s).bind (two kn kx):=by
 intro c
 induction c with
 | skip=>intros;rfl
 | exit id=>intros;rfl
 | ret=>intros;rfl
 | label l=>intros;rfl
 | goto l=>intros;rfl
 | refuse y=>intros;rfl
 | region id ops draw=>
  intro W n ro ctx lk e ds s kn kx
  simp only [codeC,stS]
  have slow:(regE P ok glob (fun lk W=>callC P glob rec ctx lk W) (yieldC rec ctx lk W) W n lk ops.toList draw e s).bind (fun q=>kn q.1 ds q.2)=((regE P ok glob (fun lk W=>callC P glob rec ctx lk W) (yieldC rec ctx lk W) W n lk ops.toList draw e s).bind fun q=>some (.n,q.1,ds,q.2)).bind (two kn kx):=by
   cases regE P ok glob (fun lk W=>callC P glob rec ctx lk W) (yieldC rec ctx lk W) W n lk ops.toList draw e s <;> rfl
  cases hb:(!draw && ops.toList.all fun o=>o.guard.isNone) with
  | false=>
   simp only [cond_false]
   cases draw with
   | true=>simp only [Bool.not_true,cond_false,Cl.f];exact slow
   | false=>
    simp only [Bool.not_false,cond_true]
    have h:=fun k=>opsG_eq (R:=R) P ok glob ops.toList lk (callC P glob rec ctx lk W) (yieldC rec ctx lk W) ops.toList 0 [] e s k
    generalize opsG (R:=R) P ok glob ops.toList ops.toList 0=a at h
    obtain ⟨f⟩:=a
    simp only [Cl.f] at h ⊢
    rw [h]
    exact slow
  | true=>
   simp only [cond_true]
   simp only [Bool.and_eq_true,Bool.not_eq_true'] at hb
   obtain ⟨rfl,hg⟩:=hb
   have h:=fun k=>opsC_eq (R:=R) P ok glob ops.toList lk (callC P glob rec ctx lk W) (yieldC rec ctx lk W) ops.toList 0 e s k hg
   generalize opsC (R:=R) P ok glob ops.toList=a at h
   obtain ⟨f⟩:=a
   simp only [Cl.f] at h ⊢
   rw [h]
   exact slow
 | seq x y ihx ihy=>
  intro W n ro ctx lk e ds s kn kx
  have h1:=ihx W n ro ctx lk e ds s
  have h2:=fun e ds s=>ihy W n ro ctx lk e ds s kn kx
  simp only [codeC,stS]
  generalize codeC (R:=R) P ok glob x=a at h1
  generalize codeC (R:=R) P ok glob y=b at h2
  obtain ⟨f⟩:=a
  obtain ⟨g⟩:=b
  simp only [Cl.f] at h1 h2 ⊢
  rw [h1]
  cases stS P ok glob rec x W n ro ctx lk e ds s with
  | none=>rfl
  | some q=>
   obtain ⟨t,q⟩:=q
   cases t <;> simp only [Option.bind_some,two]
   exact h2 _ _ _
 | cond c x y ihx ihy=>
  intro W n ro ctx lk e ds s kn kx
  have h1:=ihx W n ro ctx lk e ds s kn kx
  have h2:=ihy W n ro ctx lk e ds s kn kx
  have h3:=gK_eq (R:=R) c e
  simp only [codeC,stS]
  generalize codeC (R:=R) P ok glob x=a at h1
  generalize codeC (R:=R) P ok glob y=b at h2
  generalize gK (R:=R) c=d at h3
  obtain ⟨f⟩:=a
  obtain ⟨g⟩:=b
  obtain ⟨h⟩:=d
  simp only [Cl.f] at h1 h2 h3 ⊢
  rw [h3]
  cases evA e c <;> first | rfl | skip
  rename_i q
  cases q
  ·exact h2
  ·exact h1
 | block id x ih=>
  intro W n ro ctx lk e ds s kn kx
  have h1:=ih W n ro ctx lk e ds s
  simp only [codeC,stS]
  generalize codeC (R:=R) P ok glob x=a at h1
  obtain ⟨f⟩:=a
  simp only [Cl.f] at h1 ⊢
  rw [h1]
  cases stS P ok glob rec x W n ro ctx lk e ds s with
  | none=>rfl
  | some q=>
   obtain ⟨t,q⟩:=q
   cases t <;> simp only [Option.bind_some,two]
   rename_i i
   cases Nat.beq i id <;> rfl
 | loop x ih=>
  intro W n ro ctx lk e ds s kn kx
  have h1:=fun e ds s=>ih W n ro ctx lk e ds s
  simp only [codeC,stS]
  generalize codeC (R:=R) P ok glob x=a at h1
  obtain ⟨f⟩:=a
  have h2:∀ e ds s kn kx,f rec W n ro ctx lk e ds s kn kx=(stS P ok glob rec x W n ro ctx lk e ds s).bind (two kn kx):=h1
  show Cl.f (loopL rnd f) rec W n ro ctx lk e ds s kn kx=_
  rw [loopL_f]
  exact loopK_eq _ _ kn kx h2 _ e ds s
 | scope x ih=>
  intro W n ro ctx lk e ds s kn kx
  have h1:=ih W n none ctx lk e ds s kn kx
  simp only [codeC,stS]
  generalize codeC (R:=R) P ok glob x=a at h1
  obtain ⟨f⟩:=a
  simp only [Cl.f] at h1 ⊢
  cases ro with
  | none=>exact h1
  | some _=>rfl
 | rangeFunc g ps x y _ _=>
  intro W n ro ctx lk e ds s kn kx
  rfl
theorem evC_eq (P:Program) (ok:Nat→Bool) (glob:Nat→Nat→Option AV) (k W n:Nat) (ro:Option Nat) (ctx:List (Nat × LI)) (lk:List Nat) (c:Code) (e:T) (ds:List Nat) (s:St):evC P ok glob (k+1) W n ro ctx lk c e ds s=stS P ok glob (evC P ok glob k) c W n ro ctx lk e ds s:=by
 have h:=codeC_eq (R:=RR) P ok glob (evC P ok glob k) c W n ro ctx lk e ds s (fun e ds s=>some (.n,e,ds,s)) fun x e ds s=>some (x,e,ds,s)
 simp only [evC]
 generalize codeC (R:=RR) P ok glob c=a at h
 obtain ⟨f⟩:=a
 simp only [Cl.f] at h
 refine Eq.trans h ?_
 cases stS P ok glob (evC P ok glob k) c W n ro ctx lk e ds s with
 | none=>rfl
 | some q=>
  obtain ⟨t,q⟩:=q
  cases t <;> rfl
end

section
variable {P:Program} {ok:Nat→Bool} {glob:Nat→Nat→Option AV} {B:Nat}
def DR (σ:Sg):List Nat→List Nat→Prop
 | [],dc=>dc=[]
 | d :: ds,dc=>∃ b r,dc=b :: r∧(∃ C,σ d=some (b,C))∧DR σ ds r
theorem DR.le {σ σ':Sg} (h:Le σ σ'):∀ {ds dc:List Nat},DR σ ds dc→DR σ' ds dc
 | [],_,e=>e
 | _ :: _,_,⟨b,r,e1,⟨C,e2⟩,e3⟩=>⟨b,r,e1,⟨C,h _ _ e2⟩,DR.le h e3⟩
def RO (σ:Sg):Option Nat→Option Nat→Prop
 | none,none=>True
 | some l,some b=>∃ C,σ l=some (b,C)
 | _,_=>False
theorem RO.le {σ σ':Sg} (h:Le σ σ') {a b:Option Nat} (k:RO σ a b):RO σ' a b:=by
 cases a <;> cases b <;> first | exact k | exact k.imp fun C e=>h _ _ e
def RecOk (P:Program) (glob:Nat→Nat→Option AV) (B:Nat) (rec:Rc):Prop:=
 ∀ (W n:Nat) (ro:Option Nat) (ctx:List (Nat × LI)) (lk:List Nat) (c:Code) (e:T) (ds:List Nat) (s:St) (x:Xt) (e':T) (ds':List Nat) (s':St),rec W n ro ctx lk c e ds s=some (x,e',ds',s')→
  ∀ (σ:Sg) (w:World) (ē:Env) (a:Act) (dc:List Nat) (roc:Option Nat) (Q:Exit→Act→World→Prop),SR glob B ctx lk σ s w→ER n σ e ē→Fr (marksD dc) n ē a→DR σ ds dc→RO σ ro roc→
   (∀ σ' w' ē' a' dc',Ext B lk σ w σ' w'→SR glob B ctx lk σ' s' w'→ER n σ' e' ē'→Fr (marksD dc') n ē' a'→DR σ' ds' dc'→Q x.ex a' w')→c.wpIn (Wd roc) 0 P Q a w
variable {rec:Rc} {ctx:List (Nat × LI)} {lk:List Nat}
theorem res_ok {σ:Sg} {s:St} {w:World} {n:Nat} {e:T} {ē:Env} (hS:SR glob B ctx lk σ s w) (hE:ER n σ e ē):∀ (rs:List ResultVar) (l:List AV) (K:List Value→Prop),resE P glob s.h e rs=some l→(∀ vs,relL σ l vs→K vs)→resD P rs ē w K:=by
 intro rs
 induction rs with
 | nil=>intro l K h hK;simp only [resE,Option.some.injEq] at h;subst h;exact hK [] rfl
 | cons r rs ih=>
  intro l K h hK
  cases r with
  | tmp t=>
   simp only [resE,Option.bind_eq_some_iff,Option.some.injEq] at h
   obtain ⟨l',h1,rfl⟩:=h
   exact ih l' _ h1 fun vs hvs=>hK _ ⟨_,_,rfl,hE.get t,hvs⟩
  | cell x t=>
   simp only [resE,Option.bind_eq_some_iff,Option.some.injEq] at h
   obtain ⟨a,h1,l',h2,rfl⟩:=h
   have:=loadD_ok (K:=fun v w'=>w'=w→resD P rs ē w' fun vs=>K (v :: vs)) hS h1 (hE.get x) fun v hv _=>ih l' _ h2 fun vs hvs=>hK _ ⟨_,_,rfl,hv,hvs⟩
   simp only [resD]
   revert this
   cases aggOf P t with
   | none=>exact fun h=>h
   | some bk=>
    obtain ⟨b,k⟩:=bk
    cases b with
    | false=>rintro ⟨ad,v,g1,g2,g3⟩;exact ⟨ad,v,g1,g2,g3 rfl⟩
    | true=>rintro ⟨ad,vs,g1,g2,g3,g4⟩;exact ⟨ad,vs,g1,g2,g3,g4 rfl⟩
theorem tup_rel {σ:Sg} {l:List AV} {vs:List Value} (h:relL σ l vs):rel σ (tupA l) (tupK vs):=by
 match l,vs,h with
 | [],_,h=>cases (show _=_ from h);exact ⟨[],rfl,rfl⟩
 | [a],_,⟨v,r,e1,e2,e3⟩=>cases (show _=_ from e3);subst e1;exact e2
 | a :: b :: l,_,⟨v,r,e1,e2,⟨v',r',e3,e4,e5⟩⟩=>subst e3;subst e1;exact ⟨_,⟨_,_,rfl,e2,_,_,rfl,e4,e5⟩,rfl⟩
theorem end_ok {n:Nat} {e:T} {ē:Env} {K:World→Prop} {s':St}:∀ (ds:List Nat) (s:St) (σ:Sg) (w:World) (dc:List Nat),endM lk ds s=some s'→SR glob B ctx lk σ s w→DR σ ds dc→(∀ w',Ext B lk σ w σ w'→SR glob B ctx lk σ s' w'→K w')→marksK dc K w:=by
 intro ds
 induction ds with
 | nil=>
  intro s σ w dc h hS hD hK
  cases (show _=_ from hD)
  simp only [endM,Option.some.injEq] at h
  subst h
  exact hK w Ext.refl hS
 | cons d ds ih=>
  rintro s σ w _ h hS ⟨b,r,rfl,⟨C,hσ⟩,hD⟩ hK
  simp only [endM,hsetS_eq] at h
  split at h
  ·rename_i hg
   cases hm:memB lk d with
   | true=>simp only [hm,cond_true,reduceCtorEq] at h
   | false=>
    simp only [hm,cond_false] at h
    obtain ⟨b',C',q,g1,g2,g3⟩:=hS.live hg (by simp)
    rw [hσ] at g1;cases g1
    have g3':q=.deferred (some []):=g3
    subst g3'
    obtain ⟨x1,x2⟩:=hS.put (o':=.dead) (q:=.deferred none) (w':=w.putObj b (.deferred none)) hg (by simp) (memB_false.1 hm) hσ (Mod.putObj w b _ rfl) (fun h=>(h rfl).elim) fun h=>(h rfl).elim
    exact ⟨g2,ih _ σ _ r h x2 hD fun w' y1 y2=>hK w' (x1.trans y1) y2⟩
  ·cases h
theorem mkT_er {n:Nat} {σ:Sg} (hn:n≤4000):ER n σ (mkT n) (nth []):=by
 have e:(2:Nat) ^ 12=4096:=by decide
 refine ⟨hn,fun i hi=>mkTF_has 12 n i (by rw [e];omega),fun j=>?_⟩
 have hnil:∀ j,nth [] j=undef:=fun j=>by
  induction j with
  | zero=>rfl
  | succ j ih=>exact ih
 have:tget (mkT n) j=.tup []:=by
  unfold tget mkT
  cases Nat.blt j 4000 with
  | true=>exact mkTF_get 12 n _
  | false=>rfl
 rw [this,hnil]
 exact undef_rel
def layN (n:Nat):Env→Nat→List Value→Env
 | e,_,[]=>e
 | e,i,v :: l=>layN n (upd n e i v) (i+1) l
theorem lay_er {n:Nat} {σ:Sg}:∀ {args:List AV} {vs:List Value} (i:Nat) {t:T} {e:Env},relL σ args vs→ER n σ t e→ER n σ (argsT args i t) (layN n e i vs)
 | [],_,_,_,_,h,hE=>by cases (show _=_ from h);exact hE
 | _ :: _,_,i,_,_,⟨v,r,e1,e2,e3⟩,hE=>by subst e1;exact lay_er (i+1) e3 (hE.set i e2)
theorem lay_nth {n:Nat}:∀ (vs:List Value) (i:Nat) (e:Env),i+vs.length≤n→layN n e i vs=fun j=>if i≤j∧j < i+vs.length then nth vs (j - i) else e j
 | [],i,e,_=>by
  funext j
  simp only [layN,List.length_nil,Nat.add_zero]
  rw [if_neg (by omega)]
 | v :: l,i,e,h=>by
  simp only [List.length_cons] at h
  simp only [layN]
  rw [lay_nth l (i+1) _ (by omega)]
  funext j
  simp only [List.length_cons]
  by_cases h1:i=j
  ·subst h1
   rw [if_neg (by omega),if_pos (by omega),Nat.sub_self]
   simp [upd,blt_true (show i < n by omega),nth]
  ·by_cases h2:i+1≤j∧j < i+1+l.length
   ·rw [if_pos h2,if_pos (by omega)]
    have:j - i=(j - (i+1))+1:=by omega
    rw [this]
    rfl
   ·rw [if_neg h2,if_neg (by omega)]
    simp [upd,nbf (show j≠i from fun e=>h1 e.symm)]
theorem nth_big:∀ (vs:List Value) (j:Nat),vs.length≤j→nth vs j=nth [] j
 | [],_,_=>rfl
 | _ :: l,0,h=>by simp at h
 | _ :: l,j+1,h=>by
  have:=nth_big l j (by simpa using h)
  show nth l j=nth [] (j+1)
  rw [this]
  rfl
theorem args_er {n:Nat} {σ:Sg} {args:List AV} {vs:List Value} (h:relL σ args vs) (hl:args.length≤n) (hn:n≤4000):ER n σ (argsT args 0 (mkT n)) (nth vs):=by
 have:=lay_er 0 h (mkT_er (σ:=σ) hn)
 have hv:=relL_len h
 rw [lay_nth vs 0 _ (by omega)] at this
 have e:(fun j=>if 0≤j∧j < 0+vs.length then nth vs (j - 0) else nth [] j)=nth vs:=by
  funext j
  by_cases hj:j < vs.length
  ·rw [if_pos (by omega)];rfl
  ·rw [if_neg (by omega),nth_big vs j (by omega)]
 rw [e] at this
 exact this
theorem call_ok (hR:RecOk P glob B rec) (W:Nat):CallOk P ok glob B ctx lk (callC P glob rec ctx lk W):=by
 intro g args s a s' σ w vs K h _ hS hA hK
 simp only [callC,fnE_eq,fL_eq,fN_eq,argsK_eq] at h
 split at h
 ·rename_i fn hf
  split at h
  ·rename_i c hb
   cases hl:(Nat.ble args.length fn.ntmps && Nat.ble fn.ntmps 4000) with
   | false=>simp only [hl,cond_false,reduceCtorEq] at h
   | true=>
    simp only [hl,cond_true,Option.bind_eq_some_iff] at h
    obtain ⟨⟨x,e',ds',s1⟩,h1,h2⟩:=h
    rw [Bool.and_eq_true] at hl
    have hle:=Nat.le_of_ble_eq_true hl.1
    have hle2:=Nat.le_of_ble_eq_true hl.2
    have hvl:=relL_len hA
    refine callsIn_wide.1 (callsIn_of_wp_marks (F:=Fence.wide) (n:=0) hf hb trivial ?_)
    have hxn:∀ i,x≠.x i:=fun i e=>by subst e;cases h2
    have h2':(endM lk ds' s1).bind (fun s2=>(resE P glob s2.h e' fn.results.toList).bind fun r=>some (tupA r,s2))=some (a,s'):=by
     cases x with
     | x i=>exact (hxn i rfl).elim
     | n=>exact h2
     | r=>exact h2
    simp only [Option.bind_eq_some_iff,Option.some.injEq,Prod.mk.injEq] at h2'
    obtain ⟨s2,h3,r,h4,rfl,rfl⟩:=h2'
    refine hR W fn.ntmps none ctx lk c _ [] s x e' ds' s1 h1 σ w (nth vs) _ [] none _ hS (args_er hA hle hle2) (fr_args (by omega)) rfl trivial ?_
    intro σ' w' ē' a' dc' x1 x2 x3 x4 x5
    have hm:marksK dc' (fun w=>resD P fn.results.toList ē' w fun vs=>K (tupK vs) w) w':=end_ok (n:=fn.ntmps) (e:=e') (ē:=ē') ds' s1 σ' w' dc' h3 x2 x5 fun w'' y1 y2=>res_ok y2 x3 _ r _ h4 fun vs hvs=>hK σ' w'' _ (x1.trans y1) y2 (tup_rel hvs)
    have key:∀ (ms0:List Nat) (w0:World),marksK ms0 (fun w=>resD P fn.results.toList ē' w fun vs=>K (tupK vs) w) w0→LeavesInM Fence.wide 0 P fn a'.tmps (fun e w'=>∃ v,e=.returned v∧K v w') (marksD ms0) .returning w0:=by
     intro ms0
     induction ms0 with
     | nil=>
      intro w0 h
      obtain ⟨v,h4,h5⟩:=results_run x4 h
      exact ⟨v,h4,v,rfl,h5⟩
     | cons m ms0 ih=>
      rintro w0 ⟨h3,h4⟩
      exact ⟨by simp,.inl ⟨_,_,rfl,run_takeDeferred h3,ih _ h4⟩⟩
    cases x with
    | x i=>exact (hxn i rfl).elim
    | n=>
     show LeavesInM _ _ _ _ _ _ _ _ _
     rw [x4.defers];exact key dc' w' hm
    | r=>
     show LeavesInM _ _ _ _ _ _ _ _ _
     rw [x4.defers];exact key dc' w' hm
  ·cases h
 ·cases h
theorem fill_fr {n:Nat} {σ:Sg} {ds:List Deferred}:∀ (ps:List Nat) (args:List AV) (vs:List Value) (e:T) (ē:Env) (a:Act),args.length=ps.length→relL σ args vs→ER n σ e ē→Fr ds n ē a→
  ∃ ē',ER n σ (fillA e ps args) ē'∧Fr ds n ē' { a with tmps:=(ps.zip vs).foldl (fun t x=>t.setIfInBounds x.1 x.2) a.tmps }:=by
 intro ps
 induction ps with
 | nil=>intro args vs e ē a hl hr hE hF;exact ⟨ē,hE,hF⟩
 | cons p ps ih=>
  intro args vs e ē a hl hr hE hF
  cases args with
  | nil=>simp at hl
  | cons b args=>
   obtain ⟨v,r,rfl,h2,h3⟩:=hr
   obtain ⟨ē',k1,k2⟩:=ih args r (tset e p b) (upd n ē p v) (a.put (some p) v) (by simpa using hl) h3 (hE.set p h2) (hF.put (some p) v)
   exact ⟨ē',k1,k2⟩
theorem yield_ok (hR:RecOk P glob B rec) (W:Nat):YieldOk P glob B ctx lk (yieldC rec ctx lk W):=by
 intro l args s a s' σ w vs b C K h hσ hS hA hK
 simp only [yieldC,fillK_eq,hsetS_eq] at h
 split at h
 ·cases h
 ·rename_i i hc
  split at h
  ·rename_i st pd hg
   cases hb:(!memB lk l && Nat.beq args.length i.ps.size) with
   | false=>simp only [hb,cond_false,reduceCtorEq] at h
   | true=>
    simp only [hb,cond_true,Option.bind_eq_some_iff] at h
    simp only [Bool.and_eq_true,Bool.not_eq_true'] at hb
    obtain ⟨⟨x,e1,ds1,s1⟩,h1,h2⟩:=h
    have hlk:=memB_false.1 hb.1
    have hal:=Nat.eq_of_beq_eq_true hb.2
    obtain ⟨b',C',q,g1,g2,i',r,g3,rfl,gI,gs,gp⟩:=hS.live hg (by simp)
    rw [hσ] at g1;cases g1
    rw [hc] at g3;cases g3
    have hvl:=relL_len hA
    refine ⟨_,_,_,_,run_yield g2 (by rw [gI.ps];simp;omega),?_⟩
    rw [gI.ps,gI.asg,gI.body]
    have hE0:ER i.n σ i.e (fun t=>r.tmps.getD t undef):=⟨gI.nl,gI.has,gI.tm⟩
    obtain ⟨ē1,hE1,hF1⟩:=fill_fr (ds:=[]) i.ps.toList args vs i.e _ { tmps:=r.tmps,defers:=[] } (by simpa using hal) hA hE0 ⟨gI.sz,fun _=>rfl,rfl⟩
    have etm:(i.ps.zip vs.toArray).foldl (fun t x=>t.setIfInBounds x.1 x.2) r.tmps=(i.ps.toList.zip vs).foldl (fun t x=>t.setIfInBounds x.1 x.2) r.tmps:=by
     rw [←Array.foldl_toList];simp
    refine roundIn_of_wpIn (F:=Fence.wide) trivial ?_
    rw [show (fun (tmps:Array Value) (x:Nat × Value)=>match x with | (t,a)=>tmps.setIfInBounds t a)=(fun t x=>t.setIfInBounds x.1 x.2) from rfl,etm]
    cases x with
    | x j=>cases h2
    | r=>cases h2
    | n=>
     simp only at h2
     refine hR W i.n (some l) ctx lk i.asg _ [] s .n e1 ds1 s1 h1 σ w ē1 _ [] (some b) _ hS hE1 hF1 rfl ⟨C,hσ⟩ ?_
     intro σ1 w1 ē2 a1 dc1 x1 x2 x3 x4 x5
     split at h2
     ·rename_i pd1 hg1
      simp only [Option.bind_eq_some_iff] at h2
      obtain ⟨⟨x,e2,ds2,s2⟩,h3,h4⟩:=h2
      obtain ⟨b1,C1,q1,k1,k2,i1,r1,k3,rfl,kI,ks,kp⟩:=x2.live hg1 (by simp)
      have hσ1:=x1.le _ _ hσ
      rw [hσ1] at k1;cases k1
      rw [hc] at k3;cases k3
      refine ⟨_,run_beginRound k2 ks,?_⟩
      obtain ⟨y1,y2⟩:=x2.put (o':=.loop .busy pd1) (q:=.loop { r1 with state:=.busy }) (w':=w1.putObj b (.loop { r1 with state:=.busy })) hg1 (by simp) hlk hσ1 (Mod.putObj w1 b _ rfl) (fun _=>World.putObj_heap_same (x2.rng l b C hσ1).2) fun _=>⟨i,_,hc,rfl,⟨kI.ps,kI.asg,kI.body,kI.sz,kI.nl,kI.has,kI.tm,kI.df⟩,rfl,kp⟩
      refine hR W i.n (some l) ctx lk i.body _ ds1 _ x e2 ds2 s2 h3 σ1 _ ē2 a1 dc1 (some b) _ y2 x3 x4 x5 ⟨C,hσ1⟩ ?_
      intro σ2 w2 ē3 a2 dc2 z1 z2 z3 z4 z5
      have hσ2:=z1.le _ _ hσ1
      split at h4
      ·rename_i st2 pd2 hg2
       obtain ⟨b2,C2,q2,m1,m2,i2,r2,m3,rfl,mI,ms,mp⟩:=z2.live hg2 (by simp)
       rw [hσ2] at m1;cases m1
       rw [hc] at m3;cases m3
       have fin:∀ (jump:Option Code) (st':LoopState) (pd':Option (Option Nat)) (bo:Bool),(if jump.isNone then LoopState.ready else .done)=st'→jump=pdC pd'→jump.isNone=bo→(a=.b bo∧s'=⟨hset s2.h l (.loop st' pd'),s2.nx⟩)→
         ∃ v w',(Instr.endRound b jump).run P w2=.ok v w'∧∃ v',(Ending.returned v)=.returned v'∧K v' w':=fun jump st' pd' bo e1 e2 e3 e4=>by
        obtain ⟨rfl,rfl⟩:=e4
        obtain ⟨u1,u2⟩:=z2.put (o':=.loop st' pd') (q:=.loop { r2 with state:=if jump.isNone then .ready else .done,pending:=jump }) (w':=w2.putObj b (.loop { r2 with state:=if jump.isNone then .ready else .done,pending:=jump })) hg2 (by simp) hlk hσ2 (Mod.putObj w2 b _ rfl) (fun _=>World.putObj_heap_same (z2.rng l b C hσ2).2) fun _=>⟨i,_,hc,rfl,⟨mI.ps,mI.asg,mI.body,mI.sz,mI.nl,mI.has,mI.tm,mI.df⟩,e1,e2⟩
        exact ⟨_,_,run_endRound jump m2,_,rfl,hK σ2 _ _ (((x1.trans y1).trans z1).trans u1) u2 (by rw [e3];rfl)⟩
       cases x with
       | n=>
        simp only [Option.some.injEq,Prod.mk.injEq] at h4
        exact fin none .ready none true rfl rfl rfl ⟨h4.1.symm,h4.2.symm⟩
       | r=>
        simp only [Option.some.injEq,Prod.mk.injEq] at h4
        exact fin (some .ret) .done (some none) false rfl rfl rfl ⟨h4.1.symm,h4.2.symm⟩
       | x j=>
        simp only [Option.some.injEq,Prod.mk.injEq] at h4
        exact fin (some (.exit j)) .done (some (some j)) false rfl rfl rfl ⟨h4.1.symm,h4.2.symm⟩
      ·cases h4
     ·cases h2
  ·cases h
theorem _root_.Go.K.Mod.below_grow {lk:List Nat} {σ:Sg} {w w':World} (h:Mod (lkM w.heap.size lk σ) w w'):Grow w w':=⟨h.os,h.tape,h.output,h.size,fun b hb _=>h.same b hb fun e=>by have:=e.1;omega⟩
theorem cget_other {i:LI} {x l:Nat} (h:x≠l):cget ((l,i) :: ctx) x=cget ctx x:=by
 simp only [cget]
 rw [nbf (fun e=>h e.symm)]
 rfl
theorem SR.addC {σ:Sg} {s:St} {w:World} {l:Nat} {i:LI} (h:SR glob B ctx lk σ s w) (hl:hget s.h l=none):SR glob B ((l,i) :: ctx) lk σ s w:=by
 refine ⟨h.srt,fun x o hx=>?_,h.dom,h.rng,h.inj,h.gl,h.lk,h.big⟩
 obtain ⟨b,C,e1,e2⟩:=h.obj x o hx
 refine ⟨b,C,e1,fun hd=>?_⟩
 obtain ⟨q,e3,e4⟩:=e2 hd
 refine ⟨q,e3,?_⟩
 have hxl:x≠l:=by rintro rfl;rw [hl] at hx;cases hx
 cases o with
 | loop st pd=>
  obtain ⟨j,r,f1,f2⟩:=e4
  exact ⟨j,r,by rw [cget_other hxl];exact f1,f2⟩
 | _=>exact e4
theorem SR.unctx {σ:Sg} {s:St} {w:World} {l:Nat} {i:LI} (h:SR glob B ((l,i) :: ctx) lk σ s w) (hl:hget s.h l=some .dead):SR glob B ctx lk σ s w:=by
 refine ⟨h.srt,fun x o hx=>?_,h.dom,h.rng,h.inj,h.gl,h.lk,h.big⟩
 obtain ⟨b,C,e1,e2⟩:=h.obj x o hx
 refine ⟨b,C,e1,fun hd=>?_⟩
 obtain ⟨q,e3,e4⟩:=e2 hd
 refine ⟨q,e3,?_⟩
 have hxl:x≠l:=by rintro rfl;rw [hl] at hx;cases hx;exact hd rfl
 cases o with
 | loop st pd=>
  obtain ⟨j,r,f1,f2⟩:=e4
  exact ⟨j,r,by rw [cget_other hxl] at f1;exact f1,f2⟩
 | _=>exact e4
theorem range_ok (hR:RecOk P glob B rec) (hok:GoodFns P ok) {W gf:Nat} {cs:List AV} {cap:List Value} {ps:Array Nat} {x y:Code} {e:T} {d db dC:Nat} {ds ds':List Nat} {s s':St} {xt:Xt} {e':T} {n:Nat} {σ:Sg} {w w1:World} {ē:Env} {a:Act} {mk:List Deferred} {dc:List Nat} {roc:Option Nat} {Q:Exit→Act→World→Prop} {g:Operand} (hgf:ok gf=true)
  (h:rangeC P glob rec W n ctx lk gf cs ps x y e d ds s=some (xt,e',ds',s')) (hS:SR glob B ctx lk σ s w1) (hE:ER n σ e ē) (hF:Fr (marksD dc) n ē { a with defers:=mk++a.defers }) (hD:DR σ ds dc) (hd:σ d=some (db,dC)) (hcap:relL σ cs cap) (hev:a.eval g=.func (.func gf) #[] cap.toArray)
  (hent:∀ fn,(Instr.enterLoop fn a.tmps ps x y roc).run P w=.ok (w1.heap.size,mk) (w1.alloc (.loop { state:=.ready,pending:=none,fn,tmps:=a.tmps,params:=ps,assign:=x,body:=y,defers:=db })))
  (hQ:∀ σ' w' ē' a' dc',Ext B lk σ w1 σ' w'→SR glob B ctx lk σ' s' w'→ER n σ' e' ē'→Fr (marksD dc') n ē' a'→DR σ' ds' dc'→Q xt.ex a' w'):(Code.rangeFunc g ps x y).wpIn (Wd roc) 0 P Q a w:=by
 simp only [rangeC,hsetS_eq,Option.bind_eq_some_iff] at h
 obtain ⟨s1,h1,⟨v,s2⟩,h2,h3⟩:=h
 refine wpIn_rangeFunc fun fn _=>?_
 have hne:hget s.h s.nx=none:=by
  simp only [newE,fO_eq,fN_eq,hinsS_eq,Option.bind_eq_some_iff] at h1
  obtain ⟨h',e1,_⟩:=h1
  obtain ⟨m,hm⟩:=hS.srt
  have hlt':hlt s.h (m+s.nx+1):=by
   exact hlt_mono hm (by omega)
  exact (hlt_ins hlt' (by omega) e1).2.1
 have hS':=hS.addC (i:=⟨n,e,ps,x,y,d⟩) hne
 have htm:∀ j,rel σ (tget e j) (a.tmps.getD j undef):=fun j=>by
  have h1:=hE.get j
  rw [←hF.get j] at h1
  exact h1
 obtain ⟨σ1,e1,x1,x2⟩:=new_ok' (q:=.loop { state:=.ready,pending:=none,fn,tmps:=a.tmps,params:=ps,assign:=x,body:=y,defers:=db }) hS' h1 (.inl rfl) 0 fun σ' hle _=>⟨⟨n,e,ps,x,y,d⟩,_,by simp [cget],rfl,⟨rfl,rfl,rfl,hF.size,hE.len,hE.has,fun j=>rel_le hle (htm j),dC,hle _ _ hd⟩,rfl,rfl⟩
 have hen:=hent fn
 generalize w1.alloc (.loop { state:=.ready,pending:=none,fn,tmps:=a.tmps,params:=ps,assign:=x,body:=y,defers:=db })=wl at hen x1 x2
 refine ⟨w1.heap.size,mk,wl,{ target:=.fn (.func gf) cap.toArray,args:=#[.func (.yield w1.heap.size) #[] #[]] },wl,gf,(.func (.yield w1.heap.size) #[] #[] :: cap).toArray,wl,hen,?_,fun _ _=>trivial,?_,(fun h=>by cases h),?_⟩
 ·simp only [resolve,hev]
  simp [go_sem]
 ·have:=hok gf hgf
  simp [invoke,go_sem]
  exact this _ _
 have hcall:callK P gf (.func (.yield w1.heap.size) #[] #[] :: cap) (fun v w'=>rangePost (Wd roc) 0 P w1.heap.size Q { a with defers:=mk++a.defers } (.returned v) w') wl:=by
  refine call_ok (ok:=ok) hR W gf _ s1 v s2 σ1 wl _ _ h2 hgf x2 ⟨_,_,rfl,⟨_,_,e1,rfl⟩,relL_le x1.le hcap⟩ ?_
  intro σ2 w2 u y1 y2 _
  split at h3
  ·rename_i st pd hg
   cases hb:(notBusy st && !memB lk s.nx) with
   | false=>simp only [hb,cond_false,reduceCtorEq] at h3
   | true=>
    simp only [hb,cond_true,Option.some.injEq,Prod.mk.injEq] at h3
    obtain ⟨rfl,rfl,rfl,rfl⟩:=h3
    simp only [Bool.and_eq_true,Bool.not_eq_true'] at hb
    obtain ⟨b2,C2,q2,m1,m2,i2,r2,m3,rfl,mI,ms,mp⟩:=y2.live hg (by simp)
    have hσ2:=y1.le _ _ e1
    rw [hσ2] at m1;cases m1
    have hnb:r2.state≠.busy:=by rw [ms];intro e;subst e;exact absurd hb.1 (by simp [notBusy])
    obtain ⟨u1,u2⟩:=y2.put (o':=.dead) (q:=.loop { r2 with state:=.exhausted }) (w':=w2.putObj w1.heap.size (.loop { r2 with state:=.exhausted })) hg (by simp) (memB_false.1 hb.2) hσ2 (Mod.putObj w2 _ _ rfl) (fun h=>(h rfl).elim) fun h=>(h rfl).elim
    have u3:=u2.unctx (by simp only [hget_set hg];simp)
    have hle:Le σ σ2:=x1.le.trans y1.le
    have fin:=hQ σ2 _ ē { a with defers:=mk++a.defers } dc ((x1.trans y1).trans u1) u3 (hE.le hle) hF (hD.le hle)
    refine ⟨_,_,run_endLoop m2 hnb,?_⟩
    rw [mp] at fin ⊢
    cases pd with
    | none=>exact fin
    | some j=>cases j with
     | none=>exact wpIn_ret fin
     | some i=>exact wpIn_exit fin
  ·cases h3
 refine (callsIn_wide.2 (Calls.mono hcall ?_):CallsIn Fence.wide _ _ _ _ _ _)
 rintro en w2 ⟨v,rfl,hh⟩
 exact hh
def CodeOk (P:Program) (glob:Nat→Nat→Option AV) (B:Nat) (c:Code) (f:Nat→Nat→Option Nat→List (Nat × LI)→List Nat→T→List Nat→St→Option RR):Prop:=
 ∀ (W n:Nat) (ro:Option Nat) (ctx:List (Nat × LI)) (lk:List Nat) (e:T) (ds:List Nat) (s:St) (x:Xt) (e':T) (ds':List Nat) (s':St),f W n ro ctx lk e ds s=some (x,e',ds',s')→
  ∀ (σ:Sg) (w:World) (ē:Env) (a:Act) (dc:List Nat) (roc:Option Nat) (Q:Exit→Act→World→Prop),SR glob B ctx lk σ s w→ER n σ e ē→Fr (marksD dc) n ē a→DR σ ds dc→RO σ ro roc→
   (∀ σ' w' ē' a' dc',Ext B lk σ w σ' w'→SR glob B ctx lk σ' s' w'→ER n σ' e' ē'→Fr (marksD dc') n ē' a'→DR σ' ds' dc'→Q x.ex a' w')→c.wpIn (Wd roc) 0 P Q a w
theorem loop_rounds {f:Nat→Nat→Option Nat→List (Nat × LI)→List Nat→T→List Nat→St→Option RR} {c:Code} (hR:CodeOk P glob B c f) {W n:Nat} {ro:Option Nat}:∀ (m:Nat) (e:T) (ds:List Nat) (s:St) (x:Xt) (e':T) (ds':List Nat) (s':St),loopC (fun e ds s=>f W n ro ctx lk e ds s) m e ds s=some (x,e',ds',s')→
  ∀ (σ:Sg) (w:World) (ē:Env) (a:Act) (dc:List Nat) (roc:Option Nat) (Q:Exit→Act→World→Prop),SR glob B ctx lk σ s w→ER n σ e ē→Fr (marksD dc) n ē a→DR σ ds dc→RO σ ro roc→
   (∀ σ' w' ē' a' dc',Ext B lk σ w σ' w'→SR glob B ctx lk σ' s' w'→ER n σ' e' ē'→Fr (marksD dc') n ē' a'→DR σ' ds' dc'→Q x.ex a' w')→Code.roundsIn (Wd roc) 0 P c Q m a w:=by
 intro m
 induction m with
 | zero=>intro e ds s x e' ds' s' h;cases h
 | succ m ih=>
  intro e ds s x e' ds' s' h σ w ē a dc roc Q hS hE hF hD hO hQ
  simp only [loopC,Option.bind_eq_some_iff] at h
  obtain ⟨⟨x1,e1,ds1,s1⟩,h1,h2⟩:=h
  rw [roundsIn_succ]
  refine hR W n ro ctx lk e ds s x1 e1 ds1 s1 h1 σ w ē a dc roc _ hS hE hF hD hO ?_
  intro σ1 w1 ē1 a1 dc1 x1' x2 x3 x4 x5
  cases x1 with
  | n=>exact ih e1 ds1 s1 x e' ds' s' h2 σ1 w1 ē1 a1 dc1 roc Q x2 x3 x4 x5 (hO.le x1'.le) fun σ' w' ē' a' dc' y1=>hQ σ' w' ē' a' dc' (x1'.trans y1)
  | x i=>
   simp only [Option.some.injEq,Prod.mk.injEq] at h2
   obtain ⟨rfl,rfl,rfl,rfl⟩:=h2
   exact hQ σ1 w1 ē1 a1 dc1 x1' x2 x3 x4 x5
  | r=>
   simp only [Option.some.injEq,Prod.mk.injEq] at h2
   obtain ⟨rfl,rfl,rfl,rfl⟩:=h2
   exact hQ σ1 w1 ē1 a1 dc1 x1' x2 x3 x4 x5
theorem step_ok (hok:GoodFns P ok) (hm:P.follows .mixedOrders=true) (hR:RecOk P glob B rec):∀ c,CodeOk P glob B c (stS P ok glob rec c):=by
 intro c
 induction c with
 | skip=>
  intro W n ro ctx lk e ds s x e' ds' s' h σ w ē a dc roc Q hS hE hF hD hO hQ
  simp only [stS,Option.some.injEq,Prod.mk.injEq] at h
  obtain ⟨rfl,rfl,rfl,rfl⟩:=h
  exact wpIn_skip (hQ σ w ē a dc Ext.refl hS hE hF hD)
 | label l=>
  intro W n ro ctx lk e ds s x e' ds' s' h σ w ē a dc roc Q hS hE hF hD hO hQ
  simp only [stS,Option.some.injEq,Prod.mk.injEq] at h
  obtain ⟨rfl,rfl,rfl,rfl⟩:=h
  exact wpIn_label (hQ σ w ē a dc Ext.refl hS hE hF hD)
 | exit id=>
  intro W n ro ctx lk e ds s x e' ds' s' h σ w ē a dc roc Q hS hE hF hD hO hQ
  simp only [stS,Option.some.injEq,Prod.mk.injEq] at h
  obtain ⟨rfl,rfl,rfl,rfl⟩:=h
  exact wpIn_exit (hQ σ w ē a dc Ext.refl hS hE hF hD)
 | ret=>
  intro W n ro ctx lk e ds s x e' ds' s' h σ w ē a dc roc Q hS hE hF hD hO hQ
  simp only [stS,Option.some.injEq,Prod.mk.injEq] at h
  obtain ⟨rfl,rfl,rfl,rfl⟩:=h
  exact wpIn_ret (hQ σ w ē a dc Ext.refl hS hE hF hD)
 | goto l=>intro W n ro ctx lk e ds s x e' ds' s' h;cases h
 | refuse y=>intro W n ro ctx lk e ds s x e' ds' s' h;cases h
 | region id ops draw=>
  intro W n ro ctx lk e ds s x e' ds' s' h σ w ē a dc roc Q hS hE hF hD hO hQ
  simp only [stS,Option.bind_eq_some_iff,Option.some.injEq,Prod.mk.injEq] at h
  obtain ⟨⟨e1,s1⟩,h1,rfl,rfl,rfl,rfl⟩:=h
  exact reg_ok (Q:=Q) hok hm (fun lk W=>call_ok hR W) (yield_ok hR W) h1 hS hE hF fun σ' w' ē' a' x1 x2 x3 x4=>hQ σ' w' ē' a' dc x1 x2 x3 x4 (hD.le x1.le)
 | seq c1 c2 ih1 ih2=>
  intro W n ro ctx lk e ds s x e' ds' s' h σ w ē a dc roc Q hS hE hF hD hO hQ
  simp only [stS,Option.bind_eq_some_iff] at h
  obtain ⟨⟨x1,e1,ds1,s1⟩,h1,h2⟩:=h
  refine wpIn_seq (ih1 W n ro ctx lk e ds s x1 e1 ds1 s1 h1 σ w ē a dc roc _ hS hE hF hD hO ?_)
  intro σ1 w1 ē1 a1 dc1 y1 y2 y3 y4 y5
  cases x1 with
  | n=>exact ih2 W n ro ctx lk e1 ds1 s1 x e' ds' s' h2 σ1 w1 ē1 a1 dc1 roc Q y2 y3 y4 y5 (hO.le y1.le) fun σ' w' ē' a' dc' z1=>hQ σ' w' ē' a' dc' (y1.trans z1)
  | x i=>
   simp only [Option.some.injEq,Prod.mk.injEq] at h2
   obtain ⟨rfl,rfl,rfl,rfl⟩:=h2
   exact hQ σ1 w1 ē1 a1 dc1 y1 y2 y3 y4 y5
  | r=>
   simp only [Option.some.injEq,Prod.mk.injEq] at h2
   obtain ⟨rfl,rfl,rfl,rfl⟩:=h2
   exact hQ σ1 w1 ē1 a1 dc1 y1 y2 y3 y4 y5
 | cond c c1 c2 ih1 ih2=>
  intro W n ro ctx lk e ds s x e' ds' s' h σ w ē a dc roc Q hS hE hF hD hO hQ
  simp only [stS] at h
  have hev:=hE.ev c
  split at h
  ·rename_i hc
   rw [hc] at hev
   exact wpIn_cond_true (by rw [hF.eval];exact hev) (ih1 W n ro ctx lk e ds s x e' ds' s' h σ w ē a dc roc Q hS hE hF hD hO hQ)
  ·rename_i hc
   rw [hc] at hev
   exact wpIn_cond_false (by rw [hF.eval];exact hev) (ih2 W n ro ctx lk e ds s x e' ds' s' h σ w ē a dc roc Q hS hE hF hD hO hQ)
  ·cases h
 | block id c1 ih=>
  intro W n ro ctx lk e ds s x e' ds' s' h σ w ē a dc roc Q hS hE hF hD hO hQ
  simp only [stS,Option.bind_eq_some_iff] at h
  obtain ⟨⟨x1,e1,ds1,s1⟩,h1,h2⟩:=h
  refine wpIn_block (ih W n ro ctx lk e ds s x1 e1 ds1 s1 h1 σ w ē a dc roc _ hS hE hF hD hO ?_)
  intro σ1 w1 ē1 a1 dc1 y1 y2 y3 y4 y5
  cases x1 with
  | n=>
   simp only [Option.some.injEq,Prod.mk.injEq] at h2
   obtain ⟨rfl,rfl,rfl,rfl⟩:=h2
   exact hQ σ1 w1 ē1 a1 dc1 y1 y2 y3 y4 y5
  | r=>
   simp only [Option.some.injEq,Prod.mk.injEq] at h2
   obtain ⟨rfl,rfl,rfl,rfl⟩:=h2
   exact hQ σ1 w1 ē1 a1 dc1 y1 y2 y3 y4 y5
  | x i=>
   simp only at h2
   show (if i=id then Q .normal a1 w1 else Q (.exit i) a1 w1)
   cases hb:Nat.beq i id with
   | true=>
    simp only [hb,cond_true,Option.some.injEq,Prod.mk.injEq] at h2
    obtain ⟨rfl,rfl,rfl,rfl⟩:=h2
    rw [if_pos (Nat.eq_of_beq_eq_true hb)]
    exact hQ σ1 w1 ē1 a1 dc1 y1 y2 y3 y4 y5
   | false=>
    simp only [hb,cond_false,Option.some.injEq,Prod.mk.injEq] at h2
    obtain ⟨rfl,rfl,rfl,rfl⟩:=h2
    rw [if_neg (by intro e1;subst e1;simp at hb)]
    exact hQ σ1 w1 ē1 a1 dc1 y1 y2 y3 y4 y5
 | loop c1 ih=>
  intro W n ro ctx lk e ds s x e' ds' s' h σ w ē a dc roc Q hS hE hF hD hO hQ
  exact wpIn_loop_rounds (rnd W) (loop_rounds ih (rnd W) e ds s x e' ds' s' h σ w ē a dc roc Q hS hE hF hD hO hQ)
 | scope c1 ih=>
  intro W n ro ctx lk e ds s x e' ds' s' h σ w ē a dc roc Q hS hE hF hD hO hQ
  simp only [stS] at h
  split at h
  ·have hro:roc=none:=by cases roc with
    | none=>rfl
    | some _=>exact hO.elim
   subst hro
   refine (wpIn_wide (n:=0)).2 (wp_scope_straight (wp_mono ((wpIn_wide (n:=0)).1 (ih W n none ctx lk e ds s x e' ds' s' h σ w ē a dc none (fun ex a' w'=>(∀ l,ex≠.goto l)∧Q ex a' w') hS hE hF hD trivial fun σ' w' ē' a' dc' z1 z2 z3 z4 z5=>⟨fun l=>by cases x <;> simp [Xt.ex],hQ σ' w' ē' a' dc' z1 z2 z3 z4 z5⟩)) ?_))
   rintro ex a' w' ⟨h1,h2⟩
   cases ex with
   | goto l=>exact absurd rfl (h1 l)
   | normal=>exact h2
   | exit i=>exact h2
   | ret=>exact h2
   | panic c=>exact h2
   | outgrown=>exact h2
  ·cases h
 | rangeFunc g ps x1 y1 _ _=>
  intro W n ro ctx lk e ds s x e' ds' s' h σ w ē a dc roc Q hS hE hF hD hO hQ
  simp only [stS,rgS] at h
  have hev:=hE.ev g
  split at h
  ·rename_i gf cs hg
   rw [hg] at hev
   obtain ⟨vf,cap,hf,hcap,hv⟩:=hev
   cases (show _=_ from hf)
   cases hgf:ok gf with
   | false=>simp only [hgf,cond_false,reduceCtorEq] at h
   | true=>
    simp only [hgf,cond_true] at h
    have hevg:a.eval g=.func (.func gf) #[] cap.toArray:=by rw [hF.eval];exact hv
    split at h
    ·have hro:roc=none:=by cases roc with
      | none=>rfl
      | some _=>exact hO.elim
     subst hro
     simp only [Option.bind_eq_some_iff] at h
     obtain ⟨s1,h1,h2⟩:=h
     obtain ⟨σ1,e1,z1,z2⟩:=new_ok' (q:=.deferred (some [])) hS h1 (.inl rfl) 0 fun σ' _ _=>rfl
     refine range_ok (n:=n) (σ:=σ1) (w1:=w.alloc (.deferred (some []))) (ē:=ē) (mk:=[{ target:=.collected w.heap.size,args:=#[] }]) (dc:=w.heap.size :: dc) (cap:=cap) hR hok hgf h2 z2 (hE.le z1.le) ⟨hF.size,hF.get,by simp [hF.defers,marksD]⟩ ⟨_,_,rfl,⟨_,e1⟩,hD.le z1.le⟩ e1 (relL_le z1.le hcap) hevg (fun fn=>?_) fun σ' w' ē' a' dc' y1=>hQ σ' w' ē' a' dc' (z1.trans y1)
     have:=run_enterLoop_outer (P:=P) (w:=w) fn a.tmps ps x1 y1
     rw [World.size_alloc]
     exact this
    ·rename_i l0
     split at h
     ·rename_i i0 hc
      split at h
      ·rename_i st pd hg0
       obtain ⟨b,C,q,m1,m2,i2,r2,m3,rfl,mI,ms,mp⟩:=hS.live hg0 (by simp)
       rw [hc] at m3;cases m3
       obtain ⟨C2,hdf⟩:=mI.df
       have hro:roc=some b:=by cases roc with
        | none=>exact hO.elim
        | some b'=>obtain ⟨C',hb'⟩:=hO;rw [m1] at hb';cases hb';rfl
       subst hro
       refine range_ok (n:=n) (σ:=σ) (w1:=w) (ē:=ē) (mk:=[]) (dc:=dc) (cap:=cap) hR hok hgf h hS hE (by simpa using hF) hD hdf hcap hevg (fun fn=>?_) hQ
       exact run_enterLoop_inner m2 fn a.tmps ps x1 y1
      ·cases h
     ·cases h
  ·cases h
theorem evC_ok (hok:GoodFns P ok) (hm:P.follows .mixedOrders=true):∀ k,RecOk P glob B (evC P ok glob k)
 | 0=>fun W n ro ctx lk c e ds s x e' ds' s' h=>by cases h
 | k+1=>fun W n ro ctx lk c e ds s x e' ds' s' h=>by
  rw [evC_eq] at h
  exact step_ok hok hm (evC_ok hok hm k) c W n ro ctx lk e ds s x e' ds' s' h
theorem run_ok (hok:GoodFns P ok) (hm:P.follows .mixedOrders=true) {k g W:Nat} {a:AV} {s:St} {w:World} {K:Cont} (hg:ok g=true) (h:callC P glob (evC P ok glob k) [] [] W g [] ⟨.nil,0⟩=some (a,s)) (hgl:∀ g o a,glob g o=some a→g < w.heap.size∧∃ v,w.cell? ⟨g,o,none⟩=some v∧rel (fun _=>none) a v)
  (hK:∀ σ w' v,Grow w w'→rel σ a v→K v w'):callK P g [] K w:=by
 refine call_ok (ok:=ok) (B:=w.heap.size) (evC_ok hok hm k) W g [] ⟨.nil,0⟩ a s (fun _=>none) w [] K h hg ⟨⟨0,trivial⟩,fun x o hx=>(by cases hx),fun x hx=>(by cases hx),fun x b C hx=>(by cases hx),fun x y o p b C C' hx=>(by cases hx),hgl,fun x hx=>(nomatch hx),Nat.le_refl _⟩ rfl ?_
 intro σ' w' v x1 _ x3
 exact hK σ' w' v (x1.mod.below_grow) x3
end
end Go.K
