/- The code of a function as a predicate over values; its soundness. No conditions. One seat's program for our calculus: its functions that have a body. No conditions. Steps of our calculus as equations; what a value reads as in memory; what a call may have turned. No conditions. The program's data as Lean data (attributes), and what Go's comparison says of them. No conditions. A range over an iterator: its rule in our calculus, and functions that hold one. No conditions. By a program of ours: of each function below the predicate that its code comes to, and that it is sound. No conditions. Contracts: comparing and copying sets of attributes. No conditions but that the slices read as such. Contracts: joining blocks, and the blocks of cells. No conditions but the sizes. Contracts: the document's comparing, and whether blocks are proper. No conditions. Ranges over iterators in use: rounds, marks, a range of no rounds. No conditions. Contracts: what stands at a place. Conditions: the sets' sizes. Contracts: cutting blocks. Conditions: the sizes. Contracts: what is known, and what is looked at. No conditions. Plain laws of blocks: joining, the blocks of cells. No program in sight. Plain laws of blocks: the places that blocks tell. No program in sight. Writing over what was told: cells that may be written, and the loops that write them. No conditions. The program's data as Lean data: runes, changes, ops. What the model's comparing says of them. No conditions. -/
import Derived.Test.YtgmpbihbdbmhoaaGreatDoorZCodecWritesUpto0
import Derived.Tactics
import Derived.Deep.Quiet
import Derived.RangeFuncIn
import Derived.TacticsIn
import Derived.Test.YtgmpbihbdbmhoaaGreatDoorProg
import Derived.KernelRfl
import GoSem.Claims
import Derived.Laws.AppendOwnNone
import Derived.WalkKit
import Derived.RangeFuncOwn
import Derived.RangeFuncLeaves
namespace Go.K
open Go

inductive Ann where
 | nil
 | node (L:List Nat) (W:List (Nat × Nat)) (a b:Ann)
 | cut (L:List Nat) (W:List (Nat × Nat)) (a b:Ann)
 | draw
 | dg (eff:List Nat) (AN Gs:List (List Nat))
 | dc (eff:List Nat) (AN Gs:List (List Nat))
 | dt (eff:List Nat) (AN Gs:List (List Nat)) (t:Ord)

def inR:List (Nat × Nat)→Nat→Bool
 | [],_=>false
 | (lo,hi) :: r,j=>(Nat.ble lo j && Nat.ble j hi) || inR r j
def lk:List Nat→List Value→Nat→Value→Value
 | [],_,_,d=>d
 | l :: L,vs,j,d=>bif Nat.beq l j then vs.headD undef else lk L vs.tail j d
def mix (L:List Nat) (W:List (Nat × Nat)) (vs:List Value) (h e:Env):Env:=fun j=>lk L vs j (bif inR W j then h j else e j)

def wrIn (W:List (Nat × Nat)):Code→Bool
 | .region _ ops _=>ops.toList.all fun o=>match o.dst with | some d=>inR W d | none=>true
 | .seq a b=>wrIn W a && wrIn W b
 | .cond _ a b=>wrIn W a && wrIn W b
 | .block _ a=>wrIn W a
 | .loop a=>wrIn W a
 | .scope a=>wrIn W a
 | .rangeFunc ..=>false
 | _=>true

def Wr:Code→Nat→Prop
 | .region _ ops _,j=>∃ o ∈ ops.toList,o.dst=some j
 | .seq a b,j=>Wr a j∨Wr b j
 | .cond _ a b,j=>Wr a j∨Wr b j
 | .block _ a,j=>Wr a j
 | .loop a,j=>Wr a j
 | .scope a,j=>Wr a j
 | .rangeFunc ..,_=>True
 | _,_=>False

theorem wrIn_spec {W:List (Nat × Nat)}:∀ {c:Code},wrIn W c=true→∀ j,Wr c j→inR W j=true
 | .region _ ops _,h,j,⟨o,ho,hd⟩=>by
  simp only [wrIn,List.all_eq_true] at h
  have:=h o ho;rw [hd] at this;exact this
 | .seq a b,h,j,hj=>by
  simp only [wrIn,Bool.and_eq_true] at h
  exact hj.elim (wrIn_spec h.1 j) (wrIn_spec h.2 j)
 | .cond _ a b,h,j,hj=>by
  simp only [wrIn,Bool.and_eq_true] at h
  exact hj.elim (wrIn_spec h.1 j) (wrIn_spec h.2 j)
 | .block _ a,h,j,hj=>wrIn_spec (c:=a) h j hj
 | .loop a,h,j,hj=>wrIn_spec (c:=a) h j hj
 | .scope a,h,j,hj=>wrIn_spec (c:=a) h j hj
 | .rangeFunc ..,h,_,_=>by simp [wrIn] at h
 | .skip,_,_,hj=>hj.elim
 | .exit _,_,_,hj=>hj.elim
 | .label _,_,_,hj=>hj.elim
 | .goto _,_,_,hj=>hj.elim
 | .ret,_,_,hj=>hj.elim
 | .refuse _,_,_,hj=>hj.elim

theorem lk_map (e:Env) (L:List Nat) (j:Nat) (d:Value):lk L (L.map e) j d=if j ∈ L then e j else d:=by
 induction L with
 | nil=>simp [lk]
 | cons l L ih=>
  simp only [lk,List.map_cons,List.headD_cons,List.tail_cons,ih]
  cases hb:Nat.beq l j with
  | true=>have:=Nat.eq_of_beq_eq_true hb;subst this;simp
  | false=>
   have:j≠l:=by intro e;subst e;simp at hb
   simp [this]
theorem mix_self {L:List Nat} {W:List (Nat × Nat)} {e e':Env} (h:∀ j,inR W j=false→e' j=e j):mix L W (L.map e') e' e=e':=by
 funext j
 simp only [mix,lk_map]
 split
 ·rfl
 ·cases hw:inR W j with
  | true=>simp
  | false=>simp [h j hw]

variable (P:Program) (ok:Nat→Bool) (n:Nat)

def roundK (P:Program) (l:Nat) (args:List Value) (K:Cont) (w:World):Prop:=
 ∃ f tmps asg body,(Instr.yield l args.toArray).run P w=.ok (.round l f tmps asg body) w∧RoundIn Fence.wide 0 P l f tmps asg body w fun e w'=>∃ v,e=.returned v∧K v w'
def callyK (P:Program) (ok:Nat→Bool) (f:Value) (args:List Value) (K:Cont) (w:World):Prop:=
 callvK P ok f args K w∨∃ l,f=.func (.yield l) #[] #[]∧roundK P l args K w
def opY (o:Oper) (ρ:Operand→Value) (K:Cont) (w:World):Prop:=
 match o.op with
 | .call c=>match c.callee with
  | .value (.func _)=>opD P ok o ρ K w
  | .value f=>callyK P ok (ρ f) (c.args.toList.map ρ) K w
  | _=>opD P ok o ρ K w
 | _=>opD P ok o ρ K w

def opsD (all:List Oper) (K:Env→World→Prop):List Oper→Nat→List (Nat × Option Bool)→Env→World→Prop
 | [],_,_,e,w=>K e w
 | o :: rest,i,kn,e,w=>
  bif clash o.dst kn all then False else
  match o.guard with
  | none=>opY P ok o (ev e) (fun v w'=>opsD all K rest (i+1) kn (updO n e o.dst v) w') w
  | some (j,want)=>match lookK kn j with
   | some (some b)=>bif sameB b want then opY P ok o (ev e) (fun v w'=>opsD all K rest (i+1) kn (updO n e o.dst v) w') w
     else opsD all K rest (i+1) ((i,none) :: kn) (updO n e o.dst undef) w
   | some none=>opsD all K rest (i+1) ((i,none) :: kn) (updO n e o.dst undef) w
   | none=>match dstAt all j with
    | some d=>bif clash o.dst ((j,none) :: kn) all then False else condK (e d)
      (bif want then opY P ok o (ev (upd n e d (.bool true))) (fun v w'=>opsD all K rest (i+1) ((j,some true) :: kn) (updO n (upd n e d (.bool true)) o.dst v) w') w
       else opsD all K rest (i+1) ((i,none) :: (j,some true) :: kn) (updO n (upd n e d (.bool true)) o.dst undef) w)
      (bif want then opsD all K rest (i+1) ((i,none) :: (j,some false) :: kn) (updO n (upd n e d (.bool false)) o.dst undef) w
       else opY P ok o (ev (upd n e d (.bool false))) (fun v w'=>opsD all K rest (i+1) ((j,some false) :: kn) (updO n (upd n e d (.bool false)) o.dst v) w') w)
    | none=>False

def qld1K (C:World→Prop) (x:Value) (K:Value→Prop):Prop:=∃ a v,x=.pointer (some a)∧(∀ w,C w→w.cell? a=some v)∧K v
def qldnK (C:World→Prop) (k:Nat) (x:Value) (K:Value→Prop):Prop:=
 ∃ a vs,x=.pointer (some a)∧List.length vs=k∧(∀ w,C w→∀ j v,vs[j]?=some v→w.cell? (a.add j)=some v)∧K (.agg vs.toArray)
def qcallK (P:Program) (C:World→Prop) (g:Nat) (args:List Value) (K:Value→Prop):Prop:=
 ∃ v,(∀ w,C w→callK P g args (fun v' w'=>v'=v∧C w') w)∧K v
def qrunK (P:Program) (C:World→Prop) (s:Sem Value) (K:Value→Prop):Prop:=∃ v,(∀ w,C w→s.run P w=.ok v w)∧K v
def qextK (P:Program) (C:World→Prop) (g:Nat) (args:List Value) (K:Value→Prop):Prop:=∃ v,(∀ w,C w→(callFunc g args.toArray).run P w=.ok (.value v) w)∧K v
def DrawK (w:World) (F:(World→Prop)→Prop):Prop:=∃ C:World→Prop,C w.drew∧F C

def opQ (C:World→Prop) (o:Oper) (ρ:Operand→Value) (K:Value→Prop) (w:World):Prop:=
 match o.op with
 | .load t x=>match aggOf P t with | some (false,_)=>qld1K C (ρ x) K | some (true,k)=>qldnK C k (ρ x) K | none=>False
 | .binOp op t x y _=>bif pureBin P op t y then binD P op t y (ρ x) (ρ y) K False
   else qrunK P C (binS op t x y (ρ x) (ρ y)) K
 | .call c=>match c.callee with
  | .value (.func g)=>bif ok g then qcallK P C g (c.args.toList.map ρ) K else qextK P C g (c.args.toList.map ρ) K
  | _=>bif pureOp P o then opD P ok o ρ (fun v _=>K v) w else False
 | .convert s d x=>qrunK P C (convert s d (ρ x)) K
 | .slice t x lo hi mx=>qrunK P C (Instr.sliceAt t (ρ x) (lo.map ρ) (hi.map ρ) (mx.map ρ)) K
 | _=>bif pureOp P o then opD P ok o ρ (fun v _=>K v) w else False

def opsQ (C:World→Prop) (all:List Oper) (K:Env→Prop) (w:World):List Oper→Nat→List (Nat × Option Bool)→Env→Prop
 | [],_,_,e=>K e
 | o :: rest,i,kn,e=>
  bif clash o.dst kn all then False else
  match o.guard with
  | none=>opQ P ok C o (ev e) (fun v=>opsQ C all K w rest (i+1) kn (updO n e o.dst v)) w
  | some (j,want)=>match lookK kn j with
   | some (some b)=>bif sameB b want then opQ P ok C o (ev e) (fun v=>opsQ C all K w rest (i+1) kn (updO n e o.dst v)) w
     else opsQ C all K w rest (i+1) ((i,none) :: kn) (updO n e o.dst undef)
   | some none=>opsQ C all K w rest (i+1) ((i,none) :: kn) (updO n e o.dst undef)
   | none=>match dstAt all j with
    | some d=>bif clash o.dst ((j,none) :: kn) all then False else condK (e d)
      (bif want then opQ P ok C o (ev (upd n e d (.bool true))) (fun v=>opsQ C all K w rest (i+1) ((j,some true) :: kn) (updO n (upd n e d (.bool true)) o.dst v)) w
       else opsQ C all K w rest (i+1) ((i,none) :: (j,some true) :: kn) (updO n (upd n e d (.bool true)) o.dst undef))
      (bif want then opsQ C all K w rest (i+1) ((i,none) :: (j,some false) :: kn) (updO n (upd n e d (.bool false)) o.dst undef)
       else opQ P ok C o (ev (upd n e d (.bool false))) (fun v=>opsQ C all K w rest (i+1) ((j,some false) :: kn) (updO n (upd n e d (.bool false)) o.dst v)) w)
    | none=>False

def ndef (o:Oper):Bool:=match o.op with | .defer _=>false | _=>true
def rdB:Code→Bool
 | .region _ ops draw=>!draw || ops.toList.all ndef
 | .seq a b=>rdB a && rdB b
 | .cond _ a b=>rdB a && rdB b
 | .block _ a=>rdB a
 | .loop a=>rdB a
 | .skip=>true
 | .exit _=>true
 | .ret=>true
 | _=>false
def bEx (id:Nat) (Q:EQ):EQ:=fun ex e w=>match ex with
 | .exit i=>bif Nat.beq i id then Q .normal e w else Q (.exit i) e w
 | .normal=>Q .normal e w | .ret=>Q .ret e w | .goto l=>Q (.goto l) e w | .panic c=>Q (.panic c) e w | .outgrown=>Q .outgrown e w
def gEx (Q:EQ):EQ:=fun ex e w=>match ex with
 | .goto _=>False
 | .normal=>Q .normal e w | .exit i=>Q (.exit i) e w | .ret=>Q .ret e w | .panic c=>Q (.panic c) e w | .outgrown=>Q .outgrown e w
def nEx (N:Env→World→Prop) (Q:EQ):EQ:=fun ex e w=>match ex with
 | .normal=>N e w
 | .exit i=>Q (.exit i) e w | .ret=>Q .ret e w | .goto l=>Q (.goto l) e w | .panic c=>Q (.panic c) e w | .outgrown=>Q .outgrown e w

def D:Code→Ann→EQ→Env→World→Prop
 | .skip,_,Q,e,w=>Q .normal e w
 | .region _ ops draw,an,Q,e,w=>match draw with
  | false=>opsD P ok n ops.toList (fun e w=>Q .normal e w) ops.toList 0 [] e w
  | true=>match an with
   | .draw=>bif Region.lexB .any ops then DrawK w (fun C=>opsQ P ok n C ops.toList (fun e'=>∀ w':World,C w'→Q .normal e' w') w ops.toList 0 [] e) else False
   | .dg eff AN Gs=>bif gokB n ops.toList eff AN Gs then DrawG eff AN w.drew fun A M St=>eachL P ok n ops.toList eff AN e w.drew A M St
     (groupL P ok n ops.toList eff AN e w.drew A M St (∀ w',Mod (AllM eff M) w.drew w'→walkD P ok n ops.toList eff A St w' (fun _=>true) (fun _ e'=>Q .normal e' w') ops.toList 0 [] e) Gs) eff else False
   | .dc eff AN Gs=>bif gokB n ops.toList eff AN Gs && chainB eff AN then DrawC eff AN w.drew fun M St=>chainD P ok n ops.toList eff M St w.drew (fun e' w'=>Q .normal e' w') ops.toList 0 [] e w.drew else False
   | .dt eff AN Gs t=>bif gokB n ops.toList eff AN Gs && treeB ops.toList.length eff AN t then DrawC eff AN w.drew fun M St=>chainT P ok n ops.toList eff M St w.drew (fun e' w'=>Q .normal e' w') t [] e w.drew else False
   | _=>False
 | .seq x y,an,Q,e,w=>match an with
  | .node _ _ a b=>D x a (nEx (fun e' w'=>D y b Q e' w') Q) e w
  | .cut L W a b=>bif wrIn W x then JoinK (fun vs w'=>∀ h:Env,D y b Q (mix L W vs h e) w') (fun J=>D x a (nEx (fun e' w'=>J (L.map e') w') Q) e w) else False
  | _=>False
 | .cond c x y,an,Q,e,w=>match an with
  | .node _ _ a b=>condK (ev e c) (D x a Q e w) (D y b Q e w)
  | _=>False
 | .block id x,an,Q,e,w=>D x an (bEx id Q) e w
 | .loop x,an,Q,e,w=>match an with
  | .node L W a _=>bif wrIn W x then LoopK (L.map e) (fun vs again w'=>∀ h:Env,D x a (nEx (fun e' w''=>again (L.map e') w'') Q) (mix L W vs h e) w') w else False
  | _=>False
 | .exit id,_,Q,e,w=>Q (.exit id) e w
 | .ret,_,Q,e,w=>Q .ret e w
 | .label _,_,Q,e,w=>Q .normal e w
 | .scope x,an,Q,e,w=>D x an (gEx Q) e w
 | _,_,_,_,_=>False

variable {P ok n}

def lift (n:Nat) (ds:List Deferred) (c:Code) (e:Env) (Q:EQ):Exit→Act→World→Prop:=fun ex a w=>∃ e',Fr ds n e' a∧(∀ j,¬ Wr c j→e' j=e j)∧Q ex e' w

def opsPost (ds:List Deferred) (n:Nat) (l:List Oper) (e:Env) (K:Env→World→Prop):Exit→Act→World→Prop:=
 fun ex a w=>ex=.normal∧∃ e',Fr ds n e' a∧(∀ j,(∀ o ∈ l,o.dst≠some j)→e' j=e j)∧K e' w

theorem opsPost_cons {ds:List Deferred} {l:List Oper} {o:Oper} {e:Env} {v:Value} {K:Env→World→Prop} {ex:Exit} {a:Act} {w:World} (h:opsPost ds n l (updO n e o.dst v) K ex a w):opsPost ds n (o :: l) e K ex a w:=by
 obtain ⟨h0,e',h1,h2,h3⟩:=h
 refine ⟨h0,e',h1,fun j hj=>?_,h3⟩
 rw [h2 j (fun o' ho'=>hj o' (by simp [ho']))]
 exact updO_other (hj o (by simp))
abbrev Wd (ro:Option Nat):Fence:={ Fence.wide with round:=ro }
theorem wpListIn_mono {F:Fence} {m:Nat} {ops:Array Oper} {Q Q':Exit→Act→World→Prop} (hq:∀ e a w,Q e a w→Q' e a w):∀ (l:List Oper) (a:Act) (w:World),wpListIn F m P ops Q l a w→wpListIn F m P ops Q' l a w:=by
 have hL:LetsOut Q→LetsOut Q':=fun ⟨a,w,h⟩=>⟨a,w,hq _ _ _ h⟩
 intro l
 induction l with
 | nil=>intro a w h;exact hq _ _ _ h
 | cons o r ih=>
  intro a w h
  unfold wpListIn at h ⊢
  split
  ·rename_i hw;rw [if_pos hw] at h
   unfold Oper.wpIn at h ⊢
   refine ⟨h.1,?_⟩
   replace h:=h.2
   generalize (o.semAt F.round a.eval).run P w=r' at h ⊢
   match r',h with
   | .ok (.value v) w',h=>exact ih _ _ h
   | .ok .skip w',h=>exact ih _ _ h
   | .ok (.defer d) w',h=>exact ih _ _ h
   | .ok (.enter f args) w',h=>
    exact ⟨h.1,CallsIn.mono h.2 fun en w'' hh=>by
     cases en with
     | returned v=>exact ih _ _ hh
     | panicked ch=>exact hq _ _ _ hh
     | outgrown=>exact hL hh⟩
   | .ok (.row row args) w',h=>exact ⟨h.1,RowsIn.mono h.2 fun v w'' hh=>ih _ _ hh⟩
   | .ok (.round l f tmps assign body) w',h=>
    exact ⟨h.1,RoundIn.mono h.2 fun en w'' hh=>by
     cases en with
     | returned v=>exact ih _ _ hh
     | panicked ch=>exact hq _ _ _ hh
     | outgrown=>exact hL hh⟩
   | .halt (.panic v) w',h=>exact hq _ _ _ h
  ·rename_i hw;rw [if_neg hw] at h;exact ⟨h.1,ih _ _ h.2⟩

theorem uponIn_of {ro:Option Nat} {m:Nat} {K:Cont} {w:World} {o:Oper} {a:Act} {next:Act→World→Prop} {Q:Exit→Act→World→Prop} {r:Result Next}
  (h:NextOk w r K P) (hK:∀ v w',K v w'→next (a.put o.dst v) w'):o.uponIn (Wd ro) m P a next Q r:=by
 match r,h with
 | .ok (.value v) w',h=>exact hK _ _ h
 | .ok .skip w',h=>exact hK _ _ h
 | .ok (.enter f args) w',h=>
  obtain ⟨rfl,h⟩:=h
  exact ⟨(fun h=>by cases h),(callsIn_wide.2 (Calls.mono h fun e w'' ⟨v,he,hv⟩=>by subst he;exact hK _ _ hv):CallsIn Fence.wide _ _ _ _ _ _)⟩
theorem opD_noDefer {o:Oper} {ρ:Operand→Value} {K:Cont} {w:World} (h:opD P ok o ρ K w):∀ c,o.op≠.defer c:=by
 intro c hc
 simp only [opD,hc] at h
theorem opY_upon (hok:GoodFns P ok) {ro:Option Nat} {m:Nat} {K:Cont} {w:World} {o:Oper} {a:Act} {e:Env} {next:Act→World→Prop} {Q:Exit→Act→World→Prop} (hev:a.eval=ev e)
  (h:opY P ok o (ev e) K w) (hK:∀ v w',K v w'→next (a.put o.dst v) w'):o.wpIn (Wd ro) m P a w next Q:=by
 have old:opD P ok o (ev e) K w→o.wpIn (Wd ro) m P a w next Q:=by
  intro h
  refine ⟨fun _ _=>trivial,?_⟩
  rw [Oper.semAt_eq _ _ _ (opD_noDefer h),hev]
  exact uponIn_of (opD_nx hok (fun _=>rfl) (fun _=>rfl) h) hK
 obtain ⟨dst,op,type,pos,after,guard⟩:=o
 cases op with
 | call c=>
  obtain ⟨callee,args,ats⟩:=c
  cases callee with
  | value f=>
   have yl:callyK P ok (ev e f) (args.toList.map (ev e)) K w→(opD P ok ⟨dst,.call ⟨.value f,args,ats⟩,type,pos,after,guard⟩ (ev e) K w↔callvK P ok (ev e f) (args.toList.map (ev e)) K w)→Oper.wpIn (Wd ro) m P ⟨dst,.call ⟨.value f,args,ats⟩,type,pos,after,guard⟩ a w next Q:=by
    rintro (h | ⟨l,hf,fn,tmps,asg,body,h1,h2⟩) hiff
    ·exact old (hiff.2 h)
    ·refine ⟨fun _ _=>trivial,?_⟩
     rw [Oper.semAt_eq _ _ _ (by simp),hev]
     have hr:(execOp (ev e) ⟨dst,.call ⟨.value f,args,ats⟩,type,pos,after,guard⟩).run P w=.ok (.round l fn tmps asg body) w:=by
      simp only [execOp,resolve,hf,Deferred.ofValue,pure_bind,invoke,args_map]
      simpa [callFunc] using h1
     rw [hr]
     have h3:=h2.2
     refine ⟨(fun h=>by cases h),trivial,fun c cs _=>?_⟩
     obtain ⟨en,w'',⟨v,rfl,hv⟩,hs⟩:=h3 c cs (room_wide _)
     exact ⟨.returned v,w'',hK _ _ hv,hs⟩
   cases f with
   | func g=>exact old h
   | tmp t=>exact yl h Iff.rfl
   | const v=>exact yl h Iff.rfl
   | global g=>exact yl h Iff.rfl
  | invoke r m=>exact old h
  | builtin b=>exact old h
 | _=>exact old h

theorem opsD_sound {ds:List Deferred} {ro:Option Nat} {m:Nat} (hok:GoodFns P ok) {ops:Array Oper} {K:Env→World→Prop}:∀ (l:List Oper) (i:Nat) (kn:List (Nat × Option Bool)) (e:Env) (w:World) (a:Act),
  ops.toList.drop i=l→KnOk ops.toList kn e→Fr ds n e a→opsD P ok n ops.toList K l i kn e w→wpListIn (Wd ro) m P ops (opsPost ds n l e K) l a w:=by
 intro l
 induction l with
 | nil=>
  intro i kn e w a _ _ hf h
  exact ⟨rfl,e,hf,fun _ _=>rfl,h⟩
 | cons o rest ih=>
  intro i kn e w a hl hkn hf h
  have hoi:dstAt ops.toList i=o.dst:=by
   have:ops.toList[i]?=some o:=by
    have:=congrArg (fun l=>l[0]?) hl
    simpa using this
   rw [dstAt_get,this];rfl
  have hl':ops.toList.drop (i+1)=rest:=by
   have:=congrArg List.tail hl
   simpa using this
  have lift1:∀ (v:Value) (a':Act) (w':World),wpListIn (Wd ro) m P ops (opsPost ds n rest (updO n e o.dst v) K) rest a' w'→wpListIn (Wd ro) m P ops (opsPost ds n (o :: rest) e K) rest a' w':=
   fun v a' w' hh=>wpListIn_mono (fun ex a w=>opsPost_cons) rest a' w' hh
  simp only [opsD] at h
  cases hcl:clash o.dst kn ops.toList with
  | true=>simp only [hcl,cond_true] at h
  | false=>
   simp only [hcl,cond_false] at h
   have run1:∀ kn',(∀ v,KnOk ops.toList kn' (updO n e o.dst v))→opY P ok o (ev e) (fun v w'=>opsD P ok n ops.toList K rest (i+1) kn' (updO n e o.dst v) w') w→
     o.wpIn (Wd ro) m P a w (wpListIn (Wd ro) m P ops (opsPost ds n (o :: rest) e K) rest) (opsPost ds n (o :: rest) e K):=by
    intro kn' hk hop
    refine opY_upon hok hf.eval hop fun v w' hv=>?_
    exact lift1 v _ _ (ih (i+1) kn' _ w' _ hl' (hk v) (hf.put o.dst v) hv)
   have skip1:∀ kn',KnOk ops.toList kn' (updO n e o.dst undef)→opsD P ok n ops.toList K rest (i+1) ((i,none) :: kn') (updO n e o.dst undef) w→
     wpListIn (Wd ro) m P ops (opsPost ds n (o :: rest) e K) rest (a.put o.dst undef) w:=by
    intro kn' hk hop
    refine lift1 undef _ _ (ih (i+1) _ _ w _ hl' (hk.cons ?_) (hf.put o.dst undef) hop)
    unfold yv
    rw [hoi]
    cases hd:o.dst with
    | none=>rfl
    | some d=>
     have:=(hf.put o.dst undef).get d
     rw [hd] at this
     show bv (updO n e (some d) undef d)=none
     rw [←this]
     by_cases hlt:d < a.tmps.size
     ·simp [Act.put,hlt];rfl
     ·simp [Act.put,hlt];rfl
   have hy:=fun j=>yielded_of (n:=n) hf (ops:=ops) (j:=j)
   unfold wpListIn
   cases hg:o.guard with
   | none=>
    simp only [hg] at h
    rw [if_pos (by simp [Region.wanted,hg])]
    exact (run1 kn (fun v=>hkn.put hcl v) h)
   | some g=>
    obtain ⟨j,want⟩:=g
    simp only [hg] at h
    have hw:Region.wanted o (yielded ops a.tmps)=(yv ops.toList e j == some want):=by simp only [Region.wanted,hg,hy]
    rw [hw]
    cases hlk:lookK kn j with
    | some b=>
     rw [hkn j b hlk]
     simp only [hlk] at h
     cases b with
     | none=>
      simp only at h
      rw [if_neg (by simp)]
      exact ⟨fun _ _=>trivial,skip1 kn (hkn.put hcl _) h⟩
     | some b=>
      simp only [sameB_eq] at h
      cases hbw:(b == want) with
      | true=>
       simp only [hbw,cond_true] at h
       rw [if_pos (by simpa using hbw)]
       exact (run1 kn (fun v=>hkn.put hcl v) h)
      | false=>
       simp only [hbw,cond_false] at h
       rw [if_neg (by simpa using hbw)]
       exact ⟨fun _ _=>trivial,skip1 kn (hkn.put hcl _) h⟩
    | none=>
     simp only [hlk] at h
     cases hd:dstAt ops.toList j with
     | none=>simp only [hd] at h
     | some d=>
      simp only [hd] at h
      cases hcl2:clash o.dst ((j,none) :: kn) ops.toList with
      | true=>simp only [hcl2,cond_true] at h
      | false=>
       simp only [hcl2,cond_false] at h
       have hyv:yv ops.toList e j=bv (e d):=by simp [yv,hd]
       have hk2:∀ b,bv (e d)=b→∀ v,KnOk ops.toList ((j,b) :: kn) (updO n e o.dst v):=fun b hb v=>
        (hkn.cons (hyv.trans hb)).put (d:=o.dst) (by
         simp only [clash] at hcl2 ⊢
         cases hdd:o.dst with
         | none=>rfl
         | some t=>rw [hdd] at hcl2;simpa [List.any_cons] using hcl2) v
       rw [hyv]
       rcases condK_bool h with ⟨hv,hb⟩ | ⟨hv,hb⟩
       ·rw [upd_self hv] at hb
        rw [hv]
        cases want with
        | true=>
         simp only [cond_true] at hb
         rw [if_pos (by rfl)]
         exact (run1 _ (hk2 _ (by rw [hv];rfl)) hb)
        | false=>
         simp only [cond_false] at hb
         rw [if_neg (by simp [bv])]
         exact ⟨fun _ _=>trivial,skip1 _ (hk2 _ (by rw [hv];rfl) _) hb⟩
       ·rw [upd_self hv] at hb
        rw [hv]
        cases want with
        | true=>
         simp only [cond_true] at hb
         rw [if_neg (by simp [bv])]
         exact ⟨fun _ _=>trivial,skip1 _ (hk2 _ (by rw [hv];rfl) _) hb⟩
        | false=>
         simp only [cond_false] at hb
         rw [if_pos (by rfl)]
         exact (run1 _ (hk2 _ (by rw [hv];rfl)) hb)

theorem qupon {C:World→Prop} {w:World} {v:Value} {r:Result Next} (_:C w) (h:NextOk w r (fun v' w''=>v'=v∧C w''∧(w''=w∨∃ f args w3,r=.ok (.enter f args) w3)) P):Oper.quietUpon P C w v r:=by
 match r,h with
 | .ok (.value v') w'',h=>
  obtain ⟨h1,_,h2 | ⟨f,a,w3,h2⟩⟩:=h
  ·exact ⟨h2,h1⟩
  ·cases h2
 | .ok .skip w'',h=>
  obtain ⟨h1,_,h2 | ⟨f,a,w3,h2⟩⟩:=h
  ·exact ⟨h2,h1.symm⟩
  ·cases h2
 | .ok (.enter f args) w'',h=>exact ⟨h.1,Calls.mono h.2 fun e w3 ⟨v',h1,h2,h3,_⟩=>⟨by rw [h1,h2],h3⟩⟩
theorem nextOk_mono {w:World} {r:Result Next} {K K':Cont} (h:NextOk w r K P) (hk:∀ v w',K v w'→K' v w'):NextOk w r K' P:=by
 match r,h with
 | .ok (.value v') w'',h=>exact hk _ _ h
 | .ok .skip w'',h=>exact hk _ _ h
 | .ok (.enter f args) w'',h=>exact ⟨h.1,Calls.mono h.2 fun e w3 ⟨v',h1,h2⟩=>⟨v',h1,hk _ _ h2⟩⟩
theorem opQ_quiet {ds:List Deferred} (hok:GoodFns P ok) {C:World→Prop} {w:World} {o:Oper} {a:Act} {e:Env} {K:Value→Prop} {next:Act→Prop} (hf:Fr ds n e a)
  (h:opQ P ok C o (ev e) K w) (hn:∀ v,K v→next (a.put o.dst v)):o.quiet P a C next:=by
 have hev:=hf.eval
 have conv:∀ v,(∀ w',C w'→opD P ok o (ev e) (fun v' w''=>v'=v∧w''=w') w')→K v→o.quiet P a C next:=by
  intro v hv hk
  refine ⟨v,fun w' hw'=>?_,hn v hk⟩
  have:=opD_nx hok (fun _=>rfl) (fun _=>rfl) (hv w' hw')
  unfold Oper.quietAt
  rw [hev]
  exact qupon hw' (nextOk_mono this fun v' w'' ⟨h1,h2⟩=>⟨h1,h2 ▸ hw',.inl h2⟩)
 have pure_:pureOp P o=true→opD P ok o (ev e) (fun v _=>K v) w→o.quiet P a C next:=by
  intro hp hd
  obtain ⟨v,h1,h2⟩:=pure_det hp hd
  exact conv v (fun w' _=>h2 _ w' ⟨rfl,rfl⟩) h1
 have dflt:(bif pureOp P o then opD P ok o (ev e) (fun v _=>K v) w else False)→o.quiet P a C next:=by
  intro hd
  cases hp:pureOp P o with
  | true=>rw [hp] at hd;exact pure_ hp hd
  | false=>rw [hp] at hd;exact hd.elim
 obtain ⟨dst,op,type,pos,after,guard⟩:=o
 cases op with
 | load t x=>
  simp only [opQ] at h
  split at h
  ·rename_i k ha
   obtain ⟨p,v,h1,h2,h3⟩:=h
   refine conv v (fun w' hw'=>?_) h3
   simp only [opD,ha]
   exact ⟨p,v,h1,h2 w' hw',rfl,rfl⟩
  ·rename_i k ha
   obtain ⟨p,vs,h1,hl,h2,h3⟩:=h
   refine conv _ (fun w' hw'=>?_) h3
   simp only [opD,ha]
   exact ⟨p,vs,h1,hl,h2 w' hw',rfl,rfl⟩
  ·exact h.elim
 | binOp op t x y yt=>
  simp only [opQ] at h
  cases hp:pureBin P op t y with
  | true=>
   rw [hp] at h;simp only [cond_true] at h
   obtain ⟨v,h1,h2⟩:=pureBin_det hp h
   exact conv v (fun w' _=>h2 _ _ ⟨rfl,rfl⟩) h1
  | false=>
   rw [hp] at h;simp only [cond_false] at h
   obtain ⟨v,h1,h2⟩:=h
   refine ⟨v,fun w' hw'=>?_,hn v h2⟩
   unfold Oper.quietAt
   rw [hev]
   have:(execOp (ev e) ⟨dst,.binOp op t x y yt,type,pos,after,guard⟩).run P w'=.ok (.value v) w':=by
    have h3:=h1 w' hw'
    simp only [binS] at h3
    simp only [execOp]
    rw [Sem.run_bind,h3];rfl
   rw [this];exact ⟨rfl,rfl⟩
 | call c=>
  obtain ⟨callee,args,ats⟩:=c
  simp only [opQ] at h
  cases callee with
  | value f=>
   cases f with
   | func g=>
    simp only at h
    have h3:(execOp (ev e) ⟨dst,.call ⟨.value (.func g),args,ats⟩,type,pos,after,guard⟩)=callFunc g (args.toList.map (ev e)).toArray:=by
     simp only [execOp,resolve,Deferred.ofValue,ev,pure_bind,invoke,args_map]
     simp
    cases hg:ok g with
    | false=>
     rw [hg] at h;simp only [cond_false] at h
     obtain ⟨v,h1,h2⟩:=h
     refine ⟨v,fun w' hw'=>?_,hn v h2⟩
     unfold Oper.quietAt
     rw [hev,h3,h1 w' hw']
     exact ⟨rfl,rfl⟩
    | true=>
     rw [hg] at h;simp only [cond_true] at h
     obtain ⟨v,h1,h2⟩:=h
     refine ⟨v,fun w' hw'=>?_,hn v h2⟩
     unfold Oper.quietAt
     rw [hev]
     rw [h3,hok g hg]
     exact ⟨rfl,Calls.mono (h1 w' hw') fun en w3 ⟨v',q1,q2,q3⟩=>⟨by rw [q1,q2],q3⟩⟩
   | _=>exact dflt h
  | _=>exact dflt h
 | convert s d x=>
  obtain ⟨v,h1,h2⟩:=h
  exact conv v (fun w' hw'=>⟨v,w',h1 w' hw',rfl,rfl⟩) h2
 | slice t x lo hi mx=>
  obtain ⟨v,h1,h2⟩:=h
  exact conv v (fun w' hw'=>⟨v,w',h1 w' hw',rfl,rfl⟩) h2
 | _=>exact dflt h

theorem wpQuiet_mono {C:World→Prop} {ops:Array Oper} {Q Q':Act→Prop} (hq:∀ a,Q a→Q' a):∀ (l:List Oper) (a:Act),wpQuiet P ops C Q l a→wpQuiet P ops C Q' l a:=by
 intro l
 induction l with
 | nil=>intro a h;exact hq _ h
 | cons o r ih=>
  intro a h
  unfold wpQuiet at h ⊢
  split
  ·rename_i hw;rw [if_pos hw] at h;exact Oper.quiet_mono ih h
  ·rename_i hw;rw [if_neg hw] at h;exact ih _ h

def opsPostQ (ds:List Deferred) (n:Nat) (l:List Oper) (e:Env) (K:Env→Prop):Act→Prop:=fun a'=>∃ e',Fr ds n e' a'∧(∀ j,(∀ o ∈ l,o.dst≠some j)→e' j=e j)∧K e'

theorem opsQ_sound {ds:List Deferred} (hok:GoodFns P ok) {C:World→Prop} {ops:Array Oper} {K:Env→Prop} {w:World}:∀ (l:List Oper) (i:Nat) (kn:List (Nat × Option Bool)) (e:Env) (a:Act),
  ops.toList.drop i=l→KnOk ops.toList kn e→Fr ds n e a→opsQ P ok n C ops.toList K w l i kn e→
  wpQuiet P ops C (opsPostQ ds n l e K) l a:=by
 intro l
 induction l with
 | nil=>
  intro i kn e a _ _ hf h
  exact ⟨e,hf,fun _ _=>rfl,h⟩
 | cons o rest ih=>
  intro i kn e a hl hkn hf h
  have hoi:dstAt ops.toList i=o.dst:=by
   have:ops.toList[i]?=some o:=by
    have:=congrArg (fun l=>l[0]?) hl
    simpa using this
   rw [dstAt_get,this];rfl
  have hl':ops.toList.drop (i+1)=rest:=by
   have:=congrArg List.tail hl
   simpa using this
  have lift1:∀ (v:Value) (a':Act),wpQuiet P ops C (opsPostQ ds n rest (updO n e o.dst v) K) rest a'→wpQuiet P ops C (opsPostQ ds n (o :: rest) e K) rest a':=
   fun v a' hh=>wpQuiet_mono (fun a ⟨e',h1,h2,h3⟩=>⟨e',h1,fun j hj=>by
    rw [h2 j (fun o' ho'=>hj o' (by simp [ho']))]
    exact updO_other (hj o (by simp)),h3⟩) rest a' hh
  simp only [opsQ] at h
  cases hcl:clash o.dst kn ops.toList with
  | true=>simp only [hcl,cond_true] at h
  | false=>
   simp only [hcl,cond_false] at h
   have run1:∀ kn',(∀ v,KnOk ops.toList kn' (updO n e o.dst v))→opQ P ok C o (ev e) (fun v=>opsQ P ok n C ops.toList K w rest (i+1) kn' (updO n e o.dst v)) w→
     o.quiet P a C (wpQuiet P ops C (opsPostQ ds n (o :: rest) e K) rest):=by
    intro kn' hk hop
    exact opQ_quiet hok hf hop fun v hv=>lift1 v _ (ih (i+1) kn' _ _ hl' (hk v) (hf.put o.dst v) hv)
   have skip1:∀ kn',KnOk ops.toList kn' (updO n e o.dst undef)→opsQ P ok n C ops.toList K w rest (i+1) ((i,none) :: kn') (updO n e o.dst undef)→
     wpQuiet P ops C (opsPostQ ds n (o :: rest) e K) rest (a.put o.dst undef):=by
    intro kn' hk hop
    refine lift1 undef _ (ih (i+1) _ _ _ hl' (hk.cons ?_) (hf.put o.dst undef) hop)
    unfold yv
    rw [hoi]
    cases hd:o.dst with
    | none=>rfl
    | some d=>
     have:=(hf.put o.dst undef).get d
     rw [hd] at this
     show bv (updO n e (some d) undef d)=none
     rw [←this]
     by_cases hlt:d < a.tmps.size
     ·simp [Act.put,hlt];rfl
     ·simp [Act.put,hlt];rfl
   have hy:=fun j=>yielded_of (n:=n) hf (ops:=ops) (j:=j)
   unfold wpQuiet
   cases hg:o.guard with
   | none=>
    simp only [hg] at h
    rw [if_pos (by simp [Region.wanted,hg])]
    exact run1 kn (fun v=>hkn.put hcl v) h
   | some g=>
    obtain ⟨j,want⟩:=g
    simp only [hg] at h
    have hw:Region.wanted o (yielded ops a.tmps)=(yv ops.toList e j == some want):=by simp only [Region.wanted,hg,hy]
    rw [hw]
    cases hlk:lookK kn j with
    | some b=>
     rw [hkn j b hlk]
     simp only [hlk] at h
     cases b with
     | none=>
      simp only at h
      rw [if_neg (by simp)]
      exact skip1 kn (hkn.put hcl _) h
     | some b=>
      simp only [sameB_eq] at h
      cases hbw:(b == want) with
      | true=>
       simp only [hbw,cond_true] at h
       rw [if_pos (by simpa using hbw)]
       exact run1 kn (fun v=>hkn.put hcl v) h
      | false=>
       simp only [hbw,cond_false] at h
       rw [if_neg (by simpa using hbw)]
       exact skip1 kn (hkn.put hcl _) h
    | none=>
     simp only [hlk] at h
     cases hd:dstAt ops.toList j with
     | none=>simp only [hd] at h
     | some d=>
      simp only [hd] at h
      cases hcl2:clash o.dst ((j,none) :: kn) ops.toList with
      | true=>simp only [hcl2,cond_true] at h
      | false=>
       simp only [hcl2,cond_false] at h
       have hyv:yv ops.toList e j=bv (e d):=by simp [yv,hd]
       have hk2:∀ b,bv (e d)=b→∀ v,KnOk ops.toList ((j,b) :: kn) (updO n e o.dst v):=fun b hb v=>
        (hkn.cons (hyv.trans hb)).put (d:=o.dst) (by
         simp only [clash] at hcl2 ⊢
         cases hdd:o.dst with
         | none=>rfl
         | some t=>rw [hdd] at hcl2;simpa [List.any_cons] using hcl2) v
       rw [hyv]
       rcases condK_bool h with ⟨hv,hb⟩ | ⟨hv,hb⟩
       ·rw [upd_self hv] at hb
        rw [hv]
        cases want with
        | true=>
         simp only [cond_true] at hb
         rw [if_pos (by rfl)]
         exact run1 _ (hk2 _ (by rw [hv];rfl)) hb
        | false=>
         simp only [cond_false] at hb
         rw [if_neg (by simp [bv])]
         exact skip1 _ (hk2 _ (by rw [hv];rfl) _) hb
       ·rw [upd_self hv] at hb
        rw [hv]
        cases want with
        | true=>
         simp only [cond_true] at hb
         rw [if_neg (by simp [bv])]
         exact skip1 _ (hk2 _ (by rw [hv];rfl) _) hb
        | false=>
         simp only [cond_false] at hb
         rw [if_pos (by rfl)]
         exact run1 _ (hk2 _ (by rw [hv];rfl)) hb

theorem wpOps_in {ro:Option Nat} {m:Nat} {ops:Array Oper} {Q:Exit→Act→World→Prop} (hQ:¬ LetsOut Q) (hD:ro=none∨ops.toList.all ndef=true):∀ (l:List Nat) (a:Act) (w:World),wpOps P ops Q l a w→wpOpsIn (Wd ro) m P ops Q l a w:=by
 intro l
 induction l with
 | nil=>intro a w h;exact h
 | cons i rest ih=>
  intro a w h
  simp only [wpOps] at h
  simp only [wpOpsIn]
  cases ho:ops[i]? with
  | none=>simp only [ho] at h ⊢;exact ih _ _ h
  | some o=>
   simp only [ho] at h ⊢
   split
   ·rename_i hw
    rw [if_pos hw] at h
    replace h:=h.resolve_right fun h=>hQ h.2
    refine ⟨fun _ _=>trivial,?_⟩
    have hs:o.semAt ro a.eval=execOp a.eval o:=by
     rcases hD with rfl | hD
     ·rfl
     ·refine Oper.semAt_eq _ _ _ fun c hc=>?_
      have:=List.all_eq_true.1 hD o (by rw [Array.mem_toList_iff];exact Array.mem_of_getElem? ho)
      simp [ndef,hc] at this
    rw [show (Wd ro).round=ro from rfl,hs]
    unfold Oper.wp at h
    generalize (execOp a.eval o).run P w=r at h ⊢
    match r,h with
    | .ok (.value v) w',h=>exact ih _ _ h
    | .ok .skip w',h=>exact ih _ _ h
    | .ok (.defer d) w',h=>exact ih _ _ h
    | .ok (.enter f args) w',h=>
     refine ⟨(fun h=>by cases h),(callsIn_wide.2 (Calls.mono h fun e w'' hh=>?_):CallsIn Fence.wide _ _ _ _ _ _)⟩
     cases e with
     | returned v=>exact ih _ _ hh
     | panicked ch=>exact hh
     | outgrown=>exact hh
    | .ok (.row row args) w',h=>
     refine ⟨(fun h=>by cases h),?_⟩
     intro c cs _
     obtain ⟨v,w'',h1,h2⟩:=h c cs
     exact ⟨v,w'',ih _ _ h1,(StepsIn.of_steps h2).mono fun m _=>fenced_wide P m⟩
    | .halt (.panic v) w',h=>exact h
   ·rename_i hw
    rw [if_neg hw] at h
    exact ⟨fun _ _=>trivial,ih _ _ h⟩
theorem wpIn_any {ro:Option Nat} {m:Nat} {id:Nat} {ops:Array Oper} {Q:Exit→Act→World→Prop} {a:Act} {w:World} (hm:P.follows .mixedOrders=true) (hQ:¬ LetsOut Q) (hD:ro=none∨ops.toList.all ndef=true)
  (h:wpAny P .any ops Q ops.size (Array.replicate ops.size false) a { w with drawn:=w.drawn+1 }):(Code.region id ops true).wpIn (Wd ro) m P Q a w:=
 wpIn_region_draw fun t=>wpOps_in hQ hD _ _ _ (by
  simp only [Region.schedule,hm,Bool.true_or,if_true]
  exact wpAny_sound ops.size t _ a _ h)
theorem drawPost_in {ds:List Deferred} {all:List Oper} {e0:Env} {K:Env→World→Prop}:¬ LetsOut (drawPost ds all n e0 K):=by
 rintro ⟨a,w,h,_⟩
 cases h
theorem map_tmps {ds:List Deferred} {L:List Nat} {e:Env} {a:Act} (hf:Fr ds n e a):L.map (fun t=>a.tmps.getD t undef)=L.map e:=List.map_congr_left fun t _=>hf.get t

theorem D_sound {ds:List Deferred} {ro:Option Nat} {m:Nat} (hok:GoodFns P ok) (hm:P.follows .mixedOrders=true):∀ (c:Code) (an:Ann) (Q:EQ) (e:Env) (w:World) (a:Act),ro=none∨rdB c=true→Fr ds n e a→D P ok n c an Q e w→c.wpIn (Wd ro) m P (lift n ds c e Q) a w:=by
 intro c
 induction c with
 | skip=>intro an Q e w a hrd hf h;exact wpIn_skip ⟨e,hf,fun _ _=>rfl,h⟩
 | exit id=>intro an Q e w a hrd hf h;exact wpIn_exit ⟨e,hf,fun _ _=>rfl,h⟩
 | ret=>intro an Q e w a hrd hf h;exact wpIn_ret ⟨e,hf,fun _ _=>rfl,h⟩
 | label l=>intro an Q e w a hrd hf h;exact wpIn_label ⟨e,hf,fun _ _=>rfl,h⟩
 | goto l=>intro an Q e w a hrd hf h;exact h.elim
 | refuse y=>intro an Q e w a hrd hf h;exact h.elim
 | scope x ih=>
  intro an Q e w a hrd hf h
  obtain rfl:ro=none:=hrd.resolve_right (by simp [rdB])
  refine (wpIn_wide (n:=m)).2 (wp_scope_straight (wp_mono ((wpIn_wide (n:=m)).1 (ih an (gEx Q) e w a (.inl rfl) hf h)) ?_))
  rintro ex a' w' ⟨e',h1,h2,h3⟩
  cases ex with
  | goto l=>exact h3.elim
  | normal=>exact ⟨e',h1,fun j hj=>h2 j hj,h3⟩
  | exit i=>exact ⟨e',h1,fun j hj=>h2 j hj,h3⟩
  | ret=>exact ⟨e',h1,fun j hj=>h2 j hj,h3⟩
  | panic c=>exact ⟨e',h1,fun j hj=>h2 j hj,h3⟩
  | outgrown=>exact ⟨e',h1,fun j hj=>h2 j hj,h3⟩
 | rangeFunc f ps x y ih1 ih2=>intro an Q e w a hrd hf h;exact h.elim
 | region id ops draw=>
  intro an Q e w a hrd hf h
  simp only [D] at h
  cases draw with
  | false=>
   refine wpIn_region_list (wpListIn_mono ?_ _ _ _ (opsD_sound hok ops.toList 0 [] e w a rfl (fun j b hb=>by simp [lookK] at hb) hf h))
   rintro ex a' w' ⟨rfl,e',h1,h2,h3⟩
   exact ⟨e',h1,fun j hj=>h2 j (fun o ho hd=>hj ⟨o,ho,hd⟩),h3⟩
  | true=>
   simp only at h
   have hD:ro=none∨ops.toList.all ndef=true:=hrd.imp (fun h=>h) fun h=>by simpa [rdB] using h
   cases an with
   | draw=>
    simp only at h
    cases hB:Region.lexB .any ops with
    | false=>rw [hB] at h;exact h.elim
    | true=>
     rw [hB] at h;simp only [cond_true] at h
     obtain ⟨C,hC,h⟩:=h
     simp only [Region.lexB,Bool.and_eq_true] at hB
     have:=opsQ_sound hok ops.toList 0 [] e a rfl (fun j b hb=>by simp [lookK] at hb) hf h
     refine wpIn_mono (Q:=fun ex a' w'=>ex=.normal∧lift n ds (.region id ops true) e Q .normal a' w') (wpIn_any hm (fun ⟨_,_,h,_⟩=>by cases h) hD ?_) (by rintro ex a' w' ⟨rfl,h⟩;exact h)
     refine wpAny_of_quiet (Q:=fun a'=>∀ w',C w'→lift n ds (.region id ops true) e Q .normal a' w') (fun _ w' hw' h=>⟨rfl,h w' hw'⟩) _ _ _ _ hC ?_
     have h9:=wpAnyQ_lex (C:=C) (md:=.any) hB.1 ops.toList 0 (Array.replicate ops.size false) a (by simp) (by simpa using hB.2) (wpQuiet_mono (Q':=fun a'=>∀ w',C w'→lift n ds (.region id ops true) e Q .normal a' w') (by
      rintro a' ⟨e',h1,h2,h3⟩ w' hw'
      exact ⟨e',h1,fun j hj=>h2 j (fun o ho hd=>hj ⟨o,ho,hd⟩),h3 w' hw'⟩) _ _ this)
     simpa using h9
   | dg eff AN Gs=>
    simp only at h
    cases hB:gokB n ops.toList eff AN Gs with
    | false=>rw [hB] at h;exact h.elim
    | true=>
     rw [hB] at h;simp only [cond_true] at h
     refine wpIn_mono (wpIn_any hm drawPost_in hD (wp_region_G (K:=fun e w=>Q .normal e w) hok hm hf hB h)) ?_
     rintro ex a' w' ⟨rfl,e',h1,h2,h3⟩
     exact ⟨e',h1,fun j hj=>h2 j (fun o ho hd=>hj ⟨o,ho,hd⟩),h3⟩
   | dc eff AN Gs=>
    simp only at h
    cases hB:(gokB n ops.toList eff AN Gs && chainB eff AN) with
    | false=>rw [hB] at h;exact h.elim
    | true=>
     rw [hB] at h;simp only [cond_true] at h
     simp only [Bool.and_eq_true] at hB
     refine wpIn_mono (wpIn_any hm drawPost_in hD (wp_region_C (K:=fun e w=>Q .normal e w) hok hm hf hB.1 hB.2 h)) ?_
     rintro ex a' w' ⟨rfl,e',h1,h2,h3⟩
     exact ⟨e',h1,fun j hj=>h2 j (fun o ho hd=>hj ⟨o,ho,hd⟩),h3⟩
   | dt eff AN Gs t=>
    simp only at h
    cases hB:(gokB n ops.toList eff AN Gs && treeB ops.toList.length eff AN t) with
    | false=>rw [hB] at h;exact h.elim
    | true=>
     rw [hB] at h;simp only [cond_true] at h
     simp only [Bool.and_eq_true] at hB
     refine wpIn_mono (wpIn_any hm drawPost_in hD (wp_region_T (K:=fun e w=>Q .normal e w) hok hm hf hB.1 hB.2 h)) ?_
     rintro ex a' w' ⟨rfl,e',h1,h2,h3⟩
     exact ⟨e',h1,fun j hj=>h2 j (fun o ho hd=>hj ⟨o,ho,hd⟩),h3⟩
   | _=>exact h.elim
 | cond c x y ihx ihy=>
  intro an Q e w a hrd hf h
  cases an with
  | nil=>exact h.elim
  | cut=>exact h.elim
  | draw=>exact h.elim
  | dg=>exact h.elim
  | dc=>exact h.elim
  | dt=>exact h.elim
  | node L W an1 an2=>
   have hev:a.eval c=ev e c:=by rw [hf.eval]
   rcases condK_bool h with ⟨hv,hb⟩ | ⟨hv,hb⟩
   ·refine wpIn_cond_true (hev.trans hv) (wpIn_mono (ihx an1 Q e w a (hrd.imp id fun h=>by simp only [rdB,Bool.and_eq_true] at h;exact h.1) hf hb) ?_)
    rintro ex a' w' ⟨e',h1,h2,h3⟩
    exact ⟨e',h1,fun j hj=>h2 j (fun hw=>hj (.inl hw)),h3⟩
   ·refine wpIn_cond_false (hev.trans hv) (wpIn_mono (ihy an2 Q e w a (hrd.imp id fun h=>by simp only [rdB,Bool.and_eq_true] at h;exact h.2) hf hb) ?_)
    rintro ex a' w' ⟨e',h1,h2,h3⟩
    exact ⟨e',h1,fun j hj=>h2 j (fun hw=>hj (.inr hw)),h3⟩
 | block id x ih=>
  intro an Q e w a hrd hf h
  refine wpIn_block (wpIn_mono (ih an (bEx id Q) e w a hrd hf h) ?_)
  rintro ex a' w' ⟨e',h1,h2,h3⟩
  cases ex with
  | exit i=>
   simp only [bEx] at h3
   simp only [Exit.inBlock]
   cases hb:Nat.beq i id with
   | true=>rw [hb] at h3;rw [if_pos (Nat.eq_of_beq_eq_true hb)];exact ⟨e',h1,h2,h3⟩
   | false=>
    rw [hb] at h3
    rw [if_neg (by intro e1;subst e1;simp at hb)]
    exact ⟨e',h1,h2,h3⟩
  | _=>exact ⟨e',h1,h2,h3⟩
 | seq x y ihx ihy=>
  intro an Q e w a hrd hf h
  have comb:∀ {e1 e2:Env},(∀ j,¬ Wr x j→e1 j=e j)→(∀ j,¬ Wr y j→e2 j=e1 j)→∀ j,¬ Wr (.seq x y) j→e2 j=e j:=fun h1 h2 j hj=>
   (h2 j fun hw=>hj (.inr hw)).trans (h1 j fun hw=>hj (.inl hw))
  have other:∀ {e1:Env},(∀ j,¬ Wr x j→e1 j=e j)→∀ j,¬ Wr (.seq x y) j→e1 j=e j:=fun h1 j hj=>h1 j fun hw=>hj (.inl hw)
  cases an with
  | nil=>exact h.elim
  | draw=>exact h.elim
  | dg=>exact h.elim
  | dc=>exact h.elim
  | dt=>exact h.elim
  | node L W an1 an2=>
   refine wpIn_seq (wpIn_mono (ihx an1 _ e w a (hrd.imp id fun h=>by simp only [rdB,Bool.and_eq_true] at h;exact h.1) hf h) ?_)
   rintro ex a' w' ⟨e',h1,h2,h3⟩
   cases ex with
   | normal=>
    refine wpIn_mono (ihy an2 Q e' w' a' (hrd.imp id fun h=>by simp only [rdB,Bool.and_eq_true] at h;exact h.2) h1 h3) ?_
    rintro ex a'' w'' ⟨e'',h4,h5,h6⟩
    exact ⟨e'',h4,comb h2 h5,h6⟩
   | _=>exact ⟨e',h1,other h2,h3⟩
  | cut L W an1 an2=>
   simp only [D] at h
   cases hw:wrIn W x with
   | false=>simp only [hw,cond_false] at h
   | true=>
    simp only [hw,cond_true] at h
    obtain ⟨I,hI,hG⟩:=h
    refine wpIn_seq (wpIn_mono (ihx an1 _ e w a (hrd.imp id fun h=>by simp only [rdB,Bool.and_eq_true] at h;exact h.1) hf hG) ?_)
    rintro ex a' w' ⟨e',h1,h2,h3⟩
    cases ex with
    | normal=>
     have h4:=hI _ _ h3 e'
     rw [mix_self (fun j hj=>h2 j fun hw'=>by rw [wrIn_spec hw j hw'] at hj;cases hj)] at h4
     refine wpIn_mono (ihy an2 Q e' w' a' (hrd.imp id fun h=>by simp only [rdB,Bool.and_eq_true] at h;exact h.2) h1 h4) ?_
     rintro ex a'' w'' ⟨e'',h5,h6,h7⟩
     exact ⟨e'',h5,comb h2 h6,h7⟩
    | _=>exact ⟨e',h1,other h2,h3⟩
 | loop x ih=>
  intro an Q e w a hrd hf h
  cases an with
  | nil=>exact h.elim
  | cut=>exact h.elim
  | draw=>exact h.elim
  | dg=>exact h.elim
  | dc=>exact h.elim
  | dt=>exact h.elim
  | node L W an1 an2=>
   simp only [D] at h
   cases hw:wrIn W x with
   | false=>simp only [hw,cond_false] at h
   | true=>
    simp only [hw,cond_true] at h
    obtain ⟨I,μ,h0,hR⟩:=h
    refine wpIn_loop (fun a' w'=>∃ e',Fr ds n e' a'∧(∀ j,¬ Wr x j→e' j=e j)∧I (L.map e') w') (fun a' w'=>μ (L.map fun t=>a'.tmps.getD t undef) w') ⟨e,hf,fun _ _=>rfl,h0⟩ ?_
    rintro a1 w1 ⟨e1,hf1,hk1,hI1⟩
    have h4:=hR _ _ hI1 e1
    rw [mix_self (fun j hj=>hk1 j fun hw'=>by rw [wrIn_spec hw j hw'] at hj;cases hj)] at h4
    refine wpIn_mono (ih an1 _ e1 w1 a1 hrd hf1 h4) ?_
    rintro ex a2 w2 ⟨e2,h5,h6,h7⟩
    have h8:∀ j,¬ Wr x j→e2 j=e j:=fun j hj=>(h6 j hj).trans (hk1 j hj)
    cases ex with
    | normal=>
     refine ⟨⟨e2,h5,h8,h7.1⟩,?_⟩
     rw [map_tmps h5,map_tmps hf1]
     exact h7.2
    | _=>exact ⟨e2,h5,h8,h7⟩


def resD (P:Program):List ResultVar→Env→World→(List Value→Prop)→Prop
 | [],_,_,K=>K []
 | .tmp t :: r,e,w,K=>resD P r e w fun vs=>K (e t :: vs)
 | .cell a t :: r,e,w,K=>match aggOf P t with
  | some (false,_)=>ld1K (e a) (fun v w'=>resD P r e w' fun vs=>K (v :: vs)) w
  | some (true,k)=>ldnK k (e a) (fun v w'=>resD P r e w' fun vs=>K (v :: vs)) w
  | none=>False
def tupK:List Value→Value
 | [v]=>v
 | vs=>.tuple vs.toArray
def retK (P:Program) (rs:List ResultVar) (K:Cont):EQ:=fun ex e w=>match ex with
 | .normal=>resD P rs e w fun vs=>K (tupK vs) w
 | .ret=>resD P rs e w fun vs=>K (tupK vs) w
 | _=>False
def bodyOf (f:Func):Code:=match f.body with | some c=>c | none=>.skip

theorem resD_run {ds:List Deferred} {e:Env} {a:Act} {w:World} (hf:Fr ds n e a) (f:ResultVar→Sem Value) (hft:∀ t,f (.tmp t)=pure (a.tmps.getD t undef)) (hfc:∀ x t,f (.cell x t)=(do loadVar t (← asAddr (a.tmps.getD x undef)))):∀ (rs:List ResultVar) (K:List Value→Prop),resD P rs e w K→
  ∃ vs,(rs.mapM f:Sem (List Value)).run P w=.ok vs w∧K vs:=by
 intro rs
 induction rs with
 | nil=>intro K h;exact ⟨[],by simp,h⟩
 | cons r rs ih=>
  intro K h
  cases r with
  | tmp t=>
   obtain ⟨vs,h1,h2⟩:=ih _ h
   refine ⟨_,?_,h2⟩
   rw [List.mapM_cons]
   rw [Sem.run_bind,hft]
   simp only [Sem.run_pure,Result.andThen_ok]
   rw [Sem.run_bind,h1]
   simp only [Result.andThen_ok,Sem.run_pure,hf.get]
  | cell x t=>
   simp only [resD] at h
   have key:∀ v,(loadVar t ·:Addr→Sem Value)=(loadVar t ·)→resD P rs e w (fun vs=>K (v :: vs))→(do loadVar t (← asAddr (a.tmps.getD x undef)):Sem Value).run P w=.ok v w→
     ∃ vs,((ResultVar.cell x t :: rs).mapM f:Sem (List Value)).run P w=.ok vs w∧K vs:=by
    intro v _ h3 h4
    obtain ⟨vs,h1,h2⟩:=ih _ h3
    refine ⟨_,?_,h2⟩
    rw [List.mapM_cons]
    rw [Sem.run_bind,hfc,h4]
    simp only [Result.andThen_ok]
    rw [Sem.run_bind,h1]
    simp only [Result.andThen_ok,Sem.run_pure]
   split at h
   ·rename_i k ha
    obtain ⟨p,v,h1,h2,h3⟩:=h
    refine key v rfl h3 ?_
    have h1':a.tmps.getD x undef=.pointer (some p):=(hf.get x).trans h1
    rw [Sem.run_bind,h1']
    simp only [asAddr,Sem.run_pure,Result.andThen_ok]
    simp [loadVar,(run_isAgg ha w).1,h2]
   ·rename_i k ha
    obtain ⟨p,vs,h1,hl,h2,h3⟩:=h
    refine key _ rfl h3 ?_
    have h1':a.tmps.getD x undef=.pointer (some p):=(hf.get x).trans h1
    rw [Sem.run_bind,h1']
    simp only [asAddr,Sem.run_pure,Result.andThen_ok]
    have hcells:=run_loadCells_list (P:=P) (w:=w) p vs h2
    simp only [loadVar,Sem.run_bind,(run_isAgg ha w).1,(run_isAgg ha w).2,Result.andThen_ok,if_true]
    rw [←hl,hcells]
    rfl
   ·exact h.elim
theorem results_run {ds:List Deferred} {fn:Func} {e:Env} {a:Act} {w:World} {K:Cont} (hf:Fr ds n e a) (h:resD P fn.results.toList e w fun vs=>K (tupK vs) w) :
  ∃ v,(results fn a.tmps).run P w=.ok v w∧K v w:=by
 obtain ⟨vs,h1,h2⟩:=resD_run hf (fun x=>match x with | .tmp t=>pure (a.tmps.getD t undef) | .cell y t=>do loadVar t (← asAddr (a.tmps.getD y undef))) (fun _=>rfl) (fun _ _=>rfl) _ _ h
 refine ⟨_,?_,h2⟩
 unfold results
 rw [Sem.run_bind,Array.mapM_eq_mapM_toList,Sem.run_map]
 erw [h1]
 simp only [Result.andThen_ok,Sem.run_pure]
 congr 1
 match vs with
 | []=>rfl
 | [v]=>rfl
 | v :: u :: r=>simp [tupK]

theorem fr_args {args:List Value} {m:Nat} (hl':args.length≤m):Fr [] m (nth args) { tmps:=args.toArray++Array.replicate (m - args.toArray.size) undef,defers:=[] }:=by
 have hnth:∀ (l:List Value) (t:Nat),nth l t=l.getD t undef:=by
  intro l;induction l with
  | nil=>
   intro t
   induction t with
   | zero=>rfl
   | succ t ih=>simpa [nth] using ih
  | cons v l ih=>intro t;cases t with
   | zero=>simp [nth]
   | succ t=>simp [nth,ih]
 refine ⟨by simp;omega,fun t=>?_,rfl⟩
 rw [hnth]
 simp only [Array.getD_eq_getD_getElem?,Array.getElem?_append,List.size_toArray,List.getElem?_toArray,List.getD_eq_getElem?_getD]
 split
 ·rfl
 ·rename_i hge
  rw [List.getElem?_eq_none (by omega)]
  cases hx:(Array.replicate (m - args.length) undef)[t - args.length]? with
  | none=>rfl
  | some v=>
   rw [Array.getElem?_replicate] at hx
   split at hx
   ·cases hx;rfl
   ·cases hx
theorem callK_of {g:Nat} {fn:Func} {c:Code} {rs:List ResultVar} {args:List Value} {K:Cont} {w:World} {an:Ann} (hok:GoodFns P ok) (hm:P.follows .mixedOrders=true) (hf:P.funcs[g]?=some fn)
  (hb:fn.body=some c) (hn:fn.ntmps=n) (hrs:fn.results.toList=rs) (hl:Nat.ble args.length n=true) (h:D P ok n c an (retK P rs K) (nth args) w):callK P g args K w:=by
 refine calls_of_wp hf hb ?_
 have hl':=Nat.le_of_ble_eq_true hl
 subst hn
 have hfr:=fr_args hl'
 refine wp_mono ((wpIn_wide (n:=0)).1 (D_sound (ds:=[]) (ro:=none) (m:=0) hok hm c an _ _ w _ (.inl rfl) hfr h)) ?_
 rintro ex a' w' ⟨e',h1,_,h3⟩
 subst hrs
 cases ex with
 | normal=>
  obtain ⟨v,h4,h5⟩:=results_run h1 h3
  exact ⟨h1.defers,v,h4,v,rfl,h5⟩
 | ret=>
  obtain ⟨v,h4,h5⟩:=results_run h1 h3
  exact ⟨h1.defers,v,h4,v,rfl,h5⟩
 | _=>exact h3.elim
attribute [irreducible] D
end Go.K

namespace Go.Proofs.YtgmpbihbdbmhoaaGreatDoor
open Go Go.K
def okl:List Nat:=[2,3,4,5,6,7,8,9,10,11,12,13,14,15,16,17,18,19,20,21,22,23,24,25,26,27,28,29,30,31,32,33,34,35,36,37,38,39,40,41,42,43,44,45,46,47,48,49,50,51,52,53,54,55,56,57,58,59,60,61,62,63,64,65,66,67,68,69,70,71,72,73,74,75,76,77,78,79,80,81,82,83,84,85,86,87,88,89,90,91,92,93,94,95,96,97,98,99,100,101,102,103,104,105,106,107,108,109,110,111,112,113,114,115,116,117,118,119,120,121,122,123,124,125,126,127,128,129,130,131,132,133,134,135,136,137,138,139,140,141,142,143,144,145,146,147,148,149,150,151,153,154,155,156,157,180]
def okf (g:Nat):Bool:=okl.any fun x=>Nat.beq x g
theorem mixed:Tryz.prog.follows .mixedOrders=true:=by kernel_rfl
set_option maxRecDepth 100000 in
theorem goodl:∀ g ∈ okl,∀ args w,(callFunc g args).run Tryz.prog w=.ok (.enter g args) w:=by
 unfold okl
 simp only [List.forall_mem_cons]
 exact ⟨Tryz.call2,Tryz.call3,Tryz.call4,Tryz.call5,Tryz.call6,Tryz.call7,Tryz.call8,Tryz.call9,Tryz.call10,Tryz.call11,Tryz.call12,Tryz.call13,Tryz.call14,Tryz.call15,Tryz.call16,Tryz.call17,Tryz.call18,Tryz.call19,Tryz.call20,Tryz.call21,Tryz.call22,Tryz.call23,Tryz.call24,Tryz.call25,Tryz.call26,Tryz.call27,Tryz.call28,Tryz.call29,Tryz.call30,Tryz.call31,Tryz.call32,Tryz.call33,Tryz.call34,Tryz.call35,Tryz.call36,Tryz.call37,Tryz.call38,Tryz.call39,Tryz.call40,Tryz.call41,Tryz.call42,Tryz.call43,Tryz.call44,Tryz.call45,Tryz.call46,Tryz.call47,Tryz.call48,Tryz.call49,Tryz.call50,Tryz.call51,Tryz.call52,Tryz.call53,Tryz.call54,Tryz.call55,Tryz.call56,Tryz.call57,Tryz.call58,Tryz.call59,Tryz.call60,Tryz.call61,Tryz.call62,Tryz.call63,Tryz.call64,Tryz.call65,Tryz.call66,Tryz.call67,Tryz.call68,Tryz.call69,Tryz.call70,Tryz.call71,Tryz.call72,Tryz.call73,Tryz.call74,Tryz.call75,Tryz.call76,Tryz.call77,Tryz.call78,Tryz.call79,Tryz.call80,Tryz.call81,Tryz.call82,Tryz.call83,Tryz.call84,Tryz.call85,Tryz.call86,Tryz.call87,Tryz.call88,Tryz.call89,Tryz.call90,Tryz.call91,Tryz.call92,Tryz.call93,Tryz.call94,Tryz.call95,Tryz.call96,Tryz.call97,Tryz.call98,Tryz.call99,Tryz.call100,Tryz.call101,Tryz.call102,Tryz.call103,Tryz.call104,Tryz.call105,Tryz.call106,Tryz.call107,Tryz.call108,Tryz.call109,Tryz.call110,Tryz.call111,Tryz.call112,Tryz.call113,Tryz.call114,Tryz.call115,Tryz.call116,Tryz.call117,Tryz.call118,Tryz.call119,Tryz.call120,Tryz.call121,Tryz.call122,Tryz.call123,Tryz.call124,Tryz.call125,Tryz.call126,Tryz.call127,Tryz.call128,Tryz.call129,Tryz.call130,Tryz.call131,Tryz.call132,Tryz.call133,Tryz.call134,Tryz.call135,Tryz.call136,Tryz.call137,Tryz.call138,Tryz.call139,Tryz.call140,Tryz.call141,Tryz.call142,Tryz.call143,Tryz.call144,Tryz.call145,Tryz.call146,Tryz.call147,Tryz.call148,Tryz.call149,Tryz.call150,Tryz.call151,Tryz.call153,Tryz.call154,Tryz.call155,Tryz.call156,Tryz.call157,Tryz.call180,fun g hg=>nomatch hg⟩
theorem good:GoodFns Tryz.prog okf:=by
 intro g hg
 simp only [okf,List.any_eq_true] at hg
 obtain ⟨x,hx,hb⟩:=hg
 have:=Nat.eq_of_beq_eq_true hb
 subst this
 exact goodl x hx
end Go.Proofs.YtgmpbihbdbmhoaaGreatDoor

namespace Go.K
open Go

section
variable {P:Program} {ok:Nat→Bool} {K:Cont} {k:Value→Prop} {w:World}
theorem condK_b (b:Bool) (A B:Prop):condK (.bool b) A B=if b=true then A else B:=by cases b <;> simp [condK]
theorem condK_d (p:Prop) [Decidable p] (A B:Prop):condK (.bool (decide p)) A B=if p then A else B:=by
 rw [condK_b];by_cases h:p <;> simp [h]
theorem pickK_b (b:Bool) (x y:Value):pickK (.bool b) x y k=k (if b=true then x else y):=by cases b <;> simp [pickK]
theorem addK_i (q:IntKind) (a b:Int):addK q (.int q a) (.int q b) k=k (.int q (q.wrap (a+b))):=propext ⟨fun ⟨_,_,h1,h2,h⟩=>by cases h1;cases h2;exact h,fun h=>⟨_,_,rfl,rfl,h⟩⟩
theorem subK_i (q:IntKind) (a b:Int):subK q (.int q a) (.int q b) k=k (.int q (q.wrap (a - b))):=propext ⟨fun ⟨_,_,h1,h2,h⟩=>by cases h1;cases h2;exact h,fun h=>⟨_,_,rfl,rfl,h⟩⟩
theorem mulK_i (q:IntKind) (a b:Int):mulK q (.int q a) (.int q b) k=k (.int q (q.wrap (a * b))):=propext ⟨fun ⟨_,_,h1,h2,h⟩=>by cases h1;cases h2;exact h,fun h=>⟨_,_,rfl,rfl,h⟩⟩
theorem ltK_i (q:IntKind) (a b:Int):ltK q (.int q a) (.int q b) k=k (.bool (decide (a < b))):=propext ⟨fun ⟨_,_,h1,h2,h⟩=>by cases h1;cases h2;exact h,fun h=>⟨_,_,rfl,rfl,h⟩⟩
theorem leK_i (q:IntKind) (a b:Int):leK q (.int q a) (.int q b) k=k (.bool (decide (a≤b))):=propext ⟨fun ⟨_,_,h1,h2,h⟩=>by cases h1;cases h2;exact h,fun h=>⟨_,_,rfl,rfl,h⟩⟩
theorem gtK_i (q:IntKind) (a b:Int):gtK q (.int q a) (.int q b) k=k (.bool (decide (b < a))):=propext ⟨fun ⟨_,_,h1,h2,h⟩=>by cases h1;cases h2;exact h,fun h=>⟨_,_,rfl,rfl,h⟩⟩
theorem geK_i (q:IntKind) (a b:Int):geK q (.int q a) (.int q b) k=k (.bool (decide (b≤a))):=propext ⟨fun ⟨_,_,h1,h2,h⟩=>by cases h1;cases h2;exact h,fun h=>⟨_,_,rfl,rfl,h⟩⟩
theorem eqK_i (q:IntKind) (a b:Int):eqK q (.int q a) (.int q b) k=k (.bool (decide (a=b))):=propext ⟨fun ⟨_,_,h1,h2,h⟩=>by cases h1;cases h2;exact h,fun h=>⟨_,_,rfl,rfl,h⟩⟩
theorem neK_i (q:IntKind) (a b:Int):neK q (.int q a) (.int q b) k=k (.bool (!decide (a=b))):=propext ⟨fun ⟨_,_,h1,h2,h⟩=>by cases h1;cases h2;exact h,fun h=>⟨_,_,rfl,rfl,h⟩⟩
theorem maxK_i (q:IntKind) (a b:Int):maxK q (.int q a) (.int q b) k=k (.int q (if b > a then b else a)):=propext ⟨fun ⟨_,_,h1,h2,h⟩=>by cases h1;cases h2;exact h,fun h=>⟨_,_,rfl,rfl,h⟩⟩
theorem minK_i (q:IntKind) (a b:Int):minK q (.int q a) (.int q b) k=k (.int q (if b < a then b else a)):=propext ⟨fun ⟨_,_,h1,h2,h⟩=>by cases h1;cases h2;exact h,fun h=>⟨_,_,rfl,rfl,h⟩⟩
theorem beqK_i (a b:Bool):beqK (.bool a) (.bool b) k=k (.bool (a == b)):=propext ⟨fun ⟨_,_,h1,h2,h⟩=>by cases h1;cases h2;exact h,fun h=>⟨_,_,rfl,rfl,h⟩⟩
theorem bneK_i (a b:Bool):bneK (.bool a) (.bool b) k=k (.bool (!(a == b))):=propext ⟨fun ⟨_,_,h1,h2,h⟩=>by cases h1;cases h2;exact h,fun h=>⟨_,_,rfl,rfl,h⟩⟩
theorem seqK_i (a b:ByteArray):seqK (.string a) (.string b) k=k (.bool (decide (a=b))):=propext ⟨fun ⟨_,_,h1,h2,h⟩=>by cases h1;cases h2;exact h,fun h=>⟨_,_,rfl,rfl,h⟩⟩
theorem sneK_i (a b:ByteArray):sneK (.string a) (.string b) k=k (.bool (!decide (a=b))):=propext ⟨fun ⟨_,_,h1,h2,h⟩=>by cases h1;cases h2;exact h,fun h=>⟨_,_,rfl,rfl,h⟩⟩
theorem snilK_i (a:Option Addr) (n c:Nat) (k:Bool→Prop):snilK (.slice a n c) k=k a.isNone:=propext ⟨fun ⟨_,_,_,h1,h⟩=>by cases h1;exact h,fun h=>⟨_,_,_,rfl,h⟩⟩
theorem pnilK_i (a:Option Addr) (k:Bool→Prop):pnilK (.pointer a) k=k a.isNone:=propext ⟨fun ⟨_,h1,h⟩=>by cases h1;exact h,fun h=>⟨_,rfl,h⟩⟩
theorem notK_i (a:Bool):notK (.bool a) k=k (.bool (!a)):=propext ⟨fun ⟨_,h1,h⟩=>by cases h1;exact h,fun h=>⟨_,rfl,h⟩⟩
theorem lenK_i (a:Option Addr) (n c:Nat):lenK (.slice a n c) k=k (.int .i64 n):=propext ⟨fun ⟨_,_,_,h1,h⟩=>by cases h1;exact h,fun h=>⟨_,_,_,rfl,h⟩⟩
theorem slenK_i (s:ByteArray):slenK (.string s) k=k (.int .i64 s.size):=propext ⟨fun ⟨_,h1,h⟩=>by cases h1;exact h,fun h=>⟨_,rfl,h⟩⟩
theorem nilckK_i (a:Addr):nilckK (.pointer (some a)) k=k (.pointer (some a)):=propext ⟨fun ⟨_,h1,h⟩=>by cases h1;exact h,fun h=>⟨_,rfl,h⟩⟩
theorem faK_i (off:Nat) (a:Addr):faK off (.pointer (some a)) k=k (.pointer (some (a.add off))):=propext ⟨fun ⟨_,h1,h⟩=>by cases h1;exact h,fun h=>⟨_,rfl,h⟩⟩
theorem nth_z (vs:List Value):nth vs 0=vs.headD undef:=rfl
theorem nth_s (vs:List Value) (k:Nat):nth vs (k+1)=nth vs.tail k:=rfl
theorem Addr.add_add (a:Addr) (x y:Nat):(a.add x).add y=a.add (x+y):=by
 unfold Addr.add
 split <;> split <;> simp_all <;> omega
theorem ixK_n {s:Nat} {a:Addr} {n c:Nat} {q:IntKind} {j:Nat} (h1:j < n) (h:k (.pointer (some (a.add (j * s))))):ixK s (.slice (some a) n c) (.int q (j:Int)) k:=
 ⟨_,_,_,_,_,rfl,rfl,by omega,by omega,by simpa using h⟩
theorem ld1K_i {a:Addr} {v:Value} (hc:w.cell? a=some v) (h:K v w):ld1K (.pointer (some a)) K w:=⟨a,v,rfl,hc,h⟩
theorem ldnK_i {n:Nat} {a:Addr} {vs:List Value} (hl:vs.length=n) (hc:∀ j v,vs[j]?=some v→w.cell? (a.add j)=some v) (h:K (.agg vs.toArray) w):ldnK n (.pointer (some a)) K w:=⟨a,vs,rfl,hl,hc,h⟩
theorem qld1K_i {C:World→Prop} {a:Addr} {v:Value} (hc:∀ w,C w→w.cell? a=some v) (h:k v):qld1K C (.pointer (some a)) k:=⟨a,v,rfl,hc,h⟩
theorem qldnK_i {C:World→Prop} {n:Nat} {a:Addr} {vs:List Value} (hl:vs.length=n) (hc:∀ w,C w→∀ j v,vs[j]?=some v→w.cell? (a.add j)=some v) (h:k (.agg vs.toArray)):qldnK C n (.pointer (some a)) k:=⟨a,vs,rfl,hl,hc,h⟩
theorem st1K_i {a:Addr} {v u:Value} {K:World→Prop} (h1:v.oneCell'=true) (h2:v.cells=#[v]) (hc:w.cell? a=some u) (hf:w.frozen? a=false) (h:K (w.setCell a v)):st1K (.pointer (some a)) v K w:=⟨a,u,rfl,h1,h2,hc,hf,h⟩
theorem extK_i {i:Nat} {vs:List Value} {v:Value} (hv:vs[i]?=some v) (h:k v):extK i (.tuple vs.toArray) k:=⟨vs,v,rfl,hv,h⟩
theorem JoinK_i {R:List Value→World→Prop} {G:(List Value→World→Prop)→Prop} (I:List Value→World→Prop) (h1:∀ vs w,I vs w→R vs w) (h2:G I):JoinK R G:=⟨I,h1,h2⟩
theorem LoopK_i {init:List Value} {F:List Value→(List Value→World→Prop)→World→Prop} (I:List Value→World→Prop) (μ:List Value→World→Nat) (h0:I init w) (h:∀ vs w,I vs w→F vs (fun vs' w'=>I vs' w'∧μ vs' w' < μ vs w) w):LoopK init F w:=⟨I,μ,h0,h⟩
theorem callK_mono {g:Nat} {args:List Value} {K':Cont} (h:callK P g args K w) (hk:∀ v w',K v w'→K' v w'):callK P g args K' w:=
 Calls.mono h fun _ _ ⟨v,h1,h2⟩=>⟨v,h1,hk _ _ h2⟩
theorem runK_i {s:Sem Value} {v:Value} {w':World} (h1:s.run P w=.ok v w') (h:K v w'):runK P s K w:=⟨v,w',h1,h⟩
theorem newK_i {t:TypeId} {cs:List Value} (h:K (.pointer (some ⟨w.heap.size,0,none⟩)) (w.alloc (.cells cs.toArray t))):newK t cs K w:=h
theorem wrap64 {x:Int} (h0:-9223372036854775808≤x) (h1:x≤9223372036854775807):IntKind.i64.wrap x=x:=by
 have e1:(2:Int) ^ IntKind.i64.bits=18446744073709551616:=by decide
 have e2:(2:Int) ^ (IntKind.i64.bits - 1)=9223372036854775808:=by decide
 simp only [IntKind.wrap,e1,e2,IntKind.signed,Bool.true_and,decide_eq_true_eq]
 split <;> omega
theorem setL_new (w:World) (t:TypeId):∀ (vs done zs:List Value),zs.length=vs.length→setL (w.alloc (.cells (done++zs).toArray t)) ⟨w.heap.size,0,none⟩ done.length vs=w.alloc (.cells (done++vs).toArray t):=by
 intro vs
 induction vs with
 | nil=>intro done zs hl;have:zs=[]:=List.eq_nil_of_length_eq_zero hl;subst this;rfl
 | cons v vs ih=>
  intro done zs hl
  cases zs with
  | nil=>simp at hl
  | cons z zs=>
   simp only [setL]
   have h1:(w.alloc (.cells (done++z :: zs).toArray t)).setCell ((⟨w.heap.size,0,none⟩:Addr).add done.length) v=w.alloc (.cells ((done++[v])++zs).toArray t):=by
    have hadd:(⟨w.heap.size,0,none⟩:Addr).add done.length=⟨w.heap.size,done.length,none⟩:=by unfold Addr.add;split <;> simp_all
    rw [hadd]
    simp only [World.setCell,World.alloc]
    congr 1
    rw [←Array.toList_inj,Array.toList_modify]
    simp only [Array.toList_push]
    apply List.ext_getElem?
    intro i
    rw [List.getElem?_modify]
    by_cases hi:w.heap.size=i
    ·subst hi
     simp [List.getElem?_append,List.setIfInBounds_toArray]
    ·rcases Nat.lt_or_gt_of_ne hi with hlt | hgt
     ·have h9:¬ i < w.heap.size:=by omega
      have h10:¬ i - w.heap.size=0:=by omega
      simp [hi,List.getElem?_append,List.getElem?_singleton,h9,h10]
     ·simp [hi,List.getElem?_append,hgt]
   rw [h1]
   have:=ih (done++[v]) zs (by simpa using hl)
   simpa using this
theorem stnew {t:TypeId} {zs vs:List Value} {K:World→Prop} (hl:zs.length=vs.length) (h1:∀ v ∈ vs,v.oneCell'=true) (h:K (w.alloc (.cells vs.toArray t))) :
  stnK vs.length (.pointer (some ⟨w.heap.size,0,none⟩)) (.agg vs.toArray) K (w.alloc (.cells zs.toArray t)):=by
 refine ⟨_,vs,rfl,rfl,rfl,h1,fun j hj=>?_,?_⟩
 ·have hadd:(⟨w.heap.size,0,none⟩:Addr).add j=⟨w.heap.size,j,none⟩:=by unfold Addr.add;split <;> simp_all
  rw [hadd,World.cell?_alloc_new,World.frozen?_alloc_new]
  refine ⟨?_,rfl⟩
  have:j < zs.length:=by omega
  simp [this]
 ·have:=setL_new w t vs [] zs hl
  simp only [List.nil_append,List.length_nil] at this
  rw [this];exact h
end

theorem KS :
  (∀ (b:Bool) (A B:Prop),condK (.bool b) A B=if b=true then A else B)∧
  (∀ {p:Prop} [Decidable p],(decide p=true)=p)∧
  (∀ {a b:Bool},((!a)=b)↔(a=!b))∧
  ((!true)=false)∧
  (∀ {p:Prop} [Decidable p],decide p=false↔¬p)∧
  (∀ {k:Value→Prop} (b:Bool) (x y:Value),pickK (.bool b) x y k=k (if b=true then x else y))∧
  (∀ {k:Value→Prop} (q:IntKind) (a b:Int),addK q (.int q a) (.int q b) k=k (.int q (q.wrap (a+b))))∧
  (∀ {k:Value→Prop} (q:IntKind) (a b:Int),subK q (.int q a) (.int q b) k=k (.int q (q.wrap (a - b))))∧
  (∀ {k:Value→Prop} (q:IntKind) (a b:Int),mulK q (.int q a) (.int q b) k=k (.int q (q.wrap (a * b))))∧
  (∀ {k:Value→Prop} (q:IntKind) (a b:Int),ltK q (.int q a) (.int q b) k=k (.bool (decide (a < b))))∧
  (∀ {k:Value→Prop} (q:IntKind) (a b:Int),leK q (.int q a) (.int q b) k=k (.bool (decide (a≤b))))∧
  (∀ {k:Value→Prop} (q:IntKind) (a b:Int),gtK q (.int q a) (.int q b) k=k (.bool (decide (b < a))))∧
  (∀ {k:Value→Prop} (q:IntKind) (a b:Int),geK q (.int q a) (.int q b) k=k (.bool (decide (b≤a))))∧
  (∀ {k:Value→Prop} (q:IntKind) (a b:Int),eqK q (.int q a) (.int q b) k=k (.bool (decide (a=b))))∧
  (∀ {k:Value→Prop} (q:IntKind) (a b:Int),neK q (.int q a) (.int q b) k=k (.bool (!decide (a=b))))∧
  (∀ {k:Value→Prop} (q:IntKind) (a b:Int),maxK q (.int q a) (.int q b) k=k (.int q (if b > a then b else a)))∧
  (∀ {k:Value→Prop} (q:IntKind) (a b:Int),minK q (.int q a) (.int q b) k=k (.int q (if b < a then b else a)))∧
  (∀ {k:Value→Prop} (a b:Bool),beqK (.bool a) (.bool b) k=k (.bool (a == b)))∧
  (∀ {k:Value→Prop} (a b:Bool),bneK (.bool a) (.bool b) k=k (.bool (!(a == b))))∧
  (∀ {k:Value→Prop} (a b:ByteArray),seqK (.string a) (.string b) k=k (.bool (decide (a=b))))∧
  (∀ {k:Value→Prop} (a b:ByteArray),sneK (.string a) (.string b) k=k (.bool (!decide (a=b))))∧
  (∀ (a:Option Addr) (n c:Nat) (k:Bool→Prop),snilK (.slice a n c) k=k a.isNone)∧
  (∀ (a:Option Addr) (k:Bool→Prop),pnilK (.pointer a) k=k a.isNone)∧
  (∀ {k:Value→Prop} (a:Bool),notK (.bool a) k=k (.bool (!a)))∧
  (∀ {k:Value→Prop} (a:Option Addr) (n c:Nat),lenK (.slice a n c) k=k (.int .i64 n))∧
  (∀ {k:Value→Prop} (s:ByteArray),slenK (.string s) k=k (.int .i64 s.size))∧
  (∀ {k:Value→Prop} (a:Addr),nilckK (.pointer (some a)) k=k (.pointer (some a)))∧
  (∀ {k:Value→Prop} (off:Nat) (a:Addr),faK off (.pointer (some a)) k=k (.pointer (some (a.add off))))∧
  (∀ (a:Addr) (x y:Nat),(a.add x).add y=a.add (x+y))∧
  (∀ (vs:List Value),nth vs 0=vs.headD undef)∧
  (∀ (vs:List Value) (k:Nat),nth vs (k+1)=nth vs.tail k)∧
  (∀ {a d:Value} {l:List Value},(a :: l).headD d=a)∧
  (∀ {a:Value} {l:List Value},(a :: l).tail=l)∧
  ((none:Option Addr).isNone=true)∧
  (∀ {a:Addr},(some a).isNone=false)∧
  ((false=true)=False)∧
  (∀ {α:Type} {h:Decidable True} (t e:α),(@ite α True h t e)=t)∧
  (∀ {α:Type} {h:Decidable False} (t e:α),(@ite α False h t e)=e):=
 ⟨@condK_b,by simp,by intro a b;cases a <;> cases b <;> simp,by simp,by simp,@pickK_b,@addK_i,@subK_i,@mulK_i,@ltK_i,@leK_i,@gtK_i,@geK_i,@eqK_i,@neK_i,@maxK_i,@minK_i,@beqK_i,@bneK_i,@seqK_i,@sneK_i,@snilK_i,@pnilK_i,@notK_i,@lenK_i,@slenK_i,@nilckK_i,@faK_i,@Addr.add_add,@nth_z,@nth_s,by simp,by simp,by simp,by simp,by simp,by simp,by simp⟩

abbrev Grow (w w':World):Prop:=Mod (fun _=>False) w w'
theorem Grow.mod {M:Nat→Prop} {w w':World} (h:Grow w w'):Mod M w w':=Mod.mono h fun _ _ h=>h.elim
theorem Mod.below {w w':World} {B:Nat} {M:Nat→Prop} (h:Mod M w w') (hB:B≤w.heap.size) (hm:∀ b,M b→B≤b):RowKit.Below B w w':=
 ⟨h.os,h.tape,h.output,h.size,fun b hb=>h.same b (by omega) fun h'=>by have:=hm b h';omega⟩
theorem Mod.drew (M:Nat→Prop) (w:World):Mod M w w.drew:=⟨rfl,rfl,rfl,Nat.le_refl _,fun _ _ _=>rfl⟩
theorem Mod.alloc (M:Nat→Prop) (w:World) (o:Obj):Mod M w (w.alloc o):=⟨rfl,rfl,rfl,by simp,fun b hb _=>RowKit.Below.heap_alloc w o b hb⟩
theorem Mod.setCell {M:Nat→Prop} (w:World) (a:Addr) (v:Value) (h:M a.block):Mod M w (w.setCell a v):=⟨rfl,rfl,rfl,by simp,fun b _ hn=>RowKit.Below.heap_setCell w a v b fun e=>hn (e ▸ h)⟩
theorem Mod.of_grownBy {w w':World} {row:Option Nat} (h:w.grownBy w' row):Mod (fun b=>row=some b) w w':=⟨h.os,h.tape,h.output,h.size,fun b hb hn=>h.block b hb fun e=>hn e.symm⟩
theorem Mod.cell {M:Nat→Prop} {w w':World} (h:Mod M w w') {a:Addr} {v:Value} (hc:w.cell? a=some v) (hm:¬ M a.block):w'.cell? a=some v:=
 (World.cell?_of_block (h.same a.block (World.block_lt_of_cell? w a hc) hm)).trans hc
theorem Mod.frozen {M:Nat→Prop} {w w':World} (h:Mod M w w') {a:Addr} (hb:a.block < w.heap.size) (hm:¬ M a.block):w'.frozen? a=w.frozen? a:=
 World.frozen?_of_block (h.same a.block hb hm)

def SlR {α:Type} (S:Nat→Prop) (k:Nat) (R:World→List Value→α→Prop) (w:World) (v:Value) (l:List α):Prop:=
 ∃ a c,v=.slice a l.length c∧l.length≤c∧c≤maxLen∧∀ i x,l[i]?=some x→∃ p r,a=some p∧S p.block∧r.length=k∧(∀ j u,r[j]?=some u→w.cell? (p.add (i * k+j))=some u)∧R w r x
theorem SlR.mono {α:Type} {S S':Nat→Prop} {k:Nat} {R R':World→List Value→α→Prop} {w w':World} {v:Value} {l:List α} (h:SlR S k R w v l)
  (hS:∀ b,b < w.heap.size→S b→S' b) (hb:∀ b,b < w.heap.size→S b→w'.heap[b]?=w.heap[b]?) (hk:0 < k) (hR:∀ r x,R w r x→R' w' r x):SlR S' k R' w' v l:=by
 obtain ⟨a,c,h1,h2,h3,h4⟩:=h
 refine ⟨a,c,h1,h2,h3,fun i x hx=>?_⟩
 obtain ⟨p,r,e1,e2,e3,e4,e5⟩:=h4 i x hx
 have hlt:p.block < w.heap.size:=by
  cases r with
  | nil=>simp at e3;omega
  | cons u r=>
   have:=World.block_lt_of_cell? w _ (e4 0 u rfl)
   have e:(p.add (i * k+0)).block=p.block:=by unfold Addr.add;split <;> rfl
   rwa [e] at this
 refine ⟨p,r,e1,hS _ hlt e2,e3,fun j u hu=>?_,hR _ _ e5⟩
 have e:(p.add (i * k+j)).block=p.block:=by unfold Addr.add;split <;> rfl
 rw [World.cell?_of_block (w:=w) (by rw [e];exact hb _ hlt e2)]
 exact e4 j u hu
theorem SlR.nil {α:Type} {S:Nat→Prop} {k:Nat} {R:World→List Value→α→Prop} {w:World}:SlR S k R w (.slice none 0 0) []:=
 ⟨none,0,rfl,Nat.le_refl _,by simp [maxLen],fun i x hx=>by simp at hx⟩
def iOf (vs:List Value) (j:Nat):Nat:=match nth vs j with | .int _ n=>n.toNat | _=>0
theorem SlR.get {α:Type} {S:Nat→Prop} {k:Nat} {R:World→List Value→α→Prop} {w:World} {a:Option Addr} {n c:Nat} {l:List α} (h:SlR S k R w (.slice a n c) l) {i:Nat} (hi:i < l.length) :
  ∃ p r,a=some p∧S p.block∧r.length=k∧(∀ j u,r[j]?=some u→w.cell? (p.add (i * k+j))=some u)∧R w r l[i]:=by
 obtain ⟨a',c',h1,h2,h3,h4⟩:=h
 cases h1
 exact h4 i l[i] (by simp [hi])
theorem SlR.shape {α:Type} {S:Nat→Prop} {k:Nat} {R:World→List Value→α→Prop} {w:World} {v:Value} {l:List α} (h:SlR S k R w v l):∃ a c,v=.slice a l.length c∧l.length≤maxLen:=by
 obtain ⟨a',c',h1,h2,h3,h4⟩:=h
 exact ⟨a',c',h1,Nat.le_trans h2 h3⟩

def OwnR {α:Type} (B e k:Nat) (R:World→List Value→α→Prop) (w:World) (v:Value) (l:List α):Prop:=
 ∃ rows:List (List Value),w.ownsRow B e k v l.length rows.flatten∧rows.length=l.length∧(∀ r ∈ rows,r.length=k∧∀ u ∈ r,u.oneCell'=true)∧∀ (i:Nat) (r:List Value) (x:α),rows[i]?=some r→l[i]?=some x→R w r x
theorem flat_len {k:Nat}:∀ (rows:List (List Value)),(∀ r ∈ rows,r.length=k)→rows.flatten.length=rows.length * k:=by
 intro rows;induction rows with
 | nil=>intro _;simp
 | cons r rs ih=>intro h;simp [ih (fun r hr=>h r (by simp [hr])),h r (by simp),Nat.add_mul];omega
theorem flat_get {k:Nat}:∀ (rows:List (List Value)) (i j:Nat) (r:List Value),(∀ r ∈ rows,r.length=k)→rows[i]?=some r→j < k→rows.flatten[i * k+j]?=r[j]?:=by
 intro rows;induction rows with
 | nil=>intro i j r _ h;simp at h
 | cons r0 rs ih=>
  intro i j r h hi hj
  have h0:=h r0 (by simp)
  cases i with
  | zero=>simp at hi;subst hi;simp [List.getElem?_append,h0,hj]
  | succ i=>
   have:=ih i j r (fun r hr=>h r (by simp [hr])) (by simpa using hi) hj
   rw [List.flatten_cons,List.getElem?_append_right (by rw [h0,Nat.add_mul];omega)]
   rw [←this];congr 1;rw [h0,Nat.add_mul];omega
theorem flat_of_get {k:Nat} (hk:0 < k):∀ (rows:List (List Value)),(∀ r ∈ rows,r.length=k)→∀ (q:Nat) (u:Value),rows.flatten[q]?=some u→∃ r,rows[q / k]?=some r∧r[q % k]?=some u:=by
 intro rows h q u hu
 have hl:=flat_len rows h
 have hq:q < rows.flatten.length:=(List.getElem?_eq_some_iff.1 hu).1
 have h1:q / k < rows.length:=by rw [hl] at hq;exact (Nat.div_lt_iff_lt_mul hk).2 hq
 refine ⟨rows[q / k],by simp [h1],?_⟩
 rw [←flat_get rows (q / k) (q % k) _ h (by simp [h1]) (Nat.mod_lt _ hk)]
 rw [Nat.div_add_mod' q k];exact hu
theorem OwnR.nil {α:Type} {B e k:Nat} {R:World→List Value→α→Prop} {w:World}:OwnR B e k R w (.slice none 0 0) []:=
 ⟨[],World.ownsRow_nil w B e k,rfl,by simp,by simp⟩
theorem OwnR.made {α:Type} {B e k:Nat} {R:World→List Value→α→Prop} {w:World} (hB:B≤w.heap.size):OwnR B e k R (w.alloc (.cells #[] e)) (.slice (some ⟨w.heap.size,0,none⟩) 0 0) ([]:List α):=
 ⟨[],World.ownsRow_made w #[] 0 hB (by simp [maxLen]) (by simp),rfl,by simp,by simp⟩
theorem OwnR.shape {α:Type} {B e k:Nat} {R:World→List Value→α→Prop} {w:World} {v:Value} {l:List α} (h:OwnR B e k R w v l) :
  ∃ a c,v=.slice a l.length c∧l.length≤c∧c≤maxLen∧(∀ p,a=some p→∃ g,p=⟨g,0,none⟩∧B≤g∧g < w.heap.size∧v.ownBlock=some g)∧(a=none→l=[]):=by
 obtain ⟨rows,h1,h2,h3,h4⟩:=h
 rcases h1.2 with ⟨rfl,hn⟩ | ⟨g,cap,cur,rfl,hg,hh,hn,hm,_⟩
 ·exact ⟨none,0,by rw [hn],by omega,by simp [maxLen],(fun p hp=>nomatch hp),fun _=>List.eq_nil_of_length_eq_zero hn⟩
 ·exact ⟨some ⟨g,0,none⟩,cap,rfl,hn,hm,(fun p hp=>by cases hp;exact ⟨g,rfl,hg,(Array.getElem?_eq_some_iff.1 hh).1,rfl⟩),(fun h=>nomatch h)⟩
theorem OwnR.sl {α:Type} {B e k:Nat} {R:World→List Value→α→Prop} {w:World} {v:Value} {l:List α} (h:OwnR B e k R w v l):SlR (fun b=>B≤b∧v.ownBlock=some b) k R w v l:=by
 obtain ⟨a,c,hv,hc,hm,hp,hn⟩:=h.shape
 obtain ⟨rows,h1,h2,h3,h4⟩:=h
 refine ⟨a,c,hv,hc,hm,fun i x hx=>?_⟩
 have hi:i < l.length:=(List.getElem?_eq_some_iff.1 hx).1
 cases a with
 | none=>rw [hn rfl] at hi;simp at hi
 | some p=>
  obtain ⟨g,rfl,hg,hlt,hob⟩:=hp p rfl
  have hr:i < rows.length:=by omega
  have hrl:∀ r ∈ rows,r.length=k:=fun r hr=>(h3 r hr).1
  refine ⟨_,rows[i],rfl,⟨hg,hob⟩,hrl _ (by simp),fun j u hu=>?_,h4 i _ x (by simp [hr]) hx⟩
  have hj:j < k:=by rw [←hrl rows[i] (by simp)];exact (List.getElem?_eq_some_iff.1 hu).1
  refine h1.cells hob _ u ?_
  rw [flat_get rows i j rows[i] hrl (by simp [hr]) hj];exact hu
theorem OwnR.mod {α:Type} {B e k:Nat} {R R':World→List Value→α→Prop} {w w':World} {v:Value} {l:List α} {M:Nat→Prop} (h:OwnR B e k R w v l) (hm:Mod M w w') (hv:∀ g,v.ownBlock=some g→¬ M g)
  (hR:∀ r x,x ∈ l→R w r x→R' w' r x):OwnR B e k R' w' v l:=by
 obtain ⟨rows,h1,h2,h3,h4⟩:=h
 refine ⟨rows,⟨h1.1,?_⟩,h2,h3,fun i r x hr hx=>hR r x (List.mem_of_getElem? hx) (h4 i r x hr hx)⟩
 rcases h1.2 with hn | ⟨g,cap,cur,rfl,hb,hgg,rest⟩
 ·exact .inl hn
 ·refine .inr ⟨g,cap,cur,rfl,hb,?_,rest⟩
  rw [hm.same g (Array.getElem?_eq_some_iff.1 hgg).1 (hv g rfl)];exact hgg
def ElemOK (P:Program) (t e size bytes:Nat):Prop:=∃ i z,P.underlying t=some (.slice e)∧P.info? e=some i∧i.zero=some z∧i.size=size∧i.bytes=bytes∧z.cells.size=size∧0 < size
theorem run_append_at {P:Program} {t ty B e k bytes:Nat} {w:World} {v:Value} {n:Nat} {xs:List Value} (hE:ElemOK P t e k bytes) (hown:w.ownsRow B e k v n xs) (a:Option Addr) (m c:Nat) (news:List Value)
  (hl:news.length=m * k) (ha:a=none→m=0) (hnews:∀ p,a=some p→∀ j u,news[j]?=some u→w.cell? (p.add j)=some u) (h1:∀ u ∈ news,u.oneCell'=true) (h63:n+m≤maxLen) (hbytes:(n+m) * bytes≤140737488355328) (hB:B≤w.heap.size) :
  ∃ v' w',(Builtin.append_ #[t,t] ty #[v,.slice a m c]).run P w=.ok v' w'∧w'.ownsRow B e k v' (n+m) (xs++news)∧w.grownBy w' v.ownBlock∧(∀ g,v'.ownBlock=some g→v.ownBlock=some g∨w.heap.size≤g):=by
 obtain ⟨i,z,ht,hi,hz,rfl,rfl,hzs,hk⟩:=hE
 cases a with
 | none=>
  have hm:=ha rfl
  subst hm
  have:news=[]:=List.eq_nil_of_length_eq_zero (by simpa using hl)
  subst this
  have hsh:∃ b s q,v=.slice b s q∧s≤q:=by
   rcases hown.2 with ⟨rfl,_⟩ | ⟨g,cap,cur,rfl,_,_,h,_⟩
   ·exact ⟨_,_,_,rfl,Nat.le_refl _⟩
   ·exact ⟨_,_,_,rfl,h⟩
  refine ⟨v,w,?_,by simpa using hown,⟨rfl,rfl,rfl,Nat.le_refl _,fun _ _ _=>rfl⟩,fun g hg=>.inl hg⟩
  obtain ⟨b,s,q,rfl,hq⟩:=hsh
  cases b <;> simp [Builtin.append_,run_underlying ht,sizeOf,typeInfo,hi,Builtin.lenOf,Builtin.firstCells,hq,storeCells]
 | some p=>
  have hn:=hnews p rfl
  have hsm:((n+m:Nat):Int)≤9223372036854775807:=by simp only [maxLen] at h63;omega
  rcases hown.2 with ⟨rfl,rfl⟩ | ⟨g,cap,cur,rfl,hbg,hg,hnc,hcm,hcs,htake⟩
  ·have hown':w.ownsRow w.heap.size e i.size (.slice none 0 0) 0 xs:=⟨hown.1,.inl ⟨rfl,rfl⟩⟩
   obtain ⟨v',w',r1,r2,r3,_⟩:=run_append_own (P:=P) w w.heap.size t ty e i z i.size i.bytes ht hi hz rfl rfl hzs hk _ 0 xs hown' p m c news hl hn h1 h63 hbytes (Nat.le_refl _)
   refine ⟨v',w',r1,⟨r2.1,?_⟩,r3,fun g hg=>.inr (r2.lt g hg).1⟩
   rcases r2.2 with h | ⟨g,cap,cur,q1,q2,q3⟩
   ·exact .inl h
   ·exact .inr ⟨g,cap,cur,q1,Nat.le_trans hB q2,q3⟩
  ·by_cases hroom:n+m≤cap
   ·have hfit:n * i.size+news.length≤cur.size:=by rw [hl,hcs,←Nat.add_mul];exact Nat.mul_le_mul_right _ hroom
    have hr:=run_append_room (P:=P) w t ty e i ht hi g n cap cur hg p m c news hl hn h1 hroom hfit
    have hx:xs.length=n * i.size:=hown.1
    refine ⟨_,_,hr,⟨by rw [List.length_append,hx,hl,Nat.add_mul],.inr ⟨g,cap,_,rfl,hbg,setRow_heap w g cur _ e _ hg,hroom,hcm,?_,?_⟩⟩,⟨rfl,rfl,rfl,?_,fun b _ hb=>setRow_other w g b _ (fun e=>hb (by simp [Value.ownBlock,e]))⟩,fun g' hg'=>.inl hg'⟩
    ·have h0:cur.toList.length=cap * i.size:=by rw [Array.length_toList,hcs]
     have h2:n * i.size+m * i.size≤cap * i.size:=by rw [←Nat.add_mul];exact Nat.mul_le_mul_right _ hroom
     simp only [List.size_toArray,List.length_append,List.length_take,List.length_drop,h0,hl]
     omega
    ·rw [htake,Nat.add_mul,←hx,←hl,←List.length_append]
     exact List.take_left
    ·simp [World.setRow]
   ·have holds:∀ j u,xs[j]?=some u→w.cell? ((⟨g,0,none⟩:Addr).add j)=some u:=hown.cells (g:=g) rfl
    have hr:=run_append_grow (P:=P) w t ty e i z ht hi hz ⟨g,0,none⟩ n cap xs hown.1 holds p m c news hl hn (by omega) hsm (growslice_fits (by omega) hbytes)
    have hge:=grownCap_ge w (n+m) cap e
    have hx:xs.length=n * i.size:=hown.1
    refine ⟨_,_,hr,⟨by rw [List.length_append,hx,hl,Nat.add_mul],.inr ⟨w.heap.size,_,_,rfl,hB,heap_alloc_new w.drew _,hge,grownCap_le_maxLen w (n+m) cap e h63,?_,?_⟩⟩,⟨rfl,rfl,rfl,by simp,fun b hb _=>RowKit.Below.heap_alloc w.drew _ b hb⟩,fun g' hg'=>.inr (by cases hg';exact Nat.le_refl _)⟩
    ·simp only [Array.size_append,List.size_toArray,size_zeroCells,hzs,hx,hl,←Nat.add_mul]
     congr 1;omega
    ·simp only [Array.toList_append]
     have h3:(n+m) * i.size=(xs++news).length:=by rw [List.length_append,hx,hl,Nat.add_mul]
     rw [h3,List.take_append_of_le_length (Nat.le_refl _),List.take_length]
theorem OwnR.append {α:Type} {P:Program} {t ty B e k bytes:Nat} {R:World→List Value→α→Prop} {S:Nat→Prop} {w:World} {v x:Value} {l m:List α} (hE:ElemOK P t e k bytes) (h:OwnR B e k R w v l) (hx:SlR S k R w x m)
  (hone:∀ r y,R w r y→∀ u ∈ r,u.oneCell'=true) (h63:(l.length+m.length) * bytes≤140737488355328) (hB:B≤w.heap.size) (hlm:l.length+m.length≤maxLen)
  (hR:∀ w',w.grownBy w' v.ownBlock→∀ r y,R w r y→R w' r y) :
  runK P (Builtin.append_ #[t,t] ty [v,x].toArray) (fun v' w'=>OwnR B e k R w' v' (l++m)∧w.grownBy w' v.ownBlock∧(∀ g,v'.ownBlock=some g→v.ownBlock=some g∨w.heap.size≤g)) w:=by
 obtain ⟨i,z,ht,hi,hz,hs,hb,hzs,hk⟩:=hE
 have hsh:=hx.shape
 obtain ⟨rows,h1,h2,h3,h4⟩:=h
 obtain ⟨a,c,rfl,hc,hcm,hel⟩:=hx
 have fin:∀ (rows':List (List Value)),rows'.length=m.length→(∀ r ∈ rows',r.length=k∧∀ u ∈ r,u.oneCell'=true)→(∀ (i:Nat) (r:List Value) (y:α),rows'[i]?=some r→m[i]?=some y→R w r y)→
   (∃ v' w',(Builtin.append_ #[t,t] ty [v,.slice a m.length c].toArray).run P w=.ok v' w'∧w'.ownsRow B e k v' (l.length+m.length) (rows.flatten++rows'.flatten)∧w.grownBy w' v.ownBlock∧(∀ g,v'.ownBlock=some g→v.ownBlock=some g∨w.heap.size≤g))→
   runK P (Builtin.append_ #[t,t] ty [v,.slice a m.length c].toArray) (fun v' w'=>OwnR B e k R w' v' (l++m)∧w.grownBy w' v.ownBlock∧(∀ g,v'.ownBlock=some g→v.ownBlock=some g∨w.heap.size≤g)) w:=by
  rintro rows' e1 e2 e3 ⟨v',w',r1,r2,r3,r4⟩
  refine ⟨v',w',r1,⟨rows++rows',by rw [List.flatten_append,List.length_append];exact r2,by simp [h2,e1],?_,?_⟩,r3,r4⟩
  ·intro r hr;rcases List.mem_append.1 hr with hr | hr
   ·exact h3 r hr
   ·exact e2 r hr
  ·intro j r y hr hy
   refine hR w' r3 r y ?_
   by_cases hj:j < l.length
   ·rw [List.getElem?_append_left (by omega)] at hr
    rw [List.getElem?_append_left hj] at hy
    exact h4 j r y hr hy
   ·rw [List.getElem?_append_right (by omega)] at hr
    rw [List.getElem?_append_right (by omega)] at hy
    rw [h2] at hr
    exact e3 _ r y hr hy
 -- the cells of what is appended
 have hrows:∃ rows':List (List Value),rows'.length=m.length∧(∀ (i:Nat) (r:List Value),rows'[i]?=some r→r.length=k∧(∀ u ∈ r,u.oneCell'=true)∧(∃ p,a=some p∧∀ j u,r[j]?=some u→w.cell? (p.add (i * k+j))=some u)∧∃ y,m[i]?=some y∧R w r y):=by
  clear fin h4 h3 h2 h1 h63 hlm hR hcm hsh
  have gen:∀ q,q≤m.length→∃ rows':List (List Value),rows'.length=q∧(∀ (i:Nat) (r:List Value),rows'[i]?=some r→r.length=k∧(∀ u ∈ r,u.oneCell'=true)∧(∃ p,a=some p∧∀ j u,r[j]?=some u→w.cell? (p.add (i * k+j))=some u)∧∃ y,m[i]?=some y∧R w r y):=by
   intro q
   induction q with
   | zero=>exact fun _=>⟨[],rfl,fun i r h=>by simp at h⟩
   | succ q ih=>
    intro hq
    obtain ⟨rs,e1,e2⟩:=ih (by omega)
    obtain ⟨p,r,f1,f2,f3,f4,f5⟩:=hel q m[q] (by simp [show q < m.length by omega])
    refine ⟨rs++[r],by simp [e1],fun i r' hr'=>?_⟩
    by_cases hi:i < q
    ·rw [List.getElem?_append_left (by omega)] at hr';exact e2 i r' hr'
    ·have:i=q:=by have:=(List.getElem?_eq_some_iff.1 hr').1;simp [e1] at this;omega
     subst this
     rw [List.getElem?_append_right (by omega)] at hr'
     simp [e1] at hr'
     subst hr'
     exact ⟨f3,hone _ _ f5,⟨p,f1,f4⟩,m[i],by simp [show i < m.length by omega],f5⟩
  exact gen m.length (Nat.le_refl _)
 obtain ⟨rows',g1,g2⟩:=hrows
 have hlen:∀ r ∈ rows',r.length=k:=fun r hr=>by obtain ⟨j,hj⟩:=List.mem_iff_getElem?.1 hr;exact (g2 j r hj).1
 refine fin rows' g1 (fun r hr=>by obtain ⟨j,hj⟩:=List.mem_iff_getElem?.1 hr;exact ⟨(g2 j r hj).1,(g2 j r hj).2.1⟩) (fun j r y hr hy=>?_) ?_
 ·obtain ⟨_,_,_,y',hy',hRy⟩:=g2 j r hr
  rw [hy] at hy';cases hy';exact hRy
 ·refine run_append_at ⟨i,z,ht,hi,hz,hs,hb,hzs,hk⟩ h1 a m.length c rows'.flatten (by rw [flat_len rows' hlen,g1]) ?_ ?_ ?_ hlm h63 hB
  ·intro ha
   by_cases hm0:m.length=0
   ·exact hm0
   ·obtain ⟨p,r,f1,_⟩:=hel 0 m[0] (by simp [show 0 < m.length by omega])
    rw [ha] at f1;cases f1
  ·intro p hp q u hu
   obtain ⟨r,hr,hru⟩:=flat_of_get hk rows' hlen q u hu
   obtain ⟨_,_,⟨p',hp',hc'⟩,_⟩:=g2 _ r hr
   rw [hp] at hp';cases hp'
   have:=hc' _ u hru
   rwa [Nat.div_add_mod'] at this
  ·intro u hu
   obtain ⟨r,hr,hur⟩:=List.mem_flatten.1 hu
   obtain ⟨j,hj⟩:=List.mem_iff_getElem?.1 hr
   exact (g2 j r hj).2.1 u hur
theorem Mod.next {M M':Nat→Prop} {w w1 w2:World} (h1:Mod M' w w1) (h2:Mod M w1 w2) (hM:∀ b,b < w.heap.size→M b→M' b):Mod M' w w2:=
 ⟨h2.os.trans h1.os,h2.tape.trans h1.tape,h2.output.trans h1.output,Nat.le_trans h1.size h2.size,fun b hb hn=>(h2.same b (Nat.lt_of_lt_of_le hb h1.size) fun h=>hn (hM b hb h)).trans (h1.same b hb hn)⟩
theorem SlR.grow {α:Type} {S:Nat→Prop} {k:Nat} {R:World→List Value→α→Prop} {w w':World} {v:Value} {l:List α} (h:SlR S k R w v l) (hg:Grow w w') (hk:0 < k) (hR:∀ r x,R w r x→R w' r x):SlR S k R w' v l:=
 h.mono (fun _ _ h=>h) (fun b hb _=>hg.same b hb fun h=>h) hk hR
theorem SlR.mod {α:Type} {S M:Nat→Prop} {k:Nat} {R:World→List Value→α→Prop} {w w':World} {v:Value} {l:List α} (h:SlR S k R w v l) (hg:Mod M w w') (hS:∀ b,b < w.heap.size→S b→¬ M b) (hk:0 < k) (hR:∀ r x,R w r x→R w' r x):SlR S k R w' v l:=
 h.mono (fun _ _ h=>h) (fun b hb hs=>hg.same b hb (hS b hb hs)) hk hR
theorem SlR.sub {α:Type} {S S':Nat→Prop} {k:Nat} {R R':World→List Value→α→Prop} {w:World} {v:Value} {l:List α} (h:SlR S k R w v l) (hS:∀ b,b < w.heap.size→S b→S' b) (hk:0 < k) (hR:∀ r x,R w r x→R' w r x):SlR S' k R' w v l:=
 h.mono hS (fun _ _ _=>rfl) hk hR
theorem OwnR.base {α:Type} {B B' e k:Nat} {R:World→List Value→α→Prop} {w:World} {v:Value} {l:List α} (h:OwnR B e k R w v l) (hb:∀ g,v.ownBlock=some g→B'≤g):OwnR B' e k R w v l:=by
 obtain ⟨rows,h1,h2,h3,h4⟩:=h
 refine ⟨rows,⟨h1.1,?_⟩,h2,h3,h4⟩
 rcases h1.2 with hn | ⟨g,cap,cur,rfl,hb',rest⟩
 ·exact .inl hn
 ·exact .inr ⟨g,cap,cur,rfl,hb g rfl,rest⟩
theorem rowK_empty {e k:Nat} {K:Cont} {w:World} (h:K (.slice (some ⟨w.heap.size,0,none⟩) 0 0) (w.alloc (.cells #[] e))):rowK e k 0 [] [] K w:=by
 refine ⟨#[],?_,h⟩
 simp [Instr.fill,Array.range_zero']
theorem flat_set {k:Nat}:∀ (rows:List (List Value)) (i j:Nat) (r:List Value) (u:Value),(∀ r ∈ rows,r.length=k)→rows[i]?=some r→j < k→rows.flatten.set (i * k+j) u=(rows.set i (r.set j u)).flatten:=by
 intro rows;induction rows with
 | nil=>intro i j r u _ h;simp at h
 | cons r0 rs ih=>
  intro i j r u h hi hj
  have h0:=h r0 (by simp)
  cases i with
  | zero=>
   simp at hi;subst hi
   simp only [List.flatten_cons,List.set_cons_zero,Nat.zero_mul,Nat.zero_add]
   rw [List.set_append_left _ _ (by omega)]
  | succ i=>
   have:=ih i j r u (fun r hr=>h r (by simp [hr])) (by simpa using hi) hj
   simp only [List.flatten_cons,List.set_cons_succ]
   rw [List.set_append_right _ _ (by rw [h0,Nat.add_mul];omega),←this]
   congr 2;rw [h0,Nat.add_mul];omega
theorem OwnR.store {α:Type} {B e k:Nat} {R R':World→List Value→α→Prop} {w:World} {a:Addr} {n c:Nat} {l:List α} (h:OwnR B e k R w (.slice (some a) n c) l) {i j:Nat} {u:Value} {x':α} (hi:i < l.length) (hj:j < k)
  (hu:u.oneCell'=true) (hR:∀ r y,y ∈ l→R w r y→R' (w.setCell (a.add (i * k+j)) u) r y) (hx:∀ r,R w r l[i]→R' (w.setCell (a.add (i * k+j)) u) (r.set j u) x') :
  (∃ v,w.cell? (a.add (i * k+j))=some v)∧w.frozen? (a.add (i * k+j))=false∧OwnR B e k R' (w.setCell (a.add (i * k+j)) u) (.slice (some a) n c) (l.set i x')∧Mod (fun b=>b=a.block) w (w.setCell (a.add (i * k+j)) u):=by
 obtain ⟨rows,h1,h2,h3,h4⟩:=h
 have hrl:∀ r ∈ rows,r.length=k:=fun r hr=>(h3 r hr).1
 have hir:i < rows.length:=by omega
 have hsh:∃ g,a=⟨g,0,none⟩∧n=l.length:=by
  rcases h1.2 with ⟨h',_⟩ | ⟨g',cap',cur,h',_⟩
  ·simp at h'
  ·simp only [Value.slice.injEq,Option.some.injEq] at h';exact ⟨g',h'.1,h'.2.1⟩
 obtain ⟨g,rfl,rfl⟩:=hsh
 have hadd:(⟨g,0,none⟩:Addr).add (i * k+j)=⟨g,i * k+j,none⟩:=by unfold Addr.add;split <;> simp_all
 rw [hadd] at hR hx ⊢
 have hlt:i * k+j < l.length * k:=by
  have:(i+1) * k≤l.length * k:=Nat.mul_le_mul_right _ hi
  rw [Nat.add_mul] at this;omega
 obtain ⟨s1,s2⟩:=h1.stored (i * k+j) u
 have hri:rows[i]?=some rows[i]:=by simp [hir]
 refine ⟨?_,h1.frozenAt _,?_,?_⟩
 ·refine ⟨(rows.flatten)[i * k+j]'(by rw [flat_len rows hrl,h2];exact hlt),?_⟩
  rw [h1.cellAt _ hlt];simp [flat_len rows hrl,h2,hlt]
 ·refine ⟨rows.set i (rows[i].set j u),?_,by simp [h2],?_,?_⟩
  ·rw [List.length_set,←flat_set rows i j rows[i] u hrl hri hj];exact s1
  ·intro r hr
   rcases List.mem_or_eq_of_mem_set hr with hr | rfl
   ·exact h3 r hr
   ·refine ⟨by rw [List.length_set];exact hrl _ (by simp),fun y hy=>?_⟩
    rcases List.mem_or_eq_of_mem_set hy with hy | rfl
    ·exact (h3 rows[i] (by simp)).2 y hy
    ·exact hu
  ·intro q r y hr hy
   by_cases hq:i=q
   ·subst hq
    simp only [List.getElem?_set_self hir,List.getElem?_set_self hi,Option.some.injEq] at hr hy
    subst hr;subst hy
    exact hx _ (h4 i _ _ hri (by simp [hi]))
   ·rw [List.getElem?_set_ne hq] at hr hy
    exact hR r y (List.mem_of_getElem? hy) (h4 q r y hr hy)
 ·exact Mod.setCell _ _ _ rfl
end Go.K

namespace Go.Proofs.YtgmpbihbdbmhoaaGreatDoor
open Go Go.K

structure AVal where
 kind:Int
 n:Int
 f:Int
 s:ByteArray
 deriving DecidableEq
structure Attr where
 key:Int
 val:AVal
 deriving DecidableEq
def AVal.cells (v:AVal):List Value:=[.int .u8 v.kind,.int .i64 v.n,.int .u64 v.f,.string v.s]
def Attr.cells (a:Attr):List Value:=.int .i64 a.key :: a.val.cells
abbrev RAttr:World→List Value→Attr→Prop:=fun _ r x=>r=x.cells
abbrev RSet (S:Nat→Prop) (w:World) (v:Value) (l:List Attr):Prop:=SlR S 5 RAttr w v l

theorem eqIn_attr (a b:Attr) (w:World) :
  (Op.equalIn 10000 61 (.agg a.cells.toArray) (.agg b.cells.toArray)).run Tryz.prog w=.ok (decide (a=b)) w:=by
 have hS:Tryz.prog.underlying 61=some (.struct (Tryz.prog.fieldsOf 61)):=by kernel_rfl
 have hV:Tryz.prog.underlying 59=some (.struct (Tryz.prog.fieldsOf 59)):=by kernel_rfl
 have u1:=Tryz.underlying3
 have u2:=Tryz.underlying5
 have u3:=Tryz.underlying2
 have u4:=Tryz.underlying57
 have u5:=Tryz.underlying9
 rw [show (10000:Nat)=9999+1 from rfl,run_equalIn_agg w 9999 _ _ _ hS Tryz.stoodInHeld61]
 simp only [Program.fieldsOf,Tryz.underlying61,Attr.cells,AVal.cells]
 have a1:=Tryz.isAgg3
 have a2:=Tryz.isAgg59
 have z2:∀ w,(sizeOf 59).run Tryz.prog w=.ok 4 w:=fun w=>by simp only [sizeOf,Sem.run_bind,Tryz.typeInfo59,Result.andThen_ok,Sem.run_pure];rfl
 have a3:=Tryz.isAgg5
 have a4:=Tryz.isAgg2
 have a5:=Tryz.isAgg57
 have a6:=Tryz.isAgg9
 have hv:∀ (x y:AVal) (w:World),(Op.equalIn 9999 59 (.agg #[.int .u8 x.kind,.int .i64 x.n,.int .u64 x.f,.string x.s]) (.agg #[.int .u8 y.kind,.int .i64 y.n,.int .u64 y.f,.string y.s])).run Tryz.prog w=.ok (decide (x=y)) w:=by
  intro x y w
  rw [show (9999:Nat)=9998+1 from rfl,run_equalIn_agg w 9998 _ _ _ hV Tryz.stoodInHeld59]
  simp only [Program.fieldsOf,Tryz.underlying59]
  have e1:∀ a b:Int,(Op.equalIn 9998 5 (.int .u8 a) (.int .u8 b)).run Tryz.prog w=.ok (a == b) w:=fun a b=>run_equalIn_int w 9997 _ _ _ a b u2
  have e2:∀ a b:Int,(Op.equalIn 9998 2 (.int .i64 a) (.int .i64 b)).run Tryz.prog w=.ok (a == b) w:=fun a b=>run_equalIn_int w 9997 _ _ _ a b u3
  have e3:∀ a b:Int,(Op.equalIn 9998 57 (.int .u64 a) (.int .u64 b)).run Tryz.prog w=.ok (a == b) w:=fun a b=>run_equalIn_int w 9997 _ _ _ a b u4
  have e4:∀ a b:ByteArray,(Op.equalIn 9998 9 (.string a) (.string b)).run Tryz.prog w=.ok (a.toList == b.toList) w:=fun a b=>run_equalIn_string w 9997 _ a b u5
  have q:decide (x=y)=(x.kind == y.kind && (x.n == y.n && (x.f == y.f && decide (x.s=y.s)))):=by
   cases x;cases y
   rw [Bool.eq_iff_iff]
   simp [AVal.mk.injEq]
  rw [q]
  simp [Op.eqFields,part,a3,a4,a5,a6,e1,e2,e3,e4,toList_beq]
  by_cases h1:x.kind=y.kind <;> by_cases h2:x.n=y.n <;> by_cases h3:x.f=y.f <;> by_cases h4:x.s=y.s <;> simp [h1,h2,h3,h4]
 have e1:∀ a b:Int,(Op.equalIn 9999 3 (.int .i64 a) (.int .i64 b)).run Tryz.prog w=.ok (a == b) w:=fun a b=>run_equalIn_int w 9998 _ _ _ a b u1
 have e2:∀ (x y:AVal) (w:World),(Op.equalIn 9999 59 (.agg #[.int .u8 x.kind,.int .i64 x.n,.int .u64 x.f,.string x.s]) (.agg #[.int .u8 y.kind,.int .i64 y.n,.int .u64 y.f,.string y.s])).run Tryz.prog w=.ok (decide (x=y)) w:=hv
 have e3:=e2 a.val b.val w
 have x1:∀ k q r s t:Value,(#[k,q,r,s,t]:Array Value).extract 1 5=#[q,r,s,t]:=fun _ _ _ _ _=>rfl
 have q:decide (a=b)=(a.key == b.key && decide (a.val=b.val)):=by
  cases a;cases b
  rw [Bool.eq_iff_iff]
  simp [Attr.mk.injEq]
 rw [q]
 simp [Op.eqFields,part,a1,a2,z2,e1,x1,e3]
 by_cases h1:a.key=b.key <;> by_cases h2:a.val=b.val <;> simp [h1,h2]

theorem run_ne_attr (xo yo:Operand) (a b:Attr) (w:World) :
  (binS .neq 61 xo yo (.agg a.cells.toArray) (.agg b.cells.toArray)).run Tryz.prog w=.ok (.bool (!decide (a=b))) w:=by
 simp only [binS,Sem.run_bind,run_eqGuard_agg w .neq _ xo yo _ _ Tryz.eqGuardType61,Result.andThen_ok]
 rw [run_neq_struct,eqIn_attr];rfl
theorem elem_attr:ElemOK Tryz.prog 53 61 5 48:=⟨Tryz.t61,.agg #[.int .i64 0,.int .u8 0,.int .i64 0,.int .u64 0,.string ⟨#[]⟩],by kernel_rfl,by kernel_rfl,by kernel_rfl,by kernel_rfl,by kernel_rfl,by rfl,by decide⟩
theorem RAttr.one {w:World} {r:List Value} {x:Attr} (h:RAttr w r x):∀ u ∈ r,u.oneCell'=true:=by
 intro u hu
 subst h
 simp only [Attr.cells,AVal.cells,List.mem_cons,List.not_mem_nil,or_false] at hu
 rcases hu with rfl | rfl | rfl | rfl | rfl <;> rfl
abbrev OSet (B:Nat) (w:World) (v:Value) (l:List Attr):Prop:=OwnR B 61 5 RAttr w v l

structure Blk where
 n:Int
 set:List Attr
 deriving DecidableEq
end Go.Proofs.YtgmpbihbdbmhoaaGreatDoor

namespace Go.K
open Go

def Quiet (W W':World):Prop:=W'.os=W.os∧W'.tape=W.tape∧W'.output=W.output
variable {P:Program} {ok:Nat→Bool} {n:Nat}

variable (P ok n)
variable {P ok n}
end Go.K
namespace Go.K
open Go
variable {P:Program} {ok:Nat→Bool} {n:Nat}
end Go.K

namespace Go.Proofs.YtgmpbihbdbmhoaaGreatDoor
open Go Go.K
def S27 (v0 v1:Value) (K:Cont) (w:World):Prop:=
 lenK v0 fun t7=>
 lenK v1 fun t9=>
 neK .i64 t7 t9 fun t10=>
 condK t10
 (K (.bool false) w)
 (LoopK [(.int .i64 0)] (fun vs again w1=>∀ _h:Env,
 lenK v0 fun t13=>
 ltK .i64 (nth vs 0) t13 fun t14=>
 condK t14
 (DrawK w1 (fun C=>
 ixK 5 v0 (nth vs 0) fun t19=>
 qldnK C 5 t19 fun t20=>
 ixK 5 v1 (nth vs 0) fun t23=>
 qldnK C 5 t23 fun t24=>
 qrunK Tryz.prog C (binS .neq 61 (.tmp 20) (.tmp 24) t20 t24) fun t25=>
 ∀ w2:World,C w2→
 condK t25
 (K (.bool false) w2)
 (addK .i64 (nth vs 0) (.int .i64 1) fun t16=>
 again [t16] w2)))
 (K (.bool true) w1)) w)
theorem S27_eq (v0 v1:Value) (K:Cont) (w:World):S27 v0 v1 K w=D Tryz.prog okf 26 (bodyOf Tryz.f27) (.node [] [] .nil (.node [] [] (.node [] [] .nil (.node [] [] (.node [] [] .nil .nil) .nil)) (.node [] [] (.node [] [] .nil (.node [5] [(4,5),(11,25)] (.node [] [] (.node [] [] .nil (.node [] [] .nil .nil)) (.node [] [] (.node [] [] .draw (.node [] [] (.node [] [] .nil .nil) .nil)) .nil)) .nil)) (.node [] [] .nil .nil)))) (retK Tryz.prog [.tmp 4] K) (nth [v0,v1]) w:=by kernel_rfl
theorem S27_ok {v0 v1:Value} {K:Cont} {w:World} (h:S27 v0 v1 K w):callK Tryz.prog 27 [v0,v1] K w:=
 callK_of (P:=Tryz.prog) (ok:=okf) (n:=26) (fn:=Tryz.f27) (c:=bodyOf Tryz.f27) (rs:=[.tmp 4]) (an:=(.node [] [] .nil (.node [] [] (.node [] [] .nil (.node [] [] (.node [] [] .nil .nil) .nil)) (.node [] [] (.node [] [] .nil (.node [5] [(4,5),(11,25)] (.node [] [] (.node [] [] .nil (.node [] [] .nil .nil)) (.node [] [] (.node [] [] .draw (.node [] [] (.node [] [] .nil .nil) .nil)) .nil)) .nil)) (.node [] [] .nil .nil))))) good mixed Tryz.func27 (by kernel_rfl) (by kernel_rfl) (by kernel_rfl) (by kernel_rfl) (Eq.mp (S27_eq v0 v1 K w) h)

def S137 (v0:Value) (K:Cont) (w:World):Prop:=
 snilK v0 fun b4=>
 condK (.bool b4)
 (K (.slice none 0 0) w)
 (rowK 61 5 0 [] [] (fun t5 w1=>
 runK Tryz.prog (Builtin.append_ #[53,53] 53 [t5,v0].toArray) (fun t7 w2=>
 K t7 w2) w1) w)
theorem S137_eq (v0:Value) (K:Cont) (w:World):S137 v0 K w=D Tryz.prog okf 8 (bodyOf Tryz.f137) (.node [] [] .nil (.node [] [] (.node [] [] .nil (.node [] [] (.node [] [] .nil .nil) .nil)) (.node [] [] .nil .nil))) (retK Tryz.prog [.tmp 2] K) (nth [v0]) w:=by kernel_rfl
theorem S137_ok {v0:Value} {K:Cont} {w:World} (h:S137 v0 K w):callK Tryz.prog 137 [v0] K w:=
 callK_of (P:=Tryz.prog) (ok:=okf) (n:=8) (fn:=Tryz.f137) (c:=bodyOf Tryz.f137) (rs:=[.tmp 2]) (an:=(.node [] [] .nil (.node [] [] (.node [] [] .nil (.node [] [] (.node [] [] .nil .nil) .nil)) (.node [] [] .nil .nil)))) good mixed Tryz.func137 (by kernel_rfl) (by kernel_rfl) (by kernel_rfl) (by kernel_rfl) (Eq.mp (S137_eq v0 K w) h)

def S94 (v0 v1:Value) (K:Cont) (w:World):Prop:=
 callK Tryz.prog 136 [v0,v1] (fun t7 w1=>
 K t7 w1) w
theorem S94_eq (v0 v1:Value) (K:Cont) (w:World):S94 v0 v1 K w=D Tryz.prog okf 8 (bodyOf Tryz.f94) (.node [] [] .nil (.node [] [] .nil .nil)) (retK Tryz.prog [.tmp 4] K) (nth [v0,v1]) w:=by kernel_rfl
theorem S94_ok {v0 v1:Value} {K:Cont} {w:World} (h:S94 v0 v1 K w):callK Tryz.prog 94 [v0,v1] K w:=
 callK_of (P:=Tryz.prog) (ok:=okf) (n:=8) (fn:=Tryz.f94) (c:=bodyOf Tryz.f94) (rs:=[.tmp 4]) (an:=(.node [] [] .nil (.node [] [] .nil .nil))) good mixed Tryz.func94 (by kernel_rfl) (by kernel_rfl) (by kernel_rfl) (by kernel_rfl) (Eq.mp (S94_eq v0 v1 K w) h)

def S96 (v0:Value) (K:Cont) (w:World):Prop:=
 callK Tryz.prog 137 [v0] (fun t4 w1=>
 K t4 w1) w
theorem S96_eq (v0:Value) (K:Cont) (w:World):S96 v0 K w=D Tryz.prog okf 5 (bodyOf Tryz.f96) (.node [] [] .nil (.node [] [] .nil .nil)) (retK Tryz.prog [.tmp 2] K) (nth [v0]) w:=by kernel_rfl
theorem S96_ok {v0:Value} {K:Cont} {w:World} (h:S96 v0 K w):callK Tryz.prog 96 [v0] K w:=
 callK_of (P:=Tryz.prog) (ok:=okf) (n:=5) (fn:=Tryz.f96) (c:=bodyOf Tryz.f96) (rs:=[.tmp 2]) (an:=(.node [] [] .nil (.node [] [] .nil .nil))) good mixed Tryz.func96 (by kernel_rfl) (by kernel_rfl) (by kernel_rfl) (by kernel_rfl) (Eq.mp (S96_eq v0 K w) h)

def S136 (v0 v1:Value) (K:Cont) (w:World):Prop:=
 lenK v0 fun t7=>
 lenK v1 fun t9=>
 neK .i64 t7 t9 fun t10=>
 condK t10
 (K (.bool false) w)
 (lenK v0 fun t12=>
 LoopK [(.int .i64 0)] (fun vs again w1=>∀ _h:Env,
 ltK .i64 (nth vs 0) t12 fun t14=>
 condK t14
 (DrawK w1 (fun C=>
 ixK 5 v0 (nth vs 0) fun t18=>
 qldnK C 5 t18 fun t19=>
 ixK 5 v1 (nth vs 0) fun t22=>
 qldnK C 5 t22 fun t23=>
 qrunK Tryz.prog C (binS .neq 61 (.tmp 19) (.tmp 23) t19 t23) fun t24=>
 ∀ w2:World,C w2→
 condK t24
 (K (.bool false) w2)
 (addK .i64 (nth vs 0) (.int .i64 1) fun t25=>
 again [t25] w2)))
 (K (.bool true) w1)) w)
theorem S136_eq (v0 v1:Value) (K:Cont) (w:World):S136 v0 v1 K w=D Tryz.prog okf 26 (bodyOf Tryz.f136) (.node [] [] .nil (.node [] [] (.node [] [] .nil (.node [] [] (.node [] [] .nil .nil) .nil)) (.node [] [] (.node [] [] .nil (.node [13] [(4,5),(13,25)] (.node [] [] .nil (.node [] [] (.node [] [] .nil .nil) (.node [] [] (.node [] [] .nil (.node [] [] .draw (.node [] [] (.node [] [] .nil .nil) .nil))) .nil))) .nil)) (.node [] [] .nil .nil)))) (retK Tryz.prog [.tmp 4] K) (nth [v0,v1]) w:=by kernel_rfl
theorem S136_ok {v0 v1:Value} {K:Cont} {w:World} (h:S136 v0 v1 K w):callK Tryz.prog 136 [v0,v1] K w:=
 callK_of (P:=Tryz.prog) (ok:=okf) (n:=26) (fn:=Tryz.f136) (c:=bodyOf Tryz.f136) (rs:=[.tmp 4]) (an:=(.node [] [] .nil (.node [] [] (.node [] [] .nil (.node [] [] (.node [] [] .nil .nil) .nil)) (.node [] [] (.node [] [] .nil (.node [13] [(4,5),(13,25)] (.node [] [] .nil (.node [] [] (.node [] [] .nil .nil) (.node [] [] (.node [] [] .nil (.node [] [] .draw (.node [] [] (.node [] [] .nil .nil) .nil))) .nil))) .nil)) (.node [] [] .nil .nil))))) good mixed Tryz.func136 (by kernel_rfl) (by kernel_rfl) (by kernel_rfl) (by kernel_rfl) (Eq.mp (S136_eq v0 v1 K w) h)

end Go.Proofs.YtgmpbihbdbmhoaaGreatDoor

namespace Go.Proofs.YtgmpbihbdbmhoaaGreatDoor
open Go Go.K

theorem eq_set {S S':Nat→Prop} {a b:Value} {l m:List Attr} {w:World} (ha:RSet S w a l) (hb:RSet S' w b m) :
  callK Tryz.prog 136 [a,b] (fun v w'=>v=.bool (decide (l=m))∧Grow w w') w:=by
 apply S136_ok
 unfold S136
 obtain ⟨pa,ca,rfl,hla⟩:=ha.shape
 obtain ⟨pb,cb,rfl,hlb⟩:=hb.shape
 simp only [KS]
 simp only [maxLen] at hla hlb
 by_cases hlen:l.length=m.length
 ·rw [if_neg (show ¬ ¬ (l.length:Int)=m.length by omega)]
  refine ⟨fun vs w'=>∃ k:Nat,k≤l.length∧vs=[.int .i64 k]∧Grow w w'∧l.take k=m.take k,fun vs _=>l.length - iOf vs 0,⟨0,Nat.zero_le _,rfl,Mod.refl _ _,rfl⟩,?_⟩
  rintro vs w1 ⟨k,hk,rfl,hg,ht⟩ h
  simp only [KS]
  by_cases hlt:k < l.length
  ·rw [if_pos (show (k:Int) < l.length by omega)]
   refine ⟨fun w2=>Grow w1 w2,Mod.drew _ _,?_⟩
   obtain ⟨p,r,rfl,_,hr,hc,hx⟩:=ha.get hlt
   obtain ⟨q,r',rfl,_,hr',hc',hx'⟩:=hb.get (show k < m.length by omega)
   refine ixK_n hlt (qldnK_i hr (fun w2 h2 j u hu=>?_) ?_)
   ·rw [Addr.add_add];exact h2.cell (hg.cell (hc j u hu) (fun h=>h)) (fun h=>h)
   refine ixK_n (by omega) (qldnK_i hr' (fun w2 h2 j u hu=>?_) ?_)
   ·rw [Addr.add_add];exact h2.cell (hg.cell (hc' j u hu) (fun h=>h)) (fun h=>h)
   subst hx;subst hx'
   refine ⟨_,fun w2 _=>run_ne_attr _ _ _ _ w2,fun w2 h2=>?_⟩
   simp only [KS]
   by_cases he:l[k]=m[k]
   ·rw [if_neg (fun h=>h he)]
    refine ⟨⟨k+1,by omega,by rw [wrap64 (by omega) (by omega)];rfl,hg.trans h2,?_⟩,?_⟩
    ·rw [List.take_add_one,List.take_add_one,ht]
     simp [hlt,show k < m.length by omega,he]
    ·simp only [iOf,nth,List.headD_cons];rw [wrap64 (by omega) (by omega)];omega
   ·rw [if_pos he]
    refine ⟨?_,hg.trans h2⟩
    congr 1
    symm
    rw [decide_eq_false_iff_not]
    intro e;subst e;exact he rfl
  ·rw [if_neg (show ¬ (k:Int) < l.length by omega)]
   refine ⟨?_,hg⟩
   congr 1;symm
   rw [decide_eq_true_eq]
   have:k=l.length:=by omega
   subst this
   rw [List.take_length] at ht
   rw [ht,hlen,List.take_length]
 ·rw [if_pos (show ¬ (l.length:Int)=m.length by omega)]
  refine ⟨?_,Mod.refl _ _⟩
  congr 1;symm
  rw [decide_eq_false_iff_not]
  intro e;exact hlen (by rw [e])
theorem same_set {S S':Nat→Prop} {a b:Value} {l m:List Attr} {w:World} (ha:RSet S w a l) (hb:RSet S' w b m) :
  callK Tryz.prog 94 [a,b] (fun v w'=>v=.bool (decide (l=m))∧Grow w w') w:=by
 apply S94_ok
 exact eq_set ha hb
theorem clone_set {S:Nat→Prop} {v:Value} {l:List Attr} {w:World} (h:RSet S w v l) (hl:l.length * 48≤140737488355328) :
  callK Tryz.prog 137 [v] (fun v' w'=>OSet w.heap.size w' v' l∧Grow w w') w:=by
 apply S137_ok
 unfold S137
 obtain ⟨a,c,rfl,hm⟩:=h.shape
 cases a with
 | none=>
  simp only [KS]
  have:l=[]:=by
   cases l with
   | nil=>rfl
   | cons x l=>obtain ⟨p,r,e,_⟩:=h.get (i:=0) (by simp);cases e
  subst this
  exact ⟨OwnR.nil,Mod.refl _ _⟩
 | some p=>
  simp only [KS]
  refine rowK_empty ?_
  have hg:Grow w (w.alloc (.cells #[] 61)):=Mod.alloc _ _ _
  have ho:OSet w.heap.size (w.alloc (.cells #[] 61)) (.slice (some ⟨w.heap.size,0,none⟩) 0 0) []:=OwnR.made (Nat.le_refl _)
  obtain ⟨v',w',h1,h2,h3,h4⟩:=OwnR.append (ty:=53) elem_attr ho (h.grow hg (by decide) fun _ _ h=>h) (fun _ _=>RAttr.one) (by simpa using hl) (by simp) (by simpa using hm) (fun _ _ _ _ h=>h)
  refine runK_i h1 ⟨?_,hg.next (Mod.of_grownBy h3) ?_⟩
  ·refine h2.base fun g hg'=>?_
   rcases h4 g hg' with h | h
   ·cases h;exact Nat.le_refl _
   ·simp only [World.size_alloc] at h;omega
  ·intro b hb e;simp only [Value.ownBlock,Option.some.injEq] at e;omega
theorem copy_set {S:Nat→Prop} {v:Value} {l:List Attr} {w:World} (h:RSet S w v l) (hl:l.length * 48≤140737488355328) :
  callK Tryz.prog 96 [v] (fun v' w'=>OSet w.heap.size w' v' l∧Grow w w') w:=by
 apply S96_ok
 exact clone_set h hl
end Go.Proofs.YtgmpbihbdbmhoaaGreatDoor

namespace Go.K
open Go
theorem cell_box {w:World} {t:TypeId} {vs:List Value} {j:Nat} {v:Value} (h:vs[j]?=some v):(w.alloc (.cells vs.toArray t)).cell? ((⟨w.heap.size,0,none⟩:Addr).add j)=some v:=by
 have hadd:(⟨w.heap.size,0,none⟩:Addr).add j=⟨w.heap.size,j,none⟩:=by unfold Addr.add;split <;> simp_all
 rw [hadd,World.cell?_alloc_new];simpa using h
theorem OwnR.ownB {α:Type} {B e k:Nat} {R:World→List Value→α→Prop} {w:World} {v:Value} {l:List α} (h:OwnR B e k R w v l):∀ g,v.ownBlock=some g→B≤g∧g < w.heap.size:=by
 obtain ⟨a,c,rfl,_,_,hp,_⟩:=OwnR.shape h
 intro g hg
 cases a with
 | none=>cases hg
 | some p=>obtain ⟨g',rfl,h1,h2,h3⟩:=hp p rfl;rw [hg] at h3;cases h3;exact ⟨h1,h2⟩
theorem SlR.old {α:Type} {S:Nat→Prop} {k:Nat} {R:World→List Value→α→Prop} {w:World} {v:Value} {l:List α} (h:SlR S k R w v l) (hk:0 < k):SlR (fun b=>S b∧b < w.heap.size) k R w v l:=
 h.sub (fun b hb hs=>⟨hs,hb⟩) hk fun _ _ h=>h
end Go.K
namespace Go.Proofs.YtgmpbihbdbmhoaaGreatDoor
open Go Go.K

end Go.Proofs.YtgmpbihbdbmhoaaGreatDoor

namespace Go.Proofs.YtgmpbihbdbmhoaaGreatDoor
open Go Go.K

theorem rsame_set {S S':Nat→Prop} {a b:Value} {l m:List Attr} {w:World} (ha:RSet S w a l) (hb:RSet S' w b m) :
  callK Tryz.prog 27 [a,b] (fun v w'=>v=.bool (decide (l=m))∧Grow w w') w:=by
 apply S27_ok
 unfold S27
 obtain ⟨pa,ca,rfl,hla⟩:=ha.shape
 obtain ⟨pb,cb,rfl,hlb⟩:=hb.shape
 simp only [KS]
 simp only [maxLen] at hla hlb
 by_cases hlen:l.length=m.length
 ·rw [if_neg (show ¬ ¬ (l.length:Int)=m.length by omega)]
  refine LoopK_i (fun vs w'=>∃ k:Nat,k≤l.length∧vs=[.int .i64 k]∧Grow w w'∧l.take k=m.take k) (fun vs _=>l.length - iOf vs 0) ⟨0,Nat.zero_le _,rfl,Mod.refl _ _,rfl⟩ ?_
  rintro vs w1 ⟨k,hk,rfl,hg,ht⟩ h
  simp only [KS]
  by_cases hlt:k < l.length
  ·rw [if_pos (show (k:Int) < l.length by omega)]
   refine ⟨fun w2=>Grow w1 w2,Mod.drew _ _,?_⟩
   obtain ⟨p,r,rfl,_,hr,hc,hx⟩:=ha.get hlt
   obtain ⟨q,r',rfl,_,hr',hc',hx'⟩:=hb.get (show k < m.length by omega)
   refine ixK_n hlt (qldnK_i hr (fun w2 h2 j u hu=>?_) ?_)
   ·rw [Addr.add_add];exact h2.cell (hg.cell (hc j u hu) (fun h=>h)) (fun h=>h)
   refine ixK_n (by omega) (qldnK_i hr' (fun w2 h2 j u hu=>?_) ?_)
   ·rw [Addr.add_add];exact h2.cell (hg.cell (hc' j u hu) (fun h=>h)) (fun h=>h)
   subst hx;subst hx'
   refine ⟨_,fun w2 _=>run_ne_attr _ _ _ _ w2,fun w2 h2=>?_⟩
   simp only [KS]
   by_cases he:l[k]=m[k]
   ·rw [if_neg (fun h=>h he)]
    refine ⟨⟨k+1,by omega,by rw [wrap64 (by omega) (by omega)];rfl,hg.trans h2,?_⟩,?_⟩
    ·rw [List.take_add_one,List.take_add_one,ht]
     simp [hlt,show k < m.length by omega,he]
    ·simp only [iOf,nth,List.headD_cons];rw [wrap64 (by omega) (by omega)];omega
   ·rw [if_pos he]
    refine ⟨?_,hg.trans h2⟩
    congr 1
    symm
    rw [decide_eq_false_iff_not]
    intro e;subst e;exact he rfl
  ·rw [if_neg (show ¬ (k:Int) < l.length by omega)]
   refine ⟨?_,hg⟩
   congr 1;symm
   rw [decide_eq_true_eq]
   have:k=l.length:=by omega
   subst this
   rw [List.take_length] at ht
   rw [ht,hlen,List.take_length]
 ·rw [if_pos (show ¬ (l.length:Int)=m.length by omega)]
  refine ⟨?_,Mod.refl _ _⟩
  congr 1;symm
  rw [decide_eq_false_iff_not]
  intro e;exact hlen (by rw [e])
end Go.Proofs.YtgmpbihbdbmhoaaGreatDoor

namespace Go.K
open Go
theorem add_block (a:Addr) (x:Nat):(a.add x).block=a.block:=by unfold Addr.add;split <;> rfl
def Marks (ms:List Nat) (W:World):Prop:=ms.Nodup∧∀ m ∈ ms,W.heap[m]?=some (.deferred (some []))
end Go.K

namespace Go.K
open Go
theorem OwnR.one {α:Type} {B e k:Nat} {R:World→List Value→α→Prop} {w:World} {v:Value} {l:List α} (h:OwnR B e k R w v l):v.oneCell'=true∧v.cells=#[v]:=by
 obtain ⟨a,c,rfl,_⟩:=OwnR.shape h
 exact ⟨rfl,rfl⟩
end Go.K
namespace Go.Proofs.YtgmpbihbdbmhoaaGreatDoor
open Go Go.K

end Go.Proofs.YtgmpbihbdbmhoaaGreatDoor

namespace Go.Proofs.YtgmpbihbdbmhoaaGreatDoor
open Go Go.K

def maxI (a b:Int):Int:=if b > a then b else a
end Go.Proofs.YtgmpbihbdbmhoaaGreatDoor

namespace Go.K
open Go
theorem SlR.made {α:Type} {k:Nat} {R:World→List Value→α→Prop} {w:World} {t:TypeId} {l:List α} (rows:List (List Value)) (hr:∀ r ∈ rows,r.length=k) (hl:rows.length=l.length) (hlm:l.length≤maxLen)
  (hR:∀ (i:Nat) (r:List Value) (x:α),rows[i]?=some r→l[i]?=some x→R (w.alloc (.cells rows.flatten.toArray t)) r x):SlR (fun b=>b=w.heap.size) k R (w.alloc (.cells rows.flatten.toArray t)) (.slice (some ⟨w.heap.size,0,none⟩) l.length l.length) l:=by
 refine ⟨_,_,rfl,Nat.le_refl _,hlm,fun i x hx=>?_⟩
 have hi:i < rows.length:=by rw [hl];exact (List.getElem?_eq_some_iff.1 hx).1
 refine ⟨_,rows[i],rfl,rfl,hr _ (by simp),fun j u hu=>?_,hR i _ x (by simp [hi]) hx⟩
 have hj:j < k:=by rw [←hr rows[i] (by simp)];exact (List.getElem?_eq_some_iff.1 hu).1
 refine cell_box ?_
 rw [flat_get rows i j rows[i] hr (by simp [hi]) hj];exact hu
end Go.K
namespace Go.Proofs.YtgmpbihbdbmhoaaGreatDoor
open Go Go.K

end Go.Proofs.YtgmpbihbdbmhoaaGreatDoor

namespace Go.Proofs.YtgmpbihbdbmhoaaGreatDoor
open Go Go.K

theorem snoc_cases {α:Type} (l:List α):l=[]∨∃ i b,l=i++[b]:=by
 rcases List.eq_nil_or_concat l with h | ⟨i,b,h⟩
 ·exact .inl h
 ·exact .inr ⟨i,b,by simpa using h⟩
theorem rev_ind {α:Type} {p:List α→Prop} (h0:p []) (h1:∀ l a,p l→p (l++[a])):∀ l,p l:=by
 intro l
 have:∀ n,∀ l:List α,l.length=n→p l:=by
  intro n
  induction n with
  | zero=>intro l hl;rw [List.eq_nil_of_length_eq_zero hl];exact h0
  | succ n ih=>
   intro l hl
   rcases snoc_cases l with rfl | ⟨i,b,rfl⟩
   ·simp at hl
   ·exact h1 i b (ih i (by simp at hl;omega))
 exact this _ l rfl
end Go.Proofs.YtgmpbihbdbmhoaaGreatDoor

namespace Go.Proofs.YtgmpbihbdbmhoaaGreatDoor
open Go Go.K

def rep (n:Int) (s:List Attr):List (List Attr):=List.replicate n.toNat s
def pl (l:List Blk):List (List Attr):=l.flatMap fun b=>rep b.n b.set
abbrev big:Nat:=4611686018427387904
end Go.Proofs.YtgmpbihbdbmhoaaGreatDoor

namespace Go.K
open Go
theorem condK_p {p:Prop} [Decidable p] {A B:Prop} (h1:p→A) (h2:¬ p→B):condK (.bool (decide p)) A B:=by
 rw [condK_d];split
 ·exact h1 (by assumption)
 ·exact h2 (by assumption)
theorem addr0 (g x:Nat):(⟨g,0,none⟩:Addr).add x=⟨g,x,none⟩:=by unfold Addr.add;split <;> simp_all
def Live (w:World) (a:Addr):Prop:=(w.cell? a).isSome=true∧w.frozen? a=false
theorem Live.set {w:World} {a:Addr} (h:Live w a) (b:Addr) (u:Value):Live (w.setCell b u) a:=by
 refine ⟨?_,by rw [World.frozen?_setCell];exact h.2⟩
 obtain ⟨v,hv⟩:=Option.isSome_iff_exists.1 h.1
 by_cases e:b=a
 ·subst e;rw [World.cell?_setCell_same w _ u hv];rfl
 ·rw [World.cell?_setCell_other w _ _ u e,hv];rfl
theorem Live.mod {M:Nat→Prop} {w w':World} {a:Addr} (h:Live w a) (hm:Mod M w w') (hn:¬ M a.block):Live w' a:=by
 obtain ⟨v,hv⟩:=Option.isSome_iff_exists.1 h.1
 exact ⟨by rw [hm.cell hv hn];rfl,(hm.frozen (World.block_lt_of_cell? w a hv) hn).trans h.2⟩
theorem Live.st {w:World} {a:Addr} {u:Value} {K:World→Prop} (h:Live w a) (h1:u.oneCell'=true) (h2:u.cells=#[u]) (hK:K (w.setCell a u)):st1K (.pointer (some a)) u K w:=by
 obtain ⟨v,hv⟩:=Option.isSome_iff_exists.1 h.1
 exact st1K_i h1 h2 hv h.2 hK
theorem OwnR.live {α:Type} {B e k:Nat} {R:World→List Value→α→Prop} {w:World} {a:Option Addr} {n c:Nat} {l:List α} (h:OwnR B e k R w (.slice a n c) l) {i j:Nat} (hi:i < l.length) (hj:j < k) :
  ∃ g,a=some ⟨g,0,none⟩∧n=l.length∧Live w ((⟨g,0,none⟩:Addr).add (i * k+j)):=by
 obtain ⟨rows,h1,h2,h3,h4⟩:=h
 have hrl:∀ r ∈ rows,r.length=k:=fun r hr=>(h3 r hr).1
 have hsh:∃ g,a=some ⟨g,0,none⟩∧n=l.length:=by
  rcases h1.2 with ⟨h',hn⟩ | ⟨g',cap',cur,h',_⟩
  ·omega
  ·simp only [Value.slice.injEq] at h';exact ⟨g',h'.1,h'.2.1⟩
 obtain ⟨g,rfl,rfl⟩:=hsh
 refine ⟨g,rfl,rfl,?_⟩
 have hadd:(⟨g,0,none⟩:Addr).add (i * k+j)=⟨g,i * k+j,none⟩:=by unfold Addr.add;split <;> simp_all
 have hlt:i * k+j < l.length * k:=by
  have:(i+1) * k≤l.length * k:=Nat.mul_le_mul_right _ hi
  rw [Nat.add_mul] at this;omega
 rw [hadd]
 refine ⟨?_,h1.frozenAt _⟩
 rw [h1.cellAt _ hlt]
 simp [flat_len rows hrl,h2,hlt]
end Go.K

namespace Go.Proofs.YtgmpbihbdbmhoaaGreatDoor
open Go Go.K

structure Chg where
 key:Int
 gone:Bool
 val:AVal
 deriving DecidableEq
def Chg.cells (a:Chg):List Value:=.int .i64 a.key :: .bool a.gone :: a.val.cells
abbrev RChg:World→List Value→Chg→Prop:=fun _ r x=>r=x.cells
abbrev RRune:World→List Value→Int→Prop:=fun _ r x=>r=[.int .i32 x]
abbrev RRun (S:Nat→Prop) (w:World) (v:Value) (l:List Int):Prop:=SlR S 1 RRune w v l
abbrev RPat (S:Nat→Prop) (w:World) (v:Value) (l:List Chg):Prop:=SlR S 6 RChg w v l
theorem RRune.one {w:World} {r:List Value} {x:Int} (h:RRune w r x):∀ u ∈ r,u.oneCell'=true:=by
 subst h;intro u hu;simp at hu;subst hu;rfl
theorem RChg.one {w:World} {r:List Value} {x:Chg} (h:RChg w r x):∀ u ∈ r,u.oneCell'=true:=by
 intro u hu
 subst h
 simp only [Chg.cells,AVal.cells,List.mem_cons,List.not_mem_nil,or_false] at hu
 rcases hu with rfl | rfl | rfl | rfl | rfl | rfl <;> rfl
theorem elem_rune:ElemOK Tryz.prog 52 21 1 4:=⟨Tryz.t21,.int .i32 0,by kernel_rfl,by kernel_rfl,by kernel_rfl,by kernel_rfl,by kernel_rfl,by rfl,by decide⟩
theorem elem_chg:ElemOK Tryz.prog 54 63 6 56:=⟨Tryz.t63,.agg #[.int .i64 0,.bool false,.int .u8 0,.int .i64 0,.int .u64 0,.string ⟨#[]⟩],by kernel_rfl,by kernel_rfl,by kernel_rfl,by kernel_rfl,by kernel_rfl,by rfl,by decide⟩

theorem eqIn_val (n:Nat) (x y:AVal) (w:World) :
  (Op.equalIn (n+2) 59 (.agg x.cells.toArray) (.agg y.cells.toArray)).run Tryz.prog w=.ok (decide (x=y)) w:=by
 have hV:Tryz.prog.underlying 59=some (.struct (Tryz.prog.fieldsOf 59)):=by kernel_rfl
 have u2:=Tryz.underlying5
 have u3:=Tryz.underlying2
 have u4:=Tryz.underlying57
 have u5:=Tryz.underlying9
 have a3:=Tryz.isAgg5
 have a4:=Tryz.isAgg2
 have a5:=Tryz.isAgg57
 have a6:=Tryz.isAgg9
 rw [run_equalIn_agg w (n+1) _ _ _ hV Tryz.stoodInHeld59]
 simp only [Program.fieldsOf,Tryz.underlying59,AVal.cells]
 have e1:∀ a b:Int,(Op.equalIn (n+1) 5 (.int .u8 a) (.int .u8 b)).run Tryz.prog w=.ok (a == b) w:=fun a b=>run_equalIn_int w n _ _ _ a b u2
 have e2:∀ a b:Int,(Op.equalIn (n+1) 2 (.int .i64 a) (.int .i64 b)).run Tryz.prog w=.ok (a == b) w:=fun a b=>run_equalIn_int w n _ _ _ a b u3
 have e3:∀ a b:Int,(Op.equalIn (n+1) 57 (.int .u64 a) (.int .u64 b)).run Tryz.prog w=.ok (a == b) w:=fun a b=>run_equalIn_int w n _ _ _ a b u4
 have e4:∀ a b:ByteArray,(Op.equalIn (n+1) 9 (.string a) (.string b)).run Tryz.prog w=.ok (a.toList == b.toList) w:=fun a b=>run_equalIn_string w n _ a b u5
 have q:decide (x=y)=(x.kind == y.kind && (x.n == y.n && (x.f == y.f && decide (x.s=y.s)))):=by
  cases x;cases y
  rw [Bool.eq_iff_iff]
  simp [AVal.mk.injEq]
 rw [q]
 simp [Op.eqFields,part,a3,a4,a5,a6,e1,e2,e3,e4,toList_beq]
 by_cases h1:x.kind=y.kind <;> by_cases h2:x.n=y.n <;> by_cases h3:x.f=y.f <;> by_cases h4:x.s=y.s <;> simp [h1,h2,h3,h4]
theorem eqIn_chg (a b:Chg) (w:World) :
  (Op.equalIn 10000 63 (.agg a.cells.toArray) (.agg b.cells.toArray)).run Tryz.prog w=.ok (decide (a=b)) w:=by
 have hS:Tryz.prog.underlying 63=some (.struct (Tryz.prog.fieldsOf 63)):=by kernel_rfl
 rw [show (10000:Nat)=9999+1 from rfl,run_equalIn_agg w 9999 _ _ _ hS Tryz.stoodInHeld63]
 simp only [Program.fieldsOf,Tryz.underlying63,Chg.cells,AVal.cells]
 have a1:=Tryz.isAgg3
 have a2:=Tryz.isAgg59
 have a3:=Tryz.isAgg4
 have z2:∀ w,(sizeOf 59).run Tryz.prog w=.ok 4 w:=fun w=>by simp only [sizeOf,Sem.run_bind,Tryz.typeInfo59,Result.andThen_ok,Sem.run_pure];rfl
 have e1:∀ a b:Int,(Op.equalIn 9999 3 (.int .i64 a) (.int .i64 b)).run Tryz.prog w=.ok (a == b) w:=fun a b=>run_equalIn_int w 9998 _ _ _ a b Tryz.underlying3
 have e2:∀ a b:Bool,(Op.equalIn 9999 4 (.bool a) (.bool b)).run Tryz.prog w=.ok (a == b) w:=fun a b=>run_equalIn_bool w 9998 _ a b Tryz.underlying4
 have e3:(Op.equalIn 9999 59 (.agg #[.int .u8 a.val.kind,.int .i64 a.val.n,.int .u64 a.val.f,.string a.val.s]) (.agg #[.int .u8 b.val.kind,.int .i64 b.val.n,.int .u64 b.val.f,.string b.val.s])).run Tryz.prog w=.ok (decide (a.val=b.val)) w:=eqIn_val 9997 a.val b.val w
 have x1:∀ k l q r s t:Value,(#[k,l,q,r,s,t]:Array Value).extract 2 6=#[q,r,s,t]:=fun _ _ _ _ _ _=>rfl
 have q:decide (a=b)=(a.key == b.key && (a.gone == b.gone && decide (a.val=b.val))):=by
  cases a;cases b
  rw [Bool.eq_iff_iff]
  simp [Chg.mk.injEq]
 rw [q]
 simp [Op.eqFields,part,a1,a2,a3,z2,e1,e2,e3,x1]
 by_cases h1:a.key=b.key <;> by_cases h2:a.gone=b.gone <;> by_cases h3:a.val=b.val <;> simp [h1,h2,h3]
theorem run_ne_chg (xo yo:Operand) (a b:Chg) (w:World) :
  (binS .neq 63 xo yo (.agg a.cells.toArray) (.agg b.cells.toArray)).run Tryz.prog w=.ok (.bool (!decide (a=b))) w:=by
 simp only [binS,Sem.run_bind,run_eqGuard_agg w .neq _ xo yo _ _ Tryz.eqGuardType63,Result.andThen_ok]
 rw [run_neq_struct,eqIn_chg];rfl
theorem run_eq_val (xo yo:Operand) (a b:AVal) (w:World) :
  (binS .eql 59 xo yo (.agg a.cells.toArray) (.agg b.cells.toArray)).run Tryz.prog w=.ok (.bool (decide (a=b))) w:=by
 simp only [binS,Sem.run_bind,run_eqGuard_agg w .eql _ xo yo _ _ Tryz.eqGuardType59,Result.andThen_ok]
 rw [run_eql_struct,eqIn_val 9998];rfl
theorem run_ne_val (xo yo:Operand) (a b:AVal) (w:World) :
  (binS .neq 59 xo yo (.agg a.cells.toArray) (.agg b.cells.toArray)).run Tryz.prog w=.ok (.bool (!decide (a=b))) w:=by
 simp only [binS,Sem.run_bind,run_eqGuard_agg w .neq _ xo yo _ _ Tryz.eqGuardType59,Result.andThen_ok]
 rw [run_neq_struct,eqIn_val 9998];rfl

structure Dop where
 kind:Int
 n:Int
 runes:List Int
 set:List Attr
 patch:List Chg
 deriving DecidableEq
def RDop (D:Nat→Prop) (w:World) (r:List Value) (o:Dop):Prop:=∃ rv sv pv,r=[.int .u8 o.kind,.int .i64 o.n,rv,sv,pv]∧RRun D w rv o.runes∧RSet D w sv o.set∧RPat D w pv o.patch
theorem RDop.one {D:Nat→Prop} {w:World} {r:List Value} {o:Dop} (h:RDop D w r o):∀ u ∈ r,u.oneCell'=true:=by
 obtain ⟨rv,sv,pv,rfl,h1,h2,h3⟩:=h
 obtain ⟨a1,c1,rfl,_⟩:=h1.shape
 obtain ⟨a2,c2,rfl,_⟩:=h2.shape
 obtain ⟨a3,c3,rfl,_⟩:=h3.shape
 intro u hu
 simp only [List.mem_cons,List.not_mem_nil,or_false] at hu
 rcases hu with rfl | rfl | rfl | rfl | rfl <;> rfl
theorem RDop.mod {D D' M:Nat→Prop} {w w':World} {r:List Value} {o:Dop} (h:RDop D w r o) (hm:Mod M w w') (hD:∀ b,b < w.heap.size→D b→¬ M b) (hD':∀ b,b < w.heap.size→D b→D' b):RDop D' w' r o:=by
 obtain ⟨rv,sv,pv,rfl,h1,h2,h3⟩:=h
 exact ⟨rv,sv,pv,rfl,h1.mono hD' (fun b hb hd=>hm.same b hb (hD b hb hd)) (by decide) fun _ _ h=>h,h2.mono hD' (fun b hb hd=>hm.same b hb (hD b hb hd)) (by decide) fun _ _ h=>h,h3.mono hD' (fun b hb hd=>hm.same b hb (hD b hb hd)) (by decide) fun _ _ h=>h⟩
theorem elem_dop:ElemOK Tryz.prog 23 56 5 88:=⟨Tryz.t56,.agg #[.int .u8 0,.int .i64 0,.slice none 0 0,.slice none 0 0,.slice none 0 0],by kernel_rfl,by kernel_rfl,by kernel_rfl,by kernel_rfl,by kernel_rfl,by rfl,by decide⟩
abbrev RDops (S D:Nat→Prop) (w:World) (v:Value) (l:List Dop):Prop:=SlR S 5 (RDop D) w v l
theorem RDops.grow {S D:Nat→Prop} {w w':World} {v:Value} {l:List Dop} (h:RDops S D w v l) (hg:Grow w w'):RDops S D w' v l:=
 SlR.grow h hg (by decide) fun _ _ hx=>hx.mod hg (fun _ _ _ h=>h) fun _ _ h=>h
def ODop (D:Nat→Prop) (w:World) (r:List Value) (o:Dop):Prop:=∃ rv sv pv,r=[.int .u8 o.kind,.int .i64 o.n,rv,sv,pv]∧
 (OwnR 0 21 1 RRune w rv o.runes∧∀ g,rv.ownBlock=some g→D g)∧(OSet 0 w sv o.set∧∀ g,sv.ownBlock=some g→D g)∧(OwnR 0 63 6 RChg w pv o.patch∧∀ g,pv.ownBlock=some g→D g)
theorem own_rd {α:Type} {e k:Nat} {R:World→List Value→α→Prop} {D:Nat→Prop} {w:World} {v:Value} {l:List α} (hk:0 < k) (h:OwnR 0 e k R w v l∧∀ g,v.ownBlock=some g→D g):SlR D k R w v l:=
 SlR.sub (OwnR.sl h.1) (fun g _ hg=>h.2 g hg.2) hk fun _ _ h=>h
theorem own_mod {α:Type} {e k:Nat} {R:World→List Value→α→Prop} {D D' M:Nat→Prop} {w w':World} {v:Value} {l:List α} (h:OwnR 0 e k R w v l∧∀ g,v.ownBlock=some g→D g) (hm:Mod M w w') (hD:∀ b,b < w.heap.size→D b→¬ M b) (hD':∀ b,b < w.heap.size→D b→D' b)
  (hR:∀ r x,R w r x→R w' r x):OwnR 0 e k R w' v l∧∀ g,v.ownBlock=some g→D' g:=
 ⟨OwnR.mod h.1 hm (fun g hg=>hD g (OwnR.ownB h.1 g hg).2 (h.2 g hg)) fun r x _ hx=>hR r x hx,fun g hg=>hD' g (OwnR.ownB h.1 g hg).2 (h.2 g hg)⟩
theorem ODop.rd {D:Nat→Prop} {w:World} {r:List Value} {o:Dop} (h:ODop D w r o):RDop D w r o:=by
 obtain ⟨rv,sv,pv,rfl,h1,h2,h3⟩:=h
 exact ⟨rv,sv,pv,rfl,own_rd (by decide) h1,own_rd (by decide) h2,own_rd (by decide) h3⟩
theorem ODop.one {D:Nat→Prop} {w:World} {r:List Value} {o:Dop} (h:ODop D w r o):∀ u ∈ r,u.oneCell'=true:=h.rd.one
theorem ODop.mod {D D' M:Nat→Prop} {w w':World} {r:List Value} {o:Dop} (h:ODop D w r o) (hm:Mod M w w') (hD:∀ b,b < w.heap.size→D b→¬ M b) (hD':∀ b,b < w.heap.size→D b→D' b):ODop D' w' r o:=by
 obtain ⟨rv,sv,pv,rfl,h1,h2,h3⟩:=h
 exact ⟨rv,sv,pv,rfl,own_mod h1 hm hD hD' fun _ _ h=>h,own_mod h2 hm hD hD' fun _ _ h=>h,own_mod h3 hm hD hD' fun _ _ h=>h⟩
def ODops (B:Nat) (w:World) (v:Value) (l:List Dop):Prop:=OwnR B 56 5 (ODop fun b=>B≤b∧v.ownBlock≠some b) w v l
theorem ODops.sl {B:Nat} {w:World} {v:Value} {l:List Dop} (h:ODops B w v l):RDops (fun b=>B≤b∧v.ownBlock=some b) (fun b=>B≤b∧v.ownBlock≠some b) w v l:=
 SlR.sub (OwnR.sl h) (fun _ _ h=>h) (by decide) fun _ _ h=>h.rd
theorem ODops.grow {B:Nat} {w w':World} {v:Value} {l:List Dop} {M:Nat→Prop} (h:ODops B w v l) (hm:Mod M w w') (hM:∀ b,b < w.heap.size→B≤b→¬ M b):ODops B w' v l:=
 OwnR.mod h hm (fun g hg=>hM g (OwnR.ownB h g hg).2 (OwnR.ownB h g hg).1) fun r x _ hx=>hx.mod hm (fun b hb hd=>hM b hb hd.1) fun _ _ h=>h
theorem ODops.reads {B:Nat} {w:World} {v:Value} {l:List Dop} (h:ODops B w v l):RDops (fun b=>B≤b∧b < w.heap.size) (fun b=>B≤b∧b < w.heap.size) w v l:=
 SlR.sub (ODops.sl h) (fun b hb h=>⟨h.1,hb⟩) (by decide) fun r x hx=>hx.mod (Mod.refl (fun _=>False) _) (fun _ _ _ h=>h) fun b hb h=>⟨h.1,hb⟩
structure DKey where
 id:Int
 block:Bool
 kind:Int
 after:Bool
 before:Bool
 group:Int
 deriving DecidableEq
def DKey.cells (k:DKey):List Value:=[.int .i64 k.id,.bool k.block,.int .u8 k.kind,.bool k.after,.bool k.before,.int .i64 k.group]
abbrev RKey:World→List Value→DKey→Prop:=fun _ r x=>r=x.cells
abbrev RKeys (S:Nat→Prop) (w:World) (v:Value) (l:List DKey):Prop:=SlR S 6 RKey w v l
theorem RKey.one {w:World} {r:List Value} {x:DKey} (h:RKey w r x):∀ u ∈ r,u.oneCell'=true:=by
 intro u hu
 subst h
 simp only [DKey.cells,List.mem_cons,List.not_mem_nil,or_false] at hu
 rcases hu with rfl | rfl | rfl | rfl | rfl | rfl <;> rfl
def mAttr (a:Attr):Nat:=a.val.s.size+1
def mChg (a:Chg):Nat:=a.val.s.size+1
def mSet (l:List Attr):Nat:=(l.map mAttr).sum
def mPat (l:List Chg):Nat:=(l.map mChg).sum
def mDop (o:Dop):Nat:=1+o.runes.length+mSet o.set+mPat o.patch
def mDops (l:List Dop):Nat:=(l.map mDop).sum
end Go.Proofs.YtgmpbihbdbmhoaaGreatDoor
