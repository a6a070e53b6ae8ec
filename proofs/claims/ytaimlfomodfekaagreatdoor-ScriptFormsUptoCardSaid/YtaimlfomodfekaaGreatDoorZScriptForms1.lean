/- Steps of our calculus as equations; what a value reads as in memory; what a call may have turned. No conditions. The program's data as Lean data (attributes), and what Go's comparison says of them. No conditions. A range over an iterator: its rule in our calculus, and functions that hold one. No conditions. Functions with ranges over iterators anywhere: in loops, one behind the other. No conditions. A printer of our calculus: what the predicate of a piece of code looks like, as a term over unknown building stones. Nothing is proved of it: each text that uses it proves that what it prints is the predicate. No conditions. By a program of ours: of each function below the predicate that its code comes to, and that it is sound. No conditions. Contracts: comparing and copying sets of attributes. No conditions but that the slices read as such. Contracts: joining blocks, and the blocks of cells. No conditions but the sizes. Contracts: the document's comparing, and whether blocks are proper. No conditions. Ranges over iterators in use: rounds, marks, a range of no rounds. No conditions. Contracts: what stands at a place. Conditions: the sets' sizes. Contracts: what is known, and what is looked at. No conditions. Writing over what was told: cells that may be written, and the loops that write them. No conditions. The program's data as Lean data: runes, changes, ops. What the model's comparing says of them. No conditions. By a program of ours: of each function below the predicate that its code comes to, and that it is sound. No conditions. Copying and comparing rows, for any kind of element; at runes, patches, ops. No conditions but the sizes. Contracts: ops one by one: form, length, what they take and make, how much they have. No conditions. Contracts: the document's runes of bytes, and whether a value may be. No conditions but the size of a text. Pushing one element; contracts: the document's reading of runes. Conditions: the sizes. Contracts: the document's values, keys, sets and patches that may be. Conditions: the size of a text. Contracts: keys that may be a schema's; how much a delta has; deltas that may be; what is tame. Conditions: the sizes. The maker of normal forms in memory; contracts: New, gap, Delete. Conditions: the sizes. Contracts of the document's side: whether two deltas are the same. No conditions. Adding onto an empty row that has no room: the row itself stays. No conditions but the sizes. Contract of the document's copying of a delta. Condition: how much there is. Plain laws: the text of a set in the table of interned sets; no two sets have the same. Conditions: the numbers lie in their types. The plain law of composing deltas: cut in ones; the maker that is told the parts comes to the same. No program in sight, no conditions. Plain law: the bytes of a delta; no two that may be have the same, not even as a beginning. No program in sight. Conditions: the numbers lie in their types. Plain law: reading a form: what stands at a place is told, or nothing that may is there. No program in sight. Conditions: the sizes. Plain law: the forms of scripts; no two that may be have the same; what a reading tells of them. No program in sight. Conditions: the numbers lie in their types. -/
import Derived.Test.YtaimlfomodfekaaGreatDoorZScriptForms0
import Derived.Laws.AppendOwnNone
import Derived.WalkKit
import Derived.RangeFuncOwn
import Derived.RangeFuncLeaves
import Derived.Laws.IdiomStrings
set_option linter.unusedSimpArgs false
set_option linter.unusedVariables false
namespace Go.K
open Go

section
variable {P:Program} {ok:Nat→Bool} {K:Cont} {k:Value→Prop} {w:World}
theorem condK_b (b:Bool) (A B:Prop):condK (.bool b) A B=if b=true then A else B:=by cases b <;> simp [condK]
theorem condK_d (p:Prop) [Decidable p] (A B:Prop):condK (.bool (decide p)) A B=if p then A else B:=by
 rw [condK_b];by_cases h:p <;> simp [h]
theorem pickK_b (b:Bool) (x y:Value):pickK (.bool b) x y k=k (if b=true then x else y):=by cases b <;> simp [pickK]
theorem addK_i (q:IntKind) (a b:Int):addK q (.int q a) (.int q b) k=k (.int q (q.wrap (a+b))):=propext ⟨fun ⟨_,_,h1,h2,h⟩=>by cases h1;cases h2;exact h,fun h=>⟨_,_,rfl,rfl,h⟩⟩
theorem subK_i (q:IntKind) (a b:Int):subK q (.int q a) (.int q b) k=k (.int q (q.wrap (a - b))):=propext ⟨fun ⟨_,_,h1,h2,h⟩=>by cases h1;cases h2;exact h,fun h=>⟨_,_,rfl,rfl,h⟩⟩
theorem mulK_i (q:IntKind) (a b:Int):mulK q (.int q a) (.int q b) k=k (.int q (q.wrap (a * b))):=propext ⟨fun ⟨_,_,h1,h2,h⟩=>by cases h1;cases h2;exact h,fun h=>⟨_,_,rfl,rfl,h⟩⟩
theorem ltK_i (q:IntKind) (a b:Int):ltK q (.int q a) (.int q b) k=k (.bool (decide (a < b))):=propext ⟨fun ⟨_,_,h1,h2,h⟩=>by cases h1;cases h2;exact h,fun h=>⟨_,_,rfl,rfl,h⟩⟩
theorem leK_i (q:IntKind) (a b:Int):leK q (.int q a) (.int q b) k=k (.bool (decide (a≤b))):=propext ⟨fun ⟨_,_,h1,h2,h⟩=>by cases h1;cases h2;exact h,fun h=>⟨_,_,rfl,rfl,h⟩⟩
theorem gtK_i (q:IntKind) (a b:Int):gtK q (.int q a) (.int q b) k=k (.bool (decide (b < a))):=propext ⟨fun ⟨_,_,h1,h2,h⟩=>by cases h1;cases h2;exact h,fun h=>⟨_,_,rfl,rfl,h⟩⟩
theorem geK_i (q:IntKind) (a b:Int):geK q (.int q a) (.int q b) k=k (.bool (decide (b≤a))):=propext ⟨fun ⟨_,_,h1,h2,h⟩=>by cases h1;cases h2;exact h,fun h=>⟨_,_,rfl,rfl,h⟩⟩
theorem eqK_i (q:IntKind) (a b:Int):eqK q (.int q a) (.int q b) k=k (.bool (decide (a=b))):=propext ⟨fun ⟨_,_,h1,h2,h⟩=>by cases h1;cases h2;exact h,fun h=>⟨_,_,rfl,rfl,h⟩⟩
theorem neK_i (q:IntKind) (a b:Int):neK q (.int q a) (.int q b) k=k (.bool (!decide (a=b))):=propext ⟨fun ⟨_,_,h1,h2,h⟩=>by cases h1;cases h2;exact h,fun h=>⟨_,_,rfl,rfl,h⟩⟩
theorem maxK_i (q:IntKind) (a b:Int):maxK q (.int q a) (.int q b) k=k (.int q (if b > a then b else a)):=propext ⟨fun ⟨_,_,h1,h2,h⟩=>by cases h1;cases h2;exact h,fun h=>⟨_,_,rfl,rfl,h⟩⟩
theorem minK_i (q:IntKind) (a b:Int):minK q (.int q a) (.int q b) k=k (.int q (if b < a then b else a)):=propext ⟨fun ⟨_,_,h1,h2,h⟩=>by cases h1;cases h2;exact h,fun h=>⟨_,_,rfl,rfl,h⟩⟩
theorem beqK_i (a b:Bool):beqK (.bool a) (.bool b) k=k (.bool (a == b)):=propext ⟨fun ⟨_,_,h1,h2,h⟩=>by cases h1;cases h2;exact h,fun h=>⟨_,_,rfl,rfl,h⟩⟩
theorem bneK_i (a b:Bool):bneK (.bool a) (.bool b) k=k (.bool (!(a == b))):=propext ⟨fun ⟨_,_,h1,h2,h⟩=>by cases h1;cases h2;exact h,fun h=>⟨_,_,rfl,rfl,h⟩⟩
theorem seqK_i (a b:ByteArray):seqK (.string a) (.string b) k=k (.bool (decide (a=b))):=propext ⟨fun ⟨_,_,h1,h2,h⟩=>by cases h1;cases h2;exact h,fun h=>⟨_,_,rfl,rfl,h⟩⟩
theorem sneK_i (a b:ByteArray):sneK (.string a) (.string b) k=k (.bool (!decide (a=b))):=propext ⟨fun ⟨_,_,h1,h2,h⟩=>by cases h1;cases h2;exact h,fun h=>⟨_,_,rfl,rfl,h⟩⟩
theorem snilK_i (a:Option Addr) (n c:Nat) (k:Bool→Prop):snilK (.slice a n c) k=k a.isNone:=propext ⟨fun ⟨_,_,_,h1,h⟩=>by cases h1;exact h,fun h=>⟨_,_,_,rfl,h⟩⟩
theorem pnilK_i (a:Option Addr) (k:Bool→Prop):pnilK (.pointer a) k=k a.isNone:=propext ⟨fun ⟨_,h1,h⟩=>by cases h1;exact h,fun h=>⟨_,rfl,h⟩⟩
theorem notK_i (a:Bool):notK (.bool a) k=k (.bool (!a)):=propext ⟨fun ⟨_,h1,h⟩=>by cases h1;exact h,fun h=>⟨_,rfl,h⟩⟩
theorem lenK_i (a:Option Addr) (n c:Nat):lenK (.slice a n c) k=k (.int .i64 n):=propext ⟨fun ⟨_,_,_,h1,h⟩=>by cases h1;exact h,fun h=>⟨_,_,_,rfl,h⟩⟩
theorem slenK_i (s:ByteArray):slenK (.string s) k=k (.int .i64 s.size):=propext ⟨fun ⟨_,h1,h⟩=>by cases h1;exact h,fun h=>⟨_,rfl,h⟩⟩
theorem nilckK_i (a:Addr):nilckK (.pointer (some a)) k=k (.pointer (some a)):=propext ⟨fun ⟨_,h1,h⟩=>by cases h1;exact h,fun h=>⟨_,rfl,h⟩⟩
theorem faK_i (off:Nat) (a:Addr):faK off (.pointer (some a)) k=k (.pointer (some (a.add off))):=propext ⟨fun ⟨_,h1,h⟩=>by cases h1;exact h,fun h=>⟨_,rfl,h⟩⟩
theorem nth_z (vs:List Value):nth vs 0=vs.headD undef:=rfl
theorem nth_s (vs:List Value) (k:Nat):nth vs (k+1)=nth vs.tail k:=rfl
theorem Addr.add_add (a:Addr) (x y:Nat):(a.add x).add y=a.add (x+y):=by
 unfold Addr.add
 split <;> split <;> simp_all <;> omega
theorem ixK_n {s:Nat} {a:Addr} {n c:Nat} {q:IntKind} {j:Nat} (h1:j < n) (h:k (.pointer (some (a.add (j * s))))):ixK s (.slice (some a) n c) (.int q (j:Int)) k:=
 ⟨_,_,_,_,_,rfl,rfl,by omega,by omega,by simpa using h⟩
theorem ld1K_i {a:Addr} {v:Value} (hc:w.cell? a=some v) (h:K v w):ld1K (.pointer (some a)) K w:=⟨a,v,rfl,hc,h⟩
theorem ldnK_i {n:Nat} {a:Addr} {vs:List Value} (hl:vs.length=n) (hc:∀ j v,vs[j]?=some v→w.cell? (a.add j)=some v) (h:K (.agg vs.toArray) w):ldnK n (.pointer (some a)) K w:=⟨a,vs,rfl,hl,hc,h⟩
theorem qld1K_i {C:World→Prop} {a:Addr} {v:Value} (hc:∀ w,C w→w.cell? a=some v) (h:k v):qld1K C (.pointer (some a)) k:=⟨a,v,rfl,hc,h⟩
theorem qldnK_i {C:World→Prop} {n:Nat} {a:Addr} {vs:List Value} (hl:vs.length=n) (hc:∀ w,C w→∀ j v,vs[j]?=some v→w.cell? (a.add j)=some v) (h:k (.agg vs.toArray)):qldnK C n (.pointer (some a)) k:=⟨a,vs,rfl,hl,hc,h⟩
theorem st1K_i {a:Addr} {v u:Value} {K:World→Prop} (h1:v.oneCell'=true) (h2:v.cells=#[v]) (hc:w.cell? a=some u) (hf:w.frozen? a=false) (h:K (w.setCell a v)):st1K (.pointer (some a)) v K w:=⟨a,u,rfl,h1,h2,hc,hf,h⟩
theorem extK_i {i:Nat} {vs:List Value} {v:Value} (hv:vs[i]?=some v) (h:k v):extK i (.tuple vs.toArray) k:=⟨vs,v,rfl,hv,h⟩
theorem JoinK_i {R:List Value→World→Prop} {G:(List Value→World→Prop)→Prop} (I:List Value→World→Prop) (h1:∀ vs w,I vs w→R vs w) (h2:G I):JoinK R G:=⟨I,h1,h2⟩
theorem LoopK_i {init:List Value} {F:List Value→(List Value→World→Prop)→World→Prop} (I:List Value→World→Prop) (μ:List Value→World→Nat) (h0:I init w) (h:∀ vs w,I vs w→F vs (fun vs' w'=>I vs' w'∧μ vs' w' < μ vs w) w):LoopK init F w:=⟨I,μ,h0,h⟩
theorem callK_mono {g:Nat} {args:List Value} {K':Cont} (h:callK P g args K w) (hk:∀ v w',K v w'→K' v w'):callK P g args K' w:=
 Calls.mono h fun _ _ ⟨v,h1,h2⟩=>⟨v,h1,hk _ _ h2⟩
theorem runK_i {s:Sem Value} {v:Value} {w':World} (h1:s.run P w=.ok v w') (h:K v w'):runK P s K w:=⟨v,w',h1,h⟩
theorem newK_i {t:TypeId} {cs:List Value} (h:K (.pointer (some ⟨w.heap.size,0,none⟩)) (w.alloc (.cells cs.toArray t))):newK t cs K w:=h
theorem wrap64 {x:Int} (h0:-9223372036854775808≤x) (h1:x≤9223372036854775807):IntKind.i64.wrap x=x:=by
 have e1:(2:Int) ^ IntKind.i64.bits=18446744073709551616:=by decide
 have e2:(2:Int) ^ (IntKind.i64.bits - 1)=9223372036854775808:=by decide
 simp only [IntKind.wrap,e1,e2,IntKind.signed,Bool.true_and,decide_eq_true_eq]
 split <;> omega
theorem setL_new (w:World) (t:TypeId):∀ (vs done zs:List Value),zs.length=vs.length→setL (w.alloc (.cells (done++zs).toArray t)) ⟨w.heap.size,0,none⟩ done.length vs=w.alloc (.cells (done++vs).toArray t):=by
 intro vs
 induction vs with
 | nil=>intro done zs hl;have:zs=[]:=List.eq_nil_of_length_eq_zero hl;subst this;rfl
 | cons v vs ih=>
  intro done zs hl
  cases zs with
  | nil=>simp at hl
  | cons z zs=>
   simp only [setL]
   have h1:(w.alloc (.cells (done++z :: zs).toArray t)).setCell ((⟨w.heap.size,0,none⟩:Addr).add done.length) v=w.alloc (.cells ((done++[v])++zs).toArray t):=by
    have hadd:(⟨w.heap.size,0,none⟩:Addr).add done.length=⟨w.heap.size,done.length,none⟩:=by unfold Addr.add;split <;> simp_all
    rw [hadd]
    simp only [World.setCell,World.alloc]
    congr 1
    rw [←Array.toList_inj,Array.toList_modify]
    simp only [Array.toList_push]
    apply List.ext_getElem?
    intro i
    rw [List.getElem?_modify]
    by_cases hi:w.heap.size=i
    ·subst hi
     simp [List.getElem?_append,List.setIfInBounds_toArray]
    ·rcases Nat.lt_or_gt_of_ne hi with hlt | hgt
     ·have h9:¬ i < w.heap.size:=by omega
      have h10:¬ i - w.heap.size=0:=by omega
      simp [hi,List.getElem?_append,List.getElem?_singleton,h9,h10]
     ·simp [hi,List.getElem?_append,hgt]
   rw [h1]
   have:=ih (done++[v]) zs (by simpa using hl)
   simpa using this
theorem stnew {t:TypeId} {zs vs:List Value} {K:World→Prop} (hl:zs.length=vs.length) (h1:∀ v ∈ vs,v.oneCell'=true) (h:K (w.alloc (.cells vs.toArray t))) :
  stnK vs.length (.pointer (some ⟨w.heap.size,0,none⟩)) (.agg vs.toArray) K (w.alloc (.cells zs.toArray t)):=by
 refine ⟨_,vs,rfl,rfl,rfl,h1,fun j hj=>?_,?_⟩
 ·have hadd:(⟨w.heap.size,0,none⟩:Addr).add j=⟨w.heap.size,j,none⟩:=by unfold Addr.add;split <;> simp_all
  rw [hadd,World.cell?_alloc_new,World.frozen?_alloc_new]
  refine ⟨?_,rfl⟩
  have:j < zs.length:=by omega
  simp [this]
 ·have:=setL_new w t vs [] zs hl
  simp only [List.nil_append,List.length_nil] at this
  rw [this];exact h
end

theorem KS :
  (∀ (b:Bool) (A B:Prop),condK (.bool b) A B=if b=true then A else B)∧
  (∀ {p:Prop} [Decidable p],(decide p=true)=p)∧
  (∀ {a b:Bool},((!a)=b)↔(a=!b))∧
  ((!true)=false)∧
  (∀ {p:Prop} [Decidable p],decide p=false↔¬p)∧
  (∀ {k:Value→Prop} (b:Bool) (x y:Value),pickK (.bool b) x y k=k (if b=true then x else y))∧
  (∀ {k:Value→Prop} (q:IntKind) (a b:Int),addK q (.int q a) (.int q b) k=k (.int q (q.wrap (a+b))))∧
  (∀ {k:Value→Prop} (q:IntKind) (a b:Int),subK q (.int q a) (.int q b) k=k (.int q (q.wrap (a - b))))∧
  (∀ {k:Value→Prop} (q:IntKind) (a b:Int),mulK q (.int q a) (.int q b) k=k (.int q (q.wrap (a * b))))∧
  (∀ {k:Value→Prop} (q:IntKind) (a b:Int),ltK q (.int q a) (.int q b) k=k (.bool (decide (a < b))))∧
  (∀ {k:Value→Prop} (q:IntKind) (a b:Int),leK q (.int q a) (.int q b) k=k (.bool (decide (a≤b))))∧
  (∀ {k:Value→Prop} (q:IntKind) (a b:Int),gtK q (.int q a) (.int q b) k=k (.bool (decide (b < a))))∧
  (∀ {k:Value→Prop} (q:IntKind) (a b:Int),geK q (.int q a) (.int q b) k=k (.bool (decide (b≤a))))∧
  (∀ {k:Value→Prop} (q:IntKind) (a b:Int),eqK q (.int q a) (.int q b) k=k (.bool (decide (a=b))))∧
  (∀ {k:Value→Prop} (q:IntKind) (a b:Int),neK q (.int q a) (.int q b) k=k (.bool (!decide (a=b))))∧
  (∀ {k:Value→Prop} (q:IntKind) (a b:Int),maxK q (.int q a) (.int q b) k=k (.int q (if b > a then b else a)))∧
  (∀ {k:Value→Prop} (q:IntKind) (a b:Int),minK q (.int q a) (.int q b) k=k (.int q (if b < a then b else a)))∧
  (∀ {k:Value→Prop} (a b:Bool),beqK (.bool a) (.bool b) k=k (.bool (a == b)))∧
  (∀ {k:Value→Prop} (a b:Bool),bneK (.bool a) (.bool b) k=k (.bool (!(a == b))))∧
  (∀ {k:Value→Prop} (a b:ByteArray),seqK (.string a) (.string b) k=k (.bool (decide (a=b))))∧
  (∀ {k:Value→Prop} (a b:ByteArray),sneK (.string a) (.string b) k=k (.bool (!decide (a=b))))∧
  (∀ (a:Option Addr) (n c:Nat) (k:Bool→Prop),snilK (.slice a n c) k=k a.isNone)∧
  (∀ (a:Option Addr) (k:Bool→Prop),pnilK (.pointer a) k=k a.isNone)∧
  (∀ {k:Value→Prop} (a:Bool),notK (.bool a) k=k (.bool (!a)))∧
  (∀ {k:Value→Prop} (a:Option Addr) (n c:Nat),lenK (.slice a n c) k=k (.int .i64 n))∧
  (∀ {k:Value→Prop} (s:ByteArray),slenK (.string s) k=k (.int .i64 s.size))∧
  (∀ {k:Value→Prop} (a:Addr),nilckK (.pointer (some a)) k=k (.pointer (some a)))∧
  (∀ {k:Value→Prop} (off:Nat) (a:Addr),faK off (.pointer (some a)) k=k (.pointer (some (a.add off))))∧
  (∀ (a:Addr) (x y:Nat),(a.add x).add y=a.add (x+y))∧
  (∀ (vs:List Value),nth vs 0=vs.headD undef)∧
  (∀ (vs:List Value) (k:Nat),nth vs (k+1)=nth vs.tail k)∧
  (∀ {a d:Value} {l:List Value},(a :: l).headD d=a)∧
  (∀ {a:Value} {l:List Value},(a :: l).tail=l)∧
  ((none:Option Addr).isNone=true)∧
  (∀ {a:Addr},(some a).isNone=false)∧
  ((false=true)=False)∧
  (∀ {α:Type} {h:Decidable True} (t e:α),(@ite α True h t e)=t)∧
  (∀ {α:Type} {h:Decidable False} (t e:α),(@ite α False h t e)=e):=
 ⟨@condK_b,by simp,by intro a b;cases a <;> cases b <;> simp,by simp,by simp,@pickK_b,@addK_i,@subK_i,@mulK_i,@ltK_i,@leK_i,@gtK_i,@geK_i,@eqK_i,@neK_i,@maxK_i,@minK_i,@beqK_i,@bneK_i,@seqK_i,@sneK_i,@snilK_i,@pnilK_i,@notK_i,@lenK_i,@slenK_i,@nilckK_i,@faK_i,@Addr.add_add,@nth_z,@nth_s,by simp,by simp,by simp,by simp,by simp,by simp,by simp⟩

abbrev Grow (w w':World):Prop:=Mod (fun _=>False) w w'
theorem Grow.mod {M:Nat→Prop} {w w':World} (h:Grow w w'):Mod M w w':=Mod.mono h fun _ _ h=>h.elim
theorem Mod.below {w w':World} {B:Nat} {M:Nat→Prop} (h:Mod M w w') (hB:B≤w.heap.size) (hm:∀ b,M b→B≤b):RowKit.Below B w w':=
 ⟨h.os,h.tape,h.output,h.size,fun b hb=>h.same b (by omega) fun h'=>by have:=hm b h';omega⟩
theorem Mod.drew (M:Nat→Prop) (w:World):Mod M w w.drew:=⟨rfl,rfl,rfl,Nat.le_refl _,fun _ _ _=>rfl⟩
theorem Mod.alloc (M:Nat→Prop) (w:World) (o:Obj):Mod M w (w.alloc o):=⟨rfl,rfl,rfl,by simp,fun b hb _=>RowKit.Below.heap_alloc w o b hb⟩
theorem Mod.setCell {M:Nat→Prop} (w:World) (a:Addr) (v:Value) (h:M a.block):Mod M w (w.setCell a v):=⟨rfl,rfl,rfl,by simp,fun b _ hn=>RowKit.Below.heap_setCell w a v b fun e=>hn (e ▸ h)⟩
theorem Mod.of_grownBy {w w':World} {row:Option Nat} (h:w.grownBy w' row):Mod (fun b=>row=some b) w w':=⟨h.os,h.tape,h.output,h.size,fun b hb hn=>h.block b hb fun e=>hn e.symm⟩
theorem Mod.cell {M:Nat→Prop} {w w':World} (h:Mod M w w') {a:Addr} {v:Value} (hc:w.cell? a=some v) (hm:¬ M a.block):w'.cell? a=some v:=
 (World.cell?_of_block (h.same a.block (World.block_lt_of_cell? w a hc) hm)).trans hc
theorem Mod.frozen {M:Nat→Prop} {w w':World} (h:Mod M w w') {a:Addr} (hb:a.block < w.heap.size) (hm:¬ M a.block):w'.frozen? a=w.frozen? a:=
 World.frozen?_of_block (h.same a.block hb hm)

def SlR {α:Type} (S:Nat→Prop) (k:Nat) (R:World→List Value→α→Prop) (w:World) (v:Value) (l:List α):Prop:=
 ∃ a c,v=.slice a l.length c∧l.length≤c∧c≤maxLen∧∀ i x,l[i]?=some x→∃ p r,a=some p∧S p.block∧r.length=k∧(∀ j u,r[j]?=some u→w.cell? (p.add (i * k+j))=some u)∧R w r x
theorem SlR.mono {α:Type} {S S':Nat→Prop} {k:Nat} {R R':World→List Value→α→Prop} {w w':World} {v:Value} {l:List α} (h:SlR S k R w v l)
  (hS:∀ b,b < w.heap.size→S b→S' b) (hb:∀ b,b < w.heap.size→S b→w'.heap[b]?=w.heap[b]?) (hk:0 < k) (hR:∀ r x,R w r x→R' w' r x):SlR S' k R' w' v l:=by
 obtain ⟨a,c,h1,h2,h3,h4⟩:=h
 refine ⟨a,c,h1,h2,h3,fun i x hx=>?_⟩
 obtain ⟨p,r,e1,e2,e3,e4,e5⟩:=h4 i x hx
 have hlt:p.block < w.heap.size:=by
  cases r with
  | nil=>simp at e3;omega
  | cons u r=>
   have:=World.block_lt_of_cell? w _ (e4 0 u rfl)
   have e:(p.add (i * k+0)).block=p.block:=by unfold Addr.add;split <;> rfl
   rwa [e] at this
 refine ⟨p,r,e1,hS _ hlt e2,e3,fun j u hu=>?_,hR _ _ e5⟩
 have e:(p.add (i * k+j)).block=p.block:=by unfold Addr.add;split <;> rfl
 rw [World.cell?_of_block (w:=w) (by rw [e];exact hb _ hlt e2)]
 exact e4 j u hu
theorem SlR.nil {α:Type} {S:Nat→Prop} {k:Nat} {R:World→List Value→α→Prop} {w:World}:SlR S k R w (.slice none 0 0) []:=
 ⟨none,0,rfl,Nat.le_refl _,by simp [maxLen],fun i x hx=>by simp at hx⟩
def iOf (vs:List Value) (j:Nat):Nat:=match nth vs j with | .int _ n=>n.toNat | _=>0
theorem SlR.get {α:Type} {S:Nat→Prop} {k:Nat} {R:World→List Value→α→Prop} {w:World} {a:Option Addr} {n c:Nat} {l:List α} (h:SlR S k R w (.slice a n c) l) {i:Nat} (hi:i < l.length) :
  ∃ p r,a=some p∧S p.block∧r.length=k∧(∀ j u,r[j]?=some u→w.cell? (p.add (i * k+j))=some u)∧R w r l[i]:=by
 obtain ⟨a',c',h1,h2,h3,h4⟩:=h
 cases h1
 exact h4 i l[i] (by simp [hi])
theorem SlR.shape {α:Type} {S:Nat→Prop} {k:Nat} {R:World→List Value→α→Prop} {w:World} {v:Value} {l:List α} (h:SlR S k R w v l):∃ a c,v=.slice a l.length c∧l.length≤maxLen:=by
 obtain ⟨a',c',h1,h2,h3,h4⟩:=h
 exact ⟨a',c',h1,Nat.le_trans h2 h3⟩

def OwnR {α:Type} (B e k:Nat) (R:World→List Value→α→Prop) (w:World) (v:Value) (l:List α):Prop:=
 ∃ rows:List (List Value),w.ownsRow B e k v l.length rows.flatten∧rows.length=l.length∧(∀ r ∈ rows,r.length=k∧∀ u ∈ r,u.oneCell'=true)∧∀ (i:Nat) (r:List Value) (x:α),rows[i]?=some r→l[i]?=some x→R w r x
theorem flat_len {k:Nat}:∀ (rows:List (List Value)),(∀ r ∈ rows,r.length=k)→rows.flatten.length=rows.length * k:=by
 intro rows;induction rows with
 | nil=>intro _;simp
 | cons r rs ih=>intro h;simp [ih (fun r hr=>h r (by simp [hr])),h r (by simp),Nat.add_mul];omega
theorem flat_get {k:Nat}:∀ (rows:List (List Value)) (i j:Nat) (r:List Value),(∀ r ∈ rows,r.length=k)→rows[i]?=some r→j < k→rows.flatten[i * k+j]?=r[j]?:=by
 intro rows;induction rows with
 | nil=>intro i j r _ h;simp at h
 | cons r0 rs ih=>
  intro i j r h hi hj
  have h0:=h r0 (by simp)
  cases i with
  | zero=>simp at hi;subst hi;simp [List.getElem?_append,h0,hj]
  | succ i=>
   have:=ih i j r (fun r hr=>h r (by simp [hr])) (by simpa using hi) hj
   rw [List.flatten_cons,List.getElem?_append_right (by rw [h0,Nat.add_mul];omega)]
   rw [←this];congr 1;rw [h0,Nat.add_mul];omega
theorem flat_of_get {k:Nat} (hk:0 < k):∀ (rows:List (List Value)),(∀ r ∈ rows,r.length=k)→∀ (q:Nat) (u:Value),rows.flatten[q]?=some u→∃ r,rows[q / k]?=some r∧r[q % k]?=some u:=by
 intro rows h q u hu
 have hl:=flat_len rows h
 have hq:q < rows.flatten.length:=(List.getElem?_eq_some_iff.1 hu).1
 have h1:q / k < rows.length:=by rw [hl] at hq;exact (Nat.div_lt_iff_lt_mul hk).2 hq
 refine ⟨rows[q / k],by simp [h1],?_⟩
 rw [←flat_get rows (q / k) (q % k) _ h (by simp [h1]) (Nat.mod_lt _ hk)]
 rw [Nat.div_add_mod' q k];exact hu
theorem OwnR.nil {α:Type} {B e k:Nat} {R:World→List Value→α→Prop} {w:World}:OwnR B e k R w (.slice none 0 0) []:=
 ⟨[],World.ownsRow_nil w B e k,rfl,by simp,by simp⟩
theorem OwnR.made {α:Type} {B e k:Nat} {R:World→List Value→α→Prop} {w:World} (hB:B≤w.heap.size):OwnR B e k R (w.alloc (.cells #[] e)) (.slice (some ⟨w.heap.size,0,none⟩) 0 0) ([]:List α):=
 ⟨[],World.ownsRow_made w #[] 0 hB (by simp [maxLen]) (by simp),rfl,by simp,by simp⟩
theorem OwnR.shape {α:Type} {B e k:Nat} {R:World→List Value→α→Prop} {w:World} {v:Value} {l:List α} (h:OwnR B e k R w v l) :
  ∃ a c,v=.slice a l.length c∧l.length≤c∧c≤maxLen∧(∀ p,a=some p→∃ g,p=⟨g,0,none⟩∧B≤g∧g < w.heap.size∧v.ownBlock=some g)∧(a=none→l=[]):=by
 obtain ⟨rows,h1,h2,h3,h4⟩:=h
 rcases h1.2 with ⟨rfl,hn⟩ | ⟨g,cap,cur,rfl,hg,hh,hn,hm,_⟩
 ·exact ⟨none,0,by rw [hn],by omega,by simp [maxLen],(fun p hp=>nomatch hp),fun _=>List.eq_nil_of_length_eq_zero hn⟩
 ·exact ⟨some ⟨g,0,none⟩,cap,rfl,hn,hm,(fun p hp=>by cases hp;exact ⟨g,rfl,hg,(Array.getElem?_eq_some_iff.1 hh).1,rfl⟩),(fun h=>nomatch h)⟩
theorem OwnR.sl {α:Type} {B e k:Nat} {R:World→List Value→α→Prop} {w:World} {v:Value} {l:List α} (h:OwnR B e k R w v l):SlR (fun b=>B≤b∧v.ownBlock=some b) k R w v l:=by
 obtain ⟨a,c,hv,hc,hm,hp,hn⟩:=h.shape
 obtain ⟨rows,h1,h2,h3,h4⟩:=h
 refine ⟨a,c,hv,hc,hm,fun i x hx=>?_⟩
 have hi:i < l.length:=(List.getElem?_eq_some_iff.1 hx).1
 cases a with
 | none=>rw [hn rfl] at hi;simp at hi
 | some p=>
  obtain ⟨g,rfl,hg,hlt,hob⟩:=hp p rfl
  have hr:i < rows.length:=by omega
  have hrl:∀ r ∈ rows,r.length=k:=fun r hr=>(h3 r hr).1
  refine ⟨_,rows[i],rfl,⟨hg,hob⟩,hrl _ (by simp),fun j u hu=>?_,h4 i _ x (by simp [hr]) hx⟩
  have hj:j < k:=by rw [←hrl rows[i] (by simp)];exact (List.getElem?_eq_some_iff.1 hu).1
  refine h1.cells hob _ u ?_
  rw [flat_get rows i j rows[i] hrl (by simp [hr]) hj];exact hu
theorem OwnR.mod {α:Type} {B e k:Nat} {R R':World→List Value→α→Prop} {w w':World} {v:Value} {l:List α} {M:Nat→Prop} (h:OwnR B e k R w v l) (hm:Mod M w w') (hv:∀ g,v.ownBlock=some g→¬ M g)
  (hR:∀ r x,x ∈ l→R w r x→R' w' r x):OwnR B e k R' w' v l:=by
 obtain ⟨rows,h1,h2,h3,h4⟩:=h
 refine ⟨rows,⟨h1.1,?_⟩,h2,h3,fun i r x hr hx=>hR r x (List.mem_of_getElem? hx) (h4 i r x hr hx)⟩
 rcases h1.2 with hn | ⟨g,cap,cur,rfl,hb,hgg,rest⟩
 ·exact .inl hn
 ·refine .inr ⟨g,cap,cur,rfl,hb,?_,rest⟩
  rw [hm.same g (Array.getElem?_eq_some_iff.1 hgg).1 (hv g rfl)];exact hgg
def ElemOK (P:Program) (t e size bytes:Nat):Prop:=∃ i z,P.underlying t=some (.slice e)∧P.info? e=some i∧i.zero=some z∧i.size=size∧i.bytes=bytes∧z.cells.size=size∧0 < size
theorem run_append_at {P:Program} {t ty B e k bytes:Nat} {w:World} {v:Value} {n:Nat} {xs:List Value} (hE:ElemOK P t e k bytes) (hown:w.ownsRow B e k v n xs) (a:Option Addr) (m c:Nat) (news:List Value)
  (hl:news.length=m * k) (ha:a=none→m=0) (hnews:∀ p,a=some p→∀ j u,news[j]?=some u→w.cell? (p.add j)=some u) (h1:∀ u ∈ news,u.oneCell'=true) (h63:n+m≤maxLen) (hbytes:(n+m) * bytes≤140737488355328) (hB:B≤w.heap.size) :
  ∃ v' w',(Builtin.append_ #[t,t] ty #[v,.slice a m c]).run P w=.ok v' w'∧w'.ownsRow B e k v' (n+m) (xs++news)∧w.grownBy w' v.ownBlock∧(∀ g,v'.ownBlock=some g→v.ownBlock=some g∨w.heap.size≤g):=by
 obtain ⟨i,z,ht,hi,hz,rfl,rfl,hzs,hk⟩:=hE
 cases a with
 | none=>
  have hm:=ha rfl
  subst hm
  have:news=[]:=List.eq_nil_of_length_eq_zero (by simpa using hl)
  subst this
  have hsh:∃ b s q,v=.slice b s q∧s≤q:=by
   rcases hown.2 with ⟨rfl,_⟩ | ⟨g,cap,cur,rfl,_,_,h,_⟩
   ·exact ⟨_,_,_,rfl,Nat.le_refl _⟩
   ·exact ⟨_,_,_,rfl,h⟩
  refine ⟨v,w,?_,by simpa using hown,⟨rfl,rfl,rfl,Nat.le_refl _,fun _ _ _=>rfl⟩,fun g hg=>.inl hg⟩
  obtain ⟨b,s,q,rfl,hq⟩:=hsh
  cases b <;> simp [Builtin.append_,run_underlying ht,sizeOf,typeInfo,hi,Builtin.lenOf,Builtin.firstCells,hq,storeCells]
 | some p=>
  have hn:=hnews p rfl
  have hsm:((n+m:Nat):Int)≤9223372036854775807:=by simp only [maxLen] at h63;omega
  rcases hown.2 with ⟨rfl,rfl⟩ | ⟨g,cap,cur,rfl,hbg,hg,hnc,hcm,hcs,htake⟩
  ·have hown':w.ownsRow w.heap.size e i.size (.slice none 0 0) 0 xs:=⟨hown.1,.inl ⟨rfl,rfl⟩⟩
   obtain ⟨v',w',r1,r2,r3,_⟩:=run_append_own (P:=P) w w.heap.size t ty e i z i.size i.bytes ht hi hz rfl rfl hzs hk _ 0 xs hown' p m c news hl hn h1 h63 hbytes (Nat.le_refl _)
   refine ⟨v',w',r1,⟨r2.1,?_⟩,r3,fun g hg=>.inr (r2.lt g hg).1⟩
   rcases r2.2 with h | ⟨g,cap,cur,q1,q2,q3⟩
   ·exact .inl h
   ·exact .inr ⟨g,cap,cur,q1,Nat.le_trans hB q2,q3⟩
  ·by_cases hroom:n+m≤cap
   ·have hfit:n * i.size+news.length≤cur.size:=by rw [hl,hcs,←Nat.add_mul];exact Nat.mul_le_mul_right _ hroom
    have hr:=run_append_room (P:=P) w t ty e i ht hi g n cap cur hg p m c news hl hn h1 hroom hfit
    have hx:xs.length=n * i.size:=hown.1
    refine ⟨_,_,hr,⟨by rw [List.length_append,hx,hl,Nat.add_mul],.inr ⟨g,cap,_,rfl,hbg,setRow_heap w g cur _ e _ hg,hroom,hcm,?_,?_⟩⟩,⟨rfl,rfl,rfl,?_,fun b _ hb=>setRow_other w g b _ (fun e=>hb (by simp [Value.ownBlock,e]))⟩,fun g' hg'=>.inl hg'⟩
    ·have h0:cur.toList.length=cap * i.size:=by rw [Array.length_toList,hcs]
     have h2:n * i.size+m * i.size≤cap * i.size:=by rw [←Nat.add_mul];exact Nat.mul_le_mul_right _ hroom
     simp only [List.size_toArray,List.length_append,List.length_take,List.length_drop,h0,hl]
     omega
    ·rw [htake,Nat.add_mul,←hx,←hl,←List.length_append]
     exact List.take_left
    ·simp [World.setRow]
   ·have holds:∀ j u,xs[j]?=some u→w.cell? ((⟨g,0,none⟩:Addr).add j)=some u:=hown.cells (g:=g) rfl
    have hr:=run_append_grow (P:=P) w t ty e i z ht hi hz ⟨g,0,none⟩ n cap xs hown.1 holds p m c news hl hn (by omega) hsm (growslice_fits (by omega) hbytes)
    have hge:=grownCap_ge w (n+m) cap e
    have hx:xs.length=n * i.size:=hown.1
    refine ⟨_,_,hr,⟨by rw [List.length_append,hx,hl,Nat.add_mul],.inr ⟨w.heap.size,_,_,rfl,hB,heap_alloc_new w.drew _,hge,grownCap_le_maxLen w (n+m) cap e h63,?_,?_⟩⟩,⟨rfl,rfl,rfl,by simp,fun b hb _=>RowKit.Below.heap_alloc w.drew _ b hb⟩,fun g' hg'=>.inr (by cases hg';exact Nat.le_refl _)⟩
    ·simp only [Array.size_append,List.size_toArray,size_zeroCells,hzs,hx,hl,←Nat.add_mul]
     congr 1;omega
    ·simp only [Array.toList_append]
     have h3:(n+m) * i.size=(xs++news).length:=by rw [List.length_append,hx,hl,Nat.add_mul]
     rw [h3,List.take_append_of_le_length (Nat.le_refl _),List.take_length]
theorem OwnR.append {α:Type} {P:Program} {t ty B e k bytes:Nat} {R:World→List Value→α→Prop} {S:Nat→Prop} {w:World} {v x:Value} {l m:List α} (hE:ElemOK P t e k bytes) (h:OwnR B e k R w v l) (hx:SlR S k R w x m)
  (hone:∀ r y,R w r y→∀ u ∈ r,u.oneCell'=true) (h63:(l.length+m.length) * bytes≤140737488355328) (hB:B≤w.heap.size) (hlm:l.length+m.length≤maxLen)
  (hR:∀ w',w.grownBy w' v.ownBlock→∀ r y,R w r y→R w' r y) :
  runK P (Builtin.append_ #[t,t] ty [v,x].toArray) (fun v' w'=>OwnR B e k R w' v' (l++m)∧w.grownBy w' v.ownBlock∧(∀ g,v'.ownBlock=some g→v.ownBlock=some g∨w.heap.size≤g)) w:=by
 obtain ⟨i,z,ht,hi,hz,hs,hb,hzs,hk⟩:=hE
 have hsh:=hx.shape
 obtain ⟨rows,h1,h2,h3,h4⟩:=h
 obtain ⟨a,c,rfl,hc,hcm,hel⟩:=hx
 have fin:∀ (rows':List (List Value)),rows'.length=m.length→(∀ r ∈ rows',r.length=k∧∀ u ∈ r,u.oneCell'=true)→(∀ (i:Nat) (r:List Value) (y:α),rows'[i]?=some r→m[i]?=some y→R w r y)→
   (∃ v' w',(Builtin.append_ #[t,t] ty [v,.slice a m.length c].toArray).run P w=.ok v' w'∧w'.ownsRow B e k v' (l.length+m.length) (rows.flatten++rows'.flatten)∧w.grownBy w' v.ownBlock∧(∀ g,v'.ownBlock=some g→v.ownBlock=some g∨w.heap.size≤g))→
   runK P (Builtin.append_ #[t,t] ty [v,.slice a m.length c].toArray) (fun v' w'=>OwnR B e k R w' v' (l++m)∧w.grownBy w' v.ownBlock∧(∀ g,v'.ownBlock=some g→v.ownBlock=some g∨w.heap.size≤g)) w:=by
  rintro rows' e1 e2 e3 ⟨v',w',r1,r2,r3,r4⟩
  refine ⟨v',w',r1,⟨rows++rows',by rw [List.flatten_append,List.length_append];exact r2,by simp [h2,e1],?_,?_⟩,r3,r4⟩
  ·intro r hr;rcases List.mem_append.1 hr with hr | hr
   ·exact h3 r hr
   ·exact e2 r hr
  ·intro j r y hr hy
   refine hR w' r3 r y ?_
   by_cases hj:j < l.length
   ·rw [List.getElem?_append_left (by omega)] at hr
    rw [List.getElem?_append_left hj] at hy
    exact h4 j r y hr hy
   ·rw [List.getElem?_append_right (by omega)] at hr
    rw [List.getElem?_append_right (by omega)] at hy
    rw [h2] at hr
    exact e3 _ r y hr hy
 -- the cells of what is appended
 have hrows:∃ rows':List (List Value),rows'.length=m.length∧(∀ (i:Nat) (r:List Value),rows'[i]?=some r→r.length=k∧(∀ u ∈ r,u.oneCell'=true)∧(∃ p,a=some p∧∀ j u,r[j]?=some u→w.cell? (p.add (i * k+j))=some u)∧∃ y,m[i]?=some y∧R w r y):=by
  clear fin h4 h3 h2 h1 h63 hlm hR hcm hsh
  have gen:∀ q,q≤m.length→∃ rows':List (List Value),rows'.length=q∧(∀ (i:Nat) (r:List Value),rows'[i]?=some r→r.length=k∧(∀ u ∈ r,u.oneCell'=true)∧(∃ p,a=some p∧∀ j u,r[j]?=some u→w.cell? (p.add (i * k+j))=some u)∧∃ y,m[i]?=some y∧R w r y):=by
   intro q
   induction q with
   | zero=>exact fun _=>⟨[],rfl,fun i r h=>by simp at h⟩
   | succ q ih=>
    intro hq
    obtain ⟨rs,e1,e2⟩:=ih (by omega)
    obtain ⟨p,r,f1,f2,f3,f4,f5⟩:=hel q m[q] (by simp [show q < m.length by omega])
    refine ⟨rs++[r],by simp [e1],fun i r' hr'=>?_⟩
    by_cases hi:i < q
    ·rw [List.getElem?_append_left (by omega)] at hr';exact e2 i r' hr'
    ·have:i=q:=by have:=(List.getElem?_eq_some_iff.1 hr').1;simp [e1] at this;omega
     subst this
     rw [List.getElem?_append_right (by omega)] at hr'
     simp [e1] at hr'
     subst hr'
     exact ⟨f3,hone _ _ f5,⟨p,f1,f4⟩,m[i],by simp [show i < m.length by omega],f5⟩
  exact gen m.length (Nat.le_refl _)
 obtain ⟨rows',g1,g2⟩:=hrows
 have hlen:∀ r ∈ rows',r.length=k:=fun r hr=>by obtain ⟨j,hj⟩:=List.mem_iff_getElem?.1 hr;exact (g2 j r hj).1
 refine fin rows' g1 (fun r hr=>by obtain ⟨j,hj⟩:=List.mem_iff_getElem?.1 hr;exact ⟨(g2 j r hj).1,(g2 j r hj).2.1⟩) (fun j r y hr hy=>?_) ?_
 ·obtain ⟨_,_,_,y',hy',hRy⟩:=g2 j r hr
  rw [hy] at hy';cases hy';exact hRy
 ·refine run_append_at ⟨i,z,ht,hi,hz,hs,hb,hzs,hk⟩ h1 a m.length c rows'.flatten (by rw [flat_len rows' hlen,g1]) ?_ ?_ ?_ hlm h63 hB
  ·intro ha
   by_cases hm0:m.length=0
   ·exact hm0
   ·obtain ⟨p,r,f1,_⟩:=hel 0 m[0] (by simp [show 0 < m.length by omega])
    rw [ha] at f1;cases f1
  ·intro p hp q u hu
   obtain ⟨r,hr,hru⟩:=flat_of_get hk rows' hlen q u hu
   obtain ⟨_,_,⟨p',hp',hc'⟩,_⟩:=g2 _ r hr
   rw [hp] at hp';cases hp'
   have:=hc' _ u hru
   rwa [Nat.div_add_mod'] at this
  ·intro u hu
   obtain ⟨r,hr,hur⟩:=List.mem_flatten.1 hu
   obtain ⟨j,hj⟩:=List.mem_iff_getElem?.1 hr
   exact (g2 j r hj).2.1 u hur
theorem Mod.next {M M':Nat→Prop} {w w1 w2:World} (h1:Mod M' w w1) (h2:Mod M w1 w2) (hM:∀ b,b < w.heap.size→M b→M' b):Mod M' w w2:=
 ⟨h2.os.trans h1.os,h2.tape.trans h1.tape,h2.output.trans h1.output,Nat.le_trans h1.size h2.size,fun b hb hn=>(h2.same b (Nat.lt_of_lt_of_le hb h1.size) fun h=>hn (hM b hb h)).trans (h1.same b hb hn)⟩
theorem SlR.grow {α:Type} {S:Nat→Prop} {k:Nat} {R:World→List Value→α→Prop} {w w':World} {v:Value} {l:List α} (h:SlR S k R w v l) (hg:Grow w w') (hk:0 < k) (hR:∀ r x,R w r x→R w' r x):SlR S k R w' v l:=
 h.mono (fun _ _ h=>h) (fun b hb _=>hg.same b hb fun h=>h) hk hR
theorem SlR.mod {α:Type} {S M:Nat→Prop} {k:Nat} {R:World→List Value→α→Prop} {w w':World} {v:Value} {l:List α} (h:SlR S k R w v l) (hg:Mod M w w') (hS:∀ b,b < w.heap.size→S b→¬ M b) (hk:0 < k) (hR:∀ r x,R w r x→R w' r x):SlR S k R w' v l:=
 h.mono (fun _ _ h=>h) (fun b hb hs=>hg.same b hb (hS b hb hs)) hk hR
theorem SlR.sub {α:Type} {S S':Nat→Prop} {k:Nat} {R R':World→List Value→α→Prop} {w:World} {v:Value} {l:List α} (h:SlR S k R w v l) (hS:∀ b,b < w.heap.size→S b→S' b) (hk:0 < k) (hR:∀ r x,R w r x→R' w r x):SlR S' k R' w v l:=
 h.mono hS (fun _ _ _=>rfl) hk hR
theorem OwnR.base {α:Type} {B B' e k:Nat} {R:World→List Value→α→Prop} {w:World} {v:Value} {l:List α} (h:OwnR B e k R w v l) (hb:∀ g,v.ownBlock=some g→B'≤g):OwnR B' e k R w v l:=by
 obtain ⟨rows,h1,h2,h3,h4⟩:=h
 refine ⟨rows,⟨h1.1,?_⟩,h2,h3,h4⟩
 rcases h1.2 with hn | ⟨g,cap,cur,rfl,hb',rest⟩
 ·exact .inl hn
 ·exact .inr ⟨g,cap,cur,rfl,hb g rfl,rest⟩
theorem rowK_empty {e k:Nat} {K:Cont} {w:World} (h:K (.slice (some ⟨w.heap.size,0,none⟩) 0 0) (w.alloc (.cells #[] e))):rowK e k 0 [] [] K w:=by
 refine ⟨#[],?_,h⟩
 simp [Instr.fill,Array.range_zero']
theorem flat_set {k:Nat}:∀ (rows:List (List Value)) (i j:Nat) (r:List Value) (u:Value),(∀ r ∈ rows,r.length=k)→rows[i]?=some r→j < k→rows.flatten.set (i * k+j) u=(rows.set i (r.set j u)).flatten:=by
 intro rows;induction rows with
 | nil=>intro i j r u _ h;simp at h
 | cons r0 rs ih=>
  intro i j r u h hi hj
  have h0:=h r0 (by simp)
  cases i with
  | zero=>
   simp at hi;subst hi
   simp only [List.flatten_cons,List.set_cons_zero,Nat.zero_mul,Nat.zero_add]
   rw [List.set_append_left _ _ (by omega)]
  | succ i=>
   have:=ih i j r u (fun r hr=>h r (by simp [hr])) (by simpa using hi) hj
   simp only [List.flatten_cons,List.set_cons_succ]
   rw [List.set_append_right _ _ (by rw [h0,Nat.add_mul];omega),←this]
   congr 2;rw [h0,Nat.add_mul];omega
theorem OwnR.store {α:Type} {B e k:Nat} {R R':World→List Value→α→Prop} {w:World} {a:Addr} {n c:Nat} {l:List α} (h:OwnR B e k R w (.slice (some a) n c) l) {i j:Nat} {u:Value} {x':α} (hi:i < l.length) (hj:j < k)
  (hu:u.oneCell'=true) (hR:∀ r y,y ∈ l→R w r y→R' (w.setCell (a.add (i * k+j)) u) r y) (hx:∀ r,R w r l[i]→R' (w.setCell (a.add (i * k+j)) u) (r.set j u) x') :
  (∃ v,w.cell? (a.add (i * k+j))=some v)∧w.frozen? (a.add (i * k+j))=false∧OwnR B e k R' (w.setCell (a.add (i * k+j)) u) (.slice (some a) n c) (l.set i x')∧Mod (fun b=>b=a.block) w (w.setCell (a.add (i * k+j)) u):=by
 obtain ⟨rows,h1,h2,h3,h4⟩:=h
 have hrl:∀ r ∈ rows,r.length=k:=fun r hr=>(h3 r hr).1
 have hir:i < rows.length:=by omega
 have hsh:∃ g,a=⟨g,0,none⟩∧n=l.length:=by
  rcases h1.2 with ⟨h',_⟩ | ⟨g',cap',cur,h',_⟩
  ·simp at h'
  ·simp only [Value.slice.injEq,Option.some.injEq] at h';exact ⟨g',h'.1,h'.2.1⟩
 obtain ⟨g,rfl,rfl⟩:=hsh
 have hadd:(⟨g,0,none⟩:Addr).add (i * k+j)=⟨g,i * k+j,none⟩:=by unfold Addr.add;split <;> simp_all
 rw [hadd] at hR hx ⊢
 have hlt:i * k+j < l.length * k:=by
  have:(i+1) * k≤l.length * k:=Nat.mul_le_mul_right _ hi
  rw [Nat.add_mul] at this;omega
 obtain ⟨s1,s2⟩:=h1.stored (i * k+j) u
 have hri:rows[i]?=some rows[i]:=by simp [hir]
 refine ⟨?_,h1.frozenAt _,?_,?_⟩
 ·refine ⟨(rows.flatten)[i * k+j]'(by rw [flat_len rows hrl,h2];exact hlt),?_⟩
  rw [h1.cellAt _ hlt];simp [flat_len rows hrl,h2,hlt]
 ·refine ⟨rows.set i (rows[i].set j u),?_,by simp [h2],?_,?_⟩
  ·rw [List.length_set,←flat_set rows i j rows[i] u hrl hri hj];exact s1
  ·intro r hr
   rcases List.mem_or_eq_of_mem_set hr with hr | rfl
   ·exact h3 r hr
   ·refine ⟨by rw [List.length_set];exact hrl _ (by simp),fun y hy=>?_⟩
    rcases List.mem_or_eq_of_mem_set hy with hy | rfl
    ·exact (h3 rows[i] (by simp)).2 y hy
    ·exact hu
  ·intro q r y hr hy
   by_cases hq:i=q
   ·subst hq
    simp only [List.getElem?_set_self hir,List.getElem?_set_self hi,Option.some.injEq] at hr hy
    subst hr;subst hy
    exact hx _ (h4 i _ _ hri (by simp [hi]))
   ·rw [List.getElem?_set_ne hq] at hr hy
    exact hR r y (List.mem_of_getElem? hy) (h4 q r y hr hy)
 ·exact Mod.setCell _ _ _ rfl
end Go.K

namespace Go.Proofs.YtaimlfomodfekaaGreatDoor
open Go Go.K

structure AVal where
 kind:Int
 n:Int
 f:Int
 s:ByteArray
 deriving DecidableEq
structure Attr where
 key:Int
 val:AVal
 deriving DecidableEq
def AVal.cells (v:AVal):List Value:=[.int .u8 v.kind,.int .i64 v.n,.int .u64 v.f,.string v.s]
def Attr.cells (a:Attr):List Value:=.int .i64 a.key :: a.val.cells
abbrev RAttr:World→List Value→Attr→Prop:=fun _ r x=>r=x.cells
abbrev RSet (S:Nat→Prop) (w:World) (v:Value) (l:List Attr):Prop:=SlR S 5 RAttr w v l

theorem eqIn_attr (a b:Attr) (w:World) :
  (Op.equalIn 10000 121 (.agg a.cells.toArray) (.agg b.cells.toArray)).run Tryz.prog w=.ok (decide (a=b)) w:=by
 have hS:Tryz.prog.underlying 121=some (.struct (Tryz.prog.fieldsOf 121)):=by kernel_rfl
 have hV:Tryz.prog.underlying 108=some (.struct (Tryz.prog.fieldsOf 108)):=by kernel_rfl
 have u1:=Tryz.underlying3
 have u2:=Tryz.underlying5
 have u3:=Tryz.underlying2
 have u4:=Tryz.underlying38
 have u5:=Tryz.underlying9
 rw [show (10000:Nat)=9999+1 from rfl,run_equalIn_agg w 9999 _ _ _ hS Tryz.stoodInHeld121]
 simp only [Program.fieldsOf,Tryz.underlying121,Attr.cells,AVal.cells]
 have a1:=Tryz.isAgg3
 have a2:=Tryz.isAgg108
 have z2:∀ w,(sizeOf 108).run Tryz.prog w=.ok 4 w:=fun w=>by simp only [sizeOf,Sem.run_bind,Tryz.typeInfo108,Result.andThen_ok,Sem.run_pure];rfl
 have a3:=Tryz.isAgg5
 have a4:=Tryz.isAgg2
 have a5:=Tryz.isAgg38
 have a6:=Tryz.isAgg9
 have hv:∀ (x y:AVal) (w:World),(Op.equalIn 9999 108 (.agg #[.int .u8 x.kind,.int .i64 x.n,.int .u64 x.f,.string x.s]) (.agg #[.int .u8 y.kind,.int .i64 y.n,.int .u64 y.f,.string y.s])).run Tryz.prog w=.ok (decide (x=y)) w:=by
  intro x y w
  rw [show (9999:Nat)=9998+1 from rfl,run_equalIn_agg w 9998 _ _ _ hV Tryz.stoodInHeld108]
  simp only [Program.fieldsOf,Tryz.underlying108]
  have e1:∀ a b:Int,(Op.equalIn 9998 5 (.int .u8 a) (.int .u8 b)).run Tryz.prog w=.ok (a == b) w:=fun a b=>run_equalIn_int w 9997 _ _ _ a b u2
  have e2:∀ a b:Int,(Op.equalIn 9998 2 (.int .i64 a) (.int .i64 b)).run Tryz.prog w=.ok (a == b) w:=fun a b=>run_equalIn_int w 9997 _ _ _ a b u3
  have e3:∀ a b:Int,(Op.equalIn 9998 38 (.int .u64 a) (.int .u64 b)).run Tryz.prog w=.ok (a == b) w:=fun a b=>run_equalIn_int w 9997 _ _ _ a b u4
  have e4:∀ a b:ByteArray,(Op.equalIn 9998 9 (.string a) (.string b)).run Tryz.prog w=.ok (a.toList == b.toList) w:=fun a b=>run_equalIn_string w 9997 _ a b u5
  have q:decide (x=y)=(x.kind == y.kind && (x.n == y.n && (x.f == y.f && decide (x.s=y.s)))):=by
   cases x;cases y
   rw [Bool.eq_iff_iff]
   simp [AVal.mk.injEq]
  rw [q]
  simp [Op.eqFields,part,a3,a4,a5,a6,e1,e2,e3,e4,toList_beq]
  by_cases h1:x.kind=y.kind <;> by_cases h2:x.n=y.n <;> by_cases h3:x.f=y.f <;> by_cases h4:x.s=y.s <;> simp [h1,h2,h3,h4]
 have e1:∀ a b:Int,(Op.equalIn 9999 3 (.int .i64 a) (.int .i64 b)).run Tryz.prog w=.ok (a == b) w:=fun a b=>run_equalIn_int w 9998 _ _ _ a b u1
 have e2:∀ (x y:AVal) (w:World),(Op.equalIn 9999 108 (.agg #[.int .u8 x.kind,.int .i64 x.n,.int .u64 x.f,.string x.s]) (.agg #[.int .u8 y.kind,.int .i64 y.n,.int .u64 y.f,.string y.s])).run Tryz.prog w=.ok (decide (x=y)) w:=hv
 have e3:=e2 a.val b.val w
 have x1:∀ k q r s t:Value,(#[k,q,r,s,t]:Array Value).extract 1 5=#[q,r,s,t]:=fun _ _ _ _ _=>rfl
 have q:decide (a=b)=(a.key == b.key && decide (a.val=b.val)):=by
  cases a;cases b
  rw [Bool.eq_iff_iff]
  simp [Attr.mk.injEq]
 rw [q]
 simp [Op.eqFields,part,a1,a2,z2,e1,x1,e3]
 by_cases h1:a.key=b.key <;> by_cases h2:a.val=b.val <;> simp [h1,h2]

theorem run_ne_attr (xo yo:Operand) (a b:Attr) (w:World) :
  (binS .neq 121 xo yo (.agg a.cells.toArray) (.agg b.cells.toArray)).run Tryz.prog w=.ok (.bool (!decide (a=b))) w:=by
 simp only [binS,Sem.run_bind,run_eqGuard_agg w .neq _ xo yo _ _ Tryz.eqGuardType121,Result.andThen_ok]
 rw [run_neq_struct,eqIn_attr];rfl
theorem elem_attr:ElemOK Tryz.prog 78 121 5 48:=⟨Tryz.t121,.agg #[.int .i64 0,.int .u8 0,.int .i64 0,.int .u64 0,.string ⟨#[]⟩],by kernel_rfl,by kernel_rfl,by kernel_rfl,by kernel_rfl,by kernel_rfl,by rfl,by decide⟩
theorem RAttr.one {w:World} {r:List Value} {x:Attr} (h:RAttr w r x):∀ u ∈ r,u.oneCell'=true:=by
 intro u hu
 subst h
 simp only [Attr.cells,AVal.cells,List.mem_cons,List.not_mem_nil,or_false] at hu
 rcases hu with rfl | rfl | rfl | rfl | rfl <;> rfl
abbrev OSet (B:Nat) (w:World) (v:Value) (l:List Attr):Prop:=OwnR B 121 5 RAttr w v l

end Go.Proofs.YtaimlfomodfekaaGreatDoor

namespace Go.K
open Go

def Quiet (W W':World):Prop:=W'.os=W.os∧W'.tape=W.tape∧W'.output=W.output
def SeqI (I0:Nat→Prop) (st:Prop) (P:Program) (gf:Nat) (cap:List Value) (E:Nat→(Nat→Prop)→World→List Value→Prop) (N:Nat) (Rd:Nat→Prop) (w:World):Prop:=
 ∀ (l:Nat) (J:Nat→(Nat→Prop)→World→Prop) (Jx:(Nat→Prop)→World→Prop) (w1:World),
  Mod (fun _=>False) w w1→J 0 I0 w1→
  (∀ k It It' W W',J k It W→Mod (fun b=>¬ st∧It b) W W'→(∀ b,It' b→(It b∨W.heap.size≤b)∧b < W'.heap.size)→J k It' W')→
  (∀ It It' W W',Jx It W→Mod (fun b=>¬ st∧It b) W W'→(∀ b,It' b→(It b∨W.heap.size≤b)∧b < W'.heap.size)→Jx It' W')→
  (∀ k It W,J k It W→∀ b,b < w.heap.size→Rd b→W.heap[b]?=w.heap[b]?)→
  (∀ k It W args,k < N→J k It W→E k It W args→roundK P l args (fun v W'=>W.heap.size≤W'.heap.size∧(∀ b,It b→W'.heap[b]?=W.heap[b]?)∧Quiet W W'∧((v=.bool true∧J (k+1) It W')∨(v=.bool false∧Jx It W'))) W)→
  callK P gf (.func (.yield l) #[] #[] :: cap) (fun _ W'=>∃ It,J N It W'∨Jx It W') w1

def KpW (It:Nat→Prop) (w W W':World):Prop:=W.heap.size≤W'.heap.size∧(∀ b,It b∨b=w.heap.size∨b=w.heap.size+1→W'.heap[b]?=W.heap[b]?)∧Quiet W W'
def rndP (It:Nat→Prop) (w W:World) (J:World→Prop) (Jx:Exit→World→Prop):Exit→World→Prop:=fun x W'=>KpW It w W W'∧match x with
 | .normal=>J W' | .ret=>Jx .ret W' | .exit i=>Jx (.exit i) W' | _=>False
def begK (It:Nat→Prop) (w W:World) (J:World→Prop) (Jx:Exit→World→Prop) (F:(Exit→World→Prop)→World→Prop) (W1:World):Prop:=
 KpW It w W W1∧∀ W2,Mod (fun b=>b=w.heap.size+1) W1 W2→F (rndP It w W2 J Jx) W2
def ItOw (It:Nat→Prop) (w W:World):Prop:=∀ b,It b→b < W.heap.size∧b≠w.heap.size∧b≠w.heap.size+1
def RangeK (P:Program) (ok:Nat→Bool) (f:Value) (np:Nat) (rnd:List Value→(((Exit→World→Prop)→World→Prop)→World→Prop)→World→Prop) (N:Exit→World→Prop) (w:World):Prop:=
 ∃ I0 st gf cap E n Rd,f=.func (.func gf) #[] (List.toArray cap)∧ok gf=true∧SeqI I0 st P gf cap E n Rd w∧(∀ k It W args,k < n→E k It W args→args.length=np)∧(∀ b,I0 b→b < w.heap.size)∧
 ∃ (J:Nat→(Nat→Prop)→World→Prop) (Jx:Exit→(Nat→Prop)→World→Prop),
  J 0 I0 w∧
  (∀ k It It' W W',J k It W→Mod (fun b=>(¬ st∧It b)∨b=w.heap.size∨b=w.heap.size+1) W W'→(∀ b,It' b→(It b∨W.heap.size≤b)∧b < W'.heap.size∧b≠w.heap.size∧b≠w.heap.size+1)→J k It' W')∧
  (∀ x It It' W W',Jx x It W→Mod (fun b=>(¬ st∧It b)∨b=w.heap.size∨b=w.heap.size+1) W W'→(∀ b,It' b→(It b∨W.heap.size≤b)∧b < W'.heap.size∧b≠w.heap.size∧b≠w.heap.size+1)→Jx x It' W')∧
  (∀ k It W,J k It W→∀ b,b < w.heap.size→Rd b→W.heap[b]?=w.heap[b]?)∧
  (∀ k It W args,k < n→E k It W args→J k It W→w.heap.size+2≤W.heap.size→ItOw It w W→rnd args (begK It w W (J (k+1) It) (fun x=>Jx x It)) W)∧
  (∀ It W,J n It W→ItOw It w W→w.heap.size+2≤W.heap.size→W.heap[w.heap.size]?=some (.deferred (some []))→N .normal W)∧
  (∀ x It W,Jx x It W→ItOw It w W→w.heap.size+2≤W.heap.size→W.heap[w.heap.size]?=some (.deferred (some []))→N x W)
variable {P:Program} {ok:Nat→Bool} {n:Nat}

def lookN:List (Nat × (World→Prop))→Nat→World→Prop
 | [],_,_=>False
 | (j,N) :: r,i,w=>bif Nat.beq i j then N w else lookN r i w
def nOf (Nn Nr:World→Prop) (L:List (Nat × (World→Prop))) (x:Exit) (w:World):Prop:=match x with
 | .normal=>Nn w | .ret=>Nr w | .exit i=>lookN L i w | _=>False
def hasRF:Code→Bool
 | .rangeFunc ..=>true
 | .seq a b=>hasRF a || hasRF b
 | .block _ a=>hasRF a
 | _=>false
variable (P ok n)
variable {P ok n}
end Go.K
namespace Go.K
open Go
variable {P:Program} {ok:Nat→Bool} {n:Nat}
def markK (m:Nat) (K:World→Prop) (w:World):Prop:=w.heap[m]?=some (.deferred (some []))∧K (w.putObj m (.deferred none))
end Go.K

namespace Go.K
open Go

def marksD (ms:List Nat):List Deferred:=ms.map fun m=>{ target:=.collected m,args:=#[] }
def hasRFa:Code→Bool
 | .rangeFunc ..=>true
 | .seq a b=>hasRFa a || hasRFa b
 | .cond _ a b=>hasRFa a || hasRFa b
 | .block _ a=>hasRFa a
 | .loop a=>hasRFa a
 | .scope a=>hasRFa a
 | _=>false
def LoopN (init:List Value) (ms:List Nat) (F:List Value→List Nat→(List Value→List Nat→World→Prop)→World→Prop) (w:World):Prop:=
 ∃ (I:List Value→List Nat→World→Prop) (μ:List Value→World→Nat),I init ms w∧∀ vs ms w,I vs ms w→F vs ms (fun vs' ms' w'=>I vs' ms' w'∧μ vs' w' < μ vs w) w
section
variable (P:Program) (ok:Nat→Bool) (n:Nat)
end
variable {P:Program} {ok:Nat→Bool} {n:Nat}
def marksK:List Nat→(World→Prop)→World→Prop
 | [],K,w=>K w
 | m :: ms,K,w=>w.heap[m]?=some (.deferred (some []))∧marksK ms K (w.putObj m (.deferred none))
end Go.K

set_option linter.unusedVariables false
namespace Go.K
open Go
structure Pr (T:Type) where
 fls:T
 andT:T→T→T
 allE:(Env→T)→T
 allC:(World→Prop)→(World→T)→T
 modA:(Nat→Nat→Prop)→Nat→World→World→T→T
 drw:World→World
 hsz:World→Nat
 un:Value
 c:{i1:Value}→Value
 ci:IntKind→Nat→Value
 cn:IntKind→Nat→Value
 arr:List Value→Array Value
 bnot:Bool→Bool
 nt:List Value→Nat→Value
 condK:Value→T→T→T
 pickK:Value→Value→Value→(Value→T)→T
 newK:TypeId→List Value→(Value→World→T)→World→T
 box1K:TypeId→Value→(Value→World→T)→World→T
 boxnK:TypeId→Value→(Value→World→T)→World→T
 ld1K:Value→(Value→World→T)→World→T
 ldnK:Nat→Value→(Value→World→T)→World→T
 st1K:Value→Value→(World→T)→World→T
 stnK:Nat→Value→Value→(World→T)→World→T
 nilckK:Value→(Value→T)→T
 addK:IntKind→Value→Value→(Value→T)→T
 subK:IntKind→Value→Value→(Value→T)→T
 mulK:IntKind→Value→Value→(Value→T)→T
 ltK:IntKind→Value→Value→(Value→T)→T
 leK:IntKind→Value→Value→(Value→T)→T
 gtK:IntKind→Value→Value→(Value→T)→T
 geK:IntKind→Value→Value→(Value→T)→T
 eqK:IntKind→Value→Value→(Value→T)→T
 neK:IntKind→Value→Value→(Value→T)→T
 maxK:IntKind→Value→Value→(Value→T)→T
 minK:IntKind→Value→Value→(Value→T)→T
 beqK:Value→Value→(Value→T)→T
 bneK:Value→Value→(Value→T)→T
 seqK:Value→Value→(Value→T)→T
 sneK:Value→Value→(Value→T)→T
 snilK:Value→(Bool→T)→T
 pnilK:Value→(Bool→T)→T
 notK:Value→(Value→T)→T
 faK:Nat→Value→(Value→T)→T
 ixK:Nat→Value→Value→(Value→T)→T
 buildK:List (Nat × Nat)→List Value→List (Nat × Value)→(Value→T)→T
 rowK:TypeId→Nat→Nat→List Value→List (Nat × Value)→(Value→World→T)→World→T
 extK:Nat→Value→(Value→T)→T
 lenK:Value→(Value→T)→T
 slenK:Value→(Value→T)→T
 callK:Nat→List Value→(Value→World→T)→World→T
 extcK:Nat→List Value→(Value→World→T)→World→T
 callvK:Value→List Value→(Value→World→T)→World→T
 callyK:Value→List Value→(Value→World→T)→World→T
 runK:Sem Value→(Value→World→T)→World→T
 prunK:Sem Value→(Value→T)→T
 sld1:(Addr→Value→Prop)→Value→(Value→T)→T
 sldn:(Addr→Value→Prop)→Nat→Value→(Value→T)→T
 qld1K:(World→Prop)→Value→(Value→T)→T
 qldnK:(World→Prop)→Nat→Value→(Value→T)→T
 qcallK:(World→Prop)→Nat→List Value→(Value→T)→T
 qextK:(World→Prop)→Nat→List Value→(Value→T)→T
 qrunK:(World→Prop)→Sem Value→(Value→T)→T
 DrawK:World→((World→Prop)→T)→T
 DrawC:List Nat→List (List Nat)→World→((Nat→Nat→Prop)→(Nat→Addr→Value→Prop)→T)→T
 LoopK:List Value→(List Value→(List Value→World→T)→World→T)→World→T
 JoinK:(List Value→World→T)→((List Value→World→T)→T)→T
 LoopN:List Value→List Nat→(List Value→List Nat→(List Value→List Nat→World→T)→World→T)→World→T
 RangeK:Value→Nat→(List Value→(((Exit→World→T)→World→T)→World→T)→World→T)→(Exit→World→T)→World→T
 nOf:(World→T)→(World→T)→List (Nat × (World→T))→Exit→World→T
 markK:Nat→(World→T)→World→T
 marksK:List Nat→(World→T)→World→T
 sbin:{i1:BinOp}→{i2:TypeId}→{i3 i4:Operand}→Value→Value→Sem Value
 sun:{i1:UnOp}→Value→Sem Value
 six:{i1:TypeId}→Value→Value→Sem Value
 sbuild:{i1:TypeId}→List (Nat × Value)→Sem Value
 sconv:{i1 i2:TypeId}→Value→Sem Value
 sslice:{i1:TypeId}→Value→Option Value→Option Value→Option Value→Sem Value
 sfield:{i1:TypeId}→{i2:Nat}→Value→Sem Value
 sindex:{i1:TypeId}→Value→Value→Sem Value
 smkmap:{i1:TypeId}→Option Value→Sem Value
 smksl:{i1:TypeId}→Value→Value→Sem Value
 smkif:{i1:TypeId}→Value→Sem Value
 slook:{i1:TypeId}→{i2:Bool}→Value→Value→Sem Value
 smapup:{i1:TypeId}→Value→Value→Value→Sem Value
 smapent:{i1:TypeId}→Value→Value→Sem Value
 sentst:{i1:TypeId}→Value→Value→Value→Sem Value
 srange:{i1:TypeId}→Value→Sem Value
 snext:{i1:Bool}→{i2:TypeId}→Value→Sem Value
 sentry:Value→Sem Value
 stass:{i1 i2:TypeId}→{i3:Bool}→Value→Sem Value
 slen:{i1:Array TypeId}→{i2:TypeId}→Value→Sem Value
 sappend:{i1:Array TypeId}→{i2:TypeId}→List Value→Sem Value
 scopy:{i1:Array TypeId}→{i2:TypeId}→List Value→Sem Value
 scap:{i1:Array TypeId}→{i2:TypeId}→List Value→Sem Value
 smax:{i1:Array TypeId}→{i2:TypeId}→List Value→Sem Value
 smin:{i1:Array TypeId}→{i2:TypeId}→List Value→Sem Value
 sclear:{i1:Array TypeId}→{i2:TypeId}→List Value→Sem Value
 sdelete:{i1:Array TypeId}→{i2:TypeId}→List Value→Sem Value
def plit (n:Nat):Int:=n
theorem plit_eq (n:Nat):plit (no_index (OfNat.ofNat n))=(OfNat.ofNat n:Int):=rfl
inductive Tg where
 | b (x:Bool)
 | v (x:Value)
abbrev TE:=Nat→Tg
abbrev KN:=List (Nat × Option Bool)
def Tg.val:Tg→Value | .b x=>.bool x | .v x=>x
section
variable {T:Type} (p:Pr T) (P:Program) (ok:Nat→Bool)
def pcv (v:Value):Tg:=match v with
 | .bool b=>.b b
 | .int k i=>match i with | .ofNat n=>.v (p.ci k n) | .negSucc n=>.v (p.cn k (n+1))
 | w=>.v (p.c (i1:=w))
def pev (e:TE) (x:Operand):Tg:=match x with
 | .tmp t=>e t
 | .const v=>pcv p v
 | .global g=>.v (.pointer (some ⟨g,0,none⟩))
 | .func g=>.v (.func (.func g) (p.arr []) (p.arr []))
def pup (e:TE) (d:Option Nat) (v:Tg):TE:=match d with | some i=>fun j=>bif Nat.beq j i then v else e j | none=>e
def pds:List Oper→Nat→Nat
 | o :: _,0=>match o.dst with | some d=>d | none=>0
 | _ :: r,j+1=>pds r j
 | [],_=>0
def pgt:List Oper→Nat→Option Oper
 | o :: _,0=>some o
 | _ :: r,j+1=>pgt r j
 | [],_=>none
def pzs (z:Value):List Value:=z.cells.toList.map fun v=>(pcv p v).val
def pbin (op:BinOp) (t:TypeId) (yo:Operand) (x y:Value) (K:Value→T) (F:T):T:=
 match P.underlying t with
 | some (.int k)=>match op with
  | .add=>p.addK k x y K | .sub=>p.subK k x y K | .mul=>p.mulK k x y K
  | .lss=>p.ltK k x y K | .leq=>p.leK k x y K | .gtr=>p.gtK k x y K | .geq=>p.geK k x y K
  | .eql=>p.eqK k x y K | .neq=>p.neK k x y K
  | _=>F
 | some .bool=>match op with
  | .eql=>p.beqK x y K | .neq=>p.bneK x y K
  | _=>F
 | some .string=>match op with
  | .eql=>p.seqK x y K | .neq=>p.sneK x y K
  | _=>F
 | some (.slice _)=>bif isNilS yo then match op with
   | .eql=>p.snilK x fun b=>K (.bool b)
   | .neq=>p.snilK x fun b=>K (.bool (p.bnot b))
   | _=>F
  else F
 | some (.pointer _)=>bif isNilP yo then match op with
   | .eql=>p.pnilK x fun b=>K (.bool b)
   | .neq=>p.pnilK x fun b=>K (.bool (p.bnot b))
   | _=>F
  else F
 | _=>F
def pop (dr:Bool) (o:Oper) (ρ:Operand→Tg) (K:Tg→World→T) (w:World):T:=
 match o.op with
 | .move x=>K (ρ x) w
 | .assign x=>K (ρ x) w
 | .pick c a b=>match ρ c with
  | .b true=>K (ρ a) w
  | .b false=>K (ρ b) w
  | .v x=>p.pickK x (ρ a).val (ρ b).val fun v=>K (.v v) w
 | .alloc t=>match zeroOf P t with | some z=>p.newK t (pzs p z) (fun v w=>K (.v v) w) w | none=>p.fls
 | .box t x=>match aggOf P t with | some (false,_)=>p.box1K t (ρ x).val (fun v w=>K (.v v) w) w | some (true,_)=>p.boxnK t (ρ x).val (fun v w=>K (.v v) w) w | none=>p.fls
 | .load t x=>match aggOf P t with | some (false,_)=>p.ld1K (ρ x).val (fun v w=>K (.v v) w) w | some (true,k)=>p.ldnK k (ρ x).val (fun v w=>K (.v v) w) w | none=>p.fls
 | .store t a x=>match aggOf P t with
  | some (false,_)=>p.st1K (ρ a).val (ρ x).val (fun w=>K (.v p.un) w) w
  | some (true,k)=>p.stnK k (ρ a).val (ρ x).val (fun w=>K (.v p.un) w) w
  | none=>p.fls
 | .nilCheck x=>p.nilckK (ρ x).val fun v=>K (.v v) w
 | .binOp op t x y _=>pbin p P op t y (ρ x).val (ρ y).val (fun v=>K (.v v) w) (p.runK (p.sbin (i1:=op) (i2:=t) (i3:=x) (i4:=y) (ρ x).val (ρ y).val) (fun v w=>K (.v v) w) w)
 | .unOp op _ x=>match op with
  | .not=>p.notK (ρ x).val fun v=>K (.v v) w
  | o=>p.runK (p.sun (i1:=o) (ρ x).val) (fun v w=>K (.v v) w) w
 | .fieldAddr s x f=>match P.underlying s with
  | some (.struct fs)=>match fs.toList[f]? with
   | some f=>p.faK f.offset (ρ x).val fun v=>K (.v v) w
   | none=>p.fls
  | _=>p.fls
 | .indexAddr t x i=>match P.underlying t with
  | some (.slice e)=>match P.info? e with | some f=>p.ixK f.size (ρ x).val (ρ i).val fun v=>K (.v v) w | none=>p.fls
  | _=>p.runK (p.six (i1:=t) (ρ x).val (ρ i).val) (fun v w=>K (.v v) w) w
 | .build t parts=>match P.underlying t with
  | some (.struct fs)=>match zeroOf P t with
   | some z=>match placesOf P fs.toList with
    | some l=>p.buildK l (pzs p z) (parts.toList.map fun q=>(q.1,(ρ q.2).val)) fun v=>K (.v v) w
    | none=>p.fls
   | none=>p.fls
  | _=>p.runK (p.sbuild (i1:=t) (parts.toList.map fun q=>(q.1,(ρ q.2).val))) (fun v w=>K (.v v) w) w
 | .buildSlice t len parts=>match P.underlying t with
  | some (.slice e)=>match P.info? e with
   | some i=>bif Nat.blt 0 (len * i.size) then
     match i.zero with | some z=>p.rowK e i.size len (pzs p z) (parts.toList.map fun q=>(q.1,(ρ q.2).val)) (fun v w=>K (.v v) w) w | none=>p.fls
    else p.rowK e i.size len [] (parts.toList.map fun q=>(q.1,(ρ q.2).val)) (fun v w=>K (.v v) w) w
   | none=>p.fls
  | _=>p.fls
 | .extract t i=>p.extK i (ρ t).val fun v=>K (.v v) w
 | .makeFunc fn fst cap=>K (.v (.func fn (p.arr (fst.toList.map fun x=>(ρ x).val)) (p.arr (cap.toList.map fun x=>(ρ x).val)))) w
 | .convert s d x=>p.runK (p.sconv (i1:=s) (i2:=d) (ρ x).val) (fun v w=>K (.v v) w) w
 | .slice t x lo hi mx=>p.runK (p.sslice (i1:=t) (ρ x).val (lo.map fun x=>(ρ x).val) (hi.map fun x=>(ρ x).val) (mx.map fun x=>(ρ x).val)) (fun v w=>K (.v v) w) w
 | .field t x f=>p.runK (p.sfield (i1:=t) (i2:=f) (ρ x).val) (fun v w=>K (.v v) w) w
 | .index t x i=>p.runK (p.sindex (i1:=t) (ρ x).val (ρ i).val) (fun v w=>K (.v v) w) w
 | .makeMap t r=>p.runK (p.smkmap (i1:=t) (r.map fun x=>(ρ x).val)) (fun v w=>K (.v v) w) w
 | .makeSlice t l c=>p.runK (p.smksl (i1:=t) (ρ l).val (ρ c).val) (fun v w=>K (.v v) w) w
 | .makeInterface t x=>p.runK (p.smkif (i1:=t) (ρ x).val) (fun v w=>K (.v v) w) w
 | .lookup t x i b=>p.runK (p.slook (i1:=t) (i2:=b) (ρ x).val (ρ i).val) (fun v w=>K (.v v) w) w
 | .mapUpdate t m k x=>p.runK (p.smapup (i1:=t) (ρ m).val (ρ k).val (ρ x).val) (fun v w=>K (.v v) w) w
 | .insert t m k x=>p.runK (p.smapup (i1:=t) (ρ m).val (ρ k).val (ρ x).val) (fun v w=>K (.v v) w) w
 | .mapEntry t m k=>p.runK (p.smapent (i1:=t) (ρ m).val (ρ k).val) (fun v w=>K (.v v) w) w
 | .entryStore t m s x=>p.runK (p.sentst (i1:=t) (ρ m).val (ρ s).val (ρ x).val) (fun v w=>K (.v v) w) w
 | .range t x=>p.runK (p.srange (i1:=t) (ρ x).val) (fun v w=>K (.v v) w) w
 | .next it s=>p.runK (p.snext (i1:=s) (i2:=o.type) (ρ it).val) (fun v w=>K (.v v) w) w
 | .entry it=>p.runK (p.sentry (ρ it).val) (fun v w=>K (.v v) w) w
 | .typeAssert x xt at_ b=>p.runK (p.stass (i1:=xt) (i2:=at_) (i3:=b) (ρ x).val) (fun v w=>K (.v v) w) w
 | .call c=>match c.callee with
  | .value f=>match f with
   | .func g=>bif ok g then p.callK g (c.args.toList.map fun x=>(ρ x).val) (fun v w=>K (.v v) w) w else p.extcK g (c.args.toList.map fun x=>(ρ x).val) (fun v w=>K (.v v) w) w
   | f=>bif dr then p.callvK (ρ f).val (c.args.toList.map fun x=>(ρ x).val) (fun v w=>K (.v v) w) w else p.callyK (ρ f).val (c.args.toList.map fun x=>(ρ x).val) (fun v w=>K (.v v) w) w
  | .builtin b=>match b with
   | .len=>match c.argTypes.toList,c.args.toList with
    | [t],[x]=>match P.underlying t with
     | some (.slice _)=>p.lenK (ρ x).val fun v=>K (.v v) w
     | some .string=>p.slenK (ρ x).val fun v=>K (.v v) w
     | _=>p.runK (p.slen (i1:=c.argTypes) (i2:=o.type) (ρ x).val) (fun v w=>K (.v v) w) w
    | _,_=>p.fls
   | .append=>p.runK (p.sappend (i1:=c.argTypes) (i2:=o.type) (c.args.toList.map fun x=>(ρ x).val)) (fun v w=>K (.v v) w) w
   | .copy=>p.runK (p.scopy (i1:=c.argTypes) (i2:=o.type) (c.args.toList.map fun x=>(ρ x).val)) (fun v w=>K (.v v) w) w
   | .cap=>p.runK (p.scap (i1:=c.argTypes) (i2:=o.type) (c.args.toList.map fun x=>(ρ x).val)) (fun v w=>K (.v v) w) w
   | .max=>match P.underlying o.type,c.args.toList with
    | some (.int k),[x,y]=>p.maxK k (ρ x).val (ρ y).val fun v=>K (.v v) w
    | _,_=>p.runK (p.smax (i1:=c.argTypes) (i2:=o.type) (c.args.toList.map fun x=>(ρ x).val)) (fun v w=>K (.v v) w) w
   | .min=>match P.underlying o.type,c.args.toList with
    | some (.int k),[x,y]=>p.minK k (ρ x).val (ρ y).val fun v=>K (.v v) w
    | _,_=>p.runK (p.smin (i1:=c.argTypes) (i2:=o.type) (c.args.toList.map fun x=>(ρ x).val)) (fun v w=>K (.v v) w) w
   | .clear=>p.runK (p.sclear (i1:=c.argTypes) (i2:=o.type) (c.args.toList.map fun x=>(ρ x).val)) (fun v w=>K (.v v) w) w
   | .delete=>p.runK (p.sdelete (i1:=c.argTypes) (i2:=o.type) (c.args.toList.map fun x=>(ρ x).val)) (fun v w=>K (.v v) w) w
   | _=>p.fls
  | _=>p.fls
 | _=>p.fls
def popQ (C:World→Prop) (o:Oper) (ρ:Operand→Tg) (K:Tg→World→T) (w:World):T:=
 match o.op with
 | .load t x=>match aggOf P t with | some (false,_)=>p.qld1K C (ρ x).val fun v=>K (.v v) w | some (true,k)=>p.qldnK C k (ρ x).val fun v=>K (.v v) w | none=>p.fls
 | .binOp op t x y _=>pbin p P op t y (ρ x).val (ρ y).val (fun v=>K (.v v) w) (p.qrunK C (p.sbin (i1:=op) (i2:=t) (i3:=x) (i4:=y) (ρ x).val (ρ y).val) (fun v=>K (.v v) w))
 | .convert s d x=>p.qrunK C (p.sconv (i1:=s) (i2:=d) (ρ x).val) (fun v=>K (.v v) w)
 | .slice t x lo hi mx=>p.qrunK C (p.sslice (i1:=t) (ρ x).val (lo.map fun x=>(ρ x).val) (hi.map fun x=>(ρ x).val) (mx.map fun x=>(ρ x).val)) (fun v=>K (.v v) w)
 | .call c=>match c.callee with
  | .value f=>match f with
   | .func g=>bif ok g then p.qcallK C g (c.args.toList.map fun x=>(ρ x).val) (fun v=>K (.v v) w) else p.qextK C g (c.args.toList.map fun x=>(ρ x).val) (fun v=>K (.v v) w)
   | _=>p.fls
  | _=>pop p P ok true o ρ K w
 | _=>pop p P ok true o ρ K w
def popC (eff:List Nat) (M:Nat→Nat→Prop) (St:Nat→Addr→Value→Prop) (i:Nat) (o:Oper) (ρ:Operand→Tg) (K:Tg→World→T) (w:World):T:=
 bif memB eff i then pop p P ok true o ρ (fun v w1=>p.modA M i w w1 (K v w1)) w
 else match o.op with
 | .load t x=>match aggOf P t with | some (false,_)=>p.sld1 (St i) (ρ x).val fun v=>K (.v v) w | some (true,k)=>p.sldn (St i) k (ρ x).val fun v=>K (.v v) w | none=>p.fls
 | .binOp op t x y _=>pbin p P op t y (ρ x).val (ρ y).val (fun v=>K (.v v) w) (p.prunK (p.sbin (i1:=op) (i2:=t) (i3:=x) (i4:=y) (ρ x).val (ρ y).val) (fun v=>K (.v v) w))
 | _=>pop p P ok true o ρ K w
def pgo (X:Oper→(Operand→Tg)→(Tg→World→T)→World→T) (all:List Oper) (K:TE→World→T):List Oper→Nat→KN→TE→World→T
 | [],_,_,e,w=>K e w
 | o :: r,i,kn,e,w=>match o.guard with
  | none=>X o (pev p e) (fun v w=>pgo X all K r (i+1) kn (pup e o.dst v) w) w
  | some (j,want)=>match lookK kn j with
   | some (some b)=>bif sameB b want then X o (pev p e) (fun v w=>pgo X all K r (i+1) kn (pup e o.dst v) w) w
     else pgo X all K r (i+1) ((i,none) :: kn) (pup e o.dst (.v p.un)) w
   | some none=>pgo X all K r (i+1) ((i,none) :: kn) (pup e o.dst (.v p.un)) w
   | none=>match e (pds all j) with
    | .b b=>bif sameB b want then X o (pev p e) (fun v w=>pgo X all K r (i+1) ((j,some b) :: kn) (pup e o.dst v) w) w
      else pgo X all K r (i+1) ((i,none) :: (j,some b) :: kn) (pup e o.dst (.v p.un)) w
    | .v v=>p.condK v
      (bif want then X o (pev p (pup e (some (pds all j)) (.b true))) (fun v w=>pgo X all K r (i+1) ((j,some true) :: kn) (pup (pup e (some (pds all j)) (.b true)) o.dst v) w) w
       else pgo X all K r (i+1) ((i,none) :: (j,some true) :: kn) (pup (pup e (some (pds all j)) (.b true)) o.dst (.v p.un)) w)
      (bif want then pgo X all K r (i+1) ((i,none) :: (j,some false) :: kn) (pup (pup e (some (pds all j)) (.b false)) o.dst (.v p.un)) w
       else X o (pev p (pup e (some (pds all j)) (.b false))) (fun v w=>pgo X all K r (i+1) ((j,some false) :: kn) (pup (pup e (some (pds all j)) (.b false)) o.dst v) w) w)
def pch (X:Nat→Oper→(Operand→Tg)→(Tg→World→T)→World→T) (all:List Oper) (K:TE→World→T):Ord→KN→TE→World→T
 | .nil,_,e,w=>K e w
 | .br a b,kn,e,w=>p.andT (pch X all K a kn e w) (pch X all K b kn e w)
 | .op i r,kn,e,w=>match pgt all i with
  | none=>p.fls
  | some o=>match o.guard with
  | none=>X i o (pev p e) (fun v w=>pch X all K r kn (pup e o.dst v) w) w
  | some (j,want)=>match lookK kn j with
   | some (some b)=>bif sameB b want then X i o (pev p e) (fun v w=>pch X all K r kn (pup e o.dst v) w) w
     else pch X all K r ((i,none) :: kn) (pup e o.dst (.v p.un)) w
   | some none=>pch X all K r ((i,none) :: kn) (pup e o.dst (.v p.un)) w
   | none=>match e (pds all j) with
    | .b b=>bif sameB b want then X i o (pev p e) (fun v w=>pch X all K r ((j,some b) :: kn) (pup e o.dst v) w) w
      else pch X all K r ((i,none) :: (j,some b) :: kn) (pup e o.dst (.v p.un)) w
    | .v v=>p.condK v
      (bif want then X i o (pev p (pup e (some (pds all j)) (.b true))) (fun v w=>pch X all K r ((j,some true) :: kn) (pup (pup e (some (pds all j)) (.b true)) o.dst v) w) w
       else pch X all K r ((i,none) :: (j,some true) :: kn) (pup (pup e (some (pds all j)) (.b true)) o.dst (.v p.un)) w)
      (bif want then pch X all K r ((i,none) :: (j,some false) :: kn) (pup (pup e (some (pds all j)) (.b false)) o.dst (.v p.un)) w
       else X i o (pev p (pup e (some (pds all j)) (.b false))) (fun v w=>pch X all K r ((j,some false) :: kn) (pup (pup e (some (pds all j)) (.b false)) o.dst v) w) w)
def plk:List Nat→Nat→List Value→Nat→Tg→Tg
 | [],_,_,_,d=>d
 | l :: L,k,vs,j,d=>bif Nat.beq l j then .v (p.nt vs k) else plk L (k+1) vs j d
def pmx (L:List Nat) (W:List (Nat × Nat)) (vs:List Value) (h:Env) (e:TE):TE:=fun j=>plk p L 0 vs j (bif inR W j then .v (h j) else e j)
abbrev PQ (T:Type):=Exit→TE→World→T
def pnE (N:TE→World→T) (Q:PQ T):PQ T:=fun ex e w=>match ex with | .normal=>N e w | x=>Q x e w
def pbE (id:Nat) (Q:PQ T):PQ T:=fun ex e w=>match ex with | .exit i=>bif Nat.beq i id then Q .normal e w else Q (.exit i) e w | x=>Q x e w
def pD:Code→Ann→PQ T→TE→World→T
 | .skip,_,Q,e,w=>Q .normal e w
 | .region _ ops draw,an,Q,e,w=>match draw with
  | false=>pgo p (fun o=>pop p P ok false o) ops.toList (fun e w=>Q .normal e w) ops.toList 0 [] e w
  | true=>match an with
   | .draw=>p.DrawK w fun C=>pgo p (fun o=>popQ p P ok C o) ops.toList (fun e _=>p.allC C fun w=>Q .normal e w) ops.toList 0 [] e w
   | .dt eff AN _ t=>p.DrawC eff AN (p.drw w) fun M St=>pch p (fun i o=>popC p P ok eff M St i o) ops.toList (fun e w=>Q .normal e w) t [] e (p.drw w)
   | _=>p.fls
 | .seq x y,an,Q,e,w=>match an with
  | .node _ _ a b=>pD x a (pnE (fun e w=>pD y b Q e w) Q) e w
  | .cut L W a b=>p.JoinK (fun vs w=>p.allE fun h=>pD y b Q (pmx p L W vs h e) w) (fun J=>pD x a (pnE (fun e w=>J (L.map fun j=>(e j).val) w) Q) e w)
  | _=>p.fls
 | .cond c x y,an,Q,e,w=>match an with
  | .node _ _ a b=>match pev p e c with
   | .b true=>pD x a Q e w
   | .b false=>pD y b Q e w
   | .v v=>p.condK v (pD x a Q e w) (pD y b Q e w)
  | _=>p.fls
 | .block id x,an,Q,e,w=>pD x an (pbE id Q) e w
 | .loop x,an,Q,e,w=>match an with
  | .node L W a _=>p.LoopK (L.map fun j=>(e j).val) (fun vs again w=>p.allE fun h=>pD x a (pnE (fun e w=>again (L.map fun j=>(e j).val) w) Q) (pmx p L W vs h e) w) w
  | _=>p.fls
 | .exit id,_,Q,e,w=>Q (.exit id) e w
 | .ret,_,Q,e,w=>Q .ret e w
 | .label _,_,Q,e,w=>Q .normal e w
 | .scope x,an,Q,e,w=>pD x an Q e w
 | _,_,_,_,_=>p.fls
def puL:TE→Nat→List Nat→List Value→TE
 | e,_,[],_=>e
 | e,k,j :: r,vs=>puL (pup e (some j) (.v (p.nt vs k))) (k+1) r vs
def pRF (rd:Nat→PQ T) (g:Operand) (ps:List Nat) (x y:Code) (L:List Nat) (ax ay:Ann) (e:TE) (w:World):T:=
 p.RangeK (pev p e g).val ps.length (fun args beg w=>pD p P ok x ax (pnE (fun e w=>beg (fun post w=>pD p P ok y ay (fun ex _ w=>post ex w) e w) w) (fun _ _ _=>p.fls)) (puL p e 0 ps args) w)
  (p.nOf (fun w1=>rd (p.hsz w) .normal e w1) (fun w1=>rd (p.hsz w) .ret e w1) (L.map fun i=>(i,fun w1=>rd (p.hsz w) (.exit i) e w1))) w
def pDM:Code→Ann→(Nat→PQ T)→PQ T→TE→World→T
 | .seq x y,an,Q,Q0,e,w=>match an with
  | .node _ _ a b=>bif hasRF x then pDM x a (fun m=>pnE (fun e w=>pD p P ok y b (Q m) e w) (Q m)) Q0 e w
    else pD p P ok x a (pnE (fun e w=>pDM y b Q Q0 e w) Q0) e w
  | _=>p.fls
 | .block id x,an,Q,Q0,e,w=>pDM x an (fun m=>pbE id (Q m)) (fun ex e w=>match ex with | .exit i=>bif Nat.beq i id then p.fls else Q0 (.exit i) e w | x=>Q0 x e w) e w
 | .rangeFunc g ps x y,an,Q,_,e,w=>match an with
  | .node L _ ax ay=>pRF p P ok Q g ps.toList x y L ax ay e w
  | _=>p.fls
 | _,_,_,_,_,_=>p.fls
def pDN:Code→Ann→(List Nat→PQ T)→List Nat→TE→World→T
 | .seq x y,an,Q,ms,e,w=>bif hasRFa x || hasRFa y then (match an with
   | .node _ _ a b=>pDN x a (fun ms=>pnE (fun e w=>pDN y b Q ms e w) (Q ms)) ms e w
   | .cut L W a b=>p.JoinK (fun vs w=>p.allE fun h=>pDN y b Q ms (pmx p L W vs h e) w) (fun J=>pD p P ok x a (pnE (fun e w=>J (L.map fun j=>(e j).val) w) (Q ms)) e w)
   | _=>p.fls) else pD p P ok (.seq x y) an (Q ms) e w
 | .cond c x y,an,Q,ms,e,w=>bif hasRFa x || hasRFa y then (match an with
   | .node _ _ a b=>match pev p e c with
    | .b true=>pDN x a Q ms e w
    | .b false=>pDN y b Q ms e w
    | .v v=>p.condK v (pDN x a Q ms e w) (pDN y b Q ms e w)
   | _=>p.fls) else pD p P ok (.cond c x y) an (Q ms) e w
 | .block id x,an,Q,ms,e,w=>bif hasRFa x then pDN x an (fun ms=>pbE id (Q ms)) ms e w else pD p P ok (.block id x) an (Q ms) e w
 | .loop x,an,Q,ms,e,w=>bif hasRFa x then (match an with
   | .node L W a _=>p.LoopN (L.map fun j=>(e j).val) ms (fun vs ms again w=>p.allE fun h=>pDN x a (fun ms=>pnE (fun e w=>again (L.map fun j=>(e j).val) ms w) (Q ms)) ms (pmx p L W vs h e) w) w
   | _=>p.fls) else pD p P ok (.loop x) an (Q ms) e w
 | .rangeFunc g ps x y,an,Q,ms,e,w=>match an with
  | .node L _ ax ay=>pRF p P ok (fun m=>Q (m :: ms)) g ps.toList x y L ax ay e w
  | _=>p.fls
 | c,an,Q,ms,e,w=>pD p P ok c an (Q ms) e w
def prs (rs:List ResultVar) (e:TE) (w:World) (K:List Value→World→T):T:=match rs with
 | []=>K [] w
 | .tmp t :: r=>prs r e w fun vs w=>K ((e t).val :: vs) w
 | .cell a t :: r=>match aggOf P t with
  | some (false,_)=>p.ld1K (e a).val (fun v w=>prs r e w fun vs w=>K (v :: vs) w) w
  | some (true,k)=>p.ldnK k (e a).val (fun v w=>prs r e w fun vs w=>K (v :: vs) w) w
  | none=>p.fls
def ptu:List Value→Value
 | [v]=>v
 | vs=>.tuple (p.arr vs)
def prt (rs:List ResultVar) (K:Value→World→T):PQ T:=fun ex e w=>match ex with
 | .normal=>prs p P rs e w fun vs w=>K (ptu p vs) w
 | .ret=>prs p P rs e w fun vs w=>K (ptu p vs) w
 | _=>p.fls
def pin:List Value→Nat→Tg
 | [],_=>.v p.un
 | v :: _,0=>.v v
 | _ :: r,j+1=>pin r j
def pF (f:Func) (an:Ann) (args:List Value) (K:Value→World→T) (w:World):T:=
 pD p P ok (bodyOf f) an (prt p P f.results.toList K) (pin p args) w
def pFM (f:Func) (an:Ann) (args:List Value) (K:Value→World→T) (w:World):T:=
 pDM p P ok (bodyOf f) an (fun m ex e w=>match ex with | .normal=>p.markK m (fun w=>prt p P f.results.toList K .normal e w) w | .ret=>p.markK m (fun w=>prt p P f.results.toList K .ret e w) w | _=>p.fls) (prt p P f.results.toList K) (pin p args) w
def pFN (f:Func) (an:Ann) (args:List Value) (K:Value→World→T) (w:World):T:=
 pDN p P ok (bodyOf f) an (fun ms ex e w=>match ex with | .normal=>p.marksK ms (fun w=>prt p P f.results.toList K .normal e w) w | .ret=>p.marksK ms (fun w=>prt p P f.results.toList K .ret e w) w | _=>p.fls) [] (pin p args) w
end
abbrev PB:=(T:Type)→(Value→World→T)→(T)→(T→T→T)→((Env→T)→T)→((World→Prop)→(World→T)→T)→((Nat→Nat→Prop)→Nat→World→World→T→T)→(World→World)→(World→Nat)→(Value)→({i1:Value}→Value)→(IntKind→Nat→Value)→(IntKind→Nat→Value)→(List Value→Array Value)→(Bool→Bool)→(List Value→Nat→Value)→(Value→T→T→T)→(Value→Value→Value→(Value→T)→T)→(TypeId→List Value→(Value→World→T)→World→T)→(TypeId→Value→(Value→World→T)→World→T)→(TypeId→Value→(Value→World→T)→World→T)→(Value→(Value→World→T)→World→T)→(Nat→Value→(Value→World→T)→World→T)→(Value→Value→(World→T)→World→T)→(Nat→Value→Value→(World→T)→World→T)→(Value→(Value→T)→T)→(IntKind→Value→Value→(Value→T)→T)→(IntKind→Value→Value→(Value→T)→T)→(IntKind→Value→Value→(Value→T)→T)→(IntKind→Value→Value→(Value→T)→T)→(IntKind→Value→Value→(Value→T)→T)→(IntKind→Value→Value→(Value→T)→T)→(IntKind→Value→Value→(Value→T)→T)→(IntKind→Value→Value→(Value→T)→T)→(IntKind→Value→Value→(Value→T)→T)→(IntKind→Value→Value→(Value→T)→T)→(IntKind→Value→Value→(Value→T)→T)→(Value→Value→(Value→T)→T)→(Value→Value→(Value→T)→T)→(Value→Value→(Value→T)→T)→(Value→Value→(Value→T)→T)→(Value→(Bool→T)→T)→(Value→(Bool→T)→T)→(Value→(Value→T)→T)→(Nat→Value→(Value→T)→T)→(Nat→Value→Value→(Value→T)→T)→(List (Nat × Nat)→List Value→List (Nat × Value)→(Value→T)→T)→(TypeId→Nat→Nat→List Value→List (Nat × Value)→(Value→World→T)→World→T)→(Nat→Value→(Value→T)→T)→(Value→(Value→T)→T)→(Value→(Value→T)→T)→(Nat→List Value→(Value→World→T)→World→T)→(Nat→List Value→(Value→World→T)→World→T)→(Value→List Value→(Value→World→T)→World→T)→(Value→List Value→(Value→World→T)→World→T)→(Sem Value→(Value→World→T)→World→T)→(Sem Value→(Value→T)→T)→((Addr→Value→Prop)→Value→(Value→T)→T)→((Addr→Value→Prop)→Nat→Value→(Value→T)→T)→((World→Prop)→Value→(Value→T)→T)→((World→Prop)→Nat→Value→(Value→T)→T)→((World→Prop)→Nat→List Value→(Value→T)→T)→((World→Prop)→Nat→List Value→(Value→T)→T)→((World→Prop)→Sem Value→(Value→T)→T)→(World→((World→Prop)→T)→T)→(List Nat→List (List Nat)→World→((Nat→Nat→Prop)→(Nat→Addr→Value→Prop)→T)→T)→(List Value→(List Value→(List Value→World→T)→World→T)→World→T)→((List Value→World→T)→((List Value→World→T)→T)→T)→(List Value→List Nat→(List Value→List Nat→(List Value→List Nat→World→T)→World→T)→World→T)→(Value→Nat→(List Value→(((Exit→World→T)→World→T)→World→T)→World→T)→(Exit→World→T)→World→T)→((World→T)→(World→T)→List (Nat × (World→T))→Exit→World→T)→(Nat→(World→T)→World→T)→(List Nat→(World→T)→World→T)→({i1:BinOp}→{i2:TypeId}→{i3 i4:Operand}→Value→Value→Sem Value)→({i1:UnOp}→Value→Sem Value)→({i1:TypeId}→Value→Value→Sem Value)→({i1:TypeId}→List (Nat × Value)→Sem Value)→({i1 i2:TypeId}→Value→Sem Value)→({i1:TypeId}→Value→Option Value→Option Value→Option Value→Sem Value)→({i1:TypeId}→{i2:Nat}→Value→Sem Value)→({i1:TypeId}→Value→Value→Sem Value)→({i1:TypeId}→Option Value→Sem Value)→({i1:TypeId}→Value→Value→Sem Value)→({i1:TypeId}→Value→Sem Value)→({i1:TypeId}→{i2:Bool}→Value→Value→Sem Value)→({i1:TypeId}→Value→Value→Value→Sem Value)→({i1:TypeId}→Value→Value→Sem Value)→({i1:TypeId}→Value→Value→Value→Sem Value)→({i1:TypeId}→Value→Sem Value)→({i1:Bool}→{i2:TypeId}→Value→Sem Value)→(Value→Sem Value)→({i1 i2:TypeId}→{i3:Bool}→Value→Sem Value)→({i1:Array TypeId}→{i2:TypeId}→Value→Sem Value)→({i1:Array TypeId}→{i2:TypeId}→List Value→Sem Value)→({i1:Array TypeId}→{i2:TypeId}→List Value→Sem Value)→({i1:Array TypeId}→{i2:TypeId}→List Value→Sem Value)→({i1:Array TypeId}→{i2:TypeId}→List Value→Sem Value)→({i1:Array TypeId}→{i2:TypeId}→List Value→Sem Value)→({i1:Array TypeId}→{i2:TypeId}→List Value→Sem Value)→({i1:Array TypeId}→{i2:TypeId}→List Value→Sem Value)→T
abbrev PE (F:(T:Type)→Pr T→(Value→World→T)→T) (B:PB):Prop:=∀ (T:Type) (K:Value→World→T) (x0:T) (x1:T→T→T) (x2:(Env→T)→T) (x3:(World→Prop)→(World→T)→T) (x4:(Nat→Nat→Prop)→Nat→World→World→T→T) (x5:World→World) (x6:World→Nat) (x7:Value) (x8:{i1:Value}→Value) (x9:IntKind→Nat→Value) (x10:IntKind→Nat→Value) (x11:List Value→Array Value) (x12:Bool→Bool) (x13:List Value→Nat→Value) (x14:Value→T→T→T) (x15:Value→Value→Value→(Value→T)→T) (x16:TypeId→List Value→(Value→World→T)→World→T) (x17:TypeId→Value→(Value→World→T)→World→T) (x18:TypeId→Value→(Value→World→T)→World→T) (x19:Value→(Value→World→T)→World→T) (x20:Nat→Value→(Value→World→T)→World→T) (x21:Value→Value→(World→T)→World→T) (x22:Nat→Value→Value→(World→T)→World→T) (x23:Value→(Value→T)→T) (x24:IntKind→Value→Value→(Value→T)→T) (x25:IntKind→Value→Value→(Value→T)→T) (x26:IntKind→Value→Value→(Value→T)→T) (x27:IntKind→Value→Value→(Value→T)→T) (x28:IntKind→Value→Value→(Value→T)→T) (x29:IntKind→Value→Value→(Value→T)→T) (x30:IntKind→Value→Value→(Value→T)→T) (x31:IntKind→Value→Value→(Value→T)→T) (x32:IntKind→Value→Value→(Value→T)→T) (x33:IntKind→Value→Value→(Value→T)→T) (x34:IntKind→Value→Value→(Value→T)→T) (x35:Value→Value→(Value→T)→T) (x36:Value→Value→(Value→T)→T) (x37:Value→Value→(Value→T)→T) (x38:Value→Value→(Value→T)→T) (x39:Value→(Bool→T)→T) (x40:Value→(Bool→T)→T) (x41:Value→(Value→T)→T) (x42:Nat→Value→(Value→T)→T) (x43:Nat→Value→Value→(Value→T)→T) (x44:List (Nat × Nat)→List Value→List (Nat × Value)→(Value→T)→T) (x45:TypeId→Nat→Nat→List Value→List (Nat × Value)→(Value→World→T)→World→T) (x46:Nat→Value→(Value→T)→T) (x47:Value→(Value→T)→T) (x48:Value→(Value→T)→T) (x49:Nat→List Value→(Value→World→T)→World→T) (x50:Nat→List Value→(Value→World→T)→World→T) (x51:Value→List Value→(Value→World→T)→World→T) (x52:Value→List Value→(Value→World→T)→World→T) (x53:Sem Value→(Value→World→T)→World→T) (x54:Sem Value→(Value→T)→T) (x55:(Addr→Value→Prop)→Value→(Value→T)→T) (x56:(Addr→Value→Prop)→Nat→Value→(Value→T)→T) (x57:(World→Prop)→Value→(Value→T)→T) (x58:(World→Prop)→Nat→Value→(Value→T)→T) (x59:(World→Prop)→Nat→List Value→(Value→T)→T) (x60:(World→Prop)→Nat→List Value→(Value→T)→T) (x61:(World→Prop)→Sem Value→(Value→T)→T) (x62:World→((World→Prop)→T)→T) (x63:List Nat→List (List Nat)→World→((Nat→Nat→Prop)→(Nat→Addr→Value→Prop)→T)→T) (x64:List Value→(List Value→(List Value→World→T)→World→T)→World→T) (x65:(List Value→World→T)→((List Value→World→T)→T)→T) (x66:List Value→List Nat→(List Value→List Nat→(List Value→List Nat→World→T)→World→T)→World→T) (x67:Value→Nat→(List Value→(((Exit→World→T)→World→T)→World→T)→World→T)→(Exit→World→T)→World→T) (x68:(World→T)→(World→T)→List (Nat × (World→T))→Exit→World→T) (x69:Nat→(World→T)→World→T) (x70:List Nat→(World→T)→World→T) (x71:{i1:BinOp}→{i2:TypeId}→{i3 i4:Operand}→Value→Value→Sem Value) (x72:{i1:UnOp}→Value→Sem Value) (x73:{i1:TypeId}→Value→Value→Sem Value) (x74:{i1:TypeId}→List (Nat × Value)→Sem Value) (x75:{i1 i2:TypeId}→Value→Sem Value) (x76:{i1:TypeId}→Value→Option Value→Option Value→Option Value→Sem Value) (x77:{i1:TypeId}→{i2:Nat}→Value→Sem Value) (x78:{i1:TypeId}→Value→Value→Sem Value) (x79:{i1:TypeId}→Option Value→Sem Value) (x80:{i1:TypeId}→Value→Value→Sem Value) (x81:{i1:TypeId}→Value→Sem Value) (x82:{i1:TypeId}→{i2:Bool}→Value→Value→Sem Value) (x83:{i1:TypeId}→Value→Value→Value→Sem Value) (x84:{i1:TypeId}→Value→Value→Sem Value) (x85:{i1:TypeId}→Value→Value→Value→Sem Value) (x86:{i1:TypeId}→Value→Sem Value) (x87:{i1:Bool}→{i2:TypeId}→Value→Sem Value) (x88:Value→Sem Value) (x89:{i1 i2:TypeId}→{i3:Bool}→Value→Sem Value) (x90:{i1:Array TypeId}→{i2:TypeId}→Value→Sem Value) (x91:{i1:Array TypeId}→{i2:TypeId}→List Value→Sem Value) (x92:{i1:Array TypeId}→{i2:TypeId}→List Value→Sem Value) (x93:{i1:Array TypeId}→{i2:TypeId}→List Value→Sem Value) (x94:{i1:Array TypeId}→{i2:TypeId}→List Value→Sem Value) (x95:{i1:Array TypeId}→{i2:TypeId}→List Value→Sem Value) (x96:{i1:Array TypeId}→{i2:TypeId}→List Value→Sem Value) (x97:{i1:Array TypeId}→{i2:TypeId}→List Value→Sem Value),F T (Pr.mk x0 x1 x2 x3 x4 x5 x6 x7 @x8 x9 x10 x11 x12 x13 x14 x15 x16 x17 x18 x19 x20 x21 x22 x23 x24 x25 x26 x27 x28 x29 x30 x31 x32 x33 x34 x35 x36 x37 x38 x39 x40 x41 x42 x43 x44 x45 x46 x47 x48 x49 x50 x51 x52 x53 x54 x55 x56 x57 x58 x59 x60 x61 x62 x63 x64 x65 x66 x67 x68 x69 x70 @x71 @x72 @x73 @x74 @x75 @x76 @x77 @x78 @x79 @x80 @x81 @x82 @x83 @x84 @x85 @x86 @x87 x88 @x89 @x90 @x91 @x92 @x93 @x94 @x95 @x96 @x97) K=B T K x0 x1 x2 x3 x4 x5 x6 x7 @x8 x9 x10 x11 x12 x13 x14 x15 x16 x17 x18 x19 x20 x21 x22 x23 x24 x25 x26 x27 x28 x29 x30 x31 x32 x33 x34 x35 x36 x37 x38 x39 x40 x41 x42 x43 x44 x45 x46 x47 x48 x49 x50 x51 x52 x53 x54 x55 x56 x57 x58 x59 x60 x61 x62 x63 x64 x65 x66 x67 x68 x69 x70 @x71 @x72 @x73 @x74 @x75 @x76 @x77 @x78 @x79 @x80 @x81 @x82 @x83 @x84 @x85 @x86 @x87 x88 @x89 @x90 @x91 @x92 @x93 @x94 @x95 @x96 @x97
abbrev PI (P:Program) (ok:Nat→Bool) (K:Cont) (B:PB):Prop:=B Prop K False And (fun F=>∀ h:Env,F h) (fun C F=>∀ w:World,C w→F w) (fun M i w w1 A=>Mod (M i) w w1∧A) World.drew (fun w=>w.heap.size) undef (fun {v}=>v) (fun k n=>Value.int k (plit n)) (fun k n=>Value.int k (-plit n)) List.toArray not nth condK pickK newK box1K boxnK ld1K ldnK st1K stnK nilckK addK subK mulK ltK leK gtK geK eqK neK maxK minK beqK bneK seqK sneK snilK pnilK notK faK ixK buildK rowK extK lenK slenK (callK P) (extcK P) (callvK P ok) (callyK P ok) (runK P) (prunK P) sld1 sldn qld1K qldnK (qcallK P) (qextK P) (qrunK P) DrawK DrawC LoopK JoinK LoopN (RangeK P ok) nOf markK marksK (fun {o t x y} a b=>binS o t x y a b) (fun {o} a=>Op.unary o a) (fun {t} a b=>Instr.indexAt t a b) (fun {t} l=>Instr.build t l.toArray) (fun {s d} a=>convert s d a) (fun {t} a b c d=>Instr.sliceAt t a b c d) (fun {t f} a=>Instr.field t a f) (fun {t} a b=>Instr.index t a b) (fun {t} a=>Instr.makeMap t a) (fun {t} a b=>Instr.makeSlice t a b) (fun {t} a=>Instr.makeInterface t a) (fun {t b} x i=>Instr.lookup t x i b) (fun {t} m k x=>do Instr.mapUpdate t m k x;pure undef) (fun {t} m k=>Instr.mapEntry t m k) (fun {t} m s x=>do Instr.entryStore t m s x;pure undef) (fun {t} x=>Instr.range t x) (fun {s t} x=>Instr.next x s t) Instr.entry (fun {xt t b} x=>Instr.typeAssert x xt t b) (fun {a t} x=>Builtin.len_ a t #[x]) (fun {a t} l=>Builtin.append_ a t l.toArray) (fun {a t} l=>Builtin.copy_ a t l.toArray) (fun {a t} l=>Builtin.cap_ a t l.toArray) (fun {a t} l=>Builtin.max_ a t l.toArray) (fun {a t} l=>Builtin.min_ a t l.toArray) (fun {a t} l=>Builtin.clear_ a t l.toArray) (fun {a t} l=>Builtin.delete_ a t l.toArray)
abbrev PG (P:Program) (ok:Nat→Bool) (f:Func) (an:Ann) (l:List Value) (w:World):(T:Type)→Pr T→(Value→World→T)→T:=fun _ p K=>pF p P ok f an l K w
abbrev PGM (P:Program) (ok:Nat→Bool) (f:Func) (an:Ann) (l:List Value) (w:World):(T:Type)→Pr T→(Value→World→T)→T:=fun _ p K=>pFM p P ok f an l K w
abbrev PGN (P:Program) (ok:Nat→Bool) (f:Func) (an:Ann) (l:List Value) (w:World):(T:Type)→Pr T→(Value→World→T)→T:=fun _ p K=>pFN p P ok f an l K w
abbrev PX (P:Program) (ok:Nat→Bool) (K:Cont) (F:(T:Type)→Pr T→(Value→World→T)→T) (B:PB) (R:Prop):Prop:=PE F B∧PI P ok K B=R
section
variable {P:Program} {ok:Nat→Bool} {g:Nat} {fn:Func} {l:List Value} {K:Cont} {w:World} {S:Prop}
theorem bod (h:(fn.body.isSome && Nat.ble l.length fn.ntmps)=true):fn.body=some (bodyOf fn)∧Nat.ble l.length fn.ntmps=true:=by
 simp only [Bool.and_eq_true] at h
 refine ⟨?_,h.2⟩
 unfold bodyOf
 cases hb:fn.body with
 | none=>rw [hb] at h;exact absurd h.1 (by decide)
 | some c=>rfl
theorem okS (an:Ann) (hok:GoodFns P ok) (hm:P.follows .mixedOrders=true) (hf:P.funcs[g]?=some fn) (hc:(fn.body.isSome && Nat.ble l.length fn.ntmps)=true) (h:S) (e:S=D P ok fn.ntmps (bodyOf fn) an (retK P fn.results.toList K) (nth l) w):callK P g l K w:=
 callK_of (n:=fn.ntmps) hok hm hf (bod hc).1 rfl rfl (bod hc).2 (Eq.mp e h)
end
end Go.K

namespace Go.Proofs.YtaimlfomodfekaaGreatDoor
open Go Go.K
set_option maxRecDepth 100000
def An63:Ann:=(.node [] [] .nil (.node [] [] (.node [] [] .nil (.node [] [] (.node [] [] .nil .nil) .nil)) (.node [] [] (.node [] [] .nil (.node [5] [(4,5),(11,25)] (.node [] [] (.node [] [] .nil (.node [] [] .nil .nil)) (.node [] [] (.node [] [] .draw (.node [] [] (.node [] [] .nil .nil) .nil)) .nil)) .nil)) (.node [] [] .nil .nil))))
def S63 (v0 v1:Value) (K:Cont) (w:World):Prop:=by
 refine' (?f:∀ B R,PX Tryz.prog okf K (PG Tryz.prog okf Tryz.f63 An63 [v0,v1] w) B R→Prop) _ _ ⟨?a,?b⟩
 case a=>intro _;intros;conv=>lhs;reduce
 case b=>dsimp only [PI,plit_eq];rfl
 exact fun _ R _=>R
theorem S63_ok {v0 v1:Value} {K:Cont} {w:World} (h:S63 v0 v1 K w):callK Tryz.prog 63 [v0,v1] K w:=okS An63 good mixed Tryz.func63 (by kernel_rfl) h (by kernel_rfl)

def An82:Ann:=(.node [] [] .nil (.node [] [] (.node [] [] .nil (.node [] [] (.node [] [] .nil .nil) .nil)) (.node [] [] (.node [] [] .nil (.node [13] [(4,5),(13,25)] (.node [] [] .nil (.node [] [] (.node [] [] .nil .nil) (.node [] [] (.node [] [] .nil (.node [] [] .draw (.node [] [] (.node [] [] .nil .nil) .nil))) .nil))) .nil)) (.node [] [] .nil .nil))))
def S82 (v0 v1:Value) (K:Cont) (w:World):Prop:=by
 refine' (?f:∀ B R,PX Tryz.prog okf K (PG Tryz.prog okf Tryz.f82 An82 [v0,v1] w) B R→Prop) _ _ ⟨?a,?b⟩
 case a=>intro _;intros;conv=>lhs;reduce
 case b=>dsimp only [PI,plit_eq];rfl
 exact fun _ R _=>R
theorem S82_ok {v0 v1:Value} {K:Cont} {w:World} (h:S82 v0 v1 K w):callK Tryz.prog 82 [v0,v1] K w:=okS An82 good mixed Tryz.func82 (by kernel_rfl) h (by kernel_rfl)

end Go.Proofs.YtaimlfomodfekaaGreatDoor

namespace Go.Proofs.YtaimlfomodfekaaGreatDoor
open Go Go.K

theorem eq_set {S S':Nat→Prop} {a b:Value} {l m:List Attr} {w:World} (ha:RSet S w a l) (hb:RSet S' w b m) :
  callK Tryz.prog 82 [a,b] (fun v w'=>v=.bool (decide (l=m))∧Grow w w') w:=by
 apply S82_ok
 unfold S82
 obtain ⟨pa,ca,rfl,hla⟩:=ha.shape
 obtain ⟨pb,cb,rfl,hlb⟩:=hb.shape
 simp only [KS]
 simp only [maxLen] at hla hlb
 by_cases hlen:l.length=m.length
 ·rw [if_neg (show ¬ ¬ (l.length:Int)=m.length by omega)]
  refine ⟨fun vs w'=>∃ k:Nat,k≤l.length∧vs=[.int .i64 k]∧Grow w w'∧l.take k=m.take k,fun vs _=>l.length - iOf vs 0,⟨0,Nat.zero_le _,rfl,Mod.refl _ _,rfl⟩,?_⟩
  rintro vs w1 ⟨k,hk,rfl,hg,ht⟩ h
  simp only [KS]
  by_cases hlt:k < l.length
  ·rw [if_pos (show (k:Int) < l.length by omega)]
   refine ⟨fun w2=>Grow w1 w2,Mod.drew _ _,?_⟩
   obtain ⟨p,r,rfl,_,hr,hc,hx⟩:=ha.get hlt
   obtain ⟨q,r',rfl,_,hr',hc',hx'⟩:=hb.get (show k < m.length by omega)
   refine ixK_n hlt (qldnK_i hr (fun w2 h2 j u hu=>?_) ?_)
   ·rw [Addr.add_add];exact h2.cell (hg.cell (hc j u hu) (fun h=>h)) (fun h=>h)
   refine ixK_n (by omega) (qldnK_i hr' (fun w2 h2 j u hu=>?_) ?_)
   ·rw [Addr.add_add];exact h2.cell (hg.cell (hc' j u hu) (fun h=>h)) (fun h=>h)
   subst hx;subst hx'
   refine ⟨_,fun w2 _=>run_ne_attr _ _ _ _ w2,fun w2 h2=>?_⟩
   simp only [KS]
   by_cases he:l[k]=m[k]
   ·rw [if_neg (fun h=>h he)]
    refine ⟨⟨k+1,by omega,by rw [wrap64 (by omega) (by omega)];rfl,hg.trans h2,?_⟩,?_⟩
    ·rw [List.take_add_one,List.take_add_one,ht]
     simp [hlt,show k < m.length by omega,he]
    ·simp only [iOf,nth,List.headD_cons];rw [wrap64 (by omega) (by omega)];omega
   ·rw [if_pos he]
    refine ⟨?_,hg.trans h2⟩
    congr 1
    symm
    rw [decide_eq_false_iff_not]
    intro e;subst e;exact he rfl
  ·rw [if_neg (show ¬ (k:Int) < l.length by omega)]
   refine ⟨?_,hg⟩
   congr 1;symm
   rw [decide_eq_true_eq]
   have:k=l.length:=by omega
   subst this
   rw [List.take_length] at ht
   rw [ht,hlen,List.take_length]
 ·rw [if_pos (show ¬ (l.length:Int)=m.length by omega)]
  refine ⟨?_,Mod.refl _ _⟩
  congr 1;symm
  rw [decide_eq_false_iff_not]
  intro e;exact hlen (by rw [e])
end Go.Proofs.YtaimlfomodfekaaGreatDoor

namespace Go.K
open Go
theorem cell_box {w:World} {t:TypeId} {vs:List Value} {j:Nat} {v:Value} (h:vs[j]?=some v):(w.alloc (.cells vs.toArray t)).cell? ((⟨w.heap.size,0,none⟩:Addr).add j)=some v:=by
 have hadd:(⟨w.heap.size,0,none⟩:Addr).add j=⟨w.heap.size,j,none⟩:=by unfold Addr.add;split <;> simp_all
 rw [hadd,World.cell?_alloc_new];simpa using h
theorem OwnR.ownB {α:Type} {B e k:Nat} {R:World→List Value→α→Prop} {w:World} {v:Value} {l:List α} (h:OwnR B e k R w v l):∀ g,v.ownBlock=some g→B≤g∧g < w.heap.size:=by
 obtain ⟨a,c,rfl,_,_,hp,_⟩:=OwnR.shape h
 intro g hg
 cases a with
 | none=>cases hg
 | some p=>obtain ⟨g',rfl,h1,h2,h3⟩:=hp p rfl;rw [hg] at h3;cases h3;exact ⟨h1,h2⟩
end Go.K
namespace Go.Proofs.YtaimlfomodfekaaGreatDoor
open Go Go.K

end Go.Proofs.YtaimlfomodfekaaGreatDoor

namespace Go.Proofs.YtaimlfomodfekaaGreatDoor
open Go Go.K

theorem rsame_set {S S':Nat→Prop} {a b:Value} {l m:List Attr} {w:World} (ha:RSet S w a l) (hb:RSet S' w b m) :
  callK Tryz.prog 63 [a,b] (fun v w'=>v=.bool (decide (l=m))∧Grow w w') w:=by
 apply S63_ok
 unfold S63
 obtain ⟨pa,ca,rfl,hla⟩:=ha.shape
 obtain ⟨pb,cb,rfl,hlb⟩:=hb.shape
 simp only [KS]
 simp only [maxLen] at hla hlb
 by_cases hlen:l.length=m.length
 ·rw [if_neg (show ¬ ¬ (l.length:Int)=m.length by omega)]
  refine LoopK_i (fun vs w'=>∃ k:Nat,k≤l.length∧vs=[.int .i64 k]∧Grow w w'∧l.take k=m.take k) (fun vs _=>l.length - iOf vs 0) ⟨0,Nat.zero_le _,rfl,Mod.refl _ _,rfl⟩ ?_
  rintro vs w1 ⟨k,hk,rfl,hg,ht⟩ h
  simp only [KS]
  by_cases hlt:k < l.length
  ·rw [if_pos (show (k:Int) < l.length by omega)]
   refine ⟨fun w2=>Grow w1 w2,Mod.drew _ _,?_⟩
   obtain ⟨p,r,rfl,_,hr,hc,hx⟩:=ha.get hlt
   obtain ⟨q,r',rfl,_,hr',hc',hx'⟩:=hb.get (show k < m.length by omega)
   refine ixK_n hlt (qldnK_i hr (fun w2 h2 j u hu=>?_) ?_)
   ·rw [Addr.add_add];exact h2.cell (hg.cell (hc j u hu) (fun h=>h)) (fun h=>h)
   refine ixK_n (by omega) (qldnK_i hr' (fun w2 h2 j u hu=>?_) ?_)
   ·rw [Addr.add_add];exact h2.cell (hg.cell (hc' j u hu) (fun h=>h)) (fun h=>h)
   subst hx;subst hx'
   refine ⟨_,fun w2 _=>run_ne_attr _ _ _ _ w2,fun w2 h2=>?_⟩
   simp only [KS]
   by_cases he:l[k]=m[k]
   ·rw [if_neg (fun h=>h he)]
    refine ⟨⟨k+1,by omega,by rw [wrap64 (by omega) (by omega)];rfl,hg.trans h2,?_⟩,?_⟩
    ·rw [List.take_add_one,List.take_add_one,ht]
     simp [hlt,show k < m.length by omega,he]
    ·simp only [iOf,nth,List.headD_cons];rw [wrap64 (by omega) (by omega)];omega
   ·rw [if_pos he]
    refine ⟨?_,hg.trans h2⟩
    congr 1
    symm
    rw [decide_eq_false_iff_not]
    intro e;subst e;exact he rfl
  ·rw [if_neg (show ¬ (k:Int) < l.length by omega)]
   refine ⟨?_,hg⟩
   congr 1;symm
   rw [decide_eq_true_eq]
   have:k=l.length:=by omega
   subst this
   rw [List.take_length] at ht
   rw [ht,hlen,List.take_length]
 ·rw [if_pos (show ¬ (l.length:Int)=m.length by omega)]
  refine ⟨?_,Mod.refl _ _⟩
  congr 1;symm
  rw [decide_eq_false_iff_not]
  intro e;exact hlen (by rw [e])
end Go.Proofs.YtaimlfomodfekaaGreatDoor

namespace Go.K
open Go
theorem add_block (a:Addr) (x:Nat):(a.add x).block=a.block:=by unfold Addr.add;split <;> rfl
theorem Mod.putObj {M:Nat→Prop} (w:World) (b:Nat) (o:Obj) (h:M b):Mod M w (w.putObj b o):=⟨rfl,rfl,rfl,by simp,fun k _ hk=>World.putObj_heap_other fun e=>hk (e ▸ h)⟩
end Go.K

namespace Go.K
open Go
theorem OwnR.one {α:Type} {B e k:Nat} {R:World→List Value→α→Prop} {w:World} {v:Value} {l:List α} (h:OwnR B e k R w v l):v.oneCell'=true∧v.cells=#[v]:=by
 obtain ⟨a,c,rfl,_⟩:=OwnR.shape h
 exact ⟨rfl,rfl⟩
end Go.K
namespace Go.Proofs.YtaimlfomodfekaaGreatDoor
open Go Go.K

end Go.Proofs.YtaimlfomodfekaaGreatDoor

namespace Go.K
open Go
theorem SlR.made {α:Type} {k:Nat} {R:World→List Value→α→Prop} {w:World} {t:TypeId} {l:List α} (rows:List (List Value)) (hr:∀ r ∈ rows,r.length=k) (hl:rows.length=l.length) (hlm:l.length≤maxLen)
  (hR:∀ (i:Nat) (r:List Value) (x:α),rows[i]?=some r→l[i]?=some x→R (w.alloc (.cells rows.flatten.toArray t)) r x):SlR (fun b=>b=w.heap.size) k R (w.alloc (.cells rows.flatten.toArray t)) (.slice (some ⟨w.heap.size,0,none⟩) l.length l.length) l:=by
 refine ⟨_,_,rfl,Nat.le_refl _,hlm,fun i x hx=>?_⟩
 have hi:i < rows.length:=by rw [hl];exact (List.getElem?_eq_some_iff.1 hx).1
 refine ⟨_,rows[i],rfl,rfl,hr _ (by simp),fun j u hu=>?_,hR i _ x (by simp [hi]) hx⟩
 have hj:j < k:=by rw [←hr rows[i] (by simp)];exact (List.getElem?_eq_some_iff.1 hu).1
 refine cell_box ?_
 rw [flat_get rows i j rows[i] hr (by simp [hi]) hj];exact hu
end Go.K
namespace Go.Proofs.YtaimlfomodfekaaGreatDoor
open Go Go.K

end Go.Proofs.YtaimlfomodfekaaGreatDoor

namespace Go.K
open Go
theorem condK_p {p:Prop} [Decidable p] {A B:Prop} (h1:p→A) (h2:¬ p→B):condK (.bool (decide p)) A B:=by
 rw [condK_d];split
 ·exact h1 (by assumption)
 ·exact h2 (by assumption)
theorem addr0 (g x:Nat):(⟨g,0,none⟩:Addr).add x=⟨g,x,none⟩:=by unfold Addr.add;split <;> simp_all
def Live (w:World) (a:Addr):Prop:=(w.cell? a).isSome=true∧w.frozen? a=false
theorem Live.set {w:World} {a:Addr} (h:Live w a) (b:Addr) (u:Value):Live (w.setCell b u) a:=by
 refine ⟨?_,by rw [World.frozen?_setCell];exact h.2⟩
 obtain ⟨v,hv⟩:=Option.isSome_iff_exists.1 h.1
 by_cases e:b=a
 ·subst e;rw [World.cell?_setCell_same w _ u hv];rfl
 ·rw [World.cell?_setCell_other w _ _ u e,hv];rfl
theorem Live.mod {M:Nat→Prop} {w w':World} {a:Addr} (h:Live w a) (hm:Mod M w w') (hn:¬ M a.block):Live w' a:=by
 obtain ⟨v,hv⟩:=Option.isSome_iff_exists.1 h.1
 exact ⟨by rw [hm.cell hv hn];rfl,(hm.frozen (World.block_lt_of_cell? w a hv) hn).trans h.2⟩
theorem Live.st {w:World} {a:Addr} {u:Value} {K:World→Prop} (h:Live w a) (h1:u.oneCell'=true) (h2:u.cells=#[u]) (hK:K (w.setCell a u)):st1K (.pointer (some a)) u K w:=by
 obtain ⟨v,hv⟩:=Option.isSome_iff_exists.1 h.1
 exact st1K_i h1 h2 hv h.2 hK
end Go.K

namespace Go.Proofs.YtaimlfomodfekaaGreatDoor
open Go Go.K

structure Chg where
 key:Int
 gone:Bool
 val:AVal
 deriving DecidableEq
def Chg.cells (a:Chg):List Value:=.int .i64 a.key :: .bool a.gone :: a.val.cells
abbrev RChg:World→List Value→Chg→Prop:=fun _ r x=>r=x.cells
abbrev RRune:World→List Value→Int→Prop:=fun _ r x=>r=[.int .i32 x]
abbrev RRun (S:Nat→Prop) (w:World) (v:Value) (l:List Int):Prop:=SlR S 1 RRune w v l
abbrev RPat (S:Nat→Prop) (w:World) (v:Value) (l:List Chg):Prop:=SlR S 6 RChg w v l
theorem RRune.one {w:World} {r:List Value} {x:Int} (h:RRune w r x):∀ u ∈ r,u.oneCell'=true:=by
 subst h;intro u hu;simp at hu;subst hu;rfl
theorem RChg.one {w:World} {r:List Value} {x:Chg} (h:RChg w r x):∀ u ∈ r,u.oneCell'=true:=by
 intro u hu
 subst h
 simp only [Chg.cells,AVal.cells,List.mem_cons,List.not_mem_nil,or_false] at hu
 rcases hu with rfl | rfl | rfl | rfl | rfl | rfl <;> rfl
theorem elem_rune:ElemOK Tryz.prog 77 21 1 4:=⟨Tryz.t21,.int .i32 0,by kernel_rfl,by kernel_rfl,by kernel_rfl,by kernel_rfl,by kernel_rfl,by rfl,by decide⟩
theorem elem_chg:ElemOK Tryz.prog 50 110 6 56:=⟨Tryz.t110,.agg #[.int .i64 0,.bool false,.int .u8 0,.int .i64 0,.int .u64 0,.string ⟨#[]⟩],by kernel_rfl,by kernel_rfl,by kernel_rfl,by kernel_rfl,by kernel_rfl,by rfl,by decide⟩

theorem eqIn_val (n:Nat) (x y:AVal) (w:World) :
  (Op.equalIn (n+2) 108 (.agg x.cells.toArray) (.agg y.cells.toArray)).run Tryz.prog w=.ok (decide (x=y)) w:=by
 have hV:Tryz.prog.underlying 108=some (.struct (Tryz.prog.fieldsOf 108)):=by kernel_rfl
 have u2:=Tryz.underlying5
 have u3:=Tryz.underlying2
 have u4:=Tryz.underlying38
 have u5:=Tryz.underlying9
 have a3:=Tryz.isAgg5
 have a4:=Tryz.isAgg2
 have a5:=Tryz.isAgg38
 have a6:=Tryz.isAgg9
 rw [run_equalIn_agg w (n+1) _ _ _ hV Tryz.stoodInHeld108]
 simp only [Program.fieldsOf,Tryz.underlying108,AVal.cells]
 have e1:∀ a b:Int,(Op.equalIn (n+1) 5 (.int .u8 a) (.int .u8 b)).run Tryz.prog w=.ok (a == b) w:=fun a b=>run_equalIn_int w n _ _ _ a b u2
 have e2:∀ a b:Int,(Op.equalIn (n+1) 2 (.int .i64 a) (.int .i64 b)).run Tryz.prog w=.ok (a == b) w:=fun a b=>run_equalIn_int w n _ _ _ a b u3
 have e3:∀ a b:Int,(Op.equalIn (n+1) 38 (.int .u64 a) (.int .u64 b)).run Tryz.prog w=.ok (a == b) w:=fun a b=>run_equalIn_int w n _ _ _ a b u4
 have e4:∀ a b:ByteArray,(Op.equalIn (n+1) 9 (.string a) (.string b)).run Tryz.prog w=.ok (a.toList == b.toList) w:=fun a b=>run_equalIn_string w n _ a b u5
 have q:decide (x=y)=(x.kind == y.kind && (x.n == y.n && (x.f == y.f && decide (x.s=y.s)))):=by
  cases x;cases y
  rw [Bool.eq_iff_iff]
  simp [AVal.mk.injEq]
 rw [q]
 simp [Op.eqFields,part,a3,a4,a5,a6,e1,e2,e3,e4,toList_beq]
 by_cases h1:x.kind=y.kind <;> by_cases h2:x.n=y.n <;> by_cases h3:x.f=y.f <;> by_cases h4:x.s=y.s <;> simp [h1,h2,h3,h4]
theorem eqIn_chg (a b:Chg) (w:World) :
  (Op.equalIn 10000 110 (.agg a.cells.toArray) (.agg b.cells.toArray)).run Tryz.prog w=.ok (decide (a=b)) w:=by
 have hS:Tryz.prog.underlying 110=some (.struct (Tryz.prog.fieldsOf 110)):=by kernel_rfl
 rw [show (10000:Nat)=9999+1 from rfl,run_equalIn_agg w 9999 _ _ _ hS Tryz.stoodInHeld110]
 simp only [Program.fieldsOf,Tryz.underlying110,Chg.cells,AVal.cells]
 have a1:=Tryz.isAgg3
 have a2:=Tryz.isAgg108
 have a3:=Tryz.isAgg4
 have z2:∀ w,(sizeOf 108).run Tryz.prog w=.ok 4 w:=fun w=>by simp only [sizeOf,Sem.run_bind,Tryz.typeInfo108,Result.andThen_ok,Sem.run_pure];rfl
 have e1:∀ a b:Int,(Op.equalIn 9999 3 (.int .i64 a) (.int .i64 b)).run Tryz.prog w=.ok (a == b) w:=fun a b=>run_equalIn_int w 9998 _ _ _ a b Tryz.underlying3
 have e2:∀ a b:Bool,(Op.equalIn 9999 4 (.bool a) (.bool b)).run Tryz.prog w=.ok (a == b) w:=fun a b=>run_equalIn_bool w 9998 _ a b Tryz.underlying4
 have e3:(Op.equalIn 9999 108 (.agg #[.int .u8 a.val.kind,.int .i64 a.val.n,.int .u64 a.val.f,.string a.val.s]) (.agg #[.int .u8 b.val.kind,.int .i64 b.val.n,.int .u64 b.val.f,.string b.val.s])).run Tryz.prog w=.ok (decide (a.val=b.val)) w:=eqIn_val 9997 a.val b.val w
 have x1:∀ k l q r s t:Value,(#[k,l,q,r,s,t]:Array Value).extract 2 6=#[q,r,s,t]:=fun _ _ _ _ _ _=>rfl
 have q:decide (a=b)=(a.key == b.key && (a.gone == b.gone && decide (a.val=b.val))):=by
  cases a;cases b
  rw [Bool.eq_iff_iff]
  simp [Chg.mk.injEq]
 rw [q]
 simp [Op.eqFields,part,a1,a2,a3,z2,e1,e2,e3,x1]
 by_cases h1:a.key=b.key <;> by_cases h2:a.gone=b.gone <;> by_cases h3:a.val=b.val <;> simp [h1,h2,h3]
theorem run_ne_chg (xo yo:Operand) (a b:Chg) (w:World) :
  (binS .neq 110 xo yo (.agg a.cells.toArray) (.agg b.cells.toArray)).run Tryz.prog w=.ok (.bool (!decide (a=b))) w:=by
 simp only [binS,Sem.run_bind,run_eqGuard_agg w .neq _ xo yo _ _ Tryz.eqGuardType110,Result.andThen_ok]
 rw [run_neq_struct,eqIn_chg];rfl
structure Dop where
 kind:Int
 n:Int
 runes:List Int
 set:List Attr
 patch:List Chg
 deriving DecidableEq
def RDop (D:Nat→Prop) (w:World) (r:List Value) (o:Dop):Prop:=∃ rv sv pv,r=[.int .u8 o.kind,.int .i64 o.n,rv,sv,pv]∧RRun D w rv o.runes∧RSet D w sv o.set∧RPat D w pv o.patch
theorem RDop.one {D:Nat→Prop} {w:World} {r:List Value} {o:Dop} (h:RDop D w r o):∀ u ∈ r,u.oneCell'=true:=by
 obtain ⟨rv,sv,pv,rfl,h1,h2,h3⟩:=h
 obtain ⟨a1,c1,rfl,_⟩:=h1.shape
 obtain ⟨a2,c2,rfl,_⟩:=h2.shape
 obtain ⟨a3,c3,rfl,_⟩:=h3.shape
 intro u hu
 simp only [List.mem_cons,List.not_mem_nil,or_false] at hu
 rcases hu with rfl | rfl | rfl | rfl | rfl <;> rfl
theorem RDop.mod {D D' M:Nat→Prop} {w w':World} {r:List Value} {o:Dop} (h:RDop D w r o) (hm:Mod M w w') (hD:∀ b,b < w.heap.size→D b→¬ M b) (hD':∀ b,b < w.heap.size→D b→D' b):RDop D' w' r o:=by
 obtain ⟨rv,sv,pv,rfl,h1,h2,h3⟩:=h
 exact ⟨rv,sv,pv,rfl,h1.mono hD' (fun b hb hd=>hm.same b hb (hD b hb hd)) (by decide) fun _ _ h=>h,h2.mono hD' (fun b hb hd=>hm.same b hb (hD b hb hd)) (by decide) fun _ _ h=>h,h3.mono hD' (fun b hb hd=>hm.same b hb (hD b hb hd)) (by decide) fun _ _ h=>h⟩
theorem elem_dop:ElemOK Tryz.prog 49 80 5 88:=⟨Tryz.t80,.agg #[.int .u8 0,.int .i64 0,.slice none 0 0,.slice none 0 0,.slice none 0 0],by kernel_rfl,by kernel_rfl,by kernel_rfl,by kernel_rfl,by kernel_rfl,by rfl,by decide⟩
abbrev RDops (S D:Nat→Prop) (w:World) (v:Value) (l:List Dop):Prop:=SlR S 5 (RDop D) w v l
theorem RDops.grow {S D:Nat→Prop} {w w':World} {v:Value} {l:List Dop} (h:RDops S D w v l) (hg:Grow w w'):RDops S D w' v l:=
 SlR.grow h hg (by decide) fun _ _ hx=>hx.mod hg (fun _ _ _ h=>h) fun _ _ h=>h
theorem RDops.mod {S D M:Nat→Prop} {w w':World} {v:Value} {l:List Dop} (h:RDops S D w v l) (hm:Mod M w w') (hS:∀ b,b < w.heap.size→S b→¬ M b) (hD:∀ b,b < w.heap.size→D b→¬ M b):RDops S D w' v l:=
 SlR.mono h (fun _ _ h=>h) (fun b hb hs=>hm.same b hb (hS b hb hs)) (by decide) fun _ _ hx=>hx.mod hm hD fun _ _ h=>h
def ODop (D:Nat→Prop) (w:World) (r:List Value) (o:Dop):Prop:=∃ rv sv pv,r=[.int .u8 o.kind,.int .i64 o.n,rv,sv,pv]∧
 (OwnR 0 21 1 RRune w rv o.runes∧∀ g,rv.ownBlock=some g→D g)∧(OSet 0 w sv o.set∧∀ g,sv.ownBlock=some g→D g)∧(OwnR 0 110 6 RChg w pv o.patch∧∀ g,pv.ownBlock=some g→D g)
theorem own_rd {α:Type} {e k:Nat} {R:World→List Value→α→Prop} {D:Nat→Prop} {w:World} {v:Value} {l:List α} (hk:0 < k) (h:OwnR 0 e k R w v l∧∀ g,v.ownBlock=some g→D g):SlR D k R w v l:=
 SlR.sub (OwnR.sl h.1) (fun g _ hg=>h.2 g hg.2) hk fun _ _ h=>h
theorem own_mod {α:Type} {e k:Nat} {R:World→List Value→α→Prop} {D D' M:Nat→Prop} {w w':World} {v:Value} {l:List α} (h:OwnR 0 e k R w v l∧∀ g,v.ownBlock=some g→D g) (hm:Mod M w w') (hD:∀ b,b < w.heap.size→D b→¬ M b) (hD':∀ b,b < w.heap.size→D b→D' b)
  (hR:∀ r x,R w r x→R w' r x):OwnR 0 e k R w' v l∧∀ g,v.ownBlock=some g→D' g:=
 ⟨OwnR.mod h.1 hm (fun g hg=>hD g (OwnR.ownB h.1 g hg).2 (h.2 g hg)) fun r x _ hx=>hR r x hx,fun g hg=>hD' g (OwnR.ownB h.1 g hg).2 (h.2 g hg)⟩
theorem ODop.rd {D:Nat→Prop} {w:World} {r:List Value} {o:Dop} (h:ODop D w r o):RDop D w r o:=by
 obtain ⟨rv,sv,pv,rfl,h1,h2,h3⟩:=h
 exact ⟨rv,sv,pv,rfl,own_rd (by decide) h1,own_rd (by decide) h2,own_rd (by decide) h3⟩
theorem ODop.one {D:Nat→Prop} {w:World} {r:List Value} {o:Dop} (h:ODop D w r o):∀ u ∈ r,u.oneCell'=true:=h.rd.one
theorem ODop.mod {D D' M:Nat→Prop} {w w':World} {r:List Value} {o:Dop} (h:ODop D w r o) (hm:Mod M w w') (hD:∀ b,b < w.heap.size→D b→¬ M b) (hD':∀ b,b < w.heap.size→D b→D' b):ODop D' w' r o:=by
 obtain ⟨rv,sv,pv,rfl,h1,h2,h3⟩:=h
 exact ⟨rv,sv,pv,rfl,own_mod h1 hm hD hD' fun _ _ h=>h,own_mod h2 hm hD hD' fun _ _ h=>h,own_mod h3 hm hD hD' fun _ _ h=>h⟩
def ODops (B:Nat) (w:World) (v:Value) (l:List Dop):Prop:=OwnR B 80 5 (ODop fun b=>B≤b∧v.ownBlock≠some b) w v l
theorem ODops.sl {B:Nat} {w:World} {v:Value} {l:List Dop} (h:ODops B w v l):RDops (fun b=>B≤b∧v.ownBlock=some b) (fun b=>B≤b∧v.ownBlock≠some b) w v l:=
 SlR.sub (OwnR.sl h) (fun _ _ h=>h) (by decide) fun _ _ h=>h.rd
theorem ODops.grow {B:Nat} {w w':World} {v:Value} {l:List Dop} {M:Nat→Prop} (h:ODops B w v l) (hm:Mod M w w') (hM:∀ b,b < w.heap.size→B≤b→¬ M b):ODops B w' v l:=
 OwnR.mod h hm (fun g hg=>hM g (OwnR.ownB h g hg).2 (OwnR.ownB h g hg).1) fun r x _ hx=>hx.mod hm (fun b hb hd=>hM b hb hd.1) fun _ _ h=>h
theorem ODops.reads {B:Nat} {w:World} {v:Value} {l:List Dop} (h:ODops B w v l):RDops (fun b=>B≤b∧b < w.heap.size) (fun b=>B≤b∧b < w.heap.size) w v l:=
 SlR.sub (ODops.sl h) (fun b hb h=>⟨h.1,hb⟩) (by decide) fun r x hx=>hx.mod (Mod.refl (fun _=>False) _) (fun _ _ _ h=>h) fun b hb h=>⟨h.1,hb⟩
structure DKey where
 id:Int
 block:Bool
 kind:Int
 after:Bool
 before:Bool
 group:Int
 deriving DecidableEq
def DKey.cells (k:DKey):List Value:=[.int .i64 k.id,.bool k.block,.int .u8 k.kind,.bool k.after,.bool k.before,.int .i64 k.group]
abbrev RKey:World→List Value→DKey→Prop:=fun _ r x=>r=x.cells
abbrev RKeys (S:Nat→Prop) (w:World) (v:Value) (l:List DKey):Prop:=SlR S 6 RKey w v l
theorem RKey.one {w:World} {r:List Value} {x:DKey} (h:RKey w r x):∀ u ∈ r,u.oneCell'=true:=by
 intro u hu
 subst h
 simp only [DKey.cells,List.mem_cons,List.not_mem_nil,or_false] at hu
 rcases hu with rfl | rfl | rfl | rfl | rfl | rfl <;> rfl
def mAttr (a:Attr):Nat:=a.val.s.size+1
def mChg (a:Chg):Nat:=a.val.s.size+1
def mSet (l:List Attr):Nat:=(l.map mAttr).sum
def mPat (l:List Chg):Nat:=(l.map mChg).sum
def mDop (o:Dop):Nat:=1+o.runes.length+mSet o.set+mPat o.patch
def mDops (l:List Dop):Nat:=(l.map mDop).sum
end Go.Proofs.YtaimlfomodfekaaGreatDoor

namespace Go.Proofs.YtaimlfomodfekaaGreatDoor
open Go Go.K
set_option maxRecDepth 100000
def An74:Ann:=(.node [] [] .nil (.node [] [] .nil (.node [] [] (.node [] [] .nil (.node [3,4] [(3,81)] (.node [] [] (.node [] [] .nil (.node [] [] .nil .nil)) (.node [] [] (.node [] [] .draw (.node [] [] (.node [] [] .nil (.node [3,5] [(3,3),(5,5),(36,58)] (.node [] [] (.node [] [] .nil (.node [] [] .nil .nil)) (.node [] [] .nil .nil)) .nil)) (.node [] [] .nil (.node [3,6] [(3,3),(6,6),(59,81)] (.node [] [] (.node [] [] .nil (.node [] [] .nil .nil)) (.node [] [] .nil .nil)) .nil)))) .nil)) .nil)) (.node [] [] .nil .nil))))
def S74 (v0:Value) (K:Cont) (w:World):Prop:=by
 refine' (?f:∀ B R,PX Tryz.prog okf K (PG Tryz.prog okf Tryz.f74 An74 [v0] w) B R→Prop) _ _ ⟨?a,?b⟩
 case a=>intro _;intros;conv=>lhs;reduce
 case b=>dsimp only [PI,plit_eq];rfl
 exact fun _ R _=>R
theorem S74_ok {v0:Value} {K:Cont} {w:World} (h:S74 v0 K w):callK Tryz.prog 74 [v0] K w:=okS An74 good mixed Tryz.func74 (by kernel_rfl) h (by kernel_rfl)

def An20:Ann:=(.node [] [] .nil (.node [] [] .nil (.node [] [] (.node [] [] .nil (.node [3,4] [(3,35)] (.node [] [] (.node [] [] .nil (.node [] [] .nil .nil)) (.cut [3] [(3,3),(5,5),(12,35)] (.node [] [] .nil (.dt [5,8,9,12,13,16,18,19] [[],[],[1],[],[3],[],[],[6],[5,6,7],[],[],[10],[5,6,7,8,9,10,11],[],[],[14],[5,6,7,8,9,10,11,12,13,14,15],[1,2,3,4,5,6,7,8,9,10,11,12,13,14,15,16],[1,2,3,4,5,6,7,8,9,10,11,12,13,14,15,16,17],[0,1,2,3,4,5,6,7,8,9,10,11,12,13,14,15,16,17,18],[0,1,2,3,4,5,6,7,8,9,10,11,12,13,14,15,16,17,18,19]] [[5,8,9,12,13,16]] (.op 0 (.op 1 (.op 2 (.op 3 (.op 4 (.op 6 (.op 7 (.op 10 (.op 11 (.op 14 (.op 15 (.br (.op 5 (.br (.op 8 (.br (.op 9 (.br (.op 12 (.op 13 (.op 16 (.op 17 (.op 18 (.op 19 (.op 20 .nil))))))) (.op 13 (.op 12 (.op 16 (.op 17 (.op 18 (.op 19 (.op 20 .nil))))))))) (.op 13 (.op 9 (.op 12 (.op 16 (.op 17 (.op 18 (.op 19 (.op 20 .nil)))))))))) (.br (.op 9 (.br (.op 8 (.br (.op 12 (.op 13 (.op 16 (.op 17 (.op 18 (.op 19 (.op 20 .nil))))))) (.op 13 (.op 12 (.op 16 (.op 17 (.op 18 (.op 19 (.op 20 .nil))))))))) (.op 13 (.op 8 (.op 12 (.op 16 (.op 17 (.op 18 (.op 19 (.op 20 .nil)))))))))) (.op 13 (.br (.op 8 (.op 9 (.op 12 (.op 16 (.op 17 (.op 18 (.op 19 (.op 20 .nil)))))))) (.op 9 (.op 8 (.op 12 (.op 16 (.op 17 (.op 18 (.op 19 (.op 20 .nil))))))))))))) (.br (.op 9 (.br (.op 5 (.br (.op 8 (.br (.op 12 (.op 13 (.op 16 (.op 17 (.op 18 (.op 19 (.op 20 .nil))))))) (.op 13 (.op 12 (.op 16 (.op 17 (.op 18 (.op 19 (.op 20 .nil))))))))) (.op 13 (.op 8 (.op 12 (.op 16 (.op 17 (.op 18 (.op 19 (.op 20 .nil)))))))))) (.op 13 (.op 5 (.op 8 (.op 12 (.op 16 (.op 17 (.op 18 (.op 19 (.op 20 .nil))))))))))) (.op 13 (.br (.op 5 (.br (.op 8 (.op 9 (.op 12 (.op 16 (.op 17 (.op 18 (.op 19 (.op 20 .nil)))))))) (.op 9 (.op 8 (.op 12 (.op 16 (.op 17 (.op 18 (.op 19 (.op 20 .nil)))))))))) (.op 9 (.op 5 (.op 8 (.op 12 (.op 16 (.op 17 (.op 18 (.op 19 (.op 20 .nil)))))))))))))))))))))))))) .nil)) .nil)) (.node [] [] .nil .nil))))
def S20 (v0:Value) (K:Cont) (w:World):Prop:=by
 refine' (?f:∀ B R,PX Tryz.prog okf K (PG Tryz.prog okf Tryz.f20 An20 [v0] w) B R→Prop) _ _ ⟨?a,?b⟩
 case a=>intro _;intros;conv=>lhs;reduce
 case b=>dsimp only [PI,plit_eq];rfl
 exact fun _ R _=>R
theorem S20_ok {v0:Value} {K:Cont} {w:World} (h:S20 v0 K w):callK Tryz.prog 20 [v0] K w:=okS An20 good mixed Tryz.func20 (by kernel_rfl) h (by kernel_rfl)

def An33:Ann:=(.node [] [] .nil (.node [] [] (.node [] [] .nil (.node [] [] (.node [] [] .nil .nil) .nil)) (.node [] [] (.node [] [] .nil (.node [5] [(4,7),(13,62)] (.node [] [] (.node [] [] .nil (.node [] [] .nil .nil)) (.cut [] [(4,4),(6,7),(19,62)] (.cut [6,7] [(6,7),(19,26)] (.dt [8,9,10,11] [[],[],[0,1],[0,1,2],[],[],[4,5],[4,5,6],[],[],[0,1,2,3,8,9],[0,1,2,3,4,5,6,7,8,9,10]] [] (.op 0 (.op 1 (.op 2 (.op 3 (.op 4 (.op 5 (.op 6 (.op 7 (.br (.op 8 (.op 9 (.op 10 (.op 11 .nil)))) (.op 9 (.op 8 (.op 10 (.op 11 .nil)))))))))))))) (.node [] [] .nil (.node [] [] (.node [] [] .nil .nil) .nil))) .nil)) .nil)) (.node [] [] .nil .nil))))
def S33 (v0 v1:Value) (K:Cont) (w:World):Prop:=by
 refine' (?f:∀ B R,PX Tryz.prog okf K (PG Tryz.prog okf Tryz.f33 An33 [v0,v1] w) B R→Prop) _ _ ⟨?a,?b⟩
 case a=>intro _;intros;conv=>lhs;reduce
 case b=>dsimp only [PI,plit_eq];rfl
 exact fun _ R _=>R
theorem S33_ok {v0 v1:Value} {K:Cont} {w:World} (h:S33 v0 v1 K w):callK Tryz.prog 33 [v0,v1] K w:=okS An33 good mixed Tryz.func33 (by kernel_rfl) h (by kernel_rfl)

def An62:Ann:=(.node [] [] .nil (.node [] [] (.node [] [] .nil (.node [] [] (.node [] [] .nil .nil) .nil)) (.node [] [] (.node [] [] .nil (.node [5] [(4,5),(11,25)] (.node [] [] (.node [] [] .nil (.node [] [] .nil .nil)) (.node [] [] (.node [] [] .draw (.node [] [] (.node [] [] .nil .nil) .nil)) .nil)) .nil)) (.node [] [] .nil .nil))))
def S62 (v0 v1:Value) (K:Cont) (w:World):Prop:=by
 refine' (?f:∀ B R,PX Tryz.prog okf K (PG Tryz.prog okf Tryz.f62 An62 [v0,v1] w) B R→Prop) _ _ ⟨?a,?b⟩
 case a=>intro _;intros;conv=>lhs;reduce
 case b=>dsimp only [PI,plit_eq];rfl
 exact fun _ R _=>R
theorem S62_ok {v0 v1:Value} {K:Cont} {w:World} (h:S62 v0 v1 K w):callK Tryz.prog 62 [v0,v1] K w:=okS An62 good mixed Tryz.func62 (by kernel_rfl) h (by kernel_rfl)

def An34:Ann:=(.node [] [] .nil (.node [] [] (.node [] [] .nil (.node [] [] (.node [] [] .nil .nil) .nil)) (.node [] [] (.node [] [] .nil (.node [5] [(4,5),(11,25)] (.node [] [] (.node [] [] .nil (.node [] [] .nil .nil)) (.node [] [] (.node [] [] .draw (.node [] [] (.node [] [] .nil .nil) .nil)) .nil)) .nil)) (.node [] [] .nil .nil))))
def S34 (v0 v1:Value) (K:Cont) (w:World):Prop:=by
 refine' (?f:∀ B R,PX Tryz.prog okf K (PG Tryz.prog okf Tryz.f34 An34 [v0,v1] w) B R→Prop) _ _ ⟨?a,?b⟩
 case a=>intro _;intros;conv=>lhs;reduce
 case b=>dsimp only [PI,plit_eq];rfl
 exact fun _ R _=>R
theorem S34_ok {v0 v1:Value} {K:Cont} {w:World} (h:S34 v0 v1 K w):callK Tryz.prog 34 [v0,v1] K w:=okS An34 good mixed Tryz.func34 (by kernel_rfl) h (by kernel_rfl)

def An58:Ann:=(.node [] [] .nil (.node [] [] (.node [] [] .nil (.node [] [] (.node [] [] .nil .nil) .nil)) (.node [] [] (.node [] [] .nil (.node [17] [(6,9),(17,31)] (.node [] [] .nil (.node [] [] (.node [] [] .nil .nil) (.node [] [] (.node [] [] .nil (.node [] [] .nil (.node [] [] .nil (.node [] [] (.node [] [] .nil .nil) .nil)))) .nil))) .nil)) (.node [] [] .nil .nil))))
def S58 (v0 v1 v2:Value) (K:Cont) (w:World):Prop:=by
 refine' (?f:∀ B R,PX Tryz.prog okf K (PG Tryz.prog okf Tryz.f58 An58 [v0,v1,v2] w) B R→Prop) _ _ ⟨?a,?b⟩
 case a=>intro _;intros;conv=>lhs;reduce
 case b=>dsimp only [PI,plit_eq];rfl
 exact fun _ R _=>R
theorem S58_ok {v0 v1 v2:Value} {K:Cont} {w:World} (h:S58 v0 v1 v2 K w):callK Tryz.prog 58 [v0,v1,v2] K w:=okS An58 good mixed Tryz.func58 (by kernel_rfl) h (by kernel_rfl)

def An81:Ann:=(.node [] [] .nil (.node [] [] (.node [] [] .nil (.node [] [] (.node [] [] .nil .nil) .nil)) (.node [] [] (.node [] [] .nil (.node [13] [(4,5),(13,25)] (.node [] [] .nil (.node [] [] (.node [] [] .nil .nil) (.node [] [] (.node [] [] .nil (.node [] [] .draw (.node [] [] (.node [] [] .nil .nil) .nil))) .nil))) .nil)) (.node [] [] .nil .nil))))
def S81 (v0 v1:Value) (K:Cont) (w:World):Prop:=by
 refine' (?f:∀ B R,PX Tryz.prog okf K (PG Tryz.prog okf Tryz.f81 An81 [v0,v1] w) B R→Prop) _ _ ⟨?a,?b⟩
 case a=>intro _;intros;conv=>lhs;reduce
 case b=>dsimp only [PI,plit_eq];rfl
 exact fun _ R _=>R
theorem S81_ok {v0 v1:Value} {K:Cont} {w:World} (h:S81 v0 v1 K w):callK Tryz.prog 81 [v0,v1] K w:=okS An81 good mixed Tryz.func81 (by kernel_rfl) h (by kernel_rfl)

def An61:Ann:=(.node [] [] .nil (.node [] [] (.node [] [] .nil (.node [] [] (.node [] [] .nil .nil) .nil)) (.node [] [] (.node [] [] .nil (.node [13] [(4,5),(13,25)] (.node [] [] .nil (.node [] [] (.node [] [] .nil .nil) (.node [] [] (.node [] [] .nil (.node [] [] .draw (.node [] [] (.node [] [] .nil .nil) .nil))) .nil))) .nil)) (.node [] [] .nil .nil))))
def S61 (v0 v1:Value) (K:Cont) (w:World):Prop:=by
 refine' (?f:∀ B R,PX Tryz.prog okf K (PG Tryz.prog okf Tryz.f61 An61 [v0,v1] w) B R→Prop) _ _ ⟨?a,?b⟩
 case a=>intro _;intros;conv=>lhs;reduce
 case b=>dsimp only [PI,plit_eq];rfl
 exact fun _ R _=>R
theorem S61_ok {v0 v1:Value} {K:Cont} {w:World} (h:S61 v0 v1 K w):callK Tryz.prog 61 [v0,v1] K w:=okS An61 good mixed Tryz.func61 (by kernel_rfl) h (by kernel_rfl)

end Go.Proofs.YtaimlfomodfekaaGreatDoor

namespace Go.K
open Go
theorem condK_neg {p:Prop} [Decidable p] {A B:Prop} (h1:p→B) (h2:¬ p→A):condK (.bool (!decide p)) A B:=by
 by_cases h:p
 ·rw [decide_eq_true h];exact h1 h
 ·rw [decide_eq_false h];exact h2 h
theorem eq_loop {α:Type} [DecidableEq α] {P:Program} {k:Nat} {R R':World→List Value→α→Prop} {S S':Nat→Prop} {w:World} {a b:Option Addr} {ca cb:Nat} {l m:List α} {K:Cont} {bin:Value→Value→Sem Value}
  (ha:SlR S k R w (.slice a l.length ca) l) (hb:SlR S' k R' w (.slice b m.length cb) m) (hlen:l.length=m.length) (hm:l.length≤maxLen)
  (hbin:∀ r r' x y w1,R w r x→R' w r' y→(bin (.agg r.toArray) (.agg r'.toArray)).run P w1=.ok (.bool (!decide (x=y))) w1)
  (hK:∀ w',Grow w w'→K (.bool (decide (l=m))) w') :
  LoopK [(.int .i64 0)] (fun vs again w1=>∀ _:Env,ltK .i64 (nth vs 0) (.int .i64 l.length) fun t14=>condK t14
   (DrawK w1 (fun C=>ixK k (.slice a l.length ca) (nth vs 0) fun t18=>qldnK C k t18 fun t19=>ixK k (.slice b m.length cb) (nth vs 0) fun t22=>qldnK C k t22 fun t23=>qrunK P C (bin t19 t23) fun t24=>
    ∀ w2:World,C w2→condK t24 (K (.bool false) w2) (addK .i64 (nth vs 0) (.int .i64 1) fun t25=>again [t25] w2)))
   (K (.bool true) w1)) w:=by
 simp only [maxLen] at hm
 refine LoopK_i (fun vs w'=>∃ k:Nat,k≤l.length∧vs=[.int .i64 k]∧Grow w w'∧l.take k=m.take k) (fun vs _=>l.length - iOf vs 0) ⟨0,Nat.zero_le _,rfl,Mod.refl _ _,rfl⟩ ?_
 rintro vs w1 ⟨q,hq,rfl,hg,ht⟩ h
 simp only [KS]
 by_cases hlt:q < l.length
 ·rw [if_pos (show (q:Int) < l.length by omega)]
  refine ⟨fun w2=>Grow w1 w2,Mod.drew _ _,?_⟩
  obtain ⟨p,r,rfl,_,hr,hc,hx⟩:=ha.get hlt
  obtain ⟨p',r',rfl,_,hr',hc',hx'⟩:=hb.get (show q < m.length by omega)
  refine ixK_n hlt (qldnK_i hr (fun w2 h2 j u hu=>?_) ?_)
  ·rw [Addr.add_add];exact h2.cell (hg.cell (hc j u hu) (fun h=>h)) (fun h=>h)
  refine ixK_n (by omega) (qldnK_i hr' (fun w2 h2 j u hu=>?_) ?_)
  ·rw [Addr.add_add];exact h2.cell (hg.cell (hc' j u hu) (fun h=>h)) (fun h=>h)
  refine ⟨_,fun w2 _=>hbin _ _ _ _ w2 hx hx',fun w2 h2=>?_⟩
  simp only [KS]
  by_cases he:l[q]=m[q]
  ·rw [if_neg (fun h=>h he)]
   refine ⟨⟨q+1,by omega,by rw [wrap64 (by omega) (by omega)];rfl,hg.trans h2,?_⟩,?_⟩
   ·rw [List.take_add_one,List.take_add_one,ht]
    simp [hlt,show q < m.length by omega,he]
   ·simp only [iOf,nth,List.headD_cons];rw [wrap64 (by omega) (by omega)];omega
  ·rw [if_pos he]
   have:decide (l=m)=false:=by rw [decide_eq_false_iff_not];intro e;subst e;exact he rfl
   rw [←this];exact hK _ (hg.trans h2)
 ·rw [if_neg (show ¬ (q:Int) < l.length by omega)]
  have:q=l.length:=by omega
  subst this
  rw [List.take_length,hlen,List.take_length] at ht
  have:decide (l=m)=true:=by rw [decide_eq_true_eq];exact ht
  rw [←this];exact hK _ hg
theorem eq_loop1 {q:IntKind} {R:World→List Value→Int→Prop} {S S':Nat→Prop} {w:World} {a b:Option Addr} {ca cb:Nat} {l m:List Int} {K:Cont}
  (ha:SlR S 1 R w (.slice a l.length ca) l) (hb:SlR S' 1 R w (.slice b m.length cb) m) (hlen:l.length=m.length) (hm:l.length≤maxLen)
  (hRi:∀ r x,R w r x→r=[.int q x])
  (hK:∀ w',Grow w w'→K (.bool (decide (l=m))) w') :
  LoopK [(.int .i64 0)] (fun vs again w1=>∀ _:Env,ltK .i64 (nth vs 0) (.int .i64 l.length) fun t14=>condK t14
   (DrawK w1 (fun C=>ixK 1 (.slice a l.length ca) (nth vs 0) fun t18=>qld1K C t18 fun t19=>ixK 1 (.slice b m.length cb) (nth vs 0) fun t22=>qld1K C t22 fun t23=>neK q t19 t23 fun t24=>
    ∀ w2:World,C w2→condK t24 (K (.bool false) w2) (addK .i64 (nth vs 0) (.int .i64 1) fun t25=>again [t25] w2)))
   (K (.bool true) w1)) w:=by
 simp only [maxLen] at hm
 refine LoopK_i (fun vs w'=>∃ k:Nat,k≤l.length∧vs=[.int .i64 k]∧Grow w w'∧l.take k=m.take k) (fun vs _=>l.length - iOf vs 0) ⟨0,Nat.zero_le _,rfl,Mod.refl _ _,rfl⟩ ?_
 rintro vs w1 ⟨i,hi,rfl,hg,ht⟩ h
 simp only [KS]
 by_cases hlt:i < l.length
 ·rw [if_pos (show (i:Int) < l.length by omega)]
  refine ⟨fun w2=>Grow w1 w2,Mod.drew _ _,?_⟩
  obtain ⟨p,r,rfl,_,hr,hc,hx⟩:=ha.get hlt
  obtain ⟨p',r',rfl,_,hr',hc',hx'⟩:=hb.get (show i < m.length by omega)
  obtain rfl:=hRi _ _ hx
  obtain rfl:=hRi _ _ hx'
  refine ixK_n hlt (qld1K_i (v:=.int q l[i]) (fun w2 h2=>h2.cell (hg.cell (hc 0 _ rfl) fun h=>h) fun h=>h) ?_)
  refine ixK_n (by omega) (qld1K_i (v:=.int q m[i]) (fun w2 h2=>h2.cell (hg.cell (hc' 0 _ rfl) fun h=>h) fun h=>h) ?_)
  simp only [KS]
  intro w2 h2
  by_cases he:l[i]=m[i]
  ·rw [if_neg (fun h=>h he)]
   refine ⟨⟨i+1,by omega,by rw [wrap64 (by omega) (by omega)];rfl,hg.trans h2,?_⟩,?_⟩
   ·rw [List.take_add_one,List.take_add_one,ht]
    simp [hlt,show i < m.length by omega,he]
   ·simp only [iOf,nth,List.headD_cons];rw [wrap64 (by omega) (by omega)];omega
  ·rw [if_pos he]
   have:decide (l=m)=false:=by rw [decide_eq_false_iff_not];intro e;subst e;exact he rfl
   rw [←this];exact hK _ (hg.trans h2)
 ·rw [if_neg (show ¬ (i:Int) < l.length by omega)]
  have:i=l.length:=by omega
  subst this
  rw [List.take_length,hlen,List.take_length] at ht
  have:decide (l=m)=true:=by rw [decide_eq_true_eq];exact ht
  rw [←this];exact hK _ hg
end Go.K
namespace Go.Proofs.YtaimlfomodfekaaGreatDoor
open Go Go.K
theorem eq_run {S S':Nat→Prop} {a b:Value} {l m:List Int} {w:World} (ha:SlR S 1 RRune w a l) (hb:SlR S' 1 RRune w b m) :
  callK Tryz.prog 81 [a,b] (fun v w'=>v=.bool (decide (l=m))∧Grow w w') w:=by
 apply S81_ok
 unfold S81
 obtain ⟨pa,ca,rfl,hla⟩:=ha.shape
 obtain ⟨pb,cb,rfl,hlb⟩:=hb.shape
 simp only [lenK_i]
 rw [neK_i]
 refine condK_neg (fun hlen=>?_) fun hlen=>?_
 ·exact eq_loop1 (K:=fun v w'=>v=.bool (decide (l=m))∧Grow w w') ha hb (by omega) hla (fun _ _ h=>h) fun _ hg=>⟨rfl,hg⟩
 ·refine ⟨?_,Mod.refl _ _⟩
  congr 1;symm
  rw [decide_eq_false_iff_not]
  intro e;exact hlen (by rw [e])
theorem rsame_run {S S':Nat→Prop} {a b:Value} {l m:List Int} {w:World} (ha:SlR S 1 RRune w a l) (hb:SlR S' 1 RRune w b m) :
  callK Tryz.prog 62 [a,b] (fun v w'=>v=.bool (decide (l=m))∧Grow w w') w:=by
 apply S62_ok
 unfold S62
 obtain ⟨pa,ca,rfl,hla⟩:=ha.shape
 obtain ⟨pb,cb,rfl,hlb⟩:=hb.shape
 simp only [lenK_i]
 rw [neK_i]
 refine condK_neg (fun hlen=>?_) fun hlen=>?_
 ·exact eq_loop1 (K:=fun v w'=>v=.bool (decide (l=m))∧Grow w w') ha hb (by omega) hla (fun _ _ h=>h) fun _ hg=>⟨rfl,hg⟩
 ·refine ⟨?_,Mod.refl _ _⟩
  congr 1;symm
  rw [decide_eq_false_iff_not]
  intro e;exact hlen (by rw [e])
theorem eq_pat {S S':Nat→Prop} {a b:Value} {l m:List Chg} {w:World} (ha:SlR S 6 RChg w a l) (hb:SlR S' 6 RChg w b m) :
  callK Tryz.prog 61 [a,b] (fun v w'=>v=.bool (decide (l=m))∧Grow w w') w:=by
 apply S61_ok
 unfold S61
 obtain ⟨pa,ca,rfl,hla⟩:=ha.shape
 obtain ⟨pb,cb,rfl,hlb⟩:=hb.shape
 simp only [lenK_i]
 rw [neK_i]
 refine condK_neg (fun hlen=>?_) fun hlen=>?_
 ·exact eq_loop (K:=fun v w'=>v=.bool (decide (l=m))∧Grow w w') (bin:=fun x y=>binS .neq 110 _ _ x y) ha hb (by omega) hla (fun r r' x y w1 hx hy=>by subst hx;subst hy;exact run_ne_chg _ _ _ _ w1) fun _ hg=>⟨rfl,hg⟩
 ·refine ⟨?_,Mod.refl _ _⟩
  congr 1;symm
  rw [decide_eq_false_iff_not]
  intro e;exact hlen (by rw [e])
theorem rsame_pat {S S':Nat→Prop} {a b:Value} {l m:List Chg} {w:World} (ha:SlR S 6 RChg w a l) (hb:SlR S' 6 RChg w b m) :
  callK Tryz.prog 34 [a,b] (fun v w'=>v=.bool (decide (l=m))∧Grow w w') w:=by
 apply S34_ok
 unfold S34
 obtain ⟨pa,ca,rfl,hla⟩:=ha.shape
 obtain ⟨pb,cb,rfl,hlb⟩:=hb.shape
 simp only [lenK_i]
 rw [neK_i]
 refine condK_neg (fun hlen=>?_) fun hlen=>?_
 ·exact eq_loop (K:=fun v w'=>v=.bool (decide (l=m))∧Grow w w') (bin:=fun x y=>binS .neq 110 _ _ x y) ha hb (by omega) hla (fun r r' x y w1 hx hy=>by subst hx;subst hy;exact run_ne_chg _ _ _ _ w1) fun _ hg=>⟨rfl,hg⟩
 ·refine ⟨?_,Mod.refl _ _⟩
  congr 1;symm
  rw [decide_eq_false_iff_not]
  intro e;exact hlen (by rw [e])
end Go.Proofs.YtaimlfomodfekaaGreatDoor

namespace Go.K
open Go
theorem boxn_i {t:TypeId} {vs:List Value} {K:Cont} {w:World} (h:∀ b w1,b=w.heap.size→w1.heap.size=w.heap.size+1→Grow w w1→(∀ j v,vs[j]?=some v→w1.cell? ((⟨b,0,none⟩:Addr).add j)=some v)→(∀ j,j < vs.length→Live w1 ((⟨b,0,none⟩:Addr).add j))→K (.pointer (some ⟨b,0,none⟩)) w1):boxnK t (.agg vs.toArray) K w:=by
 refine ⟨vs,rfl,?_⟩
 refine h w.heap.size _ rfl (by simp) (Mod.alloc _ _ _) (fun j v hv=>cell_box hv) fun j hj=>?_
 have hadd:(⟨w.heap.size,0,none⟩:Addr).add j=⟨w.heap.size,j,none⟩:=by unfold Addr.add;split <;> simp_all
 rw [hadd]
 refine ⟨?_,World.frozen?_alloc_new ..⟩
 rw [World.cell?_alloc_new];simp [hj]
theorem newst_i {t:TypeId} {zs vs:List Value} {K:Value→World→Prop} {w:World} (hl:zs.length=vs.length) (h1:∀ v ∈ vs,v.oneCell'=true) (h:∀ b w1,b=w.heap.size→w1.heap.size=w.heap.size+1→Grow w w1→(∀ j v,vs[j]?=some v→w1.cell? ((⟨b,0,none⟩:Addr).add j)=some v)→(∀ j,j < vs.length→Live w1 ((⟨b,0,none⟩:Addr).add j))→K (.pointer (some ⟨b,0,none⟩)) w1) :
  newK t zs (fun t5 w3=>stnK vs.length t5 (.agg vs.toArray) (fun w4=>K t5 w4) w3) w:=by
 refine newK_i (stnew hl h1 ?_)
 obtain ⟨vs',e,h2⟩:=boxn_i (t:=t) (K:=K) (w:=w) h
 have:vs=vs':=by
  have:=congrArg Value.cells e
  simpa [Value.cells] using this
 subst this
 exact h2
theorem newst_n {t:TypeId} {n:Nat} {zs vs:List Value} {K:Value→World→Prop} {w:World} (hn:vs.length=n) (hl:zs.length=n) (h1:∀ v ∈ vs,v.oneCell'=true) (h:∀ b w1,b=w.heap.size→w1.heap.size=w.heap.size+1→Grow w w1→(∀ j v,vs[j]?=some v→w1.cell? ((⟨b,0,none⟩:Addr).add j)=some v)→(∀ j,j < vs.length→Live w1 ((⟨b,0,none⟩:Addr).add j))→K (.pointer (some ⟨b,0,none⟩)) w1) :
  newK t zs (fun t5 w3=>stnK n t5 (.agg vs.toArray) (fun w4=>K t5 w4) w3) w:=by
 subst hn;exact newst_i hl h1 h
theorem callyK_f {P:Program} {ok:Nat→Bool} {g:Nat} {args:List Value} {K:Cont} {w:World} (hok:ok g=true) (h:callK P g args K w):callyK P ok (.func (.func g) #[] #[]) args K w:=.inl ⟨g,[],[],rfl,hok,by simpa using h⟩
theorem sld1_i {St:Addr→Value→Prop} {a:Addr} {v:Value} {k:Value→Prop} (h:St a v) (hk:k v):sld1 St (.pointer (some a)) k:=⟨a,v,rfl,h,hk⟩
theorem sldn_i {St:Addr→Value→Prop} {m:Nat} {a:Addr} {vs:List Value} {k:Value→Prop} (hl:vs.length=m) (h:∀ j v,vs[j]?=some v→St (a.add j) v) (hk:k (.agg vs.toArray)):sldn St m (.pointer (some a)) k:=⟨a,vs,rfl,hl,h,hk⟩
theorem drawK_i {w:World} {F:(World→Prop)→Prop} (C:World→Prop) (h0:C w.drew) (h:F C):DrawK w F:=⟨C,h0,h⟩
theorem drawC_i {eff:List Nat} {AN:List (List Nat)} {w0:World} {F:(Nat→Nat→Prop)→(Nat→Addr→Value→Prop)→Prop} (M:Nat→Nat→Prop) (h:F M (StI eff AN M w0)):DrawC eff AN w0 F:=⟨M,h⟩
theorem setL_over {b:Nat}:∀ (vs:List Value) (i:Nat) (W:World),(∀ j,i≤j→j < i+vs.length→Live W ((⟨b,0,none⟩:Addr).add j))→
  Mod (fun x=>x=b) W (setL W ⟨b,0,none⟩ i vs)∧(∀ j u,vs[j]?=some u→(setL W ⟨b,0,none⟩ i vs).cell? ((⟨b,0,none⟩:Addr).add (i+j))=some u)∧(∀ j,j < i→(setL W ⟨b,0,none⟩ i vs).cell? ((⟨b,0,none⟩:Addr).add j)=W.cell? ((⟨b,0,none⟩:Addr).add j))∧(∀ a,Live W a→Live (setL W ⟨b,0,none⟩ i vs) a):=by
 intro vs
 induction vs with
 | nil=>intro i W _;exact ⟨Mod.refl _ _,fun j u hu=>by simp at hu,fun _ _=>rfl,fun _ h=>h⟩
 | cons x vs ih=>
  intro i W hl
  simp only [setL]
  obtain ⟨i1,i2,i3,i4⟩:=ih (i+1) (W.setCell ((⟨b,0,none⟩:Addr).add i) x) (fun j h1 h2=>(hl j (by omega) (by simp;omega)).set _ _)
  refine ⟨(Mod.setCell _ _ _ (by rw [addr0])).trans i1,fun j u hu=>?_,fun j hj=>?_,fun a ha=>i4 a (ha.set _ _)⟩
  ·cases j with
   | zero=>
    simp at hu;subst hu
    obtain ⟨u',hu'⟩:=Option.isSome_iff_exists.1 (hl i (Nat.le_refl _) (by simp)).1
    exact (i3 i (by omega)).trans (World.cell?_setCell_same _ _ _ hu')
   | succ j=>
    have:=i2 j u (by simpa using hu)
    rw [show i+(j+1)=i+1+j by omega];exact this
  ·rw [i3 j (by omega),World.cell?_setCell_other _ _ _ _ (by rw [addr0,addr0];intro e;simp only [Addr.mk.injEq] at e;omega)]
theorem stn_over {b n:Nat} {vs:List Value} {K:World→Prop} {W:World} (hn:vs.length=n) (h1:∀ v ∈ vs,v.oneCell'=true) (hl:∀ j,j < n→Live W ((⟨b,0,none⟩:Addr).add j))
  (hK:∀ W',Mod (fun x=>x=b) W W'→(∀ j u,vs[j]?=some u→W'.cell? ((⟨b,0,none⟩:Addr).add j)=some u)→(∀ a,Live W a→Live W' a)→K W'):stnK n (.pointer (some ⟨b,0,none⟩)) (.agg vs.toArray) K W:=by
 obtain ⟨q1,q2,_,q4⟩:=setL_over (b:=b) vs 0 W (fun j _ hj=>hl j (by omega))
 exact ⟨_,vs,rfl,rfl,hn,h1,fun j hj=>hl j hj,hK _ q1 (fun j u hu=>by have:=q2 j u hu;rwa [Nat.zero_add] at this) q4⟩
theorem newz_i {t:TypeId} {zs:List Value} {K:Cont} {w:World} (h:∀ b w1,b=w.heap.size→w1.heap.size=w.heap.size+1→Grow w w1→(∀ j v,zs[j]?=some v→w1.cell? ((⟨b,0,none⟩:Addr).add j)=some v)→(∀ j,j < zs.length→Live w1 ((⟨b,0,none⟩:Addr).add j))→K (.pointer (some ⟨b,0,none⟩)) w1):newK t zs K w:=by
 refine newK_i ?_
 obtain ⟨vs',e,h2⟩:=boxn_i (t:=t) (vs:=zs) (K:=K) (w:=w) h
 have:zs=vs':=by have:=congrArg Value.cells e;simpa [Value.cells] using this
 subst this
 exact h2
theorem loop_step {n:Nat} (h:(n:Int)+1≤9223372036854775807):Value.int .i64 (IntKind.i64.wrap ((n:Int)+1))=.int .i64 ((n+1:Nat):Int):=by
 rw [wrap64 (by omega) (by omega)];rfl
theorem iOf0 {q:IntKind} {n:Int} {r:List Value}:iOf (.int q n :: r) 0=n.toNat:=rfl
theorem iOf1 {a:Value} {q:IntKind} {n:Int} {r:List Value}:iOf (a :: .int q n :: r) 1=n.toNat:=rfl
end Go.K
namespace Go.Proofs.YtaimlfomodfekaaGreatDoor
open Go Go.K

end Go.Proofs.YtaimlfomodfekaaGreatDoor

namespace Go.K
open Go
theorem rem_i {P:Program} {t:TypeId} {xo yo:Operand} {k:IntKind} {a b:Int} {K:Cont} {w:World} (hb:b≠0) (h:K (.int k (a.tmod b)) w):runK P (binS .rem t xo yo (.int k a) (.int k b)) K w:=by
 refine ⟨_,_,?_,h⟩
 simp [binS,eqGuard_rem,binOp_rem,Op.intDiv,hb]
theorem quo_i {P:Program} {t:TypeId} {xo yo:Operand} {k:IntKind} {a b:Int} {K:Cont} {w:World} (hb:b≠0) (h:K (.int k (k.wrap (a.tdiv b))) w):runK P (binS .quo t xo yo (.int k a) (.int k b)) K w:=by
 refine ⟨_,_,?_,h⟩
 simp [binS,eqGuard_quo,binOp_quo,Op.intDiv,hb]
theorem slice_lo {α:Type} {P:Program} {t e k:Nat} {i:TypeInfo} {R:World→List Value→α→Prop} {S:Nat→Prop} {w:World} {a:Option Addr} {n c:Nat} {l:List α} {j:Nat} {K:Cont} (ht:P.underlying t=some (.slice e)) (hi:P.info? e=some i) (hk:i.size=k)
  (h:SlR S k R w (.slice a n c) l) (hj:j≤l.length) (hK:∀ v',SlR S k R w v' (l.drop j)→K v' w):runK P (Instr.sliceAt t (.slice a n c) (some (.int .i64 j)) none none) K w:=by
 obtain ⟨a',c',e1,h1,h2,h3⟩:=h
 cases e1
 have hel:P.elem t=e:=by simp [Program.elem,ht]
 refine ⟨sliced a j l.length c k,w,?_,hK _ ?_⟩
 ·rw [run_sliceAt_slice _ _ _ _ _ _ (by rw [hel];exact ht),run_slice_l _ _ _ _ _ (by rw [hel];exact ht) _ _ (by omega) (by omega),hel]
  simp [sizeOf,typeInfo,hi,hk]
 ·unfold sliced
  refine ⟨_,_,by rw [List.length_drop],by rw [List.length_drop];omega,by omega,fun q x hx=>?_⟩
  rw [List.getElem?_drop] at hx
  obtain ⟨p,r,rfl,hS,hr,hc,hR⟩:=h3 _ x hx
  have hlt:=(List.getElem?_eq_some_iff.1 hx).1
  rw [if_neg (by omega)]
  refine ⟨p.add (j * k),r,rfl,by rw [add_block];exact hS,hr,fun m u hu=>?_,hR⟩
  rw [Addr.add_add,←Nat.add_assoc,←Nat.add_mul]
  exact hc m u hu
end Go.K
namespace Go.Proofs.YtaimlfomodfekaaGreatDoor
open Go Go.K
abbrev RByte:World→List Value→Int→Prop:=fun _ r x=>r=[.int .u8 x]
abbrev RBytes (S:Nat→Prop) (w:World) (v:Value) (l:List Int):Prop:=SlR S 1 RByte w v l
def bytesL (s:ByteArray):List Int:=s.data.toList.map fun b=>(b.toNat:Int)
theorem rowK_i {e k len:Nat} {zero:List Value} {parts:List (Nat × Value)} {cs:List Value} {K:Cont} {w:World} (hf:Instr.fill (fun i=>some (i * k,k)) ((Array.range (len * k)).map (zero.toArray[· % zero.toArray.size]!)) parts=some cs.toArray) (h:K (.slice (some ⟨w.heap.size,0,none⟩) len len) (w.alloc (.cells cs.toArray e))):rowK e k len zero parts K w:=⟨_,hf,h⟩
theorem row1_i {q:IntKind} {e:Nat} {z a:Int} {K:Cont} {w:World} (h:∀ w',Grow w w'→w'.heap.size=w.heap.size+1→(∀ j v,[Value.int q a][j]?=some v→w'.cell? ((⟨w.heap.size,0,none⟩:Addr).add j)=some v)→K (.slice (some ⟨w.heap.size,0,none⟩) 1 1) w'):rowK e 1 1 [.int q z] [(0,.int q a)] K w:=
 rowK_i (cs:=[.int q a]) (by kernel_rfl) (h _ (Mod.alloc _ _ _) (by simp) fun j v hv=>cell_box hv)
end Go.Proofs.YtaimlfomodfekaaGreatDoor

namespace Go.K
open Go
theorem push_g2 {α:Type} {P:Program} {t e k bytes B:Nat} {R:World→List Value→α→Prop} {w:World} {v:Value} {l:List α} {x:α} {zero:List Value} {parts:List (Nat × Value)} {cs:List Value} {K:Cont} (hE:ElemOK P t e k bytes) (h:OwnR B e k R w v l) (hB:B≤w.heap.size)
  (hf:Instr.fill (fun i=>some (i * k,k)) ((Array.range (1 * k)).map (zero.toArray[· % zero.toArray.size]!)) parts=some cs.toArray) (hcs:cs.length=k) (hx:R w cs x) (hone:∀ w r y,R w r y→∀ u ∈ r,u.oneCell'=true)
  (hR:∀ w1 w2 r y,w.heap.size≤w1.heap.size→Mod (fun b=>v.ownBlock=some b∨w.heap.size≤b) w1 w2→R w1 r y→R w2 r y) (hlen:(l.length+1) * bytes≤140737488355328) (hlm:l.length+1≤maxLen)
  {Q1:World→Prop} {Q2:World→World→Prop} (hQ1:∀ w1,Grow w w1→Q1 w1)
  (hK:∀ w1 v' w',OwnR B e k R w' v' (l++[x])→Mod (fun b=>v.ownBlock=some b) w1 w'→Mod (fun b=>v.ownBlock=some b) w w'→(∀ g,v'.ownBlock=some g→v.ownBlock=some g∨w.heap.size≤g)→Q2 w1 w'∧K v' w') :
  rowK e k 1 zero parts (fun s w1=>Q1 w1∧runK P (Builtin.append_ #[t,t] t [v,s].toArray) (fun v' w'=>Q2 w1 w'∧K v' w') w1) w:=by
 refine ⟨_,hf,?_⟩
 have hg:Grow w (w.alloc (.cells cs.toArray e)):=Mod.alloc _ _ _
 have hc:∀ j u,cs[j]?=some u→(w.alloc (.cells cs.toArray e)).cell? ((⟨w.heap.size,0,none⟩:Addr).add j)=some u:=fun j u hu=>cell_box hu
 have hz:(w.alloc (.cells cs.toArray e)).heap.size=w.heap.size+1:=by simp
 generalize w.alloc (.cells cs.toArray e)=w1 at hg hc hz ⊢
 have h':OwnR B e k R w1 v l:=OwnR.mod h hg (fun _ _ h=>h) fun r y _ hy=>hR _ _ _ _ (Nat.le_refl _) hg.mod hy
 have hs:SlR (fun _=>True) k R w1 (.slice (some ⟨w.heap.size,0,none⟩) 1 1) [x]:=by
  refine ⟨_,1,rfl,Nat.le_refl _,by simp [maxLen],fun i y hy=>?_⟩
  have hi:i=0:=by have:=(List.getElem?_eq_some_iff.1 hy).1;simp at this;exact this
  subst hi
  simp at hy;subst hy
  exact ⟨_,cs,rfl,trivial,hcs,fun j u hu=>by rw [Nat.zero_mul,Nat.zero_add];exact hc j u hu,hR _ _ _ _ (Nat.le_refl _) hg.mod hx⟩
 obtain ⟨v',w',h1,h2,h3,h4⟩:=OwnR.append (ty:=t) hE h' hs (fun _ _=>hone _ _ _) (by simpa using hlen) (by omega) (by simpa using hlm) (fun w2 hg' r y hy=>hR _ _ _ _ (by omega) ((Mod.of_grownBy hg').mono fun b _ e=>.inl e) hy)
 refine ⟨hQ1 _ hg,runK_i h1 (hK w1 v' w' h2 (Mod.of_grownBy h3) (hg.mod.next (Mod.of_grownBy h3) fun _ _ h=>h) fun g hg'=>?_)⟩
 rcases h4 g hg' with h | h
 ·exact .inl h
 ·exact .inr (by omega)
theorem push_g {α:Type} {P:Program} {t e k bytes B:Nat} {R:World→List Value→α→Prop} {w:World} {v:Value} {l:List α} {x:α} {zero:List Value} {parts:List (Nat × Value)} {cs:List Value} {K:Cont} (hE:ElemOK P t e k bytes) (h:OwnR B e k R w v l) (hB:B≤w.heap.size)
  (hf:Instr.fill (fun i=>some (i * k,k)) ((Array.range (1 * k)).map (zero.toArray[· % zero.toArray.size]!)) parts=some cs.toArray) (hcs:cs.length=k) (hx:R w cs x) (hone:∀ w r y,R w r y→∀ u ∈ r,u.oneCell'=true)
  (hR:∀ w1 w2 r y,w.heap.size≤w1.heap.size→Mod (fun b=>v.ownBlock=some b∨w.heap.size≤b) w1 w2→R w1 r y→R w2 r y) (hlen:(l.length+1) * bytes≤140737488355328) (hlm:l.length+1≤maxLen)
  (hK:∀ v' w',OwnR B e k R w' v' (l++[x])→Mod (fun b=>v.ownBlock=some b) w w'→(∀ g,v'.ownBlock=some g→v.ownBlock=some g∨w.heap.size≤g)→K v' w') :
  rowK e k 1 zero parts (fun s w1=>runK P (Builtin.append_ #[t,t] t [v,s].toArray) K w1) w:=by
 obtain ⟨c,h1,_,v',w',h2,_,h3⟩:=push_g2 (t:=t) (K:=K) (Q1:=fun _=>True) (Q2:=fun _ _=>True) hE h hB hf hcs hx hone hR hlen hlm (fun _ _=>trivial) fun w1 v' w' k1 _ k2 k3=>⟨trivial,hK v' w' k1 k2 k3⟩
 exact ⟨c,h1,v',w',h2,h3⟩
theorem push_n {α:Type} {P:Program} {t e k bytes:Nat} {R:World→List Value→α→Prop} {w0 w:World} {v:Value} {l:List α} {x:α} {zero:List Value} {parts:List (Nat × Value)} {cs:List Value} {K:Cont} (hE:ElemOK P t e k bytes) (h:OwnR w0.heap.size e k R w v l) (hg:Grow w0 w)
  (hf:Instr.fill (fun i=>some (i * k,k)) ((Array.range (1 * k)).map (zero.toArray[· % zero.toArray.size]!)) parts=some cs.toArray) (hcs:cs.length=k) (hx:R w cs x) (hone:∀ w r y,R w r y→∀ u ∈ r,u.oneCell'=true)
  (hR:∀ w1 w2 r y,w.heap.size≤w1.heap.size→Mod (fun b=>v.ownBlock=some b∨w.heap.size≤b) w1 w2→R w1 r y→R w2 r y) (hlen:(l.length+1) * bytes≤140737488355328) (hlm:l.length+1≤maxLen)
  (hK:∀ v' w',OwnR w0.heap.size e k R w' v' (l++[x])→Grow w0 w'→K v' w') :
  rowK e k 1 zero parts (fun s w1=>runK P (Builtin.append_ #[t,t] t [v,s].toArray) K w1) w:=
 push_g hE h hg.size hf hcs hx hone hR hlen hlm fun v' w' h1 h2 _=>hK v' w' h1 (hg.next h2 fun b hb e=>by have:=(OwnR.ownB h b e).1;omega)
end Go.K
namespace Go.Proofs.YtaimlfomodfekaaGreatDoor
open Go Go.K

end Go.Proofs.YtaimlfomodfekaaGreatDoor

namespace Go.Proofs.YtaimlfomodfekaaGreatDoor
open Go Go.K

theorem cell_allocF (W:World) (c:Array Value) (t:TypeId) (fr:Nat × Nat) (i:Nat):(W.alloc (.cells c t fr)).cell? ⟨W.heap.size,i,none⟩=c[i]?:=by
 have h:(W.alloc (.cells c t fr)).heap[W.heap.size]?=some (.cells c t fr):=heap_alloc_new W _
 unfold World.cell?
 simp only [h]
 rfl
theorem AVal.one (v:AVal):∀ u ∈ v.cells,u.oneCell'=true:=by
 intro u hu
 simp only [AVal.cells,List.mem_cons,List.not_mem_nil,or_false] at hu
 rcases hu with rfl | rfl | rfl | rfl <;> rfl
def DKey.zero:DKey:=⟨0,false,0,false,false,0⟩
end Go.Proofs.YtaimlfomodfekaaGreatDoor

namespace Go.Proofs.YtaimlfomodfekaaGreatDoor
open Go Go.K

def szA (l:List Attr):Nat:=(l.map fun a=>a.val.s.size).sum
def szC (l:List Chg):Nat:=(l.map fun a=>a.val.s.size).sum
theorem mSet_eq (l:List Attr):mSet l=l.length+szA l:=by
 induction l with
 | nil=>rfl
 | cons a l ih=>simp only [mSet,szA,List.map_cons,List.sum_cons,List.length_cons,mAttr] at ih ⊢;omega
theorem mPat_eq (l:List Chg):mPat l=l.length+szC l:=by
 induction l with
 | nil=>rfl
 | cons a l ih=>simp only [mPat,szC,List.map_cons,List.sum_cons,List.length_cons,mChg] at ih ⊢;omega
theorem mDops_mem {l:List Dop} {o:Dop} (h:o ∈ l):mDop o≤mDops l:=by
 induction l with
 | nil=>simp at h
 | cons a l ih=>
  have e:mDops (a :: l)=mDop a+mDops l:=by simp [mDops]
  rcases List.mem_cons.1 h with rfl | h
  ·omega
  ·have:=ih h;omega
theorem mDops_len (l:List Dop):l.length≤mDops l:=by
 induction l with
 | nil=>exact Nat.zero_le _
 | cons a l ih=>simp only [mDops,List.map_cons,List.sum_cons,List.length_cons,mDop] at ih ⊢;omega
theorem mSet_mem {l:List Attr} {a:Attr} (h:a ∈ l):a.val.s.size+1≤mSet l:=by
 induction l with
 | nil=>simp at h
 | cons b l ih=>
  have e:mSet (b :: l)=mAttr b+mSet l:=by simp [mSet]
  rcases List.mem_cons.1 h with rfl | h
  ·simp only [mAttr] at e;omega
  ·have:=ih h;omega
theorem mPat_mem {l:List Chg} {a:Chg} (h:a ∈ l):a.val.s.size+1≤mPat l:=by
 induction l with
 | nil=>simp at h
 | cons b l ih=>
  have e:mPat (b :: l)=mChg b+mPat l:=by simp [mPat]
  rcases List.mem_cons.1 h with rfl | h
  ·simp only [mChg] at e;omega
  ·have:=ih h;omega
end Go.Proofs.YtaimlfomodfekaaGreatDoor

namespace Go.Proofs.YtaimlfomodfekaaGreatDoor
open Go Go.K

abbrev row5 (o:Dop) (rv sv pv:Value):List Value:=[.int .u8 o.kind,.int .i64 o.n,rv,sv,pv]
end Go.Proofs.YtaimlfomodfekaaGreatDoor

namespace Go.Proofs.YtaimlfomodfekaaGreatDoor
open Go Go.K

theorem rsame_dops {S S' D D':Nat→Prop} {a b:Value} {x y:List Dop} {w:World} (ha:RDops S D w a x) (hb:RDops S' D' w b y) :
  callK Tryz.prog 33 [a,b] (fun v w'=>v=.bool (decide (x=y))∧Grow w w') w:=by
 apply S33_ok
 unfold S33
 obtain ⟨pa,ca,rfl,hla⟩:=ha.shape
 obtain ⟨pb,cb,rfl,hlb⟩:=hb.shape
 simp only [maxLen] at hla
 have no:∀ w',Grow w w'→x≠y→Value.bool false=.bool (decide (x=y))∧Grow w w':=fun w' g hn=>⟨by rw [decide_eq_false hn],g⟩
 rw [lenK_i,lenK_i,neK_i]
 refine condK_neg (fun hlen=>?_) fun hne=>no _ (Mod.refl _ _) fun e=>hne (by rw [e])
 have hlen':x.length=y.length:=by omega
 refine LoopK_i (fun vs w1=>∃ i:Nat,i≤x.length∧vs=[.int .i64 i]∧Grow w w1∧x.take i=y.take i) (fun vs _=>x.length - iOf vs 0) ⟨0,Nat.zero_le _,rfl,Mod.refl _ _,rfl⟩ ?_
 rintro vs w1 ⟨i,hi,rfl,g1,ht⟩ _
 rw [lenK_i,nth_z,List.headD_cons,ltK_i]
 refine condK_p (fun hlt=>?_) fun hge=>?_
 ·have hlt':i < x.length:=by omega
  have hlt2:i < y.length:=by omega
  have no2:∀ w',Grow w w'→x[i]≠y[i]→Value.bool false=.bool (decide (x=y))∧Grow w w':=fun w' g hn=>no w' g (by rintro rfl;exact hn rfl)
  refine JoinK_i (fun _ w2=>Grow w w2∧x[i]=y[i]) ?_ ?_
  ·rintro _ w2 ⟨g2,he⟩ _
   rw [addK_i,loop_step (by omega)]
   refine ⟨⟨i+1,hlt',rfl,g2,?_⟩,by rw [iOf0,iOf0];omega⟩
   rw [List.take_add_one,List.take_add_one,ht,List.getElem?_eq_getElem hlt',List.getElem?_eq_getElem hlt2,he]
  ·obtain ⟨p,r,rfl,_,hr,hc,hx⟩:=(RDops.grow ha g1).get hlt'
   obtain ⟨p',r',rfl,_,hr',hc',hy⟩:=(RDops.grow hb g1).get hlt2
   refine JoinK_i (fun vs w3=>∃ b6 b7,vs=[.pointer (some ⟨b6,0,none⟩),.pointer (some ⟨b7,0,none⟩)]∧Grow w1 w3∧(∀ j u,r[j]?=some u→w3.cell? ((⟨b6,0,none⟩:Addr).add j)=some u)∧(∀ j u,r'[j]?=some u→w3.cell? ((⟨b7,0,none⟩:Addr).add j)=some u)) ?_ ?_
   ·rintro _ w3 ⟨b6,b7,rfl,g3,c6,c7⟩ _
    have hx3:=hx.mod (D':=D) g3 (fun _ _ _ h=>h) fun _ _ h=>h
    have hy3:=hy.mod (D':=D') g3 (fun _ _ _ h=>h) fun _ _ h=>h
    obtain ⟨rv,sv,pv,rfl,x1,x2,x3⟩:=hx3
    obtain ⟨rv',sv',pv',rfl,y1,y2,y3⟩:=hy3
    have g13:=g1.trans g3
    show faK 0 (.pointer (some ⟨b6,0,none⟩)) _
    simp only [nth_z,nth_s,List.headD_cons,List.tail_cons,faK_i]
    refine ld1K_i (c6 0 _ rfl) (ld1K_i (c7 0 _ rfl) ?_)
    rw [neK_i]
    refine condK_neg (fun e1=>?_) fun hne=>no2 _ g13 fun e=>hne (by rw [e])
    refine ld1K_i (c6 1 _ rfl) (ld1K_i (c7 1 _ rfl) ?_)
    rw [neK_i]
    refine condK_neg (fun e2=>?_) fun hne=>no2 _ g13 fun e=>hne (by rw [e])
    refine ld1K_i (c6 2 _ rfl) (ld1K_i (c7 2 _ rfl) ?_)
    refine callK_mono (rsame_run x1 y1) ?_
    rintro _ w4 ⟨rfl,g4⟩
    rw [notK_i]
    refine condK_neg (fun e3=>?_) fun hne=>no2 _ (g13.trans g4) fun e=>hne (by rw [e])
    refine ld1K_i (g4.cell (c6 3 _ rfl) fun h=>h) (ld1K_i (g4.cell (c7 3 _ rfl) fun h=>h) ?_)
    refine callK_mono (rsame_set (x2.grow g4 (by decide) fun _ _ h=>h) (y2.grow g4 (by decide) fun _ _ h=>h)) ?_
    rintro _ w5 ⟨rfl,g5⟩
    rw [notK_i]
    have g45:=g4.trans g5
    refine condK_neg (fun e4=>?_) fun hne=>no2 _ (g13.trans g45) fun e=>hne (by rw [e])
    refine ld1K_i (g45.cell (c6 4 _ rfl) fun h=>h) (ld1K_i (g45.cell (c7 4 _ rfl) fun h=>h) ?_)
    refine callK_mono (rsame_pat (x3.grow g45 (by decide) fun _ _ h=>h) (y3.grow g45 (by decide) fun _ _ h=>h)) ?_
    rintro _ w6 ⟨rfl,g6⟩
    rw [notK_i]
    refine condK_neg (fun e5=>⟨(g13.trans g45).trans g6,?_⟩) fun hne=>no2 _ ((g13.trans g45).trans g6) fun e=>hne (by rw [e])
    have eta:∀ o:Dop,o=⟨o.kind,o.n,o.runes,o.set,o.patch⟩:=fun _=>rfl
    rw [eta x[i],eta y[i],e1,e2,e3,e4,e5]
   ·refine drawC_i (fun k y=>(k=10∨k=11)∧w1.heap.size≤y) ?_
    have gd:Grow w1 w1.drew:=Mod.drew _ _
    have one:=RDop.one hx
    have one':=RDop.one hy
    have zd:=gd.size
    refine ixK_n hlt' (sldn_i hr (fun j u hu=>⟨by rw [Addr.add_add];exact gd.cell (hc j u hu) fun h=>h,fun k hk e=>?_⟩) ?_)
    ·rcases e with ⟨rfl | rfl,_⟩ <;> exact absurd hk (by decide)
    refine ixK_n hlt2 (sldn_i hr' (fun j u hu=>⟨by rw [Addr.add_add];exact gd.cell (hc' j u hu) fun h=>h,fun k hk e=>?_⟩) ?_)
    ·have:=World.block_lt_of_cell? w1 _ (hc' j u hu)
     rw [add_block] at this
     rw [add_block,add_block] at e
     omega
    refine ⟨?_,?_⟩
    ·refine newz_i fun b6 w17 hb6 hz6 g6 _ hl6=>⟨g6.mono fun _ _ h=>h.elim,?_⟩
     refine newz_i fun b7 w18 hb7 hz7 g7 _ hl7=>⟨g7.mono fun _ _ h=>h.elim,?_⟩
     refine stn_over hr one (fun j hj=>(hl6 j hj).mod g7 fun h=>h) fun w19 m19 hc6 _=>⟨m19.mono fun y _ e=>⟨.inl rfl,by omega⟩,?_⟩
     refine stn_over hr' one' (fun j hj=>(hl7 j hj).mod m19 fun e=>absurd (show b7=b6 by rw [addr0] at e;exact e) (by omega)) fun w20 m20 hc7 _=>⟨m20.mono fun y _ e=>⟨.inr rfl,by omega⟩,b6,b7,rfl,?_,fun j u hu=>m20.cell (hc6 j u hu) fun e=>absurd (show b6=b7 by rw [addr0] at e;exact e) (by omega),hc7⟩
     exact (((gd.trans g6).trans g7).next m19 fun x hx e=>by omega).next m20 fun x hx e=>by omega
    ·refine newz_i fun b7 w17 hb7 hz7 g7 _ hl7=>⟨g7.mono fun _ _ h=>h.elim,?_⟩
     refine newz_i fun b6 w18 hb6 hz6 g6 _ hl6=>⟨g6.mono fun _ _ h=>h.elim,?_⟩
     refine stn_over hr one hl6 fun w19 m19 hc6 _=>⟨m19.mono fun y _ e=>⟨.inl rfl,by omega⟩,?_⟩
     refine stn_over hr' one' (fun j hj=>((hl7 j hj).mod g6 fun h=>h).mod m19 fun e=>absurd (show b7=b6 by rw [addr0] at e;exact e) (by omega)) fun w20 m20 hc7 _=>⟨m20.mono fun y _ e=>⟨.inr rfl,by omega⟩,b6,b7,rfl,?_,fun j u hu=>m20.cell (hc6 j u hu) fun e=>absurd (show b6=b7 by rw [addr0] at e;exact e) (by omega),hc7⟩
     exact (((gd.trans g7).trans g6).next m19 fun x hx e=>by omega).next m20 fun x hx e=>by omega
 ·have:i=x.length:=by omega
  subst this
  rw [List.take_length,hlen',List.take_length] at ht
  exact ⟨by rw [decide_eq_true ht],g1⟩
end Go.Proofs.YtaimlfomodfekaaGreatDoor

namespace Go.K
open Go
theorem SlR.rows {α:Type} {S:Nat→Prop} {k:Nat} {R:World→List Value→α→Prop} {w:World} {a:Option Addr} {c n:Nat} {m:List α} (hx:SlR S k R w (.slice a n c) m) (hone:∀ r y,R w r y→∀ u ∈ r,u.oneCell'=true) :
  ∃ rows':List (List Value),rows'.length=m.length∧(∀ (i:Nat) (r:List Value),rows'[i]?=some r→r.length=k∧(∀ u ∈ r,u.oneCell'=true)∧(∃ p,a=some p∧∀ j u,r[j]?=some u→w.cell? (p.add (i * k+j))=some u)∧∃ y,m[i]?=some y∧R w r y):=by
 obtain ⟨a',c',e,_,_,hel⟩:=hx
 cases e
 have gen:∀ q,q≤m.length→∃ rows':List (List Value),rows'.length=q∧(∀ (i:Nat) (r:List Value),rows'[i]?=some r→r.length=k∧(∀ u ∈ r,u.oneCell'=true)∧(∃ p,a=some p∧∀ j u,r[j]?=some u→w.cell? (p.add (i * k+j))=some u)∧∃ y,m[i]?=some y∧R w r y):=by
  intro q
  induction q with
  | zero=>exact fun _=>⟨[],rfl,fun i r h=>by simp at h⟩
  | succ q ih=>
   intro hq
   obtain ⟨rs,e1,e2⟩:=ih (by omega)
   obtain ⟨p,r,f1,f2,f3,f4,f5⟩:=hel q m[q] (by simp [show q < m.length by omega])
   refine ⟨rs++[r],by simp [e1],fun i r' hr'=>?_⟩
   by_cases hi:i < q
   ·rw [List.getElem?_append_left (by omega)] at hr';exact e2 i r' hr'
   ·have:i=q:=by have:=(List.getElem?_eq_some_iff.1 hr').1;simp [e1] at this;omega
    subst this
    rw [List.getElem?_append_right (by omega)] at hr'
    simp [e1] at hr'
    subst hr'
    exact ⟨f3,hone _ _ f5,⟨p,f1,f4⟩,m[i],by simp [show i < m.length by omega],f5⟩
 exact gen m.length (Nat.le_refl _)
theorem append_new {α:Type} {P:Program} {t ty e k bytes b:Nat} {R:World→List Value→α→Prop} {S:Nat→Prop} {w:World} {x:Value} {m:List α} (hE:ElemOK P t e k bytes) (hb:w.heap[b]?=some (.cells #[] e (0,0))) (hx:SlR S k R w x m)
  (hone:∀ w r y,R w r y→∀ u ∈ r,u.oneCell'=true) (h63:m.length * bytes≤140737488355328) (hR:∀ w',w.grownBy w' (some b)→∀ r y,R w r y→R w' r y) :
  ∃ v' w',(Builtin.append_ #[t,t] ty [.slice (some ⟨b,0,none⟩) 0 0,x].toArray).run P w=.ok v' w'∧OwnR b e k R w' v' m∧Grow w w'∧∀ g,v'.ownBlock=some g→g=b∨w.heap.size≤g:=by
 obtain ⟨a,c,rfl,hm⟩:=hx.shape
 have hlt:b < w.heap.size:=(Array.getElem?_eq_some_iff.1 hb).1
 have ho:OwnR b e k R w (.slice (some ⟨b,0,none⟩) 0 0) ([]:List α):=⟨[],⟨by simp,.inr ⟨b,0,#[],rfl,Nat.le_refl _,hb,Nat.le_refl _,by simp [maxLen],by simp,by simp⟩⟩,rfl,by simp,by simp⟩
 obtain ⟨v',w',hrun,r2,r3,r4⟩:=OwnR.append (ty:=ty) hE ho hx (fun _ _=>hone _ _ _) (by simpa using h63) (by omega) (by simpa using hm) (fun w' hg r y hy=>hR w' hg r y hy)
 refine ⟨v',w',hrun,by simpa using r2,?_,fun g hg=>?_⟩
 ·obtain ⟨i,z,ht,hi,hz,hs,hbt,hzs,hk⟩:=hE
  obtain ⟨rows',g1,g2⟩:=SlR.rows hx (fun _ _=>hone _ _ _)
  have hlen:∀ r ∈ rows',r.length=k:=fun r hr=>by obtain ⟨j,hj⟩:=List.mem_iff_getElem?.1 hr;exact (g2 j r hj).1
  simp only [maxLen] at hm
  by_cases hm0:m.length=0
  ·have h0:(Builtin.append_ #[t,t] ty [.slice (some ⟨b,0,none⟩) 0 0,.slice a m.length c].toArray).run P w=.ok (.slice (some ⟨b,0,none⟩) 0 0) w:=by
    rw [hm0]
    cases a <;> simp [Builtin.append_,run_underlying ht,sizeOf,typeInfo,hi,Builtin.lenOf,Builtin.firstCells,storeCells,loadCells,loadCellsFrom]
   rw [h0] at hrun
   cases hrun
   exact Mod.refl _ _
  ·obtain ⟨p,r,f1,_⟩:=hx.get (i:=0) (by omega)
   subst f1
   have hr:=run_append_grow (P:=P) w t ty e i z ht hi hz ⟨b,0,none⟩ 0 0 [] (by simp) (by simp) p m.length c rows'.flatten (by rw [flat_len rows' hlen,g1,hs]) (fun q u hu=>by
    obtain ⟨r,hr,hru⟩:=flat_of_get hk rows' hlen q u hu
    obtain ⟨_,_,⟨p',hp',hc'⟩,_⟩:=g2 _ r hr
    cases hp'
    have:=hc' _ u hru
    rwa [Nat.div_add_mod'] at this) (by omega) (by omega) (growslice_fits (by omega) (by rw [hbt];simpa using h63))
   have hr':(Builtin.append_ #[t,t] ty [.slice (some ⟨b,0,none⟩) 0 0,.slice (some p) m.length c].toArray).run P w=_:=hr
   rw [hr'] at hrun
   cases hrun
   exact (Mod.drew _ _).trans (Mod.alloc _ _ _)
 ·rcases r4 g hg with h | h
  ·exact .inl (by simpa [Value.ownBlock] using h.symm)
  ·exact .inr h
end Go.K

namespace Go.Proofs.YtaimlfomodfekaaGreatDoor
open Go Go.K

def EmB (z e:Nat) (t:Value) (W:World):Prop:=∃ b,t=.slice (some ⟨b,0,none⟩) 0 0∧z≤b∧W.heap[b]?=some (.cells #[] e (0,0))
theorem EmB.grow {z e:Nat} {t:Value} {W W':World} (h:EmB z e t W) (g:Grow W W'):EmB z e t W':=by
 obtain ⟨b,e1,e2,e3⟩:=h
 exact ⟨b,e1,e2,(g.same b (Array.getElem?_eq_some_iff.1 e3).1 fun h=>h).trans e3⟩
def CQ (z:Nat) (o:Dop) (W0:World) (p5 p8 p9 p12 p13 p16:Option Value) (W:World):Prop:=
 Grow W0 W∧(∀ t,p5=some t→EmB z 21 t W)∧(∀ t,p8=some t→OwnR z 21 1 RRune W t o.runes)∧(∀ t,p9=some t→EmB z 121 t W)∧(∀ t,p12=some t→OwnR z 121 5 RAttr W t o.set)∧(∀ t,p13=some t→EmB z 110 t W)∧∀ t,p16=some t→OwnR z 110 6 RChg W t o.patch
variable {z:Nat} {o:Dop} {W0 W W':World} {p5 p8 p9 p12 p13 p16:Option Value} {K:Value→World→Prop} {M:Nat→Prop}
theorem CQ.grow (h:CQ z o W0 p5 p8 p9 p12 p13 p16 W) (g:Grow W W'):CQ z o W0 p5 p8 p9 p12 p13 p16 W':=
 ⟨h.1.trans g,fun t e=>(h.2.1 t e).grow g,fun t e=>OwnR.mod (h.2.2.1 t e) g (fun _ _ h=>h) fun _ _ _ h=>h,fun t e=>(h.2.2.2.1 t e).grow g,fun t e=>OwnR.mod (h.2.2.2.2.1 t e) g (fun _ _ h=>h) fun _ _ _ h=>h,fun t e=>(h.2.2.2.2.2.1 t e).grow g,fun t e=>OwnR.mod (h.2.2.2.2.2.2 t e) g (fun _ _ h=>h) fun _ _ _ h=>h⟩
theorem CQ.s5 (hz:z≤W0.heap.size) (h:CQ z o W0 p5 p8 p9 p12 p13 p16 W) (hK:∀ t W',CQ z o W0 (some t) p8 p9 p12 p13 p16 W'→K t W'):rowK 21 1 0 [] [] (fun t W'=>Mod M W W'∧K t W') W:=by
 have g:Grow W (W.alloc (.cells #[] 21)):=Mod.alloc _ _ _
 have hg:=h.grow g
 have hsz:=h.1.size
 refine rowK_empty ⟨g.mono fun _ _ h=>h.elim,hK _ _ ⟨hg.1,fun t e=>?_,hg.2.2.1,hg.2.2.2.1,hg.2.2.2.2.1,hg.2.2.2.2.2.1,hg.2.2.2.2.2.2⟩⟩
 cases e
 exact ⟨_,rfl,by omega,(MapKept.heap_alloc W _).1⟩
theorem CQ.s8 {S:Nat→Prop} {v t0:Value} (hz:z≤W0.heap.size) (hv:SlR S 1 RRune W0 v o.runes) (hl:o.runes.length * 4≤140737488355328) (h:CQ z o W0 (some t0) p8 p9 p12 p13 p16 W) (hK:∀ t W',CQ z o W0 (some t0) (some t) p9 p12 p13 p16 W'→K t W'):runK Tryz.prog (Builtin.append_ #[77,77] 77 [t0,v].toArray) (fun t W'=>Mod M W W'∧K t W') W:=by
 obtain ⟨b,e1,e2,e3⟩:=h.2.1 t0 rfl
 subst e1
 have hsz:=h.1.size
 have hv':SlR S 1 RRune W v o.runes:=SlR.grow hv h.1 (by decide) fun _ _ h=>h
 obtain ⟨v',w',r1,r2,r3,r4⟩:=append_new (ty:=77) elem_rune e3 hv' (fun _ _ _=>RRune.one) hl fun _ _ _ _ h=>h
 have hg:=h.grow r3
 refine runK_i r1 ⟨r3.mono fun _ _ h=>h.elim,hK _ _ ⟨hg.1,hg.2.1,fun t e=>?_,hg.2.2.2.1,hg.2.2.2.2.1,hg.2.2.2.2.2.1,hg.2.2.2.2.2.2⟩⟩
 cases e
 exact r2.base fun g hgg=>by rcases r4 g hgg with h | h <;> omega
theorem CQ.s9 (hz:z≤W0.heap.size) (h:CQ z o W0 p5 p8 p9 p12 p13 p16 W) (hK:∀ t W',CQ z o W0 p5 p8 (some t) p12 p13 p16 W'→K t W'):rowK 121 5 0 [] [] (fun t W'=>Mod M W W'∧K t W') W:=by
 have g:Grow W (W.alloc (.cells #[] 121)):=Mod.alloc _ _ _
 have hg:=h.grow g
 have hsz:=h.1.size
 refine rowK_empty ⟨g.mono fun _ _ h=>h.elim,hK _ _ ⟨hg.1,hg.2.1,hg.2.2.1,fun t e=>?_,hg.2.2.2.2.1,hg.2.2.2.2.2.1,hg.2.2.2.2.2.2⟩⟩
 cases e
 exact ⟨_,rfl,by omega,(MapKept.heap_alloc W _).1⟩
theorem CQ.s12 {S:Nat→Prop} {v t0:Value} (hz:z≤W0.heap.size) (hv:SlR S 5 RAttr W0 v o.set) (hl:o.set.length * 48≤140737488355328) (h:CQ z o W0 p5 p8 (some t0) p12 p13 p16 W) (hK:∀ t W',CQ z o W0 p5 p8 (some t0) (some t) p13 p16 W'→K t W'):runK Tryz.prog (Builtin.append_ #[78,78] 78 [t0,v].toArray) (fun t W'=>Mod M W W'∧K t W') W:=by
 obtain ⟨b,e1,e2,e3⟩:=h.2.2.2.1 t0 rfl
 subst e1
 have hsz:=h.1.size
 have hv':SlR S 5 RAttr W v o.set:=SlR.grow hv h.1 (by decide) fun _ _ h=>h
 obtain ⟨v',w',r1,r2,r3,r4⟩:=append_new (ty:=78) elem_attr e3 hv' (fun _ _ _=>RAttr.one) hl fun _ _ _ _ h=>h
 have hg:=h.grow r3
 refine runK_i r1 ⟨r3.mono fun _ _ h=>h.elim,hK _ _ ⟨hg.1,hg.2.1,hg.2.2.1,hg.2.2.2.1,fun t e=>?_,hg.2.2.2.2.2.1,hg.2.2.2.2.2.2⟩⟩
 cases e
 exact r2.base fun g hgg=>by rcases r4 g hgg with h | h <;> omega
theorem CQ.s13 (hz:z≤W0.heap.size) (h:CQ z o W0 p5 p8 p9 p12 p13 p16 W) (hK:∀ t W',CQ z o W0 p5 p8 p9 p12 (some t) p16 W'→K t W'):rowK 110 6 0 [] [] (fun t W'=>Mod M W W'∧K t W') W:=by
 have g:Grow W (W.alloc (.cells #[] 110)):=Mod.alloc _ _ _
 have hg:=h.grow g
 have hsz:=h.1.size
 refine rowK_empty ⟨g.mono fun _ _ h=>h.elim,hK _ _ ⟨hg.1,hg.2.1,hg.2.2.1,hg.2.2.2.1,hg.2.2.2.2.1,fun t e=>?_,hg.2.2.2.2.2.2⟩⟩
 cases e
 exact ⟨_,rfl,by omega,(MapKept.heap_alloc W _).1⟩
theorem CQ.s16 {S:Nat→Prop} {v t0:Value} (hz:z≤W0.heap.size) (hv:SlR S 6 RChg W0 v o.patch) (hl:o.patch.length * 56≤140737488355328) (h:CQ z o W0 p5 p8 p9 p12 (some t0) p16 W) (hK:∀ t W',CQ z o W0 p5 p8 p9 p12 (some t0) (some t) W'→K t W'):runK Tryz.prog (Builtin.append_ #[50,50] 50 [t0,v].toArray) (fun t W'=>Mod M W W'∧K t W') W:=by
 obtain ⟨b,e1,e2,e3⟩:=h.2.2.2.2.2.1 t0 rfl
 subst e1
 have hsz:=h.1.size
 have hv':SlR S 6 RChg W v o.patch:=SlR.grow hv h.1 (by decide) fun _ _ h=>h
 obtain ⟨v',w',r1,r2,r3,r4⟩:=append_new (ty:=50) elem_chg e3 hv' (fun _ _ _=>RChg.one) hl fun _ _ _ _ h=>h
 have hg:=h.grow r3
 refine runK_i r1 ⟨r3.mono fun _ _ h=>h.elim,hK _ _ ⟨hg.1,hg.2.1,hg.2.2.1,hg.2.2.2.1,hg.2.2.2.2.1,hg.2.2.2.2.2.1,fun t e=>?_⟩⟩
 cases e
 exact r2.base fun g hgg=>by rcases r4 g hgg with h | h <;> omega
set_option maxRecDepth 100000 in
set_option maxHeartbeats 0 in
theorem rcopy_dops {S D:Nat→Prop} {v:Value} {x:List Dop} {w:World} (h:RDops S D w v x) (hb:mDops x≤1099511627776) :
  callK Tryz.prog 20 [v] (fun v' w'=>ODops w.heap.size w' v' x∧Grow w w') w:=by
 apply S20_ok
 unfold S20
 have hxl:=mDops_len x
 obtain ⟨a,c,rfl,hmx⟩:=h.shape
 have hsz:∀ o ∈ x,o.runes.length * 4≤140737488355328∧o.set.length * 48≤140737488355328∧o.patch.length * 56≤140737488355328:=by
  intro o ho
  have:=mDops_mem ho
  simp only [mDop,mSet_eq,mPat_eq] at this
  omega
 refine LoopK_i (fun vs W=>∃ (i:Nat) (ov:Value),i≤x.length∧vs=[ov,.int .i64 i]∧ODops w.heap.size W ov (x.take i)∧Grow w W) (fun vs _=>x.length - iOf vs 1) ⟨0,_,Nat.zero_le _,rfl,OwnR.nil,Mod.refl _ _⟩ ?_
 rintro vs W ⟨i,ov,hi,rfl,ho,gW⟩ _
 rw [lenK_i]
 show ltK .i64 (.int .i64 i) _ _
 rw [ltK_i]
 refine condK_p (fun hlt=>?_) fun hge=>?_
 ·have hlt':i < x.length:=by omega
  refine JoinK_i (fun vs W'=>∃ ov',vs=[ov']∧ODops w.heap.size W' ov' (x.take (i+1))∧Grow w W') ?_ ?_
  ·rintro _ W' ⟨ov',rfl,h1,h2⟩ _
   show addK .i64 (.int .i64 i) _ _
   rw [addK_i,loop_step (by omega)]
   exact ⟨⟨i+1,ov',hlt',rfl,h1,h2⟩,by rw [iOf1,iOf1];omega⟩
  obtain ⟨p,r,rfl,_,hr,hc0,hx⟩:=h.get hlt'
  have hc:∀ j u,r[j]?=some u→W.cell? (p.add (i * 5+j))=some u:=fun j u hu=>gW.cell (hc0 j u hu) fun h=>h
  refine ixK_n hlt' (ldnK_i hr (fun j u hu=>by rw [Addr.add_add];exact hc j u hu) ?_)
  refine newst_n hr rfl (RDop.one hx) fun b5 W4 hb5 hz5 g5 hc5 _=>?_
  have hx4:=hx.mod (D':=fun b=>b < w.heap.size) (gW.trans g5) (fun _ _ _ h=>h) fun _ hb _=>hb
  have gd:Grow W4 W4.drew:=Mod.drew _ _
  obtain ⟨rv,sv,pv,rfl,q1,q2,q3⟩:=hx4
  have hov:∀ y,ov.ownBlock=some y→y < W.heap.size∧w.heap.size≤y:=fun y hy=>⟨(OwnR.ownB ho y hy).2,(OwnR.ownB ho y hy).1⟩
  obtain ⟨z1,z2,z3⟩:=hsz x[i] (by simp)
  have zw:w.heap.size≤W.heap.size:=gW.size
  have d1:RRun (fun b=>b < w.heap.size) W4.drew rv x[i].runes:=q1.grow gd (by decide) fun _ _ h=>h
  have d2:RSet (fun b=>b < w.heap.size) W4.drew sv x[i].set:=q2.grow gd (by decide) fun _ _ h=>h
  have d3:RPat (fun b=>b < w.heap.size) W4.drew pv x[i].patch:=q3.grow gd (by decide) fun _ _ h=>h
  have ld:∀ {q:Nat} {u:Value},[Value.int .u8 x[i].kind,.int .i64 x[i].n,rv,sv,pv][q]?=some u→W4.drew.cell? ((⟨b5,0,none⟩:Addr).add q)=some u:=fun hu=>gd.cell (hc5 _ _ hu) fun h=>h
  have lm:∀ {q k:Nat},¬ (k=19∧ov.ownBlock=some ((⟨b5,0,none⟩:Addr).add q).block):=fun e=>by
   have e2:=hov _ e.2
   rw [add_block] at e2
   have:b5 < W.heap.size:=e2.1
   omega
  refine drawC_i (fun k y=>k=19∧ov.ownBlock=some y) ?_
  rw [faK_i];refine sld1_i ⟨ld rfl,fun j hj=>lm⟩ ?_
  rw [faK_i];refine sld1_i ⟨ld rfl,fun j hj=>lm⟩ ?_
  rw [faK_i];refine sld1_i ⟨ld rfl,fun j hj=>lm⟩ ?_
  rw [faK_i];refine sld1_i ⟨ld rfl,fun j hj=>lm⟩ ?_
  rw [faK_i];refine sld1_i ⟨ld rfl,fun j hj=>lm⟩ ?_
  have hz:W4.heap.size≤W4.drew.heap.size:=Nat.le_refl _
  have h0:CQ W4.heap.size x[i] W4.drew none none none none none none W4.drew:=⟨Mod.refl _ _,fun _ e=>(by cases e),fun _ e=>(by cases e),fun _ e=>(by cases e),fun _ e=>(by cases e),fun _ e=>(by cases e),fun _ e=>(by cases e)⟩
  have fin:∀ {t5 t8 t9 t12 t13 t16:Value} {W5:World},CQ W4.heap.size x[i] W4.drew (some t5) (some t8) (some t9) (some t12) (some t13) (some t16) W5→
    buildK [(0,1),(1,1),(2,1),(3,1),(4,1)] [(.int .u8 0),(.int .i64 0),(.slice none 0 0),(.slice none 0 0),(.slice none 0 0)] [(0,.int .u8 x[i].kind),(1,.int .i64 x[i].n),(2,t8),(3,t12),(4,t16)] fun t33=>
    rowK 80 5 1 [(.int .u8 0),(.int .i64 0),(.slice none 0 0),(.slice none 0 0),(.slice none 0 0)] [(0,t33)] (fun t34 w12=>
     Mod (fun y=>18=19∧ov.ownBlock=some y) W5 w12∧
     runK Tryz.prog (Builtin.append_ #[49,49] 49 [ov,t34].toArray) (fun t35 w13=>
      Mod (fun y=>19=19∧ov.ownBlock=some y) w12 w13∧(∃ ov',[t35]=[ov']∧ODops w.heap.size w13 ov' (x.take (i+1))∧Grow w w13)) w12) W5:=by
   intro t5 t8 t9 t12 t13 t16 W5 hq
   have h8:=hq.2.2.1 _ rfl
   have h12:=hq.2.2.2.2.1 _ rfl
   have h16:=hq.2.2.2.2.2.2 _ rfl
   have gq:=hq.1
   have sh:∀ {e k:Nat} {β:Type} {R:World→List Value→β→Prop} {v:Value} {l:List β},OwnR W4.heap.size e k R W5 v l→∃ a n c,v=.slice a n c:=fun h=>by obtain ⟨a,c,rfl,_⟩:=h.shape;exact ⟨_,_,_,rfl⟩
   obtain ⟨a8,n8,c8,rfl⟩:=sh h8
   obtain ⟨a12,n12,c12,rfl⟩:=sh h12
   obtain ⟨a16,n16,c16,rfl⟩:=sh h16
   refine ⟨(row5 x[i] (.slice a8 n8 c8) (.slice a12 n12 c12) (.slice a16 n16 c16)).toArray,by kernel_rfl,?_⟩
   refine rowK_i (cs:=([row5 x[i] (.slice a8 n8 c8) (.slice a12 n12 c12) (.slice a16 n16 c16)]:List (List Value)).flatten) (by kernel_rfl) ⟨Mod.alloc _ _ _,?_⟩
   have ga:Grow W5 (W5.alloc (.cells ([row5 x[i] (.slice a8 n8 c8) (.slice a12 n12 c12) (.slice a16 n16 c16)]:List (List Value)).flatten.toArray 80)):=Mod.alloc _ _ _
   have up:∀ {e k:Nat} {β:Type} {R:World→List Value→β→Prop} {v:Value} {l:List β},(∀ (w1 w2:World) r y,R w1 r y→R w2 r y)→OwnR W4.heap.size e k R W5 v l→OwnR 0 e k R (W5.alloc (.cells ([row5 x[i] (.slice a8 n8 c8) (.slice a12 n12 c12) (.slice a16 n16 c16)]:List (List Value)).flatten.toArray 80)) v l∧∀ g,v.ownBlock=some g→W4.heap.size≤g:=fun hR h=>
    ⟨(OwnR.mod h ga (fun _ _ h=>h) fun r y _ hy=>hR _ _ r y hy).base fun _ _=>Nat.zero_le _,fun g hg=>(OwnR.ownB h g hg).1⟩
   have zs:W4.heap.size≤W5.heap.size:=gq.size
   have h18:SlR (fun b=>W4.heap.size≤b) 5 (ODop fun b=>W4.heap.size≤b) (W5.alloc (.cells ([row5 x[i] (.slice a8 n8 c8) (.slice a12 n12 c12) (.slice a16 n16 c16)]:List (List Value)).flatten.toArray 80)) (.slice (some ⟨W5.heap.size,0,none⟩) 1 1) [x[i]]:=by
    refine SlR.sub (SlR.made (l:=[x[i]]) (t:=80) [row5 x[i] (.slice a8 n8 c8) (.slice a12 n12 c12) (.slice a16 n16 c16)] (by simp) rfl (by simp [maxLen]) fun j r y hr hy=>?_) (fun b _ e=>by omega) (by decide) fun _ _ h=>h
    match j with
    | 0=>cases hr;cases hy;exact ⟨_,_,_,rfl,up (fun _ _ _ _ h=>h) h8,up (fun _ _ _ _ h=>h) h12,up (fun _ _ _ _ h=>h) h16⟩
    | j+1=>simp at hr
   generalize hW6:W5.alloc (.cells ([row5 x[i] (.slice a8 n8 c8) (.slice a12 n12 c12) (.slice a16 n16 c16)]:List (List Value)).flatten.toArray 80)=W6 at *
   have g06:Grow W W6:=(g5.trans gd).trans (gq.trans ga)
   have s06:=g06.size
   have s56:=ga.size
   have oz:OwnR w.heap.size 80 5 (ODop fun b=>w.heap.size≤b∧b < W6.heap.size∧ov.ownBlock≠some b) W6 ov (x.take i):=OwnR.mod ho g06 (fun _ _ h=>h) fun r y _ hy=>ODop.mod hy g06 (fun _ _ _ h=>h) fun b hb hd=>⟨hd.1,by omega,hd.2⟩
   have sz:SlR (fun b=>W4.heap.size≤b) 5 (ODop fun b=>w.heap.size≤b∧b < W6.heap.size∧ov.ownBlock≠some b) W6 (.slice (some ⟨W5.heap.size,0,none⟩) 1 1) [x[i]]:=SlR.mono h18 (fun _ _ h=>h) (fun _ _ _=>rfl) (by decide) fun r y hy=>ODop.mod hy (Mod.refl (fun _=>False) _) (fun _ _ _ h=>h) fun b hb hd=>⟨by omega,hb,fun e=>by have:=hov b e;omega⟩
   have hl:(x.take i).length=i:=by rw [List.length_take];omega
   obtain ⟨v',w',r1,r2,r3,r4⟩:=OwnR.append (ty:=49) elem_dop oz sz (fun _ _=>ODop.one) (by rw [hl];simp only [List.length_cons,List.length_nil];omega) (by omega) (by rw [hl];simp only [List.length_cons,List.length_nil,maxLen];omega) fun w' hg r y hy=>ODop.mod hy (Mod.of_grownBy hg) (fun b _ hd e=>hd.2.2 e) fun _ _ h=>h
   have mg:=Mod.of_grownBy r3
   refine runK_i r1 ⟨mg.mono fun y _ e=>⟨rfl,e⟩,v',rfl,?_,(gW.trans g06).next mg fun b hb e=>by have:=hov b e;omega⟩
   show ODops w.heap.size w' v' (x.take (i+1))
   rw [List.take_add_one,List.getElem?_eq_getElem hlt']
   exact OwnR.mod r2 (Mod.refl (fun _=>False) _) (fun _ _ h=>h) fun r y _ hy=>ODop.mod hy (Mod.refl (fun _=>False) _) (fun _ _ _ h=>h) fun b hb hd=>⟨hd.1,fun e=>by
    rcases r4 b e with h | h
    ·exact hd.2.2 h
    ·have:=hd.2.1;omega⟩
  repeat' first
   | refine And.intro ?_ ?_
   | exact fin (by assumption)
   | refine CQ.s5 hz (by assumption) fun t W' hq=>?_
   | refine CQ.s9 hz (by assumption) fun t W' hq=>?_
   | refine CQ.s13 hz (by assumption) fun t W' hq=>?_
   | refine CQ.s8 hz d1 z1 (by assumption) fun t W' hq=>?_
   | refine CQ.s12 hz d2 z2 (by assumption) fun t W' hq=>?_
   | refine CQ.s16 hz d3 z3 (by assumption) fun t W' hq=>?_
 ·have:i=x.length:=by omega
  subst this
  rw [List.take_length] at ho
  exact ⟨ho,gW⟩
end Go.Proofs.YtaimlfomodfekaaGreatDoor

namespace Go.Proofs.YtaimlfomodfekaaGreatDoor
open Go Go.K

def uvB:Nat→Nat→List Int
 | 0,n=>[(n:Int)]
 | f+1,n=>if n≤127 then [(n:Int)] else ((n % 128+128:Nat):Int) :: uvB f (n / 128)
def uv (n:Nat):List Int:=uvB 9 n
def zigN (n:Int):Nat:=if 0≤n then (2 * n).toNat else (-2 * n - 1).toNat
theorem zigN_inj {a b:Int} (h:zigN a=zigN b):a=b:=by
 unfold zigN at h
 split at h <;> split at h <;> omega
theorem zigN_lt {n:Int} (h0:-9223372036854775808≤n) (h1:n≤9223372036854775807):zigN n < 18446744073709551616:=by
 unfold zigN;split <;> omega
theorem uvB_pre:∀ {f n m:Nat} {x y:List Int},n < 128 ^ (f+1)→m < 128 ^ (f+1)→uvB f n++x=uvB f m++y→n=m∧x=y:=by
 intro f
 induction f with
 | zero=>
  intro n m x y _ _ h
  simp only [uvB,List.singleton_append,List.cons.injEq] at h
  exact ⟨by omega,h.2⟩
 | succ f ih=>
  intro n m x y hn hm h
  rw [Nat.pow_succ] at hn hm
  simp only [uvB] at h
  by_cases h1:n≤127 <;> by_cases h2:m≤127
  ·rw [if_pos h1,if_pos h2] at h
   simp only [List.singleton_append,List.cons.injEq] at h
   exact ⟨by omega,h.2⟩
  ·rw [if_pos h1,if_neg h2] at h
   simp only [List.cons_append,List.cons.injEq] at h
   omega
  ·rw [if_neg h1,if_pos h2] at h
   simp only [List.cons_append,List.cons.injEq] at h
   omega
  ·rw [if_neg h1,if_neg h2] at h
   simp only [List.cons_append,List.cons.injEq] at h
   have:=ih (Nat.div_lt_of_lt_mul (by omega)) (Nat.div_lt_of_lt_mul (by omega)) h.2
   exact ⟨by omega,this.2⟩
theorem uv_pre {n m:Nat} {x y:List Int} (hn:n < 18446744073709551616) (hm:m < 18446744073709551616) (h:uv n++x=uv m++y):n=m∧x=y:=by
 have e:(18446744073709551616:Nat)≤128 ^ (9+1):=by decide
 exact uvB_pre (by omega) (by omega) h
theorem uvB_len:∀ (f n:Nat),1≤(uvB f n).length∧(uvB f n).length≤f+1:=by
 intro f
 induction f with
 | zero=>intro n;simp [uvB]
 | succ f ih=>
  intro n
  simp only [uvB]
  split
  ·simp
  ·have:=ih (n / 128)
   simp only [List.length_cons];omega
theorem uvB_byte:∀ (f n:Nat),n < 128 ^ (f+1)→∀ x ∈ uvB f n,0≤x∧x < 256:=by
 intro f
 induction f with
 | zero=>intro n hn x hx;simp only [uvB,List.mem_singleton] at hx;subst hx;simp at hn;omega
 | succ f ih=>
  intro n hn x hx
  rw [Nat.pow_succ] at hn
  simp only [uvB] at hx
  split at hx
  ·simp only [List.mem_singleton] at hx;omega
  ·rcases List.mem_cons.1 hx with rfl | hx
   ·omega
   ·exact ih _ (Nat.div_lt_of_lt_mul (by omega)) x hx
theorem uv_byte {n:Nat} (hn:n < 18446744073709551616):∀ x ∈ uv n,0≤x∧x < 256:=by
 have e:(18446744073709551616:Nat)≤128 ^ (9+1):=by decide
 exact uvB_byte 9 n (by omega)

theorem bytesL_inj {s t:ByteArray} (h:bytesL s=bytesL t):s=t:=by
 unfold bytesL at h
 have h2:=(List.map_inj_right (f:=fun b:UInt8=>(b.toNat:Int)) (fun a b e=>UInt8.toNat_inj.1 (Int.ofNat_inj.1 e))).1 h
 cases s;cases t
 simp only [ByteArray.mk.injEq]
 exact Array.toList_inj.1 h2
theorem bytesL_len (s:ByteArray):(bytesL s).length=s.size:=by simp [bytesL]
end Go.Proofs.YtaimlfomodfekaaGreatDoor

namespace Go.Proofs.YtaimlfomodfekaaGreatDoor
open Go Go.K

def lenN (o:Dop):Nat:=if o.kind=2 then o.runes.length else o.n.toNat
def restO (n:Nat) (o:Dop):Dop:=if o.kind=2 then ⟨2,o.n,o.runes.drop n,o.set,o.patch⟩ else ⟨o.kind,o.n - n,o.runes,o.set,o.patch⟩
def behind (n:Nat):List Dop→List Dop
 | []=>[]
 | o :: x=>if n < lenN o then restO n o :: x else x
section
variable {one:Dop→Dop→List Dop}
end
end Go.Proofs.YtaimlfomodfekaaGreatDoor

namespace Go.Proofs.YtaimlfomodfekaaGreatDoor
open Go Go.K

def encV (v:AVal):List Int:=uv v.kind.toNat++(if v.kind=1∨v.kind=2 then uv (zigN v.n) else if v.kind=3 then uv v.f.toNat else if v.kind=4 then uv v.s.size++bytesL v.s else [])
def encM {α:Type} (f:α→List Int) (l:List α):List Int:=uv l.length++l.flatMap f
def encX (b:List Int):List Int:=uv b.length++b
def RepM {α:Type} (R:α→Prop) (l:List α):Prop:=l.length < 9223372036854775808∧∀ x ∈ l,R x
def PF {α:Type} (f:α→List Int) (R:α→Prop):Prop:=∀ a b x y,R a→R b→f a++x=f b++y→a=b∧x=y
theorem PF.flat {α:Type} {f:α→List Int} {R:α→Prop} (h:PF f R):∀ {l m:List α} {x y:List Int},(∀ a ∈ l,R a)→(∀ a ∈ m,R a)→l.length=m.length→l.flatMap f++x=m.flatMap f++y→l=m∧x=y:=by
 intro l
 induction l with
 | nil=>
  intro m x y _ _ hl e
  obtain rfl:m=[]:=List.eq_nil_of_length_eq_zero (by simpa using hl.symm)
  exact ⟨rfl,e⟩
 | cons a l ih=>
  intro m x y ha hm hl e
  match m,hl with
  | b :: m,hl=>
   simp only [List.flatMap_cons,List.append_assoc] at e
   obtain ⟨e1,e2⟩:=h _ _ _ _ (ha a (by simp)) (hm b (by simp)) e
   obtain ⟨e3,e4⟩:=ih (fun z hz=>ha z (by simp [hz])) (fun z hz=>hm z (by simp [hz])) (by simpa using hl) e2
   exact ⟨by rw [e1,e3],e4⟩
theorem PF.many {α:Type} {f:α→List Int} {R:α→Prop} (h:PF f R):PF (encM f) (RepM R):=by
 intro l m x y hl hm e
 unfold encM at e
 rw [List.append_assoc,List.append_assoc] at e
 obtain ⟨e1,e⟩:=uv_pre (by have:=hl.1;omega) (by have:=hm.1;omega) e
 exact h.flat hl.2 hm.2 e1 e
theorem pf_bytes {a b x y:List Int} (ha:a.length < 9223372036854775808) (hb:b.length < 9223372036854775808) (e:encX a++x=encX b++y):a=b∧x=y:=by
 unfold encX at e
 rw [List.append_assoc,List.append_assoc] at e
 obtain ⟨e1,e⟩:=uv_pre (by omega) (by omega) e
 exact List.append_inj e e1
theorem uv_pos (n:Nat):1≤(uv n).length:=(uvB_len 9 n).1
theorem flat_len_le {α:Type} {f:α→List Int} (h:∀ a,1≤(f a).length):∀ l:List α,l.length≤(l.flatMap f).length:=by
 intro l
 induction l with
 | nil=>simp
 | cons a l ih=>have:=h a;simp only [List.flatMap_cons,List.length_append,List.length_cons];omega
end Go.Proofs.YtaimlfomodfekaaGreatDoor

namespace Go.Proofs.YtaimlfomodfekaaGreatDoor
open Go Go.K

def uvR:Nat→Bool→List Int→Option (Nat × List Int)
 | _,_,[]=>none
 | f,first,x :: t=>if (f=0∧1 < x)∨(first=false∧x=0) then none else if x < 128 then some (x.toNat,t) else
  match f with
  | 0=>none
  | f+1=>(uvR f false t).map fun r=>((x - 128).toNat+128 * r.1,r.2)
theorem uvB_small {f n:Nat} (h:n≤127):uvB f n=[(n:Int)]:=by
 cases f with
 | zero=>rfl
 | succ f=>simp only [uvB];rw [if_pos h]
theorem uvB_great {f n:Nat} (h:127 < n):uvB (f+1) n=((n % 128+128:Nat):Int) :: uvB f (n / 128):=by
 simp only [uvB];rw [if_neg (by omega)]
theorem uvR_sound:∀ {l:List Int} {f:Nat} {first:Bool} {n:Nat} {t:List Int},(∀ x ∈ l,0≤x∧x < 256)→uvR f first l=some (n,t)→l=uvB f n++t∧n < 2 * 128 ^ f∧(first=false→0 < n):=by
 intro l
 induction l with
 | nil=>intro f first n t _ h;unfold uvR at h;cases h
 | cons x l ih=>
  intro f first n t hb h
  have hx:=hb x (by simp)
  have hp:0 < 128 ^ f:=Nat.pow_pos (by decide)
  unfold uvR at h
  by_cases h1:(f=0∧1 < x)∨(first=false∧x=0)
  ·rw [if_pos h1] at h;cases h
  rw [if_neg h1] at h
  by_cases h2:x < 128
  ·rw [if_pos h2] at h
   cases h
   refine ⟨?_,?_,fun e=>?_⟩
   ·rw [uvB_small (by omega),show ((x.toNat:Nat):Int)=x by omega];rfl
   ·cases f with
    | zero=>simp only [Nat.pow_zero];have:¬ 1 < x:=fun e=>h1 (Or.inl ⟨rfl,e⟩);omega
    | succ f=>have:=Nat.pow_pos (n:=f) (show 0 < 128 by decide);rw [Nat.pow_succ];omega
   ·have:¬ x=0:=fun e'=>h1 (Or.inr ⟨e,e'⟩)
    omega
  rw [if_neg h2] at h
  cases f with
  | zero=>cases h
  | succ f=>
   simp only at h
   cases hr:uvR f false l with
   | none=>rw [hr] at h;cases h
   | some r=>
    obtain ⟨m,t'⟩:=r
    rw [hr] at h
    simp only [Option.map_some,Option.some.injEq,Prod.mk.injEq] at h
    obtain ⟨rfl,rfl⟩:=h
    obtain ⟨e1,e2,e3⟩:=ih (fun y hy=>hb y (by simp [hy])) hr
    have e3:=e3 rfl
    refine ⟨?_,?_,fun _=>by omega⟩
    ·rw [uvB_great (by omega),show ((x - 128).toNat+128 * m) / 128=m by omega,List.cons_append,←e1]
     congr 1
     omega
    ·rw [Nat.pow_succ];omega
theorem uvR_full:∀ {f:Nat} {first:Bool} {n:Nat} (t:List Int),n < 2 * 128 ^ f→(first=false→0 < n)→uvR f first (uvB f n++t)=some (n,t):=by
 intro f
 induction f with
 | zero=>
  intro first n t h h0
  rw [Nat.pow_zero] at h
  rw [uvB_small (by omega)]
  show uvR 0 first ((n:Int) :: t)=_
  unfold uvR
  rw [if_neg (by rintro (⟨_,e⟩ | ⟨e,e'⟩);omega;have:=h0 e;omega),if_pos (by omega)]
  simp
 | succ f ih=>
  intro first n t h h0
  by_cases hs:n≤127
  ·rw [uvB_small hs]
   show uvR (f+1) first ((n:Int) :: t)=_
   unfold uvR
   rw [if_neg (by rintro (⟨e,_⟩ | ⟨e,e'⟩);omega;have:=h0 e;omega),if_pos (by omega)]
   simp
  ·rw [uvB_great (by omega),List.cons_append]
   unfold uvR
   rw [if_neg (by rintro (⟨e,_⟩ | ⟨e,e'⟩) <;> omega),if_neg (by omega)]
   simp only
   rw [ih t (by rw [Nat.pow_succ] at h;omega) (fun _=>by omega)]
   simp only [Option.map_some,Option.some.injEq,Prod.mk.injEq,and_true]
   omega
theorem uv_read {n:Nat} (t:List Int) (h:n < 18446744073709551616):uvR 9 true (uv n++t)=some (n,t):=by
 have e:(2:Nat) * 128 ^ 9=18446744073709551616:=by decide
 exact uvR_full t (by omega) fun h=>by cases h
theorem read_uv {l:List Int} {n:Nat} {t:List Int} (hb:∀ x ∈ l,0≤x∧x < 256) (h:uvR 9 true l=some (n,t)):l=uv n++t∧n < 18446744073709551616:=by
 have e:(2:Nat) * 128 ^ 9=18446744073709551616:=by decide
 obtain ⟨h1,h2,_⟩:=uvR_sound hb h
 exact ⟨h1,by omega⟩
def unzig (n:Nat):Int:=if n % 2=0 then (n / 2:Nat) else -((n / 2:Nat):Int) - 1
theorem zig_unzig {n:Nat} (h:n < 18446744073709551616):zigN (unzig n)=n∧-9223372036854775808≤unzig n∧unzig n≤9223372036854775807:=by
 unfold zigN unzig
 split <;> (refine ⟨?_,?_,?_⟩ <;> try split) <;> omega
structure RdP {α:Type} (f:α→List Int) (R:α→Prop) (b:List Int) (p:Nat) (bad:Bool) (a:α) (q:Nat) (bad1:Bool):Prop where
 le:p≤q
 len:q≤b.length
 stays:bad=true→bad1=true
 sound:bad1=false→R a∧b.drop p=f a++b.drop q
 full:bad=false→∀ c t,R c→b.drop p=f c++t→bad1=false
section
variable {α β γ:Type} {f:α→List Int} {R:α→Prop} {b:List Int} {p q r:Nat} {bad bad1 bad2:Bool} {a:α}
theorem RdP.was (x:RdP f R b p bad a q bad1) (h:bad1=false):bad=false:=by
 cases bad
 ·rfl
 ·rw [x.stays rfl] at h;cases h
theorem RdP.place (x:RdP f R b p bad a q bad1) (h:bad1=false):q=p+(f a).length:=by
 have e:=congrArg List.length (x.sound h).2
 have:=x.le
 have:=x.len
 rw [List.length_append,List.length_drop,List.length_drop] at e
 omega
theorem RdP.seq {c:β} {z:γ} {g:α→β→List Int} {Q:α→β→Prop} {h:γ→List Int} {T:γ→Prop} (hf:PF f R) (x:RdP f R b p bad a q bad1) (y:RdP (g a) (Q a) b q bad1 c r bad2)
  (hm:R a→Q a c→T z∧h z=f a++g a c) (hc:∀ z,T z→∃ a' c',R a'∧Q a' c'∧h z=f a'++g a' c'):RdP h T b p bad z r bad2:=by
 refine ⟨Nat.le_trans x.le y.le,y.len,fun e=>y.stays (x.stays e),fun e=>?_,fun e z t hz ht=>?_⟩
 ·obtain ⟨y1,y2⟩:=y.sound e
  obtain ⟨x1,x2⟩:=x.sound (y.was e)
  obtain ⟨m1,m2⟩:=hm x1 y1
  exact ⟨m1,by rw [m2,x2,y2,List.append_assoc]⟩
 ·obtain ⟨a',c',h1,h2,h3⟩:=hc z hz
  rw [h3,List.append_assoc] at ht
  have e1:=x.full e a' _ h1 ht
  obtain ⟨x1,x2⟩:=x.sound e1
  rw [ht] at x2
  obtain ⟨rfl,e3⟩:=hf _ _ _ _ h1 x1 x2
  exact y.full e1 c' t h2 e3.symm
theorem RdP.map {z:γ} {h:γ→List Int} {T:γ→Prop} (x:RdP f R b p bad a q bad1) (hm:R a→T z∧h z=f a) (hc:∀ z,T z→∃ a',R a'∧h z=f a'):RdP h T b p bad z q bad1:=by
 refine ⟨x.le,x.len,x.stays,fun e=>?_,fun e z t hz ht=>?_⟩
 ·obtain ⟨x1,x2⟩:=x.sound e
  obtain ⟨m1,m2⟩:=hm x1
  exact ⟨m1,by rw [m2];exact x2⟩
 ·obtain ⟨a',h1,h3⟩:=hc z hz
  exact x.full e a' t h1 (by rw [ht,h3])
theorem RdP.unit {z:γ} {h:γ→List Int} {T:γ→Prop} (hq:p≤b.length) (hz:T z) (h0:h z=[]):RdP h T b p bad z p bad:=
 ⟨Nat.le_refl _,hq,fun e=>e,fun _=>⟨hz,by rw [h0];rfl⟩,fun e _ _ _ _=>e⟩
structure RdL {α:Type} (f:α→List Int) (R:α→Prop) (b:List Int) (p:Nat) (bad:Bool) (n:Nat) (l:List α) (q:Nat) (bad1:Bool):Prop where
 le:p≤q
 len:q≤b.length
 stays:bad=true→bad1=true
 sound:bad1=false→(∀ x ∈ l,R x)∧b.drop p=l.flatMap f++b.drop q
 full:bad=false→∀ (m:List α) (t:List Int),m.length=n→(∀ x ∈ m,R x)→b.drop p=m.flatMap f++t→bad1=false
theorem RdL.nil {n:Nat} (hp:p≤b.length):RdL f R b p bad n [] p bad:=
 ⟨Nat.le_refl _,hp,fun e=>e,fun _=>⟨by simp,by simp⟩,fun e _ _ _ _ _=>e⟩
theorem RdL.snoc {n:Nat} {l:List α} (hf:PF f R) (hn:l.length < n) (x:RdL f R b p bad n l q false) (y:RdP f R b q false a r bad2):RdL f R b p bad n (l++[a]) r bad2:=by
 obtain ⟨x1,x2⟩:=x.sound rfl
 refine ⟨Nat.le_trans x.le y.le,y.len,fun e=>(by have:=x.stays e;cases this),fun e=>?_,fun e m t hm hR ht=>?_⟩
 ·obtain ⟨y1,y2⟩:=y.sound e
  refine ⟨fun z hz=>?_,?_⟩
  ·rcases List.mem_append.1 hz with hz | hz
   ·exact x1 z hz
   ·rw [List.mem_singleton.1 hz];exact y1
  ·rw [x2,y2,List.flatMap_append,List.append_assoc];simp
 ·have hsp:m=m.take l.length++m.drop l.length:=(List.take_append_drop _ _).symm
  have hlt:l.length < m.length:=by omega
  rw [hsp,List.flatMap_append,List.append_assoc,x2] at ht
  obtain ⟨_,e2⟩:=hf.flat x1 (fun z hz=>hR z (List.mem_of_mem_take hz)) (by rw [List.length_take];omega) ht
  rw [List.drop_eq_getElem_cons hlt,List.flatMap_cons,List.append_assoc] at e2
  exact y.full rfl _ _ (hR _ (List.getElem_mem hlt)) e2
theorem RdL.done {n most:Nat} {l:List α} (hpos:∀ a,1≤(f a).length) (hb:b.length < 9223372036854775808) (x:RdP uv (fun n=>n≤most) b p bad n q bad1) (y:RdL f R b q bad1 n l r bad2) (hl:bad2=false→l.length=n) (hmost:b.length≤most) (hM:most < 18446744073709551616) :
  RdP (encM f) (RepM R) b p bad l r bad2:=by
 have was:bad2=false→bad1=false:=fun h=>by
  cases hb1:bad1
  ·rfl
  ·rw [y.stays hb1] at h;cases h
 refine ⟨Nat.le_trans x.le y.le,y.len,fun e=>y.stays (x.stays e),fun e=>?_,fun e m t hm ht=>?_⟩
 ·obtain ⟨y1,y2⟩:=y.sound e
  obtain ⟨x1,x2⟩:=x.sound (was e)
  have hn:=hl e
  have h1:=congrArg List.length y2
  have h2:=flat_len_le hpos l
  rw [List.length_append,List.length_drop] at h1
  exact ⟨⟨by omega,y1⟩,by rw [x2,y2];unfold encM;rw [hn,List.append_assoc]⟩
 ·unfold encM at ht
  rw [List.append_assoc] at ht
  have h1:=flat_len_le hpos m
  have h2:=congrArg List.length ht
  rw [List.length_drop,List.length_append,List.length_append] at h2
  have e1:=x.full e m.length _ (show m.length≤most by omega) ht
  obtain ⟨x1,x2⟩:=x.sound e1
  rw [ht] at x2
  obtain ⟨e2,e3⟩:=uv_pre (by omega) (by omega) x2
  exact y.full e1 m t e2 hm.2 e3.symm
theorem pf_uv {most:Nat} (h:most < 18446744073709551616):PF uv (fun n=>n≤most):=fun _ _ _ _ ha hb e=>uv_pre (by omega) (by omega) e
end
end Go.Proofs.YtaimlfomodfekaaGreatDoor

namespace Go.Proofs.YtaimlfomodfekaaGreatDoor
open Go Go.K

def uz (n:Int):List Int:=uv (zigN n)
def uf (b:Bool):List Int:=uv (if b then 1 else 0)
def In64 (n:Int):Prop:=-9223372036854775808≤n∧n≤9223372036854775807
theorem pf_uz:PF uz In64:=fun _ _ _ _ ha hb e=>by
 obtain ⟨h,h'⟩:=uv_pre (zigN_lt ha.1 ha.2) (zigN_lt hb.1 hb.2) e
 exact ⟨zigN_inj h,h'⟩
theorem pf_uf:PF uf fun _=>True:=fun a b _ _ _ _ e=>by
 obtain ⟨h,h'⟩:=uv_pre (by split <;> decide) (by split <;> decide) e
 refine ⟨?_,h'⟩
 cases a <;> cases b <;> first | rfl | cases h
theorem pf_x:PF encX fun x=>x.length < 9223372036854775808:=fun _ _ _ _ ha hb e=>pf_bytes ha hb e
def cat {α β:Type} (f:α→List Int) (g:β→List Int) (z:α × β):List Int:=f z.1++g z.2
def both {α β:Type} (R:α→Prop) (Q:β→Prop) (z:α × β):Prop:=R z.1∧Q z.2
theorem PF.cat {α β:Type} {f:α→List Int} {g:β→List Int} {R:α→Prop} {Q:β→Prop} (h:PF f R) (k:PF g Q):PF (cat f g) (both R Q):=fun a b x y ha hb e=>by
 unfold Go.Proofs.YtaimlfomodfekaaGreatDoor.cat at e
 rw [List.append_assoc,List.append_assoc] at e
 obtain ⟨e1,e⟩:=h _ _ _ _ ha.1 hb.1 e
 obtain ⟨e2,e⟩:=k _ _ _ _ ha.2 hb.2 e
 exact ⟨Prod.ext e1 e2,e⟩
theorem PF.iso {α γ:Type} {f:α→List Int} {R:α→Prop} {i:γ→α} {T:γ→Prop} (h:PF f R) (hT:∀ z,T z→R (i z)) (hi:∀ a b,T a→T b→i a=i b→a=b):PF (fun z=>f (i z)) T:=fun a b x y ha hb e=>by
 obtain ⟨e1,e2⟩:=h _ _ _ _ (hT a ha) (hT b hb) e
 exact ⟨hi a b ha hb e1,e2⟩

def InSV (v:AVal):Prop:=(0≤v.kind∧v.kind < 256)∧In64 v.n∧(0≤v.f∧v.f < 18446744073709551616)∧v.s.size < 9223372036854775808
def InSA (a:Attr):Prop:=In64 a.key∧InSV a.val
def InSC (c:Chg):Prop:=In64 c.key∧InSV c.val
def In32 (n:Int):Prop:=-2147483648≤n∧n≤2147483647
def InSO (o:Dop):Prop:=(0≤o.kind∧o.kind < 256)∧In64 o.n∧RepM In32 o.runes∧RepM InSA o.set∧RepM InSC o.patch
def InSK (k:DKey):Prop:=In64 k.id∧(0≤k.kind∧k.kind < 256)∧In64 k.group
abbrev VT:=Nat × Int × Nat × List Int
def vT (v:AVal):VT:=(v.kind.toNat,v.n,v.f.toNat,bytesL v.s)
def fVT:VT→List Int:=cat uv (cat uz (cat uv encX))
def pVT:VT→Prop:=both (fun k=>k≤255) (both In64 (both (fun f=>f≤18446744073709551615) fun x=>x.length < 9223372036854775808))
theorem pf_VT:PF fVT pVT:=(pf_uv (by decide)).cat (pf_uz.cat ((pf_uv (by decide)).cat pf_x))
theorem vT_in {v:AVal} (h:InSV v):pVT (vT v):=⟨by have:=h.1;show v.kind.toNat≤255;omega,h.2.1,by have:=h.2.2.1;show v.f.toNat≤_;omega,by show (bytesL v.s).length < _;rw [bytesL_len];exact h.2.2.2⟩
theorem vT_inj {a b:AVal} (ha:InSV a) (hb:InSV b) (e:vT a=vT b):a=b:=by
 simp only [vT,Prod.mk.injEq] at e
 obtain ⟨e1,e2,e3,e4⟩:=e
 have:=ha.1;have:=hb.1;have:=ha.2.2.1;have:=hb.2.2.1
 cases a;cases b
 simp only at *
 rw [AVal.mk.injEq]
 exact ⟨by omega,e2,by omega,bytesL_inj e4⟩
def eSV (v:AVal):List Int:=fVT (vT v)
theorem pf_SV:PF eSV InSV:=pf_VT.iso (fun _=>vT_in) fun _ _=>vT_inj
def eSA (a:Attr):List Int:=uz a.key++eSV a.val
theorem pf_SA:PF eSA InSA:=(pf_uz.cat pf_SV).iso (i:=fun a:Attr=>(a.key,a.val)) (fun _ h=>h) fun a b _ _ e=>by
 cases a;cases b
 simp only [Prod.mk.injEq] at e
 rw [e.1,e.2]
def eSC (c:Chg):List Int:=uz c.key++(uf c.gone++eSV c.val)
theorem pf_SC:PF eSC InSC:=(pf_uz.cat (pf_uf.cat pf_SV)).iso (i:=fun c:Chg=>(c.key,c.gone,c.val)) (fun _ h=>⟨h.1,trivial,h.2⟩) fun a b _ _ e=>by
 cases a;cases b
 simp only [Prod.mk.injEq] at e
 rw [e.1,e.2.1,e.2.2]
theorem In32.i64 {n:Int} (h:In32 n):In64 n:=by unfold In32 at h;unfold In64;omega
theorem pf_u32:PF uz In32:=fun a b x y ha hb e=>pf_uz a b x y ha.i64 hb.i64 e
def eSO (o:Dop):List Int:=uv o.kind.toNat++(uz o.n++(encM uz o.runes++(encM eSA o.set++encM eSC o.patch)))
theorem pf_SO:PF eSO InSO:=((pf_uv (most:=255) (by decide)).cat (pf_uz.cat (pf_u32.many.cat (pf_SA.many.cat pf_SC.many)))).iso (i:=fun o:Dop=>(o.kind.toNat,o.n,o.runes,o.set,o.patch)) (fun o h=>⟨by have:=h.1;show o.kind.toNat≤255;omega,h.2⟩) fun a b ha hb e=>by
 have:=ha.1;have:=hb.1
 cases a;cases b
 simp only [Prod.mk.injEq] at e
 simp only at *
 obtain ⟨e1,e2,e3,e4,e5⟩:=e
 rw [Dop.mk.injEq]
 exact ⟨by omega,e2,e3,e4,e5⟩
def eSK (k:DKey):List Int:=uz k.id++(uf k.block++(uv k.kind.toNat++(uf k.after++(uf k.before++uz k.group))))
theorem pf_SK:PF eSK InSK:=(pf_uz.cat (pf_uf.cat ((pf_uv (most:=255) (by decide)).cat (pf_uf.cat (pf_uf.cat pf_uz))))).iso (i:=fun k:DKey=>(k.id,k.block,k.kind.toNat,k.after,k.before,k.group)) (fun k h=>⟨h.1,trivial,by have:=h.2.1;show k.kind.toNat≤255;omega,trivial,trivial,h.2.2⟩) fun a b ha hb e=>by
 have:=ha.2.1;have:=hb.2.1
 cases a;cases b
 simp only [Prod.mk.injEq] at e
 simp only at *
 obtain ⟨e1,e2,e3,e4,e5,e6⟩:=e
 rw [DKey.mk.injEq]
 exact ⟨e1,e2,by omega,e4,e5,e6⟩

structure Cmd where
 kind:Int
 i:Int
 j:Int
 key:Int
 by_:Int
 ops:List Dop
 bytes:List Int
 patch:List Chg
 deriving DecidableEq
def hasI (k:Int):Bool:=k=3∨k=4∨k=5∨k=6∨k=7∨k=8∨k=9∨k=10∨k=19∨k=20
def hasJ (k:Int):Bool:=k=4∨k=5∨k=6∨k=7∨k=8∨k=9
def hasS (k:Int):Bool:=k=7
def hasO (k:Int):Bool:=k=1
def hasB (k:Int):Bool:=k=2∨k=3
def hasP (k:Int):Bool:=k=5∨k=6
def isK (k:Int):Bool:=1≤k∧k≤21
def MayC (c:Cmd):Prop:=isK c.kind∧(hasI c.kind∨c.i=0)∧(hasJ c.kind∨c.j=0)∧(hasS c.kind∨c.key=0∧c.by_=0)∧(hasO c.kind∨c.ops=[])∧(hasB c.kind∨c.bytes=[])∧(hasP c.kind∨c.patch=[])
def eF (k:Int) (c:Cmd):List Int:=(if hasI k then uz c.i else [])++((if hasJ k then uz c.j else [])++((if hasS k then uz c.key++uz c.by_ else [])++((if hasO k then encM eSO c.ops else [])++((if hasB k then encX c.bytes else [])++if hasP k then encM eSC c.patch else []))))
def eCmd (c:Cmd):List Int:=uv c.kind.toNat++eF c.kind c
def InC (c:Cmd):Prop:=MayC c∧In64 c.i∧In64 c.j∧In64 c.key∧In64 c.by_∧RepM InSO c.ops∧c.bytes.length < 9223372036854775808∧RepM InSC c.patch
theorem pf_if {α:Type} {f:α→List Int} {R:α→Prop} {z:α} {q:Bool} (h:PF f R) {a b:α} {x y:List Int} (ha:R a) (hb:R b) (na:q=true∨a=z) (nb:q=true∨b=z) (e:(if q then f a else [])++x=(if q then f b else [])++y):a=b∧x=y:=by
 cases q
 ·rcases na with na | rfl
  ·cases na
  ·rcases nb with nb | rfl
   ·cases nb
   ·exact ⟨rfl,by simpa using e⟩
 ·exact h _ _ _ _ ha hb (by simpa using e)
theorem pf_Cmd:PF eCmd InC:=by
 intro a b x y ha hb e
 obtain ⟨⟨ka,a1,a2,a3,a4,a5,a6⟩,i1,i2,i3,i4,i5,i6,i7⟩:=ha
 obtain ⟨⟨kb,b1,b2,b3,b4,b5,b6⟩,j1,j2,j3,j4,j5,j6,j7⟩:=hb
 unfold eCmd eF at e
 simp only [isK,decide_eq_true_eq] at ka kb
 simp only [List.append_assoc] at e
 obtain ⟨e0,e⟩:=uv_pre (by omega) (by omega) e
 have ek:a.kind=b.kind:=by omega
 rw [ek] at e a1 a2 a3 a4 a5 a6
 obtain ⟨e1,e⟩:=pf_if pf_uz i1 j1 a1 b1 e
 obtain ⟨e2,e⟩:=pf_if pf_uz i2 j2 a2 b2 e
 have e':(if hasS b.kind then cat uz uz (a.key,a.by_) else [])++_=(if hasS b.kind then cat uz uz (b.key,b.by_) else [])++_:=e
 obtain ⟨e3,e⟩:=pf_if (z:=(0,0)) (pf_uz.cat pf_uz) ⟨i3,i4⟩ ⟨j3,j4⟩ (a3.imp id fun h=>Prod.ext h.1 h.2) (b3.imp id fun h=>Prod.ext h.1 h.2) e'
 obtain ⟨e4,e⟩:=pf_if pf_SO.many i5 j5 a4 b4 e
 obtain ⟨e5,e⟩:=pf_if pf_x i6 j6 a5 b5 e
 obtain ⟨e6,e⟩:=pf_if pf_SC.many i7 j7 a6 b6 e
 refine ⟨?_,e⟩
 cases a;cases b
 simp only [Prod.mk.injEq] at *
 rw [Cmd.mk.injEq]
 exact ⟨ek,e1,e2,e3.1,e3.2,e4,e5,e6⟩
structure Scr where
 keys:List DKey
 most:Int
 undo:Int
 cmds:List Cmd
 deriving DecidableEq
def MayS (s:Scr):Prop:=∀ c ∈ s.cmds,MayC c
def eScr (s:Scr):List Int:=encM eSK s.keys++(uz s.most++(uz s.undo++s.cmds.flatMap eCmd))
def InS (s:Scr):Prop:=RepM InSK s.keys∧In64 s.most∧In64 s.undo∧∀ c ∈ s.cmds,InC c
theorem eCmd_pos (c:Cmd):1≤(eCmd c).length:=by unfold eCmd;have:=uv_pos c.kind.toNat;rw [List.length_append];omega
theorem flat_inj {α:Type} {f:α→List Int} {R:α→Prop} (hf:PF f R) (hp:∀ a,1≤(f a).length):∀ {l m:List α},(∀ a ∈ l,R a)→(∀ a ∈ m,R a)→l.flatMap f=m.flatMap f→l=m:=by
 intro l
 induction l with
 | nil=>
  intro m _ _ e
  cases m with
  | nil=>rfl
  | cons b m=>
   have h:(f b++m.flatMap f).length=0:=by rw [←List.flatMap_cons,←e];rfl
   rw [List.length_append] at h;have:=hp b;omega
 | cons a l ih=>
  intro m hl hm e
  cases m with
  | nil=>
   have h:(f a++l.flatMap f).length=0:=by rw [←List.flatMap_cons,e];rfl
   rw [List.length_append] at h;have:=hp a;omega
  | cons b m=>
   rw [List.flatMap_cons,List.flatMap_cons] at e
   obtain ⟨e1,e2⟩:=hf _ _ _ _ (hl a (by simp)) (hm b (by simp)) e
   rw [e1,ih (fun z hz=>hl z (by simp [hz])) (fun z hz=>hm z (by simp [hz])) e2]
theorem eScr_inj {a b:Scr} (ha:InS a) (hb:InS b) (e:eScr a=eScr b):a=b:=by
 unfold eScr at e
 obtain ⟨e1,e⟩:=pf_SK.many _ _ _ _ ha.1 hb.1 e
 obtain ⟨e2,e⟩:=pf_uz _ _ _ _ ha.2.1 hb.2.1 e
 obtain ⟨e3,e⟩:=pf_uz _ _ _ _ ha.2.2.1 hb.2.2.1 e
 have e4:=flat_inj pf_Cmd eCmd_pos ha.2.2.2 hb.2.2.2 e
 cases a;cases b
 simp only at *
 rw [Scr.mk.injEq]
 exact ⟨e1,e2,e3,e4⟩
end Go.Proofs.YtaimlfomodfekaaGreatDoor
