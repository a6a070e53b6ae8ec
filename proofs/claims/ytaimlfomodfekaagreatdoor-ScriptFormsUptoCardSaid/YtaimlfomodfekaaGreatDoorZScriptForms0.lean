/- Core of our own small calculus: the code of a function as a predicate of values (no slots left), and that it is sound for the model's calls. No conditions. That our predicates on one operation are what the model does at it. No conditions. That one operation, as our calculus tells it, is the model's operation. No conditions. Regions that draw their order and make memory: one order of thinking for all orders. No conditions. Soundness of the rule for regions that draw their order. No conditions. Drawn regions whose memory-making operations stand in one forced order: one walk in the order of the text. No conditions. Drawn regions whose memory-making operations may stand in several orders: a tree of orders, each walked. No conditions. The code of a function as a predicate over values; its soundness. No conditions. One seat's program for our calculus: its functions that have a body. No conditions. -/
import Derived.Orders
import Derived.Scope
import Derived.Below
import Derived.Laws.Sem
import Derived.Laws.World
import Derived.Laws.Cells
import Derived.Laws.Small
import Derived.Laws.Entries
import Derived.Laws.Strings
import Derived.Still
import Derived.Tactics
import Derived.Deep.Quiet
import Derived.RangeFuncIn
import Derived.TacticsIn
import Derived.Test.YtaimlfomodfekaaGreatDoorProg
import Derived.KernelRfl
import GoSem.Claims
import Derived.Laws.AppendOwnNone
import Derived.WalkKit
import Derived.RangeFuncOwn
import Derived.RangeFuncLeaves
import Derived.Laws.IdiomStrings
import Derived.Lib.AppendZeros
import Derived.MapKept
import Derived.Laws.BytesArg
import Derived.Lib.Zigzag
import Derived.Shelf.GgSortFunc.InsertionK
import Derived.Shelf.SlSortCmp.WholeK
import Derived.Shelf.SlSortCmp.NoneTotal
import Derived.Lib.OthersKept
import Derived.WalkSmall
import Derived.Deep.AppendSrc
import Derived.Laws.Cover3
import Derived.Laws.Slices
import Derived.Laws.AppendOwn
import Derived.Laws.IdiomCopy
import Derived.LoopNIn
import Derived.RangeFuncNested
import Derived.ProofKit
import Derived.Lib.SmallJoins
import Derived.Deep.Slices
import Derived.Lib.LaidU8
import Derived.Lib.LaidIn
import Derived.LaidHandle
import Derived.LaidMore
import Derived.MakeChecks
import Derived.OpenShut
import Derived.ShutString
import Derived.ChangeOld
import Derived.ChangeVars
import Derived.JoinedOf
import Derived.JoinedCond
import Derived.Deep.DeepHandedRow
import Derived.SevenTiedAt
set_option linter.unusedSimpArgs false
set_option linter.unusedVariables false
namespace Go.K
open Go

abbrev Env:=Nat→Value
abbrev Cont:=Value→World→Prop
abbrev EQ:=Exit→Env→World→Prop

def upd (n:Nat) (e:Env) (i:Nat) (v:Value):Env:=fun j=>bif Nat.beq j i && Nat.blt i n then v else e j
def updO (n:Nat) (e:Env) (d:Option Nat) (v:Value):Env:=match d with | some i=>upd n e i v | none=>e
def ev (e:Env) (x:Operand):Value:=match x with
 | .tmp t=>e t | .const v=>v | .global g=>.pointer (some ⟨g,0,none⟩) | .func f=>.func (.func f) #[] #[]
def nth:List Value→Nat→Value
 | vs,0=>vs.headD undef
 | vs,k+1=>nth vs.tail k

structure Fr (ds:List Deferred) (n:Nat) (e:Env) (a:Act):Prop where
 size:a.tmps.size=n
 get:∀ t,a.tmps.getD t undef=e t
 defers:a.defers=ds

theorem Fr.eval {ds:List Deferred} {n:Nat} {e:Env} {a:Act} (h:Fr ds n e a):a.eval=ev e:=by
 funext x;cases x with
 | tmp t=>exact h.get t
 | const v=>rfl
 | global g=>rfl
 | func f=>rfl

theorem Fr.put {ds:List Deferred} {n:Nat} {e:Env} {a:Act} (h:Fr ds n e a) (d:Option Nat) (v:Value):Fr ds n (updO n e d v) (a.put d v):=by
 cases d with
 | none=>exact h
 | some i=>
  refine ⟨by simp [Act.put,h.size],fun t=>?_,h.defers⟩
  have hg:=h.get t
  simp only [Act.put,updO,upd,Array.getD_eq_getD_getElem?,Array.getElem?_setIfInBounds,h.size]
  simp only [Array.getD_eq_getD_getElem?] at hg
  by_cases h1:i=t
  ·subst h1
   by_cases h2:i < n
   ·have h4:Nat.blt i n=true:=Nat.ble_eq_true_of_le (by omega)
    simp [h2,h4]
   ·have h3:a.tmps[i]?=none:=Array.getElem?_eq_none (by rw [h.size];omega)
    have h4:Nat.blt i n=false:=by
     cases hb:Nat.blt i n with
     | false=>rfl
     | true=>exact absurd (Nat.le_of_ble_eq_true hb) (by omega)
    rw [h3] at hg
    simp [h2,h4,hg]
  ·have h5:Nat.beq t i=false:=by
    cases hb:Nat.beq t i with
    | false=>rfl
    | true=>exact absurd (Nat.eq_of_beq_eq_true hb).symm h1
   simp [h1,h5,hg]

def condK (v:Value) (A B:Prop):Prop:=match v with | .bool true=>A | .bool false=>B | _=>False
def pickK (c a b:Value) (K:Value→Prop):Prop:=match c with | .bool true=>K a | .bool false=>K b | _=>False
def addK (k:IntKind) (x y:Value) (K:Value→Prop):Prop:=∃ a b,x=.int k a∧y=.int k b∧K (.int k (k.wrap (a+b)))
def subK (k:IntKind) (x y:Value) (K:Value→Prop):Prop:=∃ a b,x=.int k a∧y=.int k b∧K (.int k (k.wrap (a - b)))
def mulK (k:IntKind) (x y:Value) (K:Value→Prop):Prop:=∃ a b,x=.int k a∧y=.int k b∧K (.int k (k.wrap (a * b)))
def ltK (k:IntKind) (x y:Value) (K:Value→Prop):Prop:=∃ a b,x=.int k a∧y=.int k b∧K (.bool (decide (a < b)))
def leK (k:IntKind) (x y:Value) (K:Value→Prop):Prop:=∃ a b,x=.int k a∧y=.int k b∧K (.bool (decide (a≤b)))
def gtK (k:IntKind) (x y:Value) (K:Value→Prop):Prop:=∃ a b,x=.int k a∧y=.int k b∧K (.bool (decide (b < a)))
def geK (k:IntKind) (x y:Value) (K:Value→Prop):Prop:=∃ a b,x=.int k a∧y=.int k b∧K (.bool (decide (b≤a)))
def eqK (k:IntKind) (x y:Value) (K:Value→Prop):Prop:=∃ a b,x=.int k a∧y=.int k b∧K (.bool (decide (a=b)))
def neK (k:IntKind) (x y:Value) (K:Value→Prop):Prop:=∃ a b,x=.int k a∧y=.int k b∧K (.bool (!decide (a=b)))
def beqK (x y:Value) (K:Value→Prop):Prop:=∃ a b,x=.bool a∧y=.bool b∧K (.bool (a == b))
def bneK (x y:Value) (K:Value→Prop):Prop:=∃ a b,x=.bool a∧y=.bool b∧K (.bool (!(a == b)))
def seqK (x y:Value) (K:Value→Prop):Prop:=∃ a b,x=.string a∧y=.string b∧K (.bool (decide (a=b)))
def sneK (x y:Value) (K:Value→Prop):Prop:=∃ a b,x=.string a∧y=.string b∧K (.bool (!decide (a=b)))
def snilK (x:Value) (K:Bool→Prop):Prop:=∃ a n c,x=.slice a n c∧K (Option.isNone a)
def pnilK (x:Value) (K:Bool→Prop):Prop:=∃ a,x=.pointer a∧K (Option.isNone a)
def maxK (k:IntKind) (x y:Value) (K:Value→Prop):Prop:=∃ a b,x=.int k a∧y=.int k b∧K (.int k (if b > a then b else a))
def minK (k:IntKind) (x y:Value) (K:Value→Prop):Prop:=∃ a b,x=.int k a∧y=.int k b∧K (.int k (if b < a then b else a))
def notK (x:Value) (K:Value→Prop):Prop:=∃ a,x=.bool a∧K (.bool (!a))
def lenK (x:Value) (K:Value→Prop):Prop:=∃ a n c,x=.slice a n c∧K (.int .i64 n)
def slenK (x:Value) (K:Value→Prop):Prop:=∃ s,x=.string s∧K (.int .i64 s.size)
def nilckK (x:Value) (K:Value→Prop):Prop:=∃ a,x=.pointer (some a)∧K x
def faK (off:Nat) (x:Value) (K:Value→Prop):Prop:=∃ a,x=.pointer (some a)∧K (.pointer (some (a.add off)))
def ixK (size:Nat) (x i:Value) (K:Value→Prop):Prop:=
 ∃ a n c k j,x=.slice (some a) n c∧i=.int k j∧0≤j∧j < n∧K (.pointer (some (a.add (j.toNat * size))))
def ld1K (x:Value) (K:Cont) (w:World):Prop:=∃ a v,x=.pointer (some a)∧w.cell? a=some v∧K v w
def ldnK (k:Nat) (x:Value) (K:Cont) (w:World):Prop:=
 ∃ a vs,x=.pointer (some a)∧List.length vs=k∧(∀ j v,vs[j]?=some v→w.cell? (a.add j)=some v)∧K (.agg vs.toArray) w
def st1K (x v:Value) (K:World→Prop) (w:World):Prop:=
 ∃ a u,x=.pointer (some a)∧v.oneCell'=true∧v.cells=#[v]∧w.cell? a=some u∧w.frozen? a=false∧K (w.setCell a v)
def setL (w:World) (a:Addr):Nat→List Value→World
 | _,[]=>w
 | i,v :: vs=>setL (w.setCell (a.add i) v) a (i+1) vs
def stnK (k:Nat) (x v:Value) (K:World→Prop) (w:World):Prop:=
 ∃ a vs,x=.pointer (some a)∧v=.agg (List.toArray vs)∧vs.length=k∧(∀ v ∈ vs,v.oneCell'=true)∧
  (∀ j,j < k→(w.cell? (a.add j)).isSome=true∧w.frozen? (a.add j)=false)∧K (setL w a 0 vs)
def newK (t:TypeId) (cs:List Value) (K:Cont) (w:World):Prop:=K (.pointer (some ⟨w.heap.size,0,none⟩)) (w.alloc (.cells cs.toArray t))
def box1K (t:TypeId) (x:Value) (K:Cont) (w:World):Prop:=x.cells=#[x]∧newK t [x] K w
def boxnK (t:TypeId) (x:Value) (K:Cont) (w:World):Prop:=∃ vs,x=.agg (List.toArray vs)∧newK t vs K w
def buildK (places:List (Nat × Nat)) (zero:List Value) (parts:List (Nat × Value)) (K:Value→Prop):Prop:=
 ∃ cs,Instr.fill (fun i=>places[i]?) zero.toArray parts=some cs∧K (.agg cs)
def rowK (e:TypeId) (size len:Nat) (zero:List Value) (parts:List (Nat × Value)) (K:Cont) (w:World):Prop:=
 ∃ cs,Instr.fill (fun i=>some (i * size,size)) ((Array.range (len * size)).map (zero.toArray[· % zero.toArray.size]!)) parts=some cs∧
  K (.slice (some ⟨w.heap.size,0,none⟩) len len) (w.alloc (.cells cs e))
def extK (i:Nat) (x:Value) (K:Value→Prop):Prop:=∃ vs v,x=.tuple (List.toArray vs)∧vs[i]?=some v∧K v
def runK (P:Program) (s:Sem Value) (K:Cont) (w:World):Prop:=∃ v w',s.run P w=.ok v w'∧K v w'
def callK (P:Program) (g:Nat) (args:List Value) (K:Cont) (w:World):Prop:=
 Calls P g args.toArray w fun e w'=>∃ v,e=.returned v∧K v w'
def extcK (P:Program) (g:Nat) (args:List Value) (K:Cont) (w:World):Prop:=∃ v w',(callFunc g args.toArray).run P w=.ok (.value v) w'∧K v w'
def callvK (P:Program) (ok:Nat→Bool) (f:Value) (args:List Value) (K:Cont) (w:World):Prop:=
 ∃ g fst cap,f=.func (.func g) (List.toArray fst) (List.toArray cap)∧ok g=true∧callK P g (fst++args++cap) K w
def JoinK (R:List Value→World→Prop) (G:(List Value→World→Prop)→Prop):Prop:=∃ I:List Value→World→Prop,(∀ vs w,I vs w→R vs w)∧G I
def LoopK (init:List Value) (F:List Value→(List Value→World→Prop)→World→Prop) (w:World):Prop:=
 ∃ (I:List Value→World→Prop) (μ:List Value→World→Nat),I init w∧∀ vs w,I vs w→F vs (fun vs' w'=>I vs' w'∧μ vs' w' < μ vs w) w

def aggOf (P:Program) (t:TypeId):Option (Bool × Nat):=
 match P.underlying t,P.info? t with
 | some (.struct _),some i=>some (true,i.size)
 | some (.array _ _),some i=>some (true,i.size)
 | some _,some i=>some (false,i.size)
 | _,_=>none
def zeroOf (P:Program) (t:TypeId):Option Value:=match P.info? t with | some i=>i.zero | none=>none

def isNilS:Operand→Bool
 | .const (.slice none _ _)=>true
 | _=>false
def isNilP:Operand→Bool
 | .const (.pointer none)=>true
 | _=>false
def binS (op:BinOp) (t:TypeId) (xo yo:Operand) (x y:Value):Sem Value:=do eqGuard op t xo yo x y;binOp op t x y
def binD (P:Program) (op:BinOp) (t:TypeId) (yo:Operand) (x y:Value) (K:Value→Prop) (F:Prop):Prop:=
 match P.underlying t with
 | some (.int k)=>match op with
  | .add=>addK k x y K | .sub=>subK k x y K | .mul=>mulK k x y K
  | .lss=>ltK k x y K | .leq=>leK k x y K | .gtr=>gtK k x y K | .geq=>geK k x y K
  | .eql=>eqK k x y K | .neq=>neK k x y K
  | _=>F
 | some .bool=>match op with
  | .eql=>beqK x y K | .neq=>bneK x y K
  | _=>F
 | some .string=>match op with
  | .eql=>seqK x y K | .neq=>sneK x y K
  | _=>F
 | some (.slice _)=>bif isNilS yo then match op with
   | .eql=>snilK x fun b=>K (.bool b)
   | .neq=>snilK x fun b=>K (.bool (!b))
   | _=>F
  else F
 | some (.pointer _)=>bif isNilP yo then match op with
   | .eql=>pnilK x fun b=>K (.bool b)
   | .neq=>pnilK x fun b=>K (.bool (!b))
   | _=>F
  else F
 | _=>F

def placesOf (P:Program) (fs:List Field):Option (List (Nat × Nat)):=
 match fs with
 | []=>some []
 | f :: r=>match P.info? f.type,placesOf P r with | some i,some l=>some ((f.offset,i.size) :: l) | _,_=>none

def opD (P:Program) (ok:Nat→Bool) (o:Oper) (ρ:Operand→Value) (K:Cont) (w:World):Prop:=
 match o.op with
 | .move x=>K (ρ x) w
 | .assign x=>K (ρ x) w
 | .pick c a b=>pickK (ρ c) (ρ a) (ρ b) fun v=>K v w
 | .alloc t=>match zeroOf P t with | some z=>newK t z.cells.toList K w | none=>False
 | .box t x=>match aggOf P t with | some (false,_)=>box1K t (ρ x) K w | some (true,_)=>boxnK t (ρ x) K w | none=>False
 | .load t x=>match aggOf P t with | some (false,_)=>ld1K (ρ x) K w | some (true,k)=>ldnK k (ρ x) K w | none=>False
 | .store t a x=>match aggOf P t with
  | some (false,k)=>bif Nat.beq k 1 then st1K (ρ a) (ρ x) (fun w=>K undef w) w else False
  | some (true,k)=>stnK k (ρ a) (ρ x) (fun w=>K undef w) w
  | none=>False
 | .nilCheck x=>nilckK (ρ x) fun v=>K v w
 | .binOp op t x y _=>binD P op t y (ρ x) (ρ y) (fun v=>K v w) (runK P (binS op t x y (ρ x) (ρ y)) K w)
 | .unOp .not _ x=>notK (ρ x) fun v=>K v w
 | .unOp op _ x=>runK P (Op.unary op (ρ x)) K w
 | .fieldAddr s x f=>match P.underlying s with
  | some (.struct fs)=>match fs.toList[f]? with
   | some f=>match P.info? f.type with
    | some i=>bif Nat.beq i.size 0 then False else faK f.offset (ρ x) fun v=>K v w
    | none=>False
   | none=>False
  | _=>False
 | .indexAddr t x i=>match P.underlying t with
  | some (.slice e)=>match P.info? e with | some f=>ixK f.size (ρ x) (ρ i) fun v=>K v w | none=>False
  | _=>runK P (Instr.indexAt t (ρ x) (ρ i)) K w
 | .build t parts=>match P.underlying t,zeroOf P t with
  | some (.struct fs),some z=>match placesOf P fs.toList with
   | some l=>buildK l z.cells.toList (parts.toList.map fun p=>(p.1,ρ p.2)) fun v=>K v w
   | none=>False
  | _,_=>runK P (Instr.build t (parts.toList.map fun p=>(p.1,ρ p.2)).toArray) K w
 | .buildSlice t len parts=>match P.underlying t with
  | some (.slice e)=>match P.info? e with
   | some i=>bif Nat.blt 0 (len * i.size) && Nat.ble (len * i.size) 1000000 then
     match i.zero with | some z=>rowK e i.size len z.cells.toList (parts.toList.map fun p=>(p.1,ρ p.2)) K w | none=>False
    else bif Nat.beq (len * i.size) 0 then rowK e i.size len [] (parts.toList.map fun p=>(p.1,ρ p.2)) K w else False
   | none=>False
  | _=>False
 | .extract t i=>extK i (ρ t) fun v=>K v w
 | .makeFunc fn fst cap=>K (.func fn (fst.toList.map ρ).toArray (cap.toList.map ρ).toArray) w
 | .convert s d x=>runK P (convert s d (ρ x)) K w
 | .slice t x lo hi mx=>runK P (Instr.sliceAt t (ρ x) (lo.map ρ) (hi.map ρ) (mx.map ρ)) K w
 | .field t x f=>runK P (Instr.field t (ρ x) f) K w
 | .index t x i=>runK P (Instr.index t (ρ x) (ρ i)) K w
 | .makeMap t r=>runK P (Instr.makeMap t (r.map ρ)) K w
 | .makeSlice t l c=>runK P (Instr.makeSlice t (ρ l) (ρ c)) K w
 | .makeInterface t x=>runK P (Instr.makeInterface t (ρ x)) K w
 | .lookup t x i b=>runK P (Instr.lookup t (ρ x) (ρ i) b) K w
 | .mapUpdate t m k x=>runK P (do Instr.mapUpdate t (ρ m) (ρ k) (ρ x);pure undef) K w
 | .insert t m k x=>runK P (do Instr.mapUpdate t (ρ m) (ρ k) (ρ x);pure undef) K w
 | .mapEntry t m k=>runK P (Instr.mapEntry t (ρ m) (ρ k)) K w
 | .entryStore t m s x=>runK P (do Instr.entryStore t (ρ m) (ρ s) (ρ x);pure undef) K w
 | .range t x=>runK P (Instr.range t (ρ x)) K w
 | .next it s=>runK P (Instr.next (ρ it) s o.type) K w
 | .entry it=>runK P (Instr.entry (ρ it)) K w
 | .typeAssert x xt at_ b=>runK P (Instr.typeAssert (ρ x) xt at_ b) K w
 | .call c=>match c.callee with
  | .value (.func g)=>bif ok g then callK P g (c.args.toList.map ρ) K w else extcK P g (c.args.toList.map ρ) K w
  | .value f=>callvK P ok (ρ f) (c.args.toList.map ρ) K w
  | .builtin .len=>match c.argTypes.toList,c.args.toList with
   | [t],[x]=>match P.underlying t with
    | some (.slice _)=>lenK (ρ x) fun v=>K v w
    | some .string=>slenK (ρ x) fun v=>K v w
    | _=>runK P (Builtin.len_ c.argTypes o.type #[ρ x]) K w
   | _,_=>False
  | .builtin .append=>runK P (Builtin.append_ c.argTypes o.type (c.args.toList.map ρ).toArray) K w
  | .builtin .copy=>runK P (Builtin.copy_ c.argTypes o.type (c.args.toList.map ρ).toArray) K w
  | .builtin .cap=>runK P (Builtin.cap_ c.argTypes o.type (c.args.toList.map ρ).toArray) K w
  | .builtin .max=>match P.underlying o.type,c.args.toList with
   | some (.int k),[x,y]=>maxK k (ρ x) (ρ y) fun v=>K v w
   | _,_=>runK P (Builtin.max_ c.argTypes o.type (c.args.toList.map ρ).toArray) K w
  | .builtin .min=>match P.underlying o.type,c.args.toList with
   | some (.int k),[x,y]=>minK k (ρ x) (ρ y) fun v=>K v w
   | _,_=>runK P (Builtin.min_ c.argTypes o.type (c.args.toList.map ρ).toArray) K w
  | .builtin .clear=>runK P (Builtin.clear_ c.argTypes o.type (c.args.toList.map ρ).toArray) K w
  | .builtin .delete=>runK P (Builtin.delete_ c.argTypes o.type (c.args.toList.map ρ).toArray) K w
  | _=>False
 | _=>False

def GoodFns (P:Program) (ok:Nat→Bool):Prop:=∀ g,ok g=true→∀ args w,(callFunc g args).run P w=.ok (.enter g args) w

section
variable {P:Program} {ok:Nat→Bool} {K:Cont} {w:World}
theorem run_isAgg {t:TypeId} {b:Bool} {k:Nat} (h:aggOf P t=some (b,k)) (w:World):(isAgg t).run P w=.ok b w∧(sizeOf t).run P w=.ok k w:=by
 unfold aggOf at h
 unfold isAgg sizeOf underlying typeInfo
 simp only [Sem.run_bind,run_program,Result.andThen_ok]
 revert h
 cases hu:P.underlying t with
 | none=>simp
 | some d=>cases hi:P.info? t with
  | none=>cases d <;> simp
  | some i=>cases d <;> simp +contextual [Sem.run_pure]
theorem run_typeInfo {t:TypeId} {i:TypeInfo} (h:P.info? t=some i) (w:World):(typeInfo t).run P w=.ok i w:=by
 simp [typeInfo,h]
theorem run_underlying {t:TypeId} {d:TypeDesc} (h:P.underlying t=some d) (w:World):(underlying t).run P w=.ok d w:=by
 simp [underlying,h]
theorem run_sizeOf {t:TypeId} {i:TypeInfo} (h:P.info? t=some i) (w:World):(sizeOf t).run P w=.ok i.size w:=by
 simp [sizeOf,run_typeInfo h]
theorem run_zeroValue {t:TypeId} {z:Value} (h:zeroOf P t=some z) (w:World):(zeroValue t).run P w=.ok z w:=by
 unfold zeroOf at h
 cases hi:P.info? t with
 | none=>simp [hi] at h
 | some i=>simp only [hi] at h;simp [zeroValue,run_typeInfo hi,h]
theorem ld1_run {t:TypeId} {k:Nat} {x:Value} (ha:aggOf P t=some (false,k)) (h:ld1K x K w):runK P (Instr.loadAt t x) K w:=by
 obtain ⟨a,v,rfl,hc,hK⟩:=h
 exact ⟨v,w,by simp [Instr.loadAt,Instr.sureAddr,loadVar,(run_isAgg ha w).1,hc],hK⟩
theorem ldn_run {t:TypeId} {k:Nat} {x:Value} (ha:aggOf P t=some (true,k)) (h:ldnK k x K w):runK P (Instr.loadAt t x) K w:=by
 obtain ⟨a,vs,rfl,hl,hc,hK⟩:=h
 refine ⟨_,w,?_,hK⟩
 have hcells:=run_loadCells_list (P:=P) (w:=w) a vs hc
 simp only [Instr.loadAt,Instr.sureAddr,loadVar,Sem.run_bind,Sem.run_pure,Result.andThen_ok,(run_isAgg ha w).1,(run_isAgg ha w).2,if_true]
 rw [←hl,hcells]
 rfl
theorem setL_run (a:Addr):∀ (vs:List Value) (i:Nat) (w:World),(∀ v ∈ vs,v.oneCell'=true)→
  (∀ j,i≤j→j < i+vs.length→(w.cell? (a.add j)).isSome=true∧w.frozen? (a.add j)=false)→
  (storeCells a vs i).run P w=.ok () (setL w a i vs):=by
 intro vs
 induction vs with
 | nil=>intro i w _ _;simp [storeCells,setL]
 | cons v vs ih=>
  intro i w h1 h2
  have h3:=h2 i (Nat.le_refl _) (by simp)
  obtain ⟨u,hu⟩:=Option.isSome_iff_exists.1 h3.1
  simp only [storeCells,Sem.run_bind,run_store P w _ v .plain (h1 v (by simp)),hu,h3.2,setL]
  simp only [Bool.false_eq_true,if_false,Result.andThen_ok]
  refine ih (i+1) _ (fun v hv=>h1 v (by simp [hv])) (fun j hj hj2=>?_)
  have h4:=h2 j (by omega) (by simp at hj2 ⊢;omega)
  refine ⟨?_,by rw [World.frozen?_setCell];exact h4.2⟩
  obtain ⟨u',hu'⟩:=Option.isSome_iff_exists.1 h4.1
  by_cases he:a.add i=a.add j
  ·rw [←he,World.cell?_setCell_same w _ v hu];rfl
  ·rw [World.cell?_setCell_other w _ _ v he,hu'];rfl
end
end Go.K

namespace Go.K
open Go
section
variable {P:Program} {ok:Nat→Bool} {K:Cont} {w:World}

def runU (P:Program) (s:Sem Unit) (K:World→Prop) (w:World):Prop:=∃ w',s.run P w=.ok () w'∧K w'

theorem st1_run {t:TypeId} {x v:Value} {K:World→Prop} (ha:aggOf P t=some (false,1)) (h:st1K x v K w):runU P (Instr.storeAt t x v) K w:=by
 obtain ⟨a,u,rfl,h1,hc,hu,hf,hK⟩:=h
 refine ⟨_,?_,hK⟩
 have hc':v.cells.toList=[v]:=by rw [hc]
 have hs:v.cells.size=1:=by rw [hc];rfl
 simp only [Instr.storeAt,Instr.sureAddr,storeVar,Sem.run_bind,Sem.run_pure,Result.andThen_ok,(run_isAgg ha w).2,hs]
 simp only [ne_eq,not_true_eq_false,if_false,Sem.run_bind,Sem.run_pure,hc',storeCells,run_store P w _ v .plain h1,Addr.add_zero',hu,hf]
 simp
theorem stn_run {t:TypeId} {k:Nat} {x v:Value} {K:World→Prop} (ha:aggOf P t=some (true,k)) (h:stnK k x v K w):runU P (Instr.storeAt t x v) K w:=by
 obtain ⟨a,vs,rfl,rfl,hl,h1,hc,hK⟩:=h
 refine ⟨_,?_,hK⟩
 simp only [Instr.storeAt,Instr.sureAddr,storeVar,Sem.run_bind,Sem.run_pure,Result.andThen_ok,(run_isAgg ha w).2,Value.cells,List.size_toArray,hl]
 simp only [ne_eq,not_true_eq_false,if_false]
 exact setL_run a vs 0 w h1 (fun j _ hj=>hc j (by omega))
theorem new_run {t:TypeId} {cs:List Value} {v:Value} (hv:v.cells=cs.toArray) (h:newK t cs K w) :
  runK P (do pure (.pointer (some (← newVar t v)))) K w:=by
 refine ⟨_,_,?_,h⟩
 simp [newVar,newRow,hv]
theorem alloc_run {t:TypeId} {z:Value} (hz:zeroOf P t=some z) (h:newK t z.cells.toList K w):runK P (Instr.alloc t true (.tuple #[])) K w:=by
 obtain ⟨v,w',h1,h2⟩:=new_run (P:=P) (v:=z) (by simp) h
 refine ⟨v,w',?_,h2⟩
 simp only [Instr.alloc,Sem.run_bind,run_zeroValue hz,Result.andThen_ok]
 simpa using h1
theorem box1_run {t:TypeId} {x:Value} (h:box1K t x K w):runK P (Instr.box t x) K w:=new_run (v:=x) (by rw [h.1]) h.2
theorem boxn_run {t:TypeId} {x:Value} (h:boxnK t x K w):runK P (Instr.box t x) K w:=by
 obtain ⟨vs,rfl,h⟩:=h
 exact new_run (v:=.agg vs.toArray) rfl h
theorem fa_run {s:TypeId} {x:Value} {f:Nat} {fs:Array Field} {fd:Field} {i:TypeInfo} (hu:P.underlying s=some (.struct fs)) (hf:fs.toList[f]?=some fd)
  (hi:P.info? fd.type=some i) (hz:Nat.beq i.size 0=false) (h:faK fd.offset x fun v=>K v w):runK P (Instr.fieldAt s x f) K w:=by
 obtain ⟨a,rfl,hK⟩:=h
 refine ⟨_,w,?_,hK⟩
 have hf':fs[f]?=some fd:=by rw [←Array.getElem?_toList];exact hf
 have hz':i.size≠0:=by intro e;rw [e] at hz;exact absurd hz (by decide)
 simp [Instr.fieldAt,run_underlying hu,hf',Instr.sureAddr,fieldPlace,run_sizeOf hi,hz']
theorem ix_run {t e:TypeId} {x i:Value} {f:TypeInfo} (hu:P.underlying t=some (.slice e)) (hi:P.info? e=some f)
  (h:ixK f.size x i fun v=>K v w):runK P (Instr.indexAt t x i) K w:=by
 obtain ⟨a,n,c,k,j,rfl,rfl,h0,h1,hK⟩:=h
 refine ⟨_,w,?_,hK⟩
 simp [Instr.indexAt,asIntOf,run_underlying hu,h0,h1,run_sizeOf hi]
theorem places_run:∀ (fs:List Field) (l:List (Nat × Nat)),placesOf P fs=some l→∀ w:World,
  (fs.mapM (fun f=>Functor.map (Prod.mk f.offset) (sizeOf f.type)):Sem (List (Nat × Nat))).run P w=.ok l w:=by
 intro fs
 induction fs with
 | nil=>intro l h w;simp only [placesOf,Option.some.injEq] at h;subst h;simp
 | cons f r ih=>
  intro l h w
  simp only [placesOf] at h
  cases hi:P.info? f.type with
  | none=>simp [hi] at h
  | some i=>
   cases hr:placesOf P r with
   | none=>simp [hi,hr] at h
   | some l'=>
    simp only [hi,hr,Option.some.injEq] at h;subst h
    simp [List.mapM_cons,run_sizeOf hi,ih l' hr]
theorem build_run {t:TypeId} {fs:Array Field} {z:Value} {l:List (Nat × Nat)} {parts:List (Nat × Value)} (hu:P.underlying t=some (.struct fs)) (hz:zeroOf P t=some z)
  (hl:placesOf P fs.toList=some l) (h:buildK l z.cells.toList parts fun v=>K v w):runK P (Instr.build t parts.toArray) K w:=by
 obtain ⟨cs,hf,hK⟩:=h
 refine ⟨_,w,?_,hK⟩
 have hm:(fs.mapM (fun f=>do pure (f.offset,←sizeOf f.type)):Sem (Array (Nat × Nat))).run P w=.ok l.toArray w:=by
  rw [Array.mapM_eq_mapM_toList]
  have:=places_run fs.toList l hl w
  simp only [Sem.run_map,bind_pure_comp,this]
  rfl
 simp only [Instr.build,Sem.run_bind,run_zeroValue hz,Result.andThen_ok,run_underlying hu,hm]
 simp only [Array.toArray_toList] at hf
 have e1:(fun i:Nat=>l.toArray[i]?)=fun i=>l[i]?:=by funext i;simp
 rw [e1,hf]
 rfl
theorem row_run {t e:TypeId} {len:Nat} {i:TypeInfo} {z:Value} {parts:List (Nat × Value)} (hu:P.underlying t=some (.slice e)) (hi:P.info? e=some i) (hz:i.zero=some z)
  (hb:(Nat.blt 0 (len * i.size) && Nat.ble (len * i.size) 1000000)=true) (h:rowK e i.size len z.cells.toList parts K w):runK P (Instr.buildSlice t len parts.toArray) K w:=by
 obtain ⟨cs,hf,hK⟩:=h
 refine ⟨_,_,?_,hK⟩
 simp only [Bool.and_eq_true] at hb
 have h1:¬ len * i.size > 2 ^ 24:=by have:=Nat.le_of_ble_eq_true hb.2;omega
 have h2:¬ len * i.size=0:=by have:=Nat.le_of_ble_eq_true hb.1;omega
 simp only [Instr.buildSlice,Sem.run_bind,run_underlying hu,run_sizeOf hi,Result.andThen_ok,h1,h2,if_false,Sem.run_pure]
 simp only [Array.toArray_toList] at hf
 have hz':zeroOf P e=some z:=by simp [zeroOf,hi,hz]
 simp only [run_zeroValue hz',Result.andThen_ok,hf]
 simp [newRow]
theorem row0_run {t e:TypeId} {len:Nat} {i:TypeInfo} {parts:List (Nat × Value)} (hu:P.underlying t=some (.slice e)) (hi:P.info? e=some i)
  (hb:Nat.beq (len * i.size) 0=true) (h:rowK e i.size len [] parts K w):runK P (Instr.buildSlice t len parts.toArray) K w:=by
 obtain ⟨cs,hf,hK⟩:=h
 refine ⟨_,_,?_,hK⟩
 have h2:len * i.size=0:=Nat.eq_of_beq_eq_true hb
 have h1:¬ len * i.size > 2 ^ 24:=by omega
 simp only [h2] at hf
 simp only [Instr.buildSlice,Sem.run_bind,run_underlying hu,run_sizeOf hi,Result.andThen_ok,h1,if_false]
 simp only [h2,if_true,Sem.run_bind,Sem.run_pure,Result.andThen_ok,hf]
 simp [newRow]
theorem len_run {ats:Array TypeId} {ty t e:TypeId} {x:Value} (ht:ats.toList=[t]) (hu:P.underlying t=some (.slice e)) (h:lenK x fun v=>K v w):runK P (Builtin.len_ ats ty #[x]) K w:=by
 obtain ⟨a,n,c,rfl,hK⟩:=h
 refine ⟨_,w,?_,hK⟩
 have ht':ats=#[t]:=by rw [←Array.toArray_toList (xs:=ats),ht]
 subst ht'
 simp [Builtin.len_,run_underlying hu,goInt]
theorem slen_run {ats:Array TypeId} {ty t:TypeId} {x:Value} (ht:ats.toList=[t]) (hu:P.underlying t=some .string) (h:slenK x fun v=>K v w):runK P (Builtin.len_ ats ty #[x]) K w:=by
 obtain ⟨s,rfl,hK⟩:=h
 refine ⟨_,w,?_,hK⟩
 have ht':ats=#[t]:=by rw [←Array.toArray_toList (xs:=ats),ht]
 subst ht'
 simp [Builtin.len_,run_underlying hu,goInt]
theorem ext_run {x:Value} {i:Nat} (h:extK i x fun v=>K v w):runK P (Instr.extract x i) K w:=by
 obtain ⟨vs,v,rfl,hv,hK⟩:=h
 exact ⟨v,w,by simp [Instr.extract,hv],hK⟩
theorem toList_beq (a b:ByteArray):(a.toList == b.toList)=decide (a=b):=by
 by_cases h:a=b
 ·subst h;simp
 ·have:¬ a.toList=b.toList:=by
   intro e;apply h
   rw [ByteArray.toList_eq,ByteArray.toList_eq] at e
   cases a;cases b;simp at e;simp [e]
  simp [h,this]
theorem run_equalIn_snil (d:Nat) {t e:TypeId} (hu:P.underlying t=some (.slice e)) (a:Option Addr) (n c n' c':Nat) (w:World) :
  (Op.equalIn (d+1) t (.slice a n c) (.slice none n' c')).run P w=.ok a.isNone w:=by
 cases a <;> simp [Op.equalIn,run_underlying hu]
theorem run_equalIn_pnil (d:Nat) {t e:TypeId} (hu:P.underlying t=some (.pointer e)) (a:Option Addr) (w:World) :
  (Op.equalIn (d+1) t (.pointer a) (.pointer none)).run P w=.ok a.isNone w:=by
 cases a <;> simp [Op.equalIn,run_underlying hu]
theorem run_equal_snil {t e:TypeId} (hu:P.underlying t=some (.slice e)) (a:Option Addr) (n c n' c':Nat) (w:World) :
  (Op.equal t (.slice a n c) (.slice none n' c')).run P w=.ok a.isNone w:=run_equalIn_snil 9999 hu a n c n' c' w
theorem run_equal_pnil {t e:TypeId} (hu:P.underlying t=some (.pointer e)) (a:Option Addr) (w:World) :
  (Op.equal t (.pointer a) (.pointer none)).run P w=.ok a.isNone w:=run_equalIn_pnil 9999 hu a w
theorem bin_run {op : BinOp} {t : TypeId} {xo yo : Operand} {x y : Value} {F : Prop} (hy : ∀ v, yo = .const v → y = v) (h : binD P op t yo x y (fun v => K v w) F)
    (hF : F → runK P (do eqGuard op t xo yo x y; binOp op t x y) K w) : runK P (do eqGuard op t xo yo x y; binOp op t x y) K w := by
  unfold binD at h
  cases hu : P.underlying t with
  | none => simp only [hu] at h; exact hF h
  | some d =>
    simp only [hu] at h
    cases d with
    | int k =>
      cases op <;> simp only at h <;> first
        | exact hF h
        | (obtain ⟨a, b, rfl, rfl, hK⟩ := h
           refine ⟨_, w, ?_, hK⟩
           simp [eqGuard_at_int, binOp, Op.intArith, Op.intCmp]
           done)
        | (obtain ⟨a, b, rfl, rfl, hK⟩ := h
           refine ⟨_, w, ?_, hK⟩
           simp [eqGuard_at_int, binOp, Op.intCmp]
           first | done | (by_cases hab : a = b <;> simp [hab]))
    | bool =>
      cases op <;> simp only at h <;> first
        | exact hF h
        | (obtain ⟨a, b, rfl, rfl, hK⟩ := h
           refine ⟨_, w, ?_, hK⟩
           simp [eqGuard_at_bool, run_eql_bool w t a b hu, run_neq_bool w t a b hu])
    | string =>
      cases op <;> simp only at h <;> first
        | exact hF h
        | (obtain ⟨a, b, rfl, rfl, hK⟩ := h
           refine ⟨_, w, ?_, hK⟩
           simp [eqGuard_at_string, binOp, Op.stringOp, toList_beq])
    | slice e =>
      cases hn : isNilS yo with
      | false => simp only [hn, cond_false] at h; exact hF h
      | true =>
        simp only [hn, cond_true] at h
        have hy2 : ∃ n c, y = .slice none n c := by
          unfold isNilS at hn; split at hn
          · exact ⟨_, _, hy _ rfl⟩
          · cases hn
        cases op <;> simp only at h <;> first
          | exact hF h
          | (obtain ⟨a, hK⟩ := h
             first
               | (obtain ⟨n, c, rfl, hK⟩ := hK
                  refine ⟨_, w, ?_, hK⟩
                  obtain ⟨n', c', rfl⟩ := hy2
                  simp [eqGuard_at_slice, binOp, run_equal_snil hu]
                  done)
               | (obtain ⟨rfl, hK⟩ := hK
                  refine ⟨_, w, ?_, hK⟩
                  subst hy2
                  simp [eqGuard_at_slice, binOp, run_equal_snil hu]
                  done))
    | pointer e =>
      cases hn : isNilP yo with
      | false => simp only [hn, cond_false] at h; exact hF h
      | true =>
        simp only [hn, cond_true] at h
        have hy2 : y = .pointer none := by
          unfold isNilP at hn; split at hn
          · exact hy _ rfl
          · cases hn
        cases op <;> simp only at h <;> first
          | exact hF h
          | (obtain ⟨a, hK⟩ := h
             first
               | (obtain ⟨n, c, rfl, hK⟩ := hK
                  refine ⟨_, w, ?_, hK⟩
                  obtain ⟨n', c', rfl⟩ := hy2
                  simp [eqGuard_at_pointer, binOp, run_equal_pnil hu]
                  done)
               | (obtain ⟨rfl, hK⟩ := hK
                  refine ⟨_, w, ?_, hK⟩
                  subst hy2
                  simp [eqGuard_at_pointer, binOp, run_equal_pnil hu]
                  done))
    | _ => exact hF h
end
end Go.K

namespace Go.K
open Go
section
variable {P:Program} {ok:Nat→Bool} {K:Cont} {w:World}

def NextOk (w0:World) (r:Result Next) (K:Cont) (P:Program):Prop:=
 match r with
 | .ok (.value v) w'=>K v w'
 | .ok .skip w'=>K undef w'
 | .ok (.enter f args) w'=>w'=w0∧Calls P f args w0 fun e w''=>∃ v,e=.returned v∧K v w''
 | _=>False

theorem upon_of {o:Oper} {a:Act} {next:Act→World→Prop} {Q:Exit→Act→World→Prop} {r:Result Next}
  (h:NextOk w r K P) (hK:∀ v w',K v w'→next (a.put o.dst v) w'):o.upon P a next Q r:=by
 match r,h with
 | .ok (.value v) w',h=>exact hK _ _ h
 | .ok .skip w',h=>exact hK _ _ h
 | .ok (.enter f args) w',h=>
  obtain ⟨rfl,h⟩:=h
  exact Calls.mono h fun e w'' ⟨v,he,hv⟩=>by subst he;exact hK _ _ hv

theorem nx_v {s:Sem Value} (h:runK P s K w):NextOk w ((do pure (Next.value (← s)):Sem Next).run P w) K P:=by
 obtain ⟨v,w',h1,h2⟩:=h
 simp only [Sem.run_bind,h1,Result.andThen_ok,Sem.run_pure]
 exact h2
theorem nx_u {s:Sem Unit} (h:runU P s (fun w=>K undef w) w):NextOk w ((do s;pure Next.skip:Sem Next).run P w) K P:=by
 obtain ⟨w',h1,h2⟩:=h
 simp only [Sem.run_bind,h1,Result.andThen_ok,Sem.run_pure]
 exact h2
theorem nx_u' {s:Sem Unit} (h:runK P (do s;pure undef) K w):NextOk w ((do s;pure Next.skip:Sem Next).run P w) K P:=by
 obtain ⟨v,w',h1,h2⟩:=h
 simp only [Sem.run_bind,Sem.run_pure] at h1 ⊢
 revert h1
 cases s.run P w with
 | halt x w1=>intro h1;exact absurd h1 (by simp)
 | ok u w1=>intro h1;simp at h1;obtain ⟨rfl,rfl⟩:=h1;exact h2
theorem args_map (ρ:Operand→Value) (xs:Array Operand):xs.map ρ=(xs.toList.map ρ).toArray:=by
 apply Array.toList_inj.1;simp
theorem parts_map (ρ:Operand→Value) (xs:Array (Nat × Operand)):(xs.map fun (i,x)=>(i,ρ x))=(xs.toList.map fun p=>(p.1,ρ p.2)).toArray:=by
 apply Array.toList_inj.1;simp
theorem nx_call (hok:GoodFns P ok) {g:Nat} {args:List Value} (hg:ok g=true) (h:callK P g args K w) :
  NextOk w ((callFunc g args.toArray).run P w) K P:=by
 rw [hok g hg]
 exact ⟨rfl,h⟩
set_option maxHeartbeats 1000000 in
theorem opD_nx (hok:GoodFns P ok) {o:Oper} {ρ:Operand→Value} (hρ:∀ v,ρ (.const v)=v) (hρf:∀ f,ρ (.func f)=.func (.func f) #[] #[]) (h:opD P ok o ρ K w) :
  NextOk w ((execOp ρ o).run P w) K P:=by
 obtain ⟨dst,op,type,pos,after,guard⟩:=o
 cases op with
 | move x=>exact h
 | assign x=>exact h
 | pick c a b=>
  simp only [opD,pickK] at h
  simp only [execOp]
  cases hc:ρ c with
  | bool t=>cases t <;> simp only [hc] at h <;> simpa [asBool,NextOk] using h
  | _=>simp only [hc] at h
 | alloc t=>
  simp only [opD] at h
  split at h
  ·rename_i z hz;exact nx_v (alloc_run hz h)
  ·exact h.elim
 | box t x=>
  simp only [opD] at h
  split at h
  ·exact nx_v (box1_run h)
  ·exact nx_v (boxn_run h)
  ·exact h.elim
 | load t x=>
  simp only [opD] at h
  split at h
  ·rename_i ha;exact nx_v (ld1_run ha h)
  ·rename_i ha;exact nx_v (ldn_run ha h)
  ·exact h.elim
 | store t a x=>
  simp only [opD] at h
  split at h
  ·rename_i k ha
   cases hk:Nat.beq k 1 with
   | false=>simp only [hk,cond_false] at h
   | true=>
    simp only [hk,cond_true] at h
    rw [Nat.eq_of_beq_eq_true hk] at ha
    exact nx_u (st1_run ha h)
  ·rename_i ha;exact nx_u (stn_run ha h)
  ·exact h.elim
 | nilCheck x=>
  simp only [opD] at h
  obtain ⟨a,h1,h2⟩:=h
  simp only [execOp,h1]
  rw [h1] at h2
  exact h2
 | binOp op t x y yt=>
  simp only [opD] at h
  exact nx_v (bin_run (xo:=x) (fun v hv=>by rw [hv,hρ]) h (fun hF=>hF))
 | unOp op t x=>
  simp only [opD] at h
  cases op with
  | plus=>exact nx_v h
  | not=>
   obtain ⟨a,h1,h2⟩:=h
   exact nx_v ⟨_,w,by simp [Op.unary,h1],h2⟩
  | neg=>exact nx_v h
  | xor=>exact nx_v h
 | fieldAddr s x f=>
  simp only [opD] at h
  split at h
  ·rename_i fs hu
   split at h
   ·rename_i fd hf
    split at h
    ·rename_i i hi
     cases hz:Nat.beq i.size 0 with
     | true=>simp only [hz,cond_true] at h
     | false=>
      simp only [hz,cond_false] at h
      exact nx_v (fa_run hu hf hi hz h)
    ·exact h.elim
   ·exact h.elim
  ·exact h.elim
 | indexAddr t x i=>
  simp only [opD] at h
  split at h
  ·rename_i e hu
   split at h
   ·rename_i f hi;exact nx_v (ix_run hu hi h)
   ·exact h.elim
  ·exact nx_v h
 | build t parts=>
  simp only [opD] at h
  have e1:(execOp ρ ⟨dst,.build t parts,type,pos,after,guard⟩)=(do pure (Next.value (← Instr.build t (parts.toList.map fun p=>(p.1,ρ p.2)).toArray)):Sem Next):=by
   simp only [execOp];rw [parts_map]
  rw [e1]
  split at h
  ·rename_i fs z hu hz
   split at h
   ·rename_i l hl;exact nx_v (build_run hu hz hl h)
   ·exact h.elim
  ·exact nx_v h
 | buildSlice t len parts=>
  simp only [opD] at h
  have e1:(execOp ρ ⟨dst,.buildSlice t len parts,type,pos,after,guard⟩)=(do pure (Next.value (← Instr.buildSlice t len (parts.toList.map fun p=>(p.1,ρ p.2)).toArray)):Sem Next):=by
   simp only [execOp];rw [parts_map]
  rw [e1]
  split at h
  ·rename_i e hu
   split at h
   ·rename_i i hi
    cases hb:(Nat.blt 0 (len * i.size) && Nat.ble (len * i.size) 1000000) with
    | true=>
     simp only [hb,cond_true] at h
     split at h
     ·rename_i z hz;exact nx_v (row_run hu hi hz hb h)
     ·exact h.elim
    | false=>
     simp only [hb,cond_false] at h
     cases hb2:Nat.beq (len * i.size) 0 with
     | true=>simp only [hb2,cond_true] at h;exact nx_v (row0_run hu hi hb2 h)
     | false=>simp only [hb2,cond_false] at h
   ·exact h.elim
  ·exact h.elim
 | extract t i=>exact nx_v (ext_run h)
 | makeFunc fn fst cap=>
  simp only [opD] at h
  simp only [execOp,Instr.makeFunc,args_map]
  exact h
 | convert s d x=>exact nx_v h
 | slice t x lo hi mx=>exact nx_v h
 | field t x f=>exact nx_v h
 | index t x i=>exact nx_v h
 | makeMap t r=>exact nx_v h
 | makeSlice t l c=>exact nx_v h
 | makeInterface t x=>exact nx_v h
 | lookup t x i b=>exact nx_v h
 | mapUpdate t m k x=>exact nx_u' h
 | insert t m k x=>exact nx_u' h
 | mapEntry t m k=>exact nx_v h
 | entryStore t m s x=>exact nx_u' h
 | range t x=>exact nx_v h
 | next it s=>exact nx_v h
 | entry it=>exact nx_v h
 | typeAssert x xt at_ b=>exact nx_v h
 | call c=>
  obtain ⟨callee,args,ats⟩:=c
  have hb:∀ (b:Builtin) (s:Array Value→Sem Value),callee=.builtin b→(∀ cs xs,builtin b ats type cs xs=(do pure (Next.value (← s xs))))→
    runK P (s (args.toList.map ρ).toArray) K w→NextOk w ((execOp ρ ⟨dst,.call ⟨callee,args,ats⟩,type,pos,after,guard⟩).run P w) K P:=by
   intro b s hc hs hr
   subst hc
   simp only [execOp,resolve,pure_bind,invoke,hs,args_map]
   exact nx_v hr
  cases callee with
  | value f=>
   have hv:∀ g fst cap,ρ f=.func (.func g) (List.toArray fst) (List.toArray cap)→ok g=true→callK P g (fst++args.toList.map ρ++cap) K w→
     NextOk w ((execOp ρ ⟨dst,.call ⟨.value f,args,ats⟩,type,pos,after,guard⟩).run P w) K P:=by
    intro g fst cap hf hg hc
    simp only [execOp,resolve,hf,Deferred.ofValue,pure_bind,invoke,args_map]
    have:=nx_call hok hg hc
    simpa using this
   cases f with
   | func g=>
    simp only [opD] at h
    cases hg:ok g with
    | false=>
     simp only [hg,cond_false] at h
     obtain ⟨v,w',h1,h2⟩:=h
     have e1:(execOp ρ ⟨dst,.call ⟨.value (.func g),args,ats⟩,type,pos,after,guard⟩)=callFunc g (args.toList.map ρ).toArray:=by
      simp [execOp,resolve,hρf,Deferred.ofValue,invoke,args_map]
     rw [e1,h1]
     exact h2
    | true=>
     simp only [hg,cond_true] at h
     exact hv g [] [] (hρf g) hg (by simpa using h)
   | tmp t=>obtain ⟨g,fst,cap,h1,h2,h3⟩:=h;exact hv g fst cap h1 h2 h3
   | const v=>obtain ⟨g,fst,cap,h1,h2,h3⟩:=h;exact hv g fst cap h1 h2 h3
   | global g=>obtain ⟨g,fst,cap,h1,h2,h3⟩:=h;exact hv g fst cap h1 h2 h3
  | invoke r m=>exact h.elim
  | builtin b=>
   cases b <;> first
    | exact h.elim
    | exact hb _ _ rfl (fun _ xs=>rfl) h
    | skip
   case max=>
    simp only [opD] at h
    split at h
    ·rename_i k x y hk hx
     obtain ⟨p,q,h1,h2,h3⟩:=h
     refine hb .max _ rfl (fun _ xs=>rfl) ⟨_,w,?_,h3⟩
     rw [hx]
     simp only [List.map_cons,List.map_nil,h1,h2]
     exact run_max_int2 w ats type k k p q
    ·exact hb .max _ rfl (fun _ xs=>rfl) h
   case min=>
    simp only [opD] at h
    split at h
    ·rename_i k x y hk hx
     obtain ⟨p,q,h1,h2,h3⟩:=h
     refine hb .min _ rfl (fun _ xs=>rfl) ⟨_,w,?_,h3⟩
     rw [hx]
     simp only [List.map_cons,List.map_nil,h1,h2]
     exact run_min_int2 w ats type k k p q
    ·exact hb .min _ rfl (fun _ xs=>rfl) h
   simp only [opD] at h
   split at h
   ·rename_i t x ht hx
    have hargs:(args.toList.map ρ).toArray=#[ρ x]:=by rw [hx];rfl
    refine hb .len _ rfl (fun _ xs=>rfl) ?_
    rw [hargs]
    split at h
    ·rename_i hu;exact len_run ht hu h
    ·rename_i hu;exact slen_run ht hu h
    ·exact h
   ·exact h.elim
 | _=>exact h.elim

def pureBin (P:Program) (op:BinOp) (t:TypeId) (yo:Operand):Bool:=
 match P.underlying t with
 | some (.int _)=>match op with | .add | .sub | .mul | .lss | .leq | .gtr | .geq | .eql | .neq=>true | _=>false
 | some .bool=>match op with | .eql | .neq=>true | _=>false
 | some .string=>match op with | .eql | .neq=>true | _=>false
 | some (.slice _)=>isNilS yo && (match op with | .eql | .neq=>true | _=>false)
 | some (.pointer _)=>isNilP yo && (match op with | .eql | .neq=>true | _=>false)
 | _=>false
def pureOp (P:Program) (o:Oper):Bool:=
 match o.op with
 | .move _=>true | .assign _=>true | .pick _ _ _=>true | .nilCheck _=>true | .extract _ _=>true
 | .fieldAddr _ _ _=>true
 | .unOp .not _ _=>true
 | .binOp op t _ y _=>pureBin P op t y
 | .indexAddr t _ _=>match P.underlying t with | some (.slice _)=>true | _=>false
 | .build t _=>match P.underlying t,zeroOf P t with | some (.struct _),some _=>true | _,_=>false
 | .call c=>match c.callee with
  | .builtin .len=>match c.argTypes.toList,c.args.toList with
   | [t],[_]=>match P.underlying t with | some (.slice _)=>true | some .string=>true | _=>false
   | _,_=>false
  | .builtin .max=>match P.underlying o.type,c.args.toList with | some (.int _),[_,_]=>true | _,_=>false
  | .builtin .min=>match P.underlying o.type,c.args.toList with | some (.int _),[_,_]=>true | _,_=>false
  | _=>false
 | _=>false

theorem pureBin_det {op:BinOp} {t:TypeId} {yo:Operand} {x y:Value} {K:Value→Prop} {F:Prop} (hp:pureBin P op t yo=true) (h:binD P op t yo x y K F) :
  ∃ v,K v∧∀ (K':Value→Prop) (F':Prop),K' v→binD P op t yo x y K' F':=by
 unfold pureBin at hp
 unfold binD at h
 simp only [binD]
 cases hu:P.underlying t with
 | none=>simp [hu] at hp
 | some d=>
  simp only [hu] at hp h
  cases d with
  | int k=>cases op <;> simp only at hp h ⊢ <;> first
    | (cases hp;done)
    | (obtain ⟨a,b,h1,h2,h3⟩:=h;exact ⟨_,h3,fun K' _ hk=>⟨a,b,h1,h2,hk⟩⟩)
  | bool=>cases op <;> simp only at hp h ⊢ <;> first
    | (cases hp;done)
    | (obtain ⟨a,b,h1,h2,h3⟩:=h;exact ⟨_,h3,fun K' _ hk=>⟨a,b,h1,h2,hk⟩⟩)
  | string=>cases op <;> simp only at hp h ⊢ <;> first
    | (cases hp;done)
    | (obtain ⟨a,b,h1,h2,h3⟩:=h;exact ⟨_,h3,fun K' _ hk=>⟨a,b,h1,h2,hk⟩⟩)
  | slice e=>
   simp only [Bool.and_eq_true] at hp
   simp only [hp.1,cond_true] at h ⊢
   have hp2:=hp.2
   cases op <;> simp only at hp2 h ⊢ <;> first
    | (cases hp2;done)
    | (obtain ⟨a,n,c,h1,h3⟩:=h;exact ⟨_,h3,fun K' _ hk=>⟨a,n,c,h1,hk⟩⟩)
  | pointer e=>
   simp only [Bool.and_eq_true] at hp
   simp only [hp.1,cond_true] at h ⊢
   have hp2:=hp.2
   cases op <;> simp only at hp2 h ⊢ <;> first
    | (cases hp2;done)
    | (obtain ⟨a,h1,h3⟩:=h;exact ⟨_,h3,fun K' _ hk=>⟨a,h1,hk⟩⟩)
  | _=>simp at hp

theorem pure_det {o:Oper} {ρ:Operand→Value} (hp:pureOp P o=true) (h:opD P ok o ρ K w):∃ v,K v w∧∀ (K':Cont) (w':World),K' v w'→opD P ok o ρ K' w':=by
 obtain ⟨dst,op,type,pos,after,guard⟩:=o
 cases op with
 | move x=>exact ⟨_,h,fun _ _ hk=>hk⟩
 | assign x=>exact ⟨_,h,fun _ _ hk=>hk⟩
 | pick c a b=>
  simp only [opD,pickK] at h ⊢
  cases hc:ρ c with
  | bool t=>cases t <;> simp only [hc] at h ⊢ <;> exact ⟨_,h,fun _ _ hk=>hk⟩
  | _=>simp only [hc] at h
 | nilCheck x=>obtain ⟨a,h1,h2⟩:=h;exact ⟨_,h2,fun _ _ hk=>⟨a,h1,hk⟩⟩
 | extract t i=>obtain ⟨vs,v,h1,h2,h3⟩:=h;exact ⟨_,h3,fun _ _ hk=>⟨vs,v,h1,h2,hk⟩⟩
 | unOp op t x=>
  cases op with
  | not=>obtain ⟨a,h1,h2⟩:=h;exact ⟨_,h2,fun _ _ hk=>⟨a,h1,hk⟩⟩
  | _=>simp [pureOp] at hp
 | binOp op t x y yt=>
  simp only [pureOp] at hp
  obtain ⟨v,h1,h2⟩:=pureBin_det hp h
  exact ⟨v,h1,fun K' w' hk=>h2 _ _ hk⟩
 | fieldAddr s x f=>
  simp only [opD] at h ⊢
  split at h
  ·split at h
   ·split at h
    ·rename_i i _
     cases hz:Nat.beq i.size 0 with
     | true=>simp only [hz,cond_true] at h
     | false=>
      simp only [hz,cond_false] at h ⊢
      obtain ⟨a,h1,h2⟩:=h
      exact ⟨_,h2,fun _ _ hk=>⟨a,h1,hk⟩⟩
    ·exact h.elim
   ·exact h.elim
  ·exact h.elim
 | indexAddr t x i=>
  simp only [opD,pureOp] at hp h ⊢
  cases hu:P.underlying t with
  | none=>simp [hu] at hp
  | some d=>
   simp only [hu] at hp h ⊢
   cases d with
   | slice e=>
    simp only at h ⊢
    cases hi:P.info? e with
    | none=>simp [hi] at h
    | some f=>
     simp only [hi] at h ⊢
     obtain ⟨a,n,c,k,j,h1,h2,h3,h4,h5⟩:=h
     exact ⟨_,h5,fun _ _ hk=>⟨a,n,c,k,j,h1,h2,h3,h4,hk⟩⟩
   | _=>simp at hp
 | build t parts=>
  simp only [opD,pureOp] at hp h ⊢
  cases hu:P.underlying t with
  | none=>simp [hu] at hp
  | some d=>
   cases hz:zeroOf P t with
   | none=>simp [hu,hz] at hp
   | some z=>
    simp only [hu,hz] at hp h ⊢
    cases d with
    | struct fs=>
     simp only at h ⊢
     cases hl:placesOf P fs.toList with
     | none=>simp [hl] at h
     | some l=>
      simp only [hl] at h ⊢
      obtain ⟨cs,h1,h2⟩:=h
      exact ⟨_,h2,fun _ _ hk=>⟨cs,h1,hk⟩⟩
    | _=>simp at hp
 | call c=>
  obtain ⟨callee,args,ats⟩:=c
  cases callee with
  | builtin b=>
   cases b <;> simp only [pureOp,opD] at hp h ⊢ <;> try (cases hp;done)
   ·split at hp
    ·rename_i t x ht hx
     simp only [ht,hx] at h ⊢
     split at hp
     ·rename_i e hu
      simp only [hu] at h ⊢
      obtain ⟨a,n,c,h1,h2⟩:=h
      exact ⟨_,h2,fun _ _ hk=>⟨a,n,c,h1,hk⟩⟩
     ·rename_i hu
      simp only [hu] at h ⊢
      obtain ⟨s,h1,h2⟩:=h
      exact ⟨_,h2,fun _ _ hk=>⟨s,h1,hk⟩⟩
     ·cases hp
    ·cases hp
   ·split at hp
    ·rename_i k x y hk hx
     simp only [hk,hx] at h ⊢
     obtain ⟨a,b,h1,h2,h3⟩:=h
     exact ⟨_,h3,fun _ _ hk=>⟨a,b,h1,h2,hk⟩⟩
    ·cases hp
   ·split at hp
    ·rename_i k x y hk hx
     simp only [hk,hx] at h ⊢
     obtain ⟨a,b,h1,h2,h3⟩:=h
     exact ⟨_,h3,fun _ _ hk=>⟨a,b,h1,h2,hk⟩⟩
    ·cases hp
  | _=>simp [pureOp] at hp
 | _=>simp [pureOp] at hp
end
end Go.K

namespace Go.K
open Go

structure Mod (M:Nat→Prop) (w w':World):Prop where
 os:w'.os=w.os
 tape:w'.tape=w.tape
 output:w'.output=w.output
 size:w.heap.size≤w'.heap.size
 same:∀ b,b < w.heap.size→¬ M b→w'.heap[b]?=w.heap[b]?
theorem Mod.refl (M:Nat→Prop) (w:World):Mod M w w:=⟨rfl,rfl,rfl,Nat.le_refl _,fun _ _ _=>rfl⟩
theorem Mod.trans {M:Nat→Prop} {a b c:World} (h:Mod M a b) (k:Mod M b c):Mod M a c:=
 ⟨k.os.trans h.os,k.tape.trans h.tape,k.output.trans h.output,Nat.le_trans h.size k.size,fun i hi hm=>(k.same i (Nat.lt_of_lt_of_le hi h.size) hm).trans (h.same i hi hm)⟩
theorem Mod.mono {M M':Nat→Prop} {w w':World} (h:Mod M w w') (hm:∀ b,b < w.heap.size→M b→M' b):Mod M' w w':=⟨h.os,h.tape,h.output,h.size,fun b hb hn=>h.same b hb fun h'=>hn (hm b hb h')⟩

def memB (l:List Nat) (i:Nat):Bool:=l.any fun x=>Nat.beq x i
def getA:List (List Nat)→Nat→List Nat
 | [],_=>[]
 | a :: _,0=>a
 | _ :: r,i+1=>getA r i
theorem memB_iff {l:List Nat} {i:Nat}:memB l i=true↔i ∈ l:=by
 simp only [memB,List.any_eq_true]
 constructor
 ·rintro ⟨x,hx,hb⟩;rw [←Nat.eq_of_beq_eq_true hb];exact hx
 ·intro h;exact ⟨i,h,by simp⟩

section
variable (P:Program) (ok:Nat→Bool) (n:Nat)

theorem pure_run {P:Program} {ok:Nat→Bool} {o:Oper} {ρ:Operand→Value} {K:Cont} {w:World} (hρ:∀ v,ρ (.const v)=v) (hp:pureOp P o=true) (h:opD P ok o ρ K w):∃ v,K v w∧∀ w',(execOp ρ o).run P w'=.ok (.value v) w':=by
 obtain ⟨v,h1,h2⟩:=pure_det hp h
 refine ⟨v,h1,fun w'=>?_⟩
 obtain ⟨K',hK',hK2⟩:∃ K':Cont,K' v w'∧∀ v' w'',K' v' w''→v'=v∧w''=w':=⟨fun v' w''=>v'=v∧w''=w',⟨rfl,rfl⟩,fun _ _ h=>h⟩
 have h3:=h2 K' w' hK'
 have fin:∀ s:Sem Value,runK P s K' w'→(do pure (Next.value (← s)):Sem Next).run P w'=.ok (.value v) w':=by
  rintro s ⟨v',w'',r1,r2⟩
  obtain ⟨rfl,rfl⟩:=hK2 _ _ r2
  simp [r1]
 clear h h1 h2
 obtain ⟨dst,op,type,pos,after,guard⟩:=o
 cases op with
 | move x=>have h4:=(hK2 _ _ h3).1;simp [execOp,h4]
 | assign x=>have h4:=(hK2 _ _ h3).1;simp [execOp,h4]
 | pick c a b=>
  simp only [opD,pickK] at h3
  cases hc:ρ c with
  | bool t=>cases t <;> simp only [hc] at h3 <;> simp [execOp,asBool,hc,(hK2 _ _ h3).1]
  | _=>simp only [hc] at h3
 | nilCheck x=>obtain ⟨a,h4,h5⟩:=h3;have h6:=(hK2 _ _ h5).1;rw [h4] at h6;subst h6;simp [execOp,h4]
 | extract t i=>exact fin _ (ext_run h3)
 | unOp op t x=>
  cases op with
  | not=>obtain ⟨a,h4,h5⟩:=h3;have h6:=(hK2 _ _ h5).1;simp [execOp,Op.unary,h4,←h6]
  | _=>simp [pureOp] at hp
 | binOp op t x y yt=>
  simp only [pureOp] at hp
  have:binD P op t y (ρ x) (ρ y) (fun v'=>K' v' w') False:=by
   simp only [opD] at h3
   obtain ⟨u,g1,g2⟩:=pureBin_det hp h3
   exact g2 _ _ g1
  exact fin _ (bin_run (xo:=x) (fun v hv=>by rw [hv,hρ]) this (fun hF=>hF.elim))
 | fieldAddr s x f=>
  simp only [opD] at h3
  split at h3
  ·rename_i fs hu
   split at h3
   ·rename_i fd hf
    split at h3
    ·rename_i i hi
     cases hz:Nat.beq i.size 0 with
     | true=>simp only [hz,cond_true] at h3
     | false=>simp only [hz,cond_false] at h3;exact fin _ (fa_run hu hf hi hz h3)
    ·exact h3.elim
   ·exact h3.elim
  ·exact h3.elim
 | indexAddr t x i=>
  simp only [opD,pureOp] at hp h3
  cases hu:P.underlying t with
  | none=>simp [hu] at hp
  | some d=>
   simp only [hu] at hp h3
   cases d with
   | slice e=>
    simp only at h3
    cases hi:P.info? e with
    | none=>simp [hi] at h3
    | some f=>simp only [hi] at h3;exact fin _ (ix_run hu hi h3)
   | _=>simp at hp
 | build t parts=>
  have e1:(execOp ρ ⟨dst,.build t parts,type,pos,after,guard⟩)=(do pure (Next.value (← Instr.build t (parts.toList.map fun p=>(p.1,ρ p.2)).toArray)):Sem Next):=by
   simp only [execOp];rw [parts_map]
  rw [e1]
  simp only [opD,pureOp] at hp h3
  cases hu:P.underlying t with
  | none=>simp [hu] at hp
  | some d=>
   cases hz:zeroOf P t with
   | none=>simp [hu,hz] at hp
   | some z=>
    simp only [hu,hz] at hp h3
    cases d with
    | struct fs=>
     simp only at h3
     cases hl:placesOf P fs.toList with
     | none=>simp [hl] at h3
     | some l=>simp only [hl] at h3;exact fin _ (build_run hu hz hl h3)
    | _=>simp at hp
 | call c=>
  obtain ⟨callee,args,ats⟩:=c
  cases callee with
  | builtin b=>
   have hb:∀ (s:Array Value→Sem Value),(∀ cs xs,builtin b ats type cs xs=(do pure (Next.value (← s xs))))→runK P (s (args.toList.map ρ).toArray) K' w'→
     (execOp ρ ⟨dst,.call ⟨.builtin b,args,ats⟩,type,pos,after,guard⟩).run P w'=.ok (.value v) w':=by
    intro s hs hr
    simp only [execOp,resolve,pure_bind,invoke,hs,args_map]
    exact fin _ hr
   cases b <;> simp only [pureOp,opD] at hp h3 <;> try (cases hp;done)
   ·split at hp
    ·rename_i t x ht hx
     have hargs:(args.toList.map ρ).toArray=#[ρ x]:=by rw [hx];rfl
     simp only [ht,hx] at h3
     split at hp
     ·rename_i e hu
      simp only [hu] at h3
      exact hb _ (fun _ _=>rfl) (by rw [hargs];exact len_run ht hu h3)
     ·rename_i hu
      simp only [hu] at h3
      exact hb _ (fun _ _=>rfl) (by rw [hargs];exact slen_run ht hu h3)
     ·cases hp
    ·cases hp
   ·split at hp
    ·rename_i k x y hk hx
     simp only [hk,hx] at h3
     obtain ⟨p,q,g1,g2,g3⟩:=h3
     refine hb _ (fun _ _=>rfl) ⟨_,w',?_,g3⟩
     rw [hx]
     simp only [List.map_cons,List.map_nil,g1,g2]
     exact run_max_int2 w' ats type k k p q
    ·cases hp
   ·split at hp
    ·rename_i k x y hk hx
     simp only [hk,hx] at h3
     obtain ⟨p,q,g1,g2,g3⟩:=h3
     refine hb _ (fun _ _=>rfl) ⟨_,w',?_,g3⟩
     rw [hx]
     simp only [List.map_cons,List.map_nil,g1,g2]
     exact run_min_int2 w' ats type k k p q
    ·cases hp
  | _=>simp [pureOp] at hp
 | _=>simp [pureOp] at hp

def sld1 (St:Addr→Value→Prop) (x:Value) (k:Value→Prop):Prop:=∃ a v,x=.pointer (some a)∧St a v∧k v
def sldn (St:Addr→Value→Prop) (m:Nat) (x:Value) (k:Value→Prop):Prop:=∃ a vs,x=.pointer (some a)∧List.length vs=m∧(∀ j v,vs[j]?=some v→St (a.add j) v)∧k (.agg vs.toArray)
def prunK (P:Program) (s:Sem Value) (k:Value→Prop):Prop:=∃ v,(∀ w,s.run P w=.ok v w)∧k v
def lookK:List (Nat × Option Bool)→Nat→Option (Option Bool)
 | [],_=>none
 | (i,b) :: r,j=>bif Nat.beq i j then some b else lookK r j
def dstAt:List Oper→Nat→Option Nat
 | [],_=>none
 | o :: _,0=>o.dst
 | _ :: r,j+1=>dstAt r j
def sameB (a b:Bool):Bool:=match a,b with | true,true=>true | false,false=>true | _,_=>false

def wexec (eff:List Nat) (A:Nat→Value→World→Prop) (St:Addr→Value→Prop) (w:World) (o:Oper) (i:Nat) (ρ:Operand→Value) (k:Value→Prop):Prop:=
 bif memB eff i then ∀ v,A i v w→k v
 else match o.op with
  | .load t x=>match aggOf P t with | some (false,_)=>sld1 St (ρ x) k | some (true,m)=>sldn St m (ρ x) k | none=>False
  | .binOp op t x y _=>bif pureBin P op t y then binD P op t y (ρ x) (ρ y) k False else prunK P (binS op t x y (ρ x) (ρ y)) k
  | _=>bif pureOp P o then opD P ok o ρ (fun v _=>k v) w else False

end
end Go.K

namespace Go.K
open Go
def clash (d:Option Nat) (kn:List (Nat × Option Bool)) (all:List Oper):Bool:=
 match d with
 | none=>false
 | some t=>kn.any fun p=>match dstAt all p.1 with | some u=>Nat.beq u t | none=>false


section
variable {P:Program} {ok:Nat→Bool} {n:Nat}
def bv (v:Value):Option Bool:=match v with | .bool b=>some b | _=>none
def yv (all:List Oper) (e:Env) (j:Nat):Option Bool:=match dstAt all j with | some d=>bv (e d) | none=>none

theorem dstAt_get:∀ (l:List Oper) (j:Nat),dstAt l j=(l[j]?).bind (·.dst):=by
 intro l;induction l with
 | nil=>intro j;simp [dstAt]
 | cons o r ih=>intro j;cases j <;> simp [dstAt,ih]
theorem yielded_of {ds:List Deferred} {e:Env} {a:Act} (hf:Fr ds n e a) {ops:Array Oper} {j:Nat}:yielded ops a.tmps j=yv ops.toList e j:=by
 simp only [yielded,yv,dstAt_get,Array.getElem?_toList]
 cases h:(ops[j]?).bind (·.dst) with
 | none=>rfl
 | some d=>
  have h3:=hf.get d
  rw [Array.getD_eq_getD_getElem?] at h3
  simp only [Option.bind_some]
  cases h4:a.tmps[d]? with
  | none=>rw [h4] at h3;simp only [Option.getD_none] at h3;rw [←h3];rfl
  | some v=>rw [h4] at h3;simp only [Option.getD_some] at h3;rw [←h3];cases v <;> rfl

def KnOk (all:List Oper) (kn:List (Nat × Option Bool)) (e:Env):Prop:=∀ j b,lookK kn j=some b→yv all e j=b

theorem upd_self {e:Env} {d:Nat} {v:Value} (h:e d=v):upd n e d v=e:=by
 funext j
 simp only [upd]
 cases hb:(Nat.beq j d && Nat.blt d n) with
 | false=>rfl
 | true=>
  simp only [Bool.and_eq_true] at hb
  have:=Nat.eq_of_beq_eq_true hb.1
  subst this;simp [h]
theorem updO_other {e:Env} {d:Option Nat} {j:Nat} {v:Value} (h:d≠some j):updO n e d v j=e j:=by
 cases d with
 | none=>rfl
 | some i=>
  have:Nat.beq j i=false:=by
   cases hb:Nat.beq j i with
   | false=>rfl
   | true=>exact absurd (by rw [Nat.eq_of_beq_eq_true hb]) h
  simp [updO,upd,this]
theorem lookK_mem {kn:List (Nat × Option Bool)} {j:Nat} {b:Option Bool} (h:lookK kn j=some b):(j,b) ∈ kn:=by
 induction kn with
 | nil=>simp [lookK] at h
 | cons p r ih=>
  obtain ⟨i,c⟩:=p
  simp only [lookK] at h
  cases hb:Nat.beq i j with
  | true=>rw [hb] at h;simp only [cond_true,Option.some.injEq] at h;have:=Nat.eq_of_beq_eq_true hb;subst this;subst h;simp
  | false=>rw [hb] at h;simp only [cond_false] at h;exact List.mem_cons_of_mem _ (ih h)
theorem KnOk.put {all:List Oper} {kn:List (Nat × Option Bool)} {e:Env} (h:KnOk all kn e) {d:Option Nat} (hc:clash d kn all=false) (v:Value):KnOk all kn (updO n e d v):=by
 intro j b hl
 have h1:=h j b hl
 have h2:=lookK_mem hl
 unfold yv at h1 ⊢
 cases hd:dstAt all j with
 | none=>rw [hd] at h1;exact h1
 | some u=>
  rw [hd] at h1
  rw [←h1]
  show bv (updO n e d v u)=bv (e u)
  rw [updO_other]
  intro e1;subst e1
  simp only [clash,List.any_eq_false] at hc
  have:=hc _ h2
  simp [hd] at this
theorem KnOk.cons {all:List Oper} {kn:List (Nat × Option Bool)} {e:Env} (h:KnOk all kn e) {i:Nat} {b:Option Bool} (hb:yv all e i=b):KnOk all ((i,b) :: kn) e:=by
 intro j c hl
 simp only [lookK] at hl
 cases hq:Nat.beq i j with
 | true=>rw [hq] at hl;simp only [cond_true,Option.some.injEq] at hl;have:=Nat.eq_of_beq_eq_true hq;subst this;subst hl;exact hb
 | false=>rw [hq] at hl;simp only [cond_false] at hl;exact h j c hl

theorem condK_bool {v:Value} {A B:Prop} (h:condK v A B):(v=.bool true∧A)∨(v=.bool false∧B):=by
 unfold condK at h
 split at h
 ·exact .inl ⟨rfl,h⟩
 ·exact .inr ⟨rfl,h⟩
 ·exact h.elim
theorem sameB_eq {a b:Bool}:sameB a b=(a == b):=by cases a <;> cases b <;> rfl


end

def opSlots (o:Oper):List Nat:=o.op.operands.toList.filterMap fun x=>match x with | .tmp t=>some t | _=>none
def slotsOf (all:List Oper) (o:Oper):List Nat:=(match o.guard with | some (g,_)=>(match dstAt all g with | some d=>[d] | none=>[]) | none=>[])++opSlots o
def optEq (d:Option Nat) (t:Nat):Bool:=match d with | some x=>Nat.beq x t | none=>false
structure GOk (n:Nat) (all:List Oper) (eff:List Nat) (AN:List (List Nat)) (Gs:List (List Nat)):Prop where
 nosel:∀ (i:Nat) o,all[i]?=some o→∀ cs b,o.op≠.select cs b
 /-- edges go backwards -/
 back:∀ (i:Nat) o,all[i]?=some o→∀ e ∈ o.after,Region.binds .any e=true→e.on < i
 anc:∀ (i:Nat) o,all[i]?=some o→∀ j ∈ getA AN i,∃ e ∈ o.after,Region.binds .any e=true∧(e.on=j∨j ∈ getA AN e.on)
 trans:∀ i,∀ j ∈ getA AN i,∀ m ∈ getA AN j,m ∈ getA AN i
 reads:∀ (i:Nat) o,all[i]?=some o→∀ t ∈ slotsOf all o,∀ (m:Nat) o',all[m]?=some o'→o'.dst=some t→m≠i→m ∈ getA AN i∨i ∈ getA AN m
 guard:∀ (i:Nat) o,all[i]?=some o→∀ g b,o.guard=some (g,b)→g ∈ getA AN i∧∃ d,dstAt all g=some d
 one:∀ (i j:Nat) o o',all[i]?=some o→all[j]?=some o'→∀ d,o.dst=some d→o'.dst=some d→i=j
 groups:∀ (i:Nat),i < all.length→i ∉ eff→(∀ j ∈ getA AN i,j ∉ eff)∨(∀ j ∈ eff,j ∈ getA AN i)∨∃ E ∈ Gs,∀ j ∈ eff,(j ∈ getA AN i↔j ∈ E)
 first:∃ k ∈ eff,k < all.length∧∀ j ∈ getA AN k,j ∉ eff
 effin:∀ k ∈ eff,k < all.length
 bound:∀ (i:Nat) o,all[i]?=some o→∀ d,o.dst=some d→d < n

section
variable {P:Program} {ok:Nat→Bool} {n:Nat} {all:List Oper} {eff:List Nat} {AN:List (List Nat)} {Gs:List (List Nat)}

theorem GOk.lt (h:GOk n all eff AN Gs) {i j:Nat} (hi:i < all.length) (hj:j ∈ getA AN i):j < i:=by
 induction i using Nat.strongRecOn generalizing j with
 | _ i ih=>
  obtain ⟨e,he,hb,h1⟩:=h.anc i all[i] (by simp [hi]) j hj
  have h2:=h.back i all[i] (by simp [hi]) e he hb
  rcases h1 with rfl | h1
  ·exact h2
  ·exact Nat.lt_trans (ih _ h2 (by omega) h1) h2

noncomputable def envS (all:List Oper) (n:Nat) (e0:Env) (vals:Nat→Value) (S:Nat→Prop):Env:=fun t=>
 open Classical in if h:∃ m,S m∧m < all.length∧dstAt all m=some t then (if t < n then vals h.choose else e0 t) else e0 t
theorem envS_at (h:GOk n all eff AN Gs) {e0:Env} {vals:Nat→Value} {S:Nat→Prop} {m t:Nat} (hm:S m) (hl:m < all.length) (hd:dstAt all m=some t) (ht:t < n):envS all n e0 vals S t=vals m:=by
 have hex:∃ m,S m∧m < all.length∧dstAt all m=some t:=⟨m,hm,hl,hd⟩
 unfold envS
 rw [dif_pos hex,if_pos ht]
 have h1:=hex.choose_spec
 congr 1
 have g1:all[hex.choose]?=some all[hex.choose]:=by simp [h1.2.1]
 have g2:all[m]?=some all[m]:=by simp [hl]
 have h2:=h1.2.2
 rw [dstAt_get,g1] at h2
 rw [dstAt_get,g2] at hd
 exact h.one _ _ _ _ g1 g2 t h2 hd
theorem envS_else {e0:Env} {vals:Nat→Value} {S:Nat→Prop} {t:Nat} (hn:∀ m,S m→m < all.length→dstAt all m≠some t):envS all n e0 vals S t=e0 t:=by
 unfold envS
 rw [dif_neg]
 rintro ⟨m,h1,h2,h3⟩;exact hn m h1 h2 h3
theorem envS_big {e0:Env} {vals:Nat→Value} {S:Nat→Prop} {t:Nat} (ht:¬ t < n):envS all n e0 vals S t=e0 t:=by
 unfold envS
 by_cases hx:∃ m,S m∧m < all.length∧dstAt all m=some t
 ·rw [dif_pos hx,if_neg ht]
 ·rw [dif_neg hx]
theorem envS_same (h:GOk n all eff AN Gs) {e0:Env} {vals vals':Nat→Value} {S S':Nat→Prop} {t:Nat} (hs:∀ m,m < all.length→dstAt all m=some t→(S m↔S' m)∧(S m→vals m=vals' m)):envS all n e0 vals S t=envS all n e0 vals' S' t:=by
 by_cases ht:t < n
 ·by_cases hex:∃ m,S m∧m < all.length∧dstAt all m=some t
  ·obtain ⟨m,h1,h2,h3⟩:=hex
   rw [envS_at h h1 h2 h3 ht,envS_at h ((hs m h2 h3).1.1 h1) h2 h3 ht]
   exact (hs m h2 h3).2 h1
  ·rw [envS_else fun m h1 h2 h3=>hex ⟨m,h1,h2,h3⟩,envS_else fun m h1 h2 h3=>hex ⟨m,(hs m h2 h3).1.2 h1,h2,h3⟩]
 ·rw [envS_big ht,envS_big ht]
theorem envS_put (h:GOk n all eff AN Gs) {e0:Env} {vals vals':Nat→Value} {S S':Nat→Prop} {i:Nat} {o:Oper} {v:Value} (hi:all[i]?=some o) (hS:∀ m,S' m↔S m∨m=i) (hv:∀ m,S m→m≠i→vals' m=vals m) (hvi:vals' i=v) (hni:¬ S i) :
  updO n (envS all n e0 vals S) o.dst v=envS all n e0 vals' S':=by
 have hil:i < all.length:=(List.getElem?_eq_some_iff.1 hi).1
 have hdi:dstAt all i=o.dst:=by rw [dstAt_get,hi];rfl
 funext t
 by_cases htd:o.dst=some t
 ·rw [htd]
  by_cases ht:t < n
  ·rw [envS_at h ((hS i).2 (.inr rfl)) hil (hdi.trans htd) ht,hvi]
   have:Nat.blt t n=true:=Nat.ble_eq_true_of_le (by omega)
   simp [updO,upd,this]
  ·rw [envS_big ht]
   have:Nat.blt t n=false:=by cases hb:Nat.blt t n with | false=>rfl | true=>exact absurd (Nat.le_of_ble_eq_true hb) (by omega)
   simp only [updO,upd,this,Bool.and_false,cond_false]
   exact envS_big ht
 ·rw [updO_other htd]
  refine envS_same h fun m hm hd=>?_
  have hmi:m≠i:=by rintro rfl;rw [hdi] at hd;exact htd hd
  exact ⟨by rw [hS];simp [hmi],fun hs=>(hv m hs hmi).symm⟩

theorem execOp_slots {o:Oper} {e e':Env} (hs:∀ cs b,o.op≠.select cs b) (h:∀ t ∈ opSlots o,e t=e' t):execOp (ev e) o=execOp (ev e') o:=by
 refine execOp_congr o hs fun x hx=>?_
 cases x with
 | tmp t=>exact h t (by simp only [opSlots,List.mem_filterMap];exact ⟨.tmp t,by simpa using hx,rfl⟩)
 | _=>rfl

variable (e0:Env) (w0:World) (A:Nat→Value→World→Prop) (M:Nat→Nat→Prop)
def AllM (eff:List Nat) (M:Nat→Nat→Prop):Nat→Prop:=fun b=>∃ j ∈ eff,M j b
def StM (eff:List Nat) (M:Nat→Nat→Prop) (w0:World) (a:Addr) (v:Value):Prop:=w0.cell? a=some v∧∀ j ∈ eff,¬ M j a.block
def effI (eff:List Nat) (AN:List (List Nat)) (i:Nat):List Nat:=eff.filter fun j=>!memB (getA AN j) i
def StI (eff:List Nat) (AN:List (List Nat)) (M:Nat→Nat→Prop) (w0:World) (i:Nat):Addr→Value→Prop:=StM (effI eff AN i) M w0
noncomputable def view (all:List Oper) (AN:List (List Nat)) (n:Nat) (e0:Env) (vals:Nat→Value) (i:Nat):Env:=envS all n e0 vals (· ∈ getA AN i)
def wantedV (all:List Oper) (e:Env) (o:Oper):Prop:=∀ g b,o.guard=some (g,b)→yv all e g=some b
def RunsV (P:Program) (eff:List Nat) (M:Nat→Nat→Prop) (w0:World) (o:Oper) (e:Env) (v:Value):Prop:=∀ w',Mod (AllM eff M) w0 w'→(execOp (ev e) o).run P w'=.ok (.value v) w'
def Gd (P:Program) (all:List Oper) (eff:List Nat) (AN:List (List Nat)) (n:Nat) (e0:Env) (w0:World) (M:Nat→Nat→Prop) (vals:Nat→Value) (i:Nat) (o:Oper):Prop:=
 (wantedV all (view all AN n e0 vals i) o→RunsV P (effI eff AN i) M w0 o (view all AN n e0 vals i) (vals i))∧(¬ wantedV all (view all AN n e0 vals i) o→vals i=undef)
variable {e0 w0 A M}
theorem wexec_run {eff':List Nat} {w:World} {o:Oper} {i:Nat} {e:Env} {k:Value→Prop} (hi:memB eff i=false) (h:wexec P ok eff A (StM eff' M w0) w o i (ev e) k):∃ v,k v∧RunsV P eff' M w0 o e v:=by
 unfold wexec at h
 rw [hi] at h
 simp only [cond_false] at h
 have cellk:∀ (a:Addr) (v:Value),StM eff' M w0 a v→∀ w',Mod (AllM eff' M) w0 w'→w'.cell? a=some v:=fun a v hs w' hm=>
  (World.cell?_of_block (hm.same a.block (World.block_lt_of_cell? w0 a hs.1) fun ⟨j,hj,hb⟩=>hs.2 j hj hb)).trans hs.1
 have pure_:(bif pureOp P o then opD P ok o (ev e) (fun v _=>k v) w else False)→∃ v,k v∧RunsV P eff' M w0 o e v:=by
  intro h
  cases hp:pureOp P o with
  | false=>rw [hp] at h;exact h.elim
  | true=>
   rw [hp] at h;simp only [cond_true] at h
   obtain ⟨v,h1,h2⟩:=pure_run (ρ:=ev e) (fun _=>rfl) hp h
   exact ⟨v,h1,fun w' _=>h2 w'⟩
 obtain ⟨dst,op,type,pos,after,guard⟩:=o
 cases op with
 | load t x=>
  simp only at h
  split at h
  ·rename_i m ha
   obtain ⟨a,v,h1,h2,h3⟩:=h
   refine ⟨v,h3,fun w' hm=>?_⟩
   obtain ⟨v',w'',r1,r2⟩:=ld1_run (P:=P) (K:=fun v' w''=>v'=v∧w''=w') (w:=w') ha ⟨a,v,h1,cellk a v h2 w' hm,rfl,rfl⟩
   obtain ⟨rfl,rfl⟩:=r2
   simp only [execOp,Sem.run_bind,r1,Result.andThen_ok,Sem.run_pure]
  ·rename_i m ha
   obtain ⟨a,vs,h1,hl,h2,h3⟩:=h
   refine ⟨_,h3,fun w' hm=>?_⟩
   obtain ⟨v',w'',r1,r2⟩:=ldn_run (P:=P) (K:=fun v' w''=>v'=.agg vs.toArray∧w''=w') (w:=w') ha ⟨a,vs,h1,hl,fun j v hv=>cellk _ v (h2 j v hv) w' hm,rfl,rfl⟩
   obtain ⟨rfl,rfl⟩:=r2
   simp only [execOp,Sem.run_bind,r1,Result.andThen_ok,Sem.run_pure]
  ·exact h.elim
 | binOp op t x y yt=>
  simp only at h
  cases hp:pureBin P op t y with
  | true=>
   rw [hp] at h;simp only [cond_true] at h
   obtain ⟨v,h1,h2⟩:=pureBin_det hp h
   refine ⟨v,h1,fun w' _=>?_⟩
   obtain ⟨K',hK',hK2⟩:∃ K':Cont,K' v w'∧∀ v' w'',K' v' w''→v'=v∧w''=w':=⟨fun v' w''=>v'=v∧w''=w',⟨rfl,rfl⟩,fun _ _ h=>h⟩
   obtain ⟨v',w'',r1,r2⟩:=bin_run (P:=P) (w:=w') (K:=K') (xo:=x) (yo:=y) (F:=False) (fun v hv=>by rw [hv];rfl) (h2 _ _ hK') (fun hF=>hF.elim)
   obtain ⟨rfl,rfl⟩:=hK2 _ _ r2
   simp only [execOp]
   rw [Sem.run_bind,r1];rfl
  | false=>
   rw [hp] at h;simp only [cond_false] at h
   obtain ⟨v,h1,h2⟩:=h
   refine ⟨v,h2,fun w' _=>?_⟩
   have h3:=h1 w'
   simp only [binS] at h3
   simp only [execOp]
   rw [Sem.run_bind,h3];rfl
 | _=>exact pure_ h

theorem RunsV.det {o:Oper} {e:Env} {v v':Value} (h:RunsV P eff M w0 o e v) (h':RunsV P eff M w0 o e v'):v=v':=by
 have h1:=h w0 (Mod.refl _ _)
 have h2:=h' w0 (Mod.refl _ _)
 rw [h1] at h2
 cases h2;rfl
theorem RunsV.congr {o:Oper} {e e':Env} {v:Value} (hs:∀ cs b,o.op≠.select cs b) (h:∀ t ∈ opSlots o,e t=e' t) (hr:RunsV P eff M w0 o e v):RunsV P eff M w0 o e' v:=by
 intro w' hm
 rw [←execOp_slots hs h];exact hr w' hm

theorem see_view (hG:GOk n all eff AN Gs) {vals:Nat→Value} {S:Nat→Prop} {i:Nat} {o:Oper} (hi:all[i]?=some o) (h1:∀ j ∈ getA AN i,S j) (h2:∀ m,m < all.length→i ∈ getA AN m→¬ S m) (h3:¬ S i) :
  ∀ t ∈ slotsOf all o,envS all n e0 vals S t=view all AN n e0 vals i t:=by
 have hil:i < all.length:=(List.getElem?_eq_some_iff.1 hi).1
 intro t ht
 refine envS_same hG fun m hm hd=>⟨?_,fun _=>rfl⟩
 by_cases hmi:m=i
 ·subst hmi
  exact ⟨fun h=>(h3 h).elim,fun h=>absurd (hG.lt hil h) (by omega)⟩
 ·have hmo:all[m]?=some all[m]:=by simp [hm]
  rw [dstAt_get,hmo] at hd
  rcases hG.reads i o hi t ht m _ hmo hd hmi with h | h
  ·exact ⟨fun _=>h,fun _=>h1 m h⟩
  ·refine ⟨fun hs=>(h2 m hm h hs).elim,fun hm'=>?_⟩
   have:=hG.lt hil hm'
   have:=hG.lt hm h
   omega
theorem mem_slots {o:Oper} {t:Nat} (h:t ∈ opSlots o):t ∈ slotsOf all o:=List.mem_append_right _ h
theorem wanted_congr (hG:GOk n all eff AN Gs) {i:Nat} {o:Oper} (hi:all[i]?=some o) {e e':Env} (h:∀ t ∈ slotsOf all o,e t=e' t):wantedV all e o↔wantedV all e' o:=by
 unfold wantedV
 refine forall_congr' fun g=>forall_congr' fun b=>imp_congr_right fun hg=>?_
 obtain ⟨d,hd⟩:=(hG.guard i o hi g b hg).2
 have:d ∈ slotsOf all o:=by unfold slotsOf;rw [hg];simp [hd]
 unfold yv
 rw [hd]
 simp only [h d this]
theorem view_congr (hG:GOk n all eff AN Gs) {vals vals':Nat→Value} {i:Nat} (h:∀ j ∈ getA AN i,vals j=vals' j):view all AN n e0 vals i=view all AN n e0 vals' i:=by
 funext t
 exact envS_same hG fun m _ _=>⟨Iff.rfl,fun hm=>h m hm⟩

section
variable {ds:List Deferred} {e0:Env} {w0:World} {A:Nat→Value→World→Prop} {M:Nat→Nat→Prop}
theorem effI_mem {eff:List Nat} {AN:List (List Nat)} {i j:Nat} (hj:j ∈ eff) (h:¬ i ∈ getA AN j):j ∈ effI eff AN i:=by
 simp only [effI,List.mem_filter,Bool.not_eq_true',hj,true_and]
 cases hb:memB (getA AN j) i with
 | false=>rfl
 | true=>exact (h (memB_iff.1 hb)).elim
end

section
variable {ds:List Deferred} {e0:Env} {w0:World} {A:Nat→Value→World→Prop} {M:Nat→Nat→Prop}
theorem Gd.of_agree (hG:GOk n all eff AN Gs) {vals vals':Nat→Value} {i:Nat} {o:Oper} (_:i < all.length) (hv:∀ j ∈ getA AN i,vals j=vals' j) (hvi:vals i=vals' i) (h:Gd P all eff AN n e0 w0 M vals i o):Gd P all eff AN n e0 w0 M vals' i o:=by
 unfold Gd at h ⊢
 rw [←view_congr hG hv,←hvi];exact h
end

section
variable {ds:List Deferred} {e0:Env} {w0:World} {A:Nat→Value→World→Prop} {M:Nat→Nat→Prop}
theorem count_set_false:∀ (l:List Bool) (i:Nat),l[i]?=some false→(l.set i true).count false+1=l.count false:=by
 intro l;induction l with
 | nil=>intro i h;simp at h
 | cons b l ih=>
  intro i h
  cases i with
  | zero=>simp at h;subst h;simp
  | succ i=>
   have:=ih i (by simpa using h)
   simp only [List.set_cons_succ,List.count_cons]
   omega
def drawPost (ds:List Deferred) (all:List Oper) (n:Nat) (e0:Env) (K:Env→World→Prop):Exit→Act→World→Prop:=fun ex a w=>ex=.normal∧∃ e',Fr ds n e' a∧(∀ j,(∀ o ∈ all,o.dst≠some j)→e' j=e0 j)∧K e' w

end
end

def isSel (o:Oper):Bool:=match o.op with | .select _ _=>true | _=>false
def gok1 (n:Nat) (all:List Oper) (eff:List Nat) (AN:List (List Nat)) (Gs:List (List Nat)) (i:Nat) (o:Oper):Bool:=
 !isSel o && o.after.toList.all (fun e=>!(Region.binds .any e) || Nat.blt e.on i)
 && (getA AN i).all (fun j=>o.after.toList.any fun e=>Region.binds .any e && (Nat.beq e.on j || memB (getA AN e.on) j))
 && (slotsOf all o).all (fun t=>(List.range all.length).all fun m=>!(optEq (dstAt all m) t) || Nat.beq m i || memB (getA AN i) m || memB (getA AN m) i)
 && (match o.guard with | none=>true | some (g,_)=>memB (getA AN i) g && (dstAt all g).isSome)
 && (match o.dst with | none=>true | some d=>Nat.blt d n && (List.range all.length).all fun j=>Nat.beq j i || !(optEq (dstAt all j) d))
 && (memB eff i || (getA AN i).all (fun j=>!memB eff j) || eff.all (fun j=>memB (getA AN i) j) || Gs.any (fun E=>eff.all fun j=>memB (getA AN i) j == memB E j))
def gokB (n:Nat) (all:List Oper) (eff:List Nat) (AN:List (List Nat)) (Gs:List (List Nat)):Bool:=
 Nat.ble AN.length all.length
 && (List.range all.length).all (fun i=>match all[i]? with | some o=>gok1 n all eff AN Gs i o | none=>true)
 && (List.range AN.length).all (fun i=>(getA AN i).all fun j=>(getA AN j).all fun m=>memB (getA AN i) m)
 && eff.any (fun k=>Nat.blt k all.length && (getA AN k).all fun j=>!memB eff j)
 && eff.all (fun k=>Nat.blt k all.length)

theorem blt_iff {a b:Nat}:Nat.blt a b=true↔a < b:=⟨fun h=>Nat.le_of_ble_eq_true h,fun h=>Nat.ble_eq_true_of_le (show a+1≤b from h)⟩
theorem beq_iff {a b:Nat}:Nat.beq a b=true↔a=b:=⟨Nat.eq_of_beq_eq_true,fun h=>by subst h;simp⟩
theorem getA_big {AN:List (List Nat)}:∀ {i:Nat},AN.length≤i→getA AN i=[]:=by
 induction AN with
 | nil=>intro i _;rfl
 | cons a r ih=>intro i h;cases i with
  | zero=>simp at h
  | succ i=>exact ih (by simpa using h)
theorem optEq_iff {d:Option Nat} {t:Nat}:optEq d t=true↔d=some t:=by
 cases d with
 | none=>simp [optEq]
 | some x=>simp [optEq]

theorem gokB_ok {n:Nat} {all:List Oper} {eff:List Nat} {AN:List (List Nat)} {Gs:List (List Nat)} (h:gokB n all eff AN Gs=true):GOk n all eff AN Gs:=by
 simp only [gokB,Bool.and_eq_true,List.all_eq_true,List.mem_range] at h
 obtain ⟨⟨⟨⟨h0,h1⟩,h2⟩,h3⟩,h4⟩:=h
 have hAN:AN.length≤all.length:=Nat.le_of_ble_eq_true h0
 have one:∀ (i:Nat) o,all[i]?=some o→gok1 n all eff AN Gs i o=true:=fun i o hi=>by
  have:=h1 i (List.getElem?_eq_some_iff.1 hi).1
  rw [hi] at this;exact this
 have parts:=fun (i:Nat) (o:Oper) (hi:all[i]?=some o)=>by
  have:=one i o hi
  unfold gok1 at this
  simp only [Bool.and_eq_true] at this
  exact this
 have dst:∀ (m:Nat) o',all[m]?=some o'→dstAt all m=o'.dst:=fun m o' hm=>by rw [dstAt_get,hm];rfl
 refine ⟨?_,?_,?_,?_,?_,?_,?_,?_,?_,?_,?_⟩
 ·intro i o hi cs b heq
  have:=(parts i o hi).1.1.1.1.1.1
  rw [isSel,heq] at this;cases this
 ·intro i o hi e he hb
  have:=(parts i o hi).1.1.1.1.1.2
  simp only [List.all_eq_true] at this
  have:=this e (by simpa using he)
  rw [hb] at this;simpa [blt_iff] using this
 ·intro i o hi j hj
  have:=(parts i o hi).1.1.1.1.2
  simp only [List.all_eq_true] at this
  have:=this j hj
  simp only [List.any_eq_true,Bool.and_eq_true,Bool.or_eq_true] at this
  obtain ⟨e,he,hb,hc⟩:=this
  refine ⟨e,by simpa using he,hb,?_⟩
  rcases hc with hc | hc
  ·exact .inl (beq_iff.1 hc)
  ·exact .inr (memB_iff.1 hc)
 ·intro i j hj m hm
  by_cases hi:i < AN.length
  ·have:=h2 i hi j hj
   exact memB_iff.1 (this m hm)
  ·rw [getA_big (by omega)] at hj;cases hj
 ·intro i o hi t ht m o' hm hd hmi
  have:=(parts i o hi).1.1.1.2
  simp only [List.all_eq_true,List.mem_range] at this
  have:=this t ht m (List.getElem?_eq_some_iff.1 hm).1
  have he:optEq (dstAt all m) t=true:=optEq_iff.2 ((dst m o' hm).trans hd)
  simp only [he,Bool.not_true,Bool.false_or,Bool.or_eq_true,memB_iff] at this
  rcases this with (h | h) | h
  ·exact (hmi (beq_iff.1 h)).elim
  ·exact .inl h
  ·exact .inr h
 ·intro i o hi g b hg
  have:=(parts i o hi).1.1.2
  rw [hg] at this
  simp only [Bool.and_eq_true,memB_iff,Option.isSome_iff_exists] at this
  exact this
 ·intro i j o o' hi hj d hd hd'
  have:=(parts i o hi).1.2
  rw [hd] at this
  simp only [Bool.and_eq_true,List.all_eq_true,List.mem_range] at this
  have:=this.2 j (List.getElem?_eq_some_iff.1 hj).1
  have he:optEq (dstAt all j) d=true:=optEq_iff.2 ((dst j o' hj).trans hd')
  simp only [he,Bool.not_true,Bool.or_false] at this
  exact (beq_iff.1 this).symm
 ·intro i hi hne
  have:=(parts i all[i] (by simp [hi])).2
  have hm:memB eff i=false:=by cases hm:memB eff i with | false=>rfl | true=>exact (hne (memB_iff.1 hm)).elim
  simp only [hm,Bool.false_or,Bool.or_eq_true,List.all_eq_true,List.any_eq_true] at this
  rcases this with (h | h) | ⟨E,hE,h⟩
  ·exact .inl fun j hj hje=>by have:=h j hj;rw [memB_iff.2 hje] at this;cases this
  ·exact .inr (.inl fun j hj=>memB_iff.1 (h j hj))
  ·refine .inr (.inr ⟨E,hE,fun j hj=>?_⟩)
   have:=h j hj
   simp only [beq_iff_eq] at this
   rw [←memB_iff,←memB_iff,this]
 ·simp only [List.any_eq_true,Bool.and_eq_true,List.all_eq_true] at h3
  obtain ⟨k,hk,hl,hn⟩:=h3
  exact ⟨k,hk,blt_iff.1 hl,fun j hj hje=>by have:=hn j hj;rw [memB_iff.2 hje] at this;cases this⟩
 ·exact fun k hk=>blt_iff.1 (h4 k hk)
 ·intro i o hi d hd
  have:=(parts i o hi).1.2
  rw [hd] at this
  simp only [Bool.and_eq_true] at this
  exact blt_iff.1 this.1

end Go.K

namespace Go.K
open Go

section
variable (P:Program) (ok:Nat→Bool) (n:Nat)
def cexec (eff:List Nat) (M:Nat→Nat→Prop) (St:Nat→Addr→Value→Prop) (_:World) (o:Oper) (i:Nat) (ρ:Operand→Value) (k:Cont) (w:World):Prop:=
 bif memB eff i then opD P ok o ρ (fun v w'=>Mod (M i) w w'∧k v w') w
 else wexec P ok eff (fun _ _ _=>True) (St i) w o i ρ fun v=>k v w
def DrawC (eff:List Nat) (AN:List (List Nat)) (w0:World) (F:(Nat→Nat→Prop)→(Nat→Addr→Value→Prop)→Prop):Prop:=∃ M,F M (StI eff AN M w0)
end

section
variable {P:Program} {ds:List Deferred} {ok:Nat→Bool} {n:Nat} {all:List Oper} {eff:List Nat} {AN Gs:List (List Nat)} {e0:Env} {w0:World} {M:Nat→Nat→Prop} {K:Env→World→Prop}

theorem nextOk_some {r:Result Next} {w:World} {K:Cont} (h:NextOk w r K P):∃ v w',K v w':=by
 match r,h with
 | .ok (.value v) w',h=>exact ⟨_,_,h⟩
 | .ok .skip w',h=>exact ⟨_,_,h⟩
 | .ok (.enter f args) w',h=>
  obtain ⟨_,hc⟩:=h
  obtain ⟨e,w'',fr,⟨v,_,hv⟩,_⟩:=hc []
  exact ⟨v,w'',hv⟩

theorem knUnd (hG:GOk n all eff AN Gs) {i:Nat} {o:Oper} (hio:all[i]?=some o) {e:Env}:yv all (updO n e o.dst undef) i=none:=by
 unfold yv
 rw [dstAt_get,hio]
 simp only [Option.bind_some]
 cases hd:o.dst with
 | none=>rfl
 | some d=>
  have:=hG.bound i o hio d hd
  have hb:Nat.blt d n=true:=Nat.ble_eq_true_of_le (show d+1≤n from this)
  simp [updO,upd,hb];rfl

end
end Go.K

namespace Go.K
open Go

inductive Ord where
 | nil
 | op (i:Nat) (t:Ord)
 | br (a b:Ord)

section
variable (P:Program) (ok:Nat→Bool) (n:Nat)
def chainT (all:List Oper) (eff:List Nat) (M:Nat→Nat→Prop) (St:Nat→Addr→Value→Prop) (w0:World) (K:Env→World→Prop):Ord→List (Nat × Option Bool)→Env→World→Prop
 | .nil,_,e,w=>K e w
 | .br a b,kn,e,w=>chainT all eff M St w0 K a kn e w∧chainT all eff M St w0 K b kn e w
 | .op i r,kn,e,w=>
  match all[i]? with
  | none=>False
  | some o=>match o.guard with
   | none=>cexec P ok eff M St w0 o i (ev e) (fun v w'=>chainT all eff M St w0 K r kn (updO n e o.dst v) w') w
   | some (j,want)=>match lookK kn j with
    | some (some b)=>bif sameB b want then cexec P ok eff M St w0 o i (ev e) (fun v w'=>chainT all eff M St w0 K r kn (updO n e o.dst v) w') w
      else chainT all eff M St w0 K r ((i,none) :: kn) (updO n e o.dst undef) w
    | some none=>chainT all eff M St w0 K r ((i,none) :: kn) (updO n e o.dst undef) w
    | none=>match dstAt all j with
     | some d=>condK (e d)
       (bif want then cexec P ok eff M St w0 o i (ev (upd n e d (.bool true))) (fun v w'=>chainT all eff M St w0 K r ((j,some true) :: kn) (updO n (upd n e d (.bool true)) o.dst v) w') w
        else chainT all eff M St w0 K r ((i,none) :: (j,some true) :: kn) (updO n (upd n e d (.bool true)) o.dst undef) w)
       (bif want then chainT all eff M St w0 K r ((i,none) :: (j,some false) :: kn) (updO n (upd n e d (.bool false)) o.dst undef) w
        else cexec P ok eff M St w0 o i (ev (upd n e d (.bool false))) (fun v w'=>chainT all eff M St w0 K r ((j,some false) :: kn) (updO n (upd n e d (.bool false)) o.dst v) w') w)
     | none=>False
end

def nxt (eff:List Nat):Ord→Nat→Bool
 | .nil,_=>false
 | .br a b,i=>nxt eff a i || nxt eff b i
 | .op j t,i=>Nat.beq j i || (!memB eff j && nxt eff t i)
def cov (eff:List Nat) (AN:List (List Nat)) (t:Ord) (pre:List Nat):Bool:=eff.all fun i=>memB pre i || !((getA AN i).all fun j=>!memB eff j || memB pre j) || nxt eff t i
def okT (N:Nat) (eff:List Nat) (AN:List (List Nat)):Ord→List Nat→Bool
 | .nil,pre=>(List.range N).all (memB pre)
 | .br a b,pre=>okT N eff AN a pre && okT N eff AN b pre
 | .op i t,pre=>Nat.blt i N && !memB pre i && (getA AN i).all (memB pre) && (bif memB eff i then cov eff AN t (i :: pre) else true) && okT N eff AN t (i :: pre)
def treeB (N:Nat) (eff:List Nat) (AN:List (List Nat)) (t:Ord):Bool:=cov eff AN t [] && okT N eff AN t []

inductive Reach:Ord→List Nat→Ord→Prop where
 | refl (t:Ord):Reach t [] t
 | op {i:Nat} {t t':Ord} {A:List Nat}:Reach t A t'→Reach (.op i t) (i :: A) t'
 | l {a b t':Ord} {A:List Nat}:Reach a A t'→Reach (.br a b) A t'
 | r {a b t':Ord} {A:List Nat}:Reach b A t'→Reach (.br a b) A t'

theorem memB_false {l:List Nat} {i:Nat}:memB l i=false↔i ∉ l:=by
 rw [←memB_iff];cases memB l i <;> simp
theorem okT_op {N:Nat} {eff:List Nat} {AN:List (List Nat)} {i:Nat} {t:Ord} {pre:List Nat} (h:okT N eff AN (.op i t) pre=true) :
  i < N∧i ∉ pre∧(∀ j ∈ getA AN i,j ∈ pre)∧(i ∈ eff→cov eff AN t (i :: pre)=true)∧okT N eff AN t (i :: pre)=true:=by
 simp only [okT,Bool.and_eq_true,List.all_eq_true,Bool.not_eq_true',memB_false,memB_iff] at h
 obtain ⟨⟨⟨⟨h1,h2⟩,h3⟩,h4⟩,h5⟩:=h
 refine ⟨Nat.le_of_ble_eq_true h1,h2,h3,fun hi=>?_,h5⟩
 rw [memB_iff.2 hi] at h4;exact h4
theorem okT_reach {N:Nat} {eff:List Nat} {AN:List (List Nat)} {t t':Ord} {A:List Nat} (h:Reach t A t'):∀ {pre:List Nat},okT N eff AN t pre=true→okT N eff AN t' (A.reverse++pre)=true∧∀ j ∈ A,j ∉ pre:=by
 induction h with
 | refl t=>intro pre h;exact ⟨h,fun j hj=>(nomatch hj)⟩
 | op _ ih=>
  intro pre h
  obtain ⟨_,h2,_,_,h5⟩:=okT_op h
  obtain ⟨h6,h7⟩:=ih h5
  refine ⟨by simpa using h6,fun j hj=>?_⟩
  rcases List.mem_cons.1 hj with rfl | hj
  ·exact h2
  ·exact fun hp=>h7 j hj (List.mem_cons_of_mem _ hp)
 | l _ ih=>intro pre h;simp only [okT,Bool.and_eq_true] at h;exact ih h.1
 | r _ ih=>intro pre h;simp only [okT,Bool.and_eq_true] at h;exact ih h.2
theorem nxt_reach {eff:List Nat} {i:Nat}:∀ {t:Ord},nxt eff t i=true→∃ A t',Reach t A (.op i t')∧∀ j ∈ A,j ∉ eff:=by
 intro t
 induction t with
 | nil=>intro h;cases h
 | op j t ih=>
  intro h
  simp only [nxt,Bool.or_eq_true,Bool.and_eq_true,Bool.not_eq_true',memB_false] at h
  rcases h with h | ⟨h1,h2⟩
  ·have:=Nat.eq_of_beq_eq_true h;subst this;exact ⟨[],t,.refl _,fun j hj=>(nomatch hj)⟩
  ·obtain ⟨A,t',h3,h4⟩:=ih h2
   refine ⟨j :: A,t',.op h3,fun k hk=>?_⟩
   rcases List.mem_cons.1 hk with rfl | hk
   ·exact h1
   ·exact h4 k hk
 | br a b iha ihb=>
  intro h
  simp only [nxt,Bool.or_eq_true] at h
  rcases h with h | h
  ·obtain ⟨A,t',h3,h4⟩:=iha h;exact ⟨A,t',.l h3,h4⟩
  ·obtain ⟨A,t',h3,h4⟩:=ihb h;exact ⟨A,t',.r h3,h4⟩
theorem nil_reach:∀ t:Ord,∃ A,Reach t A .nil:=by
 intro t
 induction t with
 | nil=>exact ⟨[],.refl _⟩
 | op j t ih=>obtain ⟨A,h⟩:=ih;exact ⟨_,.op h⟩
 | br a b iha _=>obtain ⟨A,h⟩:=iha;exact ⟨A,.l h⟩
theorem reach_split {t t':Ord} {A:List Nat} (h:Reach t A t'):∀ {i:Nat},i ∈ A→∃ B t1,Reach t B (.op i t1)∧(∀ j ∈ B,j ∈ A):=by
 induction h with
 | refl t=>intro i hi;cases hi
 | @op j t t' A h ih=>
  intro i hi
  rcases List.mem_cons.1 hi with rfl | hi
  ·exact ⟨[],t,.refl _,fun j hj=>(nomatch hj)⟩
  ·obtain ⟨B,t1,h1,h2⟩:=ih hi
   refine ⟨j :: B,t1,.op h1,fun k hk=>?_⟩
   rcases List.mem_cons.1 hk with rfl | hk
   ·exact List.mem_cons_self
   ·exact List.mem_cons_of_mem _ (h2 k hk)
 | l _ ih=>intro i hi;obtain ⟨B,t1,h1,h2⟩:=ih hi;exact ⟨B,t1,.l h1,h2⟩
 | r _ ih=>intro i hi;obtain ⟨B,t1,h1,h2⟩:=ih hi;exact ⟨B,t1,.r h1,h2⟩

section
variable {P:Program} {ds:List Deferred} {ok:Nat→Bool} {n:Nat} {all:List Oper} {eff:List Nat} {AN Gs:List (List Nat)} {e0:Env} {w0:World} {M:Nat→Nat→Prop} {K:Env→World→Prop}

structure PreOk (all:List Oper) (AN:List (List Nat)) (pre:List Nat):Prop where
 lt:∀ m ∈ pre,m < all.length
 cl:∀ m ∈ pre,∀ j ∈ getA AN m,j ∈ pre
theorem PreOk.cons {pre:List Nat} {i:Nat} (h:PreOk all AN pre) (hi:i < all.length) (ha:∀ j ∈ getA AN i,j ∈ pre):PreOk all AN (i :: pre):=
 ⟨fun m hm=>by rcases List.mem_cons.1 hm with rfl | hm;exact hi;exact h.lt m hm,fun m hm j hj=>by
  rcases List.mem_cons.1 hm with rfl | hm
  ·exact List.mem_cons_of_mem _ (ha j hj)
  ·exact List.mem_cons_of_mem _ (h.cl m hm j hj)⟩
theorem clash_ofT (hG:GOk n all eff AN Gs) {kn:List (Nat × Option Bool)} {i:Nat} {o:Oper} (hi:all[i]?=some o) (hk:∀ p ∈ kn,p.1≠i∧p.1 < all.length):clash o.dst kn all=false:=by
 unfold clash
 cases hd:o.dst with
 | none=>rfl
 | some t=>
  simp only [List.any_eq_false]
  intro p hp
  obtain ⟨hne,hlt⟩:=hk p hp
  have hpo:all[p.1]?=some (all[p.1]'hlt):=by simp [hlt]
  rw [dstAt_get,hpo]
  simp only [Option.bind_some]
  cases hd':(all[p.1]'hlt).dst with
  | none=>simp
  | some u=>
   simp only
   intro hb
   have:=Nat.eq_of_beq_eq_true hb
   subst this
   exact hne (hG.one _ _ _ _ hpo hi u hd' hd)

theorem tree_head (hG : GOk n all eff AN Gs) {o : Oper} {rest : Ord} {i : Nat} {pre : List Nat} {kn : List (Nat × Option Bool)} {e : Env} {w : World} (hio : all[i]? = some o) (ha : ∀ j ∈ getA AN i, j ∈ pre) (hkn : ∀ p ∈ kn, p.1 ∈ pre) (hk : KnOk all kn e)
    (h : chainT P ok n all eff M (StI eff AN M w0) w0 K (.op i rest) kn e w) :
    ∃ kn1, (∀ p ∈ kn1, p.1 ∈ pre) ∧ KnOk all kn1 e ∧
      ((wantedV all e o ∧ cexec P ok eff M (StI eff AN M w0) w0 o i (ev e) (fun v w' => chainT P ok n all eff M (StI eff AN M w0) w0 K rest kn1 (updO n e o.dst v) w') w) ∨
       (¬ wantedV all e o ∧ chainT P ok n all eff M (StI eff AN M w0) w0 K rest ((i, none) :: kn1) (updO n e o.dst undef) w)) := by
  unfold chainT at h
  rw [hio] at h
  simp only at h
  cases hgd : o.guard with
  | none =>
    simp only [hgd] at h
    exact ⟨kn, hkn, hk, .inl ⟨(fun g b hgb => by rw [hgd] at hgb; cases hgb), h⟩⟩
  | some gb =>
    obtain ⟨g, want⟩ := gb
    simp only [hgd] at h
    have hgi : g ∈ pre := ha g (hG.guard i o hio g want hgd).1
    have wt : yv all e g = some want → wantedV all e o := fun hy g' b' hgb => by rw [hgd] at hgb; cases hgb; exact hy
    have wf : yv all e g ≠ some want → ¬ wantedV all e o := fun hy hw => hy (hw g want hgd)
    cases hlk : lookK kn g with
    | some b =>
      have hy := hk g b hlk
      simp only [hlk] at h
      cases b with
      | none => exact ⟨kn, hkn, hk, .inr ⟨wf (by rw [hy]; simp), h⟩⟩
      | some b =>
        simp only [sameB_eq] at h
        cases hbw : (b == want) with
        | true =>
          simp only [hbw, cond_true] at h
          have : b = want := by simpa using hbw
          exact ⟨kn, hkn, hk, .inl ⟨wt (by rw [hy, this]), h⟩⟩
        | false =>
          simp only [hbw, cond_false] at h
          have : b ≠ want := by simpa using hbw
          exact ⟨kn, hkn, hk, .inr ⟨wf (by rw [hy]; simp [this]), h⟩⟩
    | none =>
      simp only [hlk] at h
      obtain ⟨d, hd⟩ := (hG.guard i o hio g want hgd).2
      simp only [hd] at h
      have hyv : yv all e g = bv (e d) := by simp [yv, hd]
      have hkn2 : ∀ b, ∀ p ∈ (g, b) :: kn, p.1 ∈ pre := fun b p hp => by
        rcases List.mem_cons.1 hp with rfl | hp
        · exact hgi
        · exact hkn p hp
      rcases condK_bool h with ⟨hv1, hb⟩ | ⟨hv1, hb⟩
      · have hy : yv all e g = some true := by rw [hyv, hv1]; rfl
        rw [upd_self hv1] at hb
        cases want with
        | true => simp only [cond_true] at hb; exact ⟨_, hkn2 _, hk.cons hy, .inl ⟨wt hy, hb⟩⟩
        | false => simp only [cond_false] at hb; exact ⟨_, hkn2 _, hk.cons hy, .inr ⟨wf (by rw [hy]; simp), hb⟩⟩
      · have hy : yv all e g = some false := by rw [hyv, hv1]; rfl
        rw [upd_self hv1] at hb
        cases want with
        | true => simp only [cond_true] at hb; exact ⟨_, hkn2 _, hk.cons hy, .inr ⟨wf (by rw [hy]; simp), hb⟩⟩
        | false => simp only [cond_false] at hb; exact ⟨_, hkn2 _, hk.cons hy, .inl ⟨wt hy, hb⟩⟩

theorem tree_walk (hok:GoodFns P ok) (hG:GOk n all eff AN Gs) {L:Nat→Prop} (hL:∀ i,i < all.length→L i→∀ j ∈ getA AN i,L j) {t t':Ord} {A:List Nat} (hr:Reach t A t') :
  ∀ (pre:List Nat) (kn:List (Nat × Option Bool)) (vals:Nat→Value) (w:World),okT all.length eff AN t pre=true→PreOk all AN pre→(∀ q ∈ kn,q.1 ∈ pre)→KnOk all kn (envS all n e0 vals (fun m=>m ∈ pre))→
   (∀ (m:Nat) o,all[m]?=some o→(m ∈ pre∨L m)→m ∉ eff→Gd P all eff AN n e0 w0 M vals m o)→(∀ j ∈ eff,j ∈ A→¬ L j)→
   chainT P ok n all eff M (StI eff AN M w0) w0 K t kn (envS all n e0 vals (fun m=>m ∈ pre)) w→
   ∃ vals' kn' w',(∀ m,(m ∈ pre∨L m)→vals' m=vals m)∧(∀ q ∈ kn',q.1 ∈ A.reverse++pre)∧KnOk all kn' (envS all n e0 vals' (fun m=>m ∈ A.reverse++pre))∧
    (∀ (m:Nat) o,all[m]?=some o→(m ∈ A.reverse++pre∨L m)→m ∉ eff→Gd P all eff AN n e0 w0 M vals' m o)∧((∀ j ∈ eff,j ∉ A)→w'=w)∧PreOk all AN (A.reverse++pre)∧
    chainT P ok n all eff M (StI eff AN M w0) w0 K t' kn' (envS all n e0 vals' (fun m=>m ∈ A.reverse++pre)) w':=by
 induction hr with
 | refl t=>intro pre kn vals w ho hp h1 h2 h3 _ h;exact ⟨vals,kn,w,fun _ _=>rfl,h1,h2,h3,fun _=>rfl,hp,h⟩
 | l _ ih=>intro pre kn vals w ho hp h1 h2 h3 h4 h;simp only [okT,Bool.and_eq_true] at ho;exact ih pre kn vals w ho.1 hp h1 h2 h3 h4 h.1
 | r _ ih=>intro pre kn vals w ho hp h1 h2 h3 h4 h;simp only [okT,Bool.and_eq_true] at ho;exact ih pre kn vals w ho.2 hp h1 h2 h3 h4 h.2
 | @op p t t' A _ ih=>
  intro pre kn vals w ho hp hkn hk hg hne h
  obtain ⟨hpl,hpn,hpa,_,ho'⟩:=okT_op ho
  have hio:all[p]?=some all[p]:=by simp [hpl]
  generalize all[p]=o at hio
  obtain ⟨kn1,hkn1,hk1,h⟩:=tree_head hG hio hpa hkn hk h
  have see:∀ t ∈ slotsOf all o,envS all n e0 vals (fun m=>m ∈ pre) t=view all AN n e0 vals p t:=
   see_view hG hio hpa (fun m hm hmi hsm=>hpn (hp.cl m hsm p hmi)) hpn
  have hclash:=clash_ofT hG hio (kn:=kn1) fun q hq=>⟨fun e=>hpn (e ▸ hkn1 q hq),hp.lt _ (hkn1 q hq)⟩
  have hp':=hp.cons hpl hpa
  have eA:(p :: A).reverse++pre=A.reverse++(p :: pre):=by simp
  rw [eA]
  have next:∀ (v:Value) (kn':List (Nat × Option Bool)) (w1:World),(L p→v=vals p)→(∀ q ∈ kn',q.1 ∈ p :: pre)→KnOk all kn' (updO n (envS all n e0 vals (fun m=>m ∈ pre)) o.dst v)→
    (p ∉ eff→(wantedV all (view all AN n e0 vals p) o→RunsV P (effI eff AN p) M w0 o (view all AN n e0 vals p) v)∧(¬ wantedV all (view all AN n e0 vals p) o→v=undef))→
    (p ∉ eff→w1=w)→chainT P ok n all eff M (StI eff AN M w0) w0 K t kn' (updO n (envS all n e0 vals (fun m=>m ∈ pre)) o.dst v) w1→
    ∃ vals' kn' w',(∀ m,(m ∈ pre∨L m)→vals' m=vals m)∧(∀ q ∈ kn',q.1 ∈ A.reverse++(p :: pre))∧KnOk all kn' (envS all n e0 vals' (fun m=>m ∈ A.reverse++(p :: pre)))∧
     (∀ (m:Nat) o,all[m]?=some o→(m ∈ A.reverse++(p :: pre)∨L m)→m ∉ eff→Gd P all eff AN n e0 w0 M vals' m o)∧((∀ j ∈ eff,j ∉ p :: A)→w'=w)∧PreOk all AN (A.reverse++(p :: pre))∧
     chainT P ok n all eff M (StI eff AN M w0) w0 K t' kn' (envS all n e0 vals' (fun m=>m ∈ A.reverse++(p :: pre))) w':=by
   intro v kn' w1 hv1 hkn' hk' hgd hw1 hc
   have hput:updO n (envS all n e0 vals (fun m=>m ∈ pre)) o.dst v=envS all n e0 (fun q=>if q=p then v else vals q) (fun m=>m ∈ p :: pre):=
    envS_put hG hio (fun m=>by simp [or_comm]) (fun m _ hmi=>by simp [hmi]) (by simp) hpn
   rw [hput] at hk' hc
   have hvw:∀ m,m < all.length→(m ∈ p :: pre∨L m)→view all AN n e0 (fun q=>if q=p then v else vals q) m=view all AN n e0 vals m:=fun m hm hmL=>
    view_congr hG fun j hj=>by
     by_cases hjp:j=p
     ·subst hjp
      rcases hmL with hmL | hmL
      ·rcases List.mem_cons.1 hmL with rfl | hmL
       ·exact (hpn (hpa _ hj)).elim
       ·exact (hpn (hp.cl m hmL j hj)).elim
      ·simp [hv1 (hL m hm hmL j hj)]
     ·simp [hjp]
   obtain ⟨vals',kn2,w',r1,r2,r3,r4,r5,r7,r6⟩:=ih (p :: pre) kn' (fun q=>if q=p then v else vals q) w1 ho' hp' hkn' hk' (fun m o' hm hmL hne'=>by
     have hml:m < all.length:=(List.getElem?_eq_some_iff.1 hm).1
     unfold Gd
     rw [hvw m hml hmL]
     by_cases hmp:m=p
     ·subst hmp;rw [hio] at hm;cases hm
      simp only [if_true];exact hgd hne'
     ·have:=hg m o' hm (hmL.imp (fun h=>(List.mem_cons.1 h).resolve_left hmp) id) hne'
      unfold Gd at this
      simpa [hmp] using this) (fun j hj h1=>hne j hj (List.mem_cons_of_mem _ h1)) hc
   refine ⟨vals',kn2,w',fun m hm=>?_,r2,r3,r4,fun hno=>?_,r7,r6⟩
   ·rw [r1 m (hm.imp (fun h=>List.mem_cons_of_mem _ h) id)]
    by_cases hmp:m=p
    ·subst hmp
     rcases hm with hm | hm
     ·exact (hpn hm).elim
     ·simp [hv1 hm]
    ·simp [hmp]
   ·rw [r5 fun j hj h1=>hno j hj (List.mem_cons_of_mem _ h1)]
    exact hw1 fun hpe=>hno p hpe List.mem_cons_self
  have wiff:=wanted_congr hG hio see
  have kc:∀ q ∈ kn1,q.1 ∈ p :: pre:=fun q hq=>List.mem_cons_of_mem _ (hkn1 q hq)
  have kc2:∀ q ∈ (p,none) :: kn1,q.1 ∈ p :: pre:=fun q hq=>by
   rcases List.mem_cons.1 hq with rfl | hq
   ·exact List.mem_cons_self
   ·exact kc q hq
  by_cases hpe:p ∈ eff
  ·have hnL:¬ L p:=hne p hpe List.mem_cons_self
   rcases h with ⟨hw,hx⟩ | ⟨hw,hx⟩
   ·unfold cexec at hx
    rw [memB_iff.2 hpe] at hx;simp only [cond_true] at hx
    obtain ⟨v,w1,hm1,hc1⟩:=nextOk_some (opD_nx hok (fun _=>rfl) (fun _=>rfl) hx)
    exact next v kn1 w1 (fun h=>(hnL h).elim) kc (hk1.put hclash _) (fun h=>(h hpe).elim) (fun h=>(h hpe).elim) hc1
   ·exact next undef ((p,none) :: kn1) w (fun h=>(hnL h).elim) kc2 ((hk1.put hclash _).cons (knUnd hG hio)) (fun h=>(h hpe).elim) (fun _=>rfl) hx
  ·have hm:memB eff p=false:=memB_false.2 hpe
   rcases h with ⟨hw,hx⟩ | ⟨hw,hx⟩
   ·unfold cexec at hx
    rw [hm] at hx;simp only [cond_false] at hx
    obtain ⟨v,h1,h2⟩:=wexec_run hm hx
    have h2':RunsV P (effI eff AN p) M w0 o (view all AN n e0 vals p) v:=h2.congr (hG.nosel p o hio) fun t ht=>see t (mem_slots ht)
    refine next v kn1 w (fun hLp=>?_) kc (hk1.put hclash _) (fun _=>⟨fun _=>h2',fun hn=>(hn (wiff.1 hw)).elim⟩) (fun _=>rfl) h1
    exact h2'.det ((hg p o hio (.inr hLp) hpe).1 (wiff.1 hw))
   ·refine next undef ((p,none) :: kn1) w (fun hLp=>((hg p o hio (.inr hLp) hpe).2 fun h=>hw (wiff.2 h)).symm) kc2 ((hk1.put hclash _).cons (knUnd hG hio)) (fun _=>⟨fun h=>(hw (wiff.2 h)).elim,fun _=>rfl⟩) (fun _=>rfl) hx

structure TInv (P:Program) (ds:List Deferred) (ok:Nat→Bool) (n:Nat) (all:List Oper) (eff:List Nat) (AN:List (List Nat)) (e0:Env) (w0:World) (M:Nat→Nat→Prop) (K:Env→World→Prop) (L:Nat→Prop) (a:Act) (w:World):Prop where
 ex:∃ (t:Ord) (pre:List Nat) (vals:Nat→Value) (kn:List (Nat × Option Bool)),
  Fr ds n (envS all n e0 vals (fun m=>L m∧m < all.length)) a∧okT all.length eff AN t pre=true∧cov eff AN t pre=true∧PreOk all AN pre∧(∀ q ∈ kn,q.1 ∈ pre)∧KnOk all kn (envS all n e0 vals (fun m=>m ∈ pre))∧
  (∀ (m:Nat) o,all[m]?=some o→(m ∈ pre∨L m)→m ∉ eff→Gd P all eff AN n e0 w0 M vals m o)∧(∀ j ∈ eff,L j↔j ∈ pre)∧
  chainT P ok n all eff M (StI eff AN M w0) w0 K t kn (envS all n e0 vals (fun m=>m ∈ pre)) w
 mod:Mod (fun b=>∃ j ∈ eff,L j∧M j b) w0 w
 closed:∀ i,i < all.length→L i→∀ j ∈ getA AN i,L j

theorem tree_main (hok:GoodFns P ok) (hG:GOk n all eff AN Gs) {ops:Array Oper} (hops:ops.toList=all) :
  ∀ (fuel:Nat) (listed:Array Bool) (a:Act) (w:World),listed.size=ops.size→listed.toList.count false≤fuel→TInv P ds ok n all eff AN e0 w0 M K (fun m=>listed.getD m false=true) a w→
   wpAny P .any ops (drawPost ds all n e0 K) fuel listed a w:=by
 have hsize:ops.size=all.length:=by rw [←hops];simp
 have hget:∀ i:Nat,ops[i]?=all[i]?:=fun i=>by rw [←hops];simp
 have rdy:∀ (listed:Array Bool) (i:Nat),i ∈ Region.ready .any ops listed→∃ o,all[i]?=some o∧listed.getD i true=false∧∀ e ∈ o.after,Region.binds .any e=true→listed.getD e.on false=true:=by
  intro listed i hi
  obtain ⟨h1,o,h2,h3⟩:=mem_ready.1 hi
  exact ⟨o,by rw [←hget];exact h2,h1,h3⟩
 have fin:∀ (listed:Array Bool) (a:Act) (w:World),listed.size=ops.size→TInv P ds ok n all eff AN e0 w0 M K (fun m=>listed.getD m false=true) a w→Region.ready .any ops listed=[]→drawPost ds all n e0 K .normal a w:=by
  intro listed a w hls hI hr
  have hallL:∀ i,i < all.length→listed.getD i false=true:=by
   intro i
   induction i using Nat.strongRecOn with
   | _ i ih=>
    intro hi
    cases hc:listed.getD i false with
    | true=>rfl
    | false=>
     have:i ∈ Region.ready .any ops listed:=by
      refine mem_ready.2 ⟨?_,all[i],by rw [hget];simp [hi],fun e he hb=>?_⟩
      ·have:i < listed.size:=by omega
       simp [this] at hc ⊢;exact hc
      ·have:=hG.back i all[i] (by simp [hi]) e he hb
       exact ih e.on this (by omega)
     rw [hr] at this;cases this
  obtain ⟨t,pre,vals,kn,hfr,ho,_,hp,hkn,hk,hg,hj,hc⟩:=hI.ex
  obtain ⟨A,hre⟩:=nil_reach t
  obtain ⟨hon,hnp⟩:=okT_reach hre ho
  have hnone:∀ j ∈ eff,j ∉ A:=fun j hje hjA=>hnp j hjA ((hj j hje).1 (hallL j (hG.effin j hje)))
  obtain ⟨vals',kn',w',r1,r2,r3,r4,r5,r7,r6⟩:=tree_walk (L:=fun m=>listed.getD m false=true) hok hG hI.closed hre pre kn vals w ho hp hkn hk hg (fun j hje hjA=>(hnone j hje hjA).elim) hc
  have hw:w'=w:=r5 hnone
  subst hw
  have hin:∀ m,m < all.length→m ∈ A.reverse++pre:=fun m hm=>by
   simp only [okT,List.all_eq_true,memB_iff] at hon
   exact hon m (List.mem_range.2 hm)
  have henv:envS all n e0 vals' (fun m=>m ∈ A.reverse++pre)=envS all n e0 vals (fun m=>listed.getD m false=true∧m < all.length):=by
   funext t
   exact envS_same hG fun m hm _=>⟨⟨fun h=>⟨hallL m hm,hm⟩,fun h=>hin m hm⟩,fun _=>r1 m (.inr (hallL m hm))⟩
  unfold chainT at r6
  rw [henv] at r6
  refine ⟨rfl,_,hfr,fun j hj=>envS_else fun m _ hm hd=>?_,r6⟩
  have hmo:all[m]?=some all[m]:=by simp [hm]
  rw [dstAt_get,hmo] at hd
  exact hj all[m] (by simp) hd
 intro fuel
 induction fuel with
 | zero=>
  intro listed a w hls hc hI
  have hr:Region.ready .any ops listed=[]:=by
   cases hr:Region.ready .any ops listed with
   | nil=>rfl
   | cons i r=>
    exfalso
    obtain ⟨o,h1,h2,_⟩:=rdy listed i (by rw [hr];simp)
    have hil:i < listed.size:=by have:=(List.getElem?_eq_some_iff.1 h1).1;omega
    simp [hil] at h2
    have:false ∈ listed.toList:=by rw [←h2];simp
    have:=List.count_pos_iff.2 this
    omega
  exact ⟨hr,fin listed a w hls hI hr⟩
 | succ fuel ih=>
  intro listed a w hls hc hI
  refine ⟨fin listed a w hls hI,fun i hi=>?_⟩
  obtain ⟨o,hio,hun,hedges⟩:=rdy listed i hi
  have hil:i < all.length:=(List.getElem?_eq_some_iff.1 hio).1
  have hils:i < listed.size:=by omega
  have hni:¬ listed.getD i false=true:=by simp [hils] at hun ⊢;exact hun
  have hanc:∀ j ∈ getA AN i,listed.getD j false=true:=by
   intro j hj
   obtain ⟨e,he,hb,h1⟩:=hG.anc i o hio j hj
   have hL:=hedges e he hb
   rcases h1 with rfl | h1
   ·exact hL
   ·exact hI.closed e.on (by have:=hG.back i o hio e he hb;omega) hL j h1
  obtain ⟨t,pre,vals,kn,hfr,hot,hcov,hp,hkn,hk,hg,hj,hcd⟩:=hI.ex
  have see:∀ t ∈ slotsOf all o,envS all n e0 vals (fun m=>listed.getD m false=true∧m < all.length) t=view all AN n e0 vals i t:=
   see_view hG hio (fun j hj=>⟨hanc j hj,by have:=hG.lt hil hj;omega⟩) (fun m hm hmi hsm=>hni (hI.closed m hm hsm.1 i hmi)) (fun h=>hni h.1)
  have hev:=hfr.eval
  have hwant:(Region.wanted o (yielded ops a.tmps)=true)↔wantedV all (view all AN n e0 vals i) o:=by
   rw [←wanted_congr hG hio see]
   unfold Region.wanted wantedV
   cases hg:o.guard with
   | none=>simp
   | some gb=>
    obtain ⟨g,b⟩:=gb
    have:=yielded_of hfr (ops:=ops) (j:=g)
    rw [hops] at this
    simp only [this,beq_iff_eq]
    constructor
    ·rintro h g' b' heq;cases heq;exact h
    ·intro h;exact h g b rfl
  have hset:∀ m,(listed.setIfInBounds i true).getD m false=true↔(listed.getD m false=true∨m=i):=by
   intro m
   simp only [Array.getD_eq_getD_getElem?,Array.getElem?_setIfInBounds]
   by_cases hmi:i=m
   ·subst hmi;simp [hils]
   ·simp [hmi,Ne.symm hmi]
  have hcnt:(listed.setIfInBounds i true).toList.count false≤fuel:=by
   have hb:listed.toList[i]'(by simpa using hils)=false:=by simp [hils] at hun;simpa using hun
   have:(listed.setIfInBounds i true).toList.count false+1=listed.toList.count false:=by
    rw [Array.toList_setIfInBounds]
    exact count_set_false listed.toList i (by rw [←hb];simp)
   omega
  have hcl':∀ m,m < all.length→(listed.getD m false=true∨m=i)→∀ j ∈ getA AN m,(listed.getD j false=true∨j=i):=by
   rintro m hm (hLm | rfl) j hj
   ·exact .inl (hI.closed m hm hLm j hj)
   ·exact .inl (hanc j hj)
  have put:∀ (vals':Nat→Value) (v:Value),(∀ m,listed.getD m false=true→vals' m=vals m)→vals' i=v→
    Fr ds n (envS all n e0 vals' (fun m=>(listed.getD m false=true∨m=i)∧m < all.length)) (a.put o.dst v):=by
   intro vals' v h1 h2
   rw [←envS_put hG (vals:=vals) (S:=fun m=>listed.getD m false=true∧m < all.length) (v:=v) hio (fun m=>?_) (fun m hm hmi=>h1 m hm.1) h2 (fun hh=>hni hh.1)]
   ·exact hfr.put o.dst v
   ·constructor
    ·rintro ⟨h1 | h1,h2⟩
     ·exact .inl ⟨h1,h2⟩
     ·exact .inr h1
    ·rintro (⟨h1,h2⟩ | rfl)
     ·exact ⟨.inl h1,h2⟩
     ·exact ⟨.inr rfl,hil⟩
  have go:∀ (v:Value) (w':World),TInv P ds ok n all eff AN e0 w0 M K (fun m=>listed.getD m false=true∨m=i) (a.put o.dst v) w'→wpAny P .any ops (drawPost ds all n e0 K) fuel (listed.setIfInBounds i true) (a.put o.dst v) w':=by
   intro v w' h1
   refine ih _ _ _ (by simpa using hls) hcnt ?_
   have:(fun m=>(listed.setIfInBounds i true).getD m false=true)=(fun m=>listed.getD m false=true∨m=i):=by
    funext m;exact propext (hset m)
   rw [this];exact h1
  unfold wpOp
  rw [hget i,hio]
  simp only
  have viewv:∀ (vals':Nat→Value),(∀ m,listed.getD m false=true→vals' m=vals m)→view all AN n e0 vals' i=view all AN n e0 vals i:=fun vals' h=>view_congr hG fun j hj=>h j (hanc j hj)
  by_cases hie:i ∈ eff
  ·have hpi:i ∉ pre:=fun h=>hni ((hj i hie).2 h)
   have hnx:nxt eff t i=true:=by
    simp only [cov,List.all_eq_true] at hcov
    have h1:=hcov i hie
    rw [memB_false.2 hpi] at h1
    have h2:((getA AN i).all fun j=>!memB eff j || memB pre j)=true:=by
     simp only [List.all_eq_true,Bool.or_eq_true,Bool.not_eq_true',memB_iff,memB_false]
     intro j hja
     by_cases hje:j ∈ eff
     ·exact .inr ((hj j hje).1 (hanc j hja))
     ·exact .inl hje
    simpa [h2] using h1
   obtain ⟨A,t',hre,hAe⟩:=nxt_reach hnx
   obtain ⟨hon,hnp⟩:=okT_reach hre hot
   have hnone:∀ j ∈ eff,j ∉ A:=fun j hje hjA=>hAe j hjA hje
   obtain ⟨vals',kn',w',r1,r2,r3,r4,r5,r7,r6⟩:=tree_walk (L:=fun m=>listed.getD m false=true) hok hG hI.closed hre pre kn vals w hot hp hkn hk hg (fun j hje hjA=>(hnone j hje hjA).elim) hcd
   have hw:w'=w:=r5 hnone
   subst hw
   obtain ⟨_,hin,hia,hcov',hot'⟩:=okT_op hon
   generalize hpre:A.reverse++pre=pre' at *
   have hpp:∀ j ∈ eff,j ∈ pre'↔j ∈ pre:=fun j hje=>by
    rw [←hpre,List.mem_append,List.mem_reverse]
    exact ⟨fun h=>h.resolve_left (hnone j hje),.inr⟩
   obtain ⟨kn1,hkn1,hk1,h6⟩:=tree_head hG hio hia r2 r3 r6
   have hv:=viewv vals' fun m hm=>r1 m (.inr hm)
   have see2:∀ t ∈ slotsOf all o,envS all n e0 vals' (fun m=>m ∈ pre') t=view all AN n e0 vals i t:=fun t ht=>by
    rw [see_view hG hio hia (fun m hm hmi hsm=>hin (r7.cl m hsm i hmi)) hin t ht,hv]
   have hclash:=clash_ofT hG hio (kn:=kn1) fun q hq=>⟨fun e=>hin (e ▸ hkn1 q hq),r7.lt _ (hkn1 q hq)⟩
   have wiff:=wanted_congr hG hio see2
   have newInv:∀ (v:Value) (w1:World) (kn2:List (Nat × Option Bool)),(∀ q ∈ kn2,q.1 ∈ i :: pre')→KnOk all kn2 (updO n (envS all n e0 vals' (fun m=>m ∈ pre')) o.dst v)→Mod (fun b=>∃ j ∈ eff,(listed.getD j false=true∨j=i)∧M j b) w0 w1→
     chainT P ok n all eff M (StI eff AN M w0) w0 K t' kn2 (updO n (envS all n e0 vals' (fun m=>m ∈ pre')) o.dst v) w1→TInv P ds ok n all eff AN e0 w0 M K (fun m=>listed.getD m false=true∨m=i) (a.put o.dst v) w1:=by
    intro v w1 kn2 h1 h2 h3 h4
    have hput:updO n (envS all n e0 vals' (fun m=>m ∈ pre')) o.dst v=envS all n e0 (fun q=>if q=i then v else vals' q) (fun m=>m ∈ i :: pre'):=
     envS_put hG hio (fun m=>by simp [or_comm]) (fun m _ hmi=>by simp [hmi]) (by simp) hin
    rw [hput] at h2 h4
    refine ⟨⟨t',i :: pre',fun q=>if q=i then v else vals' q,kn2,put _ v (fun m hm=>?_) (by simp),hot',hcov' hie,r7.cons hil hia,h1,h2,?_,?_,h4⟩,h3,hcl'⟩
    ·have:m≠i:=by rintro rfl;exact hni hm
     simp [this,r1 m (.inr hm)]
    ·intro m o' hm hmL hne
     have hml:m < all.length:=(List.getElem?_eq_some_iff.1 hm).1
     have hmi:m≠i:=by rintro rfl;exact hne hie
     have hmL':m ∈ pre'∨listed.getD m false=true:=by
      rcases hmL with h | h | h
      ·exact .inl ((List.mem_cons.1 h).resolve_left hmi)
      ·exact .inr h
      ·exact (hmi h).elim
     refine Gd.of_agree hG hml (fun j hj=>?_) (by simp [hmi]) (r4 m o' hm hmL' hne)
     have:j≠i:=by
      rintro rfl
      rcases hmL' with h | h
      ·exact hin (r7.cl m h j hj)
      ·exact hni (hI.closed m hml h j hj)
     simp [this]
    ·intro j hje
     rw [hj j hje,List.mem_cons,hpp j hje]
     exact or_comm
   have lift1:Mod (fun b=>∃ j ∈ eff,(listed.getD j false=true∨j=i)∧M j b) w0 w':=hI.mod.mono fun b _ ⟨j,hj,hL,hb⟩=>⟨j,hj,.inl hL,hb⟩
   have kc:∀ q ∈ kn1,q.1 ∈ i :: pre':=fun q hq=>List.mem_cons_of_mem _ (hkn1 q hq)
   by_cases hwv:wantedV all (view all AN n e0 vals i) o
   ·rw [if_pos (hwant.2 hwv)]
    left
    rcases h6 with ⟨_,hx⟩ | ⟨hnw,_⟩
    ·unfold cexec at hx
     rw [memB_iff.2 hie] at hx;simp only [cond_true] at hx
     have hnx:=opD_nx hok (fun _=>rfl) (fun _=>rfl) hx
     unfold Oper.wp
     rw [hev,execOp_slots (e':=envS all n e0 vals' (fun m=>m ∈ pre')) (hG.nosel i o hio) (fun t ht=>by rw [see t (mem_slots ht),see2 t (mem_slots ht)])]
     exact upon_of hnx fun v w1 hv=>go v w1 (newInv v w1 kn1 kc (hk1.put hclash _) ((lift1.trans (hv.1.mono fun b _ hb=>⟨i,hie,.inr rfl,hb⟩))) hv.2)
    ·exact (hnw (wiff.2 hwv)).elim
   ·rw [if_neg (fun h=>hwv (hwant.1 h))]
    rcases h6 with ⟨hw,_⟩ | ⟨_,hx⟩
    ·exact (hwv (wiff.1 hw)).elim
    ·exact go undef w' (newInv undef w' ((i,none) :: kn1) (fun q hq=>by
      rcases List.mem_cons.1 hq with rfl | hq
      ·exact List.mem_cons_self
      ·exact kc q hq) ((hk1.put hclash _).cons (knUnd hG hio)) lift1 hx)
  ·-- an operation that looks at most at memory that stays
   have key:∃ v:Value,(i ∈ pre→v=vals i)∧(wantedV all (view all AN n e0 vals i) o→RunsV P (effI eff AN i) M w0 o (view all AN n e0 vals i) v)∧(¬ wantedV all (view all AN n e0 vals i) o→v=undef):=by
    by_cases hip:i ∈ pre
    ·exact ⟨vals i,fun _=>rfl,hg i o hio (.inl hip) hie⟩
    ·obtain ⟨A0,hre0⟩:=nil_reach t
     obtain ⟨hon0,_⟩:=okT_reach hre0 hot
     have hiA:i ∈ A0:=by
      simp only [okT,List.all_eq_true,memB_iff] at hon0
      have:=hon0 i (List.mem_range.2 hil)
      rw [List.mem_append,List.mem_reverse] at this
      exact this.resolve_right hip
     obtain ⟨B,t1,hre1,_⟩:=reach_split hre0 hiA
     have hre:Reach t (B++[i]) t1:=by
      have tr:∀ {a b c:Ord} {X Y:List Nat},Reach a X b→Reach b Y c→Reach a (X++Y) c:=by
       intro a b c X Y h1 h2
       induction h1 with
       | refl _=>exact h2
       | op _ ih=>exact .op (ih h2)
       | l _ ih=>exact .l (ih h2)
       | r _ ih=>exact .r (ih h2)
      exact tr hre1 (.op (.refl _))
     obtain ⟨_,hnp⟩:=okT_reach hre hot
     obtain ⟨vals',kn',w',r1,r2,r3,r4,r5,r7,r6⟩:=tree_walk (L:=fun m=>listed.getD m false=true) hok hG hI.closed hre pre kn vals w hot hp hkn hk hg (fun j hje hjA hLj=>hnp j hjA ((hj j hje).1 hLj)) hcd
     have hv:=viewv vals' fun m hm=>r1 m (.inr hm)
     have:=r4 i o hio (.inl (by simp)) hie
     unfold Gd at this
     rw [hv] at this
     exact ⟨vals' i,fun h=>(hip h).elim,this⟩
   obtain ⟨v,hvp,hvg⟩:=key
   have inv:TInv P ds ok n all eff AN e0 w0 M K (fun m=>listed.getD m false=true∨m=i) (a.put o.dst v) w:=by
    have hagree:∀ m,(m ∈ pre∨listed.getD m false=true)→(if m=i then v else vals m)=vals m:=by
     intro m hm
     by_cases hmi:m=i
     ·subst hmi
      rcases hm with h | h
      ·simp [hvp h]
      ·exact (hni h).elim
     ·simp [hmi]
    have henv:envS all n e0 (fun m=>if m=i then v else vals m) (fun m=>m ∈ pre)=envS all n e0 vals (fun m=>m ∈ pre):=by
     funext t
     exact envS_same hG fun m _ _=>⟨Iff.rfl,fun h=>hagree m (.inl h)⟩
    refine ⟨⟨t,pre,fun m=>if m=i then v else vals m,kn,put _ v (fun m hm=>hagree m (.inr hm)) (by simp),hot,hcov,hp,hkn,by rw [henv];exact hk,?_,?_,by rw [henv];exact hcd⟩,hI.mod.mono fun b _ ⟨j,hj,hL,hb⟩=>⟨j,hj,.inl hL,hb⟩,hcl'⟩
    ·intro m o' hm hmL hne
     have hml:m < all.length:=(List.getElem?_eq_some_iff.1 hm).1
     by_cases hmi:m=i
     ·subst hmi
      rw [hio] at hm;cases hm
      unfold Gd
      rw [view_congr hG (vals':=vals) fun j hj=>by have:=hG.lt hil hj;simp [show j≠m by omega]]
      simp only [if_true]
      exact hvg
     ·have hmL':m ∈ pre∨listed.getD m false=true:=by
       rcases hmL with h | h | h
       ·exact .inl h
       ·exact .inr h
       ·exact (hmi h).elim
      refine Gd.of_agree hG hml (fun j hj=>?_) (by simp [hmi]) (hg m o' hm hmL' hne)
      have hjL:j ∈ pre∨listed.getD j false=true:=by
       rcases hmL' with h | h
       ·exact .inl (hp.cl m h j hj)
       ·exact .inr (hI.closed m hml h j hj)
      exact (hagree j hjL).symm
    ·intro j hje
     have hji:j≠i:=by rintro rfl;exact hie hje
     rw [←hj j hje]
     simp [hji]
   have hgo:=go v w inv
   by_cases hwv:wantedV all (view all AN n e0 vals i) o
   ·rw [if_pos (hwant.2 hwv)]
    left
    unfold Oper.wp
    rw [hev,execOp_slots (e':=view all AN n e0 vals i) (hG.nosel i o hio) (fun t ht=>see t (mem_slots ht)),hvg.1 hwv w (hI.mod.mono fun b _ ⟨j,hj,hL,hb⟩=>⟨j,effI_mem hj fun hji=>hni (hI.closed j (hG.effin j hj) hL i hji),hb⟩)]
    exact hgo
   ·rw [if_neg (fun h=>hwv (hwant.1 h))]
    have:=hvg.2 hwv
    rw [this] at hgo
    exact hgo

theorem wp_region_T {ops:Array Oper} {w:World} {a:Act} {t:Ord} (hok:GoodFns P ok) (hm:P.follows .mixedOrders=true) (hf:Fr ds n e0 a)
  (hG:gokB n ops.toList eff AN Gs=true) (ht:treeB ops.toList.length eff AN t=true)
  (h:DrawC eff AN w.drew fun M St=>chainT P ok n ops.toList eff M St w.drew K t [] e0 w.drew) :
  wpAny P .any ops (drawPost ds ops.toList n e0 K) ops.size (Array.replicate ops.size false) a { w with drawn:=w.drawn+1 }:=by
 obtain ⟨M,h⟩:=h
 have hgo:=gokB_ok hG
 simp only [treeB,Bool.and_eq_true] at ht
 refine tree_main (M:=M) (w0:=w.drew) hok hgo rfl ops.size (Array.replicate ops.size false) a _ (by simp) ?_ ?_
 ·simp
 ·have hn:∀ m:Nat,¬ (Array.replicate ops.size false).getD m false=true:=fun m=>by
   simp only [Array.getD_eq_getD_getElem?,Array.getElem?_replicate]
   split <;> simp
  have hempty:∀ S:Nat→Prop,(∀ m,¬ S m)→envS ops.toList n e0 (fun _=>undef) S=e0:=fun S hS=>by
   funext t;exact envS_else fun m hm _=>(hS m hm).elim
  refine ⟨⟨t,[],fun _=>undef,[],?_,ht.2,ht.1,⟨fun m hm=>(nomatch hm),fun m hm=>(nomatch hm)⟩,fun q hq=>(nomatch hq),fun j b hb=>by simp [lookK] at hb,fun m o _ hmL _=>?_,fun j _=>?_,?_⟩,Mod.refl _ _,fun i _ hi=>(hn i hi).elim⟩
  ·rw [hempty _ fun m hm=>hn m hm.1];exact hf
  ·rcases hmL with h | h
   ·cases h
   ·exact (hn m h).elim
  ·exact ⟨fun h=>(hn j h).elim,fun h=>(nomatch h)⟩
  ·rw [hempty _ fun m hm=>(nomatch hm)]
   exact h
end
end Go.K

namespace Go.K
open Go

inductive Ann where
 | nil
 | node (L:List Nat) (W:List (Nat × Nat)) (a b:Ann)
 | cut (L:List Nat) (W:List (Nat × Nat)) (a b:Ann)
 | draw
 | dt (eff:List Nat) (AN Gs:List (List Nat)) (t:Ord)

def linO:Nat→Nat→Ord
 | 0,_=>.nil
 | k+1,i=>.op i (linO k (i+1))
def Ann.dc (eff:List Nat) (AN Gs:List (List Nat)):Ann:=.dt eff AN Gs (linO AN.length 0)
def inR:List (Nat × Nat)→Nat→Bool
 | [],_=>false
 | (lo,hi) :: r,j=>(Nat.ble lo j && Nat.ble j hi) || inR r j
def lk:List Nat→List Value→Nat→Value→Value
 | [],_,_,d=>d
 | l :: L,vs,j,d=>bif Nat.beq l j then vs.headD undef else lk L vs.tail j d
def mix (L:List Nat) (W:List (Nat × Nat)) (vs:List Value) (h e:Env):Env:=fun j=>lk L vs j (bif inR W j then h j else e j)

def wrIn (W:List (Nat × Nat)):Code→Bool
 | .region _ ops _=>ops.toList.all fun o=>match o.dst with | some d=>inR W d | none=>true
 | .seq a b=>wrIn W a && wrIn W b
 | .cond _ a b=>wrIn W a && wrIn W b
 | .block _ a=>wrIn W a
 | .loop a=>wrIn W a
 | .scope a=>wrIn W a
 | .rangeFunc ..=>false
 | _=>true

def Wr:Code→Nat→Prop
 | .region _ ops _,j=>∃ o ∈ ops.toList,o.dst=some j
 | .seq a b,j=>Wr a j∨Wr b j
 | .cond _ a b,j=>Wr a j∨Wr b j
 | .block _ a,j=>Wr a j
 | .loop a,j=>Wr a j
 | .scope a,j=>Wr a j
 | .rangeFunc ..,_=>True
 | _,_=>False

theorem wrIn_spec {W:List (Nat × Nat)}:∀ {c:Code},wrIn W c=true→∀ j,Wr c j→inR W j=true
 | .region _ ops _,h,j,⟨o,ho,hd⟩=>by
  simp only [wrIn,List.all_eq_true] at h
  have:=h o ho;rw [hd] at this;exact this
 | .seq a b,h,j,hj=>by
  simp only [wrIn,Bool.and_eq_true] at h
  exact hj.elim (wrIn_spec h.1 j) (wrIn_spec h.2 j)
 | .cond _ a b,h,j,hj=>by
  simp only [wrIn,Bool.and_eq_true] at h
  exact hj.elim (wrIn_spec h.1 j) (wrIn_spec h.2 j)
 | .block _ a,h,j,hj=>wrIn_spec (c:=a) h j hj
 | .loop a,h,j,hj=>wrIn_spec (c:=a) h j hj
 | .scope a,h,j,hj=>wrIn_spec (c:=a) h j hj
 | .rangeFunc ..,h,_,_=>by simp [wrIn] at h
 | .skip,_,_,hj=>hj.elim
 | .exit _,_,_,hj=>hj.elim
 | .label _,_,_,hj=>hj.elim
 | .goto _,_,_,hj=>hj.elim
 | .ret,_,_,hj=>hj.elim
 | .refuse _,_,_,hj=>hj.elim

theorem lk_map (e:Env) (L:List Nat) (j:Nat) (d:Value):lk L (L.map e) j d=if j ∈ L then e j else d:=by
 induction L with
 | nil=>simp [lk]
 | cons l L ih=>
  simp only [lk,List.map_cons,List.headD_cons,List.tail_cons,ih]
  cases hb:Nat.beq l j with
  | true=>have:=Nat.eq_of_beq_eq_true hb;subst this;simp
  | false=>
   have:j≠l:=by intro e;subst e;simp at hb
   simp [this]
theorem mix_self {L:List Nat} {W:List (Nat × Nat)} {e e':Env} (h:∀ j,inR W j=false→e' j=e j):mix L W (L.map e') e' e=e':=by
 funext j
 simp only [mix,lk_map]
 split
 ·rfl
 ·cases hw:inR W j with
  | true=>simp
  | false=>simp [h j hw]

variable (P:Program) (ok:Nat→Bool) (n:Nat)

def roundK (P:Program) (l:Nat) (args:List Value) (K:Cont) (w:World):Prop:=
 ∃ f tmps asg body,(Instr.yield l args.toArray).run P w=.ok (.round l f tmps asg body) w∧RoundIn Fence.wide 0 P l f tmps asg body w fun e w'=>∃ v,e=.returned v∧K v w'
def callyK (P:Program) (ok:Nat→Bool) (f:Value) (args:List Value) (K:Cont) (w:World):Prop:=
 callvK P ok f args K w∨∃ l,f=.func (.yield l) #[] #[]∧roundK P l args K w
def opY (o:Oper) (ρ:Operand→Value) (K:Cont) (w:World):Prop:=
 match o.op with
 | .call c=>match c.callee with
  | .value (.func _)=>opD P ok o ρ K w
  | .value f=>callyK P ok (ρ f) (c.args.toList.map ρ) K w
  | _=>opD P ok o ρ K w
 | _=>opD P ok o ρ K w

def opsD (all:List Oper) (K:Env→World→Prop):List Oper→Nat→List (Nat × Option Bool)→Env→World→Prop
 | [],_,_,e,w=>K e w
 | o :: rest,i,kn,e,w=>
  bif clash o.dst kn all then False else
  match o.guard with
  | none=>opY P ok o (ev e) (fun v w'=>opsD all K rest (i+1) kn (updO n e o.dst v) w') w
  | some (j,want)=>match lookK kn j with
   | some (some b)=>bif sameB b want then opY P ok o (ev e) (fun v w'=>opsD all K rest (i+1) kn (updO n e o.dst v) w') w
     else opsD all K rest (i+1) ((i,none) :: kn) (updO n e o.dst undef) w
   | some none=>opsD all K rest (i+1) ((i,none) :: kn) (updO n e o.dst undef) w
   | none=>match dstAt all j with
    | some d=>bif clash o.dst ((j,none) :: kn) all then False else condK (e d)
      (bif want then opY P ok o (ev (upd n e d (.bool true))) (fun v w'=>opsD all K rest (i+1) ((j,some true) :: kn) (updO n (upd n e d (.bool true)) o.dst v) w') w
       else opsD all K rest (i+1) ((i,none) :: (j,some true) :: kn) (updO n (upd n e d (.bool true)) o.dst undef) w)
      (bif want then opsD all K rest (i+1) ((i,none) :: (j,some false) :: kn) (updO n (upd n e d (.bool false)) o.dst undef) w
       else opY P ok o (ev (upd n e d (.bool false))) (fun v w'=>opsD all K rest (i+1) ((j,some false) :: kn) (updO n (upd n e d (.bool false)) o.dst v) w') w)
    | none=>False

def qld1K (C:World→Prop) (x:Value) (K:Value→Prop):Prop:=∃ a v,x=.pointer (some a)∧(∀ w,C w→w.cell? a=some v)∧K v
def qldnK (C:World→Prop) (k:Nat) (x:Value) (K:Value→Prop):Prop:=
 ∃ a vs,x=.pointer (some a)∧List.length vs=k∧(∀ w,C w→∀ j v,vs[j]?=some v→w.cell? (a.add j)=some v)∧K (.agg vs.toArray)
def qcallK (P:Program) (C:World→Prop) (g:Nat) (args:List Value) (K:Value→Prop):Prop:=
 ∃ v,(∀ w,C w→callK P g args (fun v' w'=>v'=v∧C w') w)∧K v
def qrunK (P:Program) (C:World→Prop) (s:Sem Value) (K:Value→Prop):Prop:=∃ v,(∀ w,C w→s.run P w=.ok v w)∧K v
def qextK (P:Program) (C:World→Prop) (g:Nat) (args:List Value) (K:Value→Prop):Prop:=∃ v,(∀ w,C w→(callFunc g args.toArray).run P w=.ok (.value v) w)∧K v
def DrawK (w:World) (F:(World→Prop)→Prop):Prop:=∃ C:World→Prop,C w.drew∧F C

def opQ (C:World→Prop) (o:Oper) (ρ:Operand→Value) (K:Value→Prop) (w:World):Prop:=
 match o.op with
 | .load t x=>match aggOf P t with | some (false,_)=>qld1K C (ρ x) K | some (true,k)=>qldnK C k (ρ x) K | none=>False
 | .binOp op t x y _=>bif pureBin P op t y then binD P op t y (ρ x) (ρ y) K False
   else qrunK P C (binS op t x y (ρ x) (ρ y)) K
 | .call c=>match c.callee with
  | .value (.func g)=>bif ok g then qcallK P C g (c.args.toList.map ρ) K else qextK P C g (c.args.toList.map ρ) K
  | _=>bif pureOp P o then opD P ok o ρ (fun v _=>K v) w else False
 | .convert s d x=>qrunK P C (convert s d (ρ x)) K
 | .slice t x lo hi mx=>qrunK P C (Instr.sliceAt t (ρ x) (lo.map ρ) (hi.map ρ) (mx.map ρ)) K
 | _=>bif pureOp P o then opD P ok o ρ (fun v _=>K v) w else False

def opsQ (C:World→Prop) (all:List Oper) (K:Env→Prop) (w:World):List Oper→Nat→List (Nat × Option Bool)→Env→Prop
 | [],_,_,e=>K e
 | o :: rest,i,kn,e=>
  bif clash o.dst kn all then False else
  match o.guard with
  | none=>opQ P ok C o (ev e) (fun v=>opsQ C all K w rest (i+1) kn (updO n e o.dst v)) w
  | some (j,want)=>match lookK kn j with
   | some (some b)=>bif sameB b want then opQ P ok C o (ev e) (fun v=>opsQ C all K w rest (i+1) kn (updO n e o.dst v)) w
     else opsQ C all K w rest (i+1) ((i,none) :: kn) (updO n e o.dst undef)
   | some none=>opsQ C all K w rest (i+1) ((i,none) :: kn) (updO n e o.dst undef)
   | none=>match dstAt all j with
    | some d=>bif clash o.dst ((j,none) :: kn) all then False else condK (e d)
      (bif want then opQ P ok C o (ev (upd n e d (.bool true))) (fun v=>opsQ C all K w rest (i+1) ((j,some true) :: kn) (updO n (upd n e d (.bool true)) o.dst v)) w
       else opsQ C all K w rest (i+1) ((i,none) :: (j,some true) :: kn) (updO n (upd n e d (.bool true)) o.dst undef))
      (bif want then opsQ C all K w rest (i+1) ((i,none) :: (j,some false) :: kn) (updO n (upd n e d (.bool false)) o.dst undef)
       else opQ P ok C o (ev (upd n e d (.bool false))) (fun v=>opsQ C all K w rest (i+1) ((j,some false) :: kn) (updO n (upd n e d (.bool false)) o.dst v)) w)
    | none=>False

def ndef (o:Oper):Bool:=match o.op with | .defer _=>false | _=>true
def rdB:Code→Bool
 | .region _ ops draw=>!draw || ops.toList.all ndef
 | .seq a b=>rdB a && rdB b
 | .cond _ a b=>rdB a && rdB b
 | .block _ a=>rdB a
 | .loop a=>rdB a
 | .skip=>true
 | .exit _=>true
 | .ret=>true
 | _=>false
def bEx (id:Nat) (Q:EQ):EQ:=fun ex e w=>match ex with
 | .exit i=>bif Nat.beq i id then Q .normal e w else Q (.exit i) e w
 | .normal=>Q .normal e w | .ret=>Q .ret e w | .goto l=>Q (.goto l) e w | .panic c=>Q (.panic c) e w | .outgrown=>Q .outgrown e w
def gEx (Q:EQ):EQ:=fun ex e w=>match ex with
 | .goto _=>False
 | .normal=>Q .normal e w | .exit i=>Q (.exit i) e w | .ret=>Q .ret e w | .panic c=>Q (.panic c) e w | .outgrown=>Q .outgrown e w
def nEx (N:Env→World→Prop) (Q:EQ):EQ:=fun ex e w=>match ex with
 | .normal=>N e w
 | .exit i=>Q (.exit i) e w | .ret=>Q .ret e w | .goto l=>Q (.goto l) e w | .panic c=>Q (.panic c) e w | .outgrown=>Q .outgrown e w

def D:Code→Ann→EQ→Env→World→Prop
 | .skip,_,Q,e,w=>Q .normal e w
 | .region _ ops draw,an,Q,e,w=>match draw with
  | false=>opsD P ok n ops.toList (fun e w=>Q .normal e w) ops.toList 0 [] e w
  | true=>match an with
   | .draw=>bif Region.lexB .any ops then DrawK w (fun C=>opsQ P ok n C ops.toList (fun e'=>∀ w':World,C w'→Q .normal e' w') w ops.toList 0 [] e) else False
   | .dt eff AN Gs t=>bif gokB n ops.toList eff AN Gs && treeB ops.toList.length eff AN t then DrawC eff AN w.drew fun M St=>chainT P ok n ops.toList eff M St w.drew (fun e' w'=>Q .normal e' w') t [] e w.drew else False
   | _=>False
 | .seq x y,an,Q,e,w=>match an with
  | .node _ _ a b=>D x a (nEx (fun e' w'=>D y b Q e' w') Q) e w
  | .cut L W a b=>bif wrIn W x then JoinK (fun vs w'=>∀ h:Env,D y b Q (mix L W vs h e) w') (fun J=>D x a (nEx (fun e' w'=>J (L.map e') w') Q) e w) else False
  | _=>False
 | .cond c x y,an,Q,e,w=>match an with
  | .node _ _ a b=>condK (ev e c) (D x a Q e w) (D y b Q e w)
  | _=>False
 | .block id x,an,Q,e,w=>D x an (bEx id Q) e w
 | .loop x,an,Q,e,w=>match an with
  | .node L W a _=>bif wrIn W x then LoopK (L.map e) (fun vs again w'=>∀ h:Env,D x a (nEx (fun e' w''=>again (L.map e') w'') Q) (mix L W vs h e) w') w else False
  | _=>False
 | .exit id,_,Q,e,w=>Q (.exit id) e w
 | .ret,_,Q,e,w=>Q .ret e w
 | .label _,_,Q,e,w=>Q .normal e w
 | .scope x,an,Q,e,w=>D x an (gEx Q) e w
 | _,_,_,_,_=>False

variable {P ok n}

def lift (n:Nat) (ds:List Deferred) (c:Code) (e:Env) (Q:EQ):Exit→Act→World→Prop:=fun ex a w=>∃ e',Fr ds n e' a∧(∀ j,¬ Wr c j→e' j=e j)∧Q ex e' w

def opsPost (ds:List Deferred) (n:Nat) (l:List Oper) (e:Env) (K:Env→World→Prop):Exit→Act→World→Prop:=
 fun ex a w=>ex=.normal∧∃ e',Fr ds n e' a∧(∀ j,(∀ o ∈ l,o.dst≠some j)→e' j=e j)∧K e' w

theorem opsPost_cons {ds:List Deferred} {l:List Oper} {o:Oper} {e:Env} {v:Value} {K:Env→World→Prop} {ex:Exit} {a:Act} {w:World} (h:opsPost ds n l (updO n e o.dst v) K ex a w):opsPost ds n (o :: l) e K ex a w:=by
 obtain ⟨h0,e',h1,h2,h3⟩:=h
 refine ⟨h0,e',h1,fun j hj=>?_,h3⟩
 rw [h2 j (fun o' ho'=>hj o' (by simp [ho']))]
 exact updO_other (hj o (by simp))
abbrev Wd (ro:Option Nat):Fence:={ Fence.wide with round:=ro }
theorem wpListIn_mono {F:Fence} {m:Nat} {ops:Array Oper} {Q Q':Exit→Act→World→Prop} (hq:∀ e a w,Q e a w→Q' e a w):∀ (l:List Oper) (a:Act) (w:World),wpListIn F m P ops Q l a w→wpListIn F m P ops Q' l a w:=by
 have hL:LetsOut Q→LetsOut Q':=fun ⟨a,w,h⟩=>⟨a,w,hq _ _ _ h⟩
 intro l
 induction l with
 | nil=>intro a w h;exact hq _ _ _ h
 | cons o r ih=>
  intro a w h
  unfold wpListIn at h ⊢
  split
  ·rename_i hw;rw [if_pos hw] at h
   unfold Oper.wpIn at h ⊢
   refine ⟨h.1,?_⟩
   replace h:=h.2
   generalize (o.semAt F.round a.eval).run P w=r' at h ⊢
   match r',h with
   | .ok (.value v) w',h=>exact ih _ _ h
   | .ok .skip w',h=>exact ih _ _ h
   | .ok (.defer d) w',h=>exact ih _ _ h
   | .ok (.enter f args) w',h=>
    exact ⟨h.1,CallsIn.mono h.2 fun en w'' hh=>by
     cases en with
     | returned v=>exact ih _ _ hh
     | panicked ch=>exact hq _ _ _ hh
     | outgrown=>exact hL hh⟩
   | .ok (.row row args) w',h=>exact ⟨h.1,RowsIn.mono h.2 fun v w'' hh=>ih _ _ hh⟩
   | .ok (.round l f tmps assign body) w',h=>
    exact ⟨h.1,RoundIn.mono h.2 fun en w'' hh=>by
     cases en with
     | returned v=>exact ih _ _ hh
     | panicked ch=>exact hq _ _ _ hh
     | outgrown=>exact hL hh⟩
   | .halt (.panic v) w',h=>exact hq _ _ _ h
  ·rename_i hw;rw [if_neg hw] at h;exact ⟨h.1,ih _ _ h.2⟩

theorem uponIn_of {ro:Option Nat} {m:Nat} {K:Cont} {w:World} {o:Oper} {a:Act} {next:Act→World→Prop} {Q:Exit→Act→World→Prop} {r:Result Next}
  (h:NextOk w r K P) (hK:∀ v w',K v w'→next (a.put o.dst v) w'):o.uponIn (Wd ro) m P a next Q r:=by
 match r,h with
 | .ok (.value v) w',h=>exact hK _ _ h
 | .ok .skip w',h=>exact hK _ _ h
 | .ok (.enter f args) w',h=>
  obtain ⟨rfl,h⟩:=h
  exact ⟨(fun h=>by cases h),(callsIn_wide.2 (Calls.mono h fun e w'' ⟨v,he,hv⟩=>by subst he;exact hK _ _ hv):CallsIn Fence.wide _ _ _ _ _ _)⟩
theorem opD_noDefer {o:Oper} {ρ:Operand→Value} {K:Cont} {w:World} (h:opD P ok o ρ K w):∀ c,o.op≠.defer c:=by
 intro c hc
 simp only [opD,hc] at h
theorem opY_upon (hok:GoodFns P ok) {ro:Option Nat} {m:Nat} {K:Cont} {w:World} {o:Oper} {a:Act} {e:Env} {next:Act→World→Prop} {Q:Exit→Act→World→Prop} (hev:a.eval=ev e)
  (h:opY P ok o (ev e) K w) (hK:∀ v w',K v w'→next (a.put o.dst v) w'):o.wpIn (Wd ro) m P a w next Q:=by
 have old:opD P ok o (ev e) K w→o.wpIn (Wd ro) m P a w next Q:=by
  intro h
  refine ⟨fun _ _=>trivial,?_⟩
  rw [Oper.semAt_eq _ _ _ (opD_noDefer h),hev]
  exact uponIn_of (opD_nx hok (fun _=>rfl) (fun _=>rfl) h) hK
 obtain ⟨dst,op,type,pos,after,guard⟩:=o
 cases op with
 | call c=>
  obtain ⟨callee,args,ats⟩:=c
  cases callee with
  | value f=>
   have yl:callyK P ok (ev e f) (args.toList.map (ev e)) K w→(opD P ok ⟨dst,.call ⟨.value f,args,ats⟩,type,pos,after,guard⟩ (ev e) K w↔callvK P ok (ev e f) (args.toList.map (ev e)) K w)→Oper.wpIn (Wd ro) m P ⟨dst,.call ⟨.value f,args,ats⟩,type,pos,after,guard⟩ a w next Q:=by
    rintro (h | ⟨l,hf,fn,tmps,asg,body,h1,h2⟩) hiff
    ·exact old (hiff.2 h)
    ·refine ⟨fun _ _=>trivial,?_⟩
     rw [Oper.semAt_eq _ _ _ (by simp),hev]
     have hr:(execOp (ev e) ⟨dst,.call ⟨.value f,args,ats⟩,type,pos,after,guard⟩).run P w=.ok (.round l fn tmps asg body) w:=by
      simp only [execOp,resolve,hf,Deferred.ofValue,pure_bind,invoke,args_map]
      simpa [callFunc] using h1
     rw [hr]
     have h3:=h2.2
     refine ⟨(fun h=>by cases h),trivial,fun c cs _=>?_⟩
     obtain ⟨en,w'',⟨v,rfl,hv⟩,hs⟩:=h3 c cs (room_wide _)
     exact ⟨.returned v,w'',hK _ _ hv,hs⟩
   cases f with
   | func g=>exact old h
   | tmp t=>exact yl h Iff.rfl
   | const v=>exact yl h Iff.rfl
   | global g=>exact yl h Iff.rfl
  | invoke r m=>exact old h
  | builtin b=>exact old h
 | _=>exact old h

theorem opsD_sound {ds:List Deferred} {ro:Option Nat} {m:Nat} (hok:GoodFns P ok) {ops:Array Oper} {K:Env→World→Prop}:∀ (l:List Oper) (i:Nat) (kn:List (Nat × Option Bool)) (e:Env) (w:World) (a:Act),
  ops.toList.drop i=l→KnOk ops.toList kn e→Fr ds n e a→opsD P ok n ops.toList K l i kn e w→wpListIn (Wd ro) m P ops (opsPost ds n l e K) l a w:=by
 intro l
 induction l with
 | nil=>
  intro i kn e w a _ _ hf h
  exact ⟨rfl,e,hf,fun _ _=>rfl,h⟩
 | cons o rest ih=>
  intro i kn e w a hl hkn hf h
  have hoi:dstAt ops.toList i=o.dst:=by
   have:ops.toList[i]?=some o:=by
    have:=congrArg (fun l=>l[0]?) hl
    simpa using this
   rw [dstAt_get,this];rfl
  have hl':ops.toList.drop (i+1)=rest:=by
   have:=congrArg List.tail hl
   simpa using this
  have lift1:∀ (v:Value) (a':Act) (w':World),wpListIn (Wd ro) m P ops (opsPost ds n rest (updO n e o.dst v) K) rest a' w'→wpListIn (Wd ro) m P ops (opsPost ds n (o :: rest) e K) rest a' w':=
   fun v a' w' hh=>wpListIn_mono (fun ex a w=>opsPost_cons) rest a' w' hh
  simp only [opsD] at h
  cases hcl:clash o.dst kn ops.toList with
  | true=>simp only [hcl,cond_true] at h
  | false=>
   simp only [hcl,cond_false] at h
   have run1:∀ kn',(∀ v,KnOk ops.toList kn' (updO n e o.dst v))→opY P ok o (ev e) (fun v w'=>opsD P ok n ops.toList K rest (i+1) kn' (updO n e o.dst v) w') w→
     o.wpIn (Wd ro) m P a w (wpListIn (Wd ro) m P ops (opsPost ds n (o :: rest) e K) rest) (opsPost ds n (o :: rest) e K):=by
    intro kn' hk hop
    refine opY_upon hok hf.eval hop fun v w' hv=>?_
    exact lift1 v _ _ (ih (i+1) kn' _ w' _ hl' (hk v) (hf.put o.dst v) hv)
   have skip1:∀ kn',KnOk ops.toList kn' (updO n e o.dst undef)→opsD P ok n ops.toList K rest (i+1) ((i,none) :: kn') (updO n e o.dst undef) w→
     wpListIn (Wd ro) m P ops (opsPost ds n (o :: rest) e K) rest (a.put o.dst undef) w:=by
    intro kn' hk hop
    refine lift1 undef _ _ (ih (i+1) _ _ w _ hl' (hk.cons ?_) (hf.put o.dst undef) hop)
    unfold yv
    rw [hoi]
    cases hd:o.dst with
    | none=>rfl
    | some d=>
     have:=(hf.put o.dst undef).get d
     rw [hd] at this
     show bv (updO n e (some d) undef d)=none
     rw [←this]
     by_cases hlt:d < a.tmps.size
     ·simp [Act.put,hlt];rfl
     ·simp [Act.put,hlt];rfl
   have hy:=fun j=>yielded_of (n:=n) hf (ops:=ops) (j:=j)
   unfold wpListIn
   cases hg:o.guard with
   | none=>
    simp only [hg] at h
    rw [if_pos (by simp [Region.wanted,hg])]
    exact (run1 kn (fun v=>hkn.put hcl v) h)
   | some g=>
    obtain ⟨j,want⟩:=g
    simp only [hg] at h
    have hw:Region.wanted o (yielded ops a.tmps)=(yv ops.toList e j == some want):=by simp only [Region.wanted,hg,hy]
    rw [hw]
    cases hlk:lookK kn j with
    | some b=>
     rw [hkn j b hlk]
     simp only [hlk] at h
     cases b with
     | none=>
      simp only at h
      rw [if_neg (by simp)]
      exact ⟨fun _ _=>trivial,skip1 kn (hkn.put hcl _) h⟩
     | some b=>
      simp only [sameB_eq] at h
      cases hbw:(b == want) with
      | true=>
       simp only [hbw,cond_true] at h
       rw [if_pos (by simpa using hbw)]
       exact (run1 kn (fun v=>hkn.put hcl v) h)
      | false=>
       simp only [hbw,cond_false] at h
       rw [if_neg (by simpa using hbw)]
       exact ⟨fun _ _=>trivial,skip1 kn (hkn.put hcl _) h⟩
    | none=>
     simp only [hlk] at h
     cases hd:dstAt ops.toList j with
     | none=>simp only [hd] at h
     | some d=>
      simp only [hd] at h
      cases hcl2:clash o.dst ((j,none) :: kn) ops.toList with
      | true=>simp only [hcl2,cond_true] at h
      | false=>
       simp only [hcl2,cond_false] at h
       have hyv:yv ops.toList e j=bv (e d):=by simp [yv,hd]
       have hk2:∀ b,bv (e d)=b→∀ v,KnOk ops.toList ((j,b) :: kn) (updO n e o.dst v):=fun b hb v=>
        (hkn.cons (hyv.trans hb)).put (d:=o.dst) (by
         simp only [clash] at hcl2 ⊢
         cases hdd:o.dst with
         | none=>rfl
         | some t=>rw [hdd] at hcl2;simpa [List.any_cons] using hcl2) v
       rw [hyv]
       rcases condK_bool h with ⟨hv,hb⟩ | ⟨hv,hb⟩
       ·rw [upd_self hv] at hb
        rw [hv]
        cases want with
        | true=>
         simp only [cond_true] at hb
         rw [if_pos (by rfl)]
         exact (run1 _ (hk2 _ (by rw [hv];rfl)) hb)
        | false=>
         simp only [cond_false] at hb
         rw [if_neg (by simp [bv])]
         exact ⟨fun _ _=>trivial,skip1 _ (hk2 _ (by rw [hv];rfl) _) hb⟩
       ·rw [upd_self hv] at hb
        rw [hv]
        cases want with
        | true=>
         simp only [cond_true] at hb
         rw [if_neg (by simp [bv])]
         exact ⟨fun _ _=>trivial,skip1 _ (hk2 _ (by rw [hv];rfl) _) hb⟩
        | false=>
         simp only [cond_false] at hb
         rw [if_pos (by rfl)]
         exact (run1 _ (hk2 _ (by rw [hv];rfl)) hb)

theorem qupon {C:World→Prop} {w:World} {v:Value} {r:Result Next} (_:C w) (h:NextOk w r (fun v' w''=>v'=v∧C w''∧(w''=w∨∃ f args w3,r=.ok (.enter f args) w3)) P):Oper.quietUpon P C w v r:=by
 match r,h with
 | .ok (.value v') w'',h=>
  obtain ⟨h1,_,h2 | ⟨f,a,w3,h2⟩⟩:=h
  ·exact ⟨h2,h1⟩
  ·cases h2
 | .ok .skip w'',h=>
  obtain ⟨h1,_,h2 | ⟨f,a,w3,h2⟩⟩:=h
  ·exact ⟨h2,h1.symm⟩
  ·cases h2
 | .ok (.enter f args) w'',h=>exact ⟨h.1,Calls.mono h.2 fun e w3 ⟨v',h1,h2,h3,_⟩=>⟨by rw [h1,h2],h3⟩⟩
theorem nextOk_mono {w:World} {r:Result Next} {K K':Cont} (h:NextOk w r K P) (hk:∀ v w',K v w'→K' v w'):NextOk w r K' P:=by
 match r,h with
 | .ok (.value v') w'',h=>exact hk _ _ h
 | .ok .skip w'',h=>exact hk _ _ h
 | .ok (.enter f args) w'',h=>exact ⟨h.1,Calls.mono h.2 fun e w3 ⟨v',h1,h2⟩=>⟨v',h1,hk _ _ h2⟩⟩
theorem opQ_quiet {ds:List Deferred} (hok:GoodFns P ok) {C:World→Prop} {w:World} {o:Oper} {a:Act} {e:Env} {K:Value→Prop} {next:Act→Prop} (hf:Fr ds n e a)
  (h:opQ P ok C o (ev e) K w) (hn:∀ v,K v→next (a.put o.dst v)):o.quiet P a C next:=by
 have hev:=hf.eval
 have conv:∀ v,(∀ w',C w'→opD P ok o (ev e) (fun v' w''=>v'=v∧w''=w') w')→K v→o.quiet P a C next:=by
  intro v hv hk
  refine ⟨v,fun w' hw'=>?_,hn v hk⟩
  have:=opD_nx hok (fun _=>rfl) (fun _=>rfl) (hv w' hw')
  unfold Oper.quietAt
  rw [hev]
  exact qupon hw' (nextOk_mono this fun v' w'' ⟨h1,h2⟩=>⟨h1,h2 ▸ hw',.inl h2⟩)
 have pure_:pureOp P o=true→opD P ok o (ev e) (fun v _=>K v) w→o.quiet P a C next:=by
  intro hp hd
  obtain ⟨v,h1,h2⟩:=pure_det hp hd
  exact conv v (fun w' _=>h2 _ w' ⟨rfl,rfl⟩) h1
 have dflt:(bif pureOp P o then opD P ok o (ev e) (fun v _=>K v) w else False)→o.quiet P a C next:=by
  intro hd
  cases hp:pureOp P o with
  | true=>rw [hp] at hd;exact pure_ hp hd
  | false=>rw [hp] at hd;exact hd.elim
 obtain ⟨dst,op,type,pos,after,guard⟩:=o
 cases op with
 | load t x=>
  simp only [opQ] at h
  split at h
  ·rename_i k ha
   obtain ⟨p,v,h1,h2,h3⟩:=h
   refine conv v (fun w' hw'=>?_) h3
   simp only [opD,ha]
   exact ⟨p,v,h1,h2 w' hw',rfl,rfl⟩
  ·rename_i k ha
   obtain ⟨p,vs,h1,hl,h2,h3⟩:=h
   refine conv _ (fun w' hw'=>?_) h3
   simp only [opD,ha]
   exact ⟨p,vs,h1,hl,h2 w' hw',rfl,rfl⟩
  ·exact h.elim
 | binOp op t x y yt=>
  simp only [opQ] at h
  cases hp:pureBin P op t y with
  | true=>
   rw [hp] at h;simp only [cond_true] at h
   obtain ⟨v,h1,h2⟩:=pureBin_det hp h
   exact conv v (fun w' _=>h2 _ _ ⟨rfl,rfl⟩) h1
  | false=>
   rw [hp] at h;simp only [cond_false] at h
   obtain ⟨v,h1,h2⟩:=h
   refine ⟨v,fun w' hw'=>?_,hn v h2⟩
   unfold Oper.quietAt
   rw [hev]
   have:(execOp (ev e) ⟨dst,.binOp op t x y yt,type,pos,after,guard⟩).run P w'=.ok (.value v) w':=by
    have h3:=h1 w' hw'
    simp only [binS] at h3
    simp only [execOp]
    rw [Sem.run_bind,h3];rfl
   rw [this];exact ⟨rfl,rfl⟩
 | call c=>
  obtain ⟨callee,args,ats⟩:=c
  simp only [opQ] at h
  cases callee with
  | value f=>
   cases f with
   | func g=>
    simp only at h
    have h3:(execOp (ev e) ⟨dst,.call ⟨.value (.func g),args,ats⟩,type,pos,after,guard⟩)=callFunc g (args.toList.map (ev e)).toArray:=by
     simp only [execOp,resolve,Deferred.ofValue,ev,pure_bind,invoke,args_map]
     simp
    cases hg:ok g with
    | false=>
     rw [hg] at h;simp only [cond_false] at h
     obtain ⟨v,h1,h2⟩:=h
     refine ⟨v,fun w' hw'=>?_,hn v h2⟩
     unfold Oper.quietAt
     rw [hev,h3,h1 w' hw']
     exact ⟨rfl,rfl⟩
    | true=>
     rw [hg] at h;simp only [cond_true] at h
     obtain ⟨v,h1,h2⟩:=h
     refine ⟨v,fun w' hw'=>?_,hn v h2⟩
     unfold Oper.quietAt
     rw [hev]
     rw [h3,hok g hg]
     exact ⟨rfl,Calls.mono (h1 w' hw') fun en w3 ⟨v',q1,q2,q3⟩=>⟨by rw [q1,q2],q3⟩⟩
   | _=>exact dflt h
  | _=>exact dflt h
 | convert s d x=>
  obtain ⟨v,h1,h2⟩:=h
  exact conv v (fun w' hw'=>⟨v,w',h1 w' hw',rfl,rfl⟩) h2
 | slice t x lo hi mx=>
  obtain ⟨v,h1,h2⟩:=h
  exact conv v (fun w' hw'=>⟨v,w',h1 w' hw',rfl,rfl⟩) h2
 | _=>exact dflt h

theorem wpQuiet_mono {C:World→Prop} {ops:Array Oper} {Q Q':Act→Prop} (hq:∀ a,Q a→Q' a):∀ (l:List Oper) (a:Act),wpQuiet P ops C Q l a→wpQuiet P ops C Q' l a:=by
 intro l
 induction l with
 | nil=>intro a h;exact hq _ h
 | cons o r ih=>
  intro a h
  unfold wpQuiet at h ⊢
  split
  ·rename_i hw;rw [if_pos hw] at h;exact Oper.quiet_mono ih h
  ·rename_i hw;rw [if_neg hw] at h;exact ih _ h

def opsPostQ (ds:List Deferred) (n:Nat) (l:List Oper) (e:Env) (K:Env→Prop):Act→Prop:=fun a'=>∃ e',Fr ds n e' a'∧(∀ j,(∀ o ∈ l,o.dst≠some j)→e' j=e j)∧K e'

theorem opsQ_sound {ds:List Deferred} (hok:GoodFns P ok) {C:World→Prop} {ops:Array Oper} {K:Env→Prop} {w:World}:∀ (l:List Oper) (i:Nat) (kn:List (Nat × Option Bool)) (e:Env) (a:Act),
  ops.toList.drop i=l→KnOk ops.toList kn e→Fr ds n e a→opsQ P ok n C ops.toList K w l i kn e→
  wpQuiet P ops C (opsPostQ ds n l e K) l a:=by
 intro l
 induction l with
 | nil=>
  intro i kn e a _ _ hf h
  exact ⟨e,hf,fun _ _=>rfl,h⟩
 | cons o rest ih=>
  intro i kn e a hl hkn hf h
  have hoi:dstAt ops.toList i=o.dst:=by
   have:ops.toList[i]?=some o:=by
    have:=congrArg (fun l=>l[0]?) hl
    simpa using this
   rw [dstAt_get,this];rfl
  have hl':ops.toList.drop (i+1)=rest:=by
   have:=congrArg List.tail hl
   simpa using this
  have lift1:∀ (v:Value) (a':Act),wpQuiet P ops C (opsPostQ ds n rest (updO n e o.dst v) K) rest a'→wpQuiet P ops C (opsPostQ ds n (o :: rest) e K) rest a':=
   fun v a' hh=>wpQuiet_mono (fun a ⟨e',h1,h2,h3⟩=>⟨e',h1,fun j hj=>by
    rw [h2 j (fun o' ho'=>hj o' (by simp [ho']))]
    exact updO_other (hj o (by simp)),h3⟩) rest a' hh
  simp only [opsQ] at h
  cases hcl:clash o.dst kn ops.toList with
  | true=>simp only [hcl,cond_true] at h
  | false=>
   simp only [hcl,cond_false] at h
   have run1:∀ kn',(∀ v,KnOk ops.toList kn' (updO n e o.dst v))→opQ P ok C o (ev e) (fun v=>opsQ P ok n C ops.toList K w rest (i+1) kn' (updO n e o.dst v)) w→
     o.quiet P a C (wpQuiet P ops C (opsPostQ ds n (o :: rest) e K) rest):=by
    intro kn' hk hop
    exact opQ_quiet hok hf hop fun v hv=>lift1 v _ (ih (i+1) kn' _ _ hl' (hk v) (hf.put o.dst v) hv)
   have skip1:∀ kn',KnOk ops.toList kn' (updO n e o.dst undef)→opsQ P ok n C ops.toList K w rest (i+1) ((i,none) :: kn') (updO n e o.dst undef)→
     wpQuiet P ops C (opsPostQ ds n (o :: rest) e K) rest (a.put o.dst undef):=by
    intro kn' hk hop
    refine lift1 undef _ (ih (i+1) _ _ _ hl' (hk.cons ?_) (hf.put o.dst undef) hop)
    unfold yv
    rw [hoi]
    cases hd:o.dst with
    | none=>rfl
    | some d=>
     have:=(hf.put o.dst undef).get d
     rw [hd] at this
     show bv (updO n e (some d) undef d)=none
     rw [←this]
     by_cases hlt:d < a.tmps.size
     ·simp [Act.put,hlt];rfl
     ·simp [Act.put,hlt];rfl
   have hy:=fun j=>yielded_of (n:=n) hf (ops:=ops) (j:=j)
   unfold wpQuiet
   cases hg:o.guard with
   | none=>
    simp only [hg] at h
    rw [if_pos (by simp [Region.wanted,hg])]
    exact run1 kn (fun v=>hkn.put hcl v) h
   | some g=>
    obtain ⟨j,want⟩:=g
    simp only [hg] at h
    have hw:Region.wanted o (yielded ops a.tmps)=(yv ops.toList e j == some want):=by simp only [Region.wanted,hg,hy]
    rw [hw]
    cases hlk:lookK kn j with
    | some b=>
     rw [hkn j b hlk]
     simp only [hlk] at h
     cases b with
     | none=>
      simp only at h
      rw [if_neg (by simp)]
      exact skip1 kn (hkn.put hcl _) h
     | some b=>
      simp only [sameB_eq] at h
      cases hbw:(b == want) with
      | true=>
       simp only [hbw,cond_true] at h
       rw [if_pos (by simpa using hbw)]
       exact run1 kn (fun v=>hkn.put hcl v) h
      | false=>
       simp only [hbw,cond_false] at h
       rw [if_neg (by simpa using hbw)]
       exact skip1 kn (hkn.put hcl _) h
    | none=>
     simp only [hlk] at h
     cases hd:dstAt ops.toList j with
     | none=>simp only [hd] at h
     | some d=>
      simp only [hd] at h
      cases hcl2:clash o.dst ((j,none) :: kn) ops.toList with
      | true=>simp only [hcl2,cond_true] at h
      | false=>
       simp only [hcl2,cond_false] at h
       have hyv:yv ops.toList e j=bv (e d):=by simp [yv,hd]
       have hk2:∀ b,bv (e d)=b→∀ v,KnOk ops.toList ((j,b) :: kn) (updO n e o.dst v):=fun b hb v=>
        (hkn.cons (hyv.trans hb)).put (d:=o.dst) (by
         simp only [clash] at hcl2 ⊢
         cases hdd:o.dst with
         | none=>rfl
         | some t=>rw [hdd] at hcl2;simpa [List.any_cons] using hcl2) v
       rw [hyv]
       rcases condK_bool h with ⟨hv,hb⟩ | ⟨hv,hb⟩
       ·rw [upd_self hv] at hb
        rw [hv]
        cases want with
        | true=>
         simp only [cond_true] at hb
         rw [if_pos (by rfl)]
         exact run1 _ (hk2 _ (by rw [hv];rfl)) hb
        | false=>
         simp only [cond_false] at hb
         rw [if_neg (by simp [bv])]
         exact skip1 _ (hk2 _ (by rw [hv];rfl) _) hb
       ·rw [upd_self hv] at hb
        rw [hv]
        cases want with
        | true=>
         simp only [cond_true] at hb
         rw [if_neg (by simp [bv])]
         exact skip1 _ (hk2 _ (by rw [hv];rfl) _) hb
        | false=>
         simp only [cond_false] at hb
         rw [if_pos (by rfl)]
         exact run1 _ (hk2 _ (by rw [hv];rfl)) hb

theorem wpOps_in {ro:Option Nat} {m:Nat} {ops:Array Oper} {Q:Exit→Act→World→Prop} (hQ:¬ LetsOut Q) (hD:ro=none∨ops.toList.all ndef=true):∀ (l:List Nat) (a:Act) (w:World),wpOps P ops Q l a w→wpOpsIn (Wd ro) m P ops Q l a w:=by
 intro l
 induction l with
 | nil=>intro a w h;exact h
 | cons i rest ih=>
  intro a w h
  simp only [wpOps] at h
  simp only [wpOpsIn]
  cases ho:ops[i]? with
  | none=>simp only [ho] at h ⊢;exact ih _ _ h
  | some o=>
   simp only [ho] at h ⊢
   split
   ·rename_i hw
    rw [if_pos hw] at h
    replace h:=h.resolve_right fun h=>hQ h.2
    refine ⟨fun _ _=>trivial,?_⟩
    have hs:o.semAt ro a.eval=execOp a.eval o:=by
     rcases hD with rfl | hD
     ·rfl
     ·refine Oper.semAt_eq _ _ _ fun c hc=>?_
      have:=List.all_eq_true.1 hD o (by rw [Array.mem_toList_iff];exact Array.mem_of_getElem? ho)
      simp [ndef,hc] at this
    rw [show (Wd ro).round=ro from rfl,hs]
    unfold Oper.wp at h
    generalize (execOp a.eval o).run P w=r at h ⊢
    match r,h with
    | .ok (.value v) w',h=>exact ih _ _ h
    | .ok .skip w',h=>exact ih _ _ h
    | .ok (.defer d) w',h=>exact ih _ _ h
    | .ok (.enter f args) w',h=>
     refine ⟨(fun h=>by cases h),(callsIn_wide.2 (Calls.mono h fun e w'' hh=>?_):CallsIn Fence.wide _ _ _ _ _ _)⟩
     cases e with
     | returned v=>exact ih _ _ hh
     | panicked ch=>exact hh
     | outgrown=>exact hh
    | .ok (.row row args) w',h=>
     refine ⟨(fun h=>by cases h),?_⟩
     intro c cs _
     obtain ⟨v,w'',h1,h2⟩:=h c cs
     exact ⟨v,w'',ih _ _ h1,(StepsIn.of_steps h2).mono fun m _=>fenced_wide P m⟩
    | .halt (.panic v) w',h=>exact h
   ·rename_i hw
    rw [if_neg hw] at h
    exact ⟨fun _ _=>trivial,ih _ _ h⟩
theorem wpIn_any {ro:Option Nat} {m:Nat} {id:Nat} {ops:Array Oper} {Q:Exit→Act→World→Prop} {a:Act} {w:World} (hm:P.follows .mixedOrders=true) (hQ:¬ LetsOut Q) (hD:ro=none∨ops.toList.all ndef=true)
  (h:wpAny P .any ops Q ops.size (Array.replicate ops.size false) a { w with drawn:=w.drawn+1 }):(Code.region id ops true).wpIn (Wd ro) m P Q a w:=
 wpIn_region_draw fun t=>wpOps_in hQ hD _ _ _ (by
  simp only [Region.schedule,hm,Bool.true_or,if_true]
  exact wpAny_sound ops.size t _ a _ h)
theorem drawPost_in {ds:List Deferred} {all:List Oper} {e0:Env} {K:Env→World→Prop}:¬ LetsOut (drawPost ds all n e0 K):=by
 rintro ⟨a,w,h,_⟩
 cases h
theorem map_tmps {ds:List Deferred} {L:List Nat} {e:Env} {a:Act} (hf:Fr ds n e a):L.map (fun t=>a.tmps.getD t undef)=L.map e:=List.map_congr_left fun t _=>hf.get t

theorem D_sound {ds:List Deferred} {ro:Option Nat} {m:Nat} (hok:GoodFns P ok) (hm:P.follows .mixedOrders=true):∀ (c:Code) (an:Ann) (Q:EQ) (e:Env) (w:World) (a:Act),ro=none∨rdB c=true→Fr ds n e a→D P ok n c an Q e w→c.wpIn (Wd ro) m P (lift n ds c e Q) a w:=by
 intro c
 induction c with
 | skip=>intro an Q e w a hrd hf h;exact wpIn_skip ⟨e,hf,fun _ _=>rfl,h⟩
 | exit id=>intro an Q e w a hrd hf h;exact wpIn_exit ⟨e,hf,fun _ _=>rfl,h⟩
 | ret=>intro an Q e w a hrd hf h;exact wpIn_ret ⟨e,hf,fun _ _=>rfl,h⟩
 | label l=>intro an Q e w a hrd hf h;exact wpIn_label ⟨e,hf,fun _ _=>rfl,h⟩
 | goto l=>intro an Q e w a hrd hf h;exact h.elim
 | refuse y=>intro an Q e w a hrd hf h;exact h.elim
 | scope x ih=>
  intro an Q e w a hrd hf h
  obtain rfl:ro=none:=hrd.resolve_right (by simp [rdB])
  refine (wpIn_wide (n:=m)).2 (wp_scope_straight (wp_mono ((wpIn_wide (n:=m)).1 (ih an (gEx Q) e w a (.inl rfl) hf h)) ?_))
  rintro ex a' w' ⟨e',h1,h2,h3⟩
  cases ex with
  | goto l=>exact h3.elim
  | normal=>exact ⟨e',h1,fun j hj=>h2 j hj,h3⟩
  | exit i=>exact ⟨e',h1,fun j hj=>h2 j hj,h3⟩
  | ret=>exact ⟨e',h1,fun j hj=>h2 j hj,h3⟩
  | panic c=>exact ⟨e',h1,fun j hj=>h2 j hj,h3⟩
  | outgrown=>exact ⟨e',h1,fun j hj=>h2 j hj,h3⟩
 | rangeFunc f ps x y ih1 ih2=>intro an Q e w a hrd hf h;exact h.elim
 | region id ops draw=>
  intro an Q e w a hrd hf h
  simp only [D] at h
  cases draw with
  | false=>
   refine wpIn_region_list (wpListIn_mono ?_ _ _ _ (opsD_sound hok ops.toList 0 [] e w a rfl (fun j b hb=>by simp [lookK] at hb) hf h))
   rintro ex a' w' ⟨rfl,e',h1,h2,h3⟩
   exact ⟨e',h1,fun j hj=>h2 j (fun o ho hd=>hj ⟨o,ho,hd⟩),h3⟩
  | true=>
   simp only at h
   have hD:ro=none∨ops.toList.all ndef=true:=hrd.imp (fun h=>h) fun h=>by simpa [rdB] using h
   cases an with
   | draw=>
    simp only at h
    cases hB:Region.lexB .any ops with
    | false=>rw [hB] at h;exact h.elim
    | true=>
     rw [hB] at h;simp only [cond_true] at h
     obtain ⟨C,hC,h⟩:=h
     simp only [Region.lexB,Bool.and_eq_true] at hB
     have:=opsQ_sound hok ops.toList 0 [] e a rfl (fun j b hb=>by simp [lookK] at hb) hf h
     refine wpIn_mono (Q:=fun ex a' w'=>ex=.normal∧lift n ds (.region id ops true) e Q .normal a' w') (wpIn_any hm (fun ⟨_,_,h,_⟩=>by cases h) hD ?_) (by rintro ex a' w' ⟨rfl,h⟩;exact h)
     refine wpAny_of_quiet (Q:=fun a'=>∀ w',C w'→lift n ds (.region id ops true) e Q .normal a' w') (fun _ w' hw' h=>⟨rfl,h w' hw'⟩) _ _ _ _ hC ?_
     have h9:=wpAnyQ_lex (C:=C) (md:=.any) hB.1 ops.toList 0 (Array.replicate ops.size false) a (by simp) (by simpa using hB.2) (wpQuiet_mono (Q':=fun a'=>∀ w',C w'→lift n ds (.region id ops true) e Q .normal a' w') (by
      rintro a' ⟨e',h1,h2,h3⟩ w' hw'
      exact ⟨e',h1,fun j hj=>h2 j (fun o ho hd=>hj ⟨o,ho,hd⟩),h3 w' hw'⟩) _ _ this)
     simpa using h9
   | dt eff AN Gs t=>
    simp only at h
    cases hB:(gokB n ops.toList eff AN Gs && treeB ops.toList.length eff AN t) with
    | false=>rw [hB] at h;exact h.elim
    | true=>
     rw [hB] at h;simp only [cond_true] at h
     simp only [Bool.and_eq_true] at hB
     refine wpIn_mono (wpIn_any hm drawPost_in hD (wp_region_T (K:=fun e w=>Q .normal e w) hok hm hf hB.1 hB.2 h)) ?_
     rintro ex a' w' ⟨rfl,e',h1,h2,h3⟩
     exact ⟨e',h1,fun j hj=>h2 j (fun o ho hd=>hj ⟨o,ho,hd⟩),h3⟩
   | _=>exact h.elim
 | cond c x y ihx ihy=>
  intro an Q e w a hrd hf h
  cases an with
  | nil=>exact h.elim
  | cut=>exact h.elim
  | draw=>exact h.elim
  | dt=>exact h.elim
  | node L W an1 an2=>
   have hev:a.eval c=ev e c:=by rw [hf.eval]
   rcases condK_bool h with ⟨hv,hb⟩ | ⟨hv,hb⟩
   ·refine wpIn_cond_true (hev.trans hv) (wpIn_mono (ihx an1 Q e w a (hrd.imp id fun h=>by simp only [rdB,Bool.and_eq_true] at h;exact h.1) hf hb) ?_)
    rintro ex a' w' ⟨e',h1,h2,h3⟩
    exact ⟨e',h1,fun j hj=>h2 j (fun hw=>hj (.inl hw)),h3⟩
   ·refine wpIn_cond_false (hev.trans hv) (wpIn_mono (ihy an2 Q e w a (hrd.imp id fun h=>by simp only [rdB,Bool.and_eq_true] at h;exact h.2) hf hb) ?_)
    rintro ex a' w' ⟨e',h1,h2,h3⟩
    exact ⟨e',h1,fun j hj=>h2 j (fun hw=>hj (.inr hw)),h3⟩
 | block id x ih=>
  intro an Q e w a hrd hf h
  refine wpIn_block (wpIn_mono (ih an (bEx id Q) e w a hrd hf h) ?_)
  rintro ex a' w' ⟨e',h1,h2,h3⟩
  cases ex with
  | exit i=>
   simp only [bEx] at h3
   simp only [Exit.inBlock]
   cases hb:Nat.beq i id with
   | true=>rw [hb] at h3;rw [if_pos (Nat.eq_of_beq_eq_true hb)];exact ⟨e',h1,h2,h3⟩
   | false=>
    rw [hb] at h3
    rw [if_neg (by intro e1;subst e1;simp at hb)]
    exact ⟨e',h1,h2,h3⟩
  | _=>exact ⟨e',h1,h2,h3⟩
 | seq x y ihx ihy=>
  intro an Q e w a hrd hf h
  have comb:∀ {e1 e2:Env},(∀ j,¬ Wr x j→e1 j=e j)→(∀ j,¬ Wr y j→e2 j=e1 j)→∀ j,¬ Wr (.seq x y) j→e2 j=e j:=fun h1 h2 j hj=>
   (h2 j fun hw=>hj (.inr hw)).trans (h1 j fun hw=>hj (.inl hw))
  have other:∀ {e1:Env},(∀ j,¬ Wr x j→e1 j=e j)→∀ j,¬ Wr (.seq x y) j→e1 j=e j:=fun h1 j hj=>h1 j fun hw=>hj (.inl hw)
  cases an with
  | nil=>exact h.elim
  | draw=>exact h.elim
  | dt=>exact h.elim
  | node L W an1 an2=>
   refine wpIn_seq (wpIn_mono (ihx an1 _ e w a (hrd.imp id fun h=>by simp only [rdB,Bool.and_eq_true] at h;exact h.1) hf h) ?_)
   rintro ex a' w' ⟨e',h1,h2,h3⟩
   cases ex with
   | normal=>
    refine wpIn_mono (ihy an2 Q e' w' a' (hrd.imp id fun h=>by simp only [rdB,Bool.and_eq_true] at h;exact h.2) h1 h3) ?_
    rintro ex a'' w'' ⟨e'',h4,h5,h6⟩
    exact ⟨e'',h4,comb h2 h5,h6⟩
   | _=>exact ⟨e',h1,other h2,h3⟩
  | cut L W an1 an2=>
   simp only [D] at h
   cases hw:wrIn W x with
   | false=>simp only [hw,cond_false] at h
   | true=>
    simp only [hw,cond_true] at h
    obtain ⟨I,hI,hG⟩:=h
    refine wpIn_seq (wpIn_mono (ihx an1 _ e w a (hrd.imp id fun h=>by simp only [rdB,Bool.and_eq_true] at h;exact h.1) hf hG) ?_)
    rintro ex a' w' ⟨e',h1,h2,h3⟩
    cases ex with
    | normal=>
     have h4:=hI _ _ h3 e'
     rw [mix_self (fun j hj=>h2 j fun hw'=>by rw [wrIn_spec hw j hw'] at hj;cases hj)] at h4
     refine wpIn_mono (ihy an2 Q e' w' a' (hrd.imp id fun h=>by simp only [rdB,Bool.and_eq_true] at h;exact h.2) h1 h4) ?_
     rintro ex a'' w'' ⟨e'',h5,h6,h7⟩
     exact ⟨e'',h5,comb h2 h6,h7⟩
    | _=>exact ⟨e',h1,other h2,h3⟩
 | loop x ih=>
  intro an Q e w a hrd hf h
  cases an with
  | nil=>exact h.elim
  | cut=>exact h.elim
  | draw=>exact h.elim
  | dt=>exact h.elim
  | node L W an1 an2=>
   simp only [D] at h
   cases hw:wrIn W x with
   | false=>simp only [hw,cond_false] at h
   | true=>
    simp only [hw,cond_true] at h
    obtain ⟨I,μ,h0,hR⟩:=h
    refine wpIn_loop (fun a' w'=>∃ e',Fr ds n e' a'∧(∀ j,¬ Wr x j→e' j=e j)∧I (L.map e') w') (fun a' w'=>μ (L.map fun t=>a'.tmps.getD t undef) w') ⟨e,hf,fun _ _=>rfl,h0⟩ ?_
    rintro a1 w1 ⟨e1,hf1,hk1,hI1⟩
    have h4:=hR _ _ hI1 e1
    rw [mix_self (fun j hj=>hk1 j fun hw'=>by rw [wrIn_spec hw j hw'] at hj;cases hj)] at h4
    refine wpIn_mono (ih an1 _ e1 w1 a1 hrd hf1 h4) ?_
    rintro ex a2 w2 ⟨e2,h5,h6,h7⟩
    have h8:∀ j,¬ Wr x j→e2 j=e j:=fun j hj=>(h6 j hj).trans (hk1 j hj)
    cases ex with
    | normal=>
     refine ⟨⟨e2,h5,h8,h7.1⟩,?_⟩
     rw [map_tmps h5,map_tmps hf1]
     exact h7.2
    | _=>exact ⟨e2,h5,h8,h7⟩


def resD (P:Program):List ResultVar→Env→World→(List Value→Prop)→Prop
 | [],_,_,K=>K []
 | .tmp t :: r,e,w,K=>resD P r e w fun vs=>K (e t :: vs)
 | .cell a t :: r,e,w,K=>match aggOf P t with
  | some (false,_)=>ld1K (e a) (fun v w'=>resD P r e w' fun vs=>K (v :: vs)) w
  | some (true,k)=>ldnK k (e a) (fun v w'=>resD P r e w' fun vs=>K (v :: vs)) w
  | none=>False
def tupK:List Value→Value
 | [v]=>v
 | vs=>.tuple vs.toArray
def retK (P:Program) (rs:List ResultVar) (K:Cont):EQ:=fun ex e w=>match ex with
 | .normal=>resD P rs e w fun vs=>K (tupK vs) w
 | .ret=>resD P rs e w fun vs=>K (tupK vs) w
 | _=>False
def bodyOf (f:Func):Code:=match f.body with | some c=>c | none=>.skip

theorem resD_run {ds:List Deferred} {e:Env} {a:Act} {w:World} (hf:Fr ds n e a) (f:ResultVar→Sem Value) (hft:∀ t,f (.tmp t)=pure (a.tmps.getD t undef)) (hfc:∀ x t,f (.cell x t)=(do loadVar t (← asAddr (a.tmps.getD x undef)))):∀ (rs:List ResultVar) (K:List Value→Prop),resD P rs e w K→
  ∃ vs,(rs.mapM f:Sem (List Value)).run P w=.ok vs w∧K vs:=by
 intro rs
 induction rs with
 | nil=>intro K h;exact ⟨[],by simp,h⟩
 | cons r rs ih=>
  intro K h
  cases r with
  | tmp t=>
   obtain ⟨vs,h1,h2⟩:=ih _ h
   refine ⟨_,?_,h2⟩
   rw [List.mapM_cons]
   rw [Sem.run_bind,hft]
   simp only [Sem.run_pure,Result.andThen_ok]
   rw [Sem.run_bind,h1]
   simp only [Result.andThen_ok,Sem.run_pure,hf.get]
  | cell x t=>
   simp only [resD] at h
   have key:∀ v,(loadVar t ·:Addr→Sem Value)=(loadVar t ·)→resD P rs e w (fun vs=>K (v :: vs))→(do loadVar t (← asAddr (a.tmps.getD x undef)):Sem Value).run P w=.ok v w→
     ∃ vs,((ResultVar.cell x t :: rs).mapM f:Sem (List Value)).run P w=.ok vs w∧K vs:=by
    intro v _ h3 h4
    obtain ⟨vs,h1,h2⟩:=ih _ h3
    refine ⟨_,?_,h2⟩
    rw [List.mapM_cons]
    rw [Sem.run_bind,hfc,h4]
    simp only [Result.andThen_ok]
    rw [Sem.run_bind,h1]
    simp only [Result.andThen_ok,Sem.run_pure]
   split at h
   ·rename_i k ha
    obtain ⟨p,v,h1,h2,h3⟩:=h
    refine key v rfl h3 ?_
    have h1':a.tmps.getD x undef=.pointer (some p):=(hf.get x).trans h1
    rw [Sem.run_bind,h1']
    simp only [asAddr,Sem.run_pure,Result.andThen_ok]
    simp [loadVar,(run_isAgg ha w).1,h2]
   ·rename_i k ha
    obtain ⟨p,vs,h1,hl,h2,h3⟩:=h
    refine key _ rfl h3 ?_
    have h1':a.tmps.getD x undef=.pointer (some p):=(hf.get x).trans h1
    rw [Sem.run_bind,h1']
    simp only [asAddr,Sem.run_pure,Result.andThen_ok]
    have hcells:=run_loadCells_list (P:=P) (w:=w) p vs h2
    simp only [loadVar,Sem.run_bind,(run_isAgg ha w).1,(run_isAgg ha w).2,Result.andThen_ok,if_true]
    rw [←hl,hcells]
    rfl
   ·exact h.elim
theorem results_run {ds:List Deferred} {fn:Func} {e:Env} {a:Act} {w:World} {K:Cont} (hf:Fr ds n e a) (h:resD P fn.results.toList e w fun vs=>K (tupK vs) w) :
  ∃ v,(results fn a.tmps).run P w=.ok v w∧K v w:=by
 obtain ⟨vs,h1,h2⟩:=resD_run hf (fun x=>match x with | .tmp t=>pure (a.tmps.getD t undef) | .cell y t=>do loadVar t (← asAddr (a.tmps.getD y undef))) (fun _=>rfl) (fun _ _=>rfl) _ _ h
 refine ⟨_,?_,h2⟩
 unfold results
 rw [Sem.run_bind,Array.mapM_eq_mapM_toList,Sem.run_map]
 erw [h1]
 simp only [Result.andThen_ok,Sem.run_pure]
 congr 1
 match vs with
 | []=>rfl
 | [v]=>rfl
 | v :: u :: r=>simp [tupK]

theorem fr_args {args:List Value} {m:Nat} (hl':args.length≤m):Fr [] m (nth args) { tmps:=args.toArray++Array.replicate (m - args.toArray.size) undef,defers:=[] }:=by
 have hnth:∀ (l:List Value) (t:Nat),nth l t=l.getD t undef:=by
  intro l;induction l with
  | nil=>
   intro t
   induction t with
   | zero=>rfl
   | succ t ih=>simpa [nth] using ih
  | cons v l ih=>intro t;cases t with
   | zero=>simp [nth]
   | succ t=>simp [nth,ih]
 refine ⟨by simp;omega,fun t=>?_,rfl⟩
 rw [hnth]
 simp only [Array.getD_eq_getD_getElem?,Array.getElem?_append,List.size_toArray,List.getElem?_toArray,List.getD_eq_getElem?_getD]
 split
 ·rfl
 ·rename_i hge
  rw [List.getElem?_eq_none (by omega)]
  cases hx:(Array.replicate (m - args.length) undef)[t - args.length]? with
  | none=>rfl
  | some v=>
   rw [Array.getElem?_replicate] at hx
   split at hx
   ·cases hx;rfl
   ·cases hx
theorem callK_of {g:Nat} {fn:Func} {c:Code} {rs:List ResultVar} {args:List Value} {K:Cont} {w:World} {an:Ann} (hok:GoodFns P ok) (hm:P.follows .mixedOrders=true) (hf:P.funcs[g]?=some fn)
  (hb:fn.body=some c) (hn:fn.ntmps=n) (hrs:fn.results.toList=rs) (hl:Nat.ble args.length n=true) (h:D P ok n c an (retK P rs K) (nth args) w):callK P g args K w:=by
 refine calls_of_wp hf hb ?_
 have hl':=Nat.le_of_ble_eq_true hl
 subst hn
 have hfr:=fr_args hl'
 refine wp_mono ((wpIn_wide (n:=0)).1 (D_sound (ds:=[]) (ro:=none) (m:=0) hok hm c an _ _ w _ (.inl rfl) hfr h)) ?_
 rintro ex a' w' ⟨e',h1,_,h3⟩
 subst hrs
 cases ex with
 | normal=>
  obtain ⟨v,h4,h5⟩:=results_run h1 h3
  exact ⟨h1.defers,v,h4,v,rfl,h5⟩
 | ret=>
  obtain ⟨v,h4,h5⟩:=results_run h1 h3
  exact ⟨h1.defers,v,h4,v,rfl,h5⟩
 | _=>exact h3.elim
attribute [irreducible] D
end Go.K

namespace Go.Proofs.YtaimlfomodfekaaGreatDoor
open Go Go.K
def okl:List Nat:=[2,3,4,5,6,7,8,9,10,11,12,13,14,15,16,17,18,19,20,21,22,23,24,25,26,27,28,29,30,31,32,33,34,35,36,37,38,39,40,41,42,43,44,45,46,47,48,49,50,51,52,53,54,55,56,57,58,59,60,61,62,63,64,65,66,67,68,69,70,71,72,73,74,75,76,77,78,79,80,81,82,83,84,85,86,87,88,89,90,91,92,93,94,95,96,97,98,99,100,101,102,103,104,105,106,107,108,109,110,111,112,113,114,115,116,117,118,119,120,121,122,123,124,125,126,127,128,129,130,131,132,133,134,135,136,137,138,139,140,141,142,143,144,145,146,147,148,149,150,151,152,153,154,155,156,157,158,159,160,161,162,163,164,165,166,167,168,169,170,171,172,173,174,175,176,177,178,179,180,181,182,183,184,185,186,187,188,189,190,191,192,193,194,195,196,197,198,199,200,201,202,203,204,205,206,207,208,209,210,211,212,213,214,215,216,217,218,219,220,221,222,223,224,225,226,227,228,229,230,231,232,233,234,235,236,237,238,239,240,241,242,243,244,245,246,247,248,249,250,251,252,253,254,255,256,257,258,259,260,261,262,263,264,265,266,267,268,269,270,271,272,273,274,275,276,277,278,279,280,281,282,283,284,285,286,287,288,289,290,291,292,293,294,295,296,297,298,299,300,301,302,303,304,305,306,307,308,309,310,311,312,313,314,315,316,317,318,319,320,321,322,323,324,325,326,327,328,329,330,331,332,333,334,335,336,337,338,339,340,341,342,343,344,345,346,347,348,349,350,351,352,353,354,355,356,357,358,359,360,361,362,363,364,365,366,367,368,369,370,371,372,373,374,375,376,377,378,379,380,381,382,383,384,385,386,387,388,390,391,392,393,394,396,397,398,399,400,401,402,403,404,405,406,407,408,409,410,411,412,413,414,415,416,417,418,419,420,421,422,423,424,425,426,427,428,429,430,431,432,433,434,435,436,437,438,439,440,441,442,443,444,445,446,447,448,449,450,451,453,454,455,456,457,458,459,460,461,462,463,464,465,466,467,468,469,470,471,472,473,474,475,476,477,478,479,480,481,482,483,484,486,487,488,489,490,491,492,493,494,495,496,535]
def okN:Nat→List Nat→Nat
 | a,[]=>a
 | a,i :: r=>okN (Nat.lor a (Nat.shiftLeft 1 i)) r
theorem okN_ok:∀ (l:List Nat) (a j:Nat),(okN a l).testBit j=true→a.testBit j=true∨j ∈ l
 | [],_,_,h=>.inl h
 | i :: r,a,j,h=>by
  rcases okN_ok r _ j h with h | h
  ·have e:(Nat.lor a (Nat.shiftLeft 1 i)).testBit j=(a.testBit j || (Nat.shiftLeft 1 i).testBit j):=Nat.testBit_or a _ j
   have e2:Nat.shiftLeft 1 i=2 ^ i:=Nat.one_shiftLeft i
   rw [e,e2,Nat.testBit_two_pow,Bool.or_eq_true,decide_eq_true_eq] at h
   rcases h with h | h
   ·exact .inl h
   ·exact .inr (by rw [h];exact List.mem_cons_self)
  ·exact .inr (List.mem_cons_of_mem _ h)
def okf (g:Nat):Bool:=Nat.beq (Nat.land (Nat.shiftRight 112472844863988983500296858684730202243024193724899397419544395936239344148970826400930089781100157193676408703580709964719235061377421134074847002088319465029628 g) 1) 1
theorem okf_mem {g:Nat} (h:okf g=true):g ∈ okl:=by
 have e:okN 0 okl=112472844863988983500296858684730202243024193724899397419544395936239344148970826400930089781100157193676408703580709964719235061377421134074847002088319465029628:=by kernel_rfl
 have h2:=Nat.eq_of_beq_eq_true h
 have h3:(okN 0 okl).testBit g=true:=by
  rw [e,Nat.testBit_eq_decide_div_mod_eq,decide_eq_true_eq,←Nat.shiftRight_eq_div_pow,←Nat.and_one_is_mod]
  exact h2
 rcases okN_ok okl 0 g h3 with h | h
 ·rw [Nat.zero_testBit] at h;cases h
 ·exact h
theorem mixed:Tryz.prog.follows .mixedOrders=true:=by kernel_rfl
set_option maxRecDepth 100000 in
theorem goodl:∀ g ∈ okl,∀ args w,(callFunc g args).run Tryz.prog w=.ok (.enter g args) w:=by
 unfold okl
 simp only [List.forall_mem_cons]
 exact ⟨Tryz.call2,Tryz.call3,Tryz.call4,Tryz.call5,Tryz.call6,Tryz.call7,Tryz.call8,Tryz.call9,Tryz.call10,Tryz.call11,Tryz.call12,Tryz.call13,Tryz.call14,Tryz.call15,Tryz.call16,Tryz.call17,Tryz.call18,Tryz.call19,Tryz.call20,Tryz.call21,Tryz.call22,Tryz.call23,Tryz.call24,Tryz.call25,Tryz.call26,Tryz.call27,Tryz.call28,Tryz.call29,Tryz.call30,Tryz.call31,Tryz.call32,Tryz.call33,Tryz.call34,Tryz.call35,Tryz.call36,Tryz.call37,Tryz.call38,Tryz.call39,Tryz.call40,Tryz.call41,Tryz.call42,Tryz.call43,Tryz.call44,Tryz.call45,Tryz.call46,Tryz.call47,Tryz.call48,Tryz.call49,Tryz.call50,Tryz.call51,Tryz.call52,Tryz.call53,Tryz.call54,Tryz.call55,Tryz.call56,Tryz.call57,Tryz.call58,Tryz.call59,Tryz.call60,Tryz.call61,Tryz.call62,Tryz.call63,Tryz.call64,Tryz.call65,Tryz.call66,Tryz.call67,Tryz.call68,Tryz.call69,Tryz.call70,Tryz.call71,Tryz.call72,Tryz.call73,Tryz.call74,Tryz.call75,Tryz.call76,Tryz.call77,Tryz.call78,Tryz.call79,Tryz.call80,Tryz.call81,Tryz.call82,Tryz.call83,Tryz.call84,Tryz.call85,Tryz.call86,Tryz.call87,Tryz.call88,Tryz.call89,Tryz.call90,Tryz.call91,Tryz.call92,Tryz.call93,Tryz.call94,Tryz.call95,Tryz.call96,Tryz.call97,Tryz.call98,Tryz.call99,Tryz.call100,Tryz.call101,Tryz.call102,Tryz.call103,Tryz.call104,Tryz.call105,Tryz.call106,Tryz.call107,Tryz.call108,Tryz.call109,Tryz.call110,Tryz.call111,Tryz.call112,Tryz.call113,Tryz.call114,Tryz.call115,Tryz.call116,Tryz.call117,Tryz.call118,Tryz.call119,Tryz.call120,Tryz.call121,Tryz.call122,Tryz.call123,Tryz.call124,Tryz.call125,Tryz.call126,Tryz.call127,Tryz.call128,Tryz.call129,Tryz.call130,Tryz.call131,Tryz.call132,Tryz.call133,Tryz.call134,Tryz.call135,Tryz.call136,Tryz.call137,Tryz.call138,Tryz.call139,Tryz.call140,Tryz.call141,Tryz.call142,Tryz.call143,Tryz.call144,Tryz.call145,Tryz.call146,Tryz.call147,Tryz.call148,Tryz.call149,Tryz.call150,Tryz.call151,Tryz.call152,Tryz.call153,Tryz.call154,Tryz.call155,Tryz.call156,Tryz.call157,Tryz.call158,Tryz.call159,Tryz.call160,Tryz.call161,Tryz.call162,Tryz.call163,Tryz.call164,Tryz.call165,Tryz.call166,Tryz.call167,Tryz.call168,Tryz.call169,Tryz.call170,Tryz.call171,Tryz.call172,Tryz.call173,Tryz.call174,Tryz.call175,Tryz.call176,Tryz.call177,Tryz.call178,Tryz.call179,Tryz.call180,Tryz.call181,Tryz.call182,Tryz.call183,Tryz.call184,Tryz.call185,Tryz.call186,Tryz.call187,Tryz.call188,Tryz.call189,Tryz.call190,Tryz.call191,Tryz.call192,Tryz.call193,Tryz.call194,Tryz.call195,Tryz.call196,Tryz.call197,Tryz.call198,Tryz.call199,Tryz.call200,Tryz.call201,Tryz.call202,Tryz.call203,Tryz.call204,Tryz.call205,Tryz.call206,Tryz.call207,Tryz.call208,Tryz.call209,Tryz.call210,Tryz.call211,Tryz.call212,Tryz.call213,Tryz.call214,Tryz.call215,Tryz.call216,Tryz.call217,Tryz.call218,Tryz.call219,Tryz.call220,Tryz.call221,Tryz.call222,Tryz.call223,Tryz.call224,Tryz.call225,Tryz.call226,Tryz.call227,Tryz.call228,Tryz.call229,Tryz.call230,Tryz.call231,Tryz.call232,Tryz.call233,Tryz.call234,Tryz.call235,Tryz.call236,Tryz.call237,Tryz.call238,Tryz.call239,Tryz.call240,Tryz.call241,Tryz.call242,Tryz.call243,Tryz.call244,Tryz.call245,Tryz.call246,Tryz.call247,Tryz.call248,Tryz.call249,Tryz.call250,Tryz.call251,Tryz.call252,Tryz.call253,Tryz.call254,Tryz.call255,Tryz.call256,Tryz.call257,Tryz.call258,Tryz.call259,Tryz.call260,Tryz.call261,Tryz.call262,Tryz.call263,Tryz.call264,Tryz.call265,Tryz.call266,Tryz.call267,Tryz.call268,Tryz.call269,Tryz.call270,Tryz.call271,Tryz.call272,Tryz.call273,Tryz.call274,Tryz.call275,Tryz.call276,Tryz.call277,Tryz.call278,Tryz.call279,Tryz.call280,Tryz.call281,Tryz.call282,Tryz.call283,Tryz.call284,Tryz.call285,Tryz.call286,Tryz.call287,Tryz.call288,Tryz.call289,Tryz.call290,Tryz.call291,Tryz.call292,Tryz.call293,Tryz.call294,Tryz.call295,Tryz.call296,Tryz.call297,Tryz.call298,Tryz.call299,Tryz.call300,Tryz.call301,Tryz.call302,Tryz.call303,Tryz.call304,Tryz.call305,Tryz.call306,Tryz.call307,Tryz.call308,Tryz.call309,Tryz.call310,Tryz.call311,Tryz.call312,Tryz.call313,Tryz.call314,Tryz.call315,Tryz.call316,Tryz.call317,Tryz.call318,Tryz.call319,Tryz.call320,Tryz.call321,Tryz.call322,Tryz.call323,Tryz.call324,Tryz.call325,Tryz.call326,Tryz.call327,Tryz.call328,Tryz.call329,Tryz.call330,Tryz.call331,Tryz.call332,Tryz.call333,Tryz.call334,Tryz.call335,Tryz.call336,Tryz.call337,Tryz.call338,Tryz.call339,Tryz.call340,Tryz.call341,Tryz.call342,Tryz.call343,Tryz.call344,Tryz.call345,Tryz.call346,Tryz.call347,Tryz.call348,Tryz.call349,Tryz.call350,Tryz.call351,Tryz.call352,Tryz.call353,Tryz.call354,Tryz.call355,Tryz.call356,Tryz.call357,Tryz.call358,Tryz.call359,Tryz.call360,Tryz.call361,Tryz.call362,Tryz.call363,Tryz.call364,Tryz.call365,Tryz.call366,Tryz.call367,Tryz.call368,Tryz.call369,Tryz.call370,Tryz.call371,Tryz.call372,Tryz.call373,Tryz.call374,Tryz.call375,Tryz.call376,Tryz.call377,Tryz.call378,Tryz.call379,Tryz.call380,Tryz.call381,Tryz.call382,Tryz.call383,Tryz.call384,Tryz.call385,Tryz.call386,Tryz.call387,Tryz.call388,Tryz.call390,Tryz.call391,Tryz.call392,Tryz.call393,Tryz.call394,Tryz.call396,Tryz.call397,Tryz.call398,Tryz.call399,Tryz.call400,Tryz.call401,Tryz.call402,Tryz.call403,Tryz.call404,Tryz.call405,Tryz.call406,Tryz.call407,Tryz.call408,Tryz.call409,Tryz.call410,Tryz.call411,Tryz.call412,Tryz.call413,Tryz.call414,Tryz.call415,Tryz.call416,Tryz.call417,Tryz.call418,Tryz.call419,Tryz.call420,Tryz.call421,Tryz.call422,Tryz.call423,Tryz.call424,Tryz.call425,Tryz.call426,Tryz.call427,Tryz.call428,Tryz.call429,Tryz.call430,Tryz.call431,Tryz.call432,Tryz.call433,Tryz.call434,Tryz.call435,Tryz.call436,Tryz.call437,Tryz.call438,Tryz.call439,Tryz.call440,Tryz.call441,Tryz.call442,Tryz.call443,Tryz.call444,Tryz.call445,Tryz.call446,Tryz.call447,Tryz.call448,Tryz.call449,Tryz.call450,Tryz.call451,Tryz.call453,Tryz.call454,Tryz.call455,Tryz.call456,Tryz.call457,Tryz.call458,Tryz.call459,Tryz.call460,Tryz.call461,Tryz.call462,Tryz.call463,Tryz.call464,Tryz.call465,Tryz.call466,Tryz.call467,Tryz.call468,Tryz.call469,Tryz.call470,Tryz.call471,Tryz.call472,Tryz.call473,Tryz.call474,Tryz.call475,Tryz.call476,Tryz.call477,Tryz.call478,Tryz.call479,Tryz.call480,Tryz.call481,Tryz.call482,Tryz.call483,Tryz.call484,Tryz.call486,Tryz.call487,Tryz.call488,Tryz.call489,Tryz.call490,Tryz.call491,Tryz.call492,Tryz.call493,Tryz.call494,Tryz.call495,Tryz.call496,Tryz.call535,fun g hg=>nomatch hg⟩
theorem good:GoodFns Tryz.prog okf:=by
 intro g hg
 exact goodl g (okf_mem hg)
end Go.Proofs.YtaimlfomodfekaaGreatDoor
